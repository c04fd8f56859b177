/- The reference of lex: signed. -/
import Derived.Test.YtammpndggdniiaaDoorRefE
import Derived.Deep.RegionHeld3
namespace Go.Proofs.YtammpndggdniiaaDoor
open Go.RowKit

def longS : List (List UInt8) := [[61, 61], [33, 61], [60, 61], [62, 61]]
def shortS : List UInt8 := [40, 41, 44, 58, 61, 60, 62, 43, 45, 42, 47, 37]
def signedN (t : List UInt8) : Nat := if cls (t.headD 0).toNat = 5 ∧ (opS t).2 = true then (opS t).1.length else 0
theorem signed_two {t : List UInt8} (h : t.take 2 ∈ longS) : signedN t = 2 := by
  match t with
  | [] => simp [longS] at h
  | [a] => simp [longS] at h
  | a :: b :: r =>
    simp [longS] at h
    have hb : b = 61 := by rcases h with h | h | h | h <;> exact h.2
    subst hb
    have ha : cls a.toNat = 5 ∧ sig4 a = true := by rcases h with ⟨rfl, _⟩ | ⟨rfl, _⟩ | ⟨rfl, _⟩ | ⟨rfl, _⟩ <;> decide
    unfold signedN opS
    rw [if_pos (show ((a :: 61 :: r : List UInt8)[1]? = some 61 ∧ sig4 ((a :: 61 :: r : List UInt8).headD 0) = true) from ⟨rfl, ha.2⟩), if_pos ⟨ha.1, rfl⟩]
    rfl
theorem opS_one {x : UInt8} {r : List UInt8} (h : (x :: r).take 2 ∉ longS) : opS (x :: r) = ([x], x.toNat != 33) := by
  unfold opS
  rw [if_neg]
  · rfl
  · rintro ⟨h1, h2⟩
    apply h
    cases r with
    | nil => simp at h1
    | cons b r =>
      simp at h1; subst h1
      have h2' : sig4 x = true := h2
      simp [sig4] at h2'
      simp [longS]
      have e : ∀ n : UInt8, x.toNat = n.toNat → x = n := fun n h => UInt8.toNat_inj.1 h
      rcases h2' with ((h2 | h2) | h2) | h2
      · exact .inl (e 61 h2)
      · exact .inr (.inl (e 33 h2))
      · exact .inr (.inr (.inl (e 60 h2)))
      · exact .inr (.inr (.inr (e 62 h2)))
theorem signed_one {x : UInt8} {r : List UInt8} (h : (x :: r).take 2 ∉ longS) (hx : x ∈ shortS) : signedN (x :: r) = 1 := by
  unfold signedN
  rw [opS_one h]
  have : cls x.toNat = 5 ∧ (x.toNat != 33) = true := by
    simp [shortS] at hx
    rcases hx with h | h | h | h | h | h | h | h | h | h | h | h <;> (subst h; decide)
  rw [if_pos (show cls ((x :: r).headD 0).toNat = 5 ∧ (([x], x.toNat != 33) : List UInt8 × Bool).snd = true from this)]; rfl
theorem signed_none {x : UInt8} {r : List UInt8} (h : (x :: r).take 2 ∉ longS) (hx : x ∉ shortS) : signedN (x :: r) = 0 := by
  unfold signedN
  rw [opS_one h, if_neg]
  rintro ⟨h1, h2⟩
  have key : ∀ n : Fin 256, cls (UInt8.ofNat n).toNat = 5 → ((UInt8.ofNat n).toNat != 33) = true → UInt8.ofNat n ∈ shortS := by decide +kernel
  have := key ⟨x.toNat, x.toNat_lt⟩
  exact hx (by simpa using this (by simpa using h1) (by simpa using h2))
set_option maxRecDepth 100000 in
set_option maxHeartbeats 8000000 in
theorem rsigned_any (s : List UInt8) (p : Nat) (w : World) (hp : p < s.length) (hs : s.length ≤ 4096) :
    Calls Tryd.prog 34 #[.string ⟨s.toArray⟩, .int .i64 p] w fun e w' => e = .returned (.int .i64 (signedN (s.drop p))) ∧ Below w.heap.size w w' := by
  have hp1 : 0 ≤ (p : Int) := by omega
  have hp2 : (p : Int) < s.length := by omega
  have hs1 : (s.length : Int) ≤ 4096 := by omega
  have K0 := Lib.hid (Blk.new w 9 (strs longS).toArray)
  have B0 := Lib.hid ((Below.refl w.heap.size w).alloc (Nat.le_refl _) (.cells (strs longS).toArray 9))
  obtain ⟨z, hz⟩ : ∃ z, (s.drop p).take 2 = z := ⟨_, rfl⟩
  have HZ := Lib.hid hz
  clear hz
  go_enter Tryd.func34, Tryd.ntmps34
  go_wp2_with fail
  go_loopw [6] (fun i wr => ∃ (j : Nat), i = .int .i64 j ∧ j ≤ 4 ∧ Hid (∀ j', j' < j → z ≠ longS.getD j' []) ∧ Hid (Blk wr w.heap.size 9 (strs longS).toArray) ∧ Hid (Below w.heap.size w wr)) (fun i _ => 4 - (intOf i).toNat)
  case atStart => exact ⟨0, rfl, by omega, Lib.hid (by intro j h; omega), K0, B0⟩
  case round =>
    obtain ⟨j, rfl, hj, HA, K, hB⟩ := hrel
    clear K0 B0
    have hj1 : 0 ≤ (j : Int) := by omega
    by_cases hlt : j < 4
    · have hj2 : (j : Int) < 4 := by omega
      have f1 : wr.cell? ⟨w.heap.size, j, none⟩ = some (.string ⟨(longS.getD j []).toArray⟩) := by
        rw [K.out.cell j]
        match j, hlt with
        | 0, _ | 1, _ | 2, _ | 3, _ => rfl
      have hmem : longS.getD j [] ∈ longS := by
        match j, hlt with
        | 0, _ | 1, _ | 2, _ | 3, _ => decide
      have HNX := fun (h : z ≠ longS.getD j []) => Lib.hid (show ∀ j', j' < j + 1 → z ≠ longS.getD j' [] by
        intro j' h1
        by_cases h2 : j' = j
        · rw [h2]; exact h
        · exact HA.out j' (by omega))
      by_cases h2 : p + 2 ≤ s.length
      · have g2 : (p : Int) + 2 ≤ s.length := by omega
        have X : (⟨s.toArray⟩ : ByteArray).extract p (p + 2) = ⟨z.toArray⟩ := by rw [bx, show p + 2 - p = 2 by omega, HZ.out]
        by_cases he : z = longS.getD j []
        · have HR := Lib.hid (signed_two (t := s.drop p) (by rw [HZ.out, he]; exact hmem))
          rw [he] at X
          clear HNX hmem HA he
          generalize longS.getD j [] = y at *
          go_wp2_with fail
          go_quiet (fail)
          go_wp2_with fail
          go_ret
          exact ⟨by rw [HR.out]; rfl, below_drewN hB.out _⟩
        · have HN2 := HNX he
          have X3 : (z == longS.getD j []) = false := beq_eq_false_iff_ne.2 he
          clear HNX hmem HA he
          generalize longS.getD j [] = y at X3 f1
          go_wp2_with fail
          go_quiet (fail)
          go_wp2_with fail
          go_roundw
          case rel => exact ⟨j + 1, by go_num, by omega, HN2, Lib.hid K.out, Lib.hid (below_drewN hB.out _)⟩
          case measure => simp [intOf]; omega
      · have HN2 := HNX (by
          intro h
          have h3 := congrArg List.length h
          rw [← HZ.out] at h3
          rw [List.length_take, List.length_drop] at h3
          have h4 : (longS.getD j []).length = 2 := by
            match j, hlt with
            | 0, _ | 1, _ | 2, _ | 3, _ => rfl
          omega)
        have g2 : decide ((p : Int) + 2 ≤ s.length) = false := decide_eq_false (by omega)
        clear HNX hmem HA
        go_wp2_with fail
        go_quiet (fail)
        go_wp2_with fail
        go_roundw
        case rel => exact ⟨j + 1, by go_num, by omega, HN2, Lib.hid K.out, Lib.hid (below_drewN hB.out _)⟩
        case measure => simp [intOf]; omega
    · obtain rfl : j = 4 := by omega
      have hno : (s.drop p).take 2 ∉ longS := by
        intro h
        rw [HZ.out] at h
        simp only [longS, List.mem_cons, List.not_mem_nil, or_false] at h
        rcases h with h | h | h | h
        · exact HA.out 0 (by omega) h
        · exact HA.out 1 (by omega) h
        · exact HA.out 2 (by omega) h
        · exact HA.out 3 (by omega) h
      have hd := List.drop_eq_getElem_cons hp
      have hps : p < (⟨s.toArray⟩ : ByteArray).size := by show p < s.toArray.size; simpa using hp
      have HS1 := Lib.hid (fun h : s[p] ∈ shortS => (show signedN (s.drop p) = 1 by rw [hd] at hno ⊢; exact signed_one hno h))
      have HS0 := Lib.hid (fun h : s[p] ∉ shortS => (show signedN (s.drop p) = 0 by rw [hd] at hno ⊢; exact signed_none hno h))
      clear hno hd HA K
      go_wp2_with fail
      revert wr
      intro wo hB
      go_loopw [8] (fun i wr => ∃ (j : Nat), i = .int .i64 j ∧ j ≤ 12 ∧ Hid (∀ j', j' < j → s[p] ≠ shortS.getD j' 0) ∧ Hid (Below w.heap.size w wr)) (fun i _ => 12 - (intOf i).toNat)
      case atStart => exact ⟨0, rfl, by omega, Lib.hid (by intro j h; omega), hB⟩
      case round =>
        obtain ⟨j, rfl, hj, HA, hB⟩ := hrel
        have hj1 : 0 ≤ (j : Int) := by omega
        by_cases hlt : j < 12
        · have hj2 : (j : Int) < 12 := by omega
          have hjs : j < (⟨#[40, 41, 44, 58, 61, 60, 62, 43, 45, 42, 47, 37]⟩ : ByteArray).size := hlt
          have hx : (⟨#[40, 41, 44, 58, 61, 60, 62, 43, 45, 42, 47, 37]⟩ : ByteArray)[j] = shortS.getD j 0 := by
            match j, hlt with
            | 0, _ | 1, _ | 2, _ | 3, _ | 4, _ | 5, _ | 6, _ | 7, _ | 8, _ | 9, _ | 10, _ | 11, _ => rfl
          have hmem : shortS.getD j 0 ∈ shortS := by
            match j, hlt with
            | 0, _ | 1, _ | 2, _ | 3, _ | 4, _ | 5, _ | 6, _ | 7, _ | 8, _ | 9, _ | 10, _ | 11, _ => decide
          by_cases he : s[p] = shortS.getD j 0
          · have HR := Lib.hid (HS1.out (by rw [he]; exact hmem))
            have hv : (((⟨s.toArray⟩ : ByteArray)[p].toNat : Nat) : Int) = (((⟨#[40, 41, 44, 58, 61, 60, 62, 43, 45, 42, 47, 37]⟩ : ByteArray)[j].toNat : Nat) : Int) := by
              rw [hx]; exact congrArg (fun c : UInt8 => ((c.toNat : Nat) : Int)) he
            clear hmem HA he hx
            go_wp2_with fail
            go_quiet (fail)
            go_wp2_with fail
            go_ret
            exact ⟨by rw [HR.out]; rfl, below_drewN hB.out _⟩
          · have hv : ((((⟨s.toArray⟩ : ByteArray)[p].toNat : Nat) : Int) == (((⟨#[40, 41, 44, 58, 61, 60, 62, 43, 45, 42, 47, 37]⟩ : ByteArray)[j].toNat : Nat) : Int)) = false := by
              rw [beq_eq_false_iff_ne, hx]
              intro h
              exact he (UInt8.toNat_inj.1 (by have h2 : s[p].toNat = (shortS.getD j 0).toNat := Int.ofNat.inj h; exact h2))
            have HN2 := Lib.hid (show ∀ j', j' < j + 1 → s[p] ≠ shortS.getD j' 0 by
              intro j' h1
              by_cases h2 : j' = j
              · rw [h2]; exact he
              · exact HA.out j' (by omega))
            clear hmem HA he hx
            go_wp2_with fail
            go_quiet (fail)
            go_wp2_with fail
            go_roundw
            case rel => exact ⟨j + 1, by go_num, by omega, HN2, Lib.hid (below_drewN hB.out _)⟩
            case measure => simp [intOf]; omega
        · obtain rfl : j = 12 := by omega
          have HR := Lib.hid (HS0.out (by
            intro h
            obtain ⟨j', h1, h2⟩ := List.getElem_of_mem h
            exact HA.out j' h1 (by rw [List.getD_eq_getElem?_getD, List.getElem?_eq_getElem h1]; exact h2.symm)))
          go_wp2_with fail
          go_ret
          exact ⟨by rw [HR.out]; rfl, hB.out⟩
end Go.Proofs.YtammpndggdniiaaDoor
