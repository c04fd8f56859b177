/- Package ident: Name. -/
import Derived.Test.YtllmgogcemannaaGreatDoorLib
import Derived.Laws.RangeAny
import Derived.LoopTactic
namespace Go.Proofs.YtllmgogcemannaaGreatDoor
open Go.RowKit

def isLet (c : UInt8) : Bool := decide (97 ≤ c.toNat) && decide (c.toNat ≤ 122)
def isNm (c : UInt8) : Bool := isLet c || (decide (48 ≤ c.toNat) && decide (c.toNat ≤ 57)) || decide (c.toNat = 95)
def nameP : List UInt8 → Bool
  | [] => true
  | c :: l => isLet c && l.all isNm
def nameS (s : List UInt8) : Bool := !s.isEmpty && decide (s.length ≤ 24) && nameP s
theorem nameP_take {s : List UInt8} (h : nameP s = true) (n : Nat) : nameP (s.take n) = true := by
  match s, n with
  | [], _ => simpa using h
  | c :: l, 0 => rfl
  | c :: l, n + 1 =>
    simp only [nameP, Bool.and_eq_true, List.take_succ_cons, List.all_eq_true] at h ⊢
    exact ⟨h.1, fun x hx => h.2 x (List.mem_of_mem_take hx)⟩
theorem nameP_step {s : List UInt8} {k : Nat} (h : k < s.length) (hp : nameP (s.take k) = true) (hc : (if k = 0 then isLet s[k] else isNm s[k]) = true) : nameP (s.take (k + 1)) = true := by
  rw [List.take_succ_eq_append_getElem h]
  match s, k with
  | c :: l, 0 => simpa [nameP] using hc
  | c :: l, k + 1 =>
    simp only [List.take_succ_cons, List.cons_append, nameP, Bool.and_eq_true, List.all_append, List.all_cons, List.all_nil, Bool.and_true] at hp ⊢
    exact ⟨hp.1, hp.2, by simpa using hc⟩
theorem nameS_bad {s : List UInt8} {k : Nat} (h : k < s.length) (hc : (if k = 0 then isLet s[k] else isNm s[k]) = false) : nameS s = false := by
  rw [← Bool.not_eq_true]
  intro hn
  have hp : nameP s = true := by simp only [nameS, Bool.and_eq_true] at hn; exact hn.2
  match s, k with
  | c :: l, 0 =>
    simp only [nameP, Bool.and_eq_true] at hp
    have h1 : isLet c = false := by simpa using hc
    rw [h1] at hp; exact absurd hp.1 (by decide)
  | c :: l, k + 1 =>
    simp only [nameP, Bool.and_eq_true, List.all_eq_true] at hp
    have hk : k < l.length := by simpa using h
    have h1 : isNm l[k] = false := by simpa using hc
    have h2 := hp.2 l[k] (List.getElem_mem hk)
    rw [h1] at h2; cases h2
theorem nm_high {c : UInt8} (h : 128 ≤ c.toNat) : isLet c = false ∧ isNm c = false := by
  unfold isNm isLet
  refine ⟨?_, ?_⟩ <;> simp <;> omega
theorem cls (r : Nat) : (97 ≤ r ∧ r ≤ 122) ∨ (48 ≤ r ∧ r ≤ 57) ∨ r = 95 ∨ r < 48 ∨ (57 < r ∧ r < 95) ∨ r = 96 ∨ 122 < r := by omega
theorem iter_below (w : World) (S : ByteArray) (k : Nat) : Below w.heap.size w (w.iter S k) := (Below.refl w.heap.size w).alloc (Nat.le_refl _) _
set_option maxRecDepth 100000 in
set_option maxHeartbeats 4000000 in
theorem name_any (s : List UInt8) (w : World) (hs : s.length ≤ 1000000) :
    Calls Tryz.prog 11 #[.string ⟨s.toArray⟩] w fun e w' => e = .returned (.bool (nameS s)) ∧ Below w.heap.size w w' := by
  have hI0 := Lib.hid (iter_below w ⟨s.toArray⟩)
  go_enter Tryz.func11, Tryz.ntmps11
  go_wp2_with fail
  go_loopw [9] (fun _ wr => ∃ (k : Nat), wr = w.iter ⟨s.toArray⟩ k ∧ k ≤ s.length ∧ Hid (nameP (s.take k) = true)) (fun _ wr => s.length - wr.iterPos w.heap.size)
  case atStart => exact ⟨0, rfl, by omega, Lib.hid rfl⟩
  case round =>
    obtain ⟨k, rfl, hk, HP⟩ := hrel
    have hss : (⟨s.toArray⟩ : ByteArray).size = s.length := by show s.toArray.size = _; simp
    by_cases hlt : k < s.length
    · have hltS : k < (⟨s.toArray⟩ : ByteArray).size := by rw [hss]; exact hlt
      have hget : (⟨s.toArray⟩ : ByteArray)[k]'hltS = s[k] := rfl
      have key : ∃ r p : Nat, (∀ ty, (Instr.next (.pointer (some ⟨w.heap.size, 0, none⟩)) true ty).run Tryz.prog (w.iter ⟨s.toArray⟩ k) = .ok (.tuple #[.bool true, .int .i64 k, .int .i32 r]) (w.iter ⟨s.toArray⟩ p)) ∧ ((r = s[k].toNat ∧ p = k + 1) ∨ (128 ≤ r ∧ 128 ≤ s[k].toNat)) := by
        by_cases ha : s[k].toNat < 128
        · exact ⟨_, _, fun ty => run_next_ascii w _ k ty hltS ha, .inl ⟨rfl, rfl⟩⟩
        · exact ⟨_, _, fun ty => run_next_any w _ k ty hltS, .inr ⟨(decode_high _ k hltS (by rw [hget]; omega)).1, by omega⟩⟩
      obtain ⟨r, p, hnx, hrp⟩ := key
      have HRP := Lib.hid hrp
      have HC := Lib.hid (nameP_step (s := s) (k := k) hlt)
      have HB := Lib.hid (nameS_bad (s := s) (k := k) hlt)
      clear hrp hget hss
      rcases cls r with h | h | h | h | h | h | h
      · have HG := Lib.hid (show (if k = 0 then isLet s[k] else isNm s[k]) = true from by
          have hr : s[k].toNat = r := by rcases HRP.out with ⟨h1, h2⟩ | ⟨h1, h2⟩ <;> omega
          have hl : isLet s[k] = true := by unfold isLet; rw [hr]; simp; omega
          split
          · exact hl
          · unfold isNm; rw [hl]; rfl)
        obtain rfl : p = k + 1 := by rcases HRP.out with ⟨h1, h2⟩ | ⟨h1, h2⟩ <;> omega
        clear HRP HB
        have b1 : (97 : Int) ≤ r := by omega
        have b2 : (r : Int) ≤ 122 := by omega
        have b3 : (48 : Int) ≤ r := by omega
        have b4 : ¬ (r : Int) ≤ 57 := by omega
        have b5 : ((r : Int) == 95) = false := by rw [beq_eq_false_iff_ne]; omega
        clear h
        go_wp2_with fail
        go_roundw
        case rel => exact ⟨k + 1, rfl, by omega, Lib.hid (HC.out HP.out HG.out)⟩
        case measure => rw [World.iterPos_iter, World.iterPos_iter]; omega
      · have hr : s[k].toNat = r := by rcases HRP.out with ⟨h1, h2⟩ | ⟨h1, h2⟩ <;> omega
        obtain rfl : p = k + 1 := by rcases HRP.out with ⟨h1, h2⟩ | ⟨h1, h2⟩ <;> omega
        have hl : isLet s[k] = false := by unfold isLet; rw [hr]; simp; omega
        have hm : isNm s[k] = true := by unfold isNm; rw [hl, hr]; simp; omega
        have HL := Lib.hid hl
        have HM := Lib.hid hm
        clear HRP hl hm hr
        have b1 : ¬ (97 : Int) ≤ r := by omega
        have b2 : (48 : Int) ≤ r := by omega
        have b3 : (r : Int) ≤ 57 := by omega
        have b4 : ((r : Int) == 95) = false := by rw [beq_eq_false_iff_ne]; omega
        clear h
        by_cases hk0 : k = 0
        · have HG := Lib.hid (show (if k = 0 then isLet s[k] else isNm s[k]) = false from by rw [if_pos hk0]; exact HL.out)
          have hk1 : (k : Int) = 0 := by omega
          have hbf := HB.out HG.out
          have HBF := Lib.hid hbf
          clear HC HB HG HL HM hbf hk0
          go_wp2_with fail
          go_ret
          exact ⟨by rw [HBF.out]; rfl, hI0.out _⟩
        · have HG := Lib.hid (show (if k = 0 then isLet s[k] else isNm s[k]) = true from by rw [if_neg hk0]; exact HM.out)
          have hk1 : ¬ (k : Int) = 0 := by omega
          clear hk0 HB HL HM
          go_wp2_with fail
          go_roundw
          case rel => exact ⟨k + 1, rfl, by omega, Lib.hid (HC.out HP.out HG.out)⟩
          case measure => rw [World.iterPos_iter, World.iterPos_iter]; omega
      · have hr : s[k].toNat = r := by rcases HRP.out with ⟨h1, h2⟩ | ⟨h1, h2⟩ <;> omega
        obtain rfl : p = k + 1 := by rcases HRP.out with ⟨h1, h2⟩ | ⟨h1, h2⟩ <;> omega
        have hl : isLet s[k] = false := by unfold isLet; rw [hr]; simp; omega
        have hm : isNm s[k] = true := by unfold isNm; rw [hl, hr]; simp; omega
        have HL := Lib.hid hl
        have HM := Lib.hid hm
        clear HRP hl hm hr
        have b1 : ¬ (97 : Int) ≤ r := by omega
        have b2 : (48 : Int) ≤ r := by omega
        have b3 : ¬ (r : Int) ≤ 57 := by omega
        have b5 : (r : Int) = 95 := by omega
        clear h
        by_cases hk0 : k = 0
        · have HG := Lib.hid (show (if k = 0 then isLet s[k] else isNm s[k]) = false from by rw [if_pos hk0]; exact HL.out)
          have hk1 : (k : Int) = 0 := by omega
          have hbf := HB.out HG.out
          have HBF := Lib.hid hbf
          clear HC HB HG HL HM hbf hk0
          go_wp2_with fail
          go_ret
          exact ⟨by rw [HBF.out]; rfl, hI0.out _⟩
        · have HG := Lib.hid (show (if k = 0 then isLet s[k] else isNm s[k]) = true from by rw [if_neg hk0]; exact HM.out)
          have hk1 : ¬ (k : Int) = 0 := by omega
          clear hk0 HB HL HM
          go_wp2_with fail
          go_roundw
          case rel => exact ⟨k + 1, rfl, by omega, Lib.hid (HC.out HP.out HG.out)⟩
          case measure => rw [World.iterPos_iter, World.iterPos_iter]; omega
      · have HG := Lib.hid (show (if k = 0 then isLet s[k] else isNm s[k]) = false from by
          have hl : isLet s[k] = false ∧ isNm s[k] = false := by
            rcases HRP.out with ⟨h1, h2⟩ | ⟨h1, h2⟩
            · unfold isNm isLet; rw [← h1]; refine ⟨?_, ?_⟩ <;> simp <;> omega
            · exact nm_high h2
          split
          · exact hl.1
          · exact hl.2)
        have HBF := Lib.hid (HB.out HG.out)
        have b1 : ¬ (97 : Int) ≤ r := by omega
        have b2 : ¬ (48 : Int) ≤ r := by omega
        have b3 : ((r : Int) == 95) = false := by rw [beq_eq_false_iff_ne]; omega
        clear h HRP HB HC HG
        by_cases hk0 : (k : Int) = 0
        · go_wp2_with fail
          go_ret
          exact ⟨by rw [HBF.out]; rfl, hI0.out _⟩
        · go_wp2_with fail
          go_ret
          exact ⟨by rw [HBF.out]; rfl, hI0.out _⟩
      · have HG := Lib.hid (show (if k = 0 then isLet s[k] else isNm s[k]) = false from by
          have hl : isLet s[k] = false ∧ isNm s[k] = false := by
            rcases HRP.out with ⟨h1, h2⟩ | ⟨h1, h2⟩
            · unfold isNm isLet; rw [← h1]; refine ⟨?_, ?_⟩ <;> simp <;> omega
            · exact nm_high h2
          split
          · exact hl.1
          · exact hl.2)
        have HBF := Lib.hid (HB.out HG.out)
        have b1 : ¬ (97 : Int) ≤ r := by omega
        have b2 : (48 : Int) ≤ r := by omega
        have b3 : ¬ (r : Int) ≤ 57 := by omega
        have b4 : ((r : Int) == 95) = false := by rw [beq_eq_false_iff_ne]; omega
        clear h HRP HB HC HG
        by_cases hk0 : (k : Int) = 0
        · go_wp2_with fail
          go_ret
          exact ⟨by rw [HBF.out]; rfl, hI0.out _⟩
        · go_wp2_with fail
          go_ret
          exact ⟨by rw [HBF.out]; rfl, hI0.out _⟩
      · have HG := Lib.hid (show (if k = 0 then isLet s[k] else isNm s[k]) = false from by
          have hl : isLet s[k] = false ∧ isNm s[k] = false := by
            rcases HRP.out with ⟨h1, h2⟩ | ⟨h1, h2⟩
            · unfold isNm isLet; rw [← h1]; refine ⟨?_, ?_⟩ <;> simp <;> omega
            · exact nm_high h2
          split
          · exact hl.1
          · exact hl.2)
        have HBF := Lib.hid (HB.out HG.out)
        have b1 : ¬ (97 : Int) ≤ r := by omega
        have b2 : (48 : Int) ≤ r := by omega
        have b3 : ¬ (r : Int) ≤ 57 := by omega
        have b4 : ((r : Int) == 95) = false := by rw [beq_eq_false_iff_ne]; omega
        clear h HRP HB HC HG
        by_cases hk0 : (k : Int) = 0
        · go_wp2_with fail
          go_ret
          exact ⟨by rw [HBF.out]; rfl, hI0.out _⟩
        · go_wp2_with fail
          go_ret
          exact ⟨by rw [HBF.out]; rfl, hI0.out _⟩
      · have HG := Lib.hid (show (if k = 0 then isLet s[k] else isNm s[k]) = false from by
          have hl : isLet s[k] = false ∧ isNm s[k] = false := by
            rcases HRP.out with ⟨h1, h2⟩ | ⟨h1, h2⟩
            · unfold isNm isLet; rw [← h1]; refine ⟨?_, ?_⟩ <;> simp <;> omega
            · exact nm_high h2
          split
          · exact hl.1
          · exact hl.2)
        have HBF := Lib.hid (HB.out HG.out)
        have b1 : (97 : Int) ≤ r := by omega
        have b2 : ¬ (r : Int) ≤ 122 := by omega
        have b3 : (48 : Int) ≤ r := by omega
        have b4 : ¬ (r : Int) ≤ 57 := by omega
        have b5 : ((r : Int) == 95) = false := by rw [beq_eq_false_iff_ne]; omega
        clear h HRP HB HC HG
        by_cases hk0 : (k : Int) = 0
        · go_wp2_with fail
          go_ret
          exact ⟨by rw [HBF.out]; rfl, hI0.out _⟩
        · go_wp2_with fail
          go_ret
          exact ⟨by rw [HBF.out]; rfl, hI0.out _⟩
    · have hkl : k = s.length := by omega
      have hend : ∀ ty, (Instr.next (.pointer (some ⟨w.heap.size, 0, none⟩)) true ty).run Tryz.prog (w.iter ⟨s.toArray⟩ k) = .ok (.tuple #[.bool false]) (w.iter ⟨s.toArray⟩ k) := fun ty => run_next_end w _ k ty (by rw [hss]; omega)
      have hP : nameP s = true := by have := HP.out; rwa [hkl, List.take_length] at this
      have HN : Hid (nameS s = (!s.isEmpty && decide (s.length ≤ 24))) := Lib.hid (by unfold nameS; rw [hP, Bool.and_true])
      clear hP HP hkl
      by_cases hnil : s = []
      · have hne : (s == []) = true := by rw [hnil]; rfl
        have HV := Lib.hid (show nameS s = false by rw [hnil]; rfl)
        clear hnil HN
        go_wp2_with fail
        go_ret
        exact ⟨by rw [HV.out]; rfl, hI0.out _⟩
      · have hne : (s == []) = false := by rw [beq_eq_false_iff_ne]; exact hnil
        have hemp : s.isEmpty = false := by cases s with | nil => exact absurd rfl hnil | cons c l => rfl
        by_cases h24 : s.length ≤ 24
        · have h24' : (s.length : Int) ≤ 24 := by omega
          have HV := Lib.hid (show nameS s = true by rw [HN.out, decide_eq_true h24, hemp]; rfl)
          clear h24 hnil hemp HN
          go_wp2_with fail
          go_ret
          exact ⟨by rw [HV.out]; rfl, hI0.out _⟩
        · have h24' : ¬ (s.length : Int) ≤ 24 := by omega
          have HV := Lib.hid (show nameS s = false by rw [HN.out, decide_eq_false h24, hemp]; rfl)
          clear h24 hnil hemp HN
          go_wp2_with fail
          go_ret
          exact ⟨by rw [HV.out]; rfl, hI0.out _⟩
end Go.Proofs.YtllmgogcemannaaGreatDoor
