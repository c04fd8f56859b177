/- Package lex: the scanner's word, text, op. -/
import Derived.Test.YtammpndggdniiaaDoorLexA
import Derived.BigQuiet
namespace Go.Proofs.YtammpndggdniiaaDoor
open Go.RowKit

noncomputable def scC (s : List UInt8) (at_ : Nat) : Array Value := tabK 5 ++ #[.string ⟨s.toArray⟩, .int .i64 at_]
def Sc (w : World) (b : Nat) (s : List UInt8) (at_ : Nat) : Prop := Blk w b 41 (scC s at_)
theorem Sc.cls {w : World} {b : Nat} {s : List UInt8} {at_ : Nat} (h : Sc w b s at_) {j : Nat} (hj : j < 256) : w.cell? ⟨b, j, none⟩ = some (.int .u8 (cls j)) := by
  rw [Blk.cell h, scC, Array.getElem?_append_left (by rw [tabK_size]; exact hj)]
  exact tab_at hj
theorem Sc.s {w : World} {b : Nat} {s : List UInt8} {at_ : Nat} (h : Sc w b s at_) : w.cell? ⟨b, 256, none⟩ = some (.string ⟨s.toArray⟩) := by
  rw [Blk.cell h, scC, Array.getElem?_append_right (by rw [tabK_size]; omega), tabK_size]; rfl
theorem Sc.a {w : World} {b : Nat} {s : List UInt8} {at_ : Nat} (h : Sc w b s at_) : w.cell? ⟨b, 257, none⟩ = some (.int .i64 at_) := by
  rw [Blk.cell h, scC, Array.getElem?_append_right (by rw [tabK_size]; omega), tabK_size]; rfl
theorem Sc.move {w : World} {b : Nat} {s : List UInt8} {at_ : Nat} (h : Sc w b s at_) (n : Nat) : Sc (w.setCell ⟨b, 257, none⟩ (.int .i64 n)) b s n := by
  have h2 := Blk.set_ h 257 (.int .i64 n)
  have e : (scC s at_).setIfInBounds 257 (.int .i64 n) = scC s n := by
    unfold scC
    rw [Array.setIfInBounds_append_right (by rw [tabK_size]; omega), tabK_size]; rfl
  rw [e] at h2; exact h2
def isW (b : UInt8) : Bool := b.toNat == 95 || cls b.toNat == 2 || cls b.toNat == 3
theorem tw_eq {α : Type} {p : α → Bool} : ∀ {l : List α} {n : Nat}, (l.take n).all p = true → (∀ x, l[n]? = some x → p x = false) → l.takeWhile p = l.take n
  | [], _, _, _ => by simp
  | x :: l, 0, _, h2 => by simp [h2 x rfl]
  | x :: l, n + 1, h1, h2 => by
    simp only [List.take_succ_cons, List.all_cons, Bool.and_eq_true] at h1
    rw [List.takeWhile_cons, if_pos h1.1, List.take_succ_cons, tw_eq h1.2 (fun y hy => h2 y (by simpa using hy))]

set_option maxRecDepth 100000 in
set_option maxHeartbeats 8000000 in
theorem word_any (b : Nat) (s : List UInt8) (p : Nat) (w : World) (h : Sc w b s p) (hp : p ≤ s.length) (hs : s.length ≤ 4096) :
    Calls Tryd.prog 25 #[.pointer (some ⟨b, 0, none⟩)] w fun e w' => e = .returned (.string ⟨((s.drop p).takeWhile isW).toArray⟩) ∧ Below w.heap.size w w' := by
  have HS := Lib.hid h
  have c0 := h.s
  have c1 := h.a
  clear h
  go_enter Tryd.func25, Tryd.ntmps25
  go_wp2_with fail
  go_loopw [3] (fun i wr => ∃ (k : Nat), i = .int .i64 k ∧ p ≤ k ∧ k ≤ s.length ∧ Hid (((s.drop p).take (k - p)).all isW = true) ∧ Hid (Sc wr b s p) ∧ Hid (Below w.heap.size w wr)) (fun i _ => s.length - (intOf i).toNat)
  case atStart => exact ⟨p, rfl, Nat.le_refl _, hp, Lib.hid (by simp), HS, Lib.hid (Below.refl _ _)⟩
  case round =>
    obtain ⟨k, rfl, hk0, hk, HA, HS1, hB⟩ := hrel
    have d0 := HS1.out.s
    have d1 := HS1.out.a
    by_cases hlt : k < s.length
    · have hks : k < (⟨s.toArray⟩ : ByteArray).size := by show k < s.toArray.size; simpa using hlt
      have hk1 : 0 ≤ (k : Int) := by omega
      have hk2 : (k : Int) < s.length := by omega
      have hb0 : 0 ≤ (((⟨s.toArray⟩ : ByteArray)[k].toNat : Nat) : Int) := by omega
      have hbn : (⟨s.toArray⟩ : ByteArray)[k].toNat < 256 := (⟨s.toArray⟩ : ByteArray)[k].toNat_lt
      have hbm : (((⟨s.toArray⟩ : ByteArray)[k].toNat : Nat) : Int) < 256 := by omega
      have d2 := HS1.out.cls hbn
      obtain ⟨c, hc⟩ : ∃ c, cls (⟨s.toArray⟩ : ByteArray)[k].toNat = c := ⟨_, rfl⟩
      rw [hc] at d2
      have HC := Lib.hid hc
      clear hc
      have HK := fun (hw : isW (⟨s.toArray⟩ : ByteArray)[k] = true) => Lib.hid (show ((s.drop p).take (k + 1 - p)).all isW = true by
        rw [show k + 1 - p = (k - p) + 1 by omega, List.take_succ_eq_append_getElem (by simp; omega), List.all_append, HA.out]
        simp only [List.getElem_drop, show p + (k - p) = k by omega, List.all_cons, List.all_nil, Bool.and_true, Bool.true_and]
        exact hw)
      by_cases h1 : (⟨s.toArray⟩ : ByteArray)[k].toNat = 95
      · have g1 : (((⟨s.toArray⟩ : ByteArray)[k].toNat : Nat) : Int) = 95 := by omega
        have HK1 := HK (by simp [isW, h1])
        clear HK
        go_wp2_with fail
        go_quiet (fail)
        go_wp2_with fail
        go_roundw
        case rel => exact ⟨k + 1, by go_num, by omega, by omega, HK1, Lib.hid HS1.out, Lib.hid (below_drewN hB.out _)⟩
        case measure => simp [intOf]; omega
      · have g1 : ((((⟨s.toArray⟩ : ByteArray)[k].toNat : Nat) : Int) == 95) = false := by rw [beq_eq_false_iff_ne]; omega
        by_cases h2 : c = 2
        · have g2 : (c : Int) = 2 := by omega
          have HK1 := HK (by have hc := HC.out; rw [h2] at hc; simp [isW, hc])
          clear HK
          go_wp2_with fail
          go_quiet (fail)
          go_wp2_with fail
          go_roundw
          case rel => exact ⟨k + 1, by go_num, by omega, by omega, HK1, Lib.hid HS1.out, Lib.hid (below_drewN hB.out _)⟩
          case measure => simp [intOf]; omega
        · have g2 : ((c : Int) == 2) = false := by rw [beq_eq_false_iff_ne]; omega
          by_cases h3 : c = 3
          · have g3 : (c : Int) = 3 := by omega
            have HK1 := HK (by have hc := HC.out; rw [h3] at hc; simp [isW, hc])
            clear HK
            go_wp2_with fail
            go_quiet (fail)
            go_wp2_with fail
            go_roundw
            case rel => exact ⟨k + 1, by go_num, by omega, by omega, HK1, Lib.hid HS1.out, Lib.hid (below_drewN hB.out _)⟩
            case measure => simp [intOf]; omega
          · have g3 : ((c : Int) == 3) = false := by rw [beq_eq_false_iff_ne]; omega
            have HF := Lib.hid (show (s.drop p).takeWhile isW = (s.drop p).take (k - p) from tw_eq HA.out (by
              intro x hx
              rw [List.getElem?_drop, show p + (k - p) = k by omega, List.getElem?_eq_getElem hlt] at hx
              injection hx with hx
              subst hx
              have e : (⟨s.toArray⟩ : ByteArray)[k] = s[k] := rfl
              have hc := HC.out
              rw [e] at h1 hc
              simp [isW, h1, hc, h2, h3]))
            clear HK
            go_wp2_with fail
            go_quiet (fail)
            go_wp2_with fail
            go_quiet (fail)
            go_wp2_with fail
            go_ret
            rw [HF.out]
            exact ⟨by rw [bx]; rfl, below_drewN (below_drewN hB.out _) _⟩
    · have hke : k = s.length := by omega
      have HF := Lib.hid (show (s.drop p).takeWhile isW = (s.drop p).take (k - p) from tw_eq HA.out (by
        intro x hx
        rw [List.getElem?_eq_none (by simp; omega)] at hx
        cases hx))
      have hk1 : 0 ≤ (k : Int) := by omega
      have hk2 : decide ((k : Int) < s.length) = false := decide_eq_false (by omega)
      go_wp2_with fail
      go_quiet (fail)
      go_wp2_with fail
      go_quiet (fail)
      go_wp2_with fail
      go_ret
      rw [HF.out, hke]
      exact ⟨by rw [bx]; rfl, below_drewN (below_drewN hB.out _) _⟩

/-- Where a string token ends. -/
def stopQ (c : UInt8) : Bool := c.toNat == 34 || c.toNat < 32 || 126 < c.toNat || c.toNat == 92
def textS (t : List UInt8) : List UInt8 × Bool :=
  let k := ((t.drop 1).takeWhile fun c => !stopQ c).length
  if (t.drop 1)[k]? = some 34 then (t.take (k + 2), decide (k ≤ 24)) else ([], false)
theorem textS_at {t : List UInt8} {n : Nat} {c : UInt8} (h1 : ((t.drop 1).take n).all (fun c => !stopQ c) = true) (h2 : (t.drop 1)[n]? = some c) (h3 : stopQ c = true) :
    textS t = if c = 34 then (t.take (n + 2), decide (n ≤ 24)) else ([], false) := by
  have hn : n < (t.drop 1).length := (List.getElem?_eq_some_iff.1 h2).1
  have e : ((t.drop 1).takeWhile fun c => !stopQ c).length = n := by
    rw [tw_eq h1 (fun x hx => by rw [h2] at hx; injection hx with hx; subst hx; simp [h3]), List.length_take]; omega
  unfold textS
  simp only [e, h2, Option.some.injEq]
theorem textS_end {t : List UInt8} (h1 : ((t.drop 1).take ((t.drop 1).length)).all (fun c => !stopQ c) = true) : textS t = ([], false) := by
  have e : ((t.drop 1).takeWhile fun c => !stopQ c).length = (t.drop 1).length := by
    rw [tw_eq h1 (fun x hx => by rw [List.getElem?_eq_none (Nat.le_refl _)] at hx; cases hx), List.length_take]; omega
  unfold textS
  simp only [e]
  rw [List.getElem?_eq_none (Nat.le_refl _)]; rfl
theorem drop1 (s : List UInt8) (p : Nat) : (s.drop p).drop 1 = s.drop (p + 1) := by rw [List.drop_drop]
set_option maxRecDepth 100000 in
set_option maxHeartbeats 8000000 in
theorem text_any (b : Nat) (s : List UInt8) (p : Nat) (w : World) (h : Sc w b s p) (hp : p < s.length) (hs : s.length ≤ 4096) :
    Calls Tryd.prog 27 #[.pointer (some ⟨b, 0, none⟩)] w fun e w' => e = .returned (.tuple #[.string ⟨(textS (s.drop p)).1.toArray⟩, .bool (textS (s.drop p)).2]) ∧ Below w.heap.size w w' := by
  have HS := Lib.hid h
  have c0 := h.s
  have c1 := h.a
  clear h
  go_enter Tryd.func27, Tryd.ntmps27
  go_wp2_with fail
  go_loopw [4] (fun i wr => ∃ (k : Nat), i = .int .i64 k ∧ p + 1 ≤ k ∧ k ≤ s.length ∧ Hid (((s.drop (p + 1)).take (k - (p + 1))).all (fun c => !stopQ c) = true) ∧ Hid (Sc wr b s p) ∧ Hid (Below w.heap.size w wr)) (fun i _ => s.length - (intOf i).toNat)
  case atStart => exact ⟨p + 1, by go_num, Nat.le_refl _, hp, Lib.hid (by simp), HS, Lib.hid (Below.refl _ _)⟩
  case round =>
    obtain ⟨k, rfl, hk0, hk, HA, HS1, hB⟩ := hrel
    have d0 := HS1.out.s
    have d1 := HS1.out.a
    by_cases hlt : k < s.length
    · have hks : k < (⟨s.toArray⟩ : ByteArray).size := by show k < s.toArray.size; simpa using hlt
      have hk1 : 0 ≤ (k : Int) := by omega
      have hk2 : (k : Int) < s.length := by omega
      have hbn : (⟨s.toArray⟩ : ByteArray)[k].toNat < 256 := (⟨s.toArray⟩ : ByteArray)[k].toNat_lt
      have hbm : (((⟨s.toArray⟩ : ByteArray)[k].toNat : Nat) : Int) < 256 := by omega
      have HQ := Lib.hid (show (s.drop (p + 1))[k - (p + 1)]? = some (⟨s.toArray⟩ : ByteArray)[k] by
        rw [List.getElem?_drop, show p + 1 + (k - (p + 1)) = k by omega, List.getElem?_eq_getElem hlt]; rfl)
      have hne : ¬ (⟨s.toArray⟩ : ByteArray)[k].toNat = 34 → ¬ (⟨s.toArray⟩ : ByteArray)[k] = 34 := fun h e => h (by rw [e]; rfl)
      have HX := Lib.hid (show ∀ h : stopQ (⟨s.toArray⟩ : ByteArray)[k] = true, textS (s.drop p) = if (⟨s.toArray⟩ : ByteArray)[k] = 34 then ((s.drop p).take (k - (p + 1) + 2), decide (k - (p + 1) ≤ 24)) else ([], false) from
        fun h => textS_at (by rw [drop1]; exact HA.out) (by rw [drop1]; exact HQ.out) h)
      have HY := Lib.hid (show stopQ (⟨s.toArray⟩ : ByteArray)[k] = false → ((s.drop (p + 1)).take (k + 1 - (p + 1))).all (fun c => !stopQ c) = true from fun hw => by
        rw [show k + 1 - (p + 1) = (k - (p + 1)) + 1 by omega, List.take_succ_eq_append_getElem (by simp; omega), List.all_append, HA.out]
        simp only [List.getElem_drop, show p + 1 + (k - (p + 1)) = k by omega, List.all_cons, List.all_nil, Bool.and_true, Bool.true_and]
        have hw' : stopQ s[k] = false := hw
        rw [hw']; rfl)
      clear HQ
      by_cases h1 : (⟨s.toArray⟩ : ByteArray)[k].toNat = 34
      · have HT := Lib.hid (show textS (s.drop p) = ((s.drop p).take (k + 1 - p), decide (k - (p + 1) ≤ 24)) by
          have h3 : (⟨s.toArray⟩ : ByteArray)[k] = 34 := by apply UInt8.toNat_inj.1; rw [h1]; rfl
          rw [HX.out (by simp [stopQ, h1]), if_pos h3, show k - (p + 1) + 2 = k + 1 - p by omega])
        have g1 : ((((⟨s.toArray⟩ : ByteArray)[k].toNat : Nat) : Int) == 34) = true := by rw [beq_iff_eq]; omega
        clear hne HX HY
        go_wp2_with fail
        go_quiet (fail)
        go_wp2_with fail
        go_ret2
        rw [HT.out]
        have hd : decide ((k : Int) - (p : Int) - 1 ≤ 24) = decide (k - (p + 1) ≤ 24) := by rw [decide_eq_decide]; omega
        refine ⟨?_, below_drewN hB.out _⟩
        show Ending.returned (.tuple #[.string ((⟨s.toArray⟩ : ByteArray).extract p (k + 1)), .bool (decide ((k : Int) - (p : Int) - 1 ≤ 24))]) = _
        rw [bx, hd]
      · have g1 : ((((⟨s.toArray⟩ : ByteArray)[k].toNat : Nat) : Int) == 34) = false := by rw [beq_eq_false_iff_ne]; omega
        by_cases h2 : (⟨s.toArray⟩ : ByteArray)[k].toNat < 32
        · have g2 : decide ((((⟨s.toArray⟩ : ByteArray)[k].toNat : Nat) : Int) < 32) = true := decide_eq_true (by omega)
          have g2' : (((⟨s.toArray⟩ : ByteArray)[k].toNat : Nat) : Int) < 32 := by omega
          have HT := Lib.hid (show textS (s.drop p) = ([], false) by rw [HX.out (by simp [stopQ, h2]), if_neg (hne h1)])
          clear hne HX HY
          go_wp2_with fail
          go_ret2
          rw [HT.out]
          exact ⟨rfl, hB.out⟩
        · have g2 : decide ((((⟨s.toArray⟩ : ByteArray)[k].toNat : Nat) : Int) < 32) = false := decide_eq_false (by omega)
          by_cases h3 : 126 < (⟨s.toArray⟩ : ByteArray)[k].toNat
          · have g3 : decide ((126 : Int) < (((⟨s.toArray⟩ : ByteArray)[k].toNat : Nat) : Int)) = true := decide_eq_true (by omega)
            have g3' : (126 : Int) < (((⟨s.toArray⟩ : ByteArray)[k].toNat : Nat) : Int) := by omega
            have HT := Lib.hid (show textS (s.drop p) = ([], false) by rw [HX.out (by simp [stopQ, h3]), if_neg (hne h1)])
            clear hne HX HY
            go_wp2_with fail
            go_ret2
            rw [HT.out]
            exact ⟨rfl, hB.out⟩
          · have g3 : decide ((126 : Int) < (((⟨s.toArray⟩ : ByteArray)[k].toNat : Nat) : Int)) = false := decide_eq_false (by omega)
            by_cases h4 : (⟨s.toArray⟩ : ByteArray)[k].toNat = 92
            · have g4 : ((((⟨s.toArray⟩ : ByteArray)[k].toNat : Nat) : Int) == 92) = true := by rw [beq_iff_eq]; omega
              have HT := Lib.hid (show textS (s.drop p) = ([], false) by rw [HX.out (by simp [stopQ, h4]), if_neg (hne h1)])
              clear hne HX HY
              go_wp2_with fail
              go_ret2
              rw [HT.out]
              exact ⟨rfl, hB.out⟩
            · have g4 : ((((⟨s.toArray⟩ : ByteArray)[k].toNat : Nat) : Int) == 92) = false := by rw [beq_eq_false_iff_ne]; omega
              have HZ := Lib.hid (HY.out (by simp only [stopQ]; rw [decide_eq_false h2, decide_eq_false h3, beq_eq_false_iff_ne.2 h1, beq_eq_false_iff_ne.2 h4]; rfl))
              clear hne HX HY
              go_wp2_with fail
              go_roundw
              case rel => exact ⟨k + 1, by go_num, by omega, by omega, HZ, Lib.hid HS1.out, hB⟩
              case measure => simp [intOf]; omega
    · have hk2 : decide ((k : Int) < s.length) = false := decide_eq_false (by omega)
      have HT := Lib.hid (show textS (s.drop p) = ([], false) from textS_end (by
        rw [drop1, List.length_drop, show s.length = k by omega]; exact HA.out))
      go_wp2_with fail
      go_ret2
      rw [HT.out]
      exact ⟨rfl, hB.out⟩
end Go.Proofs.YtammpndggdniiaaDoor
