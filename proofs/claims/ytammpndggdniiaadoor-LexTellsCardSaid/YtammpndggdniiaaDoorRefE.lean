/- The reference of lex: quoted. -/
import Derived.Test.YtammpndggdniiaaDoorRefC
namespace Go.Proofs.YtammpndggdniiaaDoor
open Go.RowKit

theorem stop_iff (c : UInt8) : stopQ c = false ↔ 32 ≤ c.toNat ∧ c.toNat ≤ 126 ∧ c.toNat ≠ 34 ∧ c.toNat ≠ 92 := by
  simp [stopQ]; omega
def quotedN (t : List UInt8) : Nat := if (textS t).2 = true then (textS t).1.length else 0
theorem quoted_hit {t : List UInt8} {n : Nat} {c : UInt8} (h1 : ((t.drop 1).take n).all (fun c => !stopQ c) = true) (h2 : (t.drop 1)[n]? = some c) (h3 : stopQ c = true) : quotedN t = if c = 34 ∧ n ≤ 24 then n + 2 else 0 := by
  have hl := (List.getElem?_eq_some_iff.1 h2).1
  rw [List.length_drop] at hl
  unfold quotedN
  rw [textS_at h1 h2 h3]
  by_cases hc : c = 34
  · by_cases hn : n ≤ 24
    · simp [hc, hn]; omega
    · simp [hc, hn]
  · simp [hc]
theorem quoted_far {t : List UInt8} (h1 : ((t.drop 1).take 25).all (fun c => !stopQ c) = true) (hl : 25 ≤ (t.drop 1).length) : quotedN t = 0 := by
  unfold quotedN textS
  have hk : 25 ≤ ((t.drop 1).takeWhile fun c => !stopQ c).length := by
    rw [← List.take_append_drop 25 (t.drop 1), List.takeWhile_append_of_pos (fun x hx => List.all_eq_true.1 h1 x hx), List.length_append, List.length_take]; omega
  simp only
  split
  · rw [if_neg]
    simp only [decide_eq_true_eq]; omega
  · rfl
theorem quoted_end {t : List UInt8} (h1 : ((t.drop 1).take ((t.drop 1).length)).all (fun c => !stopQ c) = true) : quotedN t = 0 := by
  unfold quotedN; rw [textS_end h1]; rfl
set_option maxRecDepth 100000 in
set_option maxHeartbeats 8000000 in
theorem rquoted_any (s : List UInt8) (p : Nat) (w : World) (hp : p < s.length) (hs : s.length ≤ 4096) :
    Calls Tryd.prog 33 #[.string ⟨s.toArray⟩, .int .i64 p] w fun e w' => e = .returned (.int .i64 (quotedN (s.drop p))) ∧ Below w.heap.size w w' := by
  have hp1 : 0 ≤ (p : Int) := by omega
  have hp2 : (p : Int) < s.length := by omega
  have hs1 : (s.length : Int) ≤ 4096 := by omega
  have HD := Lib.hid (drop1 s p)
  go_enter Tryd.func33, Tryd.ntmps33
  go_wp2_with fail
  go_loopw [5] (fun i wr => ∃ (k : Nat), i = .int .i64 (k + 1 : Nat) ∧ p + 1 + k ≤ s.length ∧ k ≤ 25 ∧ Hid (((s.drop (p + 1)).take k).all (fun c => !stopQ c) = true) ∧ Hid (Below w.heap.size w wr)) (fun i _ => s.length - (intOf i).toNat)
  case atStart => exact ⟨0, rfl, by omega, by omega, Lib.hid (by simp), Lib.hid (Below.refl _ _)⟩
  case round =>
    obtain ⟨k, rfl, hk, hk25, HA, hB⟩ := hrel
    have hka : 0 ≤ (k : Int) := by omega
    have hkb : (k : Int) ≤ 25 := by omega
    rw [show ((k + 1 : Nat) : Int) = (k : Int) + 1 by omega]
    by_cases hlt : p + 1 + k < s.length
    · have hi1 : (p : Int) + (k + 1) < s.length := by omega
      by_cases hf : k < 25
      · have hks : p + (k + 1) < (⟨s.toArray⟩ : ByteArray).size := by show p + (k + 1) < s.toArray.size; rw [List.size_toArray]; omega
        have hk2 : (k : Int) + 1 ≤ 25 := by omega
        have hk3 : 0 ≤ (p : Int) + (k + 1) := by omega
        have hg : (s.drop (p + 1))[k]? = some ((⟨s.toArray⟩ : ByteArray)[p + (k + 1)]) := by
          rw [List.getElem?_drop, List.getElem?_eq_some_iff]
          refine ⟨by omega, ?_⟩
          show s[p + 1 + k] = s[p + (k + 1)]
          congr 1; omega
        have HN := fun (h : stopQ (⟨s.toArray⟩ : ByteArray)[p + (k + 1)] = false) => Lib.hid (show ((s.drop (p + 1)).take (k + 1)).all (fun c => !stopQ c) = true by
          obtain ⟨hg1, hg2⟩ := List.getElem?_eq_some_iff.1 hg
          rw [List.take_succ_eq_append_getElem hg1, List.all_append, HA.out, hg2]; simp [h])
        have HQ := fun (h : stopQ (⟨s.toArray⟩ : ByteArray)[p + (k + 1)] = true) => quoted_hit (t := s.drop p) (n := k) (by rw [HD.out]; exact HA.out) (by rw [HD.out]; exact hg) h
        have HI := Lib.hid (stop_iff (⟨s.toArray⟩ : ByteArray)[p + (k + 1)])
        clear hg
        generalize hx : (⟨s.toArray⟩ : ByteArray)[p + (k + 1)] = x at *
        by_cases h34 : x = 34
        · have HR := Lib.hid ((HQ (by rw [h34]; decide)).trans (if_pos ⟨h34, by omega⟩))
          have g34 : ((x.toNat : Nat) : Int) = 34 := by rw [h34]; rfl
          clear HQ HN
          go_wp2_with fail
          go_ret
          exact ⟨by rw [HR.out]; exact congrArg (fun z => Ending.returned (Value.int .i64 z)) (by omega), hB.out⟩
        · have h34' : x.toNat ≠ 34 := fun h => h34 (UInt8.toNat_inj.1 h)
          have g34 : (((x.toNat : Nat) : Int) == 34) = false := by rw [beq_eq_false_iff_ne]; omega
          by_cases h32 : x.toNat < 32
          · have HR := Lib.hid ((HQ (by simp [stopQ, h32])).trans (if_neg (fun h => h34 h.1)))
            have g32 : ((x.toNat : Nat) : Int) < 32 := by omega
            clear HQ HN
            go_wp2_with fail
            go_ret
            exact ⟨by rw [HR.out]; rfl, hB.out⟩
          · have g32 : decide (((x.toNat : Nat) : Int) < 32) = false := decide_eq_false (by omega)
            by_cases h126 : 126 < x.toNat
            · have HR := Lib.hid ((HQ (by simp [stopQ, h126])).trans (if_neg (fun h => h34 h.1)))
              have g126 : 126 < ((x.toNat : Nat) : Int) := by omega
              clear HQ HN
              go_wp2_with fail
              go_ret
              exact ⟨by rw [HR.out]; rfl, hB.out⟩
            · have g126 : decide (126 < ((x.toNat : Nat) : Int)) = false := decide_eq_false (by omega)
              by_cases h92 : x.toNat = 92
              · have HR := Lib.hid ((HQ (by simp [stopQ, h92])).trans (if_neg (fun h => h34 h.1)))
                have g92 : ((x.toNat : Nat) : Int) = 92 := by omega
                clear HQ HN
                go_wp2_with fail
                go_ret
                exact ⟨by rw [HR.out]; rfl, hB.out⟩
              · have g92 : (((x.toNat : Nat) : Int) == 92) = false := by rw [beq_eq_false_iff_ne]; omega
                have HN2 := HN (HI.out.2 ⟨by omega, by omega, h34', h92⟩)
                clear HQ HN
                go_wp2_with fail
                go_roundw
                case rel => exact ⟨k + 1, by go_num, by omega, by omega, HN2, hB⟩
                case measure => simp [intOf]; omega
      · obtain rfl : k = 25 := by omega
        have HR := Lib.hid (quoted_far (t := s.drop p) (by rw [HD.out]; exact HA.out) (by rw [HD.out, List.length_drop]; omega))
        go_wp2_with fail
        go_ret
        exact ⟨by rw [HR.out]; rfl, hB.out⟩
    · have hi1 : decide ((p : Int) + (k + 1) < s.length) = false := decide_eq_false (by omega)
      have HR := Lib.hid (quoted_end (t := s.drop p) (by rw [HD.out, List.length_drop, show s.length - (p + 1) = k by omega]; exact HA.out))
      go_wp2_with fail
      go_ret
      exact ⟨by rw [HR.out]; rfl, hB.out⟩
end Go.Proofs.YtammpndggdniiaaDoor
