/- Package agoraref11: in, Right. -/
import Derived.Test.YtllmgogcemannaaGreatDoorIdA
import Derived.BigQuiet
import Derived.Deep.QuietTactic
namespace Go.Proofs.YtllmgogcemannaaGreatDoor
open Go.RowKit

def inU (x lo hi : UInt8) : Bool := decide (lo.toNat ≤ x.toNat) && decide (x.toNat ≤ hi.toNat)
set_option maxRecDepth 100000 in
set_option maxHeartbeats 400000 in
theorem rin_any (x lo hi : UInt8) (w : World) :
    Calls Tryz.prog 28 #[.int .u8 x.toNat, .int .u8 lo.toNat, .int .u8 hi.toNat] w fun e w' => e = .returned (.bool (inU x lo hi)) ∧ w = w' := by
  by_cases h1 : (lo.toNat : Int) ≤ x.toNat
  · by_cases h2 : (x.toNat : Int) ≤ hi.toNat
    · have hv := Lib.hid (show inU x lo hi = true by unfold inU; rw [decide_eq_true (by omega : lo.toNat ≤ x.toNat), decide_eq_true (by omega : x.toNat ≤ hi.toNat)]; rfl)
      go_enter Tryz.func28, Tryz.ntmps28
      go_wp2_with fail
      go_ret
      exact ⟨by rw [hv.out]; rfl, rfl⟩
    · have hv := Lib.hid (show inU x lo hi = false by unfold inU; rw [decide_eq_false (by omega : ¬ x.toNat ≤ hi.toNat), Bool.and_false])
      go_enter Tryz.func28, Tryz.ntmps28
      go_wp2_with fail
      go_ret
      exact ⟨by rw [hv.out]; rfl, rfl⟩
  · have hv := Lib.hid (show inU x lo hi = false by unfold inU; rw [decide_eq_false (by omega : ¬ lo.toNat ≤ x.toNat), Bool.false_and])
    go_enter Tryz.func28, Tryz.ntmps28
    go_wp2_with fail
    go_ret
    exact ⟨by rw [hv.out]; rfl, rfl⟩
theorem hex_in (x : UInt8) : isHex x = (inU x 48 57 || inU x 97 102) := by
  have key : ∀ n : Fin 256, isHex (UInt8.ofNat n) = (inU (UInt8.ofNat n) 48 57 || inU (UInt8.ofNat n) 97 102) := by decide +kernel
  have := key ⟨x.toNat, x.toNat_lt⟩
  simpa using this
theorem right_bad {s : List UInt8} {k : Nat} (h : k < s.length) (hc : isHex s[k] = false) : rightS s = false := by
  unfold rightS
  rw [← Bool.not_eq_true, Bool.and_eq_true, List.all_eq_true]
  intro hh
  have := hh.2 _ (List.getElem_mem h)
  rw [hc] at this; cases this
theorem right_end {s : List UInt8} (h : (s.take s.length).all isHex = true) : rightS s = decide (s.length = 16) := by
  rw [List.take_length] at h
  unfold rightS; rw [h, Bool.and_true]
set_option maxRecDepth 100000 in
set_option maxHeartbeats 4000000 in
theorem rright_any (s : List UInt8) (w : World) (hs : s.length ≤ 140737488355328) :
    Calls Tryz.prog 10 #[.string ⟨s.toArray⟩] w fun e w' => e = .returned (.bool (rightS s)) ∧ w = w' := by
  have HR := Lib.hid (fun x lo hi => rin_any x lo hi w)
  go_enter Tryz.func10, Tryz.ntmps10
  go_wp2_with fail
  go_loopw [3] (fun i wr => ∃ (k : Nat), i = .int .i64 k ∧ k ≤ s.length ∧ wr = w ∧ Hid ((s.take k).all isHex = true)) (fun i _ => s.length - (intOf i).toNat)
  case atStart => exact ⟨0, rfl, by omega, rfl, Lib.hid rfl⟩
  case round =>
    obtain ⟨k, rfl, hk, rfl, HP⟩ := hrel
    by_cases hlt : k < s.length
    · have hlt' : (k : Int) < s.length := by omega
      have hk0 : 0 ≤ (k : Int) := by omega
      have hsz : k < (⟨s.toArray⟩ : ByteArray).size := by show k < s.toArray.size; simpa using hlt
      have HX := Lib.hid (hex_in s[k])
      have HB := Lib.hid (right_bad (s := s) (k := k) hlt)
      have HG := Lib.hid (show isHex s[k] = true → (s.take (k + 1)).all isHex = true from fun h => by
        rw [List.take_succ_eq_append_getElem hlt, List.all_append, HP.out]; simp [h])
      obtain ⟨x, hx⟩ : ∃ x, s[k] = x := ⟨_, rfl⟩
      rw [hx] at HX HB HG
      have hget : ∀ h, (⟨s.toArray⟩ : ByteArray)[k]'h = x := fun _ => hx
      clear hx
      have H1 := Lib.hid (show Calls Tryz.prog 28 #[.int .u8 x.toNat, .int .u8 48, .int .u8 57] wr fun e w' => e = .returned (.bool (inU x 48 57)) ∧ wr = w' from HR.out x 48 57)
      have H2 := Lib.hid (show Calls Tryz.prog 28 #[.int .u8 x.toNat, .int .u8 97, .int .u8 102] wr fun e w' => e = .returned (.bool (inU x 97 102)) ∧ wr = w' from HR.out x 97 102)
      cases h1 : inU x 48 57 with
      | true =>
        rw [h1] at H1 HX
        have HV := Lib.hid (HG.out (by rw [HX.out]; rfl))
        clear h1 HX HB HG H2
        go_wp2_with fail
        refine (H1.out).mono ?_; rintro e w2 ⟨rfl, rfl⟩
        go_wp2_with fail
        go_roundw
        case rel => exact ⟨k + 1, by go_num, by omega, trivial, HV⟩
        case measure => simp [intOf]; omega
      | false =>
        rw [h1] at H1 HX
        cases h2 : inU x 97 102 with
        | true =>
          rw [h2] at H2 HX
          have HV := Lib.hid (HG.out (by rw [HX.out]; rfl))
          clear h1 h2 HX HB HG
          go_wp2_with fail
          refine (H1.out).mono ?_; rintro e w2 ⟨rfl, rfl⟩
          go_wp2_with fail
          refine (H2.out).mono ?_; rintro e w2 ⟨rfl, rfl⟩
          go_wp2_with fail
          go_roundw
          case rel => exact ⟨k + 1, by go_num, by omega, trivial, HV⟩
          case measure => simp [intOf]; omega
        | false =>
          rw [h2] at H2 HX
          have HV := Lib.hid (HB.out (by rw [HX.out]; rfl))
          clear h1 h2 HX HB HG
          go_wp2_with fail
          refine (H1.out).mono ?_; rintro e w2 ⟨rfl, rfl⟩
          go_wp2_with fail
          refine (H2.out).mono ?_; rintro e w2 ⟨rfl, rfl⟩
          go_wp2_with fail
          go_ret
          exact ⟨by rw [HV.out]; rfl, rfl⟩
    · obtain rfl : k = s.length := by omega
      have hlt' : ¬ (s.length : Int) < s.length := by omega
      have HV := Lib.hid (right_end HP.out)
      by_cases h16 : (s.length : Int) = 16
      · have HV2 := Lib.hid (show rightS s = true by rw [HV.out, decide_eq_true (by omega)])
        go_wp2_with fail
        go_ret
        exact ⟨by rw [HV2.out]; rfl, rfl⟩
      · have HV2 := Lib.hid (show rightS s = false by rw [HV.out, decide_eq_false (by omega)])
        have h16b : ((s.length : Int) == 16) = false := by rw [beq_eq_false_iff_ne]; exact h16
        go_wp2_with fail
        go_ret
        exact ⟨by rw [HV2.out]; rfl, rfl⟩
end Go.Proofs.YtllmgogcemannaaGreatDoor
