/- Package agoraref11: Name. -/
import Derived.Test.YtllmgogcemannaaGreatDoorIdR
import Derived.Test.YtllmgogcemannaaGreatDoorIdL
namespace Go.Proofs.YtllmgogcemannaaGreatDoor
open Go.RowKit

theorem let_in (x : UInt8) : isLet x = inU x 97 122 := rfl
theorem nm_in (x : UInt8) : isNm x = (inU x 97 122 || inU x 48 57 || decide (x.toNat = 95)) := rfl
theorem nameP_all {s : List UInt8} {k : Nat} (hk : k = s.length) (h : nameP (s.take k) = true) : nameS s = (!s.isEmpty && decide (s.length ≤ 24)) := by
  rw [hk, List.take_length] at h
  unfold nameS; rw [h, Bool.and_true]
set_option maxRecDepth 100000 in
set_option maxHeartbeats 4000000 in
theorem rname_any (s : List UInt8) (w : World) (hs : s.length ≤ 1000000) :
    Calls Tryz.prog 12 #[.string ⟨s.toArray⟩] w fun e w' => e = .returned (.bool (nameS s)) ∧ w = w' := by
  have HR := Lib.hid (fun x lo hi => rin_any x lo hi w)
  go_enter Tryz.func12, Tryz.ntmps12
  go_wp2_with fail
  go_loopw [3] (fun i wr => ∃ (k : Nat), i = .int .i64 k ∧ k ≤ s.length ∧ wr = w ∧ Hid (nameP (s.take k) = true)) (fun i _ => s.length - (intOf i).toNat)
  case atStart => exact ⟨0, rfl, by omega, rfl, Lib.hid rfl⟩
  case round =>
    obtain ⟨k, rfl, hk, rfl, HP⟩ := hrel
    by_cases hlt : k < s.length
    · have hlt' : (k : Int) < s.length := by omega
      have hk0 : 0 ≤ (k : Int) := by omega
      have hsz : k < (⟨s.toArray⟩ : ByteArray).size := by show k < s.toArray.size; simpa using hlt
      have HBB := Lib.hid (nameS_bad (s := s) (k := k) hlt)
      have HCC := Lib.hid (nameP_step (s := s) (k := k) hlt HP.out)
      obtain ⟨x, hx⟩ : ∃ x, s[k] = x := ⟨_, rfl⟩
      rw [hx] at HBB HCC
      have hget : ∀ h, (⟨s.toArray⟩ : ByteArray)[k]'h = x := fun _ => hx
      clear hx
      have H1 := Lib.hid (show Calls Tryz.prog 28 #[.int .u8 x.toNat, .int .u8 97, .int .u8 122] wr fun e w' => e = .returned (.bool (inU x 97 122)) ∧ wr = w' from HR.out x 97 122)
      have H2 := Lib.hid (show Calls Tryz.prog 28 #[.int .u8 x.toNat, .int .u8 48, .int .u8 57] wr fun e w' => e = .returned (.bool (inU x 48 57)) ∧ wr = w' from HR.out x 48 57)
      rw [let_in, nm_in] at HBB HCC
      cases h1 : inU x 97 122 with
      | true =>
        rw [h1] at H1 HBB HCC
        clear h1
        have HV := Lib.hid (HCC.out (by split <;> rfl))
        clear HCC HBB
        go_wp2_with fail
        refine (H1.out).mono ?_; rintro e w2 ⟨rfl, rfl⟩
        go_wp2_with fail
        go_roundw
        case rel => exact ⟨k + 1, by go_num, by omega, trivial, HV⟩
        case measure => simp [intOf]; omega
      | false =>
        rw [h1] at H1 HBB HCC
        clear h1
        by_cases hk1 : k = 0
        · subst hk1
          have hlt0 : (0 : Int) < s.length := by omega
          clear hlt' hk0
          have HV := Lib.hid (HBB.out (by rw [if_pos rfl]))
          clear HCC HBB
          go_wp2_with fail
          refine (H1.out).mono ?_; rintro e w2 ⟨rfl, rfl⟩
          go_wp2_with fail
          go_ret
          exact ⟨by rw [HV.out]; rfl, rfl⟩
        · have hk2 : ((k : Int) == 0) = false := by rw [beq_eq_false_iff_ne]; omega
          rw [if_neg hk1] at HBB HCC
          clear hk1
          cases h2 : inU x 48 57 with
          | true =>
            rw [h2] at H2 HBB HCC
            clear h2
            have HV := Lib.hid (HCC.out (by rfl))
            clear HCC HBB
            go_wp2_with fail
            refine (H1.out).mono ?_; rintro e w2 ⟨rfl, rfl⟩
            go_wp2_with fail
            refine (H2.out).mono ?_; rintro e w2 ⟨rfl, rfl⟩
            go_wp2_with fail
            go_roundw
            case rel => exact ⟨k + 1, by go_num, by omega, trivial, HV⟩
            case measure => simp [intOf]; omega
          | false =>
            rw [h2] at H2 HBB HCC
            clear h2
            by_cases h95 : x.toNat = 95
            · have h95' : (x.toNat : Int) = 95 := by omega
              have HV := Lib.hid (HCC.out (by rw [decide_eq_true h95]; rfl))
              have H1' := Lib.hid (show Calls Tryz.prog 28 #[.int .u8 95, .int .u8 97, .int .u8 122] wr fun e w' => e = .returned (.bool false) ∧ wr = w' by rw [← h95']; exact H1.out)
              have H2' := Lib.hid (show Calls Tryz.prog 28 #[.int .u8 95, .int .u8 48, .int .u8 57] wr fun e w' => e = .returned (.bool false) ∧ wr = w' by rw [← h95']; exact H2.out)
              clear h95 H1 H2 HR
              clear HCC HBB
              go_wp2_with fail
              refine (H1'.out).mono ?_; rintro e w2 ⟨rfl, rfl⟩
              go_wp2_with fail
              refine (H2'.out).mono ?_; rintro e w2 ⟨rfl, rfl⟩
              go_wp2_with fail
              go_roundw
              case rel => exact ⟨k + 1, by go_num, by omega, trivial, HV⟩
              case measure => simp [intOf]; omega
            · have h95' : ((x.toNat : Int) == 95) = false := by rw [beq_eq_false_iff_ne]; omega
              have HV := Lib.hid (HBB.out (by rw [decide_eq_false h95]; rfl))
              clear h95
              clear HCC HBB
              go_wp2_with fail
              refine (H1.out).mono ?_; rintro e w2 ⟨rfl, rfl⟩
              go_wp2_with fail
              refine (H2.out).mono ?_; rintro e w2 ⟨rfl, rfl⟩
              go_wp2_with fail
              go_ret
              exact ⟨by rw [HV.out]; rfl, rfl⟩
    · have hkl : k = s.length := by omega
      have hlt' : ¬ (k : Int) < s.length := by omega
      have HN := Lib.hid (nameP_all hkl HP.out)
      clear HP hkl
      by_cases h1 : 1 ≤ s.length
      · have h1' : (1 : Int) ≤ s.length := by omega
        have hemp : s.isEmpty = false := by cases s with | nil => simp at h1 | cons c l => rfl
        by_cases h24 : s.length ≤ 24
        · have h24' : (s.length : Int) ≤ 24 := by omega
          have HV := Lib.hid (show nameS s = true by rw [HN.out, decide_eq_true h24, hemp]; rfl)
          clear h24 hemp HN
          go_wp2_with fail
          go_ret
          exact ⟨by rw [HV.out]; rfl, rfl⟩
        · have h24' : ¬ (s.length : Int) ≤ 24 := by omega
          have HV := Lib.hid (show nameS s = false by rw [HN.out, decide_eq_false h24, hemp]; rfl)
          clear h24 hemp HN
          go_wp2_with fail
          go_ret
          exact ⟨by rw [HV.out]; rfl, rfl⟩
      · have h1' : ¬ (1 : Int) ≤ s.length := by omega
        have hemp : s.isEmpty = true := by cases s with | nil => rfl | cons c l => simp at h1
        have HV := Lib.hid (show nameS s = false by rw [HN.out, hemp]; rfl)
        clear h1 hemp HN
        go_wp2_with fail
        go_ret
        exact ⟨by rw [HV.out]; rfl, rfl⟩
end Go.Proofs.YtllmgogcemannaaGreatDoor
