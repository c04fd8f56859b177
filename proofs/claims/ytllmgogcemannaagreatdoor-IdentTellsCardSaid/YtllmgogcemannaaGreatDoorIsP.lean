/- Package agoraref11: Parse. -/
import Derived.Test.YtllmgogcemannaaGreatDoorIsH
import Derived.Test.YtllmgogcemannaaGreatDoorIsP0
import Derived.OwnWalk
namespace Go.Proofs.YtllmgogcemannaaGreatDoor
open Go.RowKit

set_option maxRecDepth 100000 in
set_option maxHeartbeats 4000000 in
theorem rparse_any (s : List UInt8) (w : World) (hs : s.length ≤ 1000000) :
    Calls Tryz.prog 6 #[.string ⟨s.toArray⟩] w fun e w' => e = .returned (.tuple #[.string ⟨(ipA s).toArray⟩, .int .i64 (ipN s), .bool (ipOk s)]) ∧ Below w.heap.size w w' := by
  go_enter Tryz.func6, Tryz.ntmps6
  go_wp2_with fail
  go_loopw [5] (fun i wr => ∃ (k : Nat), i = .int .i64 k ∧ k ≤ 20 ∧ Hid (∀ i, i < k → ¬ hit s i) ∧ Hid (Below w.heap.size w wr)) (fun i _ => 20 - (intOf i).toNat)
  case atStart => exact ⟨0, rfl, by omega, Lib.hid (fun i h => absurd h (Nat.not_lt_zero _)), Lib.hid (Below.refl _ _)⟩
  case round =>
    obtain ⟨k, rfl, hk, HP, B⟩ := hrel
    by_cases hlt : k < 20
    · have hlt' : (k : Int) < 20 := by omega
      have hk0 : 0 ≤ (k : Int) := by omega
      have hit2 := itoa_len20 hk0 hlt'
      have HT := Lib.hid (fun w1 => rtext_any (k : Int) w1 (by omega) (by omega))
      have HH := Lib.hid (fun w1 => rhandle_any (s.take (cutN s k)) (k : Int) w1 (by rw [List.length_take]; omega) (by omega) (by omega))
      have HF := Lib.hid (@hit_ok s k)
      have HX : Hid (¬ hit s k → ∀ i, i < k + 1 → ¬ hit s i) := Lib.hid (fun h i hi => by
        rcases Nat.lt_succ_iff_lt_or_eq.1 hi with h1 | h1
        · exact HP.out i h1
        · rw [h1]; exact h)
      by_cases hlen : (Lib.itoa (k : Int)).length + 1 < s.length
      · obtain ⟨m, hm⟩ : ∃ m, m = cutN s k := ⟨_, rfl⟩
        have hmv : (s.length : Int) - (Lib.itoa (k : Int)).length - 1 = (m : Int) := by rw [hm]; unfold cutN; omega
        have hm0 : (0 : Int) < m := by rw [hm]; unfold cutN; omega
        have hm1 : (m : Int) ≤ s.length := by rw [hm]; unfold cutN; omega
        have hm2 : (0 : Int) ≤ m := by omega
        have hbx := bx_take s m
        rw [← hm] at HH
        by_cases he : handleS (s.take m) (k : Int) = s
        · have HK := Lib.hid (HF.out ⟨hlen, by rw [← hm]; exact he⟩)
          rw [← hm] at HK
          rw [he] at HH
          have hss : (s == s) = true := by simp
          clear he hm hlen HX HF
          generalize Lib.itoa (k : Int) = IT at *
          go_wp2_with fail
          refine (HT.out _).mono ?_; rintro e w1 ⟨rfl, rfl⟩
          go_wp2_with fail
          refine (HH.out _).mono ?_; rintro e w2 ⟨rfl, b2⟩
          replace b2 := Lib.hid (B.out.trans (b2.mono B.out.size))
          go_wp2_with fail
          go_ret3
          exact ⟨by rw [HK.out.1, HK.out.2.1, HK.out.2.2]; rfl, b2.out⟩
        · have HV := Lib.hid (HX.out (fun h => he (by rw [hm]; exact h.2)))
          have hss : (handleS (s.take m) (k : Int) == s) = false := by rw [beq_eq_false_iff_ne]; exact he
          clear he hm hlen HX HF
          generalize Lib.itoa (k : Int) = IT at *
          generalize handleS (s.take m) (k : Int) = H at *
          go_wp2_with fail
          refine (HT.out _).mono ?_; rintro e w1 ⟨rfl, rfl⟩
          go_wp2_with fail
          refine (HH.out _).mono ?_; rintro e w2 ⟨rfl, b2⟩
          replace b2 := Lib.hid (B.out.trans (b2.mono B.out.size))
          go_wp2_with fail
          go_roundw
          case rel => exact ⟨k + 1, by go_num, by omega, HV, b2⟩
          case measure => simp [intOf]; omega
      · have HV := Lib.hid (HX.out (fun h => hlen h.1))
        have hm0 : ¬ (0 : Int) < (s.length : Int) - (Lib.itoa (k : Int)).length - 1 := by omega
        clear hlen HX HF HH
        generalize Lib.itoa (k : Int) = IT at *
        go_wp2_with fail
        refine (HT.out _).mono ?_; rintro e w1 ⟨rfl, rfl⟩
        go_wp2_with fail
        go_roundw
        case rel => exact ⟨k + 1, by go_num, by omega, HV, B⟩
        case measure => simp [intOf]; omega
    · have hlt' : ¬ (k : Int) < 20 := by omega
      have hno : ipOk s = false := by
        rw [← Bool.not_eq_true]; intro h
        obtain ⟨i, hi, hh⟩ := hit_of h
        exact HP.out i (by omega) hh
      have HB := Lib.hid (ip_bad hno)
      have HNO := Lib.hid hno
      clear hno
      go_wp2_with fail
      go_ret3
      exact ⟨by rw [HB.out.1, HB.out.2, HNO.out]; rfl, B.out⟩
end Go.Proofs.YtllmgogcemannaaGreatDoor
