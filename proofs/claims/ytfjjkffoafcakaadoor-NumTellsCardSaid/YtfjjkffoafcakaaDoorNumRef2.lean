/- The reference of num: Mul, Div, Mod. -/
import Derived.Test.YtfjjkffoafcakaaDoorNumRef
import Derived.Test.YtfjjkffoafcakaaDoorNumOrd
namespace Go.Proofs.YtfjjkffoafcakaaDoor
open Go.RowKit

theorem sg_mulB (a b : Int) : sg (!(decide (a < 0) == decide (b < 0))) (a.natAbs * b.natAbs) = a * b := sg_mul a b
set_option maxRecDepth 100000 in
set_option maxHeartbeats 1000000 in
theorem rmul_any (a b : Int) (w : World) (ha : In64 a) (hb : In64 b) :
    Calls Tryd.prog 24 #[.int .i64 a, .int .i64 b] w fun e w' => e = .returned (.int .i64 (lim (a * b))) ∧ w = w' := by
  have X := Lib.hid (fun w => size_any a w ha)
  have Y := Lib.hid (fun w => size_any b w hb)
  have hS := sg_mulB a b
  have hx := abs_lt a ha.1 ha.2
  have hy := abs_lt b hb.1 hb.2
  clear ha hb
  by_cases hx0 : a.natAbs = 0
  · have ha0 : a = 0 := by omega
    have HR := Lib.hid (show lim (a * b) = 0 by rw [ha0, Int.zero_mul]; rfl)
    rw [hx0] at X
    clear hS hx hy hx0
    clear ha0
    go_enter Tryd.func24, Tryd.ntmps24
    go_wp2_with fail
    refine (X.out _).mono ?_; rintro e w1 ⟨rfl, rfl⟩
    go_wp2_with fail
    refine (Y.out _).mono ?_; rintro e w1 ⟨rfl, rfl⟩
    go_wp2_with fail
    go_ret
    rw [HR.out]; exact ⟨rfl, rfl⟩
  · by_cases hy0 : b.natAbs = 0
    · have hb0 : b = 0 := by omega
      have HR := Lib.hid (show lim (a * b) = 0 by rw [hb0, Int.mul_zero]; rfl)
      rw [hy0] at Y
      have hxe : ((a.natAbs : Int) == 0) = false := by simpa using hx0
      clear hS hy hy0 hb0 hx0
      generalize a.natAbs = x at *
      go_enter Tryd.func24, Tryd.ntmps24
      go_wp2_with fail
      refine (X.out _).mono ?_; rintro e w1 ⟨rfl, rfl⟩
      go_wp2_with fail
      refine (Y.out _).mono ?_; rintro e w1 ⟨rfl, rfl⟩
      go_wp2_with fail
      go_ret
      rw [HR.out]; exact ⟨rfl, rfl⟩
    · have hxe : ((a.natAbs : Int) == 0) = false := by simpa using hx0
      have hye : ((b.natAbs : Int) == 0) = false := by simpa using hy0
      have hyn : ¬ ((b.natAbs : Int) = 0) := by simpa using hy0
      by_cases hbig : 1125899906842624 / b.natAbs < a.natAbs
      · have hgt : 1125899906842624 < a.natAbs * b.natAbs := by
          have := (Nat.div_lt_iff_lt_mul (Nat.pos_of_ne_zero hy0)).1 hbig
          exact this
        have Sg := Lib.hid (fun w => signed_any 1125899906842624 (!(decide (a < 0) == decide (b < 0))) w (by decide))
        have HR := Lib.hid (show lim (sg (!(decide (a < 0) == decide (b < 0))) 1125899906842624) = lim (a * b) by
          rw [← hS, ← sg_lim, ← sg_lim]; congr 1; omega)
        have hd1 : decide ((1125899906842624 : Int) / (b.natAbs : Int) < (a.natAbs : Int)) = true := by
          rw [decide_eq_true_eq]
          have : ((1125899906842624 / b.natAbs : Nat) : Int) = (1125899906842624 : Int) / (b.natAbs : Int) := by simp
          rw [← this]; omega
        have hd2 : (0 : Int) ≤ (1125899906842624 : Int) / (b.natAbs : Int) := Int.ediv_nonneg (by decide) (by omega)
        have hd3 : (1125899906842624 : Int) / (b.natAbs : Int) ≤ 1125899906842624 := Int.ediv_le_self _ (by decide)
        clear hS hbig hgt hx0 hy0
        generalize a.natAbs = x at *
        generalize b.natAbs = y at *
        go_enter Tryd.func24, Tryd.ntmps24
        go_wp2_with fail
        refine (X.out _).mono ?_; rintro e w1 ⟨rfl, rfl⟩
        go_wp2_with fail
        refine (Y.out _).mono ?_; rintro e w1 ⟨rfl, rfl⟩
        go_wp2_with fail
        refine (Sg.out _).mono ?_; rintro e w1 ⟨rfl, rfl⟩
        rw [HR.out]
        go_wp2_with fail
        go_ret
        exact ⟨rfl, rfl⟩
      · have hle : a.natAbs * b.natAbs ≤ 1125899906842624 := by
          have := Nat.le_of_not_lt hbig
          exact (Nat.le_div_iff_mul_le (Nat.pos_of_ne_zero hy0)).1 this
        have Sg := Lib.hid (fun w => signed_any (a.natAbs * b.natAbs) (!(decide (a < 0) == decide (b < 0))) w (by omega))
        rw [hS] at Sg
        have hd1 : decide ((1125899906842624 : Int) / (b.natAbs : Int) < (a.natAbs : Int)) = false := by
          rw [decide_eq_false_iff_not]
          have : ((1125899906842624 / b.natAbs : Nat) : Int) = (1125899906842624 : Int) / (b.natAbs : Int) := by simp
          rw [← this]; omega
        have hd2 : (0 : Int) ≤ (1125899906842624 : Int) / (b.natAbs : Int) := Int.ediv_nonneg (by decide) (by omega)
        have hd3 : (1125899906842624 : Int) / (b.natAbs : Int) ≤ 1125899906842624 := Int.ediv_le_self _ (by decide)
        have hm : (a.natAbs : Int) * (b.natAbs : Int) = ((a.natAbs * b.natAbs : Nat) : Int) := by simp
        clear hS hbig hx0 hy0
        generalize a.natAbs * b.natAbs = t at *
        generalize a.natAbs = x at *
        generalize b.natAbs = y at *
        generalize lim (a * b) = R at *
        go_enter Tryd.func24, Tryd.ntmps24
        go_wp2_with fail
        refine (X.out _).mono ?_; rintro e w1 ⟨rfl, rfl⟩
        go_wp2_with fail
        refine (Y.out _).mono ?_; rintro e w1 ⟨rfl, rfl⟩
        go_wp2_with fail
        refine (Sg.out _).mono ?_; rintro e w1 ⟨rfl, rfl⟩
        go_wp2_with fail
        go_ret
        exact ⟨rfl, rfl⟩

set_option maxRecDepth 100000 in
set_option maxHeartbeats 1000000 in
theorem rdiv_any (a b : Int) (w : World) (ha : In64 a) (hb : In64 b) (hz : b ≠ 0) :
    Calls Tryd.prog 12 #[.int .i64 a, .int .i64 b] w fun e w' => e = .returned (.tuple #[.int .i64 (lim (a.tdiv b)), .bool true]) ∧ w = w' := by
  have X := Lib.hid (fun w => size_any a w ha)
  have Y := Lib.hid (fun w => size_any b w hb)
  have hx := abs_lt a ha.1 ha.2
  have hlt : a.natAbs / b.natAbs < 18446744073709551616 := Nat.lt_of_le_of_lt (Nat.div_le_self _ _) hx
  have Sg := Lib.hid (fun w => signed_any (a.natAbs / b.natAbs) (!(decide (a < 0) == decide (b < 0))) w hlt)
  rw [sg_div] at Sg
  have hye : ((b.natAbs : Int) == 0) = false := by simp; exact hz
  have hyn : ¬ ((b.natAbs : Int) = 0) := by simp; exact hz
  have hbe : (b == 0) = false := by simpa using hz
  have hm : (a.natAbs : Int) / (b.natAbs : Int) = ((a.natAbs / b.natAbs : Nat) : Int) := by simp
  clear ha hb hz
  generalize a.natAbs / b.natAbs = t at *
  generalize a.natAbs = x at *
  generalize b.natAbs = y at *
  generalize lim (a.tdiv b) = R at *
  go_enter Tryd.func12, Tryd.ntmps12
  go_wp2_with fail
  refine (X.out _).mono ?_; rintro e w1 ⟨rfl, rfl⟩
  go_wp2_with fail
  refine (Y.out _).mono ?_; rintro e w1 ⟨rfl, rfl⟩
  go_wp2_with fail
  refine (Sg.out _).mono ?_; rintro e w1 ⟨rfl, rfl⟩
  go_wp2_with fail
  go_ret2
  exact ⟨rfl, rfl⟩
set_option maxHeartbeats 400000 in
theorem rdiv_zero (a : Int) (w : World) :
    Calls Tryd.prog 12 #[.int .i64 a, .int .i64 0] w fun e w' => e = .returned (.tuple #[.int .i64 0, .bool false]) ∧ w = w' := by
  go_enter Tryd.func12, Tryd.ntmps12
  go_wp2_with fail
  go_ret2
  exact ⟨rfl, rfl⟩

set_option maxRecDepth 100000 in
set_option maxHeartbeats 1000000 in
theorem rmod_any (a b : Int) (w : World) (ha : In64 a) (hb : In64 b) (hz : b ≠ 0) :
    Calls Tryd.prog 14 #[.int .i64 a, .int .i64 b] w fun e w' => e = .returned (.tuple #[.int .i64 (lim (a.tmod b)), .bool true]) ∧ w = w' := by
  have X := Lib.hid (fun w => size_any a w ha)
  have Y := Lib.hid (fun w => size_any b w hb)
  have hx := abs_lt a ha.1 ha.2
  have hlt : a.natAbs % b.natAbs < 18446744073709551616 := Nat.lt_of_le_of_lt (Nat.mod_le _ _) hx
  have Sg := Lib.hid (fun w => signed_any (a.natAbs % b.natAbs) (decide (a < 0)) w hlt)
  rw [sg_mod] at Sg
  have hye : ((b.natAbs : Int) == 0) = false := by simp; exact hz
  have hyn : ¬ ((b.natAbs : Int) = 0) := by simp; exact hz
  have hbe : (b == 0) = false := by simpa using hz
  have hm : (a.natAbs : Int) % (b.natAbs : Int) = ((a.natAbs % b.natAbs : Nat) : Int) := by simp
  clear ha hb hz
  generalize a.natAbs % b.natAbs = t at *
  generalize a.natAbs = x at *
  generalize b.natAbs = y at *
  generalize lim (a.tmod b) = R at *
  go_enter Tryd.func14, Tryd.ntmps14
  go_wp2_with fail
  refine (X.out _).mono ?_; rintro e w1 ⟨rfl, rfl⟩
  go_wp2_with fail
  refine (Y.out _).mono ?_; rintro e w1 ⟨rfl, rfl⟩
  go_wp2_with fail
  refine (Sg.out _).mono ?_; rintro e w1 ⟨rfl, rfl⟩
  go_wp2_with fail
  go_ret2
  exact ⟨rfl, rfl⟩
set_option maxHeartbeats 400000 in
theorem rmod_zero (a : Int) (w : World) :
    Calls Tryd.prog 14 #[.int .i64 a, .int .i64 0] w fun e w' => e = .returned (.tuple #[.int .i64 0, .bool false]) ∧ w = w' := by
  go_enter Tryd.func14, Tryd.ntmps14
  go_wp2_with fail
  go_ret2
  exact ⟨rfl, rfl⟩

end Go.Proofs.YtfjjkffoafcakaaDoor
