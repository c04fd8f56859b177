/- Package num: abs, by, Add, Sub, Mul. -/
import Derived.Test.YtfjjkffoafcakaaDoorNumA
import Derived.Shelf.Spec.BitsCarry
namespace Go.Proofs.YtfjjkffoafcakaaDoor
open Go.RowKit

def maxN : Nat := 1125899906842624
def sg (neg : Bool) (t : Nat) : Int := if neg = true then -(t : Int) else (t : Int)
def byS (neg ov : Bool) (z : Nat) : Int := sg neg (if ov = true ∨ 1125899906842624 < z then 1125899906842624 else z)
def lim (n : Int) : Int := clampS n (-1125899906842624) 1125899906842624
theorem wrap_u64 (n : Int) : IntKind.u64.wrap n = n % 18446744073709551616 := by
  simp [IntKind.wrap, IntKind.signed, IntKind.bits]
/-- The limited value of a number of a given size. -/
theorem byS_lim (neg : Bool) (t : Nat) : byS neg (decide (18446744073709551616 ≤ t)) (t % 18446744073709551616) = lim (sg neg t) := by
  unfold byS lim clampS sg
  cases neg <;> simp only [if_true, if_false, Bool.false_eq_true, decide_eq_true_eq] <;> split <;> split <;> (try split) <;> omega
theorem byS_small (neg : Bool) (t : Nat) (h : t < 18446744073709551616) : byS neg false t = lim (sg neg t) := by
  unfold byS lim clampS sg
  cases neg <;> simp only [if_true, if_false, Bool.false_eq_true, false_or] <;> split <;> split <;> (try split) <;> omega

set_option maxHeartbeats 400000 in
theorem abs_any (n : Int) (w : World) (h0 : -9223372036854775808 ≤ n) (h1 : n ≤ 9223372036854775807) :
    Calls Tryd.prog 42 #[.int .i64 n] w fun e w' => e = .returned (.int .u64 (n.natAbs : Int)) ∧ w = w' := by
  by_cases h : n < 0
  · have E1 := Lib.hid (show IntKind.u64.wrap (-(IntKind.u64.wrap n)) = (n.natAbs : Int) by rw [wrap_u64, wrap_u64]; omega)
    go_enter Tryd.func42, Tryd.ntmps42
    go_wp2_with fail
    go_ret
    exact ⟨congrArg (fun x => Ending.returned (Value.int .u64 x)) E1.out, rfl⟩
  · have E1 := Lib.hid (show n = (n.natAbs : Int) by omega)
    go_enter Tryd.func42, Tryd.ntmps42
    go_wp2_with fail
    go_ret
    exact ⟨congrArg (fun x => Ending.returned (Value.int .u64 x)) E1.out, rfl⟩

theorem Tryd.add64 (x y : Nat) (w : World) : (callFunc 34 #[.int .u64 (x : Int), .int .u64 (y : Int), .int .u64 0]).run Tryd.prog w =
      .ok (.value (.tuple #[.int .u64 (((x + y) % 18446744073709551616 : Nat) : Int), .int .u64 (((x + y) / 18446744073709551616 : Nat) : Int)])) w :=
  Any7.bits_Add64 (P := Tryd.prog) (ρ := Go.Shelf.Ren.mk (fun _ => 34) (fun _ => 38) (fun n => n)) { mixed := by kernel_rfl, f25 := Tryd.func34.trans (congrArg some (by kernel_rfl)), t22 := Tryd.underlying38, a22 := Tryd.isAgg38, z22 := Tryd.sizeOf38, v22 := Tryd.zeroValue38, i22 := by kernel_rfl } x y 0 (by decide) w

set_option maxHeartbeats 400000 in
theorem op_add (x y : Nat) (w : World) :
    Calls Tryd.prog 33 #[.int .u64 (x : Int), .int .u64 (y : Int)] w fun e w' => e = .returned (.tuple #[.bool (decide (18446744073709551616 ≤ x + y)), .int .u64 (((x + y) % 18446744073709551616 : Nat) : Int)]) ∧ w = w' := by
  have A := Tryd.add64 x y
  have HD := Lib.hid (show decide (0 < (x + y) / 18446744073709551616) = decide (18446744073709551616 ≤ x + y) by rw [decide_eq_decide]; omega)
  generalize (x + y) / 18446744073709551616 = q at *
  generalize (x + y) % 18446744073709551616 = r at *
  generalize decide (18446744073709551616 ≤ x + y) = d at *
  go_enter Tryd.func33, Tryd.ntmps33
  go_wp2_with fail
  go_ret2
  exact ⟨by rw [← HD.out]; rfl, rfl⟩

set_option maxHeartbeats 400000 in
theorem op_sub (x y : Nat) (w : World) :
    Calls Tryd.prog 36 #[.int .u64 (x : Int), .int .u64 (y : Int)] w fun e w' => e = .returned (.tuple #[.bool (decide (18446744073709551616 ≤ x + y)), .int .u64 (((x + y) % 18446744073709551616 : Nat) : Int)]) ∧ w = w' := by
  have A := Tryd.add64 x y
  have HD := Lib.hid (show decide (0 < (x + y) / 18446744073709551616) = decide (18446744073709551616 ≤ x + y) by rw [decide_eq_decide]; omega)
  generalize (x + y) / 18446744073709551616 = q at *
  generalize (x + y) % 18446744073709551616 = r at *
  generalize decide (18446744073709551616 ≤ x + y) = d at *
  go_enter Tryd.func36, Tryd.ntmps36
  go_wp2_with fail
  go_ret2
  exact ⟨by rw [← HD.out]; rfl, rfl⟩

set_option maxHeartbeats 400000 in
theorem op_mul (x y : Nat) (w : World) (hx : x < 18446744073709551616) (hy : y < 18446744073709551616) :
    Calls Tryd.prog 37 #[.int .u64 (x : Int), .int .u64 (y : Int)] w fun e w' => e = .returned (.tuple #[.bool (decide (18446744073709551616 ≤ x * y)), .int .u64 ((x * y % 18446744073709551616 : Nat) : Int)]) ∧ w = w' := by
  have M := Lib.hid (fun w => Tryd.bits_Mul64 x y hx hy w)
  have HD := Lib.hid (show decide (0 < x * y / 18446744073709551616) = decide (18446744073709551616 ≤ x * y) by
    generalize x * y = t
    rw [decide_eq_decide]; omega)
  generalize x * y / 18446744073709551616 = q at *
  generalize x * y % 18446744073709551616 = r at *
  generalize decide (18446744073709551616 ≤ x * y) = d at *
  clear hx hy
  go_enter Tryd.func37, Tryd.ntmps37
  go_wp2_with fail
  refine (M.out _).mono ?_; rintro e w1 ⟨rfl, rfl⟩
  go_wp2_with fail
  go_ret2
  exact ⟨by rw [← HD.out]; rfl, rfl⟩

set_option maxRecDepth 100000 in
set_option maxHeartbeats 1000000 in
theorem by_add (x y : Int) (neg ov : Bool) (z : Nat) (w : World) (hx0 : -9223372036854775808 ≤ x) (hx1 : x ≤ 9223372036854775807) (hy0 : -9223372036854775808 ≤ y) (hy1 : y ≤ 9223372036854775807)
    (C : Hid (∀ w, Calls Tryd.prog 33 #[.int .u64 (x.natAbs : Int), .int .u64 (y.natAbs : Int)] w fun e w' => e = .returned (.tuple #[.bool ov, .int .u64 (z : Int)]) ∧ w = w')) :
    Calls Tryd.prog 27 #[.int .i64 x, .int .i64 y, .bool neg, .func (.func 33) #[] #[]] w fun e w' => e = .returned (.int .i64 (byS neg ov z)) ∧ w = w' := by
  have X := Lib.hid (fun w => abs_any x w hx0 hx1)
  have Y := Lib.hid (fun w => abs_any y w hy0 hy1)
  clear hx0 hx1 hy0 hy1
  have HB := Lib.hid (show byS neg ov z = sg neg (if ov = true ∨ 1125899906842624 < z then 1125899906842624 else z) from rfl)
  by_cases h : ov = true ∨ 1125899906842624 < z
  · have HR := Lib.hid (show byS neg ov z = sg neg 1125899906842624 by rw [HB.out, if_pos h])
    clear HB
    cases ov
    · have hz : 1125899906842624 < z := by simpa using h
      clear h
      go_enter Tryd.func27, Tryd.ntmps27
      go_wp2_with fail
      refine (X.out _).mono ?_; rintro e w1 ⟨rfl, rfl⟩
      go_wp2_with fail
      refine (Y.out _).mono ?_; rintro e w1 ⟨rfl, rfl⟩
      go_wp2_with fail
      refine (C.out _).mono ?_; rintro e w1 ⟨rfl, rfl⟩
      cases neg
      · go_wp2_with fail
        go_ret
        rw [HR.out]; exact ⟨rfl, rfl⟩
      · go_wp2_with fail
        go_ret
        rw [HR.out]; exact ⟨rfl, rfl⟩
    · clear h
      go_enter Tryd.func27, Tryd.ntmps27
      go_wp2_with fail
      refine (X.out _).mono ?_; rintro e w1 ⟨rfl, rfl⟩
      go_wp2_with fail
      refine (Y.out _).mono ?_; rintro e w1 ⟨rfl, rfl⟩
      go_wp2_with fail
      refine (C.out _).mono ?_; rintro e w1 ⟨rfl, rfl⟩
      cases neg
      · go_wp2_with fail
        go_ret
        rw [HR.out]; exact ⟨rfl, rfl⟩
      · go_wp2_with fail
        go_ret
        rw [HR.out]; exact ⟨rfl, rfl⟩
  · have HR := Lib.hid (show byS neg ov z = sg neg z by rw [HB.out, if_neg h])
    obtain ⟨h1, h2⟩ : ov = false ∧ z ≤ 1125899906842624 := by cases ov <;> simp at h ⊢; exact h
    subst h1
    clear HB h
    have E1 := Lib.hid (show IntKind.i64.wrap (z : Int) = (z : Int) by rw [IntKind.wrap_i64]; omega)
    go_enter Tryd.func27, Tryd.ntmps27
    go_wp2_with fail
    refine (X.out _).mono ?_; rintro e w1 ⟨rfl, rfl⟩
    go_wp2_with fail
    refine (Y.out _).mono ?_; rintro e w1 ⟨rfl, rfl⟩
    go_wp2_with fail
    refine (C.out _).mono ?_; rintro e w1 ⟨rfl, rfl⟩
    cases neg
    · go_wp2_with fail
      go_ret
      rw [HR.out]; exact ⟨rfl, rfl⟩
    · go_wp2_with fail
      go_ret
      rw [HR.out]; exact ⟨rfl, rfl⟩

set_option maxRecDepth 100000 in
set_option maxHeartbeats 1000000 in
theorem by_sub (x y : Int) (neg ov : Bool) (z : Nat) (w : World) (hx0 : -9223372036854775808 ≤ x) (hx1 : x ≤ 9223372036854775807) (hy0 : -9223372036854775808 ≤ y) (hy1 : y ≤ 9223372036854775807)
    (C : Hid (∀ w, Calls Tryd.prog 36 #[.int .u64 (x.natAbs : Int), .int .u64 (y.natAbs : Int)] w fun e w' => e = .returned (.tuple #[.bool ov, .int .u64 (z : Int)]) ∧ w = w')) :
    Calls Tryd.prog 27 #[.int .i64 x, .int .i64 y, .bool neg, .func (.func 36) #[] #[]] w fun e w' => e = .returned (.int .i64 (byS neg ov z)) ∧ w = w' := by
  have X := Lib.hid (fun w => abs_any x w hx0 hx1)
  have Y := Lib.hid (fun w => abs_any y w hy0 hy1)
  clear hx0 hx1 hy0 hy1
  have HB := Lib.hid (show byS neg ov z = sg neg (if ov = true ∨ 1125899906842624 < z then 1125899906842624 else z) from rfl)
  by_cases h : ov = true ∨ 1125899906842624 < z
  · have HR := Lib.hid (show byS neg ov z = sg neg 1125899906842624 by rw [HB.out, if_pos h])
    clear HB
    cases ov
    · have hz : 1125899906842624 < z := by simpa using h
      clear h
      go_enter Tryd.func27, Tryd.ntmps27
      go_wp2_with fail
      refine (X.out _).mono ?_; rintro e w1 ⟨rfl, rfl⟩
      go_wp2_with fail
      refine (Y.out _).mono ?_; rintro e w1 ⟨rfl, rfl⟩
      go_wp2_with fail
      refine (C.out _).mono ?_; rintro e w1 ⟨rfl, rfl⟩
      cases neg
      · go_wp2_with fail
        go_ret
        rw [HR.out]; exact ⟨rfl, rfl⟩
      · go_wp2_with fail
        go_ret
        rw [HR.out]; exact ⟨rfl, rfl⟩
    · clear h
      go_enter Tryd.func27, Tryd.ntmps27
      go_wp2_with fail
      refine (X.out _).mono ?_; rintro e w1 ⟨rfl, rfl⟩
      go_wp2_with fail
      refine (Y.out _).mono ?_; rintro e w1 ⟨rfl, rfl⟩
      go_wp2_with fail
      refine (C.out _).mono ?_; rintro e w1 ⟨rfl, rfl⟩
      cases neg
      · go_wp2_with fail
        go_ret
        rw [HR.out]; exact ⟨rfl, rfl⟩
      · go_wp2_with fail
        go_ret
        rw [HR.out]; exact ⟨rfl, rfl⟩
  · have HR := Lib.hid (show byS neg ov z = sg neg z by rw [HB.out, if_neg h])
    obtain ⟨h1, h2⟩ : ov = false ∧ z ≤ 1125899906842624 := by cases ov <;> simp at h ⊢; exact h
    subst h1
    clear HB h
    have E1 := Lib.hid (show IntKind.i64.wrap (z : Int) = (z : Int) by rw [IntKind.wrap_i64]; omega)
    go_enter Tryd.func27, Tryd.ntmps27
    go_wp2_with fail
    refine (X.out _).mono ?_; rintro e w1 ⟨rfl, rfl⟩
    go_wp2_with fail
    refine (Y.out _).mono ?_; rintro e w1 ⟨rfl, rfl⟩
    go_wp2_with fail
    refine (C.out _).mono ?_; rintro e w1 ⟨rfl, rfl⟩
    cases neg
    · go_wp2_with fail
      go_ret
      rw [HR.out]; exact ⟨rfl, rfl⟩
    · go_wp2_with fail
      go_ret
      rw [HR.out]; exact ⟨rfl, rfl⟩

set_option maxRecDepth 100000 in
set_option maxHeartbeats 1000000 in
theorem by_mul (x y : Int) (neg ov : Bool) (z : Nat) (w : World) (hx0 : -9223372036854775808 ≤ x) (hx1 : x ≤ 9223372036854775807) (hy0 : -9223372036854775808 ≤ y) (hy1 : y ≤ 9223372036854775807)
    (C : Hid (∀ w, Calls Tryd.prog 37 #[.int .u64 (x.natAbs : Int), .int .u64 (y.natAbs : Int)] w fun e w' => e = .returned (.tuple #[.bool ov, .int .u64 (z : Int)]) ∧ w = w')) :
    Calls Tryd.prog 27 #[.int .i64 x, .int .i64 y, .bool neg, .func (.func 37) #[] #[]] w fun e w' => e = .returned (.int .i64 (byS neg ov z)) ∧ w = w' := by
  have X := Lib.hid (fun w => abs_any x w hx0 hx1)
  have Y := Lib.hid (fun w => abs_any y w hy0 hy1)
  clear hx0 hx1 hy0 hy1
  have HB := Lib.hid (show byS neg ov z = sg neg (if ov = true ∨ 1125899906842624 < z then 1125899906842624 else z) from rfl)
  by_cases h : ov = true ∨ 1125899906842624 < z
  · have HR := Lib.hid (show byS neg ov z = sg neg 1125899906842624 by rw [HB.out, if_pos h])
    clear HB
    cases ov
    · have hz : 1125899906842624 < z := by simpa using h
      clear h
      go_enter Tryd.func27, Tryd.ntmps27
      go_wp2_with fail
      refine (X.out _).mono ?_; rintro e w1 ⟨rfl, rfl⟩
      go_wp2_with fail
      refine (Y.out _).mono ?_; rintro e w1 ⟨rfl, rfl⟩
      go_wp2_with fail
      refine (C.out _).mono ?_; rintro e w1 ⟨rfl, rfl⟩
      cases neg
      · go_wp2_with fail
        go_ret
        rw [HR.out]; exact ⟨rfl, rfl⟩
      · go_wp2_with fail
        go_ret
        rw [HR.out]; exact ⟨rfl, rfl⟩
    · clear h
      go_enter Tryd.func27, Tryd.ntmps27
      go_wp2_with fail
      refine (X.out _).mono ?_; rintro e w1 ⟨rfl, rfl⟩
      go_wp2_with fail
      refine (Y.out _).mono ?_; rintro e w1 ⟨rfl, rfl⟩
      go_wp2_with fail
      refine (C.out _).mono ?_; rintro e w1 ⟨rfl, rfl⟩
      cases neg
      · go_wp2_with fail
        go_ret
        rw [HR.out]; exact ⟨rfl, rfl⟩
      · go_wp2_with fail
        go_ret
        rw [HR.out]; exact ⟨rfl, rfl⟩
  · have HR := Lib.hid (show byS neg ov z = sg neg z by rw [HB.out, if_neg h])
    obtain ⟨h1, h2⟩ : ov = false ∧ z ≤ 1125899906842624 := by cases ov <;> simp at h ⊢; exact h
    subst h1
    clear HB h
    have E1 := Lib.hid (show IntKind.i64.wrap (z : Int) = (z : Int) by rw [IntKind.wrap_i64]; omega)
    go_enter Tryd.func27, Tryd.ntmps27
    go_wp2_with fail
    refine (X.out _).mono ?_; rintro e w1 ⟨rfl, rfl⟩
    go_wp2_with fail
    refine (Y.out _).mono ?_; rintro e w1 ⟨rfl, rfl⟩
    go_wp2_with fail
    refine (C.out _).mono ?_; rintro e w1 ⟨rfl, rfl⟩
    cases neg
    · go_wp2_with fail
      go_ret
      rw [HR.out]; exact ⟨rfl, rfl⟩
    · go_wp2_with fail
      go_ret
      rw [HR.out]; exact ⟨rfl, rfl⟩

def sgn (n : Int) : Bool := decide (n < 0)
set_option maxRecDepth 100000 in
set_option maxHeartbeats 400000 in
theorem add_any (a b : Int) (w : World) (ha0 : -9223372036854775808 ≤ a) (ha1 : a ≤ 9223372036854775807) (hb0 : -9223372036854775808 ≤ b) (hb1 : b ≤ 9223372036854775807) :
    Calls Tryd.prog 19 #[.int .i64 a, .int .i64 b] w fun e w' => e = .returned (.int .i64 (lim (a + b))) ∧ w = w' := by
  have B := Lib.hid (fun neg w => by_add a b neg _ _ w ha0 ha1 hb0 hb1 (Lib.hid fun w => op_add a.natAbs b.natAbs w))
  by_cases ha : a < 0
  · have da : decide (a < 0) = true := by simpa using ha
    by_cases hb : b < 0
    · have db : decide (b < 0) = true := by simpa using hb
      have HR := Lib.hid (show byS true (decide (18446744073709551616 ≤ a.natAbs + b.natAbs)) ((a.natAbs + b.natAbs) % 18446744073709551616) = lim (a + b) by rw [byS_lim]; congr 1; simp [sg]; omega)
      clear ha0 ha1 hb0 hb1
      go_enter Tryd.func19, Tryd.ntmps19
      go_wp2_with fail
      refine (B.out _ _).mono ?_; rintro e w1 ⟨rfl, rfl⟩
      rw [HR.out]
      go_wp2_with fail
      go_ret
      exact ⟨rfl, rfl⟩
    · have db : decide (b < 0) = false := by simpa using hb
      go_enter Tryd.func19, Tryd.ntmps19
      go_wp2_with fail
      refine (clamp_any _ _ _ _).mono ?_; rintro e w1 ⟨rfl, rfl⟩
      go_wp2_with fail
      go_ret
      exact ⟨rfl, rfl⟩
  · have da : decide (a < 0) = false := by simpa using ha
    by_cases hb : b < 0
    · have db : decide (b < 0) = true := by simpa using hb
      go_enter Tryd.func19, Tryd.ntmps19
      go_wp2_with fail
      refine (clamp_any _ _ _ _).mono ?_; rintro e w1 ⟨rfl, rfl⟩
      go_wp2_with fail
      go_ret
      exact ⟨rfl, rfl⟩
    · have db : decide (b < 0) = false := by simpa using hb
      have HR := Lib.hid (show byS false (decide (18446744073709551616 ≤ a.natAbs + b.natAbs)) ((a.natAbs + b.natAbs) % 18446744073709551616) = lim (a + b) by rw [byS_lim]; congr 1; simp [sg]; omega)
      clear ha0 ha1 hb0 hb1
      go_enter Tryd.func19, Tryd.ntmps19
      go_wp2_with fail
      refine (B.out _ _).mono ?_; rintro e w1 ⟨rfl, rfl⟩
      rw [HR.out]
      go_wp2_with fail
      go_ret
      exact ⟨rfl, rfl⟩

set_option maxRecDepth 100000 in
set_option maxHeartbeats 400000 in
theorem sub_any (a b : Int) (w : World) (ha0 : -9223372036854775808 ≤ a) (ha1 : a ≤ 9223372036854775807) (hb0 : -9223372036854775808 ≤ b) (hb1 : b ≤ 9223372036854775807) :
    Calls Tryd.prog 21 #[.int .i64 a, .int .i64 b] w fun e w' => e = .returned (.int .i64 (lim (a - b))) ∧ w = w' := by
  have B := Lib.hid (fun neg w => by_sub a b neg _ _ w ha0 ha1 hb0 hb1 (Lib.hid fun w => op_sub a.natAbs b.natAbs w))
  by_cases ha : a < 0
  · have da : decide (a < 0) = true := by simpa using ha
    by_cases hb : b < 0
    · have db : decide (b < 0) = true := by simpa using hb
      go_enter Tryd.func21, Tryd.ntmps21
      go_wp2_with fail
      refine (clamp_any _ _ _ _).mono ?_; rintro e w1 ⟨rfl, rfl⟩
      go_wp2_with fail
      go_ret
      exact ⟨rfl, rfl⟩
    · have db : decide (b < 0) = false := by simpa using hb
      have HR := Lib.hid (show byS true (decide (18446744073709551616 ≤ a.natAbs + b.natAbs)) ((a.natAbs + b.natAbs) % 18446744073709551616) = lim (a - b) by rw [byS_lim]; congr 1; simp [sg]; omega)
      clear ha0 ha1 hb0 hb1
      go_enter Tryd.func21, Tryd.ntmps21
      go_wp2_with fail
      refine (B.out _ _).mono ?_; rintro e w1 ⟨rfl, rfl⟩
      rw [HR.out]
      go_wp2_with fail
      go_ret
      exact ⟨rfl, rfl⟩
  · have da : decide (a < 0) = false := by simpa using ha
    by_cases hb : b < 0
    · have db : decide (b < 0) = true := by simpa using hb
      have HR := Lib.hid (show byS false (decide (18446744073709551616 ≤ a.natAbs + b.natAbs)) ((a.natAbs + b.natAbs) % 18446744073709551616) = lim (a - b) by rw [byS_lim]; congr 1; simp [sg]; omega)
      clear ha0 ha1 hb0 hb1
      go_enter Tryd.func21, Tryd.ntmps21
      go_wp2_with fail
      refine (B.out _ _).mono ?_; rintro e w1 ⟨rfl, rfl⟩
      rw [HR.out]
      go_wp2_with fail
      go_ret
      exact ⟨rfl, rfl⟩
    · have db : decide (b < 0) = false := by simpa using hb
      go_enter Tryd.func21, Tryd.ntmps21
      go_wp2_with fail
      refine (clamp_any _ _ _ _).mono ?_; rintro e w1 ⟨rfl, rfl⟩
      go_wp2_with fail
      go_ret
      exact ⟨rfl, rfl⟩

theorem abs_lt (a : Int) (h0 : -9223372036854775808 ≤ a) (h1 : a ≤ 9223372036854775807) : a.natAbs < 18446744073709551616 := by omega
theorem sg_mul (a b : Int) : sg (!(decide (a < 0) == decide (b < 0))) (a.natAbs * b.natAbs) = a * b := by
  unfold sg
  rw [Int.natCast_mul]
  by_cases ha : a < 0 <;> by_cases hb : b < 0 <;> simp [ha, hb] <;>
    (first | rw [Int.ofNat_natAbs_of_nonpos (by omega : a ≤ 0)] | rw [Int.natAbs_of_nonneg (by omega : 0 ≤ a)]) <;>
    (first | rw [Int.ofNat_natAbs_of_nonpos (by omega : b ≤ 0)] | rw [Int.natAbs_of_nonneg (by omega : 0 ≤ b)]) <;> simp [Int.neg_mul, Int.mul_neg]
set_option maxRecDepth 100000 in
set_option maxHeartbeats 400000 in
theorem mul_any (a b : Int) (w : World) (ha0 : -9223372036854775808 ≤ a) (ha1 : a ≤ 9223372036854775807) (hb0 : -9223372036854775808 ≤ b) (hb1 : b ≤ 9223372036854775807) :
    Calls Tryd.prog 23 #[.int .i64 a, .int .i64 b] w fun e w' => e = .returned (.int .i64 (lim (a * b))) ∧ w = w' := by
  have B := Lib.hid (fun neg w => by_mul a b neg _ _ w ha0 ha1 hb0 hb1 (Lib.hid fun w => op_mul a.natAbs b.natAbs w (abs_lt a ha0 ha1) (abs_lt b hb0 hb1)))
  have HR := Lib.hid (show byS (!(decide (a < 0) == decide (b < 0))) (decide (18446744073709551616 ≤ a.natAbs * b.natAbs)) (a.natAbs * b.natAbs % 18446744073709551616) = lim (a * b) by rw [byS_lim, sg_mul])
  clear ha0 ha1 hb0 hb1
  generalize lim (a * b) = R at *
  generalize a.natAbs * b.natAbs = t at *
  go_enter Tryd.func23, Tryd.ntmps23
  go_wp2_with fail
  refine (B.out _ _).mono ?_; rintro e w1 ⟨rfl, rfl⟩
  rw [HR.out]
  go_wp2_with fail
  go_ret
  exact ⟨rfl, rfl⟩

end Go.Proofs.YtfjjkffoafcakaaDoor
