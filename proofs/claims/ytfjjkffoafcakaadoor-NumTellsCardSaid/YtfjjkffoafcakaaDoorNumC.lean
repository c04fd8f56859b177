/- Package num: Div, Mod. -/
import Derived.Test.YtfjjkffoafcakaaDoorNumB
import Derived.Deep.QuietTactic
import Derived.BigQuiet
namespace Go.Proofs.YtfjjkffoafcakaaDoor
open Go.RowKit


set_option maxRecDepth 100000 in
set_option maxHeartbeats 400000 in
theorem op_div (x y : Nat) (w : World) (hy : 0 < y) (hx : x < 18446744073709551616) :
    Calls Tryd.prog 28 #[.int .u64 (x : Int), .int .u64 (y : Int)] w fun e w' => e = .returned (.tuple #[.bool false, .int .u64 ((x / y : Nat) : Int)]) ∧ ∃ k, w' = w.drewN k := by
  have h1 : IntKind.u64.wrap ((x : Int) / (y : Int)) = ((x / y : Nat) : Int) := by have hq : x / y ≤ x := Nat.div_le_self _ _; rw [wrap_u64, ← Int.natCast_ediv]; generalize x / y = q at *; omega
  have H1 := Lib.hid h1
  clear h1
  have h2 : x / y < 18446744073709551616 := Nat.lt_of_le_of_lt (Nat.div_le_self _ _) hx
  have hy2 : ¬ ((y : Int) = 0) := by omega
  have hy3 : ((y : Int) == 0) = false := by simpa using hy2
  go_enter Tryd.func28, Tryd.ntmps28
  go_wp2_with fail
  go_quiet (fail)
  go_wp2_with fail
  go_ret2
  rw [← H1.out]
  exact ⟨rfl, _, rfl⟩

set_option maxRecDepth 100000 in
set_option maxHeartbeats 400000 in
theorem op_mod (x y : Nat) (w : World) (hy : 0 < y) (hyl : y < 18446744073709551616) :
    Calls Tryd.prog 31 #[.int .u64 (x : Int), .int .u64 (y : Int)] w fun e w' => e = .returned (.tuple #[.bool false, .int .u64 ((x % y : Nat) : Int)]) ∧ ∃ k, w' = w.drewN k := by
  have h1 : (x : Int) % (y : Int) = ((x % y : Nat) : Int) := by simp
  have H1 := Lib.hid h1
  clear h1
  have h2 : x % y < 18446744073709551616 := Nat.lt_trans (Nat.mod_lt _ hy) hyl
  have hy2 : ¬ ((y : Int) = 0) := by omega
  have hy3 : ((y : Int) == 0) = false := by simpa using hy2
  go_enter Tryd.func31, Tryd.ntmps31
  go_wp2_with fail
  go_quiet (fail)
  go_wp2_with fail
  go_ret2
  rw [← H1.out]
  exact ⟨rfl, _, rfl⟩

set_option maxRecDepth 100000 in
set_option maxHeartbeats 1000000 in
theorem by_div (x y : Int) (neg ov : Bool) (z : Nat) (w : World) (hx0 : -9223372036854775808 ≤ x) (hx1 : x ≤ 9223372036854775807) (hy0 : -9223372036854775808 ≤ y) (hy1 : y ≤ 9223372036854775807)
    (C : Hid (∀ w, Calls Tryd.prog 28 #[.int .u64 (x.natAbs : Int), .int .u64 (y.natAbs : Int)] w fun e w' => e = .returned (.tuple #[.bool ov, .int .u64 (z : Int)]) ∧ ∃ k, w' = w.drewN k)) :
    Calls Tryd.prog 27 #[.int .i64 x, .int .i64 y, .bool neg, .func (.func 28) #[] #[]] w fun e w' => e = .returned (.int .i64 (byS neg ov z)) ∧ ∃ k, w' = w.drewN k := by
  have X := Lib.hid (fun w => abs_any x w hx0 hx1)
  have Y := Lib.hid (fun w => abs_any y w hy0 hy1)
  clear hx0 hx1 hy0 hy1
  have HB := Lib.hid (show byS neg ov z = sg neg (if ov = true ∨ 1125899906842624 < z then 1125899906842624 else z) from rfl)
  by_cases h : ov = true ∨ 1125899906842624 < z
  · have HR := Lib.hid (show byS neg ov z = sg neg 1125899906842624 by rw [HB.out, if_pos h])
    clear HB
    cases ov
    · have hz : 1125899906842624 < z := by simpa using h
      clear h
      go_enter Tryd.func27, Tryd.ntmps27
      go_wp2_with fail
      refine (X.out _).mono ?_; rintro e w1 ⟨rfl, rfl⟩
      go_wp2_with fail
      refine (Y.out _).mono ?_; rintro e w1 ⟨rfl, rfl⟩
      go_wp2_with fail
      refine (C.out _).mono ?_; rintro e w1 ⟨rfl, kk, rfl⟩
      cases neg
      · go_wp2_with fail
        go_ret
        rw [HR.out]; exact ⟨rfl, kk, rfl⟩
      · go_wp2_with fail
        go_ret
        rw [HR.out]; exact ⟨rfl, kk, rfl⟩
    · clear h
      go_enter Tryd.func27, Tryd.ntmps27
      go_wp2_with fail
      refine (X.out _).mono ?_; rintro e w1 ⟨rfl, rfl⟩
      go_wp2_with fail
      refine (Y.out _).mono ?_; rintro e w1 ⟨rfl, rfl⟩
      go_wp2_with fail
      refine (C.out _).mono ?_; rintro e w1 ⟨rfl, kk, rfl⟩
      cases neg
      · go_wp2_with fail
        go_ret
        rw [HR.out]; exact ⟨rfl, kk, rfl⟩
      · go_wp2_with fail
        go_ret
        rw [HR.out]; exact ⟨rfl, kk, rfl⟩
  · have HR := Lib.hid (show byS neg ov z = sg neg z by rw [HB.out, if_neg h])
    obtain ⟨h1, h2⟩ : ov = false ∧ z ≤ 1125899906842624 := by cases ov <;> simp at h ⊢; exact h
    subst h1
    clear HB h
    have E1 := Lib.hid (show IntKind.i64.wrap (z : Int) = (z : Int) by rw [IntKind.wrap_i64]; omega)
    go_enter Tryd.func27, Tryd.ntmps27
    go_wp2_with fail
    refine (X.out _).mono ?_; rintro e w1 ⟨rfl, rfl⟩
    go_wp2_with fail
    refine (Y.out _).mono ?_; rintro e w1 ⟨rfl, rfl⟩
    go_wp2_with fail
    refine (C.out _).mono ?_; rintro e w1 ⟨rfl, kk, rfl⟩
    cases neg
    · go_wp2_with fail
      go_ret
      rw [HR.out]; exact ⟨rfl, kk, rfl⟩
    · go_wp2_with fail
      go_ret
      rw [HR.out]; exact ⟨rfl, kk, rfl⟩

set_option maxRecDepth 100000 in
set_option maxHeartbeats 1000000 in
theorem by_mod (x y : Int) (neg ov : Bool) (z : Nat) (w : World) (hx0 : -9223372036854775808 ≤ x) (hx1 : x ≤ 9223372036854775807) (hy0 : -9223372036854775808 ≤ y) (hy1 : y ≤ 9223372036854775807)
    (C : Hid (∀ w, Calls Tryd.prog 31 #[.int .u64 (x.natAbs : Int), .int .u64 (y.natAbs : Int)] w fun e w' => e = .returned (.tuple #[.bool ov, .int .u64 (z : Int)]) ∧ ∃ k, w' = w.drewN k)) :
    Calls Tryd.prog 27 #[.int .i64 x, .int .i64 y, .bool neg, .func (.func 31) #[] #[]] w fun e w' => e = .returned (.int .i64 (byS neg ov z)) ∧ ∃ k, w' = w.drewN k := by
  have X := Lib.hid (fun w => abs_any x w hx0 hx1)
  have Y := Lib.hid (fun w => abs_any y w hy0 hy1)
  clear hx0 hx1 hy0 hy1
  have HB := Lib.hid (show byS neg ov z = sg neg (if ov = true ∨ 1125899906842624 < z then 1125899906842624 else z) from rfl)
  by_cases h : ov = true ∨ 1125899906842624 < z
  · have HR := Lib.hid (show byS neg ov z = sg neg 1125899906842624 by rw [HB.out, if_pos h])
    clear HB
    cases ov
    · have hz : 1125899906842624 < z := by simpa using h
      clear h
      go_enter Tryd.func27, Tryd.ntmps27
      go_wp2_with fail
      refine (X.out _).mono ?_; rintro e w1 ⟨rfl, rfl⟩
      go_wp2_with fail
      refine (Y.out _).mono ?_; rintro e w1 ⟨rfl, rfl⟩
      go_wp2_with fail
      refine (C.out _).mono ?_; rintro e w1 ⟨rfl, kk, rfl⟩
      cases neg
      · go_wp2_with fail
        go_ret
        rw [HR.out]; exact ⟨rfl, kk, rfl⟩
      · go_wp2_with fail
        go_ret
        rw [HR.out]; exact ⟨rfl, kk, rfl⟩
    · clear h
      go_enter Tryd.func27, Tryd.ntmps27
      go_wp2_with fail
      refine (X.out _).mono ?_; rintro e w1 ⟨rfl, rfl⟩
      go_wp2_with fail
      refine (Y.out _).mono ?_; rintro e w1 ⟨rfl, rfl⟩
      go_wp2_with fail
      refine (C.out _).mono ?_; rintro e w1 ⟨rfl, kk, rfl⟩
      cases neg
      · go_wp2_with fail
        go_ret
        rw [HR.out]; exact ⟨rfl, kk, rfl⟩
      · go_wp2_with fail
        go_ret
        rw [HR.out]; exact ⟨rfl, kk, rfl⟩
  · have HR := Lib.hid (show byS neg ov z = sg neg z by rw [HB.out, if_neg h])
    obtain ⟨h1, h2⟩ : ov = false ∧ z ≤ 1125899906842624 := by cases ov <;> simp at h ⊢; exact h
    subst h1
    clear HB h
    have E1 := Lib.hid (show IntKind.i64.wrap (z : Int) = (z : Int) by rw [IntKind.wrap_i64]; omega)
    go_enter Tryd.func27, Tryd.ntmps27
    go_wp2_with fail
    refine (X.out _).mono ?_; rintro e w1 ⟨rfl, rfl⟩
    go_wp2_with fail
    refine (Y.out _).mono ?_; rintro e w1 ⟨rfl, rfl⟩
    go_wp2_with fail
    refine (C.out _).mono ?_; rintro e w1 ⟨rfl, kk, rfl⟩
    cases neg
    · go_wp2_with fail
      go_ret
      rw [HR.out]; exact ⟨rfl, kk, rfl⟩
    · go_wp2_with fail
      go_ret
      rw [HR.out]; exact ⟨rfl, kk, rfl⟩

theorem sg_div (a b : Int) : sg (!(decide (a < 0) == decide (b < 0))) (a.natAbs / b.natAbs) = a.tdiv b := by
  unfold sg
  by_cases ha : a < 0 <;> by_cases hb : b < 0
  · rw [decide_eq_true ha, decide_eq_true hb]
    obtain ⟨m, rfl⟩ : ∃ m : Nat, a = -(m : Int) := ⟨a.natAbs, by omega⟩
    obtain ⟨n, rfl⟩ : ∃ n : Nat, b = -(n : Int) := ⟨b.natAbs, by omega⟩
    simp [Int.natAbs_neg, Int.neg_tdiv, Int.tdiv_neg]
  · rw [decide_eq_true ha, decide_eq_false hb]
    obtain ⟨m, rfl⟩ : ∃ m : Nat, a = -(m : Int) := ⟨a.natAbs, by omega⟩
    obtain ⟨n, rfl⟩ : ∃ n : Nat, b = (n : Int) := ⟨b.natAbs, by omega⟩
    simp [Int.natAbs_neg, Int.neg_tdiv, Int.tdiv_neg]
  · rw [decide_eq_false ha, decide_eq_true hb]
    obtain ⟨m, rfl⟩ : ∃ m : Nat, a = (m : Int) := ⟨a.natAbs, by omega⟩
    obtain ⟨n, rfl⟩ : ∃ n : Nat, b = -(n : Int) := ⟨b.natAbs, by omega⟩
    simp [Int.natAbs_neg, Int.neg_tdiv, Int.tdiv_neg]
  · rw [decide_eq_false ha, decide_eq_false hb]
    obtain ⟨m, rfl⟩ : ∃ m : Nat, a = (m : Int) := ⟨a.natAbs, by omega⟩
    obtain ⟨n, rfl⟩ : ∃ n : Nat, b = (n : Int) := ⟨b.natAbs, by omega⟩
    simp
theorem sg_mod (a b : Int) : sg (decide (a < 0)) (a.natAbs % b.natAbs) = a.tmod b := by
  unfold sg
  by_cases ha : a < 0 <;> by_cases hb : b < 0
  · rw [decide_eq_true ha]
    obtain ⟨m, rfl⟩ : ∃ m : Nat, a = -(m : Int) := ⟨a.natAbs, by omega⟩
    obtain ⟨n, rfl⟩ : ∃ n : Nat, b = -(n : Int) := ⟨b.natAbs, by omega⟩
    rw [Int.neg_tmod, Int.tmod_neg, ← Int.ofNat_tmod]; simp
  · rw [decide_eq_true ha]
    obtain ⟨m, rfl⟩ : ∃ m : Nat, a = -(m : Int) := ⟨a.natAbs, by omega⟩
    obtain ⟨n, rfl⟩ : ∃ n : Nat, b = (n : Int) := ⟨b.natAbs, by omega⟩
    rw [Int.neg_tmod, ← Int.ofNat_tmod]; simp
  · rw [decide_eq_false ha]
    obtain ⟨m, rfl⟩ : ∃ m : Nat, a = (m : Int) := ⟨a.natAbs, by omega⟩
    obtain ⟨n, rfl⟩ : ∃ n : Nat, b = -(n : Int) := ⟨b.natAbs, by omega⟩
    rw [Int.tmod_neg, ← Int.ofNat_tmod]; simp
  · rw [decide_eq_false ha]
    obtain ⟨m, rfl⟩ : ∃ m : Nat, a = (m : Int) := ⟨a.natAbs, by omega⟩
    obtain ⟨n, rfl⟩ : ∃ n : Nat, b = (n : Int) := ⟨b.natAbs, by omega⟩
    rw [← Int.ofNat_tmod]; simp

set_option maxRecDepth 100000 in
set_option maxHeartbeats 400000 in
theorem div_any (a b : Int) (w : World) (ha0 : -9223372036854775808 ≤ a) (ha1 : a ≤ 9223372036854775807) (hb0 : -9223372036854775808 ≤ b) (hb1 : b ≤ 9223372036854775807) (hz : b ≠ 0) :
    Calls Tryd.prog 11 #[.int .i64 a, .int .i64 b] w fun e w' => e = .returned (.tuple #[.int .i64 (lim (a.tdiv b)), .bool true]) ∧ ∃ k, w' = w.drewN k := by
  have B := Lib.hid (fun neg w => by_div a b neg _ _ w ha0 ha1 hb0 hb1 (Lib.hid fun w => op_div a.natAbs b.natAbs w (by omega) (by omega)))
  have HR := Lib.hid (show byS (!(decide (a < 0) == decide (b < 0))) false (a.natAbs / b.natAbs) = lim (a.tdiv b) by rw [byS_small _ _ (Nat.lt_of_le_of_lt (Nat.div_le_self _ _) (abs_lt a ha0 ha1)), sg_div])
  have hz2 : (b == 0) = false := by simpa using hz
  clear ha0 ha1 hb0 hb1 hz
  generalize lim (a.tdiv b) = R at *
  generalize a.natAbs / b.natAbs = t at *
  go_enter Tryd.func11, Tryd.ntmps11
  go_wp2_with fail
  refine (B.out _ _).mono ?_; rintro e w1 ⟨rfl, kk, rfl⟩
  rw [HR.out]
  go_wp2_with fail
  go_ret2
  exact ⟨rfl, kk, rfl⟩
set_option maxHeartbeats 400000 in
theorem div_zero (a : Int) (w : World) :
    Calls Tryd.prog 11 #[.int .i64 a, .int .i64 0] w fun e w' => e = .returned (.tuple #[.int .i64 0, .bool false]) ∧ w = w' := by
  go_enter Tryd.func11, Tryd.ntmps11
  go_wp2_with fail
  go_ret2
  exact ⟨rfl, rfl⟩

set_option maxRecDepth 100000 in
set_option maxHeartbeats 400000 in
theorem mod_any (a b : Int) (w : World) (ha0 : -9223372036854775808 ≤ a) (ha1 : a ≤ 9223372036854775807) (hb0 : -9223372036854775808 ≤ b) (hb1 : b ≤ 9223372036854775807) (hz : b ≠ 0) :
    Calls Tryd.prog 13 #[.int .i64 a, .int .i64 b] w fun e w' => e = .returned (.tuple #[.int .i64 (lim (a.tmod b)), .bool true]) ∧ ∃ k, w' = w.drewN k := by
  have B := Lib.hid (fun neg w => by_mod a b neg _ _ w ha0 ha1 hb0 hb1 (Lib.hid fun w => op_mod a.natAbs b.natAbs w (by omega) (by omega)))
  have HR := Lib.hid (show byS (decide (a < 0)) false (a.natAbs % b.natAbs) = lim (a.tmod b) by rw [byS_small _ _ (Nat.lt_of_le_of_lt (Nat.mod_le _ _) (abs_lt a ha0 ha1)), sg_mod])
  have hz2 : (b == 0) = false := by simpa using hz
  clear ha0 ha1 hb0 hb1 hz
  generalize lim (a.tmod b) = R at *
  generalize a.natAbs % b.natAbs = t at *
  go_enter Tryd.func13, Tryd.ntmps13
  go_wp2_with fail
  refine (B.out _ _).mono ?_; rintro e w1 ⟨rfl, kk, rfl⟩
  rw [HR.out]
  go_wp2_with fail
  go_ret2
  exact ⟨rfl, kk, rfl⟩
set_option maxHeartbeats 400000 in
theorem mod_zero (a : Int) (w : World) :
    Calls Tryd.prog 13 #[.int .i64 a, .int .i64 0] w fun e w' => e = .returned (.tuple #[.int .i64 0, .bool false]) ∧ w = w' := by
  go_enter Tryd.func13, Tryd.ntmps13
  go_wp2_with fail
  go_ret2
  exact ⟨rfl, rfl⟩

end Go.Proofs.YtfjjkffoafcakaaDoor
