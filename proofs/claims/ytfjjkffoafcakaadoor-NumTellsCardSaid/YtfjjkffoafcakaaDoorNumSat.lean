/- NumSaturates (THE STAGE's THEOREM): for all non-negative a, b and c, addition and multiplication are commutative and associative, multiplication distributes over addition, 0 and 1 are neutral up to the limit, and limiting the arguments first changes no result. -/
import Derived.Test.YtfjjkffoafcakaaDoorNumSmall
namespace Go.Proofs.YtfjjkffoafcakaaDoor
open Go.RowKit


theorem lim_pos {n : Int} (h : 0 ≤ n) : lim n = min n 1125899906842624 := by
  unfold lim clampS; split
  · omega
  · split <;> omega
theorem lim_nn {n : Int} (h : 0 ≤ n) : 0 ≤ lim n ∧ lim n ≤ 1125899906842624 := by rw [lim_pos h]; omega
theorem lim_add {x c : Int} (hx : 0 ≤ x) (hc : 0 ≤ c) : lim (lim x + c) = lim (x + c) := by
  rw [lim_pos hx, lim_pos (by omega), lim_pos (by omega)]; omega
theorem lim_mul {x c : Int} (hx : 0 ≤ x) (hc : 0 ≤ c) : lim (lim x * c) = lim (x * c) := by
  by_cases h : x ≤ 1125899906842624
  · rw [show lim x = x by rw [lim_pos hx]; omega]
  · rw [show lim x = 1125899906842624 by rw [lim_pos hx]; omega]
    rcases Int.lt_or_eq_of_le hc with h1 | h1
    · have h2 : 1125899906842624 * 1 ≤ 1125899906842624 * c := Int.mul_le_mul_of_nonneg_left (by omega) (by omega)
      have h3 : x * 1 ≤ x * c := Int.mul_le_mul_of_nonneg_left (by omega) hx
      rw [lim_pos (by omega), lim_pos (by omega)]; omega
    · rw [← h1]; simp
theorem lim_self {n : Int} (h0 : 0 ≤ n) (h : n ≤ 1125899906842624) : lim n = n := by rw [lim_pos h0]; omega
theorem sat_addA {a b c : Int} (ha : 0 ≤ a) (hb : 0 ≤ b) (hc : 0 ≤ c) : lim (a + lim (b + c)) = lim (lim (a + b) + c) := by
  rw [Int.add_comm a, lim_add (by omega) ha, lim_add (by omega) hc]; congr 1; omega
theorem sat_mulA {a b c : Int} (ha : 0 ≤ a) (hb : 0 ≤ b) (hc : 0 ≤ c) : lim (a * lim (b * c)) = lim (lim (a * b) * c) := by
  rw [Int.mul_comm a, lim_mul (Int.mul_nonneg hb hc) ha, lim_mul (Int.mul_nonneg ha hb) hc, Int.mul_comm (b * c) a, Int.mul_assoc]
theorem sat_dist {a b c : Int} (ha : 0 ≤ a) (hb : 0 ≤ b) (hc : 0 ≤ c) : lim (lim (a * b) + lim (a * c)) = lim (a * lim (b + c)) := by
  have h1 := Int.mul_nonneg ha hb
  have h2 := Int.mul_nonneg ha hc
  rw [lim_add h1 (lim_nn h2).1, Int.add_comm (a * b), lim_add h2 h1, Int.mul_comm a (lim (b + c)), lim_mul (by omega) ha, Int.add_mul, Int.mul_comm b a, Int.mul_comm c a, Int.add_comm]
theorem sat_clamp {a : Int} (ha : 0 ≤ a) : clampS a 0 1125899906842624 = lim a := by
  rw [lim_pos ha]; unfold clampS; rw [if_neg (by omega)]; split <;> omega
abbrev Num2 (f : FuncId) (x y v : Int) : Prop := ∀ w, Calls Tryd.prog f #[.int .i64 x, .int .i64 y] w fun e w' => e = .returned (.int .i64 v) ∧ w = w'
def In64 (x : Int) : Prop := -9223372036854775808 ≤ x ∧ x ≤ 9223372036854775807
theorem in64_lim (x : Int) : In64 (lim x) := by
  unfold In64 lim clampS; split
  · omega
  · split <;> omega
theorem addN {x y v : Int} (hx : In64 x) (hy : In64 y) (e : lim (x + y) = v) : Num2 19 x y v := fun w => e ▸ add_any x y w hx.1 hx.2 hy.1 hy.2
theorem mulN {x y v : Int} (hx : In64 x) (hy : In64 y) (e : lim (x * y) = v) : Num2 23 x y v := fun w => e ▸ mul_any x y w hx.1 hx.2 hy.1 hy.2

set_option maxRecDepth 100000 in
set_option maxHeartbeats 1000000 in
theorem saturates_main (a b c : Int) (w : World) (hL : Ld w) (ia : In64 a) (ib : In64 b) (ic : In64 c) (ha : 0 ≤ a) (hb : 0 ≤ b) (hc : 0 ≤ c) :
    Calls Tryd.prog 5 #[.int .i64 a, .int .i64 b, .int .i64 c] w fun e w' => e = .returned (.bool true) ∧ Below w.heap.size w w' := by
  have S := Lib.hid (small1_any w hL)
  have E1 : Hid (Num2 _ a b _) := Lib.hid (addN ia ib rfl)
  have E2 : Hid (Num2 _ b a (lim (a + b))) := Lib.hid (addN ib ia (by rw [Int.add_comm]))
  have E3 : Hid (Num2 _ a b _) := Lib.hid (mulN ia ib rfl)
  have E4 : Hid (Num2 _ b a (lim (a * b))) := Lib.hid (mulN ib ia (by rw [Int.mul_comm]))
  have E5 : Hid (Num2 _ (lim (a + b)) c _) := Lib.hid (addN (in64_lim _) ic rfl)
  have E6 : Hid (Num2 _ b c _) := Lib.hid (addN ib ic rfl)
  have E7 : Hid (Num2 _ a (lim (b + c)) (lim (lim (a + b) + c))) := Lib.hid (addN ia (in64_lim _) (sat_addA ha hb hc))
  have E8 : Hid (Num2 _ (lim (a * b)) c _) := Lib.hid (mulN (in64_lim _) ic rfl)
  have E9 : Hid (Num2 _ b c _) := Lib.hid (mulN ib ic rfl)
  have E10 : Hid (Num2 _ a (lim (b * c)) (lim (lim (a * b) * c))) := Lib.hid (mulN ia (in64_lim _) (sat_mulA ha hb hc))
  have E11 : Hid (Num2 _ a (lim (b + c)) _) := Lib.hid (mulN ia (in64_lim _) rfl)
  have E12 : Hid (Num2 _ a c _) := Lib.hid (mulN ia ic rfl)
  have E13 : Hid (Num2 _ (lim (a * b)) (lim (a * c)) (lim (a * lim (b + c)))) := Lib.hid (addN (in64_lim _) (in64_lim _) (sat_dist ha hb hc))
  have E14 := Lib.hid (fun w => sat_clamp ha ▸ clamp_any a 0 1125899906842624 w)
  have E15 := Lib.hid (fun w => sat_clamp hb ▸ clamp_any b 0 1125899906842624 w)
  have E16 : Hid (Num2 _ a 0 (lim a)) := Lib.hid (addN ia (by unfold In64; omega) (by rw [Int.add_zero]))
  have E17 : Hid (Num2 _ a 1 (lim a)) := Lib.hid (mulN ia (by unfold In64; omega) (by rw [Int.mul_one]))
  have E18 : Hid (Num2 _ a 0 0) := Lib.hid (mulN ia (by unfold In64; omega) (by rw [Int.mul_zero]; rfl))
  have E19 : Hid (Num2 _ (lim a) (lim b) (lim (a + b))) := Lib.hid (addN (in64_lim _) (in64_lim _) (by rw [lim_add ha (lim_nn hb).1, Int.add_comm, lim_add hb ha, Int.add_comm]))
  have E20 : Hid (Num2 _ (lim a) (lim b) (lim (a * b))) := Lib.hid (mulN (in64_lim _) (in64_lim _) (by rw [lim_mul ha (lim_nn hb).1, Int.mul_comm, lim_mul hb ha, Int.mul_comm]))
  clear hL ia ib ic
  generalize lim (a * lim (b + c)) = r11 at *
  generalize lim (lim (a * b) * c) = r8 at *
  generalize lim (lim (a + b) + c) = r5 at *
  generalize lim (a + b) = r1 at *
  generalize lim (a * b) = r3 at *
  generalize lim (b + c) = r6 at *
  generalize lim (b * c) = r9 at *
  generalize lim (a * c) = r12 at *
  generalize lim a = ra at *
  generalize lim b = rb at *
  go_enter Tryd.func5, Tryd.ntmps5
  go_wp2_with fail
  refine S.out.mono ?_; rintro e w1 ⟨rfl, b1⟩
  go_wp2_with fail
  (with_reducible refine (E1.out _).mono ?_); rintro e w1 ⟨rfl, rfl⟩
  go_wp2_with fail
  (with_reducible refine (E2.out _).mono ?_); rintro e w1 ⟨rfl, rfl⟩
  go_wp2_with fail
  (with_reducible refine (E3.out _).mono ?_); rintro e w1 ⟨rfl, rfl⟩
  go_wp2_with fail
  (with_reducible refine (E4.out _).mono ?_); rintro e w1 ⟨rfl, rfl⟩
  go_wp2_with fail
  (with_reducible refine (E1.out _).mono ?_); rintro e w1 ⟨rfl, rfl⟩
  go_wp2_with fail
  (with_reducible refine (E5.out _).mono ?_); rintro e w1 ⟨rfl, rfl⟩
  go_wp2_with fail
  (with_reducible refine (E6.out _).mono ?_); rintro e w1 ⟨rfl, rfl⟩
  go_wp2_with fail
  (with_reducible refine (E7.out _).mono ?_); rintro e w1 ⟨rfl, rfl⟩
  go_wp2_with fail
  (with_reducible refine (E3.out _).mono ?_); rintro e w1 ⟨rfl, rfl⟩
  go_wp2_with fail
  (with_reducible refine (E8.out _).mono ?_); rintro e w1 ⟨rfl, rfl⟩
  go_wp2_with fail
  (with_reducible refine (E9.out _).mono ?_); rintro e w1 ⟨rfl, rfl⟩
  go_wp2_with fail
  (with_reducible refine (E10.out _).mono ?_); rintro e w1 ⟨rfl, rfl⟩
  go_wp2_with fail
  (with_reducible refine (E6.out _).mono ?_); rintro e w1 ⟨rfl, rfl⟩
  go_wp2_with fail
  (with_reducible refine (E11.out _).mono ?_); rintro e w1 ⟨rfl, rfl⟩
  go_wp2_with fail
  (with_reducible refine (E3.out _).mono ?_); rintro e w1 ⟨rfl, rfl⟩
  go_wp2_with fail
  (with_reducible refine (E12.out _).mono ?_); rintro e w1 ⟨rfl, rfl⟩
  go_wp2_with fail
  (with_reducible refine (E13.out _).mono ?_); rintro e w1 ⟨rfl, rfl⟩
  go_wp2_with fail
  (with_reducible refine (E14.out _).mono ?_); rintro e w1 ⟨rfl, rfl⟩
  go_wp2_with fail
  (with_reducible refine (E15.out _).mono ?_); rintro e w1 ⟨rfl, rfl⟩
  go_wp2_with fail
  (with_reducible refine (E16.out _).mono ?_); rintro e w1 ⟨rfl, rfl⟩
  go_wp2_with fail
  (with_reducible refine (E17.out _).mono ?_); rintro e w1 ⟨rfl, rfl⟩
  go_wp2_with fail
  (with_reducible refine (E18.out _).mono ?_); rintro e w1 ⟨rfl, rfl⟩
  go_wp2_with fail
  (with_reducible refine (E19.out _).mono ?_); rintro e w1 ⟨rfl, rfl⟩
  go_wp2_with fail
  (with_reducible refine (E1.out _).mono ?_); rintro e w1 ⟨rfl, rfl⟩
  go_wp2_with fail
  (with_reducible refine (E20.out _).mono ?_); rintro e w1 ⟨rfl, rfl⟩
  go_wp2_with fail
  (with_reducible refine (E3.out _).mono ?_); rintro e w1 ⟨rfl, rfl⟩
  go_wp2_with fail
  go_ret
  exact ⟨rfl, b1⟩

set_option maxRecDepth 100000 in
theorem saturates_any (a b c : Int) (w : World) (hL : Ld w) (ia : In64 a) (ib : In64 b) (ic : In64 c) :
    Calls Tryd.prog 5 #[.int .i64 a, .int .i64 b, .int .i64 c] w fun e w' => e = .returned (.bool true) ∧ Below w.heap.size w w' := by
  have S := Lib.hid (small1_any w hL)
  by_cases ha : a < 0
  · clear hL ia ib ic
    go_enter Tryd.func5, Tryd.ntmps5
    go_wp2_with fail
    refine S.out.mono ?_; rintro e w1 ⟨rfl, b1⟩
    go_wp2_with fail
    go_ret
    exact ⟨rfl, b1⟩
  · by_cases hb : b < 0
    · clear hL ia ib ic
      go_enter Tryd.func5, Tryd.ntmps5
      go_wp2_with fail
      refine S.out.mono ?_; rintro e w1 ⟨rfl, b1⟩
      go_wp2_with fail
      go_ret
      exact ⟨rfl, b1⟩
    · by_cases hc : c < 0
      · clear hL ia ib ic
        go_enter Tryd.func5, Tryd.ntmps5
        go_wp2_with fail
        refine S.out.mono ?_; rintro e w1 ⟨rfl, b1⟩
        go_wp2_with fail
        go_ret
        exact ⟨rfl, b1⟩
      · exact saturates_main a b c w hL ia ib ic (by omega) (by omega) (by omega)

end Go.Proofs.YtfjjkffoafcakaaDoor
