/- NumDivides: for all a and b up to the limit in absolute value, with b other than 0, b times the quotient plus the remainder is a, the remainder is 0 or has the sign of a, and is less than b in absolute value; the sign of the quotient follows those of a and b; and division by 0 is refused. -/
import Derived.Test.YtfjjkffoafcakaaDoorNumSat
namespace Go.Proofs.YtfjjkffoafcakaaDoor
open Go.RowKit


abbrev Pair2 (a : World) (f : FuncId) (x y v : Int) (ok : Bool) : Prop := ∀ w, Below a.heap.size a w → Calls Tryd.prog f #[.int .i64 x, .int .i64 y] w fun e w' => e = .returned (.tuple #[.int .i64 v, .bool ok]) ∧ Below w.heap.size w w'
theorem divN {a : World} {x y v : Int} (hx : In64 x) (hy : In64 y) (hz : y ≠ 0) (e : lim (x.tdiv y) = v) : Pair2 a 11 x y v true := fun w _ => e ▸ (div_any x y w hx.1 hx.2 hy.1 hy.2 hz).mono fun _ _ ⟨h, k⟩ => ⟨h, below_of_drew k⟩
theorem modN {a : World} {x y v : Int} (hx : In64 x) (hy : In64 y) (hz : y ≠ 0) (e : lim (x.tmod y) = v) : Pair2 a 13 x y v true := fun w _ => e ▸ (mod_any x y w hx.1 hx.2 hy.1 hy.2 hz).mono fun _ _ ⟨h, k⟩ => ⟨h, below_of_drew k⟩
theorem div0 (a : World) (x : Int) : Pair2 a 11 x 0 0 false := fun w _ => (div_zero x w).mono fun _ _ ⟨h, k⟩ => ⟨h, k ▸ Below.refl _ _⟩
theorem mod0 (a : World) (x : Int) : Pair2 a 13 x 0 0 false := fun w _ => (mod_zero x w).mono fun _ _ ⟨h, k⟩ => ⟨h, k ▸ Below.refl _ _⟩
theorem lim_in {n : Int} (h0 : -1125899906842624 ≤ n) (h : n ≤ 1125899906842624) : lim n = n := by
  unfold lim clampS; rw [if_neg (by omega), if_neg (by omega)]
theorem tdiv_in {a b : Int} (h0 : -1125899906842624 ≤ a) (h1 : a ≤ 1125899906842624) : -1125899906842624 ≤ a.tdiv b ∧ a.tdiv b ≤ 1125899906842624 := by
  have := Int.natAbs_tdiv_le_natAbs a b
  omega
theorem tmod_abs {a b : Int} (hb : b ≠ 0) : (a.tmod b).natAbs < b.natAbs ∧ (a.tmod b).natAbs ≤ a.natAbs ∧ (0 ≤ a → 0 ≤ a.tmod b) ∧ (a ≤ 0 → a.tmod b ≤ 0) := by
  rw [Int.natAbs_tmod]
  have h1 := Nat.mod_lt a.natAbs (show 0 < b.natAbs by omega)
  have h2 := Nat.mod_le a.natAbs b.natAbs
  refine ⟨h1, h2, fun h => Int.tmod_nonneg b h, fun h => ?_⟩
  have := Int.tmod_nonneg b (show 0 ≤ -a by omega)
  rw [Int.neg_tmod] at this; omega

set_option maxRecDepth 100000 in
set_option maxHeartbeats 2000000 in
theorem divides_core (a b q r n : Int) (w : World) (S : Hid (Calls Tryd.prog 8 #[] w fun e w' => e = .returned (.bool true) ∧ Below w.heap.size w w')) (ha0 : -1125899906842624 ≤ a) (ha1 : a ≤ 1125899906842624) (hb0 : -1125899906842624 ≤ b) (hb1 : b ≤ 1125899906842624) (hz : (b == 0) = false)
    (hm : max b (-b) = n) (hq0 : -1125899906842624 ≤ q) (hq1 : q ≤ 1125899906842624) (hr0 : -1125899906842624 ≤ r) (hr1 : r ≤ 1125899906842624) (hn : -1125899906842624 ≤ n) (hn2 : n ≤ 1125899906842624) (hbq0 : -2251799813685248 ≤ b * q) (hbq1 : b * q ≤ 2251799813685248)
    (he : (b * q + r == a) = true) (hlo : decide (-n < r) = true) (hhi : decide (r < n) = true) (hs : (r == 0) = true ∨ (r == 0) = false ∧ (decide (r < 0) == decide (a < 0)) = true)
    (D1 : Hid (Pair2 w 11 a b q true)) (D2 : Hid (Pair2 w 11 (-a) b (-q) true)) (D3 : Hid (Pair2 w 11 a (-b) (-q) true)) (M1 : Hid (Pair2 w 13 a b r true)) (M2 : Hid (Pair2 w 13 (-a) b (-r) true)) :
    Calls Tryd.prog 6 #[.int .i64 a, .int .i64 b] w fun e w' => e = .returned (.bool true) ∧ Below w.heap.size w w' := by
  have Z1 := Lib.hid (div0 w a)
  have Z2 := Lib.hid (mod0 w a)
  rcases hs with hs | ⟨hs, hs2⟩
  all_goals
    go_enter Tryd.func6, Tryd.ntmps6
    go_wp2_with fail
    refine S.out.mono ?_; rintro e w1 ⟨rfl, b1⟩
    have B := Lib.hid b1
    clear b1
    go_wp2_with fail
    (with_reducible refine (Z1.out _ B.out).mono ?_); rintro e w1 ⟨rfl, b1⟩
    replace B := Lib.hid (B.out.trans (b1.mono B.out.size))
    clear b1
    go_wp2_with fail
    (with_reducible refine (Z2.out _ B.out).mono ?_); rintro e w1 ⟨rfl, b1⟩
    replace B := Lib.hid (B.out.trans (b1.mono B.out.size))
    clear b1
    go_wp2_with fail
    (with_reducible refine (D1.out _ B.out).mono ?_); rintro e w1 ⟨rfl, b1⟩
    replace B := Lib.hid (B.out.trans (b1.mono B.out.size))
    clear b1
    go_wp2_with fail
    (with_reducible refine (M1.out _ B.out).mono ?_); rintro e w1 ⟨rfl, b1⟩
    replace B := Lib.hid (B.out.trans (b1.mono B.out.size))
    clear b1
    go_wp2_with fail
    (with_reducible refine (D2.out _ B.out).mono ?_); rintro e w1 ⟨rfl, b1⟩
    replace B := Lib.hid (B.out.trans (b1.mono B.out.size))
    clear b1
    go_wp2_with fail
    (with_reducible refine (M2.out _ B.out).mono ?_); rintro e w1 ⟨rfl, b1⟩
    replace B := Lib.hid (B.out.trans (b1.mono B.out.size))
    clear b1
    go_wp2_with fail
    (with_reducible refine (D3.out _ B.out).mono ?_); rintro e w1 ⟨rfl, b1⟩
    replace B := Lib.hid (B.out.trans (b1.mono B.out.size))
    clear b1
    go_wp2_with fail
    go_ret
    exact ⟨rfl, B.out⟩

theorem divides_main (a b : Int) (w : World) (hL : Ld w) (ha0 : -1125899906842624 ≤ a) (ha1 : a ≤ 1125899906842624) (hb0 : -1125899906842624 ≤ b) (hb1 : b ≤ 1125899906842624) (hz : b ≠ 0) :
    Calls Tryd.prog 6 #[.int .i64 a, .int .i64 b] w fun e w' => e = .returned (.bool true) ∧ Below w.heap.size w w' := by
  have hq := tdiv_in (b := b) ha0 ha1
  have hr := tmod_abs (a := a) hz
  have hE : b * a.tdiv b + a.tmod b = a := Int.mul_tdiv_add_tmod a b
  have ia : In64 a := by unfold In64; omega
  have ib : In64 b := by unfold In64; omega
  have ia' : In64 (-a) := by unfold In64; omega
  have ib' : In64 (-b) := by unfold In64; omega
  refine divides_core a b (a.tdiv b) (a.tmod b) (max b (-b)) w (Lib.hid (small1_any w hL)) ha0 ha1 hb0 hb1 (by simpa using hz) rfl hq.1 hq.2 (by omega) (by omega) (by omega) (by omega) (by omega) (by omega) (by simpa using hE) (by simp; omega) (by simp; omega) ?_
    (Lib.hid (divN ia ib hz (lim_in hq.1 hq.2))) (Lib.hid (divN ia' ib hz (by rw [Int.neg_tdiv]; exact lim_in (by omega) (by omega)))) (Lib.hid (divN ia ib' (by omega) (by rw [Int.tdiv_neg]; exact lim_in (by omega) (by omega))))
    (Lib.hid (modN ia ib hz (lim_in (by omega) (by omega)))) (Lib.hid (modN ia' ib hz (by rw [Int.neg_tmod]; exact lim_in (by omega) (by omega))))
  by_cases h0 : a.tmod b = 0
  · exact .inl (by simpa using h0)
  · refine .inr ⟨by simpa using h0, ?_⟩
    rw [beq_iff_eq, decide_eq_decide]; omega

set_option maxRecDepth 100000 in
set_option maxHeartbeats 1000000 in
theorem divides_any (a b : Int) (w : World) (hL : Ld w) :
    Calls Tryd.prog 6 #[.int .i64 a, .int .i64 b] w fun e w' => e = .returned (.bool true) ∧ Below w.heap.size w w' := by
  by_cases h : -1125899906842624 ≤ a ∧ a ≤ 1125899906842624 ∧ -1125899906842624 ≤ b ∧ b ≤ 1125899906842624 ∧ b ≠ 0
  · obtain ⟨h1, h2, h3, h4, h5⟩ := h
    exact divides_main a b w hL h1 h2 h3 h4 h5
  · have S := Lib.hid (small1_any w hL)
    have Z1 := Lib.hid (div0 w a)
    have Z2 := Lib.hid (mod0 w a)
    have hc : a < -1125899906842624 ∨ ¬ a < -1125899906842624 ∧ 1125899906842624 < a ∨ ¬ a < -1125899906842624 ∧ ¬ 1125899906842624 < a ∧ b < -1125899906842624 ∨ ¬ a < -1125899906842624 ∧ ¬ 1125899906842624 < a ∧ ¬ b < -1125899906842624 ∧ 1125899906842624 < b ∨ ¬ a < -1125899906842624 ∧ ¬ 1125899906842624 < a ∧ ¬ b < -1125899906842624 ∧ ¬ 1125899906842624 < b ∧ b = 0 := by omega
    clear h hL
    rcases hc with h1 | ⟨h1, h2⟩ | ⟨h1, h2, h3⟩ | ⟨h1, h2, h3, h4⟩ | ⟨h1, h2, h3, h4, rfl⟩
    all_goals
      go_enter Tryd.func6, Tryd.ntmps6
      go_wp2_with fail
      refine S.out.mono ?_; rintro e w1 ⟨rfl, b1⟩
      have B := Lib.hid b1
      clear b1
      go_wp2_with fail
      (with_reducible refine (Z1.out _ B.out).mono ?_); rintro e w1 ⟨rfl, b1⟩
      replace B := Lib.hid (B.out.trans (b1.mono B.out.size))
      clear b1
      go_wp2_with fail
      (with_reducible refine (Z2.out _ B.out).mono ?_); rintro e w1 ⟨rfl, b1⟩
      replace B := Lib.hid (B.out.trans (b1.mono B.out.size))
      clear b1
      go_wp2_with fail
      go_ret
      exact ⟨rfl, B.out⟩

end Go.Proofs.YtfjjkffoafcakaaDoor
