/- NumOrders: for all ints a <= b and c, Add, Sub, Clamp and Text are monotonic or injective as stated; multiplication and division by a positive number keep the order, and subtraction is antisymmetric; all results are within the limit. -/
import Derived.Test.YtfjjkffoafcakaaDoorNumDiv
namespace Go.Proofs.YtfjjkffoafcakaaDoor
open Go.RowKit


theorem subN {x y v : Int} (hx : In64 x) (hy : In64 y) (e : lim (x - y) = v) : Num2 21 x y v := fun w => e ▸ sub_any x y w hx.1 hx.2 hy.1 hy.2
theorem lim_mono {x y : Int} (h : x ≤ y) : lim x ≤ lim y := by
  unfold lim clampS; split <;> split <;> (try split) <;> (try split) <;> omega
theorem lim_bd (x : Int) : -1125899906842624 ≤ lim x ∧ lim x ≤ 1125899906842624 := by
  unfold lim clampS; split
  · omega
  · split <;> omega
theorem lim_neg (x : Int) : lim (-x) = -lim x := by
  unfold lim clampS; split <;> split <;> (try split) <;> (try split) <;> omega
theorem tdiv_mono {a b c : Int} (h : a ≤ b) (hc : 0 < c) : a.tdiv c ≤ b.tdiv c := Int.tdiv_le_tdiv hc h
abbrev Text1 (a : World) (x : Int) (t : List UInt8) : Prop := ∀ w, Below a.heap.size a w → Calls Tryd.prog 15 #[.int .i64 x] w fun e w' => e = .returned (.string ⟨t.toArray⟩) ∧ Below w.heap.size w w'
abbrev Clamp3 (x lo hi v : Int) : Prop := ∀ w, Calls Tryd.prog 17 #[.int .i64 x, .int .i64 lo, .int .i64 hi] w fun e w' => e = .returned (.int .i64 v) ∧ w = w'
theorem divAny {a : World} {x y : Int} (hx : In64 x) (hy : In64 y) : ∃ v ok, Pair2 a 11 x y v ok ∧ (-1125899906842624 ≤ v ∧ v ≤ 1125899906842624) ∧ (0 < y → ok = true ∧ v = lim (x.tdiv y)) := by
  by_cases hz : y = 0
  · subst hz
    exact ⟨0, false, div0 a x, by omega, fun h => by omega⟩
  · exact ⟨_, true, divN hx hy hz rfl, lim_bd _, fun _ => ⟨rfl, rfl⟩⟩

set_option maxRecDepth 100000 in
set_option maxHeartbeats 4000000 in
theorem orders_core (a b c p1 p2 s1 s2 x d e m m2 : Int) (is az : Bool) (ta tb : List UInt8) (w : World) (S : Hid (Calls Tryd.prog 8 #[] w fun e w' => e = .returned (.bool true) ∧ Below w.heap.size w w'))
    (hab : a ≤ b) (hp : p1 ≤ p2) (hs : s1 ≤ s2) (hs0 : -1125899906842624 ≤ s1) (hs1 : s1 ≤ 1125899906842624) (hs2 : -1125899906842624 ≤ s2) (hs3 : s2 ≤ 1125899906842624) (hx0 : a ≤ x) (hx1 : x ≤ b) (hd0 : -1125899906842624 ≤ d) (hd1 : d ≤ 1125899906842624) (hm0 : -1125899906842624 ≤ m) (hm1 : m ≤ 1125899906842624)
    (hx : c < a ∨ ¬ c < a ∧ b < c ∨ ¬ c < a ∧ ¬ b < c ∧ (x == c) = true) (hc : c ≤ 0 ∨ ¬ c ≤ 0 ∧ is = true ∧ az = true ∧ d ≤ e ∧ m ≤ m2) (ht : (a == b) = true ∧ tb = ta ∨ (a == b) = false ∧ (ta == tb) = false)
    (A1 : Hid (Num2 19 a c p1)) (A2 : Hid (Num2 19 b c p2)) (A3 : Hid (Num2 19 c a p1)) (S1 : Hid (Num2 21 a c s1)) (S2 : Hid (Num2 21 b c s2)) (S3 : Hid (Num2 21 c a (-s1))) (S4 : Hid (Num2 21 c b (-s2)))
    (M1 : Hid (Num2 23 a c m)) (M2 : Hid (Num2 23 c a m)) (M3 : Hid (Num2 23 b c m2)) (X1 : Hid (Clamp3 c a b x)) (X2 : Hid (Clamp3 x a b x)) (D1 : Hid (Pair2 w 11 a c d is)) (D2 : Hid (Pair2 w 11 b c e az)) (T1 : Hid (Text1 w a ta)) (T2 : Hid (Text1 w b tb)) :
    Calls Tryd.prog 7 #[.int .i64 a, .int .i64 b, .int .i64 c] w fun e w' => e = .returned (.bool true) ∧ Below w.heap.size w w' := by
  have HX := Lib.hid hx
  have HC := Lib.hid hc
  have HT := Lib.hid ht
  clear hx hc ht
  go_enter Tryd.func7, Tryd.ntmps7
  go_wp2_with fail
  refine S.out.mono ?_; rintro e w1 ⟨rfl, b1⟩
  have B := Lib.hid b1
  clear b1
  go_wp2_with fail
  (with_reducible refine (A1.out _).mono ?_); rintro e w1 ⟨rfl, rfl⟩
  go_wp2_with fail
  (with_reducible refine (A2.out _).mono ?_); rintro e w1 ⟨rfl, rfl⟩
  go_wp2_with fail
  (with_reducible refine (S1.out _).mono ?_); rintro e w1 ⟨rfl, rfl⟩
  go_wp2_with fail
  (with_reducible refine (S2.out _).mono ?_); rintro e w1 ⟨rfl, rfl⟩
  go_wp2_with fail
  (with_reducible refine (S3.out _).mono ?_); rintro e w1 ⟨rfl, rfl⟩
  go_wp2_with fail
  (with_reducible refine (S4.out _).mono ?_); rintro e w1 ⟨rfl, rfl⟩
  go_wp2_with fail
  (with_reducible refine (S1.out _).mono ?_); rintro e w1 ⟨rfl, rfl⟩
  go_wp2_with fail
  (with_reducible refine (S3.out _).mono ?_); rintro e w1 ⟨rfl, rfl⟩
  go_wp2_with fail
  (with_reducible refine (M1.out _).mono ?_); rintro e w1 ⟨rfl, rfl⟩
  go_wp2_with fail
  (with_reducible refine (M2.out _).mono ?_); rintro e w1 ⟨rfl, rfl⟩
  go_wp2_with fail
  (with_reducible refine (A1.out _).mono ?_); rintro e w1 ⟨rfl, rfl⟩
  go_wp2_with fail
  (with_reducible refine (A3.out _).mono ?_); rintro e w1 ⟨rfl, rfl⟩
  go_wp2_with fail
  (with_reducible refine (X1.out _).mono ?_); rintro e w1 ⟨rfl, rfl⟩
  rcases HX.out with hx | ⟨hx, hx'⟩ | ⟨hx, hx', hx''⟩
  all_goals
    go_wp2_with fail
    (with_reducible refine (X2.out _).mono ?_); rintro e w1 ⟨rfl, rfl⟩
    go_wp2_with fail
    (with_reducible refine (D1.out _ B.out).mono ?_); rintro e w1 ⟨rfl, b1⟩
    replace B := Lib.hid (B.out.trans (b1.mono B.out.size))
    clear b1
    go_wp2_with fail
    (with_reducible refine (D2.out _ B.out).mono ?_); rintro e w1 ⟨rfl, b1⟩
    replace B := Lib.hid (B.out.trans (b1.mono B.out.size))
    clear b1
    rcases HC.out with hc | ⟨hc, rfl, rfl, hde, hmm⟩
    rotate_left
    · have hc' : 0 < c := by omega
      go_wp2_with fail
      (with_reducible refine (M1.out _).mono ?_); rintro e w1 ⟨rfl, rfl⟩
      go_wp2_with fail
      (with_reducible refine (M3.out _).mono ?_); rintro e w1 ⟨rfl, rfl⟩
      go_wp2_with fail
      (with_reducible refine (M1.out _).mono ?_); rintro e w1 ⟨rfl, rfl⟩
      go_wp2_with fail
      (with_reducible refine (T1.out _ B.out).mono ?_); rintro e w1 ⟨rfl, b1⟩
      replace B := Lib.hid (B.out.trans (b1.mono B.out.size))
      clear b1
      go_wp2_with fail
      (with_reducible refine (T2.out _ B.out).mono ?_); rintro e w1 ⟨rfl, b1⟩
      replace B := Lib.hid (B.out.trans (b1.mono B.out.size))
      clear b1
      rcases HT.out with ⟨ht, rfl⟩ | ⟨ht, ht'⟩
      all_goals
        go_wp2_with fail
        go_ret
        exact ⟨rfl, B.out⟩
    · have hc' : ¬ 0 < c := by omega
      go_wp2_with fail
      (with_reducible refine (M1.out _).mono ?_); rintro e w1 ⟨rfl, rfl⟩
      go_wp2_with fail
      (with_reducible refine (T1.out _ B.out).mono ?_); rintro e w1 ⟨rfl, b1⟩
      replace B := Lib.hid (B.out.trans (b1.mono B.out.size))
      clear b1
      go_wp2_with fail
      (with_reducible refine (T2.out _ B.out).mono ?_); rintro e w1 ⟨rfl, b1⟩
      replace B := Lib.hid (B.out.trans (b1.mono B.out.size))
      clear b1
      rcases HT.out with ⟨ht, rfl⟩ | ⟨ht, ht'⟩
      all_goals
        go_wp2_with fail
        go_ret
        exact ⟨rfl, B.out⟩

theorem clamp_bd {c a b : Int} (h : a ≤ b) : a ≤ clampS c a b ∧ clampS c a b ≤ b := by
  unfold clampS; split
  · omega
  · split <;> omega
theorem clamp_id {x a b : Int} (h1 : a ≤ x) (h2 : x ≤ b) : clampS x a b = x := clamp_in (by omega) (by omega)

set_option maxRecDepth 100000 in
set_option maxHeartbeats 1000000 in
theorem orders_any (a b c : Int) (w : World) (hL : Ld w) (ia : In64 a) (ib : In64 b) (ic : In64 c) :
    Calls Tryd.prog 7 #[.int .i64 a, .int .i64 b, .int .i64 c] w fun e w' => e = .returned (.bool true) ∧ Below w.heap.size w w' := by
  have S := Lib.hid (small1_any w hL)
  by_cases hab : a ≤ b
  · obtain ⟨d, is, D1, hd, hdc⟩ := divAny (a := w) ia ic
    obtain ⟨e, az, D2, he, hec⟩ := divAny (a := w) ib ic
    have hx := clamp_bd (c := c) hab
    have s1 := lim_bd (a - c)
    have s2 := lim_bd (b - c)
    have m1 := lim_bd (a * c)
    refine orders_core a b c (lim (a + c)) (lim (b + c)) (lim (a - c)) (lim (b - c)) (clampS c a b) d e (lim (a * c)) (lim (b * c)) is az (Lib.itoa a) (Lib.itoa b) w S hab (lim_mono (by omega)) (lim_mono (by omega)) s1.1 s1.2 s2.1 s2.2 hx.1 hx.2 hd.1 hd.2 m1.1 m1.2 ?_ ?_ ?_
      (Lib.hid (addN ia ic rfl)) (Lib.hid (addN ib ic rfl)) (Lib.hid (addN ic ia (by rw [Int.add_comm]))) (Lib.hid (subN ia ic rfl)) (Lib.hid (subN ib ic rfl)) (Lib.hid (subN ic ia (by rw [← lim_neg]; congr 1; omega))) (Lib.hid (subN ic ib (by rw [← lim_neg]; congr 1; omega)))
      (Lib.hid (mulN ia ic rfl)) (Lib.hid (mulN ic ia (by rw [Int.mul_comm]))) (Lib.hid (mulN ib ic rfl)) (Lib.hid fun w => clamp_any c a b w) (Lib.hid fun w => by have := clamp_any (clampS c a b) a b w; rwa [clamp_id hx.1 hx.2] at this) (Lib.hid D1) (Lib.hid D2)
      (Lib.hid fun w1 h => ntext_any a w1 (hL.later h) ia.1 ia.2) (Lib.hid fun w1 h => ntext_any b w1 (hL.later h) ib.1 ib.2)
    · by_cases h1 : c < a
      · exact .inl h1
      · by_cases h2 : b < c
        · exact .inr (.inl ⟨h1, h2⟩)
        · exact .inr (.inr ⟨h1, h2, by rw [clamp_in h1 h2]; simp⟩)
    · by_cases h1 : c ≤ 0
      · exact .inl h1
      · obtain ⟨e1, e2⟩ := hdc (by omega)
        obtain ⟨e3, e4⟩ := hec (by omega)
        exact .inr ⟨h1, e1, e3, by rw [e2, e4]; exact lim_mono (tdiv_mono hab (by omega)), lim_mono (Int.mul_le_mul_of_nonneg_right hab (by omega))⟩
    · by_cases h1 : a = b
      · exact .inl ⟨by simpa using h1, by rw [h1]⟩
      · exact .inr ⟨by simpa using h1, by simpa using fun h => h1 (itoa_inj ia ib h)⟩
  · clear hL ia ib ic
    have h1 : b < a := by omega
    go_enter Tryd.func7, Tryd.ntmps7
    go_wp2_with fail
    refine S.out.mono ?_; rintro e w1 ⟨rfl, b1⟩
    go_wp2_with fail
    go_ret
    exact ⟨rfl, b1⟩

end Go.Proofs.YtfjjkffoafcakaaDoor
