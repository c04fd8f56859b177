/- NumTells: for all ints and strings, every function returns what the reference returns. -/
import Derived.Test.YtfjjkffoafcakaaDoorNumRef3
import Derived.Test.YtfjjkffoafcakaaDoorNumRea
namespace Go.Proofs.YtfjjkffoafcakaaDoor
open Go.RowKit

theorem divAll {a : World} {x y : Int} (hx : In64 x) (hy : In64 y) : ∃ v ok, Pair2 a 11 x y v ok ∧ Pair2 a 12 x y v ok := by
  by_cases hz : y = 0
  · subst hz
    exact ⟨0, false, div0 a x, fun w _ => (rdiv_zero x w).mono fun _ _ ⟨h, k⟩ => ⟨h, k ▸ Below.refl _ _⟩⟩
  · exact ⟨_, true, divN hx hy hz rfl, fun w _ => (rdiv_any x y w hx hy hz).mono fun _ _ ⟨h, k⟩ => ⟨h, k ▸ Below.refl _ _⟩⟩
theorem modAll {a : World} {x y : Int} (hx : In64 x) (hy : In64 y) : ∃ v ok, Pair2 a 13 x y v ok ∧ Pair2 a 14 x y v ok := by
  by_cases hz : y = 0
  · subst hz
    exact ⟨0, false, mod0 a x, fun w _ => (rmod_zero x w).mono fun _ _ ⟨h, k⟩ => ⟨h, k ▸ Below.refl _ _⟩⟩
  · exact ⟨_, true, modN hx hy hz rfl, fun w _ => (rmod_any x y w hx hy hz).mono fun _ _ ⟨h, k⟩ => ⟨h, k ▸ Below.refl _ _⟩⟩

set_option maxRecDepth 100000 in
set_option maxHeartbeats 4000000 in
theorem tells_core (a b c x d m s1 s2 s3 cl : Int) (i1 i2 i3 : Bool) (s t : List UInt8) (w : World) (S : Hid (Calls Tryd.prog 8 #[] w fun e w' => e = .returned (.bool true) ∧ Below w.heap.size w w'))
    (P1 : Hid (Parse1 w s a b x i1)) (P2 : Hid (∀ w, Calls Tryd.prog 10 #[.string ⟨s.toArray⟩, .int .i64 a, .int .i64 b] w fun e w' => e = .returned (.tuple #[.int .i64 x, .bool i1]) ∧ w = w'))
    (D1 : Hid (Pair2 w 11 a b d i2)) (D2 : Hid (Pair2 w 12 a b d i2)) (M1 : Hid (Pair2 w 13 a b m i3)) (M2 : Hid (Pair2 w 14 a b m i3))
    (T1 : Hid (Text1 w a t)) (T2 : Hid (∀ w, Calls Tryd.prog 16 #[.int .i64 a] w fun e w' => e = .returned (.string ⟨t.toArray⟩) ∧ w = w')) (C1 : Hid (Clamp3 a b c cl)) (C2 : Hid (∀ w, Calls Tryd.prog 18 #[.int .i64 a, .int .i64 b, .int .i64 c] w fun e w' => e = .returned (.int .i64 cl) ∧ w = w'))
    (A1 : Hid (Num2 19 a b s1)) (A2 : Hid (Num2 20 a b s1)) (S1 : Hid (Num2 21 a b s2)) (S2 : Hid (Num2 22 a b s2)) (X1 : Hid (Num2 23 a b s3)) (X2 : Hid (Num2 24 a b s3)) :
    Calls Tryd.prog 3 #[.int .i64 a, .int .i64 b, .int .i64 c, .string ⟨s.toArray⟩] w fun e w' => e = .returned (.bool true) ∧ Below w.heap.size w w' := by
  go_enter Tryd.func3, Tryd.ntmps3
  go_wp2_with fail
  refine S.out.mono ?_; rintro e w1 ⟨rfl, b1⟩
  have B := Lib.hid b1
  clear b1
  go_wp2_with fail
  (with_reducible refine (P1.out _ B.out).mono ?_); rintro e w1 ⟨rfl, b1⟩
  replace B := Lib.hid (B.out.trans (b1.mono B.out.size))
  clear b1
  go_wp2_with fail
  (with_reducible refine (P2.out _).mono ?_); rintro e w1 ⟨rfl, rfl⟩
  go_wp2_with fail
  (with_reducible refine (D1.out _ B.out).mono ?_); rintro e w1 ⟨rfl, b1⟩
  replace B := Lib.hid (B.out.trans (b1.mono B.out.size))
  clear b1
  go_wp2_with fail
  (with_reducible refine (D2.out _ B.out).mono ?_); rintro e w1 ⟨rfl, b1⟩
  replace B := Lib.hid (B.out.trans (b1.mono B.out.size))
  clear b1
  go_wp2_with fail
  (with_reducible refine (M1.out _ B.out).mono ?_); rintro e w1 ⟨rfl, b1⟩
  replace B := Lib.hid (B.out.trans (b1.mono B.out.size))
  clear b1
  go_wp2_with fail
  (with_reducible refine (M2.out _ B.out).mono ?_); rintro e w1 ⟨rfl, b1⟩
  replace B := Lib.hid (B.out.trans (b1.mono B.out.size))
  clear b1
  go_wp2_with fail
  (with_reducible refine (T1.out _ B.out).mono ?_); rintro e w1 ⟨rfl, b1⟩
  replace B := Lib.hid (B.out.trans (b1.mono B.out.size))
  clear b1
  go_wp2_with fail
  (with_reducible refine (T2.out _).mono ?_); rintro e w1 ⟨rfl, rfl⟩
  go_wp2_with fail
  (with_reducible refine (C1.out _).mono ?_); rintro e w1 ⟨rfl, rfl⟩
  go_wp2_with fail
  (with_reducible refine (C2.out _).mono ?_); rintro e w1 ⟨rfl, rfl⟩
  go_wp2_with fail
  (with_reducible refine (A1.out _).mono ?_); rintro e w1 ⟨rfl, rfl⟩
  go_wp2_with fail
  (with_reducible refine (A2.out _).mono ?_); rintro e w1 ⟨rfl, rfl⟩
  go_wp2_with fail
  (with_reducible refine (S1.out _).mono ?_); rintro e w1 ⟨rfl, rfl⟩
  go_wp2_with fail
  (with_reducible refine (S2.out _).mono ?_); rintro e w1 ⟨rfl, rfl⟩
  go_wp2_with fail
  (with_reducible refine (X1.out _).mono ?_); rintro e w1 ⟨rfl, rfl⟩
  go_wp2_with fail
  (with_reducible refine (X2.out _).mono ?_); rintro e w1 ⟨rfl, rfl⟩
  go_wp2_with fail
  go_ret
  exact ⟨rfl, B.out⟩

theorem tells_any (a b c : Int) (s : List UInt8) (w : World) (hL : Ld w) (ia : In64 a) (ib : In64 b) (hs : s.length ≤ 140737488351232) :
    Calls Tryd.prog 3 #[.int .i64 a, .int .i64 b, .int .i64 c, .string ⟨s.toArray⟩] w fun e w' => e = .returned (.bool true) ∧ Below w.heap.size w w' := by
  obtain ⟨d, i2, D1, D2⟩ := divAll (a := w) ia ib
  obtain ⟨m, i3, M1, M2⟩ := modAll (a := w) ia ib
  exact tells_core a b c _ d m _ _ _ _ _ i2 i3 s _ w (Lib.hid (small1_any w hL)) (Lib.hid fun w1 h => nparse_any s a b w1 (hL.later h) (by omega)) (Lib.hid fun w => rparse_any s a b w (by omega)) (Lib.hid D1) (Lib.hid D2) (Lib.hid M1) (Lib.hid M2)
    (Lib.hid fun w1 h => ntext_any a w1 (hL.later h) ia.1 ia.2) (Lib.hid fun w => rtext_any a w ia.1 ia.2) (Lib.hid fun w => clamp_any a b c w) (Lib.hid fun w => rclamp_any a b c w)
    (Lib.hid (addN ia ib rfl)) (Lib.hid fun w => radd_any a b w ia ib) (Lib.hid (subN ia ib rfl)) (Lib.hid fun w => rsub_any a b w ia ib) (Lib.hid (mulN ia ib rfl)) (Lib.hid fun w => rmul_any a b w ia ib)

end Go.Proofs.YtfjjkffoafcakaaDoor
