/- The law's examples of num. -/
import Derived.Test.YtfjjkffoafcakaaDoorNumC
namespace Go.Proofs.YtfjjkffoafcakaaDoor
open Go.RowKit


theorem below_of_drew {w w' : World} (h : ∃ k, w' = w.drewN k) : Below w.heap.size w w' := by
  obtain ⟨k, rfl⟩ := h; exact below_drewN (Below.refl _ _) k
theorem itoa_m7 : Lib.itoa (-7) = [45, 55] := by decide +kernel
theorem parse_m7 : parseN [45, 55] (-9) 9 = -7 ∧ parseB [45, 55] (-9) 9 = true := by decide +kernel
theorem parse_07 : parseN [48, 55] 0 9 = 0 ∧ parseB [48, 55] 0 9 = false := by decide +kernel
theorem parse_m0 : parseN [45, 48] (-1) 1 = 0 ∧ parseB [45, 48] (-1) 1 = false := by decide +kernel
theorem p1 (a : World) (hL : Ld a) (w : World) (b : Below a.heap.size a w) : Calls Tryd.prog 9 #[.string ⟨#[45, 55]⟩, .int .i64 (-9), .int .i64 9] w fun e w' => e = .returned (.tuple #[.int .i64 (-7), .bool true]) ∧ Below w.heap.size w w' := by
  have := nparse_any [45, 55] (-9) 9 w (hL.later b) (by simp)
  rwa [parse_m7.1, parse_m7.2] at this
theorem p2 (a : World) (hL : Ld a) (w : World) (b : Below a.heap.size a w) : Calls Tryd.prog 9 #[.string ⟨#[48, 55]⟩, .int .i64 0, .int .i64 9] w fun e w' => e = .returned (.tuple #[.int .i64 0, .bool false]) ∧ Below w.heap.size w w' := by
  have := nparse_any [48, 55] 0 9 w (hL.later b) (by simp)
  rwa [parse_07.1, parse_07.2] at this
theorem p3 (a : World) (hL : Ld a) (w : World) (b : Below a.heap.size a w) : Calls Tryd.prog 9 #[.string ⟨#[45, 48]⟩, .int .i64 (-1), .int .i64 1] w fun e w' => e = .returned (.tuple #[.int .i64 0, .bool false]) ∧ Below w.heap.size w w' := by
  have := nparse_any [45, 48] (-1) 1 w (hL.later b) (by simp)
  rwa [parse_m0.1, parse_m0.2] at this
theorem q1 (a w : World) (_ : Below a.heap.size a w) : Calls Tryd.prog 11 #[.int .i64 (-7), .int .i64 2] w fun e w' => e = .returned (.tuple #[.int .i64 (-3), .bool true]) ∧ Below w.heap.size w w' :=
  (div_any (-7) 2 w (by decide) (by decide) (by decide) (by decide) (by decide)).mono fun _ _ ⟨h, k⟩ => ⟨h, below_of_drew k⟩
theorem q2 (a w : World) (_ : Below a.heap.size a w) : Calls Tryd.prog 13 #[.int .i64 (-7), .int .i64 2] w fun e w' => e = .returned (.tuple #[.int .i64 (-1), .bool true]) ∧ Below w.heap.size w w' :=
  (mod_any (-7) 2 w (by decide) (by decide) (by decide) (by decide) (by decide)).mono fun _ _ ⟨h, k⟩ => ⟨h, below_of_drew k⟩
theorem q3 (w : World) : Calls Tryd.prog 11 #[.int .i64 1, .int .i64 0] w fun e w' => e = .returned (.tuple #[.int .i64 0, .bool false]) ∧ w = w' := div_zero 1 w
theorem q4 (a : World) (hL : Ld a) (w : World) (b : Below a.heap.size a w) : Calls Tryd.prog 15 #[.int .i64 (-7)] w fun e w' => e = .returned (.string ⟨#[45, 55]⟩) ∧ Below w.heap.size w w' := by
  have := ntext_any (-7) w (hL.later b) (by decide) (by decide)
  rwa [itoa_m7] at this
theorem q5 (w : World) : Calls Tryd.prog 19 #[.int .i64 1125899906842624, .int .i64 1] w fun e w' => e = .returned (.int .i64 1125899906842624) ∧ w = w' := add_any 1125899906842624 1 w (by decide) (by decide) (by decide) (by decide)
theorem q6 (w : World) : Calls Tryd.prog 21 #[.int .i64 (-1125899906842624), .int .i64 1] w fun e w' => e = .returned (.int .i64 (-1125899906842624)) ∧ w = w' := sub_any (-1125899906842624) 1 w (by decide) (by decide) (by decide) (by decide)
theorem q7 (w : World) : Calls Tryd.prog 23 #[.int .i64 1125899906842624, .int .i64 (-2)] w fun e w' => e = .returned (.int .i64 (-1125899906842624)) ∧ w = w' := mul_any 1125899906842624 (-2) w (by decide) (by decide) (by decide) (by decide)
theorem q8 (w : World) : Calls Tryd.prog 17 #[.int .i64 3, .int .i64 5, .int .i64 4] w fun e w' => e = .returned (.int .i64 5) ∧ w = w' := clamp_any 3 5 4 w
set_option maxRecDepth 100000 in
set_option maxHeartbeats 1000000 in
theorem small1_any (a : World) (hL : Ld a) : Calls Tryd.prog 8 #[] a fun e w' => e = .returned (.bool true) ∧ Below a.heap.size a w' := by
  have P1 := Lib.hid (p1 a hL)
  have P2 := Lib.hid (p2 a hL)
  have P3 := Lib.hid (p3 a hL)
  have Q1 := Lib.hid (q1 a)
  have Q2 := Lib.hid (q2 a)
  have Q3 := Lib.hid q3
  have Q4 := Lib.hid (q4 a hL)
  have Q5 := Lib.hid q5
  have Q6 := Lib.hid q6
  have Q7 := Lib.hid q7
  have Q8 := Lib.hid q8
  have B := Lib.hid (Below.refl a.heap.size a)
  clear hL
  go_enter Tryd.func8, Tryd.ntmps8
  go_wp2_with fail
  refine (P1.out _ B.out).mono ?_; rintro e w1 ⟨rfl, b1⟩
  replace B := Lib.hid (B.out.trans (b1.mono B.out.size))
  clear b1
  go_wp2_with fail
  refine (P2.out _ B.out).mono ?_; rintro e w1 ⟨rfl, b1⟩
  replace B := Lib.hid (B.out.trans (b1.mono B.out.size))
  clear b1
  go_wp2_with fail
  refine (P3.out _ B.out).mono ?_; rintro e w1 ⟨rfl, b1⟩
  replace B := Lib.hid (B.out.trans (b1.mono B.out.size))
  clear b1
  go_wp2_with fail
  refine (Q1.out _ B.out).mono ?_; rintro e w1 ⟨rfl, b1⟩
  replace B := Lib.hid (B.out.trans (b1.mono B.out.size))
  clear b1
  go_wp2_with fail
  refine (Q2.out _ B.out).mono ?_; rintro e w1 ⟨rfl, b1⟩
  replace B := Lib.hid (B.out.trans (b1.mono B.out.size))
  clear b1
  go_wp2_with fail
  refine (Q3.out _).mono ?_; rintro e w1 ⟨rfl, rfl⟩
  go_wp2_with fail
  refine (Q4.out _ B.out).mono ?_; rintro e w1 ⟨rfl, b1⟩
  replace B := Lib.hid (B.out.trans (b1.mono B.out.size))
  clear b1
  go_wp2_with fail
  refine (Q5.out _).mono ?_; rintro e w1 ⟨rfl, rfl⟩
  go_wp2_with fail
  refine (Q6.out _).mono ?_; rintro e w1 ⟨rfl, rfl⟩
  go_wp2_with fail
  refine (Q7.out _).mono ?_; rintro e w1 ⟨rfl, rfl⟩
  go_wp2_with fail
  refine (Q8.out _).mono ?_; rintro e w1 ⟨rfl, rfl⟩
  go_wp2_with fail
  go_ret
  exact ⟨rfl, B.out⟩

end Go.Proofs.YtfjjkffoafcakaaDoor
