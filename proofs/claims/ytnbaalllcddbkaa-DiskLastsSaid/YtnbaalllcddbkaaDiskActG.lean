/- One act on a disk, and what it leaves as it was. -/
import Derived.Test.YtnbaalllcddbkaaDiskLastQ
namespace Go.Proofs.Ytnbaalllcddbkaa
open Go.RowKit

def HeldG (a v w : World) (b : Nat) (S : DS) : Prop := Held a w b S ∧ v.grownBy w (some b)
def DoEndG (a v : World) (b : Nat) (R : (List UInt8 × Int) × DS) (e : Ending) (w' : World) : Prop := e = .returned (.tuple #[.string ⟨R.1.1.toArray⟩, .int .i64 R.1.2]) ∧ HeldG a v w' b R.2
section
variable {a v w : World} {b : Nat} {S S' : DS} {r : Int}
theorem HeldG.alloc (h : HeldG a v w b S) (o : Obj) : HeldG a v (w.alloc o) b S := ⟨h.1.alloc o, gr_alloc h.2 o⟩
theorem HeldG.step {w' : World} (h : HeldG a v w b S) (d : Dk w' b S') (o : S'.Ok) (g : w.grownBy w' (some b)) : HeldG a v w' b S' := ⟨h.1.step d o g, gr_trans h.2 g⟩
theorem HeldG.later {w' : World} (h : HeldG a v w b S) (k : Below w.heap.size w w') : HeldG a v w' b S := ⟨h.1.later k, gr_below h.2 k⟩
theorem append_atg (h : HeldG a v w b S) (f : Int) (s : List UInt8) (hs : s.length ≤ 4398046511104) (e : S.appendS f s = (r, S')) :
    Calls Try.prog 14 #[.pointer (some ⟨b, 0, none⟩), .int .i64 f, .string ⟨s.toArray⟩] w fun e w' => e = .returned (.int .i64 r) ∧ HeldG a v w' b S' := by
  have := h.1.2.2.1.append f s
  refine (append_any b S f s w h.1.2.1 h.1.2.2.1 hs).mono fun _ _ ⟨h1, h2, h3⟩ => ?_
  rw [e] at h1 h2 this
  exact ⟨h1, h.step h2 this h3⟩
theorem flush_atg (h : HeldG a v w b S) (f : Int) (e : S.flushS f = (r, S')) :
    Calls Try.prog 15 #[.pointer (some ⟨b, 0, none⟩), .int .i64 f] w fun e w' => e = .returned (.int .i64 r) ∧ HeldG a v w' b S' := by
  have := h.1.2.2.1.flush f
  refine (flush_any b S f w h.1.2.1 h.1.2.2.1).mono fun _ _ ⟨h1, h2, h3⟩ => ?_
  rw [e] at h1 h2 this
  exact ⟨h1, h.step h2 this h3⟩
theorem cut_atg (h : HeldG a v w b S) (f n : Int) (e : S.cutS f n = (r, S')) :
    Calls Try.prog 29 #[.pointer (some ⟨b, 0, none⟩), .int .i64 f, .int .i64 n] w fun e w' => e = .returned (.int .i64 r) ∧ HeldG a v w' b S' := by
  have := h.1.2.2.1.cut f n
  refine (cut_any b S f n w h.1.2.1 h.1.2.2.1).mono fun _ _ ⟨h1, h2, h3⟩ => ?_
  rw [e] at h1 h2 this
  exact ⟨h1, h.step h2 this h3⟩
theorem turn_atg (h : HeldG a v w b S) (f g : Int) (e : S.turnS f g = (r, S')) :
    Calls Try.prog 16 #[.pointer (some ⟨b, 0, none⟩), .int .i64 f, .int .i64 g] w fun e w' => e = .returned (.int .i64 r) ∧ HeldG a v w' b S' := by
  have := h.1.2.2.1.turn f g
  refine (turn_any b S f g w h.1.2.1 h.1.2.2.1).mono fun _ _ ⟨h1, h2, h3⟩ => ?_
  rw [e] at h1 h2 this
  exact ⟨h1, h.step h2 this h3⟩
theorem start_atg (h : HeldG a v w b S) :
    Calls Try.prog 18 #[.pointer (some ⟨b, 0, none⟩)] w fun e w' => e = .returned (.tuple #[]) ∧ HeldG a v w' b { S with down := false } :=
  (start_any b S w h.1.2.1).mono fun _ _ ⟨h1, h2, h3⟩ => ⟨h1, h.step h2 h.1.2.2.1 h3⟩
theorem lose_atg (h : HeldG a v w b S) (n : Int) (hn : n < 9223372036854775808) :
    Calls Try.prog 21 #[.pointer (some ⟨b, 0, none⟩), .int .i64 n] w fun e w' => e = .returned (.tuple #[]) ∧ HeldG a v w' b { S with lost := max n 0 } := by
  refine (lose_any b S n w h.1.2.1).mono fun _ _ ⟨h1, h2, h3⟩ => ⟨h1, h.step h2 ?_ h3⟩
  obtain ⟨k1, k2, k3, k4⟩ := h.1.2.2.1
  exact ⟨k1, by show 0 ≤ max n 0; omega, by show max n 0 < _; omega, k4⟩
theorem arm_atg (h : HeldG a v w b S) (n : Int) (A : Option Addr) (c m : Nat) (l : List Int) (hrow : Row w w.heap.size A (i64s l)) (hm : m = l.length) (hl : m ≤ 4398046511104) (hn : n < 9223372036854775808) :
    Calls Try.prog 28 #[.pointer (some ⟨b, 0, none⟩), .int .i64 n, .slice A m c] w fun e w' => e = .returned (.tuple #[]) ∧ HeldG a v w' b (S.arm n l) := by
  refine (arm_any b S n A c m l w h.1.2.1 hrow hm hl).mono fun _ _ ⟨h1, h2, h3⟩ => ⟨h1, h.step h2 ?_ h3⟩
  obtain ⟨k1, k2, k3, k4, k5, k6⟩ := h.1.2.2.1
  exact ⟨k1, k2, k3, by show 0 ≤ max n 0; omega, by show max n 0 < _; omega, by show l.length ≤ _; omega⟩
theorem crash_atg (h : HeldG a v w b S) (A : Option Addr) (c n : Nat) (l : List Int) (hrow : Row w w.heap.size A (i64s l)) (hne : 0 < n → ∀ g, A = some g → g.block ≠ b) (hn : n = l.length) (hl : n ≤ 9223372036854775807) :
    Calls Try.prog 17 #[.pointer (some ⟨b, 0, none⟩), .slice A n c] w fun e w' => e = .returned (.tuple #[]) ∧ HeldG a v w' b (S.crash l) := by
  cases hd : S.down
  · exact (crash_up b S A c n l w h.1.2.1 h.1.2.2.1 hd hrow hne hn hl).mono fun _ _ ⟨h1, h2, h3⟩ => ⟨h1, h.step h2 (h.1.2.2.1.crash l) h3⟩
  · refine (crash_down b S (.slice A n c) w h.1.2.1 hd).mono fun _ _ ⟨h1, h2⟩ => ⟨h1, ?_⟩
    subst h2
    unfold DS.crash
    rw [if_pos hd]; exact h
theorem read_atg {x : List UInt8} (h : HeldG a v w b S) (f : Int) (e : ReadsF S f = (x, r)) :
    Calls Try.prog 19 #[.pointer (some ⟨b, 0, none⟩), .int .i64 f] w fun e w' => e = .returned (.tuple #[.string ⟨x.toArray⟩, .int .i64 r]) ∧ HeldG a v w' b S := by
  refine (read_any b S f w h.1.2.1).mono fun _ _ ⟨h1, h2⟩ => ?_
  rw [e] at h1
  exact ⟨h1, h.later h2⟩
end

section
variable {a w : World} {b : Nat} {S : DS} {x : Act}

set_option maxRecDepth 100000 in
set_option maxHeartbeats 1000000 in
theorem dog_append0 (h : Held a w b S) (hx : x.At a) (hs : x.s.length ≤ 4398046511104) (hp : x.kp.length ≤ 4398046511104) (hn : x.n < 9223372036854775808) (hk : pickS x.kd = 0) :
    Calls Try.prog 25 #[.pointer (some ⟨b, 0, none⟩), .agg x.cells] w (DoEndG a w b (doS S x)) := by
  have HB := Lib.hid (HeldG.alloc (show HeldG a w w b S from ⟨h, gr_refl w _⟩) (.cells x.cells 41))
  have HX := Lib.hid (Row.later hx (HB.out.1.1))
  have HN := Lib.hid (act_ne h hx)
  have PK := Lib.hid (fun w => hk ▸ pick_any x.kd w)
  have HD := Lib.hid hk
  clear h hx hk
  unfold Act.cells at *
  go_enter Try.func25, Try.ntmps25
  go_wp2_with fail
  refine (PK.out _).mono ?_; rintro e w1 ⟨rfl, rfl⟩
  go_wp2_with fail
  refine (append_atg HB.out x.f x.s hs (show S.appendS x.f x.s = ((S.appendS x.f x.s).1, (S.appendS x.f x.s).2) from rfl)).mono ?_; rintro e w2 ⟨rfl, h2⟩
  go_wp2_with fail
  go_ret2
  unfold DoEndG doS
  simp only [HD.out, if_true, if_false, Int.reduceEq, or_true, true_or, or_false, false_or, or_self]
  exact ⟨rfl, h2⟩

set_option maxRecDepth 100000 in
set_option maxHeartbeats 1000000 in
theorem dog_append1 (h : Held a w b S) (hx : x.At a) (hs : x.s.length ≤ 4398046511104) (hp : x.kp.length ≤ 4398046511104) (hn : x.n < 9223372036854775808) (hk : pickS x.kd = 1) :
    Calls Try.prog 25 #[.pointer (some ⟨b, 0, none⟩), .agg x.cells] w (DoEndG a w b (doS S x)) := by
  have HB := Lib.hid (HeldG.alloc (show HeldG a w w b S from ⟨h, gr_refl w _⟩) (.cells x.cells 41))
  have HX := Lib.hid (Row.later hx (HB.out.1.1))
  have HN := Lib.hid (act_ne h hx)
  have PK := Lib.hid (fun w => hk ▸ pick_any x.kd w)
  have HD := Lib.hid hk
  clear h hx hk
  unfold Act.cells at *
  go_enter Try.func25, Try.ntmps25
  go_wp2_with fail
  refine (PK.out _).mono ?_; rintro e w1 ⟨rfl, rfl⟩
  go_wp2_with fail
  refine (append_atg HB.out x.f x.s hs (show S.appendS x.f x.s = ((S.appendS x.f x.s).1, (S.appendS x.f x.s).2) from rfl)).mono ?_; rintro e w2 ⟨rfl, h2⟩
  go_wp2_with fail
  go_ret2
  unfold DoEndG doS
  simp only [HD.out, if_true, if_false, Int.reduceEq, or_true, true_or, or_false, false_or, or_self]
  exact ⟨rfl, h2⟩

set_option maxRecDepth 100000 in
set_option maxHeartbeats 1000000 in
theorem dog_flush (h : Held a w b S) (hx : x.At a) (hs : x.s.length ≤ 4398046511104) (hp : x.kp.length ≤ 4398046511104) (hn : x.n < 9223372036854775808) (hk : pickS x.kd = 2) :
    Calls Try.prog 25 #[.pointer (some ⟨b, 0, none⟩), .agg x.cells] w (DoEndG a w b (doS S x)) := by
  have HB := Lib.hid (HeldG.alloc (show HeldG a w w b S from ⟨h, gr_refl w _⟩) (.cells x.cells 41))
  have HX := Lib.hid (Row.later hx (HB.out.1.1))
  have HN := Lib.hid (act_ne h hx)
  have PK := Lib.hid (fun w => hk ▸ pick_any x.kd w)
  have HD := Lib.hid hk
  clear h hx hk
  unfold Act.cells at *
  go_enter Try.func25, Try.ntmps25
  go_wp2_with fail
  refine (PK.out _).mono ?_; rintro e w1 ⟨rfl, rfl⟩
  go_wp2_with fail
  refine (flush_atg HB.out x.f (show S.flushS x.f = ((S.flushS x.f).1, (S.flushS x.f).2) from rfl)).mono ?_; rintro e w2 ⟨rfl, h2⟩
  go_wp2_with fail
  go_ret2
  unfold DoEndG doS
  simp only [HD.out, if_true, if_false, Int.reduceEq, or_true, true_or, or_false, false_or, or_self]
  exact ⟨rfl, h2⟩

set_option maxRecDepth 100000 in
set_option maxHeartbeats 1000000 in
theorem dog_cut (h : Held a w b S) (hx : x.At a) (hs : x.s.length ≤ 4398046511104) (hp : x.kp.length ≤ 4398046511104) (hn : x.n < 9223372036854775808) (hk : pickS x.kd = 3) :
    Calls Try.prog 25 #[.pointer (some ⟨b, 0, none⟩), .agg x.cells] w (DoEndG a w b (doS S x)) := by
  have HB := Lib.hid (HeldG.alloc (show HeldG a w w b S from ⟨h, gr_refl w _⟩) (.cells x.cells 41))
  have HX := Lib.hid (Row.later hx (HB.out.1.1))
  have HN := Lib.hid (act_ne h hx)
  have PK := Lib.hid (fun w => hk ▸ pick_any x.kd w)
  have HD := Lib.hid hk
  clear h hx hk
  unfold Act.cells at *
  go_enter Try.func25, Try.ntmps25
  go_wp2_with fail
  refine (PK.out _).mono ?_; rintro e w1 ⟨rfl, rfl⟩
  go_wp2_with fail
  refine (cut_atg HB.out x.f x.n (show S.cutS x.f x.n = ((S.cutS x.f x.n).1, (S.cutS x.f x.n).2) from rfl)).mono ?_; rintro e w2 ⟨rfl, h2⟩
  go_wp2_with fail
  go_ret2
  unfold DoEndG doS
  simp only [HD.out, if_true, if_false, Int.reduceEq, or_true, true_or, or_false, false_or, or_self]
  exact ⟨rfl, h2⟩

set_option maxRecDepth 100000 in
set_option maxHeartbeats 1000000 in
theorem dog_turn (h : Held a w b S) (hx : x.At a) (hs : x.s.length ≤ 4398046511104) (hp : x.kp.length ≤ 4398046511104) (hn : x.n < 9223372036854775808) (hk : pickS x.kd = 4) :
    Calls Try.prog 25 #[.pointer (some ⟨b, 0, none⟩), .agg x.cells] w (DoEndG a w b (doS S x)) := by
  have HB := Lib.hid (HeldG.alloc (show HeldG a w w b S from ⟨h, gr_refl w _⟩) (.cells x.cells 41))
  have HX := Lib.hid (Row.later hx (HB.out.1.1))
  have HN := Lib.hid (act_ne h hx)
  have PK := Lib.hid (fun w => hk ▸ pick_any x.kd w)
  have HD := Lib.hid hk
  clear h hx hk
  unfold Act.cells at *
  go_enter Try.func25, Try.ntmps25
  go_wp2_with fail
  refine (PK.out _).mono ?_; rintro e w1 ⟨rfl, rfl⟩
  go_wp2_with fail
  refine (turn_atg HB.out x.f x.g (show S.turnS x.f x.g = ((S.turnS x.f x.g).1, (S.turnS x.f x.g).2) from rfl)).mono ?_; rintro e w2 ⟨rfl, h2⟩
  go_wp2_with fail
  go_ret2
  unfold DoEndG doS
  simp only [HD.out, if_true, if_false, Int.reduceEq, or_true, true_or, or_false, false_or, or_self]
  exact ⟨rfl, h2⟩

set_option maxRecDepth 100000 in
set_option maxHeartbeats 1000000 in
theorem dog_crash (h : Held a w b S) (hx : x.At a) (hs : x.s.length ≤ 4398046511104) (hp : x.kp.length ≤ 4398046511104) (hn : x.n < 9223372036854775808) (hk : pickS x.kd = 5) :
    Calls Try.prog 25 #[.pointer (some ⟨b, 0, none⟩), .agg x.cells] w (DoEndG a w b (doS S x)) := by
  have HB := Lib.hid (HeldG.alloc (show HeldG a w w b S from ⟨h, gr_refl w _⟩) (.cells x.cells 41))
  have HX := Lib.hid (Row.later hx (HB.out.1.1))
  have HN := Lib.hid (act_ne h hx)
  have PK := Lib.hid (fun w => hk ▸ pick_any x.kd w)
  have HD := Lib.hid hk
  clear h hx hk
  unfold Act.cells at *
  go_enter Try.func25, Try.ntmps25
  go_wp2_with fail
  refine (PK.out _).mono ?_; rintro e w1 ⟨rfl, rfl⟩
  go_wp2_with fail
  refine (crash_atg HB.out x.A x.c _ x.kp HX.out HN.out rfl (by omega)).mono ?_; rintro e w2 ⟨rfl, h2⟩
  go_wp2_with fail
  go_ret2
  unfold DoEndG doS
  simp only [HD.out, if_true, if_false, Int.reduceEq, or_true, true_or, or_false, false_or, or_self]
  exact ⟨rfl, h2⟩

set_option maxRecDepth 100000 in
set_option maxHeartbeats 1000000 in
theorem dog_lose (h : Held a w b S) (hx : x.At a) (hs : x.s.length ≤ 4398046511104) (hp : x.kp.length ≤ 4398046511104) (hn : x.n < 9223372036854775808) (hk : pickS x.kd = 6) :
    Calls Try.prog 25 #[.pointer (some ⟨b, 0, none⟩), .agg x.cells] w (DoEndG a w b (doS S x)) := by
  have HB := Lib.hid (HeldG.alloc (show HeldG a w w b S from ⟨h, gr_refl w _⟩) (.cells x.cells 41))
  have HX := Lib.hid (Row.later hx (HB.out.1.1))
  have HN := Lib.hid (act_ne h hx)
  have PK := Lib.hid (fun w => hk ▸ pick_any x.kd w)
  have HD := Lib.hid hk
  clear h hx hk
  unfold Act.cells at *
  go_enter Try.func25, Try.ntmps25
  go_wp2_with fail
  refine (PK.out _).mono ?_; rintro e w1 ⟨rfl, rfl⟩
  go_wp2_with fail
  refine (lose_atg HB.out x.n hn).mono ?_; rintro e w2 ⟨rfl, h2⟩
  go_wp2_with fail
  go_ret2
  unfold DoEndG doS
  simp only [HD.out, if_true, if_false, Int.reduceEq, or_true, true_or, or_false, false_or, or_self]
  exact ⟨rfl, h2⟩

set_option maxRecDepth 100000 in
set_option maxHeartbeats 1000000 in
theorem dog_start (h : Held a w b S) (hx : x.At a) (hs : x.s.length ≤ 4398046511104) (hp : x.kp.length ≤ 4398046511104) (hn : x.n < 9223372036854775808) (hk : pickS x.kd = 7) :
    Calls Try.prog 25 #[.pointer (some ⟨b, 0, none⟩), .agg x.cells] w (DoEndG a w b (doS S x)) := by
  have HB := Lib.hid (HeldG.alloc (show HeldG a w w b S from ⟨h, gr_refl w _⟩) (.cells x.cells 41))
  have HX := Lib.hid (Row.later hx (HB.out.1.1))
  have HN := Lib.hid (act_ne h hx)
  have PK := Lib.hid (fun w => hk ▸ pick_any x.kd w)
  have HD := Lib.hid hk
  clear h hx hk
  unfold Act.cells at *
  go_enter Try.func25, Try.ntmps25
  go_wp2_with fail
  refine (PK.out _).mono ?_; rintro e w1 ⟨rfl, rfl⟩
  go_wp2_with fail
  refine (start_atg HB.out).mono ?_; rintro e w2 ⟨rfl, h2⟩
  go_wp2_with fail
  go_ret2
  unfold DoEndG doS
  simp only [HD.out, if_true, if_false, Int.reduceEq, or_true, true_or, or_false, false_or, or_self]
  exact ⟨rfl, h2⟩

set_option maxRecDepth 100000 in
set_option maxHeartbeats 1000000 in
theorem dog_read (h : Held a w b S) (hx : x.At a) (hs : x.s.length ≤ 4398046511104) (hp : x.kp.length ≤ 4398046511104) (hn : x.n < 9223372036854775808) (hk : pickS x.kd = 8) :
    Calls Try.prog 25 #[.pointer (some ⟨b, 0, none⟩), .agg x.cells] w (DoEndG a w b (doS S x)) := by
  have HB := Lib.hid (HeldG.alloc (show HeldG a w w b S from ⟨h, gr_refl w _⟩) (.cells x.cells 41))
  have HX := Lib.hid (Row.later hx (HB.out.1.1))
  have HN := Lib.hid (act_ne h hx)
  have PK := Lib.hid (fun w => hk ▸ pick_any x.kd w)
  have HD := Lib.hid hk
  clear h hx hk
  unfold Act.cells at *
  go_enter Try.func25, Try.ntmps25
  go_wp2_with fail
  refine (PK.out _).mono ?_; rintro e w1 ⟨rfl, rfl⟩
  go_wp2_with fail
  refine (read_atg HB.out x.f (show ReadsF S x.f = ((ReadsF S x.f).1, (ReadsF S x.f).2) from rfl)).mono ?_; rintro e w2 ⟨rfl, h2⟩
  go_wp2_with fail
  go_ret2
  unfold DoEndG doS
  simp only [HD.out, if_true, if_false, Int.reduceEq, or_true, true_or, or_false, false_or, or_self]
  exact ⟨rfl, h2⟩

set_option maxRecDepth 100000 in
set_option maxHeartbeats 1000000 in
theorem dog_none (h : Held a w b S) (hx : x.At a) (hs : x.s.length ≤ 4398046511104) (hp : x.kp.length ≤ 4398046511104) (hn : x.n < 9223372036854775808) (hk : pickS x.kd = 9) :
    Calls Try.prog 25 #[.pointer (some ⟨b, 0, none⟩), .agg x.cells] w (DoEndG a w b (doS S x)) := by
  have HB := Lib.hid (HeldG.alloc (show HeldG a w w b S from ⟨h, gr_refl w _⟩) (.cells x.cells 41))
  have HX := Lib.hid (Row.later hx (HB.out.1.1))
  have HN := Lib.hid (act_ne h hx)
  have PK := Lib.hid (fun w => hk ▸ pick_any x.kd w)
  have HD := Lib.hid hk
  clear h hx hk
  unfold Act.cells at *
  go_enter Try.func25, Try.ntmps25
  go_wp2_with fail
  refine (PK.out _).mono ?_; rintro e w1 ⟨rfl, rfl⟩
  go_wp2_with fail
  have h2 := HB.out
  go_ret2
  unfold DoEndG doS
  simp only [HD.out, if_true, if_false, Int.reduceEq, or_true, true_or, or_false, false_or, or_self]
  exact ⟨rfl, h2⟩

set_option maxRecDepth 100000 in
set_option maxHeartbeats 1000000 in
theorem dog_arm (h : Held a w b S) (hx : x.At a) (hs : x.s.length ≤ 4398046511104) (hp : x.kp.length ≤ 4398046511104) (hn : x.n < 9223372036854775808) (hk : pickS x.kd = 10) :
    Calls Try.prog 25 #[.pointer (some ⟨b, 0, none⟩), .agg x.cells] w (DoEndG a w b (doS S x)) := by
  have HB := Lib.hid (HeldG.alloc (show HeldG a w w b S from ⟨h, gr_refl w _⟩) (.cells x.cells 41))
  have HX := Lib.hid (Row.later hx (HB.out.1.1))
  have HN := Lib.hid (act_ne h hx)
  have PK := Lib.hid (fun w => hk ▸ pick_any x.kd w)
  have HD := Lib.hid hk
  clear h hx hk
  unfold Act.cells at *
  go_enter Try.func25, Try.ntmps25
  go_wp2_with fail
  refine (PK.out _).mono ?_; rintro e w1 ⟨rfl, rfl⟩
  go_wp2_with fail
  refine (arm_atg HB.out x.n x.A x.c _ x.kp HX.out rfl hp hn).mono ?_; rintro e w2 ⟨rfl, h2⟩
  go_wp2_with fail
  go_ret2
  unfold DoEndG doS
  simp only [HD.out, if_true, if_false, Int.reduceEq, or_true, true_or, or_false, false_or, or_self]
  exact ⟨rfl, h2⟩

theorem do_anyG (h : Held a w b S) (hx : x.At a) (hs : x.s.length ≤ 4398046511104) (hp : x.kp.length ≤ 4398046511104) (hn : x.n < 9223372036854775808) :
    Calls Try.prog 25 #[.pointer (some ⟨b, 0, none⟩), .agg x.cells] w (DoEndG a w b (doS S x)) := by
  have hb := pickS_bd x.kd
  rcases (by omega : pickS x.kd = 0 ∨ pickS x.kd = 1 ∨ pickS x.kd = 2 ∨ pickS x.kd = 3 ∨ pickS x.kd = 4 ∨ pickS x.kd = 5 ∨ pickS x.kd = 6 ∨ pickS x.kd = 7 ∨ pickS x.kd = 8 ∨ pickS x.kd = 9 ∨ pickS x.kd = 10) with hk | hk | hk | hk | hk | hk | hk | hk | hk | hk | hk
  · exact dog_append0 h hx hs hp hn hk
  · exact dog_append1 h hx hs hp hn hk
  · exact dog_flush h hx hs hp hn hk
  · exact dog_cut h hx hs hp hn hk
  · exact dog_turn h hx hs hp hn hk
  · exact dog_crash h hx hs hp hn hk
  · exact dog_lose h hx hs hp hn hk
  · exact dog_start h hx hs hp hn hk
  · exact dog_read h hx hs hp hn hk
  · exact dog_none h hx hs hp hn hk
  · exact dog_arm h hx hs hp hn hk
end
set_option maxHeartbeats 400000 in
theorem begins_any (s t : List UInt8) (w : World) (hs : s.length ≤ 9223372036854775807) (ht : t.length ≤ 9223372036854775807) (h : t <+: s) :
    Calls Try.prog 27 #[.string ⟨s.toArray⟩, .string ⟨t.toArray⟩] w fun e w' => e = .returned (.bool true) ∧ w = w' := by
  have hl := h.length_le
  have HE := Lib.hid (show (ByteArray.mk s.toArray).extract 0 t.length = ⟨t.toArray⟩ by rw [bx_take, ← List.prefix_iff_eq_take.1 h])
  go_enter Try.func27, Try.ntmps27
  have hext := HE.out
  go_wp2_with fail
  go_ret
  exact ⟨rfl, rfl⟩
end Go.Proofs.Ytnbaalllcddbkaa
