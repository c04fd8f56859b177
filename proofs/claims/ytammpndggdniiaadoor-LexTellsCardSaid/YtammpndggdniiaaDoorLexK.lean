/- Package lex: the law's examples. -/
import Derived.Test.YtammpndggdniiaaDoorLexJ
namespace Go.Proofs.YtammpndggdniiaaDoor
open Go.RowKit

theorem OwnK.cellAt {w : World} {B : Nat} {e : TypeId} {k : Nat} {g c n : Nat} {xs : List Value} (h : OwnK w B e k (some ⟨g, 0, none⟩) c n xs) (j : Nat) {v : Value} (hj : xs[j]? = some v) : w.cell? ⟨g, j, none⟩ = some v := by
  have := World.ownsRow.cells h (g := g) rfl j v hj
  rwa [add0] at this
namespace SmallLex
def s1 : List UInt8 := [119, 104, 101, 110, 32, 108, 105, 107, 101, 115, 62, 61, 50]
def s2 : List UInt8 := [97, 32, 33, 32, 98]
def s3 : List UInt8 := [48, 55]
def s4 : List UInt8 := [34, 120]
def s5 : List UInt8 := [120, 32, 89]
def s6 : List UInt8 := [104, 105, 100, 101, 32, 34, 115, 112, 97, 109, 34]
def l1 : List Tok := [⟨0, [119, 104, 101, 110], 0, 0⟩, ⟨0, [108, 105, 107, 101, 115], 0, 5⟩, ⟨3, [62, 61], 0, 10⟩, ⟨1, [], 2, 12⟩, ⟨4, [], 0, 13⟩]
def l6 : List Tok := [⟨0, [104, 105, 100, 101], 0, 0⟩, ⟨2, [115, 112, 97, 109], 0, 5⟩, ⟨4, [], 0, 11⟩]
theorem e1 : scanR s1 = (some l1, 0, 0) := by kernel_rfl
theorem e2 : scanR s2 = (none, 2, 2) := by kernel_rfl
theorem e3 : scanR s3 = (none, 2, 0) := by kernel_rfl
theorem e4 : scanR s4 = (none, 2, 0) := by kernel_rfl
theorem e5 : scanR s5 = (none, 2, 2) := by kernel_rfl
theorem e6 : scanR s6 = (some l6, 0, 0) := by kernel_rfl
theorem e7 : writeS l6 = s6 := by kernel_rfl
end SmallLex
open SmallLex
theorem scan_at {s : List UInt8} {r : Option (List Tok) × Int × Nat} (hr : scanR s = r) (a w : World) (hL : Ld a) (b : Below a.heap.size a w) :
    Calls Tryd.prog 10 #[.string ⟨s.toArray⟩] w fun e w' => scanVal r w.heap.size e w' ∧ Below w.heap.size w w' := by
  rw [← hr]; exact scan_any s w (hL.later b)
set_option maxRecDepth 100000 in
set_option maxHeartbeats 8000000 in
theorem small_any (a : World) (hL : Ld a) : Calls Tryd.prog 9 #[] a fun e w' => e = .returned (.bool true) ∧ Below a.heap.size a w' := by
  have P1 := Lib.hid (fun w b => (scan_at e1 a w hL b : Calls Tryd.prog 10 #[.string ⟨#[119, 104, 101, 110, 32, 108, 105, 107, 101, 115, 62, 61, 50]⟩] w fun e w' => (∃ g c, e = .returned (.tuple #[.slice (some ⟨g, 0, none⟩) 5 c, .int .i64 0, .int .i64 0]) ∧ OwnK w' w.heap.size 25 4 (some ⟨g, 0, none⟩) c 5 (toksL l1)) ∧ Below w.heap.size w w'))
  have P2 := Lib.hid (fun w b => scan_at e2 a w hL b)
  have P3 := Lib.hid (fun w b => scan_at e3 a w hL b)
  have P4 := Lib.hid (fun w b => scan_at e4 a w hL b)
  have P5 := Lib.hid (fun w b => scan_at e5 a w hL b)
  have P6 := Lib.hid (fun w b => (scan_at e6 a w hL b : Calls Tryd.prog 10 #[.string ⟨#[104, 105, 100, 101, 32, 34, 115, 112, 97, 109, 34]⟩] w fun e w' => (∃ g c, e = .returned (.tuple #[.slice (some ⟨g, 0, none⟩) 3 c, .int .i64 0, .int .i64 0]) ∧ OwnK w' w.heap.size 25 4 (some ⟨g, 0, none⟩) c 3 (toksL l6)) ∧ Below w.heap.size w w'))
  have HL := Lib.hid hL
  have B := Lib.hid (Below.refl a.heap.size a)
  clear hL
  go_enter Tryd.func9, Tryd.ntmps9
  go_wp2_with fail
  refine (P1.out _ B.out).mono ?_; rintro e w1 ⟨⟨g1, c1, rfl, O1⟩, b1⟩
  replace B := Lib.hid (B.out.trans (b1.mono B.out.size))
  have H1 := Lib.hid O1
  clear b1 O1
  go_wp2_with fail
  refine (P2.out _ B.out).mono ?_; rintro e w2 ⟨rfl, b2⟩
  replace B := Lib.hid (B.out.trans (b2.mono B.out.size))
  replace H1 := Lib.hid (H1.out.later b2)
  clear b2
  go_wp2_with fail
  refine (P3.out _ B.out).mono ?_; rintro e w3 ⟨rfl, b3⟩
  replace B := Lib.hid (B.out.trans (b3.mono B.out.size))
  replace H1 := Lib.hid (H1.out.later b3)
  clear b3
  go_wp2_with fail
  refine (P4.out _ B.out).mono ?_; rintro e w4 ⟨rfl, b4⟩
  replace B := Lib.hid (B.out.trans (b4.mono B.out.size))
  replace H1 := Lib.hid (H1.out.later b4)
  clear b4
  go_wp2_with fail
  refine (P5.out _ B.out).mono ?_; rintro e w5 ⟨rfl, b5⟩
  replace B := Lib.hid (B.out.trans (b5.mono B.out.size))
  replace H1 := Lib.hid (H1.out.later b5)
  clear b5
  go_wp2_with fail
  refine (P6.out _ B.out).mono ?_; rintro e w6 ⟨⟨g6, c6, rfl, O6⟩, b6⟩
  replace B := Lib.hid (B.out.trans (b6.mono B.out.size))
  replace H1 := Lib.hid (H1.out.later b6)
  have H6 := Lib.hid O6
  clear b6 O6
  have x0 := H1.out.cellAt 0 (v := .int .i64 0) rfl
  have x1 := H1.out.cellAt 1 (v := .string ⟨#[119, 104, 101, 110]⟩) rfl
  have x2 := H1.out.cellAt 2 (v := .int .i64 0) rfl
  have x3 := H1.out.cellAt 3 (v := .int .i64 0) rfl
  have x8 := H1.out.cellAt 8 (v := .int .i64 3) rfl
  have x9 := H1.out.cellAt 9 (v := .string ⟨#[62, 61]⟩) rfl
  have x10 := H1.out.cellAt 10 (v := .int .i64 0) rfl
  have x11 := H1.out.cellAt 11 (v := .int .i64 10) rfl
  have x12 := H1.out.cellAt 12 (v := .int .i64 1) rfl
  have x13 := H1.out.cellAt 13 (v := .string ⟨#[]⟩) rfl
  have x14 := H1.out.cellAt 14 (v := .int .i64 2) rfl
  have x15 := H1.out.cellAt 15 (v := .int .i64 12) rfl
  have x16 := H1.out.cellAt 16 (v := .int .i64 4) rfl
  have x17 := H1.out.cellAt 17 (v := .string ⟨#[]⟩) rfl
  have x18 := H1.out.cellAt 18 (v := .int .i64 0) rfl
  have x19 := H1.out.cellAt 19 (v := .int .i64 13) rfl
  have y4 := H6.out.cellAt 4 (v := .int .i64 2) rfl
  have y5 := H6.out.cellAt 5 (v := .string ⟨#[115, 112, 97, 109]⟩) rfl
  have W := Lib.hid (write_any (some ⟨g6, 0, none⟩) c6 l6 w6 H6.out.toks (by intro t ht; simp [l6] at ht; rcases ht with rfl | rfl | rfl <;> (unfold TokOk; simp)) (by simp [l6]) (HL.out.later B.out))
  rw [e7] at W
  have W2 := Lib.hid (W.out : Calls Tryd.prog 13 #[.slice (some ⟨g6, 0, none⟩) 3 c6] w6 fun e w' => e = .returned (.string ⟨#[104, 105, 100, 101, 32, 34, 115, 112, 97, 109, 34]⟩) ∧ Below w6.heap.size w6 w')
  clear W
  go_wp2_with fail
  refine W2.out.mono ?_; rintro e w7 ⟨rfl, b7⟩
  go_wp2_with fail
  go_ret
  exact ⟨rfl, B.out.trans (b7.mono B.out.size)⟩
end Go.Proofs.YtammpndggdniiaaDoor
