/- The laws' acts on a disk: few, pick, do; what an argument of that type reads as. -/
import Derived.Test.YtnbaalllcddbkaaSizedS
import Derived.Test.YtnbaalllcddbkaaDiskSmall
import Derived.Test.YtnbaalllcddbkaaDiskQ
import Derived.Deep.QuietTactic
import Derived.BigQuiet
namespace Go.Proofs.Ytnbaalllcddbkaa
open Go.RowKit

structure Act where
  kd : Int
  f : Int
  g : Int
  n : Int
  s : List UInt8
  A : Option Addr
  c : Nat
  kp : List Int
def Act.cells (x : Act) : Array Value := #[.int .i64 x.kd, .int .i64 x.f, .int .i64 x.g, .int .i64 x.n, .string ⟨x.s.toArray⟩, .slice x.A x.kp.length x.c]
/-- What an act holds of memory, and how far its parts reach. -/
def Act.At (x : Act) (w : World) : Prop := Row w w.heap.size x.A (i64s x.kp)
def Act.Came (x : Act) : Prop := (-9223372036854775808 ≤ x.kd ∧ x.kd < 9223372036854775808) ∧ (-9223372036854775808 ≤ x.n ∧ x.n < 9223372036854775808) ∧ x.s.length ≤ 140737488351232 ∧ x.kp.length ≤ 17592186043904
theorem Act.At.later {x : Act} {w w' : World} (h : x.At w) (b : Below w.heap.size w w') : x.At w' := Row.later h b
/-- The acts behind a slice: act i's six cells lie from 'off + 6 * i' on. -/
def Acts (w : World) (A : Option Addr) (l : List Act) : Prop := (∀ x ∈ l, x.At w ∧ x.Came) ∧ (0 < l.length → ∃ b off, A = some ⟨b, off, none⟩ ∧ b < w.heap.size ∧ ∀ i (h : i < l.length) j, j < 6 → w.cell? ⟨b, off + (i * 6 + j), none⟩ = l[i].cells[j]?)
theorem Acts.get {w wr : World} {A : Option Addr} {l : List Act} (h : Acts w A l) {k : Nat} (hk : k < l.length) (hB : Below w.heap.size w wr) : ∃ b o x, A = some ⟨b, o, none⟩ ∧ Hid (l[k] = x) ∧ b < w.heap.size ∧ x.At w ∧ x.Came ∧
    wr.cell? ⟨b, o + k * 6, none⟩ = some (.int .i64 x.kd) ∧ wr.cell? ⟨b, o + (k * 6 + 1), none⟩ = some (.int .i64 x.f) ∧ wr.cell? ⟨b, o + (k * 6 + 2), none⟩ = some (.int .i64 x.g) ∧ wr.cell? ⟨b, o + (k * 6 + 3), none⟩ = some (.int .i64 x.n) ∧
    wr.cell? ⟨b, o + (k * 6 + 4), none⟩ = some (.string ⟨x.s.toArray⟩) ∧ wr.cell? ⟨b, o + (k * 6 + 5), none⟩ = some (.slice x.A x.kp.length x.c) := by
  obtain ⟨h1, h2⟩ := h
  obtain ⟨b, o, rfl, hb, hc⟩ := h2 (by omega)
  obtain ⟨ha, hcm⟩ := h1 l[k] (List.getElem_mem hk)
  have H := fun j hj => (hB.cell (p := ⟨b, o + (k * 6 + j), none⟩) hb).trans (hc k hk j hj)
  exact ⟨b, o, l[k], rfl, Lib.hid rfl, hb, ha, hcm, H 0 (by decide), H 1 (by decide), H 2 (by decide), H 3 (by decide), H 4 (by decide), H 5 (by decide)⟩

section
open Go.ChangeShapes Go.WideShapes Go.ChangeAt Go.Deep Go.Joins
variable {H : Type} {enc : TypeId × Value → H} {W : World} {base : Nat} {v : Value} {d : DataW H} {p : List MemPlace}
set_option maxRecDepth 100000 in
theorem act_of {n : Nat} {u0 u1 u2 u3 u4 u5 : Value} {y0 y1 y2 y3 y4 y5 : DataW H × List MemPlace}
    (t0 : DataW.trod enc Try.prog W 0 (fun _ => true) true n 3 [u0] = some y0) (t1 : DataW.trod enc Try.prog W 0 (fun _ => true) true n 3 [u1] = some y1) (t2 : DataW.trod enc Try.prog W 0 (fun _ => true) true n 3 [u2] = some y2) (t3 : DataW.trod enc Try.prog W 0 (fun _ => true) true n 3 [u3] = some y3)
    (t4 : DataW.trod enc Try.prog W 0 (fun _ => true) true n 9 [u4] = some y4) (z4 : Small Try.prog 9 y4) (t5 : DataW.trod enc Try.prog W 0 (fun _ => true) true n 22 [u5] = some y5) (z5 : Small Try.prog 22 y5) :
    ∃ x : Act, #[u0, u1, u2, u3, u4, u5] = x.cells ∧ x.At W ∧ x.Came := by
  obtain ⟨k, rfl, wk⟩ := cell_int Try.underlying3 t0
  obtain ⟨f, rfl, wf⟩ := cell_int Try.underlying3 t1
  obtain ⟨g, rfl, wg⟩ := cell_int Try.underlying3 t2
  obtain ⟨i, rfl, wi⟩ := cell_int Try.underlying3 t3
  obtain ⟨s, rfl, ws⟩ := cell_strS Try.underlying9 t4 z4
  obtain ⟨A, c, l, rfl, r5, w5, m5⟩ := cell_intsS Try.underlying22 Try.underlying3 (by kernel_rfl) (by kernel_rfl) t5 z5
  exact ⟨⟨k, f, g, i, s, A, c, l⟩, rfl, r5, wf_i64 wk, wf_i64 wi, ws, m5⟩

set_option maxRecDepth 100000 in
theorem arg_act (hv : Value.okWide Try.prog W .any base 41 v) (h : DataW.Trod enc Try.prog W 0 (fun _ => true) true 41 v d p) (hz : ∀ k ∈ d.weights Try.prog 41, k ≤ reachBytes) : ∃ x : Act, v = .agg x.cells ∧ x.At W ∧ x.Came := by
  obtain ⟨cs, n, rfl, hl, hg⟩ := open_aggS Try.underlying41 (by kernel_rfl) (by kernel_rfl) hv h hz
  obtain ⟨u0, y0, e0, t0, _⟩ := hg 0 _ rfl
  obtain ⟨u1, y1, e1, t1, _⟩ := hg 1 _ rfl
  obtain ⟨u2, y2, e2, t2, _⟩ := hg 2 _ rfl
  obtain ⟨u3, y3, e3, t3, _⟩ := hg 3 _ rfl
  obtain ⟨u4, y4, e4, t4, z4⟩ := hg 4 _ rfl
  obtain ⟨u5, y5, e5, t5, z5⟩ := hg 5 _ rfl
  match cs, hl with
  | [v0, v1, v2, v3, v4, v5], _ =>
    simp at e0 e1 e2 e3 e4 e5
    subst e0 e1 e2 e3 e4 e5
    obtain ⟨x, hx, h1, h2⟩ := act_of t0 t1 t2 t3 t4 z4 t5 z5
    exact ⟨x, by rw [← hx], h1, h2⟩

set_option maxRecDepth 100000 in
theorem arg_acts (hv : Value.okWide Try.prog W .any base 37 v) (h : DataW.Trod enc Try.prog W 0 (fun _ => true) true 37 v d p) (hz : ∀ k ∈ d.weights Try.prog 37, k ≤ reachBytes) : ∃ A c, ∃ l : List Act, v = .slice A l.length c ∧ Acts W A l ∧ l.length ≤ maxLen := by
  obtain ⟨a, len, cap, rfl⟩ := okWide_slice Try.underlying37 hv
  obtain ⟨fuel, hf⟩ := h
  rcases open_slice_fieldsS Try.underlying37 Try.underlying41 (by kernel_rfl) (by kernel_rfl) hf hz with hcs | ⟨x, l, c, hcs, hl, hm, hi⟩
  · simp [Value.cells] at hcs
    obtain ⟨rfl, rfl, rfl⟩ := hcs
    exact ⟨none, 0, [], rfl, ⟨by simp, by simp⟩, by simp⟩
  · simp [Value.cells] at hcs
    obtain ⟨rfl, rfl, rfl⟩ := hcs
    have each : ∀ i, i < len → ∃ y : Act, (∀ j, j < 6 → W.cell? (x.add (i * 6 + j)) = y.cells[j]?) ∧ y.At W ∧ y.Came := by
      intro i hil
      obtain ⟨n, hg⟩ := hi i hil
      obtain ⟨u0, y0, e0, t0, _⟩ := hg 0 _ rfl
      obtain ⟨u1, y1, e1, t1, _⟩ := hg 1 _ rfl
      obtain ⟨u2, y2, e2, t2, _⟩ := hg 2 _ rfl
      obtain ⟨u3, y3, e3, t3, _⟩ := hg 3 _ rfl
      obtain ⟨u4, y4, e4, t4, z4⟩ := hg 4 _ rfl
      obtain ⟨u5, y5, e5, t5, z5⟩ := hg 5 _ rfl
      obtain ⟨y, hy, h1, h2⟩ := act_of t0 t1 t2 t3 t4 z4 t5 z5
      refine ⟨y, fun j hj => ?_, h1, h2⟩
      rw [← hy]
      match j, hj with
      | 0, _ => exact e0
      | 1, _ => exact e1
      | 2, _ => exact e2
      | 3, _ => exact e3
      | 4, _ => exact e4
      | 5, _ => exact e5
    have pick : ∀ k, k ≤ len → ∃ l : List Act, l.length = k ∧ ∀ i (h : i < l.length), (∀ j, j < 6 → W.cell? (x.add (i * 6 + j)) = l[i].cells[j]?) ∧ l[i].At W ∧ l[i].Came := by
      intro k
      induction k with
      | zero => intro _; exact ⟨[], rfl, by simp⟩
      | succ k ih =>
        intro hk
        obtain ⟨l, hl, hall⟩ := ih (by omega)
        obtain ⟨y, hy⟩ := each k (by omega)
        refine ⟨l ++ [y], by simp [hl], fun i h => ?_⟩
        by_cases hik : i < l.length
        · rw [List.getElem_append_left hik]; exact hall i hik
        · have : i = k := by simp at h; omega
          subst this
          have e : (l ++ [y])[i]'h = y := by rw [List.getElem_append_right (by omega)]; simp
          rw [e]; exact hy
    obtain ⟨l, hll, hall⟩ := pick len (Nat.le_refl _)
    refine ⟨_, _, l, by rw [hll], ⟨fun y hy => ?_, fun h0 => ?_⟩, by omega⟩
    · obtain ⟨i, hil, rfl⟩ := List.getElem_of_mem hy
      exact (hall i hil).2
    · obtain ⟨b, off, spot⟩ := x
      have h00 := (hall 0 h0).1 0 (by omega)
      have hcell : W.cell? (⟨b, off, spot⟩ : Addr) = some (l[0].cells[0]'(by simp [Act.cells])) := by
        have : ((⟨b, off, spot⟩ : Addr).add (0 * 6 + 0)) = ⟨b, off, spot⟩ := by simp [Addr.add]
        rw [this] at h00; rw [h00]; simp [Act.cells]
      have hspot : spot = none := World.cell?_spot hcell
      subst hspot
      refine ⟨b, off, rfl, block_lt_of_cell hcell, fun i h j hj => ?_⟩
      rw [← (hall i h).1 j hj, ← Go.WideShapes.add_plain]
end

def pickS (n : Int) : Int := if n.tmod 11 < 0 then n.tmod 11 + 11 else n.tmod 11
theorem pickS_bd (n : Int) : 0 ≤ pickS n ∧ pickS n < 11 := by
  have h1 : n.tmod 11 < 11 := Int.tmod_lt_of_pos _ (by decide)
  have h2 : -11 < n.tmod 11 := by
    have := Int.tmod_lt_of_pos (-n) (show (0 : Int) < 11 by decide)
    rw [Int.neg_tmod] at this; omega
  unfold pickS; split <;> omega
set_option maxHeartbeats 400000 in
theorem pick_any (n : Int) (w : World) : Calls Try.prog 26 #[.int .i64 n] w fun e w' => e = .returned (.int .i64 (pickS n)) ∧ w = w' := by
  have h := pickS_bd n
  have h1 : n.tmod 11 < 11 := Int.tmod_lt_of_pos _ (by decide)
  have h2 : -11 < n.tmod 11 := by
    have := Int.tmod_lt_of_pos (-n) (show (0 : Int) < 11 by decide)
    rw [Int.neg_tmod] at this; omega
  by_cases h0 : n.tmod 11 < 0
  · have HP := Lib.hid (show RowKit.wrap64 (n.tmod 11 + 11) = pickS n by unfold pickS; rw [if_pos h0, IntWalk.wrap64_in _ (by omega)])
    clear h h1 h2
    go_enter Try.func26, Try.ntmps26
    go_wp2_with fail
    go_ret
    rw [← HP.out]
    exact ⟨rfl, rfl⟩
  · have HP := Lib.hid (show n.tmod 11 = pickS n by unfold pickS; rw [if_neg h0])
    clear h h1 h2
    go_enter Try.func26, Try.ntmps26
    go_wp2_with fail
    go_ret
    rw [← HP.out]
    exact ⟨rfl, rfl⟩

/-- What one act does to a disk: its answers, and the disk then. -/
def doS (S : DS) (x : Act) : (List UInt8 × Int) × DS :=
  if pickS x.kd = 0 ∨ pickS x.kd = 1 then (([], (S.appendS x.f x.s).1), (S.appendS x.f x.s).2)
  else if pickS x.kd = 2 then (([], (S.flushS x.f).1), (S.flushS x.f).2)
  else if pickS x.kd = 3 then (([], (S.cutS x.f x.n).1), (S.cutS x.f x.n).2)
  else if pickS x.kd = 4 then (([], (S.turnS x.f x.g).1), (S.turnS x.f x.g).2)
  else if pickS x.kd = 5 then (([], 0), S.crash x.kp)
  else if pickS x.kd = 6 then (([], 0), { S with lost := max x.n 0 })
  else if pickS x.kd = 7 then (([], 0), { S with down := false })
  else if pickS x.kd = 8 then (ReadsF S x.f, S)
  else if pickS x.kd = 10 then (([], 0), S.arm x.n x.kp)
  else (([], 0), S)
def DoEnd (a : World) (b : Nat) (R : (List UInt8 × Int) × DS) (e : Ending) (w' : World) : Prop := e = .returned (.tuple #[.string ⟨R.1.1.toArray⟩, .int .i64 R.1.2]) ∧ Held a w' b R.2

theorem act_ne {a w : World} {b : Nat} {S : DS} {x : Act} (h : Held a w b S) (hx : x.At a) : 0 < x.kp.length → ∀ g, x.A = some g → g.block ≠ b := by
  intro h0 g hA
  obtain ⟨b1, o1, e1, hb1, _⟩ := hx (by rw [i64s_length]; omega)
  rw [e1] at hA
  injection hA with hA
  subst hA
  have := h.2.2.2
  show b1 ≠ b
  omega

section
variable {a w : World} {b : Nat} {S : DS} {x : Act}

set_option maxRecDepth 100000 in
set_option maxHeartbeats 1000000 in
theorem do_append0 (h : Held a w b S) (hx : x.At a) (hs : x.s.length ≤ 4398046511104) (hp : x.kp.length ≤ 4398046511104) (hn : x.n < 9223372036854775808) (hk : pickS x.kd = 0) :
    Calls Try.prog 25 #[.pointer (some ⟨b, 0, none⟩), .agg x.cells] w (DoEnd a b (doS S x)) := by
  have HB := Lib.hid (h.alloc (.cells x.cells 41))
  have HX := Lib.hid (Row.later hx (HB.out.1))
  have HN := Lib.hid (act_ne h hx)
  have PK := Lib.hid (fun w => hk ▸ pick_any x.kd w)
  have HD := Lib.hid hk
  clear h hx hk
  unfold Act.cells at *
  go_enter Try.func25, Try.ntmps25
  go_wp2_with fail
  refine (PK.out _).mono ?_; rintro e w1 ⟨rfl, rfl⟩
  go_wp2_with fail
  refine (append_at HB.out x.f x.s hs (show S.appendS x.f x.s = ((S.appendS x.f x.s).1, (S.appendS x.f x.s).2) from rfl)).mono ?_; rintro e w2 ⟨rfl, h2⟩
  go_wp2_with fail
  go_ret2
  unfold DoEnd doS
  simp only [HD.out, if_true, if_false, Int.reduceEq, or_true, true_or, or_false, false_or, or_self]
  exact ⟨rfl, h2⟩

set_option maxRecDepth 100000 in
set_option maxHeartbeats 1000000 in
theorem do_append1 (h : Held a w b S) (hx : x.At a) (hs : x.s.length ≤ 4398046511104) (hp : x.kp.length ≤ 4398046511104) (hn : x.n < 9223372036854775808) (hk : pickS x.kd = 1) :
    Calls Try.prog 25 #[.pointer (some ⟨b, 0, none⟩), .agg x.cells] w (DoEnd a b (doS S x)) := by
  have HB := Lib.hid (h.alloc (.cells x.cells 41))
  have HX := Lib.hid (Row.later hx (HB.out.1))
  have HN := Lib.hid (act_ne h hx)
  have PK := Lib.hid (fun w => hk ▸ pick_any x.kd w)
  have HD := Lib.hid hk
  clear h hx hk
  unfold Act.cells at *
  go_enter Try.func25, Try.ntmps25
  go_wp2_with fail
  refine (PK.out _).mono ?_; rintro e w1 ⟨rfl, rfl⟩
  go_wp2_with fail
  refine (append_at HB.out x.f x.s hs (show S.appendS x.f x.s = ((S.appendS x.f x.s).1, (S.appendS x.f x.s).2) from rfl)).mono ?_; rintro e w2 ⟨rfl, h2⟩
  go_wp2_with fail
  go_ret2
  unfold DoEnd doS
  simp only [HD.out, if_true, if_false, Int.reduceEq, or_true, true_or, or_false, false_or, or_self]
  exact ⟨rfl, h2⟩

set_option maxRecDepth 100000 in
set_option maxHeartbeats 1000000 in
theorem do_flush (h : Held a w b S) (hx : x.At a) (hs : x.s.length ≤ 4398046511104) (hp : x.kp.length ≤ 4398046511104) (hn : x.n < 9223372036854775808) (hk : pickS x.kd = 2) :
    Calls Try.prog 25 #[.pointer (some ⟨b, 0, none⟩), .agg x.cells] w (DoEnd a b (doS S x)) := by
  have HB := Lib.hid (h.alloc (.cells x.cells 41))
  have HX := Lib.hid (Row.later hx (HB.out.1))
  have HN := Lib.hid (act_ne h hx)
  have PK := Lib.hid (fun w => hk ▸ pick_any x.kd w)
  have HD := Lib.hid hk
  clear h hx hk
  unfold Act.cells at *
  go_enter Try.func25, Try.ntmps25
  go_wp2_with fail
  refine (PK.out _).mono ?_; rintro e w1 ⟨rfl, rfl⟩
  go_wp2_with fail
  refine (flush_at HB.out x.f (show S.flushS x.f = ((S.flushS x.f).1, (S.flushS x.f).2) from rfl)).mono ?_; rintro e w2 ⟨rfl, h2⟩
  go_wp2_with fail
  go_ret2
  unfold DoEnd doS
  simp only [HD.out, if_true, if_false, Int.reduceEq, or_true, true_or, or_false, false_or, or_self]
  exact ⟨rfl, h2⟩

set_option maxRecDepth 100000 in
set_option maxHeartbeats 1000000 in
theorem do_cut (h : Held a w b S) (hx : x.At a) (hs : x.s.length ≤ 4398046511104) (hp : x.kp.length ≤ 4398046511104) (hn : x.n < 9223372036854775808) (hk : pickS x.kd = 3) :
    Calls Try.prog 25 #[.pointer (some ⟨b, 0, none⟩), .agg x.cells] w (DoEnd a b (doS S x)) := by
  have HB := Lib.hid (h.alloc (.cells x.cells 41))
  have HX := Lib.hid (Row.later hx (HB.out.1))
  have HN := Lib.hid (act_ne h hx)
  have PK := Lib.hid (fun w => hk ▸ pick_any x.kd w)
  have HD := Lib.hid hk
  clear h hx hk
  unfold Act.cells at *
  go_enter Try.func25, Try.ntmps25
  go_wp2_with fail
  refine (PK.out _).mono ?_; rintro e w1 ⟨rfl, rfl⟩
  go_wp2_with fail
  refine (cut_at HB.out x.f x.n (show S.cutS x.f x.n = ((S.cutS x.f x.n).1, (S.cutS x.f x.n).2) from rfl)).mono ?_; rintro e w2 ⟨rfl, h2⟩
  go_wp2_with fail
  go_ret2
  unfold DoEnd doS
  simp only [HD.out, if_true, if_false, Int.reduceEq, or_true, true_or, or_false, false_or, or_self]
  exact ⟨rfl, h2⟩

set_option maxRecDepth 100000 in
set_option maxHeartbeats 1000000 in
theorem do_turn (h : Held a w b S) (hx : x.At a) (hs : x.s.length ≤ 4398046511104) (hp : x.kp.length ≤ 4398046511104) (hn : x.n < 9223372036854775808) (hk : pickS x.kd = 4) :
    Calls Try.prog 25 #[.pointer (some ⟨b, 0, none⟩), .agg x.cells] w (DoEnd a b (doS S x)) := by
  have HB := Lib.hid (h.alloc (.cells x.cells 41))
  have HX := Lib.hid (Row.later hx (HB.out.1))
  have HN := Lib.hid (act_ne h hx)
  have PK := Lib.hid (fun w => hk ▸ pick_any x.kd w)
  have HD := Lib.hid hk
  clear h hx hk
  unfold Act.cells at *
  go_enter Try.func25, Try.ntmps25
  go_wp2_with fail
  refine (PK.out _).mono ?_; rintro e w1 ⟨rfl, rfl⟩
  go_wp2_with fail
  refine (turn_at HB.out x.f x.g (show S.turnS x.f x.g = ((S.turnS x.f x.g).1, (S.turnS x.f x.g).2) from rfl)).mono ?_; rintro e w2 ⟨rfl, h2⟩
  go_wp2_with fail
  go_ret2
  unfold DoEnd doS
  simp only [HD.out, if_true, if_false, Int.reduceEq, or_true, true_or, or_false, false_or, or_self]
  exact ⟨rfl, h2⟩

set_option maxRecDepth 100000 in
set_option maxHeartbeats 1000000 in
theorem do_crash (h : Held a w b S) (hx : x.At a) (hs : x.s.length ≤ 4398046511104) (hp : x.kp.length ≤ 4398046511104) (hn : x.n < 9223372036854775808) (hk : pickS x.kd = 5) :
    Calls Try.prog 25 #[.pointer (some ⟨b, 0, none⟩), .agg x.cells] w (DoEnd a b (doS S x)) := by
  have HB := Lib.hid (h.alloc (.cells x.cells 41))
  have HX := Lib.hid (Row.later hx (HB.out.1))
  have HN := Lib.hid (act_ne h hx)
  have PK := Lib.hid (fun w => hk ▸ pick_any x.kd w)
  have HD := Lib.hid hk
  clear h hx hk
  unfold Act.cells at *
  go_enter Try.func25, Try.ntmps25
  go_wp2_with fail
  refine (PK.out _).mono ?_; rintro e w1 ⟨rfl, rfl⟩
  go_wp2_with fail
  refine (crash_at HB.out x.A x.c _ x.kp HX.out HN.out rfl (by omega)).mono ?_; rintro e w2 ⟨rfl, h2⟩
  go_wp2_with fail
  go_ret2
  unfold DoEnd doS
  simp only [HD.out, if_true, if_false, Int.reduceEq, or_true, true_or, or_false, false_or, or_self]
  exact ⟨rfl, h2⟩

set_option maxRecDepth 100000 in
set_option maxHeartbeats 1000000 in
theorem do_lose (h : Held a w b S) (hx : x.At a) (hs : x.s.length ≤ 4398046511104) (hp : x.kp.length ≤ 4398046511104) (hn : x.n < 9223372036854775808) (hk : pickS x.kd = 6) :
    Calls Try.prog 25 #[.pointer (some ⟨b, 0, none⟩), .agg x.cells] w (DoEnd a b (doS S x)) := by
  have HB := Lib.hid (h.alloc (.cells x.cells 41))
  have HX := Lib.hid (Row.later hx (HB.out.1))
  have HN := Lib.hid (act_ne h hx)
  have PK := Lib.hid (fun w => hk ▸ pick_any x.kd w)
  have HD := Lib.hid hk
  clear h hx hk
  unfold Act.cells at *
  go_enter Try.func25, Try.ntmps25
  go_wp2_with fail
  refine (PK.out _).mono ?_; rintro e w1 ⟨rfl, rfl⟩
  go_wp2_with fail
  refine (lose_at HB.out x.n hn).mono ?_; rintro e w2 ⟨rfl, h2⟩
  go_wp2_with fail
  go_ret2
  unfold DoEnd doS
  simp only [HD.out, if_true, if_false, Int.reduceEq, or_true, true_or, or_false, false_or, or_self]
  exact ⟨rfl, h2⟩

set_option maxRecDepth 100000 in
set_option maxHeartbeats 1000000 in
theorem do_start (h : Held a w b S) (hx : x.At a) (hs : x.s.length ≤ 4398046511104) (hp : x.kp.length ≤ 4398046511104) (hn : x.n < 9223372036854775808) (hk : pickS x.kd = 7) :
    Calls Try.prog 25 #[.pointer (some ⟨b, 0, none⟩), .agg x.cells] w (DoEnd a b (doS S x)) := by
  have HB := Lib.hid (h.alloc (.cells x.cells 41))
  have HX := Lib.hid (Row.later hx (HB.out.1))
  have HN := Lib.hid (act_ne h hx)
  have PK := Lib.hid (fun w => hk ▸ pick_any x.kd w)
  have HD := Lib.hid hk
  clear h hx hk
  unfold Act.cells at *
  go_enter Try.func25, Try.ntmps25
  go_wp2_with fail
  refine (PK.out _).mono ?_; rintro e w1 ⟨rfl, rfl⟩
  go_wp2_with fail
  refine (start_at HB.out).mono ?_; rintro e w2 ⟨rfl, h2⟩
  go_wp2_with fail
  go_ret2
  unfold DoEnd doS
  simp only [HD.out, if_true, if_false, Int.reduceEq, or_true, true_or, or_false, false_or, or_self]
  exact ⟨rfl, h2⟩

set_option maxRecDepth 100000 in
set_option maxHeartbeats 1000000 in
theorem do_read (h : Held a w b S) (hx : x.At a) (hs : x.s.length ≤ 4398046511104) (hp : x.kp.length ≤ 4398046511104) (hn : x.n < 9223372036854775808) (hk : pickS x.kd = 8) :
    Calls Try.prog 25 #[.pointer (some ⟨b, 0, none⟩), .agg x.cells] w (DoEnd a b (doS S x)) := by
  have HB := Lib.hid (h.alloc (.cells x.cells 41))
  have HX := Lib.hid (Row.later hx (HB.out.1))
  have HN := Lib.hid (act_ne h hx)
  have PK := Lib.hid (fun w => hk ▸ pick_any x.kd w)
  have HD := Lib.hid hk
  clear h hx hk
  unfold Act.cells at *
  go_enter Try.func25, Try.ntmps25
  go_wp2_with fail
  refine (PK.out _).mono ?_; rintro e w1 ⟨rfl, rfl⟩
  go_wp2_with fail
  refine (read_at HB.out x.f (show ReadsF S x.f = ((ReadsF S x.f).1, (ReadsF S x.f).2) from rfl)).mono ?_; rintro e w2 ⟨rfl, h2⟩
  go_wp2_with fail
  go_ret2
  unfold DoEnd doS
  simp only [HD.out, if_true, if_false, Int.reduceEq, or_true, true_or, or_false, false_or, or_self]
  exact ⟨rfl, h2⟩

set_option maxRecDepth 100000 in
set_option maxHeartbeats 1000000 in
theorem do_none (h : Held a w b S) (hx : x.At a) (hs : x.s.length ≤ 4398046511104) (hp : x.kp.length ≤ 4398046511104) (hn : x.n < 9223372036854775808) (hk : pickS x.kd = 9) :
    Calls Try.prog 25 #[.pointer (some ⟨b, 0, none⟩), .agg x.cells] w (DoEnd a b (doS S x)) := by
  have HB := Lib.hid (h.alloc (.cells x.cells 41))
  have HX := Lib.hid (Row.later hx (HB.out.1))
  have HN := Lib.hid (act_ne h hx)
  have PK := Lib.hid (fun w => hk ▸ pick_any x.kd w)
  have HD := Lib.hid hk
  clear h hx hk
  unfold Act.cells at *
  go_enter Try.func25, Try.ntmps25
  go_wp2_with fail
  refine (PK.out _).mono ?_; rintro e w1 ⟨rfl, rfl⟩
  go_wp2_with fail
  have h2 := HB.out
  go_ret2
  unfold DoEnd doS
  simp only [HD.out, if_true, if_false, Int.reduceEq, or_true, true_or, or_false, false_or, or_self]
  exact ⟨rfl, h2⟩

set_option maxRecDepth 100000 in
set_option maxHeartbeats 1000000 in
theorem do_arm (h : Held a w b S) (hx : x.At a) (hs : x.s.length ≤ 4398046511104) (hp : x.kp.length ≤ 4398046511104) (hn : x.n < 9223372036854775808) (hk : pickS x.kd = 10) :
    Calls Try.prog 25 #[.pointer (some ⟨b, 0, none⟩), .agg x.cells] w (DoEnd a b (doS S x)) := by
  have HB := Lib.hid (h.alloc (.cells x.cells 41))
  have HX := Lib.hid (Row.later hx (HB.out.1))
  have HN := Lib.hid (act_ne h hx)
  have PK := Lib.hid (fun w => hk ▸ pick_any x.kd w)
  have HD := Lib.hid hk
  clear h hx hk
  unfold Act.cells at *
  go_enter Try.func25, Try.ntmps25
  go_wp2_with fail
  refine (PK.out _).mono ?_; rintro e w1 ⟨rfl, rfl⟩
  go_wp2_with fail
  refine (arm_at HB.out x.n x.A x.c _ x.kp HX.out rfl hp hn).mono ?_; rintro e w2 ⟨rfl, h2⟩
  go_wp2_with fail
  go_ret2
  unfold DoEnd doS
  simp only [HD.out, if_true, if_false, Int.reduceEq, or_true, true_or, or_false, false_or, or_self]
  exact ⟨rfl, h2⟩

theorem do_any (h : Held a w b S) (hx : x.At a) (hs : x.s.length ≤ 4398046511104) (hp : x.kp.length ≤ 4398046511104) (hn : x.n < 9223372036854775808) :
    Calls Try.prog 25 #[.pointer (some ⟨b, 0, none⟩), .agg x.cells] w (DoEnd a b (doS S x)) := by
  have hb := pickS_bd x.kd
  rcases (by omega : pickS x.kd = 0 ∨ pickS x.kd = 1 ∨ pickS x.kd = 2 ∨ pickS x.kd = 3 ∨ pickS x.kd = 4 ∨ pickS x.kd = 5 ∨ pickS x.kd = 6 ∨ pickS x.kd = 7 ∨ pickS x.kd = 8 ∨ pickS x.kd = 9 ∨ pickS x.kd = 10) with hk | hk | hk | hk | hk | hk | hk | hk | hk | hk | hk
  · exact do_append0 h hx hs hp hn hk
  · exact do_append1 h hx hs hp hn hk
  · exact do_flush h hx hs hp hn hk
  · exact do_cut h hx hs hp hn hk
  · exact do_turn h hx hs hp hn hk
  · exact do_crash h hx hs hp hn hk
  · exact do_lose h hx hs hp hn hk
  · exact do_start h hx hs hp hn hk
  · exact do_read h hx hs hp hn hk
  · exact do_none h hx hs hp hn hk
  · exact do_arm h hx hs hp hn hk
end
end Go.Proofs.Ytnbaalllcddbkaa
