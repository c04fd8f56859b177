/- What an argument of type Value, and of type []Value, reads as. -/
import Derived.Test.YtgojkbaodmiiaaaStruct
import Derived.Test.YtgojkbaodmiiaaaCodeCut
namespace Go.Proofs.Ytgojkbaodmiiaaa
open Go.RowKit Go.ChangeShapes Go.WideShapes Go.ChangeAt Go.Deep Go.Joins

section
variable {H : Type} {enc : TypeId × Value → H} {W : World} {base : Nat} {v : Value} {d : DataW H} {p : List MemPlace}

theorem val_of {n : Nat} {u0 u1 u2 u3 u4 : Value} {y0 y1 y2 y3 y4 : DataW H × List MemPlace}
    (t0 : DataW.trod enc Try.prog W 0 (fun _ => true) true n 3 [u0] = some y0) (t1 : DataW.trod enc Try.prog W 0 (fun _ => true) true n 3 [u1] = some y1) (t2 : DataW.trod enc Try.prog W 0 (fun _ => true) true n 9 [u2] = some y2)
    (t3 : DataW.trod enc Try.prog W 0 (fun _ => true) true n 22 [u3] = some y3) (t4 : DataW.trod enc Try.prog W 0 (fun _ => true) true n 23 [u4] = some y4) :
    ∃ x : Val, #[u0, u1, u2, u3, u4] = x.cells ∧ x.At W ∧ x.Came := by
  obtain ⟨k, rfl, wk⟩ := cell_int Try.underlying3 t0
  obtain ⟨i, rfl, wi⟩ := cell_int Try.underlying3 t1
  obtain ⟨s, rfl, ws⟩ := cell_str Try.underlying9 t2
  obtain ⟨A, c, l, rfl, r3, w3, m3⟩ := cell_strs Try.underlying22 Try.underlying9 (by kernel_rfl) t3
  obtain ⟨D, e, m, rfl, r4, w4, m4⟩ := cell_ints Try.underlying23 Try.underlying3 (by kernel_rfl) t4
  exact ⟨⟨k, i, s, A, c, l, D, e, m⟩, rfl, ⟨r3, r4⟩, wf_i64 wi, ws, m3, m4, w3⟩

theorem arg_val (hv : Value.okWide Try.prog W .any base 45 v) (h : DataW.Trod enc Try.prog W 0 (fun _ => true) true 45 v d p) : ∃ x : Val, v = .agg x.cells ∧ x.At W ∧ x.Came := by
  obtain ⟨cs, n, rfl, hl, hg⟩ := open_agg Try.underlying45 (by kernel_rfl) (by kernel_rfl) hv h
  obtain ⟨u0, y0, e0, t0⟩ := hg 0 _ rfl
  obtain ⟨u1, y1, e1, t1⟩ := hg 1 _ rfl
  obtain ⟨u2, y2, e2, t2⟩ := hg 2 _ rfl
  obtain ⟨u3, y3, e3, t3⟩ := hg 3 _ rfl
  obtain ⟨u4, y4, e4, t4⟩ := hg 4 _ rfl
  match cs, hl with
  | [v0, v1, v2, v3, v4], _ =>
    simp at e0 e1 e2 e3 e4
    subst e0 e1 e2 e3 e4
    obtain ⟨x, hx, h1, h2⟩ := val_of t0 t1 t2 t3 t4
    exact ⟨x, by rw [← hx], h1, h2⟩

/-- The values behind a slice: element i's five cells lie from 'off + 5 * i' on. -/
def Vals (w : World) (A : Option Addr) (l : List Val) : Prop := (∀ x ∈ l, x.At w ∧ x.Came) ∧ (0 < l.length → ∃ b off, A = some ⟨b, off, none⟩ ∧ b < w.heap.size ∧ ∀ i (h : i < l.length) j, j < 5 → w.cell? ⟨b, off + (i * 5 + j), none⟩ = l[i].cells[j]?)

theorem arg_vals (hv : Value.okWide Try.prog W .any base 42 v) (h : DataW.Trod enc Try.prog W 0 (fun _ => true) true 42 v d p) : ∃ A c, ∃ l : List Val, v = .slice A l.length c ∧ Vals W A l ∧ l.length ≤ maxLen := by
  obtain ⟨a, len, cap, rfl⟩ := okWide_slice Try.underlying42 hv
  obtain ⟨fuel, hf⟩ := h
  rcases open_slice_fields Try.underlying42 Try.underlying45 (by kernel_rfl) (by kernel_rfl) hf with hcs | ⟨x, l, c, m, hcs, hl, hm, hmm, hi⟩
  · simp [Value.cells] at hcs
    obtain ⟨rfl, rfl, rfl⟩ := hcs
    exact ⟨none, 0, [], rfl, ⟨by simp, by simp⟩, by simp⟩
  · simp [Value.cells] at hcs
    obtain ⟨rfl, rfl, rfl⟩ := hcs
    simp at hmm
    have each : ∀ i, i < len → ∃ y : Val, (∀ j, j < 5 → W.cell? (x.add (i * 5 + j)) = y.cells[j]?) ∧ y.At W ∧ y.Came := by
      intro i hil
      obtain ⟨n, hg⟩ := hi i (by omega)
      obtain ⟨u0, y0, e0, t0⟩ := hg 0 _ rfl
      obtain ⟨u1, y1, e1, t1⟩ := hg 1 _ rfl
      obtain ⟨u2, y2, e2, t2⟩ := hg 2 _ rfl
      obtain ⟨u3, y3, e3, t3⟩ := hg 3 _ rfl
      obtain ⟨u4, y4, e4, t4⟩ := hg 4 _ rfl
      obtain ⟨y, hy, h1, h2⟩ := val_of t0 t1 t2 t3 t4
      refine ⟨y, fun j hj => ?_, h1, h2⟩
      rw [← hy]
      match j, hj with
      | 0, _ => exact e0
      | 1, _ => exact e1
      | 2, _ => exact e2
      | 3, _ => exact e3
      | 4, _ => exact e4
    have pick : ∀ k, k ≤ len → ∃ l : List Val, l.length = k ∧ ∀ i (h : i < l.length), (∀ j, j < 5 → W.cell? (x.add (i * 5 + j)) = l[i].cells[j]?) ∧ l[i].At W ∧ l[i].Came := by
      intro k
      induction k with
      | zero => intro _; exact ⟨[], rfl, by simp⟩
      | succ k ih =>
        intro hk
        obtain ⟨l, hl, hall⟩ := ih (by omega)
        obtain ⟨y, hy⟩ := each k (by omega)
        refine ⟨l ++ [y], by simp [hl], fun i h => ?_⟩
        by_cases hik : i < l.length
        · rw [List.getElem_append_left hik]; exact hall i hik
        · have : i = k := by simp at h; omega
          subst this
          have e : (l ++ [y])[i]'h = y := by rw [List.getElem_append_right (by omega)]; simp
          rw [e]; exact hy
    obtain ⟨l, hll, hall⟩ := pick len (Nat.le_refl _)
    refine ⟨_, _, l, by rw [hll], ⟨fun y hy => ?_, fun h0 => ?_⟩, by omega⟩
    · obtain ⟨i, hil, rfl⟩ := List.getElem_of_mem hy
      exact (hall i hil).2
    · obtain ⟨b, off, spot⟩ := x
      have h00 := (hall 0 h0).1 0 (by omega)
      have hcell : W.cell? (⟨b, off, spot⟩ : Addr) = some (l[0].cells[0]'(by simp [Val.cells])) := by
        have : ((⟨b, off, spot⟩ : Addr).add (0 * 5 + 0)) = ⟨b, off, spot⟩ := by simp [Addr.add]
        rw [this] at h00; rw [h00]; simp [Val.cells]
      have hspot : spot = none := World.cell?_spot hcell
      subst hspot
      refine ⟨b, off, rfl, by have := block_lt_of_cell hcell; simpa using this, fun i h j hj => ?_⟩
      rw [← Go.WideShapes.add_plain]; exact (hall i h).1 j hj
end
end Go.Proofs.Ytgojkbaodmiiaaa
