/- What an argument that is a list of tokens reads as. -/
import Derived.Test.YtammpndggdniiaaDoorSizedS
import Derived.Test.YtammpndggdniiaaDoorLexI
namespace Go.Proofs.YtammpndggdniiaaDoor
open Go.RowKit

def TokCame (x : Tok) : Prop := (-9223372036854775808 ≤ x.n ∧ x.n < 9223372036854775808) ∧ x.tx.length ≤ 140737488351232
section
open Go.ChangeShapes Go.WideShapes Go.ChangeAt Go.Deep Go.Joins
variable {H : Type} {enc : TypeId × Value → H} {W : World} {base : Nat} {v : Value} {d : DataW H} {p : List MemPlace}
set_option maxRecDepth 100000 in
theorem tok_of {n : Nat} {u0 u1 u2 u3 : Value} {y0 y1 y2 y3 : DataW H × List MemPlace}
    (t0 : DataW.trod enc Tryd.prog W 0 (fun _ => true) true n 3 [u0] = some y0) (t1 : DataW.trod enc Tryd.prog W 0 (fun _ => true) true n 9 [u1] = some y1) (z1 : Small Tryd.prog 9 y1) (t2 : DataW.trod enc Tryd.prog W 0 (fun _ => true) true n 3 [u2] = some y2) (t3 : DataW.trod enc Tryd.prog W 0 (fun _ => true) true n 3 [u3] = some y3) :
    ∃ x : Tok, #[u0, u1, u2, u3] = x.cells ∧ TokCame x := by
  obtain ⟨k, rfl, wk⟩ := cell_int Tryd.underlying3 t0
  obtain ⟨s, rfl, ws⟩ := cell_strS Tryd.underlying9 t1 z1
  obtain ⟨f, rfl, wf⟩ := cell_int Tryd.underlying3 t2
  obtain ⟨g, rfl, wg⟩ := cell_int Tryd.underlying3 t3
  exact ⟨⟨k, s, f, g⟩, rfl, wf_i64 wf, ws⟩

set_option maxRecDepth 100000 in
theorem arg_toks (hv : Value.okWide Tryd.prog W .any base 22 v) (h : DataW.Trod enc Tryd.prog W 0 (fun _ => true) true 22 v d p) (hz : ∀ k ∈ d.weights Tryd.prog 22, k ≤ reachBytes) : ∃ A c, ∃ l : List Tok, v = .slice A l.length c ∧ Toks W A l ∧ (∀ t ∈ l, TokCame t) ∧ l.length ≤ maxLen := by
  obtain ⟨a, len, cap, rfl⟩ := okWide_slice Tryd.underlying22 hv
  obtain ⟨fuel, hf⟩ := h
  rcases open_slice_fieldsS Tryd.underlying22 Tryd.underlying25 (by kernel_rfl) (by kernel_rfl) hf hz with hcs | ⟨x, l, c, hcs, hl, hm, hi⟩
  · simp [Value.cells] at hcs
    obtain ⟨rfl, rfl, rfl⟩ := hcs
    exact ⟨none, 0, [], rfl, (by intro h; simp at h), by simp, by simp⟩
  · simp [Value.cells] at hcs
    obtain ⟨rfl, rfl, rfl⟩ := hcs
    have each : ∀ i, i < len → ∃ y : Tok, (∀ j, j < 4 → W.cell? (x.add (i * 4 + j)) = y.cells[j]?) ∧ TokCame y := by
      intro i hil
      obtain ⟨n, hg⟩ := hi i hil
      obtain ⟨u0, y0, e0, t0, _⟩ := hg 0 _ rfl
      obtain ⟨u1, y1, e1, t1, z1⟩ := hg 1 _ rfl
      obtain ⟨u2, y2, e2, t2, _⟩ := hg 2 _ rfl
      obtain ⟨u3, y3, e3, t3, _⟩ := hg 3 _ rfl
      obtain ⟨y, hy, h1⟩ := tok_of t0 t1 z1 t2 t3
      refine ⟨y, fun j hj => ?_, h1⟩
      rw [← hy]
      match j, hj with
      | 0, _ => exact e0
      | 1, _ => exact e1
      | 2, _ => exact e2
      | 3, _ => exact e3
    have pick : ∀ k, k ≤ len → ∃ l : List Tok, l.length = k ∧ ∀ i (h : i < l.length), (∀ j, j < 4 → W.cell? (x.add (i * 4 + j)) = l[i].cells[j]?) ∧ TokCame l[i] := by
      intro k
      induction k with
      | zero => intro _; exact ⟨[], rfl, by simp⟩
      | succ k ih =>
        intro hk
        obtain ⟨l, hl, hall⟩ := ih (by omega)
        obtain ⟨y, hy⟩ := each k (by omega)
        refine ⟨l ++ [y], by simp [hl], fun i h => ?_⟩
        by_cases hik : i < l.length
        · rw [List.getElem_append_left hik]; exact hall i hik
        · have : i = k := by simp at h; omega
          subst this
          have e : (l ++ [y])[i]'h = y := by rw [List.getElem_append_right (by omega)]; simp
          rw [e]; exact hy
    obtain ⟨l, hll, hall⟩ := pick len (Nat.le_refl _)
    refine ⟨_, _, l, by rw [hll], fun h0 => ?_, fun y hy => ?_, by omega⟩
    · obtain ⟨b, off, spot⟩ := x
      have h00 := (hall 0 h0).1 0 (by omega)
      have hcell : W.cell? (⟨b, off, spot⟩ : Addr) = some (l[0].cells[0]'(by simp [Tok.cells])) := by
        have : ((⟨b, off, spot⟩ : Addr).add (0 * 4 + 0)) = ⟨b, off, spot⟩ := by simp [Addr.add]
        rw [this] at h00; rw [h00]; simp [Tok.cells]
      have hspot : spot = none := World.cell?_spot hcell
      subst hspot
      refine ⟨b, off, rfl, block_lt_of_cell hcell, fun i h j hj => ?_⟩
      rw [← (hall i h).1 j hj, ← Go.WideShapes.add_plain]
    · obtain ⟨i, hil, rfl⟩ := List.getElem_of_mem hy
      exact (hall i hil).2
end
end Go.Proofs.YtammpndggdniiaaDoor
