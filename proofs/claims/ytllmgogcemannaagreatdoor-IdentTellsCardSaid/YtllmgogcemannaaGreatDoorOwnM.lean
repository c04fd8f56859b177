/- '[]byte(s)', and 'append(p, x...)' onto it: a row of the call's own whose mark, if any, stands behind its cells. -/
import Derived.Test.YtllmgogcemannaaGreatDoorPushS
import Derived.Laws.IdiomStrings
namespace Go.Proofs.YtllmgogcemannaaGreatDoor
open Go.RowKit

/-- The slice value '.slice (some ⟨g, 0⟩) xs.length c' holds xs in a block of the call's own (from B on), with no cell of it frozen. -/
def OwnM (w : World) (B : Nat) (e : TypeId) (g c : Nat) (xs : List Value) : Prop := ∃ cur fz, B ≤ g ∧ w.heap[g]? = some (.cells cur e fz) ∧ (fz = (0, 0) ∨ cur.size ≤ fz.1) ∧ xs.length ≤ c ∧ c ≤ maxLen ∧ cur.size = c ∧ cur.toList.take xs.length = xs
theorem OwnM.of {w : World} {B : Nat} {e : TypeId} {g c : Nat} {xs : List Value} (h : OwnS w B e (some ⟨g, 0, none⟩) c xs) : OwnM w B e g c xs := by
  rcases h.2 with ⟨h0, _⟩ | ⟨g', cap, cur, hv, hB, hg, hn, hm, hc, ht⟩
  · simp at h0
  · injection hv with h1 h2 h3
    injection h1 with h1; injection h1 with h1
    subst h1 h3
    exact ⟨cur, (0, 0), hB, hg, .inl rfl, hn, hm, by simpa using hc, by simpa using ht⟩
theorem OwnM.later {w w' : World} {B : Nat} {e : TypeId} {g c : Nat} {xs : List Value} (h : OwnM w B e g c xs) (hb : Below w.heap.size w w') : OwnM w' B e g c xs := by
  obtain ⟨cur, fz, hB, hg, r⟩ := h
  exact ⟨cur, fz, hB, (hb.block g (Array.getElem?_eq_some_iff.1 hg).1).trans hg, r⟩
theorem OwnM.cell {w : World} {B : Nat} {e : TypeId} {g c : Nat} {xs : List Value} (h : OwnM w B e g c xs) {j : Nat} {u : Value} (hj : xs[j]? = some u) : w.cell? ⟨g, j, none⟩ = some u := by
  obtain ⟨cur, fz, hB, hg, hf, hn, hm, hc, ht⟩ := h
  rw [cell_of_row w g j cur e fz hg]
  rw [← ht, List.getElem?_take] at hj
  split at hj
  · simpa using hj
  · cases hj
theorem OwnM.row {w : World} {B : Nat} {e : TypeId} {g c : Nat} {xs : List Value} (h : OwnM w B e g c xs) : g < w.heap.size := by
  obtain ⟨cur, fz, hB, hg, _⟩ := h
  exact (Array.getElem?_eq_some_iff.1 hg).1
theorem storeCells_M (P : Program) (g o : Nat) (t : TypeId) (fz : Nat × Nat) : ∀ (vs : List Value) (i : Nat) (cur : Array Value) (w : World), w.heap[g]? = some (.cells cur t fz) → (fz = (0, 0) ∨ cur.size ≤ fz.1) → o + i + vs.length ≤ cur.size → (∀ v ∈ vs, v.oneCell' = true) →
    (storeCells ⟨g, o, none⟩ vs i).run P w = .ok () (w.setRow g (cur.toList.take (o + i) ++ vs ++ cur.toList.drop (o + i + vs.length)).toArray)
  | [], i, cur, w, hg, _, _, _ => by
    simp only [storeCells, List.append_nil, List.length_nil, Nat.add_zero, List.take_append_drop, Array.toArray_toList]
    rw [setRow_self w g cur t fz hg]
    rfl
  | v :: rest, i, cur, w, hg, hfz, hl, h1 => by
    have hi : o + i < cur.size := by simp at hl; omega
    have hcell : w.cell? ⟨g, o + i, none⟩ = some cur[o + i] := by simp [World.cell?, hg, hi]
    have hfro : w.frozen? ⟨g, o + i, none⟩ = false := by
      obtain ⟨lo, hi'⟩ := fz
      simp only [World.frozen?, hg, Bool.and_eq_false_iff, decide_eq_false_iff_not]
      rcases hfz with hfz | hfz
      · injection hfz with e1 e2
        right; omega
      · simp only at hfz
        left; omega
    have hst : (store ((⟨g, o, none⟩ : Addr).add i) v).run P w = .ok () (w.setRow g (cur.setIfInBounds (o + i) v)) := by
      rw [add_at, run_store P w _ v _ (h1 v (by simp)), hcell]
      simp [hfro, setCell_eq_setRow w g (o + i) cur t fz v hg]
    have ih := storeCells_M P g o t fz rest (i + 1) (cur.setIfInBounds (o + i) v) (w.setRow g (cur.setIfInBounds (o + i) v)) (setRow_heap w g cur _ t _ hg) (by simpa using hfz) (by simp at hl ⊢; omega) (fun x hx => h1 x (by simp [hx]))
    simp only [storeCells, Sem.run_bind, hst, Result.andThen_ok, ih, setRow_setRow]
    congr 3
    have e := list_seg_step cur.toList (o + i) v rest (by simp at hl ⊢; omega)
    simpa [Array.toList_setIfInBounds, Nat.add_assoc] using e
theorem bytes_own (w : World) (e : TypeId) (s : List UInt8) (B : Nat) (hB : B ≤ w.heap.size) (hs : s.length ≤ 1000000) :
    OwnM (w.drew.alloc (.cells (bytesRow ⟨s.toArray⟩ (grownCap w s.length 0 e)) e ((bytesRow ⟨s.toArray⟩ (grownCap w s.length 0 e)).size, (bytesRow ⟨s.toArray⟩ (grownCap w s.length 0 e)).size + 1))) B e w.heap.size (grownCap w s.length 0 e) (u8s s) := by
  have hge := grownCap_ge w s.length 0 e
  have hle := grownCap_le_maxLen w s.length 0 e (by unfold maxLen; omega)
  have hz : (⟨s.toArray⟩ : ByteArray).size = s.length := by show s.toArray.size = _; simp
  have hsz : (bytesRow ⟨s.toArray⟩ (grownCap w s.length 0 e)).size = grownCap w s.length 0 e := by
    unfold bytesRow
    rw [Array.size_append, Array.size_map, Array.size_replicate, hz]
    show s.toArray.size + _ = _
    simp; omega
  refine ⟨_, _, hB, heap_alloc_new w.drew _, .inr (Nat.le_refl _), by rw [u8s_length]; exact hge, hle, hsz, ?_⟩
  unfold bytesRow u8s
  simp
end Go.Proofs.YtllmgogcemannaaGreatDoor
