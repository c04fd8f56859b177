/- The reach of what comes in: strings and slices of strings. -/
import Derived.Test.YtammpndggdniiaaDoorRow
import Derived.SizedLaws
namespace Go.Proofs.YtammpndggdniiaaDoor
open Go.RowKit Go.ChangeShapes Go.WideShapes Go.ChangeAt

section
variable {H : Type} {enc : TypeId × Value → H} {P : Program} {W : World} {r : Reach} {base : Nat} {t e : TypeId} {v : Value} {d : DataW H} {p : List MemPlace}
theorem weights_strs : ∀ (l : List ByteArray) (s : ByteArray), s ∈ l → s.data.toList.length ∈ DataW.weightsAll (H := H) P e (Go.ChangeShapes.strs l)
  | a :: l, s, h => by
    rw [show (Go.ChangeShapes.strs (a :: l) : List (DataW H)) = .lit (.string a.data.toList) :: Go.ChangeShapes.strs l from rfl, DataW.weightsAll]
    rcases List.mem_cons.1 h with rfl | h
    · exact List.mem_append.2 (.inl (by simp [DataW.weights]))
    · exact List.mem_append.2 (.inr (weights_strs l s h))
theorem arg_strS (ht : P.underlying t = some .string) (hv : Value.okWide P W r base t v) (h : DataW.Trod enc P W 0 (fun _ => true) true t v d p) (hz : ∀ n ∈ d.weights P t, n ≤ reachBytes) :
    ∃ l : List UInt8, v = .string ⟨l.toArray⟩ ∧ l.length ≤ 140737488351232 := by
  obtain ⟨s, rfl, rfl, rfl, hs⟩ := Go.ChangeMaps.open_string ht hv h
  refine ⟨s.data.toList, rfl, hz _ (by simp [DataW.weights])⟩
theorem arg_strsS (ht : P.underlying t = some (.slice e)) (he : P.underlying e = some .string) (hc : P.cellsOf e = 1) (hv : Value.okWide P W r base t v)
    (h : DataW.Trod enc P W 0 (fun _ => true) true t v d p) (hz : ∀ n ∈ d.weights P t, n ≤ reachBytes) : ∃ A c, ∃ l : List (List UInt8), v = .slice A l.length c ∧ Row W W.heap.size A (l.map fun x => .string ⟨x.toArray⟩) ∧ (∀ n ∈ l, n.length ≤ 140737488351232) ∧ l.length ≤ maxLen := by
  obtain ⟨a, len, cap, rfl⟩ := okWide_slice ht hv
  obtain ⟨fuel, hf⟩ := h
  rcases open_strings ht he hc hf with ⟨hcs, _⟩ | ⟨x, l, c, ss, hcs, _, hl, hm, hz0, hx, hcell, hws⟩
  · simp [Value.cells] at hcs
    obtain ⟨rfl, rfl, rfl⟩ := hcs
    exact ⟨none, 0, [], rfl, Row.nil _ _ _, by simp, by simp⟩
  · simp [Value.cells] at hcs
    obtain ⟨rfl, rfl, rfl⟩ := hcs
    simp at hz0
    injection hx with hx1 hx2
    subst hx1
    refine ⟨_, _, (ss.take len).map fun s => s.data.toList, by rw [List.length_map, List.length_take, Nat.min_eq_left (by omega)], row_of_cells fun i hi => ?_, fun n hn => ?_, by rw [List.length_map, List.length_take]; omega⟩
    · simp at hi
      rw [hcell i (by omega)]
      simp [List.getElem?_eq_getElem (show i < ss.length by omega)]
    · obtain ⟨s, hs, rfl⟩ := List.mem_map.1 hn
      refine hz _ ?_
      simp only [DataW.weights, ht]
      exact List.mem_cons_of_mem _ (List.mem_append.2 (.inl (weights_strs _ _ hs)))
theorem weights_at {ts : List TypeId} {ds : List (DataW H)} (h : (DataW.weightsEach P ts ds).all (· ≤ reachBytes) = true) {j : Nat} (ht : ts[j]? = some t) (hd : ds[j]? = some d) : ∀ n ∈ d.weights P t, n ≤ reachBytes := fun n hn => by
  have := List.all_eq_true.1 h _ (DataW.weights_mem_each ht hd n hn)
  simpa using this
end
end Go.Proofs.YtammpndggdniiaaDoor
