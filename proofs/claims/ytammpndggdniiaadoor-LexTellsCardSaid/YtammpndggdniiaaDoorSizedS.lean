/- The reach of what lies in structs: one by value, and a slice of them. -/
import Derived.Test.YtammpndggdniiaaDoorSized
import Derived.Test.YtammpndggdniiaaDoorStruct
namespace Go.Proofs.YtammpndggdniiaaDoor
open Go.RowKit Go.ChangeShapes Go.WideShapes Go.ChangeAt Go.Deep Go.Joins

section
variable {H : Type} {enc : TypeId × Value → H} {P : Program} {w : World} {base : Nat} {spare : Nat → Bool} {held : Bool}
def Small (P : Program) (t : TypeId) (y : DataW H × List MemPlace) : Prop := ∀ k ∈ y.1.weights P t, k ≤ reachBytes
theorem weights_all {e : TypeId} {D : DataW H} {k : Nat} : ∀ {l : List (DataW H)}, D ∈ l → k ∈ D.weights P e → k ∈ DataW.weightsAll P e l
  | a :: l, h, hk => by
    rw [DataW.weightsAll]
    rcases List.mem_cons.1 h with rfl | h
    · exact List.mem_append.2 (.inl hk)
    · exact List.mem_append.2 (.inr (weights_all h hk))

theorem open_aggS {r : Reach} {b0 : Nat} {t : TypeId} {fs : Array Field} {v : Value} {d : DataW H} {p : List MemPlace} (hs : P.underlying t = some (.struct fs)) (hone : oneCellFields P fs = true) (hC : P.cellsOf t = fs.size)
    (hv : Value.okWide P w r b0 t v) (h : DataW.Trod enc P w base spare held t v d p) (hz : ∀ k ∈ d.weights P t, k ≤ reachBytes) :
    ∃ (cs : List Value) (n : Nat), v = .agg cs.toArray ∧ cs.length = fs.size ∧ ∀ (j : Nat) (f : Field), fs[j]? = some f → ∃ (u : Value) (y : DataW H × List MemPlace), cs[j]? = some u ∧ DataW.trod enc P w base spare held n f.type [u] = some y ∧ Small P f.type y := by
  obtain ⟨cs, rfl, hsz⟩ := okWide_struct hs hv
  obtain ⟨l⟩ := cs
  obtain ⟨fuel, hf⟩ := h
  obtain ⟨xs, n, _, hx, _, hlen, hg⟩ := DataW.trod_struct hs hf
  injection hx with hx1 hx2
  subst hx1
  have hl : l.length = fs.size := hsz.trans hC
  refine ⟨l, n, rfl, hl, fun j f hj => ?_⟩
  obtain ⟨o, k⟩ := hone_of hone j f hj
  have hjl : j < fs.size := (Array.getElem?_eq_some_iff.1 hj).1
  have h1 := hg j f hj
  have hlj : j < l.length := by omega
  have hxs : xs[j]? = some (xs[j]'(by omega)) := List.getElem?_eq_getElem (by omega)
  refine ⟨l[j], xs[j]'(by omega), List.getElem?_eq_getElem hlj, ?_, ?_⟩
  · rw [← hxs, ← h1]
    simp only [Value.cells, o, k]
    congr 1
    rw [List.drop_eq_getElem_cons hlj]
    rfl
  · intro k hk
    refine hz k ?_
    simp only [DataW.weights, hs]
    exact DataW.weights_mem_each (j := j) (by simp; exact ⟨f, by simpa using hj, rfl⟩) (by simp [hxs]) k hk

theorem open_slice_fieldsS {t e : TypeId} {fs : Array Field} {fuel : Nat} {cs : List Value} {x : DataW H × List MemPlace} (ht : P.underlying t = some (.slice e)) (he : P.underlying e = some (.struct fs))
    (hone : oneCellFields P fs = true) (hC : P.cellsOf e = fs.size) (h : DataW.trod enc P w base spare held fuel t cs = some x) (hz : ∀ k ∈ x.1.weights P t, k ≤ reachBytes) :
    (cs = [.slice none 0 0]) ∨
    ∃ (a : Addr) (len cap : Nat), cs = [.slice (some a) len cap] ∧ len ≤ cap ∧ cap ≤ maxLen ∧
      ∀ i, i < len → ∃ n, ∀ (j : Nat) (f : Field), fs[j]? = some f → ∃ (v : Value) (y : DataW H × List MemPlace), w.cell? (a.add (i * fs.size + j)) = some v ∧ DataW.trod enc P w base spare held n f.type [v] = some y ∧ Small P f.type y := by
  rcases open_slice ht h with ⟨h0, _⟩ | ⟨a, len, cap, m, n, D, Pl, hcs, hb, hl, hm, hmm, hx, hi⟩
  · exact .inl h0
  · have hml : len ≤ m := by rw [hmm]; split <;> omega
    refine .inr ⟨a, len, cap, hcs, hl, hm, fun i hil => ?_⟩
    obtain ⟨cs', hc, ht'⟩ := hi i (by omega)
    rw [hC] at hc
    obtain ⟨ys, n', hn', hy, hlen, hyl, hf⟩ := DataW.trod_struct he ht'
    obtain ⟨_, hcl, hat⟩ := World.cells?_some hc
    refine ⟨n', fun j f hj => ?_⟩
    obtain ⟨ho, hk⟩ := hone_of hone j f hj
    have hjl : j < fs.size := (Array.getElem?_eq_some_iff.1 hj).1
    have hcell := hat j hjl
    have hv : cs'[j]? = some (cs'[j]'(by omega)) := List.getElem?_eq_getElem (by omega)
    have h1 := hf j f hj
    rw [ho, hk] at h1
    have hone' : (cs'.drop j).take 1 = [cs'[j]'(by omega)] := by
      rw [List.drop_eq_getElem_cons (by omega)]
      rfl
    rw [hone'] at h1
    have hys : ys[j]? = some (ys[j]'(by omega)) := List.getElem?_eq_getElem (by omega)
    refine ⟨_, _, ?_, h1.trans hys, ?_⟩
    · rw [← Go.Deep.add_add, hcell, hv]
    · intro k hk
      refine hz k ?_
      subst hx
      simp only [DataW.weights, ht]
      refine List.mem_cons_of_mem _ (List.mem_append.2 (.inl (weights_all (D := D i) (by simp; exact ⟨i, hil, rfl⟩) ?_)))
      injection hy with hy1 hy2
      rw [hy1]
      simp only [DataW.weights, he]
      exact DataW.weights_mem_each (j := j) (by simp; exact ⟨f, by simpa using hj, rfl⟩) (by simp [hys]) k hk
end

section
variable {H : Type} {enc : TypeId × Value → H} {P : Program} {W : World} {t e : TypeId} {v : Value} {fuel : Nat} {x : DataW H × List MemPlace}
theorem cell_strS (ht : P.underlying t = some .string) (hf : DataW.trod enc P W 0 (fun _ => true) true fuel t [v] = some x) (hz : Small P t x) : ∃ l : List UInt8, v = .string ⟨l.toArray⟩ ∧ l.length ≤ 140737488351232 := by
  obtain ⟨s, hcs, hx, hs⟩ := DataW.trod_string ht hf
  simp at hcs
  subst hcs
  refine ⟨s.data.toList, rfl, hz _ ?_⟩
  rw [hx]; simp [DataW.weights]
theorem cell_intsS {k : IntKind} (ht : P.underlying t = some (.slice e)) (he : P.underlying e = some (.int k)) (hc : P.cellsOf e = 1) (hb : P.bytesOf e = 8)
    (hf : DataW.trod enc P W 0 (fun _ => true) true fuel t [v] = some x) (hz : Small P t x) : ∃ A c, ∃ l : List Int, v = .slice A l.length c ∧ Row W W.heap.size A (l.map (.int k)) ∧ (∀ n ∈ l, (Lit.int k n).wf = true) ∧ l.length ≤ 17592186043904 := by
  rcases open_ints ht he hc hf with ⟨hcs, _⟩ | ⟨x, l, c, zs, hcs, _, hl, hm, hz0, hx, hcell, hwz⟩
  · simp at hcs
    subst hcs
    exact ⟨none, 0, [], rfl, Row.nil _ _ _, by simp, by simp⟩
  · simp at hcs
    subst hcs
    simp at hz0
    have h8 : l * 8 ≤ reachBytes := by
      have : ((zs.take l).length + (zs.drop l).length) * 8 ≤ reachBytes := by
        refine hz _ ?_
        subst hx
        simp only [DataW.weights, ht, hb]
        refine List.mem_cons.2 (.inl ?_)
        simp [lits]
      rw [List.length_take] at this
      have h2 : min l zs.length = l := by omega
      rw [h2] at this
      omega
    refine ⟨_, _, zs.take l, by rw [List.length_take, Nat.min_eq_left (by omega)], row_of_cells fun i hi => ?_, fun n hn => hwz n (List.mem_of_mem_take hn), ?_⟩
    · simp at hi
      rw [hcell i (by omega)]
      simp [List.getElem?_eq_getElem (show i < zs.length by omega)]
    · rw [List.length_take]
      have : reachBytes = 140737488351232 := rfl
      omega
end
end Go.Proofs.YtammpndggdniiaaDoor
