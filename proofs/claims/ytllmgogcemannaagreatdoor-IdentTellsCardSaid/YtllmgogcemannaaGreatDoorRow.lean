/- Slices that are read: 'Row'; and what the arguments of a law read as. -/
import Derived.Test.YtllmgogcemannaaGreatDoorLib
import Derived.ProofKit
import Derived.OpenShut
import Derived.ShutString
import Derived.ChangeOld
import Derived.SliceStrings
namespace Go.Proofs.YtllmgogcemannaaGreatDoor
open Go.RowKit Go.ChangeShapes Go.WideShapes Go.ChangeAt

/-- The cells xs lie behind the slice value '.slice A xs.length c', in a block below hi. -/
def Row (w : World) (hi : Nat) (A : Option Addr) (xs : List Value) : Prop := 0 < xs.length → ∃ b off, A = some ⟨b, off, none⟩ ∧ b < hi ∧ ∀ j (_ : j < xs.length), w.cell? ⟨b, off + j, none⟩ = some xs[j]
theorem Row.keep {w w' : World} {hi : Nat} {A : Option Addr} {xs : List Value} (h : Row w hi A xs) (hk : ∀ p : Addr, p.block < hi → w'.cell? p = w.cell? p) : Row w' hi A xs := fun h0 => by
  obtain ⟨b, off, e, hb, hc⟩ := h h0
  exact ⟨b, off, e, hb, fun j hj => (hk _ hb).trans (hc j hj)⟩
theorem Row.below {w w' : World} {hi B : Nat} {A : Option Addr} {xs : List Value} (h : Row w hi A xs) (hb : Below B w w') (hB : hi ≤ B) : Row w' hi A xs := h.keep fun _ hp => hb.cell (by omega)
theorem Row.mono {w : World} {hi hi' : Nat} {A : Option Addr} {xs : List Value} (h : Row w hi A xs) (hB : hi ≤ hi') : Row w hi' A xs := fun h0 => by
  obtain ⟨b, off, e, hb, hc⟩ := h h0
  exact ⟨b, off, e, by omega, hc⟩
/-- A row over a call that leaves all that was there. -/
theorem Row.later {w w' : World} {A : Option Addr} {xs : List Value} (h : Row w w.heap.size A xs) (hb : Below w.heap.size w w') : Row w' w'.heap.size A xs := (h.below hb (Nat.le_refl _)).mono hb.size
theorem Row.nil (w : World) (hi : Nat) (A : Option Addr) : Row w hi A [] := fun h => by simp at h
theorem OwnS.row {w : World} {B : Nat} {e : TypeId} {A : Option Addr} {c : Nat} {xs : List Value} (h : OwnS w B e A c xs) : Row w w.heap.size A xs := fun h0 => by
  obtain ⟨g, rfl, hb, hlt, _⟩ := h.form h0
  exact ⟨g, 0, rfl, hlt, fun j hj => by rw [Nat.zero_add]; exact h.cell rfl hj⟩
theorem row_of_cells {w : World} {a : Addr} {xs : List Value} (h : ∀ i (hi : i < xs.length), w.cell? (a.add i) = some xs[i]) : Row w w.heap.size (some a) xs := fun h0 => by
  obtain ⟨b, off, spot⟩ := a
  have hspot : spot = none := by simpa [Addr.add] using World.cell?_spot (h 0 h0)
  subst hspot
  have h00 := h 0 h0
  refine ⟨b, off, rfl, ?_, fun j hj => by rw [← Go.WideShapes.add_plain]; exact h j hj⟩
  have := block_lt_of_cell h00
  simpa [Addr.add] using this

section
variable {H : Type} {enc : TypeId × Value → H} {P : Program} {W : World} {r : Reach} {base : Nat} {t e : TypeId} {v : Value} {d : DataW H} {p : List MemPlace}

theorem arg_ints {k : IntKind} (ht : P.underlying t = some (.slice e)) (he : P.underlying e = some (.int k)) (hc : P.cellsOf e = 1) (hv : Value.okWide P W r base t v)
    (h : DataW.Trod enc P W 0 (fun _ => true) true t v d p) : ∃ A c, ∃ l : List Int, v = .slice A l.length c ∧ Row W W.heap.size A (l.map (.int k)) ∧ (∀ n ∈ l, (Lit.int k n).wf = true) ∧ l.length ≤ maxLen := by
  obtain ⟨a, len, cap, rfl⟩ := okWide_slice ht hv
  obtain ⟨fuel, hf⟩ := h
  rcases open_ints ht he hc hf with ⟨hcs, _⟩ | ⟨x, l, c, zs, hcs, _, hl, hm, hz, _, hcell, hwz⟩
  · simp [Value.cells] at hcs
    obtain ⟨rfl, rfl, rfl⟩ := hcs
    exact ⟨none, 0, [], rfl, Row.nil _ _ _, by simp, by simp⟩
  · simp [Value.cells] at hcs
    obtain ⟨rfl, rfl, rfl⟩ := hcs
    simp at hz
    refine ⟨_, _, zs.take len, by rw [List.length_take, Nat.min_eq_left (by omega)], row_of_cells fun i hi => ?_, fun n hn => hwz n (List.mem_of_mem_take hn), by rw [List.length_take]; omega⟩
    simp at hi
    rw [hcell i (by omega)]
    simp [List.getElem?_eq_getElem (show i < zs.length by omega)]

theorem arg_strs (ht : P.underlying t = some (.slice e)) (he : P.underlying e = some .string) (hc : P.cellsOf e = 1) (hv : Value.okWide P W r base t v)
    (h : DataW.Trod enc P W 0 (fun _ => true) true t v d p) : ∃ A c, ∃ l : List (List UInt8), v = .slice A l.length c ∧ Row W W.heap.size A (l.map fun x => .string ⟨x.toArray⟩) ∧ (∀ n ∈ l, n.length ≤ maxLen) ∧ l.length ≤ maxLen := by
  obtain ⟨a, len, cap, rfl⟩ := okWide_slice ht hv
  obtain ⟨fuel, hf⟩ := h
  rcases open_strings ht he hc hf with ⟨hcs, _⟩ | ⟨x, l, c, ss, hcs, _, hl, hm, hz, _, hcell, hws⟩
  · simp [Value.cells] at hcs
    obtain ⟨rfl, rfl, rfl⟩ := hcs
    exact ⟨none, 0, [], rfl, Row.nil _ _ _, by simp, by simp⟩
  · simp [Value.cells] at hcs
    obtain ⟨rfl, rfl, rfl⟩ := hcs
    simp at hz
    refine ⟨_, _, (ss.take len).map fun s => s.data.toList, by rw [List.length_map, List.length_take, Nat.min_eq_left (by omega)], row_of_cells fun i hi => ?_, fun n hn => ?_, by rw [List.length_map, List.length_take]; omega⟩
    · simp at hi
      rw [hcell i (by omega)]
      simp [List.getElem?_eq_getElem (show i < ss.length by omega)]
    · obtain ⟨s, hs, rfl⟩ := List.mem_map.1 hn
      have := hws s (List.mem_of_mem_take hs)
      simpa using this

/-! The same of a cell of a struct. -/
variable {fuel : Nat} {x : DataW H × List MemPlace}
theorem cell_ints {k : IntKind} (ht : P.underlying t = some (.slice e)) (he : P.underlying e = some (.int k)) (hc : P.cellsOf e = 1)
    (hf : DataW.trod enc P W 0 (fun _ => true) true fuel t [v] = some x) : ∃ A c, ∃ l : List Int, v = .slice A l.length c ∧ Row W W.heap.size A (l.map (.int k)) ∧ (∀ n ∈ l, (Lit.int k n).wf = true) ∧ l.length ≤ maxLen := by
  rcases open_ints ht he hc hf with ⟨hcs, _⟩ | ⟨x, l, c, zs, hcs, _, hl, hm, hz, _, hcell, hwz⟩
  · simp at hcs
    subst hcs
    exact ⟨none, 0, [], rfl, Row.nil _ _ _, by simp, by simp⟩
  · simp at hcs
    subst hcs
    simp at hz
    refine ⟨_, _, zs.take l, by rw [List.length_take, Nat.min_eq_left (by omega)], row_of_cells fun i hi => ?_, fun n hn => hwz n (List.mem_of_mem_take hn), by rw [List.length_take]; omega⟩
    simp at hi
    rw [hcell i (by omega)]
    simp [List.getElem?_eq_getElem (show i < zs.length by omega)]
theorem cell_strs (ht : P.underlying t = some (.slice e)) (he : P.underlying e = some .string) (hc : P.cellsOf e = 1)
    (hf : DataW.trod enc P W 0 (fun _ => true) true fuel t [v] = some x) : ∃ A c, ∃ l : List (List UInt8), v = .slice A l.length c ∧ Row W W.heap.size A (l.map fun x => .string ⟨x.toArray⟩) ∧ (∀ n ∈ l, n.length ≤ maxLen) ∧ l.length ≤ maxLen := by
  rcases open_strings ht he hc hf with ⟨hcs, _⟩ | ⟨x, l, c, ss, hcs, _, hl, hm, hz, _, hcell, hws⟩
  · simp at hcs
    subst hcs
    exact ⟨none, 0, [], rfl, Row.nil _ _ _, by simp, by simp⟩
  · simp at hcs
    subst hcs
    simp at hz
    refine ⟨_, _, (ss.take l).map fun s => s.data.toList, by rw [List.length_map, List.length_take, Nat.min_eq_left (by omega)], row_of_cells fun i hi => ?_, fun n hn => ?_, by rw [List.length_map, List.length_take]; omega⟩
    · simp at hi
      rw [hcell i (by omega)]
      simp [List.getElem?_eq_getElem (show i < ss.length by omega)]
    · obtain ⟨s, hs, rfl⟩ := List.mem_map.1 hn
      have := hws s (List.mem_of_mem_take hs)
      simpa using this
theorem cell_str (ht : P.underlying t = some .string) (hf : DataW.trod enc P W 0 (fun _ => true) true fuel t [v] = some x) : ∃ l : List UInt8, v = .string ⟨l.toArray⟩ ∧ l.length ≤ maxLen := by
  obtain ⟨s, hcs, _, hs⟩ := DataW.trod_string ht hf
  simp at hcs
  subst hcs
  exact ⟨s.data.toList, rfl, by simpa using hs⟩
theorem cell_int {k : IntKind} (ht : P.underlying t = some (.int k)) (hf : DataW.trod enc P W 0 (fun _ => true) true fuel t [v] = some x) : ∃ n : Int, v = .int k n ∧ (Lit.int k n).wf = true := by
  obtain ⟨n, hcs, _, hs⟩ := DataW.trod_int ht hf
  simp at hcs
  subst hcs
  exact ⟨n, rfl, hs⟩

theorem arg_str (ht : P.underlying t = some .string) (hv : Value.okWide P W r base t v) (h : DataW.Trod enc P W 0 (fun _ => true) true t v d p) :
    ∃ l : List UInt8, v = .string ⟨l.toArray⟩ ∧ l.length ≤ maxLen := by
  obtain ⟨s, rfl, rfl, rfl, hs⟩ := Go.ChangeMaps.open_string ht hv h
  exact ⟨s.data.toList, rfl, by simpa using hs⟩

theorem arg_int {k : IntKind} (ht : P.underlying t = some (.int k)) (hv : Value.okWide P W r base t v) (h : DataW.Trod enc P W 0 (fun _ => true) true t v d p) :
    ∃ n : Int, v = .int k n ∧ (Lit.int k n).wf = true := by
  obtain ⟨n, rfl, rfl, rfl, hs⟩ := open_int ht hv h
  exact ⟨n, rfl, hs⟩

theorem wf_i64 {n : Int} (h : (Lit.int .i64 n).wf = true) : -9223372036854775808 ≤ n ∧ n < 9223372036854775808 := by
  simp [Lit.wf, IntKind.min, IntKind.max, IntKind.signed, IntKind.bits] at h; omega
end
end Go.Proofs.YtllmgogcemannaaGreatDoor
