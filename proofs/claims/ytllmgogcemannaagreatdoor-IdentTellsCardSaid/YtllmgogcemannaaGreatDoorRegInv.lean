/- A region that draws its order, walked by an invariant of the operations that have come up. -/
import Derived.Test.YtllmgogcemannaaGreatDoorMem
import Derived.OrdersHeld
namespace Go.Proofs.YtllmgogcemannaaGreatDoor
open Go.RowKit

section
variable {P : Program} {ops : Array Oper} {Q : Exit → Act → World → Prop}

/-- Every operation waits for earlier ones only. -/
def laterOnly (ops : Array Oper) : Bool := ops.zipIdx.all fun (o, i) => o.after.all fun e => !Region.binds .any e || decide (e.on < i)
theorem laterOnly_spec (h : laterOnly ops = true) {i : Nat} {o : Oper} (hi : ops[i]? = some o) {e : Edge} (he : e ∈ o.after) (hb : Region.binds .any e = true) : e.on < i := by
  unfold laterOnly at h
  rw [Array.all_eq_true] at h
  obtain ⟨hlt, ho⟩ := Array.getElem?_eq_some_iff.1 hi
  have h1 := h i (by simpa using hlt)
  simp only [Array.getElem_zipIdx, Nat.zero_add] at h1
  rw [ho, Array.all_eq_true] at h1
  obtain ⟨k, hk, rfl⟩ := Array.mem_iff_getElem.1 he
  have h2 := h1 k hk
  rw [hb] at h2
  simpa using h2
theorem all_listed (hac : laterOnly ops = true) {l : Array Bool} (hs : l.size = ops.size) (hr : Region.ready .any ops l = []) : ∀ i, i < ops.size → l.getD i true = true := by
  intro i
  induction i using Nat.strongRecOn with
  | ind i ih =>
    intro hi
    cases hl : l.getD i true with
    | true => rfl
    | false =>
      have : i ∈ Region.ready .any ops l := by
        refine mem_ready.2 ⟨hl, ops[i], Array.getElem?_eq_getElem hi, fun e he hb => ?_⟩
        have hlt := laterOnly_spec hac (Array.getElem?_eq_getElem hi) he hb
        have := ih e.on hlt (by omega)
        have h2 : e.on < l.size := by omega
        simpa [Array.getD, h2] using this
      rw [hr] at this; cases this
theorem wpAny_inv (hac : laterOnly ops = true) (I : Array Bool → Act → World → Prop)
    (hstep : ∀ (l : Array Bool) (a : Act) (w : World) (i : Nat), l.size = ops.size → I l a w → l.getD i true = false → (∀ o e, ops[i]? = some o → e ∈ o.after → Region.binds .any e = true → l.getD e.on false = true) →
      wpOp P ops Q i (I (l.setIfInBounds i true)) a w)
    (hend : ∀ (l : Array Bool) (a : Act) (w : World), (∀ i, i < ops.size → l.getD i false = true) → I l a w → Q .normal a w) :
    ∀ (fuel : Nat) (l : Array Bool) (a : Act) (w : World), l.size = ops.size → l.count false = fuel → I l a w → wpAny P .any ops Q fuel l a w := by
  have fin : ∀ (l : Array Bool), l.size = ops.size → Region.ready .any ops l = [] → ∀ i, i < ops.size → l.getD i false = true := fun l hs hr i hi => by
    have := all_listed hac hs hr i hi
    have h2 : i < l.size := by omega
    simpa [Array.getD, h2] using this
  intro fuel
  induction fuel with
  | zero =>
    intro l a w hs hc hI
    have hr : Region.ready .any ops l = [] := by
      rw [List.eq_nil_iff_forall_not_mem]
      intro i hi
      obtain ⟨h1, o, ho, _⟩ := mem_ready.1 hi
      have hlt : i < l.size := by rw [hs]; exact (Array.getElem?_eq_some_iff.1 ho).1
      have hm : false ∈ l := by
        have h2 : l[i] = false := by simpa [Array.getD, hlt] using h1
        rw [← h2]; exact Array.getElem_mem hlt
      have := Array.count_pos_iff.2 hm
      omega
    exact ⟨hr, hend l a w (fin l hs hr) hI⟩
  | succ fuel ih =>
    intro l a w hs hc hI
    refine ⟨fun hr => hend l a w (fin l hs hr) hI, fun i hi => ?_⟩
    obtain ⟨h1, o, ho, hall⟩ := mem_ready.1 hi
    have hlt : i < l.size := by rw [hs]; exact (Array.getElem?_eq_some_iff.1 ho).1
    have h2 : l[i] = false := by simpa [Array.getD, hlt] using h1
    refine wpOp_mono (fun a' w' hI' => ih _ a' w' (by rw [Array.size_setIfInBounds]; exact hs) ?_ hI') (hstep l a w i hs hI h1 fun o' e ho' he hb => ?_)
    · rw [Array.setIfInBounds, dif_pos hlt, Array.count_set, h2]
      simp; omega
    · rw [ho] at ho'; injection ho' with ho'; subst ho'
      exact hall e he hb
theorem region_inv {id : Nat} {a : Act} {w : World} (hm : P.follows .mixedOrders = true) (hac : laterOnly ops = true) (I : Array Bool → Act → World → Prop)
    (h0 : I (Array.replicate ops.size false) a w.drew)
    (hstep : ∀ (l : Array Bool) (a : Act) (w : World) (i : Nat), l.size = ops.size → I l a w → l.getD i true = false → (∀ o e, ops[i]? = some o → e ∈ o.after → Region.binds .any e = true → l.getD e.on false = true) →
      wpOp P ops Q i (I (l.setIfInBounds i true)) a w)
    (hend : ∀ (l : Array Bool) (a : Act) (w : World), (∀ i, i < ops.size → l.getD i false = true) → I l a w → Q .normal a w) : (Code.region id ops true).wp P Q a w :=
  wp_region_any hm (wpAny_inv hac I hstep hend _ _ _ _ (by simp) (by simp) h0)
end
end Go.Proofs.YtllmgogcemannaaGreatDoor
