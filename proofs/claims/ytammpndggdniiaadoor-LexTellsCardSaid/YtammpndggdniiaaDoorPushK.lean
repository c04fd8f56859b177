/- Slices of structs that a function makes by append. -/
import Derived.Test.YtammpndggdniiaaDoorMem
namespace Go.Proofs.YtammpndggdniiaaDoor
open Go.RowKit

/-- A slice of n elements of k cells each, made since B. -/
def OwnK (w : World) (B : Nat) (e : TypeId) (k : Nat) (A : Option Addr) (c n : Nat) (xs : List Value) : Prop := w.ownsRow B e k (.slice A n c) n xs
theorem OwnK.nil (w : World) (B : Nat) (e : TypeId) (k : Nat) : OwnK w B e k none 0 0 [] := ⟨by simp, .inl ⟨rfl, rfl⟩⟩
theorem wpList_pushK {P : Program} {w : World} {ops : Array Oper} {rest : List Oper} {o : Oper} {a : Act} {Q : Exit → Act → World → Prop} (hgd : o.guard = none) (s x : Operand) (t : TypeId)
    (ho : o.op = .call { callee := .builtin .append, args := #[s, x], argTypes := #[t, t] })
    (B : Nat) (e : TypeId) (z : Value) (k bytes : Nat) (ht : P.underlying t = some (.slice e)) (hinfo : (P.info? e).map (fun i => (i.zero, i.size, i.bytes)) = some (some z, k, bytes)) (hzs : z.cells.size = k) (hk : 0 < k)
    (A : Option Addr) (c n : Nat) (xs : List Value) (hs : a.eval s = .slice A n c) (hown : OwnK w B e k A c n xs)
    (g : Nat) (us : List Value) (hx : a.eval x = .slice (some ⟨g, 0, none⟩) 1 1) (hl : us.length = k) (hu : ∀ j u, us[j]? = some u → w.cell? ⟨g, j, none⟩ = some u) (h1 : ∀ u ∈ us, u.oneCell' = true)
    (hn : (n + 1) * (bytes + 1) ≤ 140737488355328) (hbase : B ≤ w.heap.size)
    (h : ∀ g' c' w', OwnK w' B e k (some ⟨g', 0, none⟩) c' (n + 1) (xs ++ us) → Below B w w' → w.grownBy w' (A.map (·.block)) → (some g' = A.map (·.block) ∨ g' = w.heap.size) → B ≤ g' ∧ g' < w'.heap.size →
      wpList P ops Q rest (a.put o.dst (.slice (some ⟨g', 0, none⟩) (n + 1) c')) w') :
    wpList P ops Q (o :: rest) a w := by
  obtain ⟨i, hi, hz0, hz1, hz2⟩ := info_parts hinfo
  have hx0 : (n + 1) ≤ 140737488355328 := by
    have : n + 1 ≤ (n + 1) * (bytes + 1) := Nat.le_mul_of_pos_right _ (by omega)
    omega
  have hx1 : (n + 1) * bytes ≤ 140737488355328 := by
    have : (n + 1) * bytes ≤ (n + 1) * (bytes + 1) := Nat.mul_le_mul_left _ (by omega)
    omega
  refine wpList_append_own_at w hgd s x t ho B e i z k bytes ht hi hz0 hz1 hz2 hzs hk _ n xs hs hown ⟨g, 0, none⟩ 1 1 us hx (by omega) ?_ h1 (by unfold maxLen; omega) hx1 hbase ?_
  · intro j u' hj
    rw [add0]; exact hu j u' hj
  · intro v' w' ho' hg hnil hat
    have hob : (Value.slice A n c).ownBlock = A.map (·.block) := by cases A <;> rfl
    rw [hob] at hg hat
    have hAB : ∀ b, A.map (·.block) = some b → B ≤ b := by
      intro b hb
      rcases hown.2 with ⟨hv, _⟩ | ⟨g0, cap, cur, hv, hB, _⟩
      · injection hv with e1; rw [e1] at hb; cases hb
      · injection hv with e1; rw [e1] at hb; injection hb with hb; subst hb; exact hB
    rcases ho'.2 with ⟨_, hn0⟩ | ⟨g', cap, cur, rfl, hb, hgg, r⟩
    · omega
    · refine h g' cap w' ho' ?_ hg ?_ ⟨hb, (Array.getElem?_eq_some_iff.1 hgg).1⟩
      · refine ⟨hg.os, hg.tape, hg.output, hg.size, fun j hj => hg.block j (Nat.lt_of_lt_of_le hj hbase) ?_⟩
        intro hh
        have := hAB j hh.symm
        omega
      · simpa [Value.ownBlock] using hat
end Go.Proofs.YtammpndggdniiaaDoor
