/- Small lemmas for walks: a slice that the call itself made ('OwnS'), one element appended to it, bytes turned to a string, blocks that stay. -/
import Derived.Test.YtllmgogcemannaaGreatDoorRows
import Derived.WalkKit
import Derived.WalkSpells
import Derived.WalkLawsBesides
import Derived.Handy
import Derived.Lib.Hide
import Derived.Maps.AppendAt
import Derived.Deep.Draws
namespace Go.Proofs.YtllmgogcemannaaGreatDoor
open Go.RowKit

/-- The slice value '.slice A xs.length c' holds the cells xs in a row of the call's own (from block B on). -/
def OwnS (w : World) (B : Nat) (e : TypeId) (A : Option Addr) (c : Nat) (xs : List Value) : Prop := w.ownsRow B e 1 (.slice A xs.length c) xs.length xs

theorem add0 (g j : Nat) : (⟨g, 0, none⟩ : Addr).add j = ⟨g, j, none⟩ := by
  unfold Addr.add; split <;> simp_all

theorem OwnS.nil (w : World) (B : Nat) (e : TypeId) : OwnS w B e none 0 [] := ⟨rfl, .inl ⟨rfl, rfl⟩⟩
theorem OwnS.form {w : World} {B : Nat} {e : TypeId} {A : Option Addr} {c : Nat} {xs : List Value} (h : OwnS w B e A c xs) (h0 : 0 < xs.length) :
    ∃ g, A = some ⟨g, 0, none⟩ ∧ B ≤ g ∧ g < w.heap.size ∧ xs.length ≤ c := by
  rcases h.2 with ⟨_, hn⟩ | ⟨g, cap, cur, hv, hb, hg, hnc, _⟩
  · omega
  · injection hv with h1 h2 h3
    subst h3
    exact ⟨g, h1, hb, (Array.getElem?_eq_some_iff.1 hg).1, hnc⟩
theorem OwnS.cell {w : World} {B : Nat} {e : TypeId} {A : Option Addr} {c : Nat} {xs : List Value} (h : OwnS w B e A c xs) {g : Nat} (hA : A = some ⟨g, 0, none⟩) {j : Nat} (hj : j < xs.length) :
    w.cell? ⟨g, j, none⟩ = some xs[j] := by
  subst hA
  have := World.ownsRow.cells h (g := g) rfl j xs[j] (List.getElem?_eq_getElem hj)
  rwa [add0] at this
theorem OwnS.alloc {w : World} {B : Nat} {e : TypeId} {A : Option Addr} {c : Nat} {xs : List Value} (h : OwnS w B e A c xs) (o : Obj) : OwnS (w.alloc o) B e A c xs := World.ownsRow.alloc h o
theorem OwnS.drew {w : World} {B : Nat} {e : TypeId} {A : Option Addr} {c : Nat} {xs : List Value} (h : OwnS w B e A c xs) : OwnS w.drew B e A c xs := h
theorem OwnS.drewN {w : World} {B : Nat} {e : TypeId} {A : Option Addr} {c : Nat} {xs : List Value} (h : OwnS w B e A c xs) (n : Nat) : OwnS (w.drewN n) B e A c xs := h
theorem OwnS.mono {w : World} {B B' : Nat} {e : TypeId} {A : Option Addr} {c : Nat} {xs : List Value} (h : OwnS w B e A c xs) (hB : B' ≤ B) : OwnS w B' e A c xs := by
  refine ⟨h.1, ?_⟩
  rcases h.2 with h0 | ⟨g, cap, cur, hv, hb, r⟩
  · exact .inl h0
  · exact .inr ⟨g, cap, cur, hv, by omega, r⟩
theorem OwnS.kept {w w' : World} {B : Nat} {e : TypeId} {A : Option Addr} {c : Nat} {xs : List Value} (h : OwnS w B e A c xs) {row : Option Nat} (hg : w.grownBy w' row) (hr : ∀ g, A = some ⟨g, 0, none⟩ → some g ≠ row) : OwnS w' B e A c xs := by
  refine ⟨h.1, ?_⟩
  rcases h.2 with h0 | ⟨g, cap, cur, hv, hb, hgg, r⟩
  · exact .inl h0
  · injection hv with h1 h2 h3
    refine .inr ⟨g, cap, cur, ?_, hb, ?_, r⟩
    · rw [h1, h3]
    · rw [hg.block g (Array.getElem?_eq_some_iff.1 hgg).1 (hr g h1)]; exact hgg
theorem OwnS.below {w w' : World} {B B' : Nat} {e : TypeId} {A : Option Addr} {c : Nat} {xs : List Value} (h : OwnS w B e A c xs) (hg : Below B' w w') (hr : ∀ g, A = some ⟨g, 0, none⟩ → g < B') : OwnS w' B e A c xs := by
  refine ⟨h.1, ?_⟩
  rcases h.2 with h0 | ⟨g, cap, cur, hv, hb, hgg, r⟩
  · exact .inl h0
  · injection hv with h1 h2 h3
    refine .inr ⟨g, cap, cur, ?_, hb, ?_, r⟩
    · rw [h1, h3]
    · rw [hg.block g (hr g h1)]; exact hgg
/-- An owned row over a call that leaves all that was there. -/
theorem OwnS.later {w w' : World} {B : Nat} {e : TypeId} {A : Option Addr} {c : Nat} {xs : List Value} (h : OwnS w B e A c xs) (hg : Below w.heap.size w w') : OwnS w' B e A c xs := by
  refine ⟨h.1, ?_⟩
  rcases h.2 with h0 | ⟨g, cap, cur, hv, hb, hgg, r⟩
  · exact .inl h0
  · injection hv with h1 h2 h3
    refine .inr ⟨g, cap, cur, ?_, hb, ?_, r⟩
    · rw [h1, h3]
    · rw [hg.block g (Array.getElem?_eq_some_iff.1 hgg).1]; exact hgg

theorem below_step {B : Nat} {a w w' : World} {o : Obj} (h : Below B a w) (hB : B ≤ w.heap.size) (k : Below B (w.alloc o) w') : Below B a w' := (h.alloc hB o).trans k

/-- 'append(s, x)' of one element, s a row of the call's own, x laid in a block of one cell. -/
theorem wpList_push {P : Program} {w : World} {ops : Array Oper} {rest : List Oper} {o : Oper} {a : Act} {Q : Exit → Act → World → Prop} (hgd : o.guard = none) (s x : Operand) (t : TypeId)
    (ho : o.op = .call { callee := .builtin .append, args := #[s, x], argTypes := #[t, t] })
    (B : Nat) (e : TypeId) (z : Value) (bytes : Nat) (ht : P.underlying t = some (.slice e)) (hinfo : (P.info? e).map (fun i => (i.zero, i.size, i.bytes)) = some (some z, 1, bytes)) (hzs : z.cells.size = 1)
    (A : Option Addr) (c : Nat) (xs : List Value) (hs : a.eval s = .slice A xs.length c) (hown : OwnS w B e A c xs)
    (g : Nat) (u : Value) (hx : a.eval x = .slice (some ⟨g, 0, none⟩) 1 1) (hu : w.cell? ⟨g, 0, none⟩ = some u) (h1 : u.oneCell' = true)
    (hn : (xs.length + 1) * (bytes + 1) ≤ 140737488355328) (hbase : B ≤ w.heap.size)
    (h : ∀ g' c' w', OwnS w' B e (some ⟨g', 0, none⟩) c' (xs ++ [u]) → Below B w w' → w.grownBy w' (A.map (·.block)) → (some g' = A.map (·.block) ∨ g' = w.heap.size) → B ≤ g' ∧ g' < w'.heap.size →
      wpList P ops Q rest (a.put o.dst (.slice (some ⟨g', 0, none⟩) (xs.length + 1) c')) w') :
    wpList P ops Q (o :: rest) a w := by
  obtain ⟨i, hi, hz0, hz1, hz2⟩ := info_parts hinfo
  have hx0 : (xs.length + 1) ≤ 140737488355328 := by
    have : xs.length + 1 ≤ (xs.length + 1) * (bytes + 1) := Nat.le_mul_of_pos_right _ (by omega)
    omega
  have hx1 : (xs.length + 1) * bytes ≤ 140737488355328 := by
    have : (xs.length + 1) * bytes ≤ (xs.length + 1) * (bytes + 1) := Nat.mul_le_mul_left _ (by omega)
    omega
  refine wpList_append_own_at w hgd s x t ho B e i z 1 bytes ht hi hz0 hz1 hz2 hzs (by omega) _ _ _ hs hown ⟨g, 0, none⟩ 1 1 [u] hx rfl ?_ ?_ (by unfold maxLen; omega) hx1 hbase ?_
  · intro j u' hj
    match j, hj with
    | 0, hj => simp at hj; subst hj; simpa [Addr.add] using hu
  · intro u' hu'; simp at hu'; subst hu'; exact h1
  · intro v' w' ho' hg hnil hat
    have hob : (Value.slice A xs.length c).ownBlock = A.map (·.block) := by cases A <;> rfl
    rw [hob] at hg hat
    rcases ho'.2 with ⟨_, hn0⟩ | ⟨g', cap, cur, rfl, hb, hgg, r⟩
    · omega
    · refine h g' cap w' ?_ ?_ hg ?_ ⟨hb, (Array.getElem?_eq_some_iff.1 hgg).1⟩
      · have : (xs ++ [u]).length = xs.length + 1 := by simp
        unfold OwnS; rw [this]; exact ho'
      · refine ⟨hg.os, hg.tape, hg.output, hg.size, fun k hk => hg.block k (Nat.lt_of_lt_of_le hk hbase) ?_⟩
        intro hk'
        have := World.ownsRow.lt hown k (by rw [hob]; exact hk'.symm)
        omega
      · simpa [Value.ownBlock] using hat

def u8s (l : List UInt8) : List Value := l.map fun b => .int .u8 (b.toNat : Int)
theorem u8s_length (l : List UInt8) : (u8s l).length = l.length := by simp [u8s]
theorem u8s_snoc (l : List UInt8) (b : UInt8) : u8s (l ++ [b]) = u8s l ++ [.int .u8 (b.toNat : Int)] := by simp [u8s]

/-- 'string(b)', b a row of bytes of the call's own. -/
theorem conv_own {P : Program} {w : World} {src dst e : TypeId} {B : Nat} {A : Option Addr} {c n : Nat} {l : List UInt8} (hs : P.underlying src = some (.slice e)) (he : P.underlying e = some (.int .u8)) (hd : P.underlying dst = some .string)
    (h : OwnS w B e A c (u8s l)) (hn : n = l.length) : (convert src dst (.slice A n c)).run P w = .ok (.string ⟨l.toArray⟩) w := by
  subst hn
  rcases Nat.eq_zero_or_pos l.length with h0 | h0
  · obtain rfl := List.eq_nil_of_length_eq_zero h0
    rcases h.2 with ⟨hv, _⟩ | ⟨g, cap, cur, hv, _⟩
    · injection hv with h1; subst h1
      exact run_convert_bytes_nil w src e hs he _ _ dst hd
    · injection hv with h1; subst h1
      exact run_convert_bytes_back w src dst e _ c [] hs he hd (by simp)
  · obtain ⟨g, rfl, _⟩ := h.form (by rw [u8s_length]; exact h0)
    refine run_convert_bytes_back w src dst e _ c l hs he hd fun j hj => ?_
    have := h.cell rfl (j := j) (by rw [u8s_length]; exact hj)
    rw [add0, this]; simp [u8s]

theorem cell_new (w : World) (x : Value) (t : TypeId) : (w.alloc (.cells #[x] t)).cell? ⟨w.heap.size, 0, none⟩ = some x := by simp

end Go.Proofs.YtllmgogcemannaaGreatDoor
