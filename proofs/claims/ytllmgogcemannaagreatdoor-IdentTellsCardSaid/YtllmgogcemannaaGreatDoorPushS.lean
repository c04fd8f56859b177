/- 'append(s, x...)' of elements of one cell each, onto a row of the call's own. -/
import Derived.Test.YtllmgogcemannaaGreatDoorMem
import Derived.Maps.AppendAt
import Derived.Laws.OwnMore
namespace Go.Proofs.YtllmgogcemannaaGreatDoor
open Go.RowKit

/-- 'append(s, x...)' of strings, s a row of the call's own, one operation of a region that draws. -/
theorem wp_pushS {P : Program} {o : Oper} {a : Act} {w : World} {K : Act → World → Prop} {Q : Exit → Act → World → Prop} (s x : Operand) (t : TypeId)
    (ho : o.op = .call { callee := .builtin .append, args := #[s, x], argTypes := #[t, t] })
    (B : Nat) (e : TypeId) (z : Value) (bytes : Nat) (ht : P.underlying t = some (.slice e)) (hinfo : (P.info? e).map (fun i => (i.zero, i.size, i.bytes)) = some (some z, 1, bytes)) (hzs : z.cells.size = 1)
    (A : Option Addr) (c n n' : Nat) (xs : List Value) (hxl : xs.length = n) (hs : a.eval s = .slice A n c) (hown : OwnS w B e A c xs)
    (ad : Addr) (m cx : Nat) (us : List Value) (hx : a.eval x = .slice (some ad) m cx) (hl : us.length = m) (hu : ∀ (j : Nat) u, us[j]? = some u → w.cell? (ad.add j) = some u) (h1 : ∀ u ∈ us, u.oneCell' = true)
    (hn' : n' = n + m) (hn : (n + m) * (bytes + 1) ≤ 140737488355328) (hbase : B ≤ w.heap.size)
    (h : ∀ A' c' w', Hid (OwnS w' B e A' c' (xs ++ us)) → Hid (∀ w0, Below B w0 w → Below B w0 w') → Hid (w.grownBy w' (A.map (·.block))) → K (a.put o.dst (.slice A' n' c')) w') :
    Oper.wp P o a w K Q := by
  subst hxl hn'
  obtain ⟨i, hi, hz0, hz1, hz2⟩ := info_parts hinfo
  have hx0 : (xs.length + m) ≤ 140737488355328 := by
    have : xs.length + m ≤ (xs.length + m) * (bytes + 1) := Nat.le_mul_of_pos_right _ (by omega)
    omega
  have hx1 : (xs.length + m) * bytes ≤ 140737488355328 := by
    have : (xs.length + m) * bytes ≤ (xs.length + m) * (bytes + 1) := Nat.mul_le_mul_left _ (by omega)
    omega
  obtain ⟨v', w', hr, h2, h3, h4, h5⟩ := run_append_own_at (P := P) w B t o.type e i z 1 bytes ht hi hz0 hz1 hz2 hzs (by omega) _ _ _ hown ad m cx us (by omega) hu h1 (by unfold maxLen; omega) hx1 hbase
  unfold Oper.wp execOp
  simp only [ho, resolve, invoke, builtin, Sem.run_bind, Sem.run_pure, Result.andThen_ok, List.map_toArray, List.map_cons, List.map_nil, hs, hx, hr]
  have hlen : (xs ++ us).length = xs.length + m := by rw [List.length_append, hl]
  obtain ⟨A', c', rfl⟩ : ∃ A' c', v' = .slice A' (xs.length + m) c' := by
    rcases h2.2 with ⟨hv, h0⟩ | ⟨g, cap, cur, hv, _⟩
    · exact ⟨_, _, hv.trans (by rw [h0])⟩
    · exact ⟨_, _, hv⟩
  refine h A' c' w' (Lib.hid (by unfold OwnS; rw [hlen]; exact h2)) (Lib.hid fun w0 hb => ?_) (Lib.hid (show w.grownBy w' (A.map (·.block)) by have hob : (Value.slice A xs.length c).ownBlock = A.map (·.block) := (by cases A <;> rfl); rw [← hob]; exact h3))
  refine hb.trans ⟨h3.os, h3.tape, h3.output, h3.size, fun k hk => h3.block k (Nat.lt_of_lt_of_le hk hbase) ?_⟩
  intro hk'
  have := World.ownsRow.lt hown k hk'.symm
  omega
theorem step_pushS {P : Program} {ops : Array Oper} {o : Oper} {a : Act} {w : World} {K : Act → World → Prop} {Q : Exit → Act → World → Prop} {E : Prop} (hgd : o.guard = none) (s x : Operand) (t : TypeId)
    (ho : o.op = .call { callee := .builtin .append, args := #[s, x], argTypes := #[t, t] })
    (B : Nat) (e : TypeId) (z : Value) (bytes : Nat) (ht : P.underlying t = some (.slice e)) (hinfo : (P.info? e).map (fun i => (i.zero, i.size, i.bytes)) = some (some z, 1, bytes)) (hzs : z.cells.size = 1)
    (A : Option Addr) (c n n' : Nat) (xs : List Value) (hxl : xs.length = n) (hs : a.eval s = .slice A n c) (hown : OwnS w B e A c xs)
    (ad : Addr) (m cx : Nat) (us : List Value) (hx : a.eval x = .slice (some ad) m cx) (hl : us.length = m) (hu : ∀ (j : Nat) u, us[j]? = some u → w.cell? (ad.add j) = some u) (h1 : ∀ u ∈ us, u.oneCell' = true)
    (hn' : n' = n + m) (hn : (n + m) * (bytes + 1) ≤ 140737488355328) (hbase : B ≤ w.heap.size)
    (h : ∀ A' c' w', Hid (OwnS w' B e A' c' (xs ++ us)) → Hid (∀ w0, Below B w0 w → Below B w0 w') → Hid (w.grownBy w' (A.map (·.block))) → K (a.put o.dst (.slice A' n' c')) w') :
    if Region.wanted o (yielded ops a.tmps) = true then Oper.wp P o a w K Q else E := by
  rw [if_pos (by simp [Region.wanted, hgd])]
  exact wp_pushS s x t ho B e z bytes ht hinfo hzs A c n n' xs hxl hs hown ad m cx us hx hl hu h1 hn' hn hbase h
theorem wpList_pushS {P : Program} {ops : Array Oper} {o : Oper} {rest : List Oper} {a : Act} {w : World} {Q : Exit → Act → World → Prop} (hgd : o.guard = none) (s x : Operand) (t : TypeId)
    (ho : o.op = .call { callee := .builtin .append, args := #[s, x], argTypes := #[t, t] })
    (B : Nat) (e : TypeId) (z : Value) (bytes : Nat) (ht : P.underlying t = some (.slice e)) (hinfo : (P.info? e).map (fun i => (i.zero, i.size, i.bytes)) = some (some z, 1, bytes)) (hzs : z.cells.size = 1)
    (A : Option Addr) (c n n' : Nat) (xs : List Value) (hxl : xs.length = n) (hs : a.eval s = .slice A n c) (hown : OwnS w B e A c xs)
    (ad : Addr) (m cx : Nat) (us : List Value) (hx : a.eval x = .slice (some ad) m cx) (hl : us.length = m) (hu : ∀ (j : Nat) u, us[j]? = some u → w.cell? (ad.add j) = some u) (h1 : ∀ u ∈ us, u.oneCell' = true)
    (hn' : n' = n + m) (hn : (n + m) * (bytes + 1) ≤ 140737488355328) (hbase : B ≤ w.heap.size)
    (h : ∀ A' c' w', Hid (OwnS w' B e A' c' (xs ++ us)) → Hid (∀ w0, Below B w0 w → Below B w0 w') → Hid (w.grownBy w' (A.map (·.block))) → wpList P ops Q rest (a.put o.dst (.slice A' n' c')) w') :
    wpList P ops Q (o :: rest) a w :=
  wpList_plain hgd fun _ hK => wp_pushS s x t ho B e z bytes ht hinfo hzs A c n n' xs hxl hs hown ad m cx us hx hl hu h1 hn' hn hbase fun A' c' w' p1 p2 p3 => hK _ _ (h A' c' w' p1 p2 p3)
theorem add_at (g o j : Nat) : (⟨g, o, none⟩ : Addr).add j = ⟨g, o + j, none⟩ := by unfold Addr.add; split <;> simp_all
theorem get_take {xs : List Value} {i j : Nat} {u : Value} (h : (xs.take i)[j]? = some u) : xs[j]? = some u := by
  rw [List.getElem?_take] at h
  split at h
  · exact h
  · cases h
theorem get_one {j : Nat} {v u : Value} (h : [v][j]? = some u) : j = 0 ∧ v = u := by
  cases j with
  | zero => exact ⟨rfl, by simpa using h⟩
  | succ j => simp at h
theorem own_at {w : World} {B : Nat} {e : TypeId} {g c j : Nat} {xs : List Value} {u : Value} (h : OwnS w B e (some ⟨g, 0, none⟩) c xs) (hj : xs[j]? = some u) : w.cell? ⟨g, j, none⟩ = some u := by
  obtain ⟨hl, hu⟩ := List.getElem?_eq_some_iff.1 hj
  rw [h.cell rfl hl, hu]
theorem own_some {w : World} {B : Nat} {e : TypeId} {g c j : Nat} {xs : List Value} (h : OwnS w B e (some ⟨g, 0, none⟩) c xs) (hj : j < xs.length) : ∃ z, w.cell? ⟨g, j, none⟩ = some z := ⟨_, own_at h (List.getElem?_eq_getElem hj)⟩
theorem own_fr {w : World} {B : Nat} {e : TypeId} {g c : Nat} {xs : List Value} (h : OwnS w B e (some ⟨g, 0, none⟩) c xs) (j : Nat) : w.frozen? ⟨g, j, none⟩ = false := World.ownsRow.frozenAt h j
theorem own_set {w : World} {B : Nat} {e : TypeId} {g c : Nat} {xs : List Value} (h : OwnS w B e (some ⟨g, 0, none⟩) c xs) (j : Nat) (u : Value) : OwnS (w.setCell ⟨g, j, none⟩ u) B e (some ⟨g, 0, none⟩) c (xs.set j u) := by
  have := (World.ownsRow.stored h j u).1
  unfold OwnS
  rw [List.length_set]; exact this
theorem own_empty {w : World} {g B : Nat} {e : TypeId} (h : Blk w g e #[]) (hB : B ≤ g) : OwnS w B e (some ⟨g, 0, none⟩) 0 [] :=
  ⟨rfl, .inr ⟨g, 0, _, rfl, hB, h, by simp, by simp [maxLen], rfl, rfl⟩⟩
end Go.Proofs.YtllmgogcemannaaGreatDoor
