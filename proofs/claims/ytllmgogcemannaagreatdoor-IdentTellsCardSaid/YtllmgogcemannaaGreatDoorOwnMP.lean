/- 'append(p, x...)' onto such a row. -/
import Derived.Test.YtllmgogcemannaaGreatDoorOwnM
namespace Go.Proofs.YtllmgogcemannaaGreatDoor
open Go.RowKit

theorem append_roomM {P : Program} (w : World) (t ty e : TypeId) (i : TypeInfo) (ht : P.underlying t = some (.slice e)) (hi : P.info? e = some i) (h1s : i.size = 1)
    (g sLen sCap : Nat) (cur : Array Value) (fz : Nat × Nat) (hg : w.heap[g]? = some (.cells cur e fz)) (hfz : fz = (0, 0) ∨ cur.size ≤ fz.1)
    (a : Addr) (m c : Nat) (news : List Value) (hl : news.length = m) (hnews : ∀ j u, news[j]? = some u → w.cell? (a.add j) = some u) (h1 : ∀ u ∈ news, u.oneCell' = true)
    (hroom : sLen + m ≤ sCap) (hfit : sLen + m ≤ cur.size) :
    (Builtin.append_ #[t, t] ty #[.slice (some ⟨g, 0, none⟩) sLen sCap, .slice (some a) m c]).run P w =
      .ok (.slice (some ⟨g, 0, none⟩) (sLen + m) sCap) (w.setRow g (cur.toList.take sLen ++ news ++ cur.toList.drop (sLen + m)).toArray) := by
  have hf := run_firstCells_some (P := P) w i.size m a m c news (by rw [h1s]; omega) hnews
  rw [h1s] at hf
  have hst := storeCells_M P g sLen e fz news 0 cur w hg hfz (by omega) h1
  simp only [Nat.add_zero, hl] at hst
  simp [Builtin.append_, run_underlying ht, sizeOf, typeInfo, hi, Builtin.lenOf, hroom, hf, Addr.add_lit, h1s, hst]
theorem wp_pushM {P : Program} {o : Oper} {a : Act} {w : World} {K : Act → World → Prop} {Q : Exit → Act → World → Prop} (s x : Operand) (t : TypeId)
    (ho : o.op = .call { callee := .builtin .append, args := #[s, x], argTypes := #[t, t] })
    (B : Nat) (e : TypeId) (z : Value) (bytes : Nat) (ht : P.underlying t = some (.slice e)) (hinfo : (P.info? e).map (fun i => (i.zero, i.size, i.bytes)) = some (some z, 1, bytes)) (hzs : z.cells.size = 1)
    (g c n n' : Nat) (xs : List Value) (hxl : xs.length = n) (hs : a.eval s = .slice (some ⟨g, 0, none⟩) n c) (hown : OwnM w B e g c xs)
    (ad : Addr) (m cx : Nat) (us : List Value) (hx : a.eval x = .slice (some ad) m cx) (hl : us.length = m) (hu : ∀ (j : Nat) u, us[j]? = some u → w.cell? (ad.add j) = some u) (h1 : ∀ u ∈ us, u.oneCell' = true)
    (hn' : n' = n + m) (hn : (n + m) * (bytes + 1) ≤ 140737488355328) (hbase : B ≤ w.heap.size)
    (h : ∀ g' c' w', Hid (OwnM w' B e g' c' (xs ++ us)) → Hid (∀ w0, Below B w0 w → Below B w0 w') → K (a.put o.dst (.slice (some ⟨g', 0, none⟩) n' c')) w') :
    Oper.wp P o a w K Q := by
  subst hxl hn'
  obtain ⟨i, hi, hz0, hz1, hz2⟩ := info_parts hinfo
  have hx0 : (xs.length + m) ≤ 140737488355328 := by
    have : xs.length + m ≤ (xs.length + m) * (bytes + 1) := Nat.le_mul_of_pos_right _ (by omega)
    omega
  have hx1 : (xs.length + m) * bytes ≤ 140737488355328 := by
    have : (xs.length + m) * bytes ≤ (xs.length + m) * (bytes + 1) := Nat.mul_le_mul_left _ (by omega)
    omega
  have hlen : (xs ++ us).length = xs.length + m := by rw [List.length_append, hl]
  have hcells : ∀ j u, xs[j]? = some u → w.cell? ((⟨g, 0, none⟩ : Addr).add j) = some u := fun j u hj => by rw [add0]; exact hown.cell hj
  obtain ⟨cur, fz, hB, hg, hf, hnc, hcm, hcs, htk⟩ := hown
  unfold Oper.wp execOp
  by_cases hroom : xs.length + m ≤ c
  · have hr := append_roomM (P := P) w t o.type e i ht hi hz1 g xs.length c cur fz hg hf ad m cx us hl hu h1 hroom (by omega)
    simp only [ho, resolve, invoke, builtin, Sem.run_bind, Sem.run_pure, Result.andThen_ok, List.map_toArray, List.map_cons, List.map_nil, hs, hx, hr]
    refine h g c _ (Lib.hid ⟨_, fz, hB, setRow_heap w g cur _ e _ hg, ?_, by rw [hlen]; exact hroom, hcm, ?_, ?_⟩) (Lib.hid fun w0 hb => ?_)
    · rcases hf with hf | hf
      · exact .inl hf
      · right
        simp only [List.size_toArray, List.length_append, List.length_take, List.length_drop, Array.length_toList]
        omega
    · simp only [List.size_toArray, List.length_append, List.length_take, List.length_drop, Array.length_toList]
      omega
    · rw [htk]
      simp only [List.toList_toArray] 
      exact List.take_left
    · exact ⟨hb.os, hb.tape, hb.output, by have := hb.size; simp only [World.setRow]; rw [Array.size_modify]; omega, fun i hi => (setRow_other w g i _ (by omega)).trans (hb.block i hi)⟩
  · have hr := run_append_grow (P := P) w t o.type e i z ht hi hz0 ⟨g, 0, none⟩ xs.length c xs (by rw [hz1]; omega) hcells ad m cx us (by rw [hz1]; omega) hu (by omega) (by omega) (by rw [hz2]; exact growslice_fits (by omega) hx1)
    simp only [ho, resolve, invoke, builtin, Sem.run_bind, Sem.run_pure, Result.andThen_ok, List.map_toArray, List.map_cons, List.map_nil, hs, hx, hr]
    have hge := grownCap_ge w (xs.length + m) c e
    have hcm2 : grownCap w (xs.length + m) c e ≤ maxLen := grownCap_le_maxLen w (xs.length + m) c e (by unfold maxLen; omega)
    refine h w.heap.size _ _ (Lib.hid ⟨_, (0, 0), hbase, heap_alloc_new w.drew _, .inl rfl, by rw [hlen]; exact hge, hcm2, ?_, ?_⟩) (Lib.hid fun w0 hb => ?_)
    · simp only [Array.size_append, List.size_toArray, size_zeroCells, hzs, hl]
      omega
    · simp only [Array.toList_append, List.append_assoc]
      rw [← List.append_assoc]
      exact List.take_left
    · have hd : Below B w0 w.drew := ⟨hb.os, hb.tape, hb.output, hb.size, hb.block⟩
      exact hd.alloc hbase _
theorem wpList_pushOM {P : Program} {ops : Array Oper} {o : Oper} {rest : List Oper} {a : Act} {w : World} {Q : Exit → Act → World → Prop} (hgd : o.guard = none) (s x : Operand) (t : TypeId)
    (ho : o.op = .call { callee := .builtin .append, args := #[s, x], argTypes := #[t, t] })
    (B : Nat) (e : TypeId) (z : Value) (bytes : Nat) (ht : P.underlying t = some (.slice e)) (hinfo : (P.info? e).map (fun i => (i.zero, i.size, i.bytes)) = some (some z, 1, bytes)) (hzs : z.cells.size = 1)
    (g c n n' : Nat) (xs : List Value) (hxl : xs.length = n) (hs : a.eval s = .slice (some ⟨g, 0, none⟩) n c) (hown : OwnM w B e g c xs)
    (ad : Addr) (m cx : Nat) (us : List Value) (hx : a.eval x = .slice (some ad) m cx) (hl : us.length = m) (hu : ∀ (j : Nat) u, us[j]? = some u → w.cell? (ad.add j) = some u) (h1 : ∀ u ∈ us, u.oneCell' = true)
    (hn' : n' = n + m) (hn : (n + m) * (bytes + 1) ≤ 140737488355328) (hbase : B ≤ w.heap.size)
    (h : ∀ g' c' w', Hid (OwnM w' B e g' c' (xs ++ us)) → Hid (∀ w0, Below B w0 w → Below B w0 w') → wpList P ops Q rest (a.put o.dst (.slice (some ⟨g', 0, none⟩) n' c')) w') :
    wpList P ops Q (o :: rest) a w :=
  wpList_plain hgd fun _ hK => wp_pushM s x t ho B e z bytes ht hinfo hzs g c n n' xs hxl hs hown ad m cx us hx hl hu h1 hn' hn hbase fun g' c' w' p1 p2 => hK _ _ (h g' c' w' p1 p2)
end Go.Proofs.YtllmgogcemannaaGreatDoor
