/- IdentParts' walk. -/
import Derived.Test.YtllmgogcemannaaDoorIdO
import Derived.Test.YtllmgogcemannaaDoorIdPl
import Derived.Test.YtllmgogcemannaaDoorIdNb
import Derived.Laws.OwnMore
import Derived.Deep.RegionHeld3
import Derived.Deep.DeepCutAuto
import Derived.Deep.CutBlock
namespace Go.Proofs.YtllmgogcemannaaDoor
open Go.RowKit

/-- 'append(s, x...)' of strings, s a row of the call's own, one operation of a region that draws. -/
theorem wp_pushS {P : Program} {o : Oper} {a : Act} {w : World} {K : Act → World → Prop} {Q : Exit → Act → World → Prop} (s x : Operand) (t : TypeId)
    (ho : o.op = .call { callee := .builtin .append, args := #[s, x], argTypes := #[t, t] })
    (B : Nat) (e : TypeId) (z : Value) (bytes : Nat) (ht : P.underlying t = some (.slice e)) (hinfo : (P.info? e).map (fun i => (i.zero, i.size, i.bytes)) = some (some z, 1, bytes)) (hzs : z.cells.size = 1)
    (A : Option Addr) (c n n' : Nat) (xs : List Value) (hxl : xs.length = n) (hs : a.eval s = .slice A n c) (hown : OwnS w B e A c xs)
    (ad : Addr) (m cx : Nat) (us : List Value) (hx : a.eval x = .slice (some ad) m cx) (hl : us.length = m) (hu : ∀ (j : Nat) u, us[j]? = some u → w.cell? (ad.add j) = some u) (h1 : ∀ u ∈ us, u.oneCell' = true)
    (hn' : n' = n + m) (hn : (n + m) * (bytes + 1) ≤ 140737488355328) (hbase : B ≤ w.heap.size)
    (h : ∀ A' c' w', Hid (OwnS w' B e A' c' (xs ++ us)) → Hid (∀ w0, Below B w0 w → Below B w0 w') → Hid (w.grownBy w' (A.map (·.block))) → K (a.put o.dst (.slice A' n' c')) w') :
    Oper.wp P o a w K Q := by
  subst hxl hn'
  obtain ⟨i, hi, hz0, hz1, hz2⟩ := info_parts hinfo
  have hx0 : (xs.length + m) ≤ 140737488355328 := by
    have : xs.length + m ≤ (xs.length + m) * (bytes + 1) := Nat.le_mul_of_pos_right _ (by omega)
    omega
  have hx1 : (xs.length + m) * bytes ≤ 140737488355328 := by
    have : (xs.length + m) * bytes ≤ (xs.length + m) * (bytes + 1) := Nat.mul_le_mul_left _ (by omega)
    omega
  obtain ⟨v', w', hr, h2, h3, h4, h5⟩ := run_append_own_at (P := P) w B t o.type e i z 1 bytes ht hi hz0 hz1 hz2 hzs (by omega) _ _ _ hown ad m cx us (by omega) hu h1 (by unfold maxLen; omega) hx1 hbase
  unfold Oper.wp execOp
  simp only [ho, resolve, invoke, builtin, Sem.run_bind, Sem.run_pure, Result.andThen_ok, List.map_toArray, List.map_cons, List.map_nil, hs, hx, hr]
  have hlen : (xs ++ us).length = xs.length + m := by rw [List.length_append, hl]
  obtain ⟨A', c', rfl⟩ : ∃ A' c', v' = .slice A' (xs.length + m) c' := by
    rcases h2.2 with ⟨hv, h0⟩ | ⟨g, cap, cur, hv, _⟩
    · exact ⟨_, _, hv.trans (by rw [h0])⟩
    · exact ⟨_, _, hv⟩
  refine h A' c' w' (Lib.hid (by unfold OwnS; rw [hlen]; exact h2)) (Lib.hid fun w0 hb => ?_) (Lib.hid (show w.grownBy w' (A.map (·.block)) by have hob : (Value.slice A xs.length c).ownBlock = A.map (·.block) := (by cases A <;> rfl); rw [← hob]; exact h3))
  refine hb.trans ⟨h3.os, h3.tape, h3.output, h3.size, fun k hk => h3.block k (Nat.lt_of_lt_of_le hk hbase) ?_⟩
  intro hk'
  have := World.ownsRow.lt hown k hk'.symm
  omega
theorem step_pushS {P : Program} {ops : Array Oper} {o : Oper} {a : Act} {w : World} {K : Act → World → Prop} {Q : Exit → Act → World → Prop} {E : Prop} (hgd : o.guard = none) (s x : Operand) (t : TypeId)
    (ho : o.op = .call { callee := .builtin .append, args := #[s, x], argTypes := #[t, t] })
    (B : Nat) (e : TypeId) (z : Value) (bytes : Nat) (ht : P.underlying t = some (.slice e)) (hinfo : (P.info? e).map (fun i => (i.zero, i.size, i.bytes)) = some (some z, 1, bytes)) (hzs : z.cells.size = 1)
    (A : Option Addr) (c n n' : Nat) (xs : List Value) (hxl : xs.length = n) (hs : a.eval s = .slice A n c) (hown : OwnS w B e A c xs)
    (ad : Addr) (m cx : Nat) (us : List Value) (hx : a.eval x = .slice (some ad) m cx) (hl : us.length = m) (hu : ∀ (j : Nat) u, us[j]? = some u → w.cell? (ad.add j) = some u) (h1 : ∀ u ∈ us, u.oneCell' = true)
    (hn' : n' = n + m) (hn : (n + m) * (bytes + 1) ≤ 140737488355328) (hbase : B ≤ w.heap.size)
    (h : ∀ A' c' w', Hid (OwnS w' B e A' c' (xs ++ us)) → Hid (∀ w0, Below B w0 w → Below B w0 w') → Hid (w.grownBy w' (A.map (·.block))) → K (a.put o.dst (.slice A' n' c')) w') :
    if Region.wanted o (yielded ops a.tmps) = true then Oper.wp P o a w K Q else E := by
  rw [if_pos (by simp [Region.wanted, hgd])]
  exact wp_pushS s x t ho B e z bytes ht hinfo hzs A c n n' xs hxl hs hown ad m cx us hx hl hu h1 hn' hn hbase h
theorem wpList_pushS {P : Program} {ops : Array Oper} {o : Oper} {rest : List Oper} {a : Act} {w : World} {Q : Exit → Act → World → Prop} (hgd : o.guard = none) (s x : Operand) (t : TypeId)
    (ho : o.op = .call { callee := .builtin .append, args := #[s, x], argTypes := #[t, t] })
    (B : Nat) (e : TypeId) (z : Value) (bytes : Nat) (ht : P.underlying t = some (.slice e)) (hinfo : (P.info? e).map (fun i => (i.zero, i.size, i.bytes)) = some (some z, 1, bytes)) (hzs : z.cells.size = 1)
    (A : Option Addr) (c n n' : Nat) (xs : List Value) (hxl : xs.length = n) (hs : a.eval s = .slice A n c) (hown : OwnS w B e A c xs)
    (ad : Addr) (m cx : Nat) (us : List Value) (hx : a.eval x = .slice (some ad) m cx) (hl : us.length = m) (hu : ∀ (j : Nat) u, us[j]? = some u → w.cell? (ad.add j) = some u) (h1 : ∀ u ∈ us, u.oneCell' = true)
    (hn' : n' = n + m) (hn : (n + m) * (bytes + 1) ≤ 140737488355328) (hbase : B ≤ w.heap.size)
    (h : ∀ A' c' w', Hid (OwnS w' B e A' c' (xs ++ us)) → Hid (∀ w0, Below B w0 w → Below B w0 w') → Hid (w.grownBy w' (A.map (·.block))) → wpList P ops Q rest (a.put o.dst (.slice A' n' c')) w') :
    wpList P ops Q (o :: rest) a w :=
  wpList_plain hgd fun _ hK => wp_pushS s x t ho B e z bytes ht hinfo hzs A c n n' xs hxl hs hown ad m cx us hx hl hu h1 hn' hn hbase fun A' c' w' p1 p2 p3 => hK _ _ (h A' c' w' p1 p2 p3)
theorem add_at (g o j : Nat) : (⟨g, o, none⟩ : Addr).add j = ⟨g, o + j, none⟩ := by unfold Addr.add; split <;> simp_all
theorem get_take {xs : List Value} {i j : Nat} {u : Value} (h : (xs.take i)[j]? = some u) : xs[j]? = some u := by
  rw [List.getElem?_take] at h
  split at h
  · exact h
  · cases h
theorem get_one {j : Nat} {v u : Value} (h : [v][j]? = some u) : j = 0 ∧ v = u := by
  cases j with
  | zero => exact ⟨rfl, by simpa using h⟩
  | succ j => simp at h
theorem own_at {w : World} {B : Nat} {e : TypeId} {g c j : Nat} {xs : List Value} {u : Value} (h : OwnS w B e (some ⟨g, 0, none⟩) c xs) (hj : xs[j]? = some u) : w.cell? ⟨g, j, none⟩ = some u := by
  obtain ⟨hl, hu⟩ := List.getElem?_eq_some_iff.1 hj
  rw [h.cell rfl hl, hu]
theorem own_some {w : World} {B : Nat} {e : TypeId} {g c j : Nat} {xs : List Value} (h : OwnS w B e (some ⟨g, 0, none⟩) c xs) (hj : j < xs.length) : ∃ z, w.cell? ⟨g, j, none⟩ = some z := ⟨_, own_at h (List.getElem?_eq_getElem hj)⟩
theorem own_fr {w : World} {B : Nat} {e : TypeId} {g c : Nat} {xs : List Value} (h : OwnS w B e (some ⟨g, 0, none⟩) c xs) (j : Nat) : w.frozen? ⟨g, j, none⟩ = false := World.ownsRow.frozenAt h j
theorem own_set {w : World} {B : Nat} {e : TypeId} {g c : Nat} {xs : List Value} (h : OwnS w B e (some ⟨g, 0, none⟩) c xs) (j : Nat) (u : Value) : OwnS (w.setCell ⟨g, j, none⟩ u) B e (some ⟨g, 0, none⟩) c (xs.set j u) := by
  have := (World.ownsRow.stored h j u).1
  unfold OwnS
  rw [List.length_set]; exact this
theorem strs_set (l : List (List UInt8)) (j : Nat) (x : List UInt8) : strs (l.set j x) = (strs l).set j (.string ⟨x.toArray⟩) := by unfold strs; rw [List.map_set]
theorem own_empty {w : World} {g B : Nat} {e : TypeId} (h : Blk w g e #[]) (hB : B ≤ g) : OwnS w B e (some ⟨g, 0, none⟩) 0 [] :=
  ⟨rfl, .inr ⟨g, 0, _, rfl, hB, h, by simp, by simp [maxLen], rfl, rfl⟩⟩
theorem strs_one (l : List (List UInt8)) : ∀ u ∈ strs l, u.oneCell' = true := by
  intro u hu
  obtain ⟨x, _, rfl⟩ := List.mem_map.1 hu
  rfl
set_option maxRecDepth 100000 in
set_option maxHeartbeats 8000000 in
theorem parts_main (A : Option Addr) (c : Nat) (l : List (List UInt8)) (i k : Int) (w : World) (hL : LdI w) (hrow : Row w w.heap.size A (strs l)) (hlc : l.length ≤ c) (hi0 : 0 ≤ i) (hi1 : i < l.length) (hk0 : 0 ≤ k) (hk1 : k < l.length) (hids : idsS l = true) (hl : l.length ≤ 64) (hb : ∀ x ∈ l, x.length ≤ 1000000) :
    Calls Tryd.prog 6 #[.slice A l.length c, .int .i64 i, .int .i64 k] w fun e w' => e = .returned (.bool true) ∧ Below w.heap.size w w' := by
  have HSm := Lib.hid (small_any w hL)
  clear hL
  have HR := Lib.hid hrow
  obtain ⟨b, off, rfl, hbhi, hc⟩ := hrow (by rw [strs_length]; omega)
  clear hc
  have HI0 := Lib.hid (fun w1 (hr : Row w1 w.heap.size (some ⟨b, off, none⟩) (strs l)) (hh : w.heap.size ≤ w1.heap.size) => ids_any _ c l.length w.heap.size l w1 hr hh rfl hb (by omega))
  rw [hids] at HI0
  have hl' : (l.length : Int) ≤ 64 := by omega
  obtain ⟨i, rfl⟩ := Int.eq_ofNat_of_zero_le hi0
  obtain ⟨k, rfl⟩ := Int.eq_ofNat_of_zero_le hk0
  go_enter Tryd.func6, Tryd.ntmps6
  go_wp2_with fail
  refine HSm.out.mono ?_; rintro e w1 ⟨rfl, b1⟩
  have R1 := Lib.hid (HR.out.below b1 (Nat.le_refl _))
  replace b1 := Lib.hid b1
  go_wp2_with fail
  refine (HI0.out _ R1.out b1.out.size).mono ?_; rintro e w2 ⟨rfl, b2⟩
  replace b1 := Lib.hid (b1.out.trans (b2.mono b1.out.size))
  clear b2 R1 HSm
  have hii : i < l.length := by omega
  have hkk : k < l.length := by omega
  have hic : i ≤ c := by omega
  have hic1 : i + 1 ≤ c := by omega
  have hil1 : i + 1 ≤ l.length := by omega
  have hw1 : IntKind.i64.wrap ((i : Int) + 1) = (i : Int) + 1 := by rw [IntKind.wrap_i64]; omega
  have ht1 : ((i : Int) + 1).toNat = i + 1 := by omega
  have hg1 : (i : Int) + 1 ≤ l.length := by omega
  have hg2 : (0 : Int) ≤ (i : Int) + 1 := by omega
  have hg3 : (i : Int) + 1 ≤ c := by omega
  have hg4 : (l.length : Int) ≤ c := by omega
  have HC : Hid (∀ (W' : World), Hid (Below w.heap.size w W') → ∀ j u, (strs l)[j]? = some u → W'.cell? ⟨b, off + j, none⟩ = some u) := Lib.hid (fun W' hW j u hu => by
    obtain ⟨hjl, hju⟩ := List.getElem?_eq_some_iff.1 hu
    obtain ⟨b', off', hb', _, hcc⟩ := HR.out.below hW.out (Nat.le_refl _) (by rw [strs_length]; omega)
    injection hb' with hb'
    injection hb' with hb1 hb2
    subst hb1 hb2
    rw [hcc j hjl, hju])
  have hsl : (strs l).length = l.length := strs_length l
  have HSL := Lib.hid hsl
  clear hsl
  go_upto_region 4 with fail
  go_cut [8] (fun s8 wx => ∃ A5 c5, s8 = .slice A5 (l.length - 1) c5 ∧ Hid (OwnS wx w2.heap.size 9 A5 c5 (strs (l.take i ++ l.drop (i + 1)))) ∧ Hid (Below w2.heap.size w2 wx))
  case first =>
    have hb1 := b1.out.size
    have B3 := Lib.hid (below_drew ((Below.refl w2.heap.size w2).alloc (Nat.le_refl _) (.cells #[] 9)))
    have hB3 := B3.out.size
    have O3 := Lib.hid (own_empty (B := w2.heap.size) (show Blk (w2.alloc (.cells #[] 9)).drew w2.heap.size 9 #[] from Blk.new _ _ _) (Nat.le_refl _))
    have HD := Lib.hid (fun (W' : World) (h : Hid (Below w2.heap.size w2 W')) => HC.out W' (Lib.hid (b1.out.trans (h.out.mono hb1))))
    have HE := Lib.hid (show [] ++ (strs l).take i ++ (strs l).drop (i + 1) = strs (l.take i ++ l.drop (i + 1)) by simp [strs])
    by_cases hci : c = i + 1
    · subst hci
      have hle : l.length = i + 1 := by omega
      have HLE := Lib.hid hle
      clear hle
      have s1 : (i : Int) ≤ (i : Int) + 1 := by omega
      have s2 : i ≤ i + 1 := by omega
      have s3 : ((i + 1 : Nat) : Int) = (i : Int) + 1 := by omega
      go_region_held3 (fun _ => True) (trivial) (first
        | ((refine step_pushS (by rfl) (.tmp 41) (.tmp 44) 22 (by rfl) w2.heap.size 9 (.string ⟨#[]⟩) 16 Tryd.underlying22 Tryd.info_str (by rfl) (some ⟨w2.heap.size, 0, none⟩) 0 0 (i) ([]) ?hx (by rfl) ?ho ⟨b, off, none⟩ i (i + 1) ((strs l).take i) (by rfl) ?hl ?hu ?h1 ?hn2 ?hn ?hb ?_); (case hx => rfl); (case ho => exact O3.out); (case hl => (rw [List.length_take, HSL.out]; omega)); (case hu => (intro j u hu; rw [add_at]; exact HD.out _ B3 j u (get_take hu))); (case h1 => (exact fun u hu => strs_one l u (List.mem_of_mem_take hu))); (case hn2 => (have := HLE.out; omega)); (case hn => omega); (case hb => exact hB3); intro A4 c4 w4 o4 k4 g4; have b4 := Lib.hid (k4.out _ B3.out))
        | ((refine step_pushS (by rfl) (.tmp 45) (.tmp 49) 22 (by rfl) w2.heap.size 9 (.string ⟨#[]⟩) 16 Tryd.underlying22 Tryd.info_str (by rfl) A4 c4 i (l.length - 1) ([] ++ (strs l).take i) ?hx (by rfl) ?ho ⟨b, off, none⟩ 0 0 ((strs l).drop (i + 1)) (by rfl) ?hl ?hu ?h1 ?hn2 ?hn ?hb ?_); (case ho => exact o4.out); (case hx => (rw [List.nil_append, List.length_take, HSL.out]; omega)); (case hl => (rw [List.length_drop, HSL.out, HLE.out]; omega)); (case hu => (intro j u hu; rw [add_at]; rw [List.drop_eq_nil_of_le (by rw [HSL.out, HLE.out]; exact Nat.le_refl _)] at hu; cases hu)); (case h1 => (exact fun u hu => strs_one l u (List.mem_of_mem_drop hu))); (case hn2 => (have := HLE.out; omega)); (case hn => omega); (case hb => exact b4.out.size); intro A5 c5 w5 o5 k5 g5; have b5 := Lib.hid (k5.out _ b4.out)))
      all_goals (go_wp2_with fail; go_meet; exact ⟨A5, c5, rfl, Lib.hid (by rw [← HE.out]; exact o5.out), b5⟩)
    · go_region_held3 (fun _ => True) (trivial) (first
        | ((refine step_pushS (by rfl) (.tmp 41) (.tmp 44) 22 (by rfl) w2.heap.size 9 (.string ⟨#[]⟩) 16 Tryd.underlying22 Tryd.info_str (by rfl) (some ⟨w2.heap.size, 0, none⟩) 0 0 (i) ([]) ?hx (by rfl) ?ho ⟨b, off, none⟩ i c ((strs l).take i) (by rfl) ?hl ?hu ?h1 ?hn2 ?hn ?hb ?_); (case hx => rfl); (case ho => exact O3.out); (case hl => (rw [List.length_take, HSL.out]; omega)); (case hu => (intro j u hu; rw [add_at]; exact HD.out _ B3 j u (get_take hu))); (case h1 => (exact fun u hu => strs_one l u (List.mem_of_mem_take hu))); (case hn2 => omega); (case hn => omega); (case hb => exact hB3); intro A4 c4 w4 o4 k4 g4; have b4 := Lib.hid (k4.out _ B3.out))
        | ((refine step_pushS (by rfl) (.tmp 45) (.tmp 49) 22 (by rfl) w2.heap.size 9 (.string ⟨#[]⟩) 16 Tryd.underlying22 Tryd.info_str (by rfl) A4 c4 i (l.length - 1) ([] ++ (strs l).take i) ?hx (by rfl) ?ho ⟨b, off + (i + 1), none⟩ (l.length - (i + 1)) (c - (i + 1)) ((strs l).drop (i + 1)) (by rfl) ?hl ?hu ?h1 ?hn2 ?hn ?hb ?_); (case ho => exact o4.out); (case hx => (rw [List.nil_append, List.length_take, HSL.out]; omega)); (case hl => (rw [List.length_drop, HSL.out])); (case hu => (intro j u hu; rw [add_at]; rw [Nat.add_assoc]; exact HD.out _ b4 _ u (by rw [List.getElem?_drop] at hu; exact hu))); (case h1 => (exact fun u hu => strs_one l u (List.mem_of_mem_drop hu))); (case hn2 => omega); (case hn => omega); (case hb => exact b4.out.size); intro A5 c5 w5 o5 k5 g5; have b5 := Lib.hid (k5.out _ b4.out)))
      all_goals (go_wp2_with fail; go_meet; exact ⟨A5, c5, rfl, Lib.hid (by rw [← HE.out]; exact o5.out), b5⟩)
  case rest =>
    obtain ⟨A5, c5, rfl, OL, BL⟩ := hcut
    rename World => wq
    have bW := Lib.hid (b1.out.trans (BL.out.mono b1.out.size))
    clear b1 BL
    obtain ⟨x, hx⟩ : ∃ x, l[i] = x := ⟨_, rfl⟩
    have HX := Lib.hid hx
    clear hx
    go_upto_region 5 with fail
    go_cut [9] (fun s9 wx => ∃ A7 c7, s9 = .slice A7 (i + 1) c7 ∧ Hid (OwnS wx wq.heap.size 9 A7 c7 (strs (l.take i ++ [x]))) ∧ Hid (Below wq.heap.size wq wx))
    case first =>
      have HCi := Lib.hid (fun (W' : World) (h : Hid (Below w.heap.size w W')) => HC.out W' h i (.string ⟨x.toArray⟩) (by rw [← HX.out]; simp [strs, hii]))
      have ci : wq.cell? ⟨b, off + i, none⟩ = some (.string ⟨x.toArray⟩) := HCi.out wq bW
      have E1 := (Below.refl wq.heap.size wq).alloc (Nat.le_refl _) (.cells #[] 9)
      have E2 := (Below.refl wq.heap.size wq).alloc (Nat.le_refl _) (.cells #[.string ⟨x.toArray⟩] 9)
      have Ba := Lib.hid (below_drew E1)
      have Bb := Lib.hid (below_drew (E1.alloc E1.size (.cells #[.string ⟨x.toArray⟩] 9)))
      have Bc := Lib.hid (below_drew (E2.alloc E2.size (.cells #[] 9)))
      clear E1 E2
      have Oa := Lib.hid (own_empty (B := wq.heap.size) (show Blk (wq.alloc (.cells #[] 9)).drew wq.heap.size 9 #[] from Blk.new _ _ _) (Nat.le_refl _))
      have Ob := Lib.hid (own_empty (B := wq.heap.size) (show Blk ((wq.alloc (.cells #[] 9)).alloc (.cells #[.string ⟨x.toArray⟩] 9)).drew wq.heap.size 9 #[] from (Blk.new _ _ _).alloc _) (Nat.le_refl _))
      have Oc := Lib.hid (own_empty (B := wq.heap.size) (show Blk ((wq.alloc (.cells #[.string ⟨x.toArray⟩] 9)).alloc (.cells #[] 9)).drew (wq.heap.size + 1) 9 #[] by have := Blk.new (wq.alloc (.cells #[.string ⟨x.toArray⟩] 9)) 9 #[]; rw [World.size_alloc] at this; exact this) (Nat.le_succ _))
      have HD := Lib.hid (fun (W' : World) (h : Hid (Below wq.heap.size wq W')) => HC.out W' (Lib.hid (bW.out.trans (h.out.mono bW.out.size))))
      have CX2 := Lib.hid (fun (w6 : World) (g6 : Hid (((wq.alloc (.cells #[] 9)).alloc (.cells #[.string ⟨x.toArray⟩] 9)).drew.grownBy w6 ((some (⟨wq.heap.size, 0, none⟩ : Addr)).map (·.block)))) => (show w6.cell? ⟨wq.heap.size + 1, 0, none⟩ = some (.string ⟨x.toArray⟩) by
        have h : Blk ((wq.alloc (.cells #[] 9)).alloc (.cells #[.string ⟨x.toArray⟩] 9)).drew (wq.heap.size + 1) 9 #[.string ⟨x.toArray⟩] := by have := Blk.new (wq.alloc (.cells #[] 9)) 9 #[.string ⟨x.toArray⟩]; rw [World.size_alloc] at this; exact this
        exact (h.grown g6.out (by intro e; simp at e)).cell 0))
      have CX3 := Lib.hid (fun (w6 : World) (g6 : Hid (((wq.alloc (.cells #[.string ⟨x.toArray⟩] 9)).alloc (.cells #[] 9)).drew.grownBy w6 ((some (⟨wq.heap.size + 1, 0, none⟩ : Addr)).map (·.block)))) => (show w6.cell? ⟨wq.heap.size, 0, none⟩ = some (.string ⟨x.toArray⟩) by
        have h : Blk ((wq.alloc (.cells #[.string ⟨x.toArray⟩] 9)).alloc (.cells #[] 9)).drew wq.heap.size 9 #[.string ⟨x.toArray⟩] := (Blk.new _ _ _).alloc _
        exact (h.grown g6.out (by intro e; simp at e)).cell 0))
      have HE := Lib.hid (show [] ++ (strs l).take i ++ [.string ⟨x.toArray⟩] = strs (l.take i ++ [x]) by simp [strs])
      have hi2 : (i : Int) < l.length := by omega
      have hi3 : (0 : Int) ≤ i := by omega
      have hi4 : (i : Int) ≤ c := by omega
      go_region_held3 (fun w' => w'.cell? ⟨b, off + i, none⟩ = some (.string ⟨x.toArray⟩)) (first | go_keep | exact HCi.out _ (by assumption)) (first
        | ((refine step_pushS (by rfl) (.tmp 51) (.tmp 54) 22 (by rfl) wq.heap.size 9 (.string ⟨#[]⟩) 16 Tryd.underlying22 Tryd.info_str (by rfl) (some ⟨wq.heap.size, 0, none⟩) 0 0 (i) ([]) ?hx (by rfl) ?ho ⟨b, off, none⟩ i c ((strs l).take i) (by rfl) ?hl ?hu ?h1 ?hn2 ?hn ?hb ?_); (case ho => (first | exact Oa.out | exact Ob.out)); (case hx => rfl); (case hl => (rw [List.length_take, HSL.out]; omega)); (case hu => (intro j u hu; rw [add_at]; exact HD.out _ (by first | exact Ba | exact Bb | exact Bc) j u (get_take hu))); (case h1 => (exact fun u hu => strs_one l u (List.mem_of_mem_take hu))); (case hn2 => omega); (case hn => omega); (case hb => (first | exact Ba.out.size | exact Bb.out.size | exact Bc.out.size)); intro A6 c6 w6 o6 k6 g6; have b6 := Lib.hid (k6.out _ (by first | exact Ba.out | exact Bb.out | exact Bc.out)); have b6w := Lib.hid (bW.out.trans (b6.out.mono bW.out.size)))
        | ((refine step_pushS (by rfl) (.tmp 51) (.tmp 54) 22 (by rfl) wq.heap.size 9 (.string ⟨#[]⟩) 16 Tryd.underlying22 Tryd.info_str (by rfl) (some ⟨wq.heap.size + 1, 0, none⟩) 0 0 (i) ([]) ?hx (by rfl) ?ho ⟨b, off, none⟩ i c ((strs l).take i) (by rfl) ?hl ?hu ?h1 ?hn2 ?hn ?hb ?_); (case ho => exact Oc.out); (case hx => rfl); (case hl => (rw [List.length_take, HSL.out]; omega)); (case hu => (intro j u hu; rw [add_at]; exact HD.out _ (by first | exact Ba | exact Bb | exact Bc) j u (get_take hu))); (case h1 => (exact fun u hu => strs_one l u (List.mem_of_mem_take hu))); (case hn2 => omega); (case hn => omega); (case hb => (first | exact Ba.out.size | exact Bb.out.size | exact Bc.out.size)); intro A6 c6 w6 o6 k6 g6; have b6 := Lib.hid (k6.out _ (by first | exact Ba.out | exact Bb.out | exact Bc.out)); have b6w := Lib.hid (bW.out.trans (b6.out.mono bW.out.size)))
        | ((refine step_pushS (by rfl) (.tmp 55) (.tmp 60) 22 (by rfl) wq.heap.size 9 (.string ⟨#[]⟩) 16 Tryd.underlying22 Tryd.info_str (by rfl) A6 c6 i ((i + 1)) ([] ++ (strs l).take i) ?hx (by rfl) ?ho ⟨w6.heap.size, 0, none⟩ 1 1 ([.string ⟨x.toArray⟩]) (by rfl) ?hl ?hu ?h1 ?hn2 ?hn ?hb ?_); (case ho => exact o6.out.alloc _); (case hx => (rw [List.nil_append, List.length_take, HSL.out]; omega)); (case hl => rfl); (case hu => (intro j u hu; rw [add_at]; (obtain ⟨rfl, rfl⟩ := get_one hu; exact cell_new w6 _ _))); (case h1 => (intro u hu; rw [List.mem_singleton.1 hu]; rfl)); (case hn2 => rfl); (case hn => omega); (case hb => (have := b6.out.size; simp only [World.size_alloc]; omega)); intro A7 c7 w7 o7 k7 g7; have b7 := Lib.hid (k7.out _ (b6.out.alloc b6.out.size _)); have b7w := Lib.hid (bW.out.trans (b7.out.mono bW.out.size)))
        | ((refine step_pushS (by rfl) (.tmp 55) (.tmp 60) 22 (by rfl) wq.heap.size 9 (.string ⟨#[]⟩) 16 Tryd.underlying22 Tryd.info_str (by rfl) A6 c6 i ((i + 1)) ([] ++ (strs l).take i) ?hx (by rfl) ?ho ⟨wq.heap.size + 1, 0, none⟩ 1 1 ([.string ⟨x.toArray⟩]) (by rfl) ?hl ?hu ?h1 ?hn2 ?hn ?hb ?_); (case ho => exact o6.out); (case hx => (rw [List.nil_append, List.length_take, HSL.out]; omega)); (case hl => rfl); (case hu => (intro j u hu; rw [add_at]; (obtain ⟨rfl, rfl⟩ := get_one hu; exact (CX2.out w6 g6)))); (case h1 => (intro u hu; rw [List.mem_singleton.1 hu]; rfl)); (case hn2 => rfl); (case hn => omega); (case hb => exact b6.out.size); intro A7 c7 w7 o7 k7 g7; have b7 := Lib.hid (k7.out _ b6.out); have b7w := Lib.hid (bW.out.trans (b7.out.mono bW.out.size)))
        | ((refine step_pushS (by rfl) (.tmp 55) (.tmp 60) 22 (by rfl) wq.heap.size 9 (.string ⟨#[]⟩) 16 Tryd.underlying22 Tryd.info_str (by rfl) A6 c6 i ((i + 1)) ([] ++ (strs l).take i) ?hx (by rfl) ?ho ⟨wq.heap.size, 0, none⟩ 1 1 ([.string ⟨x.toArray⟩]) (by rfl) ?hl ?hu ?h1 ?hn2 ?hn ?hb ?_); (case ho => exact o6.out); (case hx => (rw [List.nil_append, List.length_take, HSL.out]; omega)); (case hl => rfl); (case hu => (intro j u hu; rw [add_at]; (obtain ⟨rfl, rfl⟩ := get_one hu; exact (CX3.out w6 g6)))); (case h1 => (intro u hu; rw [List.mem_singleton.1 hu]; rfl)); (case hn2 => rfl); (case hn => omega); (case hb => exact b6.out.size); intro A7 c7 w7 o7 k7 g7; have b7 := Lib.hid (k7.out _ b6.out); have b7w := Lib.hid (bW.out.trans (b7.out.mono bW.out.size))))
      all_goals (go_wp2_with fail; go_meet; exact ⟨A7, c7, rfl, Lib.hid (by rw [← HE.out]; exact o7.out), b7⟩)
    case rest =>
      obtain ⟨A7, c7, rfl, OM, BM⟩ := hcut
      have bM := Lib.hid (bW.out.trans (BM.out.mono bW.out.size))
      have hci2 : ¬ c = i := by omega
      have hi2 : (i : Int) < l.length := by omega
      have hi3 : (0 : Int) ≤ i := by omega
      have hi4 : (i : Int) ≤ l.length := by omega
      obtain ⟨y, hy⟩ : ∃ y, l[k] = y := ⟨_, rfl⟩
      have HY := Lib.hid hy
      clear hy
      have HXI := Lib.hid (show (strs l)[i]? = some (.string ⟨x.toArray⟩) by rw [← HX.out]; simp [strs, hii])
      have HYK := Lib.hid (show (strs l)[k]? = some (.string ⟨y.toArray⟩) by rw [← HY.out]; simp [strs, hkk])
      have hk2 : (k : Int) < l.length := by omega
      have hk3 : (0 : Int) ≤ k := by omega
      go_wp2_with (first
        | (at_builtin; refine wpList_pushS (by rfl) (.tmp 62) (.tmp 65) 22 (by rfl) wq.heap.size 9 (.string ⟨#[]⟩) 16 Tryd.underlying22 Tryd.info_str (by rfl) A7 c7 (i + 1) ((l.length + 1)) (strs (l.take i ++ [x])) ?hx (by rfl) ?ho ⟨b, off + i, none⟩ (l.length - i) (c - i) ((strs l).drop i) (by rfl) ?hl ?hu ?h1 ?hn2 ?hn ?hb ?_; (case ho => exact OM.out); (case hx => (rw [strs_length, List.length_append, List.length_take]; simp; omega)); (case hl => (rw [List.length_drop, HSL.out])); (case hu => (intro j u hu; rw [add_at, Nat.add_assoc]; exact HC.out _ bM _ u (by rw [List.getElem?_drop] at hu; exact hu))); (case h1 => (exact fun u hu => strs_one l u (List.mem_of_mem_drop hu))); (case hn2 => omega); (case hn => omega); (case hb => exact BM.out.size); intro A8 c8 w8 o8 k8 g8; have B8 := Lib.hid (k8.out _ BM.out); have b8 := Lib.hid (bW.out.trans (B8.out.mono bW.out.size)); replace o8 := Lib.hid (show OwnS w8 wq.heap.size 9 A8 c8 (strs (l.take i ++ [x] ++ l.drop i)) by have h := o8.out; rw [show strs (l.take i ++ [x]) ++ (strs l).drop i = strs (l.take i ++ [x] ++ l.drop i) by simp [strs]] at h; exact h); have BE := Lib.hid ((Below.refl w8.heap.size w8).alloc (Nat.le_refl _) (.cells #[] 9)); have bE := Lib.hid (b8.out.trans (BE.out.mono b8.out.size)); have OE := Lib.hid (own_empty (B := w8.heap.size) (show Blk (w8.alloc (.cells #[] 9)) w8.heap.size 9 #[] from Blk.new _ _ _) (Nat.le_refl _)); clear k8 g8 OM BM bM)
        | (at_builtin; refine wpList_pushS (by rfl) (.tmp 67) (.tmp 68) 22 (by rfl) w8.heap.size 9 (.string ⟨#[]⟩) 16 Tryd.underlying22 Tryd.info_str (by rfl) (some ⟨w8.heap.size, 0, none⟩) 0 0 (l.length) ([]) ?hx (by rfl) ?ho ⟨b, off, none⟩ l.length c (strs l) (by rfl) ?hl ?hu ?h1 ?hn2 ?hn ?hb ?_; (case ho => exact OE.out); (case hx => rfl); (case hl => exact HSL.out); (case hu => (intro j u hu; rw [add_at]; exact HC.out _ bE j u hu)); (case h1 => (exact fun u hu => strs_one l u hu)); (case hn2 => omega); (case hn => omega); (case hb => exact BE.out.size); intro A9 c9 w9 o9 k9 g9; have B9 := Lib.hid (k9.out _ BE.out); have b9 := Lib.hid (b8.out.trans (B9.out.mono b8.out.size)); rw [List.nil_append] at o9; obtain ⟨g, hA9, hgB, hgl, _⟩ := o9.out.form (by rw [HSL.out]; omega); subst hA9; have ck := HC.out _ b9 k _ HYK.out; have ci := HC.out _ b9 i _ HXI.out; have dgi := own_at o9.out HXI.out; have dgk := own_at o9.out HYK.out; obtain ⟨z, dgz⟩ : ∃ z, (w9.setCell ⟨g, i, none⟩ (.string ⟨y.toArray⟩)).cell? ⟨g, k, none⟩ = some z := (own_some (own_set o9.out i (.string ⟨y.toArray⟩)) (by rw [List.length_set, HSL.out]; exact hkk)); have zgi := own_fr o9.out i; have zgk := own_fr o9.out k; have hgb : ¬ b = g := (by have h1 := hbhi; have h2 := b8.out.size; omega); have hgb2 : ¬ g = b := (by have h1 := hbhi; have h2 := b8.out.size; omega); have HGB := Lib.hid hgB; clear k9 g9 BE bE OE hgl hgB))
      have HOS := Lib.hid (own_set (own_set o9.out i (.string ⟨y.toArray⟩)) k (.string ⟨x.toArray⟩))
      have Bz := Lib.hid ((B9.out.setCell (p := ⟨g, i, none⟩) HGB.out (.string ⟨y.toArray⟩)).setCell (p := ⟨g, k, none⟩) HGB.out (.string ⟨x.toArray⟩))
      have Bzq := Lib.hid (B8.out.trans (Bz.out.mono B8.out.size))
      have bz := Lib.hid (b8.out.trans (Bz.out.mono b8.out.size))
      replace HOS := Lib.hid (show OwnS ((w9.setCell ⟨g, i, none⟩ (.string ⟨y.toArray⟩)).setCell ⟨g, k, none⟩ (.string ⟨x.toArray⟩)) w8.heap.size 9 (some ⟨g, 0, none⟩) c9 (strs ((l.set i l[k]).set k l[i])) by rw [HX.out, HY.out]; have h := HOS.out; rw [← strs_set, ← strs_set] at h; exact h)
      have OLz := Lib.hid (OL.out.later Bzq.out)
      have OMz := Lib.hid (o8.out.later Bz.out)
      clear Bz Bzq
      revert HOS bz OLz OMz
      generalize (w9.setCell ⟨g, i, none⟩ (.string ⟨y.toArray⟩)).setCell ⟨g, k, none⟩ (.string ⟨x.toArray⟩) = wz
      intro bz HOS OLz OMz
      have C1 := Lib.hid (ids_any A5 c5 (l.length - 1) wz.heap.size (l.take i ++ l.drop (i + 1)) wz OLz.out.row (Nat.le_refl _) (by rw [List.length_append, List.length_take, List.length_drop]; omega) (fun z hz => hb z (by rcases List.mem_append.1 hz with h | h; exact List.mem_of_mem_take h; exact List.mem_of_mem_drop h)) (by rw [List.length_append, List.length_take, List.length_drop]; omega))
      rw [ids_less hids] at C1
      refine C1.out.mono ?_; rintro e v1 ⟨rfl, d1⟩
      have OM1 := Lib.hid (OMz.out.later d1)
      have OO1 := Lib.hid (HOS.out.later d1)
      replace d1 := Lib.hid (bz.out.trans (d1.mono bz.out.size))
      have C2 := Lib.hid (ids_any A8 c8 (l.length + 1) v1.heap.size (l.take i ++ [x] ++ l.drop i) v1 OM1.out.row (Nat.le_refl _) (by simp only [List.length_append, List.length_take, List.length_drop, List.length_singleton]; omega) (fun z hz => hb z (by rcases List.mem_append.1 hz with h | h; rcases List.mem_append.1 h with h | h; exact List.mem_of_mem_take h; rw [List.mem_singleton.1 h, ← HX.out]; exact List.getElem_mem hii; exact List.mem_of_mem_drop h)) (by simp only [List.length_append, List.length_take, List.length_drop, List.length_singleton]; omega))
      have hmo := ids_more hii
      rw [HX.out] at hmo
      rw [hmo] at C2
      clear hmo
      clear C1
      go_wp2_with fail
      refine C2.out.mono ?_; rintro e v2 ⟨rfl, d2⟩
      have OO2 := Lib.hid (OO1.out.later d2)
      replace d2 := Lib.hid (d1.out.trans (d2.mono d1.out.size))
      have C3 := Lib.hid (ids_any (some ⟨g, 0, none⟩) c9 l.length v2.heap.size ((l.set i l[k]).set k l[i]) v2 OO2.out.row (Nat.le_refl _) (by rw [List.length_set, List.length_set]) (fun z hz => hb z (by rcases List.mem_or_eq_of_mem_set hz with h | h; rcases List.mem_or_eq_of_mem_set h with h | h; exact h; rw [h]; exact List.getElem_mem hkk; rw [h]; exact List.getElem_mem hii)) (by rw [List.length_set, List.length_set]; omega))
      rw [ids_other hids hii hkk] at C3
      clear C2
      go_wp2_with fail
      refine C3.out.mono ?_; rintro e v3 ⟨rfl, d3⟩
      replace d3 := Lib.hid (d2.out.trans (d3.mono d2.out.size))
      clear C3
      have hik : ((i : Int) == (k : Int)) = decide (i = k) := by rw [Bool.eq_iff_iff, beq_iff_eq, decide_eq_true_eq]; omega
      go_wp2_with fail
      go_ret
      exact ⟨rfl, d3.out⟩
theorem right_len {x : List UInt8} (h : rightS x = true) : x.length = 16 := by
  unfold rightS at h
  rw [Bool.and_eq_true, decide_eq_true_eq] at h
  exact h.1
set_option maxRecDepth 100000 in
set_option maxHeartbeats 4000000 in
theorem parts_any (A : Option Addr) (c : Nat) (l : List (List UInt8)) (i k : Int) (w : World) (hL : LdI w) (hrow : Row w w.heap.size A (strs l)) (hlc : l.length ≤ c) :
    Calls Tryd.prog 6 #[.slice A l.length c, .int .i64 i, .int .i64 k] w fun e w' => e = .returned (.bool true) ∧ Below w.heap.size w w' := by
  have HSm := Lib.hid (small_any w hL)
  have HR := Lib.hid hrow
  by_cases h100 : (100 : Int) < l.length
  · clear hL hrow
    go_enter Tryd.func6, Tryd.ntmps6
    go_wp2_with fail
    refine HSm.out.mono ?_; rintro e w1 ⟨rfl, b1⟩
    go_wp2_with fail
    go_ret
    exact ⟨rfl, b1⟩
  · have HI := Lib.hid (fun w1 (hr : Row w1 w.heap.size A (strs l)) (hh : w.heap.size ≤ w1.heap.size) => ids_all A c l.length w.heap.size l w1 hr hh rfl (by omega))
    cases hids : idsS l with
    | false =>
      rw [hids] at HI
      clear hL hrow hids
      go_enter Tryd.func6, Tryd.ntmps6
      go_wp2_with fail
      refine HSm.out.mono ?_; rintro e w1 ⟨rfl, b1⟩
      have R1 := Lib.hid (HR.out.below b1 (Nat.le_refl _))
      replace b1 := Lib.hid b1
      go_wp2_with fail
      refine (HI.out _ R1.out b1.out.size).mono ?_; rintro e w2 ⟨rfl, b2⟩
      replace b1 := Lib.hid (b1.out.trans (b2.mono b1.out.size))
      go_wp2_with fail
      go_ret
      exact ⟨rfl, b1.out⟩
    | true =>
      by_cases hi0 : i < 0
      · rw [hids] at HI
        clear hL hrow hids
        go_enter Tryd.func6, Tryd.ntmps6
        go_wp2_with fail
        refine HSm.out.mono ?_; rintro e w1 ⟨rfl, b1⟩
        have R1 := Lib.hid (HR.out.below b1 (Nat.le_refl _))
        replace b1 := Lib.hid b1
        go_wp2_with fail
        refine (HI.out _ R1.out b1.out.size).mono ?_; rintro e w2 ⟨rfl, b2⟩
        replace b1 := Lib.hid (b1.out.trans (b2.mono b1.out.size))
        go_wp2_with fail
        go_ret
        exact ⟨rfl, b1.out⟩
      · by_cases hi1 : (l.length : Int) ≤ i
        · rw [hids] at HI
          clear hL hrow hids
          go_enter Tryd.func6, Tryd.ntmps6
          go_wp2_with fail
          refine HSm.out.mono ?_; rintro e w1 ⟨rfl, b1⟩
          have R1 := Lib.hid (HR.out.below b1 (Nat.le_refl _))
          replace b1 := Lib.hid b1
          go_wp2_with fail
          refine (HI.out _ R1.out b1.out.size).mono ?_; rintro e w2 ⟨rfl, b2⟩
          replace b1 := Lib.hid (b1.out.trans (b2.mono b1.out.size))
          go_wp2_with fail
          go_ret
          exact ⟨rfl, b1.out⟩
        · by_cases hk0 : k < 0
          · rw [hids] at HI
            clear hL hrow hids
            go_enter Tryd.func6, Tryd.ntmps6
            go_wp2_with fail
            refine HSm.out.mono ?_; rintro e w1 ⟨rfl, b1⟩
            have R1 := Lib.hid (HR.out.below b1 (Nat.le_refl _))
            replace b1 := Lib.hid b1
            go_wp2_with fail
            refine (HI.out _ R1.out b1.out.size).mono ?_; rintro e w2 ⟨rfl, b2⟩
            replace b1 := Lib.hid (b1.out.trans (b2.mono b1.out.size))
            go_wp2_with fail
            go_ret
            exact ⟨rfl, b1.out⟩
          · by_cases hk1 : (l.length : Int) ≤ k
            · rw [hids] at HI
              clear hL hrow hids
              go_enter Tryd.func6, Tryd.ntmps6
              go_wp2_with fail
              refine HSm.out.mono ?_; rintro e w1 ⟨rfl, b1⟩
              have R1 := Lib.hid (HR.out.below b1 (Nat.le_refl _))
              replace b1 := Lib.hid b1
              go_wp2_with fail
              refine (HI.out _ R1.out b1.out.size).mono ?_; rintro e w2 ⟨rfl, b2⟩
              replace b1 := Lib.hid (b1.out.trans (b2.mono b1.out.size))
              go_wp2_with fail
              go_ret
              exact ⟨rfl, b1.out⟩
            · have hi := (ids_iff l).1 hids
              exact parts_main A c l i k w hL hrow hlc (by omega) (by omega) (by omega) (by omega) hids hi.1 (fun x hx => by have := right_len (hi.2.1 x hx); omega)
section
variable {H : Type} {enc : TypeId × Value → H} {P : Program} {W : World} {r : Reach} {base : Nat} {t e : TypeId} {v : Value} {d : DataW H} {p : List MemPlace}
open Go.ChangeShapes Go.WideShapes Go.ChangeAt
/-- An argument that is a slice of strings: its row, and its room. -/
theorem arg_strsC (ht : P.underlying t = some (.slice e)) (he : P.underlying e = some .string) (hc : P.cellsOf e = 1) (hv : Value.okWide P W r base t v)
    (h : DataW.Trod enc P W 0 (fun _ => true) true t v d p) : ∃ A c, ∃ l : List (List UInt8), v = .slice A l.length c ∧ Row W W.heap.size A (l.map fun x => .string ⟨x.toArray⟩) ∧ l.length ≤ c := by
  obtain ⟨a, len, cap, rfl⟩ := okWide_slice ht hv
  obtain ⟨fuel, hf⟩ := h
  rcases open_strings ht he hc hf with ⟨hcs, _⟩ | ⟨x, l, c, ss, hcs, _, hl, hm, hz, _, hcell, hws⟩
  · simp [Value.cells] at hcs
    obtain ⟨rfl, rfl, rfl⟩ := hcs
    exact ⟨none, 0, [], rfl, Row.nil _ _ _, by simp⟩
  · simp [Value.cells] at hcs
    obtain ⟨rfl, rfl, rfl⟩ := hcs
    simp at hz
    refine ⟨_, _, (ss.take len).map fun s => s.data.toList, by rw [List.length_map, List.length_take, Nat.min_eq_left (by omega)], row_of_cells fun i hi => ?_, by rw [List.length_map, List.length_take]; omega⟩
    simp at hi
    rw [hcell i (by omega)]
    simp [List.getElem?_eq_getElem (show i < ss.length by omega)]
end
end Go.Proofs.YtllmgogcemannaaDoor
