/- Package sum: Hex. -/
import Derived.Test.YtllmgogcemannaaGreatDoorIdA
import Derived.Test.YtllmgogcemannaaGreatDoorCode1
import Derived.Deep.RegionHeld3
import Derived.Deep.AppendLies
namespace Go.Proofs.YtllmgogcemannaaGreatDoor
open Go.RowKit

/-- 'append(s, x..)' of some elements of one cell each. -/
theorem wpList_pushM {P : Program} {w : World} {ops : Array Oper} {rest : List Oper} {o : Oper} {a : Act} {Q : Exit → Act → World → Prop} (hgd : o.guard = none) (s x : Operand) (t : TypeId)
    (ho : o.op = .call { callee := .builtin .append, args := #[s, x], argTypes := #[t, t] })
    (B : Nat) (e : TypeId) (z : Value) (bytes : Nat) (ht : P.underlying t = some (.slice e)) (hinfo : (P.info? e).map (fun i => (i.zero, i.size, i.bytes)) = some (some z, 1, bytes)) (hzs : z.cells.size = 1)
    (A : Option Addr) (c : Nat) (xs : List Value) (hs : a.eval s = .slice A xs.length c) (hown : OwnS w B e A c xs)
    (g m : Nat) (us : List Value) (hx : a.eval x = .slice (some ⟨g, 0, none⟩) m m) (hl : us.length = m) (hm : 0 < m) (hu : ∀ (j : Nat) u, us[j]? = some u → w.cell? ⟨g, j, none⟩ = some u) (h1 : ∀ u ∈ us, u.oneCell' = true)
    (hn : (xs.length + m) * (bytes + 1) ≤ 140737488355328) (hbase : B ≤ w.heap.size)
    (h : ∀ g' c' w', OwnS w' B e (some ⟨g', 0, none⟩) c' (xs ++ us) → Below B w w' → w.grownBy w' (A.map (·.block)) → (some g' = A.map (·.block) ∨ g' = w.heap.size) → B ≤ g' ∧ g' < w'.heap.size →
      wpList P ops Q rest (a.put o.dst (.slice (some ⟨g', 0, none⟩) (xs.length + m) c')) w') :
    wpList P ops Q (o :: rest) a w := by
  obtain ⟨i, hi, hz0, hz1, hz2⟩ := info_parts hinfo
  have hx0 : (xs.length + m) ≤ 140737488355328 := by
    have : xs.length + m ≤ (xs.length + m) * (bytes + 1) := Nat.le_mul_of_pos_right _ (by omega)
    omega
  have hx1 : (xs.length + m) * bytes ≤ 140737488355328 := by
    have : (xs.length + m) * bytes ≤ (xs.length + m) * (bytes + 1) := Nat.mul_le_mul_left _ (by omega)
    omega
  refine wpList_append_own_at w hgd s x t ho B e i z 1 bytes ht hi hz0 hz1 hz2 hzs (by omega) _ _ _ hs hown ⟨g, 0, none⟩ m m us hx (by omega) ?_ h1 (by unfold maxLen; omega) hx1 hbase ?_
  · intro j u' hj
    rw [add0]; exact hu j u' hj
  · intro v' w' ho' hg hnil hat
    have hob : (Value.slice A xs.length c).ownBlock = A.map (·.block) := by cases A <;> rfl
    rw [hob] at hg hat
    rcases ho'.2 with ⟨_, hn0⟩ | ⟨g', cap, cur, rfl, hb, hgg, r⟩
    · omega
    · refine h g' cap w' ?_ ?_ hg ?_ ⟨hb, (Array.getElem?_eq_some_iff.1 hgg).1⟩
      · have : (xs ++ us).length = xs.length + m := by rw [List.length_append, hl]
        unfold OwnS; rw [this]; exact ho'
      · refine ⟨hg.os, hg.tape, hg.output, hg.size, fun k hk => hg.block k (Nat.lt_of_lt_of_le hk hbase) ?_⟩
        intro hk'
        have := World.ownsRow.lt hown k (by rw [hob]; exact hk'.symm)
        omega
      · simpa [Value.ownBlock] using hat

/-- The two digits of a byte. -/
def hex2 (c : UInt8) : List UInt8 := [hexS.getD (c.toNat / 16) 0, hexS.getD (c.toNat % 16) 0]
def hexF (s : List UInt8) : List UInt8 := s.flatMap hex2
theorem hexF_take {s : List UInt8} {k : Nat} (h : k < s.length) : hexF (s.take (k + 1)) = hexF (s.take k) ++ hex2 s[k] := by
  rw [List.take_succ_eq_append_getElem h, hexF, List.flatMap_append, List.flatMap_singleton]; rfl
theorem hexF_len (s : List UInt8) : (hexF s).length = 2 * s.length := by
  induction s with
  | nil => rfl
  | cons c s ih => simp only [hexF, List.flatMap_cons, List.length_append, List.length_cons] at ih ⊢; rw [ih]; simp [hex2]; omega
def hexA : ByteArray := ⟨#[48, 49, 50, 51, 52, 53, 54, 55, 56, 57, 97, 98, 99, 100, 101, 102]⟩
theorem hexAt (i n : Nat) (h : i < 16) (e : i = n) : (⟨#[48, 49, 50, 51, 52, 53, 54, 55, 56, 57, 97, 98, 99, 100, 101, 102]⟩ : ByteArray)[i]'h = hexS.getD n 0 := by
  subst e
  have key : ∀ n : Fin 16, (⟨#[48, 49, 50, 51, 52, 53, 54, 55, 56, 57, 97, 98, 99, 100, 101, 102]⟩ : ByteArray)[n.1]'n.2 = hexS.getD n.1 0 := by decide
  exact key ⟨i, h⟩
theorem own_below {w w' : World} {B : Nat} {e : TypeId} {A : Option Addr} {c : Nat} {xs : List Value} (h : OwnS w B e A c xs) (hg : w.grownBy w' (Value.slice A xs.length c).ownBlock) (hb : B ≤ w.heap.size) : Below B w w' := by
  refine ⟨hg.os, hg.tape, hg.output, hg.size, fun k hk => hg.block k (Nat.lt_of_lt_of_le hk hb) ?_⟩
  intro hk'
  have := World.ownsRow.lt h k hk'.symm
  omega
theorem hex_news (x : UInt8) (i j : Nat) (hi : i < 16) (hj : j < 16) (ei : i = x.toNat / 16) (ej : j = x.toNat % 16) :
    u8s (hex2 x) = (#[Value.int .u8 (((⟨#[48, 49, 50, 51, 52, 53, 54, 55, 56, 57, 97, 98, 99, 100, 101, 102]⟩ : ByteArray)[i]'hi).toNat : Nat), Value.int .u8 (((⟨#[48, 49, 50, 51, 52, 53, 54, 55, 56, 57, 97, 98, 99, 100, 101, 102]⟩ : ByteArray)[j]'hj).toNat : Nat)] : Array Value).toList := by
  rw [hexAt i _ hi ei, hexAt j _ hj ej]; rfl
theorem and15 (x : UInt8) : bits .and .u8 ((x.toNat : Nat) : Int) 15 = ((x.toNat % 16 : Nat) : Int) := by
  have key : ∀ n : Fin 256, bits .and .u8 (((UInt8.ofNat n).toNat : Nat) : Int) 15 = (((UInt8.ofNat n).toNat % 16 : Nat) : Int) := by decide +kernel
  have := key ⟨x.toNat, x.toNat_lt⟩
  simpa using this
set_option maxRecDepth 100000 in
set_option maxHeartbeats 4000000 in
theorem hex_any (s : List UInt8) (w : World) (hs : s.length ≤ 1000000) :
    Calls Tryz.prog 19 #[.string ⟨s.toArray⟩] w fun e w' => e = .returned (.string ⟨(hexF s).toArray⟩) ∧ Below w.heap.size w w' := by
  have hs1 : (s.length : Int) ≤ 1000000 := by omega
  obtain ⟨i0, hi0, hz0, hz1, hz2⟩ := info_parts Tryz.info_u8
  go_enter Tryz.func19, Tryz.ntmps19
  go_wp2_with fail
  go_loopw [3, 7] (fun o i wr => ∃ (k : Nat) (pre : List UInt8) (A : Option Addr) (c : Nat), o = .slice A (u8s pre).length c ∧ i = .int .i64 k ∧ k ≤ s.length ∧ Hid (pre = hexF (s.take k)) ∧ Hid (OwnS wr w.heap.size 5 A c (u8s pre)) ∧ Hid (Below w.heap.size w wr)) (fun _ i _ => s.length - (intOf i).toNat)
  case atStart => exact ⟨0, [], none, 0, rfl, rfl, by omega, Lib.hid rfl, Lib.hid ⟨by simp [u8s], .inl ⟨rfl, rfl⟩⟩, Lib.hid (Below.refl _ _)⟩
  case round =>
    obtain ⟨k, pre, A, c, rfl, rfl, hk, hP, hO, hB⟩ := hrel
    by_cases hlt : k < s.length
    · have hks : k < (⟨s.toArray⟩ : ByteArray).size := by show k < s.toArray.size; simpa using hlt
      have hk1 : 0 ≤ (k : Int) := by omega
      have hk2 : (k : Int) < s.length := by omega
      go_wp2_with fail
      have hb0 : 0 ≤ (((⟨s.toArray⟩ : ByteArray)[k].toNat : Nat) : Int) := by omega
      have hbm : (((⟨s.toArray⟩ : ByteArray)[k].toNat : Nat) : Int) < 256 := by have := (⟨s.toArray⟩ : ByteArray)[k].toNat_lt; omega
      have ea := and15 (⟨s.toArray⟩ : ByteArray)[k]
      have hm0 : 0 ≤ (((⟨s.toArray⟩ : ByteArray)[k].toNat % 16 : Nat) : Int) := by omega
      have hm1 : (((⟨s.toArray⟩ : ByteArray)[k].toNat % 16 : Nat) : Int) < 16 := by omega
      have hd0 : 0 ≤ (((⟨s.toArray⟩ : ByteArray)[k].toNat : Nat) : Int) / 16 := by omega
      have hd1 : (((⟨s.toArray⟩ : ByteArray)[k].toNat : Nat) : Int) / 16 < 16 := by omega
      generalize hx : (⟨s.toArray⟩ : ByteArray)[k] = x at *
      have hbs := hB.out.size
      have hpl : (u8s pre).length ≤ 2000000 := by rw [u8s_length, hP.out, hexF_len, List.length_take]; omega
      have HX := Lib.hid (show pre ++ hex2 x = hexF (s.take (k + 1)) by rw [hexF_take hlt, hP.out]; exact congrArg (fun c => hexF (s.take k) ++ hex2 c) hx.symm)
      have HO2 : ∀ g' c' w1, World.ownsRow w1 w.heap.size 5 1 (.slice (some ⟨g', 0, none⟩) ((u8s pre).length + 2) c') ((u8s pre).length + 2) (u8s pre ++ u8s (hex2 x)) → OwnS w1 w.heap.size 5 (some ⟨g', 0, none⟩) c' (u8s (pre ++ hex2 x)) := by
        intro g' c' w1 h
        have e : u8s (pre ++ hex2 x) = u8s pre ++ u8s (hex2 x) := by simp [u8s]
        unfold OwnS
        rw [e, List.length_append]; exact h
      have HB2 : ∀ {o : Obj} (w1 : World), (wr.alloc o).drew.grownBy w1 (Value.slice A (u8s pre).length c).ownBlock → Below w.heap.size w w1 := fun {o} w1 h =>
        ((below_drewN (hB.out.alloc hbs o) 1).trans (own_below (((OwnS.alloc hO.out o).drew)) h (by show w.heap.size ≤ (wr.alloc o).heap.size; rw [World.size_alloc]; omega)))
      go_region_held3 (fun _ => True) (trivial) (first | ((refine step_append_lies _ (by rfl) _ _ _ (by rfl) w.heap.size 5 i0 _ 1 1 Tryz.underlying42 hi0 hz0 hz1 hz2 rfl (by omega) (.slice A (u8s pre).length c) (u8s pre).length (u8s pre) (by rfl) ((World.ownsRow.alloc hO.out _).drew) ⟨wr.heap.size, 0, none⟩ 2 2 (u8s (hex2 x)) (by rfl) rfl ?hn ?h1 (by omega) ?h63 ?hby ?hba (wr.heap.size + 1) ?hH ?_); (case hn => (intro j u hu; rw [hex_news x _ _ (by omega) (by omega) rfl rfl] at hu; first | exact World.news_of_block (heap_alloc_new _ _) j u hu | (trace_state; sorry))); (case h1 => (intro u hu; simp [u8s] at hu; obtain ⟨_, _, rfl⟩ := hu; rfl)); (case h63 => (unfold maxLen; omega)); (case hby => omega); (case hba => (simp; omega)); (case hH => simp); intro g' c' w1 hown1 hgrow hat hlt2))
      all_goals
        go_wp2_with fail
        go_roundw
        case rel => exact ⟨k + 1, pre ++ hex2 x, some ⟨g', 0, none⟩, c', by simp [u8s, hex2], by go_num, by omega, HX, Lib.hid (HO2 _ _ _ hown1), Lib.hid (HB2 _ hgrow)⟩
        case measure => simp [intOf]; omega
    · have hke : k = s.length := by omega
      subst hke
      have hPP : pre = hexF s := by have := hP.out; rwa [List.take_length] at this
      have hlk : ¬ (s.length : Int) < s.length := by omega
      have hcv := conv_own (n := (u8s pre).length) (dst := 9) Tryz.underlying42 Tryz.underlying5 Tryz.underlying9 hO.out (by rw [u8s_length])
      rw [hPP] at hcv
      have HP := Lib.hid hPP
      rw [hPP]
      clear hP hPP
      go_wp2_with fail
      go_ret
      exact ⟨rfl, hB.out⟩
end Go.Proofs.YtllmgogcemannaaGreatDoor
