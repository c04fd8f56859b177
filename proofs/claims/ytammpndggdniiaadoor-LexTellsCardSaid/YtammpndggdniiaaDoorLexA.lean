/- Package lex: the table of the bytes' classes. -/
import Derived.Test.YtammpndggdniiaaDoorMem
import Derived.Laws.Rows
import Derived.Laws.Tables
namespace Go.Proofs.YtammpndggdniiaaDoor
open Go.RowKit

def rowsT : List (List UInt8 × Nat) := [([9, 10, 13, 32], 1), ([97, 98, 99, 100, 101, 102, 103, 104, 105, 106, 107, 108, 109, 110, 111, 112, 113, 114, 115, 116, 117, 118, 119, 120, 121, 122], 2), ([48, 49, 50, 51, 52, 53, 54, 55, 56, 57], 3), ([34], 4), ([40, 41, 44, 58, 61, 33, 60, 62, 43, 45, 42, 47, 37], 5)]
def rowsC : Array Value := #[.string ⟨#[9, 10, 13, 32]⟩, .int .u8 1, .string ⟨#[97, 98, 99, 100, 101, 102, 103, 104, 105, 106, 107, 108, 109, 110, 111, 112, 113, 114, 115, 116, 117, 118, 119, 120, 121, 122]⟩, .int .u8 2, .string ⟨#[48, 49, 50, 51, 52, 53, 54, 55, 56, 57]⟩, .int .u8 3, .string ⟨#[34]⟩, .int .u8 4, .string ⟨#[40, 41, 44, 58, 61, 33, 60, 62, 43, 45, 42, 47, 37]⟩, .int .u8 5]
theorem rows_at {w : World} {g : Nat} {t : TypeId} (h : Blk w g t rowsC) {k : Nat} (hk : k < 5) : ∃ (l : List UInt8) (c : Nat), rowsT[k]? = some (l, c) ∧ l.length ≤ 26 ∧ c ≤ 5 ∧
    w.cell? ⟨g, 0 + k * 2, none⟩ = some (.string ⟨l.toArray⟩) ∧ w.cell? ⟨g, 0 + k * 2 + 1, none⟩ = some (.int .u8 c) := by
  rw [h.cell, h.cell]
  obtain rfl | rfl | rfl | rfl | rfl : k = 0 ∨ k = 1 ∨ k = 2 ∨ k = 3 ∨ k = 4 := by omega
  all_goals exact ⟨_, _, rfl, by decide, by decide, rfl, rfl⟩
def putT (cs : Array Value) (l : List UInt8) (c : Nat) : Array Value := l.foldl (fun cs b => cs.setIfInBounds b.toNat (.int .u8 c)) cs
theorem putT_size (l : List UInt8) (c : Nat) : ∀ cs, (putT cs l c).size = cs.size := by
  unfold putT
  induction l with
  | nil => intro _; rfl
  | cons b l ih => intro cs; rw [List.foldl_cons, ih]; simp
theorem putT_take {l : List UInt8} {i c : Nat} (cs : Array Value) (h : i < l.length) : putT cs (l.take (i + 1)) c = (putT cs (l.take i) c).setIfInBounds l[i].toNat (.int .u8 c) := by
  unfold putT; rw [List.take_succ_eq_append_getElem h, List.foldl_append]; rfl
theorem zero38_size : Tryd.zeroCells38.size = 256 := by kernel_rfl
noncomputable def tabK (k : Nat) : Array Value := (rowsT.take k).foldl (fun cs r => putT cs r.1 r.2) Tryd.zeroCells38
theorem tabK_size (k : Nat) : (tabK k).size = 256 := by
  unfold tabK
  suffices h : ∀ (l : List (List UInt8 × Nat)) (cs : Array Value), (l.foldl (fun cs r => putT cs r.1 r.2) cs).size = cs.size by
    rw [h]; exact zero38_size
  intro l
  induction l with
  | nil => intro _; rfl
  | cons r l ih => intro cs; rw [List.foldl_cons, ih, putT_size]
theorem tabK_succ {k : Nat} {l : List UInt8} {c : Nat} (h : rowsT[k]? = some (l, c)) : tabK (k + 1) = putT (tabK k) l c := by
  obtain ⟨hk, e⟩ := List.getElem?_eq_some_iff.1 h
  unfold tabK; rw [List.take_succ_eq_append_getElem hk, List.foldl_append, e]; rfl

theorem classes_size : (Tryd.prog.info? 38).map (·.size) = some 256 := by kernel_rfl
theorem putT_one {l : List UInt8} {c : Nat} : ∀ {cs : Array Value}, cs.all (·.oneCell') = true → (putT cs l c).all (·.oneCell') = true := by
  unfold putT
  induction l with
  | nil => intro _ h; exact h
  | cons b l ih =>
    intro cs h
    rw [List.foldl_cons]
    refine ih ?_
    rw [Array.all_eq_true] at h ⊢
    intro i hi
    rw [Array.getElem_setIfInBounds]
    split
    · rfl
    · exact h i (by simpa using hi)
theorem tabK_one {k : Nat} : (tabK k).all (·.oneCell') = true := by
  unfold tabK
  suffices h : ∀ (l : List (List UInt8 × Nat)) (cs : Array Value), cs.all (·.oneCell') = true → (l.foldl (fun cs r => putT cs r.1 r.2) cs).all (·.oneCell') = true from h _ _ (by kernel_rfl)
  intro l
  induction l with
  | nil => intro _ h; exact h
  | cons r l ih => intro cs h; rw [List.foldl_cons]; exact ih _ (putT_one h)

set_option maxRecDepth 100000 in
set_option maxHeartbeats 1000000 in
theorem table_any (w : World) :
    Calls Tryd.prog 18 #[] w fun e w' => e = .returned (.agg (tabK 5)) ∧ Below w.heap.size w w' := by
  go_enter Tryd.func18, Tryd.ntmps18
  go_wp2_with fail
  go_loopw [12] (fun i wr => ∃ (k : Nat), i = .int .i64 k ∧ k ≤ 5 ∧ Hid (Blk wr w.heap.size 38 Tryd.zeroCells38) ∧ Hid (Blk wr (w.heap.size + 1) 38 (tabK k)) ∧ Hid (Blk wr (w.heap.size + 1 + 1) 49 rowsC) ∧ Hid (Below w.heap.size w wr)) (fun i _ => 5 - (intOf i).toNat)
  case atStart =>
    refine ⟨0, rfl, by omega, Lib.hid ?_, Lib.hid ?_, Lib.hid ?_, Lib.hid ?_⟩
    · exact ((Blk.new w _ _).alloc _).alloc _
    · have h := (Blk.new (w.alloc (.cells Tryd.zeroCells38 38)) 38 Tryd.zeroCells38).alloc (.cells rowsC 49)
      simp only [World.size_alloc] at h
      exact h
    · have h := (Blk.new ((w.alloc (.cells Tryd.zeroCells38 38)).alloc (.cells Tryd.zeroCells38 38)) 49 rowsC)
      simp only [World.size_alloc] at h
      exact h
    · exact (((Below.refl _ _).alloc (Nat.le_refl _) _).alloc (by simp) _).alloc (by simp; omega) _
  case round =>
    obtain ⟨k, rfl, hk, HZ, HT, HR, hB⟩ := hrel
    revert wr; intro wo HZ HT HR hB
    by_cases hlt : k < 5
    · obtain ⟨l, c, hrow, hl, hc, c0, c1⟩ := rows_at HR.out hlt
      have c1' : wo.cell? ⟨w.heap.size + 1 + 1, 0 + (k * 2 + 1), none⟩ = some (.int .u8 c) := by rw [← Nat.add_assoc]; exact c1
      have c2 : wo.cell? ⟨w.heap.size + 1 + 1, k * 2, none⟩ = some (.string ⟨l.toArray⟩) := by rw [← c0, Nat.zero_add]
      have c3 : wo.cell? ⟨w.heap.size + 1 + 1, k * 2 + 1, none⟩ = some (.int .u8 c) := by rw [← c1, Nat.zero_add]
      have HROW := Lib.hid hrow
      clear hrow
      have hi0 : 0 ≤ (k : Int) := by omega
      have hi1 : (k : Int) < 5 := by omega
      go_wp2_with fail
      go_loopw [19] (fun i wi => ∃ (j : Nat), i = .int .i64 j ∧ j ≤ l.length ∧ Hid (Blk wi w.heap.size 38 Tryd.zeroCells38) ∧ Hid (Blk wi (w.heap.size + 1) 38 (putT (tabK k) (l.take j) c)) ∧ Hid (Blk wi (w.heap.size + 1 + 1) 49 rowsC) ∧ Hid (Below w.heap.size w wi) ∧ Hid (w.heap.size + 1 + 1 < wo.heap.size) ∧ Hid (Blk wi wo.heap.size 49 #[.string ⟨l.toArray⟩, .int .u8 c])) (fun i _ => l.length - (intOf i).toNat)
      case atStart =>
        refine ⟨0, rfl, by omega, Lib.hid (HZ.out.alloc _), Lib.hid (HT.out.alloc _), Lib.hid (HR.out.alloc _), Lib.hid (hB.out.alloc hB.out.size _), Lib.hid HR.out.lt, Lib.hid (Blk.new _ _ _)⟩
      case round =>
        obtain ⟨j, rfl, hj, HZ1, HT1, HR1, hB1, hG, HX⟩ := hrel
        have x0 : wr.cell? ⟨wo.heap.size, 0, none⟩ = some (.string ⟨l.toArray⟩) := HX.out.cell 0
        have x1 : wr.cell? ⟨wo.heap.size, 1, none⟩ = some (.int .u8 c) := HX.out.cell 1
        by_cases hjl : j < l.length
        · have hj0 : 0 ≤ (j : Int) := by omega
          have hj1 : (j : Int) < l.length := by omega
          have hjs : j < (⟨l.toArray⟩ : ByteArray).size := by show j < l.toArray.size; simpa using hjl
          have hb0 : 0 ≤ (((⟨l.toArray⟩ : ByteArray)[j].toNat : Nat) : Int) := by omega
          have hbn : (((⟨l.toArray⟩ : ByteArray)[j].toNat : Nat) : Int) < 256 := by have := (⟨l.toArray⟩ : ByteArray)[j].toNat_lt; omega
          obtain ⟨v, xv⟩ : ∃ v, wr.cell? ⟨w.heap.size + 1, (⟨l.toArray⟩ : ByteArray)[j].toNat, none⟩ = some v := by
            have hz : (putT (tabK k) (l.take j) c).size = 256 := by rw [putT_size, tabK_size]
            exact ⟨_, (HT1.out.cell _).trans (Array.getElem?_eq_getElem (by omega))⟩
          have xf := HT1.out.frozen ((⟨l.toArray⟩ : ByteArray)[j].toNat)
          go_wp2_with fail
          go_region
          go_wp2_with fail
          go_roundw
          case rel =>
            refine ⟨j + 1, by go_num, by omega, Lib.hid ?_, Lib.hid ?_, Lib.hid ?_, Lib.hid ?_, hG, Lib.hid ?_⟩
            · exact HZ1.out.far (p := ⟨w.heap.size + 1, (⟨l.toArray⟩ : ByteArray)[j].toNat, none⟩) (by show w.heap.size ≠ w.heap.size + 1; omega) _
            · rw [putT_take _ hjl]; exact HT1.out.set_ _ _
            · exact HR1.out.far (p := ⟨w.heap.size + 1, (⟨l.toArray⟩ : ByteArray)[j].toNat, none⟩) (by show w.heap.size + 1 + 1 ≠ w.heap.size + 1; omega) _
            · have h := hB1.out.setCell (p := ⟨w.heap.size + 1, (⟨l.toArray⟩ : ByteArray)[j].toNat, none⟩) (by show w.heap.size ≤ w.heap.size + 1; omega) (.int .u8 c)
              exact ⟨h.os, h.tape, h.output, h.size, h.block⟩
            · exact HX.out.far (p := ⟨w.heap.size + 1, (⟨l.toArray⟩ : ByteArray)[j].toNat, none⟩) (by have := hG.out; show wo.heap.size ≠ w.heap.size + 1; omega) _
          case measure => simp [intOf]; omega
        · have hjl' : j = l.length := by omega
          go_wp2_with fail
          go_roundw
          case rel =>
            refine ⟨k + 1, by go_num, by omega, HZ1, Lib.hid ?_, HR1, hB1⟩
            have h := HT1.out
            rw [hjl', List.take_length] at h
            rw [tabK_succ HROW.out]; exact h
          case measure => simp [intOf]; omega
    · obtain rfl : k = 5 := by omega
      have HI := Lib.hid (show (Tryd.prog.info? 38).map (·.size) = some (tabK 5).size by rw [tabK_size]; exact classes_size)
      have H1 := Lib.hid (tabK_one (k := 5))
      go_wp2_with (first
        | (refine wpList_load_row rfl 38 _ rfl (w.heap.size + 1) rfl 38 (tabK 5) (0, 0) _ HT.out Tryd.underlying38 rfl HI.out ?_)
        | (refine wpList_store_row rfl 38 _ _ rfl w.heap.size (tabK 5) rfl rfl 38 _ HZ.out HI.out ?_ H1.out ?_))
      · rw [tabK_size]; exact zero38_size
      have HS : (wo.setRow w.heap.size (tabK 5)).heap[w.heap.size]? = some (.cells (tabK 5) 38 (0, 0)) := setRow_heap wo w.heap.size _ _ _ _ HZ.out
      refine bodyPost_ret (results_cell_row rfl _ _ w.heap.size 38 (tabK 5) (0, 0) _ rfl HS Tryd.underlying38 rfl HI.out) rfl ⟨rfl, ?_⟩
      have hb := hB.out
      exact ⟨hb.os, hb.tape, hb.output, by have := hb.size; simp only [World.setRow]; rw [Array.size_modify]; omega, fun i hi => (setRow_other wo w.heap.size i _ (by omega)).trans (hb.block i hi)⟩

/-- The class of a byte. -/
def cls (b : Nat) : Nat :=
  if b = 9 ∨ b = 10 ∨ b = 13 ∨ b = 32 then 1 else if 97 ≤ b ∧ b ≤ 122 then 2 else if 48 ≤ b ∧ b ≤ 57 then 3 else if b = 34 then 4
  else if b = 40 ∨ b = 41 ∨ b = 44 ∨ b = 58 ∨ b = 61 ∨ b = 33 ∨ b = 60 ∨ b = 62 ∨ b = 43 ∨ b = 45 ∨ b = 42 ∨ b = 47 ∨ b = 37 then 5 else 0
set_option maxRecDepth 100000 in
theorem tab_is : tabK 5 = ((List.range 256).map fun j => Value.int .u8 (cls j)).toArray := by kernel_rfl
theorem tab_at {j : Nat} (h : j < 256) : (tabK 5)[j]? = some (.int .u8 (cls j)) := by
  rw [tab_is]; simp [h]
end Go.Proofs.YtammpndggdniiaaDoor
