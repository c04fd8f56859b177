/- The laws' values: valid, read. -/
import Derived.Test.YtgojkbaodmiiaaaCodeVal
namespace Go.Proofs.Ytgojkbaodmiiaaa
open Go.RowKit

def rdV (k : Nat) (s : List UInt8) (f : Bool) : Dat × List UInt8 × Bool :=
  if k = 0 then (⟨(rdNum s f).1, [], [], []⟩, (rdNum s f).2) else if k = 1 then (⟨(rdInt s f).1, [], [], []⟩, (rdInt s f).2) else if k = 2 then (⟨0, (rdText s f).1, [], []⟩, (rdText s f).2)
  else if k = 3 then (⟨0, [], (rdMany rdText s f).1, []⟩, (rdMany rdText s f).2) else (⟨0, [], [], (rdMany rdInt s f).1⟩, (rdMany rdInt s f).2)

def ReadsV (k : Nat) (R : Dat × List UInt8 × Bool) (b : Nat) (w : World) (e : Ending) (w' : World) : Prop :=
  ∃ y : Val, e = .returned (.agg y.cells) ∧ y.kind = k ∧ y.dat = R.1 ∧ y.At w' ∧ Rd w' b R.2.1 R.2.2 ∧ w.grownBy w' (some b)

theorem five_cells {w : World} {b : Nat} {t : TypeId} {v0 v1 v2 v3 v4 : Value} (h : Blk w b t #[v0, v1, v2, v3, v4]) : w.cell? ⟨b, 0, none⟩ = some v0 ∧ w.cell? ⟨b, 1, none⟩ = some v1 ∧ w.cell? ⟨b, 2, none⟩ = some v2 ∧
    w.cell? ⟨b, 3, none⟩ = some v3 ∧ w.cell? ⟨b, 4, none⟩ = some v4 := ⟨h.cell 0, h.cell 1, h.cell 2, h.cell 3, h.cell 4⟩
theorem five_frozen {w : World} {b : Nat} {t : TypeId} {v0 v1 v2 v3 v4 : Value} (h : Blk w b t #[v0, v1, v2, v3, v4]) : w.frozen? ⟨b, 0, none⟩ = false ∧ w.frozen? ⟨b, 1, none⟩ = false ∧ w.frozen? ⟨b, 2, none⟩ = false ∧
    w.frozen? ⟨b, 3, none⟩ = false ∧ w.frozen? ⟨b, 4, none⟩ = false := ⟨h.frozen 0, h.frozen 1, h.frozen 2, h.frozen 3, h.frozen 4⟩

theorem OwnS.far {w w' : World} {B e : Nat} {A : Option Addr} {c : Nat} {xs : List Value} (h : OwnS w B e A c xs) (k : ∀ g, B ≤ g → w'.heap[g]? = w.heap[g]?) : OwnS w' B e A c xs := by
  refine ⟨h.1, ?_⟩
  rcases h.2 with h0 | ⟨g, cap, cur, hv, hb, hgg, r⟩
  · exact .inl h0
  · exact .inr ⟨g, cap, cur, hv, hb, by rw [k g hb]; exact hgg, r⟩
theorem set6 (w : World) (p q i : Nat) (u v0 v1 v2 v3 v4 : Value) : ∀ g, g ≠ p → g ≠ q → (((((((w.setCell ⟨q, i, none⟩ u).setCell ⟨p, 0, none⟩ v0).setCell ⟨p, 1, none⟩ v1).setCell ⟨p, 2, none⟩ v2).setCell ⟨p, 3, none⟩ v3).setCell ⟨p, 4, none⟩ v4)).heap[g]? = w.heap[g]? := by
  intro g h1 h2
  simp [World.setCell, Array.getElem?_modify, h1.symm, h2.symm]
theorem set6gr {a w : World} {b p q i : Nat} {u v0 v1 v2 v3 v4 : Value} (h : a.grownBy w (some b)) (hp : a.heap.size ≤ p) (hq : a.heap.size ≤ q) :
    a.grownBy (((((((w.setCell ⟨q, i, none⟩ u).setCell ⟨p, 0, none⟩ v0).setCell ⟨p, 1, none⟩ v1).setCell ⟨p, 2, none⟩ v2).setCell ⟨p, 3, none⟩ v3).setCell ⟨p, 4, none⟩ v4)) (some b) :=
  gr_set (p := ⟨p, 4, none⟩) (gr_set (p := ⟨p, 3, none⟩) (gr_set (p := ⟨p, 2, none⟩) (gr_set (p := ⟨p, 1, none⟩) (gr_set (p := ⟨p, 0, none⟩) (gr_set (p := ⟨q, i, none⟩) h (.inr hq) u) (.inr hp) v0) (.inr hp) v1) (.inr hp) v2) (.inr hp) v3) (.inr hp) v4

set_option maxRecDepth 100000 in
set_option maxHeartbeats 1000000 in
theorem read0 (b : Nat) (s : List UInt8) (f : Bool) (w : World) (h : Rd w b s f) (hs : s.length ≤ 4398046511104) :
    Calls Try.prog 44 #[.pointer (some ⟨b, 0, none⟩), .int .i64 0] w (ReadsV 0 (rdV 0 s f) b w) := by
  have hlt := Blk.lt h
  have H2 := Lib.hid ((h.alloc (.cells #[.int .i64 0, .int .i64 0, .string ⟨#[]⟩, .slice none 0 0, .slice none 0 0] 45)).alloc (.cells #[.int .i64 0, .int .i64 0, .string ⟨#[]⟩, .slice none 0 0, .slice none 0 0] 45))
  have HA := Lib.hid ((Blk.new w 45 #[.int .i64 0, .int .i64 0, .string ⟨#[]⟩, .slice none 0 0, .slice none 0 0]).alloc (.cells #[.int .i64 0, .int .i64 0, .string ⟨#[]⟩, .slice none 0 0, .slice none 0 0] 45))
  have hB := Blk.new (w.alloc (.cells #[.int .i64 0, .int .i64 0, .string ⟨#[]⟩, .slice none 0 0, .slice none 0 0] 45)) 45 #[.int .i64 0, .int .i64 0, .string ⟨#[]⟩, .slice none 0 0, .slice none 0 0]
  rw [World.size_alloc] at hB
  have HB := Lib.hid hB
  clear h hB
  go_enter Try.func44, Try.ntmps44
  go_wp2_with fail
  refine (rdnum_any _ _ _ _ H2.out (by unfold maxLen; omega)).mono ?_; rintro e w1 ⟨rfl, r1, g1⟩
  have hs1 := g1.size
  simp only [World.size_alloc] at hs1
  have A1 := HA.out.grown g1 (by simp; omega)
  have B1 := HB.out.grown g1 (by simp; omega)
  have G1 : w.grownBy w1 (some b) := gr_trans (gr_alloc (gr_alloc (gr_refl w _) _) _) g1
  obtain ⟨c0, c1, c2, c3, c4⟩ := five_cells A1
  obtain ⟨d0, d1, d2, d3, d4⟩ := five_cells B1
  obtain ⟨y0, y1, y2, y3, y4⟩ := five_frozen A1
  obtain ⟨z0, z1, z2, z3, z4⟩ := five_frozen B1
  clear A1 B1 HA HB
  go_wp2_with fail
  refine bodyPost_ret (v := .agg (Val.cells ⟨0, (rdNum s f).1, [], none, 0, [], none, 0, []⟩)) (by simp [results, Try.results44, go_sem, Val.cells, c0, c1, c2, c3, c4]) rfl ⟨⟨0, (rdNum s f).1, [], none, 0, [], none, 0, []⟩, rfl, rfl, rfl, ⟨Row.nil _ _ _, Row.nil _ _ _⟩, (set6 _ _ _ _ _ _ _ _ _ _ b (by omega) (by omega)).trans r1, set6gr G1 (Nat.le_refl _) (by omega)⟩

set_option maxRecDepth 100000 in
set_option maxHeartbeats 1000000 in
theorem read1 (b : Nat) (s : List UInt8) (f : Bool) (w : World) (h : Rd w b s f) (hs : s.length ≤ 4398046511104) :
    Calls Try.prog 44 #[.pointer (some ⟨b, 0, none⟩), .int .i64 1] w (ReadsV 1 (rdV 1 s f) b w) := by
  have hlt := Blk.lt h
  have H2 := Lib.hid ((h.alloc (.cells #[.int .i64 0, .int .i64 0, .string ⟨#[]⟩, .slice none 0 0, .slice none 0 0] 45)).alloc (.cells #[.int .i64 1, .int .i64 0, .string ⟨#[]⟩, .slice none 0 0, .slice none 0 0] 45))
  have HA := Lib.hid ((Blk.new w 45 #[.int .i64 0, .int .i64 0, .string ⟨#[]⟩, .slice none 0 0, .slice none 0 0]).alloc (.cells #[.int .i64 1, .int .i64 0, .string ⟨#[]⟩, .slice none 0 0, .slice none 0 0] 45))
  have hB := Blk.new (w.alloc (.cells #[.int .i64 0, .int .i64 0, .string ⟨#[]⟩, .slice none 0 0, .slice none 0 0] 45)) 45 #[.int .i64 1, .int .i64 0, .string ⟨#[]⟩, .slice none 0 0, .slice none 0 0]
  rw [World.size_alloc] at hB
  have HB := Lib.hid hB
  clear h hB
  go_enter Try.func44, Try.ntmps44
  go_wp2_with fail
  refine (rdint_any _ _ _ _ H2.out (by unfold maxLen; omega)).mono ?_; rintro e w1 ⟨rfl, r1, g1⟩
  have hs1 := g1.size
  simp only [World.size_alloc] at hs1
  have A1 := HA.out.grown g1 (by simp; omega)
  have B1 := HB.out.grown g1 (by simp; omega)
  have G1 : w.grownBy w1 (some b) := gr_trans (gr_alloc (gr_alloc (gr_refl w _) _) _) g1
  obtain ⟨c0, c1, c2, c3, c4⟩ := five_cells A1
  obtain ⟨d0, d1, d2, d3, d4⟩ := five_cells B1
  obtain ⟨y0, y1, y2, y3, y4⟩ := five_frozen A1
  obtain ⟨z0, z1, z2, z3, z4⟩ := five_frozen B1
  clear A1 B1 HA HB
  go_wp2_with fail
  refine bodyPost_ret (v := .agg (Val.cells ⟨1, (rdInt s f).1, [], none, 0, [], none, 0, []⟩)) (by simp [results, Try.results44, go_sem, Val.cells, c0, c1, c2, c3, c4]) rfl ⟨⟨1, (rdInt s f).1, [], none, 0, [], none, 0, []⟩, rfl, rfl, rfl, ⟨Row.nil _ _ _, Row.nil _ _ _⟩, (set6 _ _ _ _ _ _ _ _ _ _ b (by omega) (by omega)).trans r1, set6gr G1 (Nat.le_refl _) (by omega)⟩

set_option maxRecDepth 100000 in
set_option maxHeartbeats 1000000 in
theorem read2 (b : Nat) (s : List UInt8) (f : Bool) (w : World) (h : Rd w b s f) (hs : s.length ≤ 4398046511104) :
    Calls Try.prog 44 #[.pointer (some ⟨b, 0, none⟩), .int .i64 2] w (ReadsV 2 (rdV 2 s f) b w) := by
  have hlt := Blk.lt h
  have H2 := Lib.hid ((h.alloc (.cells #[.int .i64 0, .int .i64 0, .string ⟨#[]⟩, .slice none 0 0, .slice none 0 0] 45)).alloc (.cells #[.int .i64 2, .int .i64 0, .string ⟨#[]⟩, .slice none 0 0, .slice none 0 0] 45))
  have HA := Lib.hid ((Blk.new w 45 #[.int .i64 0, .int .i64 0, .string ⟨#[]⟩, .slice none 0 0, .slice none 0 0]).alloc (.cells #[.int .i64 2, .int .i64 0, .string ⟨#[]⟩, .slice none 0 0, .slice none 0 0] 45))
  have hB := Blk.new (w.alloc (.cells #[.int .i64 0, .int .i64 0, .string ⟨#[]⟩, .slice none 0 0, .slice none 0 0] 45)) 45 #[.int .i64 2, .int .i64 0, .string ⟨#[]⟩, .slice none 0 0, .slice none 0 0]
  rw [World.size_alloc] at hB
  have HB := Lib.hid hB
  clear h hB
  go_enter Try.func44, Try.ntmps44
  go_wp2_with fail
  refine (text_any _ _ _ _ H2.out (by unfold maxLen; omega)).mono ?_; rintro e w1 ⟨rfl, r1, g1⟩
  have hs1 := g1.size
  simp only [World.size_alloc] at hs1
  have A1 := HA.out.grown g1 (by simp; omega)
  have B1 := HB.out.grown g1 (by simp; omega)
  have G1 : w.grownBy w1 (some b) := gr_trans (gr_alloc (gr_alloc (gr_refl w _) _) _) g1
  obtain ⟨c0, c1, c2, c3, c4⟩ := five_cells A1
  obtain ⟨d0, d1, d2, d3, d4⟩ := five_cells B1
  obtain ⟨y0, y1, y2, y3, y4⟩ := five_frozen A1
  obtain ⟨z0, z1, z2, z3, z4⟩ := five_frozen B1
  clear A1 B1 HA HB
  go_wp2_with fail
  refine bodyPost_ret (v := .agg (Val.cells ⟨2, 0, (rdText s f).1, none, 0, [], none, 0, []⟩)) (by simp [results, Try.results44, go_sem, Val.cells, c0, c1, c2, c3, c4]) rfl ⟨⟨2, 0, (rdText s f).1, none, 0, [], none, 0, []⟩, rfl, rfl, rfl, ⟨Row.nil _ _ _, Row.nil _ _ _⟩, (set6 _ _ _ _ _ _ _ _ _ _ b (by omega) (by omega)).trans r1, set6gr G1 (Nat.le_refl _) (by omega)⟩

set_option maxRecDepth 100000 in
set_option maxHeartbeats 1000000 in
theorem read3 (b : Nat) (s : List UInt8) (f : Bool) (w : World) (h : Rd w b s f) (hs : s.length ≤ 4398046511104) :
    Calls Try.prog 44 #[.pointer (some ⟨b, 0, none⟩), .int .i64 3] w (ReadsV 3 (rdV 3 s f) b w) := by
  have hlt := Blk.lt h
  have H2 := Lib.hid ((h.alloc (.cells #[.int .i64 0, .int .i64 0, .string ⟨#[]⟩, .slice none 0 0, .slice none 0 0] 45)).alloc (.cells #[.int .i64 3, .int .i64 0, .string ⟨#[]⟩, .slice none 0 0, .slice none 0 0] 45))
  have HA := Lib.hid ((Blk.new w 45 #[.int .i64 0, .int .i64 0, .string ⟨#[]⟩, .slice none 0 0, .slice none 0 0]).alloc (.cells #[.int .i64 3, .int .i64 0, .string ⟨#[]⟩, .slice none 0 0, .slice none 0 0] 45))
  have hB := Blk.new (w.alloc (.cells #[.int .i64 0, .int .i64 0, .string ⟨#[]⟩, .slice none 0 0, .slice none 0 0] 45)) 45 #[.int .i64 3, .int .i64 0, .string ⟨#[]⟩, .slice none 0 0, .slice none 0 0]
  rw [World.size_alloc] at hB
  have HB := Lib.hid hB
  clear h hB
  go_enter Try.func44, Try.ntmps44
  go_wp2_with fail
  refine (list_any _ _ _ _ H2.out hs).mono ?_; rintro e w1 ⟨A, c, rfl, o1, r1, g1⟩
  have hs1 := g1.size
  simp only [World.size_alloc] at hs1
  have A1 := HA.out.grown g1 (by simp; omega)
  have B1 := HB.out.grown g1 (by simp; omega)
  have G1 : w.grownBy w1 (some b) := gr_trans (gr_alloc (gr_alloc (gr_refl w _) _) _) g1
  obtain ⟨c0, c1, c2, c3, c4⟩ := five_cells A1
  obtain ⟨d0, d1, d2, d3, d4⟩ := five_cells B1
  obtain ⟨y0, y1, y2, y3, y4⟩ := five_frozen A1
  obtain ⟨z0, z1, z2, z3, z4⟩ := five_frozen B1
  clear A1 B1 HA HB
  have eL := strs_length (rdMany rdText s f).1
  rw [eL]
  clear eL
  go_wp2_with fail
  refine bodyPost_ret (v := .agg (Val.cells ⟨3, 0, [], A, c, (rdMany rdText s f).1, none, 0, []⟩)) (by simp [results, Try.results44, go_sem, Val.cells, c0, c1, c2, c3, c4]) rfl ⟨⟨3, 0, [], A, c, (rdMany rdText s f).1, none, 0, []⟩, rfl, rfl, rfl, ⟨(o1.far fun g hg => set6 _ _ _ _ _ _ _ _ _ _ g (by simp at hg; omega) (by simp at hg; omega)).row, Row.nil _ _ _⟩, (set6 _ _ _ _ _ _ _ _ _ _ b (by omega) (by omega)).trans r1, set6gr G1 (Nat.le_refl _) (by omega)⟩

set_option maxRecDepth 100000 in
set_option maxHeartbeats 1000000 in
theorem read4 (b : Nat) (s : List UInt8) (f : Bool) (w : World) (h : Rd w b s f) (hs : s.length ≤ 4398046511104) :
    Calls Try.prog 44 #[.pointer (some ⟨b, 0, none⟩), .int .i64 4] w (ReadsV 4 (rdV 4 s f) b w) := by
  have hlt := Blk.lt h
  have H2 := Lib.hid ((h.alloc (.cells #[.int .i64 0, .int .i64 0, .string ⟨#[]⟩, .slice none 0 0, .slice none 0 0] 45)).alloc (.cells #[.int .i64 4, .int .i64 0, .string ⟨#[]⟩, .slice none 0 0, .slice none 0 0] 45))
  have HA := Lib.hid ((Blk.new w 45 #[.int .i64 0, .int .i64 0, .string ⟨#[]⟩, .slice none 0 0, .slice none 0 0]).alloc (.cells #[.int .i64 4, .int .i64 0, .string ⟨#[]⟩, .slice none 0 0, .slice none 0 0] 45))
  have hB := Blk.new (w.alloc (.cells #[.int .i64 0, .int .i64 0, .string ⟨#[]⟩, .slice none 0 0, .slice none 0 0] 45)) 45 #[.int .i64 4, .int .i64 0, .string ⟨#[]⟩, .slice none 0 0, .slice none 0 0]
  rw [World.size_alloc] at hB
  have HB := Lib.hid hB
  clear h hB
  go_enter Try.func44, Try.ntmps44
  go_wp2_with fail
  refine (nums_any _ _ _ _ H2.out hs).mono ?_; rintro e w1 ⟨A, c, rfl, o1, r1, g1⟩
  have hs1 := g1.size
  simp only [World.size_alloc] at hs1
  have A1 := HA.out.grown g1 (by simp; omega)
  have B1 := HB.out.grown g1 (by simp; omega)
  have G1 : w.grownBy w1 (some b) := gr_trans (gr_alloc (gr_alloc (gr_refl w _) _) _) g1
  obtain ⟨c0, c1, c2, c3, c4⟩ := five_cells A1
  obtain ⟨d0, d1, d2, d3, d4⟩ := five_cells B1
  obtain ⟨y0, y1, y2, y3, y4⟩ := five_frozen A1
  obtain ⟨z0, z1, z2, z3, z4⟩ := five_frozen B1
  clear A1 B1 HA HB
  have eL := i64s_length (rdMany rdInt s f).1
  rw [eL]
  clear eL
  go_wp2_with fail
  refine bodyPost_ret (v := .agg (Val.cells ⟨4, 0, [], none, 0, [], A, c, (rdMany rdInt s f).1⟩)) (by simp [results, Try.results44, go_sem, Val.cells, c0, c1, c2, c3, c4]) rfl ⟨⟨4, 0, [], none, 0, [], A, c, (rdMany rdInt s f).1⟩, rfl, rfl, rfl, ⟨Row.nil _ _ _, (o1.far fun g hg => set6 _ _ _ _ _ _ _ _ _ _ g (by simp at hg; omega) (by simp at hg; omega)).row⟩, (set6 _ _ _ _ _ _ _ _ _ _ b (by omega) (by omega)).trans r1, set6gr G1 (Nat.le_refl _) (by omega)⟩

theorem read_any (b : Nat) (s : List UInt8) (f : Bool) (k : Nat) (w : World) (h : Rd w b s f) (hs : s.length ≤ 4398046511104) (hk : k < 5) :
    Calls Try.prog 44 #[.pointer (some ⟨b, 0, none⟩), .int .i64 k] w (ReadsV k (rdV k s f) b w) := by
  match k, hk with
  | 0, _ => exact read0 b s f w h hs
  | 1, _ => exact read1 b s f w h hs
  | 2, _ => exact read2 b s f w h hs
  | 3, _ => exact read3 b s f w h hs
  | 4, _ => exact read4 b s f w h hs

end Go.Proofs.Ytgojkbaodmiiaaa
