/- Package lex: the scanner's next, the other arms. -/
import Derived.Test.YtammpndggdniiaaDoorLexD
namespace Go.Proofs.YtammpndggdniiaaDoor
open Go.RowKit

theorem Blk.drew {w : World} {g : Nat} {t : TypeId} {cs : Array Value} (h : Blk w g t cs) : Blk w.drew g t cs := h
theorem below_drew {B : Nat} {a w : World} (h : Below B a w) : Below B a w.drew := ⟨h.os, h.tape, h.output, h.size, h.block⟩
theorem four {w w3 : World} {g : Nat} {c0 c1 c2 c3 a0 a1 a2 a3 : Value} (h : Blk w3 g 25 #[c0, c1, c2, c3]) (n : Nat) (hb : Below n w w3) (hg : n ≤ g) :
    Blk ((((w3.setCell ⟨g, 0, none⟩ a0).setCell ⟨g, 1, none⟩ a1).setCell ⟨g, 2, none⟩ a2).setCell ⟨g, 3, none⟩ a3) g 25 #[a0, a1, a2, a3] ∧
    Below n w ((((w3.setCell ⟨g, 0, none⟩ a0).setCell ⟨g, 1, none⟩ a1).setCell ⟨g, 2, none⟩ a2).setCell ⟨g, 3, none⟩ a3) :=
  ⟨(((h.set_ 0 a0).set_ 1 a1).set_ 2 a2).set_ 3 a3,
    (((hb.setCell (p := ⟨g, 0, none⟩) hg a0).setCell (p := ⟨g, 1, none⟩) hg a1).setCell (p := ⟨g, 2, none⟩) hg a2).setCell (p := ⟨g, 3, none⟩) hg a3⟩

set_option maxRecDepth 100000 in
set_option maxHeartbeats 8000000 in
theorem next_int (b : Nat) (s : List UInt8) (p : Nat) (w : World) (h : Sc w b s p) (hp : p < s.length) (hs : s.length ≤ 4096) (hL : Ld w) (h2 : cls s[p].toNat = 3) :
    Calls Tryd.prog 19 #[.pointer (some ⟨b, 0, none⟩)] w (NextIs (⟨1, [], parseN ((s.drop p).takeWhile isW) 0 numMax, p⟩, ((s.drop p).takeWhile isW).length, parseB ((s.drop p).takeWhile isW) 0 numMax) w) := by
  have hps : p < (⟨s.toArray⟩ : ByteArray).size := by show p < s.toArray.size; simpa using hp
  have hbn : (⟨s.toArray⟩ : ByteArray)[p].toNat < 256 := (⟨s.toArray⟩ : ByteArray)[p].toNat_lt
  have hbm : (((⟨s.toArray⟩ : ByteArray)[p].toNat : Nat) : Int) < 256 := by omega
  have hp1 : 0 ≤ (p : Int) := by omega
  have hp2 : (p : Int) < s.length := by omega
  have c0 := h.s
  have c1 := h.a
  have c2 : w.cell? ⟨b, (⟨s.toArray⟩ : ByteArray)[p].toNat, none⟩ = some (.int .u8 3) := by
    have e := h.cls hbn
    rw [show cls (⟨s.toArray⟩ : ByteArray)[p].toNat = 3 from h2] at e; exact e
  have hbw := Blk.lt h
  obtain ⟨X, hX⟩ : ∃ X, (s.drop p).takeWhile isW = X := ⟨_, rfl⟩
  have HW := Lib.hid (fun wr (h : Sc wr b s p) => (word_any b s p wr h (Nat.le_of_lt hp) hs))
  rw [hX] at HW ⊢
  have hXl : X.length ≤ 4096 := by
    rw [← hX]
    have h1 := (List.takeWhile_prefix (p := isW) (l := s.drop p)).length_le
    rw [List.length_drop] at h1; omega
  have HP := Lib.hid (fun wr (h : Ld wr) => nparse_any X 0 1125899906842624 wr h (by omega))
  obtain ⟨N, hN⟩ : ∃ N, parseN X 0 1125899906842624 = N := ⟨_, rfl⟩
  obtain ⟨B, hB⟩ : ∃ B, parseB X 0 1125899906842624 = B := ⟨_, rfl⟩
  rw [show parseN X 0 numMax = N from hN, show parseB X 0 numMax = B from hB]
  rw [hN, hB] at HP
  have HS := Lib.hid h
  have HL := Lib.hid hL
  clear h h2 hX hs hN hB hL hXl
  go_enter Tryd.func19, Tryd.ntmps19
  go_wp2_with fail
  go_quiet (fail)
  go_wp2_with fail
  refine (HW.out _ ?_).mono ?_
  · exact Blk.alloc HS.out _
  rintro e w3 ⟨rfl, b3⟩
  have HB : Blk w3 w.heap.size 25 #[.int .i64 0, .string ⟨#[]⟩, .int .i64 0, .int .i64 p] := Blk.later (w := (w.alloc (.cells #[.int .i64 0, .string ⟨#[]⟩, .int .i64 0, .int .i64 p] 25)).drewN nq) (Blk.new w 25 #[.int .i64 0, .string ⟨#[]⟩, .int .i64 0, .int .i64 p]) b3
  have BB := Lib.hid ((below_drewN ((Below.refl w.heap.size w).alloc (Nat.le_refl _) _) nq).trans (b3.mono (by show w.heap.size ≤ (w.alloc _).heap.size; rw [World.size_alloc]; omega)))
  have k0w3 : w3.cell? ⟨w.heap.size, 0, none⟩ = some (.int .i64 0) := HB.cell 0
  have f0w3 := HB.frozen 0
  have k1w3 : w3.cell? ⟨w.heap.size, 1, none⟩ = some (.string ⟨#[]⟩) := HB.cell 1
  have f1w3 := HB.frozen 1
  have k2w3 : w3.cell? ⟨w.heap.size, 2, none⟩ = some (.int .i64 0) := HB.cell 2
  have f2w3 := HB.frozen 2
  have k3w3 : w3.cell? ⟨w.heap.size, 3, none⟩ = some (.int .i64 p) := HB.cell 3
  have f3w3 := HB.frozen 3
  have HB' := Lib.hid HB
  clear HB b3
  go_wp2_with fail
  refine (HP.out _ ?_).mono ?_
  · exact HL.out.later (BB.out.setCell (p := ⟨w.heap.size, 0, none⟩) (Nat.le_refl _) _)
  rintro e w4 ⟨rfl, b4⟩
  have HB4 : Blk w4 w.heap.size 25 #[.int .i64 1, .string ⟨#[]⟩, .int .i64 0, .int .i64 p] := Blk.later (w := w3.setCell ⟨w.heap.size, 0, none⟩ (.int .i64 1)) (HB'.out.set_ 0 (.int .i64 1)) b4
  have BB4 := Lib.hid ((BB.out.setCell (p := ⟨w.heap.size, 0, none⟩) (Nat.le_refl _) (.int .i64 1)).trans (b4.mono (by simp only [World.size_setCell]; exact BB.out.size)))
  have k0w4 : w4.cell? ⟨w.heap.size, 0, none⟩ = some (.int .i64 1) := HB4.cell 0
  have f0w4 := HB4.frozen 0
  have k1w4 : w4.cell? ⟨w.heap.size, 1, none⟩ = some (.string ⟨#[]⟩) := HB4.cell 1
  have f1w4 := HB4.frozen 1
  have k2w4 : w4.cell? ⟨w.heap.size, 2, none⟩ = some (.int .i64 0) := HB4.cell 2
  have f2w4 := HB4.frozen 2
  have k3w4 : w4.cell? ⟨w.heap.size, 3, none⟩ = some (.int .i64 p) := HB4.cell 3
  have f3w4 := HB4.frozen 3
  have HB4' := Lib.hid HB4
  clear HB4 b4
  go_wp2_with fail
  obtain ⟨e1, e2⟩ := four (a0 := .int .i64 1) (a1 := .string ⟨#[]⟩) (a2 := .int .i64 N) (a3 := .int .i64 p) (HB4'.out.set_ 2 (.int .i64 N)) w.heap.size (BB4.out.setCell (p := ⟨w.heap.size, 2, none⟩) (Nat.le_refl _) (.int .i64 N)) (Nat.le_refl _)
  exact bodyPost_ret (next_res _ _ w.heap.size ⟨1, [], N, p⟩ rfl e1) rfl ⟨rfl, e2⟩

set_option maxRecDepth 100000 in
set_option maxHeartbeats 8000000 in
theorem next_sign (b : Nat) (s : List UInt8) (p : Nat) (w : World) (h : Sc w b s p) (hp : p < s.length) (hs : s.length ≤ 4096) (h2 : cls s[p].toNat = 5) :
    Calls Tryd.prog 19 #[.pointer (some ⟨b, 0, none⟩)] w (NextIs (⟨3, (opS (s.drop p)).1, 0, p⟩, (opS (s.drop p)).1.length, (opS (s.drop p)).2) w) := by
  have hps : p < (⟨s.toArray⟩ : ByteArray).size := by show p < s.toArray.size; simpa using hp
  have hbn : (⟨s.toArray⟩ : ByteArray)[p].toNat < 256 := (⟨s.toArray⟩ : ByteArray)[p].toNat_lt
  have hbm : (((⟨s.toArray⟩ : ByteArray)[p].toNat : Nat) : Int) < 256 := by omega
  have hp1 : 0 ≤ (p : Int) := by omega
  have hp2 : (p : Int) < s.length := by omega
  have c0 := h.s
  have c1 := h.a
  have c2 : w.cell? ⟨b, (⟨s.toArray⟩ : ByteArray)[p].toNat, none⟩ = some (.int .u8 5) := by
    have e := h.cls hbn
    rw [show cls (⟨s.toArray⟩ : ByteArray)[p].toNat = 5 from h2] at e; exact e
  have hbw := Blk.lt h
  have HW := Lib.hid (fun wr (h : Sc wr b s p) => (op_any b s p wr h hp hs))
  generalize opS (s.drop p) = R at HW ⊢
  obtain ⟨X, B⟩ := R
  have HS := Lib.hid h
  clear h h2 hs
  go_enter Tryd.func19, Tryd.ntmps19
  go_wp2_with fail
  go_quiet (fail)
  go_wp2_with fail
  refine (HW.out _ ?_).mono ?_
  · exact (Blk.alloc HS.out (.cells #[.int .i64 0, .string ⟨#[]⟩, .int .i64 0, .int .i64 p] 25)).far (p := ⟨w.heap.size, 0, none⟩) (by show b ≠ w.heap.size; omega) (.int .i64 3)
  rintro e w3 ⟨rfl, b3⟩
  have HB : Blk w3 w.heap.size 25 #[.int .i64 3, .string ⟨#[]⟩, .int .i64 0, .int .i64 p] := Blk.later (w := ((w.alloc (.cells #[.int .i64 0, .string ⟨#[]⟩, .int .i64 0, .int .i64 p] 25)).drewN nq).setCell ⟨w.heap.size, 0, none⟩ (.int .i64 3)) ((Blk.new w 25 #[.int .i64 0, .string ⟨#[]⟩, .int .i64 0, .int .i64 p]).set_ 0 (.int .i64 3)) b3
  have BB := Lib.hid (((below_drewN ((Below.refl w.heap.size w).alloc (Nat.le_refl _) _) nq).setCell (p := ⟨w.heap.size, 0, none⟩) (Nat.le_refl _) (.int .i64 3)).trans (b3.mono (by simp only [World.size_setCell]; show w.heap.size ≤ (w.alloc _).heap.size; rw [World.size_alloc]; omega)))
  have k0w3 : w3.cell? ⟨w.heap.size, 0, none⟩ = some (.int .i64 3) := HB.cell 0
  have f0w3 := HB.frozen 0
  have k1w3 : w3.cell? ⟨w.heap.size, 1, none⟩ = some (.string ⟨#[]⟩) := HB.cell 1
  have f1w3 := HB.frozen 1
  have k2w3 : w3.cell? ⟨w.heap.size, 2, none⟩ = some (.int .i64 0) := HB.cell 2
  have f2w3 := HB.frozen 2
  have k3w3 : w3.cell? ⟨w.heap.size, 3, none⟩ = some (.int .i64 p) := HB.cell 3
  have f3w3 := HB.frozen 3
  have HB' := Lib.hid HB
  clear HB b3
  go_wp2_with fail
  obtain ⟨e1, e2⟩ := four (a0 := .int .i64 3) (a1 := .string ⟨X.toArray⟩) (a2 := .int .i64 0) (a3 := .int .i64 p) (HB'.out.set_ 1 (.string ⟨X.toArray⟩)) w.heap.size (BB.out.setCell (p := ⟨w.heap.size, 1, none⟩) (Nat.le_refl _) (.string ⟨X.toArray⟩)) (Nat.le_refl _)
  exact bodyPost_ret (next_res _ _ w.heap.size ⟨3, X, 0, p⟩ rfl e1) rfl ⟨rfl, e2⟩

theorem textS_two {t : List UInt8} (h : (textS t).2 = true) : 2 ≤ (textS t).1.length := by
  unfold textS at h ⊢
  simp only at h ⊢
  split at h
  · rename_i h1
    rw [if_pos h1]
    have h2 := (List.getElem?_eq_some_iff.1 h1).1
    rw [List.length_drop] at h2
    rw [List.length_take]; omega
  · cases h
theorem textS_le (t : List UInt8) : (textS t).1.length ≤ t.length := by
  unfold textS
  simp only
  split
  · simp; omega
  · simp

set_option maxRecDepth 100000 in
set_option maxHeartbeats 8000000 in
theorem next_str_no (b : Nat) (s : List UInt8) (p : Nat) (w : World) (h : Sc w b s p) (hp : p < s.length) (hs : s.length ≤ 4096) (h2 : cls s[p].toNat = 4) (hb2 : (textS (s.drop p)).2 = false) :
    Calls Tryd.prog 19 #[.pointer (some ⟨b, 0, none⟩)] w (NextIs (⟨0, [], 0, p⟩, 0, false) w) := by
  have hps : p < (⟨s.toArray⟩ : ByteArray).size := by show p < s.toArray.size; simpa using hp
  have hbn : (⟨s.toArray⟩ : ByteArray)[p].toNat < 256 := (⟨s.toArray⟩ : ByteArray)[p].toNat_lt
  have hbm : (((⟨s.toArray⟩ : ByteArray)[p].toNat : Nat) : Int) < 256 := by omega
  have hp1 : 0 ≤ (p : Int) := by omega
  have hp2 : (p : Int) < s.length := by omega
  have c0 := h.s
  have c1 := h.a
  have c2 : w.cell? ⟨b, (⟨s.toArray⟩ : ByteArray)[p].toNat, none⟩ = some (.int .u8 4) := by
    have e := h.cls hbn
    rw [show cls (⟨s.toArray⟩ : ByteArray)[p].toNat = 4 from h2] at e; exact e
  have hbw := Blk.lt h
  have HW := Lib.hid (fun wr (h : Sc wr b s p) => (text_any b s p wr h hp hs))
  rw [hb2] at HW
  generalize (textS (s.drop p)).1 = X at HW
  have HS := Lib.hid h
  clear h h2 hs hb2
  go_enter Tryd.func19, Tryd.ntmps19
  go_wp2_with fail
  go_quiet (fail)
  go_wp2_with fail
  refine (HW.out _ ?_).mono ?_
  · exact Blk.alloc HS.out _
  rintro e w3 ⟨rfl, b3⟩
  have HB : Blk w3 w.heap.size 25 #[.int .i64 0, .string ⟨#[]⟩, .int .i64 0, .int .i64 p] := Blk.later (w := (w.alloc (.cells #[.int .i64 0, .string ⟨#[]⟩, .int .i64 0, .int .i64 p] 25)).drewN nq) (Blk.new w 25 #[.int .i64 0, .string ⟨#[]⟩, .int .i64 0, .int .i64 p]) b3
  have BB := Lib.hid ((below_drewN ((Below.refl w.heap.size w).alloc (Nat.le_refl _) _) nq).trans (b3.mono (by show w.heap.size ≤ (w.alloc _).heap.size; rw [World.size_alloc]; omega)))
  have k0w3 : w3.cell? ⟨w.heap.size, 0, none⟩ = some (.int .i64 0) := HB.cell 0
  have f0w3 := HB.frozen 0
  have k1w3 : w3.cell? ⟨w.heap.size, 1, none⟩ = some (.string ⟨#[]⟩) := HB.cell 1
  have f1w3 := HB.frozen 1
  have k2w3 : w3.cell? ⟨w.heap.size, 2, none⟩ = some (.int .i64 0) := HB.cell 2
  have f2w3 := HB.frozen 2
  have k3w3 : w3.cell? ⟨w.heap.size, 3, none⟩ = some (.int .i64 p) := HB.cell 3
  have f3w3 := HB.frozen 3
  have HB' := Lib.hid HB
  clear HB b3
  go_wp2_with fail
  obtain ⟨e1, e2⟩ := four (a0 := .int .i64 0) (a1 := .string ⟨#[]⟩) (a2 := .int .i64 0) (a3 := .int .i64 p) HB'.out w.heap.size BB.out (Nat.le_refl _)
  exact bodyPost_ret (next_res _ _ w.heap.size ⟨0, [], 0, p⟩ rfl e1) rfl ⟨rfl, e2⟩

set_option maxRecDepth 100000 in
set_option maxHeartbeats 8000000 in
theorem next_str (b : Nat) (s : List UInt8) (p : Nat) (w : World) (h : Sc w b s p) (hp : p < s.length) (hs : s.length ≤ 4096) (h2 : cls s[p].toNat = 4) (hb2 : (textS (s.drop p)).2 = true) :
    Calls Tryd.prog 19 #[.pointer (some ⟨b, 0, none⟩)] w (NextIs (⟨2, ((textS (s.drop p)).1.drop 1).take ((textS (s.drop p)).1.length - 2), 0, p⟩, (textS (s.drop p)).1.length, true) w) := by
  have hps : p < (⟨s.toArray⟩ : ByteArray).size := by show p < s.toArray.size; simpa using hp
  have hbn : (⟨s.toArray⟩ : ByteArray)[p].toNat < 256 := (⟨s.toArray⟩ : ByteArray)[p].toNat_lt
  have hbm : (((⟨s.toArray⟩ : ByteArray)[p].toNat : Nat) : Int) < 256 := by omega
  have hp1 : 0 ≤ (p : Int) := by omega
  have hp2 : (p : Int) < s.length := by omega
  have c0 := h.s
  have c1 := h.a
  have c2 : w.cell? ⟨b, (⟨s.toArray⟩ : ByteArray)[p].toNat, none⟩ = some (.int .u8 4) := by
    have e := h.cls hbn
    rw [show cls (⟨s.toArray⟩ : ByteArray)[p].toNat = 4 from h2] at e; exact e
  have hbw := Blk.lt h
  have HW := Lib.hid (fun wr (h : Sc wr b s p) => (text_any b s p wr h hp hs))
  have hx2 := textS_two hb2
  have hx3 := textS_le (s.drop p)
  rw [List.length_drop] at hx3
  rw [hb2] at HW
  generalize (textS (s.drop p)).1 = X at HW hx2 hx3 ⊢
  obtain ⟨m, hm⟩ : ∃ m, X.length = m + 1 := ⟨X.length - 1, by omega⟩
  have hw : IntKind.i64.wrap ((X.length : Int) - 1) = (m : Int) := by rw [IntKind.wrap_i64]; omega
  have hm1 : (1 : Int) ≤ m := by omega
  have hm2 : (m : Int) ≤ X.length := by omega
  have hm3 : 1 ≤ m := by omega
  have hm4 : m ≤ X.length := by omega
  have hm0 : 0 ≤ (m : Int) := by omega
  have HS := Lib.hid h
  have HM := Lib.hid hm
  clear h h2 hs hb2 hx3 hm hx2
  go_enter Tryd.func19, Tryd.ntmps19
  go_wp2_with fail
  go_quiet (fail)
  go_wp2_with fail
  refine (HW.out _ ?_).mono ?_
  · exact Blk.alloc HS.out _
  rintro e w3 ⟨rfl, b3⟩
  have HB : Blk w3 w.heap.size 25 #[.int .i64 0, .string ⟨#[]⟩, .int .i64 0, .int .i64 p] := Blk.later (w := (w.alloc (.cells #[.int .i64 0, .string ⟨#[]⟩, .int .i64 0, .int .i64 p] 25)).drewN nq) (Blk.new w 25 #[.int .i64 0, .string ⟨#[]⟩, .int .i64 0, .int .i64 p]) b3
  have BB := Lib.hid ((below_drewN ((Below.refl w.heap.size w).alloc (Nat.le_refl _) _) nq).trans (b3.mono (by show w.heap.size ≤ (w.alloc _).heap.size; rw [World.size_alloc]; omega)))
  have k0w3 : w3.cell? ⟨w.heap.size, 0, none⟩ = some (.int .i64 0) := HB.cell 0
  have f0w3 := HB.frozen 0
  have k1w3 : w3.cell? ⟨w.heap.size, 1, none⟩ = some (.string ⟨#[]⟩) := HB.cell 1
  have f1w3 := HB.frozen 1
  have k2w3 : w3.cell? ⟨w.heap.size, 2, none⟩ = some (.int .i64 0) := HB.cell 2
  have f2w3 := HB.frozen 2
  have k3w3 : w3.cell? ⟨w.heap.size, 3, none⟩ = some (.int .i64 p) := HB.cell 3
  have f3w3 := HB.frozen 3
  have HB' := Lib.hid HB
  clear HB b3
  go_wp2_with fail
  go_region
  go_wp2_with fail
  have hx : (ByteArray.mk X.toArray).extract 1 m = ⟨((X.drop 1).take (X.length - 2)).toArray⟩ := by rw [bx, show X.length - 2 = m - 1 by have := HM.out; omega]
  obtain ⟨e1, e2⟩ := six (v0 := .int .i64 2) (v1 := .string ((ByteArray.mk X.toArray).extract 1 m)) (a0 := .int .i64 2) (a1 := .string ((ByteArray.mk X.toArray).extract 1 m)) (a2 := .int .i64 0) (a3 := .int .i64 p) HB'.out w.heap.size BB.out (Nat.le_refl _)
  rw [hx] at e1
  rw [hx] at e2
  have e3 := Blk.drew e1
  have e4 := below_drew e2
  clear e1 e2
  rw [hx]
  exact bodyPost_ret (next_res _ _ w.heap.size ⟨2, (X.drop 1).take (X.length - 2), 0, p⟩ rfl e3) rfl ⟨rfl, e4⟩

set_option maxRecDepth 100000 in
set_option maxHeartbeats 8000000 in
theorem next_none (b : Nat) (s : List UInt8) (p : Nat) (w : World) (h : Sc w b s p) (hp : p < s.length) (hs : s.length ≤ 4096) {c : Nat} (hc2 : c ≠ 2) (hc3 : c ≠ 3) (hc4 : c ≠ 4) (hc5 : c ≠ 5) (h2 : cls s[p].toNat = c) :
    Calls Tryd.prog 19 #[.pointer (some ⟨b, 0, none⟩)] w (NextIs (⟨0, [], 0, p⟩, 0, false) w) := by
  have hps : p < (⟨s.toArray⟩ : ByteArray).size := by show p < s.toArray.size; simpa using hp
  have hbn : (⟨s.toArray⟩ : ByteArray)[p].toNat < 256 := (⟨s.toArray⟩ : ByteArray)[p].toNat_lt
  have hbm : (((⟨s.toArray⟩ : ByteArray)[p].toNat : Nat) : Int) < 256 := by omega
  have hp1 : 0 ≤ (p : Int) := by omega
  have hp2 : (p : Int) < s.length := by omega
  have c0 := h.s
  have c1 := h.a
  have c2 : w.cell? ⟨b, (⟨s.toArray⟩ : ByteArray)[p].toNat, none⟩ = some (.int .u8 c) := by
    have e := h.cls hbn
    rw [show cls (⟨s.toArray⟩ : ByteArray)[p].toNat = c from h2] at e; exact e
  have hbw := Blk.lt h
  have n2 : ((c : Int) == 2) = false := by rw [beq_eq_false_iff_ne]; omega
  have n3 : ((c : Int) == 3) = false := by rw [beq_eq_false_iff_ne]; omega
  have n4 : ((c : Int) == 4) = false := by rw [beq_eq_false_iff_ne]; omega
  have n5 : ((c : Int) == 5) = false := by rw [beq_eq_false_iff_ne]; omega
  have HS := Lib.hid h
  clear h h2 hs
  go_enter Tryd.func19, Tryd.ntmps19
  go_wp2_with fail
  go_quiet (fail)
  go_wp2_with fail
  obtain ⟨e1, e2⟩ := four (w3 := (w.alloc (.cells #[.int .i64 0, .string ⟨#[]⟩, .int .i64 0, .int .i64 p] 25)).drewN nq) (a0 := .int .i64 0) (a1 := .string ⟨#[]⟩) (a2 := .int .i64 0) (a3 := .int .i64 p) (Blk.new w 25 #[.int .i64 0, .string ⟨#[]⟩, .int .i64 0, .int .i64 p]) w.heap.size (below_drewN ((Below.refl w.heap.size w).alloc (Nat.le_refl _) _) nq) (Nat.le_refl _)
  exact bodyPost_ret (next_res _ _ w.heap.size ⟨0, [], 0, p⟩ rfl e1) rfl ⟨rfl, e2⟩

theorem next_any (b : Nat) (s : List UInt8) (p : Nat) (w : World) (h : Sc w b s p) (hp : p < s.length) (hs : s.length ≤ 4096) (hL : Ld w) :
    Calls Tryd.prog 19 #[.pointer (some ⟨b, 0, none⟩)] w (NextIs (nextS (s.drop p) p) w) := by
  have hd : (s.drop p).headD 0 = s[p] := by
    rw [List.headD_eq_head?_getD, List.head?_drop, List.getElem?_eq_getElem hp]; rfl
  unfold nextS
  rw [hd]
  by_cases h2 : cls s[p].toNat = 2
  · rw [if_pos h2]; exact next_name b s p w h hp hs h2
  rw [if_neg h2]
  by_cases h3 : cls s[p].toNat = 3
  · rw [if_pos h3]; exact next_int b s p w h hp hs hL h3
  rw [if_neg h3]
  by_cases h4 : cls s[p].toNat = 4
  · rw [if_pos h4]
    by_cases hb : (textS (s.drop p)).2 = true
    · rw [if_pos hb]; exact next_str b s p w h hp hs h4 hb
    · rw [if_neg hb]; exact next_str_no b s p w h hp hs h4 (by simpa using hb)
  rw [if_neg h4]
  by_cases h5 : cls s[p].toNat = 5
  · rw [if_pos h5]; exact next_sign b s p w h hp hs h5
  rw [if_neg h5]
  exact next_none b s p w h hp hs h2 h3 h4 h5 rfl
end Go.Proofs.YtammpndggdniiaaDoor
