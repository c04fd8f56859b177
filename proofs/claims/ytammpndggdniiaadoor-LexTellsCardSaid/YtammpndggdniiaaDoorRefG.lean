/- The reference of lex: token. -/
import Derived.Test.YtammpndggdniiaaDoorRefB
import Derived.Test.YtammpndggdniiaaDoorRefD
import Derived.Test.YtammpndggdniiaaDoorRefF
namespace Go.Proofs.YtammpndggdniiaaDoor
open Go.RowKit

theorem rtok_results : Tryd.f21.results = #[.cell 4 25, .tmp 5] := by kernel_rfl
theorem rtok_res (tmps : Array Value) (w : World) (g : Nat) (t : Tok) (hp : tmps.getD 4 undef = .pointer (some ⟨g, 0, none⟩)) (hb : Blk w g 25 t.cells) :
    (results Tryd.f21 tmps).run Tryd.prog w = .ok (.tuple #[.agg t.cells, tmps.getD 5 undef]) w := by
  have hp' : tmps[4]?.getD undef = .pointer (some ⟨g, 0, none⟩) := by simpa using hp
  have hr := run_loadVar_row w g 25 25 t.cells (0, 0) _ hb Tryd.underlying25 rfl tok_size
  simp [results, rtok_results, hp', asAddr, hr]
/-- What the reference's token returns. -/
def RTok (r : Tok × Nat × Bool) (w : World) (e : Ending) (w' : World) : Prop :=
  ∃ (t : Tok) (m : Nat), e = .returned (.tuple #[.agg t.cells, .int .i64 m]) ∧ (if r.2.2 = true then t = r.1 ∧ m = r.2.1 else m = 0) ∧ Below w.heap.size w w'
theorem ref_two {w w3 : World} (Z T : Array Value) (b : Below ((w.alloc (.cells Z 25)).alloc (.cells T 25)).heap.size ((w.alloc (.cells Z 25)).alloc (.cells T 25)) w3) :
    Blk w3 w.heap.size 25 Z ∧ Blk w3 (w.heap.size + 1) 25 T ∧ Below w.heap.size w w3 := by
  have h1 := ((Blk.new w 25 Z).alloc (.cells T 25)).later b
  have h2 := (Blk.new (w.alloc (.cells Z 25)) 25 T).later b
  rw [World.size_alloc] at h2
  exact ⟨h1, h2, (((Below.refl w.heap.size w).alloc (Nat.le_refl _) _).alloc (by rw [World.size_alloc]; omega) _).trans (b.mono (by rw [World.size_alloc, World.size_alloc]; omega))⟩

set_option maxRecDepth 100000 in
set_option maxHeartbeats 8000000 in
theorem rtok_name_no (s : List UInt8) (p : Nat) (w : World) (hp : p < s.length) (hs : s.length ≤ 4096) (hc : cls s[p].toNat = 2) (hl : 24 < ((s.drop p).takeWhile isW).length) :
    Calls Tryd.prog 21 #[.string ⟨s.toArray⟩, .int .i64 p] w (RTok (⟨0, ((s.drop p).takeWhile isW), 0, p⟩, ((s.drop p).takeWhile isW).length, decide (((s.drop p).takeWhile isW).length ≤ 24)) w) := by
  have hps : p < (⟨s.toArray⟩ : ByteArray).size := by show p < s.toArray.size; simpa using hp
  have hp1 : 0 ≤ (p : Int) := by omega
  have hp2 : (p : Int) < s.length := by omega
  have hs1 : (s.length : Int) ≤ 4096 := by omega
  have PL := Lib.hid (rletter_any (⟨s.toArray⟩ : ByteArray)[p])
  have PD := Lib.hid (rdigit_any (⟨s.toArray⟩ : ByteArray)[p])
  have PL2 := Lib.hid (show decide (cls (⟨s.toArray⟩ : ByteArray)[p].toNat = 2) = true from decide_eq_true hc)
  rw [PL2.out] at PL
  obtain ⟨W, hW⟩ : ∃ W, (s.drop p).takeWhile isW = W := ⟨_, rfl⟩
  have HW := Lib.hid (rword_any s p)
  rw [hW] at HW
  have hpre := List.prefix_iff_eq_take.1 (List.takeWhile_prefix isW (l := s.drop p))
  rw [hW] at hpre
  have hWl : p + W.length ≤ s.length := by
    have h1 := (List.takeWhile_prefix (p := isW) (l := s.drop p)).length_le
    rw [hW, List.length_drop] at h1; omega
  have hWi : (p : Int) + W.length ≤ s.length := by omega
  have X : (⟨s.toArray⟩ : ByteArray).extract p (p + W.length) = ⟨W.toArray⟩ := by rw [bx, show p + W.length - p = W.length by omega, ← hpre]
  have HWW := Lib.hid hW
  clear hpre
  rw [hW] at hl ⊢
  have hl2 : (24 : Int) < W.length := by omega
  go_enter Tryd.func21, Tryd.ntmps21
  go_wp2_with (first | (go_at_call 29; refine (PL.out _).mono ?_; rintro e w1 ⟨rfl, rfl⟩) | (go_at_call 31; refine (PD.out _).mono ?_; rintro e w2 ⟨rfl, rfl⟩))
  refine (HW.out _ (by omega) (by omega)).mono ?_; rintro e w3 ⟨rfl, b3⟩
  obtain ⟨HZ, HT, BB⟩ := ref_two #[.int .i64 0, .string ⟨#[]⟩, .int .i64 0, .int .i64 0] #[.int .i64 0, .string ⟨#[]⟩, .int .i64 0, .int .i64 p] b3
  have kz0 : w3.cell? ⟨w.heap.size, 0, none⟩ = some (.int .i64 0) := HZ.cell 0
  have fz0 := HZ.frozen 0
  have kz1 : w3.cell? ⟨w.heap.size, 1, none⟩ = some (.string ⟨#[]⟩) := HZ.cell 1
  have fz1 := HZ.frozen 1
  have kz2 : w3.cell? ⟨w.heap.size, 2, none⟩ = some (.int .i64 0) := HZ.cell 2
  have fz2 := HZ.frozen 2
  have kz3 : w3.cell? ⟨w.heap.size, 3, none⟩ = some (.int .i64 0) := HZ.cell 3
  have fz3 := HZ.frozen 3
  have kt0 : w3.cell? ⟨w.heap.size + 1, 0, none⟩ = some (.int .i64 0) := HT.cell 0
  have ft0 := HT.frozen 0
  have kt1 : w3.cell? ⟨w.heap.size + 1, 1, none⟩ = some (.string ⟨#[]⟩) := HT.cell 1
  have ft1 := HT.frozen 1
  have kt2 : w3.cell? ⟨w.heap.size + 1, 2, none⟩ = some (.int .i64 0) := HT.cell 2
  have ft2 := HT.frozen 2
  have kt3 : w3.cell? ⟨w.heap.size + 1, 3, none⟩ = some (.int .i64 p) := HT.cell 3
  have ft3 := HT.frozen 3
  have HZ2 := Lib.hid HZ
  have HT2 := Lib.hid HT
  have BB2 := Lib.hid BB
  clear HZ HT BB b3
  go_wp2_with fail
  obtain ⟨e1, e2⟩ := four (w3 := w3) (a0 := .int .i64 0) (a1 := .string ⟨([] : List UInt8).toArray⟩) (a2 := .int .i64 0) (a3 := .int .i64 p) HZ2.out w.heap.size BB2.out (Nat.le_refl _)
  exact bodyPost_ret (rtok_res _ _ w.heap.size ⟨0, ([] : List UInt8), 0, p⟩ rfl e1) rfl ⟨⟨0, ([] : List UInt8), 0, p⟩, 0, rfl, by rw [if_neg (by simp; omega)], e2⟩

set_option maxRecDepth 100000 in
set_option maxHeartbeats 8000000 in
theorem rtok_name (s : List UInt8) (p : Nat) (w : World) (hp : p < s.length) (hs : s.length ≤ 4096) (hc : cls s[p].toNat = 2) (hl : ((s.drop p).takeWhile isW).length ≤ 24) :
    Calls Tryd.prog 21 #[.string ⟨s.toArray⟩, .int .i64 p] w (RTok (⟨0, ((s.drop p).takeWhile isW), 0, p⟩, ((s.drop p).takeWhile isW).length, decide (((s.drop p).takeWhile isW).length ≤ 24)) w) := by
  have hps : p < (⟨s.toArray⟩ : ByteArray).size := by show p < s.toArray.size; simpa using hp
  have hp1 : 0 ≤ (p : Int) := by omega
  have hp2 : (p : Int) < s.length := by omega
  have hs1 : (s.length : Int) ≤ 4096 := by omega
  have PL := Lib.hid (rletter_any (⟨s.toArray⟩ : ByteArray)[p])
  have PD := Lib.hid (rdigit_any (⟨s.toArray⟩ : ByteArray)[p])
  have PL2 := Lib.hid (show decide (cls (⟨s.toArray⟩ : ByteArray)[p].toNat = 2) = true from decide_eq_true hc)
  rw [PL2.out] at PL
  obtain ⟨W, hW⟩ : ∃ W, (s.drop p).takeWhile isW = W := ⟨_, rfl⟩
  have HW := Lib.hid (rword_any s p)
  rw [hW] at HW
  have hpre := List.prefix_iff_eq_take.1 (List.takeWhile_prefix isW (l := s.drop p))
  rw [hW] at hpre
  have hWl : p + W.length ≤ s.length := by
    have h1 := (List.takeWhile_prefix (p := isW) (l := s.drop p)).length_le
    rw [hW, List.length_drop] at h1; omega
  have hWi : (p : Int) + W.length ≤ s.length := by omega
  have X : (⟨s.toArray⟩ : ByteArray).extract p (p + W.length) = ⟨W.toArray⟩ := by rw [bx, show p + W.length - p = W.length by omega, ← hpre]
  have HWW := Lib.hid hW
  clear hpre
  rw [hW] at hl ⊢
  have hl2 : (W.length : Int) ≤ 24 := by omega
  go_enter Tryd.func21, Tryd.ntmps21
  go_wp2_with (first | (go_at_call 29; refine (PL.out _).mono ?_; rintro e w1 ⟨rfl, rfl⟩) | (go_at_call 31; refine (PD.out _).mono ?_; rintro e w2 ⟨rfl, rfl⟩))
  refine (HW.out _ (by omega) (by omega)).mono ?_; rintro e w3 ⟨rfl, b3⟩
  obtain ⟨HZ, HT, BB⟩ := ref_two #[.int .i64 0, .string ⟨#[]⟩, .int .i64 0, .int .i64 0] #[.int .i64 0, .string ⟨#[]⟩, .int .i64 0, .int .i64 p] b3
  have kz0 : w3.cell? ⟨w.heap.size, 0, none⟩ = some (.int .i64 0) := HZ.cell 0
  have fz0 := HZ.frozen 0
  have kz1 : w3.cell? ⟨w.heap.size, 1, none⟩ = some (.string ⟨#[]⟩) := HZ.cell 1
  have fz1 := HZ.frozen 1
  have kz2 : w3.cell? ⟨w.heap.size, 2, none⟩ = some (.int .i64 0) := HZ.cell 2
  have fz2 := HZ.frozen 2
  have kz3 : w3.cell? ⟨w.heap.size, 3, none⟩ = some (.int .i64 0) := HZ.cell 3
  have fz3 := HZ.frozen 3
  have kt0 : w3.cell? ⟨w.heap.size + 1, 0, none⟩ = some (.int .i64 0) := HT.cell 0
  have ft0 := HT.frozen 0
  have kt1 : w3.cell? ⟨w.heap.size + 1, 1, none⟩ = some (.string ⟨#[]⟩) := HT.cell 1
  have ft1 := HT.frozen 1
  have kt2 : w3.cell? ⟨w.heap.size + 1, 2, none⟩ = some (.int .i64 0) := HT.cell 2
  have ft2 := HT.frozen 2
  have kt3 : w3.cell? ⟨w.heap.size + 1, 3, none⟩ = some (.int .i64 p) := HT.cell 3
  have ft3 := HT.frozen 3
  have HZ2 := Lib.hid HZ
  have HT2 := Lib.hid HT
  have BB2 := Lib.hid BB
  clear HZ HT BB b3
  go_wp2_with fail
  obtain ⟨e1, e2⟩ := four (w3 := (w3.setCell ⟨w.heap.size + 1, 1, none⟩ (.string ⟨W.toArray⟩))) (a0 := .int .i64 0) (a1 := .string ⟨W.toArray⟩) (a2 := .int .i64 0) (a3 := .int .i64 p) (HZ2.out.far (p := ⟨w.heap.size + 1, 1, none⟩) (by show w.heap.size ≠ w.heap.size + 1; omega) (.string ⟨W.toArray⟩)) w.heap.size (BB2.out.setCell (p := ⟨w.heap.size + 1, 1, none⟩) (Nat.le_succ _) (.string ⟨W.toArray⟩)) (Nat.le_refl _)
  exact bodyPost_ret (rtok_res _ _ w.heap.size ⟨0, W, 0, p⟩ rfl e1) rfl ⟨⟨0, W, 0, p⟩, W.length, rfl, by rw [if_pos (by simpa using hl)]; exact ⟨rfl, rfl⟩, e2⟩

set_option maxRecDepth 100000 in
set_option maxHeartbeats 8000000 in
theorem rtok_int_no (s : List UInt8) (p : Nat) (w : World) (hp : p < s.length) (hs : s.length ≤ 4096) (hc : cls s[p].toNat = 3) (hl : parseB ((s.drop p).takeWhile isW) 0 numMax = false) :
    Calls Tryd.prog 21 #[.string ⟨s.toArray⟩, .int .i64 p] w (RTok (⟨1, [], parseN ((s.drop p).takeWhile isW) 0 numMax, p⟩, ((s.drop p).takeWhile isW).length, parseB ((s.drop p).takeWhile isW) 0 numMax) w) := by
  have hps : p < (⟨s.toArray⟩ : ByteArray).size := by show p < s.toArray.size; simpa using hp
  have hp1 : 0 ≤ (p : Int) := by omega
  have hp2 : (p : Int) < s.length := by omega
  have hs1 : (s.length : Int) ≤ 4096 := by omega
  have PL := Lib.hid (rletter_any (⟨s.toArray⟩ : ByteArray)[p])
  have PD := Lib.hid (rdigit_any (⟨s.toArray⟩ : ByteArray)[p])
  have PL2 := Lib.hid (show decide (cls (⟨s.toArray⟩ : ByteArray)[p].toNat = 2) = false from decide_eq_false (by rw [show cls (⟨s.toArray⟩ : ByteArray)[p].toNat = 3 from hc]; decide))
  have PD2 := Lib.hid (show decide (cls (⟨s.toArray⟩ : ByteArray)[p].toNat = 3) = true from decide_eq_true hc)
  rw [PL2.out] at PL
  rw [PD2.out] at PD
  obtain ⟨W, hW⟩ : ∃ W, (s.drop p).takeWhile isW = W := ⟨_, rfl⟩
  have HW := Lib.hid (rword_any s p)
  rw [hW] at HW
  have hpre := List.prefix_iff_eq_take.1 (List.takeWhile_prefix isW (l := s.drop p))
  rw [hW] at hpre
  have hWl : p + W.length ≤ s.length := by
    have h1 := (List.takeWhile_prefix (p := isW) (l := s.drop p)).length_le
    rw [hW, List.length_drop] at h1; omega
  have hWi : (p : Int) + W.length ≤ s.length := by omega
  have X : (⟨s.toArray⟩ : ByteArray).extract p (p + W.length) = ⟨W.toArray⟩ := by rw [bx, show p + W.length - p = W.length by omega, ← hpre]
  have HWW := Lib.hid hW
  clear hpre
  have HPP := Lib.hid (fun w1 => rparse_any W 0 1125899906842624 w1 (by omega))
  rw [hW] at hl ⊢
  have hl9 : parseB W 0 1125899906842624 = false := hl
  rw [hl9] at HPP
  obtain ⟨N, hN⟩ : ∃ N, parseN W 0 1125899906842624 = N := ⟨_, rfl⟩
  rw [hN] at HPP
  rw [show parseN W 0 numMax = N from hN, hl]
  clear hl hl9 hN
  go_enter Tryd.func21, Tryd.ntmps21
  go_wp2_with (first | (go_at_call 29; refine (PL.out _).mono ?_; rintro e w1 ⟨rfl, rfl⟩) | (go_at_call 31; refine (PD.out _).mono ?_; rintro e w2 ⟨rfl, rfl⟩))
  refine (HW.out _ (by omega) (by omega)).mono ?_; rintro e w3 ⟨rfl, b3⟩
  obtain ⟨HZ, HT, BB⟩ := ref_two #[.int .i64 0, .string ⟨#[]⟩, .int .i64 0, .int .i64 0] #[.int .i64 0, .string ⟨#[]⟩, .int .i64 0, .int .i64 p] b3
  have kz0 : w3.cell? ⟨w.heap.size, 0, none⟩ = some (.int .i64 0) := HZ.cell 0
  have fz0 := HZ.frozen 0
  have kz1 : w3.cell? ⟨w.heap.size, 1, none⟩ = some (.string ⟨#[]⟩) := HZ.cell 1
  have fz1 := HZ.frozen 1
  have kz2 : w3.cell? ⟨w.heap.size, 2, none⟩ = some (.int .i64 0) := HZ.cell 2
  have fz2 := HZ.frozen 2
  have kz3 : w3.cell? ⟨w.heap.size, 3, none⟩ = some (.int .i64 0) := HZ.cell 3
  have fz3 := HZ.frozen 3
  have kt0 : w3.cell? ⟨w.heap.size + 1, 0, none⟩ = some (.int .i64 0) := HT.cell 0
  have ft0 := HT.frozen 0
  have kt1 : w3.cell? ⟨w.heap.size + 1, 1, none⟩ = some (.string ⟨#[]⟩) := HT.cell 1
  have ft1 := HT.frozen 1
  have kt2 : w3.cell? ⟨w.heap.size + 1, 2, none⟩ = some (.int .i64 0) := HT.cell 2
  have ft2 := HT.frozen 2
  have kt3 : w3.cell? ⟨w.heap.size + 1, 3, none⟩ = some (.int .i64 p) := HT.cell 3
  have ft3 := HT.frozen 3
  have HZ2 := Lib.hid HZ
  have HT2 := Lib.hid HT
  have BB2 := Lib.hid BB
  clear HZ HT BB b3
  go_wp2_with fail
  refine (HPP.out _).mono ?_; rintro e w4 ⟨rfl, rfl⟩
  go_wp2_with fail
  obtain ⟨e1, e2⟩ := four (w3 := w3) (a0 := .int .i64 0) (a1 := .string ⟨([] : List UInt8).toArray⟩) (a2 := .int .i64 0) (a3 := .int .i64 p) HZ2.out w.heap.size BB2.out (Nat.le_refl _)
  exact bodyPost_ret (rtok_res _ _ w.heap.size ⟨0, ([] : List UInt8), 0, p⟩ rfl e1) rfl ⟨⟨0, ([] : List UInt8), 0, p⟩, 0, rfl, rfl, e2⟩

set_option maxRecDepth 100000 in
set_option maxHeartbeats 8000000 in
theorem rtok_int (s : List UInt8) (p : Nat) (w : World) (hp : p < s.length) (hs : s.length ≤ 4096) (hc : cls s[p].toNat = 3) (hl : parseB ((s.drop p).takeWhile isW) 0 numMax = true) :
    Calls Tryd.prog 21 #[.string ⟨s.toArray⟩, .int .i64 p] w (RTok (⟨1, [], parseN ((s.drop p).takeWhile isW) 0 numMax, p⟩, ((s.drop p).takeWhile isW).length, parseB ((s.drop p).takeWhile isW) 0 numMax) w) := by
  have hps : p < (⟨s.toArray⟩ : ByteArray).size := by show p < s.toArray.size; simpa using hp
  have hp1 : 0 ≤ (p : Int) := by omega
  have hp2 : (p : Int) < s.length := by omega
  have hs1 : (s.length : Int) ≤ 4096 := by omega
  have PL := Lib.hid (rletter_any (⟨s.toArray⟩ : ByteArray)[p])
  have PD := Lib.hid (rdigit_any (⟨s.toArray⟩ : ByteArray)[p])
  have PL2 := Lib.hid (show decide (cls (⟨s.toArray⟩ : ByteArray)[p].toNat = 2) = false from decide_eq_false (by rw [show cls (⟨s.toArray⟩ : ByteArray)[p].toNat = 3 from hc]; decide))
  have PD2 := Lib.hid (show decide (cls (⟨s.toArray⟩ : ByteArray)[p].toNat = 3) = true from decide_eq_true hc)
  rw [PL2.out] at PL
  rw [PD2.out] at PD
  obtain ⟨W, hW⟩ : ∃ W, (s.drop p).takeWhile isW = W := ⟨_, rfl⟩
  have HW := Lib.hid (rword_any s p)
  rw [hW] at HW
  have hpre := List.prefix_iff_eq_take.1 (List.takeWhile_prefix isW (l := s.drop p))
  rw [hW] at hpre
  have hWl : p + W.length ≤ s.length := by
    have h1 := (List.takeWhile_prefix (p := isW) (l := s.drop p)).length_le
    rw [hW, List.length_drop] at h1; omega
  have hWi : (p : Int) + W.length ≤ s.length := by omega
  have X : (⟨s.toArray⟩ : ByteArray).extract p (p + W.length) = ⟨W.toArray⟩ := by rw [bx, show p + W.length - p = W.length by omega, ← hpre]
  have HWW := Lib.hid hW
  clear hpre
  have HPP := Lib.hid (fun w1 => rparse_any W 0 1125899906842624 w1 (by omega))
  rw [hW] at hl ⊢
  have hl9 : parseB W 0 1125899906842624 = true := hl
  rw [hl9] at HPP
  obtain ⟨N, hN⟩ : ∃ N, parseN W 0 1125899906842624 = N := ⟨_, rfl⟩
  rw [hN] at HPP
  rw [show parseN W 0 numMax = N from hN, hl]
  clear hl hl9 hN
  go_enter Tryd.func21, Tryd.ntmps21
  go_wp2_with (first | (go_at_call 29; refine (PL.out _).mono ?_; rintro e w1 ⟨rfl, rfl⟩) | (go_at_call 31; refine (PD.out _).mono ?_; rintro e w2 ⟨rfl, rfl⟩))
  refine (HW.out _ (by omega) (by omega)).mono ?_; rintro e w3 ⟨rfl, b3⟩
  obtain ⟨HZ, HT, BB⟩ := ref_two #[.int .i64 0, .string ⟨#[]⟩, .int .i64 0, .int .i64 0] #[.int .i64 0, .string ⟨#[]⟩, .int .i64 0, .int .i64 p] b3
  have kz0 : w3.cell? ⟨w.heap.size, 0, none⟩ = some (.int .i64 0) := HZ.cell 0
  have fz0 := HZ.frozen 0
  have kz1 : w3.cell? ⟨w.heap.size, 1, none⟩ = some (.string ⟨#[]⟩) := HZ.cell 1
  have fz1 := HZ.frozen 1
  have kz2 : w3.cell? ⟨w.heap.size, 2, none⟩ = some (.int .i64 0) := HZ.cell 2
  have fz2 := HZ.frozen 2
  have kz3 : w3.cell? ⟨w.heap.size, 3, none⟩ = some (.int .i64 0) := HZ.cell 3
  have fz3 := HZ.frozen 3
  have kt0 : w3.cell? ⟨w.heap.size + 1, 0, none⟩ = some (.int .i64 0) := HT.cell 0
  have ft0 := HT.frozen 0
  have kt1 : w3.cell? ⟨w.heap.size + 1, 1, none⟩ = some (.string ⟨#[]⟩) := HT.cell 1
  have ft1 := HT.frozen 1
  have kt2 : w3.cell? ⟨w.heap.size + 1, 2, none⟩ = some (.int .i64 0) := HT.cell 2
  have ft2 := HT.frozen 2
  have kt3 : w3.cell? ⟨w.heap.size + 1, 3, none⟩ = some (.int .i64 p) := HT.cell 3
  have ft3 := HT.frozen 3
  have HZ2 := Lib.hid HZ
  have HT2 := Lib.hid HT
  have BB2 := Lib.hid BB
  clear HZ HT BB b3
  go_wp2_with fail
  refine (HPP.out _).mono ?_; rintro e w4 ⟨rfl, rfl⟩
  go_wp2_with fail
  obtain ⟨e1, e2⟩ := four (w3 := ((w3.setCell ⟨w.heap.size + 1, 0, none⟩ (.int .i64 1)).setCell ⟨w.heap.size + 1, 2, none⟩ (.int .i64 N))) (a0 := .int .i64 1) (a1 := .string ⟨([] : List UInt8).toArray⟩) (a2 := .int .i64 N) (a3 := .int .i64 p) ((HZ2.out.far (p := ⟨w.heap.size + 1, 0, none⟩) (by show w.heap.size ≠ w.heap.size + 1; omega) (.int .i64 1)).far (p := ⟨w.heap.size + 1, 2, none⟩) (by show w.heap.size ≠ w.heap.size + 1; omega) (.int .i64 N)) w.heap.size ((BB2.out.setCell (p := ⟨w.heap.size + 1, 0, none⟩) (Nat.le_succ _) (.int .i64 1)).setCell (p := ⟨w.heap.size + 1, 2, none⟩) (Nat.le_succ _) (.int .i64 N)) (Nat.le_refl _)
  exact bodyPost_ret (rtok_res _ _ w.heap.size ⟨1, ([] : List UInt8), N, p⟩ rfl e1) rfl ⟨⟨1, ([] : List UInt8), N, p⟩, W.length, rfl, ⟨rfl, rfl⟩, e2⟩

end Go.Proofs.YtammpndggdniiaaDoor
