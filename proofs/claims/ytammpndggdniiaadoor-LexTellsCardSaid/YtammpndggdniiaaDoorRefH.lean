/- The reference of lex: token, the other arms. -/
import Derived.Test.YtammpndggdniiaaDoorRefG
namespace Go.Proofs.YtammpndggdniiaaDoor
open Go.RowKit

theorem textS_pre {t : List UInt8} (h : (textS t).2 = true) : (textS t).1 = t.take (textS t).1.length := by
  unfold textS at h ⊢
  simp only at h ⊢
  split at h
  · rename_i h1
    rw [if_pos h1]
    simp only [List.length_take]
    rw [List.take_eq_take_iff]; omega
  · cases h
theorem opS_pre (t : List UInt8) : (opS t).1 = t.take (opS t).1.length := by
  unfold opS
  split
  · simp only [List.length_take]; rw [List.take_eq_take_iff]; omega
  · simp only [List.length_take]; rw [List.take_eq_take_iff]; omega
theorem quoted_le (t : List UInt8) : quotedN t ≤ t.length := by
  unfold quotedN
  split
  · exact textS_le t
  · omega
theorem signed_le {t : List UInt8} (h : t ≠ []) : signedN t ≤ t.length := by
  unfold signedN
  split
  · exact (opS_len h).2
  · omega

set_option maxRecDepth 100000 in
set_option maxHeartbeats 8000000 in
theorem rtok_quote_no (s : List UInt8) (p : Nat) (w : World) (hp : p < s.length) (hs : s.length ≤ 4096) (hc : s[p] = 34) (hq : (textS (s.drop p)).2 = false) :
    Calls Tryd.prog 21 #[.string ⟨s.toArray⟩, .int .i64 p] w (RTok (⟨0, [], 0, p⟩, 0, false) w) := by
  have hps : p < (⟨s.toArray⟩ : ByteArray).size := by show p < s.toArray.size; simpa using hp
  have hp1 : 0 ≤ (p : Int) := by omega
  have hp2 : (p : Int) < s.length := by omega
  have hs1 : (s.length : Int) ≤ 4096 := by omega
  have g34 : (((⟨s.toArray⟩ : ByteArray)[p].toNat : Nat) : Int) = 34 := by rw [show (⟨s.toArray⟩ : ByteArray)[p] = 34 from hc]; rfl
  have PL := Lib.hid (fun w => (rletter_any 34 w : Calls Tryd.prog 29 #[.int .u8 34] w fun e w' => e = .returned (.bool false) ∧ w = w'))
  have PD := Lib.hid (fun w => (rdigit_any 34 w : Calls Tryd.prog 31 #[.int .u8 34] w fun e w' => e = .returned (.bool false) ∧ w = w'))
  have HQ := Lib.hid (fun w1 => rquoted_any s p w1 hp hs)
  rw [show quotedN (s.drop p) = 0 by unfold quotedN; rw [hq]; rfl] at HQ
  clear hq hc
  go_enter Tryd.func21, Tryd.ntmps21
  go_wp2_with (first | (go_at_call 29; refine (PL.out _).mono ?_; rintro e w1 ⟨rfl, rfl⟩) | (go_at_call 31; refine (PD.out _).mono ?_; rintro e w2 ⟨rfl, rfl⟩))
  refine (HQ.out _).mono ?_; rintro e w3 ⟨rfl, b3⟩
  obtain ⟨HZ, HT, BB⟩ := ref_two #[.int .i64 0, .string ⟨#[]⟩, .int .i64 0, .int .i64 0] #[.int .i64 0, .string ⟨#[]⟩, .int .i64 0, .int .i64 p] b3
  have kz0 : w3.cell? ⟨w.heap.size, 0, none⟩ = some (.int .i64 0) := HZ.cell 0
  have fz0 := HZ.frozen 0
  have kz1 : w3.cell? ⟨w.heap.size, 1, none⟩ = some (.string ⟨#[]⟩) := HZ.cell 1
  have fz1 := HZ.frozen 1
  have kz2 : w3.cell? ⟨w.heap.size, 2, none⟩ = some (.int .i64 0) := HZ.cell 2
  have fz2 := HZ.frozen 2
  have kz3 : w3.cell? ⟨w.heap.size, 3, none⟩ = some (.int .i64 0) := HZ.cell 3
  have fz3 := HZ.frozen 3
  have kt0 : w3.cell? ⟨w.heap.size + 1, 0, none⟩ = some (.int .i64 0) := HT.cell 0
  have ft0 := HT.frozen 0
  have kt1 : w3.cell? ⟨w.heap.size + 1, 1, none⟩ = some (.string ⟨#[]⟩) := HT.cell 1
  have ft1 := HT.frozen 1
  have kt2 : w3.cell? ⟨w.heap.size + 1, 2, none⟩ = some (.int .i64 0) := HT.cell 2
  have ft2 := HT.frozen 2
  have kt3 : w3.cell? ⟨w.heap.size + 1, 3, none⟩ = some (.int .i64 p) := HT.cell 3
  have ft3 := HT.frozen 3
  have HZ2 := Lib.hid HZ
  have HT2 := Lib.hid HT
  have BB2 := Lib.hid BB
  clear HZ HT BB b3
  go_wp2_with fail
  obtain ⟨e1, e2⟩ := four (w3 := w3) (a0 := .int .i64 0) (a1 := .string ⟨([] : List UInt8).toArray⟩) (a2 := .int .i64 0) (a3 := .int .i64 p) HZ2.out w.heap.size BB2.out (Nat.le_refl _)
  exact bodyPost_ret (rtok_res _ _ w.heap.size ⟨0, [], 0, p⟩ rfl e1) rfl ⟨⟨0, [], 0, p⟩, 0, rfl, rfl, e2⟩

set_option maxRecDepth 100000 in
set_option maxHeartbeats 8000000 in
theorem rtok_quote (s : List UInt8) (p : Nat) (w : World) (hp : p < s.length) (hs : s.length ≤ 4096) (hc : s[p] = 34) (hq : (textS (s.drop p)).2 = true) :
    Calls Tryd.prog 21 #[.string ⟨s.toArray⟩, .int .i64 p] w (RTok (⟨2, ((textS (s.drop p)).1.drop 1).take ((textS (s.drop p)).1.length - 2), 0, p⟩, (textS (s.drop p)).1.length, true) w) := by
  have hps : p < (⟨s.toArray⟩ : ByteArray).size := by show p < s.toArray.size; simpa using hp
  have hp1 : 0 ≤ (p : Int) := by omega
  have hp2 : (p : Int) < s.length := by omega
  have hs1 : (s.length : Int) ≤ 4096 := by omega
  have g34 : (((⟨s.toArray⟩ : ByteArray)[p].toNat : Nat) : Int) = 34 := by rw [show (⟨s.toArray⟩ : ByteArray)[p] = 34 from hc]; rfl
  have PL := Lib.hid (fun w => (rletter_any 34 w : Calls Tryd.prog 29 #[.int .u8 34] w fun e w' => e = .returned (.bool false) ∧ w = w'))
  have PD := Lib.hid (fun w => (rdigit_any 34 w : Calls Tryd.prog 31 #[.int .u8 34] w fun e w' => e = .returned (.bool false) ∧ w = w'))
  have HQ := Lib.hid (fun w1 => rquoted_any s p w1 hp hs)
  have h2 := textS_two hq
  have h3 := textS_le (s.drop p)
  have h4 := textS_pre hq
  rw [List.length_drop] at h3
  rw [show quotedN (s.drop p) = (textS (s.drop p)).1.length by unfold quotedN; rw [hq]; rfl] at HQ
  generalize (textS (s.drop p)).1 = V at *
  obtain ⟨m, hm⟩ : ∃ m, V.length = m + 2 := ⟨V.length - 2, by omega⟩
  have hY : (V.drop 1).take m = (s.drop (p + 1)).take m := by
    rw [h4, hm, List.drop_take, List.drop_drop, List.take_take]; congr 1; omega
  have X : (⟨s.toArray⟩ : ByteArray).extract (p + 1) (p + (m + 1)) = ⟨((V.drop 1).take m).toArray⟩ := by rw [bx, hY]; congr 2; congr 1; omega
  rw [hm, Nat.add_sub_cancel]
  rw [hm] at HQ h3
  generalize (V.drop 1).take m = Y at *
  have hm1 : (p : Int) + (m + 2) ≤ s.length := by omega
  have hm2 : (p : Int) + (m + 2) - 1 = (p : Int) + (m + 1) := by omega
  have hm0 : 0 ≤ (m : Int) := by omega
  clear hq hc h2 h4 hm hY
  go_enter Tryd.func21, Tryd.ntmps21
  go_wp2_with (first | (go_at_call 29; refine (PL.out _).mono ?_; rintro e w1 ⟨rfl, rfl⟩) | (go_at_call 31; refine (PD.out _).mono ?_; rintro e w2 ⟨rfl, rfl⟩))
  refine (HQ.out _).mono ?_; rintro e w3 ⟨rfl, b3⟩
  rw [show ((m + 2 : Nat) : Int) = (m : Int) + 2 by omega]
  obtain ⟨HZ, HT, BB⟩ := ref_two #[.int .i64 0, .string ⟨#[]⟩, .int .i64 0, .int .i64 0] #[.int .i64 0, .string ⟨#[]⟩, .int .i64 0, .int .i64 p] b3
  have kz0 : w3.cell? ⟨w.heap.size, 0, none⟩ = some (.int .i64 0) := HZ.cell 0
  have fz0 := HZ.frozen 0
  have kz1 : w3.cell? ⟨w.heap.size, 1, none⟩ = some (.string ⟨#[]⟩) := HZ.cell 1
  have fz1 := HZ.frozen 1
  have kz2 : w3.cell? ⟨w.heap.size, 2, none⟩ = some (.int .i64 0) := HZ.cell 2
  have fz2 := HZ.frozen 2
  have kz3 : w3.cell? ⟨w.heap.size, 3, none⟩ = some (.int .i64 0) := HZ.cell 3
  have fz3 := HZ.frozen 3
  have kt0 : w3.cell? ⟨w.heap.size + 1, 0, none⟩ = some (.int .i64 0) := HT.cell 0
  have ft0 := HT.frozen 0
  have kt1 : w3.cell? ⟨w.heap.size + 1, 1, none⟩ = some (.string ⟨#[]⟩) := HT.cell 1
  have ft1 := HT.frozen 1
  have kt2 : w3.cell? ⟨w.heap.size + 1, 2, none⟩ = some (.int .i64 0) := HT.cell 2
  have ft2 := HT.frozen 2
  have kt3 : w3.cell? ⟨w.heap.size + 1, 3, none⟩ = some (.int .i64 p) := HT.cell 3
  have ft3 := HT.frozen 3
  have HZ2 := Lib.hid HZ
  have HT2 := Lib.hid HT
  have BB2 := Lib.hid BB
  clear HZ HT BB b3
  go_wp2_with fail
  obtain ⟨e1, e2⟩ := four (w3 := ((w3.setCell ⟨w.heap.size + 1, 0, none⟩ (.int .i64 2)).setCell ⟨w.heap.size + 1, 1, none⟩ (.string ⟨Y.toArray⟩))) (a0 := .int .i64 2) (a1 := .string ⟨Y.toArray⟩) (a2 := .int .i64 0) (a3 := .int .i64 p) ((HZ2.out.far (p := ⟨w.heap.size + 1, 0, none⟩) (by show w.heap.size ≠ w.heap.size + 1; omega) (.int .i64 2)).far (p := ⟨w.heap.size + 1, 1, none⟩) (by show w.heap.size ≠ w.heap.size + 1; omega) (.string ⟨Y.toArray⟩)) w.heap.size ((BB2.out.setCell (p := ⟨w.heap.size + 1, 0, none⟩) (Nat.le_succ _) (.int .i64 2)).setCell (p := ⟨w.heap.size + 1, 1, none⟩) (Nat.le_succ _) (.string ⟨Y.toArray⟩)) (Nat.le_refl _)
  exact bodyPost_ret (rtok_res _ _ w.heap.size ⟨2, Y, 0, p⟩ rfl e1) rfl ⟨⟨2, Y, 0, p⟩, m + 2, rfl, ⟨rfl, rfl⟩, e2⟩

set_option maxRecDepth 100000 in
set_option maxHeartbeats 8000000 in
theorem rtok_sign (s : List UInt8) (p : Nat) (w : World) (hp : p < s.length) (hs : s.length ≤ 4096) (h2 : ¬ cls s[p].toNat = 2) (h3 : ¬ cls s[p].toNat = 3) (h4 : s[p] ≠ 34) :
    Calls Tryd.prog 21 #[.string ⟨s.toArray⟩, .int .i64 p] w fun e w' => e = .returned (.tuple #[.agg #[.int .i64 3, .string ⟨((s.drop p).take (signedN (s.drop p))).toArray⟩, .int .i64 0, .int .i64 p], .int .i64 (signedN (s.drop p))]) ∧ Below w.heap.size w w' := by
  have hps : p < (⟨s.toArray⟩ : ByteArray).size := by show p < s.toArray.size; simpa using hp
  have hp1 : 0 ≤ (p : Int) := by omega
  have hp2 : (p : Int) < s.length := by omega
  have hs1 : (s.length : Int) ≤ 4096 := by omega
  have PL := Lib.hid (rletter_any (⟨s.toArray⟩ : ByteArray)[p])
  have PD := Lib.hid (rdigit_any (⟨s.toArray⟩ : ByteArray)[p])
  rw [show decide (cls (⟨s.toArray⟩ : ByteArray)[p].toNat = 2) = false from decide_eq_false h2] at PL
  rw [show decide (cls (⟨s.toArray⟩ : ByteArray)[p].toNat = 3) = false from decide_eq_false h3] at PD
  have g34 : ((((⟨s.toArray⟩ : ByteArray)[p].toNat : Nat) : Int) == 34) = false := by
    rw [beq_eq_false_iff_ne]; intro h; exact h4 (UInt8.toNat_inj.1 (by have h5 : s[p].toNat = 34 := Int.ofNat.inj h; exact h5))
  have HQ := Lib.hid (fun w1 => rsigned_any s p w1 hp hs)
  have hle := signed_le (t := s.drop p) (by intro h; have := congrArg List.length h; simp at this; omega)
  rw [List.length_drop] at hle
  obtain ⟨m, hm⟩ : ∃ m, signedN (s.drop p) = m := ⟨_, rfl⟩
  rw [hm] at HQ hle ⊢
  have X : (⟨s.toArray⟩ : ByteArray).extract p (p + m) = ⟨((s.drop p).take m).toArray⟩ := by rw [bx, show p + m - p = m by omega]
  have hm1 : (p : Int) + m ≤ s.length := by omega
  have hm0 : 0 ≤ (m : Int) := by omega
  generalize (s.drop p).take m = Y at *
  clear h2 h3 h4 hm
  go_enter Tryd.func21, Tryd.ntmps21
  go_wp2_with (first | (go_at_call 29; refine (PL.out _).mono ?_; rintro e w1 ⟨rfl, rfl⟩) | (go_at_call 31; refine (PD.out _).mono ?_; rintro e w2 ⟨rfl, rfl⟩))
  refine (HQ.out _).mono ?_; rintro e w3 ⟨rfl, b3⟩
  obtain ⟨HZ, HT, BB⟩ := ref_two #[.int .i64 0, .string ⟨#[]⟩, .int .i64 0, .int .i64 0] #[.int .i64 0, .string ⟨#[]⟩, .int .i64 0, .int .i64 p] b3
  have kz0 : w3.cell? ⟨w.heap.size, 0, none⟩ = some (.int .i64 0) := HZ.cell 0
  have fz0 := HZ.frozen 0
  have kz1 : w3.cell? ⟨w.heap.size, 1, none⟩ = some (.string ⟨#[]⟩) := HZ.cell 1
  have fz1 := HZ.frozen 1
  have kz2 : w3.cell? ⟨w.heap.size, 2, none⟩ = some (.int .i64 0) := HZ.cell 2
  have fz2 := HZ.frozen 2
  have kz3 : w3.cell? ⟨w.heap.size, 3, none⟩ = some (.int .i64 0) := HZ.cell 3
  have fz3 := HZ.frozen 3
  have kt0 : w3.cell? ⟨w.heap.size + 1, 0, none⟩ = some (.int .i64 0) := HT.cell 0
  have ft0 := HT.frozen 0
  have kt1 : w3.cell? ⟨w.heap.size + 1, 1, none⟩ = some (.string ⟨#[]⟩) := HT.cell 1
  have ft1 := HT.frozen 1
  have kt2 : w3.cell? ⟨w.heap.size + 1, 2, none⟩ = some (.int .i64 0) := HT.cell 2
  have ft2 := HT.frozen 2
  have kt3 : w3.cell? ⟨w.heap.size + 1, 3, none⟩ = some (.int .i64 p) := HT.cell 3
  have ft3 := HT.frozen 3
  have HZ2 := Lib.hid HZ
  have HT2 := Lib.hid HT
  have BB2 := Lib.hid BB
  clear HZ HT BB b3
  go_wp2_with fail
  obtain ⟨e1, e2⟩ := four (w3 := ((w3.setCell ⟨w.heap.size + 1, 0, none⟩ (.int .i64 3)).setCell ⟨w.heap.size + 1, 1, none⟩ (.string ⟨Y.toArray⟩))) (a0 := .int .i64 3) (a1 := .string ⟨Y.toArray⟩) (a2 := .int .i64 0) (a3 := .int .i64 p) ((HZ2.out.far (p := ⟨w.heap.size + 1, 0, none⟩) (by show w.heap.size ≠ w.heap.size + 1; omega) (.int .i64 3)).far (p := ⟨w.heap.size + 1, 1, none⟩) (by show w.heap.size ≠ w.heap.size + 1; omega) (.string ⟨Y.toArray⟩)) w.heap.size ((BB2.out.setCell (p := ⟨w.heap.size + 1, 0, none⟩) (Nat.le_succ _) (.int .i64 3)).setCell (p := ⟨w.heap.size + 1, 1, none⟩) (Nat.le_succ _) (.string ⟨Y.toArray⟩)) (Nat.le_refl _)
  exact bodyPost_ret (rtok_res _ _ w.heap.size ⟨3, Y, 0, p⟩ rfl e1) rfl ⟨rfl, e2⟩

theorem rtok_any (s : List UInt8) (p : Nat) (w : World) (hp : p < s.length) (hs : s.length ≤ 4096) :
    Calls Tryd.prog 21 #[.string ⟨s.toArray⟩, .int .i64 p] w (RTok (nextS (s.drop p) p) w) := by
  have hd : (s.drop p).headD 0 = s[p] := by
    rw [List.headD_eq_head?_getD, List.head?_drop, List.getElem?_eq_getElem hp]; rfl
  have hne : s.drop p ≠ [] := by intro h; have := congrArg List.length h; simp at this; omega
  by_cases h2 : cls s[p].toNat = 2
  · have e : nextS (s.drop p) p = (⟨0, (s.drop p).takeWhile isW, 0, p⟩, ((s.drop p).takeWhile isW).length, decide (((s.drop p).takeWhile isW).length ≤ 24)) := by unfold nextS; rw [hd, if_pos h2]
    rw [e]
    by_cases hl : ((s.drop p).takeWhile isW).length ≤ 24
    · exact rtok_name s p w hp hs h2 hl
    · exact rtok_name_no s p w hp hs h2 (by omega)
  by_cases h3 : cls s[p].toNat = 3
  · have e : nextS (s.drop p) p = (⟨1, [], parseN ((s.drop p).takeWhile isW) 0 numMax, p⟩, ((s.drop p).takeWhile isW).length, parseB ((s.drop p).takeWhile isW) 0 numMax) := by unfold nextS; rw [hd, if_neg h2, if_pos h3]
    rw [e]
    cases hl : parseB ((s.drop p).takeWhile isW) 0 numMax with
    | true => have := rtok_int s p w hp hs h3 hl; rwa [hl] at this
    | false => have := rtok_int_no s p w hp hs h3 hl; rwa [hl] at this
  by_cases h4 : s[p] = 34
  · have h5 : cls s[p].toNat = 4 := by rw [h4]; decide
    cases hq : (textS (s.drop p)).2 with
    | true =>
      have e : nextS (s.drop p) p = (⟨2, ((textS (s.drop p)).1.drop 1).take ((textS (s.drop p)).1.length - 2), 0, p⟩, (textS (s.drop p)).1.length, true) := by unfold nextS; rw [hd, if_neg h2, if_neg h3, if_pos h5, if_pos hq]
      rw [e]; exact rtok_quote s p w hp hs h4 hq
    | false =>
      have e : nextS (s.drop p) p = (⟨0, [], 0, p⟩, 0, false) := by unfold nextS; rw [hd, if_neg h2, if_neg h3, if_pos h5, if_neg (by rw [hq]; decide)]
      rw [e]; exact rtok_quote_no s p w hp hs h4 hq
  · have h5 : ¬ cls s[p].toNat = 4 := fun h => h4 (cls4 h)
    refine (rtok_sign s p w hp hs h2 h3 h4).mono ?_
    rintro e w' ⟨rfl, b⟩
    refine ⟨⟨3, (s.drop p).take (signedN (s.drop p)), 0, p⟩, signedN (s.drop p), rfl, ?_, b⟩
    by_cases h6 : cls s[p].toNat = 5
    · have e : nextS (s.drop p) p = (⟨3, (opS (s.drop p)).1, 0, p⟩, (opS (s.drop p)).1.length, (opS (s.drop p)).2) := nx_sign (by rw [hd]; exact h6) p
      rw [e]
      cases ho : (opS (s.drop p)).2 with
      | true =>
        have e2 : signedN (s.drop p) = (opS (s.drop p)).1.length := by unfold signedN; rw [hd, if_pos ⟨h6, ho⟩]
        rw [if_pos rfl, e2, ← opS_pre]; exact ⟨rfl, rfl⟩
      | false =>
        rw [if_neg (by decide)]
        unfold signedN; rw [hd, if_neg (by rw [ho]; rintro ⟨_, h⟩; cases h)]
    · have e : (nextS (s.drop p) p).2.2 = false := by unfold nextS; rw [hd, if_neg h2, if_neg h3, if_neg h5, if_neg h6]
      rw [if_neg (by rw [e]; decide)]
      unfold signedN; rw [hd, if_neg (fun h => h6 h.1)]
end Go.Proofs.YtammpndggdniiaaDoor
