/- LexSpaces: the law's walk. -/
import Derived.Test.YtammpndggdniiaaDoorLexX1
import Derived.Test.YtammpndggdniiaaDoorLexU
import Derived.BigQuiet
import Derived.Deep.RegionHeld3
namespace Go.Proofs.YtammpndggdniiaaDoor
open Go.RowKit

set_option maxRecDepth 100000 in
set_option maxHeartbeats 8000000 in
theorem lexspaces_no (s sp : List UInt8) (n : Int) (w : World) (hL : Ld w) (h : ¬ (s.length ≤ 2000 ∧ sp.length ≤ 20 ∧ sp.all isB = true)) (hs : s.length ≤ 140737488355328) (hp : sp.length ≤ 140737488355328) :
    Calls Tryd.prog 6 #[.string ⟨s.toArray⟩, .int .i64 n, .string ⟨sp.toArray⟩] w fun e w' => e = .returned (.bool true) ∧ Below w.heap.size w w' := by
  have S := Lib.hid (small_any w hL)
  have PB := Lib.hid (fun w1 => blank_any sp w1 hp)
  clear hL
  by_cases h1 : s.length ≤ 2000
  · by_cases h2 : sp.length ≤ 20
    · have h3 : sp.all isB = false := by cases h3 : sp.all isB <;> simp_all
      rw [h3] at PB
      have g1 : (s.length : Int) ≤ 2000 := by omega
      have g2 : (sp.length : Int) ≤ 20 := by omega
      clear h h3
      go_enter Tryd.func6, Tryd.ntmps6
      go_wp2_with fail
      refine S.out.mono ?_; rintro e w1 ⟨rfl, b1⟩
      have B := Lib.hid b1
      clear b1
      go_wp2_with fail
      refine (PB.out _).mono ?_; rintro e w3 ⟨rfl, b3⟩
      replace B := Lib.hid (B.out.trans (b3.mono B.out.size))
      clear b3
      go_wp2_with fail
      go_ret
      exact ⟨rfl, B.out⟩
    · have g1 : (s.length : Int) ≤ 2000 := by omega
      have g2 : (20 : Int) < sp.length := by omega
      clear h
      go_enter Tryd.func6, Tryd.ntmps6
      go_wp2_with fail
      refine S.out.mono ?_; rintro e w1 ⟨rfl, b1⟩
      go_wp2_with fail
      go_ret
      exact ⟨rfl, b1⟩
  · have g1 : (2000 : Int) < s.length := by omega
    clear h
    go_enter Tryd.func6, Tryd.ntmps6
    go_wp2_with fail
    refine S.out.mono ?_; rintro e w1 ⟨rfl, b1⟩
    go_wp2_with fail
    go_ret
    exact ⟨rfl, b1⟩
set_option maxRecDepth 100000 in
set_option maxHeartbeats 8000000 in
theorem lexspaces_bad (s sp : List UInt8) (n : Int) (p : Nat) (w : World) (hL : Ld w) (h1 : s.length ≤ 2000) (h2 : sp.length ≤ 20) (h3 : sp.all isB = true) (hr : scanR s = (none, 2, p)) :
    Calls Tryd.prog 6 #[.string ⟨s.toArray⟩, .int .i64 n, .string ⟨sp.toArray⟩] w fun e w' => e = .returned (.bool true) ∧ Below w.heap.size w w' := by
  have S := Lib.hid (small_any w hL)
  have PB := Lib.hid (fun w1 => blank_any sp w1 (by omega))
  have P := Lib.hid (fun w1 b => scan_at hr w w1 hL b)
  rw [h3] at PB
  have g1 : (s.length : Int) ≤ 2000 := by omega
  have g2 : (sp.length : Int) ≤ 20 := by omega
  clear h3 hL hr
  go_enter Tryd.func6, Tryd.ntmps6
  go_wp2_with fail
  refine S.out.mono ?_; rintro e w1 ⟨rfl, b1⟩
  have B := Lib.hid b1
  clear b1
  go_wp2_with fail
  refine (PB.out _).mono ?_; rintro e w3 ⟨rfl, b3⟩
  replace B := Lib.hid (B.out.trans (b3.mono B.out.size))
  clear b3
  go_wp2_with fail
  refine (P.out _ B.out).mono ?_; rintro e w2 ⟨rfl, b2⟩
  replace B := Lib.hid (B.out.trans (b2.mono B.out.size))
  clear b2
  go_wp2_with fail
  go_ret
  exact ⟨rfl, B.out⟩
def idxS (n : Int) (N : Nat) : Nat := (if n.tmod N < 0 then n.tmod N + N else n.tmod N).toNat
theorem idxS_bd (n : Int) {N : Nat} (h : 0 < N) : (0 ≤ n.tmod N ∨ n.tmod N < 0) ∧ n.tmod N < N ∧ -(N : Int) < n.tmod N ∧ idxS n N < N ∧ ((idxS n N : Nat) : Int) = (if n.tmod N < 0 then n.tmod N + N else n.tmod N) := by
  have h1 : n.tmod N < N := Int.tmod_lt_of_pos _ (by omega)
  have h2 : -(N : Int) < n.tmod N := by
    have := Int.tmod_lt_of_pos (-n) (show (0 : Int) < N by omega)
    rw [Int.neg_tmod] at this; omega
  unfold idxS
  split <;> omega
set_option maxRecDepth 100000 in
set_option maxHeartbeats 8000000 in
theorem lexspaces_ok (s sp : List UInt8) (n : Int) (l L : List Tok) (w : World) (hL : Ld w) (h1 : s.length ≤ 2000) (h2 : sp.length ≤ 20) (h3 : sp.all isB = true) (hn : -9223372036854775808 ≤ n ∧ n ≤ 9223372036854775807) (hU : scanU s 0 = (l, none)) (hLe : L = l ++ [⟨4, [], 0, s.length⟩]) (hr : scanR s = (some L, 0, 0)) :
    Calls Tryd.prog 6 #[.string ⟨s.toArray⟩, .int .i64 n, .string ⟨sp.toArray⟩] w fun e w' => e = .returned (.bool true) ∧ Below w.heap.size w w' := by
  have S := Lib.hid (small_any w hL)
  have PB := Lib.hid (fun w1 => blank_any sp w1 (by omega))
  have P := Lib.hid (fun w1 b => scan_at hr w w1 hL b)
  rw [h3] at PB
  have hk := (toks_ok hU s.length).2
  have hN : 0 < L.length := by rw [hLe]; simp
  obtain ⟨q0, q1, q2, q3, q4⟩ := idxS_bd n hN
  obtain ⟨k, e1, e2, ⟨a, e3, e4⟩, b, e5, e6⟩ := spaces_plain h1 h2 h3 hU (idxS n L.length) (by rw [← hLe]; exact q3)
  simp only [← hLe] at e2 e4 e6 hk
  have P1 := Lib.hid (fun w1 b => scan_at e3 w w1 hL b)
  have P2 := Lib.hid (fun w1 b => scan_at e5 w w1 hL b)
  have S1 := Lib.hid (fun A B c d w1 hA hB => same_any A B c d L a w1 hA hB e4 (by omega))
  have S2 := Lib.hid (fun A B c d w1 hA hB => same_any A B c d L b w1 hA hB e6 (by omega))
  have g1 : (s.length : Int) ≤ 2000 := by omega
  have g2 : (sp.length : Int) ≤ 20 := by omega
  have g3 : (0 : Int) < L.length := by omega
  have g4 : (L.length : Int) ≤ 2001 := by omega
  have HE : Hid ((L[idxS n L.length]'q3).at_ = (k : Int)) := Lib.hid e2
  clear h3 hL hr e3 e4 e5 e6 hU hLe e2
  by_cases hneg : n.tmod L.length < 0
  · rw [if_pos hneg] at q4
    have hi : idxS n L.length = (n.tmod L.length + L.length).toNat := by unfold idxS; rw [if_pos hneg]
    have HI := Lib.hid hi
    clear hi
    go_enter Tryd.func6, Tryd.ntmps6
    go_wp2_with fail
    refine S.out.mono ?_; rintro e w1 ⟨rfl, b1⟩
    have B := Lib.hid b1
    clear b1
    go_wp2_with fail
    refine (PB.out _).mono ?_; rintro e w3 ⟨rfl, b3⟩
    replace B := Lib.hid (B.out.trans (b3.mono B.out.size))
    clear b3
    go_wp2_with fail
    refine (P.out _ B.out).mono ?_; rintro e w2 ⟨⟨g, c, rfl, O2⟩, b2⟩
    replace B := Lib.hid (B.out.trans (b2.mono B.out.size))
    have T := Lib.hid O2.toks
    obtain ⟨b', o', x, hbo, hx, hb, d0, d1, d2, d3⟩ := O2.toks.get q3 (Below.refl _ _)
    injection hbo with hbo; injection hbo with hb' ho' _
    subst hb' ho'
    have hat := (congrArg Tok.at_ hx.out).symm.trans HE.out
    rw [hat, Nat.zero_add, HI.out] at d3
    clear b2 O2 d0 d1 d2
    have hk1 : 0 ≤ (k : Int) := by omega
    have hk2 : (k : Int) ≤ s.length := by omega
    have y1 : ¬ 9223372036854775807 < k + sp.length := by omega
    have y2 : ¬ 9223372036854775807 < k + sp.length + (s.length - k) := by omega
    have X1 : (⟨s.toArray⟩ : ByteArray).extract 0 k = ⟨(s.take k).toArray⟩ := bx_take s k
    have X2 : (⟨s.toArray⟩ : ByteArray).extract k s.length = ⟨(s.drop k).toArray⟩ := bx_end s k
    have C1 := Lib.hid (show ByteArray.mk (s.take k).toArray ++ ByteArray.mk sp.toArray ++ ByteArray.mk (s.drop k).toArray = ByteArray.mk (s.take k ++ (sp ++ s.drop k)).toArray by rw [ByteArray.mk_append_mk, ByteArray.mk_append_mk]; simp)
    have C2 := Lib.hid (show ByteArray.mk sp.toArray ++ ByteArray.mk s.toArray ++ ByteArray.mk sp.toArray = ByteArray.mk (sp ++ (s ++ sp)).toArray by rw [ByteArray.mk_append_mk, ByteArray.mk_append_mk]; simp)
    go_wp2_with fail
    go_region_held3 (fun _ => True) (trivial) (first | (go_at_call 10; rw [C1.out]; refine (P1.out _ (below_drew B.out)).mono ?_; rintro e w4 ⟨⟨g4, c4, rfl, O4⟩, b4⟩))
    replace B := Lib.hid ((below_drew B.out).trans (b4.mono B.out.size))
    replace T := Lib.hid ((T.out.later (w := w2) (wr := w2.drew) (below_drew (Below.refl _ _))).later b4)
    have T4 := Lib.hid O4.toks
    clear b4 O4
    go_wp2_with fail
    rw [C2.out]
    refine (P2.out _ B.out).mono ?_; rintro e w5 ⟨⟨g5, c5, rfl, O5⟩, b5⟩
    replace B := Lib.hid (B.out.trans (b5.mono B.out.size))
    replace T := Lib.hid (T.out.later b5)
    replace T4 := Lib.hid (T4.out.later b5)
    have T5 := Lib.hid O5.toks
    clear b5 O5
    go_wp2_with fail
    refine (S1.out _ _ _ _ _ T.out T4.out).mono ?_; rintro e w6 ⟨rfl, b6⟩
    replace B := Lib.hid (B.out.trans (b6.mono B.out.size))
    replace T := Lib.hid (T.out.later b6)
    replace T5 := Lib.hid (T5.out.later b6)
    clear b6
    go_wp2_with fail
    refine (S2.out _ _ _ _ _ T.out T5.out).mono ?_; rintro e w7 ⟨rfl, b7⟩
    replace B := Lib.hid (B.out.trans (b7.mono B.out.size))
    clear b7
    go_wp2_with fail
    go_ret
    exact ⟨rfl, B.out⟩
  · rw [if_neg hneg] at q4
    have hpos : 0 ≤ n.tmod L.length := by omega
    have hi : idxS n L.length = (n.tmod L.length).toNat := by unfold idxS; rw [if_neg hneg]
    have HI := Lib.hid hi
    clear hi
    go_enter Tryd.func6, Tryd.ntmps6
    go_wp2_with fail
    refine S.out.mono ?_; rintro e w1 ⟨rfl, b1⟩
    have B := Lib.hid b1
    clear b1
    go_wp2_with fail
    refine (PB.out _).mono ?_; rintro e w3 ⟨rfl, b3⟩
    replace B := Lib.hid (B.out.trans (b3.mono B.out.size))
    clear b3
    go_wp2_with fail
    refine (P.out _ B.out).mono ?_; rintro e w2 ⟨⟨g, c, rfl, O2⟩, b2⟩
    replace B := Lib.hid (B.out.trans (b2.mono B.out.size))
    have T := Lib.hid O2.toks
    obtain ⟨b', o', x, hbo, hx, hb, d0, d1, d2, d3⟩ := O2.toks.get q3 (Below.refl _ _)
    injection hbo with hbo; injection hbo with hb' ho' _
    subst hb' ho'
    have hat := (congrArg Tok.at_ hx.out).symm.trans HE.out
    rw [hat, Nat.zero_add, HI.out] at d3
    clear b2 O2 d0 d1 d2
    have hk1 : 0 ≤ (k : Int) := by omega
    have hk2 : (k : Int) ≤ s.length := by omega
    have y1 : ¬ 9223372036854775807 < k + sp.length := by omega
    have y2 : ¬ 9223372036854775807 < k + sp.length + (s.length - k) := by omega
    have X1 : (⟨s.toArray⟩ : ByteArray).extract 0 k = ⟨(s.take k).toArray⟩ := bx_take s k
    have X2 : (⟨s.toArray⟩ : ByteArray).extract k s.length = ⟨(s.drop k).toArray⟩ := bx_end s k
    have C1 := Lib.hid (show ByteArray.mk (s.take k).toArray ++ ByteArray.mk sp.toArray ++ ByteArray.mk (s.drop k).toArray = ByteArray.mk (s.take k ++ (sp ++ s.drop k)).toArray by rw [ByteArray.mk_append_mk, ByteArray.mk_append_mk]; simp)
    have C2 := Lib.hid (show ByteArray.mk sp.toArray ++ ByteArray.mk s.toArray ++ ByteArray.mk sp.toArray = ByteArray.mk (sp ++ (s ++ sp)).toArray by rw [ByteArray.mk_append_mk, ByteArray.mk_append_mk]; simp)
    go_wp2_with fail
    go_region_held3 (fun _ => True) (trivial) (first | (go_at_call 10; rw [C1.out]; refine (P1.out _ (below_drew B.out)).mono ?_; rintro e w4 ⟨⟨g4, c4, rfl, O4⟩, b4⟩))
    replace B := Lib.hid ((below_drew B.out).trans (b4.mono B.out.size))
    replace T := Lib.hid ((T.out.later (w := w2) (wr := w2.drew) (below_drew (Below.refl _ _))).later b4)
    have T4 := Lib.hid O4.toks
    clear b4 O4
    go_wp2_with fail
    rw [C2.out]
    refine (P2.out _ B.out).mono ?_; rintro e w5 ⟨⟨g5, c5, rfl, O5⟩, b5⟩
    replace B := Lib.hid (B.out.trans (b5.mono B.out.size))
    replace T := Lib.hid (T.out.later b5)
    replace T4 := Lib.hid (T4.out.later b5)
    have T5 := Lib.hid O5.toks
    clear b5 O5
    go_wp2_with fail
    refine (S1.out _ _ _ _ _ T.out T4.out).mono ?_; rintro e w6 ⟨rfl, b6⟩
    replace B := Lib.hid (B.out.trans (b6.mono B.out.size))
    replace T := Lib.hid (T.out.later b6)
    replace T5 := Lib.hid (T5.out.later b6)
    clear b6
    go_wp2_with fail
    refine (S2.out _ _ _ _ _ T.out T5.out).mono ?_; rintro e w7 ⟨rfl, b7⟩
    replace B := Lib.hid (B.out.trans (b7.mono B.out.size))
    clear b7
    go_wp2_with fail
    go_ret
    exact ⟨rfl, B.out⟩
theorem lexspaces_any (s : List UInt8) (n : Int) (sp : List UInt8) (w : World) (hL : Ld w) (hs : s.length ≤ 140737488355328) (hn : -9223372036854775808 ≤ n ∧ n ≤ 9223372036854775807) (hp : sp.length ≤ 140737488355328) :
    Calls Tryd.prog 6 #[.string ⟨s.toArray⟩, .int .i64 n, .string ⟨sp.toArray⟩] w fun e w' => e = .returned (.bool true) ∧ Below w.heap.size w w' := by
  by_cases h : s.length ≤ 2000 ∧ sp.length ≤ 20 ∧ sp.all isB = true
  · obtain ⟨h1, h2, h3⟩ := h
    rcases scan_cases (s := s) (by omega) with ⟨l, hr, hU⟩ | ⟨p, hr⟩
    · exact lexspaces_ok s sp n l _ w hL h1 h2 h3 hn hU rfl hr
    · exact lexspaces_bad s sp n p w hL h1 h2 h3 hr
  · exact lexspaces_no s sp n w hL h hs hp
end Go.Proofs.YtammpndggdniiaaDoor
