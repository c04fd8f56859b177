/- LexTells: the law's walk. -/
import Derived.Test.YtammpndggdniiaaDoorRefI
import Derived.Test.YtammpndggdniiaaDoorRefJ
import Derived.Test.YtammpndggdniiaaDoorLexU
namespace Go.Proofs.YtammpndggdniiaaDoor
open Go.RowKit

set_option maxRecDepth 100000 in
set_option maxHeartbeats 8000000 in
theorem lextells_no (A : Option Addr) (c : Nat) (s : List UInt8) (l : List Tok) (w : World) (hL : Ld w) (h : ¬ (s.length ≤ 5000 ∧ l.length ≤ 200)) :
    Calls Tryd.prog 3 #[.string ⟨s.toArray⟩, .slice A l.length c] w fun e w' => e = .returned (.bool true) ∧ Below w.heap.size w w' := by
  have S := Lib.hid (small_any w hL)
  clear hL
  by_cases h1 : s.length ≤ 5000
  · have g1 : (s.length : Int) ≤ 5000 := by omega
    have g2 : (200 : Int) < l.length := by omega
    clear h
    go_enter Tryd.func3, Tryd.ntmps3
    go_wp2_with fail
    refine S.out.mono ?_; rintro e w1 ⟨rfl, b1⟩
    go_wp2_with fail
    go_ret
    exact ⟨rfl, b1⟩
  · have g1 : (5000 : Int) < s.length := by omega
    clear h
    go_enter Tryd.func3, Tryd.ntmps3
    go_wp2_with fail
    refine S.out.mono ?_; rintro e w1 ⟨rfl, b1⟩
    go_wp2_with fail
    go_ret
    exact ⟨rfl, b1⟩
theorem both_scan (s : List UInt8) (a w : World) (hL : Ld a) (b : Below a.heap.size a w) : Calls Tryd.prog 10 #[.string ⟨s.toArray⟩] w fun e w' => scanVal (scanR s) w.heap.size e w' ∧ Below w.heap.size w w' := scan_any s w (hL.later b)
set_option maxRecDepth 100000 in
set_option maxHeartbeats 8000000 in
theorem lextells_in (A : Option Addr) (c : Nat) (s : List UInt8) (l : List Tok) (w : World) (hL : Ld w) (hT : Toks w A l) (hn : ∀ t ∈ l, -9223372036854775808 ≤ t.n ∧ t.n ≤ 9223372036854775807) (h1 : s.length ≤ 5000) (h2 : l.length ≤ 200) :
    Calls Tryd.prog 3 #[.string ⟨s.toArray⟩, .slice A l.length c] w fun e w' => e = .returned (.bool true) ∧ Below w.heap.size w w' := by
  have S := Lib.hid (small_any w hL)
  have HL := Lib.hid hL
  have HT := Lib.hid hT
  have HN := Lib.hid hn
  have g1 : (s.length : Int) ≤ 5000 := by omega
  have g2 : (l.length : Int) ≤ 200 := by omega
  clear hL hT hn
  go_enter Tryd.func3, Tryd.ntmps3
  go_wp2_with fail
  refine S.out.mono ?_; rintro e w1 ⟨rfl, b1⟩
  have B := Lib.hid b1
  clear b1
  go_wp2_with fail
  go_loopw [6] (fun i wr => ∃ (k : Nat), i = .int .i64 k ∧ k ≤ l.length ∧ Hid (∀ j (h : j < l.length), j < k → l[j].tx.length ≤ 50) ∧ Hid (Below w.heap.size w wr)) (fun i _ => l.length - (intOf i).toNat)
  case atStart => exact ⟨0, rfl, by omega, Lib.hid (by intro j _ h; omega), B⟩
  case round =>
    obtain ⟨k, rfl, hk, hall, B⟩ := hrel
    by_cases hlt : k < l.length
    · obtain ⟨b, o, x, rfl, hx, hb, d0, d1, d2, d3⟩ := HT.out.get hlt B.out
      have hk1 : 0 ≤ (k : Int) := by omega
      have hk2 : (k : Int) < l.length := by omega
      by_cases h50 : x.tx.length ≤ 50
      · have HA := Lib.hid (show ∀ j (h : j < l.length), j < k + 1 → l[j].tx.length ≤ 50 by
          intro j h hj
          by_cases hjk : j = k
          · subst hjk; rw [hx.out]; exact h50
          · exact hall.out j h (by omega))
        have g50 : (x.tx.length : Int) ≤ 50 := by omega
        obtain ⟨kd, tx, n, at_⟩ := x
        simp only at d0 d1 d2 d3 g50
        clear hx h50
        go_wp2_with fail
        go_roundw
        case rel => exact ⟨k + 1, by go_num, by omega, HA, B⟩
        case measure => simp [intOf]; omega
      · have g50 : (50 : Int) < x.tx.length := by omega
        obtain ⟨kd, tx, n, at_⟩ := x
        simp only at d0 d1 d2 d3 g50
        clear hx h50
        go_wp2_with fail
        go_ret
        exact ⟨rfl, B.out⟩
    · have hke : k = l.length := by omega
      subst hke
      have hlk : ¬ (l.length : Int) < l.length := by omega
      have hok : ∀ t ∈ l, TokOk t := by
        intro t ht
        obtain ⟨j, hj, rfl⟩ := List.getElem_of_mem ht
        exact ⟨hall.out j hj hj, HN.out _ ht⟩
      have P1 := Lib.hid (fun w1 b => both_scan s w w1 HL.out b)
      have P2 := Lib.hid (fun w1 => rscan_any s w1)
      have W1 := Lib.hid (fun w1 (b : Below w.heap.size w w1) hT => write_any A c l w1 hT hok (by omega) (HL.out.later b))
      have W2 := Lib.hid (fun w1 hT => rwrite_any A c l w1 hT hok (by omega))
      have SM := Lib.hid (fun A B c d L w1 hA hB (h : L.length ≤ 140737488355328) => rsame_any A B c d L w1 hA hB h)
      have T := Lib.hid (HT.out.later B.out)
      clear hall hok HN HT S
      rcases scan_all (s := s) with ⟨L, hs, hr, hU⟩ | ⟨hs, hr⟩ | ⟨p, hs, hr⟩
      · have hk := (toks_ok hU s.length).2
        rw [hr] at P1 P2
        generalize L ++ [(⟨4, [], 0, s.length⟩ : Tok)] = LL at *
        clear hr hU
        go_wp2_with fail
        refine (P1.out _ B.out).mono ?_; rintro e w2 ⟨⟨g, c2, rfl, O2⟩, b2⟩
        replace B := Lib.hid (B.out.trans (b2.mono B.out.size))
        have TA := Lib.hid O2.toks
        replace T := Lib.hid (T.out.later b2)
        clear b2 O2
        go_wp2_with fail
        refine (P2.out _).mono ?_; rintro e w3 ⟨⟨g3, c3, rfl, O3⟩, b3⟩
        replace B := Lib.hid (B.out.trans (b3.mono B.out.size))
        replace TA := Lib.hid (TA.out.later b3)
        replace T := Lib.hid (T.out.later b3)
        have TB := Lib.hid O3.toks
        clear b3 O3
        go_wp2_with fail
        refine (SM.out _ _ _ _ _ _ TA.out TB.out (by omega)).mono ?_; rintro e w4 ⟨rfl, b4⟩
        replace B := Lib.hid (B.out.trans (b4.mono B.out.size))
        replace T := Lib.hid (T.out.later b4)
        clear b4
        go_wp2_with fail
        refine (W1.out _ B.out T.out).mono ?_; rintro e w5 ⟨rfl, b5⟩
        replace B := Lib.hid (B.out.trans (b5.mono B.out.size))
        replace T := Lib.hid (T.out.later b5)
        clear b5
        go_wp2_with fail
        refine (W2.out _ T.out).mono ?_; rintro e w6 ⟨rfl, b6⟩
        replace B := Lib.hid (B.out.trans (b6.mono B.out.size))
        clear b6
        go_wp2_with fail
        go_ret
        exact ⟨rfl, B.out⟩
      all_goals
        rw [hr] at P1 P2
        clear hr
        go_wp2_with fail
        refine (P1.out _ B.out).mono ?_; rintro e w2 ⟨rfl, b2⟩
        replace B := Lib.hid (B.out.trans (b2.mono B.out.size))
        replace T := Lib.hid (T.out.later b2)
        clear b2
        go_wp2_with fail
        refine (P2.out _).mono ?_; rintro e w3 ⟨rfl, b3⟩
        replace B := Lib.hid (B.out.trans (b3.mono B.out.size))
        replace T := Lib.hid (T.out.later b3)
        clear b3
        go_wp2_with fail
        refine (SM.out none none 0 0 [] _ (fun h => by simp at h) (fun h => by simp at h) (by simp)).mono ?_; rintro e w4 ⟨rfl, b4⟩
        replace B := Lib.hid (B.out.trans (b4.mono B.out.size))
        replace T := Lib.hid (T.out.later b4)
        clear b4
        go_wp2_with fail
        refine (W1.out _ B.out T.out).mono ?_; rintro e w5 ⟨rfl, b5⟩
        replace B := Lib.hid (B.out.trans (b5.mono B.out.size))
        replace T := Lib.hid (T.out.later b5)
        clear b5
        go_wp2_with fail
        refine (W2.out _ T.out).mono ?_; rintro e w6 ⟨rfl, b6⟩
        replace B := Lib.hid (B.out.trans (b6.mono B.out.size))
        clear b6
        go_wp2_with fail
        go_ret
        exact ⟨rfl, B.out⟩
theorem lextells_any (A : Option Addr) (c : Nat) (s : List UInt8) (l : List Tok) (w : World) (hL : Ld w) (hT : Toks w A l) (hn : ∀ t ∈ l, -9223372036854775808 ≤ t.n ∧ t.n ≤ 9223372036854775807) :
    Calls Tryd.prog 3 #[.string ⟨s.toArray⟩, .slice A l.length c] w fun e w' => e = .returned (.bool true) ∧ Below w.heap.size w w' := by
  by_cases h : s.length ≤ 5000 ∧ l.length ≤ 200
  · exact lextells_in A c s l w hL hT hn h.1 h.2
  · exact lextells_no A c s l w hL h
end Go.Proofs.YtammpndggdniiaaDoor
