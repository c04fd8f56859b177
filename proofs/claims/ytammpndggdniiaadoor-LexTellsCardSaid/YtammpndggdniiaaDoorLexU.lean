/- LexWrites: the law's walk. -/
import Derived.Test.YtammpndggdniiaaDoorLexW
namespace Go.Proofs.YtammpndggdniiaaDoor
open Go.RowKit

set_option maxRecDepth 100000 in
set_option maxHeartbeats 8000000 in
theorem lexwrites_big (s : List UInt8) (w : World) (hL : Ld w) (h : 5000 < s.length) (hs : s.length ≤ 140737488355328) :
    Calls Tryd.prog 5 #[.string ⟨s.toArray⟩] w fun e w' => e = .returned (.bool true) ∧ Below w.heap.size w w' := by
  have S := Lib.hid (small_any w hL)
  have hl : (5000 : Int) < s.length := by omega
  clear hL
  go_enter Tryd.func5, Tryd.ntmps5
  go_wp2_with fail
  refine S.out.mono ?_; rintro e w1 ⟨rfl, b1⟩
  go_wp2_with fail
  go_ret
  exact ⟨rfl, b1⟩
set_option maxRecDepth 100000 in
set_option maxHeartbeats 8000000 in
theorem lexwrites_bad (s : List UInt8) (p : Nat) (e0 : Int) (he : e0 = 2 ∨ e0 = 7) (w : World) (hL : Ld w) (h : s.length ≤ 5000) (hr : scanR s = (none, e0, p)) :
    Calls Tryd.prog 5 #[.string ⟨s.toArray⟩] w fun e w' => e = .returned (.bool true) ∧ Below w.heap.size w w' := by
  have S := Lib.hid (small_any w hL)
  have P := Lib.hid (fun w1 b => scan_at hr w w1 hL b)
  have hl : (s.length : Int) ≤ 5000 := by omega
  clear hL hr
  rcases he with rfl | rfl
  all_goals
    go_enter Tryd.func5, Tryd.ntmps5
    go_wp2_with fail
    refine S.out.mono ?_; rintro e w1 ⟨rfl, b1⟩
    have B := Lib.hid b1
    clear b1
    go_wp2_with fail
    refine (P.out _ B.out).mono ?_; rintro e w2 ⟨rfl, b2⟩
    replace B := Lib.hid (B.out.trans (b2.mono B.out.size))
    clear b2
    go_wp2_with fail
    go_ret
    exact ⟨rfl, B.out⟩
set_option maxRecDepth 100000 in
set_option maxHeartbeats 8000000 in
theorem lexwrites_ok (s : List UInt8) (l L : List Tok) (w : World) (hL : Ld w) (h : s.length ≤ 4096) (hU : scanU s 0 = (l, none)) (hLe : L = l ++ [⟨4, [], 0, s.length⟩]) (hr : scanR s = (some L, 0, 0)) :
    Calls Tryd.prog 5 #[.string ⟨s.toArray⟩] w fun e w' => e = .returned (.bool true) ∧ Below w.heap.size w w' := by
  have S := Lib.hid (small_any w hL)
  have P := Lib.hid (fun w1 b => scan_at hr w w1 hL b)
  have hl : (s.length : Int) ≤ 5000 := by omega
  obtain ⟨hk1, hk2⟩ := toks_ok hU s.length
  rw [← hLe] at hk1 hk2
  have WL := Lib.hid (fun A c w1 (b : Below w.heap.size w w1) hT => write_any A c L w1 hT hk1 (by omega) (hL.later b))
  by_cases hm : (writeS L).length ≤ 4096
  · obtain ⟨L', h1, h2, h3⟩ := writes_plain h hU (by rw [← hLe]; exact hm)
    rw [← hLe] at h1 h2 h3
    have hlen : L'.length = L.length := by have := congrArg List.length h2; simpa using this.symm
    have WM := Lib.hid (fun A c w1 (b : Below w.heap.size w w1) hT => write_any A c L' w1 hT (toks_ok_core h2 hk1) (by omega) (hL.later b))
    have PM := Lib.hid (fun w1 b => scan_at h1 w w1 hL b)
    have SM := Lib.hid (fun A B c d w1 hA hB => same_any A B c d L L' w1 hA hB h2 (by omega))
    rw [h3] at WM
    generalize writeS L = m at *
    have hm2 : (m.length : Int) ≤ 4096 := by omega
    clear hL hr h1 h2 h3 hU hLe hk1 hlen
    go_enter Tryd.func5, Tryd.ntmps5
    go_wp2_with fail
    refine S.out.mono ?_; rintro e w1 ⟨rfl, b1⟩
    have B := Lib.hid b1
    clear b1
    go_wp2_with fail
    refine (P.out _ B.out).mono ?_; rintro e w2 ⟨⟨g, c, rfl, O2⟩, b2⟩
    replace B := Lib.hid (B.out.trans (b2.mono B.out.size))
    have T := Lib.hid O2.toks
    clear b2 O2
    go_wp2_with fail
    refine (WL.out _ _ _ B.out T.out).mono ?_; rintro e w3 ⟨rfl, b3⟩
    replace B := Lib.hid (B.out.trans (b3.mono B.out.size))
    replace T := Lib.hid (T.out.later b3)
    clear b3
    go_wp2_with fail
    refine (PM.out _ B.out).mono ?_; rintro e w4 ⟨⟨g2, c2, rfl, O4⟩, b4⟩
    replace B := Lib.hid (B.out.trans (b4.mono B.out.size))
    replace T := Lib.hid (T.out.later b4)
    have T2 := Lib.hid O4.toks
    clear b4 O4
    go_wp2_with fail
    refine (SM.out _ _ _ _ _ T.out T2.out).mono ?_; rintro e w5 ⟨rfl, b5⟩
    replace B := Lib.hid (B.out.trans (b5.mono B.out.size))
    replace T2 := Lib.hid (T2.out.later b5)
    clear b5
    go_wp2_with fail
    refine (WM.out _ _ _ B.out T2.out).mono ?_; rintro e w6 ⟨rfl, b6⟩
    replace B := Lib.hid (B.out.trans (b6.mono B.out.size))
    clear b6
    go_wp2_with fail
    go_ret
    exact ⟨rfl, B.out⟩
  · have PM := Lib.hid (fun w1 b => scan_at (show scanR (writeS L) = (none, 7, 0) by unfold scanR; rw [if_pos (by omega)]) w w1 hL b)
    generalize writeS L = m at *
    have hm2 : (4096 : Int) < m.length := by omega
    clear hL hr hU hLe hk1
    go_enter Tryd.func5, Tryd.ntmps5
    go_wp2_with fail
    refine S.out.mono ?_; rintro e w1 ⟨rfl, b1⟩
    have B := Lib.hid b1
    clear b1
    go_wp2_with fail
    refine (P.out _ B.out).mono ?_; rintro e w2 ⟨⟨g, c, rfl, O2⟩, b2⟩
    replace B := Lib.hid (B.out.trans (b2.mono B.out.size))
    have T := Lib.hid O2.toks
    clear b2 O2
    go_wp2_with fail
    refine (WL.out _ _ _ B.out T.out).mono ?_; rintro e w3 ⟨rfl, b3⟩
    replace B := Lib.hid (B.out.trans (b3.mono B.out.size))
    clear b3
    go_wp2_with fail
    refine (PM.out _ B.out).mono ?_; rintro e w4 ⟨rfl, b4⟩
    replace B := Lib.hid (B.out.trans (b4.mono B.out.size))
    clear b4
    go_wp2_with fail
    go_ret
    exact ⟨rfl, B.out⟩
theorem scan_all {s : List UInt8} : (∃ l, s.length ≤ 4096 ∧ scanR s = (some (l ++ [⟨4, [], 0, s.length⟩]), 0, 0) ∧ scanU s 0 = (l, none)) ∨ (4096 < s.length ∧ scanR s = (none, 7, 0)) ∨ ∃ p, s.length ≤ 4096 ∧ scanR s = (none, 2, p) := by
  by_cases h : s.length ≤ 4096
  · rcases scan_cases h with ⟨l, h1, h2⟩ | ⟨p, h1⟩
    · exact .inl ⟨l, h, h1, h2⟩
    · exact .inr (.inr ⟨p, h, h1⟩)
  · exact .inr (.inl ⟨by omega, by unfold scanR; rw [if_pos (by omega)]⟩)
theorem lexwrites_any (s : List UInt8) (w : World) (hL : Ld w) (hs : s.length ≤ 140737488355328) :
    Calls Tryd.prog 5 #[.string ⟨s.toArray⟩] w fun e w' => e = .returned (.bool true) ∧ Below w.heap.size w w' := by
  by_cases h : s.length ≤ 5000
  · rcases scan_all (s := s) with ⟨l, h1, h2, h3⟩ | ⟨h1, h2⟩ | ⟨p, h1, h2⟩
    · exact lexwrites_ok s l _ w hL h1 h3 rfl h2
    · exact lexwrites_bad s 0 7 (.inr rfl) w hL h h2
    · exact lexwrites_bad s p 2 (.inl rfl) w hL h h2
  · exact lexwrites_big s w hL (by omega) hs
end Go.Proofs.YtammpndggdniiaaDoor
