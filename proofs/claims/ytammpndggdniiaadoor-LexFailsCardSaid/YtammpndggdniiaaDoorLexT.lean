/- LexFails: the law's walk. -/
import Derived.Test.YtammpndggdniiaaDoorLexS
namespace Go.Proofs.YtammpndggdniiaaDoor
open Go.RowKit

set_option maxRecDepth 100000 in
set_option maxHeartbeats 8000000 in
theorem lexfails_big (s : List UInt8) (w : World) (hL : Ld w) (h : 4096 < s.length) (hs : s.length ≤ 140737488355328) :
    Calls Tryd.prog 7 #[.string ⟨s.toArray⟩] w fun e w' => e = .returned (.bool true) ∧ Below w.heap.size w w' := by
  have S := Lib.hid (small_any w hL)
  have hl : (4096 : Int) < s.length := by omega
  clear hL
  go_enter Tryd.func7, Tryd.ntmps7
  go_wp2_with fail
  refine S.out.mono ?_; rintro e w1 ⟨rfl, b1⟩
  go_wp2_with fail
  go_ret
  exact ⟨rfl, b1⟩
set_option maxRecDepth 100000 in
set_option maxHeartbeats 8000000 in
theorem lexfails_ok (s : List UInt8) (l : List Tok) (w : World) (hL : Ld w) (h : s.length ≤ 4096) (hr : scanR s = (some l, 0, 0)) :
    Calls Tryd.prog 7 #[.string ⟨s.toArray⟩] w fun e w' => e = .returned (.bool true) ∧ Below w.heap.size w w' := by
  have S := Lib.hid (small_any w hL)
  have P := Lib.hid (fun w1 b => scan_at hr w w1 hL b)
  have hl : (s.length : Int) ≤ 4096 := by omega
  clear hL hr
  go_enter Tryd.func7, Tryd.ntmps7
  go_wp2_with fail
  refine S.out.mono ?_; rintro e w1 ⟨rfl, b1⟩
  have B := Lib.hid b1
  clear b1
  go_wp2_with fail
  refine (P.out _ B.out).mono ?_; rintro e w2 ⟨⟨g, c, rfl, _⟩, b2⟩
  replace B := Lib.hid (B.out.trans (b2.mono B.out.size))
  clear b2
  go_wp2_with fail
  go_ret
  exact ⟨rfl, B.out⟩
set_option maxRecDepth 100000 in
set_option maxHeartbeats 8000000 in
theorem lexfails_bad (s : List UInt8) (p : Nat) (w : World) (hL : Ld w) (h : s.length ≤ 4096) (hr : scanR s = (none, 2, p)) :
    Calls Tryd.prog 7 #[.string ⟨s.toArray⟩] w fun e w' => e = .returned (.bool true) ∧ Below w.heap.size w w' := by
  have S := Lib.hid (small_any w hL)
  have P := Lib.hid (fun w1 b => scan_at hr w w1 hL b)
  have hl : (s.length : Int) ≤ 4096 := by omega
  obtain ⟨hp, hB, ⟨l, hr1⟩, hr2⟩ := scan_bad h hr
  have P1 := Lib.hid (fun w1 b => scan_at hr1 w w1 hL b)
  have P2 := Lib.hid (fun w1 b => scan_at hr2 w w1 hL b)
  have PB := Lib.hid (fun w1 => blank_any ((s.drop p).take 1) w1 (by rw [List.length_take]; omega))
  rw [hB] at PB
  have hp1 : 0 ≤ (p : Int) := by omega
  have hp2 : (p : Int) < s.length := by omega
  have X1 : (⟨s.toArray⟩ : ByteArray).extract p (p + 1) = ⟨((s.drop p).take 1).toArray⟩ := by rw [bx]; simp
  have X2 : (⟨s.toArray⟩ : ByteArray).extract 0 p = ⟨(s.take p).toArray⟩ := bx_take s p
  have X3 : (⟨s.toArray⟩ : ByteArray).extract p s.length = ⟨(s.drop p).toArray⟩ := bx_end s p
  have hll : (0 : Int) < ((l ++ [(⟨4, [], 0, (s.take p).length⟩ : Tok)]).length : Nat) := by rw [List.length_append]; simp only [List.length_cons, List.length_nil]; omega
  generalize l ++ [(⟨4, [], 0, (s.take p).length⟩ : Tok)] = l' at P1 hll
  clear hL hr hr1 hr2 hB
  go_enter Tryd.func7, Tryd.ntmps7
  go_wp2_with fail
  refine S.out.mono ?_; rintro e w1 ⟨rfl, b1⟩
  have B := Lib.hid b1
  clear b1
  go_wp2_with fail
  refine (P.out _ B.out).mono ?_; rintro e w2 ⟨rfl, b2⟩
  replace B := Lib.hid (B.out.trans (b2.mono B.out.size))
  clear b2
  go_wp2_with fail
  refine (PB.out _).mono ?_; rintro e w3 ⟨rfl, b3⟩
  replace B := Lib.hid (B.out.trans (b3.mono B.out.size))
  clear b3
  go_wp2_with fail
  refine (P1.out _ B.out).mono ?_; rintro e w4 ⟨⟨g, c, rfl, _⟩, b4⟩
  replace B := Lib.hid (B.out.trans (b4.mono B.out.size))
  clear b4
  go_wp2_with fail
  refine (P2.out _ B.out).mono ?_; rintro e w5 ⟨rfl, b5⟩
  replace B := Lib.hid (B.out.trans (b5.mono B.out.size))
  clear b5
  go_wp2_with fail
  go_ret
  exact ⟨rfl, B.out⟩
theorem lexfails_any (s : List UInt8) (w : World) (hL : Ld w) (hs : s.length ≤ 140737488355328) :
    Calls Tryd.prog 7 #[.string ⟨s.toArray⟩] w fun e w' => e = .returned (.bool true) ∧ Below w.heap.size w w' := by
  by_cases h : s.length ≤ 4096
  · rcases scan_cases h with ⟨l, hr, _⟩ | ⟨p, hr⟩
    · exact lexfails_ok s _ w hL h hr
    · exact lexfails_bad s p w hL h hr
  · exact lexfails_big s w hL (by omega) hs
end Go.Proofs.YtammpndggdniiaaDoor
