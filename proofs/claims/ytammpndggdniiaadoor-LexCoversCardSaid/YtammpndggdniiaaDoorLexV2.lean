/- LexCovers: the law's walk. -/
import Derived.Test.YtammpndggdniiaaDoorLexV1
import Derived.Test.YtammpndggdniiaaDoorLexU
namespace Go.Proofs.YtammpndggdniiaaDoor
open Go.RowKit

set_option maxRecDepth 100000 in
set_option maxHeartbeats 8000000 in
theorem lexcovers_big (s : List UInt8) (w : World) (hL : Ld w) (h : 5000 < s.length) (hs : s.length ≤ 140737488355328) :
    Calls Tryd.prog 4 #[.string ⟨s.toArray⟩] w fun e w' => e = .returned (.bool true) ∧ Below w.heap.size w w' := by
  have S := Lib.hid (small_any w hL)
  have hl : (5000 : Int) < s.length := by omega
  clear hL
  go_enter Tryd.func4, Tryd.ntmps4
  go_wp2_with fail
  refine S.out.mono ?_; rintro e w1 ⟨rfl, b1⟩
  go_wp2_with fail
  go_ret
  exact ⟨rfl, b1⟩
set_option maxRecDepth 100000 in
set_option maxHeartbeats 8000000 in
theorem lexcovers_full (s : List UInt8) (w : World) (hL : Ld w) (h1 : 4096 < s.length) (h2 : s.length ≤ 5000) (hr : scanR s = (none, 7, 0)) :
    Calls Tryd.prog 4 #[.string ⟨s.toArray⟩] w fun e w' => e = .returned (.bool true) ∧ Below w.heap.size w w' := by
  have S := Lib.hid (small_any w hL)
  have P := Lib.hid (fun w1 b => scan_at hr w w1 hL b)
  have hl : (s.length : Int) ≤ 5000 := by omega
  have hl2 : (4096 : Int) < s.length := by omega
  clear hL hr
  go_enter Tryd.func4, Tryd.ntmps4
  go_wp2_with fail
  refine S.out.mono ?_; rintro e w1 ⟨rfl, b1⟩
  have B := Lib.hid b1
  clear b1
  go_wp2_with fail
  refine (P.out _ B.out).mono ?_; rintro e w2 ⟨rfl, b2⟩
  replace B := Lib.hid (B.out.trans (b2.mono B.out.size))
  clear b2
  go_wp2_with fail
  go_ret
  exact ⟨rfl, B.out⟩
set_option maxRecDepth 100000 in
set_option maxHeartbeats 8000000 in
theorem lexcovers_bad (s : List UInt8) (p : Nat) (w : World) (hL : Ld w) (h : s.length ≤ 4096) (hr : scanR s = (none, 2, p)) :
    Calls Tryd.prog 4 #[.string ⟨s.toArray⟩] w fun e w' => e = .returned (.bool true) ∧ Below w.heap.size w w' := by
  have S := Lib.hid (small_any w hL)
  have P := Lib.hid (fun w1 b => scan_at hr w w1 hL b)
  have hl : (s.length : Int) ≤ 5000 := by omega
  have hl2 : (s.length : Int) ≤ 4096 := by omega
  have hl3 : decide ((4096 : Int) < s.length) = false := decide_eq_false (by omega)
  clear hL hr
  go_enter Tryd.func4, Tryd.ntmps4
  go_wp2_with fail
  refine S.out.mono ?_; rintro e w1 ⟨rfl, b1⟩
  have B := Lib.hid b1
  clear b1
  go_wp2_with fail
  refine (P.out _ B.out).mono ?_; rintro e w2 ⟨rfl, b2⟩
  replace B := Lib.hid (B.out.trans (b2.mono B.out.size))
  clear b2
  go_wp2_with fail
  go_ret
  exact ⟨rfl, B.out⟩
end Go.Proofs.YtammpndggdniiaaDoor
