/- DiskTurns: for all old and new contents (at most 50000 bytes each) and crash points, after a crash the file has either its old contents or the complete new contents, and Turn fails as long as the new contents are not durable. -/
import Derived.Test.YtnbaalllcddbkaaDiskSmall
import Derived.Test.YtnbaalllcddbkaaDiskQ
namespace Go.Proofs.Ytnbaalllcddbkaa
open Go.RowKit

namespace TurnsDisk
variable (E N : List UInt8)
def a1 : DS := DS.init.put 3 E
def a2 : DS := (a1 E).hard 3
def b1 : DS := (a2 E).put 4 N
def b2 : DS := (b1 E N).hard 4
end TurnsDisk
open TurnsDisk

def DS.woke (S : DS) (k : List Int) : DS := { S.crash k with down := false }

set_option maxRecDepth 100000 in
set_option maxHeartbeats 1000000 in
theorem turns_zero (E N : List UInt8) (st : Int) (A : Option Addr) (c n : Nat) (K : List Int) (w : World) (hE : E.length ≤ 50000) (hN : N.length ≤ 50000) (h0 : st = 0) (hrow : Row w w.heap.size A (i64s K)) (hn : n = K.length) (hl : n ≤ 9223372036854775807) :
    Calls Try.prog 3 #[.string ⟨E.toArray⟩, .string ⟨N.toArray⟩, .int .i64 st, .slice A n c] w fun e w' => e = .returned (.bool true) ∧ Below w.heap.size w w' := by
  have HN := Lib.hid hn
  have HL := Lib.hid hl
  have HR := Lib.hid hrow
  have q1 := append_up init_up (f := 3) (s := E) (by decide) (by simp [DS.init]; omega)
  have q2 := flush_up (S := a1 E) init_up rfl (f := 3) (by decide)
  subst h0
  have Q3 := Lib.hid (turn_up (S := a2 E) init_up (f := 3) (g := 4) (by decide) (by decide) (by decide) (by simp [a2, a1, DS.hard, DS.put, DS.init]))
  have q4 := read_up (S := ((a2 E).turnTo 3 4).woke K) rfl (f := 3) (by decide)
  have e4 : (((a2 E).turnTo 3 4).woke K).by_ 3 = [] := by
    unfold DS.woke
    show (((a2 E).turnTo 3 4).crash K).by_ 3 = []
    rw [crash_by_hard (by rfl) _ _ (by simp [a2, a1, DS.hard, DS.put, DS.init, DS.turnTo])]
    simp [a2, a1, DS.hard, DS.put, DS.init, DS.turnTo]
  rw [e4] at q4
  have Q4 := Lib.hid q4
  clear q4 e4

  have Q1 := Lib.hid q1
  have Q2 := Lib.hid q2
  clear q1 q2 hrow hn hl
  go_enter Try.func3, Try.ntmps3
  go_wp2_with fail
  refine (small9_any _).mono ?_; rintro e w1 ⟨rfl, b1⟩
  go_wp2_with fail
  refine (new_at w _ b1).mono ?_; rintro e w2 ⟨rfl, h2⟩
  generalize w1.heap.size = b at h2 ⊢
  clear b1
  go_wp2_with fail
  refine (append_at h2 3 E (by omega) Q1.out).mono ?_; rintro e w3 ⟨rfl, h3⟩
  clear h2
  change Held w w3 b (a1 E) at h3
  go_wp2_with fail
  refine (flush_at h3 3 Q2.out).mono ?_; rintro e w4 ⟨rfl, h4⟩
  clear h3
  change Held w w4 b (a2 E) at h4
  go_wp2_with fail
  refine (turn_at h4 3 4 Q3.out).mono ?_; rintro e w5 ⟨rfl, h5⟩
  clear h4
  change Held w w5 b ((a2 E).turnTo 3 4) at h5
  go_wp2_with fail
  refine (crash_arg h5 A c _ K HR.out HN.out HL.out).mono ?_; rintro e w6 ⟨rfl, h6⟩
  clear h5
  go_wp2_with fail
  refine (start_at h6).mono ?_; rintro e w7 ⟨rfl, h7⟩
  clear h6
  change Held w w7 b (((a2 E).turnTo 3 4).woke K) at h7
  go_wp2_with fail
  refine (read_at h7 3 Q4.out).mono ?_; rintro e w8 ⟨rfl, h8⟩
  clear h7

  go_wp2_with fail
  go_ret
  exact ⟨rfl, h8.1⟩

set_option maxRecDepth 100000 in
set_option maxHeartbeats 1000000 in
theorem turns_soft (E N : List UInt8) (st : Int) (A : Option Addr) (c n : Nat) (K : List Int) (w : World) (hE : E.length ≤ 50000) (hN : N.length ≤ 50000) (h0 : st = 1) (hne : N ≠ []) (hrow : Row w w.heap.size A (i64s K)) (hn : n = K.length) (hl : n ≤ 9223372036854775807) :
    Calls Try.prog 3 #[.string ⟨E.toArray⟩, .string ⟨N.toArray⟩, .int .i64 st, .slice A n c] w fun e w' => e = .returned (.bool true) ∧ Below w.heap.size w w' := by
  have HN := Lib.hid hn
  have HL := Lib.hid hl
  have HR := Lib.hid hrow
  have q1 := append_up init_up (f := 3) (s := E) (by decide) (by simp [DS.init]; omega)
  have q2 := flush_up (S := a1 E) init_up rfl (f := 3) (by decide)
  subst h0
  have hpos : 0 < N.length := by cases N with | nil => exact absurd rfl hne | cons => simp
  have Q3 := Lib.hid (append_up (S := a2 E) init_up (f := 4) (s := N) (by decide) (by simp [a2, a1, DS.hard, DS.put, DS.init]; omega))
  have Q5 := Lib.hid (turn_soft (S := b1 E N) init_up (f := 3) (g := 4) (by decide) (by decide) (by decide) (by simp [b1, a2, a1, DS.hard, DS.put, DS.init]; omega))
  have q4 := read_up (S := (b1 E N).woke K) rfl (f := 3) (by decide)
  have e4 : ((b1 E N).woke K).by_ 3 = E := by
    unfold DS.woke
    show ((b1 E N).crash K).by_ 3 = E
    rw [crash_by_hard (by rfl) _ _ (by simp [b1, a2, a1, DS.hard, DS.put, DS.init])]
    simp [b1, a2, a1, DS.hard, DS.put, DS.init]
  rw [e4] at q4
  have Q4 := Lib.hid q4
  clear q4 e4
  have e5 : (((b1 E N).woke K).by_ 4).length ≤ N.length := by
    have := crash_len (S := b1 E N) (by rfl) K 4
    have h0 : ((b1 E N).by_ 4).length = N.length := by simp [b1, a2, a1, DS.hard, DS.put, DS.init]
    show (((b1 E N).crash K).by_ 4).length ≤ N.length
    omega
  have hNe : (N == []) = false := by cases N <;> simp_all
  generalize hz : (((b1 E N).woke K).by_ 4).length = z at e5
  have HZ := Lib.hid hz
  clear hz

  have Q1 := Lib.hid q1
  have Q2 := Lib.hid q2
  clear q1 q2 hrow hn hl
  go_enter Try.func3, Try.ntmps3
  go_wp2_with fail
  refine (small9_any _).mono ?_; rintro e w1 ⟨rfl, b1⟩
  go_wp2_with fail
  refine (new_at w _ b1).mono ?_; rintro e w2 ⟨rfl, h2⟩
  generalize w1.heap.size = b at h2 ⊢
  clear b1
  go_wp2_with fail
  refine (append_at h2 3 E (by omega) Q1.out).mono ?_; rintro e w3 ⟨rfl, h3⟩
  clear h2
  change Held w w3 b (a1 E) at h3
  go_wp2_with fail
  refine (flush_at h3 3 Q2.out).mono ?_; rintro e w4 ⟨rfl, h4⟩
  clear h3
  change Held w w4 b (a2 E) at h4
  go_wp2_with fail
  refine (append_at h4 4 N (by omega) Q3.out).mono ?_; rintro e w5 ⟨rfl, h5⟩
  clear h4
  change Held w w5 b (b1 E N) at h5
  go_wp2_with fail
  refine (turn_at h5 3 4 Q5.out).mono ?_; rintro e w6 ⟨rfl, h6⟩
  clear h5
  change Held w w6 b (b1 E N) at h6
  go_wp2_with fail
  refine (crash_arg h6 A c _ K HR.out HN.out HL.out).mono ?_; rintro e w7 ⟨rfl, h7⟩
  clear h6
  go_wp2_with fail
  refine (start_at h7).mono ?_; rintro e w8 ⟨rfl, h8⟩
  clear h7
  change Held w w8 b ((b1 E N).woke K) at h8
  go_wp2_with fail
  refine (read_at h8 3 Q4.out).mono ?_; rintro e w9 ⟨rfl, h9⟩
  clear h8
  go_wp2_with fail
  refine (size_at h9 4 (by decide)).mono ?_; rintro e w10 ⟨rfl, rfl⟩
  rw [HZ.out]
  go_wp2_with fail
  go_ret
  exact ⟨rfl, h9.1⟩

set_option maxRecDepth 100000 in
set_option maxHeartbeats 1000000 in
theorem turns_void (E N : List UInt8) (st : Int) (A : Option Addr) (c n : Nat) (K : List Int) (w : World) (hE : E.length ≤ 50000) (hN : N.length ≤ 50000) (h0 : st = 1) (hne : N = []) (hrow : Row w w.heap.size A (i64s K)) (hn : n = K.length) (hl : n ≤ 9223372036854775807) :
    Calls Try.prog 3 #[.string ⟨E.toArray⟩, .string ⟨N.toArray⟩, .int .i64 st, .slice A n c] w fun e w' => e = .returned (.bool true) ∧ Below w.heap.size w w' := by
  have HN := Lib.hid hn
  have HL := Lib.hid hl
  have HR := Lib.hid hrow
  have q1 := append_up init_up (f := 3) (s := E) (by decide) (by simp [DS.init]; omega)
  have q2 := flush_up (S := a1 E) init_up rfl (f := 3) (by decide)
  subst h0 hne
  have Q3 := Lib.hid (append_up (S := a2 E) init_up (f := 4) (s := []) (by decide) (by simp [a2, a1, DS.hard, DS.put, DS.init]))
  have Q5 := Lib.hid (turn_up (S := b1 E []) init_up (f := 3) (g := 4) (by decide) (by decide) (by decide) (by simp [b1, a2, a1, DS.hard, DS.put, DS.init]))
  have q4 := read_up (S := ((b1 E []).turnTo 3 4).woke K) rfl (f := 3) (by decide)
  have e4 : (((b1 E []).turnTo 3 4).woke K).by_ 3 = [] := by
    unfold DS.woke
    show (((b1 E []).turnTo 3 4).crash K).by_ 3 = []
    rw [crash_by_hard (by rfl) _ _ (by simp [b1, a2, a1, DS.hard, DS.put, DS.init, DS.turnTo])]
    simp [b1, a2, a1, DS.hard, DS.put, DS.init, DS.turnTo]
  rw [e4] at q4
  have Q4 := Lib.hid q4
  clear q4 e4
  have e5 : ((((b1 E []).turnTo 3 4).woke K).by_ 4).length = 0 := by
    have := crash_len (S := ((b1 E []).turnTo 3 4)) (by rfl) K 4
    have h0 : (((b1 E []).turnTo 3 4).by_ 4).length = 0 := by simp [b1, a2, a1, DS.hard, DS.put, DS.init, DS.turnTo]
    show ((((b1 E []).turnTo 3 4).crash K).by_ 4).length = 0
    omega

  have Q1 := Lib.hid q1
  have Q2 := Lib.hid q2
  clear q1 q2 hrow hn hl
  go_enter Try.func3, Try.ntmps3
  go_wp2_with fail
  refine (small9_any _).mono ?_; rintro e w1 ⟨rfl, b1⟩
  go_wp2_with fail
  refine (new_at w _ b1).mono ?_; rintro e w2 ⟨rfl, h2⟩
  generalize w1.heap.size = b at h2 ⊢
  clear b1
  go_wp2_with fail
  refine (append_at h2 3 E (by omega) Q1.out).mono ?_; rintro e w3 ⟨rfl, h3⟩
  clear h2
  change Held w w3 b (a1 E) at h3
  go_wp2_with fail
  refine (flush_at h3 3 Q2.out).mono ?_; rintro e w4 ⟨rfl, h4⟩
  clear h3
  change Held w w4 b (a2 E) at h4
  go_wp2_with fail
  refine (append_at h4 4 [] (by decide) Q3.out).mono ?_; rintro e w5 ⟨rfl, h5⟩
  clear h4
  change Held w w5 b (b1 E []) at h5
  go_wp2_with fail
  refine (turn_at h5 3 4 Q5.out).mono ?_; rintro e w6 ⟨rfl, h6⟩
  clear h5
  change Held w w6 b ((b1 E []).turnTo 3 4) at h6
  go_wp2_with fail
  refine (crash_arg h6 A c _ K HR.out HN.out HL.out).mono ?_; rintro e w7 ⟨rfl, h7⟩
  clear h6
  go_wp2_with fail
  refine (start_at h7).mono ?_; rintro e w8 ⟨rfl, h8⟩
  clear h7
  change Held w w8 b (((b1 E []).turnTo 3 4).woke K) at h8
  go_wp2_with fail
  refine (read_at h8 3 Q4.out).mono ?_; rintro e w9 ⟨rfl, h9⟩
  clear h8
  go_wp2_with fail
  refine (size_at h9 4 (by decide)).mono ?_; rintro e w10 ⟨rfl, rfl⟩
  rw [e5]
  go_wp2_with fail
  go_ret
  exact ⟨rfl, h9.1⟩

set_option maxRecDepth 100000 in
set_option maxHeartbeats 1000000 in
theorem turns_full (E N : List UInt8) (st : Int) (A : Option Addr) (c n : Nat) (K : List Int) (w : World) (hE : E.length ≤ 50000) (hN : N.length ≤ 50000) (h0 : st ≠ 0) (h1 : st ≠ 1) (hrow : Row w w.heap.size A (i64s K)) (hn : n = K.length) (hl : n ≤ 9223372036854775807) :
    Calls Try.prog 3 #[.string ⟨E.toArray⟩, .string ⟨N.toArray⟩, .int .i64 st, .slice A n c] w fun e w' => e = .returned (.bool true) ∧ Below w.heap.size w w' := by
  have HN := Lib.hid hn
  have HL := Lib.hid hl
  have HR := Lib.hid hrow
  have q1 := append_up init_up (f := 3) (s := E) (by decide) (by simp [DS.init]; omega)
  have q2 := flush_up (S := a1 E) init_up rfl (f := 3) (by decide)
  have g0 : (st == 0) = false := by rw [beq_eq_false_iff_ne]; exact h0
  have g1 : (st == 1) = false := by rw [beq_eq_false_iff_ne]; exact h1
  have Q3 := Lib.hid (append_up (S := a2 E) init_up (f := 4) (s := N) (by decide) (by simp [a2, a1, DS.hard, DS.put, DS.init]; omega))
  have Q6 := Lib.hid (flush_up (S := b1 E N) init_up rfl (f := 4) (by decide))
  have Q5 := Lib.hid (turn_up (S := b2 E N) init_up (f := 3) (g := 4) (by decide) (by decide) (by decide) (by simp [b2, b1, a2, a1, DS.hard, DS.put, DS.init, DS.turnTo]))
  have q4 := read_up (S := ((b2 E N).turnTo 3 4).woke K) rfl (f := 3) (by decide)
  have e4 : (((b2 E N).turnTo 3 4).woke K).by_ 3 = N := by
    unfold DS.woke
    show (((b2 E N).turnTo 3 4).crash K).by_ 3 = N
    rw [crash_by_hard (by rfl) _ _ (by simp [b2, b1, a2, a1, DS.hard, DS.put, DS.init, DS.turnTo])]
    simp [b2, b1, a2, a1, DS.hard, DS.put, DS.init, DS.turnTo]
  rw [e4] at q4
  have Q4 := Lib.hid q4
  clear q4 e4
  have e5 : ((((b2 E N).turnTo 3 4).woke K).by_ 4).length = 0 := by
    have := crash_len (S := ((b2 E N).turnTo 3 4)) (by rfl) K 4
    have h0 : (((b2 E N).turnTo 3 4).by_ 4).length = 0 := by simp [b2, b1, a2, a1, DS.hard, DS.put, DS.init, DS.turnTo]
    show ((((b2 E N).turnTo 3 4).crash K).by_ 4).length = 0
    omega

  have Q1 := Lib.hid q1
  have Q2 := Lib.hid q2
  clear q1 q2 hrow hn hl
  go_enter Try.func3, Try.ntmps3
  go_wp2_with fail
  refine (small9_any _).mono ?_; rintro e w1 ⟨rfl, b1⟩
  go_wp2_with fail
  refine (new_at w _ b1).mono ?_; rintro e w2 ⟨rfl, h2⟩
  generalize w1.heap.size = b at h2 ⊢
  clear b1
  go_wp2_with fail
  refine (append_at h2 3 E (by omega) Q1.out).mono ?_; rintro e w3 ⟨rfl, h3⟩
  clear h2
  change Held w w3 b (a1 E) at h3
  go_wp2_with fail
  refine (flush_at h3 3 Q2.out).mono ?_; rintro e w4 ⟨rfl, h4⟩
  clear h3
  change Held w w4 b (a2 E) at h4
  go_wp2_with fail
  refine (append_at h4 4 N (by omega) Q3.out).mono ?_; rintro e w5 ⟨rfl, h5⟩
  clear h4
  change Held w w5 b (b1 E N) at h5
  go_wp2_with fail
  refine (flush_at h5 4 Q6.out).mono ?_; rintro e w6 ⟨rfl, h6⟩
  clear h5
  change Held w w6 b (b2 E N) at h6
  go_wp2_with fail
  refine (turn_at h6 3 4 Q5.out).mono ?_; rintro e w7 ⟨rfl, h7⟩
  clear h6
  change Held w w7 b ((b2 E N).turnTo 3 4) at h7
  go_wp2_with fail
  refine (crash_arg h7 A c _ K HR.out HN.out HL.out).mono ?_; rintro e w8 ⟨rfl, h8⟩
  clear h7
  go_wp2_with fail
  refine (start_at h8).mono ?_; rintro e w9 ⟨rfl, h9⟩
  clear h8
  change Held w w9 b (((b2 E N).turnTo 3 4).woke K) at h9
  go_wp2_with fail
  refine (read_at h9 3 Q4.out).mono ?_; rintro e w10 ⟨rfl, h10⟩
  clear h9
  go_wp2_with fail
  refine (size_at h10 4 (by decide)).mono ?_; rintro e w11 ⟨rfl, rfl⟩
  rw [e5]
  go_wp2_with fail
  go_ret
  exact ⟨rfl, h10.1⟩

set_option maxRecDepth 100000 in
theorem turns_any (E N : List UInt8) (st : Int) (A : Option Addr) (c : Nat) (K : List Int) (w : World) (hE : E.length ≤ maxLen) (hN : N.length ≤ maxLen) (hrow : Row w w.heap.size A (i64s K)) (hl : K.length ≤ maxLen) :
    Calls Try.prog 3 #[.string ⟨E.toArray⟩, .string ⟨N.toArray⟩, .int .i64 st, .slice A K.length c] w fun e w' => e = .returned (.bool true) ∧ Below w.heap.size w w' := by
  unfold maxLen at hE hN hl
  by_cases h1 : E.length ≤ 50000
  · by_cases h2 : N.length ≤ 50000
    · by_cases h3 : st = 0
      · exact turns_zero E N st A c _ K w h1 h2 h3 hrow rfl (by omega)
      · by_cases h4 : st = 1
        · by_cases h5 : N = []
          · exact turns_void E N st A c _ K w h1 h2 h4 h5 hrow rfl (by omega)
          · exact turns_soft E N st A c _ K w h1 h2 h4 h5 hrow rfl (by omega)
        · exact turns_full E N st A c _ K w h1 h2 h3 h4 hrow rfl (by omega)
    · go_enter Try.func3, Try.ntmps3
      go_wp2_with fail
      refine (small9_any _).mono ?_; rintro e w1 ⟨rfl, b1⟩
      go_wp2_with fail
      refine (new_at w _ b1).mono ?_; rintro e w2 ⟨rfl, h2⟩
      go_wp2_with fail
      go_ret
      exact ⟨rfl, h2.1⟩
  · go_enter Try.func3, Try.ntmps3
    go_wp2_with fail
    refine (small9_any _).mono ?_; rintro e w1 ⟨rfl, b1⟩
    go_wp2_with fail
    refine (new_at w _ b1).mono ?_; rintro e w2 ⟨rfl, h2⟩
    go_wp2_with fail
    go_ret
    exact ⟨rfl, h2.1⟩

end Go.Proofs.Ytnbaalllcddbkaa
