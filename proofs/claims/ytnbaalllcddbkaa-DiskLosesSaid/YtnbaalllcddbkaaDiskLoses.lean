/- DiskLoses: for all contents (at most 50000 bytes) and numbers of lost flushes (at most 20), each lost flush returns ErrLost and makes nothing durable, and the next flush succeeds. -/
import Derived.Test.YtnbaalllcddbkaaDiskSmall
import Derived.Test.YtnbaalllcddbkaaDiskQ
import Derived.Test.YtnbaalllcddbkaaDisk8
namespace Go.Proofs.Ytnbaalllcddbkaa
open Go.RowKit

/-- The disk after the bytes have been appended; k flushes will be lost. -/
def loseS (s : List UInt8) (k : Int) : DS := { DS.init.put 0 s with lost := k }
theorem lose_up (s : List UInt8) (k : Int) : (loseS s k).Up := ⟨rfl, rfl⟩
theorem lose_flush (s : List UInt8) (k : Int) (h : 0 < k) : (loseS s k).flushS 0 = (18, loseS s (k - 1)) := flush_lost (lose_up s k) h (f := 0) (by decide)
theorem lose_last (s : List UInt8) : (loseS s 0).flushS 0 = (0, (loseS s 0).hard 0) := flush_up (lose_up s 0) rfl (f := 0) (by decide)
theorem lose_gone (s : List UInt8) (k : Int) : ReadsF { (loseS s k).crash [] with down := false } 0 = ([], 0) := by
  have := read_up (S := { (loseS s k).crash [] with down := false }) rfl (f := 0) (by decide)
  have e : ({ (loseS s k).crash [] with down := false } : DS).by_ 0 = [] := by
    show ((loseS s k).crash []).by_ 0 = []
    rw [crash_by (by rfl)]
    simp [loseS, DS.put, DS.init, keepN]
  rw [e] at this; exact this
theorem lose_kept (s : List UInt8) : ReadsF { ((loseS s 0).hard 0).crash [] with down := false } 0 = (s, 0) := by
  have := read_up (S := { ((loseS s 0).hard 0).crash [] with down := false }) rfl (f := 0) (by decide)
  have e : ({ ((loseS s 0).hard 0).crash [] with down := false } : DS).by_ 0 = s := by
    show (((loseS s 0).hard 0).crash []).by_ 0 = s
    rw [crash_by_hard (by rfl) _ _ (by simp [loseS, DS.put, DS.init, DS.hard])]
    simp [loseS, DS.put, DS.init, DS.hard]
  rw [e] at this; exact this

set_option maxRecDepth 100000 in
set_option maxHeartbeats 1000000 in
theorem loses_main (s : List UInt8) (n : Int) (w : World) (hs : s.length ≤ 50000) (hn : n ≤ 20) :
    Calls Try.prog 4 #[.string ⟨s.toArray⟩, .int .i64 n] w fun e w' => e = .returned (.bool true) ∧ Below w.heap.size w w' := by
  have Q0 := Lib.hid (show ({ DS.init with lost := max n 0 } : DS).appendS 0 s = (0, loseS s (max n 0)) from append_up ⟨rfl, rfl⟩ (f := 0) (s := s) (by decide) (by simp [DS.init]; omega))
  go_enter Try.func4, Try.ntmps4
  go_wp2_with fail
  refine (small9_any _).mono ?_; rintro e w1 ⟨rfl, b1⟩
  go_wp2_with fail
  refine (new_at w _ b1).mono ?_; rintro e w2 ⟨rfl, h2⟩
  generalize w1.heap.size = b at h2 ⊢
  clear b1
  go_wp2_with fail
  refine (lose_at h2 n (by omega)).mono ?_; rintro e w3 ⟨rfl, h3⟩
  clear h2
  go_wp2_with fail
  refine (append_at h3 0 s (by omega) Q0.out).mono ?_; rintro e w4 ⟨rfl, h4⟩
  have H4 := Lib.hid h4
  clear h3 h4
  go_wp2_with fail
  go_loopw [7] (fun i wr => ∃ k : Nat, i = .int .i64 k ∧ (k : Int) ≤ max n 0 ∧ Hid (Held w wr b (loseS s (max n 0 - k)))) (fun i _ => n.toNat - (intOf i).toNat)
  case atStart => exact ⟨0, rfl, by omega, by simpa using H4⟩
  case round =>
    obtain ⟨k, rfl, hk, hH⟩ := hrel
    by_cases hlt : (k : Int) < n
    · have d1 := hH.out.2.1
      have hbl := d1.lt
      have hwb := hH.out.2.2.2
      have ok1 := hH.out.2.2.1
      have B1 := hH.out.1
      have FL := lose_flush s (max n 0 - k) (by omega)
      have FG := lose_gone s (max n 0 - k - 1)
      have EQ := Lib.hid (show max n 0 - (k : Int) - 1 = max n 0 - ((k + 1 : Nat) : Int) by omega)
      generalize max n 0 - (k : Int) = z at *
      go_wp2_with fail
      refine (copy_any b _ _ d1).mono ?_; rintro e w5 ⟨rfl, c5, b5⟩
      have d5 := d1.later b5
      have B5 := B1.trans (b5.mono B1.size)
      have hne : b ≠ wr.heap.size := by omega
      have hwc : w.heap.size ≤ wr.heap.size := B1.size
      generalize wr.heap.size = c at *
      go_wp2_with fail
      refine (flush_any b _ 0 _ d5 ok1).mono ?_; rintro e w6 ⟨rfl, d6, g6⟩
      rw [FL] at d6 ⊢
      have c6 := c5.other d5 g6 (Ne.symm hne)
      have B6 := below_gr B5 g6 hwb B5.size
      have ok6 : (loseS s (z - 1)).Ok := by have := ok1.flush 0; rw [FL] at this; exact this
      simp only at d6
      go_wp2_with fail
      refine (flush_any c _ 0 _ c6 ok1).mono ?_; rintro e w7 ⟨rfl, c7, g7⟩
      rw [FL] at c7 ⊢
      have d7 := d6.other c6 g7 hne
      have B7 := below_gr B6 g7 hwc B6.size
      simp only at c7
      go_wp2_with fail
      refine (crash_up c _ none 0 0 [] _ c7 ok6 rfl (Row.nil _ _ _) (fun h0 => by cases h0) rfl (by decide)).mono ?_; rintro e w8 ⟨rfl, c8, g8⟩
      have d8 := d7.other c7 g8 hne
      have B8 := below_gr B7 g8 hwc B7.size
      go_wp2_with fail
      refine (start_any c _ _ c8).mono ?_; rintro e w9 ⟨rfl, c9, g9⟩
      have d9 := d8.other c8 g9 hne
      have B9 := below_gr B8 g9 hwc B8.size
      go_wp2_with fail
      refine (read_any c _ 0 _ c9).mono ?_; rintro e w10 ⟨rfl, b10⟩
      rw [FG]
      have d10 := d9.later b10
      have B10 := B9.trans (b10.mono B9.size)
      have HF : Hid (Held w w10 b (loseS s (max n 0 - ((k + 1 : Nat) : Int)))) := by rw [← EQ.out]; exact Lib.hid ⟨B10, d10, ok6, hwb⟩
      clear d1 d5 d6 d7 d8 d9 d10 c5 c6 c7 c8 c9 B1 B5 B6 B7 B8 B9 B10 EQ FG FL
      go_wp2_with fail
      go_roundw
      case rel => exact ⟨k + 1, by go_num, by omega, HF⟩
      case measure => simp [intOf]; omega
    · have hz : max n 0 - (k : Int) = 0 := by omega
      have h := hH.out
      rw [hz] at h
      clear hH hz
      go_wp2_with fail
      refine (flush_at h 0 (lose_last s)).mono ?_; rintro e w5 ⟨rfl, h5⟩
      go_wp2_with fail
      refine (crash_nil h5).mono ?_; rintro e w6 ⟨rfl, h6⟩
      go_wp2_with fail
      refine (start_at h6).mono ?_; rintro e w7 ⟨rfl, h7⟩
      go_wp2_with fail
      refine (read_at h7 0 (lose_kept s)).mono ?_; rintro e w8 ⟨rfl, h8⟩
      go_wp2_with fail
      go_ret
      exact ⟨rfl, h8.1⟩

set_option maxRecDepth 100000 in
theorem loses_any (s : List UInt8) (n : Int) (w : World) (hs : s.length ≤ maxLen) :
    Calls Try.prog 4 #[.string ⟨s.toArray⟩, .int .i64 n] w fun e w' => e = .returned (.bool true) ∧ Below w.heap.size w w' := by
  unfold maxLen at hs
  by_cases h1 : s.length ≤ 50000
  · by_cases h2 : n ≤ 20
    · exact loses_main s n w h1 h2
    · go_enter Try.func4, Try.ntmps4
      go_wp2_with fail
      refine (small9_any _).mono ?_; rintro e w1 ⟨rfl, b1⟩
      go_wp2_with fail
      refine (new_at w _ b1).mono ?_; rintro e w2 ⟨rfl, h2⟩
      go_wp2_with fail
      go_ret
      exact ⟨rfl, h2.1⟩
  · go_enter Try.func4, Try.ntmps4
    go_wp2_with fail
    refine (small9_any _).mono ?_; rintro e w1 ⟨rfl, b1⟩
    go_wp2_with fail
    refine (new_at w _ b1).mono ?_; rintro e w2 ⟨rfl, h2⟩
    go_wp2_with fail
    go_ret
    exact ⟨rfl, h2.1⟩

end Go.Proofs.Ytnbaalllcddbkaa
