/- The law's example of a disk. -/
import Derived.Test.YtnbaalllcddbkaaDisk9
namespace Go.Proofs.Ytnbaalllcddbkaa
open Go.RowKit

namespace SmallDisk
def hello : List UInt8 := [104, 101, 108, 108, 111]
def you : List UInt8 := [121, 111, 117]
def d1 : DS := (DS.init.appendS 1 hello).2
def d2 : DS := (d1.flushS 1).2
def d3 : DS := (d2.appendS 1 you).2
def d4 : DS := d3.crash [9, 1]
def d5 : DS := { d4 with down := false }
def d6 : DS := { d5 with lost := max 1 0 }
def d7 : DS := (d6.flushS 1).2
def d8 : DS := (d7.appendS 2 [120]).2
def d9 : DS := (d8.turnS 1 2).2
def d10 : DS := (d9.flushS 2).2
def d11 : DS := (d10.turnS 1 2).2
def d12 : DS := (d11.appendS 8 []).2
def d13 : DS := (d12.cutS 1 2).2
theorem e1 : DS.init.appendS 1 hello = (0, d1) := by kernel_rfl
theorem e2 : d1.flushS 1 = (0, d2) := by kernel_rfl
theorem e3 : d2.appendS 1 you = (0, d3) := by kernel_rfl
theorem e4 : ReadsF d4 1 = ([], 8) := by kernel_rfl
theorem e4d : d4.down = true := by kernel_rfl
theorem e5 : ReadsF d5 1 = ([104, 101, 108, 108, 111, 121], 0) := by kernel_rfl
theorem e7 : d6.flushS 1 = (18, d7) := by kernel_rfl
theorem e8 : d7.appendS 2 [120] = (0, d8) := by kernel_rfl
theorem e9 : d8.turnS 1 2 = (9, d9) := by kernel_rfl
theorem e10 : d9.flushS 2 = (0, d10) := by kernel_rfl
theorem e11 : d10.turnS 1 2 = (0, d11) := by kernel_rfl
theorem e11r : ReadsF d11 1 = ([120], 0) := by kernel_rfl
theorem e11s : (d11.by_ 2).length = 0 := by kernel_rfl
theorem e12 : d11.appendS 8 [] = (1, d12) := by kernel_rfl
theorem e13 : d12.cutS 1 2 = (1, d13) := by kernel_rfl
end SmallDisk
open SmallDisk

set_option maxRecDepth 100000 in
set_option maxHeartbeats 1000000 in
theorem small9_any (w : World) : Calls Try.prog 12 #[] w fun e w' => e = .returned (.bool true) ∧ Below w.heap.size w w' := by
  go_enter Try.func12, Try.ntmps12
  go_wp2_with fail
  refine (new_at w w (Below.refl _ _)).mono ?_; rintro e w1 ⟨rfl, h1⟩
  generalize w.heap.size = b at h1 ⊢
  go_wp2_with fail
  refine (append_at h1 1 hello (by decide) e1).mono ?_; rintro e w2 ⟨rfl, h2⟩
  clear h1
  go_wp2_with fail
  refine (flush_at h2 1 e2).mono ?_; rintro e w3 ⟨rfl, h3⟩
  clear h2
  go_wp2_with fail
  refine (append_at h3 1 you (by decide) e3).mono ?_; rintro e w4 ⟨rfl, h4⟩
  clear h3
  go_wp2_with fail
  refine (crash_two h4 9 1).mono ?_; rintro e w5 ⟨rfl, h5⟩
  clear h4
  change Held w w5 b d4 at h5
  go_wp2_with fail
  refine (read_at h5 1 e4).mono ?_; rintro e w6 ⟨rfl, h6⟩
  clear h5
  go_wp2_with fail
  refine (down_at h6).mono ?_; rintro e w7 ⟨rfl, rfl⟩
  rw [e4d]
  go_wp2_with fail
  refine (start_at h6).mono ?_; rintro e w7 ⟨rfl, h7⟩
  clear h6
  change Held w w7 b d5 at h7
  go_wp2_with fail
  refine (read_at h7 1 e5).mono ?_; rintro e w8 ⟨rfl, h8⟩
  clear h7
  go_wp2_with fail
  refine (lose_at h8 1 (by decide)).mono ?_; rintro e w9 ⟨rfl, h9⟩
  clear h8
  change Held w w9 b d6 at h9
  go_wp2_with fail
  refine (flush_at h9 1 e7).mono ?_; rintro e w10 ⟨rfl, h10⟩
  clear h9
  go_wp2_with fail
  refine (append_at h10 2 [120] (by decide) e8).mono ?_; rintro e w11 ⟨rfl, h11⟩
  clear h10
  go_wp2_with fail
  refine (turn_at h11 1 2 e9).mono ?_; rintro e w12 ⟨rfl, h12⟩
  clear h11
  go_wp2_with fail
  refine (flush_at h12 2 e10).mono ?_; rintro e w13 ⟨rfl, h13⟩
  clear h12
  go_wp2_with fail
  refine (turn_at h13 1 2 e11).mono ?_; rintro e w14 ⟨rfl, h14⟩
  clear h13
  go_wp2_with fail
  refine (read_at h14 1 e11r).mono ?_; rintro e w15 ⟨rfl, h15⟩
  clear h14
  go_wp2_with fail
  refine (size_at h15 2 (by decide)).mono ?_; rintro e w16 ⟨rfl, rfl⟩
  rw [e11s]
  go_wp2_with fail
  refine (append_at h15 8 [] (by decide) e12).mono ?_; rintro e w16 ⟨rfl, h16⟩
  clear h15
  go_wp2_with fail
  refine (cut_at h16 1 2 e13).mono ?_; rintro e w17 ⟨rfl, h17⟩
  clear h16
  go_wp2_with fail
  go_ret
  exact ⟨rfl, h17.1⟩

end Go.Proofs.Ytnbaalllcddbkaa
