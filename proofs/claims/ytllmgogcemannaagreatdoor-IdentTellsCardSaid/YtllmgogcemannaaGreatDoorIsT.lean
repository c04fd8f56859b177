/- Package agoraref03: turn, firsts, adds. -/
import Derived.Test.YtllmgogcemannaaGreatDoorIdH
import Derived.Test.YtllmgogcemannaaGreatDoorRow
import Derived.BigQuiet
import Derived.Deep.QuietTactic
import Derived.Great.BuildSlice
import Derived.Laws.BitsAllLaws
namespace Go.Proofs.YtllmgogcemannaaGreatDoor
open Go.RowKit

theorem or_comm32 (x y : Int) : bits .or .u32 x y = bits .or .u32 y x := by
  unfold bits
  dsimp only
  rw [BitVec.or_comm]
set_option maxRecDepth 100000 in
theorem word_sum (a b c d : Nat) (ha : a < 256) (hb : b < 256) (hc : c < 256) (hd : d < 256) : word4 a b c d = (a : Int) * 16777216 + b * 65536 + c * 256 + d := by
  have key : ∀ (n m i : Nat), m < 2 ^ i → n * 2 ^ i ||| m = n * 2 ^ i + m := fun n m i h => by
    have := Nat.shiftLeft_add_eq_or_of_lt h n
    rw [Nat.shiftLeft_eq] at this
    exact this.symm
  have p24 : (2 : Nat) ^ 24 = 16777216 := rfl
  have p16 : (2 : Nat) ^ 16 = 65536 := rfl
  have p8 : (2 : Nat) ^ 8 = 256 := rfl
  have e1 : a * 16777216 ||| b * 65536 = a * 16777216 + b * 65536 := by
    have h := key a (b * 65536) 24 (by rw [p24]; omega)
    rwa [p24] at h
  have e2 : (a * 16777216 + b * 65536) ||| c * 256 = a * 16777216 + b * 65536 + c * 256 := by
    have h := key (a * 256 + b) (c * 256) 16 (by rw [p16]; omega)
    rw [p16] at h
    have e : (a * 256 + b) * 65536 = a * 16777216 + b * 65536 := by omega
    rwa [e] at h
  have e3 : (a * 16777216 + b * 65536 + c * 256) ||| d = a * 16777216 + b * 65536 + c * 256 + d := by
    have h := key (a * 65536 + b * 256 + c) d 8 (by rw [p8]; omega)
    rw [p8] at h
    have e : (a * 65536 + b * 256 + c) * 256 = a * 16777216 + b * 65536 + c * 256 := by omega
    rwa [e] at h
  unfold word4
  rw [show (a : Int) * 16777216 = ((a * 16777216 : Nat) : Int) by omega, show (b : Int) * 65536 = ((b * 65536 : Nat) : Int) by omega, show (c : Int) * 256 = ((c * 256 : Nat) : Int) by omega]
  rw [u32_or_nat _ _ (by omega) (by omega), e1, u32_or_nat _ _ (by omega) (by omega), e2, u32_or_nat _ _ (by omega) (by omega), e3]
  omega
theorem turn_form (x : Int) (a : Nat) : bits .or .u32 (x / 2 ^ a) (x * 2 ^ (32 - a) % 4294967296) = rotI x a := by unfold rotI; rw [or_comm32]
set_option maxRecDepth 100000 in
set_option maxHeartbeats 400000 in
theorem turn_2 (x : Int) (w : World) (hx : 0 ≤ x ∧ x < 4294967296) :
    Calls Tryz.prog 59 #[.int .u32 x, .int .i64 2] w fun e w' => e = .returned (.int .u32 (rotI x 2)) ∧ ∃ m, w' = w.drewN m := by
  have HT := Lib.hid (turn_form x 2)
  obtain ⟨hx0, hx1⟩ := hx
  go_enter Tryz.func59, Tryz.ntmps59
  go_wp2_with fail
  go_quiet (fail)
  go_wp2_with fail
  go_ret
  exact ⟨by rw [← HT.out]; rfl, _, rfl⟩
set_option maxRecDepth 100000 in
set_option maxHeartbeats 400000 in
theorem turn_6 (x : Int) (w : World) (hx : 0 ≤ x ∧ x < 4294967296) :
    Calls Tryz.prog 59 #[.int .u32 x, .int .i64 6] w fun e w' => e = .returned (.int .u32 (rotI x 6)) ∧ ∃ m, w' = w.drewN m := by
  have HT := Lib.hid (turn_form x 6)
  obtain ⟨hx0, hx1⟩ := hx
  go_enter Tryz.func59, Tryz.ntmps59
  go_wp2_with fail
  go_quiet (fail)
  go_wp2_with fail
  go_ret
  exact ⟨by rw [← HT.out]; rfl, _, rfl⟩
set_option maxRecDepth 100000 in
set_option maxHeartbeats 400000 in
theorem turn_7 (x : Int) (w : World) (hx : 0 ≤ x ∧ x < 4294967296) :
    Calls Tryz.prog 59 #[.int .u32 x, .int .i64 7] w fun e w' => e = .returned (.int .u32 (rotI x 7)) ∧ ∃ m, w' = w.drewN m := by
  have HT := Lib.hid (turn_form x 7)
  obtain ⟨hx0, hx1⟩ := hx
  go_enter Tryz.func59, Tryz.ntmps59
  go_wp2_with fail
  go_quiet (fail)
  go_wp2_with fail
  go_ret
  exact ⟨by rw [← HT.out]; rfl, _, rfl⟩
set_option maxRecDepth 100000 in
set_option maxHeartbeats 400000 in
theorem turn_11 (x : Int) (w : World) (hx : 0 ≤ x ∧ x < 4294967296) :
    Calls Tryz.prog 59 #[.int .u32 x, .int .i64 11] w fun e w' => e = .returned (.int .u32 (rotI x 11)) ∧ ∃ m, w' = w.drewN m := by
  have HT := Lib.hid (turn_form x 11)
  obtain ⟨hx0, hx1⟩ := hx
  go_enter Tryz.func59, Tryz.ntmps59
  go_wp2_with fail
  go_quiet (fail)
  go_wp2_with fail
  go_ret
  exact ⟨by rw [← HT.out]; rfl, _, rfl⟩
set_option maxRecDepth 100000 in
set_option maxHeartbeats 400000 in
theorem turn_13 (x : Int) (w : World) (hx : 0 ≤ x ∧ x < 4294967296) :
    Calls Tryz.prog 59 #[.int .u32 x, .int .i64 13] w fun e w' => e = .returned (.int .u32 (rotI x 13)) ∧ ∃ m, w' = w.drewN m := by
  have HT := Lib.hid (turn_form x 13)
  obtain ⟨hx0, hx1⟩ := hx
  go_enter Tryz.func59, Tryz.ntmps59
  go_wp2_with fail
  go_quiet (fail)
  go_wp2_with fail
  go_ret
  exact ⟨by rw [← HT.out]; rfl, _, rfl⟩
set_option maxRecDepth 100000 in
set_option maxHeartbeats 400000 in
theorem turn_17 (x : Int) (w : World) (hx : 0 ≤ x ∧ x < 4294967296) :
    Calls Tryz.prog 59 #[.int .u32 x, .int .i64 17] w fun e w' => e = .returned (.int .u32 (rotI x 17)) ∧ ∃ m, w' = w.drewN m := by
  have HT := Lib.hid (turn_form x 17)
  obtain ⟨hx0, hx1⟩ := hx
  go_enter Tryz.func59, Tryz.ntmps59
  go_wp2_with fail
  go_quiet (fail)
  go_wp2_with fail
  go_ret
  exact ⟨by rw [← HT.out]; rfl, _, rfl⟩
set_option maxRecDepth 100000 in
set_option maxHeartbeats 400000 in
theorem turn_18 (x : Int) (w : World) (hx : 0 ≤ x ∧ x < 4294967296) :
    Calls Tryz.prog 59 #[.int .u32 x, .int .i64 18] w fun e w' => e = .returned (.int .u32 (rotI x 18)) ∧ ∃ m, w' = w.drewN m := by
  have HT := Lib.hid (turn_form x 18)
  obtain ⟨hx0, hx1⟩ := hx
  go_enter Tryz.func59, Tryz.ntmps59
  go_wp2_with fail
  go_quiet (fail)
  go_wp2_with fail
  go_ret
  exact ⟨by rw [← HT.out]; rfl, _, rfl⟩
set_option maxRecDepth 100000 in
set_option maxHeartbeats 400000 in
theorem turn_19 (x : Int) (w : World) (hx : 0 ≤ x ∧ x < 4294967296) :
    Calls Tryz.prog 59 #[.int .u32 x, .int .i64 19] w fun e w' => e = .returned (.int .u32 (rotI x 19)) ∧ ∃ m, w' = w.drewN m := by
  have HT := Lib.hid (turn_form x 19)
  obtain ⟨hx0, hx1⟩ := hx
  go_enter Tryz.func59, Tryz.ntmps59
  go_wp2_with fail
  go_quiet (fail)
  go_wp2_with fail
  go_ret
  exact ⟨by rw [← HT.out]; rfl, _, rfl⟩
set_option maxRecDepth 100000 in
set_option maxHeartbeats 400000 in
theorem turn_22 (x : Int) (w : World) (hx : 0 ≤ x ∧ x < 4294967296) :
    Calls Tryz.prog 59 #[.int .u32 x, .int .i64 22] w fun e w' => e = .returned (.int .u32 (rotI x 22)) ∧ ∃ m, w' = w.drewN m := by
  have HT := Lib.hid (turn_form x 22)
  obtain ⟨hx0, hx1⟩ := hx
  go_enter Tryz.func59, Tryz.ntmps59
  go_wp2_with fail
  go_quiet (fail)
  go_wp2_with fail
  go_ret
  exact ⟨by rw [← HT.out]; rfl, _, rfl⟩
set_option maxRecDepth 100000 in
set_option maxHeartbeats 400000 in
theorem turn_25 (x : Int) (w : World) (hx : 0 ≤ x ∧ x < 4294967296) :
    Calls Tryz.prog 59 #[.int .u32 x, .int .i64 25] w fun e w' => e = .returned (.int .u32 (rotI x 25)) ∧ ∃ m, w' = w.drewN m := by
  have HT := Lib.hid (turn_form x 25)
  obtain ⟨hx0, hx1⟩ := hx
  go_enter Tryz.func59, Tryz.ntmps59
  go_wp2_with fail
  go_quiet (fail)
  go_wp2_with fail
  go_ret
  exact ⟨by rw [← HT.out]; rfl, _, rfl⟩
end Go.Proofs.YtllmgogcemannaaGreatDoor
