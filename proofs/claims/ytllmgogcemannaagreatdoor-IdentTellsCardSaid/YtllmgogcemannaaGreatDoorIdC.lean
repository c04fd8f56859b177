/- Package sum: rotations, words. -/
import Derived.Test.YtllmgogcemannaaGreatDoorIdA
import Derived.BigQuiet
namespace Go.Proofs.YtllmgogcemannaaGreatDoor
open Go.RowKit

/-- What a rotation to the right gives. -/
def rotI (x : Int) (a : Nat) : Int := bits .or .u32 (x * 2 ^ (32 - a) % 4294967296) (x / 2 ^ a)
def rot3 (x : Int) (a b c : Nat) : Int := bits .xor .u32 (bits .xor .u32 (rotI x a) (rotI x b)) (rotI x c)
set_option maxRecDepth 100000 in
set_option maxHeartbeats 400000 in
theorem rot_2 (x : Int) (w : World) (hx : 0 ≤ x ∧ x < 4294967296) :
    Calls Tryz.prog 76 #[.int .u32 x, .int .i64 (-2)] w fun e w' => e = .returned (.int .u32 (rotI x 2)) ∧ w = w' := by
  have E : bits .and .u64 (IntKind.u64.wrap (-2)) 31 = 30 := by decide
  obtain ⟨hx0, hx1⟩ := hx
  go_enter Tryz.func76, Tryz.ntmps76
  go_wp2_with fail
  go_ret
  exact ⟨rfl, rfl⟩
set_option maxRecDepth 100000 in
set_option maxHeartbeats 400000 in
theorem rot_6 (x : Int) (w : World) (hx : 0 ≤ x ∧ x < 4294967296) :
    Calls Tryz.prog 76 #[.int .u32 x, .int .i64 (-6)] w fun e w' => e = .returned (.int .u32 (rotI x 6)) ∧ w = w' := by
  have E : bits .and .u64 (IntKind.u64.wrap (-6)) 31 = 26 := by decide
  obtain ⟨hx0, hx1⟩ := hx
  go_enter Tryz.func76, Tryz.ntmps76
  go_wp2_with fail
  go_ret
  exact ⟨rfl, rfl⟩
set_option maxRecDepth 100000 in
set_option maxHeartbeats 400000 in
theorem rot_7 (x : Int) (w : World) (hx : 0 ≤ x ∧ x < 4294967296) :
    Calls Tryz.prog 76 #[.int .u32 x, .int .i64 (-7)] w fun e w' => e = .returned (.int .u32 (rotI x 7)) ∧ w = w' := by
  have E : bits .and .u64 (IntKind.u64.wrap (-7)) 31 = 25 := by decide
  obtain ⟨hx0, hx1⟩ := hx
  go_enter Tryz.func76, Tryz.ntmps76
  go_wp2_with fail
  go_ret
  exact ⟨rfl, rfl⟩
set_option maxRecDepth 100000 in
set_option maxHeartbeats 400000 in
theorem rot_11 (x : Int) (w : World) (hx : 0 ≤ x ∧ x < 4294967296) :
    Calls Tryz.prog 76 #[.int .u32 x, .int .i64 (-11)] w fun e w' => e = .returned (.int .u32 (rotI x 11)) ∧ w = w' := by
  have E : bits .and .u64 (IntKind.u64.wrap (-11)) 31 = 21 := by decide
  obtain ⟨hx0, hx1⟩ := hx
  go_enter Tryz.func76, Tryz.ntmps76
  go_wp2_with fail
  go_ret
  exact ⟨rfl, rfl⟩
set_option maxRecDepth 100000 in
set_option maxHeartbeats 400000 in
theorem rot_13 (x : Int) (w : World) (hx : 0 ≤ x ∧ x < 4294967296) :
    Calls Tryz.prog 76 #[.int .u32 x, .int .i64 (-13)] w fun e w' => e = .returned (.int .u32 (rotI x 13)) ∧ w = w' := by
  have E : bits .and .u64 (IntKind.u64.wrap (-13)) 31 = 19 := by decide
  obtain ⟨hx0, hx1⟩ := hx
  go_enter Tryz.func76, Tryz.ntmps76
  go_wp2_with fail
  go_ret
  exact ⟨rfl, rfl⟩
set_option maxRecDepth 100000 in
set_option maxHeartbeats 400000 in
theorem rot_17 (x : Int) (w : World) (hx : 0 ≤ x ∧ x < 4294967296) :
    Calls Tryz.prog 76 #[.int .u32 x, .int .i64 (-17)] w fun e w' => e = .returned (.int .u32 (rotI x 17)) ∧ w = w' := by
  have E : bits .and .u64 (IntKind.u64.wrap (-17)) 31 = 15 := by decide
  obtain ⟨hx0, hx1⟩ := hx
  go_enter Tryz.func76, Tryz.ntmps76
  go_wp2_with fail
  go_ret
  exact ⟨rfl, rfl⟩
set_option maxRecDepth 100000 in
set_option maxHeartbeats 400000 in
theorem rot_18 (x : Int) (w : World) (hx : 0 ≤ x ∧ x < 4294967296) :
    Calls Tryz.prog 76 #[.int .u32 x, .int .i64 (-18)] w fun e w' => e = .returned (.int .u32 (rotI x 18)) ∧ w = w' := by
  have E : bits .and .u64 (IntKind.u64.wrap (-18)) 31 = 14 := by decide
  obtain ⟨hx0, hx1⟩ := hx
  go_enter Tryz.func76, Tryz.ntmps76
  go_wp2_with fail
  go_ret
  exact ⟨rfl, rfl⟩
set_option maxRecDepth 100000 in
set_option maxHeartbeats 400000 in
theorem rot_19 (x : Int) (w : World) (hx : 0 ≤ x ∧ x < 4294967296) :
    Calls Tryz.prog 76 #[.int .u32 x, .int .i64 (-19)] w fun e w' => e = .returned (.int .u32 (rotI x 19)) ∧ w = w' := by
  have E : bits .and .u64 (IntKind.u64.wrap (-19)) 31 = 13 := by decide
  obtain ⟨hx0, hx1⟩ := hx
  go_enter Tryz.func76, Tryz.ntmps76
  go_wp2_with fail
  go_ret
  exact ⟨rfl, rfl⟩
set_option maxRecDepth 100000 in
set_option maxHeartbeats 400000 in
theorem rot_22 (x : Int) (w : World) (hx : 0 ≤ x ∧ x < 4294967296) :
    Calls Tryz.prog 76 #[.int .u32 x, .int .i64 (-22)] w fun e w' => e = .returned (.int .u32 (rotI x 22)) ∧ w = w' := by
  have E : bits .and .u64 (IntKind.u64.wrap (-22)) 31 = 10 := by decide
  obtain ⟨hx0, hx1⟩ := hx
  go_enter Tryz.func76, Tryz.ntmps76
  go_wp2_with fail
  go_ret
  exact ⟨rfl, rfl⟩
set_option maxRecDepth 100000 in
set_option maxHeartbeats 400000 in
theorem rot_25 (x : Int) (w : World) (hx : 0 ≤ x ∧ x < 4294967296) :
    Calls Tryz.prog 76 #[.int .u32 x, .int .i64 (-25)] w fun e w' => e = .returned (.int .u32 (rotI x 25)) ∧ w = w' := by
  have E : bits .and .u64 (IntKind.u64.wrap (-25)) 31 = 7 := by decide
  obtain ⟨hx0, hx1⟩ := hx
  go_enter Tryz.func76, Tryz.ntmps76
  go_wp2_with fail
  go_ret
  exact ⟨rfl, rfl⟩
set_option maxRecDepth 100000 in
set_option maxHeartbeats 400000 in
theorem rots_6 (x : Int) (w : World) (hx : 0 ≤ x ∧ x < 4294967296) :
    Calls Tryz.prog 56 #[.int .u32 x, .int .i64 6, .int .i64 11, .int .i64 25] w fun e w' => e = .returned (.int .u32 (rot3 x 6 11 25)) ∧ w = w' := by
  have R1 := Lib.hid (fun w => rot_6 x w hx)
  have R2 := Lib.hid (fun w => rot_11 x w hx)
  have R3 := Lib.hid (fun w => rot_25 x w hx)
  unfold rot3
  generalize rotI x 6 = r1 at R1 ⊢
  generalize rotI x 11 = r2 at R2 ⊢
  generalize rotI x 25 = r3 at R3 ⊢
  go_enter Tryz.func56, Tryz.ntmps56
  go_wp2_with fail
  refine (R1.out _).mono ?_; rintro e w1 ⟨rfl, rfl⟩
  go_wp2_with fail
  refine (R2.out _).mono ?_; rintro e w2 ⟨rfl, rfl⟩
  go_wp2_with fail
  refine (R3.out _).mono ?_; rintro e w3 ⟨rfl, rfl⟩
  go_wp2_with fail
  go_ret
  exact ⟨rfl, rfl⟩
set_option maxRecDepth 100000 in
set_option maxHeartbeats 400000 in
theorem rots_2 (x : Int) (w : World) (hx : 0 ≤ x ∧ x < 4294967296) :
    Calls Tryz.prog 56 #[.int .u32 x, .int .i64 2, .int .i64 13, .int .i64 22] w fun e w' => e = .returned (.int .u32 (rot3 x 2 13 22)) ∧ w = w' := by
  have R1 := Lib.hid (fun w => rot_2 x w hx)
  have R2 := Lib.hid (fun w => rot_13 x w hx)
  have R3 := Lib.hid (fun w => rot_22 x w hx)
  unfold rot3
  generalize rotI x 2 = r1 at R1 ⊢
  generalize rotI x 13 = r2 at R2 ⊢
  generalize rotI x 22 = r3 at R3 ⊢
  go_enter Tryz.func56, Tryz.ntmps56
  go_wp2_with fail
  refine (R1.out _).mono ?_; rintro e w1 ⟨rfl, rfl⟩
  go_wp2_with fail
  refine (R2.out _).mono ?_; rintro e w2 ⟨rfl, rfl⟩
  go_wp2_with fail
  refine (R3.out _).mono ?_; rintro e w3 ⟨rfl, rfl⟩
  go_wp2_with fail
  go_ret
  exact ⟨rfl, rfl⟩
theorem wrap32 (n : Int) : 0 ≤ IntKind.u32.wrap n ∧ IntKind.u32.wrap n < 4294967296 := by
  have : IntKind.u32.wrap n = n % 4294967296 := rfl
  omega
theorem bits_range (op : BinOp) (x y : Int) (h : op = .and ∨ op = .or ∨ op = .xor) : 0 ≤ bits op .u32 x y ∧ bits op .u32 x y < 4294967296 := by
  rcases h with rfl | rfl | rfl
  · exact wrap32 _
  · exact wrap32 _
  · exact wrap32 _
theorem rotI_range (x : Int) (a : Nat) : 0 ≤ rotI x a ∧ rotI x a < 4294967296 := bits_range .or _ _ (.inr (.inl rfl))
theorem rot3_range (x : Int) (a b c : Nat) : 0 ≤ rot3 x a b c ∧ rot3 x a b c < 4294967296 := bits_range .xor _ _ (.inr (.inr rfl))
end Go.Proofs.YtllmgogcemannaaGreatDoor
