/- The reference of num: digits, Text, Clamp, Add, Sub, Mul, Div, Mod. -/
import Derived.Test.YtfjjkffoafcakaaDoorNumRefText
import Derived.Test.YtfjjkffoafcakaaDoorNumSat
import Derived.Deep.QuietTactic
import Derived.BigQuiet
namespace Go.Proofs.YtfjjkffoafcakaaDoor
open Go.RowKit

set_option maxRecDepth 100000 in
set_option maxHeartbeats 400000 in
theorem digits_small (u : Nat) (w : World) (h : u < 10) :
    Calls Tryd.prog 32 #[.int .i64 (-(u : Int))] w fun e w' => e = .returned (.string ⟨(Lib.decDigits u).toArray⟩) ∧ w = w' := by
  have HV := Lib.hid (show Lib.decDigits u = [UInt8.ofNat (48 + u)] by rw [Lib.decDigits, dif_pos h])
  have E1 := Lib.hid (byte_piece u h)
  match u, h with
  | 0, _ | 1, _ | 2, _ | 3, _ | 4, _ | 5, _ | 6, _ | 7, _ | 8, _ | 9, _ =>
    go_enter Tryd.func32, Tryd.ntmps32
    go_wp2_with fail
    go_ret
    rw [HV.out]
    exact ⟨rfl, rfl⟩

set_option maxRecDepth 100000 in
set_option maxHeartbeats 400000 in
theorem digits_big (u q d : Nat) (w : World) (h : ¬ u < 10) (hu : u ≤ 9223372036854775808) (hq : q = u / 10) (hd : d = u % 10) (IH : Hid (∀ w, Calls Tryd.prog 32 #[.int .i64 (-(q : Int))] w fun e w' => e = .returned (.string ⟨(Lib.decDigits q).toArray⟩) ∧ w = w')) :
    Calls Tryd.prog 32 #[.int .i64 (-(u : Int))] w fun e w' => e = .returned (.string ⟨(Lib.decDigits u).toArray⟩) ∧ w = w' := by
  have HV := Lib.hid (show Lib.decDigits u = Lib.decDigits q ++ [UInt8.ofNat (48 + d)] by rw [digits_sg u h, hq, hd])
  have hl := digits_len q (by omega)
  have E1 := byte_piece d (by omega)
  have E2 : RowKit.wrap64 (-((u : Int) / 10)) = -(q : Int) := by rw [IntWalk.wrap64_in _ (by omega)]; omega
  have E3 : (u : Int) % 10 = (d : Int) := by omega
  have hcat : ByteArray.mk (Lib.decDigits q).toArray ++ ByteArray.mk [UInt8.ofNat (48 + d)].toArray = ByteArray.mk (Lib.decDigits q ++ [UInt8.ofNat (48 + d)]).toArray := by rw [ByteArray.mk_append_mk]
  have HC := Lib.hid hcat
  have h10 : -(u : Int) ≤ -10 := by omega
  have hd9 : d < 10 := by omega
  clear hcat hq hd h hu
  generalize Lib.decDigits q = T at *
  generalize UInt8.ofNat (48 + d) = ch at *
  go_enter Tryd.func32, Tryd.ntmps32
  go_wp2_with fail
  refine (IH.out _).mono ?_; rintro e w1 ⟨rfl, rfl⟩
  go_wp2_with fail
  go_ret
  rw [HV.out, ← HC.out]
  exact ⟨rfl, rfl⟩

theorem digits_any : ∀ (u : Nat), u ≤ 9223372036854775808 → ∀ w : World, Calls Tryd.prog 32 #[.int .i64 (-(u : Int))] w fun e w' => e = .returned (.string ⟨(Lib.decDigits u).toArray⟩) ∧ w = w' := by
  intro u
  induction u using Nat.strongRecOn with
  | ind u ih =>
    intro hu w
    by_cases h : u < 10
    · exact digits_small u w h
    · exact digits_big u (u / 10) (u % 10) w h hu rfl rfl (Lib.hid (ih (u / 10) (by omega) (by omega)))

theorem itoa_negF {n : Int} (h : n < 0) : Lib.itoa n = 45 :: Lib.decDigits n.natAbs := itoa_neg h
set_option maxHeartbeats 400000 in
theorem rtext_any (n : Int) (w : World) (h0 : -9223372036854775808 ≤ n) (h1 : n ≤ 9223372036854775807) :
    Calls Tryd.prog 16 #[.int .i64 n] w fun e w' => e = .returned (.string ⟨(Lib.itoa n).toArray⟩) ∧ w = w' := by
  by_cases h : n < 0
  · have HV := Lib.hid (itoa_neg h)
    have hl := digits_len n.natAbs (by omega)
    have D := Lib.hid (fun w => digits_any n.natAbs (by omega) w)
    rw [show -((n.natAbs : Nat) : Int) = n by omega] at D
    have hcat := Lib.hid (show ByteArray.mk #[45] ++ ByteArray.mk (Lib.decDigits n.natAbs).toArray = ByteArray.mk (45 :: Lib.decDigits n.natAbs).toArray by rw [ByteArray.mk_append_mk]; simp)
    generalize Lib.decDigits n.natAbs = T at *
    go_enter Tryd.func16, Tryd.ntmps16
    go_wp2_with fail
    refine (D.out _).mono ?_; rintro e w1 ⟨rfl, rfl⟩
    go_wp2_with fail
    go_ret
    rw [HV.out, ← hcat.out]
    exact ⟨rfl, rfl⟩
  · have HV := Lib.hid (itoa_nat h)
    have D := Lib.hid (fun w => digits_any n.toNat (by omega) w)
    rw [show ((n.toNat : Nat) : Int) = n by omega] at D
    generalize Lib.decDigits n.toNat = T at *
    go_enter Tryd.func16, Tryd.ntmps16
    go_wp2_with fail
    refine (D.out _).mono ?_; rintro e w1 ⟨rfl, rfl⟩
    go_wp2_with fail
    go_ret
    rw [HV.out]
    exact ⟨rfl, rfl⟩

set_option maxHeartbeats 400000 in
theorem rclamp_any (n lo hi : Int) (w : World) :
    Calls Tryd.prog 18 #[.int .i64 n, .int .i64 lo, .int .i64 hi] w fun e w' => e = .returned (.int .i64 (clampS n lo hi)) ∧ w = w' := by
  by_cases h1 : n < lo
  · rw [clamp_lo h1]
    go_enter Tryd.func18, Tryd.ntmps18
    go_wp2_with fail
    go_ret
    exact ⟨rfl, rfl⟩
  · by_cases h2 : hi < n
    · rw [clamp_hi h1 h2]
      go_enter Tryd.func18, Tryd.ntmps18
      go_wp2_with fail
      go_ret
      exact ⟨rfl, rfl⟩
    · rw [clamp_in h1 h2]
      go_enter Tryd.func18, Tryd.ntmps18
      go_wp2_with fail
      go_ret
      exact ⟨rfl, rfl⟩
set_option maxHeartbeats 400000 in
theorem rlimit_any (n : Int) (w : World) :
    Calls Tryd.prog 35 #[.int .i64 n] w fun e w' => e = .returned (.int .i64 (lim n)) ∧ w = w' := by
  go_enter Tryd.func35, Tryd.ntmps35
  go_wp2_with fail
  refine (rclamp_any _ _ _ _).mono ?_; rintro e w1 ⟨rfl, rfl⟩
  go_wp2_with fail
  go_ret
  exact ⟨rfl, rfl⟩
theorem lim_top {n : Int} (h : 1125899906842624 < n) : lim n = 1125899906842624 := by unfold lim clampS; rw [if_neg (by omega), if_pos h]
theorem lim_bot {n : Int} (h : n < -1125899906842624) : lim n = -1125899906842624 := by unfold lim clampS; rw [if_pos h]

set_option maxRecDepth 100000 in
set_option maxHeartbeats 400000 in
theorem radd_any (a b : Int) (w : World) (ha : In64 a) (hb : In64 b) :
    Calls Tryd.prog 20 #[.int .i64 a, .int .i64 b] w fun e w' => e = .returned (.int .i64 (lim (a + b))) ∧ w = w' := by
  obtain ⟨ha0, ha1⟩ := ha
  obtain ⟨hb0, hb1⟩ := hb
  by_cases h : 0 ≤ b
  · have h' : ¬ b < 0 := by omega
    by_cases h2 : 1125899906842624 - b < a
    · have HR := Lib.hid (lim_top (n := a + b) (by omega))
      go_enter Tryd.func20, Tryd.ntmps20
      go_wp2_with fail
      go_ret
      rw [HR.out]; exact ⟨rfl, rfl⟩
    · go_enter Tryd.func20, Tryd.ntmps20
      go_wp2_with fail
      refine (rlimit_any _ _).mono ?_; rintro e w1 ⟨rfl, rfl⟩
      go_wp2_with fail
      go_ret
      exact ⟨rfl, rfl⟩
  · have h' : b < 0 := by omega
    by_cases h2 : a < -1125899906842624 - b
    · have HR := Lib.hid (lim_bot (n := a + b) (by omega))
      go_enter Tryd.func20, Tryd.ntmps20
      go_wp2_with fail
      go_ret
      rw [HR.out]; exact ⟨rfl, rfl⟩
    · go_enter Tryd.func20, Tryd.ntmps20
      go_wp2_with fail
      refine (rlimit_any _ _).mono ?_; rintro e w1 ⟨rfl, rfl⟩
      go_wp2_with fail
      go_ret
      exact ⟨rfl, rfl⟩

set_option maxRecDepth 100000 in
set_option maxHeartbeats 400000 in
theorem rsub_any (a b : Int) (w : World) (ha : In64 a) (hb : In64 b) :
    Calls Tryd.prog 22 #[.int .i64 a, .int .i64 b] w fun e w' => e = .returned (.int .i64 (lim (a - b))) ∧ w = w' := by
  obtain ⟨ha0, ha1⟩ := ha
  obtain ⟨hb0, hb1⟩ := hb
  by_cases h : 0 ≤ b
  · have h' : ¬ b < 0 := by omega
    by_cases h2 : a < -1125899906842624 + b
    · have HR := Lib.hid (lim_bot (n := a - b) (by omega))
      go_enter Tryd.func22, Tryd.ntmps22
      go_wp2_with fail
      go_ret
      rw [HR.out]; exact ⟨rfl, rfl⟩
    · go_enter Tryd.func22, Tryd.ntmps22
      go_wp2_with fail
      refine (rlimit_any _ _).mono ?_; rintro e w1 ⟨rfl, rfl⟩
      go_wp2_with fail
      go_ret
      exact ⟨rfl, rfl⟩
  · have h' : b < 0 := by omega
    by_cases h2 : 1125899906842624 + b < a
    · have HR := Lib.hid (lim_top (n := a - b) (by omega))
      go_enter Tryd.func22, Tryd.ntmps22
      go_wp2_with fail
      go_ret
      rw [HR.out]; exact ⟨rfl, rfl⟩
    · go_enter Tryd.func22, Tryd.ntmps22
      go_wp2_with fail
      refine (rlimit_any _ _).mono ?_; rintro e w1 ⟨rfl, rfl⟩
      go_wp2_with fail
      go_ret
      exact ⟨rfl, rfl⟩

set_option maxHeartbeats 400000 in
theorem size_any (n : Int) (w : World) (h : In64 n) :
    Calls Tryd.prog 30 #[.int .i64 n] w fun e w' => e = .returned (.int .u64 (n.natAbs : Int)) ∧ w = w' := by
  obtain ⟨h0, h1⟩ := h
  by_cases h : n < 0
  · have E1 := Lib.hid (show -(n + 1) + 1 = (n.natAbs : Int) by omega)
    go_enter Tryd.func30, Tryd.ntmps30
    go_wp2_with fail
    go_ret
    exact ⟨congrArg (fun x => Ending.returned (Value.int .u64 x)) E1.out, rfl⟩
  · have E1 := Lib.hid (show n = (n.natAbs : Int) by omega)
    go_enter Tryd.func30, Tryd.ntmps30
    go_wp2_with fail
    go_ret
    exact ⟨congrArg (fun x => Ending.returned (Value.int .u64 x)) E1.out, rfl⟩
theorem sg_lim (neg : Bool) (n : Nat) : sg neg (min n 1125899906842624) = lim (sg neg n) := by
  unfold lim clampS sg
  cases neg <;> simp only [if_true, if_false, Bool.false_eq_true] <;> split <;> (try split) <;> omega
set_option maxHeartbeats 400000 in
theorem signed_any (n : Nat) (neg : Bool) (w : World) (h : n < 18446744073709551616) :
    Calls Tryd.prog 29 #[.int .u64 (n : Int), .bool neg] w fun e w' => e = .returned (.int .i64 (lim (sg neg n))) ∧ w = w' := by
  have HR := Lib.hid (sg_lim neg n)
  have E1 : min (n : Int) 1125899906842624 = ((min n 1125899906842624 : Nat) : Int) := by omega
  have hm : min n 1125899906842624 ≤ 1125899906842624 := by omega
  clear h
  generalize min n 1125899906842624 = m at *
  cases neg
  · go_enter Tryd.func29, Tryd.ntmps29
    go_wp2_with fail
    go_ret
    rw [← HR.out]
    exact ⟨rfl, rfl⟩
  · go_enter Tryd.func29, Tryd.ntmps29
    go_wp2_with fail
    go_ret
    rw [← HR.out]
    exact ⟨rfl, rfl⟩
end Go.Proofs.YtfjjkffoafcakaaDoor
