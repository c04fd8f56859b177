/- The reference's numerals: Text, Parse. -/
import Derived.Test.YtllmgogcemannaaGreatDoorRefA
namespace Go.Proofs.YtllmgogcemannaaGreatDoor
open Go.RowKit

set_option maxRecDepth 100000 in
set_option maxHeartbeats 400000 in
theorem digits_small (u : Nat) (w : World) (h : u < 10) :
    Calls Tryz.prog 33 #[.int .i64 (-(u : Int))] w fun e w' => e = .returned (.string ⟨(Lib.decDigits u).toArray⟩) ∧ w = w' := by
  have HV := Lib.hid (show Lib.decDigits u = [UInt8.ofNat (48 + u)] by rw [Lib.decDigits, dif_pos h])
  have E1 := Lib.hid (byte_piece u h)
  match u, h with
  | 0, _ | 1, _ | 2, _ | 3, _ | 4, _ | 5, _ | 6, _ | 7, _ | 8, _ | 9, _ =>
    go_enter Tryz.func33, Tryz.ntmps33
    go_wp2_with fail
    go_ret
    rw [HV.out]
    exact ⟨rfl, rfl⟩

set_option maxRecDepth 100000 in
set_option maxHeartbeats 400000 in
theorem digits_big (u q d : Nat) (w : World) (h : ¬ u < 10) (hu : u ≤ 9223372036854775808) (hq : q = u / 10) (hd : d = u % 10) (IH : Hid (∀ w, Calls Tryz.prog 33 #[.int .i64 (-(q : Int))] w fun e w' => e = .returned (.string ⟨(Lib.decDigits q).toArray⟩) ∧ w = w')) :
    Calls Tryz.prog 33 #[.int .i64 (-(u : Int))] w fun e w' => e = .returned (.string ⟨(Lib.decDigits u).toArray⟩) ∧ w = w' := by
  have HV := Lib.hid (show Lib.decDigits u = Lib.decDigits q ++ [UInt8.ofNat (48 + d)] by rw [digits_sg u h, hq, hd])
  have hl := digits_len q (by omega)
  have E1 := byte_piece d (by omega)
  have E2 : RowKit.wrap64 (-((u : Int) / 10)) = -(q : Int) := by rw [IntWalk.wrap64_in _ (by omega)]; omega
  have E3 : (u : Int) % 10 = (d : Int) := by omega
  have hcat : ByteArray.mk (Lib.decDigits q).toArray ++ ByteArray.mk [UInt8.ofNat (48 + d)].toArray = ByteArray.mk (Lib.decDigits q ++ [UInt8.ofNat (48 + d)]).toArray := by rw [ByteArray.mk_append_mk]
  have HC := Lib.hid hcat
  have h10 : -(u : Int) ≤ -10 := by omega
  have hd9 : d < 10 := by omega
  clear hcat hq hd h hu
  generalize Lib.decDigits q = T at *
  generalize UInt8.ofNat (48 + d) = ch at *
  go_enter Tryz.func33, Tryz.ntmps33
  go_wp2_with fail
  refine (IH.out _).mono ?_; rintro e w1 ⟨rfl, rfl⟩
  go_wp2_with fail
  go_ret
  rw [HV.out, ← HC.out]
  exact ⟨rfl, rfl⟩

theorem digits_any : ∀ (u : Nat), u ≤ 9223372036854775808 → ∀ w : World, Calls Tryz.prog 33 #[.int .i64 (-(u : Int))] w fun e w' => e = .returned (.string ⟨(Lib.decDigits u).toArray⟩) ∧ w = w' := by
  intro u
  induction u using Nat.strongRecOn with
  | ind u ih =>
    intro hu w
    by_cases h : u < 10
    · exact digits_small u w h
    · exact digits_big u (u / 10) (u % 10) w h hu rfl rfl (Lib.hid (ih (u / 10) (by omega) (by omega)))

theorem itoa_negF {n : Int} (h : n < 0) : Lib.itoa n = 45 :: Lib.decDigits n.natAbs := itoa_neg h
set_option maxHeartbeats 400000 in
theorem rtext_any (n : Int) (w : World) (h0 : -9223372036854775808 ≤ n) (h1 : n ≤ 9223372036854775807) :
    Calls Tryz.prog 18 #[.int .i64 n] w fun e w' => e = .returned (.string ⟨(Lib.itoa n).toArray⟩) ∧ w = w' := by
  by_cases h : n < 0
  · have HV := Lib.hid (itoa_neg h)
    have hl := digits_len n.natAbs (by omega)
    have D := Lib.hid (fun w => digits_any n.natAbs (by omega) w)
    rw [show -((n.natAbs : Nat) : Int) = n by omega] at D
    have hcat := Lib.hid (show ByteArray.mk #[45] ++ ByteArray.mk (Lib.decDigits n.natAbs).toArray = ByteArray.mk (45 :: Lib.decDigits n.natAbs).toArray by rw [ByteArray.mk_append_mk]; simp)
    generalize Lib.decDigits n.natAbs = T at *
    go_enter Tryz.func18, Tryz.ntmps18
    go_wp2_with fail
    refine (D.out _).mono ?_; rintro e w1 ⟨rfl, rfl⟩
    go_wp2_with fail
    go_ret
    rw [HV.out, ← hcat.out]
    exact ⟨rfl, rfl⟩
  · have HV := Lib.hid (itoa_nat h)
    have D := Lib.hid (fun w => digits_any n.toNat (by omega) w)
    rw [show ((n.toNat : Nat) : Int) = n by omega] at D
    generalize Lib.decDigits n.toNat = T at *
    go_enter Tryz.func18, Tryz.ntmps18
    go_wp2_with fail
    refine (D.out _).mono ?_; rintro e w1 ⟨rfl, rfl⟩
    go_wp2_with fail
    go_ret
    rw [HV.out]
    exact ⟨rfl, rfl⟩


end Go.Proofs.YtllmgogcemannaaGreatDoor
