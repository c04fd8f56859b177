/- The reference of lex: letters, digits, words. -/
import Derived.Test.YtammpndggdniiaaDoorLexP
import Derived.Test.YtammpndggdniiaaDoorLexQ
import Derived.BigQuiet
namespace Go.Proofs.YtammpndggdniiaaDoor
open Go.RowKit

theorem cls2_iff (c : UInt8) : cls c.toNat = 2 ↔ 97 ≤ c.toNat ∧ c.toNat ≤ 122 := by
  have key : ∀ n : Fin 256, cls (UInt8.ofNat n).toNat = 2 ↔ 97 ≤ (UInt8.ofNat n).toNat ∧ (UInt8.ofNat n).toNat ≤ 122 := by decide +kernel
  have := key ⟨c.toNat, c.toNat_lt⟩
  simpa using this
theorem cls3_iff (c : UInt8) : cls c.toNat = 3 ↔ 48 ≤ c.toNat ∧ c.toNat ≤ 57 := by
  have key : ∀ n : Fin 256, cls (UInt8.ofNat n).toNat = 3 ↔ 48 ≤ (UInt8.ofNat n).toNat ∧ (UInt8.ofNat n).toNat ≤ 57 := by decide +kernel
  have := key ⟨c.toNat, c.toNat_lt⟩
  simpa using this
set_option maxHeartbeats 400000 in
theorem rletter_any (c : UInt8) (w : World) : Calls Tryd.prog 29 #[.int .u8 (c.toNat : Nat)] w fun e w' => e = .returned (.bool (decide (cls c.toNat = 2))) ∧ w = w' := by
  have H := Lib.hid (cls2_iff c)
  by_cases h1 : 97 ≤ c.toNat
  · by_cases h2 : c.toNat ≤ 122
    · have hd := Lib.hid (decide_eq_true (H.out.2 ⟨h1, h2⟩))
      have g1 : (97 : Int) ≤ (c.toNat : Nat) := by omega
      have g2 : ((c.toNat : Nat) : Int) ≤ 122 := by omega
      go_enter Tryd.func29, Tryd.ntmps29
      go_wp2_with fail
      go_ret
      rw [hd.out]; exact ⟨rfl, rfl⟩
    · have hd := Lib.hid (decide_eq_false (fun h => h2 (H.out.1 h).2))
      have g1 : (97 : Int) ≤ (c.toNat : Nat) := by omega
      have g2 : decide (((c.toNat : Nat) : Int) ≤ 122) = false := decide_eq_false (by omega)
      go_enter Tryd.func29, Tryd.ntmps29
      go_wp2_with fail
      go_ret
      rw [hd.out]; exact ⟨rfl, rfl⟩
  · have hd := Lib.hid (decide_eq_false (fun h => h1 (H.out.1 h).1))
    have g1 : decide ((97 : Int) ≤ (c.toNat : Nat)) = false := decide_eq_false (by omega)
    go_enter Tryd.func29, Tryd.ntmps29
    go_wp2_with fail
    go_ret
    rw [hd.out]; exact ⟨rfl, rfl⟩
set_option maxHeartbeats 400000 in
theorem rdigit_any (c : UInt8) (w : World) : Calls Tryd.prog 31 #[.int .u8 (c.toNat : Nat)] w fun e w' => e = .returned (.bool (decide (cls c.toNat = 3))) ∧ w = w' := by
  have H := Lib.hid (cls3_iff c)
  by_cases h1 : 48 ≤ c.toNat
  · by_cases h2 : c.toNat ≤ 57
    · have hd := Lib.hid (decide_eq_true (H.out.2 ⟨h1, h2⟩))
      have g1 : (48 : Int) ≤ (c.toNat : Nat) := by omega
      have g2 : ((c.toNat : Nat) : Int) ≤ 57 := by omega
      go_enter Tryd.func31, Tryd.ntmps31
      go_wp2_with fail
      go_ret
      rw [hd.out]; exact ⟨rfl, rfl⟩
    · have hd := Lib.hid (decide_eq_false (fun h => h2 (H.out.1 h).2))
      have g1 : (48 : Int) ≤ (c.toNat : Nat) := by omega
      have g2 : decide (((c.toNat : Nat) : Int) ≤ 57) = false := decide_eq_false (by omega)
      go_enter Tryd.func31, Tryd.ntmps31
      go_wp2_with fail
      go_ret
      rw [hd.out]; exact ⟨rfl, rfl⟩
  · have hd := Lib.hid (decide_eq_false (fun h => h1 (H.out.1 h).1))
    have g1 : decide ((48 : Int) ≤ (c.toNat : Nat)) = false := decide_eq_false (by omega)
    go_enter Tryd.func31, Tryd.ntmps31
    go_wp2_with fail
    go_ret
    rw [hd.out]; exact ⟨rfl, rfl⟩
set_option maxHeartbeats 800000 in
theorem rblank_any (c : UInt8) (w : World) : Calls Tryd.prog 20 #[.int .u8 (c.toNat : Nat)] w fun e w' => e = .returned (.bool (isB c)) ∧ w = w' := by
  have H := Lib.hid (isB_iff c)
  by_cases h : isB c = true
  · have hv := H.out.1 h
    rw [h]
    clear H h
    rcases hv with h | h | h | h
    all_goals
      first | (have g : ((c.toNat : Nat) : Int) = 9 := by omega) | (have g : ((c.toNat : Nat) : Int) = 10 := by omega) | (have g : ((c.toNat : Nat) : Int) = 13 := by omega) | (have g : ((c.toNat : Nat) : Int) = 32 := by omega)
      go_enter Tryd.func20, Tryd.ntmps20
      go_wp2_with fail
      go_ret
      exact ⟨rfl, rfl⟩
  · have g1 : (((c.toNat : Nat) : Int) == 9) = false := by rw [beq_eq_false_iff_ne]; intro h1; exact h (H.out.2 (by omega))
    have g2 : (((c.toNat : Nat) : Int) == 10) = false := by rw [beq_eq_false_iff_ne]; intro h1; exact h (H.out.2 (by omega))
    have g3 : (((c.toNat : Nat) : Int) == 13) = false := by rw [beq_eq_false_iff_ne]; intro h1; exact h (H.out.2 (by omega))
    have g4 : (((c.toNat : Nat) : Int) == 32) = false := by rw [beq_eq_false_iff_ne]; intro h1; exact h (H.out.2 (by omega))
    rw [Bool.eq_false_iff.2 h]
    clear H h
    go_enter Tryd.func20, Tryd.ntmps20
    go_wp2_with fail
    go_ret
    exact ⟨rfl, rfl⟩
end Go.Proofs.YtammpndggdniiaaDoor
