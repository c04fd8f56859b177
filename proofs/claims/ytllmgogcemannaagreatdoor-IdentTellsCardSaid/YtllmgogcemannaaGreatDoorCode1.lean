/- Package code: Num, Int, Text, as lists of bytes. -/
import Derived.Test.YtllmgogcemannaaGreatDoorLib
namespace Go.Proofs.YtllmgogcemannaaGreatDoor
open Go.RowKit

def vi (n : Nat) : List UInt8 := if h : n < 128 then [n.toUInt8] else (128 + n % 128).toUInt8 :: vi (n / 128)
termination_by n
decreasing_by omega

theorem vi_small {n : Nat} (h : n < 128) : vi n = [n.toUInt8] := by rw [vi, dif_pos h]
theorem vi_big {n : Nat} (h : ¬ n < 128) : vi n = (128 + n % 128).toUInt8 :: vi (n / 128) := by rw [vi, dif_neg h]
theorem vi_len (k : Nat) : ∀ n, n < 128 ^ (k + 1) → (vi n).length ≤ k + 1 := by
  induction k with
  | zero => intro n h; rw [vi_small (by simpa using h)]; simp
  | succ k ih =>
    intro n h
    by_cases h1 : n < 128
    · rw [vi_small h1]; simp
    · rw [vi_big h1]; have := ih (n / 128) (by rw [Nat.pow_succ] at h; exact Nat.div_lt_of_lt_mul (by rw [Nat.mul_comm]; exact h)); simp; omega
theorem vi_pos (n : Nat) : 0 < (vi n).length := by
  by_cases h1 : n < 128
  · rw [vi_small h1]; simp
  · rw [vi_big h1]; simp
theorem vi_len9 {n : Nat} (h : n < 9223372036854775808) : (vi n).length ≤ 9 := vi_len 8 n (by omega)

theorem Tryz.info_u8 : (Tryz.prog.info? 5).map (fun i => (i.zero, i.size, i.bytes)) = some (some (.int .u8 0), 1, 1) := by kernel_rfl
theorem mk9 : ∀ w, (Instr.makeSlice 42 (.int .i64 0) (.int .i64 9)).run Tryz.prog w = .ok (.slice (some ⟨w.heap.size, 0, none⟩) 0 9) (w.alloc (.cells #[.int .u8 0, .int .u8 0, .int .u8 0, .int .u8 0, .int .u8 0, .int .u8 0, .int .u8 0, .int .u8 0, .int .u8 0] 5)) := fun _ => by kernel_rfl
theorem own_mk9 (w : World) (B : Nat) (h : B ≤ w.heap.size) : OwnS (w.alloc (.cells #[.int .u8 0, .int .u8 0, .int .u8 0, .int .u8 0, .int .u8 0, .int .u8 0, .int .u8 0, .int .u8 0, .int .u8 0] 5)) B 5 (some ⟨w.heap.size, 0, none⟩) 9 (u8s []) := by
  refine ⟨rfl, .inr ⟨w.heap.size, 9, _, rfl, h, heap_alloc_new w _, by simp [u8s], by simp [maxLen], rfl, rfl⟩⟩

theorem low_bits (n : Nat) : bits .or .i64 ((n : Int) % 128) 128 = ((128 + n % 128 : Nat) : Int) := by
  have h : ∀ m : Fin 128, bits .or .i64 ((m.val : Nat) : Int) 128 = ((128 + m.val : Nat) : Int) := by decide +kernel
  have := h ⟨n % 128, Nat.mod_lt _ (by omega)⟩
  simpa using this
theorem u8s_low {k : Nat} (h : k < 128) (pre : List UInt8) : u8s pre ++ [.int .u8 k] = u8s (pre ++ [k.toUInt8]) := by
  simp [u8s]; omega
theorem u8s_high (k : Nat) (pre : List UInt8) : u8s pre ++ [.int .u8 (128 + (k : Int) % 128)] = u8s (pre ++ [(128 + k % 128).toUInt8]) := by
  simp [u8s]; omega
theorem vi_fin {k n : Nat} {pre : List UInt8} (h : k < 128) (hp : Hid (pre ++ vi k = vi n)) : u8s pre ++ [.int .u8 k] = u8s (vi n) := by
  rw [u8s_low h, ← hp.out, vi_small h]
theorem vi_go {k n : Nat} {pre : List UInt8} (h : ¬ k < 128) (hp : Hid (pre ++ vi k = vi n)) : Hid ((pre ++ [(128 + k % 128).toUInt8]) ++ vi (k / 128) = vi n) := by
  have := hp.out
  rw [vi_big h] at this
  exact Lib.hid (by rw [← this]; simp)

set_option maxHeartbeats 400000 in
theorem num_any (n : Int) (w : World) (h0 : 0 ≤ n) (h1 : n < 9223372036854775808) :
    Calls Tryz.prog 22 #[.int .i64 n] w fun e w' => e = .returned (.string ⟨(vi n.toNat).toArray⟩) ∧ Below w.heap.size w w' := by
  have hmk := mk9
  have hlt : ¬ n < 0 := by omega
  have hV : (vi n.toNat).length ≤ 9 := vi_len9 (by omega)
  have hS := own_mk9 w w.heap.size (Nat.le_refl _)
  go_enter Tryz.func22, Tryz.ntmps22
  go_wp2
  go_loopw [0, 3] (fun n' v wr => ∃ (k : Nat) (A : Option Addr) (c : Nat) (pre : List UInt8), n' = .int .i64 k ∧ (k : Int) ≤ n ∧ v = .slice A (u8s pre).length c ∧ OwnS wr w.heap.size 5 A c (u8s pre) ∧ Hid (pre ++ vi k = vi n.toNat) ∧ Below w.heap.size w wr) (fun n' _ _ => (intOf n').toNat)
  case atStart =>
    exact ⟨n.toNat, _, 9, [], by simp; omega, by omega, rfl, hS, Lib.hid (by simp), (Below.refl _ _).alloc (Nat.le_refl _) _⟩
  case round =>
    obtain ⟨k, A, c, pre, rfl, hk, rfl, hown, Hpre, hbel⟩ := hrel
    clear hS
    have hl : (u8s pre).length + (vi k).length = (vi n.toNat).length := by rw [← Hpre.out]; simp [u8s]
    have hlow := low_bits k
    have hB := hbel.size
    have hp := vi_pos k
    by_cases hb : k < 128
    · have hb' : ¬ (128:Int) ≤ (k:Int) := by omega
      have Hk := Lib.hid (vi_fin hb Hpre)
      go_wp2_with (at_builtin; refine wpList_push rfl _ _ 42 rfl w.heap.size 5 (.int .u8 0) 1 Tryz.underlying42 Tryz.info_u8 rfl A c (u8s pre) rfl (hown.alloc _) wr.heap.size (.int .u8 k) rfl (cell_new _ _ _) rfl (by omega) (by simp; omega) ?_; intro g' c' w1 hown' hbl hgr hat hgb; rw [Hk.out] at hown'; have hcv := conv_own (n := (u8s pre).length + 1) (dst := 9) Tryz.underlying42 Tryz.underlying5 Tryz.underlying9 hown' (by have := congrArg List.length Hk.out; simp at this; rw [this, u8s_length]))
      go_ret
      exact ⟨rfl, below_step hbel hB hbl⟩
    · have hb' : (128:Int) ≤ (k:Int) := by omega
      have Hp := vi_go hb Hpre
      have Hk := Lib.hid (u8s_high k pre)
      go_wp2_with (at_builtin; refine wpList_push rfl _ _ 42 rfl w.heap.size 5 (.int .u8 0) 1 Tryz.underlying42 Tryz.info_u8 rfl A c (u8s pre) rfl (hown.alloc _) wr.heap.size (.int .u8 (128 + (k : Int) % 128)) rfl (cell_new _ _ _) rfl (by omega) (by simp; omega) ?_; intro g' c' w1 hown' hbl hgr hat hgb; rw [Hk.out] at hown')
      go_roundw
      case rel =>
        exact ⟨k / 128, _, _, _, by go_num, by omega, by simp [u8s], hown', Hp, below_step hbel hB hbl⟩
      case measure => simp [intOf]; omega

end Go.Proofs.YtllmgogcemannaaGreatDoor
