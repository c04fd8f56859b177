/- CodeLengths: for every integer n, Num(n) has the least number k >= 1 of bytes for which n < 128^k (none for a negative n), and Int(n) is as long as Num of the zigzag number of n. No condition. -/
import Derived.Test.YtgojkbaodmiiaaaCode7
namespace Go.Proofs.Ytgojkbaodmiiaaa
open Go.RowKit

theorem vi_ne (n : Nat) : (vi n).isEmpty = false := by
  have := vi_pos n; cases h : vi n <;> simp_all
theorem vi_div (n : Nat) : (vi n).length = 1 + (if n / 128 = 0 then 0 else (vi (n / 128)).length) := by
  by_cases h : n < 128
  · rw [vi_small h, if_pos (by omega)]; rfl
  · rw [vi_big h, if_neg (by omega)]; simp; omega
theorem tdiv_neg128 (n : Int) (h : n < 0) : n.tdiv 128 ≤ 0 := by
  obtain ⟨m, rfl⟩ : ∃ m : Nat, n = -(m : Int) := ⟨(-n).toNat, by omega⟩
  rw [Int.neg_tdiv, Int.tdiv_eq_ediv_of_nonneg (by omega)]; omega
theorem eint_as (n : Int) (h : zigOk n) (z : Int) (hz : z = if n < 0 then -2 * n - 1 else 2 * n) (w : World) :
    Calls Try.prog 14 #[.int .i64 n] w fun e w' => e = .returned (.string ⟨(vi z.toNat).toArray⟩) ∧ Below w.heap.size w w' := by
  refine (eint_any n w).mono ?_
  rw [show encInt n = vi z.toNat by
    simp only [encInt, h, if_true, zz]
    subst hz
    split <;> congr 1 <;> omega]
  exact fun _ _ h => h
theorem eint_out (n : Int) (h : ¬ zigOk n) (w : World) :
    Calls Try.prog 14 #[.int .i64 n] w fun e w' => e = .returned (.string ⟨#[]⟩) ∧ Below w.heap.size w w' := by
  refine (eint_any n w).mono ?_
  rw [show encInt n = [] by simp [encInt, h]]
  exact fun _ _ h => h

set_option maxRecDepth 100000 in
set_option maxHeartbeats 1000000 in
theorem lengths_neg (n : Int) (w : World) (h0 : n < 0) (h1 : -9223372036854775808 ≤ n) :
    Calls Try.prog 9 #[.int .i64 n] w fun e w' => e = .returned (.bool true) ∧ Below w.heap.size w w' := by
  have hd : ¬ 0 < n.tdiv 128 := by have := tdiv_neg128 n h0; omega
  by_cases hz : zigOk n
  · have C := Lib.hid (eint_as n hz (-2 * n - 1) (by rw [if_pos h0]))
    have hv : (vi ((-2 * n).toNat - 1)).isEmpty = false := vi_ne _
    obtain ⟨hz1, hz2⟩ := hz
    go_enter Try.func9, Try.ntmps9
    go_wp2_with fail
    refine (small_any _).mono ?_; rintro e w1 ⟨rfl, b1⟩
    go_wp2_with fail
    refine wp_loop_once ?_
    go_wp2_with fail
    refine (num_neg _ _ h0).mono ?_; rintro e w1 ⟨rfl, rfl⟩
    go_wp2_with fail
    refine (C.out _).mono ?_; rintro e w2 ⟨rfl, b2⟩
    go_wp2_with fail
    refine (num_any _ _ (by omega) (by omega)).mono ?_; rintro e w3 ⟨rfl, b3⟩
    go_wp2_with fail
    refine (C.out _).mono ?_; rintro e w4 ⟨rfl, b4⟩
    have B2 := b1.trans (b2.mono b1.size)
    have B3 := B2.trans (b3.mono B2.size)
    have B4 := B3.trans (b4.mono B3.size)
    go_wp2_with fail
    go_ret
    exact ⟨rfl, B4⟩
  · have C := Lib.hid (eint_out n hz)
    have hz' : n < -2305843009213693952 := by unfold zigOk at hz; omega
    clear hz
    go_enter Try.func9, Try.ntmps9
    go_wp2_with fail
    refine (small_any _).mono ?_; rintro e w1 ⟨rfl, b1⟩
    go_wp2_with fail
    refine wp_loop_once ?_
    go_wp2_with fail
    refine (num_neg _ _ h0).mono ?_; rintro e w1 ⟨rfl, rfl⟩
    go_wp2_with fail
    refine (C.out _).mono ?_; rintro e w2 ⟨rfl, b2⟩
    go_wp2_with fail
    go_ret
    exact ⟨rfl, b1.trans (b2.mono b1.size)⟩

set_option maxRecDepth 100000 in
set_option maxHeartbeats 1000000 in
theorem lengths_nat (n : Nat) (w : World) (h1 : n < 9223372036854775808) :
    Calls Try.prog 9 #[.int .i64 n] w fun e w' => e = .returned (.bool true) ∧ Below w.heap.size w w' := by
  have hV := vi_len9 h1
  have hn0 : ¬ (n : Int) < 0 := by omega
  have hD := Lib.hid (vi_div n)
  go_enter Try.func9, Try.ntmps9
  go_wp2_with fail
  refine (small_any _).mono ?_; rintro e w1 ⟨rfl, b1⟩
  go_wp2_with fail
  go_loopw [4, 5] (fun k' m' wr => ∃ k m : Nat, wr = w1 ∧ k' = .int .i64 k ∧ m' = .int .i64 m ∧ m ≤ n ∧ k ≤ 9 ∧ k + (if m = 0 then 0 else (vi m).length) = (vi n).length) (fun _ m _ => (intOf m).toNat)
  case atStart => exact ⟨1, n / 128, rfl, rfl, by simp, by omega, by omega, by rw [hD.out]⟩
  case round =>
    obtain ⟨k, m, rfl, rfl, rfl, hm, hk9, hkm⟩ := hrel
    have hM := vi_div m
    have HK := Lib.hid hkm
    have HM := Lib.hid hM
    clear hM hkm
    by_cases h0 : 0 < m
    · go_wp2_with fail
      go_roundw
      case rel =>
        have := HK.out
        rw [if_neg (by omega), HM.out] at this
        exact ⟨k + 1, m / 128, trivial, by go_num, by simp, by omega, by omega, by omega⟩
      case measure => simp [intOf]; omega
    · obtain rfl : m = 0 := by omega
      have hk : k = (vi n).length := by have := HK.out; rw [if_pos rfl] at this; omega
      have hkb : ((((vi n).length : Int)) != (k : Int)) = false := by rw [hk]; simp
      clear hk
      by_cases hz : zigOk n
      · have C := Lib.hid (eint_as n hz (2 * n) (by rw [if_neg (by omega)]))
        have hv : (vi (2 * n)).isEmpty = false := vi_ne _
        obtain ⟨hz1, hz2⟩ := hz
        go_wp2_with fail
        refine (num_any _ _ (by omega) (by omega)).mono ?_; rintro e w2 ⟨rfl, b2⟩
        go_wp2_with fail
        refine (C.out _).mono ?_; rintro e w3 ⟨rfl, b3⟩
        go_wp2_with fail
        refine (num_any _ _ (by omega) (by omega)).mono ?_; rintro e w4 ⟨rfl, b4⟩
        go_wp2_with fail
        refine (C.out _).mono ?_; rintro e w5 ⟨rfl, b5⟩
        have B2 := b1.trans (b2.mono b1.size)
        have B3 := B2.trans (b3.mono B2.size)
        have B4 := B3.trans (b4.mono B3.size)
        have B5 := B4.trans (b5.mono B4.size)
        go_wp2_with fail
        go_ret
        exact ⟨rfl, B5⟩
      · have C := Lib.hid (eint_out n hz)
        have hz' : 2305843009213693952 < (n : Int) := by unfold zigOk at hz; omega
        clear hz
        go_wp2_with fail
        refine (num_any _ _ (by omega) (by omega)).mono ?_; rintro e w2 ⟨rfl, b2⟩
        go_wp2_with fail
        refine (C.out _).mono ?_; rintro e w3 ⟨rfl, b3⟩
        have B2 := b1.trans (b2.mono b1.size)
        have B3 := B2.trans (b3.mono B2.size)
        go_wp2_with fail
        go_ret
        exact ⟨rfl, B3⟩

theorem lengths_all (n : Int) (w : World) (h0 : -9223372036854775808 ≤ n) (h1 : n < 9223372036854775808) :
    Calls Try.prog 9 #[.int .i64 n] w fun e w' => e = .returned (.bool true) ∧ Below w.heap.size w w' := by
  by_cases h : n < 0
  · exact lengths_neg n w h h0
  · obtain ⟨m, rfl⟩ := Int.eq_ofNat_of_zero_le (by omega : 0 ≤ n)
    exact lengths_nat m w (by omega)

end Go.Proofs.Ytgojkbaodmiiaaa
