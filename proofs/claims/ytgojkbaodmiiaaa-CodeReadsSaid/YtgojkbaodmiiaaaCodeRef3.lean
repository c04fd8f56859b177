/- The reference's reader: length, value. -/
import Derived.Test.YtgojkbaodmiiaaaCodeRef2
import Derived.Deep.QuietTactic
import Derived.BigQuiet
namespace Go.Proofs.Ytgojkbaodmiiaaa
open Go.RowKit

theorem ret_int {k : IntKind} {a b : Int} (h : a = b) : Ending.returned (.int k a) = .returned (.int k b) := by rw [h]
/-- How many bytes a varint at the front of s takes; 0 if there is none. -/
def vlen (s : List UInt8) : Nat := match dec 9 true s with
  | some (_, t) => s.length - t.length
  | none => 0
theorem vlen_some {s t : List UInt8} {n : Nat} (h : dec 9 true s = some (n, t)) : vlen s = s.length - t.length := by simp [vlen, h]
theorem vlen_none {s : List UInt8} (h : dec 9 true s = none) : vlen s = 0 := by simp [vlen, h]
def vval : List UInt8 → Nat
  | [] => 0
  | b :: t => b.toNat % 128 + 128 * vval t
theorem vval_lt : ∀ (s : List UInt8) (k : Nat), s.length ≤ k → vval s < 128 ^ k
  | [], k, _ => by simp [vval]; exact Nat.pow_pos (by omega)
  | b :: t, 0, h => by simp at h
  | b :: t, k + 1, h => by
    have := vval_lt t k (by simpa using h)
    have e : 128 ^ (k + 1) = 128 * 128 ^ k := by rw [Nat.pow_succ, Nat.mul_comm]
    unfold vval; omega
theorem dec_take : ∀ (k : Nat) (z : Bool) (s : List UInt8) (n : Nat) (t : List UInt8), dec k z s = some (n, t) → ∃ x, s = x ++ t ∧ n = vval x ∧ 0 < x.length ∧ x.length ≤ k := by
  intro k
  induction k with
  | zero => intro z s n t h; simp [dec] at h
  | succ k ih =>
    intro z s n t h
    cases s with
    | nil => simp [dec] at h
    | cons b s =>
      by_cases hb : 128 ≤ b.toNat
      · rw [dec_high hb] at h
        cases hd : dec k false s with
        | none => rw [hd] at h; simp at h
        | some p =>
          obtain ⟨m, t'⟩ := p
          rw [hd] at h
          simp at h
          obtain ⟨rfl, rfl⟩ := h
          obtain ⟨x, rfl, rfl, h1, h2⟩ := ih _ _ _ _ hd
          exact ⟨b :: x, rfl, rfl, by simp, by simp; omega⟩
      · by_cases h0 : b.toNat = 0 ∧ z = false
        · rw [dec_zero h0.1 h0.2] at h; simp at h
        · rw [dec_low hb h0] at h
          simp at h
          obtain ⟨rfl, rfl⟩ := h
          exact ⟨[b], rfl, by simp [vval]; omega, by simp, by simp⟩

set_option maxRecDepth 100000 in
set_option maxHeartbeats 400000 in
theorem reflength_any (s : List UInt8) (w : World) (hs : s.length ≤ 4398046511104) :
    Calls Try.prog 50 #[.string ⟨s.toArray⟩] w fun e w' => e = .returned (.int .i64 (vlen s)) ∧ w = w' := by
  go_enter Try.func50, Try.ntmps50
  go_wp2_with fail
  go_loop [3] (fun i => ∃ (k a : Nat), i = .int .i64 k ∧ k ≤ s.length ∧ k ≤ 9 ∧ NumInv s k a) (fun i => 9 - (intOf i).toNat)
  case atStart => exact ⟨0, 0, rfl, by omega, by omega, NumInv.start s⟩
  case round =>
    obtain ⟨k, a, rfl, hk, hk9, hi⟩ := hrel
    by_cases hlt : k < s.length ∧ k < 9
    · obtain ⟨hk1, hk2⟩ := hlt
      have HB := Lib.hid (fun h => hi.step hk1 hk2 h)
      have HL := Lib.hid (fun h h0 => hi.low hk1 hk2 h h0)
      have HZ := Lib.hid (fun h h0 => hi.zero hk1 hk2 h h0)
      clear hi
      go_wp2_with fail
      · have h1 : (s[k].toNat : Int) < 128 := by assumption
        have h2 : s[k].toNat = 0 := by assumption
        have h3 : ((k : Int) == 0) = true := by assumption
        have h4 : k = 0 := by simpa using h3
        go_ret
        rw [vlen_some (HL.out (by omega) (by omega)), List.length_drop]
        exact ⟨ret_int (by omega), rfl⟩
      · have h1 : (s[k].toNat : Int) < 128 := by assumption
        have h2 : s[k].toNat = 0 := by assumption
        have h3 : ((k : Int) == 0) = false := by assumption
        have h4 : k ≠ 0 := by simpa using h3
        go_ret
        rw [vlen_none (HZ.out h2 (by omega))]
        exact ⟨rfl, rfl⟩
      · have h1 : (s[k].toNat : Int) < 128 := by assumption
        have h2 : ¬ s[k].toNat = 0 := by assumption
        go_ret
        rw [vlen_some (HL.out (by omega) (by omega)), List.length_drop]
        exact ⟨ret_int (by omega), rfl⟩
      · have h1 : ¬ (s[k].toNat : Int) < 128 := by assumption
        go_round
        case rel => exact ⟨k + 1, _, by go_num, by omega, by omega, HB.out (by omega)⟩
        case measure => simp [intOf]; omega
    · have HO := Lib.hid (vlen_none (hi.out (by omega)))
      clear hi
      by_cases h1 : k < s.length
      · have h2 : ¬ k < 9 := by omega
        go_wp2_with fail
        go_ret
        rw [HO.out]
        exact ⟨rfl, rfl⟩
      · go_wp2_with fail
        go_ret
        rw [HO.out]
        exact ⟨rfl, rfl⟩

theorem byte_low (b : UInt8) : (RowKit.wrap64 (b.toNat : Int)).tmod 128 = ((b.toNat % 128 : Nat) : Int) := by
  have hb := b.toNat_lt
  rw [IntWalk.wrap64_in _ (by omega), Int.tmod_eq_emod_of_nonneg (by omega)]; omega
set_option maxRecDepth 100000 in
set_option maxHeartbeats 400000 in
theorem refvalue_one (b : UInt8) (w : World) :
    Calls Try.prog 52 #[.string ⟨[b].toArray⟩] w fun e w' => e = .returned (.int .i64 (vval [b])) ∧ w = w' := by
  have HV := Lib.hid (show vval [b] = b.toNat % 128 by simp [vval])
  go_enter Try.func52, Try.ntmps52
  go_wp2_with fail
  go_ret
  rw [HV.out]
  exact ⟨ret_int (byte_low b), rfl⟩
set_option maxRecDepth 100000 in
set_option maxHeartbeats 400000 in
theorem refvalue_more (b : UInt8) (s : List UInt8) (w : World) (h : 0 < s.length) (h8 : s.length ≤ 8) (IH : Hid (∀ w, Calls Try.prog 52 #[.string ⟨s.toArray⟩] w fun e w' => e = .returned (.int .i64 (vval s)) ∧ w = w')) :
    Calls Try.prog 52 #[.string ⟨(b :: s).toArray⟩] w fun e w' => e = .returned (.int .i64 (vval (b :: s))) ∧ w = w' := by
  have HV := Lib.hid (show vval (b :: s) = b.toNat % 128 + 128 * vval s by simp [vval])
  have hv := vval_lt s 8 h8
  have hx : (ByteArray.mk (b :: s).toArray).extract 1 (s.length + 1) = ⟨s.toArray⟩ := bx_end (b :: s) 1
  have hg : (RowKit.wrap64 (((ByteArray.mk (b :: s).toArray)[0]'(by show 0 < (b :: s).toArray.size; simp)).toNat : Int)).tmod 128 = ((b.toNat % 128 : Nat) : Int) := byte_low b
  have h1 : b.toNat % 128 < 128 := Nat.mod_lt _ (by decide)
  have hn : ((s.length : Int) + 1 == 1) = false := by simp; omega
  generalize vval s = V at *
  generalize b.toNat % 128 = B at *
  go_enter Try.func52, Try.ntmps52
  go_wp2_with fail
  refine (IH.out _).mono ?_; rintro e w1 ⟨rfl, rfl⟩
  go_wp2_with fail
  go_ret
  rw [HV.out]

  exact ⟨ret_int (by omega), rfl⟩
theorem refvalue_any : ∀ (s : List UInt8) (w : World), 0 < s.length → s.length ≤ 9 →
    Calls Try.prog 52 #[.string ⟨s.toArray⟩] w fun e w' => e = .returned (.int .i64 (vval s)) ∧ w = w'
  | [], _, h, _ => by simp at h
  | [b], w, _, _ => refvalue_one b w
  | b :: c :: s, w, _, h => refvalue_more b (c :: s) w (by simp) (by simpa using h) (Lib.hid fun w => refvalue_any (c :: s) w (by simp) (by simp at h ⊢; omega))
end Go.Proofs.Ytgojkbaodmiiaaa
