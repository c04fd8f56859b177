import Derived.Test.YtgojkbaodmiiaaaCode2
import Derived.Laws.BitsAllLaws
import Derived.Laws.BitsLemmas
namespace Go.Proofs.Ytgojkbaodmiiaaa
open Go.RowKit

theorem ofInt_i64 (a : Nat) (ha : a < 9223372036854775808) : (BitVec.ofInt 64 (a : Int)).toNat = a := by
  rw [BitVec.ofInt_natCast, BitVec.toNat_ofNat]; exact Nat.mod_eq_of_lt (by omega)
theorem i64_or_nat (a b : Nat) (ha : a < 9223372036854775808) (hb : b < 9223372036854775808) : bits .or .i64 (a : Int) (b : Int) = ((a ||| b : Nat) : Int) := by
  have hx : a ||| b < 2 ^ 63 := Nat.or_lt_two_pow (by omega) (by omega)
  show IntKind.i64.wrap ((BitVec.ofInt 64 (a : Int) ||| BitVec.ofInt 64 (b : Int)).toNat : Int) = _
  rw [BitVec.toNat_or, ofInt_i64 a ha, ofInt_i64 b hb, IntKind.wrap_i64]
  omega

theorem dec_high {k : Nat} {z : Bool} {b : UInt8} {t : List UInt8} (h : 128 ≤ b.toNat) : dec (k + 1) z (b :: t) = (dec k false t).map (fun p => (b.toNat % 128 + 128 * p.1, p.2)) := by
  simp [dec, h]
theorem dec_low {k : Nat} {z : Bool} {b : UInt8} {t : List UInt8} (h : ¬ 128 ≤ b.toNat) (h0 : ¬ (b.toNat = 0 ∧ z = false)) : dec (k + 1) z (b :: t) = some (b.toNat, t) := by
  simp [dec, h]; intro h1; cases z <;> simp_all
theorem dec_zero {k : Nat} {z : Bool} {b : UInt8} {t : List UInt8} (h0 : b.toNat = 0) (hz : z = false) : dec (k + 1) z (b :: t) = none := by
  simp [dec, h0, hz]

/-- What Num leaves: the number, the rest, whether it has failed. -/
def rdNum (s : List UInt8) (f : Bool) : Nat × List UInt8 × Bool := match dec 9 true s with
  | some (n, t) => (n, t, f)
  | none => (0, [], true)

def NumInv (s : List UInt8) (k a : Nat) : Prop := a < 2 ^ (7 * k) ∧ dec 9 true s = (dec (9 - k) (decide (k = 0)) (s.drop k)).map (fun p => (a + 2 ^ (7 * k) * p.1, p.2))
theorem NumInv.start (s : List UInt8) : NumInv s 0 0 := ⟨by simp, by simp⟩
theorem NumInv.step {s : List UInt8} {k a : Nat} (h : NumInv s k a) (hk : k < s.length) (h9 : k < 9) (hb : 128 ≤ s[k].toNat) : NumInv s (k + 1) (a + 2 ^ (7 * k) * (s[k].toNat % 128)) := by
  obtain ⟨ha, hd⟩ := h
  have e : 2 ^ (7 * (k + 1)) = 2 ^ (7 * k) * 128 := by rw [Nat.mul_add, Nat.pow_add]
  refine ⟨?_, ?_⟩
  · rw [e]
    have : 2 ^ (7 * k) * (s[k].toNat % 128) ≤ 2 ^ (7 * k) * 127 := Nat.mul_le_mul_left _ (by omega)
    omega
  · rw [hd, List.drop_eq_getElem_cons hk, show 9 - k = (8 - k) + 1 by omega, dec_high hb, e]
    rw [show 9 - (k + 1) = 8 - k by omega]
    simp only [Option.map_map, Nat.succ_ne_zero, decide_false]
    congr 1
    funext p
    simp [Nat.mul_add, Nat.mul_assoc, Nat.add_assoc]
theorem NumInv.low {s : List UInt8} {k a : Nat} (h : NumInv s k a) (hk : k < s.length) (h9 : k < 9) (hb : ¬ 128 ≤ s[k].toNat) (h0 : ¬ (s[k].toNat = 0 ∧ 0 < k)) : dec 9 true s = some (a + 2 ^ (7 * k) * (s[k].toNat % 128), s.drop (k + 1)) := by
  rw [h.2, List.drop_eq_getElem_cons hk, show 9 - k = (8 - k) + 1 by omega, dec_low hb (by simp; omega), Nat.mod_eq_of_lt (by omega)]
  rfl
theorem NumInv.zero {s : List UInt8} {k a : Nat} (h : NumInv s k a) (hk : k < s.length) (h9 : k < 9) (h0 : s[k].toNat = 0) (h1 : 0 < k) : dec 9 true s = none := by
  rw [h.2, List.drop_eq_getElem_cons hk, show 9 - k = (8 - k) + 1 by omega, dec_zero h0 (by simp; omega)]; rfl
theorem NumInv.out {s : List UInt8} {k a : Nat} (h : NumInv s k a) (hk : k = s.length ∨ k = 9) : dec 9 true s = none := by
  rw [h.2]
  rcases hk with h | h
  · subst h; simp; cases (9 - s.length) <;> rfl
  · subst h; rfl
theorem NumInv.bits {s : List UInt8} {k a : Nat} (h : NumInv s k a) (h9 : k < 9) (x : Nat) : bits .or .i64 (a : Int) (wrap64 (((x : Nat) : Int) % 128 * 2 ^ (7 * k))) = ((a + 2 ^ (7 * k) * (x % 128) : Nat) : Int) := by
  have e : ((x : Int) % 128 * 2 ^ (7 * k)) = ((2 ^ (7 * k) * (x % 128) : Nat) : Int) := by
    rw [Nat.mul_comm (2 ^ (7 * k))]; simp
  have hp : 2 ^ (7 * k) ≤ 2 ^ 56 := Nat.pow_le_pow_right (by omega) (by omega)
  have hx : 2 ^ (7 * k) * (x % 128) ≤ 2 ^ 56 * 127 := Nat.mul_le_mul hp (by omega)
  have hA := h.1
  rw [e, IntWalk.wrap64_in _ (by omega), i64_or_nat _ _ (by omega) (by omega)]
  congr 1
  rw [Nat.or_comm]
  rw [Nat.mul_comm, ← Nat.shiftLeft_eq, ← Nat.shiftLeft_add_eq_or_of_lt hA, Nat.add_comm]

theorem rdNum_some {s t : List UInt8} {n : Nat} (h : dec 9 true s = some (n, t)) (f : Bool) : rdNum s f = (n, t, f) := by simp [rdNum, h]
theorem rdNum_none {s : List UInt8} (h : dec 9 true s = none) (f : Bool) : rdNum s f = (0, [], true) := by simp [rdNum, h]

set_option maxRecDepth 100000 in
set_option maxHeartbeats 400000 in
theorem rdnum_any (b : Nat) (s : List UInt8) (f : Bool) (w : World) (h : Rd w b s f) (hs : s.length ≤ maxLen) :
    Calls Try.prog 26 #[.pointer (some ⟨b, 0, none⟩)] w fun e w' => e = .returned (.int .i64 (rdNum s f).1) ∧ Rd w' b (rdNum s f).2.1 (rdNum s f).2.2 ∧ w.grownBy w' (some b) := by
  have h0 := h.c0
  have H := Lib.hid h
  have z0 := h.z0
  clear h
  unfold maxLen at hs
  go_enter Try.func26, Try.ntmps26
  go_wp2
  all_goals
    go_loopw [3, 12] (fun v i wr => ∃ (k a : Nat), wr = w ∧ i = .int .i64 k ∧ v = .int .i64 a ∧ k ≤ s.length ∧ k ≤ 9 ∧ NumInv s k a) (fun _ i _ => 9 - (intOf i).toNat)
    case atStart => exact ⟨0, 0, rfl, rfl, rfl, by omega, by omega, NumInv.start s⟩
    case round =>
      obtain ⟨k, a, rfl, rfl, rfl, hk, hk9, hi⟩ := hrel
      go_wp2_with (go_at_call 49; refine (fail_any b s f _ H.out).mono ?_; rintro e w1 ⟨rfl, hr1, hg1⟩)
      · go_roundw
        case rel =>
          have hk1 : k < s.length := by assumption
          have h12 : (128 : Int) ≤ (s[k].toNat : Int) := by assumption
          exact ⟨k + 1, _, trivial, by go_num, congrArg (Value.int .i64) (hi.bits (by omega) s[k].toNat), by omega, by omega, hi.step hk1 (by omega) (by omega)⟩
        case measure => simp [intOf]; omega
      · go_ret
        have hk1 : k < s.length := by assumption
        rw [rdNum_none (hi.zero hk1 (by omega) (by assumption) (by assumption))]
        exact ⟨rfl, hr1, hg1⟩
      · go_ret
        have hk1 : k < s.length := by assumption
        have h0 : s[k].toNat = 0 := by assumption
        have hE := hi.low hk1 (by omega) (by omega) (by omega)
        have hB : bits .or .i64 (a : Int) (wrap64 0) = ((a + 2 ^ (7 * k) * (0 % 128) : Nat) : Int) := by
          have := hi.bits (by omega) 0
          rwa [show (((0 : Nat) : Int) % 128 * 2 ^ (7 * k)) = 0 by simp] at this
        rw [h0] at hE
        rw [rdNum_some hE, bx_end]
        exact ⟨congrArg (fun x => Ending.returned (Value.int .i64 x)) hB, H.out.set0 _, gr_own (gr_refl _ _) 0 _⟩
      · go_ret
        have hk1 : k < s.length := by assumption
        have h0 : ¬ s[k].toNat = 0 := by assumption
        have h12 : (s[k].toNat : Int) < 128 := by assumption
        have hE := hi.low hk1 (by omega) (by omega) (by omega)
        have hB := hi.bits (by omega) s[k].toNat
        rw [rdNum_some hE, bx_end]
        exact ⟨congrArg (fun x => Ending.returned (Value.int .i64 x)) hB, H.out.set0 _, gr_own (gr_refl _ _) 0 _⟩
      · go_ret
        rw [rdNum_none (hi.out (by omega))]
        exact ⟨rfl, hr1, hg1⟩

end Go.Proofs.Ytgojkbaodmiiaaa
