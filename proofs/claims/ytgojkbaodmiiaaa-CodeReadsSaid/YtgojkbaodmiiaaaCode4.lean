/- Package code: the Reader's other methods. -/
import Derived.Test.YtgojkbaodmiiaaaCode3
namespace Go.Proofs.Ytgojkbaodmiiaaa
open Go.RowKit

theorem xor_even (m : Nat) (h : m < 9223372036854775808) : bits .xor .i64 (m : Int) 0 = (m : Int) := by
  show IntKind.i64.wrap ((BitVec.ofInt 64 (m : Int) ^^^ BitVec.ofInt 64 0).toNat : Int) = _
  rw [show BitVec.ofInt 64 0 = 0#64 from rfl, BitVec.xor_zero, ofInt_i64 m h, IntKind.wrap_i64]; omega
theorem xor_odd (m : Nat) (h : m < 9223372036854775808) : bits .xor .i64 (m : Int) (-1) = -(m : Int) - 1 := by
  show IntKind.i64.wrap ((BitVec.ofInt 64 (m : Int) ^^^ BitVec.ofInt 64 (-1)).toNat : Int) = _
  rw [show BitVec.ofInt 64 (-1) = BitVec.allOnes 64 from rfl, BitVec.xor_allOnes, BitVec.toNat_not, ofInt_i64 m h, IntKind.wrap_i64]; omega

theorem dec_bound : ∀ (k : Nat) (z : Bool) (s : List UInt8) (n : Nat) (t : List UInt8), dec k z s = some (n, t) → n < 128 ^ k ∧ t.length + 1 ≤ s.length := by
  intro k
  induction k with
  | zero => intro z s n t h; simp [dec] at h
  | succ k ih =>
    intro z s n t h
    cases s with
    | nil => simp [dec] at h
    | cons b s =>
      by_cases hb : 128 ≤ b.toNat
      · rw [dec_high hb] at h
        cases hd : dec k false s with
        | none => rw [hd] at h; simp at h
        | some p =>
          obtain ⟨m, t'⟩ := p
          rw [hd] at h
          simp at h
          obtain ⟨rfl, rfl⟩ := h
          have := ih _ _ _ _ hd
          have e : 128 ^ (k + 1) = 128 * 128 ^ k := by rw [Nat.pow_succ, Nat.mul_comm]
          simp only [List.length_cons]
          omega
      · by_cases h0 : b.toNat = 0 ∧ z = false
        · rw [dec_zero h0.1 h0.2] at h; simp at h
        · rw [dec_low hb h0] at h
          simp at h
          obtain ⟨rfl, rfl⟩ := h
          have e : 128 ^ (k + 1) = 128 * 128 ^ k := by rw [Nat.pow_succ, Nat.mul_comm]
          have : 0 < 128 ^ k := Nat.pow_pos (by omega)
          simp only [List.length_cons]
          omega
theorem rdNum_bd (s : List UInt8) (f : Bool) : (rdNum s f).1 < 9223372036854775808 ∧ (rdNum s f).2.1.length ≤ s.length := by
  unfold rdNum
  split
  · rename_i n t h
    have := dec_bound _ _ _ _ _ h
    simp; omega
  · simp

def zig (n : Nat) : Int := if n % 2 = 0 then ((n / 2 : Nat) : Int) else -((n / 2 : Nat) : Int) - 1
theorem zig_bits (n : Nat) (h : n < 9223372036854775808) : bits .xor .i64 ((n : Int) / 2) (-((n : Int) % 2)) = zig n := by
  rw [show (n : Int) / 2 = ((n / 2 : Nat) : Int) by omega]
  unfold zig
  split
  · rename_i h0
    rw [show -((n : Int) % 2) = 0 by omega, xor_even _ (by omega)]
  · rename_i h0
    rw [show -((n : Int) % 2) = -1 by omega, xor_odd _ (by omega)]
def zigOk (v : Int) : Prop := -2305843009213693952 ≤ v ∧ v ≤ 2305843009213693952
instance (v : Int) : Decidable (zigOk v) := by unfold zigOk; infer_instance
def rdInt (s : List UInt8) (f : Bool) : Int × List UInt8 × Bool := if zigOk (zig (rdNum s f).1) then (zig (rdNum s f).1, (rdNum s f).2.1, (rdNum s f).2.2) else (0, [], true)
theorem rdInt_ok {s : List UInt8} {f : Bool} (h : zigOk (zig (rdNum s f).1)) : rdInt s f = (zig (rdNum s f).1, (rdNum s f).2.1, (rdNum s f).2.2) := by simp [rdInt, h]
theorem rdInt_no {s : List UInt8} {f : Bool} (h : ¬ zigOk (zig (rdNum s f).1)) : rdInt s f = (0, [], true) := by simp [rdInt, h]
theorem rdInt_bd (s : List UInt8) (f : Bool) : zigOk (rdInt s f).1 ∧ (rdInt s f).2.1.length ≤ s.length := by
  unfold rdInt
  split
  · rename_i h; exact ⟨h, (rdNum_bd s f).2⟩
  · simp [zigOk]

set_option maxRecDepth 100000 in
set_option maxHeartbeats 400000 in
theorem rdint_any (b : Nat) (s : List UInt8) (f : Bool) (w : World) (h : Rd w b s f) (hs : s.length ≤ maxLen) :
    Calls Try.prog 28 #[.pointer (some ⟨b, 0, none⟩)] w fun e w' => e = .returned (.int .i64 (rdInt s f).1) ∧ Rd w' b (rdInt s f).2.1 (rdInt s f).2.2 ∧ w.grownBy w' (some b) := by
  have hn := (rdNum_bd s f).1
  have C := Lib.hid (rdnum_any b s f w h hs)
  have R1 := Lib.hid (rdInt_ok (s := s) (f := f))
  have R2 := Lib.hid (rdInt_no (s := s) (f := f))
  generalize hN : rdNum s f = N at *
  clear hN
  obtain ⟨n, t, g⟩ := N
  simp only at hn
  have hz := zig_bits n hn
  unfold zigOk at R1 R2
  simp only at R1 R2
  clear h
  go_enter Try.func28, Try.ntmps28
  go_wp2_with (first | (go_at_call 26; refine C.out.mono ?_; rintro e w1 ⟨rfl, hr1, hg1⟩) | (go_at_call 49; refine (fail_any b t g _ hr1).mono ?_; rintro e w2 ⟨rfl, hr2, hg2⟩))
  · go_ret
    rw [R2.out (by omega)]
    exact ⟨rfl, hr2, gr_trans hg1 hg2⟩
  · go_ret
    rw [R1.out (by omega)]
    exact ⟨rfl, hr1, hg1⟩
  · go_ret
    rw [R2.out (by omega)]
    exact ⟨rfl, hr2, gr_trans hg1 hg2⟩

def takeOk (s : List UInt8) (f : Bool) (n : Int) : Prop := f = false ∧ 0 ≤ n ∧ n ≤ s.length
instance (s : List UInt8) (f : Bool) (n : Int) : Decidable (takeOk s f n) := by unfold takeOk; infer_instance
def rdTake (s : List UInt8) (f : Bool) (n : Int) : List UInt8 × List UInt8 × Bool := if takeOk s f n then (s.take n.toNat, s.drop n.toNat, f) else ([], [], true)
theorem rdTake_ok {s : List UInt8} {f : Bool} {n : Int} (h : takeOk s f n) : rdTake s f n = (s.take n.toNat, s.drop n.toNat, f) := by simp [rdTake, h]
theorem rdTake_no {s : List UInt8} {f : Bool} {n : Int} (h : ¬ takeOk s f n) : rdTake s f n = ([], [], true) := by simp [rdTake, h]
set_option maxRecDepth 100000 in
set_option maxHeartbeats 400000 in
theorem take_any (b : Nat) (s : List UInt8) (f : Bool) (n : Int) (w : World) (h : Rd w b s f) (hs : s.length ≤ maxLen) :
    Calls Try.prog 38 #[.pointer (some ⟨b, 0, none⟩), .int .i64 n] w fun e w' => e = .returned (.string ⟨(rdTake s f n).1.toArray⟩) ∧ Rd w' b (rdTake s f n).2.1 (rdTake s f n).2.2 ∧ w.grownBy w' (some b) := by
  have h0 := h.c0
  have h1 := h.c1
  have z0 := h.z0
  have H := Lib.hid h
  have F := Lib.hid (fail_any b s f w h)
  clear h
  unfold maxLen at hs
  by_cases hok : takeOk s f n
  · have R := Lib.hid (rdTake_ok hok)
    obtain ⟨rfl, hn0, hn1⟩ := hok
    obtain ⟨m, rfl⟩ := Int.eq_ofNat_of_zero_le hn0
    have B1 := Lib.hid (bx_take s m)
    have B2 := Lib.hid (bx_end s m)
    have R0 := Lib.hid (H.out.set0 (s.drop m))
    have hm : m ≤ s.length := by omega
    clear hn1 hn0
    go_enter Try.func38, Try.ntmps38
    go_wp2
    go_ret
    rw [R.out, B1.out, B2.out]
    exact ⟨by simp, by simpa using R0.out, gr_own (gr_refl _ _) 0 _⟩
  · have R := Lib.hid (rdTake_no hok)
    have hok' : f = true ∨ n < 0 ∨ (s.length : Int) < n := by unfold takeOk at hok; cases f <;> simp at hok ⊢; omega
    clear hok
    rcases hok' with rfl | hc | hc
    · go_enter Try.func38, Try.ntmps38
      go_wp2_with (go_at_call 49; refine F.out.mono ?_; rintro e w1 ⟨rfl, hr1, hg1⟩)
      go_ret
      rw [R.out]
      exact ⟨rfl, hr1, hg1⟩
    · cases f
      · go_enter Try.func38, Try.ntmps38
        go_wp2_with (go_at_call 49; refine F.out.mono ?_; rintro e w1 ⟨rfl, hr1, hg1⟩)
        go_ret
        rw [R.out]
        exact ⟨rfl, hr1, hg1⟩
      · go_enter Try.func38, Try.ntmps38
        go_wp2_with (go_at_call 49; refine F.out.mono ?_; rintro e w1 ⟨rfl, hr1, hg1⟩)
        go_ret
        rw [R.out]
        exact ⟨rfl, hr1, hg1⟩
    · have hn : ¬ n < 0 := by omega
      cases f
      · go_enter Try.func38, Try.ntmps38
        go_wp2_with (go_at_call 49; refine F.out.mono ?_; rintro e w1 ⟨rfl, hr1, hg1⟩)
        go_ret
        rw [R.out]
        exact ⟨rfl, hr1, hg1⟩
      · go_enter Try.func38, Try.ntmps38
        go_wp2_with (go_at_call 49; refine F.out.mono ?_; rintro e w1 ⟨rfl, hr1, hg1⟩)
        go_ret
        rw [R.out]
        exact ⟨rfl, hr1, hg1⟩

def rdText (s : List UInt8) (f : Bool) : List UInt8 × List UInt8 × Bool := rdTake (rdNum s f).2.1 (rdNum s f).2.2 (rdNum s f).1

set_option maxRecDepth 100000 in
set_option maxHeartbeats 400000 in
theorem text_any (b : Nat) (s : List UInt8) (f : Bool) (w : World) (h : Rd w b s f) (hs : s.length ≤ maxLen) :
    Calls Try.prog 30 #[.pointer (some ⟨b, 0, none⟩)] w fun e w' => e = .returned (.string ⟨(rdText s f).1.toArray⟩) ∧ Rd w' b (rdText s f).2.1 (rdText s f).2.2 ∧ w.grownBy w' (some b) := by
  have hb := (rdNum_bd s f).2
  have C := Lib.hid (rdnum_any b s f w h hs)
  unfold rdText
  generalize rdNum s f = N at *
  obtain ⟨n, t, g⟩ := N
  simp only at hb C ⊢
  clear h
  go_enter Try.func30, Try.ntmps30
  go_wp2_with (first | (go_at_call 26; refine C.out.mono ?_; rintro e w1 ⟨rfl, hr1, hg1⟩) | (go_at_call 38; refine (take_any b t g _ _ hr1 (by omega)).mono ?_; rintro e w2 ⟨rfl, hr2, hg2⟩))
  go_ret
  exact ⟨rfl, hr2, gr_trans hg1 hg2⟩

end Go.Proofs.Ytgojkbaodmiiaaa
