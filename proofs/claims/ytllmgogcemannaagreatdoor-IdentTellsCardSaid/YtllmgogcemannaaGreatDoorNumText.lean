/- Decimal numerals: what is written is read back, and nothing else is read. Plain lists of bytes. -/
import Derived.Lib.ItoaNum
import Derived.Lib.AtoiAllCases
namespace Go.Proofs.YtllmgogcemannaaGreatDoor
open Go.Lib

theorem parseUint_append : ∀ (l : List UInt8) (acc v : Nat) (r : List UInt8), parseUint10 acc l = .ok v → parseUint10 acc (l ++ r) = parseUint10 v r
  | [], acc, v, r, h => by simp [parseUint10] at h; subst h; rfl
  | c :: l, acc, v, r, h => by
    simp only [parseUint10, List.cons_append] at h ⊢
    split at h
    · rename_i hc
      rw [if_pos hc]
      split at h
      · cases h
      · rename_i h1
        rw [if_neg h1]
        split at h
        · cases h
        · rename_i h2
          rw [if_neg h2]
          exact parseUint_append l _ v r h
    · cases h
theorem dig_byte (d : Nat) (h : d < 10) : (UInt8.ofNat (48 + d)).toNat = 48 + d := by
  show (48 + d) % 256 = 48 + d; omega
theorem parse_digits (u : Nat) (h : u < 18446744073709551616) : parseUint10 0 (decDigits u) = .ok u := by
  induction u using Nat.strongRecOn with
  | _ u ih =>
    by_cases h1 : u < 10
    · rw [decDigits, dif_pos h1]
      have := dig_byte u h1
      simp only [parseUint10, this]
      rw [if_pos (by omega), if_neg (by omega), if_neg (by omega)]
      congr 1; omega
    · rw [decDigits, dif_neg h1, parseUint_append _ _ _ _ (ih (u / 10) (by omega) (by omega))]
      have := dig_byte (u % 10) (by omega)
      simp only [parseUint10, this]
      rw [if_pos (by omega), if_neg (by omega), if_neg (by omega)]
      congr 1; omega
theorem digits_ne (u : Nat) : decDigits u ≠ [] := by
  rw [decDigits]; split <;> simp
theorem digits_all (u : Nat) : ∀ c ∈ decDigits u, 48 ≤ c.toNat ∧ c.toNat ≤ 57 := by
  induction u using Nat.strongRecOn with
  | _ u ih =>
    intro c hc
    by_cases h1 : u < 10
    · rw [decDigits, dif_pos h1] at hc
      simp only [List.mem_singleton] at hc
      rw [hc, dig_byte u h1]; omega
    · rw [decDigits, dif_neg h1] at hc
      rcases List.mem_append.1 hc with hc | hc
      · exact ih (u / 10) (by omega) c hc
      · simp only [List.mem_singleton] at hc
        rw [hc, dig_byte _ (by omega)]; omega
/-- No numeral of more than one digit begins with 0. -/
theorem digits_zero (u : Nat) : ∀ r, decDigits u = 48 :: r → u = 0 ∧ r = [] := by
  induction u using Nat.strongRecOn with
  | _ u ih =>
    intro r hr
    by_cases h1 : u < 10
    · rw [decDigits, dif_pos h1] at hr
      injection hr with h2 h3
      have := dig_byte u h1
      rw [h2] at this
      exact ⟨by have e : (48 : UInt8).toNat = 48 := rfl; omega, h3.symm⟩
    · rw [decDigits, dif_neg h1] at hr
      cases hd : decDigits (u / 10) with
      | nil => exact absurd hd (digits_ne _)
      | cons c l =>
        rw [hd, List.cons_append] at hr
        injection hr with h2 h3
        subst h2
        have := (ih (u / 10) (by omega) l hd).1
        omega

theorem itoa_neg {n : Int} (h : n < 0) : itoa n = 45 :: decDigits n.natAbs := by simp [itoa, h]
theorem itoa_nat {n : Int} (h : ¬ n < 0) : itoa n = decDigits n.toNat := by simp [itoa, h]
theorem atoi_itoa (n : Int) (h0 : -9223372036854775808 ≤ n) (h1 : n ≤ 9223372036854775807) : atoiAll (itoa n) = .ok n := by
  by_cases h : n < 0
  · rw [itoa_neg h, atoiAll_minus]
    unfold parseMag
    rw [if_neg (digits_ne _), parse_digits _ (by omega)]
    simp only [signed]
    rw [if_neg (by omega)]
    congr 1; omega
  · rw [itoa_nat h]
    cases hd : decDigits n.toNat with
    | nil => exact absurd hd (digits_ne _)
    | cons c r =>
      have hc := digits_all n.toNat c (by rw [hd]; simp)
      rw [atoiAll_plain c r (by omega) (by omega), ← hd]
      unfold parseMag
      rw [if_neg (digits_ne _), parse_digits _ (by omega)]
      simp only [signless]
      rw [if_neg (by omega)]
      congr 1; omega
theorem itoa_inj {a b : Int} (ha : -9223372036854775808 ≤ a ∧ a ≤ 9223372036854775807) (hb : -9223372036854775808 ≤ b ∧ b ≤ 9223372036854775807) (h : itoa a = itoa b) : a = b := by
  have h1 := atoi_itoa a ha.1 ha.2
  rw [h, atoi_itoa b hb.1 hb.2] at h1
  injection h1 with h1; exact h1.symm

/-- What Parse reads. -/
def parseS (s : List UInt8) (lo hi : Int) : Option Int := match atoiAll s with
  | .ok n => if itoa n = s ∧ lo ≤ n ∧ n ≤ hi then some n else none
  | _ => none
theorem parseS_iff {s : List UInt8} {lo hi n : Int} : parseS s lo hi = some n ↔ (-9223372036854775808 ≤ n ∧ n ≤ 9223372036854775807) ∧ s = itoa n ∧ lo ≤ n ∧ n ≤ hi := by
  unfold parseS
  constructor
  · intro h
    split at h
    · rename_i v hv
      split at h
      · rename_i hc
        injection h with h
        subst h
        exact ⟨atoiAll_bounds hv, hc.1.symm, hc.2⟩
      · cases h
    · cases h
  · rintro ⟨hb, rfl, hr⟩
    rw [atoi_itoa n hb.1 hb.2]
    simp [hr]
theorem parseS_none {s : List UInt8} {lo hi : Int} (h : ∀ n, s ≠ itoa n) : parseS s lo hi = none := by
  cases e : parseS s lo hi with
  | none => rfl
  | some n => exact absurd (parseS_iff.1 e).2.1 (h n)

theorem itoa_ne (n : Int) : itoa n ≠ [] := by
  by_cases h : n < 0
  · rw [itoa_neg h]; simp
  · rw [itoa_nat h]; exact digits_ne _
/-- A numeral begins with a sign or a digit. -/
theorem itoa_head (n : Int) : ∀ c r, itoa n = c :: r → c = 45 ∨ 48 ≤ c.toNat ∧ c.toNat ≤ 57 := by
  intro c r h
  by_cases hn : n < 0
  · rw [itoa_neg hn] at h; injection h with h; exact .inl h.symm
  · rw [itoa_nat hn] at h; exact .inr (digits_all n.toNat c (by rw [h]; simp))
/-- It goes on with digits. -/
theorem itoa_tail (n : Int) : ∀ c r, itoa n = c :: r → ∀ d ∈ r, 48 ≤ d.toNat ∧ d.toNat ≤ 57 := by
  intro c r h d hd
  by_cases hn : n < 0
  · rw [itoa_neg hn] at h; injection h with _ h; subst h; exact digits_all _ d hd
  · rw [itoa_nat hn] at h; exact digits_all n.toNat d (by rw [h]; simp [hd])
theorem itoa_zero (n : Int) : ∀ r, itoa n = 48 :: r → r = [] := by
  intro r h
  by_cases hn : n < 0
  · rw [itoa_neg hn] at h; injection h with h; exact absurd h (by decide)
  · rw [itoa_nat hn] at h; exact (digits_zero _ _ h).2
theorem not_num_plus (n m : Int) : 43 :: itoa n ≠ itoa m := fun h => by
  rcases itoa_head m 43 _ h.symm with h | h
  · exact absurd h (by decide)
  · have e : (43 : UInt8).toNat = 43 := rfl
    omega
theorem not_num_space (n m : Int) : 32 :: itoa n ≠ itoa m := fun h => by
  rcases itoa_head m 32 _ h.symm with h | h
  · exact absurd h (by decide)
  · have e : (32 : UInt8).toNat = 32 := rfl
    omega
theorem not_num_zero (n m : Int) : 48 :: itoa n ≠ itoa m := fun h => itoa_ne n (itoa_zero m _ h.symm)
theorem not_num_minus (n m : Int) : 45 :: 45 :: itoa n ≠ itoa m := fun h => by
  have := itoa_tail m 45 _ h.symm 45 (by simp)
  have e : (45 : UInt8).toNat = 45 := rfl
  omega
theorem not_num_end (n m : Int) (c : UInt8) (hc : c.toNat < 48 ∨ 57 < c.toNat) : itoa n ++ [c] ≠ itoa m := fun h => by
  cases hd : itoa n with
  | nil => exact absurd hd (itoa_ne n)
  | cons a r =>
    rw [hd, List.cons_append] at h
    have := itoa_tail m a _ h.symm c (by simp)
    omega
end Go.Proofs.YtllmgogcemannaaGreatDoor
