/- The reference's numerals. -/
import Derived.Test.YtllmgogcemannaaGreatDoorNumTP
import Derived.Lib.ItoaLen
import Derived.BigQuiet
import Derived.Deep.QuietTactic
namespace Go.Proofs.YtllmgogcemannaaGreatDoor
open Go.Lib
def In64 (n : Int) : Prop := -9223372036854775808 ≤ n ∧ n ≤ 9223372036854775807

/-- One step: ten times what was there, less the digit, as an int. -/
def stepW (n : Int) (c : UInt8) : Int := IntKind.i64.wrap (IntKind.i64.wrap (10 * n) - ((c.toNat : Int) - 48))
def foldW (l : List UInt8) : Int := l.foldl stepW 0
def atOf (s : List UInt8) : Nat := if s.head? = some 45 then 1 else 0
def refV (s : List UInt8) : Int := if atOf s = 0 then IntKind.i64.wrap (-(foldW (s.drop (atOf s)))) else foldW (s.drop (atOf s))
theorem foldW_snoc (l : List UInt8) (c : UInt8) : foldW (l ++ [c]) = stepW (foldW l) c := by simp [foldW]
theorem wrap_id {n : Int} (h0 : -9223372036854775808 ≤ n) (h1 : n ≤ 9223372036854775807) : IntKind.i64.wrap n = n := by rw [IntKind.wrap_i64]; omega
theorem foldW_digits (u : Nat) (h : u ≤ 9223372036854775808) : foldW (decDigits u) = -(u : Int) := by
  induction u using Nat.strongRecOn with
  | _ u ih =>
    by_cases h1 : u < 10
    · rw [decDigits, dif_pos h1]
      have := dig_byte u h1
      simp only [foldW, List.foldl_cons, List.foldl_nil, stepW, this]
      rw [wrap_id (n := 10 * 0) (by decide) (by decide), wrap_id (by omega) (by omega)]
      omega
    · rw [decDigits, dif_neg h1, foldW_snoc, ih (u / 10) (by omega) (by omega)]
      have := dig_byte (u % 10) (by omega)
      unfold stepW
      rw [this, wrap_id (n := 10 * -((u / 10 : Nat) : Int)) (by omega) (by omega), wrap_id (by omega) (by omega)]
      omega
theorem digits_len (u : Nat) (h : u ≤ 9223372036854775808) : (decDigits u).length ≤ 19 := by
  rw [decDigits_length]
  rcases Nat.lt_or_ge (nDigits u) 20 with h1 | h1
  · omega
  · exfalso
    obtain ⟨j, hj⟩ : ∃ j, nDigits u = j + 20 := ⟨nDigits u - 20, by omega⟩
    have key : ∀ k u, nDigits u = k + 1 → 10 ^ k ≤ u ∨ k = 0 := by
      intro k
      induction k with
      | zero => intro u _; exact .inr rfl
      | succ k ih =>
        intro u hu
        left
        by_cases h10 : u < 10
        · rw [nDigits_small h10] at hu; omega
        · rw [nDigits_big h10] at hu
          rcases ih (u / 10) (by omega) with h2 | h2
          · rw [Nat.pow_succ]; omega
          · subst h2; omega
    rcases key (j + 19) u (by omega) with h2 | h2
    · have h3 : 10 ^ 19 ≤ 10 ^ (j + 19) := Nat.pow_le_pow_right (by omega) (by omega)
      have h4 : (10 : Nat) ^ 19 = 10000000000000000000 := by decide
      omega
    · omega
theorem digits_head (u : Nat) : (decDigits u).head? ≠ some 45 := by
  intro h
  cases hd : decDigits u with
  | nil => rw [hd] at h; simp at h
  | cons c r =>
    rw [hd] at h
    simp at h
    have := digits_all u c (by rw [hd]; simp)
    rw [h] at this
    have e : (45 : UInt8).toNat = 45 := rfl
    omega
theorem neg_form (u : Nat) : atOf (45 :: decDigits u) = 1 := by simp [atOf]
theorem nat_form (u : Nat) : atOf (decDigits u) = 0 := by simp [atOf, digits_head u]
/-- What a numeral looks like to the reference. -/
theorem itoa_form (m : Int) (h0 : -9223372036854775808 ≤ m) (h1 : m ≤ 9223372036854775807) :
    atOf (itoa m) < (itoa m).length ∧ (itoa m).length - atOf (itoa m) ≤ 19 ∧ (∀ c ∈ (itoa m).drop (atOf (itoa m)), 48 ≤ c.toNat ∧ c.toNat ≤ 57) ∧ refV (itoa m) = m := by
  by_cases h : m < 0
  · have hd := digits_ne m.natAbs
    have hl := digits_len m.natAbs (by omega)
    have hp : 0 < (decDigits m.natAbs).length := List.length_pos_iff.2 hd
    rw [itoa_neg h, neg_form]
    refine ⟨by simp; omega, by simp; omega, ?_, ?_⟩
    · simpa using digits_all m.natAbs
    · unfold refV
      rw [neg_form, if_neg (by decide)]
      rw [List.drop_one, List.tail_cons, foldW_digits _ (by omega)]; omega
  · have hd := digits_ne m.toNat
    have hl := digits_len m.toNat (by omega)
    have hp : 0 < (decDigits m.toNat).length := List.length_pos_iff.2 hd
    rw [itoa_nat h, nat_form]
    refine ⟨by omega, by omega, ?_, ?_⟩
    · simpa using digits_all m.toNat
    · unfold refV
      rw [nat_form, if_pos rfl, List.drop_zero, foldW_digits _ (by omega), wrap_id (by omega) (by omega)]; omega
theorem refV_in (s : List UInt8) : -9223372036854775808 ≤ refV s ∧ refV s ≤ 9223372036854775807 := by
  have hf : ∀ l, -9223372036854775808 ≤ foldW l ∧ foldW l ≤ 9223372036854775807 := by
    intro l
    rcases List.eq_nil_or_concat l with rfl | ⟨r, c, rfl⟩
    · simp [foldW]
    · rw [List.concat_eq_append, foldW_snoc]; unfold stepW; rw [IntKind.wrap_i64]; omega
  unfold refV; split
  · rw [IntKind.wrap_i64]; omega
  · exact hf _
theorem foldW_in (l : List UInt8) : -9223372036854775808 ≤ foldW l ∧ foldW l ≤ 9223372036854775807 := by
  rcases List.eq_nil_or_concat l with rfl | ⟨r, c, rfl⟩
  · simp [foldW]
  · rw [List.concat_eq_append, foldW_snoc]; unfold stepW; rw [IntKind.wrap_i64]; omega
/-- When it refuses. -/
theorem ref_no {s : List UInt8} (h : ¬ (atOf s < s.length ∧ s.length - atOf s ≤ 19 ∧ ∀ c ∈ s.drop (atOf s), 48 ≤ c.toNat ∧ c.toNat ≤ 57)) (lo hi : Int) : parseN s lo hi = 0 ∧ parseB s lo hi = false := by
  unfold parseN parseB
  cases e : parseS s lo hi with
  | none => exact ⟨rfl, rfl⟩
  | some m =>
    obtain ⟨h1, rfl, _⟩ := parseS_iff.1 e
    obtain ⟨a, b, c, _⟩ := itoa_form m h1.1 h1.2
    exact absurd ⟨a, b, c⟩ h
theorem ref_bad {s : List UInt8} (lo hi : Int) (h : ¬ (itoa (refV s) = s ∧ lo ≤ refV s ∧ refV s ≤ hi)) : parseN s lo hi = 0 ∧ parseB s lo hi = false := by
  unfold parseN parseB
  cases e : parseS s lo hi with
  | none => exact ⟨rfl, rfl⟩
  | some m =>
    obtain ⟨h1, rfl, h2⟩ := parseS_iff.1 e
    obtain ⟨_, _, _, d⟩ := itoa_form m h1.1 h1.2
    rw [d] at h
    exact absurd ⟨rfl, h2⟩ h
theorem ref_good {s : List UInt8} (lo hi : Int) (h : itoa (refV s) = s ∧ lo ≤ refV s ∧ refV s ≤ hi) : parseN s lo hi = refV s ∧ parseB s lo hi = true := by
  unfold parseN parseB
  rw [parseS_iff.2 ⟨refV_in s, h.1.symm, h.2⟩]; exact ⟨rfl, rfl⟩
theorem digits_sg (u : Nat) (h : ¬ u < 10) : decDigits u = decDigits (u / 10) ++ [UInt8.ofNat (48 + u % 10)] := by rw [decDigits, dif_neg h]
theorem byte_piece (d : Nat) (h : d < 10) : (ByteArray.mk #[48, 49, 50, 51, 52, 53, 54, 55, 56, 57]).extract d (d + 1) = ⟨[UInt8.ofNat (48 + d)].toArray⟩ := by
  match d, h with
  | 0, _ => rfl
  | 1, _ => rfl
  | 2, _ => rfl
  | 3, _ => rfl
  | 4, _ => rfl
  | 5, _ => rfl
  | 6, _ => rfl
  | 7, _ => rfl
  | 8, _ => rfl
  | 9, _ => rfl
end Go.Proofs.YtllmgogcemannaaGreatDoor
