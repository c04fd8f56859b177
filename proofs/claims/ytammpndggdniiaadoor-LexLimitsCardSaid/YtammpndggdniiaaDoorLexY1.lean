/- LexLimits: in plain words. -/
import Derived.Test.YtammpndggdniiaaDoorLexW
import Derived.Lib.ItoaLen
namespace Go.Proofs.YtammpndggdniiaaDoor
open Go.RowKit

theorem parse_in {n : Int} (h0 : 0 ≤ n) (h1 : n ≤ numMax) : parseN (Lib.itoa n) 0 numMax = n ∧ parseB (Lib.itoa n) 0 numMax = true := by
  have h : parseS (Lib.itoa n) 0 numMax = some n := parseS_iff.2 ⟨⟨by omega, by unfold numMax at h1; omega⟩, rfl, h0, h1⟩
  unfold parseN parseB; rw [h]; exact ⟨rfl, rfl⟩
theorem parse_out {n : Int} (hn : -9223372036854775808 ≤ n ∧ n ≤ 9223372036854775807) (h1 : numMax < n) : parseB (Lib.itoa n) 0 numMax = false := by
  unfold parseB
  cases h : parseS (Lib.itoa n) 0 numMax with
  | none => rfl
  | some m =>
    obtain ⟨h2, h3, h4, h5⟩ := parseS_iff.1 h
    have := itoa_inj hn h2 h3
    omega
theorem dig3 {c : UInt8} (h : 48 ≤ c.toNat ∧ c.toNat ≤ 57) : cls c.toNat = 3 := by
  have key : ∀ n : Fin 256, 48 ≤ (UInt8.ofNat n).toNat ∧ (UInt8.ofNat n).toNat ≤ 57 → cls (UInt8.ofNat n).toNat = 3 := by decide +kernel
  have := key ⟨c.toNat, c.toNat_lt⟩
  simpa using this (by simpa using h)
theorem num_scan {n : Int} (h0 : 0 ≤ n) (h1 : n ≤ 9223372036854775808) (p : Nat) : (n ≤ numMax → scanU (Lib.decDigits n.toNat) p = ([⟨1, [], n, p⟩], none)) ∧ (numMax < n → scanU (Lib.decDigits n.toNat) p = ([], some p)) := by
  have hi : Lib.itoa n = Lib.decDigits n.toNat := itoa_nat (by omega)
  have hall := digits_all n.toNat
  have hne := digits_ne n.toNat
  have hpo : numMax < n → parseB (Lib.decDigits n.toNat) 0 numMax = false := by
    intro h
    by_cases h2 : n ≤ 9223372036854775807
    · rw [← hi]; exact parse_out ⟨by omega, h2⟩ h
    · rw [← hi]
      unfold parseB
      cases hs : parseS (Lib.itoa n) 0 numMax with
      | none => rfl
      | some m =>
        obtain ⟨g2, g3, g4, g5⟩ := parseS_iff.1 hs
        obtain rfl : n = 9223372036854775808 := by omega
        have e1 := itoa_nat (n := m) (by omega)
        have e2 : Lib.itoa 9223372036854775808 = Lib.itoa ((9223372036854775808 : Nat) : Int) := rfl
        have hu := congrArg (Lib.parseUint10 0) (g3.trans e1)
        rw [hi, parse_digits _ (by decide), parse_digits _ (by omega)] at hu
        injection hu with hu
        have : (9223372036854775808 : Int).toNat = 9223372036854775808 := rfl
        omega
  cases hd : Lib.decDigits n.toNat with
  | nil => exact absurd hd hne
  | cons c w =>
    rw [hd] at hall
    have hc := dig3 (hall c (List.mem_cons_self ..))
    have hw : (c :: w).all isW = true := List.all_eq_true.2 fun x hx => by
      have := dig3 (hall x hx); simp [isW, this]
    have e := nx_num (r := []) hw (fun d hd => by cases hd) hc p
    rw [List.append_nil] at e
    refine ⟨fun h => ?_, fun h => ?_⟩
    · obtain ⟨p1, p2⟩ := parse_in h0 h
      rw [hi, hd] at p1 p2
      rw [p1, p2] at e
      rw [scanU_tok (c := c) rfl (notB hc (by decide)) e, List.drop_of_length_le (Nat.le_refl _), scanU_nil]
    · have p2 := hpo h
      rw [hd] at p2
      exact scanU_bad (c := c) rfl (notB hc (by decide)) (by rw [e]; exact p2)
theorem itoa_len_le (n : Int) (hn : -9223372036854775808 ≤ n ∧ n ≤ 9223372036854775807) : (Lib.itoa n).length ≤ 21 := Lib.itoa_length_le n hn.1 hn.2
/-- What Scan makes of the text of a number. -/
def numR (n : Int) : Option (List Tok) × Int × Nat :=
  if 0 ≤ n then (if n ≤ numMax then (some [⟨1, [], n, 0⟩, ⟨4, [], 0, (Lib.itoa n).length⟩], 0, 0) else (none, 2, 0))
  else (if -numMax ≤ n then (some [⟨3, [45], 0, 0⟩, ⟨1, [], -n, 1⟩, ⟨4, [], 0, (Lib.itoa n).length⟩], 0, 0) else (none, 2, 1))
theorem scan_num {n : Int} (hn : -9223372036854775808 ≤ n ∧ n ≤ 9223372036854775807) : scanR (Lib.itoa n) = numR n := by
  have hl := itoa_len_le n hn
  rw [scanR_U (by omega)]
  unfold numR
  by_cases h0 : 0 ≤ n
  · rw [if_pos h0]
    obtain ⟨h1, h2⟩ := num_scan h0 (by omega) 0
    rw [← itoa_nat (by omega)] at h1 h2
    by_cases h3 : n ≤ numMax
    · rw [h1 h3, if_pos h3]; rfl
    · rw [h2 (by omega), if_neg h3]
  · rw [if_neg h0]
    have e : Lib.itoa n = 45 :: Lib.decDigits n.natAbs := itoa_neg (by omega)
    obtain ⟨h1, h2⟩ := num_scan (n := -n) (by omega) (by omega) 1
    rw [show (-n).toNat = n.natAbs by omega] at h1 h2
    have ex : nextS (45 :: Lib.decDigits n.natAbs) 0 = (⟨3, [45], 0, 0⟩, 1, true) := by
      rw [nx_sign (show cls ((45 :: Lib.decDigits n.natAbs : List UInt8).headD 0).toNat = 5 from (by decide : cls (45 : UInt8).toNat = 5))]
      have eo : opS (45 :: Lib.decDigits n.natAbs) = ([45], true) := by
        unfold opS
        rw [if_neg ?_]
        · rfl
        · rintro ⟨_, h⟩; exact absurd h (show ¬ sig4 45 = true by decide)
      rw [eo]; rfl
    have e1 : scanU (Lib.itoa n) 0 = (⟨3, [45], 0, 0⟩ :: (scanU (Lib.decDigits n.natAbs) 1).1, (scanU (Lib.decDigits n.natAbs) 1).2) := by
      rw [e, scanU_tok (c := 45) rfl (by decide) ex]; rfl
    rw [e1]
    by_cases h3 : -numMax ≤ n
    · rw [h1 (by omega), if_pos h3]; rfl
    · rw [h2 (by omega), if_neg h3]
theorem scan_name {m : Nat} (h1 : 1 ≤ m) (h2 : m ≤ 100) : scanR (List.replicate m 97) = if m ≤ 24 then (some [⟨0, List.replicate m 97, 0, 0⟩, ⟨4, [], 0, m⟩], 0, 0) else (none, 2, 0) := by
  rw [scanR_U (by simp; omega)]
  obtain ⟨k, rfl⟩ : ∃ k, m = k + 1 := ⟨m - 1, by omega⟩
  have hw : (97 :: List.replicate k 97 : List UInt8).all isW = true := List.all_eq_true.2 fun x hx => by
    have : x = 97 := by
      rcases List.mem_cons.1 hx with h | h
      · exact h
      · exact (List.mem_replicate.1 h).2
    subst this; decide
  have e := nx_word (r := []) hw (fun d hd => by cases hd) (by decide) 0
  rw [List.append_nil] at e
  have hlen : (97 :: List.replicate k 97 : List UInt8).length = k + 1 := by simp
  rw [hlen] at e
  rw [List.replicate_succ]
  by_cases h : k + 1 ≤ 24
  · rw [decide_eq_true h] at e
    rw [scanU_tok (c := 97) rfl (by decide) e, List.drop_of_length_le (by rw [hlen]; omega), scanU_nil, if_pos h, hlen]; rfl
  · rw [decide_eq_false h] at e
    rw [scanU_bad (c := 97) rfl (by decide) (by rw [e]), if_neg h]
theorem scan_text {t : List UInt8} (h1 : t.length ≤ 100) (h2 : t.all (fun c => !stopQ c) = true) : scanR (34 :: (t ++ [34])) = if t.length ≤ 24 then (some [⟨2, t, 0, 0⟩, ⟨4, [], 0, (34 :: (t ++ [34])).length⟩], 0, 0) else (none, 2, 0) := by
  rw [scanR_U (by simp; omega)]
  have e := nx_str (r := []) h2 0
  by_cases h : t.length ≤ 24
  · rw [if_pos h] at e ⊢
    rw [scanU_tok (c := 34) rfl (by decide) e, List.drop_of_length_le (by simp), scanU_nil]; rfl
  · rw [if_neg h] at e ⊢
    rw [scanU_bad (c := 34) rfl (by decide) (by rw [e])]
end Go.Proofs.YtammpndggdniiaaDoor
