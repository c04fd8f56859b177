/- LexFails: in plain words, and the law's walk. -/
import Derived.Test.YtammpndggdniiaaDoorLexR
namespace Go.Proofs.YtammpndggdniiaaDoor
open Go.RowKit

theorem put_self {t : List UInt8} {p n : Nat} {tk : Tok} {b : Bool} (h : nextS t p = (tk, n, b)) : tk.put p = tk := by
  have := nextS_put t p p
  rw [h] at this
  exact (congrArg Prod.fst this).symm
theorem take_fit (r : List UInt8) (k : Nat) : Fit r (r.take k) := fun c hc => by
  cases r with
  | nil => simp at hc
  | cons d r =>
    cases k with
    | zero => simp at hc
    | succ k => exact .inr (by simpa using hc)
theorem scanU_cut : ∀ (m : Nat) (t : List UInt8) (p : Nat) (l : List Tok) (q : Nat), t.length ≤ m → scanU t p = (l, some q) →
    ∃ k c, q = p + k ∧ (t.drop k).head? = some c ∧ isB c = false ∧ (∀ p', (nextS (t.drop k) p').2.2 = false) ∧ scanU (t.take k) p = (l, none)
  | m, [], p, l, q, _, h => by rw [scanU_nil] at h; cases h
  | 0, c :: t, p, l, q, hm, h => by simp at hm
  | m + 1, c :: t, p, l, q, hm, h => by
    by_cases hb : isB c = true
    · rw [scanU_blank t p hb] at h
      obtain ⟨k, d, h1, h2, h3, h4, h5⟩ := scanU_cut m t (p + 1) l q (by simp at hm; omega) h
      exact ⟨k + 1, d, by omega, by simpa using h2, h3, by simpa using h4, by rw [List.take_succ_cons, scanU_blank _ _ hb]; exact h5⟩
    · have hb' : isB c = false := Bool.eq_false_iff.2 hb
      cases ho : (nextS (c :: t) p).2.2 with
      | true =>
        obtain ⟨w, r, e1, e2, e3, e4, e5, ⟨c', e6, e7⟩, e8⟩ := next_view (t := c :: t) (p := p) (by simp) ho
        have en : nextS (c :: t) p = ((nextS (c :: t) p).1, w.length, true) := Prod.ext rfl (Prod.ext e2 ho)
        have hself := put_self en
        generalize (nextS (c :: t) p).1 = tk at en hself e4 e5 e8
        rw [scanU_tok (c := c) rfl hb' en] at h
        have hdr : (c :: t).drop w.length = r := by rw [e1]; simp
        rw [hdr] at h
        have hl : r.length ≤ m := by
          have := congrArg List.length e1
          simp at this hm; omega
        obtain ⟨l', q', hU⟩ : ∃ l' q', scanU r (p + w.length) = (l', q') := ⟨_, _, rfl⟩
        rw [hU] at h
        injection h with ha hb2
        simp only at ha hb2
        subst hb2
        obtain ⟨k, d, h1, h2, h3, h4, h5⟩ := scanU_cut m r (p + w.length) l' q hl hU
        have hdk : (c :: t).drop (w.length + k) = r.drop k := by rw [← List.drop_drop, hdr]
        refine ⟨w.length + k, d, by omega, by rw [hdk]; exact h2, h3, by rw [hdk]; exact h4, ?_⟩
        rw [e1, List.take_length_add_append]
        have e9 := e8 (r.take k) p (take_fit r k)
        rw [hself] at e9
        have hh : (w ++ r.take k).head? = some c' := by
          cases w with
          | nil => simp at e3
          | cons x w => simpa using e6
        rw [scanU_tok hh e7 e9, List.drop_left, h5, ← ha]
      | false =>
        rw [scanU_bad (c := c) rfl hb' ho] at h
        injection h with ha hb2
        injection hb2 with hb2
        refine ⟨0, c, by omega, rfl, hb', fun p' => ?_, by rw [← ha]; rfl⟩
        rw [List.drop_zero, nextS_put _ p p']; exact ho
/-- What is malformed at an offset. -/
theorem scan_bad {s : List UInt8} (hs : s.length ≤ 4096) {p : Nat} (h : scanR s = (none, 2, p)) :
    p < s.length ∧ ((s.drop p).take 1).all isB = false ∧ (∃ l, scanR (s.take p) = (some (l ++ [⟨4, [], 0, (s.take p).length⟩]), 0, 0)) ∧ scanR (s.drop p) = (none, 2, 0) := by
  rw [scanR_U hs] at h
  obtain ⟨l, q, hU⟩ : ∃ l q, scanU s 0 = (l, q) := ⟨_, _, rfl⟩
  rw [hU] at h
  cases q with
  | none => simp at h
  | some q =>
    simp only [Prod.mk.injEq, true_and] at h
    subst h
    obtain ⟨k, c, h1, h2, h3, h4, h5⟩ := scanU_cut s.length s 0 l q (Nat.le_refl _) hU
    obtain rfl : k = q := by omega
    have hlt : k < s.length := by
      by_cases h : k < s.length
      · exact h
      · rw [List.drop_of_length_le (by omega)] at h2; cases h2
    refine ⟨hlt, ?_, ⟨l, ?_⟩, ?_⟩
    · cases hd : s.drop k with
      | nil => rw [hd] at h2; cases h2
      | cons d r => rw [hd] at h2; simp at h2; subst h2; simp [h3]
    · rw [scanR_U (by rw [List.length_take]; omega), h5]
    · rw [scanR_U (by rw [List.length_drop]; omega), scanU_bad h2 h3 (h4 0)]
theorem scan_cases {s : List UInt8} (hs : s.length ≤ 4096) : (∃ l, scanR s = (some (l ++ [⟨4, [], 0, s.length⟩]), 0, 0) ∧ scanU s 0 = (l, none)) ∨ ∃ p, scanR s = (none, 2, p) := by
  rw [scanR_U hs]
  obtain ⟨l, q, hU⟩ : ∃ l q, scanU s 0 = (l, q) := ⟨_, _, rfl⟩
  rw [hU]
  cases q with
  | none => exact .inl ⟨l, rfl, rfl⟩
  | some q => exact .inr ⟨q, rfl⟩
end Go.Proofs.YtammpndggdniiaaDoor
