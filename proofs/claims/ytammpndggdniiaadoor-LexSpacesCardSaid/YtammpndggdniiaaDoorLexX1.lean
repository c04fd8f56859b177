/- LexSpaces: in plain words. -/
import Derived.Test.YtammpndggdniiaaDoorLexW
namespace Go.Proofs.YtammpndggdniiaaDoor
open Go.RowKit

theorem scanU_sp : ∀ (sp t : List UInt8) (p : Nat), sp.all isB = true → scanU (sp ++ t) p = scanU t (p + sp.length)
  | [], t, p, _ => rfl
  | c :: sp, t, p, h => by
    simp only [List.all_cons, Bool.and_eq_true] at h
    rw [List.cons_append, scanU_blank _ _ h.1, scanU_sp sp t (p + 1) h.2, List.length_cons]
    congr 1; omega
theorem put_put (t : Tok) (p q : Int) : (t.put p).put q = t.put q := rfl
theorem scanU_shift : ∀ (m : Nat) (t : List UInt8) (p q : Nat) (l : List Tok), t.length ≤ m → scanU t p = (l, none) → ∃ l', scanU t q = (l', none) ∧ l'.map core = l.map core
  | m, [], p, q, l, _, h => by
    rw [scanU_nil] at h; injection h with h1 h2; subst h1
    exact ⟨[], rfl, rfl⟩
  | 0, c :: t, p, q, l, hm, h => by simp at hm
  | m + 1, c :: t, p, q, l, hm, h => by
    by_cases hb : isB c = true
    · rw [scanU_blank t p hb] at h
      obtain ⟨l', h1, h2⟩ := scanU_shift m t (p + 1) (q + 1) l (by simp at hm; omega) h
      exact ⟨l', by rw [scanU_blank t q hb]; exact h1, h2⟩
    · have hb' : isB c = false := Bool.eq_false_iff.2 hb
      cases ho : (nextS (c :: t) p).2.2 with
      | true =>
        have en : nextS (c :: t) p = ((nextS (c :: t) p).1, (nextS (c :: t) p).2.1, true) := Prod.ext rfl (Prod.ext rfl ho)
        have eq := nextS_put (c :: t) p q
        have hn := next_size (t := c :: t) (p := p) (by simp) ho
        generalize (nextS (c :: t) p).1 = tk at en eq
        generalize (nextS (c :: t) p).2.1 = n at en hn
        rw [en] at eq
        rw [scanU_tok (c := c) rfl hb' en] at h
        obtain ⟨l1, q1, hU⟩ : ∃ l1 q1, scanU ((c :: t).drop n) (p + n) = (l1, q1) := ⟨_, _, rfl⟩
        rw [hU] at h
        injection h with ha hb2
        simp only at ha hb2
        subst hb2 ha
        obtain ⟨l', h1, h2⟩ := scanU_shift m ((c :: t).drop n) (p + n) (q + n) l1 (by rw [List.length_drop]; simp only [List.length_cons] at hm ⊢; omega) hU
        exact ⟨tk.put q :: l', by rw [scanU_tok (c := c) rfl hb' eq, h1], by rw [List.map_cons, List.map_cons, h2]; rfl⟩
      | false =>
        rw [scanU_bad (c := c) rfl hb' ho] at h; cases h
theorem ins_fit (sp r : List UInt8) (h : sp.all isB = true) (k : Nat) : Fit r (r.take k ++ (sp ++ r.drop k)) := fun c hc => by
  cases r with
  | nil =>
    cases sp with
    | nil => simp at hc
    | cons d sp => simp at hc h; subst hc; exact .inl h.1
  | cons d r =>
    cases k with
    | zero =>
      cases sp with
      | nil => exact .inr (by simpa using hc)
      | cons d sp => simp at hc h; subst hc; exact .inl h.1
    | succ k => exact .inr (by simpa using hc)
theorem scanU_ins (sp : List UInt8) (hsp : sp.all isB = true) : ∀ (m : Nat) (t : List UInt8) (p : Nat) (l : List Tok) (n : Nat), t.length ≤ m → scanU t p = (l, none) → n ≤ l.length →
    ∃ k, k ≤ t.length ∧ ((l ++ [(⟨4, [], 0, ((p + t.length : Nat) : Int)⟩ : Tok)])[n]?).map (·.at_) = some ((p + k : Nat) : Int) ∧ ∀ p', ∃ l', scanU (t.take k ++ (sp ++ t.drop k)) p' = (l', none) ∧ l'.map core = l.map core
  | m, [], p, l, n, _, h, hn => by
    rw [scanU_nil] at h; injection h with h1 h2; subst h1
    obtain rfl : n = 0 := by simpa using hn
    exact ⟨0, Nat.le_refl _, rfl, fun p' => ⟨[], by rw [List.take_nil, List.drop_nil, List.nil_append, scanU_sp sp [] p' hsp]; rfl, rfl⟩⟩
  | 0, c :: t, p, l, n, hm, h, hn => by simp at hm
  | m + 1, c :: t, p, l, n, hm, h, hn => by
    by_cases hb : isB c = true
    · rw [scanU_blank t p hb] at h
      obtain ⟨k, h1, h2, h3⟩ := scanU_ins sp hsp m t (p + 1) l n (by simp at hm; omega) h hn
      refine ⟨k + 1, by simp; omega, ?_, fun p' => ?_⟩
      · rw [List.length_cons, show p + (t.length + 1) = p + 1 + t.length by omega, show p + (k + 1) = p + 1 + k by omega]; exact h2
      · obtain ⟨l', h4, h5⟩ := h3 (p' + 1)
        exact ⟨l', by rw [List.take_succ_cons, List.drop_succ_cons, List.cons_append, scanU_blank _ _ hb]; exact h4, h5⟩
    · have hb' : isB c = false := Bool.eq_false_iff.2 hb
      cases ho : (nextS (c :: t) p).2.2 with
      | true =>
        obtain ⟨w, r, e1, e2, e3, e4, e5, ⟨c', e6, e7⟩, e8⟩ := next_view (t := c :: t) (p := p) (by simp) ho
        have en : nextS (c :: t) p = ((nextS (c :: t) p).1, w.length, true) := Prod.ext rfl (Prod.ext e2 ho)
        have hself := put_self en
        generalize (nextS (c :: t) p).1 = tk at en hself e4 e5 e8
        cases n with
        | zero =>
          have h0 := h
          rw [scanU_tok (c := c) rfl hb' en] at h
          injection h with ha hb2
          refine ⟨0, Nat.zero_le _, ?_, fun p' => ?_⟩
          · rw [← ha]
            show some tk.at_ = _
            rw [← hself]; rfl
          · rw [List.take_zero, List.drop_zero, List.nil_append, scanU_sp sp _ p' hsp]
            exact scanU_shift _ _ _ _ _ (Nat.le_refl _) h0
        | succ n =>
          rw [scanU_tok (c := c) rfl hb' en] at h
          have hdr : (c :: t).drop w.length = r := by rw [e1]; simp
          rw [hdr] at h
          have hlen : t.length + 1 = w.length + r.length := by
            have := congrArg List.length e1
            simpa using this
          obtain ⟨l1, q1, hU⟩ : ∃ l1 q1, scanU r (p + w.length) = (l1, q1) := ⟨_, _, rfl⟩
          rw [hU] at h
          injection h with ha hb2
          simp only at ha hb2
          subst hb2 ha
          obtain ⟨k, h1, h2, h3⟩ := scanU_ins sp hsp m r (p + w.length) l1 n (by simp at hm; omega) hU (by simpa using hn)
          refine ⟨w.length + k, by simp; omega, ?_, fun p' => ?_⟩
          · rw [List.cons_append, List.getElem?_cons_succ, List.length_cons, show p + (t.length + 1) = p + w.length + r.length by omega, show p + (w.length + k) = p + w.length + k by omega]; exact h2
          · obtain ⟨l', h4, h5⟩ := h3 (p' + w.length)
            have hh : (w ++ (r.take k ++ (sp ++ r.drop k))).head? = some c' := by
              cases w with
              | nil => simp at e3
              | cons x w => simpa using e6
            refine ⟨tk.put p' :: l', ?_, by rw [List.map_cons, List.map_cons, h5]; rfl⟩
            have hdk : (c :: t).drop (w.length + k) = r.drop k := by rw [← List.drop_drop, hdr]
            rw [hdk, e1, List.take_length_add_append, List.append_assoc, scanU_tok hh e7 (e8 _ p' (ins_fit sp r hsp k)), List.drop_left, h4]
      | false =>
        rw [scanU_bad (c := c) rfl hb' ho] at h; cases h
theorem spaces_plain {s sp : List UInt8} {l : List Tok} (hs : s.length ≤ 2000) (hp : sp.length ≤ 20) (hsp : sp.all isB = true) (hU : scanU s 0 = (l, none)) (n : Nat) (hn : n < (l ++ [(⟨4, [], 0, s.length⟩ : Tok)]).length) :
    ∃ k, k ≤ s.length ∧ (l ++ [(⟨4, [], 0, s.length⟩ : Tok)])[n].at_ = (k : Int) ∧ (∃ a, scanR (s.take k ++ (sp ++ s.drop k)) = (some a, 0, 0) ∧ (l ++ [(⟨4, [], 0, s.length⟩ : Tok)]).map core = a.map core) ∧
      ∃ b, scanR (sp ++ (s ++ sp)) = (some b, 0, 0) ∧ (l ++ [(⟨4, [], 0, s.length⟩ : Tok)]).map core = b.map core := by
  have hn' : n ≤ l.length := by simp at hn; omega
  obtain ⟨k, h1, h2, h3⟩ := scanU_ins sp hsp s.length s 0 l n (Nat.le_refl _) hU hn'
  obtain ⟨k2, g1, g2, g3⟩ := scanU_ins sp hsp s.length s 0 l l.length (Nat.le_refl _) hU (Nat.le_refl _)
  rw [Nat.zero_add, Nat.zero_add, List.getElem?_eq_getElem hn] at h2
  rw [List.getElem?_concat_length] at g2
  have hk2 : k2 = s.length := by simp at g2; omega
  subst hk2
  obtain ⟨a, h4, h5⟩ := h3 0
  obtain ⟨b, g4, g5⟩ := g3 sp.length
  rw [List.take_of_length_le (Nat.le_refl _), List.drop_of_length_le (Nat.le_refl _), List.append_nil] at g4
  refine ⟨k, h1, by simpa using h2, ⟨a ++ [⟨4, [], 0, (s.take k ++ (sp ++ s.drop k)).length⟩], ?_, by simp [h5, core]⟩, ⟨b ++ [⟨4, [], 0, (sp ++ (s ++ sp)).length⟩], ?_, by simp [g5, core]⟩⟩
  · rw [scanR_U (by simp; omega), h4]
  · rw [scanR_U (by simp; omega), scanU_sp _ _ _ hsp, Nat.zero_add, g4]
end Go.Proofs.YtammpndggdniiaaDoor
