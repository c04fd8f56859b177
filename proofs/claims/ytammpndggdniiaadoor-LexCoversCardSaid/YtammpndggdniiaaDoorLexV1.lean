/- LexCovers: in plain words. -/
import Derived.Test.YtammpndggdniiaaDoorLexW
namespace Go.Proofs.YtammpndggdniiaaDoor
open Go.RowKit

theorem scanU_end : ∀ (m : Nat) (t : List UInt8) (p : Nat), t.length ≤ m → scanU t p = ([], none) → t.all isB = true
  | m, [], p, _, _ => rfl
  | 0, c :: t, p, hm, _ => by simp at hm
  | m + 1, c :: t, p, hm, h => by
    by_cases hb : isB c = true
    · rw [scanU_blank t p hb] at h
      rw [List.all_cons, hb, scanU_end m t (p + 1) (by simp at hm; omega) h]; rfl
    · have hb' : isB c = false := Bool.eq_false_iff.2 hb
      cases ho : (nextS (c :: t) p).2.2 with
      | true =>
        rw [scanU_tok (c := c) (tk := (nextS (c :: t) p).1) (n := (nextS (c :: t) p).2.1) rfl hb' (Prod.ext rfl (Prod.ext rfl ho))] at h
        cases h
      | false =>
        rw [scanU_bad (c := c) rfl hb' ho] at h; cases h
theorem scanU_first : ∀ (m : Nat) (t : List UInt8) (p : Nat) (tk : Tok) (l : List Tok), t.length ≤ m → scanU t p = (tk :: l, none) →
    ∃ x r, t = x ++ (wOf tk ++ r) ∧ x.all isB = true ∧ 1 ≤ (wOf tk).length ∧ tk.at_ = ((p + x.length : Nat) : Int) ∧ TokIs tk ∧ scanU r (p + x.length + (wOf tk).length) = (l, none)
  | m, [], p, tk, l, _, h => by rw [scanU_nil] at h; cases h
  | 0, c :: t, p, tk, l, hm, h => by simp at hm
  | m + 1, c :: t, p, tk, l, hm, h => by
    by_cases hb : isB c = true
    · rw [scanU_blank t p hb] at h
      obtain ⟨x, r, h1, h2, h3, h4, h5, h6⟩ := scanU_first m t (p + 1) tk l (by simp at hm; omega) h
      refine ⟨c :: x, r, by rw [h1]; rfl, by rw [List.all_cons, hb, h2]; rfl, h3, ?_, h5, ?_⟩
      · rw [h4, List.length_cons]; congr 1; omega
      · rw [List.length_cons, show p + (x.length + 1) = p + 1 + x.length by omega]; exact h6
    · have hb' : isB c = false := Bool.eq_false_iff.2 hb
      cases ho : (nextS (c :: t) p).2.2 with
      | true =>
        obtain ⟨w, r, e1, e2, e3, e4, e5, ⟨c', e6, e7⟩, e8⟩ := next_view (t := c :: t) (p := p) (by simp) ho
        have en : nextS (c :: t) p = ((nextS (c :: t) p).1, w.length, true) := Prod.ext rfl (Prod.ext e2 ho)
        have hself := put_self en
        generalize (nextS (c :: t) p).1 = tk' at en hself e4 e5 e8
        rw [scanU_tok (c := c) rfl hb' en] at h
        have hdr : (c :: t).drop w.length = r := by rw [e1]; simp
        rw [hdr] at h
        obtain ⟨l1, q1, hU⟩ : ∃ l1 q1, scanU r (p + w.length) = (l1, q1) := ⟨_, _, rfl⟩
        rw [hU] at h
        injection h with ha hb2
        injection ha with ha1 ha2
        simp only at hb2
        subst ha1 ha2 hb2
        refine ⟨[], r, by rw [e4]; exact e1, rfl, by rw [e4]; exact e3, ?_, e5, by rw [e4]; exact hU⟩
        rw [← hself]; rfl
      | false =>
        rw [scanU_bad (c := c) rfl hb' ho] at h; cases h
/-- The next token of a source. -/
theorem cover_next {s : List UInt8} {e : Nat} {tk : Tok} {l : List Tok} (he : e ≤ s.length) (h : scanU (s.drop e) e = (tk :: l, none)) :
    ∃ (b : Nat) (x : List UInt8), tk.at_ = (b : Int) ∧ e ≤ b ∧ b + (wOf tk).length ≤ s.length ∧ 1 ≤ (wOf tk).length ∧ TokIs tk ∧ (s.drop b).take (wOf tk).length = wOf tk ∧ (s.drop e).take (b - e) = x ∧ x.all isB = true ∧
      scanU (s.drop (b + (wOf tk).length)) (b + (wOf tk).length) = (l, none) := by
  obtain ⟨x, r, h1, h2, h3, h4, h5, h6⟩ := scanU_first _ _ _ _ _ (Nat.le_refl _) h
  have hl := congrArg List.length h1
  rw [List.length_drop] at hl
  simp only [List.length_append] at hl
  have hd : s.drop (e + x.length) = wOf tk ++ r := by rw [← List.drop_drop, h1, List.drop_left]
  have hd2 : s.drop (e + x.length + (wOf tk).length) = r := by rw [← List.drop_drop, hd, List.drop_left]
  refine ⟨e + x.length, x, h4, by omega, by omega, h3, h5, ?_, ?_, h2, ?_⟩
  · rw [hd, List.take_left]
  · rw [show e + x.length - e = x.length by omega, h1, List.take_left]
  · rw [hd2]; exact h6
end Go.Proofs.YtammpndggdniiaaDoor
