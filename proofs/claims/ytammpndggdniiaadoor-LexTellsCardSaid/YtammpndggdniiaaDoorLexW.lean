/- LexWrites: in plain words. -/
import Derived.Test.YtammpndggdniiaaDoorLexS
namespace Go.Proofs.YtammpndggdniiaaDoor
open Go.RowKit

/-- A token that is read again where nothing or white space follows. -/
def Good (tk : Tok) : Prop := 1 ≤ (wOf tk).length ∧ (∃ c, (wOf tk).head? = some c ∧ isB c = false) ∧ TokIs tk ∧ ∀ r' (q : Nat), (∀ c, r'.head? = some c → isB c = true) → nextS (wOf tk ++ r') q = (tk.put q, (wOf tk).length, true)
theorem View.good {t : List UInt8} {r0 : Tok × Nat × Bool} (h : View t r0) : Good r0.1 := by
  obtain ⟨w, r, e1, e2, e3, e4, e5, e6, e8⟩ := h
  unfold Good
  rw [e4]
  exact ⟨e3, e6, e5, fun r' q hq => e8 r' q fun c hc => .inl (hq c hc)⟩
theorem scanU_good : ∀ (m : Nat) (t : List UInt8) (p : Nat), t.length ≤ m → (scanU t p).1.length ≤ t.length ∧ ∀ tk ∈ (scanU t p).1, Good tk
  | m, [], p, _ => by rw [scanU_nil]; simp
  | 0, c :: t, p, hm => by simp at hm
  | m + 1, c :: t, p, hm => by
    by_cases hb : isB c = true
    · rw [scanU_blank t p hb]
      obtain ⟨h1, h2⟩ := scanU_good m t (p + 1) (by simp at hm; omega)
      exact ⟨by simp only [List.length_cons]; omega, h2⟩
    · have hb' : isB c = false := Bool.eq_false_iff.2 hb
      cases ho : (nextS (c :: t) p).2.2 with
      | true =>
        have hv := next_view (t := c :: t) (p := p) (by simp) ho
        have hg := hv.good
        have hn := next_size (t := c :: t) (p := p) (by simp) ho
        rw [scanU_tok (c := c) (tk := (nextS (c :: t) p).1) (n := (nextS (c :: t) p).2.1) rfl hb' (Prod.ext rfl (Prod.ext rfl ho))]
        obtain ⟨h1, h2⟩ := scanU_good m ((c :: t).drop (nextS (c :: t) p).2.1) (p + (nextS (c :: t) p).2.1) (by rw [List.length_drop]; simp only [List.length_cons] at hm ⊢; omega)
        rw [List.length_drop] at h1
        refine ⟨by simp only [List.length_cons] at h1 hn ⊢; omega, fun tk htk => ?_⟩
        rcases List.mem_cons.1 htk with rfl | htk
        · exact hg
        · exact h2 tk htk
      | false =>
        rw [scanU_bad (c := c) rfl hb' ho]; simp
theorem Good.write {tk : Tok} (h : Good tk) : writeE tk = [wOf tk] := by
  obtain ⟨_, _, ⟨⟨h1, h2⟩, _⟩, _⟩ := h
  unfold writeE wOf
  by_cases k0 : tk.kd = 0
  · rw [if_pos k0, if_neg (by omega), if_neg (by omega)]
  by_cases k3 : tk.kd = 3
  · rw [if_neg k0, if_pos k3, if_neg (by omega), if_neg (by omega)]
  by_cases k1 : tk.kd = 1
  · rw [if_neg k0, if_neg k3, if_pos k1, if_pos k1]
  · rw [if_neg k0, if_neg k3, if_neg k1, if_pos (by omega), if_neg k1, if_pos (by omega)]
theorem joinTail_scan : ∀ (l : List Tok) (p : Nat), (∀ tk ∈ l, Good tk) → ∃ l', scanU (Lib.joinTail [32] (l.map wOf)) p = (l', none) ∧ l'.map core = l.map core
  | [], p, _ => ⟨[], rfl, rfl⟩
  | tk :: l, p, h => by
    obtain ⟨h1, ⟨c, h2, h3⟩, h4, h5⟩ := h tk (List.mem_cons_self ..)
    have hj : Lib.joinTail [32] ((tk :: l).map wOf) = 32 :: (wOf tk ++ Lib.joinTail [32] (l.map wOf)) := by simp [Lib.joinTail]
    have hr : ∀ c, (Lib.joinTail [32] (l.map wOf)).head? = some c → isB c = true := by
      intro c hc
      cases l with
      | nil => simp [Lib.joinTail] at hc
      | cons x l => simp [Lib.joinTail] at hc; rw [← hc]; decide
    obtain ⟨l', h6, h7⟩ := joinTail_scan l (p + 1 + (wOf tk).length) (fun x hx => h x (List.mem_cons_of_mem _ hx))
    refine ⟨tk.put ((p + 1 : Nat) : Int) :: l', ?_, by rw [List.map_cons, List.map_cons, h7]; rfl⟩
    have hh : (wOf tk ++ Lib.joinTail [32] (l.map wOf)).head? = some c := by
      cases hw : wOf tk with
      | nil => rw [hw] at h1; simp at h1
      | cons x w => rw [hw] at h2; simpa using h2
    rw [hj, scanU_blank _ _ (by decide), scanU_tok hh h3 (h5 _ (p + 1) hr), List.drop_left, h6]
theorem join_scan (l : List Tok) (h : ∀ tk ∈ l, Good tk) : ∃ l', scanU (Lib.join (l.map wOf) [32]) 0 = (l', none) ∧ l'.map core = l.map core := by
  cases l with
  | nil => exact ⟨[], rfl, rfl⟩
  | cons tk l =>
    obtain ⟨h1, ⟨c, h2, h3⟩, h4, h5⟩ := h tk (List.mem_cons_self ..)
    have hr : ∀ c, (Lib.joinTail [32] (l.map wOf)).head? = some c → isB c = true := by
      intro c hc
      cases l with
      | nil => simp [Lib.joinTail] at hc
      | cons x l => simp [Lib.joinTail] at hc; rw [← hc]; decide
    obtain ⟨l', h6, h7⟩ := joinTail_scan l (0 + (wOf tk).length) (fun x hx => h x (List.mem_cons_of_mem _ hx))
    refine ⟨tk.put ((0 : Nat) : Int) :: l', ?_, by rw [List.map_cons, List.map_cons, h7]; rfl⟩
    have hh : (wOf tk ++ Lib.joinTail [32] (l.map wOf)).head? = some c := by
      cases hw : wOf tk with
      | nil => rw [hw] at h1; simp at h1
      | cons x w => rw [hw] at h2; simpa using h2
    rw [List.map_cons, Lib.join_cons, scanU_tok hh h3 (h5 _ 0 hr), List.drop_left, h6]
theorem write_good (l : List Tok) (n : Int) (h : ∀ tk ∈ l, Good tk) : writeS (l ++ [⟨4, [], 0, n⟩]) = Lib.join (l.map wOf) [32] := by
  unfold writeS
  congr 1
  rw [writeL, List.flatMap_append]
  have e : l.flatMap writeE = l.map wOf := by
    induction l with
    | nil => rfl
    | cons tk l ih =>
      rw [List.flatMap_cons, (h tk (List.mem_cons_self ..)).write, ih (fun x hx => h x (List.mem_cons_of_mem _ hx))]; rfl
  rw [e]
  simp [writeE]
theorem write_core : ∀ (a b : List Tok), a.map core = b.map core → writeL a = writeL b
  | [], [], _ => rfl
  | [], _ :: _, h => by simp at h
  | _ :: _, [], h => by simp at h
  | x :: a, y :: b, h => by
    simp only [List.map_cons, List.cons.injEq] at h
    have e : writeE x = writeE y := by
      obtain ⟨h1, _⟩ := h
      simp only [core, Prod.mk.injEq] at h1
      obtain ⟨e1, e2, e3⟩ := h1
      unfold writeE; rw [e1, e2, e3]
    have ih := write_core a b h.2
    simp only [writeL, List.flatMap_cons] at ih ⊢
    rw [e, ih]
/-- What Write makes of the tokens of a source is read as the same tokens. -/
theorem writes_plain {s : List UInt8} {l : List Tok} (hs : s.length ≤ 4096) (hU : scanU s 0 = (l, none)) (hm : (writeS (l ++ [⟨4, [], 0, s.length⟩])).length ≤ 4096) :
    ∃ l', scanR (writeS (l ++ [⟨4, [], 0, s.length⟩])) = (some l', 0, 0) ∧ (l ++ [(⟨4, [], 0, s.length⟩ : Tok)]).map core = l'.map core ∧ writeS l' = writeS (l ++ [⟨4, [], 0, s.length⟩]) := by
  have hg := (scanU_good s.length s 0 (Nat.le_refl _)).2
  rw [hU] at hg
  obtain ⟨l', h1, h2⟩ := join_scan l hg
  rw [write_good l _ hg] at hm ⊢
  refine ⟨l' ++ [⟨4, [], 0, (Lib.join (l.map wOf) [32]).length⟩], ?_, ?_, ?_⟩
  · rw [scanR_U hm, h1]
  · simp [h2, core]
  · have e : (l' ++ [(⟨4, [], 0, (Lib.join (l.map wOf) [32]).length⟩ : Tok)]).map core = (l ++ [(⟨4, [], 0, s.length⟩ : Tok)]).map core := by simp [h2, core]
    exact (congrArg (fun x => Lib.join x [32]) (write_core _ _ e)).trans (write_good l s.length hg)
theorem toks_ok {s : List UInt8} {l : List Tok} (hU : scanU s 0 = (l, none)) (n : Int) : (∀ t ∈ l ++ [⟨4, [], 0, n⟩], TokOk t) ∧ (l ++ [(⟨4, [], 0, n⟩ : Tok)]).length ≤ s.length + 1 := by
  obtain ⟨h1, h2⟩ := scanU_good s.length s 0 (Nat.le_refl _)
  rw [hU] at h1 h2
  refine ⟨fun t ht => ?_, by rw [List.length_append]; simpa using h1⟩
  rcases List.mem_append.1 ht with ht | ht
  · obtain ⟨_, _, ⟨_, h3, h4, h5⟩, _⟩ := h2 t ht
    unfold numMax at h5
    exact ⟨by omega, by omega, by omega⟩
  · simp at ht; subst ht; exact ⟨by simp, by simp, by simp⟩
theorem toks_ok_core {a b : List Tok} (h : a.map core = b.map core) (ha : ∀ t ∈ a, TokOk t) : ∀ t ∈ b, TokOk t := by
  intro t ht
  have : core t ∈ a.map core := by rw [h]; exact List.mem_map_of_mem ht
  obtain ⟨u, hu, he⟩ := List.mem_map.1 this
  simp only [core, Prod.mk.injEq] at he
  have := ha u hu
  unfold TokOk at this ⊢
  rw [← he.2.1, ← he.2.2]; exact this
end Go.Proofs.YtammpndggdniiaaDoor
