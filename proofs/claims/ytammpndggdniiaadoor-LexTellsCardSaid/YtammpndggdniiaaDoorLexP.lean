/- Package lex: what is read, in plain words. -/
import Derived.Test.YtammpndggdniiaaDoorLexJ
namespace Go.Proofs.YtammpndggdniiaaDoor

def Tok.put (t : Tok) (p : Int) : Tok := ⟨t.kd, t.tx, t.n, p⟩
def isB (c : UInt8) : Bool := cls c.toNat == 1
def wOf (t : Tok) : List UInt8 := if t.kd = 1 then Lib.itoa t.n else if t.kd = 2 then 34 :: (t.tx ++ [34]) else t.tx
/-- What may stand behind a token in place of r. -/
def Fit (r r' : List UInt8) : Prop := ∀ c, r'.head? = some c → isB c = true ∨ r.head? = some c
def TokIs (t : Tok) : Prop := (0 ≤ t.kd ∧ t.kd ≤ 3) ∧ t.tx.length ≤ 24 ∧ (0 ≤ t.n ∧ t.n ≤ numMax)

theorem parse_was {s : List UInt8} {lo hi : Int} (h : parseB s lo hi = true) : s = Lib.itoa (parseN s lo hi) ∧ lo ≤ parseN s lo hi ∧ parseN s lo hi ≤ hi := by
  unfold parseB at h
  unfold parseN
  cases hp : parseS s lo hi with
  | none => rw [hp] at h; cases h
  | some n =>
    obtain ⟨_, h2, h3, h4⟩ := parseS_iff.1 hp
    exact ⟨h2, h3, h4⟩
theorem drop_tw (q : UInt8 → Bool) : ∀ t : List UInt8, t.drop (t.takeWhile q).length = t.dropWhile q
  | [] => rfl
  | c :: t => by
    cases h : q c with
    | true => simp [List.takeWhile_cons, List.dropWhile_cons, h, drop_tw q t]
    | false => simp [List.takeWhile_cons, List.dropWhile_cons, h]
theorem tw_app (q : UInt8 → Bool) : ∀ (w r : List UInt8), w.all q = true → (∀ c, r.head? = some c → q c = false) → (w ++ r).takeWhile q = w
  | [], [], _, _ => rfl
  | [], c :: r, _, h => by rw [List.nil_append, List.takeWhile_cons, h c rfl]; rfl
  | c :: w, r, h1, h2 => by
    simp only [List.all_cons, Bool.and_eq_true] at h1
    rw [List.cons_append, List.takeWhile_cons, if_pos h1.1, tw_app q w r h1.2 h2]
theorem dw_head (q : UInt8 → Bool) : ∀ (t : List UInt8) (c : UInt8), (t.dropWhile q).head? = some c → q c = false
  | d :: t, c, h => by
    cases hd : q d with
    | true => simp [List.dropWhile_cons, hd] at h; exact dw_head q t c h
    | false => simp [List.dropWhile_cons, hd] at h; subst h; exact hd
theorem tw_all (q : UInt8 → Bool) (t : List UInt8) : (t.takeWhile q).all q = true := by simp

theorem nextS_put (t : List UInt8) (p q : Nat) : nextS t q = ((nextS t p).1.put q, (nextS t p).2) := by
  unfold nextS
  by_cases h2 : cls (t.headD 0).toNat = 2
  · simp only [if_pos h2]; rfl
  by_cases h3 : cls (t.headD 0).toNat = 3
  · simp only [if_neg h2, if_pos h3]; rfl
  by_cases h4 : cls (t.headD 0).toNat = 4
  · simp only [if_neg h2, if_neg h3, if_pos h4]; split <;> rfl
  by_cases h5 : cls (t.headD 0).toNat = 5
  · simp only [if_neg h2, if_neg h3, if_neg h4, if_pos h5]; rfl
  · simp only [if_neg h2, if_neg h3, if_neg h4, if_neg h5]; rfl

theorem nx_word {c : UInt8} {w r : List UInt8} (h : (c :: w).all isW = true) (hr : ∀ d, r.head? = some d → isW d = false) (hc : cls c.toNat = 2) (q : Nat) :
    nextS ((c :: w) ++ r) q = (⟨0, c :: w, 0, q⟩, (c :: w).length, decide ((c :: w).length ≤ 24)) := by
  have e := tw_app isW (c :: w) r h hr
  unfold nextS
  rw [if_pos (show cls (((c :: w) ++ r).headD 0).toNat = 2 from hc), e]
theorem nx_num {c : UInt8} {w r : List UInt8} (h : (c :: w).all isW = true) (hr : ∀ d, r.head? = some d → isW d = false) (hc : cls c.toNat = 3) (q : Nat) :
    nextS ((c :: w) ++ r) q = (⟨1, [], parseN (c :: w) 0 numMax, q⟩, (c :: w).length, parseB (c :: w) 0 numMax) := by
  have e := tw_app isW (c :: w) r h hr
  have h2 : ¬ cls (((c :: w) ++ r).headD 0).toNat = 2 := by show ¬ cls c.toNat = 2; omega
  unfold nextS
  rw [if_neg h2, if_pos (show cls (((c :: w) ++ r).headD 0).toNat = 3 from hc), e]
theorem textS_full {x r : List UInt8} (h : x.all (fun c => !stopQ c) = true) : textS (34 :: (x ++ 34 :: r)) = (34 :: (x ++ [34]), decide (x.length ≤ 24)) := by
  have e : (x ++ 34 :: r).takeWhile (fun c => !stopQ c) = x := tw_app _ x (34 :: r) h (fun c hc => by simp at hc; subst hc; decide)
  unfold textS
  simp only [List.drop_succ_cons, List.drop_zero, e]
  rw [if_pos (by simp), List.take_succ_cons, List.take_append, List.take_of_length_le (by omega), show x.length + 1 - x.length = 1 by omega]
  rfl
theorem nx_str {x r : List UInt8} (h : x.all (fun c => !stopQ c) = true) (q : Nat) :
    nextS (34 :: (x ++ 34 :: r)) q = if x.length ≤ 24 then (⟨2, x, 0, q⟩, x.length + 2, true) else (⟨0, [], 0, q⟩, 0, false) := by
  have e := textS_full (r := r) h
  have h4 : cls ((34 :: (x ++ 34 :: r) : List UInt8).headD 0).toNat = 4 := by show cls 34 = 4; decide
  unfold nextS
  rw [if_neg (by omega), if_neg (by omega), if_pos h4, e]
  by_cases hx : x.length ≤ 24
  · simp [hx]
  · simp [hx]
theorem nx_sign {t : List UInt8} (h : cls (t.headD 0).toNat = 5) (q : Nat) : nextS t q = (⟨3, (opS t).1, 0, q⟩, (opS t).1.length, (opS t).2) := by
  unfold nextS
  rw [if_neg (by omega), if_neg (by omega), if_neg (by omega), if_pos h]

theorem isB_w {c : UInt8} (h : isB c = true) : isW c = false := by
  have h1 : cls c.toNat = 1 := by simpa [isB] using h
  have h2 : c.toNat ≠ 95 := by intro h2; rw [h2] at h1; exact absurd h1 (by decide)
  simp [isW, h1, h2]
theorem cls4 {c : UInt8} (h : cls c.toNat = 4) : c = 34 := by
  have key : ∀ n : Fin 256, cls (UInt8.ofNat n).toNat = 4 → UInt8.ofNat n = 34 := by decide +kernel
  have := key ⟨c.toNat, c.toNat_lt⟩
  simpa using this (by simpa using h)

/-- What a token that is read is like, and that it is read again before whatever may stand behind it. -/
def View (t : List UInt8) (r0 : Tok × Nat × Bool) : Prop :=
  ∃ w r, t = w ++ r ∧ r0.2.1 = w.length ∧ 1 ≤ w.length ∧ wOf r0.1 = w ∧ TokIs r0.1 ∧ (∃ c, w.head? = some c ∧ isB c = false) ∧ ∀ r' (q : Nat), Fit r r' → nextS (w ++ r') q = (r0.1.put q, w.length, true)
theorem fit_word {r r' : List UInt8} (hr : ∀ d, r.head? = some d → isW d = false) (hf : Fit r r') : ∀ d, r'.head? = some d → isW d = false := by
  intro d hd
  rcases hf d hd with h | h
  · exact isB_w h
  · exact hr d h
theorem notB {c : UInt8} {k : Nat} (h : cls c.toNat = k) (hk : k ≠ 1) : isB c = false := by
  unfold isB; rw [beq_eq_false_iff_ne]; omega
theorem next_view {t : List UInt8} {p : Nat} (h0 : t ≠ []) (hok : (nextS t p).2.2 = true) : View t (nextS t p) := by
  obtain ⟨c, t', rfl⟩ := List.exists_cons_of_ne_nil h0
  by_cases h2 : cls c.toNat = 2
  · have hw : isW c = true := by simp [isW, h2]
    have e : c :: t' = (c :: t'.takeWhile isW) ++ t'.dropWhile isW := by rw [List.cons_append, List.takeWhile_append_dropWhile]
    have ha : (c :: t'.takeWhile isW).all isW = true := by rw [List.all_cons, hw, tw_all]; rfl
    have hr := dw_head isW t'
    have en := nx_word ha hr h2 p
    rw [← e] at en
    rw [en] at hok ⊢
    have h24 : (c :: t'.takeWhile isW).length ≤ 24 := by simpa using hok
    refine ⟨_, _, e, rfl, by simp, rfl, ⟨⟨by simp, by simp⟩, h24, by simp [numMax]⟩, ⟨c, rfl, notB h2 (by decide)⟩, fun r' q hf => ?_⟩
    rw [nx_word ha (fit_word hr hf) h2 q, decide_eq_true h24]; rfl
  by_cases h3 : cls c.toNat = 3
  · have hw : isW c = true := by simp [isW, h3]
    have e : c :: t' = (c :: t'.takeWhile isW) ++ t'.dropWhile isW := by rw [List.cons_append, List.takeWhile_append_dropWhile]
    have ha : (c :: t'.takeWhile isW).all isW = true := by rw [List.all_cons, hw, tw_all]; rfl
    have hr := dw_head isW t'
    have en := nx_num ha hr h3 p
    rw [← e] at en
    rw [en] at hok ⊢
    have hp : parseB (c :: t'.takeWhile isW) 0 numMax = true := hok
    obtain ⟨h5, h6, h7⟩ := parse_was hp
    refine ⟨_, _, e, rfl, by simp, h5.symm, ⟨⟨by simp, by simp⟩, by simp, h6, h7⟩, ⟨c, rfl, notB h3 (by decide)⟩, fun r' q hf => ?_⟩
    rw [nx_num ha (fit_word hr hf) h3 q, hp]; rfl
  by_cases h4 : cls c.toNat = 4
  · obtain rfl := cls4 h4
    have hb : (textS (34 :: t')).2 = true := by
      cases hb : (textS (34 :: t')).2 with
      | true => rfl
      | false =>
        unfold nextS at hok
        rw [if_neg (show ¬ cls ((34 :: t').headD 0).toNat = 2 from h2), if_neg (show ¬ cls ((34 :: t').headD 0).toNat = 3 from h3), if_pos (show cls ((34 :: t').headD 0).toNat = 4 from h4), if_neg (by rw [hb]; decide)] at hok
        cases hok
    have hsp : ∃ x r, t' = x ++ 34 :: r ∧ x.all (fun c => !stopQ c) = true := by
      unfold textS at hb
      simp only [List.drop_succ_cons, List.drop_zero] at hb
      split at hb
      · rename_i hg
        refine ⟨t'.takeWhile (fun c => !stopQ c), t'.drop ((t'.takeWhile (fun c => !stopQ c)).length + 1), ?_, tw_all _ _⟩
        obtain ⟨hl, hg⟩ := List.getElem?_eq_some_iff.1 hg
        have e1 := List.drop_eq_getElem_cons hl
        rw [hg, drop_tw] at e1
        rw [← e1, List.takeWhile_append_dropWhile]
      · cases hb
    obtain ⟨x, r, rfl, hx⟩ := hsp
    rw [nx_str hx] at hok ⊢
    by_cases hl : x.length ≤ 24
    · rw [if_pos hl]
      refine ⟨34 :: (x ++ [34]), r, by simp, by simp, by simp, rfl, ⟨⟨by simp, by simp⟩, hl, by simp [numMax]⟩, ⟨34, rfl, by decide⟩, fun r' q _ => ?_⟩
      rw [show 34 :: (x ++ [34]) ++ r' = 34 :: (x ++ 34 :: r') by simp, nx_str hx, if_pos hl]
      simp [Tok.put]
    · rw [if_neg hl] at hok; cases hok
  by_cases h5 : cls c.toNat = 5
  · rw [nx_sign (t := c :: t') h5 p] at hok ⊢
    have hc1 : isB c = false := notB h5 (by decide)
    by_cases hA : (c :: t')[1]? = some 61 ∧ sig4 ((c :: t').headD 0) = true
    · have eo : opS (c :: t') = ((c :: t').take 2, true) := by unfold opS; rw [if_pos hA]
      obtain ⟨hA1, hA2⟩ := hA
      obtain ⟨r, rfl⟩ : ∃ r, t' = 61 :: r := by
        cases t' with
        | nil => simp at hA1
        | cons d r => simp at hA1; exact ⟨r, by rw [hA1]⟩
      rw [eo] at hok ⊢
      refine ⟨[c, 61], r, rfl, rfl, by simp, rfl, ⟨⟨by simp, by simp⟩, by simp, by simp [numMax]⟩, ⟨c, rfl, hc1⟩, fun r' q _ => ?_⟩
      rw [nx_sign (t := [c, 61] ++ r') h5 q]
      have eo' : opS ([c, 61] ++ r') = ([c, 61], true) := by unfold opS; rw [if_pos ⟨rfl, hA2⟩]; rfl
      rw [eo']; rfl
    · have eo : opS (c :: t') = ([c], c.toNat != 33) := by unfold opS; rw [if_neg hA]; rfl
      rw [eo] at hok ⊢
      have hok' : (c.toNat != 33) = true := hok
      refine ⟨[c], t', rfl, rfl, by simp, rfl, ⟨⟨by simp, by simp⟩, by simp, by simp [numMax]⟩, ⟨c, rfl, hc1⟩, fun r' q hf => ?_⟩
      rw [nx_sign (t := [c] ++ r') h5 q]
      have eo' : opS ([c] ++ r') = ([c], c.toNat != 33) := by
        unfold opS
        rw [if_neg ?_]
        · rfl
        · rintro ⟨hB1, hB2⟩
          have hh : r'.head? = some 61 := by
            cases r' with
            | nil => simp at hB1
            | cons d r' => simp at hB1; rw [hB1]; rfl
          rcases hf _ hh with h | h
          · exact absurd h (by decide)
          · apply hA
            refine ⟨?_, hB2⟩
            cases t' with
            | nil => cases h
            | cons d t' => simpa using h
      rw [eo', hok']; rfl
  · unfold nextS at hok
    rw [if_neg (show ¬ cls ((c :: t').headD 0).toNat = 2 from h2), if_neg (show ¬ cls ((c :: t').headD 0).toNat = 3 from h3), if_neg (show ¬ cls ((c :: t').headD 0).toNat = 4 from h4), if_neg (show ¬ cls ((c :: t').headD 0).toNat = 5 from h5)] at hok
    cases hok

/-- The tokens from an offset on, up to the end or to what is malformed. -/
def scanT : Nat → List UInt8 → Nat → List Tok × Option Nat
  | 0, _, _ => ([], none)
  | _ + 1, [], _ => ([], none)
  | f + 1, c :: t, p =>
    if isB c = true then scanT f t (p + 1)
    else if (nextS (c :: t) p).2.2 = true then
      ((nextS (c :: t) p).1 :: (scanT f ((c :: t).drop (nextS (c :: t) p).2.1) (p + (nextS (c :: t) p).2.1)).1, (scanT f ((c :: t).drop (nextS (c :: t) p).2.1) (p + (nextS (c :: t) p).2.1)).2)
    else ([], some p)
theorem scanT_fuel : ∀ (f g : Nat) (t : List UInt8) (p : Nat), t.length ≤ f → t.length ≤ g → scanT f t p = scanT g t p
  | 0, 0, _, _, _, _ => rfl
  | 0, _ + 1, [], _, _, _ => rfl
  | 0, _ + 1, _ :: _, _, h, _ => by simp at h
  | _ + 1, 0, [], _, _, _ => rfl
  | _ + 1, 0, _ :: _, _, _, h => by simp at h
  | f + 1, g + 1, [], _, _, _ => rfl
  | f + 1, g + 1, c :: t, p, h, k => by
    simp only [List.length_cons] at h k
    simp only [scanT]
    by_cases hb : isB c = true
    · rw [if_pos hb, if_pos hb]; exact scanT_fuel f g t (p + 1) (by omega) (by omega)
    · rw [if_neg hb, if_neg hb]
      by_cases ho : (nextS (c :: t) p).2.2 = true
      · rw [if_pos ho, if_pos ho]
        have hn := next_size (t := c :: t) (by simp) ho
        rw [scanT_fuel f g _ _ (by rw [List.length_drop]; simp only [List.length_cons]; omega) (by rw [List.length_drop]; simp only [List.length_cons]; omega)]
      · rw [if_neg ho, if_neg ho]
def scanU (t : List UInt8) (p : Nat) : List Tok × Option Nat := scanT t.length t p
theorem scanU_nil (p : Nat) : scanU [] p = ([], none) := rfl
theorem scanU_blank {c : UInt8} (t : List UInt8) (p : Nat) (h : isB c = true) : scanU (c :: t) p = scanU t (p + 1) := by
  unfold scanU
  simp only [List.length_cons, scanT]
  rw [if_pos h]
theorem scanU_tok {t : List UInt8} {p : Nat} {c : UInt8} (hc : t.head? = some c) (hb : isB c = false) {tk : Tok} {n : Nat} (h : nextS t p = (tk, n, true)) : scanU t p = (tk :: (scanU (t.drop n) (p + n)).1, (scanU (t.drop n) (p + n)).2) := by
  cases t with
  | nil => cases hc
  | cons d t =>
    simp at hc; subst hc
    have hn := next_size (t := d :: t) (p := p) (by simp) (by rw [h])
    rw [h] at hn
    have hn' : 1 ≤ n ∧ n ≤ t.length + 1 := hn
    unfold scanU
    simp only [List.length_cons, scanT]
    rw [if_neg (by rw [hb]; decide), h, if_pos rfl]
    rw [scanT_fuel t.length ((d :: t).drop n).length _ _ (by rw [List.length_drop]; simp only [List.length_cons]; omega) (Nat.le_refl _)]
theorem scanU_bad {t : List UInt8} {p : Nat} {c : UInt8} (hc : t.head? = some c) (hb : isB c = false) (h : (nextS t p).2.2 = false) : scanU t p = ([], some p) := by
  cases t with
  | nil => cases hc
  | cons d t =>
    simp at hc; subst hc
    unfold scanU
    simp only [List.length_cons, scanT]
    rw [if_neg (by rw [hb]; decide), if_neg (by rw [h]; decide)]
theorem scanF_U (s : List UInt8) : ∀ (f p : Nat) (acc : List Tok), s.length ≤ f + p → p ≤ s.length → scanF s f p acc = match scanU (s.drop p) p with | (l, none) => (some (acc ++ l), 0) | (_, some q) => (none, q)
  | 0, p, acc, h, hp => by
    rw [List.drop_of_length_le (by omega), scanU_nil]; simp [scanF]
  | f + 1, p, acc, h, hp => by
    by_cases hlt : p < s.length
    · have hd := List.drop_eq_getElem_cons hlt
      by_cases hb : cls s[p].toNat = 1
      · rw [scanF_blank hlt hb, scanF_U s f (p + 1) acc (by omega) (by omega), hd, scanU_blank _ _ (by simp [isB, hb])]
      · have hb' : isB s[p] = false := by simp [isB, hb]
        by_cases ho : (nextS (s.drop p) p).2.2 = true
        · have hn := next_size (t := s.drop p) (p := p) (by rw [hd]; exact List.cons_ne_nil _ _) ho
          rw [List.length_drop] at hn
          rw [scanF_ok hlt hb ho, scanF_U s f _ _ (by omega) (by omega), scanU_tok (t := s.drop p) (c := s[p]'hlt) (by rw [hd]; rfl) hb' (tk := (nextS (s.drop p) p).1) (n := (nextS (s.drop p) p).2.1) (Prod.ext rfl (Prod.ext rfl ho)), List.drop_drop]
          generalize scanU _ _ = R
          obtain ⟨l, q⟩ := R
          cases q <;> simp
        · rw [scanF_no hlt hb ho, scanU_bad (t := s.drop p) (c := s[p]'hlt) (by rw [hd]; rfl) hb' (by simpa using ho)]
    · rw [scanF_end hlt, List.drop_of_length_le (by omega), scanU_nil]; simp
theorem scanR_U {s : List UInt8} (h : s.length ≤ 4096) : scanR s = match scanU s 0 with | (l, none) => (some (l ++ [⟨4, [], 0, s.length⟩]), 0, 0) | (_, some q) => (none, 2, q) := by
  unfold scanR scanS
  rw [if_neg (by omega), scanF_U s s.length 0 [] (by omega) (by omega), List.drop_zero]
  generalize scanU s 0 = R
  obtain ⟨l, q⟩ := R
  cases q <;> simp
end Go.Proofs.YtammpndggdniiaaDoor
