/- Package lex: Scan. -/
import Derived.Test.YtammpndggdniiaaDoorLexE
import Derived.Test.YtammpndggdniiaaDoorPushK
namespace Go.Proofs.YtammpndggdniiaaDoor
open Go.RowKit

theorem opS_len {t : List UInt8} (h : t ≠ []) : 1 ≤ (opS t).1.length ∧ (opS t).1.length ≤ t.length := by
  have := List.length_pos_iff.2 h
  unfold opS
  split <;> simp <;> omega
theorem word_len {t : List UInt8} {x : UInt8} (h : t.head? = some x) (hw : isW x = true) : 1 ≤ (t.takeWhile isW).length ∧ (t.takeWhile isW).length ≤ t.length := by
  refine ⟨?_, (List.takeWhile_prefix _).length_le⟩
  cases t with
  | nil => cases h
  | cons y t =>
    simp at h; subst h
    rw [List.takeWhile_cons, if_pos hw]; simp
theorem next_size {t : List UInt8} {p : Nat} (h0 : t ≠ []) (h : (nextS t p).2.2 = true) : 1 ≤ (nextS t p).2.1 ∧ (nextS t p).2.1 ≤ t.length := by
  obtain ⟨x, t', rfl⟩ := List.exists_cons_of_ne_nil h0
  unfold nextS at h ⊢
  by_cases h2 : cls ((x :: t').headD 0).toNat = 2
  · rw [if_pos h2] at h ⊢
    exact word_len rfl (by have h' : cls x.toNat = 2 := h2; simp [isW, h'])
  rw [if_neg h2] at h ⊢
  by_cases h3 : cls ((x :: t').headD 0).toNat = 3
  · rw [if_pos h3] at h ⊢
    exact word_len rfl (by have h' : cls x.toNat = 3 := h3; simp [isW, h'])
  rw [if_neg h3] at h ⊢
  by_cases h4 : cls ((x :: t').headD 0).toNat = 4
  · rw [if_pos h4] at h ⊢
    by_cases hb : (textS (x :: t')).2 = true
    · rw [if_pos hb] at h ⊢
      exact ⟨Nat.le_of_succ_le (textS_two hb), textS_le _⟩
    · rw [if_neg hb] at h; cases h
  rw [if_neg h4] at h ⊢
  by_cases h5 : cls ((x :: t').headD 0).toNat = 5
  · rw [if_pos h5] at h ⊢
    exact opS_len h0
  · rw [if_neg h5] at h; cases h

/-- What Scan reads from an offset. -/
def scanF (s : List UInt8) : Nat → Nat → List Tok → Option (List Tok) × Nat
  | 0, _, acc => (some acc, 0)
  | f + 1, p, acc =>
    if h : p < s.length then
      if cls s[p].toNat = 1 then scanF s f (p + 1) acc
      else if (nextS (s.drop p) p).2.2 = true then scanF s f (p + (nextS (s.drop p) p).2.1) (acc ++ [(nextS (s.drop p) p).1])
      else (none, p)
    else (some acc, 0)
def scanS (s : List UInt8) : Option (List Tok) × Nat := scanF s s.length 0 []
theorem scanF_blank {s : List UInt8} {f p : Nat} {acc : List Tok} (h : p < s.length) (hb : cls s[p].toNat = 1) : scanF s (f + 1) p acc = scanF s f (p + 1) acc := by
  rw [scanF, dif_pos h, if_pos hb]
theorem scanF_ok {s : List UInt8} {f p : Nat} {acc : List Tok} (h : p < s.length) (hb : ¬ cls s[p].toNat = 1) (ho : (nextS (s.drop p) p).2.2 = true) :
    scanF s (f + 1) p acc = scanF s f (p + (nextS (s.drop p) p).2.1) (acc ++ [(nextS (s.drop p) p).1]) := by
  rw [scanF, dif_pos h, if_neg hb, if_pos ho]
theorem scanF_no {s : List UInt8} {f p : Nat} {acc : List Tok} (h : p < s.length) (hb : ¬ cls s[p].toNat = 1) (ho : ¬ (nextS (s.drop p) p).2.2 = true) : scanF s (f + 1) p acc = (none, p) := by
  rw [scanF, dif_pos h, if_neg hb, if_neg ho]
theorem scanF_end {s : List UInt8} {f p : Nat} {acc : List Tok} (h : ¬ p < s.length) : scanF s f p acc = (some acc, 0) := by
  cases f with
  | zero => rfl
  | succ f => rw [scanF, dif_neg h]
def toksL (l : List Tok) : List Value := l.flatMap fun t => t.cells.toList
theorem toksL_snoc (l : List Tok) (t : Tok) : toksL (l ++ [t]) = toksL l ++ t.cells.toList := by simp [toksL]
/-- What Scan returns. -/
def scanR (s : List UInt8) : Option (List Tok) × Int × Nat :=
  if 4096 < s.length then (none, 7, 0)
  else match scanS s with
    | (some l, _) => (some (l ++ [⟨4, [], 0, s.length⟩]), 0, 0)
    | (none, p) => (none, 2, p)
end Go.Proofs.YtammpndggdniiaaDoor
