/- Identifiers in plain Lean: names, handles, what is parsed. -/
import Derived.Test.YtllmgogcemannaaGreatDoorIdM
namespace Go.Proofs.YtllmgogcemannaaGreatDoor
open Go.RowKit

theorem index_at (s : List UInt8) : (Lib.index s [64] = -1 ∧ 64 ∉ s) ∨ ∃ a b, s = a ++ 64 :: b ∧ 64 ∉ a ∧ Lib.index s [64] = (a.length : Int) := by
  induction s with
  | nil => exact .inl ⟨rfl, by simp⟩
  | cons c l ih =>
    by_cases hc : c = 64
    · subst hc
      exact .inr ⟨[], l, rfl, by simp, by unfold Lib.index; simp [List.isPrefixOf]⟩
    · have hp : List.isPrefixOf [64] (c :: l) = false := by simp [List.isPrefixOf]; exact fun h => hc h.symm
      rcases ih with ⟨h1, h2⟩ | ⟨a, b, h1, h2, h3⟩
      · refine .inl ⟨?_, ?_⟩
        · unfold Lib.index; rw [hp, h1]; simp
        · simp only [List.mem_cons, not_or]; exact ⟨fun h => hc h.symm, h2⟩
      · refine .inr ⟨c :: a, b, by rw [h1]; rfl, ?_, ?_⟩
        · simp only [List.mem_cons, not_or]; exact ⟨fun h => hc h.symm, h2⟩
        · have : ((a.length : Int) == -1) = false := by rw [beq_eq_false_iff_ne]; omega
          unfold Lib.index; rw [hp, h3, this]; simp
theorem cut_at (s : List UInt8) : (64 ∉ s ∧ cutA s = s ∧ cutB s = [] ∧ cutF s = false) ∨ ∃ a b, s = a ++ 64 :: b ∧ 64 ∉ a ∧ cutA s = a ∧ cutB s = b ∧ cutF s = true := by
  unfold cutA cutB cutF Lib.cut
  rcases index_at s with ⟨h1, h2⟩ | ⟨a, b, h1, h2, h3⟩
  · left; rw [h1]; simp [h2]
  · right
    refine ⟨a, b, h1, h2, ?_⟩
    rw [h3, if_pos (by omega)]
    subst h1
    simp
theorem split_at {a b a' b' : List UInt8} (h : a ++ 64 :: b = a' ++ 64 :: b') (ha : 64 ∉ a) (ha' : 64 ∉ a') : a = a' ∧ b = b' := by
  induction a generalizing a' with
  | nil =>
    cases a' with
    | nil => simpa using h
    | cons x r => simp only [List.nil_append, List.cons_append, List.cons.injEq] at h; exact absurd (by rw [h.1]; simp) ha'
  | cons y r ih =>
    cases a' with
    | nil => simp only [List.nil_append, List.cons_append, List.cons.injEq] at h; exact absurd (by rw [h.1]; simp) ha
    | cons x q =>
      simp only [List.cons_append, List.cons.injEq] at h
      have := ih h.2 (fun hm => ha (List.mem_cons_of_mem _ hm)) (fun hm => ha' (List.mem_cons_of_mem _ hm))
      exact ⟨by rw [h.1, this.1], this.2⟩
theorem nm64 : isNm 64 = false ∧ isLet 64 = false := by decide
theorem name_no {s : List UInt8} (h : nameS s = true) : 64 ∉ s := fun hm => by
  simp only [nameS, Bool.and_eq_true] at h
  have hp := h.2
  cases s with
  | nil => cases hm
  | cons c l =>
    simp only [nameP, Bool.and_eq_true, List.all_eq_true] at hp
    rcases List.mem_cons.1 hm with h1 | h1
    · rw [← h1, nm64.2] at hp; exact absurd hp.1 (by decide)
    · have := hp.2 _ h1; rw [nm64.1] at this; cases this
theorem name_ne {s : List UInt8} (h : nameS s = true) : s ≠ [] := fun e => by subst e; cases h
theorem name_take {s : List UInt8} (h : nameS s = true) {n : Nat} (h1 : 1 ≤ n) : nameS (s.take n) = true := by
  have hl := nameS_len h
  have hne := name_ne h
  have hp : nameP s = true := by simp only [nameS, Bool.and_eq_true] at h; exact h.2
  unfold nameS
  rw [nameP_take hp n, decide_eq_true (by rw [List.length_take]; omega)]
  cases s with
  | nil => exact absurd rfl hne
  | cons c l =>
    obtain ⟨m, rfl⟩ : ∃ m, n = m + 1 := ⟨n - 1, by omega⟩
    rfl
theorem name_not_handle {s : List UInt8} (h : nameS s = true) : ipOk s = false := by
  rcases cut_at s with ⟨_, _, _, h4⟩ | ⟨a, b, h1, _⟩
  · unfold ipOk; rw [h4]; rfl
  · exact absurd (by rw [h1]; simp) (name_no h)
theorem handle_not_name (s : List UInt8) (n : Int) : nameS (handleS s n) = false := by
  unfold handleS
  split
  · rw [← Bool.not_eq_true]; intro h; exact name_no h (by simp)
  · rfl
theorem ip_nil : ipOk [] = false := by decide +kernel
theorem handle_bad {s : List UInt8} {n : Int} (h : handleOk s n = false) : handleS s n = [] := by unfold handleS; rw [h]; rfl
theorem handle_ok {s : List UInt8} {n : Int} (h : handleOk s n = true) : handleS s n = s ++ 64 :: Lib.itoa n := by unfold handleS; rw [if_pos h]
theorem parse_itoa {n : Int} (h0 : 0 ≤ n) (h1 : n < 20) : parseS (Lib.itoa n) 0 19 = some n := parseS_iff.2 ⟨⟨by omega, by omega⟩, rfl, by omega, by omega⟩
theorem ip_handle {s : List UInt8} {n : Int} (h : handleOk s n = true) : ipOk (handleS s n) = true ∧ ipA (handleS s n) = s ∧ ipN (handleS s n) = n := by
  have hh := h
  simp only [handleOk, Bool.and_eq_true, decide_eq_true_eq] at hh
  obtain ⟨⟨hn, h0⟩, h1⟩ := hh
  have hno := name_no hn
  have hp := parse_itoa h0 h1
  rw [handle_ok h]
  rcases cut_at (s ++ 64 :: Lib.itoa n) with ⟨h2, _⟩ | ⟨a, b, h2, h3, h4, h5, h6⟩
  · exact absurd (by simp) h2
  · obtain ⟨rfl, rfl⟩ := split_at h2 hno h3
    have hok : ipOk (s ++ 64 :: Lib.itoa n) = true := by unfold ipOk parseB; rw [h6, h5, h4, hp, hn]; rfl
    refine ⟨hok, ?_, ?_⟩
    · unfold ipA; rw [if_pos hok, h4]
    · unfold ipN parseN; rw [if_pos hok, h5, hp]; rfl
theorem ip_back {s : List UInt8} (h : ipOk s = true) : handleS (ipA s) (ipN s) = s ∧ nameS (ipA s) = true := by
  have hh := h
  simp only [ipOk, Bool.and_eq_true] at hh
  obtain ⟨⟨hf, hp⟩, hn⟩ := hh
  unfold ipA ipN
  rw [if_pos h, if_pos h]
  rcases cut_at s with ⟨_, _, _, h4⟩ | ⟨a, b, h2, h3, h4, h5, h6⟩
  · rw [h4] at hf; cases hf
  · rw [h4] at hn ⊢
    rw [h5] at hp ⊢
    unfold parseB at hp
    obtain ⟨n, hs⟩ := Option.isSome_iff_exists.1 hp
    have hs' := parseS_iff.1 hs
    have hN : parseN b 0 19 = n := by unfold parseN; rw [hs]; rfl
    rw [hN]
    have hok : handleOk a n = true := by unfold handleOk; rw [hn, decide_eq_true (by omega : 0 ≤ n), decide_eq_true (by omega : n < 20)]; rfl
    exact ⟨by rw [handle_ok hok, ← hs'.2.1, ← h2], hn⟩
theorem ip_bad {s : List UInt8} (h : ipOk s = false) : ipA s = [] ∧ ipN s = 0 := by unfold ipA ipN; rw [h]; exact ⟨rfl, rfl⟩
theorem ipA_len (s : List UInt8) : (ipA s).length ≤ s.length := by
  unfold ipA
  split
  · exact (cut_len s).1
  · exact Nat.zero_le _
theorem ipN_range (s : List UInt8) : 0 ≤ ipN s ∧ ipN s < 20 := by
  cases h : ipOk s with
  | false => rw [(ip_bad h).2]; decide
  | true =>
    unfold ipN
    rw [if_pos h]
    simp only [ipOk, Bool.and_eq_true] at h
    have hp := h.1.2
    unfold parseB at hp
    obtain ⟨n, hs⟩ := Option.isSome_iff_exists.1 hp
    have hs' := parseS_iff.1 hs
    have hN : parseN (cutB s) 0 19 = n := by unfold parseN; rw [hs]; rfl
    rw [hN]; omega
theorem handle_len (s : List UInt8) (n : Int) : (handleS s n).length ≤ 27 := by
  unfold handleS
  split
  · rename_i h
    simp only [handleOk, Bool.and_eq_true, decide_eq_true_eq] at h
    have h1 := nameS_len h.1.1
    have h2 := itoa_len20 h.1.2 h.2
    simp only [List.length_append, List.length_cons]; omega
  · simp
end Go.Proofs.YtllmgogcemannaaGreatDoor
