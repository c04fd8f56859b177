/- Lists of ids in plain Lean. -/
import Derived.Test.YtllmgogcemannaaDoorIdN
namespace Go.Proofs.YtllmgogcemannaaDoor
open Go.RowKit

theorem lt_irr : ∀ x : List UInt8, ltS x x = false
  | [] => rfl
  | a :: x => by
    have ih := lt_irr x
    unfold ltS at ih ⊢
    simp only [Op.bytesLess, ih, Bool.and_false, Bool.or_false, decide_eq_false_iff_not]
    exact UInt8.lt_irrefl a
theorem lt_tr : ∀ {x y z : List UInt8}, ltS x y = true → ltS y z = true → ltS x z = true
  | _, _, [], _, h => by cases ‹List UInt8› <;> simp [ltS, Op.bytesLess] at h
  | _, [], _ :: _, h, _ => by cases ‹List UInt8› <;> simp [ltS, Op.bytesLess] at h
  | [], _ :: _, _ :: _, _, _ => rfl
  | a :: x, b :: y, c :: z, h1, h2 => by
    have ih := @lt_tr x y z
    unfold ltS at *
    simp only [Op.bytesLess, Bool.or_eq_true, Bool.and_eq_true, decide_eq_true_eq, beq_iff_eq] at h1 h2 ⊢
    rcases h1 with h1 | ⟨rfl, h1⟩
    · rcases h2 with h2 | ⟨rfl, h2⟩
      · exact .inl (UInt8.lt_trans h1 h2)
      · exact .inl h1
    · rcases h2 with h2 | ⟨rfl, h2⟩
      · exact .inl h2
      · exact .inr ⟨rfl, ih h1 h2⟩
theorem ids_iff (l : List (List UInt8)) : idsS l = true ↔ l.length ≤ 64 ∧ (∀ x ∈ l, rightS x = true) ∧ l.Pairwise (fun a b => ltS a b = true) := by
  unfold idsS
  rw [Bool.and_eq_true, decide_eq_true_eq, List.all_eq_true]
  have key : ∀ i (h : i < l.length), l.getD i [] = l[i] := fun i h => by rw [List.getD_eq_getElem?_getD, List.getElem?_eq_getElem h]; rfl
  constructor
  · rintro ⟨h1, h2⟩
    have hr : ∀ i (h : i < l.length), rightS l[i] = true ∧ (i = 0 ∨ ltS (l.getD (i - 1) []) l[i] = true) := fun i h => by
      have := h2 i (List.mem_range.2 h)
      unfold idsAt at this
      rw [key i h, Bool.and_eq_true, Bool.or_eq_true, decide_eq_true_eq] at this
      exact this
    refine ⟨h1, fun x hx => ?_, ?_⟩
    · obtain ⟨i, hi, rfl⟩ := List.getElem_of_mem hx
      exact (hr i hi).1
    · rw [List.pairwise_iff_getElem]
      intro i j hi hj hij
      induction j with
      | zero => omega
      | succ j ih =>
        have hs := (hr (j + 1) hj).2
        rcases hs with hs | hs
        · omega
        · rw [Nat.add_sub_cancel, key j (by omega)] at hs
          rcases Nat.lt_or_ge i j with h | h
          · exact lt_tr (ih (by omega) h) hs
          · obtain rfl : i = j := by omega
            exact hs
  · rintro ⟨h1, h2, h3⟩
    refine ⟨h1, fun i hi => ?_⟩
    have hi := List.mem_range.1 hi
    unfold idsAt
    rw [key i hi, h2 _ (List.getElem_mem hi), Bool.true_and]
    rcases Nat.eq_zero_or_pos i with h | h
    · rw [decide_eq_true h]; rfl
    · rw [key (i - 1) (by omega), List.pairwise_iff_getElem.1 h3 (i - 1) i (by omega) hi (by omega), Bool.or_true]
theorem ids_less {l : List (List UInt8)} (h : idsS l = true) (i : Nat) : idsS (l.take i ++ l.drop (i + 1)) = true := by
  obtain ⟨h1, h2, h3⟩ := (ids_iff l).1 h
  have hs : (l.take i ++ l.drop (i + 1)).Sublist l := by
    have := List.eraseIdx_sublist l i
    rwa [List.eraseIdx_eq_take_drop_succ] at this
  exact (ids_iff _).2 ⟨Nat.le_trans hs.length_le h1, fun x hx => h2 x (hs.subset hx), h3.sublist hs⟩
theorem ids_more {l : List (List UInt8)} {i : Nat} (hi : i < l.length) : idsS (l.take i ++ [l[i]] ++ l.drop i) = false := by
  rw [← Bool.not_eq_true]
  intro h
  obtain ⟨_, _, h3⟩ := (ids_iff _).1 h
  rw [List.drop_eq_getElem_cons hi, List.append_assoc] at h3
  have h4 := (List.pairwise_append.1 h3).2.1
  have := (List.pairwise_cons.1 h4).1 l[i] (show l[i] ∈ l[i] :: l.drop (i + 1) from List.mem_cons_self)
  rw [lt_irr] at this; cases this
theorem ids_other {l : List (List UInt8)} (h : idsS l = true) {i k : Nat} (hi : i < l.length) (hk : k < l.length) : idsS ((l.set i l[k]).set k l[i]) = decide (i = k) := by
  obtain ⟨h1, h2, h3⟩ := (ids_iff l).1 h
  by_cases e : i = k
  · subst e
    rw [decide_eq_true rfl, List.set_set, List.set_getElem_self]
    exact h
  · rw [decide_eq_false e, ← Bool.not_eq_true]
    intro hh
    obtain ⟨_, _, p⟩ := (ids_iff _).1 hh
    have gi : ((l.set i l[k]).set k l[i])[i]'(by simpa using hi) = l[k] := by
      rw [List.getElem_set_ne (by omega), List.getElem_set_self]
    have gk : ((l.set i l[k]).set k l[i])[k]'(by simpa using hk) = l[i] := by
      rw [List.getElem_set_self]
    rcases Nat.lt_or_ge i k with hlt | hge
    · have a := List.pairwise_iff_getElem.1 p i k (by simpa using hi) (by simpa using hk) hlt
      rw [gi, gk] at a
      have b := List.pairwise_iff_getElem.1 h3 i k hi hk hlt
      have := lt_tr a b
      rw [lt_irr] at this; cases this
    · have hlt : k < i := by omega
      have a := List.pairwise_iff_getElem.1 p k i (by simpa using hk) (by simpa using hi) hlt
      rw [gi, gk] at a
      have b := List.pairwise_iff_getElem.1 h3 k i hk hi hlt
      have := lt_tr a b
      rw [lt_irr] at this; cases this
end Go.Proofs.YtllmgogcemannaaDoor
