/- The laws' bound on acts. -/
import Derived.Test.YtnbaalllcddbkaaDiskAct
namespace Go.Proofs.Ytnbaalllcddbkaa
open Go.RowKit

def sumA (l : List Act) : Nat := (l.map fun x => x.s.length + x.kp.length).sum
theorem sumA_take {l : List Act} {k : Nat} (h : k < l.length) : sumA (l.take (k + 1)) = sumA (l.take k) + (l[k].s.length + l[k].kp.length) := by
  unfold sumA; rw [List.take_succ_eq_append_getElem h]; simp only [List.map_append, List.sum_append, List.map_cons, List.map_nil, List.sum_cons, List.sum_nil, Nat.add_zero]
theorem sumA_le (l : List Act) (k : Nat) : sumA (l.take k) ≤ sumA l := by
  unfold sumA
  conv => rhs; rw [← List.take_append_drop k l, List.map_append, List.sum_append]
  omega
theorem sumA_one {l : List Act} {x : Act} (h : x ∈ l) : x.s.length + x.kp.length ≤ sumA l := by
  obtain ⟨k, hk, rfl⟩ := List.getElem_of_mem h
  have h1 := sumA_take hk
  have h2 := sumA_le l (k + 1)
  omega
theorem sumA_max {l : List Act} (h : ∀ x ∈ l, x.Came) : ∀ k, k ≤ l.length → sumA (l.take k) ≤ k * 158329674395136 := by
  intro k
  induction k with
  | zero => intro _; simp [sumA]
  | succ k ih =>
    intro hk
    have := ih (by omega)
    have h2 := h l[k] (List.getElem_mem (by omega))
    have h3 := h2.2.2
    rw [sumA_take (by omega)]; omega
def fewB (l : List Act) : Bool := decide (l.length ≤ 200) && decide (sumA l ≤ 100000)
theorem wrapI (n : Int) (h0 : -9223372036854775808 ≤ n) (h1 : n ≤ 9223372036854775807) : IntKind.i64.wrap n = n := by rw [IntKind.wrap_i64]; omega
theorem few_ok {l : List Act} (h : fewB l = true) : l.length ≤ 200 ∧ ∀ x ∈ l, x.s.length ≤ 100000 ∧ x.kp.length ≤ 100000 := by
  unfold fewB at h
  simp at h
  exact ⟨h.1, fun x hx => by have := sumA_one hx; omega⟩

set_option maxRecDepth 100000 in
set_option maxHeartbeats 1000000 in
theorem few_any (A : Option Addr) (c N : Nat) (l : List Act) (w : World) (hrow : Acts w A l) (hN : N = l.length) (hl : N ≤ 9223372036854775807) :
    Calls Try.prog 23 #[.slice A N c] w fun e w' => e = .returned (.bool (fewB l)) ∧ Below w.heap.size w w' := by
  have HR := Lib.hid hrow
  have HN := Lib.hid hN
  clear hrow hN
  go_enter Try.func23, Try.ntmps23
  go_wp2_with fail
  go_loopw [3, 4] (fun t i wr => ∃ (k : Nat) (z : Int), i = .int .i64 k ∧ t = .int .i64 z ∧ k ≤ N ∧ Hid (N ≤ 200 → z = sumA (l.take k)) ∧ Hid (Below w.heap.size w wr)) (fun _ i _ => N - (intOf i).toNat)
  case atStart => exact ⟨0, 0, rfl, rfl, by omega, Lib.hid (fun _ => by simp [sumA]), Lib.hid (Below.refl _ _)⟩
  case round =>
    obtain ⟨k, z, rfl, rfl, hk, hz, hB⟩ := hrel
    by_cases hlt : k < N
    · have hk1 : k < l.length := by rw [← HN.out]; exact hlt
      obtain ⟨bk, o1, x, rfl, HX, hbk, hat, hcame, c0, c1, c2, c3, c4, c5⟩ := HR.out.get hk1 hB.out
      obtain ⟨_, _, g4, g5⟩ := hcame
      have HS := Lib.hid (show N ≤ 200 → IntKind.i64.wrap (IntKind.i64.wrap (z + (x.s.length : Int)) + (x.kp.length : Int)) = (sumA (l.take (k + 1)) : Nat) by
        intro h50
        have h1 := sumA_max (fun x hx => (HR.out.1 x hx).2) (k + 1) (by omega)
        rw [sumA_take hk1, HX.out] at h1 ⊢
        rw [hz.out h50, wrapI ((sumA (l.take k) : Nat) + (x.s.length : Int)) (by omega) (by omega), wrapI _ (by omega) (by omega)]; omega)
      clear hat
      have hi0 : 0 ≤ (k : Int) := by omega
      have hi1 : (k : Int) < N := by omega
      go_wp2_with fail
      have d4 : wr.cell? ⟨bk, o1 + k * 6 + 4, none⟩ = some (.string ⟨x.s.toArray⟩) := by rw [Nat.add_assoc]; exact c4
      have d5 : wr.cell? ⟨bk, o1 + k * 6 + 5, none⟩ = some (.slice x.A x.kp.length x.c) := by rw [Nat.add_assoc]; exact c5
      go_quiet (fail)
      go_wp2_with fail
      go_roundw
      case rel => exact ⟨k + 1, _, by go_num, rfl, by omega, Lib.hid (fun h => by have := HS.out h; rw [IntWalk.i64_left, IntWalk.i64_left] at this; exact this), Lib.hid (below_drewN hB.out _)⟩
      case measure => simp [intOf]; omega
    · have HZ := Lib.hid (show N ≤ 200 → z = sumA l from fun h => by rw [hz.out h, List.take_of_length_le (by rw [← HN.out]; omega)])
      have HF := Lib.hid (show fewB l = (decide (N ≤ 200) && decide (sumA l ≤ 100000)) by unfold fewB; rw [HN.out])
      by_cases h2 : N ≤ 200
      · have HV := Lib.hid (show fewB l = decide (z ≤ 100000) by rw [HF.out, HZ.out h2, decide_eq_true h2, Bool.true_and, decide_eq_decide]; omega)
        clear HZ HF hz
        go_wp2_with fail
        go_ret
        rw [HV.out]
        exact ⟨rfl, hB.out⟩
      · have HV := Lib.hid (show fewB l = false by rw [HF.out, decide_eq_false h2, Bool.false_and])
        clear HZ HF hz
        go_wp2_with fail
        go_ret
        rw [HV.out]
        exact ⟨rfl, hB.out⟩
end Go.Proofs.Ytnbaalllcddbkaa
