/- Package disk: Copy, Arm, a crash of a machine that is down. -/
import Derived.Test.YtnbaalllcddbkaaDisk3
import Derived.WalkSpells
import Derived.Lib.BufferMore
namespace Go.Proofs.Ytnbaalllcddbkaa
open Go.RowKit

set_option maxRecDepth 100000 in
set_option maxHeartbeats 400000 in
theorem crash_down (b : Nat) (S : DS) (v : Value) (w : World) (h : Dk w b S) (hd : S.down = true) :
    Calls Try.prog 17 #[.pointer (some ⟨b, 0, none⟩), v] w fun e w' => e = .returned (.tuple #[]) ∧ w = w' := by
  have c := h.c17
  rw [hd] at c
  clear h hd
  go_enter Try.func17, Try.ntmps17
  go_wp2_with fail
  refine bodyPost_ret (results_none rfl _ _ _) rfl ?_
  exact ⟨rfl, rfl⟩

set_option maxRecDepth 100000 in
set_option maxHeartbeats 400000 in
theorem clone_any (A : Option Addr) (c n : Nat) (l : List Int) (w : World) (hrow : Row w w.heap.size A (i64s l)) (hn : n = l.length) (hl : n ≤ 4398046511104) :
    Calls Try.prog 48 #[.slice A n c] w fun e w' => ∃ A' c', e = .returned (.slice A' l.length c') ∧ OwnS w' w.heap.size 3 A' c' (i64s l) ∧ Below w.heap.size w w' := by
  obtain ⟨i0, hi, hz0, hz1, hz2⟩ := info_parts Try.info_int
  have HS := Lib.hid (show (i64s l).length = n by rw [i64s_length, hn])
  have Hn := Lib.hid hn
  clear hn
  cases A with
  | none =>
    have h0 : l = [] := by
      cases l with
      | nil => rfl
      | cons x l =>
        obtain ⟨b, off, e, _⟩ := hrow (by simp [i64s])
        cases e
    subst h0
    have hn0 : n = 0 := Hn.out
    subst hn0
    have he := fun w => Lib.run_eql_slice_nil_nil (P := Try.prog) w 0 c Try.underlying22
    go_enter Try.func48, Try.ntmps48
    go_wp2_with fail
    go_ret
    exact ⟨none, 0, rfl, OwnS.nil _ _ _, Below.refl _ _⟩
  | some a =>
    have he := fun w => Lib.run_eql_slice_some_nil (P := Try.prog) w a n c Try.underlying22
    have hmk : OwnS (w.alloc (.cells #[] 3)) w.heap.size 3 (some ⟨w.heap.size, 0, none⟩) 0 [] := ⟨rfl, .inr ⟨w.heap.size, 0, #[], rfl, Nat.le_refl _, heap_alloc_new w _, Nat.zero_le _, by simp [maxLen], rfl, rfl⟩⟩
    have hcells : ∀ j u, (i64s l)[j]? = some u → (w.alloc (.cells #[] 3)).cell? (a.add j) = some u := by
      intro j u hu
      have hj : j < (i64s l).length := (List.getElem?_eq_some_iff.1 hu).1
      obtain ⟨b, off, e, hb, hc⟩ := hrow (by omega)
      injection e with e
      subst e
      rw [World.cell?_alloc_lt w _ _ (by rw [Go.WideShapes.add_plain]; exact hb), Go.WideShapes.add_plain, hc j hj]
      rw [List.getElem?_eq_getElem hj] at hu
      exact hu
    have h1 : ∀ u ∈ i64s l, u.oneCell' = true := by intro u hu; obtain ⟨x, _, rfl⟩ := List.mem_map.1 hu; rfl
    have HC := Lib.hid hcells
    have H1 := Lib.hid h1
    have hn2 : 0 + n ≤ maxLen := by unfold maxLen; omega
    have hn3 : (0 + n) * 8 ≤ 140737488355328 := by omega
    clear hcells h1 hrow
    go_enter Try.func48, Try.ntmps48
    go_wp2_with (at_builtin; refine wpList_append_own_at _ rfl _ _ 22 rfl w.heap.size 3 i0 (.int .i64 0) 1 8 Try.underlying22 hi hz0 hz1 hz2 rfl (by decide) (.slice (some ⟨w.heap.size, 0, none⟩) 0 0) 0 [] rfl hmk a n c (i64s l) rfl (by rw [HS.out]; omega) HC.out H1.out hn2 hn3 (by simp) ?_; intro v' w1 ho hg _ _)
    go_ret
    rw [List.nil_append, Nat.zero_add] at ho
    have hb : Below w.heap.size w w1 := ((Below.refl _ _).alloc (Nat.le_refl _) _).grown hg (by simp) (fun k hk => by simp [Value.ownBlock] at hk; omega)
    rcases ho.2 with ⟨rfl, h0⟩ | ⟨g, cap, cur, rfl, r⟩
    · refine ⟨none, 0, by rw [← Hn.out, h0]; rfl, ?_, hb⟩
      have : l = [] := List.eq_nil_of_length_eq_zero (by rw [← Hn.out]; exact h0)
      subst this
      exact OwnS.nil _ _ _
    · exact ⟨some ⟨g, 0, none⟩, cap, by rw [← Hn.out]; rfl, by unfold OwnS; rw [HS.out]; exact ho, hb⟩

def DS.arm (S : DS) (n : Int) (l : List Int) : DS := { S with armed := max n 0, keep := l }
set_option maxRecDepth 100000 in
set_option maxHeartbeats 400000 in
theorem arm_any (b : Nat) (S : DS) (n : Int) (A : Option Addr) (c m : Nat) (l : List Int) (w : World) (h : Dk w b S) (hrow : Row w w.heap.size A (i64s l)) (hm : m = l.length) (hl : m ≤ 4398046511104) :
    Calls Try.prog 28 #[.pointer (some ⟨b, 0, none⟩), .int .i64 n, .slice A m c] w fun e w' => e = .returned (.tuple #[]) ∧ Dk w' b (S.arm n l) ∧ w.grownBy w' (some b) := by
  have C := Lib.hid (clone_any A c m l w hrow hm hl)
  have H := Lib.hid h
  have HM : Hid ((0 ≤ n → max n 0 = n) ∧ (n < 0 → max n 0 = 0)) := Lib.hid ⟨by omega, by omega⟩
  clear h hrow hm
  by_cases hn : 0 ≤ n
  · go_enter Try.func28, Try.ntmps28
    go_wp2_with fail
    refine C.out.mono ?_; rintro e w1 ⟨A', c', rfl, o1, b1⟩
    have d1 := H.out.later b1
    have c18 := d1.c18
    have z18 := d1.frozen 18
    have z19 := d1.frozen 19
    obtain ⟨A0, c0, c19, _⟩ := d1.c19
    have d2 := Lib.hid (d1.set18 n)
    have o2 := Lib.hid (show OwnS (w1.setCell ⟨b, 18, none⟩ (.int .i64 n)) 0 3 A' c' (i64s l) by
      obtain ⟨cs, _, _, hb, _, _⟩ := d1
      exact own_set (o1.mono (Nat.zero_le _)) hb (by decide) 18 _)
    have d3 := Lib.hid (d2.out.set19 A' c' l o2.out)
    clear d1 o1
    go_wp2_with fail
    go_end0
    refine ⟨rfl, ?_, gr_own (gr_own (gr_of_below b1 _) 18 _) 19 _⟩
    unfold DS.arm
    rw [HM.out.1 hn]
    exact d3.out
  · have hn' : n < 0 := by omega
    go_enter Try.func28, Try.ntmps28
    go_wp2_with fail
    refine C.out.mono ?_; rintro e w1 ⟨A', c', rfl, o1, b1⟩
    have d1 := H.out.later b1
    have c18 := d1.c18
    have z18 := d1.frozen 18
    have z19 := d1.frozen 19
    obtain ⟨A0, c0, c19, _⟩ := d1.c19
    have d2 := Lib.hid (d1.set18 0)
    have o2 := Lib.hid (show OwnS (w1.setCell ⟨b, 18, none⟩ (.int .i64 0)) 0 3 A' c' (i64s l) by
      obtain ⟨cs, _, _, hb, _, _⟩ := d1
      exact own_set (o1.mono (Nat.zero_le _)) hb (by decide) 18 _)
    have d3 := Lib.hid (d2.out.set19 A' c' l o2.out)
    clear d1 o1
    go_wp2_with fail
    go_end0
    refine ⟨rfl, ?_, gr_own (gr_own (gr_of_below b1 _) 18 _) 19 _⟩
    unfold DS.arm
    rw [HM.out.2 hn']
    exact d3.out

end Go.Proofs.Ytnbaalllcddbkaa
