/- Package disk: one disk's steps, seen from a world before it was made. -/
import Derived.Test.YtnbaalllcddbkaaDisk4
import Derived.Test.YtnbaalllcddbkaaDisk5
import Derived.Test.YtnbaalllcddbkaaDisk6
import Derived.Test.YtnbaalllcddbkaaDisk7
namespace Go.Proofs.Ytnbaalllcddbkaa
open Go.RowKit

theorem DS.Ok.append {S : DS} (h : S.Ok) (f : Int) (s : List UInt8) : (S.appendS f s).2.Ok := by
  have key : ∀ T : DS, T.Ok → (T.appS f s).Ok := by
    intro T hT
    unfold DS.appS
    split
    · rename_i he
      unfold DS.appE at he
      split at he
      · cases he
      · rename_i hn
        exact hT.put (by
          have : ¬ 16777216 < (T.by_ f.toNat).length + s.length := fun hh => hn ⟨he, hh⟩
          omega)
    · exact hT
  unfold DS.appendS; split
  · exact (key _ h.ends).crash _
  · exact key _ h.ends
theorem DS.Ok.flush {S : DS} (h : S.Ok) (f : Int) : (S.flushS f).2.Ok := by
  have hT := h.tick
  unfold DS.flushS; split
  · exact hT
  · split
    · rename_i hl
      obtain ⟨h1, h2, h3, h4, h5, h6⟩ := hT
      exact ⟨h1, by show 0 ≤ S.tick.lost - 1; omega, by show S.tick.lost - 1 < _; omega, h4, h5, h6⟩
    · obtain ⟨h1, h2⟩ := hT
      refine ⟨fun g hg => ?_, h2⟩
      have := h1 g hg
      simp only
      split <;> omega
theorem DS.Ok.cut {S : DS} (h : S.Ok) (f n : Int) : (S.cutS f n).2.Ok := by
  have hT := h.tick
  unfold DS.cutS; split
  · exact hT
  · split
    · exact hT
    · obtain ⟨h1, h2⟩ := hT
      refine ⟨fun g hg => ?_, h2⟩
      have := h1 g hg
      simp only
      split
      · rw [List.length_take]; omega
      · omega
theorem DS.Ok.turn {S : DS} (h : S.Ok) (f g : Int) : (S.turnS f g).2.Ok := by
  have hT := h.tick
  unfold DS.turnS; split
  · exact hT
  · rename_i hm
    have hm2 := may_two (S := S.tick) (f := f) (g := g) (by omega)
    split
    · exact hT
    · split
      · exact hT
      · obtain ⟨h1, h2⟩ := hT
        refine ⟨fun i hi => ?_, h2⟩
        have h3 := h1 i hi
        have h4 := h1 g.toNat (by omega)
        unfold DS.turnTo
        simp only
        split
        · simp
        · split <;> omega

/-- The disk in block b, made since world a. -/
def Held (a w : World) (b : Nat) (S : DS) : Prop := Below a.heap.size a w ∧ Dk w b S ∧ S.Ok ∧ a.heap.size ≤ b
theorem Held.step {a w w' : World} {b : Nat} {S S' : DS} (h : Held a w b S) (d : Dk w' b S') (o : S'.Ok) (g : w.grownBy w' (some b)) : Held a w' b S' :=
  ⟨below_gr h.1 g h.2.2.2 h.1.size, d, o, h.2.2.2⟩
theorem Held.later {a w w' : World} {b : Nat} {S : DS} (h : Held a w b S) (k : Below w.heap.size w w') : Held a w' b S := ⟨h.1.trans (k.mono h.1.size), h.2.1.later k, h.2.2.1, h.2.2.2⟩
theorem Held.alloc {a w : World} {b : Nat} {S : DS} (h : Held a w b S) (o : Obj) : Held a (w.alloc o) b S := h.later ((Below.refl _ _).alloc (Nat.le_refl _) o)
theorem Held.row {a w : World} {b : Nat} {S : DS} (h : Held a w b S) {A : Option Addr} {xs : List Value} (hr : Row a a.heap.size A xs) : Row w w.heap.size A xs := hr.later h.1
theorem Held.eq {a w : World} {b : Nat} {S T : DS} (h : Held a w b S) (e : S = T) : Held a w b T := e ▸ h
theorem DS.Ok.init : DS.init.Ok := ⟨fun _ _ => ⟨Nat.le_refl _, by simp [DS.init]⟩, by decide, by decide, by decide, by decide, by decide⟩

theorem new_at (a w : World) (h : Below a.heap.size a w) : Calls Try.prog 13 #[] w fun e w' => e = .returned (.pointer (some ⟨w.heap.size, 0, none⟩)) ∧ Held a w' w.heap.size DS.init :=
  (new_any w).mono fun _ _ ⟨h1, h2, h3⟩ => ⟨h1, h.trans (h3.mono h.size), h2, DS.Ok.init, h.size⟩
theorem append_at {a w : World} {b : Nat} {S S' : DS} {r : Int} (h : Held a w b S) (f : Int) (s : List UInt8) (hs : s.length ≤ 4398046511104) (e : S.appendS f s = (r, S')) :
    Calls Try.prog 14 #[.pointer (some ⟨b, 0, none⟩), .int .i64 f, .string ⟨s.toArray⟩] w fun e w' => e = .returned (.int .i64 r) ∧ Held a w' b S' := by
  have := h.2.2.1.append f s
  refine (append_any b S f s w h.2.1 h.2.2.1 hs).mono fun _ _ ⟨h1, h2, h3⟩ => ?_
  rw [e] at h1 h2 this
  exact ⟨h1, h.step h2 this h3⟩
theorem flush_at {a w : World} {b : Nat} {S S' : DS} {r : Int} (h : Held a w b S) (f : Int) (e : S.flushS f = (r, S')) :
    Calls Try.prog 15 #[.pointer (some ⟨b, 0, none⟩), .int .i64 f] w fun e w' => e = .returned (.int .i64 r) ∧ Held a w' b S' := by
  have := h.2.2.1.flush f
  refine (flush_any b S f w h.2.1 h.2.2.1).mono fun _ _ ⟨h1, h2, h3⟩ => ?_
  rw [e] at h1 h2 this
  exact ⟨h1, h.step h2 this h3⟩
theorem cut_at {a w : World} {b : Nat} {S S' : DS} {r : Int} (h : Held a w b S) (f n : Int) (e : S.cutS f n = (r, S')) :
    Calls Try.prog 29 #[.pointer (some ⟨b, 0, none⟩), .int .i64 f, .int .i64 n] w fun e w' => e = .returned (.int .i64 r) ∧ Held a w' b S' := by
  have := h.2.2.1.cut f n
  refine (cut_any b S f n w h.2.1 h.2.2.1).mono fun _ _ ⟨h1, h2, h3⟩ => ?_
  rw [e] at h1 h2 this
  exact ⟨h1, h.step h2 this h3⟩
theorem turn_at {a w : World} {b : Nat} {S S' : DS} {r : Int} (h : Held a w b S) (f g : Int) (e : S.turnS f g = (r, S')) :
    Calls Try.prog 16 #[.pointer (some ⟨b, 0, none⟩), .int .i64 f, .int .i64 g] w fun e w' => e = .returned (.int .i64 r) ∧ Held a w' b S' := by
  have := h.2.2.1.turn f g
  refine (turn_any b S f g w h.2.1 h.2.2.1).mono fun _ _ ⟨h1, h2, h3⟩ => ?_
  rw [e] at h1 h2 this
  exact ⟨h1, h.step h2 this h3⟩
theorem start_at {a w : World} {b : Nat} {S : DS} (h : Held a w b S) :
    Calls Try.prog 18 #[.pointer (some ⟨b, 0, none⟩)] w fun e w' => e = .returned (.tuple #[]) ∧ Held a w' b { S with down := false } :=
  (start_any b S w h.2.1).mono fun _ _ ⟨h1, h2, h3⟩ => ⟨h1, h.step h2 h.2.2.1 h3⟩
theorem lose_at {a w : World} {b : Nat} {S : DS} (h : Held a w b S) (n : Int) (hn : n < 9223372036854775808) :
    Calls Try.prog 21 #[.pointer (some ⟨b, 0, none⟩), .int .i64 n] w fun e w' => e = .returned (.tuple #[]) ∧ Held a w' b { S with lost := max n 0 } := by
  refine (lose_any b S n w h.2.1).mono fun _ _ ⟨h1, h2, h3⟩ => ⟨h1, h.step h2 ?_ h3⟩
  obtain ⟨k1, k2, k3, k4⟩ := h.2.2.1
  exact ⟨k1, by show 0 ≤ max n 0; omega, by show max n 0 < _; omega, k4⟩
theorem arm_at {a w : World} {b : Nat} {S : DS} (h : Held a w b S) (n : Int) (A : Option Addr) (c m : Nat) (l : List Int) (hrow : Row w w.heap.size A (i64s l)) (hm : m = l.length) (hl : m ≤ 4398046511104) (hn : n < 9223372036854775808) :
    Calls Try.prog 28 #[.pointer (some ⟨b, 0, none⟩), .int .i64 n, .slice A m c] w fun e w' => e = .returned (.tuple #[]) ∧ Held a w' b (S.arm n l) := by
  refine (arm_any b S n A c m l w h.2.1 hrow hm hl).mono fun _ _ ⟨h1, h2, h3⟩ => ⟨h1, h.step h2 ?_ h3⟩
  obtain ⟨k1, k2, k3, k4, k5, k6⟩ := h.2.2.1
  exact ⟨k1, k2, k3, by show 0 ≤ max n 0; omega, by show max n 0 < _; omega, by show l.length ≤ _; omega⟩
theorem crash_at {a w : World} {b : Nat} {S : DS} (h : Held a w b S) (A : Option Addr) (c n : Nat) (l : List Int) (hrow : Row w w.heap.size A (i64s l)) (hne : 0 < n → ∀ g, A = some g → g.block ≠ b) (hn : n = l.length) (hl : n ≤ 9223372036854775807) :
    Calls Try.prog 17 #[.pointer (some ⟨b, 0, none⟩), .slice A n c] w fun e w' => e = .returned (.tuple #[]) ∧ Held a w' b (S.crash l) := by
  cases hd : S.down
  · exact (crash_up b S A c n l w h.2.1 h.2.2.1 hd hrow hne hn hl).mono fun _ _ ⟨h1, h2, h3⟩ => ⟨h1, h.step h2 (h.2.2.1.crash l) h3⟩
  · refine (crash_down b S (.slice A n c) w h.2.1 hd).mono fun _ _ ⟨h1, h2⟩ => ⟨h1, ?_⟩
    subst h2
    unfold DS.crash
    rw [if_pos hd]; exact h
theorem crash_arg {a w : World} {b : Nat} {S : DS} (h : Held a w b S) (A : Option Addr) (c n : Nat) (l : List Int) (hrow : Row a a.heap.size A (i64s l)) (hn : n = l.length) (hl : n ≤ 9223372036854775807) :
    Calls Try.prog 17 #[.pointer (some ⟨b, 0, none⟩), .slice A n c] w fun e w' => e = .returned (.tuple #[]) ∧ Held a w' b (S.crash l) := by
  refine crash_at h A c n l (h.row hrow) (fun h0 g hA => ?_) hn hl
  obtain ⟨b1, o1, rfl, hb1, _⟩ := hrow (by rw [i64s_length]; omega)
  injection hA with hA
  subst hA
  have := h.2.2.2
  show b1 ≠ b
  omega
theorem crash_two {a w : World} {b : Nat} {S : DS} (h : Held a w b S) (x y : Int) :
    Calls Try.prog 17 #[.pointer (some ⟨b, 0, none⟩), .slice (some ⟨w.heap.size, 0, none⟩) 2 2] (w.alloc (.cells #[.int .i64 x, .int .i64 y] 3)) fun e w' => e = .returned (.tuple #[]) ∧ Held a w' b (S.crash [x, y]) :=
  crash_at (h.alloc _) _ _ _ [x, y] (row_two w 3 x y) (fun _ g hA => by injection hA with hA; subst hA; have := h.2.1.lt; show w.heap.size ≠ b; omega) rfl (by decide)
theorem crash_nil {a w : World} {b : Nat} {S : DS} (h : Held a w b S) :
    Calls Try.prog 17 #[.pointer (some ⟨b, 0, none⟩), .slice none 0 0] w fun e w' => e = .returned (.tuple #[]) ∧ Held a w' b (S.crash []) :=
  crash_at h none 0 0 [] (Row.nil _ _ _) (fun h0 => by cases h0) rfl (by decide)
theorem read_at {a w : World} {b : Nat} {S : DS} {x : List UInt8} {r : Int} (h : Held a w b S) (f : Int) (e : ReadsF S f = (x, r)) :
    Calls Try.prog 19 #[.pointer (some ⟨b, 0, none⟩), .int .i64 f] w fun e w' => e = .returned (.tuple #[.string ⟨x.toArray⟩, .int .i64 r]) ∧ Held a w' b S := by
  refine (read_any b S f w h.2.1).mono fun _ _ ⟨h1, h2⟩ => ?_
  rw [e] at h1
  exact ⟨h1, h.later h2⟩
theorem down_at {a w : World} {b : Nat} {S : DS} (h : Held a w b S) : Calls Try.prog 24 #[.pointer (some ⟨b, 0, none⟩)] w fun e w' => e = .returned (.bool S.down) ∧ w = w' := down_any b S w h.2.1
theorem size_at {a w : World} {b : Nat} {S : DS} (h : Held a w b S) (f : Nat) (hf : f < 8) : Calls Try.prog 20 #[.pointer (some ⟨b, 0, none⟩), .int .i64 f] w fun e w' => e = .returned (.int .i64 (S.by_ f).length) ∧ w = w' :=
  size_in b f S w h.2.1 hf (by have := (h.2.2.1.1 f hf).2; omega)

end Go.Proofs.Ytnbaalllcddbkaa
