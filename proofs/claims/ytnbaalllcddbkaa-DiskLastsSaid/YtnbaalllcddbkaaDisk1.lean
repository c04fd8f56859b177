/- Package disk: the state of a disk, and its small methods. -/
import Derived.Test.YtnbaalllcddbkaaRow
import Derived.Test.YtnbaalllcddbkaaMem
namespace Go.Proofs.Ytnbaalllcddbkaa
open Go.RowKit

structure DS where
  by_ : Nat → List UInt8
  la : Nat → Nat
  lost : Int
  down : Bool
  armed : Int
  keep : List Int

/-- The cells of a disk. -/
def DCells (cs : Array Value) (S : DS) (A : Option Addr) (c : Nat) : Prop := cs.size = 20 ∧
  (∀ f, f < 8 → cs[f * 2]? = some (.string ⟨(S.by_ f).toArray⟩) ∧ cs[f * 2 + 1]? = some (.int .i64 (S.la f))) ∧
  cs[16]? = some (.int .i64 S.lost) ∧ cs[17]? = some (.bool S.down) ∧ cs[18]? = some (.int .i64 S.armed) ∧ cs[19]? = some (.slice A S.keep.length c)
/-- The disk in block b. -/
def Dk (w : World) (b : Nat) (S : DS) : Prop := ∃ cs A c, Blk w b 77 cs ∧ DCells cs S A c ∧ OwnS w 0 3 A c (i64s S.keep)

def DS.init : DS := ⟨fun _ => [], fun _ => 0, 0, false, 0, []⟩

theorem Dk.lt {w : World} {b : Nat} {S : DS} (h : Dk w b S) : b < w.heap.size := by obtain ⟨cs, A, c, hb, _⟩ := h; exact hb.lt
theorem Dk.byte {w : World} {b : Nat} {S : DS} (h : Dk w b S) {f : Nat} (hf : f < 8) : w.cell? ⟨b, f * 2, none⟩ = some (.string ⟨(S.by_ f).toArray⟩) := by
  obtain ⟨cs, A, c, hb, hc, _⟩ := h; rw [hb.cell]; exact (hc.2.1 f hf).1
theorem Dk.last {w : World} {b : Nat} {S : DS} (h : Dk w b S) {f : Nat} (hf : f < 8) : w.cell? ⟨b, f * 2 + 1, none⟩ = some (.int .i64 (S.la f)) := by
  obtain ⟨cs, A, c, hb, hc, _⟩ := h; rw [hb.cell]; exact (hc.2.1 f hf).2
theorem Dk.c16 {w : World} {b : Nat} {S : DS} (h : Dk w b S) : w.cell? ⟨b, 16, none⟩ = some (.int .i64 S.lost) := by
  obtain ⟨cs, A, c, hb, hc, _⟩ := h; rw [hb.cell]; exact hc.2.2.1
theorem Dk.c17 {w : World} {b : Nat} {S : DS} (h : Dk w b S) : w.cell? ⟨b, 17, none⟩ = some (.bool S.down) := by
  obtain ⟨cs, A, c, hb, hc, _⟩ := h; rw [hb.cell]; exact hc.2.2.2.1
theorem Dk.c18 {w : World} {b : Nat} {S : DS} (h : Dk w b S) : w.cell? ⟨b, 18, none⟩ = some (.int .i64 S.armed) := by
  obtain ⟨cs, A, c, hb, hc, _⟩ := h; rw [hb.cell]; exact hc.2.2.2.2.1
theorem Dk.c19 {w : World} {b : Nat} {S : DS} (h : Dk w b S) : ∃ A c, w.cell? ⟨b, 19, none⟩ = some (.slice A S.keep.length c) ∧ OwnS w 0 3 A c (i64s S.keep) := by
  obtain ⟨cs, A, c, hb, hc, ho⟩ := h; exact ⟨A, c, by rw [hb.cell]; exact hc.2.2.2.2.2, ho⟩
theorem Dk.frozen {w : World} {b : Nat} {S : DS} (h : Dk w b S) (i : Nat) : w.frozen? ⟨b, i, none⟩ = false := by
  obtain ⟨cs, A, c, hb, _⟩ := h; exact hb.frozen i

/-- The row of a disk's kept numbers is no disk. -/
theorem own_ne {w : World} {B : Nat} {e t : TypeId} {A : Option Addr} {c : Nat} {xs : List Value} {b : Nat} {cs : Array Value} (h : OwnS w B e A c xs) (hb : Blk w b t cs) (hne : e ≠ t) : ∀ g, A = some ⟨g, 0, none⟩ → g ≠ b := by
  rintro g rfl rfl
  rcases h.2 with ⟨hv, _⟩ | ⟨g', cap, cur, hv, _, hg, _⟩
  · injection hv with h1; cases h1
  · injection hv with h1
    injection h1 with h1
    injection h1 with h1
    subst h1
    unfold Blk at hb
    rw [hb] at hg
    injection hg with hg
    injection hg with _ h2
    exact hne h2.symm
theorem own_set {w : World} {B : Nat} {e t : TypeId} {A : Option Addr} {c : Nat} {xs : List Value} {b : Nat} {cs : Array Value} (h : OwnS w B e A c xs) (hb : Blk w b t cs) (hne : e ≠ t) (i : Nat) (u : Value) : OwnS (w.setCell ⟨b, i, none⟩ u) B e A c xs :=
  h.kept (gr_own (gr_refl w _) i u) fun g hA => by have := own_ne h hb hne g hA; simpa using this

theorem Dk.later {w w' : World} {b : Nat} {S : DS} (h : Dk w b S) (k : Below w.heap.size w w') : Dk w' b S := by
  obtain ⟨cs, A, c, hb, hc, ho⟩ := h
  exact ⟨cs, A, c, hb.later k, hc, ho.later k⟩
theorem Dk.below {w w' : World} {b B : Nat} {S : DS} (h : Dk w b S) (k : Below B w w') (hB : w.heap.size ≤ B) : Dk w' b S := h.later (k.mono hB)
theorem Dk.alloc {w : World} {b : Nat} {S : DS} (h : Dk w b S) (o : Obj) : Dk (w.alloc o) b S := h.later ((Below.refl _ _).alloc (Nat.le_refl _) o)
theorem Dk.drewN {w : World} {b : Nat} {S : DS} (h : Dk w b S) (n : Nat) : Dk (w.drewN n) b S := h
/-- A step upon one disk leaves another as it is. -/
theorem Dk.other {w w' : World} {b b' : Nat} {S S' : DS} (h : Dk w b S) (h' : Dk w b' S') (k : w.grownBy w' (some b')) (hne : b ≠ b') : Dk w' b S := by
  obtain ⟨cs, A, c, hb, hc, ho⟩ := h
  obtain ⟨cs', A', c', hb', _⟩ := h'
  exact ⟨cs, A, c, hb.grown k (by simp [hne]), hc, ho.kept k fun g hA => by have := own_ne ho hb' (by decide) g hA; simpa using this⟩

theorem Dk.setBy {w : World} {b : Nat} {S : DS} (h : Dk w b S) {f : Nat} (hf : f < 8) (x : List UInt8) : Dk (w.setCell ⟨b, f * 2, none⟩ (.string ⟨x.toArray⟩)) b { S with by_ := fun g => if g = f then x else S.by_ g } := by
  obtain ⟨cs, A, c, hb, ⟨h0, h1, h2, h3, h4, h5⟩, ho⟩ := h
  refine ⟨cs.setIfInBounds (f * 2) (.string ⟨x.toArray⟩), A, c, hb.set_ _ _, ⟨by simpa using h0, fun g hg => ⟨?_, ?_⟩, ?_, ?_, ?_, ?_⟩, own_set ho hb (by decide) _ _⟩
  · by_cases e : g = f
    · subst e; simp [Array.getElem?_setIfInBounds]; omega
    · rw [Array.getElem?_setIfInBounds, if_neg (by omega)]; simpa [e] using (h1 g hg).1
  · rw [Array.getElem?_setIfInBounds, if_neg (by omega)]; exact (h1 g hg).2
  · rw [Array.getElem?_setIfInBounds, if_neg (by omega)]; exact h2
  · rw [Array.getElem?_setIfInBounds, if_neg (by omega)]; exact h3
  · rw [Array.getElem?_setIfInBounds, if_neg (by omega)]; exact h4
  · rw [Array.getElem?_setIfInBounds, if_neg (by omega)]; exact h5
theorem Dk.setLa {w : World} {b : Nat} {S : DS} (h : Dk w b S) {f : Nat} (hf : f < 8) (x : Nat) : Dk (w.setCell ⟨b, f * 2 + 1, none⟩ (.int .i64 x)) b { S with la := fun g => if g = f then x else S.la g } := by
  obtain ⟨cs, A, c, hb, ⟨h0, h1, h2, h3, h4, h5⟩, ho⟩ := h
  refine ⟨cs.setIfInBounds (f * 2 + 1) (.int .i64 x), A, c, hb.set_ _ _, ⟨by simpa using h0, fun g hg => ⟨?_, ?_⟩, ?_, ?_, ?_, ?_⟩, own_set ho hb (by decide) _ _⟩
  · rw [Array.getElem?_setIfInBounds, if_neg (by omega)]; exact (h1 g hg).1
  · by_cases e : g = f
    · subst e; simp [Array.getElem?_setIfInBounds]; omega
    · rw [Array.getElem?_setIfInBounds, if_neg (by omega)]; simpa [e] using (h1 g hg).2
  · rw [Array.getElem?_setIfInBounds, if_neg (by omega)]; exact h2
  · rw [Array.getElem?_setIfInBounds, if_neg (by omega)]; exact h3
  · rw [Array.getElem?_setIfInBounds, if_neg (by omega)]; exact h4
  · rw [Array.getElem?_setIfInBounds, if_neg (by omega)]; exact h5
theorem Dk.set16 {w : World} {b : Nat} {S : DS} (h : Dk w b S) (x : Int) : Dk (w.setCell ⟨b, 16, none⟩ (.int .i64 x)) b { S with lost := x } := by
  obtain ⟨cs, A, c, hb, ⟨h0, h1, h2, h3, h4, h5⟩, ho⟩ := h
  refine ⟨cs.setIfInBounds 16 (.int .i64 x), A, c, hb.set_ _ _, ⟨by simpa using h0, fun g hg => ⟨?_, ?_⟩, ?_, ?_, ?_, ?_⟩, own_set ho hb (by decide) _ _⟩
  · rw [Array.getElem?_setIfInBounds, if_neg (by omega)]; exact (h1 g hg).1
  · rw [Array.getElem?_setIfInBounds, if_neg (by omega)]; exact (h1 g hg).2
  · simp [Array.getElem?_setIfInBounds]; omega
  · rw [Array.getElem?_setIfInBounds, if_neg (by omega)]; exact h3
  · rw [Array.getElem?_setIfInBounds, if_neg (by omega)]; exact h4
  · rw [Array.getElem?_setIfInBounds, if_neg (by omega)]; exact h5
theorem Dk.set17 {w : World} {b : Nat} {S : DS} (h : Dk w b S) (x : Bool) : Dk (w.setCell ⟨b, 17, none⟩ (.bool x)) b { S with down := x } := by
  obtain ⟨cs, A, c, hb, ⟨h0, h1, h2, h3, h4, h5⟩, ho⟩ := h
  refine ⟨cs.setIfInBounds 17 (.bool x), A, c, hb.set_ _ _, ⟨by simpa using h0, fun g hg => ⟨?_, ?_⟩, ?_, ?_, ?_, ?_⟩, own_set ho hb (by decide) _ _⟩
  · rw [Array.getElem?_setIfInBounds, if_neg (by omega)]; exact (h1 g hg).1
  · rw [Array.getElem?_setIfInBounds, if_neg (by omega)]; exact (h1 g hg).2
  · rw [Array.getElem?_setIfInBounds, if_neg (by omega)]; exact h2
  · simp [Array.getElem?_setIfInBounds]; omega
  · rw [Array.getElem?_setIfInBounds, if_neg (by omega)]; exact h4
  · rw [Array.getElem?_setIfInBounds, if_neg (by omega)]; exact h5
theorem Dk.set18 {w : World} {b : Nat} {S : DS} (h : Dk w b S) (x : Int) : Dk (w.setCell ⟨b, 18, none⟩ (.int .i64 x)) b { S with armed := x } := by
  obtain ⟨cs, A, c, hb, ⟨h0, h1, h2, h3, h4, h5⟩, ho⟩ := h
  refine ⟨cs.setIfInBounds 18 (.int .i64 x), A, c, hb.set_ _ _, ⟨by simpa using h0, fun g hg => ⟨?_, ?_⟩, ?_, ?_, ?_, ?_⟩, own_set ho hb (by decide) _ _⟩
  · rw [Array.getElem?_setIfInBounds, if_neg (by omega)]; exact (h1 g hg).1
  · rw [Array.getElem?_setIfInBounds, if_neg (by omega)]; exact (h1 g hg).2
  · rw [Array.getElem?_setIfInBounds, if_neg (by omega)]; exact h2
  · rw [Array.getElem?_setIfInBounds, if_neg (by omega)]; exact h3
  · simp [Array.getElem?_setIfInBounds]; omega
  · rw [Array.getElem?_setIfInBounds, if_neg (by omega)]; exact h5
theorem Dk.set19 {w : World} {b : Nat} {S : DS} (h : Dk w b S) (A : Option Addr) (c : Nat) (x : List Int) (hx : OwnS w 0 3 A c (i64s x)) : Dk (w.setCell ⟨b, 19, none⟩ (.slice A x.length c)) b { S with keep := x } := by
  obtain ⟨cs, A', c', hb, ⟨h0, h1, h2, h3, h4, h5⟩, ho⟩ := h
  refine ⟨cs.setIfInBounds 19 (.slice A x.length c), A, c, hb.set_ _ _, ⟨by simpa using h0, fun g hg => ⟨?_, ?_⟩, ?_, ?_, ?_, ?_⟩, own_set hx hb (by decide) _ _⟩
  · rw [Array.getElem?_setIfInBounds, if_neg (by omega)]; exact (h1 g hg).1
  · rw [Array.getElem?_setIfInBounds, if_neg (by omega)]; exact (h1 g hg).2
  · rw [Array.getElem?_setIfInBounds, if_neg (by omega)]; exact h2
  · rw [Array.getElem?_setIfInBounds, if_neg (by omega)]; exact h3
  · rw [Array.getElem?_setIfInBounds, if_neg (by omega)]; exact h4
  · simp [Array.getElem?_setIfInBounds]; omega

set_option maxRecDepth 100000 in
set_option maxHeartbeats 400000 in
theorem new_any (w : World) : Calls Try.prog 13 #[] w fun e w' => e = .returned (.pointer (some ⟨w.heap.size, 0, none⟩)) ∧ Dk w' w.heap.size DS.init ∧ Below w.heap.size w w' := by
  go_enter Try.func13, Try.ntmps13
  go_wp2
  go_ret
  refine ⟨rfl, ⟨_, none, 0, Blk.new _ _ _, ⟨rfl, fun f hf => ?_, rfl, rfl, rfl, rfl⟩, OwnS.nil _ _ _⟩, (Below.refl _ _).alloc (Nat.le_refl _) _⟩
  match f, hf with
  | 0, _ => exact ⟨rfl, rfl⟩
  | 1, _ => exact ⟨rfl, rfl⟩
  | 2, _ => exact ⟨rfl, rfl⟩
  | 3, _ => exact ⟨rfl, rfl⟩
  | 4, _ => exact ⟨rfl, rfl⟩
  | 5, _ => exact ⟨rfl, rfl⟩
  | 6, _ => exact ⟨rfl, rfl⟩
  | 7, _ => exact ⟨rfl, rfl⟩

set_option maxHeartbeats 400000 in
theorem down_any (b : Nat) (S : DS) (w : World) (h : Dk w b S) : Calls Try.prog 24 #[.pointer (some ⟨b, 0, none⟩)] w fun e w' => e = .returned (.bool S.down) ∧ w = w' := by
  have c := h.c17
  clear h
  go_enter Try.func24, Try.ntmps24
  go_wp2
  go_ret
  exact ⟨rfl, rfl⟩

set_option maxHeartbeats 400000 in
theorem start_any (b : Nat) (S : DS) (w : World) (h : Dk w b S) : Calls Try.prog 18 #[.pointer (some ⟨b, 0, none⟩)] w fun e w' => e = .returned (.tuple #[]) ∧ Dk w' b { S with down := false } ∧ w.grownBy w' (some b) := by
  have c := h.c17
  have z := h.frozen 17
  have H := Lib.hid (h.set17 false)
  clear h
  go_enter Try.func18, Try.ntmps18
  go_wp2
  go_end0
  exact ⟨rfl, H.out, gr_own (gr_refl _ _) 17 _⟩

theorem gr_of_own {w w' : World} {b : Nat} {i : Nat} {u : Value} (h : w' = w.setCell ⟨b, i, none⟩ u) : w.grownBy w' (some b) := by
  subst h; exact gr_own (gr_refl _ _) i u
set_option maxHeartbeats 400000 in
theorem lose_any (b : Nat) (S : DS) (n : Int) (w : World) (h : Dk w b S) : Calls Try.prog 21 #[.pointer (some ⟨b, 0, none⟩), .int .i64 n] w fun e w' => e = .returned (.tuple #[]) ∧ Dk w' b { S with lost := max n 0 } ∧ w.grownBy w' (some b) := by
  have c := h.c16
  have z := h.frozen 16
  by_cases hn : 0 ≤ n
  · have H := Lib.hid (h.set16 n)
    have M := Lib.hid (show max n 0 = n by omega)
    clear h
    go_enter Try.func21, Try.ntmps21
    go_wp2
    go_end0
    rw [M.out]
    exact ⟨rfl, H.out, gr_own (gr_refl _ _) 16 _⟩
  · have H := Lib.hid (h.set16 0)
    have M := Lib.hid (show max n 0 = 0 by omega)
    clear h
    go_enter Try.func21, Try.ntmps21
    go_wp2
    go_end0
    rw [M.out]
    exact ⟨rfl, H.out, gr_own (gr_refl _ _) 16 _⟩

set_option maxHeartbeats 400000 in
theorem is_yes (n : Int) (w : World) (h0 : 0 ≤ n) (h1 : n < 8) : Calls Try.prog 47 #[.int .i64 n] w fun e w' => e = .returned (.bool true) ∧ w = w' := by
  go_enter Try.func47, Try.ntmps47
  go_wp2
  go_ret
  exact ⟨by simp [h1], rfl⟩
set_option maxHeartbeats 400000 in
theorem is_no (n : Int) (w : World) (h : n < 0 ∨ 8 ≤ n) : Calls Try.prog 47 #[.int .i64 n] w fun e w' => e = .returned (.bool false) ∧ w = w' := by
  rcases h with h0 | h1
  · go_enter Try.func47, Try.ntmps47
    go_wp2
    go_ret
    exact ⟨rfl, rfl⟩
  · have h0 : 0 ≤ n := by omega
    go_enter Try.func47, Try.ntmps47
    go_wp2
    go_ret
    exact ⟨by simp; omega, rfl⟩

set_option maxHeartbeats 400000 in
theorem size_in (b f : Nat) (S : DS) (w : World) (h : Dk w b S) (hf : f < 8) (hs : (S.by_ f).length ≤ 4398046511104) : Calls Try.prog 20 #[.pointer (some ⟨b, 0, none⟩), .int .i64 f] w fun e w' => e = .returned (.int .i64 (S.by_ f).length) ∧ w = w' := by
  have c := h.byte hf
  clear h
  go_enter Try.func20, Try.ntmps20
  go_wp2_with (go_at_call 47; refine (is_yes _ _ (by omega) (by omega)).mono ?_; rintro e w' ⟨rfl, rfl⟩)
  go_ret
  exact ⟨rfl, rfl⟩
set_option maxHeartbeats 400000 in
theorem size_out (b : Nat) (n : Int) (w : World) (hn : n < 0 ∨ 8 ≤ n) : Calls Try.prog 20 #[.pointer (some ⟨b, 0, none⟩), .int .i64 n] w fun e w' => e = .returned (.int .i64 0) ∧ w = w' := by
  have C := Lib.hid (fun w => is_no n w hn)
  clear hn
  go_enter Try.func20, Try.ntmps20
  go_wp2_with (go_at_call 47; refine (C.out _).mono ?_; rintro e w' ⟨rfl, rfl⟩)
  go_ret
  exact ⟨rfl, rfl⟩

def DS.endsR (S : DS) : Bool := !S.down && decide (S.armed = 1)
def DS.endsS (S : DS) : DS := if S.down = true ∨ S.armed = 0 then S else { S with armed := S.armed - 1 }
set_option maxHeartbeats 400000 in
theorem ends_any (b : Nat) (S : DS) (w : World) (h : Dk w b S) (ha : 0 ≤ S.armed) (ha' : S.armed < 9223372036854775808) : Calls Try.prog 45 #[.pointer (some ⟨b, 0, none⟩)] w fun e w' => e = .returned (.bool S.endsR) ∧ Dk w' b S.endsS ∧ w.grownBy w' (some b) := by
  have c0 := h.c17
  have c1 := h.c18
  have z := h.frozen 18
  have H0 := Lib.hid h
  have H := Lib.hid (h.set18 (S.armed - 1))
  clear h
  cases hd : S.down
  · rw [hd] at c0
    by_cases h0 : S.armed = 0
    · have hR : S.endsR = false := by simp [DS.endsR, h0]
      have hS : S.endsS = S := by simp [DS.endsS, h0]
      have HR := Lib.hid hR
      have HS := Lib.hid hS
      rw [h0] at c1
      clear hR hS h0 hd
      go_enter Try.func45, Try.ntmps45
      go_wp2
      go_ret
      rw [HR.out, HS.out]
      exact ⟨rfl, H0.out, gr_refl _ _⟩
    · have hR : S.endsR = (S.armed - 1 == 0) := by rw [DS.endsR, hd, Bool.eq_iff_iff]; simp; omega
      have hS : S.endsS = { S with armed := S.armed - 1 } := by rw [DS.endsS, if_neg]; simp [hd, h0]
      have HR := Lib.hid hR
      have HS := Lib.hid hS
      have hn : (S.armed == 0) = false := by simpa using h0
      clear hR hS hd
      generalize S.armed = a at *
      go_enter Try.func45, Try.ntmps45
      go_wp2
      go_ret
      rw [HR.out, HS.out]
      exact ⟨rfl, H.out, gr_own (gr_refl _ _) 18 _⟩
  · have hR : S.endsR = false := by simp [DS.endsR, hd]
    have hS : S.endsS = S := by simp [DS.endsS, hd]
    have HR := Lib.hid hR
    have HS := Lib.hid hS
    rw [hd] at c0
    clear hR hS hd
    go_enter Try.func45, Try.ntmps45
    go_wp2
    go_ret
    rw [HR.out, HS.out]
    exact ⟨rfl, H0.out, gr_refl _ _⟩

end Go.Proofs.Ytnbaalllcddbkaa
