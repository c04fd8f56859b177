/- The laws' values: kind, light, valid, write, read, same. -/
import Derived.Test.YtgojkbaodmiiaaaCode7
import Derived.Test.YtgojkbaodmiiaaaCodeLaw
namespace Go.Proofs.Ytgojkbaodmiiaaa
open Go.RowKit

theorem tmod5 (x : Int) : -5 < x.tmod 5 ∧ x.tmod 5 < 5 := by
  rcases Int.le_total 0 x with h | h
  · rw [Int.tmod_eq_emod_of_nonneg h]; omega
  · obtain ⟨m, rfl⟩ : ∃ m : Nat, x = -(m : Int) := ⟨(-x).toNat, by omega⟩
    rw [Int.neg_tmod, Int.tmod_eq_emod_of_nonneg (by omega)]; omega

structure Val where
  kind : Int
  n : Int
  s : List UInt8
  A : Option Addr
  c : Nat
  l : List (List UInt8)
  D : Option Addr
  d : Nat
  m : List Int
def Val.cells (x : Val) : Array Value := #[.int .i64 x.kind, .int .i64 x.n, .string ⟨x.s.toArray⟩, .slice x.A x.l.length x.c, .slice x.D x.m.length x.d]
def Val.At (x : Val) (w : World) : Prop := Row w w.heap.size x.A (strs x.l) ∧ Row w w.heap.size x.D (i64s x.m)
theorem Val.At.later {x : Val} {w w' : World} (h : x.At w) (k : Below w.heap.size w w') : x.At w' := ⟨h.1.later k, h.2.later k⟩
def Val.kd (x : Val) : Nat := ((x.kind.tmod 5 + 5).tmod 5).toNat
theorem Val.kd_eq (x : Val) : (x.kind.tmod 5 + 5).tmod 5 = (x.kd : Int) := by
  unfold Val.kd
  have h1 : -5 < x.kind.tmod 5 := (tmod5 x.kind).1
  have : 0 ≤ (x.kind.tmod 5 + 5).tmod 5 := Int.tmod_nonneg _ (by omega)
  omega
theorem Val.kd_lt (x : Val) : x.kd < 5 := by
  have h := x.kd_eq
  have : (x.kind.tmod 5 + 5).tmod 5 < 5 := Int.tmod_lt_of_pos _ (by omega)
  omega

set_option maxHeartbeats 400000 in
theorem kind_any (x : Val) (w : World) :
    Calls Try.prog 45 #[.agg x.cells] w fun e w' => e = .returned (.int .i64 x.kd) ∧ Below w.heap.size w w' := by
  have hk := x.kd_eq
  have h1 : -5 < x.kind.tmod 5 := (tmod5 x.kind).1
  have h2 : x.kind.tmod 5 < 5 := Int.tmod_lt_of_pos _ (by omega)
  unfold Val.cells
  go_enter Try.func45, Try.ntmps45
  go_wp2
  go_ret
  exact ⟨rfl, (Below.refl _ _).alloc (Nat.le_refl _) _⟩

def lightB (l : List (List UInt8)) : Bool := decide (l.length ≤ 100) && l.all fun x => decide (x.length ≤ 1000)

set_option maxRecDepth 100000 in
set_option maxHeartbeats 400000 in
theorem light_any (A : Option Addr) (c n : Nat) (l : List (List UInt8)) (w : World) (hrow : Row w w.heap.size A (strs l)) (hn : n = l.length) (hl : n ≤ maxLen) (hx : ∀ x ∈ l, x.length ≤ maxLen) :
    Calls Try.prog 11 #[.slice A n c] w fun e w' => e = .returned (.bool (lightB l)) ∧ Below w.heap.size w w' := by
  have HS := Lib.hid (show (strs l).length = n by simp [strs, hn])
  have Hn := Lib.hid hn
  have HX := Lib.hid hx
  clear hx
  unfold maxLen at hl
  by_cases h100 : n ≤ 100
  · have hL : lightB l = l.all fun x => decide (x.length ≤ 1000) := by simp [lightB, ← hn, h100]
    have HL := Lib.hid hL
    clear hL hn
    go_enter Try.func11, Try.ntmps11
    go_wp2
    go_loopw [3] (fun i wr => ∃ k : Nat, i = .int .i64 k ∧ k ≤ n ∧ wr = w ∧ Hid (∀ x ∈ l.take k, x.length ≤ 1000)) (fun i _ => n - (intOf i).toNat)
    case atStart => exact ⟨0, rfl, by omega, rfl, Lib.hid (by simp)⟩
    case round =>
      obtain ⟨k, rfl, hk, rfl, hall⟩ := hrel
      by_cases hlt : k < n
      · obtain ⟨b1, o1, rfl, hb1, hc1⟩ := hrow (by rw [HS.out]; omega)
        have hk1 : k < l.length := by rw [← Hn.out]; exact hlt
        have f1 : wr.cell? ⟨b1, o1 + k, none⟩ = some (.string ⟨l[k].toArray⟩) := by
          rw [hc1 k (by rw [HS.out]; exact hlt)]; simp [strs]
        clear hc1
        have hmx := HX.out l[k] (List.getElem_mem hk1)
        unfold maxLen at hmx
        by_cases hbig : l[k].length ≤ 1000
        · go_wp2
          go_roundw
          case rel =>
            refine ⟨k + 1, by go_num, by omega, trivial, Lib.hid ?_⟩
            rw [List.take_succ_eq_append_getElem hk1]
            intro x hx
            rcases List.mem_append.1 hx with h | h
            · exact hall.out x h
            · simp at h; subst h; exact hbig
          case measure => simp [intOf]; omega
        · have HF : Hid ((l.all fun x => decide (x.length ≤ 1000)) = false) := by
            refine Lib.hid ?_
            rw [List.all_eq_false]
            exact ⟨l[k], List.getElem_mem hk1, by simpa using hbig⟩
          go_wp2
          go_ret
          rw [HL.out, HF.out]
          exact ⟨rfl, Below.refl _ _⟩
      · have HT : Hid ((l.all fun x => decide (x.length ≤ 1000)) = true) := by
          refine Lib.hid ?_
          rw [List.all_eq_true]
          intro x hx
          have := hall.out x (by rw [List.take_of_length_le (by rw [← Hn.out]; omega)]; exact hx)
          simpa using this
        go_wp2
        go_ret
        rw [HL.out, HT.out]
        exact ⟨rfl, Below.refl _ _⟩
  · have HL : Hid (lightB l = false) := Lib.hid (by simp [lightB, ← hn, h100])
    clear hn
    go_enter Try.func11, Try.ntmps11
    go_wp2
    go_ret
    rw [HL.out]
    exact ⟨rfl, Below.refl _ _⟩

/-- The part of a value that its kind selects. -/
structure Dat where
  n : Int
  s : List UInt8
  l : List (List UInt8)
  m : List Int
def numL (n : Int) : List UInt8 := if n < 0 then [] else vi n.toNat
def encV (k : Nat) (d : Dat) : List UInt8 := if k = 0 then numL d.n else if k = 1 then encInt d.n else if k = 2 then encText d.s else if k = 3 then encMany encText d.l else encMany encInt d.m
def Val.dat (x : Val) : Dat := ⟨x.n, x.s, x.l, x.m⟩
/-- What is not too great for memory. -/
def Val.Fit (x : Val) : Prop := x.n < 9223372036854775808 ∧ x.s.length ≤ 100000 ∧ x.l.length ≤ 100000 ∧ (∀ y ∈ x.l, y.length ≤ 100000) ∧ x.m.length ≤ 100000

theorem flat_le {α : Type} (f : α → List UInt8) (b : Nat) : ∀ l : List α, (∀ y ∈ l, (f y).length ≤ b) → (l.map f).flatten.length ≤ l.length * b
  | [], _ => by simp
  | x :: l, h => by
    have := flat_le f b l (fun y hy => h y (by simp [hy]))
    have := h x (by simp)
    simp only [List.map_cons, List.flatten_cons, List.length_append, List.length_cons, Nat.add_mul]
    omega
theorem encInt_len (n : Int) : (encInt n).length ≤ 9 := by
  unfold encInt
  split
  · rename_i h; exact vi_len9 (zig_zz n h).2
  · simp
theorem enc_l (l : List (List UInt8)) (h0 : l.length ≤ 100000) (h : ∀ y ∈ l, y.length ≤ 100000) : (encMany encText l).length ≤ 4398046511104 := by
  have h1 := flat_le encText 100009 l (fun y hy => by
    have := h y hy
    have := vi_len9 (n := y.length) (by omega)
    simp [encText]; omega)
  have h2 := vi_len9 (n := l.length) (by omega)
  have h3 : l.length * 100009 ≤ 100000 * 100009 := Nat.mul_le_mul_right _ h0
  unfold encMany
  rw [List.length_append]
  omega
theorem enc_m (l : List Int) (h0 : l.length ≤ 100000) : (encMany encInt l).length ≤ 4398046511104 := by
  have h1 := flat_le encInt 9 l (fun y _ => encInt_len y)
  have h2 := vi_len9 (n := l.length) (by omega)
  unfold encMany
  rw [List.length_append]
  omega

theorem num_all (n : Int) (w : World) (h1 : n < 9223372036854775808) : Calls Try.prog 12 #[.int .i64 n] w fun e w' => e = .returned (.string ⟨(numL n).toArray⟩) ∧ Below w.heap.size w w' := by
  unfold numL
  split
  · rename_i h; exact (num_neg n w h).mono fun e w' ⟨he, hw⟩ => ⟨he, by subst hw; exact Below.refl _ _⟩
  · exact num_any n w (by omega) h1

theorem val_cells {w : World} {b : Nat} {x : Val} (h : Blk w b 45 x.cells) : w.cell? ⟨b, 0, none⟩ = some (.int .i64 x.kind) ∧ w.cell? ⟨b, 1, none⟩ = some (.int .i64 x.n) ∧ w.cell? ⟨b, 2, none⟩ = some (.string ⟨x.s.toArray⟩) ∧
    w.cell? ⟨b, 3, none⟩ = some (.slice x.A x.l.length x.c) ∧ w.cell? ⟨b, 4, none⟩ = some (.slice x.D x.m.length x.d) := ⟨h.cell 0, h.cell 1, h.cell 2, h.cell 3, h.cell 4⟩

set_option maxRecDepth 100000 in
set_option maxHeartbeats 1000000 in
theorem write_any (x : Val) (w : World) (hx : x.At w) (hf : x.Fit) :
    Calls Try.prog 43 #[.agg x.cells] w fun e w' => e = .returned (.string ⟨(encV x.kd x.dat).toArray⟩) ∧ Below w.heap.size w w' := by
  obtain ⟨f1, f2, f3, f4, f5⟩ := hf
  have e1 := enc_l x.l f3 f4
  have e2 := enc_m x.m f5
  have hk := x.kd_lt
  have K := Lib.hid (fun w => kind_any x w)
  have hX := Lib.hid hx
  have F4 := Lib.hid (fun y hy => Nat.le_trans (f4 y hy) (by omega : 100000 ≤ 4398046511104))
  clear f4 hx
  have hE : encV x.kd x.dat = if x.kd = 0 then numL x.n else if x.kd = 1 then encInt x.n else if x.kd = 2 then encText x.s else if x.kd = 3 then encMany encText x.l else encMany encInt x.m := rfl
  have HE := Lib.hid hE
  clear hE
  unfold Val.cells at K ⊢
  generalize x.kd = k at *
  match k, hk with
  | 0, _ =>
    go_enter Try.func43, Try.ntmps43
    go_wp2_with fail
    refine (K.out _).mono ?_; rintro e w1 ⟨rfl, b1⟩
    obtain ⟨c0, c1, c2, c3, c4⟩ := val_cells ((Blk.new w 45 x.cells).later b1)
    have hs := b1.size
    have B1 : Below w.heap.size w w1 := below_step (Below.refl _ _) (Nat.le_refl _) (b1.mono (by simp))
    have hX1 := Lib.hid (hX.out.later B1)
    go_wp2_with fail
    refine (num_all _ _ f1).mono ?_; rintro e w2 ⟨rfl, b2⟩
    go_wp2_with fail
    go_ret
    rw [HE.out]
    exact ⟨rfl, B1.trans (b2.mono B1.size)⟩
  | 1, _ =>
    go_enter Try.func43, Try.ntmps43
    go_wp2_with fail
    refine (K.out _).mono ?_; rintro e w1 ⟨rfl, b1⟩
    obtain ⟨c0, c1, c2, c3, c4⟩ := val_cells ((Blk.new w 45 x.cells).later b1)
    have hs := b1.size
    have B1 : Below w.heap.size w w1 := below_step (Below.refl _ _) (Nat.le_refl _) (b1.mono (by simp))
    have hX1 := Lib.hid (hX.out.later B1)
    go_wp2_with fail
    refine (eint_any _ _).mono ?_; rintro e w2 ⟨rfl, b2⟩
    go_wp2_with fail
    go_ret
    rw [HE.out]
    exact ⟨rfl, B1.trans (b2.mono B1.size)⟩
  | 2, _ =>
    go_enter Try.func43, Try.ntmps43
    go_wp2_with fail
    refine (K.out _).mono ?_; rintro e w1 ⟨rfl, b1⟩
    obtain ⟨c0, c1, c2, c3, c4⟩ := val_cells ((Blk.new w 45 x.cells).later b1)
    have hs := b1.size
    have B1 : Below w.heap.size w w1 := below_step (Below.refl _ _) (Nat.le_refl _) (b1.mono (by simp))
    have hX1 := Lib.hid (hX.out.later B1)
    go_wp2_with fail
    refine (etext_any _ _ (by omega)).mono ?_; rintro e w2 ⟨rfl, b2⟩
    go_wp2_with fail
    go_ret
    rw [HE.out]
    exact ⟨rfl, B1.trans (b2.mono B1.size)⟩
  | 3, _ =>
    go_enter Try.func43, Try.ntmps43
    go_wp2_with fail
    refine (K.out _).mono ?_; rintro e w1 ⟨rfl, b1⟩
    obtain ⟨c0, c1, c2, c3, c4⟩ := val_cells ((Blk.new w 45 x.cells).later b1)
    have hs := b1.size
    have B1 : Below w.heap.size w w1 := below_step (Below.refl _ _) (Nat.le_refl _) (b1.mono (by simp))
    have hX1 := Lib.hid (hX.out.later B1)
    go_wp2_with fail
    refine (elist_any _ _ _ _ _ hX1.out.1 e1 rfl (by omega) F4.out).mono ?_; rintro e w2 ⟨rfl, b2⟩
    go_wp2_with fail
    go_ret
    rw [HE.out]
    exact ⟨rfl, B1.trans (b2.mono B1.size)⟩
  | 4, _ =>
    go_enter Try.func43, Try.ntmps43
    go_wp2_with fail
    refine (K.out _).mono ?_; rintro e w1 ⟨rfl, b1⟩
    obtain ⟨c0, c1, c2, c3, c4⟩ := val_cells ((Blk.new w 45 x.cells).later b1)
    have hs := b1.size
    have B1 : Below w.heap.size w w1 := below_step (Below.refl _ _) (Nat.le_refl _) (b1.mono (by simp))
    have hX1 := Lib.hid (hX.out.later B1)
    go_wp2_with fail
    refine (enums_any _ _ _ _ _ hX1.out.2 e2 rfl (by omega)).mono ?_; rintro e w2 ⟨rfl, b2⟩
    go_wp2_with fail
    go_ret
    rw [HE.out]
    exact ⟨rfl, B1.trans (b2.mono B1.size)⟩

def sameB (k : Nat) (x y : Dat) : Bool := if k = 0 then x.n == y.n else if k = 1 then x.n == y.n else if k = 2 then x.s == y.s else if k = 3 then decide (x.l = y.l) else decide (x.m = y.m)

set_option maxRecDepth 100000 in
set_option maxHeartbeats 1000000 in
theorem same_any (x y : Val) (w : World) (hx : x.At w) (hy : y.At w) (hf : x.Fit) (hg : y.Fit) :
    Calls Try.prog 46 #[.agg x.cells, .agg y.cells] w fun e w' => e = .returned (.bool (sameB x.kd x.dat y.dat)) ∧ Below w.heap.size w w' := by
  obtain ⟨_, _, f3, _, f5⟩ := hf
  obtain ⟨_, _, g3, _, g5⟩ := hg
  have hk := x.kd_lt
  have K := Lib.hid (fun w => kind_any x w)
  have hX := Lib.hid hx
  have hY := Lib.hid hy
  clear hx hy
  have hE : sameB x.kd x.dat y.dat = if x.kd = 0 then x.n == y.n else if x.kd = 1 then x.n == y.n else if x.kd = 2 then x.s == y.s else if x.kd = 3 then decide (x.l = y.l) else decide (x.m = y.m) := rfl
  have HE := Lib.hid hE
  clear hE
  unfold Val.cells at K ⊢
  generalize x.kd = k at *
  match k, hk with
  | 0, _ =>
    go_enter Try.func46, Try.ntmps46
    go_wp2_with fail
    refine (K.out _).mono ?_; rintro e w1 ⟨rfl, b1⟩
    have hs := b1.size
    simp only [World.size_alloc] at hs
    have b1' : Below (w.heap.size + 2) ((w.alloc (.cells x.cells 45)).alloc (.cells y.cells 45)) w1 := b1.mono (by simp)
    obtain ⟨c0, c1, c2, c3, c4⟩ := val_cells (((Blk.new w 45 x.cells).alloc (.cells y.cells 45)).below b1' (by omega))
    obtain ⟨d0, d1, d2, d3, d4⟩ := val_cells ((Blk.new (w.alloc (.cells x.cells 45)) 45 y.cells).below b1' (by simp))
    simp only [World.size_alloc] at d0 d1 d2 d3 d4
    have B1 : Below w.heap.size w w1 := (((Below.refl w.heap.size w).alloc (Nat.le_refl _) _).alloc (by simp) _).trans (b1.mono (by simp; omega))
    have hX1 := Lib.hid (hX.out.later B1)
    have hY1 := Lib.hid (hY.out.later B1)
    clear b1 b1'
    go_wp2_with fail
    go_ret
    rw [HE.out]
    exact ⟨rfl, B1⟩
  | 1, _ =>
    go_enter Try.func46, Try.ntmps46
    go_wp2_with fail
    refine (K.out _).mono ?_; rintro e w1 ⟨rfl, b1⟩
    have hs := b1.size
    simp only [World.size_alloc] at hs
    have b1' : Below (w.heap.size + 2) ((w.alloc (.cells x.cells 45)).alloc (.cells y.cells 45)) w1 := b1.mono (by simp)
    obtain ⟨c0, c1, c2, c3, c4⟩ := val_cells (((Blk.new w 45 x.cells).alloc (.cells y.cells 45)).below b1' (by omega))
    obtain ⟨d0, d1, d2, d3, d4⟩ := val_cells ((Blk.new (w.alloc (.cells x.cells 45)) 45 y.cells).below b1' (by simp))
    simp only [World.size_alloc] at d0 d1 d2 d3 d4
    have B1 : Below w.heap.size w w1 := (((Below.refl w.heap.size w).alloc (Nat.le_refl _) _).alloc (by simp) _).trans (b1.mono (by simp; omega))
    have hX1 := Lib.hid (hX.out.later B1)
    have hY1 := Lib.hid (hY.out.later B1)
    clear b1 b1'
    go_wp2_with fail
    go_ret
    rw [HE.out]
    exact ⟨rfl, B1⟩
  | 2, _ =>
    go_enter Try.func46, Try.ntmps46
    go_wp2_with fail
    refine (K.out _).mono ?_; rintro e w1 ⟨rfl, b1⟩
    have hs := b1.size
    simp only [World.size_alloc] at hs
    have b1' : Below (w.heap.size + 2) ((w.alloc (.cells x.cells 45)).alloc (.cells y.cells 45)) w1 := b1.mono (by simp)
    obtain ⟨c0, c1, c2, c3, c4⟩ := val_cells (((Blk.new w 45 x.cells).alloc (.cells y.cells 45)).below b1' (by omega))
    obtain ⟨d0, d1, d2, d3, d4⟩ := val_cells ((Blk.new (w.alloc (.cells x.cells 45)) 45 y.cells).below b1' (by simp))
    simp only [World.size_alloc] at d0 d1 d2 d3 d4
    have B1 : Below w.heap.size w w1 := (((Below.refl w.heap.size w).alloc (Nat.le_refl _) _).alloc (by simp) _).trans (b1.mono (by simp; omega))
    have hX1 := Lib.hid (hX.out.later B1)
    have hY1 := Lib.hid (hY.out.later B1)
    clear b1 b1'
    go_wp2_with fail
    go_ret
    rw [HE.out]
    exact ⟨rfl, B1⟩
  | 3, _ =>
    go_enter Try.func46, Try.ntmps46
    go_wp2_with fail
    refine (K.out _).mono ?_; rintro e w1 ⟨rfl, b1⟩
    have hs := b1.size
    simp only [World.size_alloc] at hs
    have b1' : Below (w.heap.size + 2) ((w.alloc (.cells x.cells 45)).alloc (.cells y.cells 45)) w1 := b1.mono (by simp)
    obtain ⟨c0, c1, c2, c3, c4⟩ := val_cells (((Blk.new w 45 x.cells).alloc (.cells y.cells 45)).below b1' (by omega))
    obtain ⟨d0, d1, d2, d3, d4⟩ := val_cells ((Blk.new (w.alloc (.cells x.cells 45)) 45 y.cells).below b1' (by simp))
    simp only [World.size_alloc] at d0 d1 d2 d3 d4
    have B1 : Below w.heap.size w w1 := (((Below.refl w.heap.size w).alloc (Nat.le_refl _) _).alloc (by simp) _).trans (b1.mono (by simp; omega))
    have hX1 := Lib.hid (hX.out.later B1)
    have hY1 := Lib.hid (hY.out.later B1)
    clear b1 b1'
    go_wp2_with fail
    refine (sameTexts_any _ _ _ _ _ _ _ _ _ hX1.out.1 hY1.out.1 rfl rfl (by omega) (by omega)).mono ?_; rintro e w2 ⟨rfl, b2⟩
    go_wp2_with fail
    go_ret
    rw [HE.out]
    exact ⟨rfl, B1.trans (b2.mono B1.size)⟩
  | 4, _ =>
    go_enter Try.func46, Try.ntmps46
    go_wp2_with fail
    refine (K.out _).mono ?_; rintro e w1 ⟨rfl, b1⟩
    have hs := b1.size
    simp only [World.size_alloc] at hs
    have b1' : Below (w.heap.size + 2) ((w.alloc (.cells x.cells 45)).alloc (.cells y.cells 45)) w1 := b1.mono (by simp)
    obtain ⟨c0, c1, c2, c3, c4⟩ := val_cells (((Blk.new w 45 x.cells).alloc (.cells y.cells 45)).below b1' (by omega))
    obtain ⟨d0, d1, d2, d3, d4⟩ := val_cells ((Blk.new (w.alloc (.cells x.cells 45)) 45 y.cells).below b1' (by simp))
    simp only [World.size_alloc] at d0 d1 d2 d3 d4
    have B1 : Below w.heap.size w w1 := (((Below.refl w.heap.size w).alloc (Nat.le_refl _) _).alloc (by simp) _).trans (b1.mono (by simp; omega))
    have hX1 := Lib.hid (hX.out.later B1)
    have hY1 := Lib.hid (hY.out.later B1)
    clear b1 b1'
    go_wp2_with fail
    refine (sameNums_any _ _ _ _ _ _ _ _ _ hX1.out.2 hY1.out.2 rfl rfl (by omega) (by omega)).mono ?_; rintro e w2 ⟨rfl, b2⟩
    go_wp2_with fail
    go_ret
    rw [HE.out]
    exact ⟨rfl, B1.trans (b2.mono B1.size)⟩

end Go.Proofs.Ytgojkbaodmiiaaa
