/- Package code: the Reader. -/
import Derived.Test.YtgojkbaodmiiaaaCode1
import Derived.Deep.RegionWith
namespace Go.Proofs.Ytgojkbaodmiiaaa
open Go.RowKit

def dec : Nat → Bool → List UInt8 → Option (Nat × List UInt8)
  | 0, _, _ => none
  | _ + 1, _, [] => none
  | k + 1, z, b :: t => if 128 ≤ b.toNat then (dec k false t).map (fun p => (b.toNat % 128 + 128 * p.1, p.2)) else if b.toNat = 0 ∧ z = false then none else some (b.toNat, t)

/-- A block known whole. -/
def Blk (w : World) (g : Nat) (t : TypeId) (cs : Array Value) : Prop := w.heap[g]? = some (.cells cs t (0, 0))
theorem Blk.lt {w : World} {g : Nat} {t : TypeId} {cs : Array Value} (h : Blk w g t cs) : g < w.heap.size := by
  rcases Nat.lt_or_ge g w.heap.size with hlt | hge
  · exact hlt
  · unfold Blk at h; rw [Array.getElem?_eq_none hge] at h; cases h
theorem Blk.cell {w : World} {g : Nat} {t : TypeId} {cs : Array Value} (h : Blk w g t cs) (i : Nat) : w.cell? ⟨g, i, none⟩ = cs[i]? := cell_of_row w g i cs t (0, 0) h
theorem Blk.frozen {w : World} {g : Nat} {t : TypeId} {cs : Array Value} (h : Blk w g t cs) (i : Nat) : w.frozen? ⟨g, i, none⟩ = false := by
  unfold Blk at h
  simp [World.frozen?, h]
theorem Blk.new (w : World) (t : TypeId) (cs : Array Value) : Blk (w.alloc (.cells cs t)) w.heap.size t cs := heap_alloc_new w _
theorem Blk.alloc {w : World} {g : Nat} {t : TypeId} {cs : Array Value} (h : Blk w g t cs) (o : Obj) : Blk (w.alloc o) g t cs := (Below.heap_alloc w o g h.lt).trans h
theorem Blk.set_ {w : World} {g : Nat} {t : TypeId} {cs : Array Value} (h : Blk w g t cs) (i : Nat) (u : Value) : Blk (w.setCell ⟨g, i, none⟩ u) g t (cs.setIfInBounds i u) := by
  unfold Blk at h ⊢
  simp [World.setCell, Array.getElem?_modify, h]
theorem Blk.far {w : World} {g : Nat} {t : TypeId} {cs : Array Value} (h : Blk w g t cs) {p : Addr} (hp : g ≠ p.block) (u : Value) : Blk (w.setCell p u) g t cs := (Below.heap_setCell w p u g hp).trans h
theorem Blk.below {B : Nat} {w w' : World} {g : Nat} {t : TypeId} {cs : Array Value} (h : Blk w g t cs) (hb : Below B w w') (hg : g < B) : Blk w' g t cs := (hb.block g hg).trans h
theorem Blk.later {w w' : World} {g : Nat} {t : TypeId} {cs : Array Value} (h : Blk w g t cs) (hb : Below w.heap.size w w') : Blk w' g t cs := (hb.block g h.lt).trans h
theorem Blk.grown {w w' : World} {g : Nat} {t : TypeId} {cs : Array Value} {row : Option Nat} (h : Blk w g t cs) (hb : w.grownBy w' row) (hg : some g ≠ row) : Blk w' g t cs := (hb.block g h.lt hg).trans h

theorem gr_refl (w : World) (r : Option Nat) : w.grownBy w r := ⟨rfl, rfl, rfl, Nat.le_refl _, fun _ _ _ => rfl⟩
theorem gr_set {a w : World} {g : Nat} (h : a.grownBy w (some g)) {p : Addr} (hp : p.block = g ∨ a.heap.size ≤ p.block) (u : Value) : a.grownBy (w.setCell p u) (some g) :=
  ⟨h.os, h.tape, h.output, by simpa [World.setCell] using h.size, fun i hi hne => (Below.heap_setCell w p u i (by
    rintro rfl
    rcases hp with hp | hp
    · exact hne (by rw [hp])
    · omega)).trans (h.block i hi hne)⟩
theorem gr_own {a w : World} {g : Nat} (h : a.grownBy w (some g)) (i : Nat) (u : Value) : a.grownBy (w.setCell ⟨g, i, none⟩ u) (some g) := gr_set (p := ⟨g, i, none⟩) h (.inl rfl) u
theorem gr_drew {a w : World} {r : Option Nat} (h : a.grownBy w r) : a.grownBy w.drew r := ⟨h.os, h.tape, h.output, h.size, h.block⟩
theorem gr_drewN {a w : World} {r : Option Nat} (h : a.grownBy w r) (n : Nat) : a.grownBy (w.drewN n) r := ⟨h.os, h.tape, h.output, h.size, h.block⟩
theorem gr_alloc {a w : World} {r : Option Nat} (h : a.grownBy w r) (o : Obj) : a.grownBy (w.alloc o) r :=
  ⟨h.os, h.tape, h.output, Nat.le_trans h.size (by simp), fun i hi hne => (Below.heap_alloc w o i (Nat.lt_of_lt_of_le hi h.size)).trans (h.block i hi hne)⟩
theorem gr_below {a w w' : World} {r : Option Nat} (h : a.grownBy w r) (k : Below w.heap.size w w') : a.grownBy w' r :=
  ⟨k.os.trans h.os, k.tape.trans h.tape, k.output.trans h.output, Nat.le_trans h.size k.size, fun i hi hne => (k.block i (Nat.lt_of_lt_of_le hi h.size)).trans (h.block i hi hne)⟩
theorem gr_of_below {w w' : World} (k : Below w.heap.size w w') (r : Option Nat) : w.grownBy w' r := ⟨k.os, k.tape, k.output, k.size, fun i hi _ => k.block i hi⟩
theorem gr_trans {a b c : World} {r : Option Nat} (h : a.grownBy b r) (k : b.grownBy c r) : a.grownBy c r := World.grownBy.trans h k
theorem below_gr {B : Nat} {a w w' : World} {g : Nat} (h : Below B a w) (k : w.grownBy w' (some g)) (hB : B ≤ g) (hw : B ≤ w.heap.size) : Below B a w' :=
  h.grown k hw (fun j hj => by injection hj with hj; omega)

/-- The reader in block b: its rest, whether it has failed. -/
def Rd (w : World) (b : Nat) (s : List UInt8) (f : Bool) : Prop := Blk w b 57 #[.string ⟨s.toArray⟩, .bool f]

theorem Rd.set0 {w : World} {b : Nat} {s : List UInt8} {f : Bool} (h : Rd w b s f) (t : List UInt8) : Rd (w.setCell ⟨b, 0, none⟩ (.string ⟨t.toArray⟩)) b t f := Blk.set_ h 0 _
theorem Rd.set1 {w : World} {b : Nat} {s : List UInt8} {f : Bool} (h : Rd w b s f) (g : Bool) : Rd (w.setCell ⟨b, 1, none⟩ (.bool g)) b s g := Blk.set_ h 1 _
theorem Rd.c0 {w : World} {b : Nat} {s : List UInt8} {f : Bool} (h : Rd w b s f) : w.cell? ⟨b, 0, none⟩ = some (.string ⟨s.toArray⟩) := Blk.cell h 0
theorem Rd.c1 {w : World} {b : Nat} {s : List UInt8} {f : Bool} (h : Rd w b s f) : w.cell? ⟨b, 1, none⟩ = some (.bool f) := Blk.cell h 1
theorem Rd.z0 {w : World} {b : Nat} {s : List UInt8} {f : Bool} (h : Rd w b s f) : w.frozen? ⟨b, 0, none⟩ = false := Blk.frozen h 0
theorem Rd.z1 {w : World} {b : Nat} {s : List UInt8} {f : Bool} (h : Rd w b s f) : w.frozen? ⟨b, 1, none⟩ = false := Blk.frozen h 1

set_option maxHeartbeats 400000 in
theorem open_any (s : List UInt8) (w : World) :
    Calls Try.prog 22 #[.string ⟨s.toArray⟩] w fun e w' => e = .returned (.pointer (some ⟨w.heap.size, 0, none⟩)) ∧ Rd w' w.heap.size s false ∧ Below w.heap.size w w' := by
  go_enter Try.func22, Try.ntmps22
  go_wp2
  go_ret
  exact ⟨rfl, Blk.new _ _ _, (Below.refl _ _).alloc (Nat.le_refl _) _⟩

set_option maxHeartbeats 400000 in
theorem fail_any (b : Nat) (s : List UInt8) (f : Bool) (w : World) (h : Rd w b s f) :
    Calls Try.prog 49 #[.pointer (some ⟨b, 0, none⟩)] w fun e w' => e = .returned (.tuple #[]) ∧ Rd w' b [] true ∧ w.grownBy w' (some b) := by
  have h0 := h.c0
  have h1 := h.c1
  have z0 := h.z0
  have z1 := h.z1
  have H := Lib.hid ((h.set0 []).set1 true)
  clear h
  go_enter Try.func49, Try.ntmps49
  go_wp2
  go_end0
  exact ⟨rfl, H.out, gr_own (gr_own (gr_refl _ _) 0 _) 1 _⟩

set_option maxHeartbeats 400000 in
theorem left_any (b : Nat) (s : List UInt8) (f : Bool) (w : World) (h : Rd w b s f) (_hs : s.length ≤ maxLen) :
    Calls Try.prog 24 #[.pointer (some ⟨b, 0, none⟩)] w fun e w' => e = .returned (.int .i64 s.length) ∧ w = w' := by
  have h0 := h.c0
  clear h
  unfold maxLen at _hs
  go_enter Try.func24, Try.ntmps24
  go_wp2
  go_ret
  exact ⟨rfl, rfl⟩

set_option maxHeartbeats 400000 in
theorem done_any (b : Nat) (s : List UInt8) (f : Bool) (w : World) (h : Rd w b s f) :
    Calls Try.prog 25 #[.pointer (some ⟨b, 0, none⟩)] w fun e w' => e = .returned (.bool (!f && s.isEmpty)) ∧ w = w' := by
  have h0 := h.c0
  have h1 := h.c1
  clear h
  cases f
  · go_enter Try.func25, Try.ntmps25
    go_wp2
    go_ret
    exact ⟨rfl, rfl⟩
  · go_enter Try.func25, Try.ntmps25
    go_wp2
    go_ret
    exact ⟨rfl, rfl⟩

end Go.Proofs.Ytgojkbaodmiiaaa
