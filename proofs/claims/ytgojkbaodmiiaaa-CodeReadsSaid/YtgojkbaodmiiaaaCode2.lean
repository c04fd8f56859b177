/- Package code: the Reader. -/
import Derived.Test.YtgojkbaodmiiaaaCode1
import Derived.Test.YtgojkbaodmiiaaaMem
namespace Go.Proofs.Ytgojkbaodmiiaaa
open Go.RowKit

def dec : Nat → Bool → List UInt8 → Option (Nat × List UInt8)
  | 0, _, _ => none
  | _ + 1, _, [] => none
  | k + 1, z, b :: t => if 128 ≤ b.toNat then (dec k false t).map (fun p => (b.toNat % 128 + 128 * p.1, p.2)) else if b.toNat = 0 ∧ z = false then none else some (b.toNat, t)

/-- The reader in block b: its rest, whether it has failed. -/
def Rd (w : World) (b : Nat) (s : List UInt8) (f : Bool) : Prop := Blk w b 57 #[.string ⟨s.toArray⟩, .bool f]

theorem Rd.set0 {w : World} {b : Nat} {s : List UInt8} {f : Bool} (h : Rd w b s f) (t : List UInt8) : Rd (w.setCell ⟨b, 0, none⟩ (.string ⟨t.toArray⟩)) b t f := Blk.set_ h 0 _
theorem Rd.set1 {w : World} {b : Nat} {s : List UInt8} {f : Bool} (h : Rd w b s f) (g : Bool) : Rd (w.setCell ⟨b, 1, none⟩ (.bool g)) b s g := Blk.set_ h 1 _
theorem Rd.c0 {w : World} {b : Nat} {s : List UInt8} {f : Bool} (h : Rd w b s f) : w.cell? ⟨b, 0, none⟩ = some (.string ⟨s.toArray⟩) := Blk.cell h 0
theorem Rd.c1 {w : World} {b : Nat} {s : List UInt8} {f : Bool} (h : Rd w b s f) : w.cell? ⟨b, 1, none⟩ = some (.bool f) := Blk.cell h 1
theorem Rd.z0 {w : World} {b : Nat} {s : List UInt8} {f : Bool} (h : Rd w b s f) : w.frozen? ⟨b, 0, none⟩ = false := Blk.frozen h 0
theorem Rd.z1 {w : World} {b : Nat} {s : List UInt8} {f : Bool} (h : Rd w b s f) : w.frozen? ⟨b, 1, none⟩ = false := Blk.frozen h 1

set_option maxHeartbeats 400000 in
theorem open_any (s : List UInt8) (w : World) :
    Calls Try.prog 22 #[.string ⟨s.toArray⟩] w fun e w' => e = .returned (.pointer (some ⟨w.heap.size, 0, none⟩)) ∧ Rd w' w.heap.size s false ∧ Below w.heap.size w w' := by
  go_enter Try.func22, Try.ntmps22
  go_wp2
  go_ret
  exact ⟨rfl, Blk.new _ _ _, (Below.refl _ _).alloc (Nat.le_refl _) _⟩

set_option maxHeartbeats 400000 in
theorem fail_any (b : Nat) (s : List UInt8) (f : Bool) (w : World) (h : Rd w b s f) :
    Calls Try.prog 49 #[.pointer (some ⟨b, 0, none⟩)] w fun e w' => e = .returned (.tuple #[]) ∧ Rd w' b [] true ∧ w.grownBy w' (some b) := by
  have h0 := h.c0
  have h1 := h.c1
  have z0 := h.z0
  have z1 := h.z1
  have H := Lib.hid ((h.set0 []).set1 true)
  clear h
  go_enter Try.func49, Try.ntmps49
  go_wp2
  go_end0
  exact ⟨rfl, H.out, gr_own (gr_own (gr_refl _ _) 0 _) 1 _⟩

set_option maxHeartbeats 400000 in
theorem left_any (b : Nat) (s : List UInt8) (f : Bool) (w : World) (h : Rd w b s f) (_hs : s.length ≤ maxLen) :
    Calls Try.prog 24 #[.pointer (some ⟨b, 0, none⟩)] w fun e w' => e = .returned (.int .i64 s.length) ∧ w = w' := by
  have h0 := h.c0
  clear h
  unfold maxLen at _hs
  go_enter Try.func24, Try.ntmps24
  go_wp2
  go_ret
  exact ⟨rfl, rfl⟩

set_option maxHeartbeats 400000 in
theorem done_any (b : Nat) (s : List UInt8) (f : Bool) (w : World) (h : Rd w b s f) :
    Calls Try.prog 25 #[.pointer (some ⟨b, 0, none⟩)] w fun e w' => e = .returned (.bool (!f && s.isEmpty)) ∧ w = w' := by
  have h0 := h.c0
  have h1 := h.c1
  clear h
  cases f
  · go_enter Try.func25, Try.ntmps25
    go_wp2
    go_ret
    exact ⟨rfl, rfl⟩
  · go_enter Try.func25, Try.ntmps25
    go_wp2
    go_ret
    exact ⟨rfl, rfl⟩

end Go.Proofs.Ytgojkbaodmiiaaa
