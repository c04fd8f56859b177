/- Package sum: words. -/
import Derived.Test.YtllmgogcemannaaGreatDoorIdC
namespace Go.Proofs.YtllmgogcemannaaGreatDoor
open Go.RowKit

/-- The big-endian word of four bytes. -/
def word4 (a b c d : Nat) : Int := bits .or .u32 (bits .or .u32 (bits .or .u32 ((a : Int) * 16777216) ((b : Int) * 65536)) ((c : Int) * 256)) (d : Int)
theorem word4_range (a b c d : Nat) : 0 ≤ word4 a b c d ∧ word4 a b c d < 4294967296 := bits_range .or _ _ (.inr (.inl rfl))
set_option maxRecDepth 100000 in
set_option maxHeartbeats 2000000 in
theorem word_any (a b c d : UInt8) (r : List UInt8) (w : World) (hl : r.length ≤ 140737488355328) :
    Calls Tryz.prog 75 #[.string ⟨(a :: b :: c :: d :: r).toArray⟩] w fun e w' => e = .returned (.int .u32 (word4 a.toNat b.toNat c.toNat d.toNat)) ∧ Below w.heap.size w w' := by
  obtain ⟨s, hs⟩ : ∃ s, a :: b :: c :: d :: r = s := ⟨_, rfl⟩
  rw [hs]
  have hlen : 4 ≤ s.length := by rw [← hs]; simp
  have h0 : 0 < (⟨s.toArray⟩ : ByteArray).size := by show 0 < s.toArray.size; simp; omega
  have h1 : 1 < (⟨s.toArray⟩ : ByteArray).size := by show 1 < s.toArray.size; simp; omega
  have h2 : 2 < (⟨s.toArray⟩ : ByteArray).size := by show 2 < s.toArray.size; simp; omega
  have h3 : 3 < (⟨s.toArray⟩ : ByteArray).size := by show 3 < s.toArray.size; simp; omega
  have e0 : (⟨s.toArray⟩ : ByteArray)[0] = a := by subst hs; rfl
  have e1 : (⟨s.toArray⟩ : ByteArray)[1] = b := by subst hs; rfl
  have e2 : (⟨s.toArray⟩ : ByteArray)[2] = c := by subst hs; rfl
  have e3 : (⟨s.toArray⟩ : ByteArray)[3] = d := by subst hs; rfl
  have g0 : (0 : Int) < s.length := by omega
  have g1 : (1 : Int) < s.length := by omega
  have g2 : (2 : Int) < s.length := by omega
  have g3 : (3 : Int) < s.length := by omega
  have ba := a.toNat_lt
  have bb := b.toNat_lt
  have bc := c.toNat_lt
  have bd := d.toNat_lt
  clear hs hl
  go_enter Tryz.func75, Tryz.ntmps75
  go_wp2_with fail
  go_quiet (fail)
  go_wp2_with fail
  go_ret
  exact ⟨rfl, below_drewN (Below.refl _ _) _⟩
end Go.Proofs.YtllmgogcemannaaGreatDoor
