/- What agoraref11.Parse finds, in plain Lean. -/
import Derived.Test.YtllmgogcemannaaGreatDoorIdQ
namespace Go.Proofs.YtllmgogcemannaaGreatDoor
open Go.RowKit

/-- The length of the name that a server's number leaves. -/
def cutN (s : List UInt8) (i : Nat) : Nat := s.length - (Lib.itoa (i : Int)).length - 1
def hit (s : List UInt8) (i : Nat) : Prop := (Lib.itoa (i : Int)).length + 1 < s.length ∧ handleS (s.take (cutN s i)) (i : Int) = s
theorem hit_ok {s : List UInt8} {i : Nat} (h : hit s i) : ipOk s = true ∧ ipA s = s.take (cutN s i) ∧ ipN s = (i : Int) := by
  obtain ⟨h1, h2⟩ := h
  cases hok : handleOk (s.take (cutN s i)) (i : Int) with
  | false =>
    rw [handle_bad hok] at h2
    rw [← h2] at h1; simp at h1
  | true =>
    have := ip_handle hok
    rw [h2] at this
    exact this
theorem hit_of {s : List UInt8} (h : ipOk s = true) : ∃ i, i < 20 ∧ hit s i := by
  obtain ⟨hb, hn⟩ := ip_back h
  have hr := ipN_range s
  obtain ⟨i, hi⟩ := Int.eq_ofNat_of_zero_le hr.1
  have hne := name_ne hn
  rw [hi] at hb
  have hok : handleOk (ipA s) (i : Int) = true := by
    cases e : handleOk (ipA s) (i : Int) with
    | true => rfl
    | false =>
      rw [handle_bad e] at hb
      rw [← hb] at h
      rw [ip_nil] at h; cases h
  have hs := handle_ok hok
  rw [hb] at hs
  have hl := congrArg List.length hs
  rw [List.length_append, List.length_cons] at hl
  have hpos : 0 < (ipA s).length := by cases e : ipA s with | nil => exact absurd e hne | cons c l => simp
  have hc : cutN s i = (ipA s).length := by unfold cutN; omega
  refine ⟨i, by omega, by omega, ?_⟩
  rw [hc]
  have key : ∀ a : List UInt8, s = a ++ 64 :: Lib.itoa (i : Int) → s.take a.length = a := fun a h => by rw [h]; exact List.take_left' rfl
  have := key _ hs
  rw [this]; exact hb
end Go.Proofs.YtllmgogcemannaaGreatDoor
