/- Package num: Text, Parse. -/
import Derived.Test.YtllmgogcemannaaGreatDoorShelf
import Derived.Test.YtllmgogcemannaaGreatDoorNumText
import Derived.Test.YtllmgogcemannaaGreatDoorMem
namespace Go.Proofs.YtllmgogcemannaaGreatDoor
open Go.RowKit

/-- What the library's variables hold: the powers of ten; two errors. -/
def Ld (w : World) : Prop := Lib.TabIs Tryz.prog w "internal/strconv.uint64pow10" .u64 Lib.pow10Tab ∧ (∃ te pe, w.cell? ⟨1, 0, none⟩ = some (.iface te pe)) ∧ (∃ te pe, w.cell? ⟨2, 0, none⟩ = some (.iface te pe))
theorem Tryz.gpow : Tryz.prog.globalNamed "internal/strconv.uint64pow10" = some 5 := by kernel_rfl
theorem cell_lt {w : World} {g o : Nat} {v : Value} (h : w.cell? ⟨g, o, none⟩ = some v) : g < w.heap.size := block_lt_of_cell (a := ⟨g, o, none⟩) h
theorem Ld.later {a w : World} (h : Ld a) (b : Below a.heap.size a w) : Ld w := by
  obtain ⟨h1, ⟨t1, p1, h2⟩, t2, p2, h3⟩ := h
  have hl := cell_lt (h1.cell Tryz.gpow 0 (by decide))
  refine ⟨?_, ⟨t1, p1, (b.cell (cell_lt h2)).trans h2⟩, t2, p2, (b.cell (cell_lt h3)).trans h3⟩
  unfold Lib.TabIs World.var? at h1 ⊢
  rw [Tryz.gpow] at h1 ⊢
  simp only [Option.bind_some] at h1 ⊢
  rw [b.block _ hl]; exact h1

theorem below_grow (w : World) (k : Nat) (os : Array Obj) : Below w.heap.size w (Sort.grow (w.drewN k) os) :=
  ⟨rfl, rfl, rfl, by simp [Sort.grow], fun i hi => by simp [Sort.grow, Array.getElem?_append, hi]⟩
theorem below_bytes (w : World) (e : TypeId) (t : ByteArray) : Below w.heap.size w (Lib.bytesWorld w e t) := by
  refine ⟨rfl, rfl, rfl, ?_, fun i hi => ?_⟩
  · simp [Lib.bytesWorld, World.freeze]
  · simp [Lib.bytesWorld, World.freeze, World.alloc, Array.getElem?_modify, Array.getElem?_push]
    have hne : ¬ i = w.heap.size := by omega
    have hne2 : ¬ w.heap.size = i := by omega
    simp only [hne, hne2, if_false]; rfl

set_option maxHeartbeats 400000 in
theorem itoa_any (n : Int) (w : World) (hL : Ld w) (h0 : -9223372036854775808 ≤ n) (h1 : n ≤ 9223372036854775807) :
    Calls Tryz.prog 32 #[.int .i64 n] w fun e w' => e = .returned (.string ⟨(Lib.itoa n).toArray⟩) ∧ Below w.heap.size w w' :=
  (Tryz.strconv_Itoa n h0 h1 w hL.1).mono fun _ _ ⟨he, k, os, hw⟩ => ⟨he, by rw [hw]; exact below_grow w k os⟩

set_option maxHeartbeats 400000 in
theorem ntext_any (n : Int) (w : World) (hL : Ld w) (h0 : -9223372036854775808 ≤ n) (h1 : n ≤ 9223372036854775807) :
    Calls Tryz.prog 29 #[.int .i64 n] w fun e w' => e = .returned (.string ⟨(Lib.itoa n).toArray⟩) ∧ Below w.heap.size w w' := by
  have C := Lib.hid (itoa_any n w hL h0 h1)
  clear hL
  go_enter Tryz.func29, Tryz.ntmps29
  go_wp2_with fail
  refine C.out.mono ?_; rintro e w1 ⟨rfl, b1⟩
  go_wp2_with fail
  go_ret
  exact ⟨rfl, b1⟩

def atoiV (s : List UInt8) : Int := match Lib.atoiAll s with | .ok v => v | .syntax => 0 | .range => Lib.atoiSat s
def atoiOk (s : List UInt8) : Bool := match Lib.atoiAll s with | .ok _ => true | _ => false
/-- What Atoi returns: the number; an error, or none. -/
def AtoiEnd (s : List UInt8) (w : World) (e : Ending) (w' : World) : Prop := Below w.heap.size w w' ∧ (if atoiOk s = true then e = .returned (.tuple #[.int .i64 (atoiV s), .nilIface]) else ∃ t p, e = .returned (.tuple #[.int .i64 (atoiV s), .iface t (.pointer (some ⟨p, 0, none⟩))]))
theorem atoi_any (s : List UInt8) (w : World) (hL : Ld w) (hs : s.length ≤ 281474976710656) :
    Calls Tryz.prog 31 #[.string ⟨s.toArray⟩] w (AtoiEnd s w) := by
  obtain ⟨_, ⟨t1, p1, h2⟩, t2, p2, h3⟩ := hL
  have hz : (ByteArray.mk s.toArray).size ≤ 281474976710656 := by show s.toArray.size ≤ _; simpa using hs
  cases ha : Lib.atoiAll s with
  | ok v =>
    refine (Tryz.strconv_Atoi_ok ⟨s.toArray⟩ (by omega) v ha w).mono fun e w' ⟨he, hw⟩ => ⟨?_, ?_⟩
    · rcases hw with rfl | ⟨t, rfl⟩
      · exact Below.refl _ _
      · exact below_bytes _ _ _
    · simp [atoiOk, atoiV, ha, he]
  | «syntax» =>
    refine (Tryz.strconv_Atoi_syntax ⟨s.toArray⟩ hz ha _ w h2 (.inr ⟨_, _, rfl⟩)).mono fun e w' ⟨N, he, _, _, hb⟩ => ⟨hb, ?_⟩
    simp [atoiOk, atoiV, ha]
    exact ⟨_, N, he⟩
  | range =>
    refine (Tryz.strconv_Atoi_range ⟨s.toArray⟩ hz ha _ w h3 (.inr ⟨_, _, rfl⟩)).mono fun e w' ⟨N, he, _, _, hb⟩ => ⟨hb, ?_⟩
    simp [atoiOk, atoiV, ha]
    exact ⟨_, N, he⟩

def parseN (s : List UInt8) (lo hi : Int) : Int := (parseS s lo hi).getD 0
def parseB (s : List UInt8) (lo hi : Int) : Bool := (parseS s lo hi).isSome
theorem parse_no {s : List UInt8} {lo hi : Int} (h : ¬ (atoiOk s = true ∧ Lib.itoa (atoiV s) = s ∧ lo ≤ atoiV s ∧ atoiV s ≤ hi)) : parseN s lo hi = 0 ∧ parseB s lo hi = false := by
  unfold parseN parseB parseS
  unfold atoiOk atoiV at h
  cases ha : Lib.atoiAll s with
  | ok v =>
    rw [ha] at h
    simp only [true_and] at h ⊢
    rw [if_neg h]; exact ⟨rfl, rfl⟩
  | «syntax» => exact ⟨rfl, rfl⟩
  | range => exact ⟨rfl, rfl⟩
theorem parse_yes {s : List UInt8} {lo hi : Int} (h : atoiOk s = true ∧ Lib.itoa (atoiV s) = s ∧ lo ≤ atoiV s ∧ atoiV s ≤ hi) : parseN s lo hi = atoiV s ∧ parseB s lo hi = true := by
  unfold parseN parseB parseS
  unfold atoiOk atoiV at h
  cases ha : Lib.atoiAll s with
  | ok v =>
    rw [ha] at h
    simp only [true_and] at h ⊢
    rw [if_pos h]
    simp [atoiV, ha]
  | «syntax» => rw [ha] at h; simp at h
  | range => rw [ha] at h; simp at h
theorem atoiV_bd {s : List UInt8} (h : atoiOk s = true) : -9223372036854775808 ≤ atoiV s ∧ atoiV s ≤ 9223372036854775807 := by
  unfold atoiOk at h
  unfold atoiV
  cases ha : Lib.atoiAll s with
  | ok v => exact Lib.atoiAll_bounds ha
  | «syntax» => rw [ha] at h; simp at h
  | range => rw [ha] at h; simp at h

set_option maxRecDepth 100000 in
set_option maxHeartbeats 1000000 in
theorem nparse_any (s : List UInt8) (lo hi : Int) (w : World) (hL : Ld w) (hs : s.length ≤ 281474976710656) :
    Calls Tryz.prog 17 #[.string ⟨s.toArray⟩, .int .i64 lo, .int .i64 hi] w fun e w' => e = .returned (.tuple #[.int .i64 (parseN s lo hi), .bool (parseB s lo hi)]) ∧ Below w.heap.size w w' := by
  have A := Lib.hid (atoi_any s w hL hs)
  have HL := Lib.hid hL
  have NO := Lib.hid (@parse_no s lo hi)
  have YES := Lib.hid (@parse_yes s lo hi)
  clear hL
  cases hk : atoiOk s with
  | false =>
    have hN := NO.out (by rw [hk]; simp)
    rw [hN.1, hN.2]
    have HK := Lib.hid hk
    clear hk hN NO YES
    go_enter Tryz.func17, Tryz.ntmps17
    go_wp2_with fail
    refine A.out.mono ?_; rintro e w1 ⟨b1, h⟩
    rw [if_neg (by rw [HK.out]; decide)] at h
    obtain ⟨t, p, rfl⟩ := h
    go_wp2_with fail
    go_ret2
    exact ⟨rfl, b1⟩
  | true =>
    obtain ⟨h0, h1⟩ := atoiV_bd hk
    have T := Lib.hid (fun (w1 : World) (b : Below w.heap.size w w1) => itoa_any (atoiV s) w1 (HL.out.later b) h0 h1)
    have HK := Lib.hid hk
    clear hk
    go_enter Tryz.func17, Tryz.ntmps17
    go_wp2_with fail
    refine A.out.mono ?_; rintro e w1 ⟨b1, h⟩
    rw [if_pos HK.out] at h
    subst h
    go_wp2_with fail
    refine (T.out _ b1).mono ?_; rintro e w2 ⟨rfl, b2⟩
    go_wp2_with fail
    · have g : atoiV s < lo ∨ hi < atoiV s := by assumption
      have hN := NO.out (fun hh => by omega)
      go_ret2
      rw [hN.1, hN.2]
      exact ⟨rfl, b1.trans (b2.mono b1.size)⟩
    · have g : Lib.itoa (atoiV s) = s := by assumption
      have g2 : lo ≤ atoiV s ∧ atoiV s ≤ hi := by assumption
      have hN := YES.out ⟨HK.out, g, g2⟩
      go_ret2
      rw [hN.1, hN.2]
      exact ⟨rfl, b1.trans (b2.mono b1.size)⟩
    · have g : atoiV s < lo := by assumption
      have hN := NO.out (fun hh => by omega)
      go_ret2
      rw [hN.1, hN.2]
      exact ⟨rfl, b1.trans (b2.mono b1.size)⟩
    · have g : ¬ Lib.itoa (atoiV s) = s := by assumption
      have hN := NO.out (fun hh => g hh.2.1)
      go_ret2
      rw [hN.1, hN.2]
      exact ⟨rfl, b1.trans (b2.mono b1.size)⟩

end Go.Proofs.YtllmgogcemannaaGreatDoor
