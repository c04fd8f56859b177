/- The reference of code: Num, Int, Text. -/
import Derived.Test.YtllmgogcemannaaGreatDoorIdK
import Derived.Deep.RegionWith
namespace Go.Proofs.YtllmgogcemannaaGreatDoor
open Go.RowKit

def encText (s : List UInt8) : List UInt8 := vi s.length ++ s
theorem conv_one (W W' : World) (m : Nat) (hm : m < 256) (b : Below (W.alloc (.cells #[.int .u8 m] 5)).heap.size (W.alloc (.cells #[.int .u8 m] 5)) W') :
    (convert 42 9 (.slice (some ⟨W.heap.size, 0, none⟩) 1 1)).run Tryz.prog W' = .ok (.string ⟨[m.toUInt8].toArray⟩) W' := by
  refine run_convert_bytes_back W' 42 9 5 _ 1 [m.toUInt8] Tryz.underlying42 Tryz.underlying5 Tryz.underlying9 fun j hj => ?_
  have hj0 : j = 0 := by simp at hj; omega
  subst hj0
  rw [add0, b.cell (by simp), cell_new]
  simp; omega
theorem conv_here (W : World) (m : Nat) (hm : m < 256) : (convert 42 9 (.slice (some ⟨W.heap.size, 0, none⟩) 1 1)).run Tryz.prog (W.alloc (.cells #[.int .u8 m] 5)) = .ok (.string ⟨[m.toUInt8].toArray⟩) (W.alloc (.cells #[.int .u8 m] 5)) := conv_one W _ m hm (Below.refl _ _)

set_option maxRecDepth 100000 in
set_option maxHeartbeats 400000 in
theorem refnum_small (n : Nat) (w : World) (h : n < 128) :
    Calls Tryz.prog 26 #[.int .i64 n] w fun e w' => e = .returned (.string ⟨(vi n).toArray⟩) ∧ Below w.heap.size w w' := by
  have HV := Lib.hid (vi_small h)
  have hc := conv_here w n (by omega)
  go_enter Tryz.func26, Tryz.ntmps26
  go_wp2_with fail
  go_ret
  rw [HV.out]
  exact ⟨rfl, (Below.refl _ _).alloc (Nat.le_refl _) _⟩

theorem below_ad {w w3 : World} {o : Obj} (b : Below (w.alloc o).drew.heap.size (w.alloc o).drew w3) : Below w.heap.size w w3 :=
  ((Below.refl _ w).alloc (Nat.le_refl _) o).trans (Below.mono (⟨b.os, b.tape, b.output, b.size, b.block⟩ : Below (w.alloc o).heap.size (w.alloc o) w3) (by simp))
theorem below_da {w w3 : World} (b : Below w.drew.heap.size w.drew w3) (o : Obj) : Below w.heap.size w (w3.alloc o) :=
  (⟨b.os, b.tape, b.output, b.size, b.block⟩ : Below w.heap.size w w3).alloc b.size o

theorem wrap64 (n m : Nat) (hn : n < 9223372036854775808) (hm : m = 128 + n % 128) : IntKind.i64.wrap (128 + (n : Int).tmod 128) = (m : Int) := by
  rw [Int.tmod_eq_emod_of_nonneg (by omega), wrap_small _ (by omega) (by omega)]
  omega
theorem wrap8 (m : Nat) (hm : m < 256) : IntKind.u8.wrap (m : Int) = (m : Int) := by rw [IntKind.wrap_u8]; omega
theorem wrapq (n q : Nat) (hn : n < 9223372036854775808) (hm : q = n / 128) : IntKind.i64.wrap ((n : Int) / 128) = (q : Int) := by rw [wrap_small _ (by omega) (by omega)]; omega

set_option maxRecDepth 100000 in
set_option maxHeartbeats 400000 in
theorem refnum_big (n m q : Nat) (w : World) (h : ¬ n < 128) (hn : n < 9223372036854775808) (hm : m = 128 + n % 128) (hq : q = n / 128) (IH : Hid (∀ w, Calls Tryz.prog 26 #[.int .i64 (q : Int)] w fun e w' => e = .returned (.string ⟨(vi q).toArray⟩) ∧ Below w.heap.size w w')) :
    Calls Tryz.prog 26 #[.int .i64 n] w fun e w' => e = .returned (.string ⟨(vi n).toArray⟩) ∧ Below w.heap.size w w' := by
  have HV := Lib.hid (show vi n = [m.toUInt8] ++ vi q by rw [vi_big h, hm, hq]; rfl)
  have hl := vi_len9 (n := q) (by omega)
  have hm2 : m < 256 := by omega
  have E1 := wrap64 n m hn hm
  have E2 := wrap8 m hm2
  have E3 := wrapq n q hn hq
  have C1 := fun W => conv_here W m hm2
  have C3 : ∀ W : World, _ := fun W => conv_one W (W.alloc (.cells #[.int .u8 m] 5)).drew m hm2 ⟨rfl, rfl, rfl, Nat.le_refl _, fun _ _ => rfl⟩
  have C2 := fun (W W' : World) (b : Below (W.alloc (.cells #[.int .u8 m] 5)).drew.heap.size (W.alloc (.cells #[.int .u8 m] 5)).drew W') => conv_one W W' m hm2 ⟨b.os, b.tape, b.output, b.size, b.block⟩
  have hcat : ByteArray.mk [m.toUInt8].toArray ++ ByteArray.mk (vi q).toArray = ByteArray.mk ([m.toUInt8] ++ vi q).toArray := by rw [ByteArray.mk_append_mk]
  clear hm hq
  generalize vi q = T at *
  go_enter Tryz.func26, Tryz.ntmps26
  go_wp2_with fail
  go_region_with (go_at_call 26; refine (IH.out _).mono ?_; rintro e w3 ⟨rfl, b3⟩; try have cx := C2 w w3 b3)
  all_goals go_wp2_with fail
  all_goals go_ret
  all_goals rw [HV.out]
  all_goals refine ⟨congrArg (fun x => Ending.returned (Value.string x)) hcat, ?_⟩
  all_goals first | exact below_ad b3 | exact below_da b3 _

theorem refnum_nat : ∀ (n : Nat), n < 9223372036854775808 → ∀ w : World, Calls Tryz.prog 26 #[.int .i64 n] w fun e w' => e = .returned (.string ⟨(vi n).toArray⟩) ∧ Below w.heap.size w w' := by
  intro n
  induction n using Nat.strongRecOn with
  | ind n ih =>
    intro hn w
    by_cases h : n < 128
    · exact refnum_small n w h
    · exact refnum_big n (128 + n % 128) (n / 128) w h hn rfl rfl (Lib.hid (ih (n / 128) (by omega) (by omega)))

set_option maxRecDepth 100000 in
theorem refnum_neg (n : Int) (w : World) (h : n < 0) : Calls Tryz.prog 26 #[.int .i64 n] w fun e w' => e = .returned (.string ⟨#[]⟩) ∧ Below w.heap.size w w' := by
  go_enter Tryz.func26, Tryz.ntmps26
  go_wp2_with fail
  go_ret
  exact ⟨rfl, Below.refl _ _⟩
theorem refnum_any (n : Int) (w : World) (h1 : n < 9223372036854775808) : Calls Tryz.prog 26 #[.int .i64 n] w fun e w' => e = .returned (.string ⟨(numL n).toArray⟩) ∧ Below w.heap.size w w' := by
  unfold numL
  by_cases h : n < 0
  · rw [if_pos h]; exact refnum_neg n w h
  · rw [if_neg h]
    obtain ⟨m, rfl⟩ := Int.eq_ofNat_of_zero_le (by omega : 0 ≤ n)
    exact refnum_nat m (by omega) w

set_option maxRecDepth 100000 in
set_option maxHeartbeats 400000 in
theorem reftext_any (s : List UInt8) (w : World) (hs : s.length ≤ 4398046511104) : Calls Tryz.prog 25 #[.string ⟨s.toArray⟩] w fun e w' => e = .returned (.string ⟨(encText s).toArray⟩) ∧ Below w.heap.size w w' := by
  unfold encText
  have N := Lib.hid (fun w => refnum_nat s.length (by omega) w)
  have hl := vi_len9 (n := s.length) (by omega)
  have hcat : ByteArray.mk (vi s.length).toArray ++ ByteArray.mk s.toArray = ByteArray.mk (vi s.length ++ s).toArray := by rw [ByteArray.mk_append_mk]
  generalize vi s.length = T at *
  go_enter Tryz.func25, Tryz.ntmps25
  go_wp2_with fail
  refine (N.out _).mono ?_; rintro e w1 ⟨rfl, b1⟩
  go_wp2_with fail
  go_ret
  exact ⟨rfl, b1⟩

end Go.Proofs.YtllmgogcemannaaGreatDoor
