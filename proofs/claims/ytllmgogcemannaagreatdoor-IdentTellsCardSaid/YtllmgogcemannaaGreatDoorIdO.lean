/- Package agoralaw11: the small example. -/
import Derived.Test.YtllmgogcemannaaGreatDoorIdK
import Derived.Test.YtllmgogcemannaaGreatDoorIdM
import Derived.Test.YtllmgogcemannaaGreatDoorIdN
namespace Go.Proofs.YtllmgogcemannaaGreatDoor
open Go.RowKit

theorem row_lit (w : World) (t : TypeId) (xs : List Value) : Row (w.alloc (.cells xs.toArray t)) (w.heap.size + 1) (some ⟨w.heap.size, 0, none⟩) xs := fun _ =>
  ⟨_, 0, rfl, Nat.lt_succ_self _, fun j hj => by
    have h := (show Blk (w.alloc (.cells xs.toArray t)) w.heap.size t xs.toArray from heap_alloc_new w _).cell j
    rw [Nat.zero_add, h]; simp [hj]⟩
theorem sm_r1 (w : World) : Calls Tryz.prog 9 #[.string ⟨#[48, 48, 49, 49, 50, 50, 51, 51, 97, 97, 98, 98, 99, 99, 100, 100]⟩] w fun e w' => e = .returned (.bool true) ∧ Below w.heap.size w w' :=
  (right_any [48, 48, 49, 49, 50, 50, 51, 51, 97, 97, 98, 98, 99, 99, 100, 100] w (by decide)).mono fun e w' h => ⟨by rw [h.1, show rightS [48, 48, 49, 49, 50, 50, 51, 51, 97, 97, 98, 98, 99, 99, 100, 100] = true by decide +kernel], h.2⟩
theorem sm_r2 (w : World) : Calls Tryz.prog 9 #[.string ⟨#[48, 48, 49, 49, 50, 50, 51, 51, 65, 65, 66, 66, 67, 67, 68, 68]⟩] w fun e w' => e = .returned (.bool false) ∧ Below w.heap.size w w' :=
  (right_any [48, 48, 49, 49, 50, 50, 51, 51, 65, 65, 66, 66, 67, 67, 68, 68] w (by decide)).mono fun e w' h => ⟨by rw [h.1, show rightS [48, 48, 49, 49, 50, 50, 51, 51, 65, 65, 66, 66, 67, 67, 68, 68] = false by decide +kernel], h.2⟩
theorem sm_n1 (w : World) : Calls Tryz.prog 11 #[.string ⟨#[97, 95, 49]⟩] w fun e w' => e = .returned (.bool true) ∧ Below w.heap.size w w' :=
  (name_any [97, 95, 49] w (by decide)).mono fun e w' h => ⟨by rw [h.1, show nameS [97, 95, 49] = true by decide +kernel], h.2⟩
theorem sm_n2 (w : World) : Calls Tryz.prog 11 #[.string ⟨#[49, 97]⟩] w fun e w' => e = .returned (.bool false) ∧ Below w.heap.size w w' :=
  (name_any [49, 97] w (by decide)).mono fun e w' h => ⟨by rw [h.1, show nameS [49, 97] = false by decide +kernel], h.2⟩
theorem sm_h (w : World) (hL : LdI w) : Calls Tryz.prog 13 #[.string ⟨#[97, 110, 110]⟩, .int .i64 3] w fun e w' => e = .returned (.string ⟨#[97, 110, 110, 64, 51]⟩) ∧ Below w.heap.size w w' :=
  (handle_any [97, 110, 110] 3 w hL (by decide) (by decide) (by decide)).mono fun e w' h => ⟨by rw [h.1, show handleS [97, 110, 110] 3 = [97, 110, 110, 64, 51] by decide +kernel], h.2⟩
theorem sm_p1 (w : World) (hL : LdI w) : Calls Tryz.prog 5 #[.string ⟨#[97, 110, 110, 64, 51]⟩] w fun e w' => e = .returned (.tuple #[.string ⟨#[97, 110, 110]⟩, .int .i64 3, .bool true]) ∧ Below w.heap.size w w' :=
  (iparse_any [97, 110, 110, 64, 51] w hL (by decide)).mono fun e w' h => ⟨by rw [h.1, show ipA [97, 110, 110, 64, 51] = [97, 110, 110] by decide +kernel, show ipN [97, 110, 110, 64, 51] = 3 by decide +kernel, show ipOk [97, 110, 110, 64, 51] = true by decide +kernel], h.2⟩
theorem sm_p2 (w : World) (hL : LdI w) : Calls Tryz.prog 5 #[.string ⟨#[97, 110, 110, 64, 48, 51]⟩] w fun e w' => e = .returned (.tuple #[.string ⟨#[]⟩, .int .i64 0, .bool false]) ∧ Below w.heap.size w w' :=
  (iparse_any [97, 110, 110, 64, 48, 51] w hL (by decide)).mono fun e w' h => ⟨by rw [h.1, show ipA [97, 110, 110, 64, 48, 51] = [] by decide +kernel, show ipN [97, 110, 110, 64, 48, 51] = 0 by decide +kernel, show ipOk [97, 110, 110, 64, 48, 51] = false by decide +kernel], h.2⟩
theorem sm_i (w : World) : Calls Tryz.prog 15 #[.slice (some ⟨w.heap.size, 0, none⟩) 2 2] (w.alloc (.cells #[.string ⟨#[48, 48, 48, 48, 48, 48, 48, 48, 48, 48, 48, 48, 48, 48, 48, 48]⟩, .string ⟨#[48, 48, 48, 48, 48, 48, 48, 48, 48, 48, 48, 48, 48, 48, 48, 102]⟩] 9)) fun e w' => e = .returned (.bool true) ∧ Below w.heap.size w w' :=
  (ids_any _ 2 2 (w.heap.size + 1) [[48, 48, 48, 48, 48, 48, 48, 48, 48, 48, 48, 48, 48, 48, 48, 48], [48, 48, 48, 48, 48, 48, 48, 48, 48, 48, 48, 48, 48, 48, 48, 102]] _ (row_lit w 9 _) (by rw [World.size_alloc]; exact Nat.le_refl _) rfl (by decide) (by decide)).mono fun e w' h => ⟨by rw [h.1, show idsS [[48, 48, 48, 48, 48, 48, 48, 48, 48, 48, 48, 48, 48, 48, 48, 48], [48, 48, 48, 48, 48, 48, 48, 48, 48, 48, 48, 48, 48, 48, 48, 102]] = true by decide +kernel], ((Below.refl w.heap.size w).alloc (Nat.le_refl _) _).trans (h.2.mono (by rw [World.size_alloc]; exact Nat.le_succ _))⟩
theorem ofS_len (n : Int) : (ofS n).length = 16 := by
  unfold ofS
  rw [List.length_take, hexF_len, shaF8_len]; rfl
theorem sm_o (w : World) : Calls Tryz.prog 7 #[.int .i64 37] w fun e w' => (∃ x : List UInt8, x.length = 16 ∧ e = .returned (.string ⟨x.toArray⟩)) ∧ Below w.heap.size w w' :=
  (of_any 37 w (by decide)).mono fun e w' h => ⟨⟨_, ofS_len 37, h.1⟩, h.2⟩
set_option maxRecDepth 100000 in
set_option maxHeartbeats 4000000 in
theorem small_any (w : World) (hL : LdI w) : Calls Tryz.prog 4 #[] w fun e w' => e = .returned (.bool true) ∧ Below w.heap.size w w' := by
  have HL := Lib.hid hL
  clear hL
  have HP1 := Lib.hid sm_p1
  have HP2 := Lib.hid sm_p2
  have HH := Lib.hid sm_h
  go_enter Tryz.func4, Tryz.ntmps4
  go_wp2_with fail
  refine (HP1.out _ HL.out).mono ?_; rintro e w1 ⟨rfl, b1⟩
  replace b1 := Lib.hid b1
  have L1 := Lib.hid (HL.out.later b1.out)
  go_wp2_with fail
  refine (HP2.out _ L1.out).mono ?_; rintro e w2 ⟨rfl, b2⟩
  replace b1 := Lib.hid (b1.out.trans (b2.mono b1.out.size))
  replace L1 := Lib.hid (L1.out.later b2)
  clear b2
  go_wp2_with fail
  refine (sm_r1 _).mono ?_; rintro e w3 ⟨rfl, b2⟩
  replace b1 := Lib.hid (b1.out.trans (b2.mono b1.out.size))
  replace L1 := Lib.hid (L1.out.later b2)
  clear b2
  go_wp2_with fail
  refine (sm_r2 _).mono ?_; rintro e w4 ⟨rfl, b2⟩
  replace b1 := Lib.hid (b1.out.trans (b2.mono b1.out.size))
  replace L1 := Lib.hid (L1.out.later b2)
  clear b2
  go_wp2_with fail
  refine (sm_n1 _).mono ?_; rintro e w5 ⟨rfl, b2⟩
  replace b1 := Lib.hid (b1.out.trans (b2.mono b1.out.size))
  replace L1 := Lib.hid (L1.out.later b2)
  clear b2
  go_wp2_with fail
  refine (sm_n2 _).mono ?_; rintro e w6 ⟨rfl, b2⟩
  replace b1 := Lib.hid (b1.out.trans (b2.mono b1.out.size))
  replace L1 := Lib.hid (L1.out.later b2)
  clear b2
  go_wp2_with fail
  refine (HH.out _ L1.out).mono ?_; rintro e w7 ⟨rfl, b2⟩
  replace b1 := Lib.hid (b1.out.trans (b2.mono b1.out.size))
  clear L1 b2
  go_wp2_with fail
  refine (sm_i _).mono ?_; rintro e w8 ⟨rfl, b2⟩
  replace b1 := Lib.hid (b1.out.trans (b2.mono b1.out.size))
  clear b2
  go_wp2_with fail
  refine (sm_o _).mono ?_; rintro e w9 ⟨⟨x, hx, rfl⟩, b2⟩
  replace b1 := Lib.hid (b1.out.trans (b2.mono b1.out.size))
  clear b2
  go_wp2_with fail
  go_ret
  exact ⟨rfl, b1.out⟩
end Go.Proofs.YtllmgogcemannaaGreatDoor
