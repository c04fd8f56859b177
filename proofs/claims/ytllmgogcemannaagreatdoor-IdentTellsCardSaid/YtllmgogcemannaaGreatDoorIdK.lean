/- Package code: Num, Text. Package ident: Of. -/
import Derived.Test.YtllmgogcemannaaGreatDoorIdJ
import Derived.Test.YtllmgogcemannaaGreatDoorCode1
namespace Go.Proofs.YtllmgogcemannaaGreatDoor
open Go.RowKit

theorem num_neg (n : Int) (w : World) (h : n < 0) : Calls Tryz.prog 22 #[.int .i64 n] w fun e w' => e = .returned (.string ⟨#[]⟩) ∧ w = w' := by
  go_enter Tryz.func22, Tryz.ntmps22
  go_wp2
  go_ret
  exact ⟨rfl, rfl⟩
def numL (n : Int) : List UInt8 := if n < 0 then [] else vi n.toNat
theorem num_all (n : Int) (w : World) (h1 : n < 9223372036854775808) : Calls Tryz.prog 22 #[.int .i64 n] w fun e w' => e = .returned (.string ⟨(numL n).toArray⟩) ∧ Below w.heap.size w w' := by
  unfold numL
  split
  · rename_i h; exact (num_neg n w h).mono fun e w' ⟨he, hw⟩ => ⟨he, by subst hw; exact Below.refl _ _⟩
  · exact num_any n w (by omega) h1
theorem numL_len {n : Int} (h1 : n < 9223372036854775808) : (numL n).length ≤ 9 := by
  unfold numL
  split
  · simp
  · exact vi_len9 (by omega)
theorem vi5 : vi (Int.toNat 5) = [5] := by rw [vi_small (by decide)]; rfl
/-- The text that is hashed. -/
def actS (n : Int) : List UInt8 := [5, 97, 99, 116, 111, 114] ++ numL n
theorem actS_len {n : Int} (h1 : n < 9223372036854775808) : (actS n).length ≤ 15 := by
  have := numL_len h1
  unfold actS
  rw [List.length_append]
  show 6 + _ ≤ 15
  omega
theorem shaF8_len (s : List UInt8) : (shaF8 s).length = 32 := shaT_len s 8
def ofS (n : Int) : List UInt8 := (hexF (shaF8 (actS n))).take 16
set_option maxHeartbeats 400000 in
theorem textAct (w : World) :
    Calls Tryz.prog 21 #[.string ⟨#[97, 99, 116, 111, 114]⟩] w fun e w' => e = .returned (.string ⟨#[5, 97, 99, 116, 111, 114]⟩) ∧ Below w.heap.size w w' := by
  have H := Lib.hid (fun w1 => num_any 5 w1 (by omega) (by omega))
  rw [vi5] at H
  have bcat : ByteArray.mk #[5] ++ ByteArray.mk #[97, 99, 116, 111, 114] = ByteArray.mk #[5, 97, 99, 116, 111, 114] := rfl
  go_enter Tryz.func21, Tryz.ntmps21
  go_wp2_with (go_at_call 22; refine (H.out _).mono ?_; rintro e w1 ⟨rfl, hb1⟩)
  go_ret
  exact ⟨rfl, hb1⟩
set_option maxRecDepth 100000 in
set_option maxHeartbeats 1000000 in
theorem of_any (n : Int) (w : World) (h1 : n < 9223372036854775808) :
    Calls Tryz.prog 7 #[.int .i64 n] w fun e w' => e = .returned (.string ⟨(ofS n).toArray⟩) ∧ Below w.heap.size w w' := by
  have HT := Lib.hid textAct
  have HN := Lib.hid (fun w1 => num_all n w1 h1)
  have HS := Lib.hid (fun w1 => sha_any (actS n) w1 (by have := actS_len h1; omega))
  have HX := Lib.hid (fun w1 => hex_any (shaF8 (actS n)) w1 (by rw [shaF8_len]; omega))
  have hx : (hexF (shaF8 (actS n))).length = 64 := by rw [hexF_len, shaF8_len]
  have HL := Lib.hid hx
  have HO := Lib.hid (show (hexF (shaF8 (actS n))).take 16 = ofS n from rfl)
  have hsl := bx_take (hexF (shaF8 (actS n))) 16
  rw [HO.out] at hsl
  have bcat : ByteArray.mk #[5, 97, 99, 116, 111, 114] ++ ByteArray.mk (numL n).toArray = ByteArray.mk (actS n).toArray := ByteArray.mk_append_mk _ _
  have hll : (16 : Int) ≤ ((hexF (shaF8 (actS n))).length : Int) := by rw [hx]; decide
  have hnl9 := numL_len h1
  generalize hexF (shaF8 (actS n)) = X at *
  generalize shaF8 (actS n) = D at *
  generalize actS n = T at *
  generalize ofS n = O at *
  generalize hnl : numL n = NL at *
  clear hnl
  have hnl8 : (NL.length : Int) ≤ 9 := by omega
  have hnl7 : ¬ (9223372036854775807 : Int) < 6 + NL.length := by omega
  go_enter Tryz.func7, Tryz.ntmps7
  go_wp2_with fail
  refine (HT.out _).mono ?_; rintro e w1 ⟨rfl, b1⟩
  replace b1 := Lib.hid b1
  go_wp2_with fail
  refine (HN.out _).mono ?_; rintro e w2 ⟨rfl, b2⟩
  replace b2 := Lib.hid (b1.out.trans (b2.mono b1.out.size))
  go_wp2_with fail
  refine (HS.out _).mono ?_; rintro e w3 ⟨rfl, b3⟩
  replace b3 := Lib.hid (b2.out.trans (b3.mono b2.out.size))
  go_wp2_with fail
  refine (HX.out _).mono ?_; rintro e w4 ⟨rfl, b4⟩
  replace b4 := Lib.hid (b3.out.trans (b4.mono b3.out.size))
  go_wp2_with fail
  go_ret
  exact ⟨rfl, b4.out⟩
end Go.Proofs.YtllmgogcemannaaGreatDoor
