/- Package agoraref11: Of. -/
import Derived.Test.YtllmgogcemannaaGreatDoorIsS
import Derived.Test.YtllmgogcemannaaGreatDoorIsX
import Derived.Test.YtllmgogcemannaaGreatDoorIsC
namespace Go.Proofs.YtllmgogcemannaaGreatDoor
open Go.RowKit

theorem rtextAct (w : World) :
    Calls Tryz.prog 25 #[.string ⟨#[97, 99, 116, 111, 114]⟩] w fun e w' => e = .returned (.string ⟨#[5, 97, 99, 116, 111, 114]⟩) ∧ Below w.heap.size w w' :=
  (reftext_any [97, 99, 116, 111, 114] w (by decide)).mono fun e w' h => ⟨by rw [h.1]; unfold encText; rw [vi_small (by decide)]; rfl, h.2⟩
set_option maxRecDepth 100000 in
set_option maxHeartbeats 1000000 in
theorem rof_any (n : Int) (w : World) (h1 : n < 9223372036854775808) :
    Calls Tryz.prog 8 #[.int .i64 n] w fun e w' => e = .returned (.string ⟨(ofS n).toArray⟩) ∧ Below w.heap.size w w' := by
  have HT := Lib.hid rtextAct
  have HN := Lib.hid (fun w1 => refnum_any n w1 h1)
  have HS := Lib.hid (fun w1 => rsha_any (actS n) w1 (by have := actS_len h1; omega))
  have HX := Lib.hid (fun w1 => rhex_any (shaF8 (actS n)) w1 (by rw [shaF8_len]; omega))
  have hx : (hexF (shaF8 (actS n))).length = 64 := by rw [hexF_len, shaF8_len]
  have HL := Lib.hid hx
  have HO := Lib.hid (show (hexF (shaF8 (actS n))).take 16 = ofS n from rfl)
  have hsl := bx_take (hexF (shaF8 (actS n))) 16
  rw [HO.out] at hsl
  have bcat : ByteArray.mk #[5, 97, 99, 116, 111, 114] ++ ByteArray.mk (numL n).toArray = ByteArray.mk (actS n).toArray := ByteArray.mk_append_mk _ _
  have hll : (16 : Int) ≤ ((hexF (shaF8 (actS n))).length : Int) := by rw [hx]; decide
  have hnl9 := numL_len h1
  generalize hexF (shaF8 (actS n)) = X at *
  generalize shaF8 (actS n) = D at *
  generalize actS n = T at *
  generalize ofS n = O at *
  generalize hnl : numL n = NL at *
  clear hnl
  have hnl8 : (NL.length : Int) ≤ 9 := by omega
  have hnl7 : ¬ (9223372036854775807 : Int) < 6 + NL.length := by omega
  go_enter Tryz.func8, Tryz.ntmps8
  go_wp2_with fail
  refine (HT.out _).mono ?_; rintro e w1 ⟨rfl, b1⟩
  replace b1 := Lib.hid b1
  go_wp2_with fail
  refine (HN.out _).mono ?_; rintro e w2 ⟨rfl, b2⟩
  replace b2 := Lib.hid (b1.out.trans (b2.mono b1.out.size))
  go_wp2_with fail
  refine (HS.out _).mono ?_; rintro e w3 ⟨rfl, b3⟩
  replace b3 := Lib.hid (b2.out.trans (b3.mono b2.out.size))
  go_wp2_with fail
  refine (HX.out _).mono ?_; rintro e w4 ⟨rfl, b4⟩
  replace b4 := Lib.hid (b3.out.trans (b4.mono b3.out.size))
  go_wp2_with fail
  go_ret
  exact ⟨rfl, b4.out⟩
end Go.Proofs.YtllmgogcemannaaGreatDoor
