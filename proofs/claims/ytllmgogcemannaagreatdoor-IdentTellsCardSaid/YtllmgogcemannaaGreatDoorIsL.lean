/- IdentTells' walk. -/
import Derived.Test.YtllmgogcemannaaGreatDoorIdO
import Derived.Test.YtllmgogcemannaaGreatDoorIsO
import Derived.Test.YtllmgogcemannaaGreatDoorIsP
namespace Go.Proofs.YtllmgogcemannaaGreatDoor
open Go.RowKit

set_option maxRecDepth 100000 in
set_option maxHeartbeats 4000000 in
theorem tells_any (p : Int) (s : List UInt8) (srv : Int) (w : World) (hL : LdI w) (hs : s.length ≤ 140737488355328) (hp : p < 9223372036854775808) (h0 : -9223372036854775808 ≤ srv) (h1 : srv ≤ 9223372036854775807) :
    Calls Tryz.prog 3 #[.int .i64 p, .string ⟨s.toArray⟩, .int .i64 srv] w fun e w' => e = .returned (.bool true) ∧ Below w.heap.size w w' := by
  have HS := Lib.hid (small_any w hL)
  have HL := Lib.hid hL
  clear hL
  by_cases h1000 : (1000 : Int) < s.length
  · go_enter Tryz.func3, Tryz.ntmps3
    go_wp2_with fail
    refine HS.out.mono ?_; rintro e w1 ⟨rfl, b1⟩
    go_wp2_with fail
    go_ret
    exact ⟨rfl, b1⟩
  · have hl : s.length ≤ 1000000 := by omega
    have HP := Lib.hid (fun w1 (h : LdI w1) => iparse_any s w1 h hl)
    have HQ := Lib.hid (fun w1 => rparse_any s w1 hl)
    have HO := Lib.hid (fun w1 => of_any p w1 hp)
    have HO2 := Lib.hid (fun w1 => rof_any p w1 hp)
    have HR := Lib.hid (fun w1 => right_any s w1 hs)
    have HR2 := Lib.hid (fun w1 => rright_any s w1 hs)
    have HN := Lib.hid (fun w1 => name_any s w1 hl)
    have HN2 := Lib.hid (fun w1 => rname_any s w1 hl)
    have HH := Lib.hid (fun w1 (h : LdI w1) => handle_any s srv w1 h hl h0 h1)
    have HH2 := Lib.hid (fun w1 => rhandle_any s srv w1 hl h0 h1)
    generalize ipA s = a at *
    generalize ipN s = n at *
    generalize ipOk s = ok at *
    generalize ofS p = O at *
    generalize rightS s = r at *
    generalize nameS s = nm at *
    generalize handleS s srv = H at *
    have e1 : (a == a) = true := by simp
    have e2 : (O == O) = true := by simp
    have e3 : (H == H) = true := by simp
    clear hl
    go_enter Tryz.func3, Tryz.ntmps3
    go_wp2_with fail
    refine HS.out.mono ?_; rintro e w1 ⟨rfl, b1⟩
    have L1 := Lib.hid (HL.out.later b1)
    replace b1 := Lib.hid b1
    go_wp2_with fail
    refine (HP.out _ L1.out).mono ?_; rintro e vv ⟨rfl, b2⟩
    replace L1 := Lib.hid (L1.out.later b2)
    replace b1 := Lib.hid (b1.out.trans (b2.mono b1.out.size))
    clear b2
    go_wp2_with fail
    refine (HQ.out _).mono ?_; rintro e vv ⟨rfl, b2⟩
    replace L1 := Lib.hid (L1.out.later b2)
    replace b1 := Lib.hid (b1.out.trans (b2.mono b1.out.size))
    clear b2
    go_wp2_with fail
    refine (HO.out _).mono ?_; rintro e vv ⟨rfl, b2⟩
    replace L1 := Lib.hid (L1.out.later b2)
    replace b1 := Lib.hid (b1.out.trans (b2.mono b1.out.size))
    clear b2
    go_wp2_with fail
    refine (HO2.out _).mono ?_; rintro e vv ⟨rfl, b2⟩
    replace L1 := Lib.hid (L1.out.later b2)
    replace b1 := Lib.hid (b1.out.trans (b2.mono b1.out.size))
    clear b2
    go_wp2_with fail
    refine (HR.out _).mono ?_; rintro e vv ⟨rfl, b2⟩
    replace L1 := Lib.hid (L1.out.later b2)
    replace b1 := Lib.hid (b1.out.trans (b2.mono b1.out.size))
    clear b2
    go_wp2_with fail
    refine (HR2.out _).mono ?_; rintro e vv ⟨rfl, rfl⟩
    go_wp2_with fail
    refine (HN.out _).mono ?_; rintro e vv ⟨rfl, b2⟩
    replace L1 := Lib.hid (L1.out.later b2)
    replace b1 := Lib.hid (b1.out.trans (b2.mono b1.out.size))
    clear b2
    go_wp2_with fail
    refine (HN2.out _).mono ?_; rintro e vv ⟨rfl, rfl⟩
    go_wp2_with fail
    refine (HH.out _ L1.out).mono ?_; rintro e vv ⟨rfl, b2⟩
    replace L1 := Lib.hid (L1.out.later b2)
    replace b1 := Lib.hid (b1.out.trans (b2.mono b1.out.size))
    clear b2
    go_wp2_with fail
    refine (HH2.out _).mono ?_; rintro e vv ⟨rfl, b2⟩
    replace L1 := Lib.hid (L1.out.later b2)
    replace b1 := Lib.hid (b1.out.trans (b2.mono b1.out.size))
    clear b2
    go_wp2_with fail
    go_ret
    exact ⟨rfl, b1.out⟩
end Go.Proofs.YtllmgogcemannaaGreatDoor
