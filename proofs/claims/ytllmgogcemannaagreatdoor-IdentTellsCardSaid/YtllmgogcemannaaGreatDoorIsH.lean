/- Package agoraref11: Handle. -/
import Derived.Test.YtllmgogcemannaaGreatDoorIsNm
import Derived.Test.YtllmgogcemannaaGreatDoorIsB
import Derived.Test.YtllmgogcemannaaGreatDoorIdQ
namespace Go.Proofs.YtllmgogcemannaaGreatDoor
open Go.RowKit

theorem rname_below (s : List UInt8) (w : World) (hs : s.length ≤ 1000000) : Calls Tryz.prog 12 #[.string ⟨s.toArray⟩] w fun e w' => e = .returned (.bool (nameS s)) ∧ Below w.heap.size w w' :=
  (rname_any s w hs).mono fun e w' h => ⟨h.1, by rw [← h.2]; exact Below.refl _ _⟩
set_option maxRecDepth 100000 in
set_option maxHeartbeats 4000000 in
theorem rhandle_any (s : List UInt8) (n : Int) (w : World) (hs : s.length ≤ 1000000) (h0 : -9223372036854775808 ≤ n) (h1 : n ≤ 9223372036854775807) :
    Calls Tryz.prog 14 #[.string ⟨s.toArray⟩, .int .i64 n] w fun e w' => e = .returned (.string ⟨(handleS s n).toArray⟩) ∧ Below w.heap.size w w' := by
  have HN := Lib.hid (rname_below s w hs)
  cases hn : nameS s with
  | false =>
    have HV := Lib.hid (show handleS s n = [] by unfold handleS handleOk; rw [hn]; rfl)
    rw [hn] at HN
    rw [HV.out]
    clear hn HV
    go_enter Tryz.func14, Tryz.ntmps14
    go_wp2_with fail
    refine HN.out.mono ?_; rintro e w1 ⟨rfl, b1⟩
    go_wp2_with fail
    go_ret
    exact ⟨rfl, b1⟩
  | true =>
    have hlen := nameS_len hn
    rw [hn] at HN
    by_cases hneg : n < 0
    · have HV := Lib.hid (show handleS s n = [] by unfold handleS handleOk; rw [decide_eq_false (by omega : ¬ 0 ≤ n), Bool.and_false, Bool.false_and]; rfl)
      rw [HV.out]
      clear hn HV
      go_enter Tryz.func14, Tryz.ntmps14
      go_wp2_with fail
      refine HN.out.mono ?_; rintro e w1 ⟨rfl, b1⟩
      go_wp2_with fail
      go_ret
      exact ⟨rfl, b1⟩
    · by_cases h20 : (19 : Int) < n
      · have HV := Lib.hid (show handleS s n = [] by unfold handleS handleOk; rw [decide_eq_false (by omega : ¬ n < 20), Bool.and_false]; rfl)
        rw [HV.out]
        clear hn HV
        go_enter Tryz.func14, Tryz.ntmps14
        go_wp2_with fail
        refine HN.out.mono ?_; rintro e w1 ⟨rfl, b1⟩
        go_wp2_with fail
        go_ret
        exact ⟨rfl, b1⟩
      · have HV := Lib.hid (show handleS s n = (s ++ [64]) ++ Lib.itoa n by unfold handleS handleOk; rw [hn, decide_eq_true (by omega : 0 ≤ n), decide_eq_true (by omega : n < 20)]; simp)
        have HT := Lib.hid (fun w1 => rtext_any n w1 h0 h1)
        have hit := itoa_len20 (by omega : 0 ≤ n) (by omega : n < 20)
        have bc1 : ByteArray.mk s.toArray ++ ByteArray.mk #[64] = ByteArray.mk (s ++ [64]).toArray := ByteArray.mk_append_mk _ _
        have bc2 : ByteArray.mk (s ++ [64]).toArray ++ ByteArray.mk (Lib.itoa n).toArray = ByteArray.mk ((s ++ [64]) ++ Lib.itoa n).toArray := ByteArray.mk_append_mk _ _
        rw [← HV.out] at bc2
        have hl1 : ¬ (9223372036854775807 : Int) < (s.length : Int) + 1 := by omega
        have hl2 : ¬ (9223372036854775807 : Int) < ((s ++ [64]).length : Int) + (Lib.itoa n).length := by rw [List.length_append]; show ¬ _ < ((s.length + 1 : Nat) : Int) + _; omega
        generalize handleS s n = V at *
        generalize s ++ [64] = S1 at *
        generalize Lib.itoa n = IT at *
        clear hn HV hlen hit hl1
        go_enter Tryz.func14, Tryz.ntmps14
        go_wp2_with fail
        refine HN.out.mono ?_; rintro e w1 ⟨rfl, b1⟩
        replace b1 := Lib.hid b1
        go_wp2_with fail
        refine (HT.out _).mono ?_; rintro e w2 ⟨rfl, rfl⟩
        go_wp2_with fail
        go_ret
        exact ⟨rfl, b1.out⟩
end Go.Proofs.YtllmgogcemannaaGreatDoor
