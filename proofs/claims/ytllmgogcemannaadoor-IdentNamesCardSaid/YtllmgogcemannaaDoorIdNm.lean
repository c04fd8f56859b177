/- IdentNames' walk. -/
import Derived.Test.YtllmgogcemannaaDoorIdO
import Derived.Test.YtllmgogcemannaaDoorIdQ
namespace Go.Proofs.YtllmgogcemannaaDoor
open Go.RowKit

set_option maxRecDepth 100000 in
set_option maxHeartbeats 4000000 in
theorem names_any (s : List UInt8) (n srv : Int) (w : World) (hL : LdI w) (hs : s.length ≤ 140737488355328) (h0 : -9223372036854775808 ≤ srv) (h1 : srv ≤ 9223372036854775807) (hn0 : -9223372036854775808 ≤ n) (hn1 : n ≤ 9223372036854775807) :
    Calls Tryd.prog 7 #[.string ⟨s.toArray⟩, .int .i64 n, .int .i64 srv] w fun e w' => e = .returned (.bool true) ∧ Below w.heap.size w w' := by
  have HS := Lib.hid (small_any w hL)
  have HL := Lib.hid hL
  clear hL
  by_cases h1000 : (1000 : Int) < s.length
  · go_enter Tryd.func7, Tryd.ntmps7
    go_wp2_with fail
    refine HS.out.mono ?_; rintro e w1 ⟨rfl, b1⟩
    go_wp2_with fail
    go_ret
    exact ⟨rfl, b1⟩
  · have hl : s.length ≤ 1000000 := by omega
    have HN := Lib.hid (fun w1 => name_any s w1 hl)
    cases hnm : nameS s with
    | false =>
      rw [hnm] at HN
      clear hnm hl
      go_enter Tryd.func7, Tryd.ntmps7
      go_wp2_with fail
      refine HS.out.mono ?_; rintro e w1 ⟨rfl, b1⟩
      replace b1 := Lib.hid b1
      go_wp2_with fail
      refine (HN.out _).mono ?_; rintro e w2 ⟨rfl, b2⟩
      replace b1 := Lib.hid (b1.out.trans (b2.mono b1.out.size))
      clear b2
      go_wp2_with fail
      go_ret
      exact ⟨rfl, b1.out⟩
    | true =>
      rw [hnm] at HN
      have hne : (s == []) = false := by rw [beq_eq_false_iff_ne]; exact name_ne hnm
      have hpos : 1 ≤ s.length := by have := name_ne hnm; cases s with | nil => exact absurd rfl this | cons c l => simp
      have HP := Lib.hid (fun w1 (h : LdI w1) => iparse_any s w1 h hl)
      rw [(ip_bad (name_not_handle hnm)).1, (ip_bad (name_not_handle hnm)).2, name_not_handle hnm] at HP
      have HH := Lib.hid (fun w1 (h : LdI w1) => handle_any s srv w1 h hl h0 h1)
      have HM := Lib.hid (fun w1 => name_any (handleS s srv) w1 (by have := handle_len s srv; omega))
      rw [handle_not_name s srv] at HM
      have HT := Lib.hid (fun (m : Nat) (hm : 1 ≤ m) w1 => (name_any (s.take m) w1 (by rw [List.length_take]; omega)).mono (fun e w' h => (⟨by rw [h.1, name_take hnm hm], h.2⟩ : e = Ending.returned (.bool true) ∧ Below w1.heap.size w1 w')))
      have HBX := Lib.hid (bx_take s)
      clear hnm hl
      generalize handleS s srv = H at *
      by_cases hc : 1 ≤ n ∧ n ≤ s.length
      · obtain ⟨hc1, hc2⟩ := hc
        obtain ⟨m, rfl⟩ := Int.eq_ofNat_of_zero_le (by omega : 0 ≤ n)
        have g1 : ¬ (m : Int) < 1 := by omega
        have g2 : ¬ (s.length : Int) < m := by omega
        have g3 : (m : Int) ≤ s.length := by omega
        have g4 : 0 ≤ (m : Int) := by omega
        have HTm := Lib.hid (HT.out m (by omega))
        have hbx := HBX.out m
        clear hc1 hc2 HT
        go_enter Tryd.func7, Tryd.ntmps7
        go_wp2_with fail
        refine HS.out.mono ?_; rintro e w1 ⟨rfl, b1⟩
        have L1 := Lib.hid (HL.out.later b1)
        replace b1 := Lib.hid b1
        go_wp2_with fail
        refine (HN.out _).mono ?_; rintro e w2 ⟨rfl, b2⟩
        replace L1 := Lib.hid (L1.out.later b2)
        replace b1 := Lib.hid (b1.out.trans (b2.mono b1.out.size))
        clear b2
        go_wp2_with fail
        refine (HP.out _ L1.out).mono ?_; rintro e w3 ⟨rfl, b2⟩
        replace L1 := Lib.hid (L1.out.later b2)
        replace b1 := Lib.hid (b1.out.trans (b2.mono b1.out.size))
        clear b2
        go_wp2_with fail
        refine (HTm.out _).mono ?_; rintro e w4 ⟨rfl, b2⟩
        replace L1 := Lib.hid (L1.out.later b2)
        replace b1 := Lib.hid (b1.out.trans (b2.mono b1.out.size))
        clear b2
        go_wp2_with fail
        refine (HH.out _ L1.out).mono ?_; rintro e w5 ⟨rfl, b2⟩
        replace b1 := Lib.hid (b1.out.trans (b2.mono b1.out.size))
        clear b2
        go_wp2_with fail
        refine (HM.out _).mono ?_; rintro e w6 ⟨rfl, b2⟩
        replace b1 := Lib.hid (b1.out.trans (b2.mono b1.out.size))
        clear b2
        go_wp2_with fail
        go_ret
        exact ⟨rfl, b1.out⟩
      · have HTm := Lib.hid (HT.out 1 (Nat.le_refl _))
        have hbx := HBX.out 1
        have g3 : (1 : Int) ≤ s.length := by omega
        clear HT
        by_cases hc1 : n < 1
        · clear hc
          go_enter Tryd.func7, Tryd.ntmps7
          go_wp2_with fail
          refine HS.out.mono ?_; rintro e w1 ⟨rfl, b1⟩
          have L1 := Lib.hid (HL.out.later b1)
          replace b1 := Lib.hid b1
          go_wp2_with fail
          refine (HN.out _).mono ?_; rintro e w2 ⟨rfl, b2⟩
          replace L1 := Lib.hid (L1.out.later b2)
          replace b1 := Lib.hid (b1.out.trans (b2.mono b1.out.size))
          clear b2
          go_wp2_with fail
          refine (HP.out _ L1.out).mono ?_; rintro e w3 ⟨rfl, b2⟩
          replace L1 := Lib.hid (L1.out.later b2)
          replace b1 := Lib.hid (b1.out.trans (b2.mono b1.out.size))
          clear b2
          go_wp2_with fail
          refine (HTm.out _).mono ?_; rintro e w4 ⟨rfl, b2⟩
          replace L1 := Lib.hid (L1.out.later b2)
          replace b1 := Lib.hid (b1.out.trans (b2.mono b1.out.size))
          clear b2
          go_wp2_with fail
          refine (HH.out _ L1.out).mono ?_; rintro e w5 ⟨rfl, b2⟩
          replace b1 := Lib.hid (b1.out.trans (b2.mono b1.out.size))
          clear b2
          go_wp2_with fail
          refine (HM.out _).mono ?_; rintro e w6 ⟨rfl, b2⟩
          replace b1 := Lib.hid (b1.out.trans (b2.mono b1.out.size))
          clear b2
          go_wp2_with fail
          go_ret
          exact ⟨rfl, b1.out⟩
        · have g2 : (s.length : Int) < n := by omega
          clear hc
          go_enter Tryd.func7, Tryd.ntmps7
          go_wp2_with fail
          refine HS.out.mono ?_; rintro e w1 ⟨rfl, b1⟩
          have L1 := Lib.hid (HL.out.later b1)
          replace b1 := Lib.hid b1
          go_wp2_with fail
          refine (HN.out _).mono ?_; rintro e w2 ⟨rfl, b2⟩
          replace L1 := Lib.hid (L1.out.later b2)
          replace b1 := Lib.hid (b1.out.trans (b2.mono b1.out.size))
          clear b2
          go_wp2_with fail
          refine (HP.out _ L1.out).mono ?_; rintro e w3 ⟨rfl, b2⟩
          replace L1 := Lib.hid (L1.out.later b2)
          replace b1 := Lib.hid (b1.out.trans (b2.mono b1.out.size))
          clear b2
          go_wp2_with fail
          refine (HTm.out _).mono ?_; rintro e w4 ⟨rfl, b2⟩
          replace L1 := Lib.hid (L1.out.later b2)
          replace b1 := Lib.hid (b1.out.trans (b2.mono b1.out.size))
          clear b2
          go_wp2_with fail
          refine (HH.out _ L1.out).mono ?_; rintro e w5 ⟨rfl, b2⟩
          replace b1 := Lib.hid (b1.out.trans (b2.mono b1.out.size))
          clear b2
          go_wp2_with fail
          refine (HM.out _).mono ?_; rintro e w6 ⟨rfl, b2⟩
          replace b1 := Lib.hid (b1.out.trans (b2.mono b1.out.size))
          clear b2
          go_wp2_with fail
          go_ret
          exact ⟨rfl, b1.out⟩
end Go.Proofs.YtllmgogcemannaaDoor
