/- IdentBack's walk. -/
import Derived.Test.YtllmgogcemannaaDoorIdO
import Derived.Test.YtllmgogcemannaaDoorIdQ
namespace Go.Proofs.YtllmgogcemannaaDoor
open Go.RowKit

set_option maxRecDepth 100000 in
set_option maxHeartbeats 4000000 in
theorem back_any (s : List UInt8) (n : Int) (t : List UInt8) (w : World) (hL : LdI w) (hs : s.length ≤ 140737488355328) (ht : t.length ≤ 140737488355328) (h0 : -9223372036854775808 ≤ n) (h1 : n ≤ 9223372036854775807) :
    Calls Tryd.prog 4 #[.string ⟨s.toArray⟩, .int .i64 n, .string ⟨t.toArray⟩] w fun e w' => e = .returned (.bool true) ∧ Below w.heap.size w w' := by
  have HS := Lib.hid (small_any w hL)
  have HL := Lib.hid hL
  clear hL
  by_cases h1000 : (1000 : Int) < s.length
  · go_enter Tryd.func4, Tryd.ntmps4
    go_wp2_with fail
    refine HS.out.mono ?_; rintro e w1 ⟨rfl, b1⟩
    go_wp2_with fail
    go_ret
    exact ⟨rfl, b1⟩
  · by_cases h1001 : (1000 : Int) < t.length
    · go_enter Tryd.func4, Tryd.ntmps4
      go_wp2_with fail
      refine HS.out.mono ?_; rintro e w1 ⟨rfl, b1⟩
      go_wp2_with fail
      go_ret
      exact ⟨rfl, b1⟩
    · have hl : s.length ≤ 1000000 := by omega
      have hlt : t.length ≤ 1000000 := by omega
      have HH := Lib.hid (fun w1 (h : LdI w1) => handle_any s n w1 h hl h0 h1)
      have HP := Lib.hid (fun w1 (h : LdI w1) => iparse_any (handleS s n) w1 h (by have := handle_len s n; omega))
      have HN := Lib.hid (fun w1 => name_any s w1 hl)
      have HP2 := Lib.hid (fun w1 (h : LdI w1) => iparse_any t w1 h hlt)
      have HH2 := Lib.hid (fun w1 (h : LdI w1) => handle_any (ipA t) (ipN t) w1 h (by have := ipA_len t; omega) (by have := ipN_range t; omega) (by have := ipN_range t; omega))
      have HN2 := Lib.hid (fun w1 => name_any (ipA t) w1 (by have := ipA_len t; omega))
      cases hn : nameS s with
      | false =>
        have hok : handleOk s n = false := by unfold handleOk; rw [hn]; rfl
        rw [handle_bad hok] at HH HP
        rw [(ip_bad ip_nil).1, (ip_bad ip_nil).2, ip_nil] at HP
        rw [hn] at HN
        clear hok hn
        cases hk : ipOk t with
        | false =>
          rw [(ip_bad hk).1, (ip_bad hk).2, hk] at HP2
          clear hk HH2 HN2
          go_enter Tryd.func4, Tryd.ntmps4
          go_wp2_with fail
          refine HS.out.mono ?_; rintro e w1 ⟨rfl, b1⟩
          have L1 := Lib.hid (HL.out.later b1)
          replace b1 := Lib.hid b1
          go_wp2_with fail
          refine (HH.out _ L1.out).mono ?_; rintro e v1 ⟨rfl, b2⟩
          replace L1 := Lib.hid (L1.out.later b2)
          replace b1 := Lib.hid (b1.out.trans (b2.mono b1.out.size))
          clear b2
          go_wp2_with fail
          refine (HP.out _ L1.out).mono ?_; rintro e v2 ⟨rfl, b2⟩
          replace L1 := Lib.hid (L1.out.later b2)
          replace b1 := Lib.hid (b1.out.trans (b2.mono b1.out.size))
          clear b2
          go_wp2_with fail
          refine (HN.out _).mono ?_; rintro e v3 ⟨rfl, b2⟩
          replace L1 := Lib.hid (L1.out.later b2)
          replace b1 := Lib.hid (b1.out.trans (b2.mono b1.out.size))
          clear b2
          go_wp2_with fail
          refine (HP2.out _ L1.out).mono ?_; rintro e v4 ⟨rfl, b2⟩
          replace L1 := Lib.hid (L1.out.later b2)
          replace b1 := Lib.hid (b1.out.trans (b2.mono b1.out.size))
          clear b2
          go_wp2_with fail
          go_ret
          exact ⟨rfl, b1.out⟩
        | true =>
          have hb := ip_back hk
          rw [hb.1] at HH2
          rw [hb.2] at HN2
          rw [hk] at HP2
          clear hk hb
          generalize ipA t = a at *
          generalize ipN t = m at *
          go_enter Tryd.func4, Tryd.ntmps4
          go_wp2_with fail
          refine HS.out.mono ?_; rintro e w1 ⟨rfl, b1⟩
          have L1 := Lib.hid (HL.out.later b1)
          replace b1 := Lib.hid b1
          go_wp2_with fail
          refine (HH.out _ L1.out).mono ?_; rintro e v1 ⟨rfl, b2⟩
          replace L1 := Lib.hid (L1.out.later b2)
          replace b1 := Lib.hid (b1.out.trans (b2.mono b1.out.size))
          clear b2
          go_wp2_with fail
          refine (HP.out _ L1.out).mono ?_; rintro e v2 ⟨rfl, b2⟩
          replace L1 := Lib.hid (L1.out.later b2)
          replace b1 := Lib.hid (b1.out.trans (b2.mono b1.out.size))
          clear b2
          go_wp2_with fail
          refine (HN.out _).mono ?_; rintro e v3 ⟨rfl, b2⟩
          replace L1 := Lib.hid (L1.out.later b2)
          replace b1 := Lib.hid (b1.out.trans (b2.mono b1.out.size))
          clear b2
          go_wp2_with fail
          refine (HP2.out _ L1.out).mono ?_; rintro e v4 ⟨rfl, b2⟩
          replace L1 := Lib.hid (L1.out.later b2)
          replace b1 := Lib.hid (b1.out.trans (b2.mono b1.out.size))
          clear b2
          go_wp2_with fail
          refine (HH2.out _ L1.out).mono ?_; rintro e v5 ⟨rfl, b2⟩
          replace L1 := Lib.hid (L1.out.later b2)
          replace b1 := Lib.hid (b1.out.trans (b2.mono b1.out.size))
          clear b2
          go_wp2_with fail
          refine (HN2.out _).mono ?_; rintro e v6 ⟨rfl, b2⟩
          replace L1 := Lib.hid (L1.out.later b2)
          replace b1 := Lib.hid (b1.out.trans (b2.mono b1.out.size))
          clear b2
          go_wp2_with fail
          go_ret
          exact ⟨rfl, b1.out⟩
      | true =>
        rw [hn] at HN
        by_cases hneg : n < 0
        · have hok : handleOk s n = false := by unfold handleOk; rw [decide_eq_false (by omega : ¬ 0 ≤ n), Bool.and_false, Bool.false_and]
          rw [handle_bad hok] at HH HP
          rw [(ip_bad ip_nil).1, (ip_bad ip_nil).2, ip_nil] at HP
          clear hok hn
          cases hk : ipOk t with
          | false =>
            rw [(ip_bad hk).1, (ip_bad hk).2, hk] at HP2
            clear hk HH2 HN2
            go_enter Tryd.func4, Tryd.ntmps4
            go_wp2_with fail
            refine HS.out.mono ?_; rintro e w1 ⟨rfl, b1⟩
            have L1 := Lib.hid (HL.out.later b1)
            replace b1 := Lib.hid b1
            go_wp2_with fail
            refine (HH.out _ L1.out).mono ?_; rintro e v1 ⟨rfl, b2⟩
            replace L1 := Lib.hid (L1.out.later b2)
            replace b1 := Lib.hid (b1.out.trans (b2.mono b1.out.size))
            clear b2
            go_wp2_with fail
            refine (HP.out _ L1.out).mono ?_; rintro e v2 ⟨rfl, b2⟩
            replace L1 := Lib.hid (L1.out.later b2)
            replace b1 := Lib.hid (b1.out.trans (b2.mono b1.out.size))
            clear b2
            go_wp2_with fail
            refine (HN.out _).mono ?_; rintro e v3 ⟨rfl, b2⟩
            replace L1 := Lib.hid (L1.out.later b2)
            replace b1 := Lib.hid (b1.out.trans (b2.mono b1.out.size))
            clear b2
            go_wp2_with fail
            refine (HP2.out _ L1.out).mono ?_; rintro e v4 ⟨rfl, b2⟩
            replace L1 := Lib.hid (L1.out.later b2)
            replace b1 := Lib.hid (b1.out.trans (b2.mono b1.out.size))
            clear b2
            go_wp2_with fail
            go_ret
            exact ⟨rfl, b1.out⟩
          | true =>
            have hb := ip_back hk
            rw [hb.1] at HH2
            rw [hb.2] at HN2
            rw [hk] at HP2
            clear hk hb
            generalize ipA t = a at *
            generalize ipN t = m at *
            go_enter Tryd.func4, Tryd.ntmps4
            go_wp2_with fail
            refine HS.out.mono ?_; rintro e w1 ⟨rfl, b1⟩
            have L1 := Lib.hid (HL.out.later b1)
            replace b1 := Lib.hid b1
            go_wp2_with fail
            refine (HH.out _ L1.out).mono ?_; rintro e v1 ⟨rfl, b2⟩
            replace L1 := Lib.hid (L1.out.later b2)
            replace b1 := Lib.hid (b1.out.trans (b2.mono b1.out.size))
            clear b2
            go_wp2_with fail
            refine (HP.out _ L1.out).mono ?_; rintro e v2 ⟨rfl, b2⟩
            replace L1 := Lib.hid (L1.out.later b2)
            replace b1 := Lib.hid (b1.out.trans (b2.mono b1.out.size))
            clear b2
            go_wp2_with fail
            refine (HN.out _).mono ?_; rintro e v3 ⟨rfl, b2⟩
            replace L1 := Lib.hid (L1.out.later b2)
            replace b1 := Lib.hid (b1.out.trans (b2.mono b1.out.size))
            clear b2
            go_wp2_with fail
            refine (HP2.out _ L1.out).mono ?_; rintro e v4 ⟨rfl, b2⟩
            replace L1 := Lib.hid (L1.out.later b2)
            replace b1 := Lib.hid (b1.out.trans (b2.mono b1.out.size))
            clear b2
            go_wp2_with fail
            refine (HH2.out _ L1.out).mono ?_; rintro e v5 ⟨rfl, b2⟩
            replace L1 := Lib.hid (L1.out.later b2)
            replace b1 := Lib.hid (b1.out.trans (b2.mono b1.out.size))
            clear b2
            go_wp2_with fail
            refine (HN2.out _).mono ?_; rintro e v6 ⟨rfl, b2⟩
            replace L1 := Lib.hid (L1.out.later b2)
            replace b1 := Lib.hid (b1.out.trans (b2.mono b1.out.size))
            clear b2
            go_wp2_with fail
            go_ret
            exact ⟨rfl, b1.out⟩
        · by_cases h20 : (20 : Int) ≤ n
          · have hok : handleOk s n = false := by unfold handleOk; rw [decide_eq_false (by omega : ¬ n < 20), Bool.and_false]
            rw [handle_bad hok] at HH HP
            rw [(ip_bad ip_nil).1, (ip_bad ip_nil).2, ip_nil] at HP
            clear hok hn
            cases hk : ipOk t with
            | false =>
              rw [(ip_bad hk).1, (ip_bad hk).2, hk] at HP2
              clear hk HH2 HN2
              go_enter Tryd.func4, Tryd.ntmps4
              go_wp2_with fail
              refine HS.out.mono ?_; rintro e w1 ⟨rfl, b1⟩
              have L1 := Lib.hid (HL.out.later b1)
              replace b1 := Lib.hid b1
              go_wp2_with fail
              refine (HH.out _ L1.out).mono ?_; rintro e v1 ⟨rfl, b2⟩
              replace L1 := Lib.hid (L1.out.later b2)
              replace b1 := Lib.hid (b1.out.trans (b2.mono b1.out.size))
              clear b2
              go_wp2_with fail
              refine (HP.out _ L1.out).mono ?_; rintro e v2 ⟨rfl, b2⟩
              replace L1 := Lib.hid (L1.out.later b2)
              replace b1 := Lib.hid (b1.out.trans (b2.mono b1.out.size))
              clear b2
              go_wp2_with fail
              refine (HN.out _).mono ?_; rintro e v3 ⟨rfl, b2⟩
              replace L1 := Lib.hid (L1.out.later b2)
              replace b1 := Lib.hid (b1.out.trans (b2.mono b1.out.size))
              clear b2
              go_wp2_with fail
              refine (HP2.out _ L1.out).mono ?_; rintro e v4 ⟨rfl, b2⟩
              replace L1 := Lib.hid (L1.out.later b2)
              replace b1 := Lib.hid (b1.out.trans (b2.mono b1.out.size))
              clear b2
              go_wp2_with fail
              go_ret
              exact ⟨rfl, b1.out⟩
            | true =>
              have hb := ip_back hk
              rw [hb.1] at HH2
              rw [hb.2] at HN2
              rw [hk] at HP2
              clear hk hb
              generalize ipA t = a at *
              generalize ipN t = m at *
              go_enter Tryd.func4, Tryd.ntmps4
              go_wp2_with fail
              refine HS.out.mono ?_; rintro e w1 ⟨rfl, b1⟩
              have L1 := Lib.hid (HL.out.later b1)
              replace b1 := Lib.hid b1
              go_wp2_with fail
              refine (HH.out _ L1.out).mono ?_; rintro e v1 ⟨rfl, b2⟩
              replace L1 := Lib.hid (L1.out.later b2)
              replace b1 := Lib.hid (b1.out.trans (b2.mono b1.out.size))
              clear b2
              go_wp2_with fail
              refine (HP.out _ L1.out).mono ?_; rintro e v2 ⟨rfl, b2⟩
              replace L1 := Lib.hid (L1.out.later b2)
              replace b1 := Lib.hid (b1.out.trans (b2.mono b1.out.size))
              clear b2
              go_wp2_with fail
              refine (HN.out _).mono ?_; rintro e v3 ⟨rfl, b2⟩
              replace L1 := Lib.hid (L1.out.later b2)
              replace b1 := Lib.hid (b1.out.trans (b2.mono b1.out.size))
              clear b2
              go_wp2_with fail
              refine (HP2.out _ L1.out).mono ?_; rintro e v4 ⟨rfl, b2⟩
              replace L1 := Lib.hid (L1.out.later b2)
              replace b1 := Lib.hid (b1.out.trans (b2.mono b1.out.size))
              clear b2
              go_wp2_with fail
              refine (HH2.out _ L1.out).mono ?_; rintro e v5 ⟨rfl, b2⟩
              replace L1 := Lib.hid (L1.out.later b2)
              replace b1 := Lib.hid (b1.out.trans (b2.mono b1.out.size))
              clear b2
              go_wp2_with fail
              refine (HN2.out _).mono ?_; rintro e v6 ⟨rfl, b2⟩
              replace L1 := Lib.hid (L1.out.later b2)
              replace b1 := Lib.hid (b1.out.trans (b2.mono b1.out.size))
              clear b2
              go_wp2_with fail
              go_ret
              exact ⟨rfl, b1.out⟩
          · have hok : handleOk s n = true := by unfold handleOk; rw [hn, decide_eq_true (by omega : 0 ≤ n), decide_eq_true (by omega : n < 20)]; rfl
            have hp := ip_handle hok
            rw [hp.1, hp.2.1, hp.2.2] at HP
            clear hok hp
            generalize handleS s n = H at *
            have hg0 : 0 ≤ n := by omega
            have hg1 : n < 20 := by omega
            cases hk : ipOk t with
            | false =>
              rw [(ip_bad hk).1, (ip_bad hk).2, hk] at HP2
              clear hk HH2 HN2
              go_enter Tryd.func4, Tryd.ntmps4
              go_wp2_with fail
              refine HS.out.mono ?_; rintro e w1 ⟨rfl, b1⟩
              have L1 := Lib.hid (HL.out.later b1)
              replace b1 := Lib.hid b1
              go_wp2_with fail
              refine (HH.out _ L1.out).mono ?_; rintro e v1 ⟨rfl, b2⟩
              replace L1 := Lib.hid (L1.out.later b2)
              replace b1 := Lib.hid (b1.out.trans (b2.mono b1.out.size))
              clear b2
              go_wp2_with fail
              refine (HP.out _ L1.out).mono ?_; rintro e v2 ⟨rfl, b2⟩
              replace L1 := Lib.hid (L1.out.later b2)
              replace b1 := Lib.hid (b1.out.trans (b2.mono b1.out.size))
              clear b2
              go_wp2_with fail
              refine (HN.out _).mono ?_; rintro e v3 ⟨rfl, b2⟩
              replace L1 := Lib.hid (L1.out.later b2)
              replace b1 := Lib.hid (b1.out.trans (b2.mono b1.out.size))
              clear b2
              go_wp2_with fail
              refine (HP2.out _ L1.out).mono ?_; rintro e v4 ⟨rfl, b2⟩
              replace L1 := Lib.hid (L1.out.later b2)
              replace b1 := Lib.hid (b1.out.trans (b2.mono b1.out.size))
              clear b2
              go_wp2_with fail
              go_ret
              exact ⟨rfl, b1.out⟩
            | true =>
              have hb := ip_back hk
              rw [hb.1] at HH2
              rw [hb.2] at HN2
              rw [hk] at HP2
              clear hk hb
              generalize ipA t = a at *
              generalize ipN t = m at *
              go_enter Tryd.func4, Tryd.ntmps4
              go_wp2_with fail
              refine HS.out.mono ?_; rintro e w1 ⟨rfl, b1⟩
              have L1 := Lib.hid (HL.out.later b1)
              replace b1 := Lib.hid b1
              go_wp2_with fail
              refine (HH.out _ L1.out).mono ?_; rintro e v1 ⟨rfl, b2⟩
              replace L1 := Lib.hid (L1.out.later b2)
              replace b1 := Lib.hid (b1.out.trans (b2.mono b1.out.size))
              clear b2
              go_wp2_with fail
              refine (HP.out _ L1.out).mono ?_; rintro e v2 ⟨rfl, b2⟩
              replace L1 := Lib.hid (L1.out.later b2)
              replace b1 := Lib.hid (b1.out.trans (b2.mono b1.out.size))
              clear b2
              go_wp2_with fail
              refine (HN.out _).mono ?_; rintro e v3 ⟨rfl, b2⟩
              replace L1 := Lib.hid (L1.out.later b2)
              replace b1 := Lib.hid (b1.out.trans (b2.mono b1.out.size))
              clear b2
              go_wp2_with fail
              refine (HP2.out _ L1.out).mono ?_; rintro e v4 ⟨rfl, b2⟩
              replace L1 := Lib.hid (L1.out.later b2)
              replace b1 := Lib.hid (b1.out.trans (b2.mono b1.out.size))
              clear b2
              go_wp2_with fail
              refine (HH2.out _ L1.out).mono ?_; rintro e v5 ⟨rfl, b2⟩
              replace L1 := Lib.hid (L1.out.later b2)
              replace b1 := Lib.hid (b1.out.trans (b2.mono b1.out.size))
              clear b2
              go_wp2_with fail
              refine (HN2.out _).mono ?_; rintro e v6 ⟨rfl, b2⟩
              replace L1 := Lib.hid (L1.out.later b2)
              replace b1 := Lib.hid (b1.out.trans (b2.mono b1.out.size))
              clear b2
              go_wp2_with fail
              go_ret
              exact ⟨rfl, b1.out⟩
end Go.Proofs.YtllmgogcemannaaDoor
