/- Package disk: Append. -/
import Derived.Test.YtnbaalllcddbkaaDisk3
import Derived.Deep.RegionWith
namespace Go.Proofs.Ytnbaalllcddbkaa
open Go.RowKit

def DS.put (S : DS) (f : Nat) (s : List UInt8) : DS := { S with by_ := fun g => if g = f then S.by_ f ++ s else S.by_ g }
def DS.appE (S : DS) (f : Int) (s : List UInt8) : Int := if S.mayR [f] = 0 ∧ 16777216 < (S.by_ f.toNat).length + s.length then 7 else S.mayR [f]
def DS.appS (S : DS) (f : Int) (s : List UInt8) : DS := if S.appE f s = 0 then S.put f.toNat s else S
def DS.appendS (S : DS) (f : Int) (s : List UInt8) : Int × DS := if S.endsR = true then (8, (S.endsS.appS f s).crash (S.endsS.appS f s).keep) else (S.endsS.appE f s, S.endsS.appS f s)

theorem DS.Ok.put {S : DS} (h : S.Ok) {f : Nat} {s : List UInt8} (hs : (S.by_ f).length + s.length ≤ 16777216) : (S.put f s).Ok := by
  obtain ⟨h1, h2⟩ := h
  refine ⟨fun g hg => ?_, h2⟩
  unfold DS.put
  simp only
  by_cases e : g = f
  · subst e; have := h1 g hg; simp; omega
  · rw [if_neg e]; exact h1 g hg

set_option maxRecDepth 100000 in
set_option maxHeartbeats 2000000 in
theorem append_any (b : Nat) (S : DS) (f : Int) (s : List UInt8) (w : World) (h : Dk w b S) (hok : S.Ok) (hs : s.length ≤ 4398046511104) :
    Calls Try.prog 14 #[.pointer (some ⟨b, 0, none⟩), .int .i64 f, .string ⟨s.toArray⟩] w fun e w' => e = .returned (.int .i64 (S.appendS f s).1) ∧ Dk w' b (S.appendS f s).2 ∧ w.grownBy w' (some b) := by
  have E := Lib.hid (ends_any b S w h hok.2.2.2.1 hok.2.2.2.2.1)
  have hT := hok.ends
  have hup' := @endsR_up S
  have HA := Lib.hid (show S.appendS f s = if S.endsR = true then (8, (S.endsS.appS f s).crash (S.endsS.appS f s).keep) else (S.endsS.appE f s, S.endsS.appS f s) from rfl)
  clear h hok
  generalize hTT : S.endsS = T at *
  clear hTT
  by_cases hm0 : T.mayR [f] = 0
  · obtain ⟨_, h0, h8⟩ := may_one hm0
    obtain ⟨k, rfl⟩ := Int.eq_ofNat_of_zero_le h0
    have hk : k < 8 := by omega
    have hby := (hT.1 k hk).2
    have hm := Lib.hid hm0
    by_cases hfit : (T.by_ k).length + s.length ≤ 16777216
    · have hE : T.appE (k : Int) s = 0 := by unfold DS.appE; rw [if_neg (by simp; omega)]; exact hm0
      have hS : T.appS (k : Int) s = T.put k s := by unfold DS.appS; rw [if_pos hE]; rfl
      rw [hE, hS] at HA
      have OK := Lib.hid (hT.put hfit)
      clear hE hS hm0 hT
      have hff : ¬ (16777216 : Int) - ((T.by_ k).length : Int) < (s.length : Int) := by omega
      cases hr : S.endsR
      · rw [hr] at E HA
        have HE := Lib.hid (show S.appendS (k : Int) s = (0, T.put k s) by rw [HA.out]; simp)
        clear hr HA hup'
        go_enter Try.func14, Try.ntmps14
        go_wp2_with fail
        refine E.out.mono ?_; rintro e w1 ⟨rfl, d1, g1⟩
        go_wp2_with fail
        refine (may_any b _ (some ⟨w1.heap.size, 0, none⟩) 1 1 [(k : Int)] _ (d1.alloc (.cells #[.int .i64 (k : Int)] 3)) (row_one w1 3 (k : Int)) rfl (by omega)).mono ?_
        rw [hm.out]
        rintro e w2 ⟨rfl, rfl⟩
        have dB := d1.alloc (.cells #[.int .i64 (k : Int)] 3)
        have gB := gr_alloc g1 (.cells #[.int .i64 (k : Int)] 3)
        generalize w1.alloc (.cells #[.int .i64 (k : Int)] 3) = wB at *
        clear d1 g1
        go_wp2_with fail
        refine (size_in b k _ _ dB hk (by omega)).mono ?_; rintro e w3 ⟨rfl, rfl⟩
        have c0 := dB.byte hk
        have z0 := dB.frozen (k * 2)
        have hk0 : (0 : Int) ≤ (k : Int) := by omega
        have hk1 : (k : Int) < 8 := by omega
        have hcat := ByteArray.mk_append_mk (T.by_ k) s
        have hsum : ¬ 9223372036854775807 < ((ByteArray.mk (T.by_ k).toArray).size + (ByteArray.mk s.toArray).size) := by simp [ByteArray.size]; omega
        have HD := Lib.hid (fun m => (dB.drewN m).setBy hk (T.by_ k ++ s))
        go_wp2_with fail
        go_region
        clear hcat hsum c0 z0
        go_wp2_with fail
        go_ret
        rw [HE.out]
        exact ⟨rfl, HD.out _, gr_own (gr_drewN gB _) (k * 2) _⟩
      · rw [hr] at E HA
        have HE := Lib.hid (show S.appendS (k : Int) s = (8, (T.put k s).crash (T.put k s).keep) by rw [HA.out]; simp)
        have hup := Lib.hid (hup' hr)
        clear hr HA hup'
        go_enter Try.func14, Try.ntmps14
        go_wp2_with fail
        refine E.out.mono ?_; rintro e w1 ⟨rfl, d1, g1⟩
        go_wp2_with fail
        refine (may_any b _ (some ⟨w1.heap.size, 0, none⟩) 1 1 [(k : Int)] _ (d1.alloc (.cells #[.int .i64 (k : Int)] 3)) (row_one w1 3 (k : Int)) rfl (by omega)).mono ?_
        rw [hm.out]
        rintro e w2 ⟨rfl, rfl⟩
        have dB := d1.alloc (.cells #[.int .i64 (k : Int)] 3)
        have gB := gr_alloc g1 (.cells #[.int .i64 (k : Int)] 3)
        generalize w1.alloc (.cells #[.int .i64 (k : Int)] 3) = wB at *
        clear d1 g1
        go_wp2_with fail
        refine (size_in b k _ _ dB hk (by omega)).mono ?_; rintro e w3 ⟨rfl, rfl⟩
        have c0 := dB.byte hk
        have z0 := dB.frozen (k * 2)
        have hk0 : (0 : Int) ≤ (k : Int) := by omega
        have hk1 : (k : Int) < 8 := by omega
        have hcat := ByteArray.mk_append_mk (T.by_ k) s
        have hsum : ¬ 9223372036854775807 < ((ByteArray.mk (T.by_ k).toArray).size + (ByteArray.mk s.toArray).size) := by simp [ByteArray.size]; omega
        have HD := Lib.hid (fun m => (dB.drewN m).setBy hk (T.by_ k ++ s))
        go_wp2_with fail
        go_region
        clear hcat hsum c0 z0
        have d3 : Dk (wB.setCell ⟨b, k * 2, none⟩ (.string ⟨(T.by_ k ++ s).toArray⟩)).drew b (T.put k s) := HD.out 1
        have g3 : w.grownBy (wB.setCell ⟨b, k * 2, none⟩ (.string ⟨(T.by_ k ++ s).toArray⟩)).drew (some b) := gr_own (gr_drewN gB 1) (k * 2) (.string ⟨(T.by_ k ++ s).toArray⟩)
        generalize (wB.setCell ⟨b, k * 2, none⟩ (.string ⟨(T.by_ k ++ s).toArray⟩)).drew = wC at *
        clear HD
        obtain ⟨A, c, c19, C⟩ := crash_keep b _ wC d3 OK.out hup.out
        have HC := Lib.hid C
        clear C
        go_wp2_with fail
        refine HC.out.mono ?_; rintro e w4 ⟨rfl, d4, g4⟩
        go_wp2_with fail
        go_ret
        rw [HE.out]
        exact ⟨rfl, d4, gr_trans g3 g4⟩
    · have hE : T.appE (k : Int) s = 7 := by unfold DS.appE; rw [if_pos ⟨hm0, by simp; omega⟩]
      have hS : T.appS (k : Int) s = T := by unfold DS.appS; rw [hE, if_neg (by omega)]
      rw [hE, hS] at HA
      have OK := Lib.hid hT
      clear hE hS hm0 hT
      have hff : (16777216 : Int) - ((T.by_ k).length : Int) < (s.length : Int) := by omega
      cases hr : S.endsR
      · rw [hr] at E HA
        have HE := Lib.hid (show S.appendS (k : Int) s = (7, T) by rw [HA.out]; simp)
        clear hr HA hup'
        go_enter Try.func14, Try.ntmps14
        go_wp2_with fail
        refine E.out.mono ?_; rintro e w1 ⟨rfl, d1, g1⟩
        go_wp2_with fail
        refine (may_any b _ (some ⟨w1.heap.size, 0, none⟩) 1 1 [(k : Int)] _ (d1.alloc (.cells #[.int .i64 (k : Int)] 3)) (row_one w1 3 (k : Int)) rfl (by omega)).mono ?_
        rw [hm.out]
        rintro e w2 ⟨rfl, rfl⟩
        have dB := d1.alloc (.cells #[.int .i64 (k : Int)] 3)
        have gB := gr_alloc g1 (.cells #[.int .i64 (k : Int)] 3)
        generalize w1.alloc (.cells #[.int .i64 (k : Int)] 3) = wB at *
        clear d1 g1
        go_wp2_with fail
        refine (size_in b k _ _ dB hk (by omega)).mono ?_; rintro e w3 ⟨rfl, rfl⟩
        go_wp2_with fail
        go_ret
        rw [HE.out]
        exact ⟨rfl, dB, gB⟩
      · rw [hr] at E HA
        have HE := Lib.hid (show S.appendS (k : Int) s = (8, T.crash T.keep) by rw [HA.out]; simp)
        have hup := Lib.hid (hup' hr)
        clear hr HA hup'
        go_enter Try.func14, Try.ntmps14
        go_wp2_with fail
        refine E.out.mono ?_; rintro e w1 ⟨rfl, d1, g1⟩
        go_wp2_with fail
        refine (may_any b _ (some ⟨w1.heap.size, 0, none⟩) 1 1 [(k : Int)] _ (d1.alloc (.cells #[.int .i64 (k : Int)] 3)) (row_one w1 3 (k : Int)) rfl (by omega)).mono ?_
        rw [hm.out]
        rintro e w2 ⟨rfl, rfl⟩
        have dB := d1.alloc (.cells #[.int .i64 (k : Int)] 3)
        have gB := gr_alloc g1 (.cells #[.int .i64 (k : Int)] 3)
        generalize w1.alloc (.cells #[.int .i64 (k : Int)] 3) = wB at *
        clear d1 g1
        go_wp2_with fail
        refine (size_in b k _ _ dB hk (by omega)).mono ?_; rintro e w3 ⟨rfl, rfl⟩
        obtain ⟨A, c, c19, C⟩ := crash_keep b _ wB dB OK.out hup.out
        have HC := Lib.hid C
        clear C
        go_wp2_with fail
        refine HC.out.mono ?_; rintro e w4 ⟨rfl, d4, g4⟩
        go_wp2_with fail
        go_ret
        rw [HE.out]
        exact ⟨rfl, d4, gr_trans gB g4⟩
  · have hE : T.appE f s = T.mayR [f] := by unfold DS.appE; rw [if_neg (fun h => hm0 h.1)]
    have hS : T.appS f s = T := by unfold DS.appS; rw [hE, if_neg hm0]
    rw [hE, hS] at HA
    have OK := Lib.hid hT
    obtain ⟨R, hR⟩ : ∃ R, R = T.mayR [f] := ⟨_, rfl⟩
    rw [← hR] at HA hm0
    have hm := Lib.hid hR.symm
    have hb : (R == 0) = false := by simpa using hm0
    clear hE hS hm0 hT hR
    cases hr : S.endsR
    · rw [hr] at E HA
      have HE := Lib.hid (show S.appendS f s = (R, T) by rw [HA.out]; simp)
      clear hr HA hup'
      go_enter Try.func14, Try.ntmps14
      go_wp2_with fail
      refine E.out.mono ?_; rintro e w1 ⟨rfl, d1, g1⟩
      go_wp2_with fail
      refine (may_any b _ (some ⟨w1.heap.size, 0, none⟩) 1 1 [f] _ (d1.alloc (.cells #[.int .i64 f] 3)) (row_one w1 3 f) rfl (by omega)).mono ?_
      rw [hm.out]
      rintro e w2 ⟨rfl, rfl⟩
      have dB := d1.alloc (.cells #[.int .i64 f] 3)
      have gB := gr_alloc g1 (.cells #[.int .i64 f] 3)
      generalize w1.alloc (.cells #[.int .i64 f] 3) = wB at *
      clear d1 g1
      go_wp2_with fail
      go_ret
      rw [HE.out]
      exact ⟨rfl, dB, gB⟩
    · rw [hr] at E HA
      have HE := Lib.hid (show S.appendS f s = (8, T.crash T.keep) by rw [HA.out]; simp)
      have hup := Lib.hid (hup' hr)
      clear hr HA hup'
      go_enter Try.func14, Try.ntmps14
      go_wp2_with fail
      refine E.out.mono ?_; rintro e w1 ⟨rfl, d1, g1⟩
      go_wp2_with fail
      refine (may_any b _ (some ⟨w1.heap.size, 0, none⟩) 1 1 [f] _ (d1.alloc (.cells #[.int .i64 f] 3)) (row_one w1 3 f) rfl (by omega)).mono ?_
      rw [hm.out]
      rintro e w2 ⟨rfl, rfl⟩
      have dB := d1.alloc (.cells #[.int .i64 f] 3)
      have gB := gr_alloc g1 (.cells #[.int .i64 f] 3)
      generalize w1.alloc (.cells #[.int .i64 f] 3) = wB at *
      clear d1 g1
      obtain ⟨A, c, c19, C⟩ := crash_keep b _ wB dB OK.out hup.out
      have HC := Lib.hid C
      clear C
      go_wp2_with fail
      refine HC.out.mono ?_; rintro e w4 ⟨rfl, d4, g4⟩
      go_wp2_with fail
      go_ret
      rw [HE.out]
      exact ⟨rfl, d4, gr_trans gB g4⟩

end Go.Proofs.Ytnbaalllcddbkaa
