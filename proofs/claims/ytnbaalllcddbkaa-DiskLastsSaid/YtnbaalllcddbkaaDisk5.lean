/- Package disk: Cut, Turn, Copy, Arm. -/
import Derived.Test.YtnbaalllcddbkaaDisk3
import Derived.Deep.RegionWith
namespace Go.Proofs.Ytnbaalllcddbkaa
open Go.RowKit

def DS.cutS (S : DS) (f n : Int) : Int × DS :=
  if S.tick.mayR [f] ≠ 0 then (S.tick.mayR [f], S.tick) else if n < 0 ∨ ((S.tick.by_ f.toNat).length : Int) < n then (1, S.tick)
  else (0, { S.tick with by_ := fun g => if g = f.toNat then (S.tick.by_ g).take n.toNat else S.tick.by_ g, la := fun g => if g = f.toNat then min (S.tick.la g) n.toNat else S.tick.la g })

set_option maxRecDepth 100000 in
set_option maxHeartbeats 2000000 in
theorem cut_any (b : Nat) (S : DS) (f n : Int) (w : World) (h : Dk w b S) (hok : S.Ok) :
    Calls Try.prog 29 #[.pointer (some ⟨b, 0, none⟩), .int .i64 f, .int .i64 n] w fun e w' => e = .returned (.int .i64 (S.cutS f n).1) ∧ Dk w' b (S.cutS f n).2 ∧ w.grownBy w' (some b) := by
  have E := Lib.hid (ends_any b S w h hok.2.2.2.1 hok.2.2.2.2.1)
  have hT := hok.tick
  have OT := Lib.hid hT.1
  have hTe : (S.endsR = true → S.tick = S.endsS.crash S.endsS.keep) ∧ (S.endsR = false → S.tick = S.endsS) := ⟨fun hr => by simp [DS.tick, hr], fun hr => by simp [DS.tick, hr]⟩
  have TE := Lib.hid hTe
  have OE := Lib.hid hok.ends
  have hlost := hT.2.1
  have hlost' := hT.2.2.1
  clear h hTe hok hT
  have HF := Lib.hid (show S.cutS f n = if S.tick.mayR [f] ≠ 0 then (S.tick.mayR [f], S.tick) else if n < 0 ∨ ((S.tick.by_ f.toNat).length : Int) < n then (1, S.tick)
    else (0, { S.tick with by_ := fun g => if g = f.toNat then (S.tick.by_ g).take n.toNat else S.tick.by_ g, la := fun g => if g = f.toNat then min (S.tick.la g) n.toNat else S.tick.la g }) from rfl)
  clear hlost hlost'
  by_cases hm : S.tick.mayR [f] = 0
  · obtain ⟨_, h0, h8⟩ := may_one hm
    have hm' := Lib.hid hm
    obtain ⟨k, rfl⟩ := Int.eq_ofNat_of_zero_le h0
    have hk : k < 8 := by omega
    have hby := (OT.out k hk).2
    have hla := (OT.out k hk).1
    by_cases hn0 : n < 0
    · have HE := Lib.hid (show S.cutS (k : Int) n = (1, S.tick) by rw [HF.out, if_neg (by simp [hm]), if_pos (.inl hn0)])
      clear hm HF
      generalize hTT : S.tick = T at *
      clear hTT
      cases hr : S.endsR
      · rw [hr] at E
        have ht := TE.out.2 hr
        rw [← ht] at E
        clear hr ht
        go_enter Try.func29, Try.ntmps29
        go_wp2_with fail
        refine E.out.mono ?_; rintro e wA ⟨rfl, dA, gA⟩
        go_wp2_with fail
        refine (may_any b _ (some ⟨wA.heap.size, 0, none⟩) 1 1 [(k : Int)] _ (dA.alloc (.cells #[.int .i64 (k : Int)] 3)) (row_one wA 3 (k : Int)) rfl (by omega)).mono ?_
        rw [hm'.out]
        rintro e w2 ⟨rfl, rfl⟩
        have dB := dA.alloc (.cells #[.int .i64 (k : Int)] 3)
        have gB := gr_alloc gA (.cells #[.int .i64 (k : Int)] 3)
        generalize wA.alloc (.cells #[.int .i64 (k : Int)] 3) = wB at *
        clear dA gA
        have c0 := dB.byte hk
        have c1 := dB.last hk
        have z0 := dB.frozen (k * 2)
        have z1 := dB.frozen (k * 2 + 1)
        have hk0 : (0 : Int) ≤ (k : Int) := by omega
        have hk1 : (k : Int) < 8 := by omega
        go_wp2_with fail
        go_ret
        rw [HE.out]
        exact ⟨rfl, dB, gB⟩
      · rw [hr] at E
        have ht := Lib.hid (TE.out.1 hr)
        have hup := endsR_up hr
        have CK := Lib.hid (fun w1 d1 => crash_keep b S.endsS w1 d1 OE.out hup)
        clear hr hup
        go_enter Try.func29, Try.ntmps29
        go_wp2_with fail
        refine E.out.mono ?_; rintro e w1 ⟨rfl, d1, g1⟩
        obtain ⟨A, c, c19, C⟩ := CK.out w1 d1
        have HC := Lib.hid C
        clear C
        go_wp2_with fail
        refine HC.out.mono ?_; rintro e wA ⟨rfl, d2, g2⟩
        rw [← ht.out] at d2
        have dA := d2
        have gA := gr_trans g1 g2
        clear c19 d2 g1 g2 d1 HC
        go_wp2_with fail
        refine (may_any b _ (some ⟨wA.heap.size, 0, none⟩) 1 1 [(k : Int)] _ (dA.alloc (.cells #[.int .i64 (k : Int)] 3)) (row_one wA 3 (k : Int)) rfl (by omega)).mono ?_
        rw [hm'.out]
        rintro e w2 ⟨rfl, rfl⟩
        have dB := dA.alloc (.cells #[.int .i64 (k : Int)] 3)
        have gB := gr_alloc gA (.cells #[.int .i64 (k : Int)] 3)
        generalize wA.alloc (.cells #[.int .i64 (k : Int)] 3) = wB at *
        clear dA gA
        have c0 := dB.byte hk
        have c1 := dB.last hk
        have z0 := dB.frozen (k * 2)
        have z1 := dB.frozen (k * 2 + 1)
        have hk0 : (0 : Int) ≤ (k : Int) := by omega
        have hk1 : (k : Int) < 8 := by omega
        go_wp2_with fail
        go_ret
        rw [HE.out]
        exact ⟨rfl, dB, gB⟩
    · obtain ⟨m, rfl⟩ := Int.eq_ofNat_of_zero_le (by omega : 0 ≤ n)
      clear hn0
      by_cases hbig : (S.tick.by_ k).length < m
      · have HE := Lib.hid (show S.cutS (k : Int) (m : Int) = (1, S.tick) by rw [HF.out, if_neg (by simp [hm]), if_pos (.inr (by simp; omega))])
        clear hm HF
        generalize hTT : S.tick = T at *
        clear hTT
        cases hr : S.endsR
        · rw [hr] at E
          have ht := TE.out.2 hr
          rw [← ht] at E
          clear hr ht
          go_enter Try.func29, Try.ntmps29
          go_wp2_with fail
          refine E.out.mono ?_; rintro e wA ⟨rfl, dA, gA⟩
          go_wp2_with fail
          refine (may_any b _ (some ⟨wA.heap.size, 0, none⟩) 1 1 [(k : Int)] _ (dA.alloc (.cells #[.int .i64 (k : Int)] 3)) (row_one wA 3 (k : Int)) rfl (by omega)).mono ?_
          rw [hm'.out]
          rintro e w2 ⟨rfl, rfl⟩
          have dB := dA.alloc (.cells #[.int .i64 (k : Int)] 3)
          have gB := gr_alloc gA (.cells #[.int .i64 (k : Int)] 3)
          generalize wA.alloc (.cells #[.int .i64 (k : Int)] 3) = wB at *
          clear dA gA
          have c0 := dB.byte hk
          have c1 := dB.last hk
          have z0 := dB.frozen (k * 2)
          have z1 := dB.frozen (k * 2 + 1)
          have hk0 : (0 : Int) ≤ (k : Int) := by omega
          have hk1 : (k : Int) < 8 := by omega
          go_wp2_with fail
          go_ret
          rw [HE.out]
          exact ⟨rfl, dB, gB⟩
        · rw [hr] at E
          have ht := Lib.hid (TE.out.1 hr)
          have hup := endsR_up hr
          have CK := Lib.hid (fun w1 d1 => crash_keep b S.endsS w1 d1 OE.out hup)
          clear hr hup
          go_enter Try.func29, Try.ntmps29
          go_wp2_with fail
          refine E.out.mono ?_; rintro e w1 ⟨rfl, d1, g1⟩
          obtain ⟨A, c, c19, C⟩ := CK.out w1 d1
          have HC := Lib.hid C
          clear C
          go_wp2_with fail
          refine HC.out.mono ?_; rintro e wA ⟨rfl, d2, g2⟩
          rw [← ht.out] at d2
          have dA := d2
          have gA := gr_trans g1 g2
          clear c19 d2 g1 g2 d1 HC
          go_wp2_with fail
          refine (may_any b _ (some ⟨wA.heap.size, 0, none⟩) 1 1 [(k : Int)] _ (dA.alloc (.cells #[.int .i64 (k : Int)] 3)) (row_one wA 3 (k : Int)) rfl (by omega)).mono ?_
          rw [hm'.out]
          rintro e w2 ⟨rfl, rfl⟩
          have dB := dA.alloc (.cells #[.int .i64 (k : Int)] 3)
          have gB := gr_alloc gA (.cells #[.int .i64 (k : Int)] 3)
          generalize wA.alloc (.cells #[.int .i64 (k : Int)] 3) = wB at *
          clear dA gA
          have c0 := dB.byte hk
          have c1 := dB.last hk
          have z0 := dB.frozen (k * 2)
          have z1 := dB.frozen (k * 2 + 1)
          have hk0 : (0 : Int) ≤ (k : Int) := by omega
          have hk1 : (k : Int) < 8 := by omega
          go_wp2_with fail
          go_ret
          rw [HE.out]
          exact ⟨rfl, dB, gB⟩
      · have HE0 := Lib.hid (show S.cutS (k : Int) (m : Int) = (0, { S.tick with by_ := fun g => if g = k then (S.tick.by_ g).take m else S.tick.by_ g, la := fun g => if g = k then min (S.tick.la g) m else S.tick.la g }) by
          rw [HF.out, if_neg (by simp [hm]), if_neg (by simp; omega)]; simp only [Int.toNat_natCast])
        clear hm HF
        generalize hTT : S.tick = T at *
        clear hTT
        have bxt := bx_take (T.by_ k) m
        have BXT := Lib.hid bxt
        clear bxt
        have hstep : ∀ (w' : World), Dk w' b T → ∀ v, min (T.la k) m = v → Dk ((w'.setCell ⟨b, k * 2, none⟩ (.string ⟨((T.by_ k).take m).toArray⟩)).setCell ⟨b, k * 2 + 1, none⟩ (.int .i64 (v : Int))) b
            { T with by_ := fun g => if g = k then (T.by_ g).take m else T.by_ g, la := fun g => if g = k then min (T.la g) m else T.la g } := fun w' hd v hv =>
          DS.ext8 ((hd.setBy hk _).setLa hk v) (fun g hg => by by_cases e : g = k <;> simp [e, hv]) ⟨rfl, rfl, rfl, rfl⟩
        have hstep' : ∀ (w' : World), Dk w' b T → ∀ v, min (T.la k) m = v → Dk ((w'.setCell ⟨b, k * 2 + 1, none⟩ (.int .i64 (v : Int))).setCell ⟨b, k * 2, none⟩ (.string ⟨((T.by_ k).take m).toArray⟩)) b
            { T with by_ := fun g => if g = k then (T.by_ g).take m else T.by_ g, la := fun g => if g = k then min (T.la g) m else T.la g } := fun w' hd v hv =>
          DS.ext8 ((hd.setLa hk v).setBy hk _) (fun g hg => by by_cases e : g = k <;> simp [e, hv]) ⟨rfl, rfl, rfl, rfl⟩
        have HST := Lib.hid hstep
        have HST' := Lib.hid hstep'
        clear hstep hstep'
        by_cases hmin : T.la k ≤ m
        · have hv := Lib.hid (show min (T.la k) m = T.la k by omega)
          cases hr : S.endsR
          · rw [hr] at E
            have ht := TE.out.2 hr
            rw [← ht] at E
            clear hr ht
            go_enter Try.func29, Try.ntmps29
            go_wp2_with fail
            refine E.out.mono ?_; rintro e wA ⟨rfl, dA, gA⟩
            go_wp2_with fail
            refine (may_any b _ (some ⟨wA.heap.size, 0, none⟩) 1 1 [(k : Int)] _ (dA.alloc (.cells #[.int .i64 (k : Int)] 3)) (row_one wA 3 (k : Int)) rfl (by omega)).mono ?_
            rw [hm'.out]
            rintro e w2 ⟨rfl, rfl⟩
            have dB := dA.alloc (.cells #[.int .i64 (k : Int)] 3)
            have gB := gr_alloc gA (.cells #[.int .i64 (k : Int)] 3)
            generalize wA.alloc (.cells #[.int .i64 (k : Int)] 3) = wB at *
            clear dA gA
            have c0 := dB.byte hk
            have c1 := dB.last hk
            have z0 := dB.frozen (k * 2)
            have z1 := dB.frozen (k * 2 + 1)
            have hk0 : (0 : Int) ≤ (k : Int) := by omega
            have hk1 : (k : Int) < 8 := by omega
            have bxt := BXT.out
            go_wp2_with fail
            go_region
            all_goals go_wp2_with fail
            all_goals go_ret
            all_goals rw [HE0.out]
            all_goals first
              | exact ⟨rfl, HST.out _ (dB.drewN 1) _ hv.out, gr_own (gr_own (gr_drewN gB 1) (k * 2) _) (k * 2 + 1) _⟩
              | exact ⟨rfl, HST'.out _ (dB.drewN 1) _ hv.out, gr_own (gr_own (gr_drewN gB 1) (k * 2 + 1) _) (k * 2) _⟩
          · rw [hr] at E
            have ht := Lib.hid (TE.out.1 hr)
            have hup := endsR_up hr
            have CK := Lib.hid (fun w1 d1 => crash_keep b S.endsS w1 d1 OE.out hup)
            clear hr hup
            go_enter Try.func29, Try.ntmps29
            go_wp2_with fail
            refine E.out.mono ?_; rintro e w1 ⟨rfl, d1, g1⟩
            obtain ⟨A, c, c19, C⟩ := CK.out w1 d1
            have HC := Lib.hid C
            clear C
            go_wp2_with fail
            refine HC.out.mono ?_; rintro e wA ⟨rfl, d2, g2⟩
            rw [← ht.out] at d2
            have dA := d2
            have gA := gr_trans g1 g2
            clear c19 d2 g1 g2 d1 HC
            go_wp2_with fail
            refine (may_any b _ (some ⟨wA.heap.size, 0, none⟩) 1 1 [(k : Int)] _ (dA.alloc (.cells #[.int .i64 (k : Int)] 3)) (row_one wA 3 (k : Int)) rfl (by omega)).mono ?_
            rw [hm'.out]
            rintro e w2 ⟨rfl, rfl⟩
            have dB := dA.alloc (.cells #[.int .i64 (k : Int)] 3)
            have gB := gr_alloc gA (.cells #[.int .i64 (k : Int)] 3)
            generalize wA.alloc (.cells #[.int .i64 (k : Int)] 3) = wB at *
            clear dA gA
            have c0 := dB.byte hk
            have c1 := dB.last hk
            have z0 := dB.frozen (k * 2)
            have z1 := dB.frozen (k * 2 + 1)
            have hk0 : (0 : Int) ≤ (k : Int) := by omega
            have hk1 : (k : Int) < 8 := by omega
            have bxt := BXT.out
            go_wp2_with fail
            go_region
            all_goals go_wp2_with fail
            all_goals go_ret
            all_goals rw [HE0.out]
            all_goals first
              | exact ⟨rfl, HST.out _ (dB.drewN 1) _ hv.out, gr_own (gr_own (gr_drewN gB 1) (k * 2) _) (k * 2 + 1) _⟩
              | exact ⟨rfl, HST'.out _ (dB.drewN 1) _ hv.out, gr_own (gr_own (gr_drewN gB 1) (k * 2 + 1) _) (k * 2) _⟩
        · have hv := Lib.hid (show min (T.la k) m = m by omega)
          cases hr : S.endsR
          · rw [hr] at E
            have ht := TE.out.2 hr
            rw [← ht] at E
            clear hr ht
            go_enter Try.func29, Try.ntmps29
            go_wp2_with fail
            refine E.out.mono ?_; rintro e wA ⟨rfl, dA, gA⟩
            go_wp2_with fail
            refine (may_any b _ (some ⟨wA.heap.size, 0, none⟩) 1 1 [(k : Int)] _ (dA.alloc (.cells #[.int .i64 (k : Int)] 3)) (row_one wA 3 (k : Int)) rfl (by omega)).mono ?_
            rw [hm'.out]
            rintro e w2 ⟨rfl, rfl⟩
            have dB := dA.alloc (.cells #[.int .i64 (k : Int)] 3)
            have gB := gr_alloc gA (.cells #[.int .i64 (k : Int)] 3)
            generalize wA.alloc (.cells #[.int .i64 (k : Int)] 3) = wB at *
            clear dA gA
            have c0 := dB.byte hk
            have c1 := dB.last hk
            have z0 := dB.frozen (k * 2)
            have z1 := dB.frozen (k * 2 + 1)
            have hk0 : (0 : Int) ≤ (k : Int) := by omega
            have hk1 : (k : Int) < 8 := by omega
            have bxt := BXT.out
            go_wp2_with fail
            go_region
            all_goals go_wp2_with fail
            all_goals go_ret
            all_goals rw [HE0.out]
            all_goals first
              | exact ⟨rfl, HST.out _ (dB.drewN 1) _ hv.out, gr_own (gr_own (gr_drewN gB 1) (k * 2) _) (k * 2 + 1) _⟩
              | exact ⟨rfl, HST'.out _ (dB.drewN 1) _ hv.out, gr_own (gr_own (gr_drewN gB 1) (k * 2 + 1) _) (k * 2) _⟩
          · rw [hr] at E
            have ht := Lib.hid (TE.out.1 hr)
            have hup := endsR_up hr
            have CK := Lib.hid (fun w1 d1 => crash_keep b S.endsS w1 d1 OE.out hup)
            clear hr hup
            go_enter Try.func29, Try.ntmps29
            go_wp2_with fail
            refine E.out.mono ?_; rintro e w1 ⟨rfl, d1, g1⟩
            obtain ⟨A, c, c19, C⟩ := CK.out w1 d1
            have HC := Lib.hid C
            clear C
            go_wp2_with fail
            refine HC.out.mono ?_; rintro e wA ⟨rfl, d2, g2⟩
            rw [← ht.out] at d2
            have dA := d2
            have gA := gr_trans g1 g2
            clear c19 d2 g1 g2 d1 HC
            go_wp2_with fail
            refine (may_any b _ (some ⟨wA.heap.size, 0, none⟩) 1 1 [(k : Int)] _ (dA.alloc (.cells #[.int .i64 (k : Int)] 3)) (row_one wA 3 (k : Int)) rfl (by omega)).mono ?_
            rw [hm'.out]
            rintro e w2 ⟨rfl, rfl⟩
            have dB := dA.alloc (.cells #[.int .i64 (k : Int)] 3)
            have gB := gr_alloc gA (.cells #[.int .i64 (k : Int)] 3)
            generalize wA.alloc (.cells #[.int .i64 (k : Int)] 3) = wB at *
            clear dA gA
            have c0 := dB.byte hk
            have c1 := dB.last hk
            have z0 := dB.frozen (k * 2)
            have z1 := dB.frozen (k * 2 + 1)
            have hk0 : (0 : Int) ≤ (k : Int) := by omega
            have hk1 : (k : Int) < 8 := by omega
            have bxt := BXT.out
            go_wp2_with fail
            go_region
            all_goals go_wp2_with fail
            all_goals go_ret
            all_goals rw [HE0.out]
            all_goals first
              | exact ⟨rfl, HST.out _ (dB.drewN 1) _ hv.out, gr_own (gr_own (gr_drewN gB 1) (k * 2) _) (k * 2 + 1) _⟩
              | exact ⟨rfl, HST'.out _ (dB.drewN 1) _ hv.out, gr_own (gr_own (gr_drewN gB 1) (k * 2 + 1) _) (k * 2) _⟩
  · have HE := Lib.hid (show S.cutS f n = (S.tick.mayR [f], S.tick) by rw [HF.out, if_pos hm])
    have hb : (S.tick.mayR [f] != 0) = true := by simpa using hm
    obtain ⟨R, hR⟩ : ∃ R, R = S.tick.mayR [f] := ⟨_, rfl⟩
    rw [← hR] at HE hb
    have hRR := Lib.hid hR.symm
    clear hm HF hR
    generalize hTT : S.tick = T at *
    clear hTT
    cases hr : S.endsR
    · rw [hr] at E
      have ht := TE.out.2 hr
      rw [← ht] at E
      clear hr ht
      go_enter Try.func29, Try.ntmps29
      go_wp2_with fail
      refine E.out.mono ?_; rintro e wA ⟨rfl, dA, gA⟩
      go_wp2_with fail
      refine (may_any b _ (some ⟨wA.heap.size, 0, none⟩) 1 1 [f] _ (dA.alloc (.cells #[.int .i64 f] 3)) (row_one wA 3 f) rfl (by omega)).mono ?_
      rw [hRR.out]
      rintro e w2 ⟨rfl, rfl⟩
      go_wp2_with fail
      go_ret
      rw [HE.out]
      exact ⟨rfl, dA.alloc _, gr_alloc gA _⟩
    · rw [hr] at E
      have ht := Lib.hid (TE.out.1 hr)
      have hup := endsR_up hr
      have CK := Lib.hid (fun w1 d1 => crash_keep b S.endsS w1 d1 OE.out hup)
      clear hr hup
      go_enter Try.func29, Try.ntmps29
      go_wp2_with fail
      refine E.out.mono ?_; rintro e w1 ⟨rfl, d1, g1⟩
      obtain ⟨A, c, c19, C⟩ := CK.out w1 d1
      have HC := Lib.hid C
      clear C
      go_wp2_with fail
      refine HC.out.mono ?_; rintro e wA ⟨rfl, d2, g2⟩
      rw [← ht.out] at d2
      have dA := d2
      have gA := gr_trans g1 g2
      clear c19 d2 g1 g2 d1 HC
      go_wp2_with fail
      refine (may_any b _ (some ⟨wA.heap.size, 0, none⟩) 1 1 [f] _ (dA.alloc (.cells #[.int .i64 f] 3)) (row_one wA 3 f) rfl (by omega)).mono ?_
      rw [hRR.out]
      rintro e w2 ⟨rfl, rfl⟩
      go_wp2_with fail
      go_ret
      rw [HE.out]
      exact ⟨rfl, dA.alloc _, gr_alloc gA _⟩

end Go.Proofs.Ytnbaalllcddbkaa
