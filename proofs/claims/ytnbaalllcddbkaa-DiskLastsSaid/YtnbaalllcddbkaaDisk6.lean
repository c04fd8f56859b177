/- Package disk: Turn, Copy, Arm. -/
import Derived.Test.YtnbaalllcddbkaaDisk3
import Derived.Deep.RegionWith
namespace Go.Proofs.Ytnbaalllcddbkaa
open Go.RowKit

def DS.turnTo (S : DS) (f g : Nat) : DS := { S with by_ := fun i => if i = g then [] else if i = f then S.by_ g else S.by_ i, la := fun i => if i = g then 0 else if i = f then S.la g else S.la i }
def DS.turnS (S : DS) (f g : Int) : Int × DS :=
  if S.tick.mayR [f, g] ≠ 0 then (S.tick.mayR [f, g], S.tick) else if f = g then (1, S.tick) else if S.tick.la g.toNat < (S.tick.by_ g.toNat).length then (9, S.tick)
  else (0, S.tick.turnTo f.toNat g.toNat)
theorem dk_drew {w : World} {b : Nat} {S : DS} (h : Dk w b S) : Dk w.drew b S := h
theorem turn_step {w : World} {b : Nat} {T : DS} {k j : Nat} (h : Dk w b T) (hk : k < 8) (hj : j < 8) (hne : ¬ k = j) :
    Dk ((((w.setCell ⟨b, k * 2, none⟩ (.string ⟨(T.by_ j).toArray⟩)).setCell ⟨b, k * 2 + 1, none⟩ (.int .i64 ((T.la j : Nat) : Int))).setCell ⟨b, j * 2, none⟩ (.string ⟨#[]⟩)).setCell ⟨b, j * 2 + 1, none⟩ (.int .i64 0)) b (T.turnTo k j) :=
  DS.ext8 ((((h.setBy hk (T.by_ j)).setLa hk (T.la j)).setBy hj []).setLa hj 0) (fun i _ => by
    unfold DS.turnTo
    by_cases e : i = j
    · simp [e]
    · by_cases e' : i = k
      · simp [e, e']
      · simp [e, e']) ⟨rfl, rfl, rfl, rfl⟩
theorem may_two {S : DS} {f g : Int} (h : S.mayR [f, g] = 0) : S.down = false ∧ (0 ≤ f ∧ f < 8) ∧ (0 ≤ g ∧ g < 8) := by
  unfold DS.mayR at h
  split at h
  · cases h
  · rename_i hd
    split at h
    · rename_i ha
      simp [isB] at ha
      exact ⟨by simpa using hd, ha⟩
    · cases h

set_option maxRecDepth 100000 in
set_option maxHeartbeats 2000000 in
theorem turn_any (b : Nat) (S : DS) (f g : Int) (w : World) (h : Dk w b S) (hok : S.Ok) :
    Calls Try.prog 16 #[.pointer (some ⟨b, 0, none⟩), .int .i64 f, .int .i64 g] w fun e w' => e = .returned (.int .i64 (S.turnS f g).1) ∧ Dk w' b (S.turnS f g).2 ∧ w.grownBy w' (some b) := by
  have E := Lib.hid (ends_any b S w h hok.2.2.2.1 hok.2.2.2.2.1)
  have hT := hok.tick
  have OT := Lib.hid hT.1
  have hTe : (S.endsR = true → S.tick = S.endsS.crash S.endsS.keep) ∧ (S.endsR = false → S.tick = S.endsS) := ⟨fun hr => by simp [DS.tick, hr], fun hr => by simp [DS.tick, hr]⟩
  have TE := Lib.hid hTe
  have OE := Lib.hid hok.ends
  have hlost := hT.2.1
  have hlost' := hT.2.2.1
  clear h hTe hok hT
  have HF := Lib.hid (show S.turnS f g = if S.tick.mayR [f, g] ≠ 0 then (S.tick.mayR [f, g], S.tick) else if f = g then (1, S.tick) else if S.tick.la g.toNat < (S.tick.by_ g.toNat).length then (9, S.tick)
    else (0, S.tick.turnTo f.toNat g.toNat) from rfl)
  clear hlost hlost'
  by_cases hm : S.tick.mayR [f, g] = 0
  · obtain ⟨_, ⟨h0, h8⟩, ⟨h0', h8'⟩⟩ := may_two hm
    have hm' := Lib.hid hm
    obtain ⟨k, rfl⟩ := Int.eq_ofNat_of_zero_le h0
    obtain ⟨j, rfl⟩ := Int.eq_ofNat_of_zero_le h0'
    have hk : k < 8 := by omega
    have hj : j < 8 := by omega
    have hby := (OT.out j hj).2
    have hla := (OT.out j hj).1
    by_cases hkj : k = j
    · subst hkj
      have HE := Lib.hid (show S.turnS (k : Int) (k : Int) = (1, S.tick) by rw [HF.out, if_neg (by simp [hm]), if_pos rfl])
      clear hm HF
      generalize hTT : S.tick = T at *
      clear hTT
      cases hr : S.endsR
      · rw [hr] at E
        have ht := TE.out.2 hr
        rw [← ht] at E
        clear hr ht
        go_enter Try.func16, Try.ntmps16
        go_wp2_with fail
        refine E.out.mono ?_; rintro e wA ⟨rfl, dA, gA⟩
        go_wp2_with fail
        refine (may_any b _ (some ⟨wA.heap.size, 0, none⟩) 2 2 [(k : Int), (k : Int)] _ (dA.alloc (.cells #[.int .i64 (k : Int), .int .i64 (k : Int)] 3)) (row_two wA 3 (k : Int) (k : Int)) rfl (by omega)).mono ?_
        rw [hm'.out]
        rintro e w2 ⟨rfl, rfl⟩
        have dB := dA.alloc (.cells #[.int .i64 (k : Int), .int .i64 (k : Int)] 3)
        have gB := gr_alloc gA (.cells #[.int .i64 (k : Int), .int .i64 (k : Int)] 3)
        generalize wA.alloc (.cells #[.int .i64 (k : Int), .int .i64 (k : Int)] 3) = wB at *
        clear dA gA
        have c0 := dB.byte hj
        have c1 := dB.last hj
        have hlt := dB.lt
        have hk0 : (0 : Int) ≤ (k : Int) := by omega
        have hk1 : (k : Int) < 8 := by omega
        have hj0 : (0 : Int) ≤ (k : Int) := by omega
        have hj1 : (k : Int) < 8 := by omega
        go_wp2_with fail
        go_ret
        rw [HE.out]
        exact ⟨rfl, dB.alloc _, gr_alloc gB _⟩
      · rw [hr] at E
        have ht := Lib.hid (TE.out.1 hr)
        have hup := endsR_up hr
        have CK := Lib.hid (fun w1 d1 => crash_keep b S.endsS w1 d1 OE.out hup)
        clear hr hup
        go_enter Try.func16, Try.ntmps16
        go_wp2_with fail
        refine E.out.mono ?_; rintro e w1 ⟨rfl, d1, g1⟩
        obtain ⟨A, c, c19, C⟩ := CK.out w1 d1
        have HC := Lib.hid C
        clear C
        go_wp2_with fail
        refine HC.out.mono ?_; rintro e wA ⟨rfl, d2, g2⟩
        rw [← ht.out] at d2
        have dA := d2
        have gA := gr_trans g1 g2
        clear c19 d2 g1 g2 d1 HC
        go_wp2_with fail
        refine (may_any b _ (some ⟨wA.heap.size, 0, none⟩) 2 2 [(k : Int), (k : Int)] _ (dA.alloc (.cells #[.int .i64 (k : Int), .int .i64 (k : Int)] 3)) (row_two wA 3 (k : Int) (k : Int)) rfl (by omega)).mono ?_
        rw [hm'.out]
        rintro e w2 ⟨rfl, rfl⟩
        have dB := dA.alloc (.cells #[.int .i64 (k : Int), .int .i64 (k : Int)] 3)
        have gB := gr_alloc gA (.cells #[.int .i64 (k : Int), .int .i64 (k : Int)] 3)
        generalize wA.alloc (.cells #[.int .i64 (k : Int), .int .i64 (k : Int)] 3) = wB at *
        clear dA gA
        have c0 := dB.byte hj
        have c1 := dB.last hj
        have hlt := dB.lt
        have hk0 : (0 : Int) ≤ (k : Int) := by omega
        have hk1 : (k : Int) < 8 := by omega
        have hj0 : (0 : Int) ≤ (k : Int) := by omega
        have hj1 : (k : Int) < 8 := by omega
        go_wp2_with fail
        go_ret
        rw [HE.out]
        exact ⟨rfl, dB.alloc _, gr_alloc gB _⟩
    · have hne : ((k : Int) == (j : Int)) = false := by simp; omega
      have hnd : decide ((k : Int) = (j : Int)) = false := by simp; omega
      by_cases hst : S.tick.la j < (S.tick.by_ j).length
      · have HE := Lib.hid (show S.turnS (k : Int) (j : Int) = (9, S.tick) by rw [HF.out, if_neg (by simp [hm]), if_neg (by omega), if_pos (by simpa using hst)])
        clear hm HF hkj
        generalize hTT : S.tick = T at *
        clear hTT
        cases hr : S.endsR
        · rw [hr] at E
          have ht := TE.out.2 hr
          rw [← ht] at E
          clear hr ht
          go_enter Try.func16, Try.ntmps16
          go_wp2_with fail
          refine E.out.mono ?_; rintro e wA ⟨rfl, dA, gA⟩
          go_wp2_with fail
          refine (may_any b _ (some ⟨wA.heap.size, 0, none⟩) 2 2 [(k : Int), (j : Int)] _ (dA.alloc (.cells #[.int .i64 (k : Int), .int .i64 (j : Int)] 3)) (row_two wA 3 (k : Int) (j : Int)) rfl (by omega)).mono ?_
          rw [hm'.out]
          rintro e w2 ⟨rfl, rfl⟩
          have dB := dA.alloc (.cells #[.int .i64 (k : Int), .int .i64 (j : Int)] 3)
          have gB := gr_alloc gA (.cells #[.int .i64 (k : Int), .int .i64 (j : Int)] 3)
          generalize wA.alloc (.cells #[.int .i64 (k : Int), .int .i64 (j : Int)] 3) = wB at *
          clear dA gA
          have c0 := dB.byte hj
          have c1 := dB.last hj
          have hlt := dB.lt
          have hk0 : (0 : Int) ≤ (k : Int) := by omega
          have hk1 : (k : Int) < 8 := by omega
          have hj0 : (0 : Int) ≤ (j : Int) := by omega
          have hj1 : (j : Int) < 8 := by omega
          go_wp2_with fail
          go_ret
          rw [HE.out]
          exact ⟨rfl, dB.alloc _, gr_alloc gB _⟩
        · rw [hr] at E
          have ht := Lib.hid (TE.out.1 hr)
          have hup := endsR_up hr
          have CK := Lib.hid (fun w1 d1 => crash_keep b S.endsS w1 d1 OE.out hup)
          clear hr hup
          go_enter Try.func16, Try.ntmps16
          go_wp2_with fail
          refine E.out.mono ?_; rintro e w1 ⟨rfl, d1, g1⟩
          obtain ⟨A, c, c19, C⟩ := CK.out w1 d1
          have HC := Lib.hid C
          clear C
          go_wp2_with fail
          refine HC.out.mono ?_; rintro e wA ⟨rfl, d2, g2⟩
          rw [← ht.out] at d2
          have dA := d2
          have gA := gr_trans g1 g2
          clear c19 d2 g1 g2 d1 HC
          go_wp2_with fail
          refine (may_any b _ (some ⟨wA.heap.size, 0, none⟩) 2 2 [(k : Int), (j : Int)] _ (dA.alloc (.cells #[.int .i64 (k : Int), .int .i64 (j : Int)] 3)) (row_two wA 3 (k : Int) (j : Int)) rfl (by omega)).mono ?_
          rw [hm'.out]
          rintro e w2 ⟨rfl, rfl⟩
          have dB := dA.alloc (.cells #[.int .i64 (k : Int), .int .i64 (j : Int)] 3)
          have gB := gr_alloc gA (.cells #[.int .i64 (k : Int), .int .i64 (j : Int)] 3)
          generalize wA.alloc (.cells #[.int .i64 (k : Int), .int .i64 (j : Int)] 3) = wB at *
          clear dA gA
          have c0 := dB.byte hj
          have c1 := dB.last hj
          have hlt := dB.lt
          have hk0 : (0 : Int) ≤ (k : Int) := by omega
          have hk1 : (k : Int) < 8 := by omega
          have hj0 : (0 : Int) ≤ (j : Int) := by omega
          have hj1 : (j : Int) < 8 := by omega
          go_wp2_with fail
          go_ret
          rw [HE.out]
          exact ⟨rfl, dB.alloc _, gr_alloc gB _⟩
      · have HE := Lib.hid (show S.turnS (k : Int) (j : Int) = (0, S.tick.turnTo k j) by rw [HF.out, if_neg (by simp [hm]), if_neg (by omega), if_neg (by simpa using hst)]; simp)
        have HKJ := Lib.hid hkj
        clear hm HF hkj
        generalize hTT : S.tick = T at *
        clear hTT
        have h2a : k * 2 ≠ j * 2 := by have := HKJ.out; omega
        cases hr : S.endsR
        · rw [hr] at E
          have ht := TE.out.2 hr
          rw [← ht] at E
          clear hr ht
          go_enter Try.func16, Try.ntmps16
          go_wp2_with fail
          refine E.out.mono ?_; rintro e wA ⟨rfl, dA, gA⟩
          go_wp2_with fail
          refine (may_any b _ (some ⟨wA.heap.size, 0, none⟩) 2 2 [(k : Int), (j : Int)] _ (dA.alloc (.cells #[.int .i64 (k : Int), .int .i64 (j : Int)] 3)) (row_two wA 3 (k : Int) (j : Int)) rfl (by omega)).mono ?_
          rw [hm'.out]
          rintro e w2 ⟨rfl, rfl⟩
          have dB := dA.alloc (.cells #[.int .i64 (k : Int), .int .i64 (j : Int)] 3)
          have gB := gr_alloc gA (.cells #[.int .i64 (k : Int), .int .i64 (j : Int)] 3)
          generalize wA.alloc (.cells #[.int .i64 (k : Int), .int .i64 (j : Int)] 3) = wB at *
          clear dA gA
          have c0 := dB.byte hj
          have c1 := dB.last hj
          have hlt := dB.lt
          have hk0 : (0 : Int) ≤ (k : Int) := by omega
          have hk1 : (k : Int) < 8 := by omega
          have hj0 : (0 : Int) ≤ (j : Int) := by omega
          have hj1 : (j : Int) < 8 := by omega
          have k0 := dB.byte hk
          have k1 := dB.last hk
          have y0 := dB.frozen (k * 2)
          have y1 := dB.frozen (k * 2 + 1)
          have z0 := dB.frozen (j * 2)
          have z1 := dB.frozen (j * 2 + 1)
          go_wp2_with fail
          go_region
          all_goals go_wp2_with fail
          all_goals go_ret
          all_goals rw [HE.out]
          all_goals exact ⟨rfl, dk_drew ((turn_step dB hk hj HKJ.out).alloc _), gr_drew (gr_alloc (gr_own (gr_own (gr_own (gr_own gB (k * 2) _) (k * 2 + 1) _) (j * 2) _) (j * 2 + 1) _) _)⟩
        · rw [hr] at E
          have ht := Lib.hid (TE.out.1 hr)
          have hup := endsR_up hr
          have CK := Lib.hid (fun w1 d1 => crash_keep b S.endsS w1 d1 OE.out hup)
          clear hr hup
          go_enter Try.func16, Try.ntmps16
          go_wp2_with fail
          refine E.out.mono ?_; rintro e w1 ⟨rfl, d1, g1⟩
          obtain ⟨A, c, c19, C⟩ := CK.out w1 d1
          have HC := Lib.hid C
          clear C
          go_wp2_with fail
          refine HC.out.mono ?_; rintro e wA ⟨rfl, d2, g2⟩
          rw [← ht.out] at d2
          have dA := d2
          have gA := gr_trans g1 g2
          clear c19 d2 g1 g2 d1 HC
          go_wp2_with fail
          refine (may_any b _ (some ⟨wA.heap.size, 0, none⟩) 2 2 [(k : Int), (j : Int)] _ (dA.alloc (.cells #[.int .i64 (k : Int), .int .i64 (j : Int)] 3)) (row_two wA 3 (k : Int) (j : Int)) rfl (by omega)).mono ?_
          rw [hm'.out]
          rintro e w2 ⟨rfl, rfl⟩
          have dB := dA.alloc (.cells #[.int .i64 (k : Int), .int .i64 (j : Int)] 3)
          have gB := gr_alloc gA (.cells #[.int .i64 (k : Int), .int .i64 (j : Int)] 3)
          generalize wA.alloc (.cells #[.int .i64 (k : Int), .int .i64 (j : Int)] 3) = wB at *
          clear dA gA
          have c0 := dB.byte hj
          have c1 := dB.last hj
          have hlt := dB.lt
          have hk0 : (0 : Int) ≤ (k : Int) := by omega
          have hk1 : (k : Int) < 8 := by omega
          have hj0 : (0 : Int) ≤ (j : Int) := by omega
          have hj1 : (j : Int) < 8 := by omega
          have k0 := dB.byte hk
          have k1 := dB.last hk
          have y0 := dB.frozen (k * 2)
          have y1 := dB.frozen (k * 2 + 1)
          have z0 := dB.frozen (j * 2)
          have z1 := dB.frozen (j * 2 + 1)
          go_wp2_with fail
          go_region
          all_goals go_wp2_with fail
          all_goals go_ret
          all_goals rw [HE.out]
          all_goals exact ⟨rfl, dk_drew ((turn_step dB hk hj HKJ.out).alloc _), gr_drew (gr_alloc (gr_own (gr_own (gr_own (gr_own gB (k * 2) _) (k * 2 + 1) _) (j * 2) _) (j * 2 + 1) _) _)⟩
  · have HE := Lib.hid (show S.turnS f g = (S.tick.mayR [f, g], S.tick) by rw [HF.out, if_pos hm])
    have hb : (S.tick.mayR [f, g] != 0) = true := by simpa using hm
    obtain ⟨R, hR⟩ : ∃ R, R = S.tick.mayR [f, g] := ⟨_, rfl⟩
    rw [← hR] at HE hb
    have hRR := Lib.hid hR.symm
    clear hm HF hR
    generalize hTT : S.tick = T at *
    clear hTT
    cases hr : S.endsR
    · rw [hr] at E
      have ht := TE.out.2 hr
      rw [← ht] at E
      clear hr ht
      go_enter Try.func16, Try.ntmps16
      go_wp2_with fail
      refine E.out.mono ?_; rintro e wA ⟨rfl, dA, gA⟩
      go_wp2_with fail
      refine (may_any b _ (some ⟨wA.heap.size, 0, none⟩) 2 2 [f, g] _ (dA.alloc (.cells #[.int .i64 f, .int .i64 g] 3)) (row_two wA 3 f g) rfl (by omega)).mono ?_
      rw [hRR.out]
      rintro e w2 ⟨rfl, rfl⟩
      go_wp2_with fail
      go_ret
      rw [HE.out]
      exact ⟨rfl, dA.alloc _, gr_alloc gA _⟩
    · rw [hr] at E
      have ht := Lib.hid (TE.out.1 hr)
      have hup := endsR_up hr
      have CK := Lib.hid (fun w1 d1 => crash_keep b S.endsS w1 d1 OE.out hup)
      clear hr hup
      go_enter Try.func16, Try.ntmps16
      go_wp2_with fail
      refine E.out.mono ?_; rintro e w1 ⟨rfl, d1, g1⟩
      obtain ⟨A, c, c19, C⟩ := CK.out w1 d1
      have HC := Lib.hid C
      clear C
      go_wp2_with fail
      refine HC.out.mono ?_; rintro e wA ⟨rfl, d2, g2⟩
      rw [← ht.out] at d2
      have dA := d2
      have gA := gr_trans g1 g2
      clear c19 d2 g1 g2 d1 HC
      go_wp2_with fail
      refine (may_any b _ (some ⟨wA.heap.size, 0, none⟩) 2 2 [f, g] _ (dA.alloc (.cells #[.int .i64 f, .int .i64 g] 3)) (row_two wA 3 f g) rfl (by omega)).mono ?_
      rw [hRR.out]
      rintro e w2 ⟨rfl, rfl⟩
      go_wp2_with fail
      go_ret
      rw [HE.out]
      exact ⟨rfl, dA.alloc _, gr_alloc gA _⟩

end Go.Proofs.Ytnbaalllcddbkaa
