/- Package disk: the calls on files. -/
import Derived.Test.YtnbaalllcddbkaaDisk2
import Derived.Lib.QuietBelow
import Derived.Deep.RegionWith
namespace Go.Proofs.Ytnbaalllcddbkaa
open Go.RowKit

theorem Dk.keepRow {w : World} {b : Nat} {S : DS} (h : Dk w b S) : ∃ A c, w.cell? ⟨b, 19, none⟩ = some (.slice A S.keep.length c) ∧ Row w w.heap.size A (i64s S.keep) ∧ ∀ g, A = some g → g.block ≠ b := by
  obtain ⟨cs, A, c, hb, hc, ho⟩ := h
  refine ⟨A, c, by rw [hb.cell]; exact hc.2.2.2.2.2, ho.row, fun g hA => ?_⟩
  rcases ho.2 with ⟨hv, _⟩ | ⟨g', cap, cur, hv, _⟩
  · injection hv with h1; rw [h1] at hA; cases hA
  · injection hv with h1
    rw [h1] at hA
    injection hA with hA
    subst hA
    exact own_ne ho hb (by decide) g' h1

def DS.tick (S : DS) : DS := if S.endsR = true then S.endsS.crash S.endsS.keep else S.endsS
theorem DS.Ok.ends {S : DS} (h : S.Ok) : S.endsS.Ok := by
  unfold DS.endsS; split
  · exact h
  · rename_i hn
    obtain ⟨h1, h2, h3, h4, h5, h6⟩ := h
    refine ⟨h1, h2, h3, ?_, ?_, h6⟩
    · show 0 ≤ S.armed - 1
      have : S.armed ≠ 0 := fun e => hn (.inr e)
      omega
    · show S.armed - 1 < _; omega
theorem DS.Ok.crash {S : DS} (h : S.Ok) (k : List Int) : (S.crash k).Ok := by
  unfold DS.crash; split
  · exact h
  · obtain ⟨h1, h2, h3, h4, h5, h6⟩ := h
    refine ⟨fun f hf => ?_, h2, h3, by simp, by simp, h6⟩
    have := h1 f hf
    have := keepN_le S k f
    simp
    omega
theorem DS.Ok.tick {S : DS} (h : S.Ok) : S.tick.Ok := by
  unfold DS.tick; split
  · exact h.ends.crash _
  · exact h.ends
theorem endsR_up {S : DS} (h : S.endsR = true) : S.endsS.down = false := by
  unfold DS.endsR at h
  simp at h
  unfold DS.endsS; split
  · exact h.1
  · exact h.1

/-- The crash of a scheduled end. -/
theorem crash_keep (b : Nat) (S : DS) (w : World) (h : Dk w b S) (hok : S.Ok) (hup : S.down = false) : ∃ A c, w.cell? ⟨b, 19, none⟩ = some (.slice A S.keep.length c) ∧
    Calls Try.prog 17 #[.pointer (some ⟨b, 0, none⟩), .slice A S.keep.length c] w fun e w' => e = .returned (.tuple #[]) ∧ Dk w' b (S.crash S.keep) ∧ w.grownBy w' (some b) := by
  obtain ⟨A, c, h1, h2, h3⟩ := h.keepRow
  exact ⟨A, c, h1, crash_up b S A c _ S.keep w h hok hup h2 (fun _ => h3) rfl (by have := hok.2.2.2.2.2; omega)⟩

theorem row_one (w : World) (t : TypeId) (f : Int) : Row (w.alloc (.cells #[.int .i64 f] t)) (w.alloc (.cells #[.int .i64 f] t)).heap.size (some ⟨w.heap.size, 0, none⟩) (i64s [f]) := fun _ =>
  ⟨w.heap.size, 0, rfl, by simp, fun j hj => by
    have : j = 0 := by simp [i64s] at hj; omega
    subst this
    simp [i64s]⟩

def ReadsF (S : DS) (f : Int) : List UInt8 × Int := if S.mayR [f] ≠ 0 then ([], S.mayR [f]) else (S.by_ f.toNat, 0)
theorem may_one {S : DS} {f : Int} (h : S.mayR [f] = 0) : S.down = false ∧ 0 ≤ f ∧ f < 8 := by
  unfold DS.mayR at h
  split at h
  · cases h
  · rename_i hd
    split at h
    · rename_i ha
      simp [isB] at ha
      exact ⟨by simpa using hd, ha⟩
    · cases h
theorem may_val (S : DS) (l : List Int) : S.mayR l = 0 ∨ S.mayR l = 1 ∨ S.mayR l = 8 := by
  unfold DS.mayR; split
  · simp
  · split <;> simp

set_option maxRecDepth 100000 in
set_option maxHeartbeats 1000000 in
theorem read_any (b : Nat) (S : DS) (f : Int) (w : World) (h : Dk w b S) :
    Calls Try.prog 19 #[.pointer (some ⟨b, 0, none⟩), .int .i64 f] w fun e w' => e = .returned (.tuple #[.string ⟨(ReadsF S f).1.toArray⟩, .int .i64 (ReadsF S f).2]) ∧ Below w.heap.size w w' := by
  have M := Lib.hid (may_any b S (some ⟨w.heap.size, 0, none⟩) 1 1 [f] _ (h.alloc (.cells #[.int .i64 f] 3)) (row_one w 3 f) rfl (by omega))
  have H := Lib.hid h
  clear h
  have hB := Lib.hid ((Below.refl w.heap.size w).alloc (Nat.le_refl _) (.cells #[.int .i64 f] 3))
  by_cases hm : S.mayR [f] = 0
  · obtain ⟨_, h0, h8⟩ := may_one hm
    obtain ⟨g, rfl⟩ := Int.eq_ofNat_of_zero_le h0
    have hg : g < 8 := by omega
    have HE := Lib.hid (show ReadsF S (g : Int) = (S.by_ g, 0) by simp [ReadsF, hm])
    have c0 := (H.out.alloc (.cells #[.int .i64 (g : Int)] 3)).byte hg
    rw [hm] at M
    clear hm
    go_enter Try.func19, Try.ntmps19
    go_wp2_with fail
    refine M.out.mono ?_; rintro e w1 ⟨rfl, rfl⟩
    go_wp2_with fail
    go_ret2
    rw [HE.out]
    exact ⟨rfl, hB.out⟩
  · have HE := Lib.hid (show ReadsF S f = ([], S.mayR [f]) by simp [ReadsF, hm])
    have hb : (S.mayR [f] != 0) = true := by simpa using hm
    generalize S.mayR [f] = r at *
    clear hm
    go_enter Try.func19, Try.ntmps19
    go_wp2_with fail
    refine M.out.mono ?_; rintro e w1 ⟨rfl, rfl⟩
    go_wp2_with fail
    go_ret2
    rw [HE.out]
    exact ⟨rfl, hB.out⟩

theorem row_two (w : World) (t : TypeId) (f g : Int) : Row (w.alloc (.cells #[.int .i64 f, .int .i64 g] t)) (w.alloc (.cells #[.int .i64 f, .int .i64 g] t)).heap.size (some ⟨w.heap.size, 0, none⟩) (i64s [f, g]) := fun _ =>
  ⟨w.heap.size, 0, rfl, by simp, fun j hj => by
    have : j = 0 ∨ j = 1 := by simp [i64s] at hj; omega
    rcases this with rfl | rfl <;> simp [i64s]⟩

def DS.flushS (S : DS) (f : Int) : Int × DS :=
  if S.tick.mayR [f] ≠ 0 then (S.tick.mayR [f], S.tick) else if 0 < S.tick.lost then (18, { S.tick with lost := S.tick.lost - 1 })
  else (0, { S.tick with la := fun g => if g = f.toNat then (S.tick.by_ g).length else S.tick.la g })

set_option maxRecDepth 100000 in
set_option maxHeartbeats 2000000 in
theorem flush_any (b : Nat) (S : DS) (f : Int) (w : World) (h : Dk w b S) (hok : S.Ok) :
    Calls Try.prog 15 #[.pointer (some ⟨b, 0, none⟩), .int .i64 f] w fun e w' => e = .returned (.int .i64 (S.flushS f).1) ∧ Dk w' b (S.flushS f).2 ∧ w.grownBy w' (some b) := by
  have E := Lib.hid (ends_any b S w h hok.2.2.2.1 hok.2.2.2.2.1)
  have hT := hok.tick
  have OT := Lib.hid hT.1
  have hTe : (S.endsR = true → S.tick = S.endsS.crash S.endsS.keep) ∧ (S.endsR = false → S.tick = S.endsS) := ⟨fun hr => by simp [DS.tick, hr], fun hr => by simp [DS.tick, hr]⟩
  have TE := Lib.hid hTe
  have OE := Lib.hid hok.ends
  have hlost := hT.2.1
  have hlost' := hT.2.2.1
  clear h hTe hok hT
  have HF := Lib.hid (show S.flushS f = if S.tick.mayR [f] ≠ 0 then (S.tick.mayR [f], S.tick) else if 0 < S.tick.lost then (18, { S.tick with lost := S.tick.lost - 1 })
    else (0, { S.tick with la := fun g => if g = f.toNat then (S.tick.by_ g).length else S.tick.la g }) from rfl)
  by_cases hm : S.tick.mayR [f] = 0
  · obtain ⟨_, h0, h8⟩ := may_one hm
    have hm' := Lib.hid hm
    obtain ⟨k, rfl⟩ := Int.eq_ofNat_of_zero_le h0
    have hk : k < 8 := by omega
    have hby := (OT.out k hk).2
    by_cases hl : 0 < S.tick.lost
    · have HE := Lib.hid (show S.flushS (k : Int) = (18, { S.tick with lost := S.tick.lost - 1 }) by rw [HF.out, if_neg (by simp [hm]), if_pos hl])
      clear hm HF
      generalize hTT : S.tick = T at *
      clear hTT
      cases hr : S.endsR
      · rw [hr] at E
        have ht := TE.out.2 hr
        rw [← ht] at E
        clear hr ht
        go_enter Try.func15, Try.ntmps15
        go_wp2_with fail
        refine E.out.mono ?_; rintro e wA ⟨rfl, dA, gA⟩
        go_wp2_with fail
        refine (may_any b _ (some ⟨wA.heap.size, 0, none⟩) 1 1 [(k : Int)] _ (dA.alloc (.cells #[.int .i64 (k : Int)] 3)) (row_one wA 3 (k : Int)) rfl (by omega)).mono ?_
        rw [hm'.out]
        rintro e w2 ⟨rfl, rfl⟩
        have c16 := (dA.alloc (.cells #[.int .i64 (k : Int)] 3)).c16
        have z16 := (dA.alloc (.cells #[.int .i64 (k : Int)] 3)).frozen 16
        have HD := Lib.hid ((dA.alloc (.cells #[.int .i64 (k : Int)] 3)).set16 (T.lost - 1))
        go_wp2_with fail
        go_ret
        rw [HE.out]
        exact ⟨rfl, HD.out, gr_own (gr_alloc gA _) 16 _⟩
      · rw [hr] at E
        have ht := Lib.hid (TE.out.1 hr)
        have hup := endsR_up hr
        have CK := Lib.hid (fun w1 d1 => crash_keep b S.endsS w1 d1 OE.out hup)
        clear hr hup
        go_enter Try.func15, Try.ntmps15
        go_wp2_with fail
        refine E.out.mono ?_; rintro e w1 ⟨rfl, d1, g1⟩
        obtain ⟨A, c, c19, C⟩ := CK.out w1 d1
        have HC := Lib.hid C
        clear C
        go_wp2_with fail
        refine HC.out.mono ?_; rintro e wA ⟨rfl, d2, g2⟩
        rw [← ht.out] at d2
        have dA := d2
        have gA := gr_trans g1 g2
        clear c19 d2 g1 g2 d1 HC
        go_wp2_with fail
        refine (may_any b _ (some ⟨wA.heap.size, 0, none⟩) 1 1 [(k : Int)] _ (dA.alloc (.cells #[.int .i64 (k : Int)] 3)) (row_one wA 3 (k : Int)) rfl (by omega)).mono ?_
        rw [hm'.out]
        rintro e w2 ⟨rfl, rfl⟩
        have c16 := (dA.alloc (.cells #[.int .i64 (k : Int)] 3)).c16
        have z16 := (dA.alloc (.cells #[.int .i64 (k : Int)] 3)).frozen 16
        have HD := Lib.hid ((dA.alloc (.cells #[.int .i64 (k : Int)] 3)).set16 (T.lost - 1))
        go_wp2_with fail
        go_ret
        rw [HE.out]
        exact ⟨rfl, HD.out, gr_own (gr_alloc gA _) 16 _⟩
    · have HE := Lib.hid (show S.flushS (k : Int) = (0, { S.tick with la := fun g => if g = k then (S.tick.by_ k).length else S.tick.la g }) by
        rw [HF.out, if_neg (by simp [hm]), if_neg hl]
        simp only [Int.toNat_natCast]
        congr 2
        funext g
        split
        · rename_i h; rw [h]
        · rfl)
      clear hm HF
      generalize hTT : S.tick = T at *
      clear hTT
      cases hr : S.endsR
      · rw [hr] at E
        have ht := TE.out.2 hr
        rw [← ht] at E
        clear hr ht
        go_enter Try.func15, Try.ntmps15
        go_wp2_with fail
        refine E.out.mono ?_; rintro e wA ⟨rfl, dA, gA⟩
        go_wp2_with fail
        refine (may_any b _ (some ⟨wA.heap.size, 0, none⟩) 1 1 [(k : Int)] _ (dA.alloc (.cells #[.int .i64 (k : Int)] 3)) (row_one wA 3 (k : Int)) rfl (by omega)).mono ?_
        rw [hm'.out]
        rintro e w2 ⟨rfl, rfl⟩
        have dB := dA.alloc (.cells #[.int .i64 (k : Int)] 3)
        have gB := gr_alloc gA (.cells #[.int .i64 (k : Int)] 3)
        generalize wA.alloc (.cells #[.int .i64 (k : Int)] 3) = wB at *
        clear dA gA
        have c16 := dB.c16
        have c0 := dB.byte hk
        have c1 := dB.last hk
        have z1 := dB.frozen (k * 2 + 1)
        have SZ := Lib.hid (fun m => size_in b k T (wB.drewN m) (dB.drewN m) hk (by omega))
        have HD := Lib.hid (fun m => (dB.drewN m).setLa hk (T.by_ k).length)
        have hk0 : (0 : Int) ≤ (k : Int) := by omega
        have hk1 : (k : Int) < 8 := by omega
        go_wp2_with fail
        go_region_with (go_at_call 20; refine (SZ.out _).mono ?_; rintro e w3 ⟨rfl, rfl⟩)
        all_goals go_wp2_with fail
        all_goals go_ret
        all_goals rw [HE.out]
        all_goals exact ⟨rfl, HD.out _, gr_own (gr_drewN gB _) (k * 2 + 1) _⟩
      · rw [hr] at E
        have ht := Lib.hid (TE.out.1 hr)
        have hup := endsR_up hr
        have CK := Lib.hid (fun w1 d1 => crash_keep b S.endsS w1 d1 OE.out hup)
        clear hr hup
        go_enter Try.func15, Try.ntmps15
        go_wp2_with fail
        refine E.out.mono ?_; rintro e w1 ⟨rfl, d1, g1⟩
        obtain ⟨A, c, c19, C⟩ := CK.out w1 d1
        have HC := Lib.hid C
        clear C
        go_wp2_with fail
        refine HC.out.mono ?_; rintro e wA ⟨rfl, d2, g2⟩
        rw [← ht.out] at d2
        have dA := d2
        have gA := gr_trans g1 g2
        clear c19 d2 g1 g2 d1 HC
        go_wp2_with fail
        refine (may_any b _ (some ⟨wA.heap.size, 0, none⟩) 1 1 [(k : Int)] _ (dA.alloc (.cells #[.int .i64 (k : Int)] 3)) (row_one wA 3 (k : Int)) rfl (by omega)).mono ?_
        rw [hm'.out]
        rintro e w2 ⟨rfl, rfl⟩
        have dB := dA.alloc (.cells #[.int .i64 (k : Int)] 3)
        have gB := gr_alloc gA (.cells #[.int .i64 (k : Int)] 3)
        generalize wA.alloc (.cells #[.int .i64 (k : Int)] 3) = wB at *
        clear dA gA
        have c16 := dB.c16
        have c0 := dB.byte hk
        have c1 := dB.last hk
        have z1 := dB.frozen (k * 2 + 1)
        have SZ := Lib.hid (fun m => size_in b k T (wB.drewN m) (dB.drewN m) hk (by omega))
        have HD := Lib.hid (fun m => (dB.drewN m).setLa hk (T.by_ k).length)
        have hk0 : (0 : Int) ≤ (k : Int) := by omega
        have hk1 : (k : Int) < 8 := by omega
        go_wp2_with fail
        go_region_with (go_at_call 20; refine (SZ.out _).mono ?_; rintro e w3 ⟨rfl, rfl⟩)
        all_goals go_wp2_with fail
        all_goals go_ret
        all_goals rw [HE.out]
        all_goals exact ⟨rfl, HD.out _, gr_own (gr_drewN gB _) (k * 2 + 1) _⟩
  · have HE := Lib.hid (show S.flushS f = (S.tick.mayR [f], S.tick) by rw [HF.out, if_pos hm])
    have hb : (S.tick.mayR [f] != 0) = true := by simpa using hm
    have hR : ∃ R, R = S.tick.mayR [f] := ⟨_, rfl⟩
    obtain ⟨R, hR⟩ := hR
    rw [← hR] at HE hb
    have hRR := Lib.hid hR.symm
    clear hm HF hR
    generalize hTT : S.tick = T at *
    clear hTT
    cases hr : S.endsR
    · rw [hr] at E
      have ht := TE.out.2 hr
      rw [← ht] at E
      clear hr ht
      go_enter Try.func15, Try.ntmps15
      go_wp2_with fail
      refine E.out.mono ?_; rintro e wA ⟨rfl, dA, gA⟩
      go_wp2_with fail
      refine (may_any b _ (some ⟨wA.heap.size, 0, none⟩) 1 1 [f] _ (dA.alloc (.cells #[.int .i64 f] 3)) (row_one wA 3 f) rfl (by omega)).mono ?_
      rw [hRR.out]
      rintro e w2 ⟨rfl, rfl⟩
      go_wp2_with fail
      go_ret
      rw [HE.out]
      exact ⟨rfl, dA.alloc _, gr_alloc gA _⟩
    · rw [hr] at E
      have ht := Lib.hid (TE.out.1 hr)
      have hup := endsR_up hr
      have CK := Lib.hid (fun w1 d1 => crash_keep b S.endsS w1 d1 OE.out hup)
      clear hr hup
      go_enter Try.func15, Try.ntmps15
      go_wp2_with fail
      refine E.out.mono ?_; rintro e w1 ⟨rfl, d1, g1⟩
      obtain ⟨A, c, c19, C⟩ := CK.out w1 d1
      have HC := Lib.hid C
      clear C
      go_wp2_with fail
      refine HC.out.mono ?_; rintro e wA ⟨rfl, d2, g2⟩
      rw [← ht.out] at d2
      have dA := d2
      have gA := gr_trans g1 g2
      clear c19 d2 g1 g2 d1 HC
      go_wp2_with fail
      refine (may_any b _ (some ⟨wA.heap.size, 0, none⟩) 1 1 [f] _ (dA.alloc (.cells #[.int .i64 f] 3)) (row_one wA 3 f) rfl (by omega)).mono ?_
      rw [hRR.out]
      rintro e w2 ⟨rfl, rfl⟩
      go_wp2_with fail
      go_ret
      rw [HE.out]
      exact ⟨rfl, dA.alloc _, gr_alloc gA _⟩

end Go.Proofs.Ytnbaalllcddbkaa
