/- CodeBack: for all sequences of at most 20 values that can be written, and all strings that follow (at most 1000 bytes), a reader of the concatenated encodings returns these values in order, and leaves exactly what follows. -/
import Derived.Test.YtgojkbaodmiiaaaArgVal
import Derived.Test.YtgojkbaodmiiaaaCodePre
namespace Go.Proofs.Ytgojkbaodmiiaaa
open Go.RowKit

def encX (x : Val) : List UInt8 := encV x.kd x.dat
def flatX (l : List Val) : List UInt8 := (l.map encX).flatten

theorem valid_len {x : Val} (h : validB x = true) (hn : x.n < 9223372036854775808) : (encX x).length ≤ 200000 := by
  unfold validB lightB at h
  simp only [Bool.and_eq_true, decide_eq_true_eq, List.all_eq_true] at h
  obtain ⟨h1, h2, ⟨h3, h4⟩, _⟩ := h
  unfold encX encV
  split
  · unfold numL; split
    · simp
    · have := vi_len9 (n := x.dat.n.toNat) (by have : x.dat.n = x.n := rfl; omega); omega
  · split
    · have := encInt_len x.dat.n; omega
    · split
      · have e : x.dat.s = x.s := rfl
        have := vi_len9 (n := x.dat.s.length) (by rw [e]; omega)
        rw [encText, List.length_append]; rw [e] at this ⊢; omega
      · split
        · have e : x.dat.l = x.l := rfl
          have h5 := vi_len9 (n := x.l.length) (by omega)
          have h6 := flat_le encText 1009 x.l (fun y hy => by have := vi_len9 (n := y.length) (by have := h4 y hy; omega); have := h4 y hy; rw [encText, List.length_append]; omega)
          rw [encMany, List.length_append, e]; omega
        · have e : x.dat.m = x.m := rfl
          have h5 := vi_len9 (n := x.m.length) (by omega)
          have h6 := flat_le encInt 9 x.m (fun y _ => encInt_len y)
          rw [encMany, List.length_append, e]; omega

theorem canon_fit {x y : Val} (hx : x.Fit) (k : Nat) (h : y.dat = canon k x.dat) : y.Fit := by
  obtain ⟨kd, n, s, A, c, l, D, d, m⟩ := y
  obtain ⟨h1, h2, h3, h4, h5⟩ := hx
  unfold Val.Fit
  simp only [Val.dat, canon] at h ⊢
  split at h
  · simp only [Dat.mk.injEq] at h
    obtain ⟨rfl, rfl, rfl, rfl⟩ := h
    exact ⟨h1, by simp, by simp, by simp, by simp⟩
  · split at h
    · simp only [Dat.mk.injEq] at h
      obtain ⟨rfl, rfl, rfl, rfl⟩ := h
      exact ⟨h1, by simp, by simp, by simp, by simp⟩
    · split at h
      · simp only [Dat.mk.injEq] at h
        obtain ⟨rfl, rfl, rfl, rfl⟩ := h
        exact ⟨by simp, h2, by simp, by simp, by simp⟩
      · split at h
        · simp only [Dat.mk.injEq] at h
          obtain ⟨rfl, rfl, rfl, rfl⟩ := h
          exact ⟨by simp, by simp, h3, h4, by simp⟩
        · simp only [Dat.mk.injEq] at h
          obtain ⟨rfl, rfl, rfl, rfl⟩ := h
          exact ⟨by simp, by simp, by simp, by simp, h5⟩

theorem back_step {x : Val} (t : List UInt8) (hv : validB x = true) (hn : x.n < 9223372036854775808) : rdV x.kd (encX x ++ t) false = (canon x.kd x.dat, t, false) := by
  have := (codecV x.kd x.kd_lt).back (canon x.kd x.dat) t (valid_ok hv hn).1
  rw [enc_canon] at this; exact this

theorem same_step (x : Val) : sameB x.kd x.dat (canon x.kd x.dat) = true := by rw [same_canon, canon_canon]

theorem flat_take {l : List Val} {k : Nat} (h : k < l.length) : flatX (l.take (k + 1)) = flatX (l.take k) ++ encX l[k] := by
  unfold flatX; rw [List.take_succ_eq_append_getElem h, List.map_append, List.flatten_append]; simp [-List.map_take]
theorem flat_drop {l : List Val} {k : Nat} (h : k < l.length) : flatX (l.drop k) = encX l[k] ++ flatX (l.drop (k + 1)) := by
  unfold flatX; rw [List.drop_eq_getElem_cons h, List.map_cons, List.flatten_cons]
theorem flatX_len : ∀ (l : List Val), (∀ x ∈ l, (encX x).length ≤ 200000) → (flatX l).length ≤ l.length * 200000 := fun l h => flat_le encX 200000 l h

theorem cell_later {w w' : World} (b : Below w.heap.size w w') {a : Addr} {v : Value} (h : w.cell? a = some v) : w'.cell? a = some v := by
  rw [b.cell (block_lt_of_cell h)]; exact h

theorem Vals.get {w wr : World} {A : Option Addr} {l : List Val} (h : Vals w A l) {k : Nat} (hk : k < l.length) (hB : Below w.heap.size w wr) : ∃ b o x, A = some ⟨b, o, none⟩ ∧ Hid (l[k] = x) ∧ x.At wr ∧ x.Came ∧
    wr.cell? ⟨b, o + k * 5, none⟩ = some (.int .i64 x.kind) ∧ wr.cell? ⟨b, o + k * 5 + 1, none⟩ = some (.int .i64 x.n) ∧ wr.cell? ⟨b, o + k * 5 + 2, none⟩ = some (.string ⟨x.s.toArray⟩) ∧
    wr.cell? ⟨b, o + k * 5 + 3, none⟩ = some (.slice x.A x.l.length x.c) ∧ wr.cell? ⟨b, o + k * 5 + 4, none⟩ = some (.slice x.D x.m.length x.d) := by
  obtain ⟨bk, o, rfl, hb, hc⟩ := h.2 (by omega)
  obtain ⟨hat, hcame⟩ := h.1 l[k] (List.getElem_mem hk)
  have hcs := fun j hj => (hB.cell (show (⟨bk, o + (k * 5 + j), none⟩ : Addr).block < w.heap.size from hb)).trans (hc k hk j hj)
  exact ⟨bk, o, l[k], rfl, Lib.hid rfl, hat.later hB, hcame, hcs 0 (by decide), hcs 1 (by decide), hcs 2 (by decide), hcs 3 (by decide), hcs 4 (by decide)⟩

set_option maxRecDepth 100000 in
set_option maxHeartbeats 1000000 in
theorem back_main (A : Option Addr) (c n : Nat) (l : List Val) (s : List UInt8) (w : World) (hrow : Vals w A l) (hn : n = l.length) (hl : n ≤ 20) (hs : s.length ≤ 1000) :
    Calls Try.prog 5 #[.slice A n c, .string ⟨s.toArray⟩] w fun e w' => e = .returned (.bool true) ∧ Below w.heap.size w w' := by
  have HR := Lib.hid hrow
  have HN := Lib.hid hn
  clear hrow
  go_enter Try.func5, Try.ntmps5
  go_wp2_with fail
  refine (small_any _).mono ?_; rintro e w1 ⟨rfl, b1⟩
  have B1 := Lib.hid b1
  clear b1
  go_wp2_with fail
  go_loopw [6, 7] (fun t i wr => ∃ (k : Nat) (T : List UInt8), t = .string ⟨T.toArray⟩ ∧ i = .int .i64 k ∧ k ≤ n ∧ T.length ≤ k * 200000 ∧ Hid (T = flatX (l.take k)) ∧ Hid (∀ x ∈ l.take k, validB x = true) ∧ Hid (Below w.heap.size w wr)) (fun _ i _ => n - (intOf i).toNat)
  case atStart => exact ⟨0, [], rfl, rfl, by omega, by simp, Lib.hid rfl, Lib.hid (by simp), B1⟩
  case round =>
    obtain ⟨k, T, rfl, rfl, hk, hT, hTe, hval, hB⟩ := hrel
    by_cases hlt : k < n
    · have hk1 : k < l.length := by rw [← HN.out]; exact hlt
      obtain ⟨bk, o1, x, rfl, HX, hat, hcame, c0, c1, c2, c3, c4⟩ := HR.out.get hk1 hB.out
      obtain ⟨⟨_, hn1⟩, gs, gl, gm, gxl⟩ := hcame
      have V := Lib.hid (valid_any x wr hat gs gl gm gxl)
      have XAt := Lib.hid hat
      have hBs := hB.out.size
      clear hat gxl
      unfold Val.cells at V
      cases hv : validB x
      · rw [hv] at V
        go_wp2_with fail
        refine V.out.mono ?_; rintro e w2 ⟨rfl, b2⟩
        go_wp2_with fail
        go_ret
        exact ⟨rfl, hB.out.trans (b2.mono hBs)⟩
      · obtain ⟨_, hfit⟩ := valid_ok hv hn1
        have hel := valid_len hv hn1
        have W := Lib.hid (fun w hx => write_any x w hx hfit)
        rw [hv] at V
        have HV := Lib.hid hv
        clear hv hfit
        unfold Val.cells at W
        have hEE : encV x.kd x.dat = encX x := rfl
        rw [hEE] at W
        have hnx := Lib.hid (show flatX (l.take (k + 1)) = T ++ encX x by rw [flat_take hk1, HX.out, hTe.out])
        generalize encX x = E at *
        have hcat : ByteArray.mk T.toArray ++ ByteArray.mk E.toArray = ByteArray.mk (T ++ E).toArray := by rw [ByteArray.mk_append_mk]
        go_wp2_with fail
        refine V.out.mono ?_; rintro e w2 ⟨rfl, b2⟩
        have c0 := cell_later b2 c0
        have c1 := cell_later b2 c1
        have c2 := cell_later b2 c2
        have c3 := cell_later b2 c3
        have c4 := cell_later b2 c4
        have B2 := Lib.hid (hB.out.trans (b2.mono hBs))
        have X2 := Lib.hid (XAt.out.later b2)
        clear b2
        go_wp2_with fail
        refine (W.out _ X2.out).mono ?_; rintro e w3 ⟨rfl, b3⟩
        have B3 := Lib.hid (B2.out.trans (b3.mono B2.out.size))
        clear b3
        have hal : ∀ y ∈ l.take (k + 1), validB y = true := by
          intro y hy
          rw [List.take_succ_eq_append_getElem hk1] at hy
          rcases List.mem_append.1 hy with h | h
          · exact hval.out y h
          · simp at h; subst h; rw [HX.out]; exact HV.out
        have HAL := Lib.hid hal
        clear hal
        go_wp2_with fail
        go_roundw
        case rel => exact ⟨k + 1, T ++ E, rfl, by go_num, by omega, by rw [List.length_append]; omega, Lib.hid hnx.out.symm, HAL, B3⟩
        case measure => simp [intOf]; omega
    · have hke : n = k := by omega
      subst hke
      have hall : Hid (∀ x ∈ l, validB x = true) := by
        have := hval.out
        rw [HN.out, List.take_length] at this
        exact Lib.hid this
      have hfl : Hid (T = flatX l) := by
        have := hTe.out
        rw [HN.out, List.take_length] at this
        exact Lib.hid this
      clear hval hTe hlt
      have hcat : ByteArray.mk T.toArray ++ ByteArray.mk s.toArray = ByteArray.mk (T ++ s).toArray := by rw [ByteArray.mk_append_mk]
      have hBs := hB.out.size
      go_wp2_with fail
      refine (open_any _ _).mono ?_; rintro e w2 ⟨rfl, r2, b2⟩
      have hr2 := Blk.lt r2
      have B2 := Lib.hid (hB.out.trans (b2.mono hBs))
      have hlf : T.length ≤ 4000000 := by omega
      have R2 : Hid (Rd w2 wr.heap.size (flatX (l.drop 0) ++ s) false) := by rw [hfl.out] at r2; exact Lib.hid r2
      have hfll : Hid ((flatX l).length ≤ 4000000) := by rw [hfl.out] at hlf; exact Lib.hid hlf
      generalize wr.heap.size = b at *
      clear b2 r2 hB hfl hT hcat hlf
      go_wp2_with fail
      go_loopw [9] (fun i wr => ∃ (k : Nat), i = .int .i64 k ∧ k ≤ n ∧ Hid (Rd wr b (flatX (l.drop k) ++ s) false) ∧ Hid (Below w.heap.size w wr)) (fun i _ => n - (intOf i).toNat)
      case atStart => exact ⟨0, rfl, by omega, R2, B2⟩
      case round =>
        obtain ⟨k, rfl, hk, hr, hB⟩ := hrel
        by_cases hlt : k < n
        · have hk1 : k < l.length := by rw [← HN.out]; exact hlt
          obtain ⟨bk, o1, x, rfl, HX, hat, hcame, c0, c1, c2, c3, c4⟩ := HR.out.get hk1 hB.out
          obtain ⟨⟨_, hn1⟩, _, _, _, _⟩ := hcame
          have hv : validB x = true := by rw [← HX.out]; exact hall.out _ (List.getElem_mem hk1)
          obtain ⟨_, hfit⟩ := valid_ok hv hn1
          have hXF := Lib.hid hfit
          have XAt := Lib.hid hat
          have hBs := hB.out.size
          have hbl := Blk.lt hr.out
          have K := Lib.hid (fun w => kind_any x w)
          have hkd := x.kd_lt
          have hdr : flatX (l.drop k) ++ s = encX x ++ (flatX (l.drop (k + 1)) ++ s) := by rw [flat_drop hk1, HX.out, List.append_assoc]
          have r := hr.out
          rw [hdr] at r
          have hlen : (encX x ++ (flatX (l.drop (k + 1)) ++ s)).length ≤ 4398046511104 := by
            rw [← hdr, List.length_append]
            have h1 := hfll.out
            have h2 : (flatX (l.drop k)).length ≤ (flatX l).length := by
              have : flatX l = flatX (l.take k) ++ flatX (l.drop k) := by unfold flatX; rw [← List.flatten_append, ← List.map_append, List.take_append_drop]
              rw [this, List.length_append]; omega
            omega
          have HST := Lib.hid (back_step (flatX (l.drop (k + 1)) ++ s) hv hn1)
          generalize hU : flatX (l.drop (k + 1)) ++ s = U at *
          have HU := Lib.hid hU
          clear hU
          clear hat hfit hv hdr hr
          have SM := Lib.hid (fun y (hy : y.dat = canon x.kd x.dat) w (h1 : x.At w) (h2 : y.At w) => same_any x y w h1 h2 hXF.out (canon_fit hXF.out _ hy))
          unfold Val.cells at K
          go_wp2_with fail
          refine (K.out _).mono ?_; rintro e w3 ⟨rfl, b3⟩
          have s3 := b3.size
          replace c0 := cell_later b3 c0
          replace c1 := cell_later b3 c1
          replace c2 := cell_later b3 c2
          replace c3 := cell_later b3 c3
          replace c4 := cell_later b3 c4
          have r3 := r.later b3
          have B3 := Lib.hid (hB.out.trans (b3.mono hBs))
          have X3 := Lib.hid (XAt.out.later b3)
          clear b3 r K
          go_wp2_with fail
          refine (read_any _ _ _ x.kd _ r3 hlen hkd).mono ?_
          rintro e w4 ⟨y, rfl, hyk, hyd, hya, r4, g4⟩
          rw [HST.out] at hyd r4
          simp only at hyd r4
          have B4 := Lib.hid (below_gr B3.out g4 (by omega) (by omega))
          have s4 := g4.size
          clear r3 g4 c0 c1 c2 c3 c4
          unfold Val.cells
          have V5 := Lib.hid (Blk.new w4 45 y.cells)
          have y5 := Lib.hid (hya.later (((Below.refl w4.heap.size w4).alloc (Nat.le_refl _) (.cells y.cells 45))))
          have r5 := Lib.hid (r4.alloc (.cells y.cells 45))
          have B5 := Lib.hid (B4.out.alloc (by omega) (.cells y.cells 45))
          obtain ⟨bk', o1', x', he, HX', hx5, _, k0, k1, k2, k3, k4⟩ := HR.out.get hk1 B5.out
          obtain ⟨rfl, rfl⟩ : bk = bk' ∧ o1 = o1' := by simpa using he
          obtain rfl : x' = x := by rw [← HX'.out, HX.out]
          have X5 := Lib.hid hx5
          have s5 : (w4.alloc (.cells y.cells 45)).heap.size = w4.heap.size + 1 := by simp
          unfold Val.cells at V5 y5 r5 B5 s5 k0 k1 k2 k3 k4 X5
          rw [hyk] at V5 y5 r5 B5 s5 k0 k1 k2 k3 k4 X5
          have hyc : y.cells = #[.int .i64 x'.kd, .int .i64 y.n, .string ⟨y.s.toArray⟩, .slice y.A y.l.length y.c, .slice y.D y.m.length y.d] := by unfold Val.cells; rw [hyk]
          have SM := Lib.hid (SM.out y hyd)
          rw [hyd, same_step] at SM
          rw [hyc] at SM
          clear r4 hya he hx5 hyc
          unfold Val.cells at SM
          go_wp2_with fail
          generalize w4.alloc (.cells #[.int .i64 x'.kd, .int .i64 y.n, .string ⟨y.s.toArray⟩, .slice y.A y.l.length y.c, .slice y.D y.m.length y.d] 45) = w5 at *
          have v5 := V5.out
          obtain ⟨d0, d1, d2, d3, d4⟩ := five_cells v5
          have MQ := quiet_of_any (w := w5) (fun W hW => SM.out W (X5.out.later hW) (y5.out.later hW))
          have F0 := fun d os => cell_regrown k0 d os
          have F1 := fun d os => cell_regrown k1 d os
          have F2 := fun d os => cell_regrown k2 d os
          have F3 := fun d os => cell_regrown k3 d os
          have F4 := fun d os => cell_regrown k4 d os
          have G0 := fun d os => cell_regrown d0 d os
          have G1 := fun d os => cell_regrown d1 d os
          have G2 := fun d os => cell_regrown d2 d os
          have G3 := fun d os => cell_regrown d3 d os
          have G4 := fun d os => cell_regrown d4 d os
          have HMQ := Lib.hid MQ
          clear MQ v5
          refine wp_region_quiet_below (by kernel_rfl) (by kernel_rfl) ?_
          repeat (quiet_step (exact HMQ.out _ _))
          refine wpQuiet_nil ?_
          intro _ hw'
          obtain ⟨⟨dq, osq⟩, hw''⟩ := hw'
          subst hw''
          have bq := below_regrown w5 dq osq
          have r6 := Lib.hid (Blk.later r5.out bq)
          have B6 := Lib.hid (B5.out.trans (bq.mono B5.out.size))
          clear bq
          go_wp2
          go_roundw
          case rel => exact ⟨k + 1, by go_num, by omega, by rw [HU.out]; exact r6, B6⟩
          case measure => simp [intOf]; omega
        · have hke : n = k := by omega
          subst hke
          have r := hr.out
          rw [HN.out, List.drop_length] at r
          have r1 : Rd wr b s false := r
          have hBs := hB.out.size
          have hbl := Blk.lt r1
          clear r hr hlt
          go_wp2_with fail
          refine (left_any _ _ _ _ r1 (by unfold maxLen; omega)).mono ?_; rintro e w3 ⟨rfl, rfl⟩
          go_wp2_with fail
          refine (take_any _ _ _ s.length _ r1 (by unfold maxLen; omega)).mono ?_; rintro e w3 ⟨rfl, r3, g3⟩
          rw [rdTake_ok ⟨rfl, by omega, by omega⟩] at r3 ⊢
          have B3 := Lib.hid (below_gr hB.out g3 (by omega) (by omega))
          simp only [Int.toNat_natCast, List.take_length, List.drop_length] at r3 ⊢
          go_wp2_with fail
          refine (done_any _ _ _ _ r3).mono ?_; rintro e w4 ⟨rfl, rfl⟩
          go_wp2_with fail
          go_ret
          exact ⟨rfl, B3.out⟩

set_option maxRecDepth 100000 in
theorem back_any (A : Option Addr) (c : Nat) (l : List Val) (s : List UInt8) (w : World) (hrow : Vals w A l) (hl : l.length ≤ maxLen) (hs : s.length ≤ maxLen) :
    Calls Try.prog 5 #[.slice A l.length c, .string ⟨s.toArray⟩] w fun e w' => e = .returned (.bool true) ∧ Below w.heap.size w w' := by
  unfold maxLen at hs hl
  by_cases h1 : l.length ≤ 20
  · by_cases h2 : s.length ≤ 1000
    · exact back_main A c _ l s w hrow rfl h1 h2
    · go_enter Try.func5, Try.ntmps5
      go_wp2_with fail
      refine (small_any _).mono ?_; rintro e w1 ⟨rfl, b1⟩
      go_wp2_with fail
      go_ret
      exact ⟨rfl, b1⟩
  · go_enter Try.func5, Try.ntmps5
    go_wp2_with fail
    refine (small_any _).mono ?_; rintro e w1 ⟨rfl, b1⟩
    go_wp2_with fail
    go_ret
    exact ⟨rfl, b1⟩

end Go.Proofs.Ytgojkbaodmiiaaa
