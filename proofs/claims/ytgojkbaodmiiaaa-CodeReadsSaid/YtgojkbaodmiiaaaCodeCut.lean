/- CodeCut: for all values that can be written, and all numbers of bytes less than that of the encoding, reading the value from so many of its first bytes fails. No condition. -/
import Derived.Test.YtgojkbaodmiiaaaCodeDat
namespace Go.Proofs.Ytgojkbaodmiiaaa
open Go.RowKit

/-- What is known of a value that came in. -/
def Val.Came (x : Val) : Prop := (-9223372036854775808 ≤ x.n ∧ x.n < 9223372036854775808) ∧ x.s.length ≤ maxLen ∧ x.l.length ≤ maxLen ∧ x.m.length ≤ maxLen ∧ ∀ y ∈ x.l, y.length ≤ maxLen

theorem encV_len {x : Val} (h : x.Fit) (k : Nat) : (encV k x.dat).length ≤ 4398046511104 := by
  obtain ⟨h1, h2, h3, h4, h5⟩ := h
  unfold encV
  split
  · unfold numL; split
    · simp
    · have := vi_len9 (n := x.dat.n.toNat) (by have : x.dat.n = x.n := rfl; omega); omega
  · split
    · have := encInt_len x.dat.n; omega
    · split
      · have e : x.dat.s = x.s := rfl
        have := vi_len9 (n := x.dat.s.length) (by rw [e]; omega)
        simp [encText]; rw [e] at this ⊢; omega
      · split
        · exact enc_l _ h3 h4
        · exact enc_m _ h5

set_option maxRecDepth 100000 in
set_option maxHeartbeats 2000000 in
theorem cut_any (x : Val) (n : Int) (w : World) (hx : x.At w) (hc : x.Came) :
    Calls Try.prog 7 #[.agg x.cells, .int .i64 n] w fun e w' => e = .returned (.bool true) ∧ Below w.heap.size w w' := by
  obtain ⟨⟨_, hn1⟩, hs, hl, hm, hxl⟩ := hc
  have BX : Below w.heap.size w (w.alloc (.cells x.cells 45)) := (Below.refl _ _).alloc (Nat.le_refl _) _
  have HB := Lib.hid (Blk.new w 45 x.cells)
  have hBX := Lib.hid BX
  have hX := Lib.hid hx
  have V := Lib.hid (fun w hx => valid_any x w hx hs hl hm hxl)
  have K := Lib.hid (fun w => kind_any x w)
  have hk := x.kd_lt
  clear hx BX hxl
  cases hv : validB x
  · rw [hv] at V
    clear hv
    unfold Val.cells at V K ⊢
    go_enter Try.func7, Try.ntmps7
    go_wp2_with fail
    refine (small_any _).mono ?_; rintro e w1 ⟨rfl, b1⟩
    have C1 := Lib.hid (HB.out.later b1)
    have B1 := Lib.hid (hBX.out.trans (b1.mono (by simp)))
    have hs1 := B1.out.size
    obtain ⟨c0, c1, c2, c3, c4⟩ := val_cells C1.out
    clear b1
    go_wp2_with fail
    refine (V.out _ (hX.out.later B1.out)).mono ?_; rintro e w2 ⟨rfl, b2⟩
    go_wp2_with fail
    go_ret
    exact ⟨rfl, B1.out.trans (b2.mono hs1)⟩
  · obtain ⟨hok, hfit⟩ := valid_ok hv hn1
    rw [hv] at V
    have hlen := encV_len hfit x.kd
    have W := Lib.hid (fun w hx => write_any x w hx hfit)
    have Cut := Lib.hid (fun m hm => codec_cut (codecV x.kd hk) hok (n := m) hm)
    rw [enc_canon] at Cut
    clear hv hok hfit
    generalize encV x.kd x.dat = E at *
    generalize x.kd = k at *
    unfold Val.cells at V K W ⊢
    by_cases h0 : n < 0
    · go_enter Try.func7, Try.ntmps7
      go_wp2_with fail
      refine (small_any _).mono ?_; rintro e w1 ⟨rfl, b1⟩
      have C1 := Lib.hid (HB.out.later b1)
      have B1 := Lib.hid (hBX.out.trans (b1.mono (by simp)))
      have hs1 := B1.out.size
      obtain ⟨c0, c1, c2, c3, c4⟩ := val_cells C1.out
      clear b1
      go_wp2_with fail
      refine (V.out _ (hX.out.later B1.out)).mono ?_; rintro e w2 ⟨rfl, b2⟩
      have C2 := Lib.hid (C1.out.later b2)
      have B2 := Lib.hid (B1.out.trans (b2.mono hs1))
      have hs2 := B2.out.size
      clear b2
      obtain ⟨c0, c1, c2, c3, c4⟩ := val_cells C2.out
      go_wp2_with fail
      refine (W.out _ (hX.out.later B2.out)).mono ?_; rintro e w3 ⟨rfl, b3⟩
      go_wp2_with fail
      go_ret
      exact ⟨rfl, B2.out.trans (b3.mono hs2)⟩
    · obtain ⟨m, rfl⟩ := Int.eq_ofNat_of_zero_le (by omega : 0 ≤ n)
      by_cases hm : m < E.length
      · have hcut := Lib.hid (Cut.out m hm)
        have htk := Lib.hid (bx_take E m)
        clear Cut
        go_enter Try.func7, Try.ntmps7
        go_wp2_with fail
        refine (small_any _).mono ?_; rintro e w1 ⟨rfl, b1⟩
        have C1 := Lib.hid (HB.out.later b1)
        have B1 := Lib.hid (hBX.out.trans (b1.mono (by simp)))
        have hs1 := B1.out.size
        obtain ⟨c0, c1, c2, c3, c4⟩ := val_cells C1.out
        clear b1
        go_wp2_with fail
        refine (V.out _ (hX.out.later B1.out)).mono ?_; rintro e w2 ⟨rfl, b2⟩
        have C2 := Lib.hid (C1.out.later b2)
        have B2 := Lib.hid (B1.out.trans (b2.mono hs1))
        have hs2 := B2.out.size
        clear b2
        obtain ⟨c0, c1, c2, c3, c4⟩ := val_cells C2.out
        go_wp2_with fail
        refine (W.out _ (hX.out.later B2.out)).mono ?_; rintro e w3 ⟨rfl, b3⟩
        have C3 := Lib.hid (C2.out.later b3)
        have B3 := Lib.hid (B2.out.trans (b3.mono hs2))
        have hs3 := B3.out.size
        clear b3
        obtain ⟨c0, c1, c2, c3, c4⟩ := val_cells C3.out
        go_wp2_with fail
        rw [htk.out]
        refine (open_any _ _).mono ?_; rintro e w4 ⟨rfl, r4, b4⟩
        have C4 := Lib.hid (C3.out.later b4)
        have B4 := Lib.hid (B3.out.trans (b4.mono hs3))
        have hs4 := B4.out.size
        have hr4 := Blk.lt r4
        obtain ⟨c0, c1, c2, c3, c4⟩ := val_cells C4.out
        clear b4
        go_wp2_with fail
        refine (K.out _).mono ?_; rintro e w5 ⟨rfl, b5⟩
        have r5 := r4.later b5
        have B5 := Lib.hid (B4.out.trans (b5.mono hs4))
        have hs5 := B5.out.size
        have hs45 := b5.size
        clear b5
        go_wp2_with fail
        refine (read_any _ _ _ k _ r5 (by simp; omega) hk).mono ?_
        rintro e w6 ⟨y, rfl, _, _, _, r6, g6⟩
        rw [hcut.out] at r6
        have B6 := Lib.hid (below_gr B5.out g6 (by omega) hs5)
        go_wp2_with fail
        refine (done_any _ _ _ _ r6).mono ?_; rintro e w6 ⟨rfl, rfl⟩
        go_wp2_with fail
        refine (left_any _ _ _ _ r6 (by simp)).mono ?_; rintro e w6 ⟨rfl, rfl⟩
        go_wp2_with fail
        go_ret
        exact ⟨rfl, B6.out⟩
      · clear Cut
        go_enter Try.func7, Try.ntmps7
        go_wp2_with fail
        refine (small_any _).mono ?_; rintro e w1 ⟨rfl, b1⟩
        have C1 := Lib.hid (HB.out.later b1)
        have B1 := Lib.hid (hBX.out.trans (b1.mono (by simp)))
        have hs1 := B1.out.size
        obtain ⟨c0, c1, c2, c3, c4⟩ := val_cells C1.out
        clear b1
        go_wp2_with fail
        refine (V.out _ (hX.out.later B1.out)).mono ?_; rintro e w2 ⟨rfl, b2⟩
        have C2 := Lib.hid (C1.out.later b2)
        have B2 := Lib.hid (B1.out.trans (b2.mono hs1))
        have hs2 := B2.out.size
        clear b2
        obtain ⟨c0, c1, c2, c3, c4⟩ := val_cells C2.out
        go_wp2_with fail
        refine (W.out _ (hX.out.later B2.out)).mono ?_; rintro e w3 ⟨rfl, b3⟩
        go_wp2_with fail
        go_ret
        exact ⟨rfl, B2.out.trans (b3.mono hs2)⟩

end Go.Proofs.Ytgojkbaodmiiaaa
