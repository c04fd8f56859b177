/- Package agoralaw02: what the laws' own functions do. -/
import Derived.Test.YtgojkbaodmiiaaaCode6
import Derived.Deep.QuietTactic
import Derived.BigQuiet
namespace Go.Proofs.Ytgojkbaodmiiaaa
open Go.RowKit

theorem vi_300 : vi 300 = [172, 2] := by rw [vi_big (by omega), vi_small (by omega)]; rfl

theorem row_lit (w : World) (t : TypeId) (xs : List Value) : Row (w.alloc (.cells xs.toArray t)) (w.alloc (.cells xs.toArray t)).heap.size (some ⟨w.heap.size, 0, none⟩) xs := fun h0 =>
  ⟨w.heap.size, 0, rfl, by simp, fun j hj => by rw [Nat.zero_add, (Blk.new w t xs.toArray).cell j]; simp [hj]⟩

theorem take_eq_iff {α : Type} {a b : List α} {k : Nat} (hk : k < a.length) (hl : a.length = b.length) (h : a.take k = b.take k) : a.take (k + 1) = b.take (k + 1) ↔ a[k] = b[k]'(by omega) := by
  have e1 := List.take_succ_eq_append_getElem hk
  have e2 := List.take_succ_eq_append_getElem (by omega : k < b.length)
  rw [e1, e2, h]
  constructor
  · intro h'
    have := List.append_cancel_left h'
    simpa using this
  · intro h'; rw [h']
theorem take_ne {α : Type} {a b : List α} {k : Nat} (h : a.take k ≠ b.take k) : a ≠ b := fun e => h (by rw [e])

set_option maxRecDepth 100000 in
set_option maxHeartbeats 400000 in
theorem sameTexts_any (A B : Option Addr) (c d n m : Nat) (x y : List (List UInt8)) (w : World) (hx : Row w w.heap.size A (strs x)) (hy : Row w w.heap.size B (strs y)) (hn : n = x.length) (hm : m = y.length) (hb : n ≤ 4398046511104) (hb' : m ≤ 4398046511104) :
    Calls Try.prog 32 #[.slice A n c, .slice B m d] w fun e w' => e = .returned (.bool (decide (x = y))) ∧ Below w.heap.size w w' := by
  have Hx := Lib.hid (show (strs x).length = n by rw [hn, strs_length])
  have Hy := Lib.hid (show (strs y).length = m by rw [hm, strs_length])
  by_cases hnm : n = m
  · subst hnm
    have Hn := Lib.hid hn
    have Hm := Lib.hid hm
    clear hn hm
    go_enter Try.func32, Try.ntmps32
    go_wp2
    go_loopw [5] (fun i wr => ∃ k : Nat, i = .int .i64 k ∧ k ≤ n ∧ Hid (x.take k = y.take k) ∧ Below w.heap.size w wr) (fun i _ => n - (intOf i).toNat)
    case atStart => exact ⟨0, rfl, by omega, Lib.hid (by simp), Below.refl _ _⟩
    case round =>
      obtain ⟨k, rfl, hk, he, hbl⟩ := hrel
      by_cases hlt : k < n
      · obtain ⟨b1, o1, rfl, hb1, hc1⟩ := hx (by rw [Hx.out]; omega)
        obtain ⟨b2, o2, rfl, hb2, hc2⟩ := hy (by rw [Hy.out]; omega)
        have hk1 : k < x.length := by rw [← Hn.out]; exact hlt
        have hk2 : k < y.length := by rw [← Hm.out]; exact hlt
        have f1 : wr.cell? ⟨b1, o1 + k, none⟩ = some (.string ⟨x[k].toArray⟩) := by
          rw [hbl.cell (p := ⟨b1, o1 + k, none⟩) hb1, hc1 k (by rw [Hx.out]; exact hlt)]; simp [strs]
        have f2 : wr.cell? ⟨b2, o2 + k, none⟩ = some (.string ⟨y[k].toArray⟩) := by
          rw [hbl.cell (p := ⟨b2, o2 + k, none⟩) hb2, hc2 k (by rw [Hy.out]; exact hlt)]; simp [strs]
        clear hc1 hc2
        have hst := Lib.hid (take_eq_iff hk1 (by rw [← Hn.out, ← Hm.out]) he.out)
        have hne := Lib.hid (take_ne (a := x) (b := y) (k := k + 1))
        go_wp2
        go_quiet (fail)
        go_wp2
        · have ht : (!x[k] == y[k]) = true := by assumption
          have hk3 : x[k] ≠ y[k] := by simpa using ht
          go_ret
          rw [decide_eq_false (hne.out (fun h => hk3 (hst.out.1 h)))]
          exact ⟨rfl, below_drewN hbl _⟩
        · have ht : (!x[k] == y[k]) = false := by assumption
          have hk3 : x[k] = y[k] := by simpa using ht
          go_roundw
          case rel => exact ⟨k + 1, by go_num, by omega, Lib.hid (hst.out.2 hk3), below_drewN hbl _⟩
          case measure => simp [intOf]; omega
      · have hxy : decide (x = y) = true := by
          have := he.out
          rw [List.take_of_length_le (by rw [← Hn.out]; omega), List.take_of_length_le (by rw [← Hm.out]; omega)] at this
          simp [this]
        have HXY := Lib.hid hxy
        clear hxy
        go_wp2
        go_ret
        rw [HXY.out]
        exact ⟨rfl, hbl⟩
  · have hxy : decide (x = y) = false := by
      apply decide_eq_false; rintro rfl; omega
    have HXY := Lib.hid hxy
    have hnb : ((n : Int) == (m : Int)) = false := by simp; omega
    clear hxy hn hm
    go_enter Try.func32, Try.ntmps32
    go_wp2
    go_ret
    rw [HXY.out]
    exact ⟨rfl, Below.refl _ _⟩

set_option maxRecDepth 100000 in
set_option maxHeartbeats 400000 in
theorem sameNums_any (A B : Option Addr) (c d n m : Nat) (x y : List Int) (w : World) (hx : Row w w.heap.size A (i64s x)) (hy : Row w w.heap.size B (i64s y)) (hn : n = x.length) (hm : m = y.length) (hb : n ≤ 4398046511104) (hb' : m ≤ 4398046511104) :
    Calls Try.prog 35 #[.slice A n c, .slice B m d] w fun e w' => e = .returned (.bool (decide (x = y))) ∧ Below w.heap.size w w' := by
  have Hx := Lib.hid (show (i64s x).length = n by rw [hn, i64s_length])
  have Hy := Lib.hid (show (i64s y).length = m by rw [hm, i64s_length])
  by_cases hnm : n = m
  · subst hnm
    have Hn := Lib.hid hn
    have Hm := Lib.hid hm
    clear hn hm
    go_enter Try.func35, Try.ntmps35
    go_wp2
    go_loopw [5] (fun i wr => ∃ k : Nat, i = .int .i64 k ∧ k ≤ n ∧ Hid (x.take k = y.take k) ∧ Below w.heap.size w wr) (fun i _ => n - (intOf i).toNat)
    case atStart => exact ⟨0, rfl, by omega, Lib.hid (by simp), Below.refl _ _⟩
    case round =>
      obtain ⟨k, rfl, hk, he, hbl⟩ := hrel
      by_cases hlt : k < n
      · obtain ⟨b1, o1, rfl, hb1, hc1⟩ := hx (by rw [Hx.out]; omega)
        obtain ⟨b2, o2, rfl, hb2, hc2⟩ := hy (by rw [Hy.out]; omega)
        have hk1 : k < x.length := by rw [← Hn.out]; exact hlt
        have hk2 : k < y.length := by rw [← Hm.out]; exact hlt
        have f1 : wr.cell? ⟨b1, o1 + k, none⟩ = some (.int .i64 x[k]) := by
          rw [hbl.cell (p := ⟨b1, o1 + k, none⟩) hb1, hc1 k (by rw [Hx.out]; exact hlt)]; simp [i64s]
        have f2 : wr.cell? ⟨b2, o2 + k, none⟩ = some (.int .i64 y[k]) := by
          rw [hbl.cell (p := ⟨b2, o2 + k, none⟩) hb2, hc2 k (by rw [Hy.out]; exact hlt)]; simp [i64s]
        clear hc1 hc2
        have hst := Lib.hid (take_eq_iff hk1 (by rw [← Hn.out, ← Hm.out]) he.out)
        have hne := Lib.hid (take_ne (a := x) (b := y) (k := k + 1))
        go_wp2
        go_quiet (fail)
        go_wp2
        · have ht : (x[k] != y[k]) = true := by assumption
          have hk3 : x[k] ≠ y[k] := by simpa using ht
          go_ret
          rw [decide_eq_false (hne.out (fun h => hk3 (hst.out.1 h)))]
          exact ⟨rfl, below_drewN hbl _⟩
        · have ht : (x[k] != y[k]) = false := by assumption
          have hk3 : x[k] = y[k] := by simpa using ht
          go_roundw
          case rel => exact ⟨k + 1, by go_num, by omega, Lib.hid (hst.out.2 hk3), below_drewN hbl _⟩
          case measure => simp [intOf]; omega
      · have hxy : decide (x = y) = true := by
          have := he.out
          rw [List.take_of_length_le (by rw [← Hn.out]; omega), List.take_of_length_le (by rw [← Hm.out]; omega)] at this
          simp [this]
        have HXY := Lib.hid hxy
        clear hxy
        go_wp2
        go_ret
        rw [HXY.out]
        exact ⟨rfl, hbl⟩
  · have hxy : decide (x = y) = false := by
      apply decide_eq_false; rintro rfl; omega
    have HXY := Lib.hid hxy
    have hnb : ((n : Int) == (m : Int)) = false := by simp; omega
    clear hxy hn hm
    go_enter Try.func35, Try.ntmps35
    go_wp2
    go_ret
    rw [HXY.out]
    exact ⟨rfl, Below.refl _ _⟩

theorem num300 (w : World) : Calls Try.prog 12 #[.int .i64 300] w fun e w' => e = .returned (.string ⟨#[172, 2]⟩) ∧ Below w.heap.size w w' :=
  (num_any 300 w (by omega) (by omega)).mono fun e w' h => by rw [show (300 : Int).toNat = 300 from rfl, vi_300] at h; exact h
theorem textAB (w : World) : Calls Try.prog 16 #[.string ⟨#[97, 98]⟩] w fun e w' => e = .returned (.string ⟨#[2, 97, 98]⟩) ∧ Below w.heap.size w w' :=
  (etext_any [97, 98] w (by simp)).mono fun e w' h => by rw [show encText [97, 98] = [2, 97, 98] by simp [encText, vi_small]] at h; exact h

theorem listC (w : World) : Calls Try.prog 18 #[.slice (some ⟨w.heap.size, 0, none⟩) 2 2] (w.alloc (.cells #[.string ⟨#[]⟩, .string ⟨#[99]⟩] 9)) fun e w' => e = .returned (.string ⟨#[2, 0, 1, 99]⟩) ∧ Below (w.heap.size + 1) (w.alloc (.cells #[.string ⟨#[]⟩, .string ⟨#[99]⟩] 9)) w' :=
  (elist_any _ 2 2 [[], [99]] _ (row_lit w 9 (strs [[], [99]])) (by simp [encMany, encText, vi_small]) rfl (by omega) (by intro x hx; simp at hx; rcases hx with rfl | rfl <;> simp)).mono fun e w' h => by
    rw [show encMany encText [[], [99]] = [2, 0, 1, 99] by simp [encMany, encText, vi_small]] at h; exact ⟨h.1, by have := h.2; rwa [World.size_alloc] at this⟩
theorem numsC (w : World) : Calls Try.prog 20 #[.slice (some ⟨w.heap.size, 0, none⟩) 2 2] (w.alloc (.cells #[.int .i64 7, .int .i64 (-2)] 3)) fun e w' => e = .returned (.string ⟨#[2, 14, 3]⟩) ∧ Below (w.heap.size + 1) (w.alloc (.cells #[.int .i64 7, .int .i64 (-2)] 3)) w' :=
  (enums_any _ 2 2 [7, -2] _ (row_lit w 3 (i64s [7, -2])) (by simp [encMany, encInt, zigOk, zz, vi_small]) rfl (by omega)).mono fun e w' h => by
    rw [show encMany encInt [7, -2] = [2, 14, 3] by simp [encMany, encInt, zigOk, zz, vi_small]] at h; exact ⟨h.1, by have := h.2; rwa [World.size_alloc] at this⟩

theorem rd_s1 : rdNum [172, 2, 2, 97, 98, 2, 0, 1, 99, 2, 14, 3] false = (300, [2, 97, 98, 2, 0, 1, 99, 2, 14, 3], false) := by decide +kernel
theorem rd_s2 : rdText [2, 97, 98, 2, 0, 1, 99, 2, 14, 3] false = ([97, 98], [2, 0, 1, 99, 2, 14, 3], false) := by decide +kernel
theorem rd_s3 : rdMany rdText [2, 0, 1, 99, 2, 14, 3] false = ([[], [99]], [2, 14, 3], false) := by decide +kernel
theorem rd_s4 : rdMany rdInt [2, 14, 3] false = ([7, -2], [], false) := by decide +kernel
theorem rd_s5 : rdNum [128, 0] false = (0, [], true) := by decide +kernel

theorem sameTC {w : World} {A : Option Addr} {c B : Nat} (h : OwnS w B 9 A c (strs [[], [99]])) : Calls Try.prog 32 #[.slice A (strs [[], [99]]).length c, .slice (some ⟨w.heap.size, 0, none⟩) 2 2] (w.alloc (.cells #[.string ⟨#[]⟩, .string ⟨#[99]⟩] 9)) fun e w' => e = .returned (.bool true) ∧ Below (w.heap.size + 1) (w.alloc (.cells #[.string ⟨#[]⟩, .string ⟨#[99]⟩] 9)) w' :=
  (sameTexts_any A _ c 2 _ 2 [[], [99]] [[], [99]] _ (h.alloc _).row (row_lit w 9 (strs [[], [99]])) rfl rfl (by simp) (by omega)).mono fun e w' h => ⟨by simpa using h.1, by have := h.2; rwa [World.size_alloc] at this⟩
theorem sameNC {w : World} {A : Option Addr} {c B : Nat} (h : OwnS w B 3 A c (i64s [7, -2])) : Calls Try.prog 35 #[.slice A (i64s [7, -2]).length c, .slice (some ⟨w.heap.size, 0, none⟩) 2 2] (w.alloc (.cells #[.int .i64 7, .int .i64 (-2)] 3)) fun e w' => e = .returned (.bool true) ∧ Below (w.heap.size + 1) (w.alloc (.cells #[.int .i64 7, .int .i64 (-2)] 3)) w' :=
  (sameNums_any A _ c 2 _ 2 [7, -2] [7, -2] _ (h.alloc _).row (row_lit w 3 (i64s [7, -2])) rfl rfl (by simp) (by omega)).mono fun e w' h => ⟨by simpa using h.1, by have := h.2; rwa [World.size_alloc] at this⟩
theorem num_neg (n : Int) (w : World) (h : n < 0) : Calls Try.prog 12 #[.int .i64 n] w fun e w' => e = .returned (.string ⟨#[]⟩) ∧ w = w' := by
  go_enter Try.func12, Try.ntmps12
  go_wp2
  go_ret
  exact ⟨rfl, rfl⟩

set_option maxRecDepth 100000 in
set_option maxHeartbeats 1000000 in
theorem small_any (w : World) : Calls Try.prog 10 #[] w fun e w' => e = .returned (.bool true) ∧ Below w.heap.size w w' := by
  have bcat : ∀ x y : List UInt8, ByteArray.mk x.toArray ++ ByteArray.mk y.toArray = ByteArray.mk (x ++ y).toArray := ByteArray.mk_append_mk
  go_enter Try.func10, Try.ntmps10
  go_wp2_with fail
  refine (num300 _).mono ?_; rintro e w1 ⟨rfl, b1⟩
  go_wp2_with fail
  refine (textAB _).mono ?_; rintro e w2 ⟨rfl, b2⟩
  go_wp2_with fail
  refine (listC _).mono ?_; rintro e w3 ⟨rfl, b3⟩
  go_wp2_with fail
  refine (numsC _).mono ?_; rintro e w4 ⟨rfl, b4⟩
  go_wp2_with fail
  refine (open_any [172, 2, 2, 97, 98, 2, 0, 1, 99, 2, 14, 3] _).mono ?_; rintro e w5 ⟨rfl, r5, b5⟩
  go_wp2_with fail
  refine (open_any [128, 0] _).mono ?_; rintro e w6 ⟨rfl, q6, b6⟩
  go_wp2_with fail
  have B6 : Below w.heap.size w w6 := by
    have s1 := b1.size
    have s2 := b2.size
    have s3 := b3.size
    have s4 := b4.size
    have s5 := b5.size
    simp at s3 s4
    have B2 := b1.trans (b2.mono s1)
    have B3 := below_step B2 (by omega) (b3.mono (by omega))
    have B4 := below_step B3 (by omega) (b4.mono (by omega))
    exact (B4.trans (b5.mono (by omega))).trans (b6.mono (by omega))
  have sR : w.heap.size ≤ w4.heap.size := by have := b1.size; have := b2.size; have := b3.size; have := b4.size; simp at *; omega
  have sQ : w4.heap.size < w5.heap.size := Blk.lt r5
  have r6 : Rd w6 w4.heap.size [172, 2, 2, 97, 98, 2, 0, 1, 99, 2, 14, 3] false := r5.below b6 sQ
  have hlt6 := Blk.lt q6
  clear b1 b2 b3 b4 b5 b6 r5
  refine (rdnum_any _ _ _ _ r6 (by simp [maxLen])).mono ?_
  rw [rd_s1]
  rintro e w7 ⟨rfl, r7, g7⟩
  have q7 : Rd w7 w5.heap.size [128, 0] false := q6.grown g7 (by simp; omega)
  have s7 := g7.size
  go_wp2_with fail
  refine (text_any _ _ _ _ r7 (by simp [maxLen])).mono ?_
  rw [rd_s2]
  rintro e w8 ⟨rfl, r8, g8⟩
  have q8 : Rd w8 w5.heap.size [128, 0] false := q7.grown g8 (by simp; omega)
  have s8 := g8.size
  go_wp2_with fail
  refine (list_any _ _ _ _ r8 (by simp)).mono ?_
  rw [rd_s3]
  rintro e w9 ⟨A9, c9, rfl, o9, r9, g9⟩
  have q9 : Rd w9 w5.heap.size [128, 0] false := q8.grown g9 (by simp; omega)
  have s9 := g9.size
  go_wp2_with fail
  refine (done_any _ _ _ _ r9).mono ?_
  rintro e w9 ⟨rfl, rfl⟩
  go_wp2_with fail
  refine (nums_any _ _ _ _ r9 (by simp)).mono ?_
  rw [rd_s4]
  rintro e w10 ⟨A10, c10, rfl, o10, r10, g10⟩
  have q10 : Rd w10 w5.heap.size [128, 0] false := q9.grown g10 (by simp; omega)
  have s10 := g10.size
  have o10' := o9.gr g10 (by omega)
  go_wp2_with fail
  refine (rdnum_any _ _ _ _ q10 (by simp [maxLen])).mono ?_
  rw [rd_s5]
  rintro e w11 ⟨rfl, q11, g11⟩
  have r11 : Rd w11 w4.heap.size [] false := r10.grown g11 (by simp; omega)
  have s11 := g11.size
  have o11 := o10'.gr g11 (by omega)
  have p11 := o10.gr g11 (by omega)
  have B11 : Below w.heap.size w w11 := below_gr (below_gr (below_gr (below_gr (below_gr B6 g7 (by omega) (by omega)) g8 (by omega) (by omega)) g9 (by omega) (by omega)) g10 (by omega) (by omega)) g11 (by omega) (by omega)
  go_wp2_with fail
  refine (sameTC o11).mono ?_
  rintro e w12 ⟨rfl, b12⟩
  have s12 := b12.size
  simp only [World.size_alloc] at s12
  have B12 := below_step B11 (by omega) (b12.mono (by omega))
  have p12 := (p11.alloc (.cells #[.string ⟨#[]⟩, .string ⟨#[99]⟩] 9)).later (by simpa using b12)
  have r12 : Rd w12 w4.heap.size [] false := (r11.alloc _).below b12 (by omega)
  have q12 : Rd w12 w5.heap.size [] true := (q11.alloc _).below b12 (by omega)
  go_wp2_with fail
  refine (sameNC p12).mono ?_
  rintro e w13 ⟨rfl, b13⟩
  have B13 := below_step B12 (by omega) (b13.mono (by omega))
  have r13 : Rd w13 w4.heap.size [] false := (r12.alloc _).below b13 (by omega)
  have q13 : Rd w13 w5.heap.size [] true := (q12.alloc _).below b13 (by omega)
  clear b12 b13
  go_wp2_with fail
  refine (done_any _ _ _ _ r13).mono ?_
  rintro e w13 ⟨rfl, rfl⟩
  go_wp2_with fail
  refine (done_any _ _ _ _ q13).mono ?_
  rintro e w13 ⟨rfl, rfl⟩
  go_wp2_with fail
  refine (left_any _ _ _ _ q13 (by simp)).mono ?_
  rintro e w13 ⟨rfl, rfl⟩
  go_wp2_with fail
  refine (num_neg _ _ (by omega)).mono ?_
  rintro e w13 ⟨rfl, rfl⟩
  go_wp2_with fail
  go_ret
  exact ⟨rfl, B13⟩

end Go.Proofs.Ytgojkbaodmiiaaa
