/- CodeAgain: for all inputs s (at most 5000 bytes) and all sequences of at most 20 kinds of values, writing what was read restores the bytes, up to the value at which the reader fails; then nothing is left. -/
import Derived.Test.YtgojkbaodmiiaaaCodeCut
namespace Go.Proofs.Ytgojkbaodmiiaaa
open Go.RowKit

theorem mem_flat {α : Type} (f : α → List UInt8) : ∀ (l : List α) (y : α), y ∈ l → (f y).length ≤ (l.map f).flatten.length
  | [], _, h => by cases h
  | x :: l, y, h => by
    simp only [List.map_cons, List.flatten_cons, List.length_append]
    rcases List.mem_cons.1 h with rfl | h
    · omega
    · have := mem_flat f l y h; omega

theorem ok_fit {x : Val} {k : Nat} (hk : k < 5) (h : okV k x.dat) (hl : (encV k x.dat).length ≤ 100000) : x.Fit := by
  obtain ⟨kd, n, s, A, c, l, D, d, m⟩ := x
  unfold Val.Fit
  unfold okV canon at h
  unfold encV at hl
  simp only [Val.dat] at h hl ⊢
  match k, hk with
  | 0, _ =>
    simp only [if_true] at h hl
    obtain ⟨h1, h2, h3⟩ := h
    simp only [Dat.mk.injEq] at h1
    obtain ⟨_, rfl, rfl, rfl⟩ := h1
    exact ⟨h3, by simp, by simp, by simp, by simp⟩
  | 1, _ =>
    simp only [if_true, if_neg (show ¬ (1 : Nat) = 0 by decide)] at h hl
    obtain ⟨h1, h2⟩ := h
    simp only [Dat.mk.injEq] at h1
    obtain ⟨_, rfl, rfl, rfl⟩ := h1
    unfold zigOk at h2
    exact ⟨by omega, by simp, by simp, by simp, by simp⟩
  | 2, _ =>
    simp only [if_true, if_neg (show ¬ (2 : Nat) = 0 by decide), if_neg (show ¬ (2 : Nat) = 1 by decide)] at h hl
    obtain ⟨h1, h2⟩ := h
    simp only [Dat.mk.injEq] at h1
    obtain ⟨rfl, _, rfl, rfl⟩ := h1
    simp [encText] at hl
    exact ⟨by simp, by omega, by simp, by simp, by simp⟩
  | 3, _ =>
    simp only [if_true, if_neg (show ¬ (3 : Nat) = 0 by decide), if_neg (show ¬ (3 : Nat) = 1 by decide), if_neg (show ¬ (3 : Nat) = 2 by decide)] at h hl
    obtain ⟨h1, h2, h3⟩ := h
    simp only [Dat.mk.injEq] at h1
    obtain ⟨rfl, rfl, _, rfl⟩ := h1
    have hf := flat_len codecText l h3
    have hm := mem_flat encText l
    rw [encMany, List.length_append] at hl
    refine ⟨by simp, by simp, by omega, ?_, by simp⟩
    intro y hy
    have := hm y hy
    have h5 : y.length ≤ (encText y).length := by simp [encText]
    omega
  | 4, _ =>
    simp only [if_neg (show ¬ (4 : Nat) = 0 by decide), if_neg (show ¬ (4 : Nat) = 1 by decide), if_neg (show ¬ (4 : Nat) = 2 by decide), if_neg (show ¬ (4 : Nat) = 3 by decide)] at h hl
    obtain ⟨h1, h2, h3⟩ := h
    simp only [Dat.mk.injEq] at h1
    obtain ⟨rfl, rfl, rfl, _⟩ := h1
    have hf := flat_len codecInt m h3
    rw [encMany, List.length_append] at hl
    exact ⟨by simp, by simp, by simp, by simp, by omega⟩

theorem rdMany_dead {α : Type} (one : List UInt8 → Bool → α × List UInt8 × Bool) : rdMany one [] true = ([], [], true) := by
  unfold rdMany
  rw [rdNum_dead]
  simp [rdLoop]

theorem kd_of {y : Val} {k : Nat} (h : y.kind = k) (hk : k < 5) : y.kd = k := by
  unfold Val.kd
  rw [h]
  match k, hk with
  | 0, _ => rfl
  | 1, _ => rfl
  | 2, _ => rfl
  | 3, _ => rfl
  | 4, _ => rfl

/-- What one step of the loop finds out. -/
theorem again_step {k : Nat} {rem u : List UInt8} {y : Val} {f : Bool} (hk : k < 5) (h : rdV k rem false = (y.dat, u, f)) (hl : rem.length ≤ 5000) (hyk : y.kind = k) :
    (f = true → u = []) ∧ (f = false → rem = encV y.kd y.dat ++ u ∧ y.Fit) := by
  refine ⟨fun hf => ?_, fun hf => ?_⟩
  · subst hf; exact (codecV k hk).fell _ _ _ h
  · subst hf
    obtain ⟨h1, h2⟩ := (codecV k hk).was _ _ _ h
    rw [kd_of hyk hk]
    have : rem.length = (encV k y.dat).length + u.length := by rw [h1]; simp
    exact ⟨h1, ok_fit hk h2 (by omega)⟩

set_option maxRecDepth 100000 in
set_option maxHeartbeats 1000000 in
theorem again_main (s : List UInt8) (A : Option Addr) (c n : Nat) (l : List Int) (w : World) (hrow : Row w w.heap.size A (i64s l)) (hn : n = l.length) (hs : s.length ≤ 5000) (hl : n ≤ 20) :
    Calls Try.prog 6 #[.string ⟨s.toArray⟩, .slice A n c] w fun e w' => e = .returned (.bool true) ∧ Below w.heap.size w w' := by
  have HR := Lib.hid hrow
  have HN := Lib.hid hn
  clear hrow
  go_enter Try.func6, Try.ntmps6
  go_wp2_with fail
  refine (small_any _).mono ?_; rintro e w1 ⟨rfl, b1⟩
  have s1 := b1.size
  go_wp2_with fail
  refine (open_any _ _).mono ?_; rintro e w2 ⟨rfl, r2, b2⟩
  have hr2 := Blk.lt r2
  have B2 := Lib.hid (b1.trans (b2.mono s1))
  have R2 := Lib.hid r2
  generalize w1.heap.size = b at *
  clear b1 b2 r2
  go_wp2_with fail
  go_loopw [7, 8] (fun t i wr => ∃ (k : Nat) (pre rem : List UInt8), t = .string ⟨pre.toArray⟩ ∧ i = .int .i64 k ∧ k ≤ n ∧ Hid (s = pre ++ rem) ∧ Hid (Rd wr b rem false) ∧ Hid (Below w.heap.size w wr)) (fun _ i _ => n - (intOf i).toNat)
  case atStart => exact ⟨0, [], s, rfl, rfl, by omega, Lib.hid rfl, R2, B2⟩
  case round =>
    obtain ⟨k, pre, rem, rfl, rfl, hk, hsp, hr, hB⟩ := hrel
    by_cases hlt : k < n
    · obtain ⟨bk, o1, rfl, hb1, hc1⟩ := HR.out (by simp [i64s, ← HN.out]; omega)
      have hk1 : k < l.length := by rw [← HN.out]; exact hlt
      have f1 : wr.cell? ⟨bk, o1 + k, none⟩ = some (.int .i64 l[k]) := by
        rw [hB.out.cell hb1, hc1 k (by simp [i64s]; exact hk1)]; simp [i64s]
      clear hc1
      have K := Lib.hid (show ∀ w, Calls Try.prog 45 #[.agg #[.int .i64 l[k], .int .i64 0, .string ⟨#[]⟩, .slice none 0 0, .slice none 0 0]] w _ from fun w => kind_any ⟨l[k], 0, [], none, 0, [], none, 0, []⟩ w)
      have hkd := Val.kd_lt ⟨l[k], 0, [], none, 0, [], none, 0, []⟩
      generalize Val.kd ⟨l[k], 0, [], none, 0, [], none, 0, []⟩ = q at *
      go_wp2_with fail
      refine (K.out _).mono ?_; rintro e w3 ⟨rfl, b3⟩
      have s3 := b3.size
      have sr := hB.out.size
      have hrl := Blk.lt hr.out
      have r3 := hr.out.later b3
      have B3 := Lib.hid (hB.out.trans (b3.mono sr))
      have hlen : rem.length ≤ 5000 := by have := hsp.out; subst this; simp at hs; omega
      clear b3 K
      go_wp2_with fail
      refine (read_any _ _ _ q _ r3 (by omega) hkd).mono ?_
      rintro e w4 ⟨y, rfl, hyk, hyd, hya, r4, g4⟩
      have B4 := Lib.hid (below_gr B3.out g4 (by omega) (by omega))
      have s4 := g4.size
      have ST := fun u f h => again_step (u := u) (f := f) hkd h hlen hyk
      rw [hyd] at ST
      generalize rdV q rem false = R at *
      obtain ⟨dd, u, f⟩ := R
      have ST := Lib.hid (ST u f rfl)
      simp only at r4 hyd
      subst hyd
      clear r3
      unfold Val.cells
      go_wp2_with fail
      have V5 := Lib.hid (Blk.new w4 45 y.cells)
      have y5 := Lib.hid (hya.later (((Below.refl w4.heap.size w4).alloc (Nat.le_refl _) (.cells y.cells 45))))
      have r5 := r4.alloc (.cells y.cells 45)
      have B5 := Lib.hid (B4.out.alloc (by have := B4.out.size; omega) (.cells y.cells 45))
      have s5 : (w4.alloc (.cells y.cells 45)).heap.size = w4.heap.size + 1 := by simp
      unfold Val.cells at V5 y5 r5 B5 s5
      rw [hyk] at V5 y5 r5 B5 s5
      have hyc : y.cells = #[.int .i64 q, .int .i64 y.n, .string ⟨y.s.toArray⟩, .slice y.A y.l.length y.c, .slice y.D y.m.length y.d] := by unfold Val.cells; rw [hyk]
      generalize w4.alloc (.cells #[.int .i64 q, .int .i64 y.n, .string ⟨y.s.toArray⟩, .slice y.A y.l.length y.c, .slice y.D y.m.length y.d] 45) = w5 at *
      have hu : u.length ≤ rem.length := by
        cases f
        · rw [(ST.out.2 rfl).1]; simp
        · rw [ST.out.1 rfl]; simp
      refine (left_any _ _ _ _ r5 (by unfold maxLen; omega)).mono ?_; rintro e w6 ⟨rfl, rfl⟩
      cases f
      · obtain ⟨hrem, hfit⟩ := ST.out.2 rfl
        clear ST
        by_cases hu0 : u.length = 0
        · obtain rfl : u = [] := List.length_eq_zero_iff.1 hu0
          clear hu0
          obtain ⟨c0, c1, c2, c3, c4⟩ := five_cells V5.out
          go_wp2_with fail
          refine (done_any _ _ _ _ r5).mono ?_; rintro e w6 ⟨rfl, rfl⟩
          go_wp2_with fail
          rw [← hyc]
          refine (write_any y _ y5.out hfit).mono ?_; rintro e w6 ⟨rfl, b6⟩
          have r6 := r5.later b6
          have B6 := Lib.hid (B5.out.trans (b6.mono (by have := B5.out.size; omega)))
          clear r5 b6
          generalize encV y.kd y.dat = E at *
          have hcat : ByteArray.mk pre.toArray ++ ByteArray.mk E.toArray = ByteArray.mk s.toArray := by rw [hsp.out, hrem, ByteArray.mk_append_mk]; simp
          have hE : E.length ≤ 5000 := by rw [hrem] at hlen; simp at hlen; omega
          have hP : pre.length ≤ 5000 := by rw [hsp.out] at hs; simp at hs; omega
          have htk : (ByteArray.mk s.toArray).extract 0 s.length = ByteArray.mk s.toArray := by rw [bx_take]; simp
          go_wp2_with fail
          go_roundw
          case rel => exact ⟨k + 1, s, [], rfl, by go_num, by omega, Lib.hid (by simp), Lib.hid r6, B6⟩
          case measure => simp [intOf]; omega
        · have h00 : ((u.length : Int) == 0) = false := by rw [beq_eq_false_iff_ne]; omega
          have h01 : ¬ (u.length : Int) = 0 := by omega
          obtain ⟨c0, c1, c2, c3, c4⟩ := five_cells V5.out
          go_wp2_with fail
          rw [← hyc]
          refine (write_any y _ y5.out hfit).mono ?_; rintro e w6 ⟨rfl, b6⟩
          have r6 := r5.later b6
          have B6 := Lib.hid (B5.out.trans (b6.mono (by have := B5.out.size; omega)))
          clear r5 b6
          generalize encV y.kd y.dat = E at *
          have hcat : ByteArray.mk pre.toArray ++ ByteArray.mk E.toArray = ByteArray.mk (pre ++ E).toArray := by rw [ByteArray.mk_append_mk]
          have hE : E.length ≤ 5000 := by rw [hrem] at hlen; simp at hlen; omega
          have hP : pre.length ≤ 5000 := by rw [hsp.out] at hs; simp at hs; omega
          have hss : s = (pre ++ E) ++ u := by rw [hsp.out, hrem]; simp
          have hsl : (s.length : Int) - u.length = ((pre ++ E).length : Nat) := by rw [hss]; simp only [List.length_append]; omega
          have htk : (ByteArray.mk s.toArray).extract 0 (pre ++ E).length = ByteArray.mk (pre ++ E).toArray := by rw [bx_take, hss, List.take_left]
          have hle : (pre ++ E).length ≤ s.length := by rw [hss]; simp
          have HSS := Lib.hid hss
          clear hss
          generalize pre ++ E = T at *
          go_wp2_with fail
          go_roundw
          case rel => exact ⟨k + 1, T, u, rfl, by go_num, by omega, HSS, Lib.hid r6, B6⟩
          case measure => simp [intOf]; omega
      · obtain rfl : u = [] := ST.out.1 rfl
        clear ST
        go_wp2_with fail
        refine (done_any _ _ _ _ r5).mono ?_; rintro e w6 ⟨rfl, rfl⟩
        go_wp2_with fail
        refine (rdnum_any _ _ _ _ r5 (by simp)).mono ?_; rintro e w6 ⟨rfl, r6, g6⟩
        rw [rdNum_dead] at r6 ⊢
        have B6 := Lib.hid (below_gr B5.out g6 (by omega) (by have := B5.out.size; omega))
        have s6 := g6.size
        clear r5 g6
        go_wp2_with fail
        refine (take_any _ _ _ 0 _ r6 (by simp)).mono ?_; rintro e w7 ⟨rfl, r7, g7⟩
        rw [rdTake_no (by unfold takeOk; simp)] at r7 ⊢
        have B7 := Lib.hid (below_gr B6.out g7 (by omega) (by have := B6.out.size; omega))
        have s7 := g7.size
        clear r6 g7
        go_wp2_with fail
        refine (list_any _ _ _ _ r7 (by simp)).mono ?_; rintro e w8 ⟨A8, c8, rfl, _, r8, g8⟩
        rw [rdMany_dead] at r8 ⊢
        have B8 := Lib.hid (below_gr B7.out g8 (by omega) (by have := B7.out.size; omega))
        clear r7 g8
        go_wp2_with fail
        refine (done_any _ _ _ _ r8).mono ?_; rintro e w9 ⟨rfl, rfl⟩
        go_wp2_with fail
        go_ret
        exact ⟨rfl, B8.out⟩
    · go_wp2_with fail
      go_ret
      exact ⟨rfl, hB.out⟩

set_option maxRecDepth 100000 in
theorem again_any (s : List UInt8) (A : Option Addr) (c : Nat) (l : List Int) (w : World) (hrow : Row w w.heap.size A (i64s l)) (hs : s.length ≤ maxLen) (hl : l.length ≤ maxLen) :
    Calls Try.prog 6 #[.string ⟨s.toArray⟩, .slice A l.length c] w fun e w' => e = .returned (.bool true) ∧ Below w.heap.size w w' := by
  unfold maxLen at hs hl
  by_cases h1 : s.length ≤ 5000
  · by_cases h2 : l.length ≤ 20
    · exact again_main s A c _ l w hrow rfl h1 h2
    · go_enter Try.func6, Try.ntmps6
      go_wp2_with fail
      refine (small_any _).mono ?_; rintro e w1 ⟨rfl, b1⟩
      go_wp2_with fail
      go_ret
      exact ⟨rfl, b1⟩
  · go_enter Try.func6, Try.ntmps6
    go_wp2_with fail
    refine (small_any _).mono ?_; rintro e w1 ⟨rfl, b1⟩
    go_wp2_with fail
    go_ret
    exact ⟨rfl, b1⟩

end Go.Proofs.Ytgojkbaodmiiaaa
