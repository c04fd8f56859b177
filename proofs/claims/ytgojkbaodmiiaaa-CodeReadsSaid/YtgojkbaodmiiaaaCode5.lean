/- Package code: the Reader's lists. -/
import Derived.Test.YtgojkbaodmiiaaaCode4
namespace Go.Proofs.Ytgojkbaodmiiaaa
open Go.RowKit

def rdLoop {α : Type} (one : List UInt8 → Bool → α × List UInt8 × Bool) : Nat → List UInt8 → Bool → List α → List α × List UInt8 × Bool
  | 0, s, f, l => (l, s, f)
  | k + 1, s, f, l => if f = true then (l, s, f) else rdLoop one k (one s f).2.1 (one s f).2.2 (l ++ [(one s f).1])
theorem rdLoop_stop {α : Type} {one : List UInt8 → Bool → α × List UInt8 × Bool} {k : Nat} {s : List UInt8} {l : List α} : rdLoop one k s true l = (l, s, true) := by
  cases k <;> simp [rdLoop]
theorem rdLoop_go {α : Type} {one : List UInt8 → Bool → α × List UInt8 × Bool} {k : Nat} {s : List UInt8} {l : List α} (h : 0 < k) : rdLoop one k s false l = rdLoop one (k - 1) (one s false).2.1 (one s false).2.2 (l ++ [(one s false).1]) := by
  obtain ⟨k, rfl⟩ : ∃ j, k = j + 1 := ⟨k - 1, by omega⟩
  simp [rdLoop]
/-- What List and Nums leave: the list, the rest, whether it has failed. -/
def rdMany {α : Type} (one : List UInt8 → Bool → α × List UInt8 × Bool) (s : List UInt8) (f : Bool) : List α × List UInt8 × Bool :=
  let N := rdNum s f
  let M : List UInt8 × Bool := if N.1 ≤ N.2.1.length then N.2 else ([], true)
  let L := rdLoop one N.1 M.1 M.2 []
  if L.2.2 = true then ([], L.2.1, true) else L
theorem rdMany_eq {α : Type} {one : List UInt8 → Bool → α × List UInt8 × Bool} {s t : List UInt8} {f g : Bool} {n : Nat} (h : rdNum s f = (n, t, g)) (hn : n ≤ t.length) {l : List α} {u : List UInt8} {e : Bool} (hl : rdLoop one n t g [] = (l, u, e)) :
    rdMany one s f = if e = true then ([], u, true) else (l, u, e) := by
  simp only [rdMany, h, hn, if_true, hl]
theorem rdMany_over {α : Type} {one : List UInt8 → Bool → α × List UInt8 × Bool} {s t : List UInt8} {f g : Bool} {n : Nat} (h : rdNum s f = (n, t, g)) (hn : ¬ n ≤ t.length) : rdMany one s f = ([], [], true) := by
  simp only [rdMany, h, if_neg hn, rdLoop_stop, if_true]

def lenOf : Value → Nat
  | .slice _ n _ => n
  | _ => 0

theorem rdTake_bd (s : List UInt8) (f : Bool) (n : Int) : (rdTake s f n).1.length ≤ s.length ∧ (rdTake s f n).2.1.length ≤ s.length := by
  unfold rdTake; split
  · simp; omega
  · simp
theorem rdText_bd (s : List UInt8) (f : Bool) : (rdText s f).1.length ≤ s.length ∧ (rdText s f).2.1.length ≤ s.length := by
  have := rdTake_bd (rdNum s f).2.1 (rdNum s f).2.2 (rdNum s f).1
  have := rdNum_bd s f
  unfold rdText; omega

set_option maxRecDepth 100000 in
set_option maxHeartbeats 400000 in
theorem reads_any (b : Nat) (s : List UInt8) (f : Bool) (w : World) (h : Rd w b s f) (hs : s.length ≤ 4398046511104) :
    Calls Try.prog 53 #[.pointer (some ⟨b, 0, none⟩), .func (.func 30) #[.pointer (some ⟨b, 0, none⟩)] #[]] w fun e w' => ∃ A c, e = .returned (.slice A (strs (rdMany rdText s f).1).length c) ∧ OwnS w' w.heap.size 9 A c (strs (rdMany rdText s f).1) ∧ Rd w' b (rdMany rdText s f).2.1 (rdMany rdText s f).2.2 ∧ w.grownBy w' (some b) := by
  have hb := (rdNum_bd s f).2
  have hlt := Blk.lt h
  have C := Lib.hid (rdnum_any b s f w h (by unfold maxLen; omega))
  obtain ⟨n, t, g, hN⟩ : ∃ n t g, rdNum s f = (n, t, g) := ⟨_, _, _, rfl⟩
  have hE := @rdMany_eq _ rdText s t f g n hN
  have hO := @rdMany_over _ rdText s t f g n hN
  have hn := (rdNum_bd s f).1
  rw [hN] at C hb hn
  simp only at hb C hn
  clear h hN
  by_cases hnt : n ≤ t.length
  · have HE := Lib.hid (fun l u e => @hE hnt l u e)
    clear hE hO
    have hdec : decide (t.length < n) = false := by simp; omega
    go_enter Try.func53, Try.ntmps53
    go_wp2_with (go_at_call 26; refine C.out.mono ?_; rintro e w1 ⟨rfl, hr1, hg1⟩; have c0 := hr1.c0)
    clear c0
    go_loopw [6] (fun v wr => ∃ A c l s' f', v = .slice A (strs l).length c ∧ OwnS wr w.heap.size 9 A c (strs l) ∧ Rd wr b s' f' ∧ w.grownBy wr (some b) ∧ s'.length ≤ t.length ∧ (strs l).length ≤ n ∧ Hid (rdLoop rdText n t g [] = rdLoop rdText (n - (strs l).length) s' f' l)) (fun v _ => n - lenOf v)
    case atStart => exact ⟨none, 0, [], t, g, rfl, OwnS.nil _ _ _, hr1, hg1, by omega, by simp [strs], Lib.hid (by simp [strs])⟩
    case round =>
      obtain ⟨A, c, l, s', f', rfl, hown, hr, hg, hs', hl, HL⟩ := hrel
      have hsz := hg.size
      have d1 := hr.c1
      clear hr1 hg1
      by_cases hln : (strs l).length < n
      · cases f'
        · have hbd := rdText_bd s' false
          go_wp2_with (first
            | (go_at_call 30; refine (text_any b s' false _ hr (by unfold maxLen; omega)).mono ?_; rintro e w2 ⟨rfl, hr2, hg2⟩; have hsz2 := hg2.size)
            | (at_builtin; refine wpList_push rfl _ _ 22 rfl w.heap.size 9 (.string ⟨#[]⟩) 16 Try.underlying22 Try.info_str rfl A c (strs l) rfl ((hown.gr hg2 hlt).alloc _) w2.heap.size (.string ⟨(rdText s' false).1.toArray⟩) rfl (cell_new _ _ _) rfl (by omega) (by simp; omega) ?_; intro g' c' w3 hown' hbl hgr hat hgb))
          go_roundw
          case rel =>
            refine ⟨some ⟨g', 0, none⟩, c', l ++ [(rdText s' false).1], _, _, by rw [strs_snoc]; simp, by rw [strs_snoc]; exact hown', (hr2.alloc _).below hbl hlt, gr_belowB (gr_alloc (gr_trans hg hg2) _) hbl, by omega, by rw [strs_snoc]; simp; omega, ?_⟩
            have := HL.out
            rw [rdLoop_go (by omega)] at this
            rw [strs_snoc]
            simp only [List.length_append, List.length_singleton, ← Nat.sub_sub]
            exact Lib.hid this
          case measure => simp [lenOf]; omega
        · go_wp2
          go_ret
          have := HL.out
          rw [rdLoop_stop] at this
          rw [HE.out _ _ _ this]
          exact ⟨none, 0, rfl, OwnS.nil _ _ _, hr, hg⟩
      · have hz : n - (strs l).length = 0 := by omega
        have HM := HL.out
        rw [hz] at HM
        have HF := Lib.hid (HE.out _ _ _ (HM.trans (show rdLoop rdText 0 s' f' l = (l, s', f') by simp [rdLoop])))
        clear HM hz
        cases f'
        · go_wp2
          go_ret
          rw [HF.out]
          exact ⟨A, c, rfl, hown, hr, hg⟩
        · go_wp2
          go_ret
          rw [HF.out]
          exact ⟨none, 0, rfl, OwnS.nil _ _ _, hr, hg⟩
  · have HO := Lib.hid (hO hnt)
    clear hE hO
    go_enter Try.func53, Try.ntmps53
    go_wp2_with (first | (go_at_call 26; refine C.out.mono ?_; rintro e w1 ⟨rfl, hr1, hg1⟩; have c0 := hr1.c0) | (go_at_call 49; refine (fail_any b t g _ hr1).mono ?_; rintro e w2 ⟨rfl, hr2, hg2⟩; have c1 := hr2.c1))
    refine wp_loop_once ?_
    by_cases h0 : 0 < n
    · go_wp2
      go_ret
      rw [HO.out]
      exact ⟨none, 0, rfl, OwnS.nil _ _ _, hr2, gr_trans hg1 hg2⟩
    · omega

set_option maxRecDepth 100000 in
set_option maxHeartbeats 400000 in
theorem readi_any (b : Nat) (s : List UInt8) (f : Bool) (w : World) (h : Rd w b s f) (hs : s.length ≤ 4398046511104) :
    Calls Try.prog 55 #[.pointer (some ⟨b, 0, none⟩), .func (.func 28) #[.pointer (some ⟨b, 0, none⟩)] #[]] w fun e w' => ∃ A c, e = .returned (.slice A (i64s (rdMany rdInt s f).1).length c) ∧ OwnS w' w.heap.size 3 A c (i64s (rdMany rdInt s f).1) ∧ Rd w' b (rdMany rdInt s f).2.1 (rdMany rdInt s f).2.2 ∧ w.grownBy w' (some b) := by
  have hb := (rdNum_bd s f).2
  have hlt := Blk.lt h
  have C := Lib.hid (rdnum_any b s f w h (by unfold maxLen; omega))
  obtain ⟨n, t, g, hN⟩ : ∃ n t g, rdNum s f = (n, t, g) := ⟨_, _, _, rfl⟩
  have hE := @rdMany_eq _ rdInt s t f g n hN
  have hO := @rdMany_over _ rdInt s t f g n hN
  have hn := (rdNum_bd s f).1
  rw [hN] at C hb hn
  simp only at hb C hn
  clear h hN
  by_cases hnt : n ≤ t.length
  · have HE := Lib.hid (fun l u e => @hE hnt l u e)
    clear hE hO
    have hdec : decide (t.length < n) = false := by simp; omega
    go_enter Try.func55, Try.ntmps55
    go_wp2_with (go_at_call 26; refine C.out.mono ?_; rintro e w1 ⟨rfl, hr1, hg1⟩; have c0 := hr1.c0)
    clear c0
    go_loopw [6] (fun v wr => ∃ A c l s' f', v = .slice A (i64s l).length c ∧ OwnS wr w.heap.size 3 A c (i64s l) ∧ Rd wr b s' f' ∧ w.grownBy wr (some b) ∧ s'.length ≤ t.length ∧ (i64s l).length ≤ n ∧ Hid (rdLoop rdInt n t g [] = rdLoop rdInt (n - (i64s l).length) s' f' l)) (fun v _ => n - lenOf v)
    case atStart => exact ⟨none, 0, [], t, g, rfl, OwnS.nil _ _ _, hr1, hg1, by omega, by simp [i64s], Lib.hid (by simp [i64s])⟩
    case round =>
      obtain ⟨A, c, l, s', f', rfl, hown, hr, hg, hs', hl, HL⟩ := hrel
      have hsz := hg.size
      have d1 := hr.c1
      clear hr1 hg1
      by_cases hln : (i64s l).length < n
      · cases f'
        · have hbd := rdInt_bd s' false
          go_wp2_with (first
            | (go_at_call 28; refine (rdint_any b s' false _ hr (by unfold maxLen; omega)).mono ?_; rintro e w2 ⟨rfl, hr2, hg2⟩; have hsz2 := hg2.size)
            | (at_builtin; refine wpList_push rfl _ _ 23 rfl w.heap.size 3 (.int .i64 0) 8 Try.underlying23 Try.info_int rfl A c (i64s l) rfl ((hown.gr hg2 hlt).alloc _) w2.heap.size (.int .i64 (rdInt s' false).1) rfl (cell_new _ _ _) rfl (by omega) (by simp; omega) ?_; intro g' c' w3 hown' hbl hgr hat hgb))
          go_roundw
          case rel =>
            refine ⟨some ⟨g', 0, none⟩, c', l ++ [(rdInt s' false).1], _, _, by rw [i64s_snoc]; simp, by rw [i64s_snoc]; exact hown', (hr2.alloc _).below hbl hlt, gr_belowB (gr_alloc (gr_trans hg hg2) _) hbl, by omega, by rw [i64s_snoc]; simp; omega, ?_⟩
            have := HL.out
            rw [rdLoop_go (by omega)] at this
            rw [i64s_snoc]
            simp only [List.length_append, List.length_singleton, ← Nat.sub_sub]
            exact Lib.hid this
          case measure => simp [lenOf]; omega
        · go_wp2
          go_ret
          have := HL.out
          rw [rdLoop_stop] at this
          rw [HE.out _ _ _ this]
          exact ⟨none, 0, rfl, OwnS.nil _ _ _, hr, hg⟩
      · have hz : n - (i64s l).length = 0 := by omega
        have HM := HL.out
        rw [hz] at HM
        have HF := Lib.hid (HE.out _ _ _ (HM.trans (show rdLoop rdInt 0 s' f' l = (l, s', f') by simp [rdLoop])))
        clear HM hz
        cases f'
        · go_wp2
          go_ret
          rw [HF.out]
          exact ⟨A, c, rfl, hown, hr, hg⟩
        · go_wp2
          go_ret
          rw [HF.out]
          exact ⟨none, 0, rfl, OwnS.nil _ _ _, hr, hg⟩
  · have HO := Lib.hid (hO hnt)
    clear hE hO
    go_enter Try.func55, Try.ntmps55
    go_wp2_with (first | (go_at_call 26; refine C.out.mono ?_; rintro e w1 ⟨rfl, hr1, hg1⟩; have c0 := hr1.c0) | (go_at_call 49; refine (fail_any b t g _ hr1).mono ?_; rintro e w2 ⟨rfl, hr2, hg2⟩; have c1 := hr2.c1))
    refine wp_loop_once ?_
    by_cases h0 : 0 < n
    · go_wp2
      go_ret
      rw [HO.out]
      exact ⟨none, 0, rfl, OwnS.nil _ _ _, hr2, gr_trans hg1 hg2⟩
    · omega

end Go.Proofs.Ytgojkbaodmiiaaa
