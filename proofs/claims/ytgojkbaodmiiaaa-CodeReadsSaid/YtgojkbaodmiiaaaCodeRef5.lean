/- The reference's reader: List, Nums. -/
import Derived.Test.YtgojkbaodmiiaaaCodeRef4
namespace Go.Proofs.Ytgojkbaodmiiaaa
open Go.RowKit

theorem rdMany_cnt {α : Type} {one : List UInt8 → Bool → α × List UInt8 × Bool} {s t : List UInt8} {f g : Bool} {n : Nat} (h : rdCount s f = (n, t, g)) {l : List α} {u : List UInt8} {e : Bool} (hl : rdLoop one n t g [] = (l, u, e)) :
    rdMany one s f = if e = true then ([], u, true) else (l, u, e) := by
  obtain ⟨n1, t1, g1, hN⟩ : ∃ n t g, rdNum s f = (n, t, g) := ⟨_, _, _, rfl⟩
  unfold rdCount at h
  by_cases hn : n1 ≤ t1.length
  · rw [hN] at h
    simp only [hn, if_true] at h
    injection h with h1 h2
    injection h2 with h2 h3
    subst h1 h2 h3
    exact rdMany_eq hN hn hl
  · rw [hN] at h
    simp only [hn, if_false] at h
    injection h with h1 h2
    injection h2 with h2 h3
    subst h1 h2 h3
    rw [rdMany_over hN hn]
    rw [rdLoop_stop] at hl
    injection hl with h1 h2
    injection h2 with h2 h3
    subst h1 h2 h3
    rfl
theorem rdCount_bd (s : List UInt8) (f : Bool) : (rdCount s f).1 < 9223372036854775808 ∧ (rdCount s f).2.1.length ≤ s.length ∧ (rdCount s f).1 ≤ (rdCount s f).2.1.length := by
  have := rdNum_bd s f
  unfold rdCount; split
  · rename_i h; exact ⟨this.1, this.2, h⟩
  · simp
theorem rdCount_live (s : List UInt8) (f : Bool) (hf : f = true → s = []) (h : 0 < (rdCount s f).1) : (rdCount s f).2.2 = false := by
  unfold rdCount at h ⊢
  split at h
  · rename_i hle
    rw [if_pos hle]
    cases f
    · obtain ⟨n, t, g, hN⟩ : ∃ n t g, rdNum s false = (n, t, g) := ⟨_, _, _, rfl⟩
      rw [hN] at h ⊢
      cases g
      · rfl
      · have := (rdNum_fail hN).1
        simp at h; omega
    · rw [hf rfl, rdNum_dead] at h; simp at h
  · simp at h

set_option maxRecDepth 100000 in
set_option maxHeartbeats 1000000 in
theorem xlist_any (b : Nat) (s : List UInt8) (f : Bool) (w : World) (h : Rx w b s f) (hf : f = true → s = []) (hs : s.length ≤ 4398046511104) :
    Calls Try.prog 34 #[.pointer (some ⟨b, 0, none⟩)] w fun e w' => ∃ A c, e = .returned (.slice A (strs (rdMany rdText s f).1).length c) ∧ OwnS w' w.heap.size 9 A c (strs (rdMany rdText s f).1) ∧ Rx w' b (rdMany rdText s f).2.1 (rdMany rdText s f).2.2 ∧ w.grownBy w' (some b) := by
  have hlt := Blk.lt h
  have C := Lib.hid (xcount_any b s f w h hs)
  have hL := rdCount_live s f hf
  obtain ⟨hn, hb, hnt⟩ := rdCount_bd s f
  obtain ⟨n, t, g, hN⟩ : ∃ n t g, rdCount s f = (n, t, g) := ⟨_, _, _, rfl⟩
  have HE := Lib.hid (fun l u e => @rdMany_cnt _ rdText s t f g n hN l u e)
  rw [hN] at C hb hn hnt hL
  simp only at hb C hn hnt hL
  clear h hN hf
  go_enter Try.func34, Try.ntmps34
  go_wp2_with fail
  refine C.out.mono ?_; rintro e w1 ⟨rfl, hr1, hg1⟩
  go_wp2_with fail
  go_loopw [4, 5] (fun v i wr => ∃ A c l s' f', v = .slice A (strs l).length c ∧ i = .int .i64 ((strs l).length : Nat) ∧ OwnS wr w.heap.size 9 A c (strs l) ∧ Rx wr b s' f' ∧ w.grownBy wr (some b) ∧ s'.length ≤ t.length ∧ (strs l).length ≤ n ∧ Hid (0 < n → f' = false) ∧ Hid (rdLoop rdText n t g [] = rdLoop rdText (n - (strs l).length) s' f' l)) (fun _ i _ => n - (intOf i).toNat)
  case atStart => exact ⟨none, 0, [], t, g, rfl, rfl, OwnS.nil _ _ _, hr1, hg1, by omega, by simp [strs], Lib.hid hL, Lib.hid (by simp [strs])⟩
  case round =>
    obtain ⟨A, c, l, s', f', rfl, rfl, hown, hr, hg, hs', hl, HF, HL⟩ := hrel
    have hsz := hg.size
    clear hr1 hg1 hL
    by_cases hln : (strs l).length < n
    · have hff := HF.out (by omega)
      subst hff
      have hbd := rdText_bd s' false
      have HT := Lib.hid (xtext_any b s' false _ hr (by omega))
      obtain ⟨x, u, e, hX⟩ : ∃ x u e, rdText s' false = (x, u, e) := ⟨_, _, _, rfl⟩
      have HG := HL.out
      rw [rdLoop_go (by omega)] at HG
      rw [hX] at HT hbd HG
      simp only at HT hbd HG
      clear hX HL HF
      cases e
      · have HG2 := Lib.hid HG
        clear HG
        go_wp2_with (first
          | (refine HT.out.mono ?_; rintro e w2 ⟨rfl, hr2, hg2⟩; have hsz2 := hg2.size; have d2 := hr2.c1)
          | (at_builtin; refine wpList_push rfl _ _ 22 rfl w.heap.size 9 (.string ⟨#[]⟩) 16 Try.underlying22 Try.info_str rfl A c (strs l) rfl ((hown.gr hg2 hlt).alloc _) w2.heap.size (.string ⟨x.toArray⟩) rfl (cell_new _ _ _) rfl (by omega) (by simp; omega) ?_; intro g' c' w3 hown' hbl hgr hat hgb))
        go_roundw
        case rel =>
          refine ⟨some ⟨g', 0, none⟩, c', l ++ [x], u, false, by rw [strs_snoc]; simp, by rw [strs_snoc]; simp, by rw [strs_snoc]; exact hown', (hr2.alloc _).below hbl hlt, gr_belowB (gr_alloc (gr_trans hg hg2) _) hbl, by omega, by rw [strs_snoc]; simp; omega, Lib.hid fun _ => rfl, ?_⟩
          have := HG2.out
          rw [strs_snoc]
          simp only [List.length_append, List.length_singleton, ← Nat.sub_sub]
          exact Lib.hid this
        case measure => simp [intOf]; omega
      · rw [rdLoop_stop] at HG
        have HR := Lib.hid (HE.out _ _ _ HG)
        clear HG
        go_wp2_with (refine HT.out.mono ?_; rintro e w2 ⟨rfl, hr2, hg2⟩; have hsz2 := hg2.size; have d2 := hr2.c1)
        go_ret
        rw [HR.out]
        exact ⟨none, 0, rfl, OwnS.nil _ _ _, hr2, gr_trans hg hg2⟩
    · have hz : n - (strs l).length = 0 := by omega
      have HM := HL.out
      rw [hz] at HM
      have HR := Lib.hid (HE.out _ _ _ (HM.trans (show rdLoop rdText 0 s' f' l = (l, s', f') by simp [rdLoop])))
      have HZ := Lib.hid (show f' = true → l = [] by
        intro hf1
        have : ¬ 0 < n := fun h0 => by rw [HF.out h0] at hf1; cases hf1
        have h1 : (strs l).length = 0 := by omega
        exact List.eq_nil_of_length_eq_zero (by simpa [strs] using h1))
      clear HM hz HF HL
      go_wp2_with fail
      go_ret
      rw [HR.out]
      cases f'
      · exact ⟨A, c, rfl, hown, hr, hg⟩
      · have := HZ.out rfl
        subst this
        exact ⟨A, c, rfl, hown, hr, hg⟩

set_option maxRecDepth 100000 in
set_option maxHeartbeats 1000000 in
theorem xnums_any (b : Nat) (s : List UInt8) (f : Bool) (w : World) (h : Rx w b s f) (hf : f = true → s = []) (hs : s.length ≤ 4398046511104) :
    Calls Try.prog 37 #[.pointer (some ⟨b, 0, none⟩)] w fun e w' => ∃ A c, e = .returned (.slice A (i64s (rdMany rdInt s f).1).length c) ∧ OwnS w' w.heap.size 3 A c (i64s (rdMany rdInt s f).1) ∧ Rx w' b (rdMany rdInt s f).2.1 (rdMany rdInt s f).2.2 ∧ w.grownBy w' (some b) := by
  have hlt := Blk.lt h
  have C := Lib.hid (xcount_any b s f w h hs)
  have hL := rdCount_live s f hf
  obtain ⟨hn, hb, hnt⟩ := rdCount_bd s f
  obtain ⟨n, t, g, hN⟩ : ∃ n t g, rdCount s f = (n, t, g) := ⟨_, _, _, rfl⟩
  have HE := Lib.hid (fun l u e => @rdMany_cnt _ rdInt s t f g n hN l u e)
  rw [hN] at C hb hn hnt hL
  simp only at hb C hn hnt hL
  clear h hN hf
  go_enter Try.func37, Try.ntmps37
  go_wp2_with fail
  refine C.out.mono ?_; rintro e w1 ⟨rfl, hr1, hg1⟩
  go_wp2_with fail
  go_loopw [4, 5] (fun v i wr => ∃ A c l s' f', v = .slice A (i64s l).length c ∧ i = .int .i64 ((i64s l).length : Nat) ∧ OwnS wr w.heap.size 3 A c (i64s l) ∧ Rx wr b s' f' ∧ w.grownBy wr (some b) ∧ s'.length ≤ t.length ∧ (i64s l).length ≤ n ∧ Hid (0 < n → f' = false) ∧ Hid (rdLoop rdInt n t g [] = rdLoop rdInt (n - (i64s l).length) s' f' l)) (fun _ i _ => n - (intOf i).toNat)
  case atStart => exact ⟨none, 0, [], t, g, rfl, rfl, OwnS.nil _ _ _, hr1, hg1, by omega, by simp [i64s], Lib.hid hL, Lib.hid (by simp [i64s])⟩
  case round =>
    obtain ⟨A, c, l, s', f', rfl, rfl, hown, hr, hg, hs', hl, HF, HL⟩ := hrel
    have hsz := hg.size
    clear hr1 hg1 hL
    by_cases hln : (i64s l).length < n
    · have hff := HF.out (by omega)
      subst hff
      have hbd := rdInt_bd s' false
      have HT := Lib.hid (xint_any b s' false _ hr (by omega))
      obtain ⟨x, u, e, hX⟩ : ∃ x u e, rdInt s' false = (x, u, e) := ⟨_, _, _, rfl⟩
      have HG := HL.out
      rw [rdLoop_go (by omega)] at HG
      rw [hX] at HT hbd HG
      simp only at HT hbd HG
      clear hX HL HF
      cases e
      · have HG2 := Lib.hid HG
        clear HG
        go_wp2_with (first
          | (refine HT.out.mono ?_; rintro e w2 ⟨rfl, hr2, hg2⟩; have hsz2 := hg2.size; have d2 := hr2.c1)
          | (at_builtin; refine wpList_push rfl _ _ 23 rfl w.heap.size 3 (.int .i64 0) 8 Try.underlying23 Try.info_int rfl A c (i64s l) rfl ((hown.gr hg2 hlt).alloc _) w2.heap.size (.int .i64 x) rfl (cell_new _ _ _) rfl (by omega) (by simp; omega) ?_; intro g' c' w3 hown' hbl hgr hat hgb))
        go_roundw
        case rel =>
          refine ⟨some ⟨g', 0, none⟩, c', l ++ [x], u, false, by rw [i64s_snoc]; simp, by rw [i64s_snoc]; simp, by rw [i64s_snoc]; exact hown', (hr2.alloc _).below hbl hlt, gr_belowB (gr_alloc (gr_trans hg hg2) _) hbl, by omega, by rw [i64s_snoc]; simp; omega, Lib.hid fun _ => rfl, ?_⟩
          have := HG2.out
          rw [i64s_snoc]
          simp only [List.length_append, List.length_singleton, ← Nat.sub_sub]
          exact Lib.hid this
        case measure => simp [intOf]; omega
      · rw [rdLoop_stop] at HG
        have HR := Lib.hid (HE.out _ _ _ HG)
        clear HG
        go_wp2_with (refine HT.out.mono ?_; rintro e w2 ⟨rfl, hr2, hg2⟩; have hsz2 := hg2.size; have d2 := hr2.c1)
        go_ret
        rw [HR.out]
        exact ⟨none, 0, rfl, OwnS.nil _ _ _, hr2, gr_trans hg hg2⟩
    · have hz : n - (i64s l).length = 0 := by omega
      have HM := HL.out
      rw [hz] at HM
      have HR := Lib.hid (HE.out _ _ _ (HM.trans (show rdLoop rdInt 0 s' f' l = (l, s', f') by simp [rdLoop])))
      have HZ := Lib.hid (show f' = true → l = [] by
        intro hf1
        have : ¬ 0 < n := fun h0 => by rw [HF.out h0] at hf1; cases hf1
        have h1 : (i64s l).length = 0 := by omega
        exact List.eq_nil_of_length_eq_zero (by simpa [i64s] using h1))
      clear HM hz HF HL
      go_wp2_with fail
      go_ret
      rw [HR.out]
      cases f'
      · exact ⟨A, c, rfl, hown, hr, hg⟩
      · have := HZ.out rfl
        subst this
        exact ⟨A, c, rfl, hown, hr, hg⟩

end Go.Proofs.Ytgojkbaodmiiaaa
