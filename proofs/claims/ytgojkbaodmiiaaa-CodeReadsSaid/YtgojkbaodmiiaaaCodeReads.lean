/- CodeReads: for all inputs s (at most 5000 bytes) and all sequences of at most 30 calls, a reader returns in each call what the reference returns, and has then the same Left and Done. -/
import Derived.Test.YtgojkbaodmiiaaaCodeRef5
import Derived.Test.YtgojkbaodmiiaaaCodeAgain
import Derived.Deep.DeepCutAuto
import Derived.Deep.CutBlock
namespace Go.Proofs.Ytgojkbaodmiiaaa
open Go.RowKit

/-- What one call leaves of a reader: not more than before, and nothing if it has failed. -/
def Fine (s : List UInt8) (f : Bool) (t : List UInt8) (g : Bool) : Prop := (f = true → s = []) → t.length ≤ s.length ∧ (g = true → t = [])
theorem rdLoop_bd {α : Type} {one : List UInt8 → Bool → α × List UInt8 × Bool} (h : ∀ s f, (one s f).2.1.length ≤ s.length) : ∀ (k : Nat) (s : List UInt8) (f : Bool) (l : List α), (rdLoop one k s f l).2.1.length ≤ s.length
  | 0, s, f, l => by simp [rdLoop]
  | k + 1, s, f, l => by
    unfold rdLoop; split
    · simp
    · exact Nat.le_trans (rdLoop_bd h k _ _ _) (h s f)
theorem rdMany_bd {α : Type} {one : List UInt8 → Bool → α × List UInt8 × Bool} (h : ∀ s f, (one s f).2.1.length ≤ s.length) (s : List UInt8) (f : Bool) : (rdMany one s f).2.1.length ≤ s.length := by
  have hb := (rdNum_bd s f).2
  obtain ⟨n, t, g, hN⟩ : ∃ n t g, rdNum s f = (n, t, g) := ⟨_, _, _, rfl⟩
  rw [hN] at hb
  simp only at hb
  by_cases hn : n ≤ t.length
  · obtain ⟨l, u, e, hL⟩ : ∃ l u e, rdLoop one n t g [] = (l, u, e) := ⟨_, _, _, rfl⟩
    have := rdLoop_bd h n t g []
    rw [rdMany_eq hN hn hL]
    rw [hL] at this
    simp only at this
    split <;> simp <;> omega
  · rw [rdMany_over hN hn]; simp
theorem fine_of {α : Type} {rd : List UInt8 → Bool → α × List UInt8 × Bool} (h : ∀ s f, (rd s f).2.1.length ≤ s.length) (hf : ∀ s x t, rd s false = (x, t, true) → t = []) {s t : List UInt8} {f g : Bool} {x : α} (e : rd s f = (x, t, g)) : Fine s f t g := by
  intro hd
  have h1 := h s f
  rw [e] at h1
  refine ⟨h1, fun hg => ?_⟩
  subst hg
  cases f
  · exact hf s x t e
  · rw [hd rfl] at h1
    simpa using h1
theorem fineTake {s t x : List UInt8} {f g : Bool} {n : Int} (e : rdTake s f n = (x, t, g)) : Fine s f t g := by
  intro _
  have h1 := (rdTake_bd s f n).2
  rw [e] at h1
  refine ⟨h1, fun hg => ?_⟩
  unfold rdTake at e
  split at e
  · rename_i hk
    obtain ⟨h1, _⟩ := hk
    injection e with e1 e2; injection e2 with e2 e3
    rw [hg, h1] at e3; cases e3
  · injection e with e1 e2; injection e2 with e2 e3
    exact e2.symm

theorem rdLoop_many {α : Type} {one : List UInt8 → Bool → α × List UInt8 × Bool} : ∀ (k : Nat) (s : List UInt8) (f : Bool) (l : List α), (rdLoop one k s f l).1.length ≤ l.length + k
  | 0, s, f, l => by simp [rdLoop]
  | k + 1, s, f, l => by
    unfold rdLoop; split
    · simp
    · have := rdLoop_many (one := one) k (one s f).2.1 (one s f).2.2 (l ++ [(one s f).1]); simp at this; omega
theorem rdMany_many {α : Type} {one : List UInt8 → Bool → α × List UInt8 × Bool} (s : List UInt8) (f : Bool) : (rdMany one s f).1.length ≤ s.length := by
  have hb := (rdNum_bd s f).2
  obtain ⟨n, t, g, hN⟩ : ∃ n t g, rdNum s f = (n, t, g) := ⟨_, _, _, rfl⟩
  rw [hN] at hb
  simp only at hb
  by_cases hn : n ≤ t.length
  · obtain ⟨l, u, e, hL⟩ : ∃ l u e, rdLoop one n t g [] = (l, u, e) := ⟨_, _, _, rfl⟩
    have := rdLoop_many (one := one) n t g []
    rw [rdMany_eq hN hn hL]
    rw [hL] at this
    simp at this
    split
    · simp
    · simp; omega
  · rw [rdMany_over hN hn]; simp

theorem cell_gr {w w' : World} {r : Option Nat} (k : w.grownBy w' r) {p : Addr} (hp : p.block < w.heap.size) (hr : some p.block ≠ r) : w'.cell? p = w.cell? p := by
  have h1 := k.block p.block hp hr
  have h2 : p.block < w'.heap.size := Nat.lt_of_lt_of_le hp k.size
  unfold World.cell?
  rw [h1]

/-- Both readers. -/
def Two (a w : World) (b c : Nat) (s : List UInt8) (f : Bool) : Prop := Below a.heap.size a w ∧ Rd w b s f ∧ Rx w c s f ∧ a.heap.size ≤ b ∧ b < c
theorem Two.rd {a w w' : World} {b c : Nat} {s t : List UInt8} {f g : Bool} (h : Two a w b c s f) (r : Rd w' b t g) (k : w.grownBy w' (some b)) : Below a.heap.size a w' ∧ Rd w' b t g ∧ Rx w' c s f :=
  ⟨below_gr h.1 k h.2.2.2.1 h.1.size, r, Blk.grown h.2.2.1 k (by have := h.2.2.2.2; simp; omega)⟩
theorem Two.rx {a w w1 w2 : World} {b c : Nat} {s t : List UInt8} {f g : Bool} (h : Two a w b c s f) (r : Rd w1 b t g) (k : w.grownBy w1 (some b)) (x : Rx w2 c t g) (j : w1.grownBy w2 (some c)) : Two a w2 b c t g := by
  have h1 := h.rd r k
  have h2 := h.2.2.2
  exact ⟨below_gr h1.1 j (by omega) h1.1.size, Blk.grown h1.2.1 j (by simp; omega), x, h2⟩
theorem Two.xr {a w w1 w2 : World} {b c : Nat} {s t : List UInt8} {f g : Bool} (h : Two a w b c s f) (x : Rx w1 c t g) (j : w.grownBy w1 (some c)) (r : Rd w2 b t g) (k : w1.grownBy w2 (some b)) : Two a w2 b c t g := by
  have h2 := h.2.2.2
  have h1 := below_gr h.1 j (by omega) h.1.size
  exact ⟨below_gr h1 k (by omega) h1.size, r, Blk.grown x k (by simp; omega), h2⟩
theorem Two.later {a w w' : World} {b c : Nat} {s : List UInt8} {f : Bool} (h : Two a w b c s f) (k : Below w.heap.size w w') : Two a w' b c s f :=
  ⟨h.1.trans (k.mono h.1.size), Blk.later h.2.1 k, Blk.later h.2.2.1 k, h.2.2.2⟩
theorem Two.drew {a w : World} {b c : Nat} {s : List UInt8} {f : Bool} (h : Two a w b c s f) : Two a w.drew b c s f := h.later ⟨rfl, rfl, rfl, Nat.le_refl _, fun _ _ => rfl⟩

theorem Two.far {a w w' : World} {b c e : Nat} {s : List UInt8} {f : Bool} {A : Option Addr} {cap : Nat} {xs : List Value} (h : Two a w b c s f) (o : OwnS w' w.heap.size e A cap xs) (_ : w.grownBy w' (some b)) : ∀ g, 0 < xs.length → A = some ⟨g, 0, none⟩ → g ≠ c := by
  rintro g h0 rfl
  obtain ⟨g', e, h1, _⟩ := o.form h0
  injection e with e; injection e with e
  have := Blk.lt h.2.2.1
  omega
theorem OwnS.rowFar {w w' : World} {B e c : Nat} {A : Option Addr} {cap : Nat} {xs : List Value} (o : OwnS w B e A cap xs) (k : w.grownBy w' (some c)) (h : ∀ g, 0 < xs.length → A = some ⟨g, 0, none⟩ → g ≠ c) : Row w' w'.heap.size A xs := by
  rcases Nat.eq_zero_or_pos xs.length with h0 | h0
  · rw [List.eq_nil_of_length_eq_zero h0]; exact Row.nil _ _ _
  · exact (o.kept k fun g hA hc => h g h0 hA (by injection hc)).row

set_option maxRecDepth 100000 in
set_option maxHeartbeats 4000000 in
theorem creads_main (s : List UInt8) (A : Option Addr) (cc n : Nat) (l : List Int) (w : World) (hs : s.length ≤ 5000) (hrow : Row w w.heap.size A (i64s l)) (hn : n = l.length) (hl : n ≤ 30) (hwf : ∀ x ∈ l, -9223372036854775808 ≤ x ∧ x < 9223372036854775808) :
    Calls Try.prog 4 #[.string ⟨s.toArray⟩, .slice A n cc] w fun e w' => e = .returned (.bool true) ∧ Below w.heap.size w w' := by
  have HR := Lib.hid hrow
  have HN := Lib.hid hn
  have HW := Lib.hid hwf
  clear hrow hwf hn
  go_enter Try.func4, Try.ntmps4
  go_wp2_with fail
  refine (small_any _).mono ?_; rintro e w1 ⟨rfl, b1⟩
  go_wp2_with fail
  refine (open_any s _).mono ?_; rintro e w2 ⟨rfl, r2, b2⟩
  have hw1 := b1.size
  have hb2 := r2.lt
  have B2 := b1.trans (b2.mono hw1)
  generalize w1.heap.size = b at *
  go_wp2_with fail
  refine (xopen_any s _).mono ?_; rintro e w3 ⟨rfl, x3, b3⟩
  have T3 : Two w w3 b w2.heap.size s false := ⟨B2.trans (b3.mono B2.size), Blk.later r2 b3, x3, hw1, hb2⟩
  generalize w2.heap.size = c at *
  clear b1 b2 b3 r2 x3 B2
  go_wp2_with fail
  refine (left_any b s false _ T3.2.1 (by unfold maxLen; omega)).mono ?_; rintro e w4 ⟨rfl, rfl⟩
  go_wp2_with fail
  refine (done_any b s false _ T3.2.1).mono ?_; rintro e w4 ⟨rfl, rfl⟩
  have HT := Lib.hid T3
  clear T3
  go_wp2_with fail
  go_loopw [8] (fun i wr => ∃ (k : Nat) (s' : List UInt8) (f' : Bool), i = .int .i64 k ∧ k ≤ n ∧ s'.length ≤ 5000 ∧ Hid (Two w wr b c s' f' ∧ (f' = true → s' = []))) (fun i _ => n - (intOf i).toNat)
  case atStart => exact ⟨0, s, false, rfl, by omega, hs, Lib.hid ⟨HT.out, fun h => by cases h⟩⟩
  case round =>
    obtain ⟨k, s', f', rfl, hk, hs', hT⟩ := hrel
    obtain ⟨T, hd⟩ := hT.out
    clear hT HT hs
    by_cases hlt : k < n
    · obtain ⟨b1, o1, rfl, hb1, hc1⟩ := HR.out (by rw [i64s_length, ← HN.out]; omega)
      have hk1 : k < l.length := by rw [← HN.out]; exact hlt
      have f0 : w.cell? ⟨b1, o1 + k, none⟩ = some (.int .i64 l[k]) := by
        rw [hc1 k (by rw [i64s_length]; exact hk1)]; simp [i64s]
      have f1 : wr.cell? ⟨b1, o1 + k, none⟩ = some (.int .i64 l[k]) := by rw [T.1.cell hb1, f0]
      have hv := HW.out l[k] (List.getElem_mem hk1)
      have F0 := Lib.hid f0
      clear hc1 f0 HW
      generalize l[k] = v at *
      by_cases h0 : v = 0
      · subst h0
        clear hv
        obtain ⟨x, t, g, hX⟩ : ∃ x t g, rdNum s' f' = (x, t, g) := ⟨_, _, _, rfl⟩
        obtain ⟨ht, hg⟩ := (fine_of (fun s f => (rdNum_bd s f).2) codecNum.fell hX : Fine s' f' t g) hd
        have C1 := Lib.hid (rdnum_any b s' f' wr T.2.1 (by first | omega | (unfold maxLen; omega)))
        have C2 := Lib.hid (fun w2 (h : Rx w2 c s' f') => xnum_any c s' f' w2 h (by omega))
        rw [hX] at C1 C2
        simp only at C1 C2
        have TT := Lib.hid T
        have HG := Lib.hid hg
        clear T hX hg hd
        go_wp2_with fail
        refine C1.out.mono ?_; rintro e w2 ⟨rfl, r2, g2⟩
        go_wp2_with fail
        refine (C2.out _ (TT.out.rd r2 g2).2.2).mono ?_; rintro e w3 ⟨rfl, x3, g3⟩
        have T3 := TT.out.rx r2 g2 x3 g3
        clear TT C1 C2 r2 g2 x3 g3
        go_wp2_with fail
        refine (left_any b t g _ T3.2.1 (by unfold maxLen; omega)).mono ?_; rintro e w5 ⟨rfl, rfl⟩
        go_wp2_with fail
        refine (xleft_any c t g _ T3.2.2.1 (by unfold maxLen; omega)).mono ?_; rintro e w5 ⟨rfl, rfl⟩
        go_wp2_with fail
        refine (done_any b t g _ T3.2.1).mono ?_; rintro e w5 ⟨rfl, rfl⟩
        go_wp2_with fail
        refine (xdone_any c t g _ T3.2.2.1).mono ?_; rintro e w5 ⟨rfl, rfl⟩
        have HT := Lib.hid T3
        clear T3
        go_wp2_with fail
        go_roundw
        case rel => exact ⟨k + 1, t, g, by go_num, by omega, by omega, Lib.hid ⟨HT.out, HG.out⟩⟩
        case measure => simp [intOf]; omega

      by_cases h1 : v = 1
      · subst h1
        clear hv
        obtain ⟨x, t, g, hX⟩ : ∃ x t g, rdInt s' f' = (x, t, g) := ⟨_, _, _, rfl⟩
        obtain ⟨ht, hg⟩ := (fine_of (fun s f => (rdInt_bd s f).2) codecInt.fell hX : Fine s' f' t g) hd
        have C1 := Lib.hid (rdint_any b s' f' wr T.2.1 (by first | omega | (unfold maxLen; omega)))
        have C2 := Lib.hid (fun w2 (h : Rx w2 c s' f') => xint_any c s' f' w2 h (by omega))
        rw [hX] at C1 C2
        simp only at C1 C2
        have TT := Lib.hid T
        have HG := Lib.hid hg
        clear T hX hg hd
        go_wp2_with fail
        refine C1.out.mono ?_; rintro e w2 ⟨rfl, r2, g2⟩
        go_wp2_with fail
        refine (C2.out _ (TT.out.rd r2 g2).2.2).mono ?_; rintro e w3 ⟨rfl, x3, g3⟩
        have T3 := TT.out.rx r2 g2 x3 g3
        clear TT C1 C2 r2 g2 x3 g3
        go_wp2_with fail
        refine (left_any b t g _ T3.2.1 (by unfold maxLen; omega)).mono ?_; rintro e w5 ⟨rfl, rfl⟩
        go_wp2_with fail
        refine (xleft_any c t g _ T3.2.2.1 (by unfold maxLen; omega)).mono ?_; rintro e w5 ⟨rfl, rfl⟩
        go_wp2_with fail
        refine (done_any b t g _ T3.2.1).mono ?_; rintro e w5 ⟨rfl, rfl⟩
        go_wp2_with fail
        refine (xdone_any c t g _ T3.2.2.1).mono ?_; rintro e w5 ⟨rfl, rfl⟩
        have HT := Lib.hid T3
        clear T3
        go_wp2_with fail
        go_roundw
        case rel => exact ⟨k + 1, t, g, by go_num, by omega, by omega, Lib.hid ⟨HT.out, HG.out⟩⟩
        case measure => simp [intOf]; omega

      by_cases h2 : v = 2
      · subst h2
        clear hv
        obtain ⟨x, t, g, hX⟩ : ∃ x t g, rdText s' f' = (x, t, g) := ⟨_, _, _, rfl⟩
        obtain ⟨ht, hg⟩ := (fine_of (fun s f => (rdText_bd s f).2) codecText.fell hX : Fine s' f' t g) hd
        have C1 := Lib.hid (text_any b s' f' wr T.2.1 (by first | omega | (unfold maxLen; omega)))
        have C2 := Lib.hid (fun w2 (h : Rx w2 c s' f') => xtext_any c s' f' w2 h (by omega))
        rw [hX] at C1 C2
        simp only at C1 C2
        have TT := Lib.hid T
        have HG := Lib.hid hg
        clear T hX hg hd
        go_wp2_with fail
        refine C1.out.mono ?_; rintro e w2 ⟨rfl, r2, g2⟩
        go_wp2_with fail
        refine (C2.out _ (TT.out.rd r2 g2).2.2).mono ?_; rintro e w3 ⟨rfl, x3, g3⟩
        have T3 := TT.out.rx r2 g2 x3 g3
        clear TT C1 C2 r2 g2 x3 g3
        go_wp2_with fail
        refine (left_any b t g _ T3.2.1 (by unfold maxLen; omega)).mono ?_; rintro e w5 ⟨rfl, rfl⟩
        go_wp2_with fail
        refine (xleft_any c t g _ T3.2.2.1 (by unfold maxLen; omega)).mono ?_; rintro e w5 ⟨rfl, rfl⟩
        go_wp2_with fail
        refine (done_any b t g _ T3.2.1).mono ?_; rintro e w5 ⟨rfl, rfl⟩
        go_wp2_with fail
        refine (xdone_any c t g _ T3.2.2.1).mono ?_; rintro e w5 ⟨rfl, rfl⟩
        have HT := Lib.hid T3
        clear T3
        go_wp2_with fail
        go_roundw
        case rel => exact ⟨k + 1, t, g, by go_num, by omega, by omega, Lib.hid ⟨HT.out, HG.out⟩⟩
        case measure => simp [intOf]; omega

      by_cases h3 : v = 3
      · subst h3
        clear hv
        obtain ⟨x, t, g, hX⟩ : ∃ x t g, rdMany rdText s' f' = (x, t, g) := ⟨_, _, _, rfl⟩
        obtain ⟨ht, hg⟩ := (fine_of (fun s f => rdMany_bd (fun s f => (rdText_bd s f).2) s f) (codecMany codecText).fell hX : Fine s' f' t g) hd
        have C1 := Lib.hid (list_any b s' f' wr T.2.1 (by first | omega | (unfold maxLen; omega)))
        have C2 := Lib.hid (fun w2 (h : Rx w2 c s' f') => xlist_any c s' f' w2 h hd (by omega))
        rw [hX] at C1 C2
        simp only at C1 C2
        have hxl : x.length ≤ 5000 := by have := rdMany_many (one := rdText) s' f'; rw [hX] at this; simp only at this; omega
        have TT := Lib.hid T
        have HG := Lib.hid hg
        clear T hX hg hd
        go_wp2_with fail
        refine C1.out.mono ?_; rintro e w2 ⟨A1, c1, rfl, o2, r2, g2⟩
        go_wp2_with fail
        refine (C2.out _ (TT.out.rd r2 g2).2.2).mono ?_; rintro e w3 ⟨A2, c2, rfl, o3, x3, g3⟩
        have T3 := TT.out.rx r2 g2 x3 g3
        have SM := Lib.hid (sameTexts_any A1 A2 c1 c2 _ _ x x w3 (o2.rowFar g3 (TT.out.far o2 g2)) o3.row (strs_length x) (strs_length x) (by rw [strs_length]; omega) (by rw [strs_length]; omega))
        rw [decide_eq_true (rfl : x = x)] at SM
        clear o2 o3
        clear TT C1 C2 r2 g2 x3 g3
        go_wp2_with fail
        refine SM.out.mono ?_; rintro e w4 ⟨rfl, b4⟩
        have T3 := T3.later b4
        go_wp2_with fail
        refine (left_any b t g _ T3.2.1 (by unfold maxLen; omega)).mono ?_; rintro e w5 ⟨rfl, rfl⟩
        go_wp2_with fail
        refine (xleft_any c t g _ T3.2.2.1 (by unfold maxLen; omega)).mono ?_; rintro e w5 ⟨rfl, rfl⟩
        go_wp2_with fail
        refine (done_any b t g _ T3.2.1).mono ?_; rintro e w5 ⟨rfl, rfl⟩
        go_wp2_with fail
        refine (xdone_any c t g _ T3.2.2.1).mono ?_; rintro e w5 ⟨rfl, rfl⟩
        have HT := Lib.hid T3
        clear T3
        go_wp2_with fail
        go_roundw
        case rel => exact ⟨k + 1, t, g, by go_num, by omega, by omega, Lib.hid ⟨HT.out, HG.out⟩⟩
        case measure => simp [intOf]; omega

      by_cases h4 : v = 4
      · subst h4
        clear hv
        obtain ⟨x, t, g, hX⟩ : ∃ x t g, rdMany rdInt s' f' = (x, t, g) := ⟨_, _, _, rfl⟩
        obtain ⟨ht, hg⟩ := (fine_of (fun s f => rdMany_bd (fun s f => (rdInt_bd s f).2) s f) (codecMany codecInt).fell hX : Fine s' f' t g) hd
        have C1 := Lib.hid (nums_any b s' f' wr T.2.1 (by first | omega | (unfold maxLen; omega)))
        have C2 := Lib.hid (fun w2 (h : Rx w2 c s' f') => xnums_any c s' f' w2 h hd (by omega))
        rw [hX] at C1 C2
        simp only at C1 C2
        have hxl : x.length ≤ 5000 := by have := rdMany_many (one := rdInt) s' f'; rw [hX] at this; simp only at this; omega
        have TT := Lib.hid T
        have HG := Lib.hid hg
        clear T hX hg hd
        go_wp2_with fail
        refine C1.out.mono ?_; rintro e w2 ⟨A1, c1, rfl, o2, r2, g2⟩
        go_wp2_with fail
        refine (C2.out _ (TT.out.rd r2 g2).2.2).mono ?_; rintro e w3 ⟨A2, c2, rfl, o3, x3, g3⟩
        have T3 := TT.out.rx r2 g2 x3 g3
        have SM := Lib.hid (sameNums_any A1 A2 c1 c2 _ _ x x w3 (o2.rowFar g3 (TT.out.far o2 g2)) o3.row (i64s_length x) (i64s_length x) (by rw [i64s_length]; omega) (by rw [i64s_length]; omega))
        rw [decide_eq_true (rfl : x = x)] at SM
        clear o2 o3
        clear TT C1 C2 r2 g2 x3 g3
        go_wp2_with fail
        refine SM.out.mono ?_; rintro e w4 ⟨rfl, b4⟩
        have T3 := T3.later b4
        go_wp2_with fail
        refine (left_any b t g _ T3.2.1 (by unfold maxLen; omega)).mono ?_; rintro e w5 ⟨rfl, rfl⟩
        go_wp2_with fail
        refine (xleft_any c t g _ T3.2.2.1 (by unfold maxLen; omega)).mono ?_; rintro e w5 ⟨rfl, rfl⟩
        go_wp2_with fail
        refine (done_any b t g _ T3.2.1).mono ?_; rintro e w5 ⟨rfl, rfl⟩
        go_wp2_with fail
        refine (xdone_any c t g _ T3.2.2.1).mono ?_; rintro e w5 ⟨rfl, rfl⟩
        have HT := Lib.hid T3
        clear T3
        go_wp2_with fail
        go_roundw
        case rel => exact ⟨k + 1, t, g, by go_num, by omega, by omega, Lib.hid ⟨HT.out, HG.out⟩⟩
        case measure => simp [intOf]; omega

      have e0 : (v == 0) = false := by simpa using h0
      have e1 : (v == 1) = false := by simpa using h1
      have e2 : (v == 2) = false := by simpa using h2
      have e3 : (v == 3) = false := by simpa using h3
      have e4 : (v == 4) = false := by simpa using h4
      clear h0 h1 h2 h3 h4 hv
      obtain ⟨q, hq⟩ : ∃ q, IntKind.i64.wrap (v - 5) = q := ⟨_, rfl⟩
      obtain ⟨x, t, g, hX⟩ : ∃ x t g, rdTake s' f' q = (x, t, g) := ⟨_, _, _, rfl⟩
      obtain ⟨ht, hg⟩ := (fineTake hX : Fine s' f' t g) hd
      have hbc := T.2.2.2.2
      have hwb := T.2.2.2.1
      have hrs := T.1.size
      have hD : wr.drew.cell? ⟨b1, o1 + k, none⟩ = some (.int .i64 v) := f1
      have KB := Lib.hid (fun (W : World) (j : wr.drew.grownBy W (some b)) => (show W.cell? ⟨b1, o1 + k, none⟩ = some (.int .i64 v) from (cell_gr j (p := ⟨b1, o1 + k, none⟩) (by show b1 < wr.heap.size; omega) (by simp; omega)).trans hD))
      have KC := Lib.hid (fun (W : World) (j : wr.drew.grownBy W (some c)) => (show W.cell? ⟨b1, o1 + k, none⟩ = some (.int .i64 v) from (cell_gr j (p := ⟨b1, o1 + k, none⟩) (by show b1 < wr.heap.size; omega) (by simp; omega)).trans hD))
      have RA := Lib.hid (take_any b s' f' q wr.drew T.drew.2.1 (by unfold maxLen; omega))
      have RB := Lib.hid (fun (W : World) (j : wr.drew.grownBy W (some c)) => take_any b s' f' q W (Blk.grown T.drew.2.1 j (by simp; omega)) (by unfold maxLen; omega))
      have XA := Lib.hid (xtake_any c s' f' q wr.drew T.drew.2.2.1 (by omega))
      have XB := Lib.hid (fun (W : World) (j : wr.drew.grownBy W (some b)) => xtake_any c s' f' q W (Blk.grown T.drew.2.2.1 j (by simp; omega)) (by omega))
      rw [hX] at RA RB XA XB
      simp only at RA RB XA XB
      have TT := Lib.hid T.drew
      have HG := Lib.hid hg
      clear T hX hg hd
      go_upto_block 2 with fail
      go_cut [9] (fun s9 wx => s9 = .bool true ∧ Hid (Two w wx b c t g))
      case first =>
        go_wp2_with fail
        go_region_with (first
          | (go_at_call 38; refine RA.out.mono ?_; rintro e w2 ⟨rfl, r2, g2⟩; have cx := KB.out _ g2)
          | (go_at_call 39; refine XA.out.mono ?_; rintro e w2 ⟨rfl, x2, g2⟩; have cx := KC.out _ g2)
          | (go_at_call 38; refine (RB.out _ g2).mono ?_; rintro e w3 ⟨rfl, r3, g3⟩; have T3 := Lib.hid (TT.out.xr x2 g2 r3 g3))
          | (go_at_call 39; refine (XB.out _ g2).mono ?_; rintro e w3 ⟨rfl, x3, g3⟩; have T3 := Lib.hid (TT.out.rx r2 g2 x3 g3)))
        all_goals (go_wp2_with fail; go_meet; exact ⟨rfl, T3⟩)
      case rest =>
        obtain ⟨rfl, hT3⟩ := hcut
        have T3 := hT3.out
        clear TT RA RB XA XB KB KC hT3
        go_wp2_with fail
        refine (left_any b t g _ T3.2.1 (by unfold maxLen; omega)).mono ?_; rintro e w5 ⟨rfl, rfl⟩
        go_wp2_with fail
        refine (xleft_any c t g _ T3.2.2.1 (by unfold maxLen; omega)).mono ?_; rintro e w5 ⟨rfl, rfl⟩
        go_wp2_with fail
        refine (done_any b t g _ T3.2.1).mono ?_; rintro e w5 ⟨rfl, rfl⟩
        go_wp2_with fail
        refine (xdone_any c t g _ T3.2.2.1).mono ?_; rintro e w5 ⟨rfl, rfl⟩
        have HT := Lib.hid T3
        clear T3
        go_wp2_with fail
        go_roundw
        case rel => exact ⟨k + 1, t, g, by go_num, by omega, by omega, Lib.hid ⟨HT.out, HG.out⟩⟩
        case measure => simp [intOf]; omega
    · have B0 := T.1
      clear T
      go_wp2_with fail
      go_ret
      exact ⟨rfl, B0⟩


set_option maxRecDepth 100000 in
set_option maxHeartbeats 1000000 in
theorem creads_any (s : List UInt8) (A : Option Addr) (cc : Nat) (l : List Int) (w : World) (hs : s.length ≤ maxLen) (hrow : Row w w.heap.size A (i64s l)) (hwf : ∀ x ∈ l, (Lit.int .i64 x).wf = true) (hl : l.length ≤ maxLen) :
    Calls Try.prog 4 #[.string ⟨s.toArray⟩, .slice A l.length cc] w fun e w' => e = .returned (.bool true) ∧ Below w.heap.size w w' := by
  unfold maxLen at hs hl
  by_cases h1 : s.length ≤ 5000
  · by_cases h2 : l.length ≤ 30
    · exact creads_main s A cc _ l w h1 hrow rfl h2 (fun x hx => wf_i64 (hwf x hx))
    · clear hrow hwf
      go_enter Try.func4, Try.ntmps4
      go_wp2_with fail
      refine (small_any _).mono ?_; rintro e w1 ⟨rfl, b1⟩
      go_wp2_with fail
      go_ret
      exact ⟨rfl, b1⟩
  · clear hrow hwf
    go_enter Try.func4, Try.ntmps4
    go_wp2_with fail
    refine (small_any _).mono ?_; rintro e w1 ⟨rfl, b1⟩
    go_wp2_with fail
    go_ret
    exact ⟨rfl, b1⟩

end Go.Proofs.Ytgojkbaodmiiaaa
