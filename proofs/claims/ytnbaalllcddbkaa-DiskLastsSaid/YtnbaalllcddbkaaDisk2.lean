/- Package disk: which calls are allowed; crashes. -/
import Derived.Test.YtnbaalllcddbkaaDisk1
import Derived.Deep.QuietTactic
import Derived.BigQuiet
import Derived.BigRegion
namespace Go.Proofs.Ytnbaalllcddbkaa
open Go.RowKit

def isB (f : Int) : Bool := decide (0 ≤ f) && decide (f < 8)
def DS.mayR (S : DS) (l : List Int) : Int := if S.down = true then 8 else if l.all isB = true then 0 else 1

set_option maxRecDepth 100000 in
set_option maxHeartbeats 400000 in
theorem may_any (b : Nat) (S : DS) (A : Option Addr) (c n : Nat) (l : List Int) (w : World) (h : Dk w b S) (hrow : Row w w.heap.size A (i64s l)) (hn : n = l.length) (hl : n ≤ 4398046511104) :
    Calls Try.prog 46 #[.pointer (some ⟨b, 0, none⟩), .slice A n c] w fun e w' => e = .returned (.int .i64 (S.mayR l)) ∧ w = w' := by
  have HS := Lib.hid (show (i64s l).length = n by rw [i64s_length, hn])
  have Hn := Lib.hid hn
  have c17 := h.c17
  clear h
  cases hd : S.down
  · rw [hd] at c17
    have HR := Lib.hid (show S.mayR l = if l.all isB = true then 0 else 1 by simp [DS.mayR, hd])
    clear hd hn
    go_enter Try.func46, Try.ntmps46
    go_wp2_with fail
    go_loopw [13] (fun i wr => ∃ k : Nat, i = .int .i64 k ∧ k ≤ n ∧ wr = w ∧ Hid ((l.take k).all isB = true)) (fun i _ => n - (intOf i).toNat)
    case atStart => exact ⟨0, rfl, by omega, rfl, Lib.hid (by simp)⟩
    case round =>
      obtain ⟨k, rfl, hk, rfl, hall⟩ := hrel
      by_cases hlt : k < n
      · obtain ⟨b1, o1, rfl, hb1, hc1⟩ := hrow (by rw [HS.out]; omega)
        have hk1 : k < l.length := by rw [← Hn.out]; exact hlt
        have f1 : wr.cell? ⟨b1, o1 + k, none⟩ = some (.int .i64 l[k]) := by
          rw [hc1 k (by rw [HS.out]; exact hlt)]; simp [i64s]
        clear hc1
        by_cases hi : 0 ≤ l[k] ∧ l[k] < 8
        · have C := Lib.hid (fun w => is_yes l[k] w hi.1 hi.2)
          have hI : isB l[k] = true := by simp [isB, hi]
          have HT := Lib.hid (show (l.take (k + 1)).all isB = true by rw [List.take_succ_eq_append_getElem hk1, List.all_append, hall.out]; simp [hI])
          clear hi hI
          go_wp2_with fail
          refine (C.out _).mono ?_; rintro e w2 ⟨rfl, rfl⟩
          go_wp2_with fail
          go_roundw
          case rel => exact ⟨k + 1, by go_num, by omega, trivial, HT⟩
          case measure => simp [intOf]; omega
        · have C := Lib.hid (fun w => is_no l[k] w (by omega))
          have hI : isB l[k] = false := by simp [isB]; omega
          have HF := Lib.hid (show l.all isB = false by rw [List.all_eq_false]; exact ⟨l[k], List.getElem_mem hk1, by simp [hI]⟩)
          clear hi hI
          go_wp2_with fail
          refine (C.out _).mono ?_; rintro e w2 ⟨rfl, rfl⟩
          go_wp2_with fail
          go_ret
          rw [HR.out, HF.out]
          exact ⟨rfl, rfl⟩
      · have HT := Lib.hid (show l.all isB = true by have := hall.out; rwa [List.take_of_length_le (by rw [← Hn.out]; omega)] at this)
        go_wp2_with fail
        go_ret
        rw [HR.out, HT.out]
        exact ⟨rfl, rfl⟩
  · rw [hd] at c17
    have HR := Lib.hid (show S.mayR l = 8 by simp [DS.mayR, hd])
    clear hd hn
    go_enter Try.func46, Try.ntmps46
    go_wp2_with fail
    go_ret
    rw [HR.out]
    exact ⟨rfl, rfl⟩

/-- How many bytes behind the durable ones a crash keeps. -/
def keepN (S : DS) (keep : List Int) (f : Nat) : Nat := min (max (keep.getD f 0) 0).toNat ((S.by_ f).length - S.la f)
def DS.crash (S : DS) (keep : List Int) : DS := if S.down = true then S else
  { S with by_ := fun f => (S.by_ f).take (S.la f + keepN S keep f), la := fun f => S.la f + keepN S keep f, down := true, armed := 0 }
/-- A disk as it should be. -/
def DS.Ok (S : DS) : Prop := (∀ f, f < 8 → S.la f ≤ (S.by_ f).length ∧ (S.by_ f).length ≤ 16777216) ∧ 0 ≤ S.lost ∧ S.lost < 9223372036854775808 ∧ 0 ≤ S.armed ∧ S.armed < 9223372036854775808 ∧ S.keep.length ≤ 4398046511104

/-- A disk whose first k files have been cut. -/
def DS.crashTo (S : DS) (keep : List Int) (k : Nat) : DS :=
  { S with by_ := fun f => if f < k then (S.by_ f).take (S.la f + keepN S keep f) else S.by_ f, la := fun f => if f < k then S.la f + keepN S keep f else S.la f, down := true, armed := 0 }
theorem DS.ext8 {w : World} {b : Nat} {S T : DS} (h : Dk w b S) (h1 : ∀ f, f < 8 → S.by_ f = T.by_ f ∧ S.la f = T.la f) (h2 : S.lost = T.lost ∧ S.down = T.down ∧ S.armed = T.armed ∧ S.keep = T.keep) : Dk w b T := by
  obtain ⟨cs, A, c, hb, ⟨g0, g1, g2, g3, g4, g5⟩, ho⟩ := h
  obtain ⟨e1, e2, e3, e4⟩ := h2
  rw [e1] at g2
  rw [e2] at g3
  rw [e3] at g4
  rw [e4] at g5 ho
  exact ⟨cs, A, c, hb, ⟨g0, fun f hf => by rw [← (h1 f hf).1, ← (h1 f hf).2]; exact g1 f hf, g2, g3, g4, g5⟩, ho⟩
theorem crash_step {w : World} {b : Nat} {S : DS} {keep : List Int} {k : Nat} (h : Dk w b (S.crashTo keep k)) (hk : k < 8) (ha : S.la k ≤ (S.by_ k).length) (v : Nat) (hv : keepN S keep k = v) :
    Dk ((w.setCell ⟨b, k * 2, none⟩ (.string ⟨((S.by_ k).take (S.la k + v)).toArray⟩)).setCell ⟨b, k * 2 + 1, none⟩ (.int .i64 ((S.la k + v : Nat) : Int))) b (S.crashTo keep (k + 1)) := by
  refine DS.ext8 ((h.setBy hk _).setLa hk _) (fun f hf => ?_) ⟨rfl, rfl, rfl, rfl⟩
  by_cases e : f = k
  · subst e; simp [DS.crashTo, hv]
  · have h1 : (f < k + 1) ↔ (f < k) := by omega
    simp [DS.crashTo, e, h1]
theorem keepN_le (S : DS) (keep : List Int) (f : Nat) : keepN S keep f ≤ (S.by_ f).length - S.la f := by unfold keepN; omega

set_option maxRecDepth 100000 in
set_option maxHeartbeats 2000000 in
theorem crash_up (b : Nat) (S : DS) (A : Option Addr) (c n : Nat) (l : List Int) (w : World) (h : Dk w b S) (hok : S.Ok) (hup : S.down = false) (hrow : Row w w.heap.size A (i64s l)) (hne : 0 < n → ∀ g, A = some g → g.block ≠ b) (hn : n = l.length) (hl : n ≤ 9223372036854775807) :
    Calls Try.prog 17 #[.pointer (some ⟨b, 0, none⟩), .slice A n c] w fun e w' => e = .returned (.tuple #[]) ∧ Dk w' b (S.crash l) ∧ w.grownBy w' (some b) := by
  have HS := Lib.hid (show (i64s l).length = n by rw [i64s_length, hn])
  have Hn := Lib.hid hn
  have c17 := h.c17
  rw [hup] at c17
  have c18 := h.c18
  have z17 := h.frozen 17
  have z18 := h.frozen 18
  have H0 : Dk ((w.setCell ⟨b, 17, none⟩ (.bool true)).setCell ⟨b, 18, none⟩ (.int .i64 0)) b (S.crashTo l 0) := DS.ext8 ((h.set17 true).set18 0) (fun f _ => ⟨by simp [DS.crashTo], by simp [DS.crashTo]⟩) ⟨rfl, rfl, rfl, rfl⟩
  have H1 := Lib.hid H0
  have HC := Lib.hid (show S.crash l = { S with by_ := fun f => (S.by_ f).take (S.la f + keepN S l f), la := fun f => S.la f + keepN S l f, down := true, armed := 0 } by simp [DS.crash, hup])
  have OK := Lib.hid hok.1
  clear h hup hn H0 hok
  go_enter Try.func17, Try.ntmps17
  go_wp2_with fail
  clear c17 c18 z17 z18
  go_loopw [17] (fun i wr => ∃ k : Nat, i = .int .i64 k ∧ k ≤ 8 ∧ Hid (Dk wr b (S.crashTo l k) ∧ w.grownBy wr (some b))) (fun i _ => 8 - (intOf i).toNat)
  case atStart => exact ⟨0, rfl, by omega, Lib.hid ⟨H1.out, gr_own (gr_own (gr_refl _ _) 17 _) 18 _⟩⟩
  case round =>
    obtain ⟨k, rfl, hk, hW⟩ := hrel
    clear H1
    by_cases hk8 : k < 8
    · have c0 := hW.out.1.byte hk8
      have c1 := hW.out.1.last hk8
      have z0 := hW.out.1.frozen (k * 2)
      have z1 := hW.out.1.frozen (k * 2 + 1)
      rw [show (S.crashTo l k).by_ k = S.by_ k by simp [DS.crashTo]] at c0
      rw [show (S.crashTo l k).la k = S.la k by simp [DS.crashTo]] at c1
      have hla := (OK.out k hk8).1
      have hby := (OK.out k hk8).2
      have hst := fun v hv m => crash_step (w := wr.drewN m) (hW.out.1.drewN m) hk8 hla v hv
      have HST := Lib.hid hst
      clear hst
      have bxt := bx_take (S.by_ k)
      by_cases hlt : k < n
      · obtain ⟨b1, o1, rfl, hb1, hc1⟩ := hrow (by rw [HS.out]; omega)
        have hk1 : k < l.length := by rw [← Hn.out]; exact hlt
        have hbn : b1 ≠ b := hne (by omega) _ rfl
        have f1 : wr.cell? ⟨b1, o1 + k, none⟩ = some (.int .i64 l[k]) := by
          have hcell := hc1 k (by rw [HS.out]; exact hlt)
          have := hW.out.2.cell (a := ⟨b1, o1 + k, none⟩) hcell (by simpa using hbn)
          rw [this]; simp [i64s]
        have hgd : l.getD k 0 = l[k] := by simp [List.getD, hk1]
        clear hc1
        have hkv : keepN S l k = min (max l[k] 0).toNat ((S.by_ k).length - S.la k) := by unfold keepN; rw [hgd]
        clear hgd
        generalize l[k] = z at *
        by_cases hneg : z < 0
        · have hm : ¬ 0 ≤ z := by omega
          have hv : keepN S l k = 0 := by rw [hkv]; omega
          clear hkv
          have HD := HST.out (0) hv
          clear hv HST
          go_wp2_with fail
          go_quiet (fail)
          go_wp2_with fail
          have hw : IntKind.i64.wrap ((S.la k : Int) + ((0 : Nat) : Int)) = (S.la k : Int) + ((0 : Nat) : Int) := IntWalk.i64_in _ (by omega)
          have hw0 : (0 : Int) ≤ (S.la k : Int) + ((0 : Nat) : Int) := by omega
          have hwn : ((S.la k : Int) + ((0 : Nat) : Int)).toNat = S.la k + (0) := by omega
          have hwl : (S.la k : Int) + ((0 : Nat) : Int) ≤ ((S.by_ k).length : Int) := by omega
          go_region
          clear hw hw0 hwn hwl
          have hml : min (S.la k + (0)) (S.by_ k).length = S.la k + (0) := by omega
          go_wp2_with fail
          go_roundw
          case rel => exact ⟨k + 1, by go_num, by omega, Lib.hid ⟨HD _, gr_own (gr_own (gr_drewN hW.out.2 _) (k * 2) _) (k * 2 + 1) _⟩⟩
          case measure => simp [intOf]; omega
        · obtain ⟨m, rfl⟩ := Int.eq_ofNat_of_zero_le (by omega : 0 ≤ z)
          clear hneg
          obtain ⟨D, hD⟩ : ∃ D : Nat, D = (S.by_ k).length - S.la k := ⟨_, rfl⟩
          have hsub : ((S.by_ k).length : Int) - (S.la k : Int) = (D : Int) := by omega
          by_cases hmD : m ≤ D
          · have hv : keepN S l k = m := by rw [hkv]; omega
            have hDl : S.la k + D = (S.by_ k).length := by omega
            have HDl := Lib.hid hDl
            clear hkv hD hDl
            have hmL : S.la k + m ≤ (S.by_ k).length := by have := HDl.out; omega
            have HD := HST.out (m) hv
            clear hv HST
            go_wp2_with fail
            go_quiet (fail)
            go_wp2_with fail
            have hw : IntKind.i64.wrap ((S.la k : Int) + ((m : Nat) : Int)) = (S.la k : Int) + ((m : Nat) : Int) := IntWalk.i64_in _ (by omega)
            have hw0 : (0 : Int) ≤ (S.la k : Int) + ((m : Nat) : Int) := by omega
            have hwn : ((S.la k : Int) + ((m : Nat) : Int)).toNat = S.la k + (m) := by omega
            have hwl : (S.la k : Int) + ((m : Nat) : Int) ≤ ((S.by_ k).length : Int) := by omega
            go_region
            clear hw hw0 hwn hwl
            have hml : min (S.la k + (m)) (S.by_ k).length = S.la k + (m) := by omega
            go_wp2_with fail
            go_roundw
            case rel => exact ⟨k + 1, by go_num, by omega, Lib.hid ⟨HD _, gr_own (gr_own (gr_drewN hW.out.2 _) (k * 2) _) (k * 2 + 1) _⟩⟩
            case measure => simp [intOf]; omega
          · have hv : keepN S l k = D := by rw [hkv]; omega
            have hDl : S.la k + D = (S.by_ k).length := by omega
            have HDl := Lib.hid hDl
            clear hkv hD hDl
            have hmL : S.la k + D ≤ (S.by_ k).length := by have := HDl.out; omega
            have HD := HST.out (D) hv
            clear hv HST
            go_wp2_with fail
            go_quiet (fail)
            go_wp2_with fail
            have hw : IntKind.i64.wrap ((S.la k : Int) + ((D : Nat) : Int)) = (S.la k : Int) + ((D : Nat) : Int) := IntWalk.i64_in _ (by omega)
            have hw0 : (0 : Int) ≤ (S.la k : Int) + ((D : Nat) : Int) := by omega
            have hwn : ((S.la k : Int) + ((D : Nat) : Int)).toNat = S.la k + (D) := by omega
            have hwl : (S.la k : Int) + ((D : Nat) : Int) ≤ ((S.by_ k).length : Int) := by omega
            go_region
            clear hw hw0 hwn hwl
            have hml : min (S.la k + (D)) (S.by_ k).length = S.la k + (D) := by omega
            go_wp2_with fail
            go_roundw
            case rel => exact ⟨k + 1, by go_num, by omega, Lib.hid ⟨HD _, gr_own (gr_own (gr_drewN hW.out.2 _) (k * 2) _) (k * 2 + 1) _⟩⟩
            case measure => simp [intOf]; omega
      · have hv : keepN S l k = 0 := by
          unfold keepN
          have : l.getD k 0 = 0 := by
            have : l.length ≤ k := by rw [← Hn.out]; omega
            simp [List.getD, List.getElem?_eq_none this]
          rw [this]; simp
        have HD := HST.out (0) hv
        clear hv HST
        go_wp2_with fail
        have hw : IntKind.i64.wrap ((S.la k : Int) + ((0 : Nat) : Int)) = (S.la k : Int) + ((0 : Nat) : Int) := IntWalk.i64_in _ (by omega)
        have hw0 : (0 : Int) ≤ (S.la k : Int) + ((0 : Nat) : Int) := by omega
        have hwn : ((S.la k : Int) + ((0 : Nat) : Int)).toNat = S.la k + (0) := by omega
        have hwl : (S.la k : Int) + ((0 : Nat) : Int) ≤ ((S.by_ k).length : Int) := by omega
        go_region
        clear hw hw0 hwn hwl
        have hml : min (S.la k + (0)) (S.by_ k).length = S.la k + (0) := by omega
        go_wp2_with fail
        go_roundw
        case rel => exact ⟨k + 1, by go_num, by omega, Lib.hid ⟨HD _, gr_own (gr_own (gr_drewN hW.out.2 _) (k * 2) _) (k * 2 + 1) _⟩⟩
        case measure => simp [intOf]; omega
    · obtain rfl : k = 8 := by omega
      have HE := Lib.hid (show Dk wr b (S.crash l) from DS.ext8 hW.out.1 (fun f hf => ⟨by rw [HC.out]; simp [DS.crashTo, hf], by rw [HC.out]; simp [DS.crashTo, hf]⟩) ⟨by rw [HC.out]; rfl, by rw [HC.out]; rfl, by rw [HC.out]; rfl, by rw [HC.out]; rfl⟩)
      go_wp2_with fail
      go_end0
      exact ⟨rfl, HE.out, hW.out.2⟩

end Go.Proofs.Ytnbaalllcddbkaa
