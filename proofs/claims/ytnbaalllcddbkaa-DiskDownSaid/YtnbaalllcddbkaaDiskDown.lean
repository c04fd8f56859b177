/- DiskDown: for all sequences of operations (at most 200, with at most 100000 bytes) and one more operation, calls on a machine that is down return ErrDown and change nothing, and calls with an invalid file number return ErrArg. -/
import Derived.Test.YtnbaalllcddbkaaDiskFew
import Derived.Test.YtnbaalllcddbkaaDisk8
namespace Go.Proofs.Ytnbaalllcddbkaa
open Go.RowKit

/-- Two disks. -/
def TD (a w : World) (b c : Nat) (S T : DS) : Prop := Held a w b S ∧ Held a w c T ∧ b ≠ c
theorem TD.left {a w w' : World} {b c : Nat} {S S' T : DS} (h : TD a w b c S T) (d : Dk w' b S') (o : S'.Ok) (g : w.grownBy w' (some b)) : TD a w' b c S' T :=
  have B := below_gr h.1.1 g h.1.2.2.2 h.1.1.size
  ⟨⟨B, d, o, h.1.2.2.2⟩, ⟨B, h.2.1.2.1.other h.1.2.1 g (Ne.symm h.2.2), h.2.1.2.2.1, h.2.1.2.2.2⟩, h.2.2⟩
theorem TD.right {a w w' : World} {b c : Nat} {S T T' : DS} (h : TD a w b c S T) (d : Dk w' c T') (o : T'.Ok) (g : w.grownBy w' (some c)) : TD a w' b c S T' :=
  have B := below_gr h.1.1 g h.2.1.2.2.2 h.1.1.size
  ⟨⟨B, h.1.2.1.other h.2.1.2.1 g h.2.2, h.1.2.2.1, h.1.2.2.2⟩, ⟨B, d, o, h.2.1.2.2.2⟩, h.2.2⟩
theorem TD.later {a w w' : World} {b c : Nat} {S T : DS} (h : TD a w b c S T) (k : Below w.heap.size w w') : TD a w' b c S T := ⟨h.1.later k, h.2.1.later k, h.2.2⟩
section
variable {a w : World} {b c : Nat} {S T : DS}
theorem td_append (h : TD a w b c S T) (hd : S.down = true) (f : Int) (s : List UInt8) (hs : s.length ≤ 4398046511104) :
    Calls Try.prog 14 #[.pointer (some ⟨b, 0, none⟩), .int .i64 f, .string ⟨s.toArray⟩] w fun e w' => e = .returned (.int .i64 8) ∧ TD a w' b c S T := by
  have e : S.appendS f s = (8, S) := by
    have h1 : S.endsR = false := by unfold DS.endsR; rw [hd]; rfl
    have h2 : S.endsS = S := by unfold DS.endsS; rw [if_pos (.inl hd)]
    have h3 : S.mayR [f] = 8 := by unfold DS.mayR; rw [if_pos hd]
    have h4 : S.appE f s = 8 := by unfold DS.appE; rw [h3, if_neg (by simp)]
    unfold DS.appendS
    rw [h1, if_neg (by decide), h2, h4]
    unfold DS.appS
    rw [h4, if_neg (by decide)]
  refine (append_any b S f s w h.1.2.1 h.1.2.2.1 hs).mono fun _ _ ⟨h1, h2, h3⟩ => ?_
  rw [e] at h1 h2
  exact ⟨h1, h.left h2 h.1.2.2.1 h3⟩
theorem tick_down (hd : S.down = true) : S.tick = S := by
  unfold DS.tick DS.endsR DS.endsS
  rw [hd]; simp
theorem td_flush (h : TD a w b c S T) (hd : S.down = true) (f : Int) :
    Calls Try.prog 15 #[.pointer (some ⟨b, 0, none⟩), .int .i64 f] w fun e w' => e = .returned (.int .i64 8) ∧ TD a w' b c S T := by
  have e : S.flushS f = (8, S) := by
    have h3 : S.mayR [f] = 8 := by unfold DS.mayR; rw [if_pos hd]
    unfold DS.flushS
    rw [tick_down hd, h3, if_pos (by decide)]
  refine (flush_any b S f w h.1.2.1 h.1.2.2.1).mono fun _ _ ⟨h1, h2, h3⟩ => ?_
  rw [e] at h1 h2
  exact ⟨h1, h.left h2 h.1.2.2.1 h3⟩
theorem td_cut (h : TD a w b c S T) (hd : S.down = true) (f n : Int) :
    Calls Try.prog 29 #[.pointer (some ⟨b, 0, none⟩), .int .i64 f, .int .i64 n] w fun e w' => e = .returned (.int .i64 8) ∧ TD a w' b c S T := by
  have e : S.cutS f n = (8, S) := by
    have h3 : S.mayR [f] = 8 := by unfold DS.mayR; rw [if_pos hd]
    unfold DS.cutS
    rw [tick_down hd, h3, if_pos (by decide)]
  refine (cut_any b S f n w h.1.2.1 h.1.2.2.1).mono fun _ _ ⟨h1, h2, h3⟩ => ?_
  rw [e] at h1 h2
  exact ⟨h1, h.left h2 h.1.2.2.1 h3⟩
theorem td_turn (h : TD a w b c S T) (hd : S.down = true) (f g : Int) :
    Calls Try.prog 16 #[.pointer (some ⟨b, 0, none⟩), .int .i64 f, .int .i64 g] w fun e w' => e = .returned (.int .i64 8) ∧ TD a w' b c S T := by
  have e : S.turnS f g = (8, S) := by
    have h3 : S.mayR [f, g] = 8 := by unfold DS.mayR; rw [if_pos hd]
    unfold DS.turnS
    rw [tick_down hd, h3, if_pos (by decide)]
  refine (turn_any b S f g w h.1.2.1 h.1.2.2.1).mono fun _ _ ⟨h1, h2, h3⟩ => ?_
  rw [e] at h1 h2
  exact ⟨h1, h.left h2 h.1.2.2.1 h3⟩
theorem td_readL (h : TD a w b c S T) (f : Int) {x : List UInt8} {r : Int} (e : ReadsF S f = (x, r)) :
    Calls Try.prog 19 #[.pointer (some ⟨b, 0, none⟩), .int .i64 f] w fun e w' => e = .returned (.tuple #[.string ⟨x.toArray⟩, .int .i64 r]) ∧ TD a w' b c S T := by
  refine (read_any b S f w h.1.2.1).mono fun _ _ ⟨h1, h2⟩ => ?_
  rw [e] at h1
  exact ⟨h1, h.later h2⟩
theorem td_readR (h : TD a w b c S T) (f : Int) {x : List UInt8} {r : Int} (e : ReadsF T f = (x, r)) :
    Calls Try.prog 19 #[.pointer (some ⟨c, 0, none⟩), .int .i64 f] w fun e w' => e = .returned (.tuple #[.string ⟨x.toArray⟩, .int .i64 r]) ∧ TD a w' b c S T := by
  refine (read_any c T f w h.2.1.2.1).mono fun _ _ ⟨h1, h2⟩ => ?_
  rw [e] at h1
  exact ⟨h1, h.later h2⟩
theorem td_startL (h : TD a w b c S T) : Calls Try.prog 18 #[.pointer (some ⟨b, 0, none⟩)] w fun e w' => e = .returned (.tuple #[]) ∧ TD a w' b c { S with down := false } T :=
  (start_any b S w h.1.2.1).mono fun _ _ ⟨h1, h2, h3⟩ => ⟨h1, h.left h2 h.1.2.2.1 h3⟩
theorem td_startR (h : TD a w b c S T) : Calls Try.prog 18 #[.pointer (some ⟨c, 0, none⟩)] w fun e w' => e = .returned (.tuple #[]) ∧ TD a w' b c S { T with down := false } :=
  (start_any c T w h.2.1.2.1).mono fun _ _ ⟨h1, h2, h3⟩ => ⟨h1, h.right h2 h.2.1.2.2.1 h3⟩
theorem td_copy (h : Held a w b S) : Calls Try.prog 22 #[.pointer (some ⟨b, 0, none⟩)] w fun e w' => e = .returned (.pointer (some ⟨w.heap.size, 0, none⟩)) ∧ TD a w' b w.heap.size S S :=
  (copy_any b S w h.2.1).mono fun _ _ ⟨h1, h2, h3⟩ => ⟨h1, h.later h3, ⟨h.1.trans (h3.mono h.1.size), h2, h.2.2.1, h.1.size⟩, by have := h.2.1.lt; omega⟩
end

/-- What the calls with an invalid file do to a disk that is up. -/
theorem no_append {S : DS} (h : S.Up) {f : Int} (hf : isB f = false) (s : List UInt8) : S.appendS f s = (1, S) := by
  have h3 : S.mayR [f] = 1 := by unfold DS.mayR; rw [if_neg (by rw [h.1]; decide), if_neg (by simp [hf])]
  have h4 : S.appE f s = 1 := by unfold DS.appE; rw [h3, if_neg (by simp)]
  unfold DS.appendS
  rw [endsR_no h, if_neg (by decide), endsS_up h, h4]
  unfold DS.appS
  rw [h4, if_neg (by decide)]
theorem no_flush {S : DS} (h : S.Up) {f : Int} (hf : isB f = false) : S.flushS f = (1, S) := by
  have h3 : S.mayR [f] = 1 := by unfold DS.mayR; rw [if_neg (by rw [h.1]; decide), if_neg (by simp [hf])]
  unfold DS.flushS
  rw [tick_up h, h3, if_pos (by decide)]
theorem no_cut {S : DS} (h : S.Up) {f : Int} (hf : isB f = false) (n : Int) : S.cutS f n = (1, S) := by
  have h3 : S.mayR [f] = 1 := by unfold DS.mayR; rw [if_neg (by rw [h.1]; decide), if_neg (by simp [hf])]
  unfold DS.cutS
  rw [tick_up h, h3, if_pos (by decide)]
theorem no_turn {S : DS} (h : S.Up) {f g : Int} (hf : isB f = false ∨ isB g = false) : S.turnS f g = (1, S) := by
  have h3 : S.mayR [f, g] = 1 := by unfold DS.mayR; rw [if_neg (by rw [h.1]; decide), if_neg (by rcases hf with hf | hf <;> simp [hf])]
  unfold DS.turnS
  rw [tick_up h, h3, if_pos (by decide)]

theorem crash_is_down (S : DS) (k : List Int) : (S.crash k).down = true := by
  unfold DS.crash; split
  · assumption
  · rfl
theorem reads_down {S : DS} (h : S.down = true) (f : Int) : ReadsF S f = ([], 8) := by
  have h3 : S.mayR [f] = 8 := by unfold DS.mayR; rw [if_pos h]
  unfold ReadsF; rw [h3, if_pos (by decide)]
theorem arm_up (S : DS) : ({ S.arm 0 [] with down := false } : DS).Up := ⟨rfl, by simp [DS.arm]⟩

set_option maxRecDepth 100000 in
set_option maxHeartbeats 8000000 in
theorem down_main (A : Option Addr) (c N : Nat) (l : List Act) (x : Act) (w : World) (hrow : Acts w A l) (hN : N = l.length) (hfew : fewB l = true) (hx : x.Came) (hxs : x.s.length ≤ 100000) :
    Calls Try.prog 7 #[.slice A N c, .agg x.cells] w fun e w' => e = .returned (.bool true) ∧ Below w.heap.size w w' := by
  obtain ⟨hl200, hsm⟩ := few_ok hfew
  rw [← hN] at hl200
  have BA := Lib.hid ((Below.refl w.heap.size w).alloc (Nat.le_refl _) (.cells x.cells 41))
  have XB := Blk.new w 41 x.cells
  have HR := Lib.hid (show Acts (w.alloc (.cells x.cells 41)) A l from ⟨fun y hy => ⟨(hrow.1 y hy).1.later BA.out, (hrow.1 y hy).2⟩, fun h0 => by
    obtain ⟨b, off, e, hb, hc⟩ := hrow.2 h0
    exact ⟨b, off, e, Nat.lt_of_lt_of_le hb BA.out.size, fun i h j hj => (BA.out.cell (p := ⟨b, off + (i * 6 + j), none⟩) hb).trans (hc i h j hj)⟩⟩)
  have HN := Lib.hid hN
  have HS := Lib.hid hsm
  have CX := Lib.hid (fun (w' : World) (b : Below (w.alloc (.cells x.cells 41)).heap.size (w.alloc (.cells x.cells 41)) w') => (⟨(XB.below b XB.lt).cell 1, (XB.below b XB.lt).cell 2, (XB.below b XB.lt).cell 3, (XB.below b XB.lt).cell 4⟩ : w'.cell? ⟨w.heap.size, 1, none⟩ = some (.int .i64 x.f) ∧ w'.cell? ⟨w.heap.size, 2, none⟩ = some (.int .i64 x.g) ∧ w'.cell? ⟨w.heap.size, 3, none⟩ = some (.int .i64 x.n) ∧ w'.cell? ⟨w.heap.size, 4, none⟩ = some (.string ⟨x.s.toArray⟩)))
  have FW := Lib.hid (fun (w1 : World) (hr : Acts w1 A l) => few_any A c N l w1 hr hN (by omega))
  rw [hfew] at FW
  have HX := Lib.hid hx
  have hbx : (w.alloc (.cells x.cells 41)).heap.size = w.heap.size + 1 := by simp
  clear hrow hN hfew hsm hx XB
  unfold Act.cells at *
  generalize hA0 : w.alloc (.cells #[.int .i64 x.kd, .int .i64 x.f, .int .i64 x.g, .int .i64 x.n, .string ⟨x.s.toArray⟩, .slice x.A x.kp.length x.c] 41) = a at *
  go_enter Try.func7, Try.ntmps7
  go_wp2_with fail
  clear hA0
  refine (small9_any _).mono ?_; rintro e w1 ⟨rfl, b1⟩
  go_wp2_with fail
  refine (new_at a _ b1).mono ?_; rintro e w2 ⟨rfl, h2⟩
  generalize w1.heap.size = b at h2 ⊢
  have ACT := Lib.hid (show Acts w2 A l from ⟨fun y hy => ⟨(HR.out.1 y hy).1.later h2.1, (HR.out.1 y hy).2⟩, fun h0 => by
    obtain ⟨bb, off, e, hb, hc⟩ := HR.out.2 h0
    exact ⟨bb, off, e, Nat.lt_of_lt_of_le hb h2.1.size, fun i h j hj => (h2.1.cell (p := ⟨bb, off + (i * 6 + j), none⟩) hb).trans (hc i h j hj)⟩⟩)
  go_wp2_with fail
  refine (FW.out _ ACT.out).mono ?_; rintro e w3 ⟨rfl, b3⟩
  have H3 := Lib.hid (h2.later b3)
  clear b1 h2 b3 ACT FW
  obtain ⟨k1, k2, k3, k4⟩ := CX.out _ H3.out.1
  go_wp2_with fail
  clear k1 k2 k3 k4
  go_loopw [7] (fun i wr => ∃ (k : Nat) (S : DS), i = .int .i64 k ∧ k ≤ N ∧ Hid (Held a wr b S)) (fun i _ => N - (intOf i).toNat)
  case atStart => exact ⟨0, _, rfl, by omega, H3⟩
  case round =>
    obtain ⟨k, S, rfl, hk, HH⟩ := hrel
    clear H3
    by_cases hlt : k < N
    · have hk1 : k < l.length := by rw [← HN.out]; exact hlt
      obtain ⟨bk, o1, y, rfl, HY, hbk, hat, hcame, c0, c1, c2, c3, c4, c5⟩ := HR.out.get hk1 HH.out.1
      have hys := HS.out y (by rw [← HY.out]; exact List.getElem_mem hk1)
      have D := Lib.hid (do_any HH.out hat (by omega) (by omega) hcame.2.1.2)
      clear hat hcame hys
      unfold Act.cells at D
      simp only [← Nat.add_assoc] at c1 c2 c3 c4 c5
      go_wp2_with fail
      refine D.out.mono ?_; rintro e w4 ⟨rfl, h4⟩
      have H4 := Lib.hid h4
      clear h4 c0 c1 c2 c3 c4 c5
      go_wp2_with fail
      go_roundw
      case rel => exact ⟨k + 1, _, by go_num, by omega, H4⟩
      case measure => simp [intOf]; omega
    · go_wp2_with fail
      refine (arm_at HH.out 0 none 0 0 [] (Row.nil _ _ _) rfl (by decide) (by decide)).mono ?_; rintro e w4 ⟨rfl, h4⟩
      go_wp2_with fail
      refine (start_at h4).mono ?_; rintro e w5 ⟨rfl, h5⟩
      have UP := Lib.hid (arm_up S)
      have H5 := Lib.hid h5
      clear h4 h5 HH hlt
      generalize ({ S.arm 0 [] with down := false } : DS) = S1 at *
      have hbad : (isB x.f = false ∧ (x.f < 0 ∨ ¬ x.f < 0 ∧ 7 < x.f)) ∨ (¬ x.f < 0 ∧ ¬ 7 < x.f) := by
        by_cases h1 : x.f < 0
        · exact .inl ⟨by simp [isB]; omega, .inl h1⟩
        · by_cases h2 : 7 < x.f
          · exact .inl ⟨by simp [isB]; omega, .inr ⟨h1, h2⟩⟩
          · exact .inr ⟨h1, h2⟩
      have KEY : Hid (∀ w6, Held a w6 b S1 → True) := Lib.hid fun _ _ => trivial
      rcases hbad with ⟨hB, hF | ⟨hF, hF2⟩⟩ | ⟨hF, hF2⟩
      · have HB := Lib.hid hB
        clear hB
        obtain ⟨k1, k2, k3, k4⟩ := CX.out _ H5.out.1
        go_wp2_with fail
        refine (append_at H5.out x.f x.s (by omega) (no_append UP.out HB.out x.s)).mono ?_; rintro e w6 ⟨rfl, h6⟩
        clear k1 k2 k3 k4
        obtain ⟨k1, k2, k3, k4⟩ := CX.out _ h6.1
        go_wp2_with fail
        refine (flush_at h6 x.f (no_flush UP.out HB.out)).mono ?_; rintro e w7 ⟨rfl, h7⟩
        clear k1 k2 k3 k4 h6
        obtain ⟨k1, k2, k3, k4⟩ := CX.out _ h7.1
        go_wp2_with fail
        refine (cut_at h7 x.f 0 (no_cut UP.out HB.out 0)).mono ?_; rintro e w8 ⟨rfl, h8⟩
        clear k1 k2 k3 k4 h7
        obtain ⟨k1, k2, k3, k4⟩ := CX.out _ h8.1
        go_wp2_with fail
        refine (turn_at h8 x.f 1 (no_turn UP.out (.inl HB.out))).mono ?_; rintro e w9 ⟨rfl, h9⟩
        clear k1 k2 k3 k4 h8
        obtain ⟨k1, k2, k3, k4⟩ := CX.out _ h9.1
        go_wp2_with fail
        refine (turn_at h9 1 x.f (no_turn UP.out (.inr HB.out))).mono ?_; rintro e w10 ⟨rfl, h10⟩
        clear k1 k2 k3 k4 h9
        obtain ⟨k1, k2, k3, k4⟩ := CX.out _ h10.1
        go_wp2_with fail
        refine (size_out b x.f _ (by omega)).mono ?_; rintro e w11 ⟨rfl, rfl⟩
        go_wp2_with fail
        have H6 := Lib.hid h10
        clear k1 k2 k3 k4 h10 H5
        refine (crash_nil H6.out).mono ?_; rintro e w12 ⟨rfl, h12⟩
        have DN := Lib.hid (crash_is_down S1 [])
        have H12 := Lib.hid h12
        clear h12 H6
        generalize S1.crash [] = S2 at *
        go_wp2_with fail
        refine (td_copy H12.out).mono ?_; rintro e w13 ⟨rfl, t13⟩
        generalize w12.heap.size = cc at t13 ⊢
        clear H12
        go_wp2_with fail
        refine (td_startR t13).mono ?_; rintro e w14 ⟨rfl, t14⟩
        clear t13
        obtain ⟨k1, k2, k3, k4⟩ := CX.out _ t14.1.1
        go_wp2_with fail
        refine (td_readL t14 x.f (reads_down DN.out x.f)).mono ?_; rintro e w15 ⟨rfl, t15⟩
        clear t14 k1 k2 k3 k4
        go_wp2_with fail
        have t16 := t15.later ((Below.refl _ _).alloc (Nat.le_refl _) (.cells #[.int .i64 1, .int .i64 1] 3))
        refine (crash_down b S2 _ _ t16.1.2.1 DN.out).mono ?_; rintro e w16 ⟨rfl, rfl⟩
        have T16 := Lib.hid t16
        clear t15 t16
        obtain ⟨k1, k2, k3, k4⟩ := CX.out _ T16.out.1.1
        go_wp2_with fail
        refine (td_append T16.out DN.out x.f x.s (by omega)).mono ?_; rintro e w17 ⟨rfl, t17⟩
        clear T16 k1 k2 k3 k4
        obtain ⟨k1, k2, k3, k4⟩ := CX.out _ t17.1.1
        go_wp2_with fail
        refine (td_flush t17 DN.out x.f).mono ?_; rintro e w18 ⟨rfl, t18⟩
        clear t17 k1 k2 k3 k4
        obtain ⟨k1, k2, k3, k4⟩ := CX.out _ t18.1.1
        go_wp2_with fail
        refine (td_cut t18 DN.out x.f x.n).mono ?_; rintro e w19 ⟨rfl, t19⟩
        clear t18 k1 k2 k3 k4
        obtain ⟨k1, k2, k3, k4⟩ := CX.out _ t19.1.1
        go_wp2_with fail
        refine (td_turn t19 DN.out x.f x.g).mono ?_; rintro e w20 ⟨rfl, t20⟩
        clear t19 k1 k2 k3 k4
        go_wp2_with fail
        refine (down_at t20.1).mono ?_; rintro e w21 ⟨rfl, rfl⟩
        rw [DN.out]
        go_wp2_with fail
        refine (td_startL t20).mono ?_; rintro e w21 ⟨rfl, t21⟩
        have T21 := Lib.hid t21
        clear t20 t21 DN UP KEY
        have HD3 := Lib.hid (show ({ S2 with down := false } : DS).down = false from rfl)
        generalize ({ S2 with down := false } : DS) = S3 at *
        go_wp2_with fail
        go_loopw [11] (fun i wr => ∃ k : Nat, i = .int .i64 k ∧ k ≤ 8 ∧ Hid (TD a wr b cc S3 S3)) (fun i _ => 8 - (intOf i).toNat)
        case atStart => exact ⟨0, rfl, by omega, T21⟩
        case round =>
          obtain ⟨k9, rfl, hk9, HT⟩ := hrel
          clear T21
          by_cases hlt9 : k9 < 8
          · go_wp2_with fail
            refine (td_readL HT.out k9 rfl).mono ?_; rintro e w22 ⟨rfl, t22⟩
            go_wp2_with fail
            refine (td_readR t22 k9 rfl).mono ?_; rintro e w23 ⟨rfl, t23⟩
            have T23 := Lib.hid t23
            clear t22 t23
            generalize ReadsF S3 k9 = R at *
            go_wp2_with fail
            go_roundw
            case rel => exact ⟨k9 + 1, by go_num, by omega, T23⟩
            case measure => simp [intOf]; omega
          · go_wp2_with fail
            refine (down_at HT.out.1).mono ?_; rintro e w22 ⟨rfl, rfl⟩
            rw [HD3.out]
            go_wp2_with fail
            go_ret
            exact ⟨rfl, BA.out.trans (HT.out.1.1.mono (by omega))⟩
      · have HB := Lib.hid hB
        clear hB
        obtain ⟨k1, k2, k3, k4⟩ := CX.out _ H5.out.1
        go_wp2_with fail
        refine (append_at H5.out x.f x.s (by omega) (no_append UP.out HB.out x.s)).mono ?_; rintro e w6 ⟨rfl, h6⟩
        clear k1 k2 k3 k4
        obtain ⟨k1, k2, k3, k4⟩ := CX.out _ h6.1
        go_wp2_with fail
        refine (flush_at h6 x.f (no_flush UP.out HB.out)).mono ?_; rintro e w7 ⟨rfl, h7⟩
        clear k1 k2 k3 k4 h6
        obtain ⟨k1, k2, k3, k4⟩ := CX.out _ h7.1
        go_wp2_with fail
        refine (cut_at h7 x.f 0 (no_cut UP.out HB.out 0)).mono ?_; rintro e w8 ⟨rfl, h8⟩
        clear k1 k2 k3 k4 h7
        obtain ⟨k1, k2, k3, k4⟩ := CX.out _ h8.1
        go_wp2_with fail
        refine (turn_at h8 x.f 1 (no_turn UP.out (.inl HB.out))).mono ?_; rintro e w9 ⟨rfl, h9⟩
        clear k1 k2 k3 k4 h8
        obtain ⟨k1, k2, k3, k4⟩ := CX.out _ h9.1
        go_wp2_with fail
        refine (turn_at h9 1 x.f (no_turn UP.out (.inr HB.out))).mono ?_; rintro e w10 ⟨rfl, h10⟩
        clear k1 k2 k3 k4 h9
        obtain ⟨k1, k2, k3, k4⟩ := CX.out _ h10.1
        go_wp2_with fail
        refine (size_out b x.f _ (by omega)).mono ?_; rintro e w11 ⟨rfl, rfl⟩
        go_wp2_with fail
        have H6 := Lib.hid h10
        clear k1 k2 k3 k4 h10 H5
        refine (crash_nil H6.out).mono ?_; rintro e w12 ⟨rfl, h12⟩
        have DN := Lib.hid (crash_is_down S1 [])
        have H12 := Lib.hid h12
        clear h12 H6
        generalize S1.crash [] = S2 at *
        go_wp2_with fail
        refine (td_copy H12.out).mono ?_; rintro e w13 ⟨rfl, t13⟩
        generalize w12.heap.size = cc at t13 ⊢
        clear H12
        go_wp2_with fail
        refine (td_startR t13).mono ?_; rintro e w14 ⟨rfl, t14⟩
        clear t13
        obtain ⟨k1, k2, k3, k4⟩ := CX.out _ t14.1.1
        go_wp2_with fail
        refine (td_readL t14 x.f (reads_down DN.out x.f)).mono ?_; rintro e w15 ⟨rfl, t15⟩
        clear t14 k1 k2 k3 k4
        go_wp2_with fail
        have t16 := t15.later ((Below.refl _ _).alloc (Nat.le_refl _) (.cells #[.int .i64 1, .int .i64 1] 3))
        refine (crash_down b S2 _ _ t16.1.2.1 DN.out).mono ?_; rintro e w16 ⟨rfl, rfl⟩
        have T16 := Lib.hid t16
        clear t15 t16
        obtain ⟨k1, k2, k3, k4⟩ := CX.out _ T16.out.1.1
        go_wp2_with fail
        refine (td_append T16.out DN.out x.f x.s (by omega)).mono ?_; rintro e w17 ⟨rfl, t17⟩
        clear T16 k1 k2 k3 k4
        obtain ⟨k1, k2, k3, k4⟩ := CX.out _ t17.1.1
        go_wp2_with fail
        refine (td_flush t17 DN.out x.f).mono ?_; rintro e w18 ⟨rfl, t18⟩
        clear t17 k1 k2 k3 k4
        obtain ⟨k1, k2, k3, k4⟩ := CX.out _ t18.1.1
        go_wp2_with fail
        refine (td_cut t18 DN.out x.f x.n).mono ?_; rintro e w19 ⟨rfl, t19⟩
        clear t18 k1 k2 k3 k4
        obtain ⟨k1, k2, k3, k4⟩ := CX.out _ t19.1.1
        go_wp2_with fail
        refine (td_turn t19 DN.out x.f x.g).mono ?_; rintro e w20 ⟨rfl, t20⟩
        clear t19 k1 k2 k3 k4
        go_wp2_with fail
        refine (down_at t20.1).mono ?_; rintro e w21 ⟨rfl, rfl⟩
        rw [DN.out]
        go_wp2_with fail
        refine (td_startL t20).mono ?_; rintro e w21 ⟨rfl, t21⟩
        have T21 := Lib.hid t21
        clear t20 t21 DN UP KEY
        have HD3 := Lib.hid (show ({ S2 with down := false } : DS).down = false from rfl)
        generalize ({ S2 with down := false } : DS) = S3 at *
        go_wp2_with fail
        go_loopw [11] (fun i wr => ∃ k : Nat, i = .int .i64 k ∧ k ≤ 8 ∧ Hid (TD a wr b cc S3 S3)) (fun i _ => 8 - (intOf i).toNat)
        case atStart => exact ⟨0, rfl, by omega, T21⟩
        case round =>
          obtain ⟨k9, rfl, hk9, HT⟩ := hrel
          clear T21
          by_cases hlt9 : k9 < 8
          · go_wp2_with fail
            refine (td_readL HT.out k9 rfl).mono ?_; rintro e w22 ⟨rfl, t22⟩
            go_wp2_with fail
            refine (td_readR t22 k9 rfl).mono ?_; rintro e w23 ⟨rfl, t23⟩
            have T23 := Lib.hid t23
            clear t22 t23
            generalize ReadsF S3 k9 = R at *
            go_wp2_with fail
            go_roundw
            case rel => exact ⟨k9 + 1, by go_num, by omega, T23⟩
            case measure => simp [intOf]; omega
          · go_wp2_with fail
            refine (down_at HT.out.1).mono ?_; rintro e w22 ⟨rfl, rfl⟩
            rw [HD3.out]
            go_wp2_with fail
            go_ret
            exact ⟨rfl, BA.out.trans (HT.out.1.1.mono (by omega))⟩
      · obtain ⟨k1, k2, k3, k4⟩ := CX.out _ H5.out.1
        go_wp2_with fail
        have H6 := H5
        clear k1 k2 k3 k4 H5
        refine (crash_nil H6.out).mono ?_; rintro e w12 ⟨rfl, h12⟩
        have DN := Lib.hid (crash_is_down S1 [])
        have H12 := Lib.hid h12
        clear h12 H6
        generalize S1.crash [] = S2 at *
        go_wp2_with fail
        refine (td_copy H12.out).mono ?_; rintro e w13 ⟨rfl, t13⟩
        generalize w12.heap.size = cc at t13 ⊢
        clear H12
        go_wp2_with fail
        refine (td_startR t13).mono ?_; rintro e w14 ⟨rfl, t14⟩
        clear t13
        obtain ⟨k1, k2, k3, k4⟩ := CX.out _ t14.1.1
        go_wp2_with fail
        refine (td_readL t14 x.f (reads_down DN.out x.f)).mono ?_; rintro e w15 ⟨rfl, t15⟩
        clear t14 k1 k2 k3 k4
        go_wp2_with fail
        have t16 := t15.later ((Below.refl _ _).alloc (Nat.le_refl _) (.cells #[.int .i64 1, .int .i64 1] 3))
        refine (crash_down b S2 _ _ t16.1.2.1 DN.out).mono ?_; rintro e w16 ⟨rfl, rfl⟩
        have T16 := Lib.hid t16
        clear t15 t16
        obtain ⟨k1, k2, k3, k4⟩ := CX.out _ T16.out.1.1
        go_wp2_with fail
        refine (td_append T16.out DN.out x.f x.s (by omega)).mono ?_; rintro e w17 ⟨rfl, t17⟩
        clear T16 k1 k2 k3 k4
        obtain ⟨k1, k2, k3, k4⟩ := CX.out _ t17.1.1
        go_wp2_with fail
        refine (td_flush t17 DN.out x.f).mono ?_; rintro e w18 ⟨rfl, t18⟩
        clear t17 k1 k2 k3 k4
        obtain ⟨k1, k2, k3, k4⟩ := CX.out _ t18.1.1
        go_wp2_with fail
        refine (td_cut t18 DN.out x.f x.n).mono ?_; rintro e w19 ⟨rfl, t19⟩
        clear t18 k1 k2 k3 k4
        obtain ⟨k1, k2, k3, k4⟩ := CX.out _ t19.1.1
        go_wp2_with fail
        refine (td_turn t19 DN.out x.f x.g).mono ?_; rintro e w20 ⟨rfl, t20⟩
        clear t19 k1 k2 k3 k4
        go_wp2_with fail
        refine (down_at t20.1).mono ?_; rintro e w21 ⟨rfl, rfl⟩
        rw [DN.out]
        go_wp2_with fail
        refine (td_startL t20).mono ?_; rintro e w21 ⟨rfl, t21⟩
        have T21 := Lib.hid t21
        clear t20 t21 DN UP KEY
        have HD3 := Lib.hid (show ({ S2 with down := false } : DS).down = false from rfl)
        generalize ({ S2 with down := false } : DS) = S3 at *
        go_wp2_with fail
        go_loopw [11] (fun i wr => ∃ k : Nat, i = .int .i64 k ∧ k ≤ 8 ∧ Hid (TD a wr b cc S3 S3)) (fun i _ => 8 - (intOf i).toNat)
        case atStart => exact ⟨0, rfl, by omega, T21⟩
        case round =>
          obtain ⟨k9, rfl, hk9, HT⟩ := hrel
          clear T21
          by_cases hlt9 : k9 < 8
          · go_wp2_with fail
            refine (td_readL HT.out k9 rfl).mono ?_; rintro e w22 ⟨rfl, t22⟩
            go_wp2_with fail
            refine (td_readR t22 k9 rfl).mono ?_; rintro e w23 ⟨rfl, t23⟩
            have T23 := Lib.hid t23
            clear t22 t23
            generalize ReadsF S3 k9 = R at *
            go_wp2_with fail
            go_roundw
            case rel => exact ⟨k9 + 1, by go_num, by omega, T23⟩
            case measure => simp [intOf]; omega
          · go_wp2_with fail
            refine (down_at HT.out.1).mono ?_; rintro e w22 ⟨rfl, rfl⟩
            rw [HD3.out]
            go_wp2_with fail
            go_ret
            exact ⟨rfl, BA.out.trans (HT.out.1.1.mono (by omega))⟩

set_option maxRecDepth 100000 in
set_option maxHeartbeats 2000000 in
theorem down_any' (A : Option Addr) (c : Nat) (l : List Act) (x : Act) (w : World) (hrow : Acts w A l) (hl : l.length ≤ maxLen) (hx : x.Came) :
    Calls Try.prog 7 #[.slice A l.length c, .agg x.cells] w fun e w' => e = .returned (.bool true) ∧ Below w.heap.size w w' := by
  by_cases hm : fewB l = true ∧ x.s.length ≤ 100000
  · exact down_main A c _ l x w hrow rfl hm.1 hx hm.2
  · unfold maxLen at hl
    obtain ⟨N, hN⟩ : ∃ N, N = l.length := ⟨_, rfl⟩
    have HM := Lib.hid (show fewB l = false ∨ fewB l = true ∧ 100000 < x.s.length by
      cases hf : fewB l
      · exact .inl rfl
      · exact .inr ⟨rfl, Nat.lt_of_not_le fun h => hm ⟨hf, h⟩⟩)
    have BA := Lib.hid ((Below.refl w.heap.size w).alloc (Nat.le_refl _) (.cells x.cells 41))
    have XB := Blk.new w 41 x.cells
    have HR := Lib.hid (fun (w1 : World) (h : Below w.heap.size w w1) => (show Acts w1 A l from ⟨fun y hy => ⟨(hrow.1 y hy).1.later h, (hrow.1 y hy).2⟩, fun h0 => by
      obtain ⟨bb, off, e, hb, hc⟩ := hrow.2 h0
      exact ⟨bb, off, e, Nat.lt_of_lt_of_le hb h.size, fun i h' j hj => (h.cell (p := ⟨bb, off + (i * 6 + j), none⟩) hb).trans (hc i h' j hj)⟩⟩))
    have FW := Lib.hid (fun (w1 : World) (hr : Acts w1 A l) => few_any A c N l w1 hr hN (by omega))
    have CX := Lib.hid (fun (w' : World) (b : Below (w.alloc (.cells x.cells 41)).heap.size (w.alloc (.cells x.cells 41)) w') => (show w'.cell? ⟨w.heap.size, 4, none⟩ = some (.string ⟨x.s.toArray⟩) from (XB.below b XB.lt).cell 4))
    have hbx : (w.alloc (.cells x.cells 41)).heap.size = w.heap.size + 1 := by simp
    rw [← hN]
    have hxs := hx.2.2.1
    clear hrow hm hN hx XB hl
    unfold Act.cells at *
    generalize hA0 : w.alloc (.cells #[.int .i64 x.kd, .int .i64 x.f, .int .i64 x.g, .int .i64 x.n, .string ⟨x.s.toArray⟩, .slice x.A x.kp.length x.c] 41) = a at *
    go_enter Try.func7, Try.ntmps7
    go_wp2_with fail
    clear hA0
    refine (small9_any _).mono ?_; rintro e w1 ⟨rfl, b1⟩
    go_wp2_with fail
    refine (new_at a _ b1).mono ?_; rintro e w2 ⟨rfl, h2⟩
    generalize w1.heap.size = b at h2 ⊢
    have BB := BA.out.trans (h2.1.mono (by omega))
    go_wp2_with fail
    refine (FW.out _ (HR.out _ BB)).mono ?_; rintro e w3 ⟨rfl, b3⟩
    have H3 := Lib.hid (h2.later b3)
    have k4 := CX.out _ H3.out.1
    clear b1 h2 b3 FW BB
    rcases HM.out with hf | ⟨hf, hlong⟩
    all_goals
      rw [hf]
      have HF := Lib.hid hf
      clear hf
      go_wp2_with fail
      go_ret
      exact ⟨rfl, BA.out.trans (H3.out.1.mono (by omega))⟩

end Go.Proofs.Ytnbaalllcddbkaa
