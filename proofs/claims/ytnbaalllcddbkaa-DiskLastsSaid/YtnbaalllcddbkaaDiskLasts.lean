/- DiskLasts (THE STAGE'S THEOREM): for all sequences of operations (at most 200, with at most 100000 bytes) and final crashes, after every crash each file starts with the bytes of its last successful flush, as truncated or replaced since, and is a prefix of its contents before the crash. -/
import Derived.Test.YtnbaalllcddbkaaDiskActG
import Derived.BigRegion
import Derived.RegionTactic
import Derived.StillTailTactics
namespace Go.Proofs.Ytnbaalllcddbkaa
open Go.RowKit

/-- Eight strings in a block of the law's own. -/
def safeC (SF : Nat → List UInt8) : Array Value := #[.string ⟨(SF 0).toArray⟩, .string ⟨(SF 1).toArray⟩, .string ⟨(SF 2).toArray⟩, .string ⟨(SF 3).toArray⟩, .string ⟨(SF 4).toArray⟩, .string ⟨(SF 5).toArray⟩, .string ⟨(SF 6).toArray⟩, .string ⟨(SF 7).toArray⟩]
def SafeAt (w : World) (g : Nat) (SF : Nat → List UInt8) : Prop := Blk w g 9 (safeC SF)
theorem SafeAt.get {w : World} {g : Nat} {SF : Nat → List UInt8} (h : SafeAt w g SF) {f : Nat} (hf : f < 8) : w.cell? ⟨g, f, none⟩ = some (.string ⟨(SF f).toArray⟩) := by
  rw [Blk.cell h f]
  match f, hf with
  | 0, _ | 1, _ | 2, _ | 3, _ | 4, _ | 5, _ | 6, _ | 7, _ => rfl
theorem SafeAt.set {w : World} {g : Nat} {SF : Nat → List UInt8} (h : SafeAt w g SF) {f : Nat} (hf : f < 8) (x : List UInt8) : SafeAt (w.setCell ⟨g, f, none⟩ (.string ⟨x.toArray⟩)) g (setF SF f x) := by
  have := Blk.set_ h f (.string ⟨x.toArray⟩)
  unfold SafeAt
  have e : (safeC SF).setIfInBounds f (.string ⟨x.toArray⟩) = safeC (setF SF f x) := by
    match f, hf with
    | 0, _ | 1, _ | 2, _ | 3, _ | 4, _ | 5, _ | 6, _ | 7, _ => rfl
  rw [← e]; exact this
theorem Dk.far {w w' : World} {b g : Nat} {S : DS} {t : TypeId} {cs : Array Value} (h : Dk w b S) (h' : Blk w g t cs) (ht : 3 ≠ t) (hne : b ≠ g) (k : w.grownBy w' (some g)) : Dk w' b S := by
  obtain ⟨cs', A, c, hb, hc, ho⟩ := h
  exact ⟨cs', A, c, hb.grown k (by simp [hne]), hc, ho.kept k fun g' hA => by have := own_ne ho h' ht g' hA; simpa using this⟩
theorem Held.far {a w w' : World} {b g : Nat} {S : DS} {t : TypeId} {cs : Array Value} (h : Held a w b S) (h' : Blk w g t cs) (ht : 3 ≠ t) (hne : b ≠ g) (hg : a.heap.size ≤ g) (k : w.grownBy w' (some g)) : Held a w' b S :=
  ⟨below_gr h.1 k hg h.1.size, h.2.1.far h' ht hne k, h.2.2.1, h.2.2.2⟩
/-- The disk and the law's notes. -/
def LS (a w : World) (b g : Nat) (SF : Nat → List UInt8) (S : DS) : Prop := Held a w b S ∧ SafeAt w g SF ∧ a.heap.size ≤ g ∧ b ≠ g
section
variable {a w w' : World} {b g : Nat} {SF : Nat → List UInt8} {S S' : DS}
theorem LS.disk (h : LS a w b g SF S) (k : HeldG a w w' b S') : LS a w' b g SF S' := ⟨k.1, Blk.grown h.2.1 k.2 (by simp; exact Ne.symm h.2.2.2), h.2.2⟩
theorem LS.later (h : LS a w b g SF S) (k : Below w.heap.size w w') : LS a w' b g SF S := ⟨h.1.later k, Blk.later h.2.1 k, h.2.2⟩
theorem LS.store (h : LS a w b g SF S) {f : Nat} (hf : f < 8) (x : List UInt8) : LS a (w.setCell ⟨g, f, none⟩ (.string ⟨x.toArray⟩)) b g (setF SF f x) S :=
  ⟨h.1.far h.2.1 (by decide) h.2.2.2 h.2.2.1 (gr_own (gr_refl w _) f _), h.2.1.set hf x, h.2.2⟩
theorem LS.hg (h : LS a w b g SF S) : HeldG a w w b S := ⟨h.1, gr_refl w _⟩
theorem LS.blk {q : Nat} {t : TypeId} {cs : Array Value} (h : LS a w b g SF S) (hq : Blk w q t cs) (k : HeldG a w w' b S') (hne : q ≠ b) : Blk w' q t cs := hq.grown k.2 (by simp [hne])
theorem LS.drew (h : LS a w b g SF S) : LS a w.drew b g SF S := h.later ⟨rfl, rfl, rfl, Nat.le_refl _, fun _ _ => rfl⟩
theorem LS.drewN (h : LS a w b g SF S) (n : Nat) : LS a (w.drewN n) b g SF S := h.later ⟨rfl, rfl, rfl, Nat.le_refl _, fun _ _ => rfl⟩
end
theorem six_cells {w : World} {b : Nat} {t : TypeId} {v0 v1 v2 v3 v4 v5 : Value} (h : Blk w b t #[v0, v1, v2, v3, v4, v5]) : w.cell? ⟨b, 0, none⟩ = some v0 ∧ w.cell? ⟨b, 1, none⟩ = some v1 ∧ w.cell? ⟨b, 2, none⟩ = some v2 ∧
    w.cell? ⟨b, 3, none⟩ = some v3 ∧ w.cell? ⟨b, 4, none⟩ = some v4 ∧ w.cell? ⟨b, 5, none⟩ = some v5 := ⟨h.cell 0, h.cell 1, h.cell 2, h.cell 3, h.cell 4, h.cell 5⟩
theorem restart_inv {S : DS} (h : Settled S) : Inv S.by_ (({ S with down := false } : DS).crash []) := by
  refine ⟨fun f hf => ?_, fun _ => settled_crash (fun hd => by cases hd) []⟩
  have h1 := h f hf
  unfold DS.crash
  rw [if_neg (by simp)]
  show S.by_ f <+: ((S.by_ f).take _).take _
  rw [List.take_take, List.take_of_length_le (by simp only; omega)]
  exact List.prefix_rfl
theorem ls_down {a w : World} {b g : Nat} {SF : Nat → List UInt8} {S : DS} (h : LS a w b g SF S) : Calls Try.prog 24 #[.pointer (some ⟨b, 0, none⟩)] w fun e w' => e = .returned (.bool S.down) ∧ LS a w' b g SF S :=
  (down_at h.1).mono fun _ _ ⟨h1, h2⟩ => ⟨h1, h2 ▸ h⟩
theorem read_now {S : DS} (h : S.down = false) {f : Nat} (hf : f < 8) : ReadsF S (f : Int) = (S.by_ f, 0) := read_up h hf

set_option maxRecDepth 100000 in
set_option maxHeartbeats 16000000 in
theorem lasts_main (A : Option Addr) (c N : Nat) (l : List Act) (D : Option Addr) (dc M : Nat) (kp : List Int) (w : World) (hrow : Acts w A l) (hN : N = l.length) (hfew : fewB l = true) (hkp : Row w w.heap.size D (i64s kp)) (hM : M = kp.length) (hMl : M ≤ 9223372036854775807) :
    Calls Try.prog 5 #[.slice A N c, .slice D M dc] w fun e w' => e = .returned (.bool true) ∧ Below w.heap.size w w' := by
  obtain ⟨hl200, hsm⟩ := few_ok hfew
  rw [← hN] at hl200
  have FW := Lib.hid (fun (w1 : World) (hr : Acts w1 A l) => few_any A c N l w1 hr hN (by omega))
  rw [hfew] at FW
  have HR := Lib.hid hrow
  have HN := Lib.hid hN
  have HS := Lib.hid hsm
  have HKP := Lib.hid hkp
  have HM := Lib.hid hM
  have hmk : ∀ w, (Instr.makeSlice 39 (.int .i64 8) (.int .i64 8)).run Try.prog w = .ok (.slice (some ⟨w.heap.size, 0, none⟩) 8 8) (w.alloc (.cells (safeC fun _ => []) 9)) := fun _ => by kernel_rfl
  have MK := Lib.hid hmk
  clear hfew hsm hN hrow hkp hM hmk
  go_enter Try.func5, Try.ntmps5
  go_wp2_with fail
  refine (small9_any _).mono ?_; rintro e w1 ⟨rfl, b1⟩
  go_wp2_with fail
  refine (new_at w _ b1).mono ?_; rintro e w2 ⟨rfl, h2⟩
  generalize w1.heap.size = b at h2 ⊢
  have ACT := Lib.hid (show Acts w2 A l from ⟨fun y hy => ⟨(HR.out.1 y hy).1.later h2.1, (HR.out.1 y hy).2⟩, fun h0 => by
    obtain ⟨bb, off, e, hb, hc⟩ := HR.out.2 h0
    exact ⟨bb, off, e, Nat.lt_of_lt_of_le hb h2.1.size, fun i h j hj => (h2.1.cell (p := ⟨bb, off + (i * 6 + j), none⟩) hb).trans (hc i h j hj)⟩⟩)
  go_wp2_with fail
  refine (FW.out _ ACT.out).mono ?_; rintro e w3 ⟨rfl, b3⟩
  have H3 := h2.later b3
  have L4 := Lib.hid (show LS w (w3.alloc (.cells (safeC fun _ => []) 9)) b w3.heap.size (fun _ => []) DS.init from ⟨H3.alloc _, Blk.new _ _ _, H3.1.size, by have := H3.2.1.lt; omega⟩)
  clear b1 h2 b3 H3 FW ACT
  have hmk := MK.out
  go_wp2_with fail
  clear hmk
  have I0 := Lib.hid (show Inv (fun _ => []) DS.init from ⟨fun f _ => List.nil_prefix, fun hd => by cases hd⟩)
  generalize w3.heap.size = g at *
  unfold safeC at L4
  go_loopw [8] (fun i wr => ∃ (k : Nat) (SF : Nat → List UInt8) (S : DS), i = .int .i64 k ∧ k ≤ N ∧ Hid (LS w wr b g SF S ∧ Inv SF S)) (fun i _ => N - (intOf i).toNat)
  case atStart => exact ⟨0, _, _, rfl, by omega, Lib.hid ⟨L4.out, I0.out⟩⟩
  case round =>
    obtain ⟨k, SF, S, rfl, hk, HL⟩ := hrel
    clear L4 I0
    by_cases hlt : k < N
    · have hk1 : k < l.length := by rw [← HN.out]; exact hlt
      obtain ⟨bk, o1, y, rfl, HY, hbk, hat, hcame, c0, c1, c2, c3, c4, c5⟩ := HR.out.get hk1 HL.out.1.1.1
      simp only [← Nat.add_assoc] at c1 c2 c3 c4 c5
      have hys := HS.out y (by rw [← HY.out]; exact List.getElem_mem hk1)
      have LA := Lib.hid (HL.out.1.later ((Below.refl _ _).alloc (Nat.le_refl _) (.cells y.cells 41)))
      have YB0 := Lib.hid (Blk.new wr 41 y.cells)
      have hqb : wr.heap.size ≠ b := by have := HL.out.1.1.2.1.lt; omega
      have hqg : wr.heap.size ≠ g := by have := Blk.lt HL.out.1.2.1; omega
      have D0 := Lib.hid (do_anyG LA.out.1 hat (by omega) (by omega) hcame.2.1.2)
      have NI := Lib.hid (note_inv (x := y) HL.out.2 HL.out.1.1.2.2.1)
      have NF := Lib.hid (note_files (x := y) HL.out.2)
      have PK := Lib.hid (fun w => pick_any y.kd w)
      have DN0 := Lib.hid (down_at LA.out.1)
      unfold DoEndG at D0
      clear hat hcame hys HY
      unfold Act.cells at D0 LA YB0 DN0
      generalize hR : doS S y = R at *
      obtain ⟨⟨xs, r⟩, S'⟩ := R
      simp only at D0 NI NF
      go_wp2_with fail
      refine DN0.out.mono ?_; rintro e w5 ⟨rfl, rfl⟩
      go_wp2_with fail
      refine D0.out.mono ?_; rintro e w6 ⟨rfl, h6⟩
      have YB := Lib.hid (LA.out.blk YB0.out h6 hqb)
      have L6 := Lib.hid (LA.out.disk h6)
      clear h6 D0 LA YB0 DN0 c0 c1 c2 c3 c4 c5
      generalize wr.heap.size = q at *
      obtain ⟨k0, k1, k2, k3, k4, k5⟩ := six_cells YB.out
      go_wp2_with fail
      refine (PK.out _).mono ?_; rintro e w7 ⟨rfl, rfl⟩
      have hcls : (pickS y.kd = 2 ∧ r = 0) ∨ (pickS y.kd = 3 ∧ r = 0 ∧ y.n < ((SF y.f.toNat).length : Int)) ∨ (pickS y.kd = 3 ∧ r = 0 ∧ ¬ y.n < ((SF y.f.toNat).length : Int)) ∨ (pickS y.kd = 4 ∧ r = 0) ∨
          (pickS y.kd = 2 ∧ r ≠ 0) ∨ (pickS y.kd = 3 ∧ r ≠ 0) ∨ (pickS y.kd = 4 ∧ r ≠ 0) ∨ (pickS y.kd ≠ 2 ∧ pickS y.kd ≠ 3 ∧ pickS y.kd ≠ 4) := by omega
      rcases hcls with ⟨hp, hr⟩ | ⟨hp, hr, hlen⟩ | ⟨hp, hr, hlen⟩ | ⟨hp, hr⟩ | ⟨hp, hr⟩ | ⟨hp, hr⟩ | ⟨hp, hr⟩ | ⟨hp2, hp3, hp4⟩
      · as_aux_lemma =>
          rw [hp]
          subst hr
          obtain ⟨⟨hf0, hf8⟩, hdn0⟩ := (NF.out (by first | rfl | simp)).1 hp
          obtain ⟨f, hf⟩ : ∃ f : Nat, y.f = (f : Int) := ⟨y.f.toNat, by omega⟩
          have hf7 : f < 8 := by omega
          have RD := Lib.hid (show ReadsF S' (f : Int) = (S'.by_ f, 0) from read_now hdn0 hf7)
          have HF := Lib.hid hf
          have HP := Lib.hid hp
          rw [hf] at k1
          clear hf0 hf8 hdn0 hf hp
          go_wp2_with fail
          refine (read_atg L6.out.hg f RD.out).mono ?_; rintro e w8 ⟨rfl, h8⟩
          have YB8 := Lib.hid (L6.out.blk YB.out h8 hqb)
          have L8 := Lib.hid (L6.out.disk h8)
          have s1 := L8.out.2.1.get hf7
          have z1 := Blk.frozen L8.out.2.1 f
          clear h8 k0 k1 k2 k3 k4 k5
          obtain ⟨k0, k1, k2, k3, k4, k5⟩ := six_cells YB8.out
          rw [HF.out] at k1
          have L7 := Lib.hid (L8.out.store hf7 (S'.by_ f))
          have HI := Lib.hid (show Inv (setF SF f (S'.by_ f)) S' by have := NI.out; unfold note at this; rw [if_pos ⟨HP.out, rfl⟩, HF.out] at this; exact this)
          clear NI NF hR
          cases hup : S.down
          · cases hdn : S'.down
            · have HD := Lib.hid hdn
              clear hup hdn
              go_wp2_with fail
              clear s1 z1
              go_quiet (fail)
              go_wp2_with fail
              refine (ls_down (L7.out.drewN _)).mono ?_; rintro e w9 ⟨rfl, l9⟩
              have L9 := Lib.hid l9
              clear l9
              rw [HD.out]
              go_wp2_with fail
              go_roundw
              case rel => exact ⟨k + 1, _, _, by go_num, by omega, Lib.hid ⟨L9.out, HI.out⟩⟩
              case measure => simp [intOf]; omega
            · have HD := Lib.hid hdn
              have ST := Lib.hid (HI.out.2 hdn)
              clear hup hdn
              go_wp2_with fail
              clear s1 z1
              go_quiet (fail)
              go_wp2_with fail
              refine (ls_down (L7.out.drewN _)).mono ?_; rintro e w9 ⟨rfl, l9⟩
              have L9 := Lib.hid l9
              clear l9
              rw [HD.out]
              go_wp2_with fail
              refine (start_atg L9.out.hg).mono ?_; rintro e w10 ⟨rfl, h10⟩
              have L10 := Lib.hid (L9.out.disk h10)
              clear h10 L9 L7
              go_wp2_with fail
              go_loopw [16] (fun i wr => ∃ (j : Nat) (SJ : Nat → List UInt8), i = .int .i64 j ∧ j ≤ 8 ∧ Hid (LS w wr b g SJ { S' with down := false }) ∧ Hid (∀ jj, jj < 8 → SJ jj = if jj < j then S'.by_ jj else (setF SF f (S'.by_ f)) jj)) (fun i _ => 8 - (intOf i).toNat)
              case atStart => exact ⟨0, _, rfl, by omega, L10, Lib.hid (fun jj _ => by simp)⟩
              case round =>
                obtain ⟨j, SJ, rfl, hj, HJ, HE⟩ := hrel
                clear L10
                by_cases hlj : j < 8
                · have RD := Lib.hid (show ReadsF { S' with down := false } (j : Int) = (S'.by_ j, 0) from read_now (S := { S' with down := false }) rfl hlj)
                  have hok := HI.out.1 j hlj
                  have hlen1 := (HJ.out.1.2.2.1.1 j hlj).2
                  simp only at hlen1
                  have hpre : SJ j <+: S'.by_ j := by rw [HE.out j hlj, if_neg (by omega)]; exact hok.trans (List.take_prefix _ _)
                  have hlen2 := hpre.length_le
                  have BG := Lib.hid (fun w => begins_any (S'.by_ j) (SJ j) w (by omega) (by omega) hpre)
                  clear hok hpre
                  go_wp2_with fail
                  refine (read_atg HJ.out.hg j RD.out).mono ?_; rintro e w11 ⟨rfl, h11⟩
                  have L11 := Lib.hid (HJ.out.disk h11)
                  have s1 := L11.out.2.1.get hlj
                  have z1 := Blk.frozen L11.out.2.1 j
                  clear h11
                  go_wp2_with fail
                  refine (BG.out _).mono ?_; rintro e w12 ⟨rfl, rfl⟩
                  have L12 := Lib.hid (L11.out.store hlj (S'.by_ j))
                  clear L11
                  go_wp2_with fail
                  clear s1 z1
                  go_roundw
                  case rel => exact ⟨j + 1, _, by go_num, by omega, L12, Lib.hid (fun jj hf => by
                    have := HE.out jj hf
                    by_cases e : jj = j
                    · subst e
                      rw [show setF SJ jj (S'.by_ jj) jj = S'.by_ jj by simp [setF], if_pos (by omega)]
                    · rw [show setF SJ j (S'.by_ j) jj = SJ jj by simp [setF, e], this]
                      have h1 : (jj < j + 1) ↔ (jj < j) := by omega
                      simp only [h1])⟩
                  case measure => simp [intOf]; omega
                · have I8 := Lib.hid (show Inv SJ (({ S' with down := false } : DS).crash []) by
                    have h1 := restart_inv ST.out
                    refine ⟨fun f hf => ?_, h1.2⟩
                    rw [HE.out f hf, if_pos (by omega)]; exact h1.1 f hf)
                  go_wp2_with fail
                  refine (crash_atg HJ.out.hg none 0 0 [] (Row.nil _ _ _) (fun h0 => by cases h0) rfl (by decide)).mono ?_; rintro e w11 ⟨rfl, h11⟩
                  have L11 := Lib.hid (HJ.out.disk h11)
                  clear h11
                  go_wp2_with fail
                  go_roundw
                  case rel => exact ⟨k + 1, _, _, by go_num, by omega, Lib.hid ⟨L11.out, I8.out⟩⟩
                  case measure => simp [intOf]; omega
          · clear hup
            go_wp2_with fail
            clear s1 z1
            go_quiet (fail)
            go_wp2_with fail
            go_roundw
            case rel => exact ⟨k + 1, _, _, by go_num, by omega, Lib.hid ⟨L7.out.drewN _, HI.out⟩⟩
            case measure => simp [intOf]; omega
      · as_aux_lemma =>
          rw [hp]
          subst hr
          obtain ⟨⟨hf0, hf8⟩, hn0, _⟩ := (NF.out (by first | rfl | simp)).2.1 hp
          obtain ⟨f, hf⟩ : ∃ f : Nat, y.f = (f : Int) := ⟨y.f.toNat, by omega⟩
          have hf7 : f < 8 := by omega
          have HF := Lib.hid hf
          have HP := Lib.hid hp
          have HLN := Lib.hid hlen
          rw [hf] at k1
          rw [hf, Int.toNat_natCast] at hlen
          have hsl : (SF f).length ≤ 16777216 := by
            have h1 := (HL.out.2.1 f hf7).length_le
            have h2 := (HL.out.1.1.2.2.1.1 f hf7).2
            rw [List.length_take] at h1; omega
          have s1 := L6.out.2.1.get hf7
          have z1 := Blk.frozen L6.out.2.1 f
          clear hf0 hf8 hf hp
          obtain ⟨m, hm⟩ : ∃ m : Nat, y.n = (m : Int) := ⟨y.n.toNat, by omega⟩
          have HMM := Lib.hid hm
          rw [hm] at k3 hlen
          have hml : m ≤ (SF f).length := by omega
          have HX := Lib.hid (bx_take (SF f) m)
          clear hm hn0
          go_wp2_with fail
          go_quiet (fail)
          go_wp2_with fail
          have hx := HX.out
          go_region
          clear s1 z1 hx
          have L7 := Lib.hid (fun n => (L6.out.drewN n).store hf7 ((SF f).take m))
          have HI := Lib.hid (show Inv (setF SF f ((SF f).take m)) S' by have := NI.out; unfold note at this; rw [if_neg (fun hh => absurd (HP.out.symm.trans hh.1) (by decide)), if_pos ⟨HP.out, rfl, HLN.out⟩, HF.out, HMM.out] at this; exact this)
          clear NI NF hR
          cases hup : S.down
          · cases hdn : S'.down
            · have HD := Lib.hid hdn
              clear hup hdn
              skip
              go_wp2_with fail
              refine (ls_down (L7.out _)).mono ?_; rintro e w9 ⟨rfl, l9⟩
              have L9 := Lib.hid l9
              clear l9
              rw [HD.out]
              go_wp2_with fail
              go_roundw
              case rel => exact ⟨k + 1, _, _, by go_num, by omega, Lib.hid ⟨L9.out, HI.out⟩⟩
              case measure => simp [intOf]; omega
            · have HD := Lib.hid hdn
              have ST := Lib.hid (HI.out.2 hdn)
              clear hup hdn
              skip
              go_wp2_with fail
              refine (ls_down (L7.out _)).mono ?_; rintro e w9 ⟨rfl, l9⟩
              have L9 := Lib.hid l9
              clear l9
              rw [HD.out]
              go_wp2_with fail
              refine (start_atg L9.out.hg).mono ?_; rintro e w10 ⟨rfl, h10⟩
              have L10 := Lib.hid (L9.out.disk h10)
              clear h10 L9 L7
              go_wp2_with fail
              go_loopw [16] (fun i wr => ∃ (j : Nat) (SJ : Nat → List UInt8), i = .int .i64 j ∧ j ≤ 8 ∧ Hid (LS w wr b g SJ { S' with down := false }) ∧ Hid (∀ jj, jj < 8 → SJ jj = if jj < j then S'.by_ jj else (setF SF f ((SF f).take m)) jj)) (fun i _ => 8 - (intOf i).toNat)
              case atStart => exact ⟨0, _, rfl, by omega, L10, Lib.hid (fun jj _ => by simp)⟩
              case round =>
                obtain ⟨j, SJ, rfl, hj, HJ, HE⟩ := hrel
                clear L10
                by_cases hlj : j < 8
                · have RD := Lib.hid (show ReadsF { S' with down := false } (j : Int) = (S'.by_ j, 0) from read_now (S := { S' with down := false }) rfl hlj)
                  have hok := HI.out.1 j hlj
                  have hlen1 := (HJ.out.1.2.2.1.1 j hlj).2
                  simp only at hlen1
                  have hpre : SJ j <+: S'.by_ j := by rw [HE.out j hlj, if_neg (by omega)]; exact hok.trans (List.take_prefix _ _)
                  have hlen2 := hpre.length_le
                  have BG := Lib.hid (fun w => begins_any (S'.by_ j) (SJ j) w (by omega) (by omega) hpre)
                  clear hok hpre
                  go_wp2_with fail
                  refine (read_atg HJ.out.hg j RD.out).mono ?_; rintro e w11 ⟨rfl, h11⟩
                  have L11 := Lib.hid (HJ.out.disk h11)
                  have s1 := L11.out.2.1.get hlj
                  have z1 := Blk.frozen L11.out.2.1 j
                  clear h11
                  go_wp2_with fail
                  refine (BG.out _).mono ?_; rintro e w12 ⟨rfl, rfl⟩
                  have L12 := Lib.hid (L11.out.store hlj (S'.by_ j))
                  clear L11
                  go_wp2_with fail
                  clear s1 z1
                  go_roundw
                  case rel => exact ⟨j + 1, _, by go_num, by omega, L12, Lib.hid (fun jj hf => by
                    have := HE.out jj hf
                    by_cases e : jj = j
                    · subst e
                      rw [show setF SJ jj (S'.by_ jj) jj = S'.by_ jj by simp [setF], if_pos (by omega)]
                    · rw [show setF SJ j (S'.by_ j) jj = SJ jj by simp [setF, e], this]
                      have h1 : (jj < j + 1) ↔ (jj < j) := by omega
                      simp only [h1])⟩
                  case measure => simp [intOf]; omega
                · have I8 := Lib.hid (show Inv SJ (({ S' with down := false } : DS).crash []) by
                    have h1 := restart_inv ST.out
                    refine ⟨fun f hf => ?_, h1.2⟩
                    rw [HE.out f hf, if_pos (by omega)]; exact h1.1 f hf)
                  go_wp2_with fail
                  refine (crash_atg HJ.out.hg none 0 0 [] (Row.nil _ _ _) (fun h0 => by cases h0) rfl (by decide)).mono ?_; rintro e w11 ⟨rfl, h11⟩
                  have L11 := Lib.hid (HJ.out.disk h11)
                  clear h11
                  go_wp2_with fail
                  go_roundw
                  case rel => exact ⟨k + 1, _, _, by go_num, by omega, Lib.hid ⟨L11.out, I8.out⟩⟩
                  case measure => simp [intOf]; omega
          · clear hup
            skip
            go_wp2_with fail
            go_roundw
            case rel => exact ⟨k + 1, _, _, by go_num, by omega, Lib.hid ⟨L7.out _, HI.out⟩⟩
            case measure => simp [intOf]; omega
      · as_aux_lemma =>
          rw [hp]
          subst hr
          obtain ⟨⟨hf0, hf8⟩, hn0, _⟩ := (NF.out (by first | rfl | simp)).2.1 hp
          obtain ⟨f, hf⟩ : ∃ f : Nat, y.f = (f : Int) := ⟨y.f.toNat, by omega⟩
          have hf7 : f < 8 := by omega
          have HF := Lib.hid hf
          have HP := Lib.hid hp
          have HLN := Lib.hid hlen
          rw [hf] at k1
          rw [hf, Int.toNat_natCast] at hlen
          have hsl : (SF f).length ≤ 16777216 := by
            have h1 := (HL.out.2.1 f hf7).length_le
            have h2 := (HL.out.1.1.2.2.1.1 f hf7).2
            rw [List.length_take] at h1; omega
          have s1 := L6.out.2.1.get hf7
          have z1 := Blk.frozen L6.out.2.1 f
          clear hf0 hf8 hf hp
          have L7 := L6
          have HI := Lib.hid (show Inv SF S' by have := NI.out; unfold note at this; rw [if_neg (fun hh => absurd (HP.out.symm.trans hh.1) (by decide)), if_neg (fun h => HLN.out h.2.2), if_neg (fun hh => absurd (HP.out.symm.trans hh.1) (by decide))] at this; exact this)
          clear NI NF hR
          cases hup : S.down
          · cases hdn : S'.down
            · have HD := Lib.hid hdn
              clear hup hdn
              go_wp2_with fail
              go_quiet (fail)
              clear s1 z1
              go_wp2_with fail
              refine (ls_down (L7.out.drewN _)).mono ?_; rintro e w9 ⟨rfl, l9⟩
              have L9 := Lib.hid l9
              clear l9
              rw [HD.out]
              go_wp2_with fail
              go_roundw
              case rel => exact ⟨k + 1, _, _, by go_num, by omega, Lib.hid ⟨L9.out, HI.out⟩⟩
              case measure => simp [intOf]; omega
            · have HD := Lib.hid hdn
              have ST := Lib.hid (HI.out.2 hdn)
              clear hup hdn
              go_wp2_with fail
              go_quiet (fail)
              clear s1 z1
              go_wp2_with fail
              refine (ls_down (L7.out.drewN _)).mono ?_; rintro e w9 ⟨rfl, l9⟩
              have L9 := Lib.hid l9
              clear l9
              rw [HD.out]
              go_wp2_with fail
              refine (start_atg L9.out.hg).mono ?_; rintro e w10 ⟨rfl, h10⟩
              have L10 := Lib.hid (L9.out.disk h10)
              clear h10 L9 L7
              go_wp2_with fail
              go_loopw [16] (fun i wr => ∃ (j : Nat) (SJ : Nat → List UInt8), i = .int .i64 j ∧ j ≤ 8 ∧ Hid (LS w wr b g SJ { S' with down := false }) ∧ Hid (∀ jj, jj < 8 → SJ jj = if jj < j then S'.by_ jj else SF jj)) (fun i _ => 8 - (intOf i).toNat)
              case atStart => exact ⟨0, _, rfl, by omega, L10, Lib.hid (fun jj _ => by simp)⟩
              case round =>
                obtain ⟨j, SJ, rfl, hj, HJ, HE⟩ := hrel
                clear L10
                by_cases hlj : j < 8
                · have RD := Lib.hid (show ReadsF { S' with down := false } (j : Int) = (S'.by_ j, 0) from read_now (S := { S' with down := false }) rfl hlj)
                  have hok := HI.out.1 j hlj
                  have hlen1 := (HJ.out.1.2.2.1.1 j hlj).2
                  simp only at hlen1
                  have hpre : SJ j <+: S'.by_ j := by rw [HE.out j hlj, if_neg (by omega)]; exact hok.trans (List.take_prefix _ _)
                  have hlen2 := hpre.length_le
                  have BG := Lib.hid (fun w => begins_any (S'.by_ j) (SJ j) w (by omega) (by omega) hpre)
                  clear hok hpre
                  go_wp2_with fail
                  refine (read_atg HJ.out.hg j RD.out).mono ?_; rintro e w11 ⟨rfl, h11⟩
                  have L11 := Lib.hid (HJ.out.disk h11)
                  have s1 := L11.out.2.1.get hlj
                  have z1 := Blk.frozen L11.out.2.1 j
                  clear h11
                  go_wp2_with fail
                  refine (BG.out _).mono ?_; rintro e w12 ⟨rfl, rfl⟩
                  have L12 := Lib.hid (L11.out.store hlj (S'.by_ j))
                  clear L11
                  go_wp2_with fail
                  clear s1 z1
                  go_roundw
                  case rel => exact ⟨j + 1, _, by go_num, by omega, L12, Lib.hid (fun jj hf => by
                    have := HE.out jj hf
                    by_cases e : jj = j
                    · subst e
                      rw [show setF SJ jj (S'.by_ jj) jj = S'.by_ jj by simp [setF], if_pos (by omega)]
                    · rw [show setF SJ j (S'.by_ j) jj = SJ jj by simp [setF, e], this]
                      have h1 : (jj < j + 1) ↔ (jj < j) := by omega
                      simp only [h1])⟩
                  case measure => simp [intOf]; omega
                · have I8 := Lib.hid (show Inv SJ (({ S' with down := false } : DS).crash []) by
                    have h1 := restart_inv ST.out
                    refine ⟨fun f hf => ?_, h1.2⟩
                    rw [HE.out f hf, if_pos (by omega)]; exact h1.1 f hf)
                  go_wp2_with fail
                  refine (crash_atg HJ.out.hg none 0 0 [] (Row.nil _ _ _) (fun h0 => by cases h0) rfl (by decide)).mono ?_; rintro e w11 ⟨rfl, h11⟩
                  have L11 := Lib.hid (HJ.out.disk h11)
                  clear h11
                  go_wp2_with fail
                  go_roundw
                  case rel => exact ⟨k + 1, _, _, by go_num, by omega, Lib.hid ⟨L11.out, I8.out⟩⟩
                  case measure => simp [intOf]; omega
          · clear hup
            go_wp2_with fail
            go_quiet (fail)
            clear s1 z1
            go_wp2_with fail
            go_roundw
            case rel => exact ⟨k + 1, _, _, by go_num, by omega, Lib.hid ⟨L7.out.drewN _, HI.out⟩⟩
            case measure => simp [intOf]; omega
      · as_aux_lemma =>
          rw [hp]
          subst hr
          obtain ⟨⟨hf0, hf8⟩, ⟨hg0, hg8⟩, _⟩ := (NF.out (by first | rfl | simp)).2.2 hp
          obtain ⟨f, hf⟩ : ∃ f : Nat, y.f = (f : Int) := ⟨y.f.toNat, by omega⟩
          obtain ⟨h, hh⟩ : ∃ h : Nat, y.g = (h : Int) := ⟨y.g.toNat, by omega⟩
          have hf7 : f < 8 := by omega
          have hh7 : h < 8 := by omega
          have HF := Lib.hid hf
          have HG := Lib.hid hh
          have HP := Lib.hid hp
          rw [hf] at k1
          rw [hh] at k2
          have s1 := L6.out.2.1.get hf7
          have s2 := L6.out.2.1.get hh7
          have z1 := Blk.frozen L6.out.2.1 f
          have z2 := Blk.frozen L6.out.2.1 h
          clear hf0 hf8 hg0 hg8 hf hh hp
          go_wp2_with fail
          go_quiet (fail)
          go_wp2_with fail
          go_region
          have LT := (L6.out.drewN (nq + 1)).store hf7 (SF h)
          have s3 := LT.2.1.get hh7
          have z3 := Blk.frozen LT.2.1 h
          clear LT s1 s2 z1 z2
          have L7 := Lib.hid (fun n => ((L6.out.drewN n).store hf7 (SF h)).store hh7 [])
          have HI := Lib.hid (show Inv (setF (setF SF f (SF h)) h []) S' by have := NI.out; unfold note at this; rw [if_neg (fun hh => absurd (HP.out.symm.trans hh.1) (by decide)), if_neg (fun hh => absurd (HP.out.symm.trans hh.1) (by decide)), if_pos ⟨HP.out, rfl⟩, HF.out, HG.out] at this; exact this)
          clear NI NF hR
          cases hup : S.down
          · cases hdn : S'.down
            · have HD := Lib.hid hdn
              clear hup hdn
              go_wp2_with fail
              clear s3 z3
              go_wp2_with fail
              refine (ls_down (L7.out _)).mono ?_; rintro e w9 ⟨rfl, l9⟩
              have L9 := Lib.hid l9
              clear l9
              rw [HD.out]
              go_wp2_with fail
              go_roundw
              case rel => exact ⟨k + 1, _, _, by go_num, by omega, Lib.hid ⟨L9.out, HI.out⟩⟩
              case measure => simp [intOf]; omega
            · have HD := Lib.hid hdn
              have ST := Lib.hid (HI.out.2 hdn)
              clear hup hdn
              go_wp2_with fail
              clear s3 z3
              go_wp2_with fail
              refine (ls_down (L7.out _)).mono ?_; rintro e w9 ⟨rfl, l9⟩
              have L9 := Lib.hid l9
              clear l9
              rw [HD.out]
              go_wp2_with fail
              refine (start_atg L9.out.hg).mono ?_; rintro e w10 ⟨rfl, h10⟩
              have L10 := Lib.hid (L9.out.disk h10)
              clear h10 L9 L7
              go_wp2_with fail
              go_loopw [16] (fun i wr => ∃ (j : Nat) (SJ : Nat → List UInt8), i = .int .i64 j ∧ j ≤ 8 ∧ Hid (LS w wr b g SJ { S' with down := false }) ∧ Hid (∀ jj, jj < 8 → SJ jj = if jj < j then S'.by_ jj else (setF (setF SF f (SF h)) h []) jj)) (fun i _ => 8 - (intOf i).toNat)
              case atStart => exact ⟨0, _, rfl, by omega, L10, Lib.hid (fun jj _ => by simp)⟩
              case round =>
                obtain ⟨j, SJ, rfl, hj, HJ, HE⟩ := hrel
                clear L10
                by_cases hlj : j < 8
                · have RD := Lib.hid (show ReadsF { S' with down := false } (j : Int) = (S'.by_ j, 0) from read_now (S := { S' with down := false }) rfl hlj)
                  have hok := HI.out.1 j hlj
                  have hlen1 := (HJ.out.1.2.2.1.1 j hlj).2
                  simp only at hlen1
                  have hpre : SJ j <+: S'.by_ j := by rw [HE.out j hlj, if_neg (by omega)]; exact hok.trans (List.take_prefix _ _)
                  have hlen2 := hpre.length_le
                  have BG := Lib.hid (fun w => begins_any (S'.by_ j) (SJ j) w (by omega) (by omega) hpre)
                  clear hok hpre
                  go_wp2_with fail
                  refine (read_atg HJ.out.hg j RD.out).mono ?_; rintro e w11 ⟨rfl, h11⟩
                  have L11 := Lib.hid (HJ.out.disk h11)
                  have s1 := L11.out.2.1.get hlj
                  have z1 := Blk.frozen L11.out.2.1 j
                  clear h11
                  go_wp2_with fail
                  refine (BG.out _).mono ?_; rintro e w12 ⟨rfl, rfl⟩
                  have L12 := Lib.hid (L11.out.store hlj (S'.by_ j))
                  clear L11
                  go_wp2_with fail
                  clear s1 z1
                  go_roundw
                  case rel => exact ⟨j + 1, _, by go_num, by omega, L12, Lib.hid (fun jj hf => by
                    have := HE.out jj hf
                    by_cases e : jj = j
                    · subst e
                      rw [show setF SJ jj (S'.by_ jj) jj = S'.by_ jj by simp [setF], if_pos (by omega)]
                    · rw [show setF SJ j (S'.by_ j) jj = SJ jj by simp [setF, e], this]
                      have h1 : (jj < j + 1) ↔ (jj < j) := by omega
                      simp only [h1])⟩
                  case measure => simp [intOf]; omega
                · have I8 := Lib.hid (show Inv SJ (({ S' with down := false } : DS).crash []) by
                    have h1 := restart_inv ST.out
                    refine ⟨fun f hf => ?_, h1.2⟩
                    rw [HE.out f hf, if_pos (by omega)]; exact h1.1 f hf)
                  go_wp2_with fail
                  refine (crash_atg HJ.out.hg none 0 0 [] (Row.nil _ _ _) (fun h0 => by cases h0) rfl (by decide)).mono ?_; rintro e w11 ⟨rfl, h11⟩
                  have L11 := Lib.hid (HJ.out.disk h11)
                  clear h11
                  go_wp2_with fail
                  go_roundw
                  case rel => exact ⟨k + 1, _, _, by go_num, by omega, Lib.hid ⟨L11.out, I8.out⟩⟩
                  case measure => simp [intOf]; omega
          · clear hup
            go_wp2_with fail
            clear s3 z3
            go_wp2_with fail
            go_roundw
            case rel => exact ⟨k + 1, _, _, by go_num, by omega, Lib.hid ⟨L7.out _, HI.out⟩⟩
            case measure => simp [intOf]; omega
      · as_aux_lemma =>
          rw [hp]
          have HP := Lib.hid hp
          have HNR := Lib.hid hr
          have er : (r == 0) = false := by simpa using hr
          clear hp hr
          have L7 := L6
          have HI := Lib.hid (show Inv SF S' by have := NI.out; unfold note at this; rw [if_neg (fun h => HNR.out h.2), if_neg (fun h => HNR.out h.2.1), if_neg (fun h => HNR.out h.2)] at this; exact this)
          clear NI NF hR
          cases hup : S.down
          · cases hdn : S'.down
            · have HD := Lib.hid hdn
              clear hup hdn
              go_wp2_with fail
              go_quiet (fail)
              go_wp2_with fail
              refine (ls_down (L7.out.drewN _)).mono ?_; rintro e w9 ⟨rfl, l9⟩
              have L9 := Lib.hid l9
              clear l9
              rw [HD.out]
              go_wp2_with fail
              go_roundw
              case rel => exact ⟨k + 1, _, _, by go_num, by omega, Lib.hid ⟨L9.out, HI.out⟩⟩
              case measure => simp [intOf]; omega
            · have HD := Lib.hid hdn
              have ST := Lib.hid (HI.out.2 hdn)
              clear hup hdn
              go_wp2_with fail
              go_quiet (fail)
              go_wp2_with fail
              refine (ls_down (L7.out.drewN _)).mono ?_; rintro e w9 ⟨rfl, l9⟩
              have L9 := Lib.hid l9
              clear l9
              rw [HD.out]
              go_wp2_with fail
              refine (start_atg L9.out.hg).mono ?_; rintro e w10 ⟨rfl, h10⟩
              have L10 := Lib.hid (L9.out.disk h10)
              clear h10 L9 L7
              go_wp2_with fail
              go_loopw [16] (fun i wr => ∃ (j : Nat) (SJ : Nat → List UInt8), i = .int .i64 j ∧ j ≤ 8 ∧ Hid (LS w wr b g SJ { S' with down := false }) ∧ Hid (∀ jj, jj < 8 → SJ jj = if jj < j then S'.by_ jj else SF jj)) (fun i _ => 8 - (intOf i).toNat)
              case atStart => exact ⟨0, _, rfl, by omega, L10, Lib.hid (fun jj _ => by simp)⟩
              case round =>
                obtain ⟨j, SJ, rfl, hj, HJ, HE⟩ := hrel
                clear L10
                by_cases hlj : j < 8
                · have RD := Lib.hid (show ReadsF { S' with down := false } (j : Int) = (S'.by_ j, 0) from read_now (S := { S' with down := false }) rfl hlj)
                  have hok := HI.out.1 j hlj
                  have hlen1 := (HJ.out.1.2.2.1.1 j hlj).2
                  simp only at hlen1
                  have hpre : SJ j <+: S'.by_ j := by rw [HE.out j hlj, if_neg (by omega)]; exact hok.trans (List.take_prefix _ _)
                  have hlen2 := hpre.length_le
                  have BG := Lib.hid (fun w => begins_any (S'.by_ j) (SJ j) w (by omega) (by omega) hpre)
                  clear hok hpre
                  go_wp2_with fail
                  refine (read_atg HJ.out.hg j RD.out).mono ?_; rintro e w11 ⟨rfl, h11⟩
                  have L11 := Lib.hid (HJ.out.disk h11)
                  have s1 := L11.out.2.1.get hlj
                  have z1 := Blk.frozen L11.out.2.1 j
                  clear h11
                  go_wp2_with fail
                  refine (BG.out _).mono ?_; rintro e w12 ⟨rfl, rfl⟩
                  have L12 := Lib.hid (L11.out.store hlj (S'.by_ j))
                  clear L11
                  go_wp2_with fail
                  clear s1 z1
                  go_roundw
                  case rel => exact ⟨j + 1, _, by go_num, by omega, L12, Lib.hid (fun jj hf => by
                    have := HE.out jj hf
                    by_cases e : jj = j
                    · subst e
                      rw [show setF SJ jj (S'.by_ jj) jj = S'.by_ jj by simp [setF], if_pos (by omega)]
                    · rw [show setF SJ j (S'.by_ j) jj = SJ jj by simp [setF, e], this]
                      have h1 : (jj < j + 1) ↔ (jj < j) := by omega
                      simp only [h1])⟩
                  case measure => simp [intOf]; omega
                · have I8 := Lib.hid (show Inv SJ (({ S' with down := false } : DS).crash []) by
                    have h1 := restart_inv ST.out
                    refine ⟨fun f hf => ?_, h1.2⟩
                    rw [HE.out f hf, if_pos (by omega)]; exact h1.1 f hf)
                  go_wp2_with fail
                  refine (crash_atg HJ.out.hg none 0 0 [] (Row.nil _ _ _) (fun h0 => by cases h0) rfl (by decide)).mono ?_; rintro e w11 ⟨rfl, h11⟩
                  have L11 := Lib.hid (HJ.out.disk h11)
                  clear h11
                  go_wp2_with fail
                  go_roundw
                  case rel => exact ⟨k + 1, _, _, by go_num, by omega, Lib.hid ⟨L11.out, I8.out⟩⟩
                  case measure => simp [intOf]; omega
          · clear hup
            go_wp2_with fail
            go_quiet (fail)
            go_wp2_with fail
            go_roundw
            case rel => exact ⟨k + 1, _, _, by go_num, by omega, Lib.hid ⟨L7.out.drewN _, HI.out⟩⟩
            case measure => simp [intOf]; omega
      · as_aux_lemma =>
          rw [hp]
          have HP := Lib.hid hp
          have HNR := Lib.hid hr
          have er : (r == 0) = false := by simpa using hr
          clear hp hr
          have L7 := L6
          have HI := Lib.hid (show Inv SF S' by have := NI.out; unfold note at this; rw [if_neg (fun h => HNR.out h.2), if_neg (fun h => HNR.out h.2.1), if_neg (fun h => HNR.out h.2)] at this; exact this)
          clear NI NF hR
          cases hup : S.down
          · cases hdn : S'.down
            · have HD := Lib.hid hdn
              clear hup hdn
              go_wp2_with fail
              go_quiet (fail)
              go_wp2_with fail
              refine (ls_down (L7.out.drewN _)).mono ?_; rintro e w9 ⟨rfl, l9⟩
              have L9 := Lib.hid l9
              clear l9
              rw [HD.out]
              go_wp2_with fail
              go_roundw
              case rel => exact ⟨k + 1, _, _, by go_num, by omega, Lib.hid ⟨L9.out, HI.out⟩⟩
              case measure => simp [intOf]; omega
            · have HD := Lib.hid hdn
              have ST := Lib.hid (HI.out.2 hdn)
              clear hup hdn
              go_wp2_with fail
              go_quiet (fail)
              go_wp2_with fail
              refine (ls_down (L7.out.drewN _)).mono ?_; rintro e w9 ⟨rfl, l9⟩
              have L9 := Lib.hid l9
              clear l9
              rw [HD.out]
              go_wp2_with fail
              refine (start_atg L9.out.hg).mono ?_; rintro e w10 ⟨rfl, h10⟩
              have L10 := Lib.hid (L9.out.disk h10)
              clear h10 L9 L7
              go_wp2_with fail
              go_loopw [16] (fun i wr => ∃ (j : Nat) (SJ : Nat → List UInt8), i = .int .i64 j ∧ j ≤ 8 ∧ Hid (LS w wr b g SJ { S' with down := false }) ∧ Hid (∀ jj, jj < 8 → SJ jj = if jj < j then S'.by_ jj else SF jj)) (fun i _ => 8 - (intOf i).toNat)
              case atStart => exact ⟨0, _, rfl, by omega, L10, Lib.hid (fun jj _ => by simp)⟩
              case round =>
                obtain ⟨j, SJ, rfl, hj, HJ, HE⟩ := hrel
                clear L10
                by_cases hlj : j < 8
                · have RD := Lib.hid (show ReadsF { S' with down := false } (j : Int) = (S'.by_ j, 0) from read_now (S := { S' with down := false }) rfl hlj)
                  have hok := HI.out.1 j hlj
                  have hlen1 := (HJ.out.1.2.2.1.1 j hlj).2
                  simp only at hlen1
                  have hpre : SJ j <+: S'.by_ j := by rw [HE.out j hlj, if_neg (by omega)]; exact hok.trans (List.take_prefix _ _)
                  have hlen2 := hpre.length_le
                  have BG := Lib.hid (fun w => begins_any (S'.by_ j) (SJ j) w (by omega) (by omega) hpre)
                  clear hok hpre
                  go_wp2_with fail
                  refine (read_atg HJ.out.hg j RD.out).mono ?_; rintro e w11 ⟨rfl, h11⟩
                  have L11 := Lib.hid (HJ.out.disk h11)
                  have s1 := L11.out.2.1.get hlj
                  have z1 := Blk.frozen L11.out.2.1 j
                  clear h11
                  go_wp2_with fail
                  refine (BG.out _).mono ?_; rintro e w12 ⟨rfl, rfl⟩
                  have L12 := Lib.hid (L11.out.store hlj (S'.by_ j))
                  clear L11
                  go_wp2_with fail
                  clear s1 z1
                  go_roundw
                  case rel => exact ⟨j + 1, _, by go_num, by omega, L12, Lib.hid (fun jj hf => by
                    have := HE.out jj hf
                    by_cases e : jj = j
                    · subst e
                      rw [show setF SJ jj (S'.by_ jj) jj = S'.by_ jj by simp [setF], if_pos (by omega)]
                    · rw [show setF SJ j (S'.by_ j) jj = SJ jj by simp [setF, e], this]
                      have h1 : (jj < j + 1) ↔ (jj < j) := by omega
                      simp only [h1])⟩
                  case measure => simp [intOf]; omega
                · have I8 := Lib.hid (show Inv SJ (({ S' with down := false } : DS).crash []) by
                    have h1 := restart_inv ST.out
                    refine ⟨fun f hf => ?_, h1.2⟩
                    rw [HE.out f hf, if_pos (by omega)]; exact h1.1 f hf)
                  go_wp2_with fail
                  refine (crash_atg HJ.out.hg none 0 0 [] (Row.nil _ _ _) (fun h0 => by cases h0) rfl (by decide)).mono ?_; rintro e w11 ⟨rfl, h11⟩
                  have L11 := Lib.hid (HJ.out.disk h11)
                  clear h11
                  go_wp2_with fail
                  go_roundw
                  case rel => exact ⟨k + 1, _, _, by go_num, by omega, Lib.hid ⟨L11.out, I8.out⟩⟩
                  case measure => simp [intOf]; omega
          · clear hup
            go_wp2_with fail
            go_quiet (fail)
            go_wp2_with fail
            go_roundw
            case rel => exact ⟨k + 1, _, _, by go_num, by omega, Lib.hid ⟨L7.out.drewN _, HI.out⟩⟩
            case measure => simp [intOf]; omega
      · as_aux_lemma =>
          rw [hp]
          have HP := Lib.hid hp
          have HNR := Lib.hid hr
          have er : (r == 0) = false := by simpa using hr
          clear hp hr
          have L7 := L6
          have HI := Lib.hid (show Inv SF S' by have := NI.out; unfold note at this; rw [if_neg (fun h => HNR.out h.2), if_neg (fun h => HNR.out h.2.1), if_neg (fun h => HNR.out h.2)] at this; exact this)
          clear NI NF hR
          cases hup : S.down
          · cases hdn : S'.down
            · have HD := Lib.hid hdn
              clear hup hdn
              go_wp2_with fail
              go_quiet (fail)
              go_wp2_with fail
              refine (ls_down (L7.out.drewN _)).mono ?_; rintro e w9 ⟨rfl, l9⟩
              have L9 := Lib.hid l9
              clear l9
              rw [HD.out]
              go_wp2_with fail
              go_roundw
              case rel => exact ⟨k + 1, _, _, by go_num, by omega, Lib.hid ⟨L9.out, HI.out⟩⟩
              case measure => simp [intOf]; omega
            · have HD := Lib.hid hdn
              have ST := Lib.hid (HI.out.2 hdn)
              clear hup hdn
              go_wp2_with fail
              go_quiet (fail)
              go_wp2_with fail
              refine (ls_down (L7.out.drewN _)).mono ?_; rintro e w9 ⟨rfl, l9⟩
              have L9 := Lib.hid l9
              clear l9
              rw [HD.out]
              go_wp2_with fail
              refine (start_atg L9.out.hg).mono ?_; rintro e w10 ⟨rfl, h10⟩
              have L10 := Lib.hid (L9.out.disk h10)
              clear h10 L9 L7
              go_wp2_with fail
              go_loopw [16] (fun i wr => ∃ (j : Nat) (SJ : Nat → List UInt8), i = .int .i64 j ∧ j ≤ 8 ∧ Hid (LS w wr b g SJ { S' with down := false }) ∧ Hid (∀ jj, jj < 8 → SJ jj = if jj < j then S'.by_ jj else SF jj)) (fun i _ => 8 - (intOf i).toNat)
              case atStart => exact ⟨0, _, rfl, by omega, L10, Lib.hid (fun jj _ => by simp)⟩
              case round =>
                obtain ⟨j, SJ, rfl, hj, HJ, HE⟩ := hrel
                clear L10
                by_cases hlj : j < 8
                · have RD := Lib.hid (show ReadsF { S' with down := false } (j : Int) = (S'.by_ j, 0) from read_now (S := { S' with down := false }) rfl hlj)
                  have hok := HI.out.1 j hlj
                  have hlen1 := (HJ.out.1.2.2.1.1 j hlj).2
                  simp only at hlen1
                  have hpre : SJ j <+: S'.by_ j := by rw [HE.out j hlj, if_neg (by omega)]; exact hok.trans (List.take_prefix _ _)
                  have hlen2 := hpre.length_le
                  have BG := Lib.hid (fun w => begins_any (S'.by_ j) (SJ j) w (by omega) (by omega) hpre)
                  clear hok hpre
                  go_wp2_with fail
                  refine (read_atg HJ.out.hg j RD.out).mono ?_; rintro e w11 ⟨rfl, h11⟩
                  have L11 := Lib.hid (HJ.out.disk h11)
                  have s1 := L11.out.2.1.get hlj
                  have z1 := Blk.frozen L11.out.2.1 j
                  clear h11
                  go_wp2_with fail
                  refine (BG.out _).mono ?_; rintro e w12 ⟨rfl, rfl⟩
                  have L12 := Lib.hid (L11.out.store hlj (S'.by_ j))
                  clear L11
                  go_wp2_with fail
                  clear s1 z1
                  go_roundw
                  case rel => exact ⟨j + 1, _, by go_num, by omega, L12, Lib.hid (fun jj hf => by
                    have := HE.out jj hf
                    by_cases e : jj = j
                    · subst e
                      rw [show setF SJ jj (S'.by_ jj) jj = S'.by_ jj by simp [setF], if_pos (by omega)]
                    · rw [show setF SJ j (S'.by_ j) jj = SJ jj by simp [setF, e], this]
                      have h1 : (jj < j + 1) ↔ (jj < j) := by omega
                      simp only [h1])⟩
                  case measure => simp [intOf]; omega
                · have I8 := Lib.hid (show Inv SJ (({ S' with down := false } : DS).crash []) by
                    have h1 := restart_inv ST.out
                    refine ⟨fun f hf => ?_, h1.2⟩
                    rw [HE.out f hf, if_pos (by omega)]; exact h1.1 f hf)
                  go_wp2_with fail
                  refine (crash_atg HJ.out.hg none 0 0 [] (Row.nil _ _ _) (fun h0 => by cases h0) rfl (by decide)).mono ?_; rintro e w11 ⟨rfl, h11⟩
                  have L11 := Lib.hid (HJ.out.disk h11)
                  clear h11
                  go_wp2_with fail
                  go_roundw
                  case rel => exact ⟨k + 1, _, _, by go_num, by omega, Lib.hid ⟨L11.out, I8.out⟩⟩
                  case measure => simp [intOf]; omega
          · clear hup
            go_wp2_with fail
            go_quiet (fail)
            go_wp2_with fail
            go_roundw
            case rel => exact ⟨k + 1, _, _, by go_num, by omega, Lib.hid ⟨L7.out.drewN _, HI.out⟩⟩
            case measure => simp [intOf]; omega
      · as_aux_lemma =>
          have HN2 := Lib.hid hp2
          have HN3 := Lib.hid hp3
          have HN4 := Lib.hid hp4
          have e2 : (pickS y.kd == 2) = false := by simpa using hp2
          have e3 : (pickS y.kd == 3) = false := by simpa using hp3
          have e4 : (pickS y.kd == 4) = false := by simpa using hp4
          clear hp2 hp3 hp4
          have L7 := L6
          have HI := Lib.hid (show Inv SF S' by have := NI.out; unfold note at this; rw [if_neg (fun h => HN2.out h.1), if_neg (fun h => HN3.out h.1), if_neg (fun h => HN4.out h.1)] at this; exact this)
          clear NI NF hR
          cases hup : S.down
          · cases hdn : S'.down
            · have HD := Lib.hid hdn
              clear hup hdn
              go_wp2_with fail
              go_quiet (fail)
              go_wp2_with fail
              refine (ls_down (L7.out.drewN _)).mono ?_; rintro e w9 ⟨rfl, l9⟩
              have L9 := Lib.hid l9
              clear l9
              rw [HD.out]
              go_wp2_with fail
              go_roundw
              case rel => exact ⟨k + 1, _, _, by go_num, by omega, Lib.hid ⟨L9.out, HI.out⟩⟩
              case measure => simp [intOf]; omega
            · have HD := Lib.hid hdn
              have ST := Lib.hid (HI.out.2 hdn)
              clear hup hdn
              go_wp2_with fail
              go_quiet (fail)
              go_wp2_with fail
              refine (ls_down (L7.out.drewN _)).mono ?_; rintro e w9 ⟨rfl, l9⟩
              have L9 := Lib.hid l9
              clear l9
              rw [HD.out]
              go_wp2_with fail
              refine (start_atg L9.out.hg).mono ?_; rintro e w10 ⟨rfl, h10⟩
              have L10 := Lib.hid (L9.out.disk h10)
              clear h10 L9 L7
              go_wp2_with fail
              go_loopw [16] (fun i wr => ∃ (j : Nat) (SJ : Nat → List UInt8), i = .int .i64 j ∧ j ≤ 8 ∧ Hid (LS w wr b g SJ { S' with down := false }) ∧ Hid (∀ jj, jj < 8 → SJ jj = if jj < j then S'.by_ jj else SF jj)) (fun i _ => 8 - (intOf i).toNat)
              case atStart => exact ⟨0, _, rfl, by omega, L10, Lib.hid (fun jj _ => by simp)⟩
              case round =>
                obtain ⟨j, SJ, rfl, hj, HJ, HE⟩ := hrel
                clear L10
                by_cases hlj : j < 8
                · have RD := Lib.hid (show ReadsF { S' with down := false } (j : Int) = (S'.by_ j, 0) from read_now (S := { S' with down := false }) rfl hlj)
                  have hok := HI.out.1 j hlj
                  have hlen1 := (HJ.out.1.2.2.1.1 j hlj).2
                  simp only at hlen1
                  have hpre : SJ j <+: S'.by_ j := by rw [HE.out j hlj, if_neg (by omega)]; exact hok.trans (List.take_prefix _ _)
                  have hlen2 := hpre.length_le
                  have BG := Lib.hid (fun w => begins_any (S'.by_ j) (SJ j) w (by omega) (by omega) hpre)
                  clear hok hpre
                  go_wp2_with fail
                  refine (read_atg HJ.out.hg j RD.out).mono ?_; rintro e w11 ⟨rfl, h11⟩
                  have L11 := Lib.hid (HJ.out.disk h11)
                  have s1 := L11.out.2.1.get hlj
                  have z1 := Blk.frozen L11.out.2.1 j
                  clear h11
                  go_wp2_with fail
                  refine (BG.out _).mono ?_; rintro e w12 ⟨rfl, rfl⟩
                  have L12 := Lib.hid (L11.out.store hlj (S'.by_ j))
                  clear L11
                  go_wp2_with fail
                  clear s1 z1
                  go_roundw
                  case rel => exact ⟨j + 1, _, by go_num, by omega, L12, Lib.hid (fun jj hf => by
                    have := HE.out jj hf
                    by_cases e : jj = j
                    · subst e
                      rw [show setF SJ jj (S'.by_ jj) jj = S'.by_ jj by simp [setF], if_pos (by omega)]
                    · rw [show setF SJ j (S'.by_ j) jj = SJ jj by simp [setF, e], this]
                      have h1 : (jj < j + 1) ↔ (jj < j) := by omega
                      simp only [h1])⟩
                  case measure => simp [intOf]; omega
                · have I8 := Lib.hid (show Inv SJ (({ S' with down := false } : DS).crash []) by
                    have h1 := restart_inv ST.out
                    refine ⟨fun f hf => ?_, h1.2⟩
                    rw [HE.out f hf, if_pos (by omega)]; exact h1.1 f hf)
                  go_wp2_with fail
                  refine (crash_atg HJ.out.hg none 0 0 [] (Row.nil _ _ _) (fun h0 => by cases h0) rfl (by decide)).mono ?_; rintro e w11 ⟨rfl, h11⟩
                  have L11 := Lib.hid (HJ.out.disk h11)
                  clear h11
                  go_wp2_with fail
                  go_roundw
                  case rel => exact ⟨k + 1, _, _, by go_num, by omega, Lib.hid ⟨L11.out, I8.out⟩⟩
                  case measure => simp [intOf]; omega
          · clear hup
            go_wp2_with fail
            go_quiet (fail)
            go_wp2_with fail
            go_roundw
            case rel => exact ⟨k + 1, _, _, by go_num, by omega, Lib.hid ⟨L7.out.drewN _, HI.out⟩⟩
            case measure => simp [intOf]; omega
    · as_aux_lemma =>
        have HI := Lib.hid HL.out.2
        have LL := Lib.hid HL.out.1
        clear HL hk
        go_wp2_with fail
        clear hlt
        refine (arm_atg LL.out.hg 0 none 0 0 [] (Row.nil _ _ _) rfl (by decide) (by decide)).mono ?_; rintro e w5 ⟨rfl, h5⟩
        have L5 := Lib.hid (LL.out.disk h5)
        clear h5 LL
        go_wp2_with fail
        refine (start_atg L5.out.hg).mono ?_; rintro e w6 ⟨rfl, h6⟩
        have L6 := Lib.hid (L5.out.disk h6)
        have I6 := Lib.hid (show Inv SF { S.arm 0 [] with down := false } from ⟨HI.out.1, fun hd => by cases hd⟩)
        have D6 := Lib.hid (show ({ S.arm 0 [] with down := false } : DS).down = false from rfl)
        clear h6 L5 HI
        generalize ({ S.arm 0 [] with down := false } : DS) = S1 at *
        have W6 := Lib.hid (show LS w (w6.alloc (.cells (safeC fun _ => []) 9)) b w6.heap.size (fun _ => []) S1 from ⟨L6.out.1.alloc _, Blk.new _ _ _, L6.out.1.1.size, by have := L6.out.1.2.1.lt; omega⟩)
        have G6 := Lib.hid (show SafeAt (w6.alloc (.cells (safeC fun _ => []) 9)) g SF from Blk.alloc L6.out.2.1 _)
        have hgg : g ≠ w6.heap.size := by have := Blk.lt L6.out.2.1; omega
        have GF := Lib.hid L6.out.2.2
        have hmk := MK.out
        go_wp2_with fail
        clear hmk L6
        unfold safeC at W6 G6
        generalize w6.heap.size = wb at *
        go_loopw [20] (fun i wr => ∃ (j : Nat) (WF : Nat → List UInt8), i = .int .i64 j ∧ j ≤ 8 ∧ Hid (LS w wr b wb WF S1 ∧ SafeAt wr g SF) ∧ Hid (∀ jj, jj < 8 → jj < j → WF jj = S1.by_ jj)) (fun i _ => 8 - (intOf i).toNat)
        case atStart => exact ⟨0, _, rfl, by omega, Lib.hid ⟨W6.out, G6.out⟩, Lib.hid (fun jj _ h => by omega)⟩
        case round =>
          obtain ⟨j, WF, rfl, hj, HJ, HE⟩ := hrel
          clear W6 G6
          by_cases hlj : j < 8
          · have RD := Lib.hid (show ReadsF S1 (j : Int) = (S1.by_ j, 0) from read_now D6.out hlj)
            go_wp2_with fail
            refine (read_atg HJ.out.1.hg j RD.out).mono ?_; rintro e w11 ⟨rfl, h11⟩
            have L11 := Lib.hid (HJ.out.1.disk h11)
            have G11 := Lib.hid (show SafeAt w11 g SF from Blk.grown HJ.out.2 h11.2 (by simp; exact Ne.symm GF.out.2))
            have s1 := L11.out.2.1.get hlj
            have z1 := Blk.frozen L11.out.2.1 j
            clear h11
            have L12 := Lib.hid (L11.out.store hlj (S1.by_ j))
            have G12 := Lib.hid (show SafeAt (w11.setCell ⟨wb, j, none⟩ (.string ⟨(S1.by_ j).toArray⟩)) g SF from Blk.far G11.out (by exact hgg) _)
            clear L11 G11
            go_wp2_with fail
            clear s1 z1
            go_roundw
            case rel => exact ⟨j + 1, _, by go_num, by omega, Lib.hid ⟨L12.out, G12.out⟩, Lib.hid (fun jj h8 h => by
              by_cases e : jj = j
              · subst e; simp [setF]
              · rw [show setF WF j (S1.by_ j) jj = WF jj by simp [setF, e]]; exact HE.out jj h8 (by omega))⟩
            case measure => simp [intOf]; omega
          · have hkr := HJ.out.1.1.row HKP.out
            have hne : 0 < M → ∀ p, D = some p → p.block ≠ b := fun h0 p hA => by
              obtain ⟨b1, o1, e1, hb1, _⟩ := HKP.out (by rw [i64s_length, ← HM.out]; exact h0)
              rw [e1] at hA
              injection hA with hA
              subst hA
              have := HJ.out.1.1.2.2.2
              show b1 ≠ b
              omega
            have CRC := Lib.hid (crash_atg HJ.out.1.hg D dc M kp hkr hne HM.out hMl)
            have I7 := Lib.hid (I6.out.crash kp)
            have PB := Lib.hid (show ∀ f, f < 8 → (S1.crash kp).by_ f <+: S1.by_ f from fun f _ => by rw [crash_by D6.out]; exact List.take_prefix _ _)
            have WE := Lib.hid (show ∀ jj, jj < 8 → WF jj = S1.by_ jj from fun jj h => HE.out jj h (by omega))
            have OKB := Lib.hid HJ.out.1.1.2.2.1
            clear hkr hne HE
            go_wp2_with fail
            refine CRC.out.mono ?_; rintro e w7 ⟨rfl, h7⟩
            have L7 := Lib.hid (HJ.out.1.disk h7)
            have G7 := Lib.hid (show SafeAt w7 g SF from Blk.grown HJ.out.2 h7.2 (by simp; exact Ne.symm GF.out.2))
            clear h7 CRC HJ
            go_wp2_with fail
            refine (start_atg L7.out.hg).mono ?_; rintro e w8 ⟨rfl, h8⟩
            have L8 := Lib.hid (L7.out.disk h8)
            have G8 := Lib.hid (show SafeAt w8 g SF from Blk.grown G7.out h8.2 (by simp; exact Ne.symm GF.out.2))
            clear h8 L7 G7
            generalize S1.crash kp = S2 at *
            go_wp2_with fail
            go_loopw [23] (fun i wr => ∃ (j : Nat), i = .int .i64 j ∧ j ≤ 8 ∧ Hid (LS w wr b wb WF { S2 with down := false } ∧ SafeAt wr g SF)) (fun i _ => 8 - (intOf i).toNat)
            case atStart => exact ⟨0, rfl, by omega, Lib.hid ⟨L8.out, G8.out⟩⟩
            case round =>
              obtain ⟨jf, rfl, hjf, HK⟩ := hrel
              clear L8 G8
              by_cases hlf : jf < 8
              · have RD := Lib.hid (show ReadsF { S2 with down := false } (jf : Int) = (S2.by_ jf, 0) from read_now (S := { S2 with down := false }) rfl hlf)
                have hlen1 := (HK.out.1.1.2.2.1.1 jf hlf).2
                simp only at hlen1
                have hp1 : SF jf <+: S2.by_ jf := (I7.out.1 jf hlf).trans (List.take_prefix _ _)
                have hp2 : S2.by_ jf <+: WF jf := by rw [WE.out jf hlf]; exact PB.out jf hlf
                have hl1 := hp1.length_le
                have hl2 : (WF jf).length ≤ 16777216 := by rw [WE.out jf hlf]; exact (OKB.out.1 jf hlf).2
                have BG1 := Lib.hid (fun w => begins_any (S2.by_ jf) (SF jf) w (by omega) (by omega) hp1)
                have BG2 := Lib.hid (fun w => begins_any (WF jf) (S2.by_ jf) w (by omega) (by omega) hp2)
                clear hp1 hp2
                go_wp2_with fail
                refine (read_atg HK.out.1.hg jf RD.out).mono ?_; rintro e w11 ⟨rfl, h11⟩
                have L11 := Lib.hid (HK.out.1.disk h11)
                have G11 := Lib.hid (show SafeAt w11 g SF from Blk.grown HK.out.2 h11.2 (by simp; exact Ne.symm GF.out.2))
                have s1 := L11.out.2.1.get hlf
                have s2 := G11.out.get hlf
                clear h11
                go_wp2_with fail
                refine (BG1.out _).mono ?_; rintro e w12 ⟨rfl, rfl⟩
                go_wp2_with fail
                refine (BG2.out _).mono ?_; rintro e w12 ⟨rfl, rfl⟩
                go_wp2_with fail
                clear s1 s2
                go_roundw
                case rel => exact ⟨jf + 1, by go_num, by omega, Lib.hid ⟨L11.out, G11.out⟩⟩
                case measure => simp [intOf]; omega
              · go_wp2_with fail
                go_ret
                exact ⟨rfl, HK.out.1.1.1⟩



set_option maxRecDepth 100000 in
set_option maxHeartbeats 2000000 in
theorem lasts_any (A : Option Addr) (c : Nat) (l : List Act) (D : Option Addr) (dc : Nat) (kp : List Int) (w : World) (hrow : Acts w A l) (hl : l.length ≤ maxLen) (hkp : Row w w.heap.size D (i64s kp)) (hMl : kp.length ≤ maxLen) :
    Calls Try.prog 5 #[.slice A l.length c, .slice D kp.length dc] w fun e w' => e = .returned (.bool true) ∧ Below w.heap.size w w' := by
  unfold maxLen at hl hMl
  cases hf : fewB l with
  | true => exact lasts_main A c _ l D dc _ kp w hrow rfl hf hkp rfl (by omega)
  | false =>
    have HR := Lib.hid (fun (w1 : World) (h : Below w.heap.size w w1) => (show Acts w1 A l from ⟨fun y hy => ⟨(hrow.1 y hy).1.later h, (hrow.1 y hy).2⟩, fun h0 => by
      obtain ⟨bb, off, e, hb, hc⟩ := hrow.2 h0
      exact ⟨bb, off, e, Nat.lt_of_lt_of_le hb h.size, fun i h' j hj => (h.cell (p := ⟨bb, off + (i * 6 + j), none⟩) hb).trans (hc i h' j hj)⟩⟩))
    have FW := Lib.hid (fun (w1 : World) (hr : Acts w1 A l) => few_any A c l.length l w1 hr rfl (by omega))
    rw [hf] at FW
    clear hrow hkp hf
    generalize l.length = N at *
    generalize kp.length = M at *
    go_enter Try.func5, Try.ntmps5
    go_wp2_with fail
    refine (small9_any _).mono ?_; rintro e w1 ⟨rfl, b1⟩
    go_wp2_with fail
    refine (new_at w _ b1).mono ?_; rintro e w2 ⟨rfl, h2⟩
    generalize w1.heap.size = b at h2 ⊢
    go_wp2_with fail
    refine (FW.out _ (HR.out _ h2.1)).mono ?_; rintro e w3 ⟨rfl, b3⟩
    have B3 := Lib.hid (h2.later b3).1
    clear b1 h2 b3 FW HR
    go_wp2_with fail
    go_ret
    exact ⟨rfl, B3.out⟩
end Go.Proofs.Ytnbaalllcddbkaa
