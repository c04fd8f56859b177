/- Package agoraref03: next. -/
import Derived.Test.YtllmgogcemannaaGreatDoorIsW
import Derived.Test.YtllmgogcemannaaGreatDoorIsA
import Derived.Deep.RegionHeld3
import Derived.BigQuiet
import Derived.Deep.QuietTactic
namespace Go.Proofs.YtllmgogcemannaaGreatDoor
open Go.RowKit

theorem arrU_list (n : Nat) (a : Nat → Int) : (arrU n a).toList = uL n a := by simp [arrU, uL]
theorem uL_set (n i : Nat) (a : Nat → Int) (x : Int) : (uL n a).set i (.int .u32 x) = uL n (fun j => if j = i then x else a j) := by
  have := congrArg Array.toList (arrU_set (n := n) (i := i) a x)
  rw [Array.toList_setIfInBounds, arrU_list, arrU_list] at this
  exact this
theorem own_blk {w : World} {B g n : Nat} {a : Nat → Int} (h : Blk w g 44 (arrU n a)) (hB : B ≤ g) (hn : n ≤ maxLen) : OwnS w B 44 (some ⟨g, 0, none⟩) n (uL n a) := by
  refine ⟨by rw [uL_length]; simp, .inr ⟨g, n, _, by rw [uL_length], hB, h, by rw [uL_length]; exact Nat.le_refl _, hn, ?_, ?_⟩⟩
  · rw [arrU_size, Nat.mul_one]
  · rw [arrU_list, List.take_of_length_le (by simp)]
set_option maxRecDepth 100000 in
set_option maxHeartbeats 16000000 in
theorem next_any (A Bb : Option Addr) (c d hi : Nat) (s : List UInt8) (h : Nat → Int) (w : World) (hrh : Row w hi A (uL 8 h)) (hrb : Row w hi Bb (u8s s)) (hhi : hi ≤ w.heap.size) (hs : s.length = 64) (hr : ∀ j, 0 ≤ h j ∧ h j < 4294967296) :
    Calls Tryz.prog 38 #[.slice A 8 c, .slice Bb 64 d] w fun e w' => ∃ C x, e = .returned (.slice C 8 x) ∧ OwnS w' w.heap.size 44 C x (uL 8 (stepA s h)) ∧ Below w.heap.size w w' := by
  have HW := Lib.hid (words_any Bb d hi s w hrb hhi hs)
  have HA := Lib.hid adds_any
  obtain ⟨b, off, rfl, hbhi, hc⟩ := hrh (by rw [uL_length]; omega)
  have HH : Hid (∀ (W' : World), Hid (Below w.heap.size w W') → ∀ j u, (uL 8 h)[j]? = some u → W'.cell? ⟨b, off + j, none⟩ = some u) := Lib.hid (fun W' hW j u hu => by
    obtain ⟨hj, hju⟩ := List.getElem?_eq_some_iff.1 hu
    rw [hW.out.cell (by show b < _; omega), hc j hj, hju])
  have HL8 := Lib.hid (uL_length 8 h)
  clear hc hrh hrb
  go_enter Tryz.func38, Tryz.ntmps38
  go_wp2_with fail
  refine HW.out.mono ?_; rintro e w1 ⟨Bw, dw, rfl, OW, b1⟩
  replace OW := Lib.hid OW
  replace b1 := Lib.hid b1
  go_wp2_with fail
  refine (HA.out _).mono ?_; rintro e w2 ⟨rfl, rfl⟩
  have hb1 := b1.out.size
  have OW2 := Lib.hid (OW.out.alloc (.cells (arrU 64 shaKI) 44))
  have b2 := Lib.hid (b1.out.alloc hb1 (.cells (arrU 64 shaKI) 44))
  have KK := Lib.hid (Blk.new w1 44 (arrU 64 shaKI))
  have hb2 := b2.out.size
  clear OW b1 HW HA
  generalize hgk : w1.heap.size = gk at *
  generalize w1.alloc (.cells (arrU 64 shaKI) 44) = w2 at *
  have OE := Lib.hid (own_empty (B := w2.heap.size) (show Blk (w2.alloc (.cells #[] 44)) w2.heap.size 44 #[] from Blk.new _ _ _) (Nat.le_refl _))
  have BE := Lib.hid ((Below.refl w2.heap.size w2).alloc (Nat.le_refl _) (.cells #[] 44))
  have bE := Lib.hid (b2.out.trans (BE.out.mono hb2))
  go_wp2_with (at_builtin; refine wpList_pushS (by rfl) (.tmp 17) (.tmp 18) 50 (by rfl) w2.heap.size 44 (.int .u32 0) 4 Tryz.underlying50 infoU32 (by rfl) (some ⟨w2.heap.size, 0, none⟩) 0 0 8 [] (by rfl) (by rfl) OE.out ⟨b, off, none⟩ 8 c (uL 8 h) (by rfl) HL8.out ?hu (uL_one _ _) (by rfl) (by decide) BE.out.size ?_; (case hu => (intro j u hu; rw [add_at]; exact HH.out _ bE j u hu)); intro A3 c3 w3 o3 k3 g3)
  have B3 := Lib.hid (k3.out _ BE.out)
  have b3 := Lib.hid (b2.out.trans (B3.out.mono hb2))
  have OW3 := Lib.hid (OW2.out.later B3.out)
  have KK3 := Lib.hid (KK.out.later B3.out)
  have o3' := Lib.hid (o3.out.mono hb2)
  rw [List.nil_append] at o3'
  clear o3 k3 g3 OE BE bE OW2 KK b2
  obtain ⟨g3, hA3, hg3, _, _⟩ := o3'.out.form (by rw [HL8.out]; omega)
  subst hA3
  clear hg3
  have HVR := Lib.hid (vA_range s h hr)
  go_loopw [7, 8] (fun v i wr => ∃ (k g' : Nat) (c' : Nat), v = .slice (some ⟨g', 0, none⟩) 8 c' ∧ i = .int .i64 k ∧ k ≤ 64 ∧ Hid (OwnS wr w.heap.size 44 (some ⟨g', 0, none⟩) c' (uL 8 (vA s h k))) ∧ Hid (OwnS wr w.heap.size 44 Bw dw (uL 64 (schedA s 64))) ∧ Hid (Blk wr gk 44 (arrU 64 shaKI)) ∧ Hid (Below w.heap.size w wr)) (fun _ i _ => 64 - (intOf i).toNat)
  case atStart => exact ⟨0, g3, c3, rfl, rfl, by omega, o3', OW3, KK3, b3⟩
  case round =>
    clear o3' OW3 KK3 b3 B3
    obtain ⟨k, g', c', rfl, rfl, hk, OV, OW, KK, B⟩ := hrel
    by_cases hlt : k < 64
    · have hlt' : (k : Int) < 64 := by omega
      have hk0 : 0 ≤ (k : Int) := by omega
      obtain ⟨gw, hBw, _, _, _⟩ := OW.out.form (by rw [uL_length]; omega)
      subst hBw
      have ew := own_at OW.out (uL_at (schedA s 64) hlt)
      have ek := (KK.out.cell k).trans (arrU_at _ hlt)
      have e0 := own_at OV.out (uL_at (vA s h k) (show 0 < 8 by omega))
      have e1 := own_at OV.out (uL_at (vA s h k) (show 1 < 8 by omega))
      have e2 := own_at OV.out (uL_at (vA s h k) (show 2 < 8 by omega))
      have e3 := own_at OV.out (uL_at (vA s h k) (show 3 < 8 by omega))
      have e4 := own_at OV.out (uL_at (vA s h k) (show 4 < 8 by omega))
      have e5 := own_at OV.out (uL_at (vA s h k) (show 5 < 8 by omega))
      have e6 := own_at OV.out (uL_at (vA s h k) (show 6 < 8 by omega))
      have e7 := own_at OV.out (uL_at (vA s h k) (show 7 < 8 by omega))
      have HS := Lib.hid (show vA s h (k + 1) = roundV (vA s h k) (shaKI k) (schedA s 64 k) from rfl)
      have vr := HVR.out k
      have OWk := OW
      generalize vA s h k = v at *
      have v4r := vr 4
      have v0r := vr 0
      have HT6 := Lib.hid (fun w1 => turn_6 (v 4) w1 v4r)
      have HT11 := Lib.hid (fun w1 => turn_11 (v 4) w1 v4r)
      have HT25 := Lib.hid (fun w1 => turn_25 (v 4) w1 v4r)
      have HT2 := Lib.hid (fun w1 => turn_2 (v 0) w1 v0r)
      have HT13 := Lib.hid (fun w1 => turn_13 (v 0) w1 v0r)
      have HT22 := Lib.hid (fun w1 => turn_22 (v 0) w1 v0r)
      clear v4r v0r vr
      go_wp2_with fail
      go_quiet ((first | (go_at_call 59; with_reducible refine (HT6.out _).mono ?_; rintro e vv ⟨rfl, mm, rfl⟩; first | exact ⟨rfl, _, (World.drewN_drewN ..).trans (congrArg _ (Nat.add_assoc _ _ _))⟩ | exact ⟨rfl, _, World.drewN_drewN ..⟩) | (go_at_call 59; with_reducible refine (HT11.out _).mono ?_; rintro e vv ⟨rfl, mm, rfl⟩; first | exact ⟨rfl, _, (World.drewN_drewN ..).trans (congrArg _ (Nat.add_assoc _ _ _))⟩ | exact ⟨rfl, _, World.drewN_drewN ..⟩) | (go_at_call 59; with_reducible refine (HT25.out _).mono ?_; rintro e vv ⟨rfl, mm, rfl⟩; first | exact ⟨rfl, _, (World.drewN_drewN ..).trans (congrArg _ (Nat.add_assoc _ _ _))⟩ | exact ⟨rfl, _, World.drewN_drewN ..⟩)))
      revert nq; intro na
      have H3 := Lib.hid (show bits BinOp.xor IntKind.u32 (bits BinOp.xor IntKind.u32 (rotI (v 4) 6) (rotI (v 4) 11)) (rotI (v 4) 25) = rot3 (v 4) 6 11 25 from rfl)
      go_wp2_with fail
      rw [H3.out]
      go_quiet (fail)
      revert nq; intro nb
      go_wp2_with fail
      have HTT := Lib.hid (show (v 7 + rot3 (v 4) 6 11 25 + bits BinOp.xor IntKind.u32 (bits BinOp.and IntKind.u32 (v 4) (v 5)) (bits BinOp.and IntKind.u32 (bits BinOp.xor IntKind.u32 IntKind.u32.max (v 4)) (v 6)) + shaKI k + schedA s 64 k) % 4294967296 = tI v (shaKI k) (schedA s 64 k) from rfl)
      rw [HTT.out]
      go_quiet ((first | (go_at_call 59; with_reducible refine (HT2.out _).mono ?_; rintro e vv ⟨rfl, mm, rfl⟩; first | exact ⟨rfl, _, (World.drewN_drewN ..).trans (congrArg _ (Nat.add_assoc _ _ _))⟩ | exact ⟨rfl, _, World.drewN_drewN ..⟩) | (go_at_call 59; with_reducible refine (HT13.out _).mono ?_; rintro e vv ⟨rfl, mm, rfl⟩; first | exact ⟨rfl, _, (World.drewN_drewN ..).trans (congrArg _ (Nat.add_assoc _ _ _))⟩ | exact ⟨rfl, _, World.drewN_drewN ..⟩) | (go_at_call 59; with_reducible refine (HT22.out _).mono ?_; rintro e vv ⟨rfl, mm, rfl⟩; first | exact ⟨rfl, _, (World.drewN_drewN ..).trans (congrArg _ (Nat.add_assoc _ _ _))⟩ | exact ⟨rfl, _, World.drewN_drewN ..⟩)))
      revert nq; intro nc
      have H4 := Lib.hid (show bits BinOp.xor IntKind.u32 (bits BinOp.xor IntKind.u32 (rotI (v 0) 2) (rotI (v 0) 13)) (rotI (v 0) 22) = rot3 (v 0) 2 13 22 from rfl)
      go_wp2_with fail
      rw [H4.out]
      go_quiet (fail)
      revert nq; intro nd
      go_wp2_with fail
      have HUU := Lib.hid (show (rot3 (v 0) 2 13 22 + bits BinOp.xor IntKind.u32 (bits BinOp.xor IntKind.u32 (bits BinOp.and IntKind.u32 (v 0) (v 1)) (bits BinOp.and IntKind.u32 (v 0) (v 2))) (bits BinOp.and IntKind.u32 (v 1) (v 2))) % 4294967296 = uI v from rfl)
      rw [HUU.out]
      have HV := Lib.hid (show ∀ T U, T = tI v (shaKI k) (schedA s 64 k) → U = uI v → (#[.int .u32 (IntKind.u32.wrap (T + U)), .int .u32 (v 0), .int .u32 (v 1), .int .u32 (v 2), .int .u32 (IntKind.u32.wrap (v 3 + T)), .int .u32 (v 4), .int .u32 (v 5), .int .u32 (v 6)] : Array Value) = arrU 8 (roundV v (shaKI k) (schedA s 64 k)) from fun T U hT hU => by subst hT hU; simp only [IntKind.wrap_u32']; rfl)
      generalize hT : tI v (shaKI k) (schedA s 64 k) = T at *
      generalize hU : uI v = U at *
      replace HV := Lib.hid (HV.out T U rfl rfl)
      clear HTT HUU hT hU HT6 HT11 HT25 HT2 HT13 HT22 H3 H4
      go_region_held3 (fun w' => w'.cell? ⟨g', 0, none⟩ = some (.int .u32 (v 0)) ∧ w'.cell? ⟨g', 1, none⟩ = some (.int .u32 (v 1)) ∧ w'.cell? ⟨g', 2, none⟩ = some (.int .u32 (v 2)) ∧ w'.cell? ⟨g', 3, none⟩ = some (.int .u32 (v 3)) ∧ w'.cell? ⟨g', 4, none⟩ = some (.int .u32 (v 4)) ∧ w'.cell? ⟨g', 5, none⟩ = some (.int .u32 (v 5)) ∧ w'.cell? ⟨g', 6, none⟩ = some (.int .u32 (v 6))) (first | go_keep | fail) (fail)
      go_wp2_with fail
      go_roundw
      case rel => exact ⟨k + 1, wr.heap.size, 8, rfl, by go_num, by omega, Lib.hid (by rw [HS.out]; exact own_blk (by rw [← HV.out]; exact Blk.new _ _ _) B.out.size (by decide)), Lib.hid ((OW.out.drewN _).alloc _), Lib.hid (Blk.alloc KK.out _), Lib.hid ((below_drewN B.out _).alloc B.out.size _)⟩
      case measure => simp [intOf]; omega
    · obtain rfl : k = 64 := by omega
      have hk64 : ¬ ((64 : Nat) : Int) < 64 := by omega
      have HSS := Lib.hid (fun i => sumA_step (vA s h 64) h i)
      have HF := Lib.hid (show sumA (vA s h 64) h 8 = stepA s h from rfl)
      have OV0 := Lib.hid (show OwnS wr w.heap.size 44 (some ⟨g', 0, none⟩) c' (uL 8 (sumA (vA s h 64) h 0)) from OV.out)
      have HV0 := Lib.hid (fun i => (show sumA (vA s h 64) h i i = vA s h 64 i by unfold sumA; rw [if_neg (by omega)]))
      have HA8 := Lib.hid (fun (f : Nat → Int) j (hj : j < 8) => uL_at f hj)
      clear OV OW KK HVR
      generalize hv64 : vA s h 64 = v at *
      clear hv64
      go_wp2_with fail
      revert wr
      intro wo B OV0
      go_loopw [13] (fun i wr => ∃ (k : Nat), i = .int .i64 k ∧ k ≤ 8 ∧ Hid (OwnS wr w.heap.size 44 (some ⟨g', 0, none⟩) c' (uL 8 (sumA v h k))) ∧ Hid (Below w.heap.size w wr)) (fun i _ => 8 - (intOf i).toNat)
      case atStart => exact ⟨0, rfl, by omega, OV0, B⟩
      case round =>
        clear OV0 B
        obtain ⟨i, rfl, hi8, OV, B⟩ := hrel
        by_cases hil : i < 8
        · have hi1 : (i : Int) < 8 := by omega
          have hi0 : 0 ≤ (i : Int) := by omega
          have c7 := own_at OV.out (HA8.out (sumA v h i) i hil)
          rw [HV0.out i] at c7
          have cp := HH.out wr B i _ (HA8.out h i hil)
          have z7 := own_fr OV.out i
          obtain ⟨_, hg1, hgB, _, _⟩ := OV.out.form (by rw [uL_length]; omega)
          injection hg1 with hg1; injection hg1 with hg1
          subst hg1
          have HGB := Lib.hid hgB
          have OS := Lib.hid (own_set OV.out i (.int .u32 ((v i + h i) % 4294967296)))
          rw [uL_set, HSS.out i] at OS
          clear hgB
          go_wp2_with fail
          go_region
          go_wp2_with fail
          go_roundw
          case rel => exact ⟨i + 1, by go_num, by omega, Lib.hid (OwnS.drew OS.out), Lib.hid (below_drew (B.out.setCell (p := ⟨g', i, none⟩) HGB.out _))⟩
          case measure => simp [intOf]; omega
        · obtain rfl : i = 8 := by omega
          have hi8' : ¬ ((8 : Nat) : Int) < 8 := by omega
          rw [HF.out] at OV
          go_wp2_with fail
          go_ret
          exact ⟨some ⟨g', 0, none⟩, c', rfl, OV.out, B.out⟩
end Go.Proofs.YtllmgogcemannaaGreatDoor
