/- Package agoraref03: words. -/
import Derived.Test.YtllmgogcemannaaGreatDoorIsT
import Derived.Test.YtllmgogcemannaaGreatDoorPushS
import Derived.Deep.RegionHeld3
import Derived.Deep.RegionLaw
import Derived.Deep.AppendLies
namespace Go.Proofs.YtllmgogcemannaaGreatDoor
open Go.RowKit

def uL (n : Nat) (a : Nat → Int) : List Value := (List.range n).map fun j => Value.int .u32 (a j)
theorem uL_length (n : Nat) (a : Nat → Int) : (uL n a).length = n := by simp [uL]
theorem uL_succ (n : Nat) (a : Nat → Int) : uL (n + 1) a = uL n a ++ [.int .u32 (a n)] := by simp [uL, List.range_succ]
theorem uL_at {n j : Nat} (a : Nat → Int) (h : j < n) : (uL n a)[j]? = some (.int .u32 (a j)) := by simp [uL, h]
theorem uL_one (n : Nat) (a : Nat → Int) : ∀ u ∈ uL n a, u.oneCell' = true := by
  intro u hu
  obtain ⟨x, _, rfl⟩ := List.mem_map.1 hu
  rfl
theorem sched_stable (s : List UInt8) (j n : Nat) (h : j < n) : ∀ m, n ≤ m → schedA s m j = schedA s n j
  | 0, hm => by omega
  | m + 1, hm => by
    by_cases e : n = m + 1
    · rw [e]
    · show (if j = m then _ else _) = _
      rw [if_neg (by omega)]
      exact sched_stable s j n h m (by omega)
theorem sched_val (s : List UInt8) {j : Nat} (h : j < 64) : schedA s 64 j = schedV s (schedA s 64) j := by
  rw [sched_stable s j (j + 1) (by omega) 64 (by omega)]
  show (if j = j then _ else _) = _
  rw [if_pos rfl]
  unfold schedV
  split
  · rfl
  · rw [← sched_stable s (j - 16) j (by omega) 64 (by omega), ← sched_stable s (j - 15) j (by omega) 64 (by omega), ← sched_stable s (j - 7) j (by omega) 64 (by omega), ← sched_stable s (j - 2) j (by omega) 64 (by omega)]
theorem cell_newD (w : World) (x : Value) (t : TypeId) : (w.alloc (.cells #[x] t)).drew.cell? ⟨w.heap.size, 0, none⟩ = some x := cell_new w x t
theorem infoU32 : (Tryz.prog.info? 44).map (fun i => (i.zero, i.size, i.bytes)) = some (some (.int .u32 0), 1, 4) := by kernel_rfl
set_option maxRecDepth 100000 in
set_option maxHeartbeats 8000000 in
theorem words_any (A : Option Addr) (c hi : Nat) (s : List UInt8) (w : World) (hrow : Row w hi A (u8s s)) (hhi : hi ≤ w.heap.size) (hs : s.length = 64) :
    Calls Tryz.prog 57 #[.slice A 64 c] w fun e w' => ∃ B d, e = .returned (.slice B 64 d) ∧ OwnS w' w.heap.size 44 B d (uL 64 (schedA s 64)) ∧ Below w.heap.size w w' := by
  obtain ⟨b, off, rfl, hbhi, hc⟩ := hrow (by rw [u8s_length]; omega)
  have HB : Hid (∀ (W' : World), Hid (Below w.heap.size w W') → ∀ j, j < 64 → W'.cell? ⟨b, off + j, none⟩ = some (.int .u8 ((s.getD j 0).toNat : Nat))) := Lib.hid (fun W' hW j hj => by
    have h := hc j (by rw [u8s_length]; omega)
    rw [hW.out.cell (by show b < _; omega), h]
    simp [u8s, hs, hj])
  have HS := Lib.hid (fun j (h : j < 64) => sched_val s h)
  clear hc hrow
  go_enter Tryz.func57, Tryz.ntmps57
  go_wp2_with fail
  go_loopw [3, 4] (fun v i wr => ∃ (k : Nat) (A' : Option Addr) (c' : Nat), v = .slice A' k c' ∧ i = .int .i64 k ∧ k ≤ 16 ∧ Hid (OwnS wr w.heap.size 44 A' c' (uL k (schedA s 64))) ∧ Hid (Below w.heap.size w wr)) (fun _ i _ => 16 - (intOf i).toNat)
  case atStart => exact ⟨0, none, 0, rfl, rfl, by omega, Lib.hid (OwnS.nil _ _ _), Lib.hid (Below.refl _ _)⟩
  case round =>
    obtain ⟨k, A', c', rfl, rfl, hk, O, B⟩ := hrel
    by_cases hlt : k < 16
    · have hlt' : (k : Int) < 16 := by omega
      have w0 : IntKind.i64.wrap (4 * (k : Int)) = 4 * (k : Int) := by rw [IntKind.wrap_i64]; omega
      have w1 : IntKind.i64.wrap (4 * (k : Int) + 1) = 4 * (k : Int) + 1 := by rw [IntKind.wrap_i64]; omega
      have w2 : IntKind.i64.wrap (4 * (k : Int) + 2) = 4 * (k : Int) + 2 := by rw [IntKind.wrap_i64]; omega
      have w3 : IntKind.i64.wrap (4 * (k : Int) + 3) = 4 * (k : Int) + 3 := by rw [IntKind.wrap_i64]; omega
      have t0 : (4 * (k : Int)).toNat = 4 * k := by omega
      have t1 : (4 * (k : Int) + 1).toNat = 4 * k + 1 := by omega
      have t2 : (4 * (k : Int) + 2).toNat = 4 * k + 2 := by omega
      have t3 : (4 * (k : Int) + 3).toNat = 4 * k + 3 := by omega
      have g0 : 0 ≤ 4 * (k : Int) := by omega
      have g1 : 0 ≤ 4 * (k : Int) + 1 := by omega
      have g2 : 0 ≤ 4 * (k : Int) + 2 := by omega
      have g3 : 0 ≤ 4 * (k : Int) + 3 := by omega
      have l0 : 4 * (k : Int) < 64 := by omega
      have l1 : 4 * (k : Int) + 1 < 64 := by omega
      have l2 : 4 * (k : Int) + 2 < 64 := by omega
      have l3 : 4 * (k : Int) + 3 < 64 := by omega
      have HV := Lib.hid (show schedA s 64 k = word4 (s.getD (4 * k) 0).toNat (s.getD (4 * k + 1) 0).toNat (s.getD (4 * k + 2) 0).toNat (s.getD (4 * k + 3) 0).toNat by rw [HS.out k (by omega)]; unfold schedV; rw [if_pos hlt])
      have hb0 := (s.getD (4 * k) 0).toNat_lt
      have hb1 := (s.getD (4 * k + 1) 0).toNat_lt
      have hb2 := (s.getD (4 * k + 2) 0).toNat_lt
      have hb3 := (s.getD (4 * k + 3) 0).toNat_lt
      rw [word_sum _ _ _ _ hb0 hb1 hb2 hb3] at HV
      have c0 := HB.out wr B (4 * k) (by omega)
      have c1 := HB.out wr B (4 * k + 1) (by omega)
      have c2 := HB.out wr B (4 * k + 2) (by omega)
      have c3 := HB.out wr B (4 * k + 3) (by omega)
      have HB4 := Lib.hid (fun W' hW => HB.out W' hW (4 * k) (by omega))
      have HB5 := Lib.hid (fun W' hW => HB.out W' hW (4 * k + 1) (by omega))
      have HB6 := Lib.hid (fun W' hW => HB.out W' hW (4 * k + 2) (by omega))
      have HB7 := Lib.hid (fun W' hW => HB.out W' hW (4 * k + 3) (by omega))
      generalize (s.getD (4 * k) 0).toNat = x0 at *
      generalize (s.getD (4 * k + 1) 0).toNat = x1 at *
      generalize (s.getD (4 * k + 2) 0).toNat = x2 at *
      generalize (s.getD (4 * k + 3) 0).toNat = x3 at *
      have HX := Lib.hid (show IntKind.u32.wrap (IntKind.u32.wrap (IntKind.u32.wrap (IntKind.u32.wrap (IntKind.u32.wrap (x0 : Int) * 16777216) + IntKind.u32.wrap (IntKind.u32.wrap (x1 : Int) * 65536)) + IntKind.u32.wrap (IntKind.u32.wrap (x2 : Int) * 256)) + IntKind.u32.wrap (x3 : Int)) = schedA s 64 k by
        rw [HV.out]; simp only [IntKind.wrap_u32']; omega)
      have HN := Lib.hid (uL_succ k (schedA s 64))
      have hbz := B.out.size
      clear hb0 hb1 hb2 hb3 HV
      go_wp2_with fail
      go_region_held3 (fun w' => w'.cell? ⟨b, off + 4 * k, none⟩ = some (.int .u8 (x0 : Nat)) ∧ w'.cell? ⟨b, off + (4 * k + 1), none⟩ = some (.int .u8 (x1 : Nat)) ∧ w'.cell? ⟨b, off + (4 * k + 2), none⟩ = some (.int .u8 (x2 : Nat)) ∧ w'.cell? ⟨b, off + (4 * k + 3), none⟩ = some (.int .u8 (x3 : Nat))) (first | go_keep | exact ⟨HB4.out _ (by assumption), HB5.out _ (by assumption), HB6.out _ (by assumption), HB7.out _ (by assumption)⟩) (first
        | ((refine step_pushS (by rfl) (.tmp 14) (.tmp 48) 50 (by rfl) w.heap.size 44 (.int .u32 0) 4 Tryz.underlying50 infoU32 (by rfl) A' c' k (k + 1) (uL k (schedA s 64)) (uL_length _ _) (by rfl) ((O.out.alloc _).drew) ⟨wr.heap.size, 0, none⟩ 1 1 [.int .u32 (IntKind.u32.wrap (IntKind.u32.wrap (IntKind.u32.wrap (IntKind.u32.wrap (IntKind.u32.wrap (x0 : Int) * 16777216) + IntKind.u32.wrap (IntKind.u32.wrap (x1 : Int) * 65536)) + IntKind.u32.wrap (IntKind.u32.wrap (x2 : Int) * 256)) + IntKind.u32.wrap (x3 : Int)))] (by rfl) (by rfl) ?hu ?h1 (by rfl) ?hn ?hb ?_); (case hu => (intro j u hu; rw [add_at]; obtain ⟨rfl, rfl⟩ := get_one hu; exact cell_newD wr _ _)); (case h1 => (intro u hu; rw [List.mem_singleton.1 hu]; rfl)); (case hn => omega); (case hb => (show w.heap.size ≤ (wr.alloc _).heap.size; rw [World.size_alloc]; omega)); intro A5 c5 w5 o5 k5 g5; have b5 := Lib.hid (k5.out _ (below_drew (B.out.alloc hbz _)))))
      all_goals
        replace o5 := Lib.hid (show OwnS w5 w.heap.size 44 A5 c5 (uL (k + 1) (schedA s 64)) by have h := o5.out; rw [HX.out] at h; rw [HN.out]; exact h)
        go_wp2_with fail
        go_roundw
        case rel => exact ⟨k + 1, A5, c5, rfl, by go_num, by omega, o5, b5⟩
        case measure => simp [intOf]; omega
    · obtain rfl : k = 16 := by omega
      have hk16 : ¬ ((16 : Nat) : Int) < 16 := by omega
      have HR := Lib.hid (schedA_range s 64)
      have HSV := Lib.hid (fun m (h : m + 16 < 64) => show schedA s 64 (m + 16) = (schedA s 64 m + lowI (schedA s 64 (m + 1)) + schedA s 64 (m + 9) + highI (schedA s 64 (m + 14))) % 4294967296 from by
        rw [sched_val s h]; unfold schedV; rw [if_neg (by omega)]
        rw [show m + 16 - 16 = m by omega, show m + 16 - 15 = m + 1 by omega, show m + 16 - 7 = m + 9 by omega, show m + 16 - 2 = m + 14 by omega]
        simp only [IntKind.wrap_u32']; omega)
      have HN := Lib.hid (fun m => uL_succ m (schedA s 64))
      have HL := Lib.hid (fun n => uL_length n (schedA s 64))
      have HAT := Lib.hid (fun n j (h : j < n) => uL_at (schedA s 64) h)
      generalize hS : schedA s 64 = S at *
      have HS0 := Lib.hid hS
      clear hS
      clear HB HS
      go_wp2_with fail
      revert wr
      intro wo B O
      go_loopw [3, 5] (fun v i wr => ∃ (j : Nat) (A' : Option Addr) (c' : Nat), v = .slice A' j c' ∧ i = .int .i64 j ∧ 16 ≤ j ∧ j ≤ 64 ∧ Hid (OwnS wr w.heap.size 44 A' c' (uL j S)) ∧ Hid (Below w.heap.size w wr)) (fun _ i _ => 64 - (intOf i).toNat)
      case atStart => exact ⟨16, A', c', rfl, rfl, by omega, by omega, O, B⟩
      case round =>
        clear O B
        obtain ⟨j, A', c', rfl, rfl, hj, hj2, O, B⟩ := hrel
        by_cases hlt : j < 64
        · obtain ⟨m, rfl⟩ : ∃ m, j = m + 16 := ⟨j - 16, by omega⟩
          obtain ⟨g, hA, hgB, hgl, _⟩ := O.out.form (by rw [HL.out]; omega)
          subst hA
          have d0 := own_at O.out (HAT.out (m + 16) m (by omega))
          have d1 := own_at O.out (HAT.out (m + 16) (m + 1) (by omega))
          have d9 := own_at O.out (HAT.out (m + 16) (m + 9) (by omega))
          have d14 := own_at O.out (HAT.out (m + 16) (m + 14) (by omega))
          have HV := Lib.hid (HSV.out m (by omega))
          have r1 := HR.out (m + 1)
          have r14 := HR.out (m + 14)
          have HO2 := Lib.hid (fun w1 (h : OwnS w1 w.heap.size 44 (some ⟨g, 0, none⟩) c' (uL (m + 16) S)) => h)
          generalize S (m + 1) = x1 at *
          generalize S (m + 14) = x14 at *
          generalize S (m + 9) = x9 at *
          have R7 := Lib.hid (fun w1 => turn_7 x1 w1 r1)
          have R18 := Lib.hid (fun w1 => turn_18 x1 w1 r1)
          have R17 := Lib.hid (fun w1 => turn_17 x14 w1 r14)
          have R19 := Lib.hid (fun w1 => turn_19 x14 w1 r14)
          obtain ⟨r1a, r1b⟩ := r1
          obtain ⟨r14a, r14b⟩ := r14
          rw [show ((m + 16 : Nat) : Int) = (m : Int) + 16 by omega]
          have hm0 : 0 ≤ (m : Int) := by omega
          have hm1 : (m : Int) + 16 < 64 := by omega
          have hbz := B.out.size
          clear hj hj2 hlt hgl
          go_wp2_with fail
          refine (R7.out _).mono ?_; rintro e v1 ⟨rfl, n1, rfl⟩
          go_wp2_with fail
          refine (R18.out _).mono ?_; rintro e v2 ⟨rfl, n2, rfl⟩
          go_wp2_with fail
          refine (R17.out _).mono ?_; rintro e v3 ⟨rfl, n3, rfl⟩
          go_wp2_with fail
          refine (R19.out _).mono ?_; rintro e v4 ⟨rfl, n4, rfl⟩
          go_wp2_with fail
          have HLO := Lib.hid (show bits BinOp.xor IntKind.u32 (bits BinOp.xor IntKind.u32 (rotI x1 7) (rotI x1 18)) (x1 / 8) = lowI x1 from rfl)
          have HHI := Lib.hid (show bits BinOp.xor IntKind.u32 (bits BinOp.xor IntKind.u32 (rotI x14 17) (rotI x14 19)) (x14 / 1024) = highI x14 from rfl)
          rw [HLO.out, HHI.out]
          generalize lowI x1 = lo at *
          generalize highI x14 = hi2 at *
          have OD := Lib.hid (show OwnS (wr.drewN (n1 + n2 + n3 + n4)) w.heap.size 44 (some ⟨g, 0, none⟩) c' (uL (m + 16) S) from O.out)
          have BD := Lib.hid (below_drewN B.out (n1 + n2 + n3 + n4))
          have e0 : (wr.drewN (n1 + n2 + n3 + n4)).cell? ⟨g, m, none⟩ = some (.int .u32 (S m)) := d0
          have e9 : (wr.drewN (n1 + n2 + n3 + n4)).cell? ⟨g, m + 9, none⟩ = some (.int .u32 x9) := d9
          clear d0 d1 d9 d14 R7 R18 R17 R19 HLO HHI O B
          generalize wr.drewN (n1 + n2 + n3 + n4) = wd at *
          have hbd := BD.out.size
          generalize S m = x0 at *
          have w16 : IntKind.i64.wrap ((m : Int) + 16 - 16) = (m : Int) := by rw [IntKind.wrap_i64]; omega
          have w7 : IntKind.i64.wrap ((m : Int) + 16 - 7) = (m : Int) + 9 := by rw [IntKind.wrap_i64]; omega
          have wm : IntKind.i64.wrap (m : Int) = (m : Int) := by rw [IntKind.wrap_i64]; omega
          have w9 : IntKind.i64.wrap ((m : Int) + 9) = (m : Int) + 9 := by rw [IntKind.wrap_i64]; omega
          have t9 : ((m : Int) + 9).toNat = m + 9 := by omega
          have g9 : 0 ≤ (m : Int) + 9 := by omega
          have l0 : (m : Int) < (m : Int) + 16 := by omega
          have l9 : (m : Int) + 9 < (m : Int) + 16 := by omega
          have HX := Lib.hid (show IntKind.u32.wrap (IntKind.u32.wrap (IntKind.u32.wrap (x0 + lo) + x9) + hi2) = S (m + 16) by rw [HV.out]; simp only [IntKind.wrap_u32']; omega)
          have HNm := Lib.hid (HN.out (m + 16))
          have HLm := Lib.hid (HL.out (m + 16))
          go_region_law (first
            | ((refine step_pushS (by rfl) (.tmp 80) (.tmp 96) 50 (by rfl) w.heap.size 44 (.int .u32 0) 4 Tryz.underlying50 infoU32 (by rfl) (some ⟨g, 0, none⟩) c' (m + 16) (m + 16 + 1) (uL (m + 16) S) HLm.out (by rfl) ((OD.out.alloc _).drew) ⟨wd.heap.size, 0, none⟩ 1 1 [.int .u32 (IntKind.u32.wrap (IntKind.u32.wrap (IntKind.u32.wrap (x0 + lo) + x9) + hi2))] (by rfl) (by rfl) ?hu ?h1 (by rfl) ?hn ?hb ?_); (case hu => (intro j u hu; rw [add_at]; obtain ⟨rfl, rfl⟩ := get_one hu; exact cell_newD wd _ _)); (case h1 => (intro u hu; rw [List.mem_singleton.1 hu]; rfl)); (case hn => omega); (case hb => (show w.heap.size ≤ (wd.alloc _).heap.size; rw [World.size_alloc]; omega)); intro A5 c5 w5 o5 k5 g5; have b5 := Lib.hid (k5.out _ (below_drew (BD.out.alloc hbd _)))))
          all_goals
            replace o5 := Lib.hid (show OwnS w5 w.heap.size 44 A5 c5 (uL (m + 16 + 1) S) by have h := o5.out; rw [HX.out] at h; rw [HNm.out]; exact h)
            go_wp2_with fail
            go_roundw
            case rel => exact ⟨m + 16 + 1, A5, c5, rfl, by go_num, by omega, by omega, o5, b5⟩
            case measure => simp [intOf]; omega
        · obtain rfl : j = 64 := by omega
          have hj64 : ¬ ((64 : Nat) : Int) < 64 := by omega
          go_wp2_with fail
          go_ret
          exact ⟨A', c', rfl, by rw [HS0.out]; exact O.out, B.out⟩
end Go.Proofs.YtllmgogcemannaaGreatDoor
