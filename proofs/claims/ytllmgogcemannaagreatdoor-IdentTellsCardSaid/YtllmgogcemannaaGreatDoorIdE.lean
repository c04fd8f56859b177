/- Package sum: the schedule of a block. -/
import Derived.Test.YtllmgogcemannaaGreatDoorIdD
import Derived.Test.YtllmgogcemannaaGreatDoorStruct
import Derived.Deep.RegionHeld3
namespace Go.Proofs.YtllmgogcemannaaGreatDoor
open Go.RowKit

def arrU (n : Nat) (a : Nat → Int) : Array Value := ((List.range n).map fun j => Value.int .u32 (a j)).toArray
theorem arrU_size (n : Nat) (a : Nat → Int) : (arrU n a).size = n := by simp [arrU]
theorem arrU_at {n j : Nat} (a : Nat → Int) (h : j < n) : (arrU n a)[j]? = some (.int .u32 (a j)) := by simp [arrU, h]
theorem arrU_set {n i : Nat} (a : Nat → Int) (v : Int) : (arrU n a).setIfInBounds i (.int .u32 v) = arrU n (fun j => if j = i then v else a j) := by
  apply Array.ext_getElem?
  intro j
  by_cases hj : j < n
  · rw [Array.getElem?_setIfInBounds]
    by_cases hij : i = j
    · subst hij; rw [if_pos rfl, if_pos (by rw [arrU_size]; exact hj), arrU_at _ hj, if_pos rfl]
    · rw [if_neg hij, arrU_at _ hj, arrU_at _ hj, if_neg (fun h => hij h.symm)]
  · rw [Array.getElem?_eq_none (by simp [arrU_size]; omega), Array.getElem?_eq_none (by rw [arrU_size]; omega)]
/-- The low and the high part of a word of the schedule. -/
def lowI (x : Int) : Int := bits .xor .u32 (bits .xor .u32 (rotI x 7) (rotI x 18)) (x / 8)
def highI (y : Int) : Int := bits .xor .u32 (bits .xor .u32 (rotI y 17) (rotI y 19)) (y / 1024)
theorem arr64_size : (Tryz.prog.info? 68).map (·.size) = some 64 := by kernel_rfl
theorem arrU_one (n : Nat) (a : Nat → Int) : (arrU n a).all (·.oneCell') = true := by
  rw [Array.all_eq_true]; intro i h; simp [arrU, Value.oneCell']
/-- The i-th word, out of those before it. -/
def schedV (s : List UInt8) (a : Nat → Int) (i : Nat) : Int :=
  if i < 16 then word4 (s.getD (4 * i) 0).toNat (s.getD (4 * i + 1) 0).toNat (s.getD (4 * i + 2) 0).toNat (s.getD (4 * i + 3) 0).toNat
  else IntKind.u32.wrap (IntKind.u32.wrap (IntKind.u32.wrap (a (i - 16) + lowI (a (i - 15))) + a (i - 7)) + highI (a (i - 2)))
def schedA (s : List UInt8) : Nat → Nat → Int
  | 0 => fun _ => 0
  | i + 1 => fun j => if j = i then schedV s (schedA s i) i else schedA s i j
theorem schedV_range (s : List UInt8) (a : Nat → Int) (i : Nat) : 0 ≤ schedV s a i ∧ schedV s a i < 4294967296 := by
  unfold schedV
  split
  · exact word4_range _ _ _ _
  · exact wrap32 _
theorem schedA_range (s : List UInt8) : ∀ i j, 0 ≤ schedA s i j ∧ schedA s i j < 4294967296
  | 0, _ => ⟨by simp [schedA], by simp [schedA]⟩
  | i + 1, j => by
    unfold schedA
    split
    · exact schedV_range _ _ _
    · exact schedA_range s i j
theorem drop_four {s : List UInt8} {k : Nat} (h : 4 * k + 4 ≤ s.length) : ∃ r, s.drop (4 * k) = s.getD (4 * k) 0 :: s.getD (4 * k + 1) 0 :: s.getD (4 * k + 2) 0 :: s.getD (4 * k + 3) 0 :: r ∧ r.length ≤ s.length := by
  refine ⟨s.drop (4 * k + 4), ?_, by rw [List.length_drop]; omega⟩
  have e : ∀ j, j < s.length → s.drop j = s.getD j 0 :: s.drop (j + 1) := fun j hj => by
    rw [List.drop_eq_getElem_cons hj, List.getD_eq_getElem?_getD, List.getElem?_eq_getElem hj]; rfl
  rw [e (4 * k) (by omega), e (4 * k + 1) (by omega), e (4 * k + 2) (by omega), e (4 * k + 3) (by omega)]
set_option maxRecDepth 100000 in
set_option maxHeartbeats 4000000 in
theorem schedule_any (s : List UInt8) (w : World) (hs : s.length = 64) :
    Calls Tryz.prog 54 #[.string ⟨s.toArray⟩] w fun e w' => e = .returned (.agg (arrU 64 (schedA s 64))) ∧ Below w.heap.size w w' := by
  have hs1 : (s.length : Int) = 64 := by omega
  go_enter Tryz.func54, Tryz.ntmps54
  go_wp2_with fail
  go_loopw [8] (fun i wr => ∃ (k : Nat), i = .int .i64 k ∧ k ≤ 64 ∧ Hid (Blk wr w.heap.size 68 (arrU 64 (schedA s k))) ∧ Hid (Below w.heap.size w wr)) (fun i _ => 64 - (intOf i).toNat)
  case atStart =>
    exact ⟨0, rfl, by omega, Lib.hid (Blk.new _ _ _), Lib.hid ((Below.refl w.heap.size w).alloc (Nat.le_refl _) _)⟩
  case round =>
    obtain ⟨k, rfl, hk, K, B⟩ := hrel
    by_cases hlt : k < 64
    · by_cases h16 : k < 16
      · have g16 : (k : Int) < 16 := by omega
        have gk0 : 0 ≤ (k : Int) := by omega
        have gk4 : (4 : Int) * k ≤ s.length := by omega
        obtain ⟨r, hr, hrl⟩ := drop_four (s := s) (k := k) (by omega)
        have X : (⟨s.toArray⟩ : ByteArray).extract (4 * k) 64 = ⟨(s.drop (4 * k)).toArray⟩ := by have := bx_end s (4 * k); rwa [hs] at this
        rw [hr] at X
        have HW := Lib.hid (fun w1 => word_any (s.getD (4 * k) 0) (s.getD (4 * k + 1) 0) (s.getD (4 * k + 2) 0) (s.getD (4 * k + 3) 0) r w1 (by omega))
        have HV := Lib.hid (show schedV s (schedA s k) k = word4 (s.getD (4 * k) 0).toNat (s.getD (4 * k + 1) 0).toNat (s.getD (4 * k + 2) 0).toNat (s.getD (4 * k + 3) 0).toNat by unfold schedV; rw [if_pos h16])
        generalize word4 (s.getD (4 * k) 0).toNat (s.getD (4 * k + 1) 0).toNat (s.getD (4 * k + 2) 0).toNat (s.getD (4 * k + 3) 0).toNat = V at HW HV
        clear hr
        go_wp2_with fail
        refine (HW.out _).mono ?_; rintro e w2 ⟨rfl, b2⟩
        have hbs := B.out.size
        have K2 := Lib.hid (K.out.later b2)
        have B2 := Lib.hid (B.out.trans (b2.mono hbs))
        have d := (K2.out.cell k).trans (arrU_at _ hlt)
        have z := K2.out.frozen k
        have HK := Lib.hid (show Blk (w2.setCell ⟨w.heap.size, k, none⟩ (.int .u32 V)) w.heap.size 68 (arrU 64 (schedA s (k + 1))) by
          have := K2.out.set_ k (.int .u32 V)
          rw [arrU_set, ← HV.out] at this
          rw [← HV.out]; exact this)
        clear b2
        go_wp2_with fail
        go_roundw
        case rel => exact ⟨k + 1, by go_num, by omega, HK, Lib.hid (B2.out.setCell (p := ⟨w.heap.size, k, none⟩) (Nat.le_refl _) _)⟩
        case measure => simp [intOf]; omega
      · obtain ⟨j, rfl⟩ : ∃ j, k = j + 16 := ⟨k - 16, by omega⟩
        have hj0 : 0 ≤ (j : Int) := by omega
        have hj1 : (j : Int) + 16 < 64 := by omega
        have HV := Lib.hid (show schedV s (schedA s (j + 16)) (j + 16) = IntKind.u32.wrap (IntKind.u32.wrap (IntKind.u32.wrap (schedA s (j + 16) j + lowI (schedA s (j + 16) (j + 1))) + schedA s (j + 16) (j + 9)) + highI (schedA s (j + 16) (j + 14))) by unfold schedV; rw [if_neg h16]; rfl)
        have r1 := schedA_range s (j + 16) (j + 1)
        have r14 := schedA_range s (j + 16) (j + 14)
        have d0 := (K.out.cell j).trans (arrU_at _ (by omega))
        have d1 := (K.out.cell (j + 1)).trans (arrU_at _ (by omega))
        have d9 := (K.out.cell (j + 9)).trans (arrU_at _ (by omega))
        have d14 := (K.out.cell (j + 14)).trans (arrU_at _ (by omega))
        have d16 := (K.out.cell (j + 16)).trans (arrU_at _ hlt)
        have z16 := K.out.frozen (j + 16)
        have KP := Lib.hid (fun (m : Nat) (V : Int) => (show ((wr.drewN m).setCell ⟨w.heap.size, j + 16, none⟩ (.int .u32 V)).cell? ⟨w.heap.size, j, none⟩ = some (.int .u32 (schedA s (j + 16) j)) ∧ ((wr.drewN m).setCell ⟨w.heap.size, j + 16, none⟩ (.int .u32 V)).cell? ⟨w.heap.size, j + 9, none⟩ = some (.int .u32 (schedA s (j + 16) (j + 9))) by
          have h := (show Blk (wr.drewN m) w.heap.size 68 (arrU 64 (schedA s (j + 16))) from K.out).set_ (j + 16) (.int .u32 V)
          rw [arrU_set] at h
          refine ⟨(h.cell j).trans ((arrU_at _ (by omega)).trans ?_), (h.cell (j + 9)).trans ((arrU_at _ (by omega)).trans ?_)⟩
          · rw [if_neg (by omega)]
          · rw [if_neg (by omega)]))
        have KS := Lib.hid (fun (m : Nat) (V : Int) => (show Blk ((wr.drewN m).setCell ⟨w.heap.size, j + 16, none⟩ (.int .u32 V)) w.heap.size 68 (arrU 64 (fun i => if i = j + 16 then V else schedA s (j + 16) i)) by
          have h := (show Blk (wr.drewN m) w.heap.size 68 (arrU 64 (schedA s (j + 16))) from K.out).set_ (j + 16) (.int .u32 V)
          rw [arrU_set] at h
          exact h))
        have HST := Lib.hid (show ∀ V, schedV s (schedA s (j + 16)) (j + 16) = V → (fun i => if i = j + 16 then V else schedA s (j + 16) i) = schedA s (j + 16 + 1) from fun V h => by rw [← h]; rfl)
        generalize schedA s (j + 16) (j + 1) = x1 at *
        generalize schedA s (j + 16) (j + 14) = x14 at *
        generalize schedA s (j + 16) j = x0 at *
        generalize schedA s (j + 16) (j + 9) = x9 at *
        have R7 := Lib.hid (fun w1 => rot_7 x1 w1 r1)
        have R18 := Lib.hid (fun w1 => rot_18 x1 w1 r1)
        have R17 := Lib.hid (fun w1 => rot_17 x14 w1 r14)
        have R19 := Lib.hid (fun w1 => rot_19 x14 w1 r14)
        obtain ⟨r1a, r1b⟩ := r1
        obtain ⟨r14a, r14b⟩ := r14
        rw [show ((j + 16 : Nat) : Int) = (j : Int) + 16 by omega]
        have hb0 : (j : Int) < 64 := by omega
        have hb9 : (j : Int) + 9 < 64 := by omega
        have hc9 : 0 ≤ (j : Int) + 9 := by omega
        have hc16 : 0 ≤ (j : Int) + 16 := by omega
        have wj0 : IntKind.i64.wrap (j : Int) = j := by rw [IntKind.wrap_i64]; omega
        have wj7 : IntKind.i64.wrap ((j : Int) + 16 - 7) = (j : Int) + 9 := by rw [IntKind.wrap_i64]; omega
        have t9 : ((j : Int) + 9).toNat = j + 9 := by omega
        have t16 : ((j : Int) + 16).toNat = j + 16 := by omega
        have wj9 : IntKind.i64.wrap ((j : Int) + 9) = (j : Int) + 9 := by rw [IntKind.wrap_i64]; omega
        go_wp2_with fail
        go_quiet (fail)
        go_wp2_with fail
        refine (R7.out _).mono ?_; rintro e w2 ⟨rfl, rfl⟩
        go_wp2_with fail
        refine (R18.out _).mono ?_; rintro e w2 ⟨rfl, rfl⟩
        go_wp2_with fail
        refine (R17.out _).mono ?_; rintro e w2 ⟨rfl, rfl⟩
        go_wp2_with fail
        refine (R19.out _).mono ?_; rintro e w2 ⟨rfl, rfl⟩
        go_wp2_with fail
        go_region_held3 (fun w' => w'.cell? ⟨w.heap.size, j, none⟩ = some (.int .u32 x0) ∧ w'.cell? ⟨w.heap.size, j + 9, none⟩ = some (.int .u32 x9)) (first | go_keep | exact KP.out _ _) (fail)
        go_wp2_with fail
        go_roundw
        case rel => exact ⟨j + 16 + 1, by go_num, by omega, Lib.hid (by rw [← HST.out _ HV.out]; exact KS.out _ _), Lib.hid ((below_drewN B.out _).setCell (p := ⟨w.heap.size, j + 16, none⟩) (Nat.le_refl _) _)⟩
        case measure => simp [intOf]; omega
    · obtain rfl : k = 64 := by omega
      have HI := Lib.hid (show (Tryz.prog.info? 68).map (·.size) = some (arrU 64 (schedA s 64)).size by rw [arrU_size]; exact arr64_size)
      have H1 := Lib.hid (arrU_one 64 (schedA s 64))
      have hsz := arrU_size 64 (schedA s 64)
      generalize hcs : arrU 64 (schedA s 64) = cs at *
      have HCS := Lib.hid hcs
      clear hcs
      go_wp2_with (first
        | (refine wpList_load_row rfl 68 _ rfl w.heap.size rfl 68 cs (0, 0) _ K.out Tryz.underlying68 rfl HI.out ?_)
        | (refine wpList_store_row rfl 68 _ _ rfl w.heap.size cs rfl rfl 68 _ K.out HI.out ?_ H1.out ?_))
      · rfl
      have HS : (wr.setRow w.heap.size cs).heap[w.heap.size]? = some (.cells cs 68 (0, 0)) := setRow_heap wr w.heap.size _ _ _ _ K.out
      refine bodyPost_ret (results_cell_row rfl _ _ w.heap.size 68 cs (0, 0) _ rfl HS Tryz.underlying68 rfl HI.out) rfl ⟨by rw [HCS.out], ?_⟩
      have hb := B.out
      exact ⟨hb.os, hb.tape, hb.output, by have := hb.size; simp only [World.setRow]; rw [Array.size_modify]; omega, fun i hi => (setRow_other wr w.heap.size i _ (by omega)).trans (hb.block i hi)⟩
end Go.Proofs.YtllmgogcemannaaGreatDoor
