/- Package sum: a step. -/
import Derived.Test.YtllmgogcemannaaGreatDoorIdG
import Derived.Deep.RegionHeld3
import Derived.BigQuiet
namespace Go.Proofs.YtllmgogcemannaaGreatDoor
open Go.RowKit

theorem below_drew {B : Nat} {a w : World} (h : Below B a w) : Below B a w.drew := ⟨h.os, h.tape, h.output, h.size, h.block⟩
def tI (v : Nat → Int) (k w : Int) : Int := (v 7 + rot3 (v 4) 6 11 25 + bits BinOp.xor IntKind.u32 (bits BinOp.and IntKind.u32 (v 4) (v 5)) (bits BinOp.and IntKind.u32 (bits BinOp.xor IntKind.u32 IntKind.u32.max (v 4)) (v 6)) + k + w) % 4294967296
def uI (v : Nat → Int) : Int := (rot3 (v 0) 2 13 22 + bits BinOp.xor IntKind.u32 (bits BinOp.xor IntKind.u32 (bits BinOp.and IntKind.u32 (v 0) (v 1)) (bits BinOp.and IntKind.u32 (v 0) (v 2))) (bits BinOp.and IntKind.u32 (v 1) (v 2))) % 4294967296
def roundV (v : Nat → Int) (k w : Int) : Nat → Int := fun j => if j = 0 then (tI v k w + uI v) % 4294967296 else if j = 4 then (v 3 + tI v k w) % 4294967296 else v (j - 1)
theorem hone7 (a b c d e f g : Int) : ∀ v ∈ ([.int .u32 a, .int .u32 b, .int .u32 c, .int .u32 d, .int .u32 e, .int .u32 f, .int .u32 g] : List Value), v.oneCell' = true := by
  intro v hv
  simp only [List.mem_cons, List.not_mem_nil, or_false] at hv
  rcases hv with rfl | rfl | rfl | rfl | rfl | rfl | rfl <;> rfl
theorem hsrc7 {w : World} {g : Nat} {t : TypeId} (a b c d e f k l : Value) (h : Blk w g t #[a, b, c, d, e, f, k, l]) : ∀ j v, [a, b, c, d, e, f, k][j]? = some v → w.cell? ((⟨g, 0, none⟩ : Addr).add j) = some v := by
  intro j v hv
  rw [add0, h.cell j]
  match j, hv with
  | 0, hv => exact hv
  | 1, hv => exact hv
  | 2, hv => exact hv
  | 3, hv => exact hv
  | 4, hv => exact hv
  | 5, hv => exact hv
  | 6, hv => exact hv
theorem step_copy_set {P : Program} {ops : Array Oper} {o : Oper} {a : Act} {w : World} {K : Act → World → Prop} {Q : Exit → Act → World → Prop} {E : Prop} (hgd : o.guard = none) (d s : Operand) (dT sT : TypeId)
    (ho : o.op = .call { callee := .builtin .copy, args := #[d, s], argTypes := #[dT, sT] }) (elem : TypeId) (hu : P.underlying dT = some (.slice elem)) (hsz : (P.info? elem).map (·.size) = some 1)
    (ad : Addr) (dLen dCap sLen sCap : Nat) (g off : Nat) (hd : a.eval d = .slice (some ⟨g, off, none⟩) dLen dCap) (hs : a.eval s = .slice (some ad) sLen sCap)
    (cur : Array Value) (t : TypeId) (hg : Blk w g t cur) (cs : List Value) (hn : cs.length = Nat.min sLen dLen)
    (hsrc : ∀ j v, cs[j]? = some v → w.cell? (ad.add j) = some v)
    (hfit : off + cs.length ≤ cur.size) (h1 : ∀ v ∈ cs, v.oneCell' = true) (new : Array Value) (hnew : new = (cur.toList.take off ++ cs ++ cur.toList.drop (off + cs.length)).toArray)
    (h : ∀ w', Hid (Blk w' g t new) → Hid (∀ i, i ≠ g → w'.heap[i]? = w.heap[i]?) → Hid (∀ B w0, Below B w0 w → B ≤ g → Below B w0 w') → K (a.put o.dst (goInt cs.length)) w') :
    if Region.wanted o (yielded ops a.tmps) = true then Oper.wp P o a w K Q else E := by
  have hw : Region.wanted o (yielded ops a.tmps) = true := by simp [Region.wanted, hgd]
  rw [if_pos hw]
  have hrun := run_copy_row (P := P) w dT sT o.type elem g off dLen dCap ad sLen sCap cur t cs hu hsz hg hn hsrc hfit h1
  unfold Oper.wp
  simp [execOp, ho, resolve, invoke, builtin, hd, hs, hrun, Result.andThen]
  refine h _ (show _ = _ from ?_) (fun i hi => setRow_other w g i _ hi) (fun B w0 hb hB => below_setRow hb g _ hB)
  rw [hnew]
  simpa using setRow_heap w g _ _ t _ hg
def vA (s : List UInt8) (h : Nat → Int) : Nat → Nat → Int
  | 0 => h
  | k + 1 => roundV (vA s h k) (shaKI k) (schedA s 64 k)
theorem Blk.drew {w : World} {g : Nat} {t : TypeId} {cs : Array Value} (h : Blk w g t cs) : Blk w.drew g t cs := h
theorem roundV_range {v : Nat → Int} (hv : ∀ j, 0 ≤ v j ∧ v j < 4294967296) (k w : Int) : ∀ j, 0 ≤ roundV v k w j ∧ roundV v k w j < 4294967296 := fun j => by
  unfold roundV
  split
  · omega
  · split
    · omega
    · exact hv _
theorem vA_range (s : List UInt8) (h : Nat → Int) (hr : ∀ j, 0 ≤ h j ∧ h j < 4294967296) : ∀ k j, 0 ≤ vA s h k j ∧ vA s h k j < 4294967296
  | 0, j => hr j
  | k + 1, j => roundV_range (vA_range s h hr k) _ _ j
/-- The first i words added. -/
def sumA (v h : Nat → Int) (i : Nat) : Nat → Int := fun j => if j < i then (v j + h j) % 4294967296 else v j
theorem sumA_step (v h : Nat → Int) (i : Nat) : (fun j => if j = i then (v i + h i) % 4294967296 else sumA v h i j) = sumA v h (i + 1) := by
  funext j
  unfold sumA
  by_cases h1 : j = i
  · subst h1; rw [if_pos rfl, if_pos (by omega)]
  · rw [if_neg h1]
    by_cases h2 : j < i
    · rw [if_pos h2, if_pos (by omega)]
    · rw [if_neg h2, if_neg (by omega)]
def stepA (s : List UInt8) (h : Nat → Int) : Nat → Int := sumA (vA s h 64) h 8
set_option maxRecDepth 100000 in
set_option maxHeartbeats 4000000 in
theorem step_any (s : List UInt8) (h : Nat → Int) (w : World) (hs : s.length = 64) (hr : ∀ j, 0 ≤ h j ∧ h j < 4294967296) :
    Calls Tryz.prog 36 #[.agg (arrU 8 h), .string ⟨s.toArray⟩] w fun e w' => e = .returned (.agg (arrU 8 (stepA s h))) ∧ Below w.heap.size w w' := by
  have HI := Lib.hid (show (Tryz.prog.info? 46).map (·.size) = some (arrU 8 h).size by rw [arrU_size]; exact shaH_size)
  have H1 := Lib.hid (arrU_one 8 h)
  have hsz := arrU_size 8 h
  generalize hcs : arrU 8 h = cs at *
  have HCS := Lib.hid hcs
  clear hcs
  go_enter Tryz.func36, Tryz.ntmps36
  go_wp2_with fail
  refine step_r1 s cs w.heap.size _ hs hsz H1.out ((Blk.new w 46 cs).alloc _).lt ((Blk.new w 46 cs).alloc _) ?_
  intro b5 b6 b7 v14 v15 v16 v17 w1 B g5 g6 g7 n56 n57 n67 k5 k6 k7
  rw [← HCS.out] at k7
  obtain ⟨wA, KA, KZ, hwA, B', g5', g6', g7'⟩ : ∃ wA : World, Hid (Blk wA w.heap.size 46 cs) ∧ Hid (Blk wA (w.heap.size + 1) 46 (arrU 8 fun _ => 0)) ∧ Hid (Below w.heap.size w wA) ∧ Hid (Below wA.heap.size wA w1) ∧ Hid (wA.heap.size ≤ b5) ∧ Hid (wA.heap.size ≤ b6) ∧ Hid (wA.heap.size ≤ b7) :=
    ⟨_, Lib.hid ((Blk.new w 46 cs).alloc _), Lib.hid (heap_alloc2_new w _ _), Lib.hid (((Below.refl w.heap.size w).alloc (Nat.le_refl _) (.cells cs 46)).alloc (Nat.le_of_lt (Blk.new w 46 cs).lt) (.cells (arrU 8 fun _ => 0) 46)), Lib.hid B, Lib.hid g5, Lib.hid g6, Lib.hid g7⟩
  clear B g5 g6 g7
  replace k5 := Lib.hid k5
  replace k6 := Lib.hid k6
  replace k7 := Lib.hid k7
  unfold Exit.then stepF
  dsimp only
  go_wp2_with fail
  go_loopw [18] (fun i wr => ∃ (k : Nat), i = .int .i64 k ∧ k ≤ 64 ∧ Hid (Blk wr b5 68 (arrU 64 (schedA s 64))) ∧ Hid (Blk wr b6 68 (arrU 64 shaKI)) ∧ Hid (Blk wr b7 46 (arrU 8 (vA s h k)))  ∧ Hid (Below wA.heap.size wA wr)) (fun i _ => 64 - (intOf i).toNat)
  case atStart => exact ⟨0, rfl, by omega, k5, k6, k7, B'⟩
  case round =>
    clear k5 k6 k7 B'
    obtain ⟨k, rfl, hk, k5, k6, k7, BB⟩ := hrel
    by_cases hlt : k < 64
    · have c5 := (k5.out.cell k).trans (arrU_at _ hlt)
      have c6 := (k6.out.cell k).trans (arrU_at _ hlt)
      have hk64 : (k : Int) < 64 := by omega
      have hk0 : 0 ≤ (k : Int) := by omega
      have vr := Lib.hid (vA_range s h hr k)
      have HS := Lib.hid (show vA s h (k + 1) = roundV (vA s h k) (shaKI k) (schedA s 64 k) from rfl)
      generalize vA s h k = v at *
      have c0 : wr.cell? ⟨b7, 0, none⟩ = some (.int .u32 (v 0)) := k7.out.cell 0
      have c1 : wr.cell? ⟨b7, 1, none⟩ = some (.int .u32 (v 1)) := k7.out.cell 1
      have c2 : wr.cell? ⟨b7, 2, none⟩ = some (.int .u32 (v 2)) := k7.out.cell 2
      have c4 : wr.cell? ⟨b7, 4, none⟩ = some (.int .u32 (v 4)) := k7.out.cell 4
      have c5' : wr.cell? ⟨b7, 5, none⟩ = some (.int .u32 (v 5)) := k7.out.cell 5
      have c6' : wr.cell? ⟨b7, 6, none⟩ = some (.int .u32 (v 6)) := k7.out.cell 6
      have c7 : wr.cell? ⟨b7, 7, none⟩ = some (.int .u32 (v 7)) := k7.out.cell 7
      have HR6 := Lib.hid (fun w1 => rots_6 (v 4) w1 (vr.out 4))
      have HR2 := Lib.hid (fun w1 => rots_2 (v 0) w1 (vr.out 0))
      go_wp2_with fail
      go_quiet (fail)
      revert nq; intro na
      go_wp2_with fail
      go_quiet ((go_at_call 56; refine (HR6.out _).mono ?_; rintro e w2 ⟨rfl, rfl⟩; exact ⟨rfl, _, rfl⟩))
      revert nq; intro nb
      go_wp2_with fail
      go_quiet ((go_at_call 56; refine (HR2.out _).mono ?_; rintro e w2 ⟨rfl, rfl⟩; exact ⟨rfl, _, rfl⟩))
      go_wp2_with fail
      have HT := Lib.hid (show (v 7 + rot3 (v 4) 6 11 25 + bits BinOp.xor IntKind.u32 (bits BinOp.and IntKind.u32 (v 4) (v 5)) (bits BinOp.and IntKind.u32 (bits BinOp.xor IntKind.u32 IntKind.u32.max (v 4)) (v 6)) + shaKI k + schedA s 64 k) % 4294967296 = tI v (shaKI k) (schedA s 64 k) from rfl)
      have HU := Lib.hid (show (rot3 (v 0) 2 13 22 + bits BinOp.xor IntKind.u32 (bits BinOp.xor IntKind.u32 (bits BinOp.and IntKind.u32 (v 0) (v 1)) (bits BinOp.and IntKind.u32 (v 0) (v 2))) (bits BinOp.and IntKind.u32 (v 1) (v 2))) % 4294967296 = uI v from rfl)
      rw [HT.out, HU.out]
      have HV := Lib.hid (show ∀ T U, T = tI v (shaKI k) (schedA s 64 k) → U = uI v → (#[.int .u32 ((T + U) % 4294967296), .int .u32 (v 0), .int .u32 (v 1), .int .u32 (v 2), .int .u32 ((v 3 + T) % 4294967296), .int .u32 (v 4), .int .u32 (v 5), .int .u32 (v 6)] : Array Value) = arrU 8 (roundV v (shaKI k) (schedA s 64 k)) from fun T U hT hU => by subst hT hU; rfl)
      generalize hT : tI v (shaKI k) (schedA s 64 k) = T at *
      generalize hU : uI v = U at *
      replace HV := Lib.hid (HV.out T U rfl rfl)
      clear HT HU hT hU c5 c6
      have k5d := Lib.hid (show Blk ((wr.drewN (na + nb)).drewN nq) b5 _ _ from k5.out)
      have k6d := Lib.hid (show Blk ((wr.drewN (na + nb)).drewN nq) b6 _ _ from k6.out)
      have k7d := Lib.hid (show Blk ((wr.drewN (na + nb)).drewN nq) b7 46 #[.int .u32 (v 0), .int .u32 (v 1), .int .u32 (v 2), .int .u32 (v 3), .int .u32 (v 4), .int .u32 (v 5), .int .u32 (v 6), .int .u32 (v 7)] from k7.out)
      have Bd := Lib.hid (show Below wA.heap.size wA ((wr.drewN (na + nb)).drewN nq) from below_drewN (below_drewN BB.out _) _)
      generalize (wr.drewN (na + nb)).drewN nq = wd at *
      have KC := Lib.hid (fun n => (show Blk (wd.drewN n) b7 _ _ from k7d.out))
      go_region_held3 (fun _ => True) (trivial) (first | ((refine step_copy_set (by rfl) (.tmp 67) (.tmp 68) 50 50 (by rfl) 44 Tryz.underlying50 (by kernel_rfl) ⟨b7, 0, none⟩ 7 7 7 8 b7 1 (by rfl) (by rfl) _ _ (KC.out 1) [.int .u32 (v 0), .int .u32 (v 1), .int .u32 (v 2), .int .u32 (v 3), .int .u32 (v 4), .int .u32 (v 5), .int .u32 (v 6)] (by rfl) ?hsrc (Nat.le_refl 8) ?h1 #[.int .u32 (v 0), .int .u32 (v 0), .int .u32 (v 1), .int .u32 (v 2), .int .u32 (v 3), .int .u32 (v 4), .int .u32 (v 5), .int .u32 (v 6)] (by rfl) ?_); (case hsrc => (exact hsrc7 _ _ _ _ _ _ _ _ (KC.out 1))); (case h1 => (exact hone7 _ _ _ _ _ _ _)); intro w2 k7e koth kbel))
      have d4 : w2.cell? ⟨b7, 4, none⟩ = some (.int .u32 (v 3)) := k7e.out.cell 4
      have d0 : w2.cell? ⟨b7, 0, none⟩ = some (.int .u32 (v 0)) := k7e.out.cell 0
      have z4 := k7e.out.frozen 4
      have z0 := k7e.out.frozen 0
      have k5e := Lib.hid (show Blk w2 b5 _ _ from (koth.out b5 n57).trans k5d.out)
      have k6e := Lib.hid (show Blk w2 b6 _ _ from (koth.out b6 n67).trans k6d.out)
      have Be := Lib.hid (kbel.out wA.heap.size wA (below_drew Bd.out) g7'.out)
      have HE := Lib.hid (fun X Y => (((k7e.out).set_ 4 (.int .u32 X)).set_ 0 (.int .u32 Y)))
      clear c0 c1 c2 c4 c5' c6' c7 KC kbel koth
      go_wp2_with fail
      go_roundw
      case rel => exact ⟨k + 1, by go_num, by omega, Lib.hid ((k5e.out.far n57 _).far n57 _), Lib.hid ((k6e.out.far n67 _).far n67 _), Lib.hid (by rw [HS.out, ← HV.out]; exact HE.out _ _), Lib.hid ((Be.out.setCell g7'.out _).setCell g7'.out _)⟩
      case measure => simp [intOf]; omega
    · obtain rfl : k = 64 := by omega
      have hlt64 : ¬ ((64 : Nat) : Int) < 64 := by omega
      have KP := Lib.hid (KA.out.below BB.out KA.out.lt)
      have HS := Lib.hid (fun i => sumA_step (vA s h 64) h i)
      have HF := Lib.hid (show sumA (vA s h 64) h 8 = stepA s h from rfl)
      have k7z := Lib.hid (show Blk wr b7 46 (arrU 8 (sumA (vA s h 64) h 0)) from k7.out)
      have HV0 := Lib.hid (fun i => (show sumA (vA s h 64) h i i = vA s h 64 i by unfold sumA; rw [if_neg (by omega)]))
      have KA' := Lib.hid KA.out.lt
      clear k7 k5 k6 KA
      generalize vA s h 64 = v at *
      go_wp2_with fail
      revert wr
      intro wo BB KP k7
      go_loopw [80] (fun i wr => ∃ (k : Nat), i = .int .i64 k ∧ k ≤ 8 ∧ Hid (Blk wr b7 46 (arrU 8 (sumA v h k))) ∧ Hid (Blk wr w.heap.size 46 cs) ∧ Hid (Below wA.heap.size wA wr)) (fun i _ => 8 - (intOf i).toNat)
      case atStart => exact ⟨0, rfl, by omega, k7, KP, BB⟩
      case round =>
        clear k7 KP BB
        obtain ⟨i, rfl, hi, k7, KP, BB⟩ := hrel
        by_cases hil : i < 8
        · have hi8 : (i : Int) < 8 := by omega
          have hi0 : 0 ≤ (i : Int) := by omega
          have c7 := (k7.out.cell i).trans (arrU_at _ hil)
          have cp : wr.cell? ⟨w.heap.size, i, none⟩ = some (.int .u32 (h i)) := by
            have := KP.out
            rw [← HCS.out] at this
            exact (this.cell i).trans (arrU_at _ hil)
          have z7 := k7.out.frozen i
          rw [HV0.out i] at c7
          have KS := Lib.hid (fun (m : Nat) => (show Blk ((wr.drewN m).setCell ⟨b7, i, none⟩ (.int .u32 ((v i + h i) % 4294967296))) b7 46 (arrU 8 (sumA v h (i + 1))) by
            have h := (show Blk (wr.drewN m) b7 46 (arrU 8 (sumA v h i)) from k7.out).set_ i (.int .u32 ((v i + h i) % 4294967296))
            rw [arrU_set, HS.out i] at h
            exact h))
          go_wp2_with fail
          go_region
          go_wp2_with fail
          go_roundw
          case rel => exact ⟨i + 1, by go_num, by omega, Lib.hid (Blk.drew (by have := k7.out.set_ i (.int .u32 ((v i + h i) % 4294967296)); rw [arrU_set, HS.out i] at this; exact this)), Lib.hid (Blk.drew (KP.out.far (by have h1 := g7'.out; have h2 := KA'.out; show w.heap.size ≠ b7; omega) _)), Lib.hid (below_drew (BB.out.setCell g7'.out _))⟩
          case measure => simp [intOf]; omega
        · obtain rfl : i = 8 := by omega
          have hlt8 : ¬ ((8 : Nat) : Int) < 8 := by omega
          rw [HF.out] at k7
          have KZ2 := Lib.hid (KZ.out.below BB.out KZ.out.lt)
          have HI := Lib.hid (show (Tryz.prog.info? 46).map (·.size) = some (arrU 8 (stepA s h)).size by rw [arrU_size]; exact shaH_size)
          have H1 := Lib.hid (arrU_one 8 (stepA s h))
          have hsz2 := arrU_size 8 (stepA s h)
          have hsz0 := arrU_size 8 (fun _ => 0)
          generalize hcr : arrU 8 (stepA s h) = cr at *
          have HCR := Lib.hid hcr
          clear hcr
          go_wp2_with (first
            | (refine wpList_load_row rfl 46 _ rfl b7 rfl 46 cr (0, 0) _ k7.out Tryz.underlying46 rfl HI.out ?_)
            | (refine wpList_store_row rfl 46 _ _ rfl (w.heap.size + 1) cr rfl rfl 46 _ KZ2.out HI.out ?_ H1.out ?_))
          have HSR : (wr.setRow (w.heap.size + 1) cr).heap[w.heap.size + 1]? = some (.cells cr 46 (0, 0)) := setRow_heap wr _ _ _ _ _ KZ2.out
          refine bodyPost_ret (results_cell_row rfl _ _ (w.heap.size + 1) 46 cr (0, 0) _ rfl HSR Tryz.underlying46 rfl HI.out) rfl ⟨by rw [HCR.out], ?_⟩
          exact below_setRow (hwA.out.trans (BB.out.mono hwA.out.size)) _ _ (by omega)
end Go.Proofs.YtllmgogcemannaaGreatDoor
