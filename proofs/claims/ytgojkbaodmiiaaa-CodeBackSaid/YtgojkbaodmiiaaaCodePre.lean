/- CodePrefix: for all two values of one kind that can be written, the encoding of the first is a prefix of that of the second only if they are equal. No condition. -/
import Derived.Test.YtgojkbaodmiiaaaCodeCut
import Derived.Lib.QuietBelow
namespace Go.Proofs.Ytgojkbaodmiiaaa
open Go.RowKit Go.Sort

theorem quiet_of_any {P : Program} {f : FuncId} {args : Array Value} {w : World} {v : Value} (h : ∀ W, Below w.heap.size w W → Calls P f args W fun e w' => e = .returned v ∧ Below W.heap.size W w') (d : Nat) (os : Array Obj) :
    Calls P f args (grow (redrawn w d) os) fun e w'' => e = .returned v ∧ ∃ p : Regrown, w'' = grow (redrawn w p.d) p.os := Calls.regrown_of (h _ (below_regrown w d os))

theorem prefix_law {x y : Val} (hx : okV x.kd (canon x.kd x.dat)) (hy : okV x.kd (canon x.kd y.dat)) :
    (sameB x.kd x.dat y.dat = true → encV x.kd x.dat = encV x.kd y.dat) ∧ (sameB x.kd x.dat y.dat = false → ¬ ∃ u, encV x.kd y.dat = encV x.kd x.dat ++ u) := by
  refine ⟨fun h => ?_, fun h => ?_⟩
  · rw [same_canon] at h
    rw [← enc_canon, h, enc_canon]
  · rintro ⟨u, hu⟩
    rw [← enc_canon, ← enc_canon x.kd x.dat] at hu
    have := (codec_inj (codecV x.kd x.kd_lt) hx hy hu).1
    have := (same_canon x.kd x.dat y.dat).2 this
    rw [this] at h; cases h

def Val.retype (y : Val) (k : Int) : Val := { y with kind := k }
theorem retype_blk {w : World} {g : Nat} {y : Val} (h : Blk w g 45 y.cells) (k : Int) : Blk (w.setCell ⟨g, 0, none⟩ (.int .i64 k)) g 45 (y.retype k).cells := h.set_ 0 _
theorem retype_kd (x y : Val) : (y.retype x.kind).kd = x.kd := rfl

set_option maxRecDepth 100000 in
set_option maxHeartbeats 1000000 in
theorem prefix_no1 (x y0 : Val) (w : World) (hx : x.At w) (hy : y0.At w)
    (V1 : Hid (∀ w, x.At w → Calls Try.prog 42 #[.agg x.cells] w fun e w' => e = .returned (.bool false) ∧ Below w.heap.size w w')) :
    Calls Try.prog 8 #[.agg x.cells, .agg y0.cells] w fun e w' => e = .returned (.bool true) ∧ Below w.heap.size w w' := by
  have BX : Below w.heap.size w ((w.alloc (.cells x.cells 45)).alloc (.cells y0.cells 45)) := ((Below.refl _ _).alloc (Nat.le_refl _) _).alloc (by simp) _
  have HA := Lib.hid ((Blk.new w 45 x.cells).alloc (.cells y0.cells 45))
  have hB := Blk.new (w.alloc (.cells x.cells 45)) 45 y0.cells
  rw [World.size_alloc] at hB
  have HB := Lib.hid hB
  have hBX := Lib.hid BX
  have hX := Lib.hid hx
  have hY := Lib.hid hy
  clear BX hB hx hy
  unfold Val.cells at V1 ⊢
  go_enter Try.func8, Try.ntmps8
  go_wp2_with fail
  refine (small_any _).mono ?_; rintro e w1 ⟨rfl, b1⟩
  have s0 := b1.size
  simp only [World.size_alloc] at s0
  have A1 := HA.out.later b1
  have Q1 := HB.out.later b1
  have B1 := hBX.out.trans (b1.mono (by simp; omega))
  have A2 := Lib.hid (A1.far (p := ⟨w.heap.size + 1, 0, none⟩) (by simp) (.int .i64 x.kind))
  have Q2 := Lib.hid (retype_blk Q1 x.kind)
  have B2 := Lib.hid (B1.setCell (p := ⟨w.heap.size + 1, 0, none⟩) (by simp) (.int .i64 x.kind))
  obtain ⟨c0, c1, c2, c3, c4⟩ := val_cells A1
  obtain ⟨d0, d1, d2, d3, d4⟩ := val_cells Q1
  have z0 := Q1.frozen 0
  clear b1 B1 A1 Q1
  go_wp2_with fail
  refine (V1.out _ (hX.out.later B2.out)).mono ?_; rintro e w3 ⟨rfl, b3⟩
  go_wp2_with fail
  go_ret
  exact ⟨rfl, B2.out.trans (b3.mono B2.out.size)⟩

set_option maxRecDepth 100000 in
set_option maxHeartbeats 1000000 in
theorem prefix_no2 (x y0 : Val) (w : World) (hx : x.At w) (hy : y0.At w)
    (V1 : Hid (∀ w, x.At w → Calls Try.prog 42 #[.agg x.cells] w fun e w' => e = .returned (.bool true) ∧ Below w.heap.size w w'))
    (V2 : Hid (∀ w, (y0.retype x.kind).At w → Calls Try.prog 42 #[.agg (y0.retype x.kind).cells] w fun e w' => e = .returned (.bool false) ∧ Below w.heap.size w w')) :
    Calls Try.prog 8 #[.agg x.cells, .agg y0.cells] w fun e w' => e = .returned (.bool true) ∧ Below w.heap.size w w' := by
  have BX : Below w.heap.size w ((w.alloc (.cells x.cells 45)).alloc (.cells y0.cells 45)) := ((Below.refl _ _).alloc (Nat.le_refl _) _).alloc (by simp) _
  have HA := Lib.hid ((Blk.new w 45 x.cells).alloc (.cells y0.cells 45))
  have hB := Blk.new (w.alloc (.cells x.cells 45)) 45 y0.cells
  rw [World.size_alloc] at hB
  have HB := Lib.hid hB
  have hBX := Lib.hid BX
  have hX := Lib.hid hx
  have hY := Lib.hid hy
  clear BX hB hx hy
  unfold Val.cells Val.retype at V2
  unfold Val.cells at V1 ⊢
  go_enter Try.func8, Try.ntmps8
  go_wp2_with fail
  refine (small_any _).mono ?_; rintro e w1 ⟨rfl, b1⟩
  have s0 := b1.size
  simp only [World.size_alloc] at s0
  have A1 := HA.out.later b1
  have Q1 := HB.out.later b1
  have B1 := hBX.out.trans (b1.mono (by simp; omega))
  have A2 := Lib.hid (A1.far (p := ⟨w.heap.size + 1, 0, none⟩) (by simp) (.int .i64 x.kind))
  have Q2 := Lib.hid (retype_blk Q1 x.kind)
  have B2 := Lib.hid (B1.setCell (p := ⟨w.heap.size + 1, 0, none⟩) (by simp) (.int .i64 x.kind))
  obtain ⟨c0, c1, c2, c3, c4⟩ := val_cells A1
  obtain ⟨d0, d1, d2, d3, d4⟩ := val_cells Q1
  have z0 := Q1.frozen 0
  clear b1 B1 A1 Q1
  go_wp2_with fail
  refine (V1.out _ (hX.out.later B2.out)).mono ?_; rintro e w3 ⟨rfl, b3⟩
  have A3 := Lib.hid (A2.out.later b3)
  have Q3 := Lib.hid (Q2.out.later b3)
  have B3 := Lib.hid (B2.out.trans (b3.mono B2.out.size))
  obtain ⟨c0, c1, c2, c3, c4⟩ := val_cells A3.out
  obtain ⟨d0, d1, d2, d3, d4⟩ := val_cells Q3.out
  go_wp2_with fail
  refine (V2.out _ (hY.out.later B3.out)).mono ?_; rintro e w4 ⟨rfl, b4⟩
  go_wp2_with fail
  go_ret
  exact ⟨rfl, B3.out.trans (b4.mono B3.out.size)⟩

set_option maxRecDepth 100000 in
set_option maxHeartbeats 1000000 in
theorem prefix_long (x y0 : Val) (w : World) (hx : x.At w) (hy : y0.At w)
    (V1 : Hid (∀ w, x.At w → Calls Try.prog 42 #[.agg x.cells] w fun e w' => e = .returned (.bool true) ∧ Below w.heap.size w w'))
    (V2 : Hid (∀ w, (y0.retype x.kind).At w → Calls Try.prog 42 #[.agg (y0.retype x.kind).cells] w fun e w' => e = .returned (.bool true) ∧ Below w.heap.size w w'))
    (S T : List UInt8)
    (W1 : Hid (∀ w, x.At w → Calls Try.prog 43 #[.agg x.cells] w fun e w' => e = .returned (.string ⟨S.toArray⟩) ∧ Below w.heap.size w w'))
    (W2 : Hid (∀ w, (y0.retype x.kind).At w → Calls Try.prog 43 #[.agg (y0.retype x.kind).cells] w fun e w' => e = .returned (.string ⟨T.toArray⟩) ∧ Below w.heap.size w w'))
    (r : Bool)
    (M : Hid (∀ w, x.At w → (y0.retype x.kind).At w → Calls Try.prog 46 #[.agg x.cells, .agg (y0.retype x.kind).cells] w fun e w' => e = .returned (.bool r) ∧ Below w.heap.size w w'))
    (hS : S.length ≤ 4398046511104) (hT : T.length ≤ 4398046511104) (hlt : T.length < S.length) (hr : r = false) :
    Calls Try.prog 8 #[.agg x.cells, .agg y0.cells] w fun e w' => e = .returned (.bool true) ∧ Below w.heap.size w w' := by
  subst hr
  have BX : Below w.heap.size w ((w.alloc (.cells x.cells 45)).alloc (.cells y0.cells 45)) := ((Below.refl _ _).alloc (Nat.le_refl _) _).alloc (by simp) _
  have HA := Lib.hid ((Blk.new w 45 x.cells).alloc (.cells y0.cells 45))
  have hB := Blk.new (w.alloc (.cells x.cells 45)) 45 y0.cells
  rw [World.size_alloc] at hB
  have HB := Lib.hid hB
  have hBX := Lib.hid BX
  have hX := Lib.hid hx
  have hY := Lib.hid hy
  clear BX hB hx hy
  unfold Val.cells Val.retype at V2 W2
  unfold Val.cells at V1 W1 ⊢
  go_enter Try.func8, Try.ntmps8
  go_wp2_with fail
  refine (small_any _).mono ?_; rintro e w1 ⟨rfl, b1⟩
  have s0 := b1.size
  simp only [World.size_alloc] at s0
  have A1 := HA.out.later b1
  have Q1 := HB.out.later b1
  have B1 := hBX.out.trans (b1.mono (by simp; omega))
  have A2 := Lib.hid (A1.far (p := ⟨w.heap.size + 1, 0, none⟩) (by simp) (.int .i64 x.kind))
  have Q2 := Lib.hid (retype_blk Q1 x.kind)
  have B2 := Lib.hid (B1.setCell (p := ⟨w.heap.size + 1, 0, none⟩) (by simp) (.int .i64 x.kind))
  obtain ⟨c0, c1, c2, c3, c4⟩ := val_cells A1
  obtain ⟨d0, d1, d2, d3, d4⟩ := val_cells Q1
  have z0 := Q1.frozen 0
  clear b1 B1 A1 Q1
  go_wp2_with fail
  refine (V1.out _ (hX.out.later B2.out)).mono ?_; rintro e w3 ⟨rfl, b3⟩
  have A3 := Lib.hid (A2.out.later b3)
  have Q3 := Lib.hid (Q2.out.later b3)
  have B3 := Lib.hid (B2.out.trans (b3.mono B2.out.size))
  obtain ⟨c0, c1, c2, c3, c4⟩ := val_cells A3.out
  obtain ⟨d0, d1, d2, d3, d4⟩ := val_cells Q3.out
  clear b3
  go_wp2_with fail
  refine (V2.out _ (hY.out.later B3.out)).mono ?_; rintro e w4 ⟨rfl, b4⟩
  have A4 := Lib.hid (A3.out.later b4)
  have Q4 := Lib.hid (Q3.out.later b4)
  have B4 := Lib.hid (B3.out.trans (b4.mono B3.out.size))
  obtain ⟨c0, c1, c2, c3, c4⟩ := val_cells A4.out
  obtain ⟨d0, d1, d2, d3, d4⟩ := val_cells Q4.out
  clear b4
  go_wp2_with fail
  refine (W1.out _ (hX.out.later B4.out)).mono ?_; rintro e w5 ⟨rfl, b5⟩
  have A5 := Lib.hid (A4.out.later b5)
  have Q5 := Lib.hid (Q4.out.later b5)
  have B5 := Lib.hid (B4.out.trans (b5.mono B4.out.size))
  obtain ⟨c0, c1, c2, c3, c4⟩ := val_cells A5.out
  obtain ⟨d0, d1, d2, d3, d4⟩ := val_cells Q5.out
  clear b5
  go_wp2_with fail
  refine (W2.out _ (hY.out.later B5.out)).mono ?_; rintro e w6 ⟨rfl, b6⟩
  have A6 := Lib.hid (A5.out.later b6)
  have Q6 := Lib.hid (Q5.out.later b6)
  have B6 := Lib.hid (B5.out.trans (b6.mono B5.out.size))
  obtain ⟨c0, c1, c2, c3, c4⟩ := val_cells A6.out
  obtain ⟨d0, d1, d2, d3, d4⟩ := val_cells Q6.out
  clear b6
  go_wp2_with fail
  refine (M.out _ (hX.out.later B6.out) (hY.out.later B6.out)).mono ?_; rintro e w7 ⟨rfl, b7⟩
  go_wp2_with fail
  go_ret
  exact ⟨rfl, B6.out.trans (b7.mono B6.out.size)⟩

set_option maxRecDepth 100000 in
set_option maxHeartbeats 1000000 in
theorem prefix_same (x y0 : Val) (w : World) (hx : x.At w) (hy : y0.At w)
    (V1 : Hid (∀ w, x.At w → Calls Try.prog 42 #[.agg x.cells] w fun e w' => e = .returned (.bool true) ∧ Below w.heap.size w w'))
    (V2 : Hid (∀ w, (y0.retype x.kind).At w → Calls Try.prog 42 #[.agg (y0.retype x.kind).cells] w fun e w' => e = .returned (.bool true) ∧ Below w.heap.size w w'))
    (S T : List UInt8)
    (W1 : Hid (∀ w, x.At w → Calls Try.prog 43 #[.agg x.cells] w fun e w' => e = .returned (.string ⟨S.toArray⟩) ∧ Below w.heap.size w w'))
    (W2 : Hid (∀ w, (y0.retype x.kind).At w → Calls Try.prog 43 #[.agg (y0.retype x.kind).cells] w fun e w' => e = .returned (.string ⟨T.toArray⟩) ∧ Below w.heap.size w w'))
    (r : Bool)
    (M : Hid (∀ w, x.At w → (y0.retype x.kind).At w → Calls Try.prog 46 #[.agg x.cells, .agg (y0.retype x.kind).cells] w fun e w' => e = .returned (.bool r) ∧ Below w.heap.size w w'))
    (hS : S.length ≤ 4398046511104) (hT : T.length ≤ 4398046511104) (he : S = T) (hr : r = true) :
    Calls Try.prog 8 #[.agg x.cells, .agg y0.cells] w fun e w' => e = .returned (.bool true) ∧ Below w.heap.size w w' := by
  subst hr he
  have BX : Below w.heap.size w ((w.alloc (.cells x.cells 45)).alloc (.cells y0.cells 45)) := ((Below.refl _ _).alloc (Nat.le_refl _) _).alloc (by simp) _
  have HA := Lib.hid ((Blk.new w 45 x.cells).alloc (.cells y0.cells 45))
  have hB := Blk.new (w.alloc (.cells x.cells 45)) 45 y0.cells
  rw [World.size_alloc] at hB
  have HB := Lib.hid hB
  have hBX := Lib.hid BX
  have hX := Lib.hid hx
  have hY := Lib.hid hy
  clear BX hB hx hy
  unfold Val.cells Val.retype at V2 W2
  unfold Val.cells at V1 W1 ⊢
  go_enter Try.func8, Try.ntmps8
  go_wp2_with fail
  refine (small_any _).mono ?_; rintro e w1 ⟨rfl, b1⟩
  have s0 := b1.size
  simp only [World.size_alloc] at s0
  have A1 := HA.out.later b1
  have Q1 := HB.out.later b1
  have B1 := hBX.out.trans (b1.mono (by simp; omega))
  have A2 := Lib.hid (A1.far (p := ⟨w.heap.size + 1, 0, none⟩) (by simp) (.int .i64 x.kind))
  have Q2 := Lib.hid (retype_blk Q1 x.kind)
  have B2 := Lib.hid (B1.setCell (p := ⟨w.heap.size + 1, 0, none⟩) (by simp) (.int .i64 x.kind))
  obtain ⟨c0, c1, c2, c3, c4⟩ := val_cells A1
  obtain ⟨d0, d1, d2, d3, d4⟩ := val_cells Q1
  have z0 := Q1.frozen 0
  clear b1 B1 A1 Q1
  go_wp2_with fail
  refine (V1.out _ (hX.out.later B2.out)).mono ?_; rintro e w3 ⟨rfl, b3⟩
  have A3 := Lib.hid (A2.out.later b3)
  have Q3 := Lib.hid (Q2.out.later b3)
  have B3 := Lib.hid (B2.out.trans (b3.mono B2.out.size))
  obtain ⟨c0, c1, c2, c3, c4⟩ := val_cells A3.out
  obtain ⟨d0, d1, d2, d3, d4⟩ := val_cells Q3.out
  clear b3
  go_wp2_with fail
  refine (V2.out _ (hY.out.later B3.out)).mono ?_; rintro e w4 ⟨rfl, b4⟩
  have A4 := Lib.hid (A3.out.later b4)
  have Q4 := Lib.hid (Q3.out.later b4)
  have B4 := Lib.hid (B3.out.trans (b4.mono B3.out.size))
  obtain ⟨c0, c1, c2, c3, c4⟩ := val_cells A4.out
  obtain ⟨d0, d1, d2, d3, d4⟩ := val_cells Q4.out
  clear b4
  go_wp2_with fail
  refine (W1.out _ (hX.out.later B4.out)).mono ?_; rintro e w5 ⟨rfl, b5⟩
  have A5 := Lib.hid (A4.out.later b5)
  have Q5 := Lib.hid (Q4.out.later b5)
  have B5 := Lib.hid (B4.out.trans (b5.mono B4.out.size))
  obtain ⟨c0, c1, c2, c3, c4⟩ := val_cells A5.out
  obtain ⟨d0, d1, d2, d3, d4⟩ := val_cells Q5.out
  clear b5
  go_wp2_with fail
  refine (W2.out _ (hY.out.later B5.out)).mono ?_; rintro e w6 ⟨rfl, b6⟩
  have A6 := Lib.hid (A5.out.later b6)
  have Q6 := Lib.hid (Q5.out.later b6)
  have B6 := Lib.hid (B5.out.trans (b6.mono B5.out.size))
  obtain ⟨c0, c1, c2, c3, c4⟩ := val_cells A6.out
  obtain ⟨d0, d1, d2, d3, d4⟩ := val_cells Q6.out
  clear b6
  have htk : (ByteArray.mk S.toArray).extract 0 S.length = ⟨S.toArray⟩ := by rw [bx_take, List.take_length]
  go_wp2_with fail
  have MQ := quiet_of_any (w := w6) (fun W hW => M.out W (hX.out.later (B6.out.trans (hW.mono B6.out.size))) (hY.out.later (B6.out.trans (hW.mono B6.out.size))))
  have F0 := fun d os => cell_regrown c0 d os
  have F1 := fun d os => cell_regrown c1 d os
  have F2 := fun d os => cell_regrown c2 d os
  have F3 := fun d os => cell_regrown c3 d os
  have F4 := fun d os => cell_regrown c4 d os
  have G0 := fun d os => cell_regrown d0 d os
  have G1 := fun d os => cell_regrown d1 d os
  have G2 := fun d os => cell_regrown d2 d os
  have G3 := fun d os => cell_regrown d3 d os
  have G4 := fun d os => cell_regrown d4 d os
  have HMQ := Lib.hid MQ
  clear MQ
  refine wp_region_quiet_below (by kernel_rfl) (by kernel_rfl) ?_
  repeat (quiet_step (exact HMQ.out _ _))
  refine wpQuiet_nil ?_
  intro _ hw'
  obtain ⟨⟨dq, osq⟩, hw''⟩ := hw'
  subst hw''
  go_wp2
  go_ret
  exact ⟨rfl, B6.out.trans ((below_regrown w6 dq osq).mono B6.out.size)⟩

set_option maxRecDepth 100000 in
set_option maxHeartbeats 1000000 in
theorem prefix_eqlen (x y0 : Val) (w : World) (hx : x.At w) (hy : y0.At w)
    (V1 : Hid (∀ w, x.At w → Calls Try.prog 42 #[.agg x.cells] w fun e w' => e = .returned (.bool true) ∧ Below w.heap.size w w'))
    (V2 : Hid (∀ w, (y0.retype x.kind).At w → Calls Try.prog 42 #[.agg (y0.retype x.kind).cells] w fun e w' => e = .returned (.bool true) ∧ Below w.heap.size w w'))
    (S T : List UInt8)
    (W1 : Hid (∀ w, x.At w → Calls Try.prog 43 #[.agg x.cells] w fun e w' => e = .returned (.string ⟨S.toArray⟩) ∧ Below w.heap.size w w'))
    (W2 : Hid (∀ w, (y0.retype x.kind).At w → Calls Try.prog 43 #[.agg (y0.retype x.kind).cells] w fun e w' => e = .returned (.string ⟨T.toArray⟩) ∧ Below w.heap.size w w'))
    (r : Bool)
    (M : Hid (∀ w, x.At w → (y0.retype x.kind).At w → Calls Try.prog 46 #[.agg x.cells, .agg (y0.retype x.kind).cells] w fun e w' => e = .returned (.bool r) ∧ Below w.heap.size w w'))
    (hS : S.length ≤ 4398046511104) (hT : T.length ≤ 4398046511104) (hlen : S.length = T.length) (hne : (T.take S.length == S) = false) (hr : r = false) :
    Calls Try.prog 8 #[.agg x.cells, .agg y0.cells] w fun e w' => e = .returned (.bool true) ∧ Below w.heap.size w w' := by
  subst hr
  have hle : ((S.length : Int) == (T.length : Int)) = true := by simp [hlen]
  have hgt : ¬ T.length < S.length := by omega
  have BX : Below w.heap.size w ((w.alloc (.cells x.cells 45)).alloc (.cells y0.cells 45)) := ((Below.refl _ _).alloc (Nat.le_refl _) _).alloc (by simp) _
  have HA := Lib.hid ((Blk.new w 45 x.cells).alloc (.cells y0.cells 45))
  have hB := Blk.new (w.alloc (.cells x.cells 45)) 45 y0.cells
  rw [World.size_alloc] at hB
  have HB := Lib.hid hB
  have hBX := Lib.hid BX
  have hX := Lib.hid hx
  have hY := Lib.hid hy
  clear BX hB hx hy
  unfold Val.cells Val.retype at V2 W2
  unfold Val.cells at V1 W1 ⊢
  go_enter Try.func8, Try.ntmps8
  go_wp2_with fail
  refine (small_any _).mono ?_; rintro e w1 ⟨rfl, b1⟩
  have s0 := b1.size
  simp only [World.size_alloc] at s0
  have A1 := HA.out.later b1
  have Q1 := HB.out.later b1
  have B1 := hBX.out.trans (b1.mono (by simp; omega))
  have A2 := Lib.hid (A1.far (p := ⟨w.heap.size + 1, 0, none⟩) (by simp) (.int .i64 x.kind))
  have Q2 := Lib.hid (retype_blk Q1 x.kind)
  have B2 := Lib.hid (B1.setCell (p := ⟨w.heap.size + 1, 0, none⟩) (by simp) (.int .i64 x.kind))
  obtain ⟨c0, c1, c2, c3, c4⟩ := val_cells A1
  obtain ⟨d0, d1, d2, d3, d4⟩ := val_cells Q1
  have z0 := Q1.frozen 0
  clear b1 B1 A1 Q1
  go_wp2_with fail
  refine (V1.out _ (hX.out.later B2.out)).mono ?_; rintro e w3 ⟨rfl, b3⟩
  have A3 := Lib.hid (A2.out.later b3)
  have Q3 := Lib.hid (Q2.out.later b3)
  have B3 := Lib.hid (B2.out.trans (b3.mono B2.out.size))
  obtain ⟨c0, c1, c2, c3, c4⟩ := val_cells A3.out
  obtain ⟨d0, d1, d2, d3, d4⟩ := val_cells Q3.out
  clear b3
  go_wp2_with fail
  refine (V2.out _ (hY.out.later B3.out)).mono ?_; rintro e w4 ⟨rfl, b4⟩
  have A4 := Lib.hid (A3.out.later b4)
  have Q4 := Lib.hid (Q3.out.later b4)
  have B4 := Lib.hid (B3.out.trans (b4.mono B3.out.size))
  obtain ⟨c0, c1, c2, c3, c4⟩ := val_cells A4.out
  obtain ⟨d0, d1, d2, d3, d4⟩ := val_cells Q4.out
  clear b4
  go_wp2_with fail
  refine (W1.out _ (hX.out.later B4.out)).mono ?_; rintro e w5 ⟨rfl, b5⟩
  have A5 := Lib.hid (A4.out.later b5)
  have Q5 := Lib.hid (Q4.out.later b5)
  have B5 := Lib.hid (B4.out.trans (b5.mono B4.out.size))
  obtain ⟨c0, c1, c2, c3, c4⟩ := val_cells A5.out
  obtain ⟨d0, d1, d2, d3, d4⟩ := val_cells Q5.out
  clear b5
  go_wp2_with fail
  refine (W2.out _ (hY.out.later B5.out)).mono ?_; rintro e w6 ⟨rfl, b6⟩
  have A6 := Lib.hid (A5.out.later b6)
  have Q6 := Lib.hid (Q5.out.later b6)
  have B6 := Lib.hid (B5.out.trans (b6.mono B5.out.size))
  obtain ⟨c0, c1, c2, c3, c4⟩ := val_cells A6.out
  obtain ⟨d0, d1, d2, d3, d4⟩ := val_cells Q6.out
  clear b6
  have htk := bx_take T S.length
  have hlS : S.length ≤ T.length := by omega
  have HL := Lib.hid hlen
  clear hlen
  go_wp2_with fail
  have MQ := quiet_of_any (w := w6) (fun W hW => M.out W (hX.out.later (B6.out.trans (hW.mono B6.out.size))) (hY.out.later (B6.out.trans (hW.mono B6.out.size))))
  have F0 := fun d os => cell_regrown c0 d os
  have F1 := fun d os => cell_regrown c1 d os
  have F2 := fun d os => cell_regrown c2 d os
  have F3 := fun d os => cell_regrown c3 d os
  have F4 := fun d os => cell_regrown c4 d os
  have G0 := fun d os => cell_regrown d0 d os
  have G1 := fun d os => cell_regrown d1 d os
  have G2 := fun d os => cell_regrown d2 d os
  have G3 := fun d os => cell_regrown d3 d os
  have G4 := fun d os => cell_regrown d4 d os
  have HMQ := Lib.hid MQ
  clear MQ
  refine wp_region_quiet_below (by kernel_rfl) (by kernel_rfl) ?_
  repeat (quiet_step (exact HMQ.out _ _))
  refine wpQuiet_nil ?_
  intro _ hw'
  obtain ⟨⟨dq, osq⟩, hw''⟩ := hw'
  subst hw''
  go_wp2
  go_ret
  exact ⟨rfl, B6.out.trans ((below_regrown w6 dq osq).mono B6.out.size)⟩

set_option maxRecDepth 100000 in
set_option maxHeartbeats 1000000 in
theorem prefix_short (x y0 : Val) (w : World) (hx : x.At w) (hy : y0.At w)
    (V1 : Hid (∀ w, x.At w → Calls Try.prog 42 #[.agg x.cells] w fun e w' => e = .returned (.bool true) ∧ Below w.heap.size w w'))
    (V2 : Hid (∀ w, (y0.retype x.kind).At w → Calls Try.prog 42 #[.agg (y0.retype x.kind).cells] w fun e w' => e = .returned (.bool true) ∧ Below w.heap.size w w'))
    (S T : List UInt8)
    (W1 : Hid (∀ w, x.At w → Calls Try.prog 43 #[.agg x.cells] w fun e w' => e = .returned (.string ⟨S.toArray⟩) ∧ Below w.heap.size w w'))
    (W2 : Hid (∀ w, (y0.retype x.kind).At w → Calls Try.prog 43 #[.agg (y0.retype x.kind).cells] w fun e w' => e = .returned (.string ⟨T.toArray⟩) ∧ Below w.heap.size w w'))
    (r : Bool)
    (M : Hid (∀ w, x.At w → (y0.retype x.kind).At w → Calls Try.prog 46 #[.agg x.cells, .agg (y0.retype x.kind).cells] w fun e w' => e = .returned (.bool r) ∧ Below w.heap.size w w'))
    (hS : S.length ≤ 4398046511104) (hT : T.length ≤ 4398046511104) (hlen : S.length < T.length) (hne : (T.take S.length == S) = false) (hr : r = false) :
    Calls Try.prog 8 #[.agg x.cells, .agg y0.cells] w fun e w' => e = .returned (.bool true) ∧ Below w.heap.size w w' := by
  subst hr
  have hle : ((S.length : Int) == (T.length : Int)) = false := by simp; omega
  have hgt : ¬ T.length < S.length := by omega
  have BX : Below w.heap.size w ((w.alloc (.cells x.cells 45)).alloc (.cells y0.cells 45)) := ((Below.refl _ _).alloc (Nat.le_refl _) _).alloc (by simp) _
  have HA := Lib.hid ((Blk.new w 45 x.cells).alloc (.cells y0.cells 45))
  have hB := Blk.new (w.alloc (.cells x.cells 45)) 45 y0.cells
  rw [World.size_alloc] at hB
  have HB := Lib.hid hB
  have hBX := Lib.hid BX
  have hX := Lib.hid hx
  have hY := Lib.hid hy
  clear BX hB hx hy
  unfold Val.cells Val.retype at V2 W2
  unfold Val.cells at V1 W1 ⊢
  go_enter Try.func8, Try.ntmps8
  go_wp2_with fail
  refine (small_any _).mono ?_; rintro e w1 ⟨rfl, b1⟩
  have s0 := b1.size
  simp only [World.size_alloc] at s0
  have A1 := HA.out.later b1
  have Q1 := HB.out.later b1
  have B1 := hBX.out.trans (b1.mono (by simp; omega))
  have A2 := Lib.hid (A1.far (p := ⟨w.heap.size + 1, 0, none⟩) (by simp) (.int .i64 x.kind))
  have Q2 := Lib.hid (retype_blk Q1 x.kind)
  have B2 := Lib.hid (B1.setCell (p := ⟨w.heap.size + 1, 0, none⟩) (by simp) (.int .i64 x.kind))
  obtain ⟨c0, c1, c2, c3, c4⟩ := val_cells A1
  obtain ⟨d0, d1, d2, d3, d4⟩ := val_cells Q1
  have z0 := Q1.frozen 0
  clear b1 B1 A1 Q1
  go_wp2_with fail
  refine (V1.out _ (hX.out.later B2.out)).mono ?_; rintro e w3 ⟨rfl, b3⟩
  have A3 := Lib.hid (A2.out.later b3)
  have Q3 := Lib.hid (Q2.out.later b3)
  have B3 := Lib.hid (B2.out.trans (b3.mono B2.out.size))
  obtain ⟨c0, c1, c2, c3, c4⟩ := val_cells A3.out
  obtain ⟨d0, d1, d2, d3, d4⟩ := val_cells Q3.out
  clear b3
  go_wp2_with fail
  refine (V2.out _ (hY.out.later B3.out)).mono ?_; rintro e w4 ⟨rfl, b4⟩
  have A4 := Lib.hid (A3.out.later b4)
  have Q4 := Lib.hid (Q3.out.later b4)
  have B4 := Lib.hid (B3.out.trans (b4.mono B3.out.size))
  obtain ⟨c0, c1, c2, c3, c4⟩ := val_cells A4.out
  obtain ⟨d0, d1, d2, d3, d4⟩ := val_cells Q4.out
  clear b4
  go_wp2_with fail
  refine (W1.out _ (hX.out.later B4.out)).mono ?_; rintro e w5 ⟨rfl, b5⟩
  have A5 := Lib.hid (A4.out.later b5)
  have Q5 := Lib.hid (Q4.out.later b5)
  have B5 := Lib.hid (B4.out.trans (b5.mono B4.out.size))
  obtain ⟨c0, c1, c2, c3, c4⟩ := val_cells A5.out
  obtain ⟨d0, d1, d2, d3, d4⟩ := val_cells Q5.out
  clear b5
  go_wp2_with fail
  refine (W2.out _ (hY.out.later B5.out)).mono ?_; rintro e w6 ⟨rfl, b6⟩
  have A6 := Lib.hid (A5.out.later b6)
  have Q6 := Lib.hid (Q5.out.later b6)
  have B6 := Lib.hid (B5.out.trans (b6.mono B5.out.size))
  obtain ⟨c0, c1, c2, c3, c4⟩ := val_cells A6.out
  obtain ⟨d0, d1, d2, d3, d4⟩ := val_cells Q6.out
  clear b6
  have htk := bx_take T S.length
  have hlS : S.length ≤ T.length := by omega
  go_wp2_with fail
  have MQ := quiet_of_any (w := w6) (fun W hW => M.out W (hX.out.later (B6.out.trans (hW.mono B6.out.size))) (hY.out.later (B6.out.trans (hW.mono B6.out.size))))
  have F0 := fun d os => cell_regrown c0 d os
  have F1 := fun d os => cell_regrown c1 d os
  have F2 := fun d os => cell_regrown c2 d os
  have F3 := fun d os => cell_regrown c3 d os
  have F4 := fun d os => cell_regrown c4 d os
  have G0 := fun d os => cell_regrown d0 d os
  have G1 := fun d os => cell_regrown d1 d os
  have G2 := fun d os => cell_regrown d2 d os
  have G3 := fun d os => cell_regrown d3 d os
  have G4 := fun d os => cell_regrown d4 d os
  have HMQ := Lib.hid MQ
  clear MQ
  refine wp_region_quiet_below (by kernel_rfl) (by kernel_rfl) ?_
  repeat (quiet_step (exact HMQ.out _ _))
  refine wpQuiet_nil ?_
  intro _ hw'
  obtain ⟨⟨dq, osq⟩, hw''⟩ := hw'
  subst hw''
  go_wp2
  go_ret
  exact ⟨rfl, B6.out.trans ((below_regrown w6 dq osq).mono B6.out.size)⟩

theorem prefix_any (x y0 : Val) (w : World) (hx : x.At w) (hc : x.Came) (hy : y0.At w) (hd : y0.Came) :
    Calls Try.prog 8 #[.agg x.cells, .agg y0.cells] w fun e w' => e = .returned (.bool true) ∧ Below w.heap.size w w' := by
  obtain ⟨⟨_, hn1⟩, hs, hl, hm, hxl⟩ := hc
  obtain ⟨⟨_, gn1⟩, gs, gl, gm, gxl⟩ := hd
  have V1 := fun w hx => valid_any x w hx hs hl hm hxl
  have V2 := fun w hx => valid_any (y0.retype x.kind) w hx gs gl gm gxl
  cases hv : validB x
  · rw [hv] at V1; exact prefix_no1 x y0 w hx hy (Lib.hid V1)
  · rw [hv] at V1
    obtain ⟨ox, fx⟩ := valid_ok hv hn1
    cases hu : validB (y0.retype x.kind)
    · rw [hu] at V2; exact prefix_no2 x y0 w hx hy (Lib.hid V1) (Lib.hid V2)
    · rw [hu] at V2
      obtain ⟨oy, fy⟩ := valid_ok hu gn1
      have W1 := Lib.hid (fun w hx => write_any x w hx fx)
      have W2 := Lib.hid (fun w hx => write_any (y0.retype x.kind) w hx fy)
      have M := Lib.hid (fun w hx hy => same_any x (y0.retype x.kind) w hx hy fx fy)
      have lx := encV_len fx x.kd
      have ly := encV_len fy x.kd
      rw [retype_kd] at W2 oy
      obtain ⟨p1, p2⟩ := prefix_law ox oy
      generalize encV x.kd x.dat = S at *
      generalize encV x.kd (y0.retype x.kind).dat = T at *
      cases hr : sameB x.kd x.dat (y0.retype x.kind).dat
      · rw [hr] at M
        have hno := p2 hr
        have hne : (T.take S.length == S) = false := by
          rw [beq_eq_false_iff_ne]
          intro e
          exact hno ⟨T.drop S.length, by have := List.take_append_drop S.length T; rw [e] at this; exact this.symm⟩
        rcases Nat.lt_trichotomy S.length T.length with h | h | h
        · exact prefix_short x y0 w hx hy (Lib.hid V1) (Lib.hid V2) S T W1 W2 _ M lx ly h hne rfl
        · exact prefix_eqlen x y0 w hx hy (Lib.hid V1) (Lib.hid V2) S T W1 W2 _ M lx ly h hne rfl
        · exact prefix_long x y0 w hx hy (Lib.hid V1) (Lib.hid V2) S T W1 W2 _ M lx ly h rfl
      · rw [hr] at M
        exact prefix_same x y0 w hx hy (Lib.hid V1) (Lib.hid V2) S T W1 W2 _ M lx ly (p1 hr) rfl

end Go.Proofs.Ytgojkbaodmiiaaa
