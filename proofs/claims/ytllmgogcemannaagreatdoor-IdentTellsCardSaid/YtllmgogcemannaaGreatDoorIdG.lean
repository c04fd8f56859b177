/- Package sum: the first statement of a step (two tables, three variables). -/
import Derived.Test.YtllmgogcemannaaGreatDoorIdF
import Derived.Test.YtllmgogcemannaaGreatDoorRegInv
import Derived.BigCall
namespace Go.Proofs.YtllmgogcemannaaGreatDoor
open Go.RowKit

section
variable {P : Program} {ops : Array Oper} {Q : Exit → Act → World → Prop}
theorem wpOp_lit {i : Nat} {o : Oper} {K : Act → World → Prop} {a : Act} {w : World} (hi : ops[i]? = some o) (hg : o.guard = none) (h : o.wp P a w K Q) : wpOp P ops Q i K a w := by
  unfold wpOp
  simp only [hi, Region.wanted, hg, if_true]
  exact .inl h
theorem wp_value {o : Oper} {K : Act → World → Prop} {a : Act} {w w' : World} {v : Value} (hrun : (execOp a.eval o).run P w = .ok (.value v) w') (h : K (a.put o.dst v) w') : o.wp P a w K Q := by
  unfold Oper.wp; rw [hrun, Oper.upon_value]; exact h
theorem wp_enter {o : Oper} {K : Act → World → Prop} {a : Act} {w : World} {f : FuncId} {args : Array Value} (hrun : (execOp a.eval o).run P w = .ok (.enter f args) w)
    {R : Value → World → Prop} (hc : Calls P f args w fun e w' => ∃ v, e = .returned v ∧ R v w') (h : ∀ v w', R v w' → K (a.put o.dst v) w') : o.wp P a w K Q := by
  unfold Oper.wp; rw [hrun, Oper.upon_enter]
  refine hc.mono fun e w' hh => ?_
  obtain ⟨v, rfl, hr⟩ := hh
  exact h v w' hr
end
/-- A variable of a region: laid if on, written if st. -/
def BlkF (N : Nat) (t : TypeId) (z c : Array Value) (on st : Bool) (v : Value) (w : World) : Prop := on = true → ∃ b, v = .pointer (some ⟨b, 0, none⟩) ∧ N ≤ b ∧ Blk w b t (if st = true then c else z)
theorem BlkF.later {N : Nat} {t : TypeId} {z c : Array Value} {on st : Bool} {v : Value} {w w' : World} (h : BlkF N t z c on st v w) (hb : Below w.heap.size w w') : BlkF N t z c on st v w' := fun ho => by
  obtain ⟨b, h1, h2, h3⟩ := h ho
  exact ⟨b, h1, h2, h3.later hb⟩
theorem BlkF.alloc {N : Nat} {t : TypeId} {z c : Array Value} {on st : Bool} {v : Value} {w : World} (h : BlkF N t z c on st v w) (o : Obj) : BlkF N t z c on st v (w.alloc o) := fun ho => by
  obtain ⟨b, h1, h2, h3⟩ := h ho
  exact ⟨b, h1, h2, h3.alloc o⟩
theorem BlkF.ne {N : Nat} {t : TypeId} {z c : Array Value} {on st : Bool} {v : Value} {w : World} (h : BlkF N t z c on st v w) (ho : on = true) : v ≠ .pointer (some ⟨w.heap.size, 0, none⟩) := fun he => by
  obtain ⟨b, h1, h2, h3⟩ := h ho
  rw [h1] at he
  have := h3.lt
  injection he with he; injection he with he; injection he with he
  omega
theorem BlkF.far {N : Nat} {t : TypeId} {z c : Array Value} {on st : Bool} {v : Value} {w : World} (h : BlkF N t z c on st v w) {g : Nat} (cs : Array Value) (hg : on = true → v ≠ .pointer (some ⟨g, 0, none⟩)) : BlkF N t z c on st v (w.setRow g cs) := fun ho => by
  obtain ⟨b, h1, h2, h3⟩ := h ho
  refine ⟨b, h1, h2, (setRow_other w g b _ fun e => hg ho ?_).trans h3⟩
  rw [h1, e]
theorem getD_set {l : Array Bool} {i : Nat} (j : Nat) (h : i < l.size) : (l.setIfInBounds i true).getD j false = if i = j then true else l.getD j false := by
  rw [Array.getD_eq_getD_getElem?, Array.getD_eq_getD_getElem?, Array.getElem?_setIfInBounds]
  by_cases hij : i = j
  · rw [if_pos hij, if_pos hij, if_pos h]; rfl
  · rw [if_neg hij, if_neg hij]
theorem below_setRow {B : Nat} {a w : World} (h : Below B a w) (g : Nat) (cs : Array Value) (hg : B ≤ g) : Below B a (w.setRow g cs) :=
  ⟨h.os, h.tape, h.output, by have := h.size; simp only [World.setRow]; rw [Array.size_modify]; omega, fun i hi => (setRow_other w g i _ (by omega)).trans (h.block i hi)⟩

def stepF (s : List UInt8) (cs : Array Value) (p : Nat) (v5 v6 v7 v14 v15 v16 v17 : Value) : Act :=
  { tmps := #[.agg cs, .string ⟨s.toArray⟩, .pointer (some ⟨p, 0, none⟩), undef, .pointer (some ⟨p + 1, 0, none⟩), v5, v6, v7, undef, undef, undef, undef, undef, undef, v14, v15, v16, v17, undef, undef, undef, undef, undef, undef, undef, undef, undef, undef, undef, undef, undef, undef, undef, undef, undef, undef, undef, undef, undef, undef, undef, undef, undef, undef, undef, undef, undef, undef, undef, undef, undef, undef, undef, undef, undef, undef, undef, undef, undef, undef, undef, undef, undef, undef, undef, undef, undef, undef, undef, undef, undef, undef, undef, undef, undef, undef, undef, undef, undef, undef, undef, undef, undef, undef, undef, undef, undef, undef, undef, undef, undef, undef, undef], defers := [] }
def stepOps : Array Oper :=
      #[{ dst := some 14, op := Op.move (Operand.tmp 1), type := 9, pos := "sum.go:76", after := #[], guard := none },
        { dst := some 15, op := Op.call { callee := Callee.value (Operand.func 54), args := #[Operand.tmp 14], argTypes := #[9] }, type := 68, pos := "sum.go:76", after := #[{ on := 0, ground := Ground.data }], guard := none },
        { dst := some 16, op := Op.call { callee := Callee.value (Operand.func 55), args := #[], argTypes := #[] }, type := 68, pos := "sum.go:76", after := #[{ on := 1, ground := Ground.chain }], guard := none },
        { dst := some 17, op := Op.load 46 (Operand.tmp 2), type := 46, pos := "sum.go:76", after := #[{ on := 8, ground := Ground.gcOnly Departure.lateStores }], guard := none },
        { dst := some 5, op := Op.alloc 68, type := 0, pos := "sum.go:76", after := #[], guard := none },
        { dst := some 6, op := Op.alloc 68, type := 0, pos := "sum.go:76", after := #[], guard := none },
        { dst := some 7, op := Op.alloc 46, type := 0, pos := "sum.go:76", after := #[], guard := none },
        { dst := none, op := Op.store 68 (Operand.tmp 5) (Operand.tmp 15), type := 0, pos := "sum.go:76",
          after := #[{ on := 4, ground := Ground.data }, { on := 1, ground := Ground.data }, { on := 2, ground := Ground.chain }, { on := 0, ground := Ground.phase }, { on := 1, ground := Ground.phase }, { on := 2, ground := Ground.textOnly Departure.lateStoresUnsure }, { on := 3, ground := Ground.textOnly Departure.lateStores }, { on := 4, ground := Ground.phase }, { on := 5, ground := Ground.phase }, { on := 6, ground := Ground.phase }], guard := none },
        { dst := none, op := Op.store 68 (Operand.tmp 6) (Operand.tmp 16), type := 0, pos := "sum.go:76",
          after := #[{ on := 5, ground := Ground.data }, { on := 2, ground := Ground.data }, { on := 7, ground := Ground.chain }, { on := 0, ground := Ground.phase }, { on := 1, ground := Ground.phase }, { on := 2, ground := Ground.phase }, { on := 3, ground := Ground.textOnly Departure.lateStores }, { on := 4, ground := Ground.phase }, { on := 5, ground := Ground.phase }, { on := 6, ground := Ground.phase }, { on := 7, ground := Ground.phase }], guard := none },
        { dst := none, op := Op.store 46 (Operand.tmp 7) (Operand.tmp 17), type := 0, pos := "sum.go:76",
          after := #[{ on := 6, ground := Ground.data }, { on := 3, ground := Ground.data }, { on := 8, ground := Ground.chain }, { on := 0, ground := Ground.phase }, { on := 1, ground := Ground.phase }, { on := 2, ground := Ground.phase }, { on := 3, ground := Ground.phase }, { on := 4, ground := Ground.phase }, { on := 5, ground := Ground.phase }, { on := 6, ground := Ground.phase }, { on := 7, ground := Ground.phase }, { on := 8, ground := Ground.phase }], guard := none }]
/-- What holds while the statement's operations come up in whatever order. -/
structure Sti (s : List UInt8) (cs : Array Value) (w0 : World) (f : Nat → Bool) (v5 v6 v7 v14 v15 v16 v17 : Value) (w : World) : Prop where
  below : Below w0.heap.size w0 w
  s14 : f 0 = true → v14 = .string ⟨s.toArray⟩
  s15 : f 1 = true → v15 = .agg (arrU 64 (schedA s 64))
  s16 : f 2 = true → v16 = .agg (arrU 64 shaKI)
  s17 : f 3 = true → v17 = .agg cs
  b5 : BlkF w0.heap.size 68 (arrU 64 fun _ => 0) (arrU 64 (schedA s 64)) (f 4) (f 7) v5 w
  b6 : BlkF w0.heap.size 68 (arrU 64 fun _ => 0) (arrU 64 shaKI) (f 5) (f 8) v6 w
  b7 : BlkF w0.heap.size 46 (arrU 8 fun _ => 0) cs (f 6) (f 9) v7 w
  n56 : f 4 = true → f 5 = true → v5 ≠ v6
  n57 : f 4 = true → f 6 = true → v5 ≠ v7
  n67 : f 5 = true → f 6 = true → v6 ≠ v7
  q7 : f 7 = true → f 4 = true
  q8 : f 8 = true → f 5 = true
  q9 : f 9 = true → f 6 = true
theorem step_alloc_a (a : Act) (w : World) (d : Option Tmp) (ed : Array Edge) : (execOp a.eval { dst := d, op := Op.alloc 68, type := 0, pos := "sum.go:76", after := ed, guard := none }).run Tryz.prog w = .ok (.value (.pointer (some ⟨w.heap.size, 0, none⟩))) (w.alloc (.cells (arrU 64 fun _ => 0) 68)) := by kernel_rfl
theorem step_alloc_s (a : Act) (w : World) (d : Option Tmp) (ed : Array Edge) : (execOp a.eval { dst := d, op := Op.alloc 46, type := 0, pos := "sum.go:76", after := ed, guard := none }).run Tryz.prog w = .ok (.value (.pointer (some ⟨w.heap.size, 0, none⟩))) (w.alloc (.cells (arrU 8 fun _ => 0) 46)) := by kernel_rfl
theorem step_run_sch (a : Act) (w : World) (v : Value) (hv : a.eval (.tmp 14) = v) (d : Option Tmp) (ed : Array Edge) : (execOp a.eval { dst := d, op := Op.call { callee := Callee.value (Operand.func 54), args := #[Operand.tmp 14], argTypes := #[9] }, type := 68, pos := "sum.go:76", after := ed, guard := none }).run Tryz.prog w = .ok (.enter 54 #[v]) w := by subst hv; kernel_rfl
theorem step_run_con (a : Act) (w : World) (d : Option Tmp) (ed : Array Edge) : (execOp a.eval { dst := d, op := Op.call { callee := Callee.value (Operand.func 55), args := #[], argTypes := #[] }, type := 68, pos := "sum.go:76", after := ed, guard := none }).run Tryz.prog w = .ok (.enter 55 #[]) w := by kernel_rfl
theorem step_later : laterOnly stepOps = true := by kernel_rfl
set_option maxRecDepth 100000 in
theorem step_r1 {Q : Exit → Act → World → Prop} (s : List UInt8) (cs : Array Value) (p : Nat) (w0 : World) (hs : s.length = 64) (hsz : cs.size = 8) (h1 : cs.all (·.oneCell') = true) (hp : p < w0.heap.size) (K : Blk w0 p 46 cs)
    (hQ : ∀ b5 b6 b7 v14 v15 v16 v17 w, Below w0.heap.size w0 w → w0.heap.size ≤ b5 → w0.heap.size ≤ b6 → w0.heap.size ≤ b7 → b5 ≠ b6 → b5 ≠ b7 → b6 ≠ b7 → Blk w b5 68 (arrU 64 (schedA s 64)) → Blk w b6 68 (arrU 64 shaKI) → Blk w b7 46 cs →
      Q .normal (stepF s cs p (.pointer (some ⟨b5, 0, none⟩)) (.pointer (some ⟨b6, 0, none⟩)) (.pointer (some ⟨b7, 0, none⟩)) v14 v15 v16 v17) w) :
    (Code.region 1 stepOps true).wp Tryz.prog Q (stepF s cs p undef undef undef undef undef undef undef) w0 := by
  have HI : (Tryz.prog.info? 46).map (·.size) = some cs.size := by rw [hsz]; exact shaH_size
  have HIA : ∀ f, (Tryz.prog.info? 68).map (·.size) = some (arrU 64 f).size := fun f => by rw [arrU_size]; exact arr64_size
  refine region_inv (by kernel_rfl) step_later (fun l a w => ∃ v5 v6 v7 v14 v15 v16 v17, a = stepF s cs p v5 v6 v7 v14 v15 v16 v17 ∧ Sti s cs w0 (fun j => l.getD j false) v5 v6 v7 v14 v15 v16 v17 w) ?_ ?_ ?_
  · refine ⟨_, _, _, _, _, _, _, rfl, ⟨rfl, rfl, rfl, Nat.le_refl _, fun _ _ => rfl⟩, ?_, ?_, ?_, ?_, ?_, ?_, ?_, ?_, ?_, ?_, ?_, ?_, ?_⟩ <;> intro h <;> exact absurd h (by decide)
  · rintro l a w i hl ⟨v5, v6, v7, v14, v15, v16, v17, rfl, S⟩ hi hd
    replace hl : l.size = 10 := hl
    have hlt : i < 10 := by
      rcases Nat.lt_or_ge i 10 with h | h
      · exact h
      · exfalso; rw [Array.getD, dif_neg (by omega)] at hi; cases hi
    have hlt' : i < l.size := by omega
    have hsz0 := S.below.size
    have G : (fun j => (l.setIfInBounds i true).getD j false) = fun j => if i = j then true else l.getD j false := funext fun j => getD_set j hlt'
    have hq : ∀ n, ((stepOps[i]?).map fun o => o.after.any fun e => e.on == n && Region.binds .any e) = some true → l.getD n false = true := fun n hn => by
      cases ho : stepOps[i]? with
      | none => rw [ho] at hn; cases hn
      | some o =>
        rw [ho] at hn
        simp only [Option.map_some, Option.some.injEq, Array.any_eq_true', Bool.and_eq_true, beq_iff_eq] at hn
        obtain ⟨e, he, hen, hb⟩ := hn
        rw [← hen]; exact hd o e ho he hb
    have hi' : ¬ l.getD i false = true := by rw [Array.getD, dif_pos hlt'] at hi ⊢; rw [hi]; exact Bool.false_ne_true
    have C : i = 0 ∨ i = 1 ∨ i = 2 ∨ i = 3 ∨ i = 4 ∨ i = 5 ∨ i = 6 ∨ i = 7 ∨ i = 8 ∨ i = 9 := by omega
    rcases C with rfl | rfl | rfl | rfl | rfl | rfl | rfl | rfl | rfl | rfl
    · refine wpOp_lit rfl rfl (BigFrame.wp_move (.tmp 1) rfl ⟨v5, v6, v7, _, v15, v16, v17, rfl, ?_⟩)
      rw [G]
      exact ⟨S.below, fun _ => rfl, S.s15, S.s16, S.s17, S.b5, S.b6, S.b7, S.n56, S.n57, S.n67, S.q7, S.q8, S.q9⟩
    · have e0 : v14 = .string ⟨s.toArray⟩ := S.s14 (hq 0 (by kernel_rfl))
      refine wpOp_lit rfl rfl (wp_enter (step_run_sch _ w (.string ⟨s.toArray⟩) ((by kernel_rfl : (stepF s cs p v5 v6 v7 v14 v15 v16 v17).eval (.tmp 14) = v14).trans e0) _ _) ((schedule_any s w hs).mono fun e w' h => ⟨_, h.1, rfl, h.2⟩ : Calls _ _ _ _ fun e w' => ∃ v, e = .returned v ∧ (v = .agg (arrU 64 (schedA s 64)) ∧ Below w.heap.size w w')) ?_)
      rintro v w' ⟨rfl, hb⟩
      refine ⟨v5, v6, v7, v14, _, v16, v17, rfl, ?_⟩
      rw [G]
      exact ⟨S.below.trans (hb.mono hsz0), S.s14, fun _ => rfl, S.s16, S.s17, S.b5.later hb, S.b6.later hb, S.b7.later hb, S.n56, S.n57, S.n67, S.q7, S.q8, S.q9⟩
    · refine wpOp_lit rfl rfl (wp_enter (step_run_con _ w _ _) ((shaK_any w).mono fun e w' h => ⟨_, h.1, rfl, h.2⟩ : Calls _ _ _ _ fun e w' => ∃ v, e = .returned v ∧ (v = .agg (arrU 64 shaKI) ∧ Below w.heap.size w w')) ?_)
      rintro v w' ⟨rfl, hb⟩
      refine ⟨v5, v6, v7, v14, v15, _, v17, rfl, ?_⟩
      rw [G]
      exact ⟨S.below.trans (hb.mono hsz0), S.s14, S.s15, fun _ => rfl, S.s17, S.b5.later hb, S.b6.later hb, S.b7.later hb, S.n56, S.n57, S.n67, S.q7, S.q8, S.q9⟩
    · refine wpOp_lit rfl rfl (wp_load_row 46 (.tmp 2) rfl p rfl 46 cs (0, 0) _ (K.below S.below hp) Tryz.underlying46 rfl HI ⟨v5, v6, v7, v14, v15, v16, _, rfl, ?_⟩)
      rw [G]
      exact ⟨S.below, S.s14, S.s15, S.s16, fun _ => rfl, S.b5, S.b6, S.b7, S.n56, S.n57, S.n67, S.q7, S.q8, S.q9⟩
    · refine wpOp_lit rfl rfl (wp_value (step_alloc_a _ w _ _) ⟨_, v6, v7, v14, v15, v16, v17, rfl, ?_⟩)
      have h7 : ¬ l.getD 7 false = true := fun h => hi' (S.q7 h)
      rw [G]
      refine ⟨S.below.alloc hsz0 _, S.s14, S.s15, S.s16, S.s17, ?_, S.b6.alloc _, S.b7.alloc _, ?_, ?_, S.n67, fun _ => rfl, S.q8, S.q9⟩
      · intro _; refine ⟨w.heap.size, rfl, hsz0, ?_⟩; refine (show Blk _ _ _ (if l.getD 7 false = true then _ else _) from ?_); rw [if_neg h7]; exact Blk.new _ _ _
      · intro _ h6; exact (S.b6.ne h6).symm
      · intro _ h6; exact (S.b7.ne h6).symm
    · refine wpOp_lit rfl rfl (wp_value (step_alloc_a _ w _ _) ⟨v5, _, v7, v14, v15, v16, v17, rfl, ?_⟩)
      have h7 : ¬ l.getD 8 false = true := fun h => hi' (S.q8 h)
      rw [G]
      refine ⟨S.below.alloc hsz0 _, S.s14, S.s15, S.s16, S.s17, S.b5.alloc _, ?_, S.b7.alloc _, ?_, S.n57, ?_, S.q7, fun _ => rfl, S.q9⟩
      · intro _; refine ⟨w.heap.size, rfl, hsz0, ?_⟩; refine (show Blk _ _ _ (if l.getD 8 false = true then _ else _) from ?_); rw [if_neg h7]; exact Blk.new _ _ _
      · intro h6 _; exact S.b5.ne h6
      · intro _ h6; exact (S.b7.ne h6).symm
    · refine wpOp_lit rfl rfl (wp_value (step_alloc_s _ w _ _) ⟨v5, v6, _, v14, v15, v16, v17, rfl, ?_⟩)
      have h7 : ¬ l.getD 9 false = true := fun h => hi' (S.q9 h)
      rw [G]
      refine ⟨S.below.alloc hsz0 _, S.s14, S.s15, S.s16, S.s17, S.b5.alloc _, S.b6.alloc _, ?_, S.n56, ?_, ?_, S.q7, S.q8, fun _ => rfl⟩
      · intro _; refine ⟨w.heap.size, rfl, hsz0, ?_⟩; refine (show Blk _ _ _ (if l.getD 9 false = true then _ else _) from ?_); rw [if_neg h7]; exact Blk.new _ _ _
      · intro h6 _; exact S.b5.ne h6
      · intro h6 _; exact S.b6.ne h6
    · have hon : l.getD 4 false = true := (hq 4 (by kernel_rfl))
      have hsv := S.s15 (hq 1 (by kernel_rfl))
      obtain ⟨b, hv, hb, KB⟩ := S.b5 hon
      rw [if_neg hi'] at KB
      refine wpOp_lit rfl rfl (wp_store_row 68 (.tmp 5) (.tmp 15) rfl b (arrU 64 (schedA s 64)) hv hsv 68 _ KB (HIA _) (by rw [arrU_size, arrU_size]) (arrU_one _ _) ⟨v5, v6, v7, v14, v15, v16, v17, rfl, ?_⟩)
      rw [G]
      refine ⟨below_setRow S.below b _ hb, S.s14, S.s15, S.s16, S.s17, ?_, S.b6.far (arrU 64 (schedA s 64)) (fun ho => by rw [← hv]; exact fun h => S.n56 hon ho h.symm), S.b7.far (arrU 64 (schedA s 64)) (fun ho => by rw [← hv]; exact fun h => S.n57 hon ho h.symm), S.n56, S.n57, S.n67, fun _ => hon, S.q8, S.q9⟩
      intro _; refine ⟨b, hv, hb, ?_⟩; exact setRow_heap _ _ _ _ _ _ KB
    · have hon : l.getD 5 false = true := (hq 5 (by kernel_rfl))
      have hsv := S.s16 (hq 2 (by kernel_rfl))
      obtain ⟨b, hv, hb, KB⟩ := S.b6 hon
      rw [if_neg hi'] at KB
      refine wpOp_lit rfl rfl (wp_store_row 68 (.tmp 6) (.tmp 16) rfl b (arrU 64 shaKI) hv hsv 68 _ KB (HIA _) (by rw [arrU_size, arrU_size]) (arrU_one _ _) ⟨v5, v6, v7, v14, v15, v16, v17, rfl, ?_⟩)
      rw [G]
      refine ⟨below_setRow S.below b _ hb, S.s14, S.s15, S.s16, S.s17, S.b5.far (arrU 64 shaKI) (fun ho => by rw [← hv]; exact S.n56 ho hon), ?_, S.b7.far (arrU 64 shaKI) (fun ho => by rw [← hv]; exact fun h => S.n67 hon ho h.symm), S.n56, S.n57, S.n67, S.q7, fun _ => hon, S.q9⟩
      intro _; refine ⟨b, hv, hb, ?_⟩; exact setRow_heap _ _ _ _ _ _ KB
    · have hon : l.getD 6 false = true := (hq 6 (by kernel_rfl))
      have hsv := S.s17 (hq 3 (by kernel_rfl))
      obtain ⟨b, hv, hb, KB⟩ := S.b7 hon
      rw [if_neg hi'] at KB
      refine wpOp_lit rfl rfl (wp_store_row 46 (.tmp 7) (.tmp 17) rfl b (cs) hv hsv 46 _ KB (HI) (by rw [arrU_size]; exact hsz.symm) (h1) ⟨v5, v6, v7, v14, v15, v16, v17, rfl, ?_⟩)
      rw [G]
      refine ⟨below_setRow S.below b _ hb, S.s14, S.s15, S.s16, S.s17, S.b5.far (cs) (fun ho => by rw [← hv]; exact S.n57 ho hon), S.b6.far (cs) (fun ho => by rw [← hv]; exact S.n67 ho hon), ?_, S.n56, S.n57, S.n67, S.q7, S.q8, fun _ => hon⟩
      intro _; refine ⟨b, hv, hb, ?_⟩; exact setRow_heap _ _ _ _ _ _ KB
  · rintro l a w hall ⟨v5, v6, v7, v14, v15, v16, v17, rfl, S⟩
    have a4 := hall 4 (by decide)
    have a5 := hall 5 (by decide)
    have a6 := hall 6 (by decide)
    obtain ⟨b5, e5, g5, k5⟩ := S.b5 a4
    obtain ⟨b6, e6, g6, k6⟩ := S.b6 a5
    obtain ⟨b7, e7, g7, k7⟩ := S.b7 a6
    rw [if_pos (hall _ (by decide))] at k5 k6 k7
    have n56 := S.n56 a4 a5
    have n57 := S.n57 a4 a6
    have n67 := S.n67 a5 a6
    subst e5 e6 e7
    exact hQ b5 b6 b7 v14 v15 v16 v17 w S.below g5 g6 g7 (fun h => n56 (by rw [h])) (fun h => n57 (by rw [h])) (fun h => n67 (by rw [h])) k5 k6 k7
end Go.Proofs.YtllmgogcemannaaGreatDoor
