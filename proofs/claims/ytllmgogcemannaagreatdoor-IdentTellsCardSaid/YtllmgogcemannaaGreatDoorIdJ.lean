/- Package sum: Sha. -/
import Derived.Test.YtllmgogcemannaaGreatDoorIdI
import Derived.Test.YtllmgogcemannaaGreatDoorIdB
namespace Go.Proofs.YtllmgogcemannaaGreatDoor
open Go.RowKit

section
variable {P : Program} {ops : Array Oper} {Q : Exit → Act → World → Prop} {E : Prop}
theorem step_lit {o : Oper} {K : Act → World → Prop} {a : Act} {w : World} (hg : o.guard = none) (h : o.wp P a w K Q) : if Region.wanted o (yielded ops a.tmps) = true then Oper.wp P o a w K Q else E := by
  rw [if_pos (by simp [Region.wanted, hg])]; exact h
end
def shaF (b : Nat) (p : List UInt8) (v15 v16 v17 v18 x0 x1 x2 x5 x6 x7 x8 x9 x10 x11 x12 x13 x14 x19 x20 x21 x22 x23 x24 x25 x26 x27 x28 x29 x30 x31 x32 x33 x34 x35 x36 x37 x38 x39 : Value) : Act := { tmps := #[x0, x1, x2, .pointer (some ⟨b, 0, none⟩), .string ⟨p.toArray⟩, x5, x6, x7, x8, x9, x10, x11, x12, x13, x14, v15, v16, v17, v18, x19, x20, x21, x22, x23, x24, x25, x26, x27, x28, x29, x30, x31, x32, x33, x34, x35, x36, x37, x38, x39], defers := [] }
def shaOps : Array Oper :=
  #[{ dst := some 15, op := Op.load 46 (Operand.tmp 3), type := 46, pos := "sum.go:110", after := #[], guard := none },
    { dst := some 16, op := Op.move (Operand.tmp 4), type := 9, pos := "sum.go:110", after := #[], guard := none },
    { dst := some 17, op := Op.slice 9 (Operand.tmp 16) none (some (Operand.const (Value.int IntKind.i64 64))) none, type := 9, pos := "sum.go:110", after := #[{ on := 1, ground := Ground.data }], guard := none },
    { dst := some 18, op := Op.call { callee := Callee.value (Operand.func 36), args := #[Operand.tmp 15, Operand.tmp 17], argTypes := #[46, 9] }, type := 46, pos := "sum.go:110", after := #[{ on := 0, ground := Ground.data }, { on := 2, ground := Ground.data }], guard := none },
    { dst := none, op := Op.store 46 (Operand.tmp 3) (Operand.tmp 18), type := 0, pos := "sum.go:110",
      after := #[{ on := 3, ground := Ground.data }, { on := 3, ground := Ground.chain }, { on := 0, ground := Ground.phase }, { on := 1, ground := Ground.phase }, { on := 2, ground := Ground.phase }, { on := 3, ground := Ground.phase }], guard := none }]
structure Shi (p : List UInt8) (b : Nat) (c0 c1 : Array Value) (w0 : World) (f : Nat → Bool) (v15 v16 v17 v18 : Value) (w : World) : Prop where
  below : Below b w0 w
  s15 : f 0 = true → v15 = .agg c0
  s16 : f 1 = true → v16 = .string ⟨p.toArray⟩
  s17 : f 2 = true → v17 = .string ⟨(p.take 64).toArray⟩
  s18 : f 3 = true → v18 = .agg c1
  blk : Blk w b 46 (if f 4 = true then c1 else c0)
  q4 : f 4 = true → f 0 = true
theorem sha_run_step (a : Act) (w : World) (u v : Value) (hu : a.eval (.tmp 15) = u) (hv : a.eval (.tmp 17) = v) (d : Option Tmp) (ed : Array Edge) : (execOp a.eval { dst := d, op := Op.call { callee := Callee.value (Operand.func 36), args := #[Operand.tmp 15, Operand.tmp 17], argTypes := #[46, 9] }, type := 46, pos := "sum.go:110", after := ed, guard := none }).run Tryz.prog w = .ok (.enter 36 #[u, v]) w := by subst hu hv; kernel_rfl
set_option maxRecDepth 100000 in
theorem sha_run_slice (a : Act) (w : World) (p : List UInt8) (hp : 64 ≤ p.length) (hv : a.tmps[16]?.getD undef = .string ⟨p.toArray⟩) (d : Option Tmp) (ed : Array Edge) : (execOp a.eval { dst := d, op := Op.slice 9 (Operand.tmp 16) none (some (Operand.const (Value.int IntKind.i64 64))) none, type := 9, pos := "sum.go:110", after := ed, guard := none }).run Tryz.prog w = .ok (.value (.string ⟨(p.take 64).toArray⟩)) w := by
  have h := bx_take p 64
  have h1 : (64 : Int) ≤ p.length := by omega
  have h2 : ¬ ((p.length : Int) < 64) := by omega
  go_simp
theorem sha_later : laterOnly shaOps = true := by kernel_rfl
set_option maxRecDepth 100000 in
theorem sha_r5 {Q : Exit → Act → World → Prop} (p : List UInt8) (c0 c1 : Array Value) (b : Nat) (w0 : World) (x0 x1 x2 x5 x6 x7 x8 x9 x10 x11 x12 x13 x14 x19 x20 x21 x22 x23 x24 x25 x26 x27 x28 x29 x30 x31 x32 x33 x34 x35 x36 x37 x38 x39 v15 v16 v17 v18 : Value) (hp : 64 ≤ p.length) (hc0 : c0.size = 8) (hc1 : c1.size = 8) (h1 : c1.all (·.oneCell') = true) (K : Blk w0 b 46 c0)
    (HC : ∀ w, Calls Tryz.prog 36 #[.agg c0, .string ⟨(p.take 64).toArray⟩] w fun e w' => e = .returned (.agg c1) ∧ Below w.heap.size w w')
    (hQ : ∀ v15 v16 v17 v18 w, Below b w0 w → Blk w b 46 c1 → Q .normal (shaF b p v15 v16 v17 v18 x0 x1 x2 x5 x6 x7 x8 x9 x10 x11 x12 x13 x14 x19 x20 x21 x22 x23 x24 x25 x26 x27 x28 x29 x30 x31 x32 x33 x34 x35 x36 x37 x38 x39) w) :
    (Code.region 5 shaOps true).wp Tryz.prog Q (shaF b p v15 v16 v17 v18 x0 x1 x2 x5 x6 x7 x8 x9 x10 x11 x12 x13 x14 x19 x20 x21 x22 x23 x24 x25 x26 x27 x28 x29 x30 x31 x32 x33 x34 x35 x36 x37 x38 x39) w0 := by
  have HI0 : (Tryz.prog.info? 46).map (·.size) = some c0.size := by rw [hc0]; exact shaH_size
  have HI1 : (Tryz.prog.info? 46).map (·.size) = some c1.size := by rw [hc1]; exact shaH_size
  have hbl := K.lt
  refine region_inv (by kernel_rfl) sha_later (fun l a w => ∃ v15 v16 v17 v18, a = shaF b p v15 v16 v17 v18 x0 x1 x2 x5 x6 x7 x8 x9 x10 x11 x12 x13 x14 x19 x20 x21 x22 x23 x24 x25 x26 x27 x28 x29 x30 x31 x32 x33 x34 x35 x36 x37 x38 x39 ∧ Shi p b c0 c1 w0 (fun j => l.getD j false) v15 v16 v17 v18 w) ?_ ?_ ?_
  · refine ⟨_, _, _, _, rfl, ⟨rfl, rfl, rfl, Nat.le_refl _, fun _ _ => rfl⟩, ?_, ?_, ?_, ?_, K.drew, ?_⟩ <;> intro h <;> exact absurd h (by decide)
  · rintro l a w i hl ⟨v15, v16, v17, v18, rfl, S⟩ hi hd
    replace hl : l.size = 5 := hl
    have hlt : i < 5 := by
      rcases Nat.lt_or_ge i 5 with h | h
      · exact h
      · exfalso; rw [Array.getD, dif_neg (by omega)] at hi; cases hi
    have hlt' : i < l.size := by omega
    have hsz0 := S.below.size
    have G : (fun j => (l.setIfInBounds i true).getD j false) = fun j => if i = j then true else l.getD j false := funext fun j => getD_set j hlt'
    have hq : ∀ n, ((shaOps[i]?).map fun o => o.after.any fun e => e.on == n && Region.binds .any e) = some true → l.getD n false = true := fun n hn => by
      cases ho : shaOps[i]? with
      | none => rw [ho] at hn; cases hn
      | some o =>
        rw [ho] at hn
        simp only [Option.map_some, Option.some.injEq, Array.any_eq_true', Bool.and_eq_true, beq_iff_eq] at hn
        obtain ⟨e, he, hen, hb⟩ := hn
        rw [← hen]; exact hd o e ho he hb
    have hi' : ¬ l.getD i false = true := by rw [Array.getD, dif_pos hlt'] at hi ⊢; rw [hi]; exact Bool.false_ne_true
    have C : i = 0 ∨ i = 1 ∨ i = 2 ∨ i = 3 ∨ i = 4 := by omega
    rcases C with rfl | rfl | rfl | rfl | rfl
    · have h4 : ¬ l.getD 4 false = true := fun h => hi' (S.q4 h)
      have KB := S.blk
      rw [if_neg h4] at KB
      refine wpOp_lit rfl rfl (wp_load_row 46 (.tmp 3) rfl b rfl 46 c0 (0, 0) _ KB Tryz.underlying46 rfl HI0 ⟨_, v16, v17, v18, rfl, ?_⟩)
      rw [G]
      exact ⟨S.below, fun _ => rfl, S.s16, S.s17, S.s18, S.blk, fun _ => rfl⟩
    · refine wpOp_lit rfl rfl (BigFrame.wp_move (.tmp 4) rfl ⟨v15, _, v17, v18, rfl, ?_⟩)
      rw [G]
      exact ⟨S.below, S.s15, fun _ => rfl, S.s17, S.s18, S.blk, S.q4⟩
    · have e0 : v16 = .string ⟨p.toArray⟩ := S.s16 (hq 1 (by kernel_rfl))
      refine wpOp_lit rfl rfl (wp_value (sha_run_slice _ w p hp ((by kernel_rfl : (shaF b p v15 v16 v17 v18 x0 x1 x2 x5 x6 x7 x8 x9 x10 x11 x12 x13 x14 x19 x20 x21 x22 x23 x24 x25 x26 x27 x28 x29 x30 x31 x32 x33 x34 x35 x36 x37 x38 x39).tmps[16]?.getD undef = v16).trans e0) _ _) ⟨v15, v16, _, v18, rfl, ?_⟩)
      rw [G]
      exact ⟨S.below, S.s15, S.s16, fun _ => rfl, S.s18, S.blk, S.q4⟩
    · have e0 : v15 = .agg c0 := S.s15 (hq 0 (by kernel_rfl))
      have e1 : v17 = .string ⟨(p.take 64).toArray⟩ := S.s17 (hq 2 (by kernel_rfl))
      refine wpOp_lit rfl rfl (wp_enter (sha_run_step _ w _ _ ((by kernel_rfl : (shaF b p v15 v16 v17 v18 x0 x1 x2 x5 x6 x7 x8 x9 x10 x11 x12 x13 x14 x19 x20 x21 x22 x23 x24 x25 x26 x27 x28 x29 x30 x31 x32 x33 x34 x35 x36 x37 x38 x39).eval (.tmp 15) = v15).trans e0) ((by kernel_rfl : (shaF b p v15 v16 v17 v18 x0 x1 x2 x5 x6 x7 x8 x9 x10 x11 x12 x13 x14 x19 x20 x21 x22 x23 x24 x25 x26 x27 x28 x29 x30 x31 x32 x33 x34 x35 x36 x37 x38 x39).eval (.tmp 17) = v17).trans e1) _ _) ((HC w).mono fun e w' h => ⟨_, h.1, rfl, h.2⟩ : Calls _ _ _ _ fun e w' => ∃ v, e = .returned v ∧ (v = .agg c1 ∧ Below w.heap.size w w')) ?_)
      rintro v w' ⟨rfl, hb⟩
      refine ⟨v15, v16, v17, _, rfl, ?_⟩
      rw [G]
      exact ⟨S.below.trans (hb.mono (by omega)), S.s15, S.s16, S.s17, fun _ => rfl, S.blk.later hb, S.q4⟩
    · have hsv := S.s18 (hq 3 (by kernel_rfl))
      have h0 := hq 0 (by kernel_rfl)
      have KB := S.blk
      rw [if_neg hi'] at KB
      refine wpOp_lit rfl rfl (wp_store_row 46 (.tmp 3) (.tmp 18) rfl b c1 rfl hsv 46 _ KB HI1 (by rw [hc0, hc1]) h1 ⟨v15, v16, v17, v18, rfl, ?_⟩)
      rw [G]
      refine ⟨below_setRow S.below b _ (Nat.le_refl _), S.s15, S.s16, S.s17, S.s18, ?_, fun _ => h0⟩
      exact setRow_heap _ _ _ _ _ _ KB
  · rintro l a w hall ⟨v15, v16, v17, v18, rfl, S⟩
    have KB := S.blk
    rw [if_pos (hall 4 (by decide))] at KB
    exact hQ v15 v16 v17 v18 w S.below KB
theorem stepA_range (s : List UInt8) (h : Nat → Int) (hr : ∀ j, 0 ≤ h j ∧ h j < 4294967296) (j : Nat) : 0 ≤ stepA s h j ∧ stepA s h j < 4294967296 := by
  unfold stepA sumA
  split
  · omega
  · exact vA_range s h hr 64 j
/-- The state behind k blocks. -/
def shaS (p : List UInt8) : Nat → Nat → Int
  | 0 => shaHI
  | k + 1 => stepA ((p.drop (64 * k)).take 64) (shaS p k)
theorem shaHI_range (j : Nat) : 0 ≤ shaHI j ∧ shaHI j < 4294967296 := by
  unfold shaHI
  rcases Nat.lt_or_ge j 8 with h | h
  · have key : ∀ j : Fin 8, 0 ≤ shaHL.getD j.1 0 ∧ shaHL.getD j.1 0 < 4294967296 := by decide
    exact key ⟨j, h⟩
  · rw [List.getD_eq_getElem?_getD, List.getElem?_eq_none (by exact h)]; decide
theorem shaS_range (p : List UInt8) : ∀ k j, 0 ≤ shaS p k j ∧ shaS p k j < 4294967296
  | 0, j => shaHI_range j
  | k + 1, j => stepA_range _ _ (shaS_range p k) j
def strSize (v : Value) : Nat := match v with | .string b => b.size | _ => 0
theorem padF_mod (s : List UInt8) : (padF s).length % 64 = 0 := by
  rw [padF_len]
  have := padZ_end s.length
  omega
/-- The digest's words, its bytes. -/
def shaD (s : List UInt8) : Nat → Int := shaS (padF s) ((padF s).length / 64)
theorem shaD_range (s : List UInt8) (j : Nat) : 0 ≤ shaD s j ∧ shaD s j < 4294967296 := shaS_range _ _ j
def be4 (x : Int) : List UInt8 := [UInt8.ofNat (x.toNat / 16777216), UInt8.ofNat (x.toNat / 65536), UInt8.ofNat (x.toNat / 256), UInt8.ofNat x.toNat]
def shaT (s : List UInt8) : Nat → List UInt8
  | 0 => []
  | j + 1 => shaT s j ++ be4 (shaD s j)
theorem shaT_len (s : List UInt8) : ∀ j, (shaT s j).length = 4 * j
  | 0 => rfl
  | j + 1 => by rw [shaT, List.length_append, shaT_len s j]; rfl
def shaF8 (s : List UInt8) : List UInt8 := shaT s 8
theorem u8s_append (a b : List UInt8) : u8s (a ++ b) = u8s a ++ u8s b := by simp [u8s]
theorem byteN (n : Nat) : ((UInt8.ofNat n).toNat : Int) = (n : Int) % 256 := by rw [UInt8.toNat_ofNat']; omega
theorem be4_cells (x : Int) (h0 : 0 ≤ x) (h1 : x < 4294967296) : ([.int .u8 (x / 16777216), .int .u8 (x / 65536 % 256), .int .u8 (x / 256 % 256), .int .u8 (x % 256)] : List Value) = u8s (be4 x) := by
  obtain ⟨n, rfl⟩ := Int.eq_ofNat_of_zero_le h0
  unfold u8s be4
  simp only [List.map_cons, List.map_nil, byteN, Int.toNat_natCast]
  congr 2
  omega
theorem one4 (a b c d : Int) : ∀ v ∈ ([.int .u8 a, .int .u8 b, .int .u8 c, .int .u8 d] : List Value), v.oneCell' = true := by
  intro v hv
  simp only [List.mem_cons, List.not_mem_nil, or_false] at hv
  rcases hv with rfl | rfl | rfl | rfl <;> rfl
theorem cells_new4 (w : World) (t : TypeId) (a b c d : Value) : ∀ (j : Nat) u, ([a, b, c, d] : List Value)[j]? = some u → (w.alloc (.cells #[a, b, c, d] t)).cell? ⟨w.heap.size, j, none⟩ = some u := fun j u hu => ((Blk.new w t #[a, b, c, d]).cell j).trans (by simpa using hu)
theorem run_index8 (f : Nat → Int) (w : World) : ∀ j, j < 8 → (Instr.index 46 (.agg (arrU 8 f)) (.int .i64 (j : Nat))).run Tryz.prog w = .ok (.int .u32 (f j)) w
  | 0, _ => by kernel_rfl
  | 1, _ => by kernel_rfl
  | 2, _ => by kernel_rfl
  | 3, _ => by kernel_rfl
  | 4, _ => by kernel_rfl
  | 5, _ => by kernel_rfl
  | 6, _ => by kernel_rfl
  | 7, _ => by kernel_rfl
  | _ + 8, h => by omega
set_option maxRecDepth 100000 in
set_option maxHeartbeats 4000000 in
theorem sha_any (s : List UInt8) (w : World) (hs : s.length ≤ 1000000) :
    Calls Tryz.prog 20 #[.string ⟨s.toArray⟩] w fun e w' => e = .returned (.string ⟨(shaF8 s).toArray⟩) ∧ Below w.heap.size w w' := by
  have HH := Lib.hid (shaH_any w)
  have HP := Lib.hid (fun w1 => padded_any s w1 hs)
  have hI := Lib.hid (show (Tryz.prog.info? 46).map (·.size) = some (arrU 8 shaHI).size by rw [arrU_size]; exact shaH_size)
  have H1 := Lib.hid (arrU_one 8 shaHI)
  have hsz := arrU_size 8 shaHI
  have HZ := Lib.hid (rfl : (arrU 8 shaHI) = arrU 8 (shaS (padF s) 0))
  have hm := padF_mod s
  generalize hcs : arrU 8 shaHI = cs at *
  have HCS := Lib.hid hcs
  clear hcs
  go_enter Tryz.func20, Tryz.ntmps20
  go_wp2_with fail
  refine (HH.out).mono ?_; rintro e w1 ⟨rfl, b1⟩
  replace b1 := Lib.hid b1
  have KN := Lib.hid (Blk.new w1 46 (arrU 8 fun _ => 0))
  have HSR := Lib.hid (show Blk ((w1.alloc (.cells (arrU 8 fun _ => 0) 46)).setRow w1.heap.size cs) w1.heap.size 46 (arrU 8 (shaS (padF s) 0)) by rw [show arrU 8 (shaS (padF s) 0) = cs from HCS.out]; exact setRow_heap _ _ _ _ _ _ KN.out)
  have B2 := Lib.hid (below_setRow (b1.out.alloc b1.out.size (.cells (arrU 8 fun _ => 0) 46)) w1.heap.size cs b1.out.size)
  go_wp2_with (first | (refine wpList_store_row rfl 46 (.tmp 3) (.tmp 8) rfl w1.heap.size cs rfl rfl 46 _ KN.out hI.out ?_ H1.out ?_))
  · rw [arrU_size]; exact hsz.symm
  refine (HP.out _).mono ?_; rintro e w3 ⟨rfl, b3⟩
  have K3 := Lib.hid (HSR.out.later b3)
  have B3 := Lib.hid (B2.out.trans (b3.mono B2.out.size))
  have hb := Lib.hid b1.out.size
  clear b3 HSR B2 b1 KN
  generalize w1.heap.size = b3 at *
  clear hI H1 hsz HZ HCS HH HP
  go_wp2_with fail
  go_loopw [4] (fun p wr => ∃ (k : Nat), p = .string ⟨((padF s).drop (64 * k)).toArray⟩ ∧ 64 * k ≤ (padF s).length ∧ Hid (Blk wr b3 46 (arrU 8 (shaS (padF s) k))) ∧ Hid (Below w.heap.size w wr)) (fun p _ => strSize p)
  case atStart => exact ⟨0, rfl, by omega, K3, B3⟩
  case round =>
    clear K3 B3
    obtain ⟨k, rfl, hk, K, B⟩ := hrel
    by_cases hlt : 64 * k < (padF s).length
    · have hne : ((padF s).drop (64 * k) == []) = false := by
        rw [beq_eq_false_iff_ne]; intro h; have := congrArg List.length h; rw [List.length_drop] at this; simp at this; omega
      have hl64 : 64 ≤ ((padF s).drop (64 * k)).length := by rw [List.length_drop]; omega
      go_wp2_with fail
      have hlen : (((padF s).drop (64 * k)).take 64).length = 64 := by rw [List.length_take]; omega
      have HS := Lib.hid (fun w1 => step_any (((padF s).drop (64 * k)).take 64) (shaS (padF s) k) w1 hlen (shaS_range (padF s) k))
      have hsl := bx_take ((padF s).drop (64 * k)) 64
      have HSS := Lib.hid (show stepA (((padF s).drop (64 * k)).take 64) (shaS (padF s) k) = shaS (padF s) (k + 1) from rfl)
      rw [HSS.out] at HS
      have I0 := Lib.hid (show (Tryz.prog.info? 46).map (·.size) = some (arrU 8 (shaS (padF s) k)).size by rw [arrU_size]; exact shaH_size)
      have I1 := Lib.hid (show (Tryz.prog.info? 46).map (·.size) = some (arrU 8 (shaS (padF s) (k + 1))).size by rw [arrU_size]; exact shaH_size)
      have O1 := Lib.hid (arrU_one 8 (shaS (padF s) (k + 1)))
      have Z0 := arrU_size 8 (shaS (padF s) k)
      have Z1 := arrU_size 8 (shaS (padF s) (k + 1))
      generalize arrU 8 (shaS (padF s) k) = c0 at *
      generalize hc1 : arrU 8 (shaS (padF s) (k + 1)) = c1 at *
      have HC1 := Lib.hid hc1
      clear hc1
      have Bl := Lib.hid B.out.size
      refine sha_r5 (v15 := _) (v16 := _) (v17 := _) (v18 := _) (c0 := c0) (c1 := c1) (hp := hl64) (hc0 := Z0) (hc1 := Z1) (h1 := O1.out) (K := K.out) (HC := HS.out) (hQ := ?_)
      intro v15 v16 v17 v18 w4 B4 K4
      replace K4 := Lib.hid K4
      replace B4 := Lib.hid (B.out.trans (B4.mono hb.out))
      unfold Exit.inBlock shaF
      dsimp only
      have hle : (64 : Int) ≤ ((padF s).drop (64 * k)).length := by omega
      have hdd : ((padF s).drop (64 * k)).drop 64 = (padF s).drop (64 * (k + 1)) := by rw [List.drop_drop]; congr 1
      have hbe := bx_end ((padF s).drop (64 * k)) 64
      rw [List.length_drop, hdd] at hbe
      have hle : (64 : Int) ≤ ((padF s).length - 64 * k : Nat) := by rw [List.length_drop] at hl64; omega
      have HBE := Lib.hid hbe
      clear hbe
      go_wp2_with fail
      rw [HBE.out]
      go_roundw
      case rel => exact ⟨k + 1, rfl, by rw [List.length_drop] at hl64; omega, Lib.hid (by rw [HC1.out]; exact K4.out), B4⟩
      case measure => show (List.toArray _).size < (List.toArray _).size; rw [List.size_toArray, List.size_toArray, List.length_drop, List.length_drop]; omega
    · have hkl : 64 * k = (padF s).length := by omega
      have hnil : (padF s).drop (64 * k) = [] := List.drop_eq_nil_of_le (by omega)
      rw [hnil]
      have hkk : k = (padF s).length / 64 := by omega
      have HFI := Lib.hid (show shaS (padF s) k = shaD s by rw [hkk]; rfl)
      rw [HFI.out] at K
      have HF := Lib.hid (shaD_range s)
      have HAT := Lib.hid (fun w1 j (hj : j < 8) => run_index8 (shaD s) w1 j hj)
      have I0 := Lib.hid (show (Tryz.prog.info? 46).map (·.size) = some (arrU 8 (shaD s)).size by rw [arrU_size]; exact shaH_size)
      have Z0 := arrU_size 8 (shaD s)
      generalize arrU 8 (shaD s) = cd at *
      clear hkl hkk hnil hm HFI
      go_wp2_with (first | (refine wpList_load_row rfl 46 (.tmp 3) rfl b3 rfl 46 cd (0, 0) _ K.out Tryz.underlying46 rfl I0.out ?_))
      clear I0 K
      go_loopw [5, 20] (fun v i wr => ∃ (j : Nat) (A : Option Addr) (c : Nat), v = .slice A (u8s (shaT s j)).length c ∧ i = .int .i64 j ∧ j ≤ 8 ∧ Hid (OwnS wr w.heap.size 5 A c (u8s (shaT s j))) ∧ Hid (Below w.heap.size w wr)) (fun _ i _ => 8 - (intOf i).toNat)
      case atStart => exact ⟨0, none, 0, rfl, rfl, by omega, Lib.hid (OwnS.nil _ _ _), B⟩
      case round =>
        clear B
        obtain ⟨j, A, c, rfl, rfl, hj, hO, B⟩ := hrel
        by_cases hj8 : j < 8
        · have hj0 : 0 ≤ (j : Int) := by omega
          have hj1 : (j : Int) < 8 := by omega
          have hc := HAT.out wr j hj8
          have ⟨hx0, hx1⟩ := HF.out j
          generalize hx : shaD s j = x at *
          have HB4 := Lib.hid (be4_cells x hx0 hx1)
          have hxl := shaT_len s j
          have hul : (u8s (shaT s j)).length = 4 * j := by rw [u8s_length, hxl]
          have hbz := B.out.size
          have HNX := Lib.hid (show shaT s j ++ be4 x = shaT s (j + 1) by rw [← hx]; rfl)
          go_wp2_with (at_builtin; refine wpList_pushM rfl (.tmp 23) (.tmp 35) 42 rfl w.heap.size 5 (.int .u8 0) 1 Tryz.underlying42 Tryz.info_u8 rfl A c (u8s (shaT s j)) rfl (hO.out.alloc _) wr.heap.size 4 [.int .u8 (x / 16777216), .int .u8 (x / 65536 % 256), .int .u8 (x / 256 % 256), .int .u8 (x % 256)] rfl rfl (by decide) (cells_new4 wr _ _ _ _ _) (one4 _ _ _ _) ?c1 ?c2 ?_; (case c1 => omega); (case c2 => (rw [World.size_alloc]; omega)); intro g' c' w5 hO5 hb5 hg5 hat5 hlt5)
          go_roundw
          case rel =>
            refine ⟨j + 1, _, _, ?_, by go_num, by omega, Lib.hid (by rw [HB4.out, ← u8s_append, HNX.out] at hO5; exact hO5), Lib.hid (below_step B.out hbz hb5)⟩
            rw [u8s_length, shaT_len]; rfl
          case measure => simp [intOf]; omega
        · obtain rfl : j = 8 := by omega
          have hj1 : ¬ ((8 : Nat) : Int) < 8 := by omega
          have hcv := conv_own (n := (u8s (shaT s 8)).length) (dst := 9) Tryz.underlying42 Tryz.underlying5 Tryz.underlying9 hO.out (by rw [u8s_length])
          go_wp2_with fail
          go_ret
          exact ⟨rfl, B.out⟩
end Go.Proofs.YtllmgogcemannaaGreatDoor
