/- Package sum: the round constants, the first state. -/
import Derived.Test.YtllmgogcemannaaGreatDoorIdE
namespace Go.Proofs.YtllmgogcemannaaGreatDoor
open Go.RowKit

theorem wpList_buildIs {P : Program} {ops : Array Oper} {rest : List Oper} {o : Oper} {a : Act} {w : World} {Q : Exit → Act → World → Prop} (hg : o.guard = none) (t : TypeId) (parts : Array (Nat × Operand)) (ho : o.op = .build t parts) (cells : Array Value)
    (hb : P.built t (parts.map fun (i, x) => (i, a.eval x)).toList = some cells) (h : wpList P ops Q rest (a.put o.dst (.agg cells)) w) : wpList P ops Q (o :: rest) a w :=
  wpList_build hg t parts ho (by rw [hb]; rfl) (by rw [hb]; exact h)
def shaKL : List Int := [1116352408, 1899447441, 3049323471, 3921009573, 961987163, 1508970993, 2453635748, 2870763221, 3624381080, 310598401, 607225278, 1426881987, 1925078388, 2162078206, 2614888103, 3248222580, 3835390401, 4022224774, 264347078, 604807628, 770255983, 1249150122, 1555081692, 1996064986, 2554220882, 2821834349, 2952996808, 3210313671, 3336571891, 3584528711, 113926993, 338241895, 666307205, 773529912, 1294757372, 1396182291, 1695183700, 1986661051, 2177026350, 2456956037, 2730485921, 2820302411, 3259730800, 3345764771, 3516065817, 3600352804, 4094571909, 275423344, 430227734, 506948616, 659060556, 883997877, 958139571, 1322822218, 1537002063, 1747873779, 1955562222, 2024104815, 2227730452, 2361852424, 2428436474, 2756734187, 3204031479, 3329325298]
def shaKI (j : Nat) : Int := shaKL.getD j 0
theorem shaK_size : (Tryz.prog.info? 68).map (·.size) = some 64 := by kernel_rfl
set_option maxRecDepth 100000 in
theorem shaK_built : Tryz.prog.built 68 [(0, .int .u32 1116352408), (1, .int .u32 1899447441), (2, .int .u32 3049323471), (3, .int .u32 3921009573), (4, .int .u32 961987163), (5, .int .u32 1508970993), (6, .int .u32 2453635748), (7, .int .u32 2870763221), (8, .int .u32 3624381080), (9, .int .u32 310598401), (10, .int .u32 607225278), (11, .int .u32 1426881987), (12, .int .u32 1925078388), (13, .int .u32 2162078206), (14, .int .u32 2614888103), (15, .int .u32 3248222580), (16, .int .u32 3835390401), (17, .int .u32 4022224774), (18, .int .u32 264347078), (19, .int .u32 604807628), (20, .int .u32 770255983), (21, .int .u32 1249150122), (22, .int .u32 1555081692), (23, .int .u32 1996064986), (24, .int .u32 2554220882), (25, .int .u32 2821834349), (26, .int .u32 2952996808), (27, .int .u32 3210313671), (28, .int .u32 3336571891), (29, .int .u32 3584528711), (30, .int .u32 113926993), (31, .int .u32 338241895), (32, .int .u32 666307205), (33, .int .u32 773529912), (34, .int .u32 1294757372), (35, .int .u32 1396182291), (36, .int .u32 1695183700), (37, .int .u32 1986661051), (38, .int .u32 2177026350), (39, .int .u32 2456956037), (40, .int .u32 2730485921), (41, .int .u32 2820302411), (42, .int .u32 3259730800), (43, .int .u32 3345764771), (44, .int .u32 3516065817), (45, .int .u32 3600352804), (46, .int .u32 4094571909), (47, .int .u32 275423344), (48, .int .u32 430227734), (49, .int .u32 506948616), (50, .int .u32 659060556), (51, .int .u32 883997877), (52, .int .u32 958139571), (53, .int .u32 1322822218), (54, .int .u32 1537002063), (55, .int .u32 1747873779), (56, .int .u32 1955562222), (57, .int .u32 2024104815), (58, .int .u32 2227730452), (59, .int .u32 2361852424), (60, .int .u32 2428436474), (61, .int .u32 2756734187), (62, .int .u32 3204031479), (63, .int .u32 3329325298)] = some (arrU 64 shaKI) := by kernel_rfl
def shaKP : Array (Nat × Operand) := #[(0, .const (.int .u32 1116352408)), (1, .const (.int .u32 1899447441)), (2, .const (.int .u32 3049323471)), (3, .const (.int .u32 3921009573)), (4, .const (.int .u32 961987163)), (5, .const (.int .u32 1508970993)), (6, .const (.int .u32 2453635748)), (7, .const (.int .u32 2870763221)), (8, .const (.int .u32 3624381080)), (9, .const (.int .u32 310598401)), (10, .const (.int .u32 607225278)), (11, .const (.int .u32 1426881987)), (12, .const (.int .u32 1925078388)), (13, .const (.int .u32 2162078206)), (14, .const (.int .u32 2614888103)), (15, .const (.int .u32 3248222580)), (16, .const (.int .u32 3835390401)), (17, .const (.int .u32 4022224774)), (18, .const (.int .u32 264347078)), (19, .const (.int .u32 604807628)), (20, .const (.int .u32 770255983)), (21, .const (.int .u32 1249150122)), (22, .const (.int .u32 1555081692)), (23, .const (.int .u32 1996064986)), (24, .const (.int .u32 2554220882)), (25, .const (.int .u32 2821834349)), (26, .const (.int .u32 2952996808)), (27, .const (.int .u32 3210313671)), (28, .const (.int .u32 3336571891)), (29, .const (.int .u32 3584528711)), (30, .const (.int .u32 113926993)), (31, .const (.int .u32 338241895)), (32, .const (.int .u32 666307205)), (33, .const (.int .u32 773529912)), (34, .const (.int .u32 1294757372)), (35, .const (.int .u32 1396182291)), (36, .const (.int .u32 1695183700)), (37, .const (.int .u32 1986661051)), (38, .const (.int .u32 2177026350)), (39, .const (.int .u32 2456956037)), (40, .const (.int .u32 2730485921)), (41, .const (.int .u32 2820302411)), (42, .const (.int .u32 3259730800)), (43, .const (.int .u32 3345764771)), (44, .const (.int .u32 3516065817)), (45, .const (.int .u32 3600352804)), (46, .const (.int .u32 4094571909)), (47, .const (.int .u32 275423344)), (48, .const (.int .u32 430227734)), (49, .const (.int .u32 506948616)), (50, .const (.int .u32 659060556)), (51, .const (.int .u32 883997877)), (52, .const (.int .u32 958139571)), (53, .const (.int .u32 1322822218)), (54, .const (.int .u32 1537002063)), (55, .const (.int .u32 1747873779)), (56, .const (.int .u32 1955562222)), (57, .const (.int .u32 2024104815)), (58, .const (.int .u32 2227730452)), (59, .const (.int .u32 2361852424)), (60, .const (.int .u32 2428436474)), (61, .const (.int .u32 2756734187)), (62, .const (.int .u32 3204031479)), (63, .const (.int .u32 3329325298))]
set_option maxRecDepth 100000 in
theorem shaK_bt (a : Act) : Tryz.prog.built 68 (shaKP.map fun (i, x) => (i, a.eval x)).toList = some (arrU 64 shaKI) := by kernel_rfl
set_option maxRecDepth 100000 in
set_option maxHeartbeats 4000000 in
theorem shaK_any (w : World) : Calls Tryz.prog 55 #[] w fun e w' => e = .returned (.agg (arrU 64 shaKI)) ∧ Below w.heap.size w w' := by
  have HBT := Lib.hid shaK_bt
  have HI := Lib.hid (show (Tryz.prog.info? 68).map (·.size) = some (arrU 64 shaKI).size by rw [arrU_size]; exact shaK_size)
  have H1 := Lib.hid (arrU_one 64 shaKI)
  have hsz := arrU_size 64 shaKI
  generalize hcs : arrU 64 shaKI = cs at *
  go_enter Tryz.func55, Tryz.ntmps55
  go_wp2_with (first
    | (refine wpList_buildIs rfl 68 shaKP rfl cs (HBT.out _) ?_)
    | (refine wpList_store_row rfl 68 (.tmp 0) (.tmp 1) rfl w.heap.size cs rfl rfl 68 _ (heap_alloc_new w _) HI.out ?_ H1.out ?_))
  have HS : ((w.alloc (.cells (arrU 64 fun _ => 0) 68)).setRow w.heap.size cs).heap[w.heap.size]? = some (.cells cs 68 (0, 0)) := setRow_heap _ _ _ _ _ _ (Blk.new w 68 (arrU 64 fun _ => 0))
  refine bodyPost_ret (results_cell_row rfl _ _ w.heap.size 68 cs (0, 0) _ rfl HS Tryz.underlying68 rfl HI.out) rfl ⟨rfl, ?_⟩
  have hb := (Below.refl w.heap.size w).alloc (Nat.le_refl _) (.cells (arrU 64 fun _ => 0) 68)
  exact ⟨hb.os, hb.tape, hb.output, by have := hb.size; simp only [World.setRow]; rw [Array.size_modify]; exact this, fun i hi => (setRow_other _ w.heap.size i _ (by omega)).trans (hb.block i hi)⟩
def shaHL : List Int := [1779033703, 3144134277, 1013904242, 2773480762, 1359893119, 2600822924, 528734635, 1541459225]
def shaHI (j : Nat) : Int := shaHL.getD j 0
theorem shaH_size : (Tryz.prog.info? 46).map (·.size) = some 8 := by kernel_rfl
set_option maxRecDepth 100000 in
set_option maxHeartbeats 4000000 in
theorem shaH_any (w : World) : Calls Tryz.prog 34 #[] w fun e w' => e = .returned (.agg (arrU 8 shaHI)) ∧ Below w.heap.size w w' := by
  have HI := Lib.hid (show (Tryz.prog.info? 46).map (·.size) = some (arrU 8 shaHI).size by rw [arrU_size]; exact shaH_size)
  have HS := Lib.hid (Blk.new w 46 (arrU 8 shaHI))
  go_enter Tryz.func34, Tryz.ntmps34
  go_wp2_with fail
  exact bodyPost_ret (results_cell_row rfl _ _ w.heap.size 46 (arrU 8 shaHI) (0, 0) _ rfl HS.out Tryz.underlying46 rfl HI.out) rfl ⟨rfl, (Below.refl w.heap.size w).alloc (Nat.le_refl _) _⟩
end Go.Proofs.YtllmgogcemannaaGreatDoor

