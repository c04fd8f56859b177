/- Package lex: Scan's walk. -/
import Derived.Test.YtammpndggdniiaaDoorLexF
namespace Go.Proofs.YtammpndggdniiaaDoor
open Go.RowKit

/-- A slice of tokens that a function made. -/
def scanVal (r : Option (List Tok) × Int × Nat) (B : Nat) (e : Ending) (w' : World) : Prop :=
  match r with
  | (some l, z, n) => ∃ g c, e = .returned (.tuple #[.slice (some ⟨g, 0, none⟩) l.length c, .int .i64 z, .int .i64 n]) ∧ OwnK w' B 25 4 (some ⟨g, 0, none⟩) c l.length (toksL l)
  | (none, z, n) => e = .returned (.tuple #[.slice none 0 0, .int .i64 z, .int .i64 n])
set_option maxRecDepth 100000 in
theorem built_sc (s : ByteArray) : Tryd.prog.built 41 [(0, .agg (tabK 5)), (1, .string s)] = some (tabK 5 ++ #[.string s, .int .i64 0]) := by kernel_rfl
theorem wpList_buildIs {P : Program} {ops : Array Oper} {rest : List Oper} {o : Oper} {a : Act} {w : World} {Q : Exit → Act → World → Prop} (hg : o.guard = none) (t : TypeId) (parts : Array (Nat × Operand)) (ho : o.op = .build t parts) (cells : Array Value)
    (hb : P.built t (parts.map fun (i, x) => (i, a.eval x)).toList = some cells) (h : wpList P ops Q rest (a.put o.dst (.agg cells)) w) : wpList P ops Q (o :: rest) a w :=
  wpList_build hg t parts ho (by rw [hb]; rfl) (by rw [hb]; exact h)
theorem scC_size (s : List UInt8) (p : Nat) : (scC s p).size = 258 := by simp [scC, tabK_size]
theorem scC_one (s : List UInt8) (p : Nat) : (scC s p).all (·.oneCell') = true := by
  unfold scC; rw [Array.all_append, tabK_one]; simp [Value.oneCell']
theorem zero41_size : Tryd.zeroCells41.size = 258 := by kernel_rfl
theorem scanner_size : (Tryd.prog.info? 41).map (·.size) = some 258 := by kernel_rfl
theorem tok_info : (Tryd.prog.info? 25).map (fun i => (i.zero, i.size, i.bytes)) = some (some (.agg #[.int .i64 0, .string ⟨#[]⟩, .int .i64 0, .int .i64 0]), 4, 40) := by kernel_rfl

set_option maxRecDepth 100000 in
set_option maxHeartbeats 8000000 in
theorem scan_big (s : List UInt8) (w : World) (h : 4096 < s.length) :
    Calls Tryd.prog 10 #[.string ⟨s.toArray⟩] w fun e w' => scanVal (scanR s) w.heap.size e w' ∧ Below w.heap.size w w' := by
  have HR := Lib.hid (show scanR s = (none, 7, 0) by unfold scanR; rw [if_pos h])
  have hl : (4096 : Int) < s.length := by omega
  go_enter Tryd.func10, Tryd.ntmps10
  go_wp2_with fail
  go_ret3
  rw [HR.out]
  exact ⟨rfl, Below.refl _ _⟩

end Go.Proofs.YtammpndggdniiaaDoor
