/- Package lex: the scanner's next. -/
import Derived.Test.YtammpndggdniiaaDoorLexC
import Derived.Test.YtammpndggdniiaaDoorNumTP
namespace Go.Proofs.YtammpndggdniiaaDoor
open Go.RowKit

structure Tok where
  kd : Int
  tx : List UInt8
  n : Int
  at_ : Int
def Tok.cells (t : Tok) : Array Value := #[.int .i64 t.kd, .string ⟨t.tx.toArray⟩, .int .i64 t.n, .int .i64 t.at_]
def numMax : Int := 1125899906842624
def nextS (t : List UInt8) (p : Nat) : Tok × Nat × Bool :=
  if cls (t.headD 0).toNat = 2 then (⟨0, t.takeWhile isW, 0, p⟩, (t.takeWhile isW).length, decide ((t.takeWhile isW).length ≤ 24))
  else if cls (t.headD 0).toNat = 3 then (⟨1, [], parseN (t.takeWhile isW) 0 numMax, p⟩, (t.takeWhile isW).length, parseB (t.takeWhile isW) 0 numMax)
  else if cls (t.headD 0).toNat = 4 then (if (textS t).2 = true then (⟨2, ((textS t).1.drop 1).take ((textS t).1.length - 2), 0, p⟩, (textS t).1.length, true) else (⟨0, [], 0, p⟩, 0, false))
  else if cls (t.headD 0).toNat = 5 then (⟨3, (opS t).1, 0, p⟩, (opS t).1.length, (opS t).2)
  else (⟨0, [], 0, p⟩, 0, false)
def NextIs (r : Tok × Nat × Bool) (w : World) (e : Ending) (w' : World) : Prop :=
  e = .returned (.tuple #[.agg r.1.cells, .int .i64 r.2.1, .bool r.2.2]) ∧ Below w.heap.size w w'

theorem tok_size : (Tryd.prog.info? 25).map (·.size) = some 4 := by kernel_rfl
theorem next_results : Tryd.f19.results = #[.cell 2 25, .tmp 3, .tmp 4] := by kernel_rfl
theorem next_res (tmps : Array Value) (w : World) (g : Nat) (t : Tok) (hp : tmps.getD 2 undef = .pointer (some ⟨g, 0, none⟩)) (hb : Blk w g 25 t.cells) :
    (results Tryd.f19 tmps).run Tryd.prog w = .ok (.tuple #[.agg t.cells, tmps.getD 3 undef, tmps.getD 4 undef]) w := by
  have hp' : tmps[2]?.getD undef = .pointer (some ⟨g, 0, none⟩) := by simpa using hp
  have hr := run_loadVar_row w g 25 25 t.cells (0, 0) _ hb Tryd.underlying25 rfl tok_size
  simp [results, next_results, hp', asAddr, hr]
theorem six {w w3 : World} {g : Nat} {c0 c1 c2 c3 v0 v1 a0 a1 a2 a3 : Value} (h : Blk w3 g 25 #[c0, c1, c2, c3]) (n : Nat) (hb : Below n w w3) (hg : n ≤ g) :
    Blk ((((((w3.setCell ⟨g, 0, none⟩ v0).setCell ⟨g, 1, none⟩ v1).setCell ⟨g, 0, none⟩ a0).setCell ⟨g, 1, none⟩ a1).setCell ⟨g, 2, none⟩ a2).setCell ⟨g, 3, none⟩ a3) g 25 #[a0, a1, a2, a3] ∧
    Below n w ((((((w3.setCell ⟨g, 0, none⟩ v0).setCell ⟨g, 1, none⟩ v1).setCell ⟨g, 0, none⟩ a0).setCell ⟨g, 1, none⟩ a1).setCell ⟨g, 2, none⟩ a2).setCell ⟨g, 3, none⟩ a3) :=
  ⟨(((((h.set_ 0 v0).set_ 1 v1).set_ 0 a0).set_ 1 a1).set_ 2 a2).set_ 3 a3,
    (((((hb.setCell (p := ⟨g, 0, none⟩) hg v0).setCell (p := ⟨g, 1, none⟩) hg v1).setCell (p := ⟨g, 0, none⟩) hg a0).setCell (p := ⟨g, 1, none⟩) hg a1).setCell (p := ⟨g, 2, none⟩) hg a2).setCell (p := ⟨g, 3, none⟩) hg a3⟩

set_option maxRecDepth 100000 in
set_option maxHeartbeats 8000000 in
theorem next_name (b : Nat) (s : List UInt8) (p : Nat) (w : World) (h : Sc w b s p) (hp : p < s.length) (hs : s.length ≤ 4096) (h2 : cls s[p].toNat = 2) :
    Calls Tryd.prog 19 #[.pointer (some ⟨b, 0, none⟩)] w (NextIs (⟨0, (s.drop p).takeWhile isW, 0, p⟩, ((s.drop p).takeWhile isW).length, decide (((s.drop p).takeWhile isW).length ≤ 24)) w) := by
  have hps : p < (⟨s.toArray⟩ : ByteArray).size := by show p < s.toArray.size; simpa using hp
  have hbn : (⟨s.toArray⟩ : ByteArray)[p].toNat < 256 := (⟨s.toArray⟩ : ByteArray)[p].toNat_lt
  have hbm : (((⟨s.toArray⟩ : ByteArray)[p].toNat : Nat) : Int) < 256 := by omega
  have hp1 : 0 ≤ (p : Int) := by omega
  have hp2 : (p : Int) < s.length := by omega
  have c0 := h.s
  have c1 := h.a
  have c2 : w.cell? ⟨b, (⟨s.toArray⟩ : ByteArray)[p].toNat, none⟩ = some (.int .u8 2) := by
    have e := h.cls hbn
    rw [show cls (⟨s.toArray⟩ : ByteArray)[p].toNat = 2 from h2] at e; exact e
  have hbw := Blk.lt h
  obtain ⟨X, hX⟩ : ∃ X, (s.drop p).takeWhile isW = X := ⟨_, rfl⟩
  have HW := Lib.hid (fun wr (h : Sc wr b s p) => (word_any b s p wr h (Nat.le_of_lt hp) hs))
  rw [hX] at HW ⊢
  have HS := Lib.hid h
  clear h h2 hX hs
  go_enter Tryd.func19, Tryd.ntmps19
  go_wp2_with fail
  go_quiet (fail)
  go_wp2_with fail
  refine (HW.out _ ?_).mono ?_
  · exact Blk.alloc HS.out _
  rintro e w3 ⟨rfl, b3⟩
  have HB : Blk w3 w.heap.size 25 #[.int .i64 0, .string ⟨#[]⟩, .int .i64 0, .int .i64 p] := Blk.later (w := (w.alloc (.cells #[.int .i64 0, .string ⟨#[]⟩, .int .i64 0, .int .i64 p] 25)).drewN nq) (Blk.new w 25 #[.int .i64 0, .string ⟨#[]⟩, .int .i64 0, .int .i64 p]) b3
  have k0 : w3.cell? ⟨w.heap.size, 0, none⟩ = some (.int .i64 0) := HB.cell 0
  have k1 : w3.cell? ⟨w.heap.size, 1, none⟩ = some (.string ⟨#[]⟩) := HB.cell 1
  have k2 : w3.cell? ⟨w.heap.size, 2, none⟩ = some (.int .i64 0) := HB.cell 2
  have k3 : w3.cell? ⟨w.heap.size, 3, none⟩ = some (.int .i64 p) := HB.cell 3
  have f0 := HB.frozen 0
  have f1 := HB.frozen 1
  have f2 := HB.frozen 2
  have f3 := HB.frozen 3
  have BB := Lib.hid ((below_drewN ((Below.refl w.heap.size w).alloc (Nat.le_refl _) _) nq).trans (b3.mono (by show w.heap.size ≤ (w.alloc _).heap.size; rw [World.size_alloc]; omega)))
  have HB' := Lib.hid HB
  clear HB b3
  have hdl : decide ((X.length : Int) ≤ 24) = decide (X.length ≤ 24) := by rw [decide_eq_decide]; omega
  have HD := Lib.hid hdl
  clear hdl
  go_wp2_with fail
  obtain ⟨e1, e2⟩ := six (v0 := .int .i64 0) (v1 := .string ⟨X.toArray⟩) (a0 := .int .i64 0) (a1 := .string ⟨X.toArray⟩) (a2 := .int .i64 0) (a3 := .int .i64 p) HB'.out w.heap.size BB.out (Nat.le_refl _)
  refine bodyPost_ret (next_res _ _ w.heap.size ⟨0, X, 0, p⟩ rfl e1) rfl ⟨?_, e2⟩
  show Ending.returned (.tuple #[_, .int .i64 X.length, .bool (decide ((X.length : Int) ≤ 24))]) = _
  rw [HD.out]
end Go.Proofs.YtammpndggdniiaaDoor
