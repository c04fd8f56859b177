/- Package lex: the law's own helpers: same. -/
import Derived.Test.YtammpndggdniiaaDoorLexQ
namespace Go.Proofs.YtammpndggdniiaaDoor
open Go.RowKit

def core (t : Tok) : Int × List UInt8 × Int := (t.kd, t.tx, t.n)
set_option maxRecDepth 100000 in
set_option maxHeartbeats 8000000 in
theorem same_any (A B : Option Addr) (c d : Nat) (a b : List Tok) (w : World) (hA : Toks w A a) (hB : Toks w B b) (h : a.map core = b.map core) (hl : a.length ≤ 140737488355328) :
    Calls Tryd.prog 17 #[.slice A a.length c, .slice B b.length d] w fun e w' => e = .returned (.bool true) ∧ Below w.heap.size w w' := by
  have HA := Lib.hid hA
  have HB := Lib.hid hB
  have HC := Lib.hid h
  have hlen : b.length = a.length := by have := congrArg List.length h; simpa using this.symm
  rw [hlen]
  have HL := Lib.hid hlen
  clear hA hB h hlen
  go_enter Tryd.func17, Tryd.ntmps17
  go_wp2_with fail
  go_loopw [5] (fun i wr => ∃ (k : Nat), i = .int .i64 k ∧ k ≤ a.length ∧ Hid (Below w.heap.size w wr)) (fun i _ => a.length - (intOf i).toNat)
  case atStart => exact ⟨0, rfl, by omega, Lib.hid (Below.refl _ _)⟩
  case round =>
    obtain ⟨k, rfl, hk, hbl⟩ := hrel
    by_cases hlt : k < a.length
    · have hk1 : 0 ≤ (k : Int) := by omega
      have hk2 : (k : Int) < a.length := by omega
      have hlb : k < b.length := by have := HL.out; omega
      obtain ⟨b1, o1, x, rfl, hx, hb1, d0, d1, d2, d3⟩ := HA.out.get hlt hbl.out
      obtain ⟨b2, o2, y, rfl, hy, hb2, e0, e1, e2, e3⟩ := HB.out.get hlb hbl.out
      have hcc : core x = core y := by
        have h2 := congrArg (fun l => l[k]?) HC.out
        simp only [List.getElem?_map, List.getElem?_eq_getElem hlt, List.getElem?_eq_getElem hlb, Option.map_some, Option.some.injEq] at h2
        rw [hx.out, hy.out] at h2; exact h2
      obtain ⟨kd, tx, n, at1⟩ := x
      obtain ⟨kd2, tx2, n2, at2⟩ := y
      simp only [core, Prod.mk.injEq] at hcc
      obtain ⟨rfl, rfl, rfl⟩ := hcc
      clear hx hy
      simp only at d0 d1 d2 d3 e0 e1 e2 e3
      go_wp2_with fail
      go_quiet (fail)
      go_wp2_with fail
      go_roundw
      case rel => exact ⟨k + 1, by go_num, by omega, Lib.hid (below_drewN hbl.out _)⟩
      case measure => simp [intOf]; omega
    · go_wp2_with fail
      go_ret
      exact ⟨rfl, hbl.out⟩
end Go.Proofs.YtammpndggdniiaaDoor
