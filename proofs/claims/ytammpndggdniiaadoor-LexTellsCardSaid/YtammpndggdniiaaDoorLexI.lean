/- Package lex: Write. -/
import Derived.Test.YtammpndggdniiaaDoorLexH
namespace Go.Proofs.YtammpndggdniiaaDoor
open Go.RowKit

/-- Tokens behind a slice: token i's four cells lie from 'off + 4 * i' on. -/
def Toks (w : World) (A : Option Addr) (l : List Tok) : Prop := 0 < l.length → ∃ b off, A = some ⟨b, off, none⟩ ∧ b < w.heap.size ∧ ∀ i (h : i < l.length) j, j < 4 → w.cell? ⟨b, off + (i * 4 + j), none⟩ = l[i].cells[j]?
theorem Toks.get {w wr : World} {A : Option Addr} {l : List Tok} (h : Toks w A l) {k : Nat} (hk : k < l.length) (hB : Below w.heap.size w wr) : ∃ b o, ∃ x : Tok, A = some ⟨b, o, none⟩ ∧ Hid (l[k] = x) ∧ b < w.heap.size ∧
    wr.cell? ⟨b, o + k * 4, none⟩ = some (.int .i64 x.kd) ∧ wr.cell? ⟨b, o + k * 4 + 1, none⟩ = some (.string ⟨x.tx.toArray⟩) ∧ wr.cell? ⟨b, o + k * 4 + 2, none⟩ = some (.int .i64 x.n) ∧ wr.cell? ⟨b, o + k * 4 + 3, none⟩ = some (.int .i64 x.at_) := by
  obtain ⟨b, o, rfl, hb, hc⟩ := h (by omega)
  have H := fun j hj => (hB.cell (p := ⟨b, o + (k * 4 + j), none⟩) hb).trans (hc k hk j hj)
  exact ⟨b, o, l[k], rfl, Lib.hid rfl, hb, H 0 (by decide), H 1 (by decide), H 2 (by decide), H 3 (by decide)⟩
theorem Toks.later {w wr : World} {A : Option Addr} {l : List Tok} (h : Toks w A l) (hB : Below w.heap.size w wr) : Toks wr A l := fun h0 => by
  obtain ⟨b, o, rfl, hb, hc⟩ := h h0
  exact ⟨b, o, rfl, Nat.lt_of_lt_of_le hb hB.size, fun i h j hj => (hB.cell (p := ⟨b, o + (i * 4 + j), none⟩) hb).trans (hc i h j hj)⟩
theorem toksL_at : ∀ (l : List Tok) (i : Nat) (h : i < l.length) (j : Nat), j < 4 → (toksL l)[i * 4 + j]? = l[i].cells[j]?
  | [], i, h, _, _ => by cases h
  | t :: l, 0, _, j, hj => by
    rw [toksL, List.flatMap_cons, List.getElem?_append_left (by simp [Tok.cells]; omega)]
    simp
  | t :: l, i + 1, h, j, hj => by
    have ih := toksL_at l i (by simpa using h) j hj
    rw [toksL, List.flatMap_cons, List.getElem?_append_right (by simp [Tok.cells]; omega)]
    have : (i + 1) * 4 + j - t.cells.toList.length = i * 4 + j := by simp [Tok.cells]; omega
    rw [this]; exact ih
/-- What Scan made reads as its tokens. -/
theorem OwnK.toks {w : World} {B : Nat} {A : Option Addr} {c : Nat} {l : List Tok} (h : OwnK w B 25 4 A c l.length (toksL l)) : Toks w A l := fun h0 => by
  rcases h.2 with ⟨_, hn⟩ | ⟨g, cap, cur, hv, hb, hgg, r⟩
  · omega
  · injection hv with h1 h2 h3
    subst h1
    refine ⟨g, 0, rfl, (Array.getElem?_eq_some_iff.1 hgg).1, fun i hi j hj => ?_⟩
    have e := toksL_at l i hi j hj
    have hs : l[i].cells[j]? = some (l[i].cells[j]'(by simpa [Tok.cells] using hj)) := Array.getElem?_eq_getElem _
    rw [hs] at e ⊢
    have := World.ownsRow.cells h (g := g) rfl (i * 4 + j) _ e
    rw [add0] at this
    rw [Nat.zero_add]; exact this

/-- What Write makes of a token. -/
def writeE (t : Tok) : List (List UInt8) := if t.kd = 0 then [t.tx] else if t.kd = 3 then [t.tx] else if t.kd = 1 then [Lib.itoa t.n] else if t.kd = 2 then [34 :: (t.tx ++ [34])] else if t.kd = 4 then [] else [[]]
def writeL (l : List Tok) : List (List UInt8) := l.flatMap writeE
def writeS (l : List Tok) : List UInt8 := Lib.join (writeL l) [32]
theorem writeL_take {l : List Tok} {k : Nat} (h : k < l.length) : writeL (l.take (k + 1)) = writeL (l.take k) ++ writeE l[k] := by
  rw [List.take_succ_eq_append_getElem h, writeL, List.flatMap_append, List.flatMap_singleton]; rfl
/-- A token that can be written. -/
def TokOk (t : Tok) : Prop := t.tx.length ≤ 50 ∧ (-9223372036854775808 ≤ t.n ∧ t.n ≤ 9223372036854775807)
end Go.Proofs.YtammpndggdniiaaDoor
