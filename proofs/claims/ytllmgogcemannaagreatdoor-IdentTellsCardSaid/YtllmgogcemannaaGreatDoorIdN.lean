/- Package ident: Ids. -/
import Derived.Test.YtllmgogcemannaaGreatDoorIdA
import Derived.Test.YtllmgogcemannaaGreatDoorMem
import Derived.Test.YtllmgogcemannaaGreatDoorRow
namespace Go.Proofs.YtllmgogcemannaaGreatDoor
open Go.RowKit

theorem cell_lt' {w : World} {g o : Nat} {v : Value} (h : w.cell? ⟨g, o, none⟩ = some v) : g < w.heap.size := block_lt_of_cell (a := ⟨g, o, none⟩) h
def ltS (x y : List UInt8) : Bool := Op.bytesLess x y
def idsAt (l : List (List UInt8)) (i : Nat) : Bool := rightS (l.getD i []) && (decide (i = 0) || ltS (l.getD (i - 1) []) (l.getD i []))
def idsS (l : List (List UInt8)) : Bool := decide (l.length ≤ 64) && (List.range l.length).all (idsAt l)
set_option maxRecDepth 100000 in
set_option maxHeartbeats 4000000 in
theorem ids_any (A : Option Addr) (c n hi : Nat) (l : List (List UInt8)) (w : World) (hrow : Row w hi A (strs l)) (hhi : hi ≤ w.heap.size) (hn : n = l.length) (hb : ∀ x ∈ l, x.length ≤ 1000000) (hl : l.length ≤ 100000) :
    Calls Tryz.prog 15 #[.slice A n c] w fun e w' => e = .returned (.bool (idsS l)) ∧ Below w.heap.size w w' := by
  subst hn
  have HB := Lib.hid hb
  clear hb
  by_cases h64 : l.length ≤ 64
  · have h64' : ¬ (64 : Int) < l.length := by omega
    have HR := Lib.hid hrow
    have HE := Lib.hid (show (∀ i, i < l.length → idsAt l i = true) → idsS l = true from fun h => by
      unfold idsS; rw [decide_eq_true h64, Bool.true_and, List.all_eq_true]; intro i hi; exact h i (List.mem_range.1 hi))
    have HF := Lib.hid (show ∀ i, i < l.length → idsAt l i = false → idsS l = false from fun i hi h => by
      unfold idsS; rw [decide_eq_true h64, Bool.true_and, ← Bool.not_eq_true, List.all_eq_true]; intro hh; have := hh i (List.mem_range.2 hi); rw [h] at this; cases this)
    clear hrow
    go_enter Tryz.func15, Tryz.ntmps15
    go_wp2_with fail
    go_loopw [10] (fun i wr => ∃ (k : Nat), i = .int .i64 k ∧ k ≤ l.length ∧ Hid (∀ i, i < k → idsAt l i = true) ∧ Hid (Below w.heap.size w wr)) (fun i _ => l.length - (intOf i).toNat)
    case atStart => exact ⟨0, rfl, by omega, Lib.hid (fun i h => absurd h (Nat.not_lt_zero _)), Lib.hid (Below.refl _ _)⟩
    case round =>
      obtain ⟨k, rfl, hk, HP, B⟩ := hrel
      by_cases hlt : k < l.length
      · have hlt' : (k : Int) < l.length := by omega
        have hk0 : 0 ≤ (k : Int) := by omega
        have HI := Lib.hid (show idsAt l k = (rightS l[k] && (decide (k = 0) || ltS (l.getD (k - 1) []) l[k])) by unfold idsAt; rw [List.getD_eq_getElem?_getD (i := k), List.getElem?_eq_getElem hlt]; rfl)
        have HG := Lib.hid (fun w1 => right_any l[k] w1 (by have := HB.out l[k] (List.getElem_mem hlt); omega))
        have HN := Lib.hid (show idsAt l k = true → ∀ i, i < k + 1 → idsAt l i = true from fun h i hi => by
          rcases Nat.lt_succ_iff_lt_or_eq.1 hi with h1 | h1
          · exact HP.out i h1
          · rw [h1]; exact h)
        have HFk := Lib.hid (HF.out k hlt)
        obtain ⟨b, off, rfl, hbhi, hc⟩ := HR.out.below B.out hhi (by rw [strs_length]; omega)
        rcases Nat.eq_zero_or_pos k with h0 | h0
        · subst h0
          have c0 : wr.cell? ⟨b, off, none⟩ = some (.string ⟨l[0].toArray⟩) := by have := hc 0 (by rw [strs_length]; exact hlt); simpa [strs] using this
          clear hc
          generalize l[0] = x at *
          cases hrx : rightS x with
          | false =>
            rw [hrx] at HG HI
            have HV := Lib.hid (HFk.out (by rw [HI.out]; rfl))
            clear hrx HI HN HFk
            go_wp2_with fail
            refine (HG.out _).mono ?_; rintro e w2 ⟨rfl, b2⟩
            replace b2 := Lib.hid (B.out.trans (b2.mono B.out.size))
            go_wp2_with fail
            go_ret
            exact ⟨by rw [HV.out]; rfl, b2.out⟩
          | true =>
            rw [hrx] at HG HI
            have HV := Lib.hid (HN.out (by rw [HI.out]; rfl))
            clear hrx HI HN HFk
            go_wp2_with fail
            refine (HG.out _).mono ?_; rintro e w2 ⟨rfl, b2⟩
            replace b2 := Lib.hid (B.out.trans (b2.mono B.out.size))
            go_wp2_with fail
            go_roundw
            case rel => exact ⟨1, rfl, by omega, HV, b2⟩
            case measure => simp [intOf]; omega
        · obtain ⟨j, rfl⟩ : ∃ j, k = j + 1 := ⟨k - 1, by omega⟩
          have hj : j < l.length := by omega
          have c1 : wr.cell? ⟨b, off + (j + 1), none⟩ = some (.string ⟨l[j + 1].toArray⟩) := by have := hc (j + 1) (by rw [strs_length]; exact hlt); simpa [strs] using this
          have cj : wr.cell? ⟨b, off + j, none⟩ = some (.string ⟨l[j].toArray⟩) := by have := hc j (by rw [strs_length]; exact hj); simpa [strs] using this
          have hgj : l.getD (j + 1 - 1) [] = l[j] := by rw [Nat.add_sub_cancel, List.getD_eq_getElem?_getD, List.getElem?_eq_getElem hj]; rfl
          rw [hgj] at HI
          clear hc hgj h0
          generalize l[j + 1] = x at *
          generalize l[j] = y at *
          cases hrx : rightS x with
          | false =>
            rw [hrx] at HG HI
            have HV := Lib.hid (HFk.out (by rw [HI.out]; rfl))
            clear hrx HI HN HFk
            go_wp2_with fail
            refine (HG.out _).mono ?_; rintro e w2 ⟨rfl, b2⟩
            replace b2 := Lib.hid (B.out.trans (b2.mono B.out.size))
            go_wp2_with fail
            go_ret
            exact ⟨by rw [HV.out]; rfl, b2.out⟩
          | true =>
            have cj' := Lib.hid (fun (w2 : World) (b2 : Below wr.heap.size wr w2) => (b2.cell (cell_lt' cj)).trans cj)
            rw [hrx] at HG HI
            clear hrx
            go_wp2_with fail
            refine (HG.out _).mono ?_; rintro e w2 ⟨rfl, b2⟩
            have cj2 := cj'.out w2 b2
            replace b2 := Lib.hid (B.out.trans (b2.mono B.out.size))
            cases hlx : Op.bytesLess y x with
            | false =>
              have HV := Lib.hid (HFk.out (by rw [HI.out]; unfold ltS; rw [hlx]; simp))
              clear HI HN HFk cj'
              go_wp2_with fail
              go_ret
              exact ⟨by rw [HV.out]; rfl, b2.out⟩
            | true =>
              have HV := Lib.hid (HN.out (by rw [HI.out]; unfold ltS; rw [hlx]; simp))
              clear HI HN HFk cj'
              go_wp2_with fail
              go_roundw
              case rel => exact ⟨j + 1 + 1, by go_num, by omega, HV, b2⟩
              case measure => simp [intOf]; omega
      · have hkl : k = l.length := by omega
        have hlt' : ¬ (k : Int) < l.length := by omega
        have HV := Lib.hid (HE.out (by rw [← hkl]; exact HP.out))
        clear hkl
        go_wp2_with fail
        go_ret
        exact ⟨by rw [HV.out]; rfl, B.out⟩
  · have h64' : (64 : Int) < l.length := by omega
    have HV := Lib.hid (show idsS l = false by unfold idsS; rw [decide_eq_false h64, Bool.false_and])
    clear h64 hrow
    go_enter Tryz.func15, Tryz.ntmps15
    go_wp2_with fail
    go_ret
    exact ⟨by rw [HV.out]; rfl, Below.refl _ _⟩
end Go.Proofs.YtllmgogcemannaaGreatDoor
