/- Package ident: ids. -/
import Derived.Test.YtllmgogcemannaaGreatDoorNumTP
import Derived.Shelf.Strings.SlTrimAscii
namespace Go.Proofs.YtllmgogcemannaaGreatDoor
open Go.RowKit

def hexS : List UInt8 := [48, 49, 50, 51, 52, 53, 54, 55, 56, 57, 97, 98, 99, 100, 101, 102]
def isHex (c : UInt8) : Bool := hexS.contains c
theorem dropWhile_nil {q : UInt8 → Bool} : ∀ {l : List UInt8}, l.dropWhile q = [] ↔ l.all q = true
  | [] => by simp
  | c :: l => by
    cases h : q c with
    | true => simp [List.dropWhile_cons, h, dropWhile_nil (l := l)]
    | false => simp [List.dropWhile_cons, h]
theorem trim_hex (l : List UInt8) : (Lib.trimS l hexS).isEmpty = l.all isHex := by
  rw [Bool.eq_iff_iff, List.isEmpty_iff]
  unfold Lib.trimS Lib.trimLeftS Lib.trimRightS
  rw [dropWhile_nil]
  constructor
  · intro h
    have h1 : (l.reverse.dropWhile (hexS.contains ·)).all (hexS.contains ·) = true := by rw [← List.all_reverse]; exact h
    have h2 : l.reverse.dropWhile (hexS.contains ·) = [] := by
      cases hd : l.reverse.dropWhile (hexS.contains ·) with
      | nil => rfl
      | cons c r =>
        have h3 : hexS.contains c = false := by
          have := List.head?_dropWhile_not (hexS.contains ·) l.reverse
          rw [hd] at this; simpa using this
        rw [hd] at h1
        simp only [List.all_cons, h3, Bool.false_and] at h1
        cases h1
    have h4 := dropWhile_nil.1 h2
    rw [List.all_reverse] at h4
    exact h4
  · intro h
    have h2 : l.reverse.dropWhile (hexS.contains ·) = [] := dropWhile_nil.2 (by rw [List.all_reverse]; exact h)
    rw [h2]; rfl
theorem trim_any (s : List UInt8) (w : World) (hs : s.length ≤ 140737488355328) :
    Calls Tryz.prog 27 #[.string ⟨s.toArray⟩, .string ⟨#[48, 49, 50, 51, 52, 53, 54, 55, 56, 57, 97, 98, 99, 100, 101, 102]⟩] w fun e w' => e = .returned (.string ⟨(Lib.trimS s hexS).toArray⟩) ∧ Below w.heap.size w w' :=
  Any.strings_Trim_laid Tryz.lays160 (by kernel_rfl) ⟨s.toArray⟩ ⟨#[48, 49, 50, 51, 52, 53, 54, 55, 56, 57, 97, 98, 99, 100, 101, 102]⟩ w (by show s.toArray.size ≤ _; simp; omega) (by decide) (by
    intro j b hb
    have hm : b ∈ hexS := List.mem_of_getElem? hb
    have : ∀ x ∈ hexS, x.toNat < 128 := by decide
    exact this b hm)
/-- What Right says. -/
def rightS (s : List UInt8) : Bool := decide (s.length = 16) && s.all isHex
set_option maxRecDepth 100000 in
set_option maxHeartbeats 4000000 in
theorem right_any (s : List UInt8) (w : World) (hs : s.length ≤ 140737488355328) :
    Calls Tryz.prog 9 #[.string ⟨s.toArray⟩] w fun e w' => e = .returned (.bool (rightS s)) ∧ Below w.heap.size w w' := by
  have T := Lib.hid (trim_any s w hs)
  have HE := Lib.hid (trim_hex s)
  generalize Lib.trimS s hexS = z at T HE
  by_cases h : s.length = 16
  · have HR := Lib.hid (show rightS s = z.isEmpty by unfold rightS; rw [HE.out, decide_eq_true h]; rfl)
    have g : (s.length : Int) = 16 := by omega
    clear h
    go_enter Tryz.func9, Tryz.ntmps9
    go_wp2_with fail
    refine T.out.mono ?_; rintro e w1 ⟨rfl, b1⟩
    go_wp2_with fail
    go_ret
    exact ⟨by rw [HR.out]; rfl, b1⟩
  · have HR := Lib.hid (show rightS s = false by unfold rightS; rw [decide_eq_false h]; rfl)
    have g : ((s.length : Int) == 16) = false := by rw [beq_eq_false_iff_ne]; omega
    clear h
    go_enter Tryz.func9, Tryz.ntmps9
    go_wp2_with fail
    go_ret
    exact ⟨by rw [HR.out]; rfl, Below.refl _ _⟩
end Go.Proofs.YtllmgogcemannaaGreatDoor
