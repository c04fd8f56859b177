/- The reference of lex: word. -/
import Derived.Test.YtammpndggdniiaaDoorRefC
namespace Go.Proofs.YtammpndggdniiaaDoor
open Go.RowKit

set_option maxRecDepth 100000 in
set_option maxHeartbeats 8000000 in
theorem rword_any (s : List UInt8) (p : Nat) (w : World) (hp : p ≤ s.length) (hs : s.length ≤ 4096) :
    Calls Tryd.prog 30 #[.string ⟨s.toArray⟩, .int .i64 p] w fun e w' => e = .returned (.int .i64 ((s.drop p).takeWhile isW).length) ∧ Below w.heap.size w w' := by
  have hp1 : 0 ≤ (p : Int) := by omega
  have hp2 : (p : Int) ≤ s.length := by omega
  have hs1 : (s.length : Int) ≤ 4096 := by omega
  go_enter Tryd.func30, Tryd.ntmps30
  go_wp2_with fail
  go_loopw [5] (fun i wr => ∃ (k : Nat), i = .int .i64 k ∧ p + k ≤ s.length ∧ Hid (((s.drop p).take k).all isW = true) ∧ Hid (Below w.heap.size w wr)) (fun i _ => s.length - (intOf i).toNat)
  case atStart => exact ⟨0, rfl, by omega, Lib.hid (by simp), Lib.hid (Below.refl _ _)⟩
  case round =>
    obtain ⟨k, rfl, hk, HA, hB⟩ := hrel
    by_cases hlt : p + k < s.length
    · have hks : p + k < (⟨s.toArray⟩ : ByteArray).size := by show p + k < s.toArray.size; simpa using hlt
      have hk1 : 0 ≤ (k : Int) := by omega
      have hk2 : (p : Int) + k < s.length := by omega
      have hk3 : 0 ≤ (p : Int) + k := by omega
      have PL := Lib.hid (rletter_any (⟨s.toArray⟩ : ByteArray)[p + k])
      have PD := Lib.hid (rdigit_any (⟨s.toArray⟩ : ByteArray)[p + k])
      have HK := fun (hw : isW (⟨s.toArray⟩ : ByteArray)[p + k] = true) => Lib.hid (show ((s.drop p).take (k + 1)).all isW = true by
        rw [List.take_succ_eq_append_getElem (by simp; omega), List.all_append, HA.out]
        simp only [List.getElem_drop, List.all_cons, List.all_nil, Bool.and_true, Bool.true_and]
        exact hw)
      have HE := fun (hw : isW (⟨s.toArray⟩ : ByteArray)[p + k] = false) => Lib.hid (show ((s.drop p).takeWhile isW).length = k by
        rw [tw_eq HA.out (fun x hx => by
          rw [List.getElem?_drop] at hx
          obtain ⟨_, rfl⟩ := List.getElem?_eq_some_iff.1 hx
          exact hw), List.length_take, List.length_drop]; omega)
      generalize hx : (⟨s.toArray⟩ : ByteArray)[p + k] = x at *
      by_cases h2 : cls x.toNat = 2
      · have HK1 := HK (by simp [isW, h2])
        rw [decide_eq_true h2] at PL
        clear HK HE
        go_wp2_with (first | (go_at_call 29; refine (PL.out _).mono ?_; rintro e w1 ⟨rfl, rfl⟩) | (go_at_call 31; refine (PD.out _).mono ?_; rintro e w2 ⟨rfl, rfl⟩))
        go_roundw
        case rel => exact ⟨k + 1, by go_num, by omega, HK1, hB⟩
        case measure => simp [intOf]; omega
      · rw [decide_eq_false h2] at PL
        by_cases h3 : cls x.toNat = 3
        · have HK1 := HK (by simp [isW, h3])
          rw [decide_eq_true h3] at PD
          clear HK HE
          go_wp2_with (first | (go_at_call 29; refine (PL.out _).mono ?_; rintro e w1 ⟨rfl, rfl⟩) | (go_at_call 31; refine (PD.out _).mono ?_; rintro e w2 ⟨rfl, rfl⟩))
          go_roundw
          case rel => exact ⟨k + 1, by go_num, by omega, HK1, hB⟩
          case measure => simp [intOf]; omega
        · rw [decide_eq_false h3] at PD
          by_cases h95 : x.toNat = 95
          · have HK1 := HK (by simp [isW, h95])
            have g95 : ((x.toNat : Nat) : Int) = 95 := by omega
            have PL5 := Lib.hid (fun w => (rletter_any 95 w : Calls Tryd.prog 29 #[.int .u8 95] w fun e w' => e = .returned (.bool false) ∧ w = w'))
            have PD5 := Lib.hid (fun w => (rdigit_any 95 w : Calls Tryd.prog 31 #[.int .u8 95] w fun e w' => e = .returned (.bool false) ∧ w = w'))
            clear HK HE PL PD
            go_wp2_with (first | (go_at_call 29; refine (PL5.out _).mono ?_; rintro e w1 ⟨rfl, rfl⟩) | (go_at_call 31; refine (PD5.out _).mono ?_; rintro e w2 ⟨rfl, rfl⟩))
            go_roundw
            case rel => exact ⟨k + 1, by go_num, by omega, HK1, hB⟩
            case measure => simp [intOf]; omega
          · have HE1 := HE (by simp [isW, h2, h3, h95])
            have g95 : (((x.toNat : Nat) : Int) == 95) = false := by rw [beq_eq_false_iff_ne]; omega
            clear HK HE
            go_wp2_with (first | (go_at_call 29; refine (PL.out _).mono ?_; rintro e w1 ⟨rfl, rfl⟩) | (go_at_call 31; refine (PD.out _).mono ?_; rintro e w2 ⟨rfl, rfl⟩))
            go_ret
            exact ⟨by rw [HE1.out]; rfl, hB.out⟩
    · have hk2 : ¬ (p : Int) + k < s.length := by omega
      have HE1 := Lib.hid (show ((s.drop p).takeWhile isW).length = k by
        rw [tw_eq HA.out (fun x hx => by
          rw [List.getElem?_drop] at hx
          obtain ⟨h1, _⟩ := List.getElem?_eq_some_iff.1 hx
          omega), List.length_take, List.length_drop]; omega)
      go_wp2_with fail
      go_ret
      exact ⟨by rw [HE1.out]; rfl, hB.out⟩
end Go.Proofs.YtammpndggdniiaaDoor
