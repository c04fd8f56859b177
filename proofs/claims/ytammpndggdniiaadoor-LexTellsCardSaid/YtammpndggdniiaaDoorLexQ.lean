/- Package lex: the law's own helpers. -/
import Derived.Test.YtammpndggdniiaaDoorLexK
import Derived.Test.YtammpndggdniiaaDoorLexP
import Derived.BigQuiet
namespace Go.Proofs.YtammpndggdniiaaDoor
open Go.RowKit

theorem isB_iff (c : UInt8) : isB c = true ↔ c.toNat = 9 ∨ c.toNat = 10 ∨ c.toNat = 13 ∨ c.toNat = 32 := by
  have key : ∀ n : Fin 256, isB (UInt8.ofNat n) = true ↔ (UInt8.ofNat n).toNat = 9 ∨ (UInt8.ofNat n).toNat = 10 ∨ (UInt8.ofNat n).toNat = 13 ∨ (UInt8.ofNat n).toNat = 32 := by decide +kernel
  have := key ⟨c.toNat, c.toNat_lt⟩
  simpa using this
theorem all_take_succ {q : UInt8 → Bool} {s : List UInt8} {k : Nat} (h : k < s.length) (h1 : (s.take k).all q = true) (h2 : q s[k] = true) : (s.take (k + 1)).all q = true := by
  rw [List.take_succ_eq_append_getElem h, List.all_append, h1]; simp [h2]
theorem all_no {q : UInt8 → Bool} {s : List UInt8} {k : Nat} (h : k < s.length) (h2 : q s[k] = false) : s.all q = false := by
  rw [List.all_eq_false]; exact ⟨s[k], List.getElem_mem h, by rw [h2]; decide⟩
set_option maxRecDepth 100000 in
set_option maxHeartbeats 8000000 in
theorem blank_any (s : List UInt8) (w : World) (hs : s.length ≤ 140737488355328) :
    Calls Tryd.prog 16 #[.string ⟨s.toArray⟩] w fun e w' => e = .returned (.bool (s.all isB)) ∧ Below w.heap.size w w' := by
  go_enter Tryd.func16, Tryd.ntmps16
  go_wp2_with fail
  go_loopw [3] (fun i wr => ∃ (k : Nat), i = .int .i64 k ∧ k ≤ s.length ∧ Hid ((s.take k).all isB = true) ∧ Hid (Below w.heap.size w wr)) (fun i _ => s.length - (intOf i).toNat)
  case atStart => exact ⟨0, rfl, by omega, Lib.hid (by simp), Lib.hid (Below.refl _ _)⟩
  case round =>
    obtain ⟨k, rfl, hk, HA, hB⟩ := hrel
    by_cases hlt : k < s.length
    · have hks : k < (⟨s.toArray⟩ : ByteArray).size := by show k < s.toArray.size; simpa using hlt
      have hk1 : 0 ≤ (k : Int) := by omega
      have hk2 : (k : Int) < s.length := by omega
      have HI := Lib.hid (isB_iff (⟨s.toArray⟩ : ByteArray)[k])
      by_cases hb : isB (⟨s.toArray⟩ : ByteArray)[k] = true
      · have HK := Lib.hid (all_take_succ hlt HA.out hb)
        have hv := HI.out.1 hb
        clear hb
        rcases hv with hv | hv | hv | hv
        · have g1 : (((⟨s.toArray⟩ : ByteArray)[k].toNat : Nat) : Int) = 9 := by omega
          go_wp2_with fail
          go_roundw
          case rel => exact ⟨k + 1, by go_num, by omega, HK, hB⟩
          case measure => simp [intOf]; omega
        · have g1 : (((⟨s.toArray⟩ : ByteArray)[k].toNat : Nat) : Int) = 10 := by omega
          go_wp2_with fail
          go_roundw
          case rel => exact ⟨k + 1, by go_num, by omega, HK, hB⟩
          case measure => simp [intOf]; omega
        · have g1 : (((⟨s.toArray⟩ : ByteArray)[k].toNat : Nat) : Int) = 13 := by omega
          go_wp2_with fail
          go_roundw
          case rel => exact ⟨k + 1, by go_num, by omega, HK, hB⟩
          case measure => simp [intOf]; omega
        · have g1 : (((⟨s.toArray⟩ : ByteArray)[k].toNat : Nat) : Int) = 32 := by omega
          go_wp2_with fail
          go_roundw
          case rel => exact ⟨k + 1, by go_num, by omega, HK, hB⟩
          case measure => simp [intOf]; omega
      · have HK := Lib.hid (all_no hlt (show isB s[k] = false from Bool.eq_false_iff.2 hb))
        have g1 : ((((⟨s.toArray⟩ : ByteArray)[k].toNat : Nat) : Int) != 9) = true := by rw [bne_iff_ne]; intro h; exact hb (HI.out.2 (by omega))
        have g2 : ((((⟨s.toArray⟩ : ByteArray)[k].toNat : Nat) : Int) != 10) = true := by rw [bne_iff_ne]; intro h; exact hb (HI.out.2 (by omega))
        have g3 : ((((⟨s.toArray⟩ : ByteArray)[k].toNat : Nat) : Int) != 13) = true := by rw [bne_iff_ne]; intro h; exact hb (HI.out.2 (by omega))
        have g4 : ((((⟨s.toArray⟩ : ByteArray)[k].toNat : Nat) : Int) != 32) = true := by rw [bne_iff_ne]; intro h; exact hb (HI.out.2 (by omega))
        clear hb
        go_wp2_with fail
        go_ret
        exact ⟨by rw [HK.out]; rfl, hB.out⟩
    · have HK := Lib.hid (show s.all isB = true by have := HA.out; rwa [List.take_of_length_le (by omega)] at this)
      go_wp2_with fail
      go_ret
      exact ⟨by rw [HK.out]; rfl, hB.out⟩
end Go.Proofs.YtammpndggdniiaaDoor
