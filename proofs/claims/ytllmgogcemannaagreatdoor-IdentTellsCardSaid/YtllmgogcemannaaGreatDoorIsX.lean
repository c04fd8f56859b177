/- Package agoraref03: Hex. -/
import Derived.Test.YtllmgogcemannaaGreatDoorIdB
namespace Go.Proofs.YtllmgogcemannaaGreatDoor
open Go.RowKit

set_option maxRecDepth 100000 in
set_option maxHeartbeats 4000000 in
theorem rhex_any (s : List UInt8) (w : World) (hs : s.length ≤ 1000000) :
    Calls Tryz.prog 23 #[.string ⟨s.toArray⟩] w fun e w' => e = .returned (.string ⟨(hexF s).toArray⟩) ∧ Below w.heap.size w w' := by
  have hs1 : (s.length : Int) ≤ 1000000 := by omega
  obtain ⟨i0, hi0, hz0, hz1, hz2⟩ := info_parts Tryz.info_u8
  go_enter Tryz.func23, Tryz.ntmps23
  go_wp2_with fail
  go_loopw [3, 4] (fun o i wr => ∃ (k : Nat) (pre : List UInt8) (A : Option Addr) (c : Nat), o = .slice A (u8s pre).length c ∧ i = .int .i64 k ∧ k ≤ s.length ∧ Hid (pre = hexF (s.take k)) ∧ Hid (OwnS wr w.heap.size 5 A c (u8s pre)) ∧ Hid (Below w.heap.size w wr)) (fun _ i _ => s.length - (intOf i).toNat)
  case atStart => exact ⟨0, [], none, 0, rfl, rfl, by omega, Lib.hid rfl, Lib.hid ⟨by simp [u8s], .inl ⟨rfl, rfl⟩⟩, Lib.hid (Below.refl _ _)⟩
  case round =>
    obtain ⟨k, pre, A, c, rfl, rfl, hk, hP, hO, hB⟩ := hrel
    by_cases hlt : k < s.length
    · have hks : k < (⟨s.toArray⟩ : ByteArray).size := by show k < s.toArray.size; simpa using hlt
      have hk1 : 0 ≤ (k : Int) := by omega
      have hk2 : (k : Int) < s.length := by omega
      go_wp2_with fail
      have hb0 : 0 ≤ (((⟨s.toArray⟩ : ByteArray)[k].toNat : Nat) : Int) := by omega
      have hbm : (((⟨s.toArray⟩ : ByteArray)[k].toNat : Nat) : Int) < 256 := by have := (⟨s.toArray⟩ : ByteArray)[k].toNat_lt; omega
      have ea := and15 (⟨s.toArray⟩ : ByteArray)[k]
      have hm0 : 0 ≤ (((⟨s.toArray⟩ : ByteArray)[k].toNat % 16 : Nat) : Int) := by omega
      have hm1 : (((⟨s.toArray⟩ : ByteArray)[k].toNat % 16 : Nat) : Int) < 16 := by omega
      have hd0 : 0 ≤ (((⟨s.toArray⟩ : ByteArray)[k].toNat : Nat) : Int) / 16 := by omega
      have hd1 : (((⟨s.toArray⟩ : ByteArray)[k].toNat : Nat) : Int) / 16 < 16 := by omega
      generalize hx : (⟨s.toArray⟩ : ByteArray)[k] = x at *
      have hw1 : IntKind.u8.wrap (((x.toNat : Nat) : Int) / 16) = ((x.toNat : Nat) : Int) / 16 := by rw [IntKind.wrap_u8]; omega
      have hw2 : IntKind.u8.wrap (((x.toNat : Nat) : Int) % 16) = ((x.toNat % 16 : Nat) : Int) := by rw [IntKind.wrap_u8]; omega
      have hw3 : IntKind.u8.wrap ((((x.toNat : Nat) : Int)).tmod 16) = ((x.toNat % 16 : Nat) : Int) := by rw [IntKind.wrap_u8, Int.tmod_eq_emod_of_nonneg (by omega)]; omega
      have hw4 : (((x.toNat : Nat) : Int)).tmod 16 = ((x.toNat % 16 : Nat) : Int) := by rw [Int.tmod_eq_emod_of_nonneg (by omega)]; omega
      have hw5 : IntKind.u8.wrap ((x.toNat % 16 : Nat) : Int) = ((x.toNat % 16 : Nat) : Int) := by rw [IntKind.wrap_u8]; omega
      have hbs := hB.out.size
      have hpl : (u8s pre).length ≤ 2000000 := by rw [u8s_length, hP.out, hexF_len, List.length_take]; omega
      have HX := Lib.hid (show pre ++ hex2 x = hexF (s.take (k + 1)) by rw [hexF_take hlt, hP.out]; exact congrArg (fun c => hexF (s.take k) ++ hex2 c) hx.symm)
      have HO2 : ∀ g' c' w1, World.ownsRow w1 w.heap.size 5 1 (.slice (some ⟨g', 0, none⟩) ((u8s pre).length + 2) c') ((u8s pre).length + 2) (u8s pre ++ u8s (hex2 x)) → OwnS w1 w.heap.size 5 (some ⟨g', 0, none⟩) c' (u8s (pre ++ hex2 x)) := by
        intro g' c' w1 h
        have e : u8s (pre ++ hex2 x) = u8s pre ++ u8s (hex2 x) := by simp [u8s]
        unfold OwnS
        rw [e, List.length_append]; exact h
      have HB2 : ∀ {o : Obj} (w1 : World), (wr.alloc o).drew.grownBy w1 (Value.slice A (u8s pre).length c).ownBlock → Below w.heap.size w w1 := fun {o} w1 h =>
        ((below_drewN (hB.out.alloc hbs o) 1).trans (own_below (((OwnS.alloc hO.out o).drew)) h (by show w.heap.size ≤ (wr.alloc o).heap.size; rw [World.size_alloc]; omega)))
      go_region_held3 (fun _ => True) (trivial) (first | ((refine step_append_lies _ (by rfl) _ _ _ (by rfl) w.heap.size 5 i0 _ 1 1 Tryz.underlying42 hi0 hz0 hz1 hz2 rfl (by omega) (.slice A (u8s pre).length c) (u8s pre).length (u8s pre) (by rfl) ((World.ownsRow.alloc hO.out _).drew) ⟨wr.heap.size, 0, none⟩ 2 2 (u8s (hex2 x)) (by rfl) rfl ?hn ?h1 (by omega) ?h63 ?hby ?hba (wr.heap.size + 1) ?hH ?_); (case hn => (intro j u hu; rw [hex_news x _ _ (by omega) (by omega) rfl rfl] at hu; first | exact World.news_of_block (heap_alloc_new _ _) j u hu | (trace_state; sorry))); (case h1 => (intro u hu; simp [u8s] at hu; obtain ⟨_, _, rfl⟩ := hu; rfl)); (case h63 => (unfold maxLen; omega)); (case hby => omega); (case hba => (simp; omega)); (case hH => simp); intro g' c' w1 hown1 hgrow hat hlt2))
      all_goals
        go_wp2_with fail
        go_roundw
        case rel => exact ⟨k + 1, pre ++ hex2 x, some ⟨g', 0, none⟩, c', by simp [u8s, hex2], by go_num, by omega, HX, Lib.hid (HO2 _ _ _ hown1), Lib.hid (HB2 _ hgrow)⟩
        case measure => simp [intOf]; omega
    · have hke : k = s.length := by omega
      subst hke
      have hPP : pre = hexF s := by have := hP.out; rwa [List.take_length] at this
      have hlk : ¬ (s.length : Int) < s.length := by omega
      have hcv := conv_own (n := (u8s pre).length) (dst := 9) Tryz.underlying42 Tryz.underlying5 Tryz.underlying9 hO.out (by rw [u8s_length])
      rw [hPP] at hcv
      have HP := Lib.hid hPP
      rw [hPP]
      clear hP hPP
      go_wp2_with fail
      go_ret
      exact ⟨rfl, hB.out⟩
end Go.Proofs.YtllmgogcemannaaGreatDoor
