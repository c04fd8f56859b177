/- The reference of code: List, Nums. -/
import Derived.Test.YtgojkbaodmiiaaaCodeRef1
namespace Go.Proofs.Ytgojkbaodmiiaaa
open Go.RowKit

theorem many_take {α : Type} (f : α → List UInt8) {l : List α} {k : Nat} (h : k < l.length) : ((l.take (k + 1)).map f).flatten = ((l.take k).map f).flatten ++ f l[k] := by
  rw [List.take_succ_eq_append_getElem h, List.map_append, List.flatten_append]; simp [-List.map_take]

set_option maxRecDepth 100000 in
set_option maxHeartbeats 1000000 in
theorem reflist_any (A : Option Addr) (c n : Nat) (l : List (List UInt8)) (w : World) (hrow : Row w w.heap.size A (strs l)) (hn : n = l.length) (hl : n ≤ 100) (hx : ∀ x ∈ l, x.length ≤ 1000) :
    Calls Try.prog 19 #[.slice A n c] w fun e w' => e = .returned (.string ⟨(encMany encText l).toArray⟩) ∧ Below w.heap.size w w' := by
  have HR := Lib.hid hrow
  have HN := Lib.hid hn
  have HX := Lib.hid hx
  have N := Lib.hid (fun w => refnum_nat n (by omega) w)
  have HE := Lib.hid (show encMany encText l = vi n ++ (l.map encText).flatten by rw [encMany, hn])
  have hl9 := vi_len9 (n := n) (by omega)
  clear hrow hx hn
  generalize vi n = V at *
  go_enter Try.func19, Try.ntmps19
  go_wp2_with fail
  refine (N.out _).mono ?_; rintro e w1 ⟨rfl, b1⟩
  have B1 := Lib.hid b1
  clear b1
  go_wp2_with fail
  go_loopw [3, 4] (fun t i wr => ∃ (k : Nat) (T : List UInt8), t = .string ⟨T.toArray⟩ ∧ i = .int .i64 k ∧ k ≤ n ∧ T.length ≤ 9 + k * 1009 ∧ Hid (T = V ++ ((l.take k).map encText).flatten) ∧ Hid (Below w.heap.size w wr)) (fun _ i _ => n - (intOf i).toNat)
  case atStart => exact ⟨0, V, rfl, rfl, by omega, by omega, Lib.hid (by simp), B1⟩
  case round =>
    obtain ⟨k, T, rfl, rfl, hk, hT, hTe, hB⟩ := hrel
    by_cases hlt : k < n
    · have hk1 : k < l.length := by rw [← HN.out]; exact hlt
      obtain ⟨b1, o1, rfl, hb1, hc1⟩ := HR.out (by rw [strs_length]; omega)
      have f1 : wr.cell? ⟨b1, o1 + k, none⟩ = some (.string ⟨l[k].toArray⟩) := by
        rw [hB.out.cell hb1, hc1 k (by rw [strs_length]; exact hk1)]; simp [strs]
      clear hc1
      have hx1 := HX.out l[k] (List.getElem_mem hk1)
      have hBs := hB.out.size
      have TX := Lib.hid (fun w => reftext_any l[k] w (by omega))
      have hnx := Lib.hid (show T ++ encText l[k] = V ++ ((l.take (k + 1)).map encText).flatten by rw [many_take encText hk1, hTe.out, List.append_assoc])
      have hE : (encText l[k]).length ≤ 1009 := by have := vi_len9 (n := l[k].length) (by omega); rw [encText, List.length_append]; omega
      have hcat : ByteArray.mk T.toArray ++ ByteArray.mk (encText l[k]).toArray = ByteArray.mk (T ++ encText l[k]).toArray := by rw [ByteArray.mk_append_mk]
      generalize encText l[k] = E at *
      go_wp2_with fail
      refine (TX.out _).mono ?_; rintro e w2 ⟨rfl, b2⟩
      have B2 := Lib.hid (hB.out.trans (b2.mono hBs))
      clear b2
      go_wp2_with fail
      go_roundw
      case rel => exact ⟨k + 1, T ++ E, rfl, by go_num, by omega, by rw [List.length_append]; omega, hnx, B2⟩
      case measure => simp [intOf]; omega
    · have hke : k = n := by omega
      have hTe2 : T = encMany encText l := by rw [HE.out, hTe.out, hke, HN.out, List.take_length]
      have HT := Lib.hid hTe2
      clear hTe2
      go_wp2_with fail
      go_ret
      rw [← HT.out]
      exact ⟨rfl, hB.out⟩

set_option maxRecDepth 100000 in
set_option maxHeartbeats 1000000 in
theorem refnums_any (A : Option Addr) (c n : Nat) (l : List Int) (w : World) (hrow : Row w w.heap.size A (i64s l)) (hn : n = l.length) (hl : n ≤ 100) :
    Calls Try.prog 21 #[.slice A n c] w fun e w' => e = .returned (.string ⟨(encMany encInt l).toArray⟩) ∧ Below w.heap.size w w' := by
  have HR := Lib.hid hrow
  have HN := Lib.hid hn
  have N := Lib.hid (fun w => refnum_nat n (by omega) w)
  have HE := Lib.hid (show encMany encInt l = vi n ++ (l.map encInt).flatten by rw [encMany, hn])
  have hl9 := vi_len9 (n := n) (by omega)
  clear hrow hn
  generalize vi n = V at *
  go_enter Try.func21, Try.ntmps21
  go_wp2_with fail
  refine (N.out _).mono ?_; rintro e w1 ⟨rfl, b1⟩
  have B1 := Lib.hid b1
  clear b1
  go_wp2_with fail
  go_loopw [3, 4] (fun t i wr => ∃ (k : Nat) (T : List UInt8), t = .string ⟨T.toArray⟩ ∧ i = .int .i64 k ∧ k ≤ n ∧ T.length ≤ 9 + k * 9 ∧ Hid (T = V ++ ((l.take k).map encInt).flatten) ∧ Hid (Below w.heap.size w wr)) (fun _ i _ => n - (intOf i).toNat)
  case atStart => exact ⟨0, V, rfl, rfl, by omega, by omega, Lib.hid (by simp), B1⟩
  case round =>
    obtain ⟨k, T, rfl, rfl, hk, hT, hTe, hB⟩ := hrel
    by_cases hlt : k < n
    · have hk1 : k < l.length := by rw [← HN.out]; exact hlt
      obtain ⟨b1, o1, rfl, hb1, hc1⟩ := HR.out (by rw [i64s_length]; omega)
      have f1 : wr.cell? ⟨b1, o1 + k, none⟩ = some (.int .i64 l[k]) := by
        rw [hB.out.cell hb1, hc1 k (by rw [i64s_length]; exact hk1)]; simp [i64s]
      clear hc1
      have hBs := hB.out.size
      have TX := Lib.hid (fun w => refint_any l[k] w)
      have hnx := Lib.hid (show T ++ encInt l[k] = V ++ ((l.take (k + 1)).map encInt).flatten by rw [many_take encInt hk1, hTe.out, List.append_assoc])
      have hE : (encInt l[k]).length ≤ 9 := encInt_len _
      have hcat : ByteArray.mk T.toArray ++ ByteArray.mk (encInt l[k]).toArray = ByteArray.mk (T ++ encInt l[k]).toArray := by rw [ByteArray.mk_append_mk]
      generalize encInt l[k] = E at *
      go_wp2_with fail
      refine (TX.out _).mono ?_; rintro e w2 ⟨rfl, b2⟩
      have B2 := Lib.hid (hB.out.trans (b2.mono hBs))
      clear b2
      go_wp2_with fail
      go_roundw
      case rel => exact ⟨k + 1, T ++ E, rfl, by go_num, by omega, by rw [List.length_append]; omega, hnx, B2⟩
      case measure => simp [intOf]; omega
    · have hke : k = n := by omega
      have hTe2 : T = encMany encInt l := by rw [HE.out, hTe.out, hke, HN.out, List.take_length]
      have HT := Lib.hid hTe2
      clear hTe2
      go_wp2_with fail
      go_ret
      rw [← HT.out]
      exact ⟨rfl, hB.out⟩

end Go.Proofs.Ytgojkbaodmiiaaa
