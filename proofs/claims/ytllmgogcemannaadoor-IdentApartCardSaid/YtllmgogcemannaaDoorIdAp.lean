/- Ids and digests in plain Lean; IdentApart's walk. -/
import Derived.Test.YtllmgogcemannaaDoorIdO
import Derived.Deep.RegionHeld3
namespace Go.Proofs.YtllmgogcemannaaDoor
open Go.RowKit

theorem hexF_append (a b : List UInt8) : hexF (a ++ b) = hexF a ++ hexF b := by unfold hexF; rw [List.flatMap_append]
theorem hex_take {x : List UInt8} {k : Nat} (h : k ≤ x.length) : (hexF x).take (2 * k) = hexF (x.take k) := by
  have e : x = x.take k ++ x.drop k := (List.take_append_drop k x).symm
  have hl : (hexF (x.take k)).length = 2 * k := by rw [hexF_len, List.length_take, Nat.min_eq_left h]
  conv => lhs; rw [e, hexF_append]
  rw [← hl, List.take_left']
  rfl
theorem hex2_inj (c d : UInt8) (h : hex2 c = hex2 d) : c = d := by
  have key : ∀ a b : Fin 16, hexS.getD a.1 0 = hexS.getD b.1 0 → a = b := by decide +kernel
  unfold hex2 at h
  simp only [List.cons.injEq, and_true] at h
  have hc := c.toNat_lt
  have hd := d.toNat_lt
  have h1 := key ⟨c.toNat / 16, by omega⟩ ⟨d.toNat / 16, by omega⟩ h.1
  have h2 := key ⟨c.toNat % 16, by omega⟩ ⟨d.toNat % 16, by omega⟩ h.2
  simp only [Fin.mk.injEq] at h1 h2
  apply UInt8.toNat_inj.1
  omega
theorem hexF_inj : ∀ {x y : List UInt8}, hexF x = hexF y → x = y
  | [], [], _ => rfl
  | [], d :: y, h => by have := congrArg List.length h; simp [hexF_len] at this
  | c :: x, [], h => by have := congrArg List.length h; simp [hexF_len] at this
  | c :: x, d :: y, h => by
    have h' : hex2 c ++ hexF x = hex2 d ++ hexF y := h
    obtain ⟨h1, h2⟩ := List.append_inj h' rfl
    rw [hex2_inj c d h1, hexF_inj h2]
theorem hex2_isHex (c : UInt8) : (hex2 c).all isHex = true := by
  have key : ∀ n : Fin 256, (hex2 (UInt8.ofNat n)).all isHex = true := by decide +kernel
  have := key ⟨c.toNat, c.toNat_lt⟩
  simpa using this
theorem hexF_isHex (x : List UInt8) : (hexF x).all isHex = true := by
  unfold hexF
  rw [List.all_flatMap, List.all_eq_true]
  exact fun c _ => hex2_isHex c
theorem of_right (n : Int) : rightS (ofS n) = true := by
  unfold rightS
  rw [ofS_len, decide_eq_true rfl, Bool.true_and, List.all_eq_true]
  intro c hc
  exact List.all_eq_true.1 (hexF_isHex _) c (List.mem_of_mem_take hc)
theorem of_eq (a b : Int) : (ofS a == ofS b) = ((shaF8 (actS a)).take 8 == (shaF8 (actS b)).take 8) := by
  have ea : ofS a = hexF ((shaF8 (actS a)).take 8) := hex_take (k := 8) (by rw [shaF8_len]; decide)
  have eb : ofS b = hexF ((shaF8 (actS b)).take 8) := hex_take (k := 8) (by rw [shaF8_len]; decide)
  rw [Bool.eq_iff_iff, beq_iff_eq, beq_iff_eq, ea, eb]
  exact ⟨hexF_inj, fun h => by rw [h]⟩
set_option maxRecDepth 100000 in
set_option maxHeartbeats 8000000 in
theorem apart_any (a b : Int) (w : World) (hL : LdI w) (ha : a < 9223372036854775808) (hb : b < 9223372036854775808) :
    Calls Tryd.prog 5 #[.int .i64 a, .int .i64 b] w fun e w' => e = .returned (.bool true) ∧ Below w.heap.size w w' := by
  have HSm := Lib.hid (small_any w hL)
  clear hL
  have st : ∀ {f : FuncId} {args : Array Value} {v : Value} (h : ∀ w1, Calls Tryd.prog f args w1 fun e w' => e = .returned v ∧ Below w1.heap.size w1 w') (w1 : World), Below w.heap.size w w1 → Calls Tryd.prog f args w1 fun e w' => e = .returned v ∧ Below w.heap.size w w' := fun h w1 hb1 => (h w1).mono fun e w' hh => ⟨hh.1, hb1.trans (hh.2.mono hb1.size)⟩
  have HT := Lib.hid (st textAct)
  have HNa := Lib.hid (st (fun w1 => num_all a w1 ha))
  have HNb := Lib.hid (st (fun w1 => num_all b w1 hb))
  have HSa := Lib.hid (st (fun w1 => sha_any (actS a) w1 (by have := actS_len ha; omega)))
  have HSb := Lib.hid (st (fun w1 => sha_any (actS b) w1 (by have := actS_len hb; omega)))
  have HO := Lib.hid (fun (n : Int) (hn : n < 9223372036854775808) (w1 : World) (h : Hid (Below w.heap.size w w1)) => (of_any n w1 hn).mono (fun e w' hh => (⟨hh.1, Lib.hid (h.out.trans (hh.2.mono h.out.size))⟩ : e = Ending.returned (.string ⟨(ofS n).toArray⟩) ∧ Hid (Below w.heap.size w w'))))
  have HR := Lib.hid (fun (n : Int) (w1 : World) (h : Hid (Below w.heap.size w w1)) => (right_any (ofS n) w1 (by rw [ofS_len]; omega)).mono (fun e w' hh => (⟨by rw [hh.1, of_right], Lib.hid (h.out.trans (hh.2.mono h.out.size))⟩ : e = Ending.returned (.bool true) ∧ Hid (Below w.heap.size w w'))))
  have hq := of_eq a b
  have bca : ByteArray.mk #[5, 97, 99, 116, 111, 114] ++ ByteArray.mk (numL a).toArray = ByteArray.mk (actS a).toArray := ByteArray.mk_append_mk _ _
  have bcb : ByteArray.mk #[5, 97, 99, 116, 111, 114] ++ ByteArray.mk (numL b).toArray = ByteArray.mk (actS b).toArray := ByteArray.mk_append_mk _ _
  have na := numL_len ha
  have nb := numL_len hb
  have la : ((shaF8 (actS a)).length : Int) = 32 := by rw [shaF8_len]; rfl
  have lb : ((shaF8 (actS b)).length : Int) = 32 := by rw [shaF8_len]; rfl
  have xa := bx_take (shaF8 (actS a)) 8
  have xb := bx_take (shaF8 (actS b)) 8
  clear st
  generalize (shaF8 (actS a)).take 8 = X8 at *
  generalize (shaF8 (actS b)).take 8 = Y8 at *
  generalize shaF8 (actS a) = X at *
  generalize shaF8 (actS b) = Y at *
  generalize actS a = TA at *
  generalize actS b = TB at *
  generalize numL a = NA at *
  generalize numL b = NB at *
  have na8 : (NA.length : Int) ≤ 9 := by omega
  have na7 : ¬ (9223372036854775807 : Int) < 6 + NA.length := by omega
  have nb8 : (NB.length : Int) ≤ 9 := by omega
  have nb7 : ¬ (9223372036854775807 : Int) < 6 + NB.length := by omega
  clear na nb
  have hx0 : ¬ (X.length : Int) < 8 := by omega
  have hy0 : ¬ (Y.length : Int) < 8 := by omega
  go_enter Tryd.func5, Tryd.ntmps5
  go_wp2_with fail
  refine HSm.out.mono ?_; rintro e w1 ⟨rfl, b1⟩
  replace b1 := Lib.hid b1
  go_wp2_with fail
  refine (HT.out _ b1.out).mono ?_; rintro e w2 ⟨rfl, b1⟩
  replace b1 := Lib.hid b1
  go_wp2_with fail
  refine (HNa.out _ b1.out).mono ?_; rintro e w3 ⟨rfl, b1⟩
  replace b1 := Lib.hid b1
  go_wp2_with fail
  refine (HSa.out _ b1.out).mono ?_; rintro e w4 ⟨rfl, b1⟩
  replace b1 := Lib.hid b1
  go_wp2_with fail
  refine (HT.out _ b1.out).mono ?_; rintro e w5 ⟨rfl, b1⟩
  replace b1 := Lib.hid b1
  go_wp2_with fail
  refine (HNb.out _ b1.out).mono ?_; rintro e w6 ⟨rfl, b1⟩
  replace b1 := Lib.hid b1
  go_wp2_with fail
  refine (HSb.out _ b1.out).mono ?_; rintro e w7 ⟨rfl, b1⟩
  replace b1 := Lib.hid b1
  go_wp2_with fail
  have b2 := Lib.hid (below_drew b1.out)
  clear HSm HT HNa HNb HSa HSb b1 na8 na7 nb8 nb7 bca bcb
  go_region_held3 (fun _ => True) (trivial) (first
    | (go_at_call 18; refine (HO.out _ (by assumption) _ (by assumption)).mono ?_; rintro e wn ⟨rfl, hbn⟩)
    | (go_at_call 17; refine (HR.out _ _ (by assumption)).mono ?_; rintro e wn ⟨rfl, hbn⟩))
  go_wp2_with fail
  go_ret
  exact ⟨rfl, hbn.out⟩
end Go.Proofs.YtllmgogcemannaaDoor
