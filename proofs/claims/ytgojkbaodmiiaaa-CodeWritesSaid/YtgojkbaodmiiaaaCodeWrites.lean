/- CodeWrites: for all integers n, strings s (at most 10000 bytes), lists l (at most 100 strings of at most 1000 bytes) and m (at most 100 integers), Num, Int, Text, List and Nums return what the reference returns. -/
import Derived.Test.YtgojkbaodmiiaaaCodeRef2
namespace Go.Proofs.Ytgojkbaodmiiaaa
open Go.RowKit

set_option maxRecDepth 100000 in
set_option maxHeartbeats 1000000 in
theorem writes_main (n : Int) (s : List UInt8) (A : Option Addr) (c p : Nat) (l : List (List UInt8)) (D : Option Addr) (d q : Nat) (m : List Int) (w : World) (hn1 : n < 9223372036854775808) (hs : s.length ≤ 10000)
    (hrow : Row w w.heap.size A (strs l)) (hp : p = l.length) (hlight : lightB l = true) (hrom : Row w w.heap.size D (i64s m)) (hq : q = m.length) (hm : q ≤ 100) :
    Calls Try.prog 3 #[.int .i64 n, .string ⟨s.toArray⟩, .slice A p c, .slice D q d] w fun e w' => e = .returned (.bool true) ∧ Below w.heap.size w w' := by
  have hli := hlight
  unfold lightB at hli
  simp only [Bool.and_eq_true, decide_eq_true_eq, List.all_eq_true] at hli
  obtain ⟨hl, hx⟩ := hli
  have hEl := enc_l l (by omega) (fun y hy => by have := hx y hy; omega)
  have hEm := enc_m m (by omega)
  have LT := Lib.hid (fun w' (b : Below w.heap.size w w') => light_any A c p l w' (hrow.later b) hp (by unfold maxLen; omega) (fun y hy => by have := hx y hy; unfold maxLen; omega))
  have NA := Lib.hid (fun w' => num_all n w' hn1)
  have NB := Lib.hid (fun w' => refnum_any n w' hn1)
  have IA := Lib.hid (fun w' => eint_any n w')
  have IB := Lib.hid (fun w' => refint_any n w')
  have TA := Lib.hid (fun w' => etext_any s w' (by omega))
  have TB := Lib.hid (fun w' => reftext_any s w' (by omega))
  have LA := Lib.hid (fun w' (b : Below w.heap.size w w') => elist_any A c p l w' (hrow.later b) hEl hp (by omega) (fun y hy => by have := hx y hy; omega))
  have LB := Lib.hid (fun w' (b : Below w.heap.size w w') => reflist_any A c p l w' (hrow.later b) hp (by omega) hx)
  have MA := Lib.hid (fun w' (b : Below w.heap.size w w') => enums_any D d q m w' (hrom.later b) hEm hq (by omega))
  have MB := Lib.hid (fun w' (b : Below w.heap.size w w') => refnums_any D d q m w' (hrom.later b) hq hm)
  rw [hlight] at LT
  clear hrow hrom hx hlight hp hq hl hEl hEm hn1
  generalize numL n = X1 at *
  generalize encInt n = X2 at *
  generalize encText s = X3 at *
  generalize encMany encText l = X4 at *
  generalize encMany encInt m = X5 at *
  go_enter Try.func3, Try.ntmps3
  go_wp2_with fail
  refine (small_any _).mono ?_; rintro e w1 ⟨rfl, b1⟩
  go_wp2_with fail
  refine (LT.out _ b1).mono ?_; rintro e w2 ⟨rfl, b2⟩
  have B2 := Lib.hid (b1.trans (b2.mono b1.size))
  clear b1 b2
  go_wp2_with fail
  refine (NA.out _).mono ?_; rintro e w3 ⟨rfl, b3⟩
  have B3 := Lib.hid (B2.out.trans (b3.mono B2.out.size))
  clear b3
  go_wp2_with fail
  refine (NB.out _).mono ?_; rintro e w4 ⟨rfl, b4⟩
  have B4 := Lib.hid (B3.out.trans (b4.mono B3.out.size))
  clear b4
  go_wp2_with fail
  refine (IA.out _).mono ?_; rintro e w5 ⟨rfl, b5⟩
  have B5 := Lib.hid (B4.out.trans (b5.mono B4.out.size))
  clear b5
  go_wp2_with fail
  refine (IB.out _).mono ?_; rintro e w6 ⟨rfl, b6⟩
  have B6 := Lib.hid (B5.out.trans (b6.mono B5.out.size))
  clear b6
  go_wp2_with fail
  refine (TA.out _).mono ?_; rintro e w7 ⟨rfl, b7⟩
  have B7 := Lib.hid (B6.out.trans (b7.mono B6.out.size))
  clear b7
  go_wp2_with fail
  refine (TB.out _).mono ?_; rintro e w8 ⟨rfl, b8⟩
  have B8 := Lib.hid (B7.out.trans (b8.mono B7.out.size))
  clear b8
  go_wp2_with fail
  refine (LA.out _ B8.out).mono ?_; rintro e w9 ⟨rfl, b9⟩
  have B9 := Lib.hid (B8.out.trans (b9.mono B8.out.size))
  clear b9
  go_wp2_with fail
  refine (LB.out _ B9.out).mono ?_; rintro e w10 ⟨rfl, b10⟩
  have B10 := Lib.hid (B9.out.trans (b10.mono B9.out.size))
  clear b10
  go_wp2_with fail
  refine (MA.out _ B10.out).mono ?_; rintro e w11 ⟨rfl, b11⟩
  have B11 := Lib.hid (B10.out.trans (b11.mono B10.out.size))
  clear b11
  go_wp2_with fail
  refine (MB.out _ B11.out).mono ?_; rintro e w12 ⟨rfl, b12⟩
  go_wp2_with fail
  go_ret
  exact ⟨rfl, B11.out.trans (b12.mono B11.out.size)⟩

set_option maxRecDepth 100000 in
set_option maxHeartbeats 1000000 in
theorem cwrites_any (n : Int) (s : List UInt8) (A : Option Addr) (c : Nat) (l : List (List UInt8)) (D : Option Addr) (d : Nat) (m : List Int) (w : World) (hn1 : n < 9223372036854775808) (hs : s.length ≤ maxLen)
    (hrow : Row w w.heap.size A (strs l)) (hl : l.length ≤ maxLen) (hx : ∀ x ∈ l, x.length ≤ maxLen) (hrom : Row w w.heap.size D (i64s m)) (hm : m.length ≤ maxLen) :
    Calls Try.prog 3 #[.int .i64 n, .string ⟨s.toArray⟩, .slice A l.length c, .slice D m.length d] w fun e w' => e = .returned (.bool true) ∧ Below w.heap.size w w' := by
  have LT := Lib.hid (fun w' (b : Below w.heap.size w w') => light_any A c _ l w' (hrow.later b) rfl hl hx)
  unfold maxLen at hs hl hm
  cases hv : lightB l
  · rw [hv] at LT
    clear hrow hrom hx hv hl
    go_enter Try.func3, Try.ntmps3
    go_wp2_with fail
    refine (small_any _).mono ?_; rintro e w1 ⟨rfl, b1⟩
    go_wp2_with fail
    refine (LT.out _ b1).mono ?_; rintro e w2 ⟨rfl, b2⟩
    go_wp2_with fail
    go_ret
    exact ⟨rfl, b1.trans (b2.mono b1.size)⟩
  · by_cases h1 : m.length ≤ 100
    · by_cases h2 : s.length ≤ 10000
      · exact writes_main n s A c _ l D d _ m w hn1 h2 hrow rfl hv hrom rfl h1
      · rw [hv] at LT
        clear hrow hrom hx hv hl
        go_enter Try.func3, Try.ntmps3
        go_wp2_with fail
        refine (small_any _).mono ?_; rintro e w1 ⟨rfl, b1⟩
        go_wp2_with fail
        refine (LT.out _ b1).mono ?_; rintro e w2 ⟨rfl, b2⟩
        go_wp2_with fail
        go_ret
        exact ⟨rfl, b1.trans (b2.mono b1.size)⟩
    · rw [hv] at LT
      clear hrow hrom hx hv hl
      go_enter Try.func3, Try.ntmps3
      go_wp2_with fail
      refine (small_any _).mono ?_; rintro e w1 ⟨rfl, b1⟩
      go_wp2_with fail
      refine (LT.out _ b1).mono ?_; rintro e w2 ⟨rfl, b2⟩
      go_wp2_with fail
      go_ret
      exact ⟨rfl, b1.trans (b2.mono b1.size)⟩

end Go.Proofs.Ytgojkbaodmiiaaa
