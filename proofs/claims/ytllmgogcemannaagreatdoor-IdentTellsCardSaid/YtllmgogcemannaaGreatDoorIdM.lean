/- Package ident: Handle, Parse. -/
import Derived.Test.YtllmgogcemannaaGreatDoorIdL
import Derived.Test.YtllmgogcemannaaGreatDoorNumTP
import Derived.OwnWalk
namespace Go.Proofs.YtllmgogcemannaaGreatDoor
open Go.RowKit

/-- What the walks want of the library's variables. -/
def LdI (w : World) : Prop := Ld w ∧ ∃ m, w.cell? ⟨0, 0, none⟩ = some (.int .i64 m)
theorem LdI.later {a w : World} (h : LdI a) (b : Below a.heap.size a w) : LdI w := by
  obtain ⟨h1, m, h2⟩ := h
  exact ⟨h1.later b, m, (b.cell (cell_lt h2)).trans h2⟩
theorem LdI.drewN {a : World} (h : LdI a) (n : Nat) : LdI (a.drewN n) := h.later ⟨rfl, rfl, rfl, Nat.le_refl _, fun _ _ => rfl⟩
def handleOk (name : List UInt8) (n : Int) : Bool := nameS name && decide (0 ≤ n) && decide (n < 20)
def handleS (name : List UInt8) (n : Int) : List UInt8 := if handleOk name n = true then name ++ 64 :: Lib.itoa n else []
theorem itoa_len20 {n : Int} (h0 : 0 ≤ n) (h1 : n < 20) : (Lib.itoa n).length ≤ 2 := by
  have key : ∀ k : Fin 20, (Lib.itoa (k.1 : Int)).length ≤ 2 := by decide +kernel
  obtain ⟨k, rfl⟩ := Int.eq_ofNat_of_zero_le h0
  exact key ⟨k, by omega⟩
theorem nameS_len {s : List UInt8} (h : nameS s = true) : s.length ≤ 24 := by
  simp only [nameS, Bool.and_eq_true, decide_eq_true_eq] at h
  exact h.1.2
set_option maxRecDepth 100000 in
set_option maxHeartbeats 4000000 in
theorem handle_any (s : List UInt8) (n : Int) (w : World) (hL : LdI w) (hs : s.length ≤ 1000000) (h0 : -9223372036854775808 ≤ n) (h1 : n ≤ 9223372036854775807) :
    Calls Tryz.prog 13 #[.string ⟨s.toArray⟩, .int .i64 n] w fun e w' => e = .returned (.string ⟨(handleS s n).toArray⟩) ∧ Below w.heap.size w w' := by
  have HN := Lib.hid (name_any s w hs)
  have HL := Lib.hid hL
  clear hL
  cases hn : nameS s with
  | false =>
    have HV := Lib.hid (show handleS s n = [] by unfold handleS handleOk; rw [hn]; rfl)
    rw [hn] at HN
    rw [HV.out]
    clear hn HV
    go_enter Tryz.func13, Tryz.ntmps13
    go_wp2_with fail
    refine HN.out.mono ?_; rintro e w1 ⟨rfl, b1⟩
    go_wp2_with fail
    go_ret
    exact ⟨rfl, b1⟩
  | true =>
    have hlen := nameS_len hn
    rw [hn] at HN
    by_cases hneg : n < 0
    · have HV := Lib.hid (show handleS s n = [] by unfold handleS handleOk; rw [decide_eq_false (by omega : ¬ 0 ≤ n), Bool.and_false, Bool.false_and]; rfl)
      rw [HV.out]
      clear hn HV
      go_enter Tryz.func13, Tryz.ntmps13
      go_wp2_with fail
      refine HN.out.mono ?_; rintro e w1 ⟨rfl, b1⟩
      go_wp2_with fail
      go_ret
      exact ⟨rfl, b1⟩
    · by_cases h20 : (20 : Int) ≤ n
      · have HV := Lib.hid (show handleS s n = [] by unfold handleS handleOk; rw [decide_eq_false (by omega : ¬ n < 20), Bool.and_false]; rfl)
        rw [HV.out]
        clear hn HV
        go_enter Tryz.func13, Tryz.ntmps13
        go_wp2_with fail
        refine HN.out.mono ?_; rintro e w1 ⟨rfl, b1⟩
        go_wp2_with fail
        go_ret
        exact ⟨rfl, b1⟩
      · have HV := Lib.hid (show handleS s n = (s ++ [64]) ++ Lib.itoa n by unfold handleS handleOk; rw [hn, decide_eq_true (by omega : 0 ≤ n), decide_eq_true (by omega : n < 20)]; simp)
        have HT := Lib.hid (fun w1 (h : Ld w1) => ntext_any n w1 h h0 h1)
        have hit := itoa_len20 (by omega : 0 ≤ n) (by omega : n < 20)
        have bc1 : ByteArray.mk s.toArray ++ ByteArray.mk #[64] = ByteArray.mk (s ++ [64]).toArray := ByteArray.mk_append_mk _ _
        have bc2 : ByteArray.mk (s ++ [64]).toArray ++ ByteArray.mk (Lib.itoa n).toArray = ByteArray.mk ((s ++ [64]) ++ Lib.itoa n).toArray := ByteArray.mk_append_mk _ _
        rw [← HV.out] at bc2
        have hl1 : ¬ (9223372036854775807 : Int) < (s.length : Int) + 1 := by omega
        have hl2 : ¬ (9223372036854775807 : Int) < ((s ++ [64]).length : Int) + (Lib.itoa n).length := by rw [List.length_append]; show ¬ _ < ((s.length + 1 : Nat) : Int) + _; omega
        generalize handleS s n = V at *
        generalize s ++ [64] = S1 at *
        generalize Lib.itoa n = IT at *
        clear hn HV hlen hit hl1
        go_enter Tryz.func13, Tryz.ntmps13
        go_wp2_with fail
        refine HN.out.mono ?_; rintro e w1 ⟨rfl, b1⟩
        replace b1 := Lib.hid b1
        have L1 := Lib.hid ((HL.out.later b1.out).1)
        go_wp2_with fail
        refine (HT.out _ L1.out).mono ?_; rintro e w2 ⟨rfl, b2⟩
        replace b2 := Lib.hid (b1.out.trans (b2.mono b1.out.size))
        go_wp2_with fail
        go_ret
        exact ⟨rfl, b2.out⟩
def cutA (s : List UInt8) : List UInt8 := (Lib.cut s [64]).1
def cutB (s : List UInt8) : List UInt8 := (Lib.cut s [64]).2.1
def cutF (s : List UInt8) : Bool := (Lib.cut s [64]).2.2
def ipOk (s : List UInt8) : Bool := cutF s && parseB (cutB s) 0 19 && nameS (cutA s)
def ipA (s : List UInt8) : List UInt8 := if ipOk s = true then cutA s else []
def ipN (s : List UInt8) : Int := if ipOk s = true then parseN (cutB s) 0 19 else 0
theorem cut_len (s : List UInt8) : (cutA s).length ≤ s.length ∧ (cutB s).length ≤ s.length := by
  unfold cutA cutB Lib.cut
  split
  · simp only [List.length_take, List.length_drop]; omega
  · exact ⟨Nat.le_refl _, Nat.zero_le _⟩
set_option maxRecDepth 100000 in
set_option maxHeartbeats 4000000 in
theorem iparse_any (s : List UInt8) (w : World) (hL : LdI w) (hs : s.length ≤ 1000000) :
    Calls Tryz.prog 5 #[.string ⟨s.toArray⟩] w fun e w' => e = .returned (.tuple #[.string ⟨(ipA s).toArray⟩, .int .i64 (ipN s), .bool (ipOk s)]) ∧ Below w.heap.size w w' := by
  obtain ⟨hl1, hl2⟩ := cut_len s
  have HC : Hid (Calls Tryz.prog 16 #[.string ⟨s.toArray⟩, .string ⟨#[64]⟩] w fun e w' => e = .returned (.tuple #[.string ⟨(cutA s).toArray⟩, .string ⟨(cutB s).toArray⟩, .bool (cutF s)]) ∧ ∃ n, w' = w.drewN n) := by
    obtain ⟨_, m, hm⟩ := hL
    exact Lib.hid (Tryz.strings_Cut ⟨s.toArray⟩ ⟨#[64]⟩ m w (by show s.toArray.size < _; simp; omega) hm)
  have HP := Lib.hid (fun w1 (h : Ld w1) => nparse_any (cutB s) 0 19 w1 h (by omega))
  have HN := Lib.hid (fun w1 => name_any (cutA s) w1 (by omega))
  have HL := Lib.hid hL
  clear hL
  unfold ipA ipN
  have HOK := Lib.hid (show ipOk s = (cutF s && parseB (cutB s) 0 19 && nameS (cutA s)) from rfl)
  generalize ipOk s = ok at *
  generalize cutF s = f at *
  generalize parseB (cutB s) 0 19 = pb at *
  generalize parseN (cutB s) 0 19 = pn at *
  generalize nameS (cutA s) = nm at *
  generalize cutA s = a at *
  generalize cutB s = b at *
  clear hl1 hl2
  cases f with
  | false =>
    obtain rfl : ok = false := HOK.out
    rw [if_neg (by decide), if_neg (by decide)]
    clear HOK HN
    go_enter Tryz.func5, Tryz.ntmps5
    go_wp2_with fail
    refine HC.out.mono ?_; rintro e w1 ⟨rfl, n, rfl⟩
    have b1 := Lib.hid (below_drewN (Below.refl w.heap.size w) n)
    have L1 := Lib.hid ((HL.out.later b1.out).1)
    go_wp2_with fail
    refine (HP.out _ L1.out).mono ?_; rintro e w2 ⟨rfl, b2⟩
    replace b2 := Lib.hid (b1.out.trans b2)
    go_wp2_with fail
    go_ret3
    exact ⟨rfl, b2.out⟩
  | true =>
    cases pb with
    | false =>
      obtain rfl : ok = false := HOK.out
      rw [if_neg (by decide), if_neg (by decide)]
      clear HOK HN
      go_enter Tryz.func5, Tryz.ntmps5
      go_wp2_with fail
      refine HC.out.mono ?_; rintro e w1 ⟨rfl, n, rfl⟩
      have b1 := Lib.hid (below_drewN (Below.refl w.heap.size w) n)
      have L1 := Lib.hid ((HL.out.later b1.out).1)
      go_wp2_with fail
      refine (HP.out _ L1.out).mono ?_; rintro e w2 ⟨rfl, b2⟩
      replace b2 := Lib.hid (b1.out.trans b2)
      go_wp2_with fail
      go_ret3
      exact ⟨rfl, b2.out⟩
    | true =>
      cases nm with
      | false =>
        obtain rfl : ok = false := HOK.out
        rw [if_neg (by decide), if_neg (by decide)]
        clear HOK
        go_enter Tryz.func5, Tryz.ntmps5
        go_wp2_with fail
        refine HC.out.mono ?_; rintro e w1 ⟨rfl, n, rfl⟩
        have b1 := Lib.hid (below_drewN (Below.refl w.heap.size w) n)
        have L1 := Lib.hid ((HL.out.later b1.out).1)
        go_wp2_with fail
        refine (HP.out _ L1.out).mono ?_; rintro e w2 ⟨rfl, b2⟩
        replace b2 := Lib.hid (b1.out.trans b2)
        go_wp2_with fail
        refine (HN.out _).mono ?_; rintro e w3 ⟨rfl, b3⟩
        replace b3 := Lib.hid (b2.out.trans (b3.mono b2.out.size))
        go_wp2_with fail
        go_ret3
        exact ⟨rfl, b3.out⟩
      | true =>
        obtain rfl : ok = true := HOK.out
        rw [if_pos rfl, if_pos rfl]
        clear HOK
        go_enter Tryz.func5, Tryz.ntmps5
        go_wp2_with fail
        refine HC.out.mono ?_; rintro e w1 ⟨rfl, n, rfl⟩
        have b1 := Lib.hid (below_drewN (Below.refl w.heap.size w) n)
        have L1 := Lib.hid ((HL.out.later b1.out).1)
        go_wp2_with fail
        refine (HP.out _ L1.out).mono ?_; rintro e w2 ⟨rfl, b2⟩
        replace b2 := Lib.hid (b1.out.trans b2)
        go_wp2_with fail
        refine (HN.out _).mono ?_; rintro e w3 ⟨rfl, b3⟩
        replace b3 := Lib.hid (b2.out.trans (b3.mono b2.out.size))
        go_wp2_with fail
        go_ret3
        exact ⟨rfl, b3.out⟩
end Go.Proofs.YtllmgogcemannaaGreatDoor
