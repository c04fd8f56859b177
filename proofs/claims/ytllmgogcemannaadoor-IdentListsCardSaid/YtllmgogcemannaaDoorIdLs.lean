/- Package agoraref11: Ids. IdentLists' walk. -/
import Derived.Test.YtllmgogcemannaaDoorIdO
import Derived.Test.YtllmgogcemannaaDoorIdR
namespace Go.Proofs.YtllmgogcemannaaDoor
open Go.RowKit

set_option maxRecDepth 100000 in
set_option maxHeartbeats 4000000 in
theorem rids_any (A : Option Addr) (c n hi : Nat) (l : List (List UInt8)) (w : World) (hrow : Row w hi A (strs l)) (hn : n = l.length) (hb : ∀ x ∈ l, x.length ≤ 1000000) (hl : l.length ≤ 100000) :
    Calls Tryd.prog 10 #[.slice A n c] w fun e w' => e = .returned (.bool (idsS l)) ∧ Below w.heap.size w w' := by
  subst hn
  have HB := Lib.hid hb
  clear hb
  have HR := Lib.hid hrow
  have HF := Lib.hid (show ∀ i, i < l.length → idsAt l i = false → idsS l = false from fun i hi h => by
      unfold idsS; rw [← Bool.not_eq_true, Bool.and_eq_true, List.all_eq_true]; intro hh; have := hh.2 i (List.mem_range.2 hi); rw [h] at this; cases this)
  have HE := Lib.hid (show (∀ i, i < l.length → idsAt l i = true) → idsS l = decide (l.length ≤ 64) from fun h => by
      unfold idsS; rw [show (List.range l.length).all (idsAt l) = true from List.all_eq_true.2 fun i hi => h i (List.mem_range.1 hi), Bool.and_true])
  clear hrow
  go_enter Tryd.func10, Tryd.ntmps10
  go_wp2_with fail
  go_loopw [3] (fun i wr => ∃ (k : Nat), i = .int .i64 k ∧ k ≤ l.length ∧ Hid (∀ i, i < k → idsAt l i = true) ∧ Hid (Below w.heap.size w wr) ∧ Hid (Row wr hi A (strs l))) (fun i _ => l.length - (intOf i).toNat)
  case atStart => exact ⟨0, rfl, by omega, Lib.hid (fun i h => absurd h (Nat.not_lt_zero _)), Lib.hid (Below.refl _ _), HR⟩
  case round =>
    clear HR
    obtain ⟨k, rfl, hk, HP, B, HR⟩ := hrel
    by_cases hlt : k < l.length
    · have hlt' : (k : Int) < l.length := by omega
      have hk0 : 0 ≤ (k : Int) := by omega
      have HI := Lib.hid (show idsAt l k = (rightS l[k] && (decide (k = 0) || ltS (l.getD (k - 1) []) l[k])) by unfold idsAt; rw [List.getD_eq_getElem?_getD (i := k), List.getElem?_eq_getElem hlt]; rfl)
      have HG := Lib.hid (fun w1 => rright_any l[k] w1 (by have := HB.out l[k] (List.getElem_mem hlt); omega))
      have HN := Lib.hid (show idsAt l k = true → ∀ i, i < k + 1 → idsAt l i = true from fun h i hi => by
        rcases Nat.lt_succ_iff_lt_or_eq.1 hi with h1 | h1
        · exact HP.out i h1
        · rw [h1]; exact h)
      have HFk := Lib.hid (HF.out k hlt)
      have HRD := Lib.hid (fun m => (show Row (wr.drewN m) hi A (strs l) from HR.out))
      obtain ⟨b, off, rfl, hbhi, hc⟩ := HR.out (by rw [strs_length]; omega)
      rcases Nat.eq_zero_or_pos k with h0 | h0
      · subst h0
        have c0 : wr.cell? ⟨b, off, none⟩ = some (.string ⟨l[0].toArray⟩) := by have := hc 0 (by rw [strs_length]; exact hlt); simpa [strs] using this
        clear hc
        generalize l[0] = x at *
        cases hrx : rightS x with
        | false =>
          rw [hrx] at HG HI
          have HV := Lib.hid (HFk.out (by rw [HI.out]; rfl))
          clear hrx HI HN HFk
          go_wp2_with fail
          go_quiet ((go_at_call 19; refine (HG.out _).mono ?_; rintro e w2 ⟨rfl, rfl⟩; exact ⟨rfl, _, rfl⟩))
          go_wp2_with fail
          go_ret
          exact ⟨by rw [HV.out]; rfl, below_drewN B.out _⟩
        | true =>
          rw [hrx] at HG HI
          have HV := Lib.hid (HN.out (by rw [HI.out]; rfl))
          clear hrx HI HN HFk
          go_wp2_with fail
          go_quiet ((go_at_call 19; refine (HG.out _).mono ?_; rintro e w2 ⟨rfl, rfl⟩; exact ⟨rfl, _, rfl⟩))
          go_wp2_with fail
          go_roundw
          case rel => exact ⟨1, rfl, by omega, HV, Lib.hid (below_drewN B.out _), Lib.hid (HRD.out _)⟩
          case measure => simp [intOf]; omega
      · obtain ⟨j, rfl⟩ : ∃ j, k = j + 1 := ⟨k - 1, by omega⟩
        have hj : j < l.length := by omega
        have c1 : wr.cell? ⟨b, off + (j + 1), none⟩ = some (.string ⟨l[j + 1].toArray⟩) := by have := hc (j + 1) (by rw [strs_length]; exact hlt); simpa [strs] using this
        have cj : wr.cell? ⟨b, off + j, none⟩ = some (.string ⟨l[j].toArray⟩) := by have := hc j (by rw [strs_length]; exact hj); simpa [strs] using this
        have hgj : l.getD (j + 1 - 1) [] = l[j] := by rw [Nat.add_sub_cancel, List.getD_eq_getElem?_getD, List.getElem?_eq_getElem hj]; rfl
        rw [hgj] at HI
        clear hc hgj h0
        have t1 : ((j : Int) + 1).toNat = j + 1 := by omega
        have t2 : IntKind.i64.wrap ((j : Int) + 1 - 1) = j := by rw [IntKind.wrap_i64]; omega
        have gj : 0 ≤ (j : Int) := by omega
        have gj2 : (j : Int) < l.length := by omega
        have gj3 : (j : Int) + 1 < l.length := by omega
        have gj4 : (0 : Int) < (j : Int) + 1 := by omega
        have gj5 : 0 ≤ (j : Int) + 1 := by omega
        generalize l[j + 1] = x at *
        generalize l[j] = y at *
        cases hrx : rightS x with
        | false =>
          rw [hrx] at HG HI
          have HV := Lib.hid (HFk.out (by rw [HI.out]; rfl))
          clear hrx HI HN HFk
          go_wp2_with fail
          go_quiet ((go_at_call 19; refine (HG.out _).mono ?_; rintro e w2 ⟨rfl, rfl⟩; exact ⟨rfl, _, rfl⟩))
          go_wp2_with fail
          go_ret
          exact ⟨by rw [HV.out]; rfl, below_drewN B.out _⟩
        | true =>
          rw [hrx] at HG HI
          clear hrx
          cases hlx : Op.bytesLess y x with
          | false =>
            have HV := Lib.hid (HFk.out (by rw [HI.out]; unfold ltS; rw [hlx]; simp))
            clear HI HN HFk
            go_wp2_with fail
            go_quiet ((go_at_call 19; refine (HG.out _).mono ?_; rintro e w2 ⟨rfl, rfl⟩; exact ⟨rfl, _, rfl⟩))
            go_wp2_with fail
            go_ret
            exact ⟨by rw [HV.out]; rfl, below_drewN B.out _⟩
          | true =>
            have HV := Lib.hid (HN.out (by rw [HI.out]; unfold ltS; rw [hlx]; simp))
            clear HI HN HFk
            go_wp2_with fail
            go_quiet ((go_at_call 19; refine (HG.out _).mono ?_; rintro e w2 ⟨rfl, rfl⟩; exact ⟨rfl, _, rfl⟩))
            go_wp2_with fail
            go_roundw
            case rel => exact ⟨j + 1 + 1, by go_num, by omega, HV, Lib.hid (below_drewN B.out _), Lib.hid (HRD.out _)⟩
            case measure => simp [intOf]; omega
    · have hkl : k = l.length := by omega
      have hlt' : ¬ (k : Int) < l.length := by omega
      have HV := Lib.hid (HE.out (by rw [← hkl]; exact HP.out))
      by_cases h64 : l.length ≤ 64
      · have h64' : (l.length : Int) ≤ 64 := by omega
        have HV2 := Lib.hid (show idsS l = true by rw [HV.out, decide_eq_true h64])
        clear hkl h64
        go_wp2_with fail
        go_ret
        exact ⟨by rw [HV2.out]; rfl, B.out⟩
      · have h64' : ¬ (l.length : Int) ≤ 64 := by omega
        have HV2 := Lib.hid (show idsS l = false by rw [HV.out, decide_eq_false h64])
        clear hkl h64
        go_wp2_with fail
        go_ret
        exact ⟨by rw [HV2.out]; rfl, B.out⟩
set_option maxRecDepth 100000 in
set_option maxHeartbeats 4000000 in
theorem lists_any (A : Option Addr) (c : Nat) (l : List (List UInt8)) (w : World) (hL : LdI w) (hrow : Row w w.heap.size A (strs l)) :
    Calls Tryd.prog 3 #[.slice A l.length c] w fun e w' => e = .returned (.bool true) ∧ Below w.heap.size w w' := by
  have HSm := Lib.hid (small_any w hL)
  clear hL
  have HR := Lib.hid hrow
  clear hrow
  by_cases h100 : (100 : Int) < l.length
  · go_enter Tryd.func3, Tryd.ntmps3
    go_wp2_with fail
    refine HSm.out.mono ?_; rintro e w1 ⟨rfl, b1⟩
    go_wp2_with fail
    go_ret
    exact ⟨rfl, b1⟩
  · have HI := Lib.hid (fun (h : ∀ x ∈ l, x.length ≤ 1000000) w1 (hr : Row w1 w.heap.size A (strs l)) (hh : w.heap.size ≤ w1.heap.size) => ids_any A c l.length w.heap.size l w1 hr hh rfl h (by omega))
    have HJ := Lib.hid (fun (h : ∀ x ∈ l, x.length ≤ 1000000) w1 (hr : Row w1 w.heap.size A (strs l)) => rids_any A c l.length w.heap.size l w1 hr rfl h (by omega))
    go_enter Tryd.func3, Tryd.ntmps3
    go_wp2_with fail
    refine HSm.out.mono ?_; rintro e w1 ⟨rfl, b1⟩
    replace b1 := Lib.hid b1
    go_wp2_with fail
    go_loopw [4] (fun i wr => ∃ (k : Nat), i = .int .i64 k ∧ k ≤ l.length ∧ Hid (∀ x ∈ l.take k, x.length ≤ 100) ∧ Hid (Below w.heap.size w wr)) (fun i _ => l.length - (intOf i).toNat)
    case atStart => exact ⟨0, rfl, by omega, Lib.hid (fun x hx => by simp at hx), b1⟩
    case round =>
      clear b1
      obtain ⟨k, rfl, hk, HP, B⟩ := hrel
      by_cases hlt : k < l.length
      · have hlt' : (k : Int) < l.length := by omega
        have hk0 : 0 ≤ (k : Int) := by omega
        obtain ⟨b, off, rfl, hbhi, hc⟩ := HR.out.below B.out (Nat.le_refl _) (by rw [strs_length]; omega)
        have ck : wr.cell? ⟨b, off + k, none⟩ = some (.string ⟨l[k].toArray⟩) := by have := hc k (by rw [strs_length]; exact hlt); simpa [strs] using this
        have HN := Lib.hid (show l[k].length ≤ 100 → ∀ x ∈ l.take (k + 1), x.length ≤ 100 from fun h x hx => by
          rw [List.take_succ_eq_append_getElem hlt, List.mem_append] at hx
          rcases hx with hx | hx
          · exact HP.out x hx
          · rw [List.mem_singleton.1 hx]; exact h)
        clear hc
        generalize l[k] = x at *
        by_cases hx : x.length ≤ 100
        · have hx' : ¬ (100 : Int) < x.length := by omega
          have HV := Lib.hid (HN.out hx)
          clear HN hx
          go_wp2_with fail
          go_roundw
          case rel => exact ⟨k + 1, by go_num, by omega, HV, B⟩
          case measure => simp [intOf]; omega
        · have hx' : (100 : Int) < x.length := by omega
          clear HN hx
          go_wp2_with fail
          go_ret
          exact ⟨rfl, B.out⟩
      · have hkl : k = l.length := by omega
        have hlt' : ¬ (k : Int) < l.length := by omega
        have hall : ∀ x ∈ l, x.length ≤ 1000000 := fun x hx => by have := HP.out x (by rw [hkl, List.take_length]; exact hx); omega
        have R1 := Lib.hid (HR.out.below B.out (Nat.le_refl _))
        have C1 := Lib.hid (HI.out hall wr R1.out B.out.size)
        have C2 := Lib.hid (HJ.out hall)
        clear HI HJ hkl hall
        go_wp2_with fail
        refine C1.out.mono ?_; rintro e w2 ⟨rfl, b2⟩
        have R2 := Lib.hid (R1.out.below b2 B.out.size)
        replace b2 := Lib.hid (B.out.trans (b2.mono B.out.size))
        go_wp2_with fail
        refine (C2.out _ R2.out).mono ?_; rintro e w3 ⟨rfl, b3⟩
        replace b3 := Lib.hid (b2.out.trans (b3.mono b2.out.size))
        go_wp2_with fail
        go_ret
        exact ⟨rfl, b3.out⟩
end Go.Proofs.YtllmgogcemannaaDoor
