/- The laws' values: valid. -/
import Derived.Test.YtgojkbaodmiiaaaCodeVal
namespace Go.Proofs.Ytgojkbaodmiiaaa
open Go.RowKit

def validB (x : Val) : Bool := decide (x.m.length ≤ 100) && (decide (x.s.length ≤ 1000) && (lightB x.l && (x.m.all (fun i => decide (zigOk i)) && (!(decide (x.kd = 0) && decide (x.n < 0)) && !(decide (x.kd = 1) && decide (¬ zigOk x.n))))))

theorem eint_empty (n : Int) (w : World) (h : ¬ zigOk n) : Calls Try.prog 14 #[.int .i64 n] w fun e w' => e = .returned (.string ⟨#[]⟩) ∧ Below w.heap.size w w' := by
  refine (eint_any n w).mono ?_
  rw [show encInt n = [] by simp [encInt, h]]
  exact fun _ _ h => h
theorem eint_full (n : Int) (w : World) (h : zigOk n) : Calls Try.prog 14 #[.int .i64 n] w fun e w' => ∃ l : List UInt8, l.isEmpty = false ∧ e = .returned (.string ⟨l.toArray⟩) ∧ Below w.heap.size w w' := by
  refine (eint_any n w).mono ?_
  rintro e w' ⟨rfl, hb⟩
  refine ⟨_, ?_, rfl, hb⟩
  rw [encInt, if_pos h]
  have := vi_pos (zz n); cases h : vi (zz n) <;> simp_all

set_option maxRecDepth 100000 in
set_option maxHeartbeats 2000000 in
theorem valid_any (x : Val) (w : World) (hx : x.At w) (hs : x.s.length ≤ maxLen) (hl : x.l.length ≤ maxLen) (hm : x.m.length ≤ maxLen) (hxl : ∀ y ∈ x.l, y.length ≤ maxLen) :
    Calls Try.prog 42 #[.agg x.cells] w fun e w' => e = .returned (.bool (validB x)) ∧ Below w.heap.size w w' := by
  have hk := x.kd_lt
  have K := Lib.hid (fun w => kind_any x w)
  have hX := Lib.hid hx
  have HL := Lib.hid hxl
  have HV := Lib.hid (show validB x = (decide (x.m.length ≤ 100) && (decide (x.s.length ≤ 1000) && (lightB x.l && (x.m.all (fun i => decide (zigOk i)) && (!(decide (x.kd = 0) && decide (x.n < 0)) && !(decide (x.kd = 1) && decide (¬ zigOk x.n))))))) from rfl)
  have BX : Below w.heap.size w (w.alloc (.cells x.cells 45)) := (Below.refl _ _).alloc (Nat.le_refl _) _
  have HB := Lib.hid (Blk.new w 45 x.cells)
  have hR := Lib.hid (hX.out.later BX)
  have hBX := Lib.hid BX
  have hmax : maxLen = 9223372036854775807 := rfl
  have HM := Lib.hid hmax
  rw [hmax] at hs hl hm
  clear hx hxl BX hmax
  unfold Val.cells at K ⊢
  by_cases h1 : x.m.length ≤ 100
  · have hd1 : decide (100 < x.m.length) = false := by simp; omega
    by_cases h2 : x.s.length ≤ 1000
    · have hd2 : decide (1000 < x.s.length) = false := by simp; omega
      cases h3 : lightB x.l
      · have HF := Lib.hid (show validB x = false by rw [HV.out, h3]; simp)
        have h3' := Lib.hid h3
        clear h3
        go_enter Try.func42, Try.ntmps42
        go_wp2_with fail
        refine (light_any _ _ _ x.l _ hR.out.1 rfl (by rw [HM.out]; omega) HL.out).mono ?_
        rw [h3'.out]
        rintro e w1 ⟨rfl, b1⟩
        go_wp2_with fail
        go_ret
        rw [HF.out]
        exact ⟨rfl, hBX.out.trans (b1.mono (by simp))⟩
      · have h3' := Lib.hid h3
        clear h3
        go_enter Try.func42, Try.ntmps42
        go_wp2_with fail
        refine (light_any _ _ _ x.l _ hR.out.1 rfl (by rw [HM.out]; omega) HL.out).mono ?_
        rw [h3'.out]
        rintro e w1 ⟨rfl, b1⟩
        have C1 := Lib.hid (HB.out.later b1)
        have B1 := Lib.hid (below_step (Below.refl w.heap.size w) (Nat.le_refl _) (b1.mono (by simp)))
        obtain ⟨c0, c1, c2, c3, c4⟩ := val_cells C1.out
        clear b1
        go_wp2_with fail
        clear c0 c1 c2 c3 c4
        go_loopw [3] (fun i wr => ∃ k : Nat, i = .int .i64 k ∧ k ≤ x.m.length ∧ Hid (Below w.heap.size w wr ∧ Blk wr w.heap.size 45 x.cells) ∧ Hid (∀ y ∈ x.m.take k, zigOk y)) (fun i _ => x.m.length - (intOf i).toNat)
        case atStart => exact ⟨0, rfl, by omega, Lib.hid ⟨B1.out, C1.out⟩, Lib.hid (by simp)⟩
        case round =>
          obtain ⟨k, rfl, hkm, hW, hall⟩ := hrel
          clear C1 B1
          obtain ⟨c0, c1, c2, c3, c4⟩ := val_cells hW.out.2
          have hX2 := Lib.hid (hX.out.later hW.out.1)
          have hsz := hW.out.1.size
          by_cases hlt : k < x.m.length
          · obtain ⟨bm, om, em, hbm, hcm⟩ := hX2.out.2 (by rw [i64s_length]; omega)
            have fm : wr.cell? ⟨bm, om + k, none⟩ = some (.int .i64 x.m[k]) := by
              rw [hcm k (by rw [i64s_length]; exact hlt)]; simp [i64s]
            rw [em] at c4
            clear em hcm
            by_cases hz : zigOk x.m[k]
            · have CI := Lib.hid (fun w => eint_full x.m[k] w hz)
              have HZ := Lib.hid hz
              clear hz
              go_wp2_with fail
              refine (CI.out _).mono ?_
              rintro e w2 ⟨l, hl, rfl, b2⟩
              have hW2 := Lib.hid (show Below w.heap.size w w2 ∧ Blk w2 w.heap.size 45 x.cells from ⟨hW.out.1.trans (b2.mono hsz), hW.out.2.later b2⟩)
              go_wp2_with fail
              go_roundw
              case rel =>
                refine ⟨k + 1, by go_num, by omega, hW2, Lib.hid ?_⟩
                rw [List.take_succ_eq_append_getElem hlt]
                intro y hy
                rcases List.mem_append.1 hy with h | h
                · exact hall.out y h
                · simp at h; subst h; exact HZ.out
              case measure => simp [intOf]; omega
            · have CI := Lib.hid (fun w => eint_empty x.m[k] w hz)
              have HF := Lib.hid (show validB x = false by
                rw [HV.out, show (x.m.all fun i => decide (zigOk i)) = false by
                  rw [List.all_eq_false]; exact ⟨x.m[k], List.getElem_mem hlt, by simpa using hz⟩]
                simp)
              clear hz
              go_wp2_with fail
              refine (CI.out _).mono ?_
              rintro e w2 ⟨rfl, b2⟩
              go_wp2_with fail
              go_ret
              rw [HF.out]
              exact ⟨rfl, hW.out.1.trans (b2.mono hsz)⟩
          · have HV2 := Lib.hid (show validB x = (!(decide (x.kd = 0) && decide (x.n < 0)) && !(decide (x.kd = 1) && decide (¬ zigOk x.n))) by
              rw [HV.out, h3'.out, show (x.m.all fun i => decide (zigOk i)) = true by
                rw [List.all_eq_true]; intro y hy
                have := hall.out y (by rw [List.take_of_length_le (by omega)]; exact hy)
                simpa using this]
              simp [h1, h2])
            clear hall
            by_cases hk0 : x.kd = 0
            · rw [hk0] at K HV2
              by_cases hn0 : x.n < 0
              · have HF := Lib.hid (show validB x = false by rw [HV2.out]; simp [hn0])
                go_wp2_with fail
                refine (K.out _).mono ?_
                rintro e w2 ⟨rfl, b2⟩
                obtain ⟨d0, d1, d2, d3, d4⟩ := val_cells (hW.out.2.later b2)
                go_wp2_with fail
                go_ret
                rw [HF.out]
                exact ⟨rfl, hW.out.1.trans (b2.mono hsz)⟩
              · have HF := Lib.hid (show validB x = true by rw [HV2.out]; simp [hn0])
                go_wp2_with fail
                refine (K.out _).mono ?_
                rintro e w2 ⟨rfl, b2⟩
                obtain ⟨d0, d1, d2, d3, d4⟩ := val_cells (hW.out.2.later b2)
                have hs2 := b2.size
                go_wp2_with fail
                refine (K.out _).mono ?_
                rintro e w3 ⟨rfl, b3⟩
                go_wp2_with fail
                go_ret
                rw [HF.out]
                exact ⟨by simp; omega, (hW.out.1.trans (b2.mono hsz)).trans (b3.mono (by omega))⟩
            · have hkb : ((x.kd : Int) == 0) = false := by simp; omega
              by_cases hk1 : x.kd = 1
              · rw [hk1] at K HV2
                by_cases hz : zigOk x.n
                · have CI := Lib.hid (fun w => eint_full x.n w hz)
                  have HF := Lib.hid (show validB x = true by rw [HV2.out]; simp [hz])
                  clear hz hk1 hkb hk0
                  go_wp2_with fail
                  refine (K.out _).mono ?_
                  rintro e w2 ⟨rfl, b2⟩
                  obtain ⟨d0, d1, d2, d3, d4⟩ := val_cells (hW.out.2.later b2)
                  have hs2 := b2.size
                  have W2 := Lib.hid (hW.out.2.later b2)
                  go_wp2_with fail
                  refine (K.out _).mono ?_
                  rintro e w3 ⟨rfl, b3⟩
                  obtain ⟨d0, d1, d2, d3, d4⟩ := val_cells (W2.out.later b3)
                  have hs3 := b3.size
                  go_wp2_with fail
                  refine (CI.out _).mono ?_
                  rintro e w4 ⟨l, hl, rfl, b4⟩
                  go_wp2_with fail
                  go_ret
                  rw [HF.out]
                  exact ⟨rfl, ((hW.out.1.trans (b2.mono hsz)).trans (b3.mono (by omega))).trans (b4.mono (by omega))⟩
                · have CI := Lib.hid (fun w => eint_empty x.n w hz)
                  have HF := Lib.hid (show validB x = false by rw [HV2.out]; simp [hz])
                  clear hz hk1 hkb hk0
                  go_wp2_with fail
                  refine (K.out _).mono ?_
                  rintro e w2 ⟨rfl, b2⟩
                  obtain ⟨d0, d1, d2, d3, d4⟩ := val_cells (hW.out.2.later b2)
                  have hs2 := b2.size
                  have W2 := Lib.hid (hW.out.2.later b2)
                  go_wp2_with fail
                  refine (K.out _).mono ?_
                  rintro e w3 ⟨rfl, b3⟩
                  obtain ⟨d0, d1, d2, d3, d4⟩ := val_cells (W2.out.later b3)
                  have hs3 := b3.size
                  go_wp2_with fail
                  refine (CI.out _).mono ?_
                  rintro e w4 ⟨rfl, b4⟩
                  go_wp2_with fail
                  go_ret
                  rw [HF.out]
                  exact ⟨rfl, ((hW.out.1.trans (b2.mono hsz)).trans (b3.mono (by omega))).trans (b4.mono (by omega))⟩
              · have hkc : ((x.kd : Int) == 1) = false := by simp; omega
                have HF := Lib.hid (show validB x = true by rw [HV2.out]; simp [hk0, hk1])
                clear hk0 hk1
                go_wp2_with fail
                refine (K.out _).mono ?_
                rintro e w2 ⟨rfl, b2⟩
                obtain ⟨d0, d1, d2, d3, d4⟩ := val_cells (hW.out.2.later b2)
                have hs2 := b2.size
                go_wp2_with fail
                refine (K.out _).mono ?_
                rintro e w3 ⟨rfl, b3⟩
                go_wp2_with fail
                go_ret
                rw [HF.out]
                exact ⟨rfl, (hW.out.1.trans (b2.mono hsz)).trans (b3.mono (by omega))⟩
    · have HF := Lib.hid (show validB x = false by rw [HV.out]; simp [h2])
      go_enter Try.func42, Try.ntmps42
      go_wp2_with fail
      go_ret
      rw [HF.out]
      exact ⟨rfl, hBX.out⟩
  · have HF := Lib.hid (show validB x = false by rw [HV.out]; simp [h1])
    go_enter Try.func42, Try.ntmps42
    go_wp2_with fail
    go_ret
    rw [HF.out]
    exact ⟨rfl, hBX.out⟩

end Go.Proofs.Ytgojkbaodmiiaaa
