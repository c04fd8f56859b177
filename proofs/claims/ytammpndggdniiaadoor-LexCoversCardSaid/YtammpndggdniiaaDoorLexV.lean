/- LexCovers: the law's walk. -/
import Derived.Test.YtammpndggdniiaaDoorLexV2
namespace Go.Proofs.YtammpndggdniiaaDoor
open Go.RowKit

theorem last_tok {w : World} {g : Nat} {l : List Tok} {n : Int} (h : Toks w (some ⟨g, 0, none⟩) (l ++ [(⟨4, [], 0, n⟩ : Tok)])) :
    w.cell? ⟨g, l.length * 4, none⟩ = some (.int .i64 4) ∧ w.cell? ⟨g, l.length * 4 + 1, none⟩ = some (.string ⟨#[]⟩) ∧ w.cell? ⟨g, l.length * 4 + 2, none⟩ = some (.int .i64 0) ∧ w.cell? ⟨g, l.length * 4 + 3, none⟩ = some (.int .i64 n) := by
  obtain ⟨b', o', x, hbo, hx, hb, d0, d1, d2, d3⟩ := h.get (k := l.length) (by simp) (Below.refl _ _)
  injection hbo with hbo; injection hbo with hb' ho' _
  subst hb' ho'
  have hx := hx.out
  rw [List.getElem_append_right (Nat.le_refl _)] at hx
  simp only [Nat.sub_self, List.getElem_cons_zero] at hx
  subst hx
  simp only [Nat.zero_add] at d0 d1 d2 d3
  exact ⟨d0, d1, d2, d3⟩
set_option maxRecDepth 100000 in
set_option maxHeartbeats 8000000 in
theorem lexcovers_ok (s : List UInt8) (l : List Tok) (w : World) (hL : Ld w) (h : s.length ≤ 4096) (hU : scanU s 0 = (l, none)) (hr : scanR s = (some (l ++ [⟨4, [], 0, s.length⟩]), 0, 0)) :
    Calls Tryd.prog 4 #[.string ⟨s.toArray⟩] w fun e w' => e = .returned (.bool true) ∧ Below w.heap.size w w' := by
  have S := Lib.hid (small_any w hL)
  have P := Lib.hid (fun w1 b => scan_at hr w w1 hL b)
  have hl : (s.length : Int) ≤ 5000 := by omega
  have hlen : (l ++ [(⟨4, [], 0, s.length⟩ : Tok)]).length = l.length + 1 := by simp
  have HLEN := Lib.hid hlen
  have hk := (toks_ok hU s.length).2
  rw [hlen] at hk
  have hk0 : 0 ≤ (l.length : Int) := by omega
  have hk1 : (l.length : Int) ≤ 4096 := by omega
  have HL := Lib.hid hL
  have HU := Lib.hid (show scanU (s.drop 0) 0 = (l.drop 0, none) from hU)
  clear hL hr hU hlen
  go_enter Tryd.func4, Tryd.ntmps4
  go_wp2_with fail
  refine S.out.mono ?_; rintro e w1 ⟨rfl, b1⟩
  have B := Lib.hid b1
  clear b1
  go_wp2_with fail
  refine (P.out _ B.out).mono ?_; rintro e w2 ⟨⟨g, c, rfl, O2⟩, b2⟩
  replace B := Lib.hid (B.out.trans (b2.mono B.out.size))
  have T := Lib.hid O2.toks
  rw [HLEN.out]
  clear b2 O2
  obtain ⟨d0, d1, d2, d3⟩ := last_tok T.out
  go_wp2_with fail
  clear d0 d1 d2 d3
  go_loopw [7, 8] (fun o i wr => ∃ (e k : Nat), o = .int .i64 e ∧ i = .int .i64 k ∧ k ≤ l.length ∧ e ≤ s.length ∧ Hid (scanU (s.drop e) e = (l.drop k, none)) ∧ Hid (Below w.heap.size w wr) ∧ Hid (Below w2.heap.size w2 wr)) (fun _ i _ => l.length - (intOf i).toNat)
  case atStart => exact ⟨0, 0, rfl, rfl, by omega, by omega, HU, B, Lib.hid (Below.refl _ _)⟩
  case round =>
    obtain ⟨e, k, rfl, rfl, hkl, hel, HU, B, B2⟩ := hrel
    by_cases hlt : k < l.length
    · obtain ⟨b', o', x, hbo, hx, hb, d0, d1, d2, d3⟩ := T.out.get (k := k) (by simp; omega) B2.out
      injection hbo with hbo; injection hbo with hb' ho' _
      subst hb' ho'
      have hx := hx.out
      rw [List.getElem_append_left hlt] at hx
      have hdk := HU.out
      rw [List.drop_eq_getElem_cons hlt, hx] at hdk
      obtain ⟨b, y, f1, f2, f3, f4, f5, f6, f7, f8, f9⟩ := cover_next hel hdk
      have HU2 := Lib.hid f9
      have XW : (⟨s.toArray⟩ : ByteArray).extract b (b + (wOf x).length) = ⟨(wOf x).toArray⟩ := by rw [bx, show b + (wOf x).length - b = (wOf x).length by omega, f6]
      have XE : (⟨s.toArray⟩ : ByteArray).extract e b = ⟨y.toArray⟩ := by rw [bx, f7]
      have PB := Lib.hid (fun w1 => blank_any y w1 (by rw [← f7, List.length_take, List.length_drop]; omega))
      rw [f8] at PB
      obtain ⟨⟨m1, m2⟩, m3, m4, m5⟩ := f5
      unfold numMax at m5
      rw [f1] at d3
      have hk2 : 0 ≤ (k : Int) := by omega
      have hk3 : (k : Int) < l.length := by omega
      have he0 : 0 ≤ (e : Int) := by omega
      have hb0 : 0 ≤ (b : Int) := by omega
      have heb : (e : Int) ≤ b := by omega
      have hbs : (b : Int) + (wOf x).length ≤ s.length := by omega
      have hw1 : (1 : Int) ≤ (wOf x).length := by omega
      have ht24 : (x.tx.length : Int) ≤ 24 := by omega
      clear f1 f6 f7 f8 f9 hdk hx
      rw [Nat.zero_add] at d0 d1 d2 d3
      obtain ⟨kd, tx, n, at_⟩ := x
      simp only at d0 d1 d2 m1 m2 m3 m4 m5 ht24
      have hbb := B2.out.size
      have hB3 := B.out.size
      by_cases k1 : kd = 1
      · subst k1
        have HN := Lib.hid (fun w1 (b1 : Below w.heap.size w w1) => ntext_any n w1 (HL.out.later b1) (by omega) (by omega))
        have hW : wOf ⟨1, tx, n, at_⟩ = Lib.itoa n := rfl
        rw [hW] at XW hbs hw1 HU2 f3 f4
        generalize Lib.itoa n = W at *
        have hWe : W.isEmpty = false := by cases W with
          | nil => simp at f4
          | cons => rfl
        clear hW
        have b1 := B.out.alloc hB3 (.cells #[.int .i64 1, .string ⟨tx.toArray⟩, .int .i64 n, .int .i64 b] 25)
        have B1 := Lib.hid b1
        have B12 := Lib.hid (B2.out.alloc hbb (.cells #[.int .i64 1, .string ⟨tx.toArray⟩, .int .i64 n, .int .i64 b] 25))
        clear b1
        go_wp2_with fail
        refine (HN.out _ B1.out).mono ?_; rintro e3 w3 ⟨rfl, b3⟩
        have B3 := Lib.hid (B1.out.trans (b3.mono B1.out.size))
        have B4 := Lib.hid (B12.out.trans (b3.mono B12.out.size))
        have hT := (Blk.new wr 25 #[.int .i64 1, .string ⟨tx.toArray⟩, .int .i64 n, .int .i64 b]).later b3
        have z0 := Blk.cell hT 0
        have z1 := Blk.cell hT 1
        have z2 := Blk.cell hT 2
        have z3 := Blk.cell hT 3
        simp only [List.getElem?_toArray, List.getElem?_cons_zero, List.getElem?_cons_succ] at z0 z1 z2 z3
        have HT := Lib.hid hT
        clear b3 hT
        go_wp2_with fail
        refine (PB.out _).mono ?_; rintro e4 w4 ⟨rfl, b4⟩
        replace B3 := Lib.hid (B3.out.trans (b4.mono B3.out.size))
        replace B4 := Lib.hid (B4.out.trans (b4.mono B4.out.size))
        clear z0 z1 z2 z3
        have z3 := Blk.cell (HT.out.later b4) 3
        simp only [List.getElem?_toArray, List.getElem?_cons_zero, List.getElem?_cons_succ] at z3
        clear b4
        go_wp2_with fail
        refine ⟨?_, ?measure⟩
        iterate 100 (apply Exists.intro)
        refine ⟨?rel, rfl⟩
        case rel =>
          exact ⟨b + W.length, k + 1, by go_num, by go_num, by omega, by omega, HU2, B3, B4⟩
        case measure => simp [intOf]; omega
      · by_cases k2 : kd = 2
        · subst k2
          have hW : wOf ⟨2, tx, n, at_⟩ = 34 :: (tx ++ [34]) := rfl
          have Q := q_eq tx
          rw [hW] at XW hbs hw1 HU2 f3 f4
          generalize 34 :: (tx ++ [34]) = W at *
          have hWe : W.isEmpty = false := by cases W with
          | nil => simp at f4
          | cons => rfl
          clear hW
          go_wp2_with fail
          refine (PB.out _).mono ?_; rintro e3 w3 ⟨rfl, b3⟩
          have B3 := Lib.hid ((B.out.alloc hB3 _).trans (b3.mono (Nat.le_trans hB3 (by rw [World.size_alloc]; omega))))
          have B4 := Lib.hid ((B2.out.alloc hbb _).trans (b3.mono (Nat.le_trans hbb (by rw [World.size_alloc]; omega))))
          have z3 : w3.cell? ⟨wr.heap.size, 3, none⟩ = some (.int .i64 b) := by
            rw [b3.cell (p := ⟨wr.heap.size, 3, none⟩) (by show wr.heap.size < (wr.alloc _).heap.size; rw [World.size_alloc]; omega)]
            exact Blk.cell (Blk.new _ _ _) 3
          clear b3
          go_wp2_with fail
          refine ⟨?_, ?measure⟩
          iterate 100 (apply Exists.intro)
          refine ⟨?rel, rfl⟩
          case rel =>
            exact ⟨b + W.length, k + 1, by go_num, by go_num, by omega, by omega, HU2, B3, B4⟩
          case measure => simp [intOf]; omega
        · have hW : wOf ⟨kd, tx, n, at_⟩ = tx := by unfold wOf; rw [if_neg k1, if_neg k2]
          rw [hW] at XW hbs hw1 HU2 f3 f4
          have hWe : tx.isEmpty = false := by cases tx with
            | nil => simp at f4
            | cons => rfl
          clear hW
          go_wp2_with fail
          refine (PB.out _).mono ?_; rintro e3 w3 ⟨rfl, b3⟩
          have B3 := Lib.hid ((B.out.alloc hB3 _).trans (b3.mono (Nat.le_trans hB3 (by rw [World.size_alloc]; omega))))
          have B4 := Lib.hid ((B2.out.alloc hbb _).trans (b3.mono (Nat.le_trans hbb (by rw [World.size_alloc]; omega))))
          have z3 : w3.cell? ⟨wr.heap.size, 3, none⟩ = some (.int .i64 b) := by
            rw [b3.cell (p := ⟨wr.heap.size, 3, none⟩) (by show wr.heap.size < (wr.alloc _).heap.size; rw [World.size_alloc]; omega)]
            exact Blk.cell (Blk.new _ _ _) 3
          clear b3
          go_wp2_with fail
          refine ⟨?_, ?measure⟩
          iterate 100 (apply Exists.intro)
          refine ⟨?rel, rfl⟩
          case rel =>
            exact ⟨b + tx.length, k + 1, by go_num, by go_num, by omega, by omega, HU2, B3, B4⟩
          case measure => simp [intOf]; omega
    · have hke : k = l.length := by omega
      subst hke
      have hU := HU.out
      rw [List.drop_of_length_le (Nat.le_refl _)] at hU
      have hall := scanU_end _ _ _ (Nat.le_refl _) hU
      have XE : (⟨s.toArray⟩ : ByteArray).extract e s.length = ⟨(s.drop e).toArray⟩ := bx_end s e
      have PB := Lib.hid (fun w1 => blank_any (s.drop e) w1 (by rw [List.length_drop]; omega))
      rw [hall] at PB
      have he0 : 0 ≤ (e : Int) := by omega
      have he1 : (e : Int) ≤ s.length := by omega
      clear hU hall HU
      go_wp2_with fail
      refine (PB.out _).mono ?_; rintro e3 w3 ⟨rfl, b3⟩
      replace B := Lib.hid (B.out.trans (b3.mono B.out.size))
      clear b3
      go_wp2_with fail
      go_ret
      exact ⟨rfl, B.out⟩
theorem lexcovers_any (s : List UInt8) (w : World) (hL : Ld w) (hs : s.length ≤ 140737488355328) :
    Calls Tryd.prog 4 #[.string ⟨s.toArray⟩] w fun e w' => e = .returned (.bool true) ∧ Below w.heap.size w w' := by
  by_cases h : s.length ≤ 5000
  · rcases scan_all (s := s) with ⟨l, h1, h2, h3⟩ | ⟨h1, h2⟩ | ⟨p, h1, h2⟩
    · exact lexcovers_ok s l w hL h1 h3 h2
    · exact lexcovers_full s w hL h1 h h2
    · exact lexcovers_bad s p w hL h1 h2
  · exact lexcovers_big s w hL (by omega) hs
end Go.Proofs.YtammpndggdniiaaDoor
