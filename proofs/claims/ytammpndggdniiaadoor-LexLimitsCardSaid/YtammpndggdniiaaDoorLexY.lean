/- LexLimits: the law's walk. -/
import Derived.Test.YtammpndggdniiaaDoorLexY1
import Derived.Test.YtammpndggdniiaaDoorLexU
import Derived.Test.YtammpndggdniiaaDoorLexQ
namespace Go.Proofs.YtammpndggdniiaaDoor
open Go.RowKit

set_option maxRecDepth 100000 in
set_option maxHeartbeats 8000000 in
theorem lexlimits_no (n m : Int) (t : List UInt8) (w : World) (hL : Ld w) (h : ¬ (t.length ≤ 100 ∧ 1 ≤ m ∧ m ≤ 100)) :
    Calls Tryd.prog 8 #[.int .i64 n, .int .i64 m, .string ⟨t.toArray⟩] w fun e w' => e = .returned (.bool true) ∧ Below w.heap.size w w' := by
  have S := Lib.hid (small_any w hL)
  clear hL
  by_cases h1 : t.length ≤ 100
  · have g1 : (t.length : Int) ≤ 100 := by omega
    by_cases h2 : 1 ≤ m
    · have g2 : ¬ m < 1 := by omega
      have h3 : 100 < m := by omega
      clear h
      go_enter Tryd.func8, Tryd.ntmps8
      go_wp2_with fail
      refine S.out.mono ?_; rintro e w1 ⟨rfl, b1⟩
      go_wp2_with fail
      go_ret
      exact ⟨rfl, b1⟩
    · have g2 : m < 1 := by omega
      clear h
      go_enter Tryd.func8, Tryd.ntmps8
      go_wp2_with fail
      refine S.out.mono ?_; rintro e w1 ⟨rfl, b1⟩
      go_wp2_with fail
      go_ret
      exact ⟨rfl, b1⟩
  · have g1 : (100 : Int) < t.length := by omega
    clear h
    go_enter Tryd.func8, Tryd.ntmps8
    go_wp2_with fail
    refine S.out.mono ?_; rintro e w1 ⟨rfl, b1⟩
    go_wp2_with fail
    go_ret
    exact ⟨rfl, b1⟩

/-- A scan's result: read if P, of n tokens, u in the cell j. -/
def Res (P : Prop) (n j : Nat) (u : Value) (w : World) (v : Value) (ea : Int) : Prop :=
  (P ∧ ea = 0 ∧ ∃ g c, v = .slice (some ⟨g, 0, none⟩) n c ∧ w.cell? ⟨g, j, none⟩ = some u) ∨ (¬ P ∧ ea = 2 ∧ v = .slice none 0 0)
theorem Res.later {P : Prop} {n j : Nat} {u : Value} {w w' : World} {v : Value} {ea : Int} (h : Res P n j u w v ea) (b : Below w.heap.size w w') : Res P n j u w' v ea := by
  rcases h with ⟨h1, h2, g, c, h3, h4⟩ | h
  · exact .inl ⟨h1, h2, g, c, h3, (b.cell (cell_lt h4)).trans h4⟩
  · exact .inr h
theorem scan_res {s : List UInt8} {P : Prop} [Decidable P] {l : List Tok} {p : Nat} (hr : scanR s = if P then (some l, 0, 0) else (none, 2, p)) (n j : Nat) (hn : l.length = n) (u : Value) (hu : (toksL l)[j]? = some u) (a w : World) (hL : Ld a) (b : Below a.heap.size a w) :
    Calls Tryd.prog 10 #[.string ⟨s.toArray⟩] w fun e w' => (∃ v ea za, e = .returned (.tuple #[v, .int .i64 ea, .int .i64 za]) ∧ Res P n j u w' v ea) ∧ Below w.heap.size w w' := by
  by_cases h : P
  · rw [if_pos h] at hr
    refine (scan_at hr a w hL b).mono ?_
    rintro e w' ⟨⟨g, c, rfl, O⟩, b'⟩
    refine ⟨⟨_, _, _, rfl, .inl ⟨h, rfl, g, c, by rw [hn], OwnK.cellAt O j hu⟩⟩, b'⟩
  · rw [if_neg h] at hr
    refine (scan_at hr a w hL b).mono ?_
    rintro e w' ⟨rfl, b'⟩
    exact ⟨⟨_, _, _, rfl, .inr ⟨h, rfl, rfl⟩⟩, b'⟩
theorem scan_some {s : List UInt8} (a w : World) (hL : Ld a) (b : Below a.heap.size a w) :
    Calls Tryd.prog 10 #[.string ⟨s.toArray⟩] w fun e w' => (∃ v ea za, e = .returned (.tuple #[v, .int .i64 ea, .int .i64 za])) ∧ Below w.heap.size w w' := by
  rcases scan_all (s := s) with ⟨l, _, h2, _⟩ | ⟨_, h2⟩ | ⟨p, _, h2⟩
  · refine (scan_at h2 a w hL b).mono ?_
    rintro e w' ⟨⟨g, c, rfl, O⟩, b'⟩
    exact ⟨⟨_, _, _, rfl⟩, b'⟩
  · refine (scan_at h2 a w hL b).mono ?_
    rintro e w' ⟨rfl, b'⟩
    exact ⟨⟨_, _, _, rfl⟩, b'⟩
  · refine (scan_at h2 a w hL b).mono ?_
    rintro e w' ⟨rfl, b'⟩
    exact ⟨⟨_, _, _, rfl⟩, b'⟩
theorem xs_snoc (xs : List UInt8) : ByteArray.mk xs.toArray ++ ByteArray.mk #[97] = ByteArray.mk (xs ++ [97]).toArray := by rw [ByteArray.mk_append_mk]
theorem name_res {xs : List UInt8} {m : Nat} (hX : xs = List.replicate m 97) (h1 : 1 ≤ m) (h2 : m ≤ 100) (a w : World) (hL : Ld a) (b : Below a.heap.size a w) :
    Calls Tryd.prog 10 #[.string ⟨xs.toArray⟩] w fun e w' => (∃ v ea za, e = .returned (.tuple #[v, .int .i64 ea, .int .i64 za]) ∧ Res (m ≤ 24) 2 1 (.string ⟨xs.toArray⟩) w' v ea) ∧ Below w.heap.size w w' := by
  subst hX
  exact scan_res (scan_name h1 h2) 2 1 rfl _ rfl a w hL b
theorem text_res {t : List UInt8} (h1 : t.length ≤ 100) (h2 : t.all (fun c => !stopQ c) = true) (a w : World) (hL : Ld a) (b : Below a.heap.size a w) :
    Calls Tryd.prog 10 #[.string ⟨(34 :: (t ++ [34])).toArray⟩] w fun e w' => (∃ v ea za, e = .returned (.tuple #[v, .int .i64 ea, .int .i64 za]) ∧ Res (t.length ≤ 24) 2 1 (.string ⟨t.toArray⟩) w' v ea) ∧ Below w.heap.size w w' :=
  scan_res (scan_text h1 h2) 2 1 rfl _ rfl a w hL b
theorem pos_res {n : Int} (hn : -9223372036854775808 ≤ n ∧ n ≤ 9223372036854775807) (h0 : 0 ≤ n) (a w : World) (hL : Ld a) (b : Below a.heap.size a w) :
    Calls Tryd.prog 10 #[.string ⟨(Lib.itoa n).toArray⟩] w fun e w' => (∃ v ea za, e = .returned (.tuple #[v, .int .i64 ea, .int .i64 za]) ∧ Res (n ≤ 1125899906842624) 2 2 (.int .i64 n) w' v ea) ∧ Below w.heap.size w w' :=
  scan_res ((scan_num hn).trans (by unfold numR; rw [if_pos h0]; rfl)) 2 2 rfl _ rfl a w hL b
theorem neg_res {n : Int} (hn : -9223372036854775808 ≤ n ∧ n ≤ 9223372036854775807) (h0 : ¬ 0 ≤ n) (a w : World) (hL : Ld a) (b : Below a.heap.size a w) :
    Calls Tryd.prog 10 #[.string ⟨(Lib.itoa n).toArray⟩] w fun e w' => (∃ v ea za, e = .returned (.tuple #[v, .int .i64 ea, .int .i64 za]) ∧ Res (-1125899906842624 ≤ n) 3 1 (.string ⟨#[45]⟩) w' v ea) ∧ Below w.heap.size w w' :=
  scan_res ((scan_num hn).trans (by unfold numR; rw [if_neg h0]; rfl)) 3 1 rfl _ rfl a w hL b
theorem stop_iff (c : UInt8) : stopQ c = false ↔ 32 ≤ c.toNat ∧ c.toNat ≤ 126 ∧ c.toNat ≠ 34 ∧ c.toNat ≠ 92 := by
  simp [stopQ]; omega
set_option maxRecDepth 100000 in
set_option maxHeartbeats 8000000 in
theorem lexlimits_core (n : Int) (m : Nat) (t : List UInt8) (w : World) (hL : Ld w) (hn : -9223372036854775808 ≤ n ∧ n ≤ 9223372036854775807) (h1 : t.length ≤ 100) (h2 : 1 ≤ m) (h3 : m ≤ 100) :
    Calls Tryd.prog 8 #[.int .i64 n, .int .i64 m, .string ⟨t.toArray⟩] w fun e w' => e = .returned (.bool true) ∧ Below w.heap.size w w' := by
  have S := Lib.hid (small_any w hL)
  have HL := Lib.hid hL
  have g1 : (t.length : Int) ≤ 100 := by omega
  have g2 : (1 : Int) ≤ m := by omega
  have g3 : (m : Int) ≤ 100 := by omega
  clear hL
  go_enter Tryd.func8, Tryd.ntmps8
  go_wp2_with fail
  refine S.out.mono ?_; rintro e w1 ⟨rfl, b1⟩
  have B := Lib.hid b1
  clear b1
  go_wp2_with fail
  go_loopw [8, 9] (fun o i wr => ∃ (k : Nat) (xs : List UInt8), o = .string ⟨xs.toArray⟩ ∧ i = .int .i64 k ∧ k ≤ m ∧ Hid (xs = List.replicate k 97) ∧ Hid (Below w.heap.size w wr)) (fun _ i _ => m - (intOf i).toNat)
  case atStart => exact ⟨0, [], rfl, rfl, by omega, Lib.hid rfl, B⟩
  case round =>
    obtain ⟨k, xs, rfl, rfl, hk, hX, B⟩ := hrel
    by_cases hlt : k < m
    · have hk1 : 0 ≤ (k : Int) := by omega
      have hk2 : (k : Int) < m := by omega
      have HXS : Hid (xs ++ [97] = List.replicate (k + 1) 97) := Lib.hid (by rw [hX.out, List.replicate_succ'])
      have hxl : xs.length = k := by rw [hX.out]; simp
      have HR := Lib.hid (xs_snoc xs)
      go_wp2_with fail
      go_roundw
      case rel => exact ⟨k + 1, xs ++ [97], by rw [HR.out], by go_num, by omega, HXS, B⟩
      case measure => simp [intOf]; omega
    · obtain rfl : k = m := by omega
      have hlk : ¬ (k : Int) < k := by omega
      go_wp2_with fail
      revert wr
      intro wo B
      go_loopw [10, 11] (fun o i wr => ∃ (j : Nat) (p : Bool), o = .bool p ∧ i = .int .i64 j ∧ j ≤ t.length ∧ Hid ((t.take j).all (fun c => !stopQ c) = p) ∧ Hid (Below w.heap.size w wr)) (fun _ i _ => t.length - (intOf i).toNat)
      case atStart => exact ⟨0, true, rfl, rfl, by omega, Lib.hid (by simp), B⟩
      case round =>
        obtain ⟨j, p, rfl, rfl, hj, hp, B⟩ := hrel
        by_cases hlj : j < t.length
        · have hj1 : 0 ≤ (j : Int) := by omega
          have hj2 : (j : Int) < t.length := by omega
          have hts : j < (⟨t.toArray⟩ : ByteArray).size := by show j < t.toArray.size; simpa using hlj
          have hnext : (t.take (j + 1)).all (fun c => !stopQ c) = (p && !stopQ (⟨t.toArray⟩ : ByteArray)[j]) := by
            rw [List.take_succ_eq_append_getElem hlj, List.all_append, hp.out]; simp; rfl
          have HI := Lib.hid (stop_iff (⟨t.toArray⟩ : ByteArray)[j])
          cases p with
          | false =>
            have HN := Lib.hid hnext
            clear hnext
            go_wp2_with fail
            go_roundw
            case rel => exact ⟨j + 1, false, rfl, by go_num, by omega, HN, B⟩
            case measure => simp [intOf]; omega
          | true =>
            cases hq : stopQ (⟨t.toArray⟩ : ByteArray)[j] with
            | false =>
              obtain ⟨q1, q2, q3, q4⟩ := HI.out.1 hq
              rw [hq] at hnext
              have HN := Lib.hid hnext
              clear hnext hq
              have r1 : (32 : Int) ≤ (((⟨t.toArray⟩ : ByteArray)[j].toNat : Nat) : Int) := by omega
              have r2 : (((⟨t.toArray⟩ : ByteArray)[j].toNat : Nat) : Int) ≤ 126 := by omega
              have r3 : ((((⟨t.toArray⟩ : ByteArray)[j].toNat : Nat) : Int) != 34) = true := by rw [bne_iff_ne]; omega
              have r4 : ((((⟨t.toArray⟩ : ByteArray)[j].toNat : Nat) : Int) != 92) = true := by rw [bne_iff_ne]; omega
              go_wp2_with fail
              go_roundw
              case rel => exact ⟨j + 1, true, rfl, by go_num, by omega, HN, B⟩
              case measure => simp [intOf]; omega
            | true =>
              have hs : (32 ≤ (⟨t.toArray⟩ : ByteArray)[j].toNat ∧ (⟨t.toArray⟩ : ByteArray)[j].toNat ≤ 126 ∧ (⟨t.toArray⟩ : ByteArray)[j].toNat ≠ 34 ∧ (⟨t.toArray⟩ : ByteArray)[j].toNat ≠ 92) → False := fun h => by have := HI.out.2 h; rw [hq] at this; cases this
              rw [hq] at hnext
              have HN := Lib.hid hnext
              clear hnext hq
              have h4 : (⟨t.toArray⟩ : ByteArray)[j].toNat < 32 ∨ (32 ≤ (⟨t.toArray⟩ : ByteArray)[j].toNat ∧ 126 < (⟨t.toArray⟩ : ByteArray)[j].toNat) ∨ (32 ≤ (⟨t.toArray⟩ : ByteArray)[j].toNat ∧ (⟨t.toArray⟩ : ByteArray)[j].toNat = 34) ∨ (32 ≤ (⟨t.toArray⟩ : ByteArray)[j].toNat ∧ (⟨t.toArray⟩ : ByteArray)[j].toNat = 92) := by
                by_cases z1 : (⟨t.toArray⟩ : ByteArray)[j].toNat < 32
                · exact .inl z1
                · by_cases z2 : 126 < (⟨t.toArray⟩ : ByteArray)[j].toNat
                  · exact .inr (.inl ⟨by omega, z2⟩)
                  · by_cases z3 : (⟨t.toArray⟩ : ByteArray)[j].toNat = 34
                    · exact .inr (.inr (.inl ⟨by omega, z3⟩))
                    · by_cases z4 : (⟨t.toArray⟩ : ByteArray)[j].toNat = 92
                      · exact .inr (.inr (.inr ⟨by omega, z4⟩))
                      · exact (hs ⟨by omega, by omega, z3, z4⟩).elim
              clear hs
              rcases h4 with h4 | ⟨h5, h4⟩ | ⟨h5, h4⟩ | ⟨h5, h4⟩
              · have r0 : (((⟨t.toArray⟩ : ByteArray)[j].toNat : Nat) : Int) < 32 := by omega
                go_wp2_with fail
                go_roundw
                case rel => exact ⟨j + 1, false, rfl, by go_num, by omega, HN, B⟩
                case measure => simp [intOf]; omega
              · have r0 : (32 : Int) ≤ (((⟨t.toArray⟩ : ByteArray)[j].toNat : Nat) : Int) := by omega
                have r1 : (126 : Int) < (((⟨t.toArray⟩ : ByteArray)[j].toNat : Nat) : Int) := by omega
                go_wp2_with fail
                go_roundw
                case rel => exact ⟨j + 1, false, rfl, by go_num, by omega, HN, B⟩
                case measure => simp [intOf]; omega
              · have r0 : (((⟨t.toArray⟩ : ByteArray)[j].toNat : Nat) : Int) = 34 := by omega
                go_wp2_with fail
                go_roundw
                case rel => exact ⟨j + 1, false, rfl, by go_num, by omega, HN, B⟩
                case measure => simp [intOf]; omega
              · have r0 : (((⟨t.toArray⟩ : ByteArray)[j].toNat : Nat) : Int) = 92 := by omega
                go_wp2_with fail
                go_roundw
                case rel => exact ⟨j + 1, false, rfl, by go_num, by omega, HN, B⟩
                case measure => simp [intOf]; omega
        · obtain rfl : j = t.length := by omega
          have hlj2 : ¬ (t.length : Int) < t.length := by omega
          have hP := hp.out
          rw [List.take_length] at hP
          have hxl : xs.length = k := by rw [hX.out]; simp
          have PA := Lib.hid (fun w1 b => name_res hX.out h2 h3 w w1 HL.out b)
          have HX2 := Lib.hid (q_eq t)
          have HT := Lib.hid (fun w1 b => ntext_any n w1 (HL.out.later (a := w) b) hn.1 hn.2)
          clear hp
          by_cases h0 : 0 ≤ n
          · cases p with
            | false =>
              have PC := Lib.hid (fun w1 b => pos_res hn h0 w w1 HL.out b)
              have n0 : ¬ n < 0 := by omega
              have PB := Lib.hid (fun w1 b => scan_some (s := 34 :: (t ++ [34])) w w1 HL.out b)
              clear hP
              go_wp2_with fail
              refine (PA.out _ B.out).mono ?_; rintro e w2 ⟨⟨va, ea, za, rfl, RA⟩, b2⟩
              replace B := Lib.hid (B.out.trans (b2.mono B.out.size))
              have RA2 := Lib.hid RA
              clear b2 RA
              go_wp2_with fail
              rw [HX2.out]
              refine (PB.out _ B.out).mono ?_; rintro e w3 ⟨⟨vb, eb, zb, rfl⟩, b3⟩
              replace B := Lib.hid (B.out.trans (b3.mono B.out.size))
              replace RA2 := Lib.hid (RA2.out.later b3)
              clear b3
              go_wp2_with fail
              refine (HT.out _ B.out).mono ?_; rintro e w4 ⟨rfl, b4⟩
              replace B := Lib.hid (B.out.trans (b4.mono B.out.size))
              replace RA2 := Lib.hid (RA2.out.later b4)
              clear b4
              go_wp2_with fail
              refine (PC.out _ B.out).mono ?_; rintro e w5 ⟨⟨vc, ec, zc, rfl, RC⟩, b5⟩
              replace B := Lib.hid (B.out.trans (b5.mono B.out.size))
              replace RA2 := Lib.hid (RA2.out.later b5)
              clear b5
              have R1 := RA2.out
              clear RA2 PA PB PC HT HX2 HL S hX
              rcases R1 with ⟨q1, rfl, g1, c1, rfl, d1⟩ | ⟨q1, rfl, rfl⟩ <;> rcases RC with ⟨q3, rfl, g3, c3, rfl, d3⟩ | ⟨q3, rfl, rfl⟩
              all_goals
                first | (have s1 : (k : Int) ≤ 24 := by omega) | (have s1 : ¬ (k : Int) ≤ 24 := by omega)
                first | (have s3 : decide (n ≤ 1125899906842624) = false := decide_eq_false q3) | (have s3 : decide (n ≤ 1125899906842624) = true := decide_eq_true q3)
                go_wp2_with fail
                go_ret
                exact ⟨rfl, B.out⟩
            | true =>
              have PC := Lib.hid (fun w1 b => pos_res hn h0 w w1 HL.out b)
              have n0 : ¬ n < 0 := by omega
              have PB := Lib.hid (fun w1 b => text_res h1 hP w w1 HL.out b)
              clear hP
              go_wp2_with fail
              refine (PA.out _ B.out).mono ?_; rintro e w2 ⟨⟨va, ea, za, rfl, RA⟩, b2⟩
              replace B := Lib.hid (B.out.trans (b2.mono B.out.size))
              have RA2 := Lib.hid RA
              clear b2 RA
              go_wp2_with fail
              rw [HX2.out]
              refine (PB.out _ B.out).mono ?_; rintro e w3 ⟨⟨vb, eb, zb, rfl, RB⟩, b3⟩
              replace B := Lib.hid (B.out.trans (b3.mono B.out.size))
              replace RA2 := Lib.hid (RA2.out.later b3)
              have RB2 := Lib.hid RB
              clear RB
              clear b3
              go_wp2_with fail
              refine (HT.out _ B.out).mono ?_; rintro e w4 ⟨rfl, b4⟩
              replace B := Lib.hid (B.out.trans (b4.mono B.out.size))
              replace RA2 := Lib.hid (RA2.out.later b4)
              replace RB2 := Lib.hid (RB2.out.later b4)
              clear b4
              go_wp2_with fail
              refine (PC.out _ B.out).mono ?_; rintro e w5 ⟨⟨vc, ec, zc, rfl, RC⟩, b5⟩
              replace B := Lib.hid (B.out.trans (b5.mono B.out.size))
              replace RA2 := Lib.hid (RA2.out.later b5)
              replace RB2 := Lib.hid (RB2.out.later b5)
              clear b5
              have R1 := RA2.out
              clear RA2 PA PB PC HT HX2 HL S hX
              have R2 := RB2.out
              clear RB2
              rcases R1 with ⟨q1, rfl, g1, c1, rfl, d1⟩ | ⟨q1, rfl, rfl⟩ <;> rcases R2 with ⟨q2, rfl, g2, c2, rfl, d2⟩ | ⟨q2, rfl, rfl⟩ <;> rcases RC with ⟨q3, rfl, g3, c3, rfl, d3⟩ | ⟨q3, rfl, rfl⟩
              all_goals
                first | (have s1 : (k : Int) ≤ 24 := by omega) | (have s1 : ¬ (k : Int) ≤ 24 := by omega)
                first | (have s2 : (t.length : Int) ≤ 24 := by omega) | (have s2 : ¬ (t.length : Int) ≤ 24 := by omega)
                first | (have s3 : decide (n ≤ 1125899906842624) = false := decide_eq_false q3) | (have s3 : decide (n ≤ 1125899906842624) = true := decide_eq_true q3)
                go_wp2_with fail
                go_ret
                exact ⟨rfl, B.out⟩
          · cases p with
            | false =>
              have PC := Lib.hid (fun w1 b => neg_res hn h0 w w1 HL.out b)
              have n0 : n < 0 := by omega
              have PB := Lib.hid (fun w1 b => scan_some (s := 34 :: (t ++ [34])) w w1 HL.out b)
              clear hP
              go_wp2_with fail
              refine (PA.out _ B.out).mono ?_; rintro e w2 ⟨⟨va, ea, za, rfl, RA⟩, b2⟩
              replace B := Lib.hid (B.out.trans (b2.mono B.out.size))
              have RA2 := Lib.hid RA
              clear b2 RA
              go_wp2_with fail
              rw [HX2.out]
              refine (PB.out _ B.out).mono ?_; rintro e w3 ⟨⟨vb, eb, zb, rfl⟩, b3⟩
              replace B := Lib.hid (B.out.trans (b3.mono B.out.size))
              replace RA2 := Lib.hid (RA2.out.later b3)
              clear b3
              go_wp2_with fail
              refine (HT.out _ B.out).mono ?_; rintro e w4 ⟨rfl, b4⟩
              replace B := Lib.hid (B.out.trans (b4.mono B.out.size))
              replace RA2 := Lib.hid (RA2.out.later b4)
              clear b4
              go_wp2_with fail
              refine (PC.out _ B.out).mono ?_; rintro e w5 ⟨⟨vc, ec, zc, rfl, RC⟩, b5⟩
              replace B := Lib.hid (B.out.trans (b5.mono B.out.size))
              replace RA2 := Lib.hid (RA2.out.later b5)
              clear b5
              have R1 := RA2.out
              clear RA2 PA PB PC HT HX2 HL S hX
              rcases R1 with ⟨q1, rfl, g1, c1, rfl, d1⟩ | ⟨q1, rfl, rfl⟩ <;> rcases RC with ⟨q3, rfl, g3, c3, rfl, d3⟩ | ⟨q3, rfl, rfl⟩
              all_goals
                first | (have s1 : (k : Int) ≤ 24 := by omega) | (have s1 : ¬ (k : Int) ≤ 24 := by omega)
                first | (have s3 : decide (-1125899906842624 ≤ n) = false := decide_eq_false q3) | (have s3 : decide (-1125899906842624 ≤ n) = true := decide_eq_true q3)
                go_wp2_with fail
                go_ret
                exact ⟨rfl, B.out⟩
            | true =>
              have PC := Lib.hid (fun w1 b => neg_res hn h0 w w1 HL.out b)
              have n0 : n < 0 := by omega
              have PB := Lib.hid (fun w1 b => text_res h1 hP w w1 HL.out b)
              clear hP
              go_wp2_with fail
              refine (PA.out _ B.out).mono ?_; rintro e w2 ⟨⟨va, ea, za, rfl, RA⟩, b2⟩
              replace B := Lib.hid (B.out.trans (b2.mono B.out.size))
              have RA2 := Lib.hid RA
              clear b2 RA
              go_wp2_with fail
              rw [HX2.out]
              refine (PB.out _ B.out).mono ?_; rintro e w3 ⟨⟨vb, eb, zb, rfl, RB⟩, b3⟩
              replace B := Lib.hid (B.out.trans (b3.mono B.out.size))
              replace RA2 := Lib.hid (RA2.out.later b3)
              have RB2 := Lib.hid RB
              clear RB
              clear b3
              go_wp2_with fail
              refine (HT.out _ B.out).mono ?_; rintro e w4 ⟨rfl, b4⟩
              replace B := Lib.hid (B.out.trans (b4.mono B.out.size))
              replace RA2 := Lib.hid (RA2.out.later b4)
              replace RB2 := Lib.hid (RB2.out.later b4)
              clear b4
              go_wp2_with fail
              refine (PC.out _ B.out).mono ?_; rintro e w5 ⟨⟨vc, ec, zc, rfl, RC⟩, b5⟩
              replace B := Lib.hid (B.out.trans (b5.mono B.out.size))
              replace RA2 := Lib.hid (RA2.out.later b5)
              replace RB2 := Lib.hid (RB2.out.later b5)
              clear b5
              have R1 := RA2.out
              clear RA2 PA PB PC HT HX2 HL S hX
              have R2 := RB2.out
              clear RB2
              rcases R1 with ⟨q1, rfl, g1, c1, rfl, d1⟩ | ⟨q1, rfl, rfl⟩ <;> rcases R2 with ⟨q2, rfl, g2, c2, rfl, d2⟩ | ⟨q2, rfl, rfl⟩ <;> rcases RC with ⟨q3, rfl, g3, c3, rfl, d3⟩ | ⟨q3, rfl, rfl⟩
              all_goals
                first | (have s1 : (k : Int) ≤ 24 := by omega) | (have s1 : ¬ (k : Int) ≤ 24 := by omega)
                first | (have s2 : (t.length : Int) ≤ 24 := by omega) | (have s2 : ¬ (t.length : Int) ≤ 24 := by omega)
                first | (have s3 : decide (-1125899906842624 ≤ n) = false := decide_eq_false q3) | (have s3 : decide (-1125899906842624 ≤ n) = true := decide_eq_true q3)
                go_wp2_with fail
                go_ret
                exact ⟨rfl, B.out⟩
theorem lexlimits_any (n m : Int) (t : List UInt8) (w : World) (hL : Ld w) (hn : -9223372036854775808 ≤ n ∧ n ≤ 9223372036854775807) (_ : -9223372036854775808 ≤ m ∧ m ≤ 9223372036854775807) (_ : t.length ≤ 140737488355328) :
    Calls Tryd.prog 8 #[.int .i64 n, .int .i64 m, .string ⟨t.toArray⟩] w fun e w' => e = .returned (.bool true) ∧ Below w.heap.size w w' := by
  by_cases h : t.length ≤ 100 ∧ 1 ≤ m ∧ m ≤ 100
  · obtain ⟨h1, h2, h3⟩ := h
    obtain ⟨k, rfl⟩ : ∃ k : Nat, m = k := ⟨m.toNat, by omega⟩
    exact lexlimits_core n k t w hL hn h1 (by omega) (by omega)
  · exact lexlimits_no n m t w hL h
end Go.Proofs.YtammpndggdniiaaDoor
