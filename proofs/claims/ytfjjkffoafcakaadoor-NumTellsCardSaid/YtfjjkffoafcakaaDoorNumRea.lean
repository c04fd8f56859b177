/- NumReads: for all ints n, low and high, the canonical form of n is read back exactly if n is in the range; with a leading zero, a plus sign, a space, or a further sign, it is refused; and a string that is read is the canonical form of what is read. -/
import Derived.Test.YtfjjkffoafcakaaDoorNumOrd
import Derived.Lib.ItoaLen
namespace Go.Proofs.YtfjjkffoafcakaaDoor
open Go.RowKit


def six (t : List UInt8) : List (List UInt8) := [43 :: t, 48 :: t, 32 :: t, t ++ [32], 45 :: 45 :: t, t ++ [46]]
theorem six_no (n : Int) (k : Nat) (h : k < (six (Lib.itoa n)).length) : ∀ m, (six (Lib.itoa n))[k] ≠ Lib.itoa m := by
  intro m
  have hk : k < 6 := h
  match k, hk with
  | 0, _ => exact not_num_plus n m
  | 1, _ => exact not_num_zero n m
  | 2, _ => exact not_num_space n m
  | 3, _ => exact not_num_end n m 32 (.inl (by decide))
  | 4, _ => exact not_num_minus n m
  | 5, _ => exact not_num_end n m 46 (.inl (by decide))
theorem six_len (t : List UInt8) (k : Nat) (h : k < (six t).length) : (six t)[k].length ≤ t.length + 2 := by
  have hk : k < 6 := h
  match k, hk with
  | 0, _ => simp [six]
  | 1, _ => simp [six]
  | 2, _ => simp [six]
  | 3, _ => simp [six]
  | 4, _ => simp [six]
  | 5, _ => simp [six]
theorem parse_no_num {s : List UInt8} {lo hi : Int} (h : ∀ n, s ≠ Lib.itoa n) : parseN s lo hi = 0 ∧ parseB s lo hi = false := by
  unfold parseN parseB; rw [parseS_none h]; exact ⟨rfl, rfl⟩
theorem parse_in {n lo hi : Int} (hn : In64 n) (h : lo ≤ n ∧ n ≤ hi) : parseN (Lib.itoa n) lo hi = n ∧ parseB (Lib.itoa n) lo hi = true := by
  unfold parseN parseB; rw [parseS_iff.2 ⟨hn, rfl, h⟩]; exact ⟨rfl, rfl⟩
theorem parse_out {n lo hi : Int} (hn : In64 n) (h : ¬ (lo ≤ n ∧ n ≤ hi)) : parseN (Lib.itoa n) lo hi = 0 ∧ parseB (Lib.itoa n) lo hi = false := by
  unfold parseN parseB
  cases e : parseS (Lib.itoa n) lo hi with
  | none => exact ⟨rfl, rfl⟩
  | some m =>
    obtain ⟨h1, h2, h3⟩ := parseS_iff.1 e
    rw [itoa_inj hn h1 h2] at h
    exact absurd h3 h
/-- What is read is what is written so. -/
theorem parse_was {s : List UInt8} {lo hi : Int} (h : parseB s lo hi = true) : In64 (parseN s lo hi) ∧ s = Lib.itoa (parseN s lo hi) ∧ lo ≤ parseN s lo hi ∧ parseN s lo hi ≤ hi := by
  unfold parseN parseB at *
  cases e : parseS s lo hi with
  | none => rw [e] at h; cases h
  | some m => exact parseS_iff.1 e
abbrev Parse1 (a : World) (s : List UInt8) (lo hi v : Int) (ok : Bool) : Prop := ∀ w, Below a.heap.size a w → Calls Tryd.prog 9 #[.string ⟨s.toArray⟩, .int .i64 lo, .int .i64 hi] w fun e w' => e = .returned (.tuple #[.int .i64 v, .bool ok]) ∧ Below w.heap.size w w'

set_option maxRecDepth 100000 in
set_option maxHeartbeats 4000000 in
theorem nreads_core (n lo hi x y : Int) (ok is : Bool) (s t ty : List UInt8) (w : World) (S : Hid (Calls Tryd.prog 8 #[] w fun e w' => e = .returned (.bool true) ∧ Below w.heap.size w w')) (ht : t.length ≤ 30)
    (hin : lo ≤ n ∧ n ≤ hi ∧ ok = true ∧ x = n ∨ ¬ lo ≤ n ∧ ok = false ∧ x = 0 ∨ lo ≤ n ∧ ¬ n ≤ hi ∧ ok = false ∧ x = 0) (hy : is = true ∧ ty = s ∧ lo ≤ y ∧ y ≤ hi ∨ is = false)
    (T1 : Hid (Text1 w n t)) (P1 : Hid (Parse1 w t lo hi x ok)) (PL : Hid (∀ k (h : k < (six t).length), Parse1 w (six t)[k] lo hi 0 false)) (P2 : Hid (Parse1 w s lo hi y is)) (T2 : Hid (is = true → Text1 w y ty)) :
    Calls Tryd.prog 4 #[.int .i64 n, .int .i64 lo, .int .i64 hi, .string ⟨s.toArray⟩] w fun e w' => e = .returned (.bool true) ∧ Below w.heap.size w w' := by
  have HI := Lib.hid hin
  have HY := Lib.hid hy
  clear hin hy
  go_enter Tryd.func4, Tryd.ntmps4
  go_wp2_with fail
  refine S.out.mono ?_; rintro e w1 ⟨rfl, b1⟩
  have B := Lib.hid b1
  clear b1
  go_wp2_with fail
  (with_reducible refine (T1.out _ B.out).mono ?_); rintro e w1 ⟨rfl, b1⟩
  replace B := Lib.hid (B.out.trans (b1.mono B.out.size))
  clear b1
  go_wp2_with fail
  (with_reducible refine (P1.out _ B.out).mono ?_); rintro e w1 ⟨rfl, b1⟩
  replace B := Lib.hid (B.out.trans (b1.mono B.out.size))
  clear b1
  have c1 : ByteArray.mk #[43] ++ ByteArray.mk t.toArray = ByteArray.mk (43 :: t).toArray := by rw [ByteArray.mk_append_mk]; simp
  have c2 : ByteArray.mk #[48] ++ ByteArray.mk t.toArray = ByteArray.mk (48 :: t).toArray := by rw [ByteArray.mk_append_mk]; simp
  have c3 : ByteArray.mk #[32] ++ ByteArray.mk t.toArray = ByteArray.mk (32 :: t).toArray := by rw [ByteArray.mk_append_mk]; simp
  have c4 : ByteArray.mk t.toArray ++ ByteArray.mk #[32] = ByteArray.mk (t ++ [32]).toArray := by rw [ByteArray.mk_append_mk]
  have c5 : ByteArray.mk #[45, 45] ++ ByteArray.mk t.toArray = ByteArray.mk (45 :: 45 :: t).toArray := by rw [ByteArray.mk_append_mk]; simp
  have c6 : ByteArray.mk t.toArray ++ ByteArray.mk #[46] = ByteArray.mk (t ++ [46]).toArray := by rw [ByteArray.mk_append_mk]
  rcases HI.out with ⟨h1, h2, rfl, rfl⟩ | ⟨h1, rfl, rfl⟩ | ⟨h1, h2, rfl, rfl⟩
  all_goals
    go_wp2_with fail
    have hbs : w.heap.size ≤ w1.heap.size := B.out.size
    have B1 := Lib.hid (B.out.alloc hbs (.cells (strs (six t)).toArray 9))
    have K1 := Lib.hid (Blk.new w1 9 (strs (six t)).toArray)
    clear c1 c2 c3 c4 c5 c6 B
    generalize w1.heap.size = g at *
    go_loopw [15] (fun i wr => ∃ k : Nat, i = .int .i64 k ∧ k ≤ 6 ∧ Hid (Blk wr g 9 (strs (six t)).toArray) ∧ Hid (Below w.heap.size w wr)) (fun i _ => 6 - (intOf i).toNat)
    case atStart => exact ⟨0, rfl, by omega, K1, B1⟩
    case round =>
      obtain ⟨k, rfl, hk, K, B⟩ := hrel
      clear K1 B1
      by_cases hlt : k < 6
      · have f1 : wr.cell? ⟨g, k, none⟩ = some (.string ⟨(six t)[k].toArray⟩) := by rw [K.out.cell k]; simp [strs, show k < (six t).length from hlt]; rfl
        have P := Lib.hid (PL.out k hlt)
        have hgl := K.out.lt
        generalize (six t)[k] = z at *
        go_wp2_with fail
        (with_reducible refine (P.out _ B.out).mono ?_); rintro e w2 ⟨rfl, b2⟩
        have B2 := Lib.hid (B.out.trans (b2.mono B.out.size))
        have K2 := Lib.hid (K.out.below b2 hgl)
        clear b2
        go_wp2_with fail
        go_roundw
        case rel => exact ⟨k + 1, by go_num, by omega, K2, B2⟩
        case measure => simp [intOf]; omega
      · go_wp2_with fail
        (with_reducible refine (P2.out _ B.out).mono ?_); rintro e w2 ⟨rfl, b2⟩
        have B2 := Lib.hid (B.out.trans (b2.mono B.out.size))
        clear b2
        rcases HY.out with ⟨rfl, rfl, h3, h4⟩ | rfl
        · have T := Lib.hid (T2.out rfl)
          go_wp2_with fail
          (with_reducible refine (T.out _ B2.out).mono ?_); rintro e w3 ⟨rfl, b3⟩
          go_wp2_with fail
          go_ret
          exact ⟨rfl, B2.out.trans (b3.mono B2.out.size)⟩
        · go_wp2_with fail
          go_ret
          exact ⟨rfl, B2.out⟩

theorem nreads_any (n lo hi : Int) (s : List UInt8) (w : World) (hL : Ld w) (hn : In64 n) (hs : s.length ≤ 140737488351232) :
    Calls Tryd.prog 4 #[.int .i64 n, .int .i64 lo, .int .i64 hi, .string ⟨s.toArray⟩] w fun e w' => e = .returned (.bool true) ∧ Below w.heap.size w w' := by
  have hl := Lib.itoa_length_le n hn.1 hn.2
  have PS : ∀ z : List UInt8, z.length ≤ 140737488351232 → Parse1 w z lo hi (parseN z lo hi) (parseB z lo hi) := fun z hz w1 h => nparse_any z lo hi w1 (hL.later h) (by omega)
  refine nreads_core n lo hi (parseN (Lib.itoa n) lo hi) (parseN s lo hi) (parseB (Lib.itoa n) lo hi) (parseB s lo hi) s (Lib.itoa n) (Lib.itoa (parseN s lo hi)) w (Lib.hid (small1_any w hL)) (by omega) ?_ ?_ (Lib.hid fun w1 h => ntext_any n w1 (hL.later h) hn.1 hn.2) (Lib.hid (PS _ (by omega))) (Lib.hid fun k hk => ?_) (Lib.hid (PS s hs)) (Lib.hid fun his w1 h => ?_)
  · by_cases h1 : lo ≤ n
    · by_cases h2 : n ≤ hi
      · obtain ⟨e1, e2⟩ := parse_in hn ⟨h1, h2⟩
        exact .inl ⟨h1, h2, e2, e1⟩
      · obtain ⟨e1, e2⟩ := parse_out (lo := lo) (hi := hi) hn (fun h => h2 h.2)
        exact .inr (.inr ⟨h1, h2, e2, e1⟩)
    · obtain ⟨e1, e2⟩ := parse_out (lo := lo) (hi := hi) hn (fun h => h1 h.1)
      exact .inr (.inl ⟨h1, e2, e1⟩)
  · cases h : parseB s lo hi with
    | false => exact .inr rfl
    | true =>
      obtain ⟨_, h2, h3, h4⟩ := parse_was h
      exact .inl ⟨rfl, h2.symm, h3, h4⟩
  · have := PS ((six (Lib.itoa n))[k]) (by have := six_len (Lib.itoa n) k hk; omega)
    obtain ⟨e1, e2⟩ := parse_no_num (lo := lo) (hi := hi) (six_no n k hk)
    rwa [e1, e2] at this
  · obtain ⟨h1, _⟩ := parse_was his
    exact ntext_any _ w1 (hL.later h) h1.1 h1.2

end Go.Proofs.YtfjjkffoafcakaaDoor
