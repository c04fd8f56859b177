/- DiskArms: for all sequences of byte strings (at most 50, with 20000 bytes in all), numbers n up to 100 and kept lengths, the scheduled crash happens exactly in the n-th call, everything before it was performed, and afterwards the file consists of the flushed bytes and the kept prefix of the rest. -/
import Derived.Test.YtnbaalllcddbkaaDiskSmall
import Derived.Test.YtnbaalllcddbkaaDiskQ
import Derived.Test.YtnbaalllcddbkaaSized
namespace Go.Proofs.Ytnbaalllcddbkaa
open Go.RowKit

/-- The disk while the crash is m calls ahead: the first file holds durable bytes and others. -/
def AS (safe rest : List UInt8) (m keep : Int) : DS := { by_ := fun g => if g = 0 then safe ++ rest else [], la := fun g => if g = 0 then safe.length else 0, lost := 0, down := false, armed := m, keep := [keep] }
def CR (safe rest : List UInt8) (keep : Int) : DS := (AS safe rest 0 keep).crash [keep]
theorem AS_ends {safe rest : List UInt8} {m keep : Int} (h : 0 < m) : (AS safe rest m keep).endsS = AS safe rest (m - 1) keep := by
  unfold DS.endsS; rw [if_neg (by simp [AS]; omega)]; rfl
theorem AS_endsR {safe rest : List UInt8} {m keep : Int} : (AS safe rest m keep).endsR = decide (m = 1) := by
  show (!false && decide (m = 1)) = decide (m = 1); simp
theorem AS_may {safe rest : List UInt8} {m keep : Int} : (AS safe rest m keep).mayR [0] = 0 := may_ok (S := AS safe rest m keep) rfl (f := 0) (by decide)
theorem AS_put {safe rest s : List UInt8} {m keep : Int} : (AS safe rest m keep).put 0 s = AS safe (rest ++ s) m keep := by
  unfold DS.put AS
  congr 1
  funext g
  by_cases h : g = 0 <;> simp [h]
theorem AS_appS {safe rest s : List UInt8} {m keep : Int} (h : safe.length + rest.length + s.length ≤ 16777216) : (AS safe rest m keep).appE 0 s = 0 ∧ (AS safe rest m keep).appS 0 s = AS safe (rest ++ s) m keep := by
  have he : (AS safe rest m keep).appE 0 s = 0 := by
    unfold DS.appE
    rw [if_neg, AS_may]
    rintro ⟨_, h2⟩
    have : (AS safe rest m keep).by_ (0 : Int).toNat = safe ++ rest := rfl
    rw [this, List.length_append] at h2; omega
  refine ⟨he, ?_⟩
  unfold DS.appS
  rw [if_pos he]
  exact AS_put
theorem append_arm {safe rest s : List UInt8} {m keep : Int} (h : safe.length + rest.length + s.length ≤ 16777216) (hm : 1 < m) : (AS safe rest m keep).appendS 0 s = (0, AS safe (rest ++ s) (m - 1) keep) := by
  unfold DS.appendS
  rw [AS_endsR, if_neg (by simp; omega), AS_ends (by omega), (AS_appS h).1, (AS_appS h).2]
theorem append_last {safe rest s : List UInt8} {keep : Int} (h : safe.length + rest.length + s.length ≤ 16777216) : (AS safe rest 1 keep).appendS 0 s = (8, CR safe (rest ++ s) keep) := by
  unfold DS.appendS
  rw [AS_endsR, if_pos (by simp), AS_ends (by omega), (AS_appS h).2]; rfl
theorem AS_hard {safe rest : List UInt8} {m keep : Int} : (AS safe rest m keep).hard 0 = AS (safe ++ rest) [] m keep := by
  unfold DS.hard AS
  congr 1
  · funext g; by_cases h : g = 0 <;> simp [h]
  · funext g; by_cases h : g = 0 <;> simp [h]
theorem flush_arm {safe rest : List UInt8} {m keep : Int} (hm : 1 < m) : (AS safe rest m keep).flushS 0 = (0, AS (safe ++ rest) [] (m - 1) keep) := by
  have ht : (AS safe rest m keep).tick = AS safe rest (m - 1) keep := by
    unfold DS.tick; rw [AS_endsR, if_neg (by simp; omega), AS_ends (by omega)]
  unfold DS.flushS
  rw [ht, AS_may, if_neg (by simp), if_neg (by simp [AS])]
  rw [← AS_hard]; simp [DS.hard]
theorem CR_down {safe rest : List UInt8} {keep : Int} : (CR safe rest keep).down = true := by
  unfold CR DS.crash; rw [if_neg (by simp [AS])]
theorem flush_last {safe rest : List UInt8} {keep : Int} : (AS safe rest 1 keep).flushS 0 = (8, CR safe rest keep) := by
  have ht : (AS safe rest 1 keep).tick = CR safe rest keep := by
    unfold DS.tick; rw [AS_endsR, if_pos (by simp), AS_ends (by omega)]; rfl
  have hm : (CR safe rest keep).mayR [0] = 8 := by unfold DS.mayR; rw [if_pos CR_down]
  unfold DS.flushS
  rw [ht, hm, if_pos (by decide)]
theorem CR_read {safe rest : List UInt8} {keep : Int} : ReadsF { CR safe rest keep with down := false } 0 = (safe ++ rest.take (min (max keep 0).toNat rest.length), 0) := by
  have h := read_up (S := { CR safe rest keep with down := false }) rfl (f := 0) (by decide)
  have e : ({ CR safe rest keep with down := false } : DS).by_ 0 = safe ++ rest.take (min (max keep 0).toNat rest.length) := by
    show (CR safe rest keep).by_ 0 = _
    unfold CR
    rw [crash_by (by rfl)]
    have h1 : keepN (AS safe rest 0 keep) [keep] 0 = min (max keep 0).toNat rest.length := by
      unfold keepN
      simp [AS]
    rw [h1]
    simp [AS, List.take_append, List.take_of_length_le]
  rw [e] at h; exact h
theorem AS_read {safe rest : List UInt8} {m keep : Int} : ReadsF (AS safe rest m keep) 0 = (safe ++ rest, 0) := read_up (S := AS safe rest m keep) rfl (f := 0) (by decide)
theorem AS_start (n keep : Int) : (DS.init.arm n [keep]) = AS [] [] (max n 0) keep := by
  unfold DS.arm DS.init AS
  congr 1
  · funext g; by_cases h : g = 0 <;> simp [h]
  · funext g; by_cases h : g = 0 <;> simp [h]
def sumL (l : List (List UInt8)) : Nat := (l.map (·.length)).sum
theorem sumL_take {l : List (List UInt8)} {k : Nat} (h : k < l.length) : sumL (l.take (k + 1)) = sumL (l.take k) + l[k].length := by
  unfold sumL; rw [List.take_succ_eq_append_getElem h]; simp only [List.map_append, List.sum_append, List.map_cons, List.map_nil, List.sum_cons, List.sum_nil, Nat.add_zero]
theorem sumL_le (l : List (List UInt8)) (k : Nat) : sumL (l.take k) ≤ sumL l := by
  unfold sumL
  conv => rhs; rw [← List.take_append_drop k l, List.map_append, List.sum_append]
  omega
theorem sumL_max {l : List (List UInt8)} (h : ∀ x ∈ l, x.length ≤ 140737488351232) : ∀ k, k ≤ l.length → sumL (l.take k) ≤ k * 140737488351232 := by
  intro k
  induction k with
  | zero => intro _; simp [sumL]
  | succ k ih =>
    intro hk
    have := ih (by omega)
    have h2 := h l[k] (List.getElem_mem (by omega))
    rw [sumL_take (by omega)]; omega

/-- What the loop keeps: a disk that still runs, with calls left; or one that is down. -/
def Arms (a w : World) (b : Nat) (safe rest : List UInt8) (n keep cl : Int) : Prop :=
  (0 ≤ cl ∧ cl < n ∧ Held a w b (AS safe rest (n - cl) keep)) ∨ Held a w b (CR safe rest keep)

set_option maxRecDepth 100000 in
set_option maxHeartbeats 4000000 in
theorem arms_main (A : Option Addr) (c N : Nat) (l : List (List UInt8)) (n keep : Int) (w : World) (hrow : Row w w.heap.size A (strs l)) (hN : N = l.length) (hl : N ≤ 50) (hx : ∀ x ∈ l, x.length ≤ 140737488351232) (h20 : sumL l ≤ 20000) (hn1 : 1 ≤ n) (hn2 : n ≤ 100) :
    Calls Try.prog 6 #[.slice A N c, .int .i64 n, .int .i64 keep] w fun e w' => e = .returned (.bool true) ∧ Below w.heap.size w w' := by
  have HR := Lib.hid hrow
  have HN := Lib.hid hN
  have HX := Lib.hid hx
  have H20 := Lib.hid h20
  clear hrow hN hx h20
  go_enter Try.func6, Try.ntmps6
  go_wp2_with fail
  refine (small9_any _).mono ?_; rintro e w1 ⟨rfl, b1⟩
  go_wp2_with fail
  refine (new_at w _ b1).mono ?_; rintro e w2 ⟨rfl, h2⟩
  generalize w1.heap.size = b at h2 ⊢
  have H2 := Lib.hid h2
  clear b1 h2
  go_wp2_with fail
  go_loop [9, 10] (fun t i => ∃ k z : Nat, i = .int .i64 k ∧ t = .int .i64 z ∧ k ≤ N ∧ Hid (z = sumL (l.take k)) ∧ z ≤ 20000) (fun _ i => N - (intOf i).toNat)
  case atStart => exact ⟨0, 0, rfl, rfl, by omega, Lib.hid (by simp [sumL]), by omega⟩
  case round =>
    obtain ⟨k, z, rfl, rfl, hk, hz, hz2⟩ := hrel
    by_cases hlt : k < N
    · obtain ⟨b1, o1, rfl, hb1, hc1⟩ := HR.out (by rw [strs_length, ← HN.out]; omega)
      have hk1 : k < l.length := by rw [← HN.out]; exact hlt
      have f1 : w2.cell? ⟨b1, o1 + k, none⟩ = some (.string ⟨l[k].toArray⟩) := by
        rw [H2.out.1.cell hb1, hc1 k (by rw [strs_length]; exact hk1)]; simp [strs]
      clear hc1
      have hs := sumL_take hk1
      have hs2 := sumL_le l (k + 1)
      rw [← hz.out] at hs
      have h20 := H20.out
      have HS := Lib.hid hs.symm
      have hzz : z + l[k].length ≤ 20000 := by omega
      clear hs hs2 h20
      go_wp2_with fail
      go_round
      case rel => exact ⟨k + 1, z + l[k].length, by go_num, by go_num, by omega, HS, hzz⟩
      case measure => simp [intOf]; omega
    · have hn3 : ¬ n < 1 := by omega
      have hn4 : ¬ 100 < n := by omega
      clear hz
      go_wp2_with fail
      clear hlt hk
      have hk1 := H2.out
      have R1 : Row (w2.alloc (.cells #[.int .i64 keep] 3)) (w2.alloc (.cells #[.int .i64 keep] 3)).heap.size (some ⟨w2.heap.size, 0, none⟩) (i64s [keep]) := row_one w2 3 keep
      have HA := Lib.hid (arm_at (hk1.alloc (.cells #[.int .i64 keep] 3)) n (some ⟨w2.heap.size, 0, none⟩) 1 1 [keep] R1 rfl (by omega) (by omega))
      rw [AS_start, show max n 0 = n by omega] at HA
      clear hk1 R1
      refine HA.out.mono ?_; rintro e w3 ⟨rfl, h3⟩
      have H3 := Lib.hid h3
      clear h3 HA H2
      go_wp2_with fail
      go_loopw [11, 12, 13, 14] (fun sv rv cv iv wr => ∃ (k : Nat) (safe rest : List UInt8) (cl : Int), iv = .int .i64 k ∧ sv = .string ⟨safe.toArray⟩ ∧ rv = .string ⟨rest.toArray⟩ ∧ cv = .int .i64 cl ∧ k ≤ N ∧ Hid (Arms w wr b safe rest n keep cl) ∧ Hid (safe.length + rest.length ≤ sumL (l.take k))) (fun _ _ _ iv _ => N - (intOf iv).toNat)
      case atStart => exact ⟨0, [], [], 0, rfl, rfl, rfl, rfl, by omega, Lib.hid (.inl ⟨by omega, by omega, by simpa using H3.out⟩), Lib.hid (by simp)⟩
      case round =>
        obtain ⟨k, safe, rest, cl, rfl, rfl, rfl, rfl, hk, hA, hL⟩ := hrel
        clear H3
        have hsum := Nat.le_trans (Nat.le_trans hL.out (sumL_le l k)) H20.out
        rcases hA.out with ⟨hc0, hc1, hH⟩ | hH
        · have DN := Lib.hid (fun w' S (h : Held w w' b S) => down_at h)
          have HH := Lib.hid hH
          clear hA hH
          by_cases hlt : k < N
          · have hk1 : k < l.length := by rw [← HN.out]; exact hlt
            obtain ⟨b1, o1, rfl, hb1, hcc⟩ := HR.out (by rw [strs_length, ← HN.out]; omega)
            have f1 : wr.cell? ⟨b1, o1 + k, none⟩ = some (.string ⟨l[k].toArray⟩) := by
              rw [HH.out.1.cell hb1, hcc k (by rw [strs_length]; exact hk1)]; simp [strs]
            have FX := Lib.hid (fun (W : World) (S : DS) (h : Held w W b S) => (show W.cell? ⟨b1, o1 + k, none⟩ = some (.string ⟨l[k].toArray⟩) by rw [h.1.cell hb1, hcc k (by rw [strs_length]; exact hk1)]; simp [strs]))
            clear hcc
            have HS1 := Lib.hid (sumL_take hk1)
            have hs3 : safe.length + rest.length + l[k].length ≤ 20000 := by
              have h1 := hL.out
              have h2 := sumL_le l (k + 1)
              have h3 := H20.out
              rw [HS1.out] at h2
              omega
            have HL1 := Lib.hid (show safe.length + (rest ++ l[k]).length ≤ sumL (l.take (k + 1)) by
              have h1 := hL.out
              rw [HS1.out, List.length_append]; omega)
            have AP := Lib.hid (fun m (hm : 1 < m) => append_arm (safe := safe) (rest := rest) (s := l[k]) (m := m) (keep := keep) (by omega) hm)
            have AL := Lib.hid (append_last (safe := safe) (rest := rest) (s := l[k]) (keep := keep) (by omega))
            have hsl : l[k].length ≤ 20000 := by omega
            clear HS1 hL
            generalize l[k] = s at *
            have hcat : ByteArray.mk rest.toArray ++ ByteArray.mk s.toArray = ByteArray.mk (rest ++ s).toArray := by rw [ByteArray.mk_append_mk]
            have hcat2 : ByteArray.mk safe.toArray ++ ByteArray.mk (rest ++ s).toArray = ByteArray.mk (safe ++ (rest ++ s)).toArray := by rw [ByteArray.mk_append_mk]
            have HC := Lib.hid hcat
            have HC2 := Lib.hid hcat2
            clear hcat hcat2
            by_cases hlast : cl + 1 = n
            · have q1 : (cl + 1 == n) = true := by simpa using hlast
              have HX1 := Lib.hid (HH.out.eq (show AS safe rest (n - cl) keep = AS safe rest 1 keep by rw [show n - cl = 1 by omega]))
              by_cases hodd : k % 2 = 1
              all_goals
                have q2 : ((k : Int) % 2 == 1) = decide (k % 2 = 1) := by by_cases h : k % 2 = 1 <;> simp [h] <;> omega
                simp only [hodd, decide_true, decide_false] at q2
                go_wp2_with fail
                refine (DN.out _ _ HH.out).mono ?_; rintro e w4 ⟨rfl, rfl⟩
                go_wp2_with fail
                refine (append_at HX1.out 0 s (by omega) AL.out).mono ?_; rintro e w4 ⟨rfl, h4⟩
                have H4 := Lib.hid h4
                have f4 := FX.out _ _ h4
                clear h4 f1
                have hcat := HC.out
                go_wp2_with fail
                try (refine (DN.out _ _ H4.out).mono ?_; rintro e w5 ⟨rfl, rfl⟩; rw [CR_down]; go_wp2_with fail)
                go_roundw
                case rel => exact ⟨k + 1, safe, rest ++ s, _, by go_num, rfl, rfl, rfl, by omega, Lib.hid (.inr H4.out), HL1⟩
                case measure => simp [intOf]; omega
            · have q1 : (cl + 1 == n) = false := by simpa using hlast
              have hc2 : cl + 1 < n := by omega
              have EQ := Lib.hid (show n - cl - 1 = n - (cl + 1) by omega)
              by_cases hodd : k % 2 = 1
              · have q2 : ((k : Int) % 2 == 1) = true := by simp; omega
                by_cases hl2 : cl + 1 + 1 = n
                · have q3 : (cl + 1 + 1 == n) = true := by simpa using hl2
                  have q4 : (cl + 2 == n) = true := by simp; omega
                  have FL := Lib.hid (flush_last (safe := safe) (rest := rest ++ s) (keep := keep))
                  have EQ1 := Lib.hid (show n - cl - 1 = 1 by omega)
                  go_wp2_with fail
                  refine (DN.out _ _ HH.out).mono ?_; rintro e w4 ⟨rfl, rfl⟩
                  go_wp2_with fail
                  refine (append_at HH.out 0 s (by omega) (AP.out _ (by omega))).mono ?_; rintro e w4 ⟨rfl, h4⟩
                  rw [EQ1.out] at h4
                  have H4 := Lib.hid h4
                  have f4 := FX.out _ _ h4
                  clear h4 f1
                  have hcat := HC.out
                  go_wp2_with fail
                  refine (DN.out _ _ H4.out).mono ?_; rintro e w5 ⟨rfl, rfl⟩
                  go_wp2_with fail
                  refine (flush_at H4.out 0 FL.out).mono ?_; rintro e w5 ⟨rfl, h5⟩
                  have H5 := Lib.hid h5
                  clear h5 f4
                  go_wp2_with fail
                  go_roundw
                  case rel => exact ⟨k + 1, safe, rest ++ s, _, by go_num, rfl, rfl, rfl, by omega, Lib.hid (.inr H5.out), HL1⟩
                  case measure => simp [intOf]; omega
                · have q3 : (cl + 1 + 1 == n) = false := by simpa using hl2
                  have q4 : (cl + 2 == n) = false := by simp; omega
                  have hc3 : cl + 1 + 1 < n := by omega
                  have EQ2 := Lib.hid (show n - (cl + 1) - 1 = n - (cl + 1 + 1) by omega)
                  have FA := Lib.hid (flush_arm (safe := safe) (rest := rest ++ s) (m := n - (cl + 1)) (keep := keep) (by omega))
                  have HL2 := Lib.hid (show (safe ++ (rest ++ s)).length + ([] : List UInt8).length ≤ sumL (l.take (k + 1)) by have := HL1.out; simp at this ⊢; omega)
                  go_wp2_with fail
                  refine (DN.out _ _ HH.out).mono ?_; rintro e w4 ⟨rfl, rfl⟩
                  go_wp2_with fail
                  refine (append_at HH.out 0 s (by omega) (AP.out _ (by omega))).mono ?_; rintro e w4 ⟨rfl, h4⟩
                  rw [EQ.out] at h4
                  have H4 := Lib.hid h4
                  have f4 := FX.out _ _ h4
                  clear h4 f1
                  have hcat := HC.out
                  go_wp2_with fail
                  refine (DN.out _ _ H4.out).mono ?_; rintro e w5 ⟨rfl, rfl⟩
                  go_wp2_with fail
                  refine (flush_at H4.out 0 FA.out).mono ?_; rintro e w5 ⟨rfl, h5⟩
                  rw [EQ2.out] at h5
                  have H5 := Lib.hid h5
                  clear h5 f4
                  have hcat2 := HC2.out
                  go_wp2_with fail
                  go_roundw
                  case rel => exact ⟨k + 1, safe ++ (rest ++ s), [], cl + 1 + 1, by go_num, rfl, rfl, by go_num, by omega, Lib.hid (.inl ⟨by omega, by omega, H5.out⟩), HL2⟩
                  case measure => simp [intOf]; omega
              · have q2 : ((k : Int) % 2 == 1) = false := by simp; omega
                go_wp2_with fail
                refine (DN.out _ _ HH.out).mono ?_; rintro e w4 ⟨rfl, rfl⟩
                go_wp2_with fail
                refine (append_at HH.out 0 s (by omega) (AP.out _ (by omega))).mono ?_; rintro e w4 ⟨rfl, h4⟩
                rw [EQ.out] at h4
                have H4 := Lib.hid h4
                have f4 := FX.out _ _ h4
                clear h4 f1
                have hcat := HC.out
                go_wp2_with fail
                go_roundw
                case rel => exact ⟨k + 1, safe, rest ++ s, cl + 1, by go_num, rfl, rfl, rfl, by omega, Lib.hid (.inl ⟨by omega, by omega, H4.out⟩), HL1⟩
                case measure => simp [intOf]; omega
          · have hcat : ByteArray.mk safe.toArray ++ ByteArray.mk rest.toArray = ByteArray.mk (safe ++ rest).toArray := by rw [ByteArray.mk_append_mk]
            have HC := Lib.hid hcat
            clear hcat
            go_wp2_with fail
            refine (DN.out _ _ HH.out).mono ?_; rintro e w4 ⟨rfl, rfl⟩
            go_wp2_with fail
            refine (read_at HH.out 0 AS_read).mono ?_; rintro e w4 ⟨rfl, h4⟩
            have hcat := HC.out
            have H4 := Lib.hid h4
            clear h4
            go_wp2_with fail
            go_ret
            exact ⟨rfl, H4.out.1⟩
        · have DN := Lib.hid (fun w' S (h : Held w w' b S) => down_at h)
          have HH := Lib.hid hH
          have HRD0 := CR_read (safe := safe) (rest := rest) (keep := keep)
          clear hA hH
          rcases (by omega : keep ≤ 0 ∨ (0 < keep ∧ keep ≤ rest.length) ∨ (rest.length : Int) < keep) with hk3 | ⟨hk3, hk4⟩ | hk3
          · rw [show min (max keep 0).toNat rest.length = 0 by omega, List.take_zero, List.append_nil] at HRD0
            have HRD := Lib.hid HRD0
            have HC := Lib.hid (show ByteArray.mk safe.toArray ++ (ByteArray.mk rest.toArray).extract 0 keep.toNat = ByteArray.mk safe.toArray by rw [bx_take, show keep.toNat = 0 by omega, List.take_zero, ByteArray.mk_append_mk]; simp)
            clear HRD0
            by_cases hlt : k < N
            all_goals
              go_wp2_with fail
              try (refine (DN.out _ _ HH.out).mono ?_; rintro e w4 ⟨rfl, rfl⟩; rw [CR_down]; go_wp2_with fail)
              try (refine (DN.out _ _ HH.out).mono ?_; rintro e w4 ⟨rfl, rfl⟩; rw [CR_down]; go_wp2_with fail)
              refine (start_at HH.out).mono ?_; rintro e w5 ⟨rfl, h5⟩
              go_wp2_with fail
              refine (read_at h5 0 HRD.out).mono ?_; rintro e w6 ⟨rfl, h6⟩
              have H6 := Lib.hid h6
              clear h5 h6
              have hcat := HC.out
              go_wp2_with fail
              all_goals go_ret
              all_goals exact ⟨rfl, H6.out.1⟩
          · obtain ⟨m, rfl⟩ : ∃ m : Nat, keep = (m : Int) := ⟨keep.toNat, by omega⟩
            rw [show min (max (m : Int) 0).toNat rest.length = m by omega] at HRD0
            have HRD := Lib.hid HRD0
            have HC := Lib.hid (show ByteArray.mk safe.toArray ++ (ByteArray.mk rest.toArray).extract 0 m = ByteArray.mk (safe ++ rest.take m).toArray by rw [bx_take, ByteArray.mk_append_mk])
            clear HRD0
            by_cases hlt : k < N
            all_goals
              go_wp2_with fail
              try (refine (DN.out _ _ HH.out).mono ?_; rintro e w4 ⟨rfl, rfl⟩; rw [CR_down]; go_wp2_with fail)
              try (refine (DN.out _ _ HH.out).mono ?_; rintro e w4 ⟨rfl, rfl⟩; rw [CR_down]; go_wp2_with fail)
              refine (start_at HH.out).mono ?_; rintro e w5 ⟨rfl, h5⟩
              go_wp2_with fail
              refine (read_at h5 0 HRD.out).mono ?_; rintro e w6 ⟨rfl, h6⟩
              have H6 := Lib.hid h6
              clear h5 h6
              have hcat := HC.out
              go_wp2_with fail
              go_ret
              exact ⟨rfl, H6.out.1⟩
          · rw [show min (max keep 0).toNat rest.length = rest.length by omega, List.take_length] at HRD0
            have HRD := Lib.hid HRD0
            have HC := Lib.hid (show ByteArray.mk safe.toArray ++ (ByteArray.mk rest.toArray).extract 0 rest.length = ByteArray.mk (safe ++ rest).toArray by rw [bx_take, List.take_length, ByteArray.mk_append_mk])
            clear HRD0
            by_cases hlt : k < N
            all_goals
              go_wp2_with fail
              try (refine (DN.out _ _ HH.out).mono ?_; rintro e w4 ⟨rfl, rfl⟩; rw [CR_down]; go_wp2_with fail)
              try (refine (DN.out _ _ HH.out).mono ?_; rintro e w4 ⟨rfl, rfl⟩; rw [CR_down]; go_wp2_with fail)
              refine (start_at HH.out).mono ?_; rintro e w5 ⟨rfl, h5⟩
              go_wp2_with fail
              refine (read_at h5 0 HRD.out).mono ?_; rintro e w6 ⟨rfl, h6⟩
              have H6 := Lib.hid h6
              clear h5 h6
              have hcat := HC.out
              go_wp2_with fail
              go_ret
              exact ⟨rfl, H6.out.1⟩

set_option maxRecDepth 100000 in
set_option maxHeartbeats 1000000 in
theorem arms_any (A : Option Addr) (c : Nat) (l : List (List UInt8)) (n keep : Int) (w : World) (hrow : Row w w.heap.size A (strs l)) (hx : ∀ x ∈ l, x.length ≤ 140737488351232) (hl : l.length ≤ maxLen) :
    Calls Try.prog 6 #[.slice A l.length c, .int .i64 n, .int .i64 keep] w fun e w' => e = .returned (.bool true) ∧ Below w.heap.size w w' := by
  by_cases hm : l.length ≤ 50 ∧ sumL l ≤ 20000 ∧ 1 ≤ n ∧ n ≤ 100
  · exact arms_main A c _ l n keep w hrow rfl hm.1 hx hm.2.1 hm.2.2.1 hm.2.2.2
  · unfold maxLen at hl
    have HR := Lib.hid hrow
    have HX := Lib.hid hx
    have HM := Lib.hid hm
    obtain ⟨N, hN⟩ : ∃ N, N = l.length := ⟨_, rfl⟩
    have HN := Lib.hid hN
    rw [← hN] at hl ⊢
    clear hrow hx hm hN
    go_enter Try.func6, Try.ntmps6
    go_wp2_with fail
    refine (small9_any _).mono ?_; rintro e w1 ⟨rfl, b1⟩
    go_wp2_with fail
    refine (new_at w _ b1).mono ?_; rintro e w2 ⟨rfl, h2⟩
    generalize w1.heap.size = b at h2 ⊢
    have H2 := Lib.hid h2
    clear b1 h2
    go_wp2_with fail
    go_loop [9, 10] (fun t i => ∃ (k : Nat) (z : Int), i = .int .i64 k ∧ t = .int .i64 z ∧ k ≤ N ∧ Hid (N ≤ 50 → z = sumL (l.take k))) (fun _ i => N - (intOf i).toNat)
    case atStart => exact ⟨0, 0, rfl, rfl, by omega, Lib.hid (fun _ => by simp [sumL])⟩
    case round =>
      obtain ⟨k, z, rfl, rfl, hk, hz⟩ := hrel
      by_cases hlt : k < N
      · obtain ⟨b1, o1, rfl, hb1, hc1⟩ := HR.out (by rw [strs_length, ← HN.out]; omega)
        have hk1 : k < l.length := by rw [← HN.out]; exact hlt
        have f1 : w2.cell? ⟨b1, o1 + k, none⟩ = some (.string ⟨l[k].toArray⟩) := by
          rw [H2.out.1.cell hb1, hc1 k (by rw [strs_length]; exact hk1)]; simp [strs]
        clear hc1
        have HS := Lib.hid (show N ≤ 50 → RowKit.wrap64 (z + (l[k].length : Int)) = (sumL (l.take (k + 1)) : Nat) by
          intro h50
          have h1 := sumL_max HX.out (k + 1) (by omega)
          rw [sumL_take hk1] at h1 ⊢
          rw [hz.out h50, IntWalk.wrap64_in _ (by omega)]; omega)
        have hxl := HX.out l[k] (List.getElem_mem hk1)
        go_wp2_with fail
        go_round
        case rel => exact ⟨k + 1, _, by go_num, rfl, by omega, HS⟩
        case measure => simp [intOf]; omega
      · have hz2 : N ≤ 50 → z = (sumL l : Nat) := fun h => by rw [hz.out h, List.take_of_length_le (by rw [← HN.out]; omega)]
        have hd : 50 < N ∨ N ≤ 50 ∧ 20000 < z ∨ N ≤ 50 ∧ z ≤ 20000 ∧ n < 1 ∨ N ≤ 50 ∧ z ≤ 20000 ∧ ¬ n < 1 ∧ 100 < n := by
          have hm := HM.out
          by_cases h50 : N ≤ 50
          · have := hz2 h50
            rw [← HN.out] at hm
            omega
          · exact .inl (by omega)
        clear hz2 hz
        rcases hd with h1 | ⟨h1, h2⟩ | ⟨h1, h2, h3⟩ | ⟨h1, h2, h3, h4⟩
        all_goals
          go_wp2_with fail
          go_ret
          exact ⟨rfl, H2.out.1⟩

end Go.Proofs.Ytnbaalllcddbkaa
