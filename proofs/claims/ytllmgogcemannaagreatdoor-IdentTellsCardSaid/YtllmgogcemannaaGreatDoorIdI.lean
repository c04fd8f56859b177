/- strings.Builder's WriteByte; Package sum: the padded message. -/
import Derived.Test.YtllmgogcemannaaGreatDoorIdH
import Derived.Test.YtllmgogcemannaaGreatDoorBuild
namespace Go.Proofs.YtllmgogcemannaaGreatDoor
open Go.RowKit

set_option maxHeartbeats 2000000 in
set_option maxRecDepth 100000 in
theorem writeByte_any (B b : Nat) (bs : List Value) (x : UInt8) (w : World) (h : Lib.IsBuilder 64 5 B b bs w) (hlen : bs.length ≤ 1000000000) (hBw : B ≤ w.heap.size) :
    Calls Tryz.prog 51 #[.pointer (some ⟨b, 0, none⟩), .int .u8 x.toNat] w fun e w' => e = .returned .nilIface ∧ (Lib.BuilderAt 64 5 B b (.pointer (some ⟨b, 0, none⟩)) (bs ++ [.int .u8 x.toNat]) w' ∧ Below B w w') := by
  go_enter Tryz.func51, Tryz.ntmps51
  go_wp2_with (go_at_call 74; refine (copyCheck_any B b bs _ h).mono ?_)
  rintro e w1 ⟨rfl, h1, hb1⟩
  obtain ⟨hB, v, hbk, hown, hne⟩ := h1
  obtain ⟨A, c, rfl⟩ : ∃ A c, v = .slice A bs.length c := by
    rcases hown.2 with ⟨hv, h0⟩ | ⟨g, cap, cur, hv, _⟩
    · exact ⟨_, _, hv.trans (by rw [h0])⟩
    · exact ⟨_, _, hv⟩
  have c0 : w1.cell? ⟨b, 0, none⟩ = some (.pointer (some ⟨b, 0, none⟩)) := by rw [Lib.cell_of_heap hbk]; rfl
  have c1 : w1.cell? ⟨b, 1, none⟩ = some (.slice A bs.length c) := by rw [Lib.cell_of_heap hbk]; rfl
  have hB1 := hb1.size
  go_wp2_with (at_builtin; refine wpList_push rfl (.tmp 11) (.tmp 13) 42 rfl B 5 (.int .u8 0) 1 Tryz.underlying42 infoByte rfl A c bs rfl (OwnS.alloc hown _) w1.heap.size (.int .u8 x.toNat) rfl (cell_new _ _ _) rfl ?c4 ?c5 ?_)
  case c4 => omega
  case c5 => simp; omega
  intro g' c' w2 hown' hbl hgrow hat hgb hgc
  have hlt : b < w1.heap.size := by
    rcases Nat.lt_or_ge b w1.heap.size with h' | h'
    · exact h'
    · simp [Array.getElem?_eq_none h'] at hbk
  have hb2 : w2.heap[b]? = some (.cells #[.pointer (some ⟨b, 0, none⟩), .slice A bs.length c] 64 (0, 0)) := by
    rw [hgrow.block b (by simp; omega) (fun e => hne (by cases A with | none => cases e | some a => exact e.symm))]
    rw [Below.heap_alloc _ _ _ hlt]
    exact hbk
  have d0 : w2.cell? ⟨b, 0, none⟩ = some (.pointer (some ⟨b, 0, none⟩)) := by rw [Lib.cell_of_heap hb2]; rfl
  have d1 : w2.cell? ⟨b, 1, none⟩ = some (.slice A bs.length c) := by rw [Lib.cell_of_heap hb2]; rfl
  have f1 : w2.frozen? ⟨b, 1, none⟩ = false := Lib.frozen_of_heap hb2 1
  go_wp2
  go_ret
  refine ⟨rfl, ?_, ?_⟩
  · have ho := hown'
    unfold OwnS at ho
    exact Lib.BuilderAt.put (T := 64) (e := 5) hB hb2 (bs' := bs ++ [.int .u8 x.toNat]) (by simpa using ho) (by decide)
  · exact (below_step hb1 (Nat.le_trans hBw hB1) hbl).setCell (p := ⟨b, 1, none⟩) hB _
theorem wb_any (B b : Nat) (l : List UInt8) (x : UInt8) (w : World) (h : IsB w B b l) (hlen : l.length ≤ 1000000000) (hB : B ≤ w.heap.size) :
    Calls Tryz.prog 51 #[.pointer (some ⟨b, 0, none⟩), .int .u8 x.toNat] w fun e w' => e = .returned .nilIface ∧ IsB w' B b (l ++ [x]) ∧ Below B w w' := by
  refine (writeByte_any B b (Lib.byteCells l) x w h (by rw [Lib.byteCells_length]; exact hlen) hB).mono ?_
  rintro e w' ⟨rfl, h1, h2⟩
  refine ⟨rfl, .inr ?_, h2⟩
  have e1 : Lib.byteCells (l ++ [x]) = Lib.byteCells l ++ [.int .u8 x.toNat] := by simp [Lib.byteCells]
  rw [e1]; exact h1
theorem bl_any (B b : Nat) (l : List UInt8) (w : World) (h : IsB w B b l) :
    Calls Tryz.prog 52 #[.pointer (some ⟨b, 0, none⟩)] w fun e w' => e = .returned (.int .i64 l.length) ∧ w' = w := by
  refine (Tryz.Builder_Len B b (Lib.byteCells l) w h).mono ?_
  rintro e w' ⟨rfl, rfl⟩
  exact ⟨by rw [Lib.byteCells_length], rfl⟩
/-- How many zeros stand behind the 128. -/
def padZ (n : Nat) : Nat := (119 - n % 64) % 64
theorem padZ_mod (n k : Nat) (h : k < padZ n) : (n + 1 + k) % 64 ≠ 56 := by unfold padZ at h; omega
theorem padZ_end (n : Nat) : (n + 1 + padZ n) % 64 = 56 := by unfold padZ; omega
theorem padZ_lt (n : Nat) : padZ n < 64 := by unfold padZ; omega
/-- The first j bytes of the length in bits. -/
def be8 (n : Nat) : Nat → List UInt8
  | 0 => []
  | j + 1 => be8 n j ++ [UInt8.ofNat (n / 2 ^ (56 - 8 * j))]
theorem be8_byte (n j : Nat) : (n : Int) * 8 / 2 ^ (56 - 8 * j) % 256 = ((UInt8.ofNat (n * 8 / 2 ^ (56 - 8 * j))).toNat : Int) := by
  rw [UInt8.toNat_ofNat', Int.natCast_emod, Int.natCast_ediv, Int.natCast_mul, Int.natCast_pow]; rfl
theorem be8_len (n : Nat) : ∀ j, (be8 n j).length = j
  | 0 => rfl
  | j + 1 => by rw [be8, List.length_append, be8_len n j]; rfl
def padB (s : List UInt8) (k : Nat) : List UInt8 := s ++ 128 :: List.replicate k 0
theorem padB_len (s : List UInt8) (k : Nat) : (padB s k).length = s.length + 1 + k := by simp [padB]; omega
theorem padB_succ (s : List UInt8) (k : Nat) : padB s k ++ [0] = padB s (k + 1) := by simp [padB, List.replicate_succ']
def padF (s : List UInt8) : List UInt8 := padB s (padZ s.length) ++ be8 (s.length * 8) 8
theorem padF_len (s : List UInt8) : (padF s).length = s.length + 1 + padZ s.length + 8 := by rw [padF, List.length_append, padB_len, be8_len]
/-- How many bytes the builder holds, read off its block. -/
def lenB (w : World) (b : Nat) : Nat := match w.cell? ⟨b, 1, none⟩ with | some (.slice _ n _) => n | _ => 0
theorem lenB_eq {w : World} {B b : Nat} {l : List UInt8} (h : IsB w B b l) : lenB w b = l.length := by
  have key : ∀ p, Lib.BuilderAt 64 5 B b p (Lib.byteCells l) w → lenB w b = l.length := by
    rintro p ⟨h1, v, h2, h3, h4⟩
    have hc : w.cell? ⟨b, 1, none⟩ = some v := by rw [Lib.cell_of_heap h2]; rfl
    unfold lenB
    rw [hc]
    rcases h3.2 with ⟨hv, h0⟩ | ⟨g, cap, cur, hv, _⟩
    · rw [hv, ← Lib.byteCells_length l, h0]
    · rw [hv, ← Lib.byteCells_length l]
  rcases h with h | h
  · exact key _ h
  · exact key _ h
set_option maxRecDepth 100000 in
set_option maxHeartbeats 4000000 in
theorem padded_any (s : List UInt8) (w : World) (hs : s.length ≤ 1000000) :
    Calls Tryz.prog 35 #[.string ⟨s.toArray⟩] w fun e w' => e = .returned (.string ⟨(padF s).toArray⟩) ∧ Below w.heap.size w w' := by
  have hA := (Below.refl w.heap.size w).alloc (Nat.le_refl _) (.cells #[.pointer none, .slice none 0 0] 64)
  have HWS := Lib.hid (fun w1 (h : IsB w1 w.heap.size w.heap.size []) => ws_any w.heap.size w.heap.size [] s w1 h (by simp; omega))
  have HWB := Lib.hid (fun l x w1 (h : IsB w1 w.heap.size w.heap.size l) => wb_any w.heap.size w.heap.size l x w1 h)
  have HWL := Lib.hid (fun l w1 (h : IsB w1 w.heap.size w.heap.size l) => bl_any w.heap.size w.heap.size l w1 h)
  have HWR := Lib.hid (fun l w1 (h : IsB w1 w.heap.size w.heap.size l) => bs_any w.heap.size w.heap.size l w1 h)
  have hN := Lib.hid (IsB.new w (Nat.le_refl w.heap.size))
  have hA2 := Lib.hid hA
  have hsz := hA.size
  clear hA
  go_enter Tryz.func35, Tryz.ntmps35
  go_wp2_with fail
  refine (HWS.out _ hN.out hsz).mono ?_; rintro e w1 ⟨rfl, h1, b1⟩
  rw [List.nil_append] at h1
  replace h1 := Lib.hid h1
  have B1 := Lib.hid (hA2.out.trans b1)
  clear b1 hsz
  have hz1 := B1.out.size
  go_wp2_with fail
  refine (HWB.out s 128 _ h1.out (by omega) hz1).mono ?_; rintro e w2 ⟨rfl, h2, b2⟩
  replace h2 := Lib.hid (show IsB w2 w.heap.size w.heap.size (padB s 0) from h2)
  have B2 := Lib.hid (B1.out.trans b2)
  clear b2 hz1
  go_wp2_with fail
  go_loopw [9] (fun _ wr => ∃ (k : Nat), k ≤ padZ s.length ∧ Hid (IsB wr w.heap.size w.heap.size (padB s k)) ∧ Hid (Below w.heap.size w wr)) (fun _ wr => s.length + 1 + padZ s.length - lenB wr w.heap.size)
  case atStart => exact ⟨0, by omega, h2, B2⟩
  case round =>
    clear h1 h2 B1 B2
    obtain ⟨k, hk, h2, B2⟩ := hrel
    have hz2 := B2.out.size
    have hpl := padB_len s k
    have hzl := padZ_lt s.length
    go_wp2_with fail
    refine (HWL.out _ _ h2.out).mono ?_; rintro e w3 ⟨rfl, rfl⟩
    by_cases hkz : k < padZ s.length
    · have hne := padZ_mod s.length k hkz
      have hne' : ¬ ((padB s k).length : Int) % 64 = 56 := by rw [hpl]; omega
      have hmes := lenB_eq h2.out
      go_wp2_with fail
      refine (HWB.out _ 0 _ h2.out (by omega) hz2).mono ?_; rintro e w3 ⟨rfl, h3, b3⟩
      rw [padB_succ] at h3
      have hmes2 := lenB_eq h3
      rw [padB_len] at hmes hmes2
      replace h3 := Lib.hid h3
      replace b3 := Lib.hid (B2.out.trans b3)
      go_wp2_with fail
      go_roundw
      case rel => exact ⟨k + 1, by omega, h3, b3⟩
      case measure => omega
    · obtain rfl : k = padZ s.length := by omega
      have he := padZ_end s.length
      have he' : ((padB s (padZ s.length)).length : Int) % 64 = 56 := by rw [hpl]; omega
      go_wp2_with fail
      replace h2 := Lib.hid (show IsB w3 w.heap.size w.heap.size (padB s (padZ s.length) ++ be8 (s.length * 8) 0) by rw [be8, List.append_nil]; exact h2.out)
      clear hz2 hpl hzl he he' hkz hk
      generalize Value.bool (((s.length : Int) + 1 + (padZ s.length : Int)) % 64 != 56) = v11
      go_loopw [5] (fun i wr => ∃ (j : Nat), i = .int .i64 (56 - 8 * j) ∧ j ≤ 8 ∧ Hid (IsB wr w.heap.size w.heap.size (padB s (padZ s.length) ++ be8 (s.length * 8) j)) ∧ Hid (Below w.heap.size w wr)) (fun i _ => (intOf i + 8).toNat)
      case atStart => exact ⟨0, rfl, by omega, h2, B2⟩
      case round =>
        clear h2 B2
        obtain ⟨j, rfl, hj, h2, B2⟩ := hrel
        have hz2 := B2.out.size
        by_cases hj8 : j < 8
        · have hj8' : (0 : Int) ≤ 56 - 8 * j := by omega
          have hb := Lib.hid (be8_byte s.length j)
          have hl8 := be8_len (s.length * 8) j
          have hpl := padB_len s (padZ s.length)
          have hzl := padZ_lt s.length
          go_wp2_with fail
          rw [hb.out]
          refine (HWB.out _ (UInt8.ofNat (s.length * 8 / 2 ^ (56 - 8 * j))) _ h2.out (by rw [List.length_append]; omega) hz2).mono ?_; rintro e w4 ⟨rfl, h3, b3⟩
          rw [List.append_assoc, show be8 (s.length * 8) j ++ [UInt8.ofNat (s.length * 8 / 2 ^ (56 - 8 * j))] = be8 (s.length * 8) (j + 1) from rfl] at h3
          replace h3 := Lib.hid h3
          replace b3 := Lib.hid (B2.out.trans b3)
          clear hb hl8 hpl hzl
          go_wp2_with fail
          go_roundw
          case rel => exact ⟨j + 1, by go_num, by omega, h3, b3⟩
          case measure => simp [intOf]; omega
        · obtain rfl : j = 8 := by omega
          have h0 : ¬ (0 : Int) ≤ 56 - 8 * (8 : Nat) := by omega
          go_wp2_with fail
          refine (HWR.out _ _ h2.out hz2).mono ?_; rintro e w3 ⟨rfl, b3⟩
          replace b3 := Lib.hid (B2.out.trans b3)
          go_wp2_with fail
          go_ret
          exact ⟨rfl, b3.out⟩
end Go.Proofs.YtllmgogcemannaaGreatDoor
