/- Package code: the writers. -/
import Derived.Test.YtgojkbaodmiiaaaCode5
import Derived.Test.YtgojkbaodmiiaaaBuild
import Derived.Test.YtgojkbaodmiiaaaRow
namespace Go.Proofs.Ytgojkbaodmiiaaa
open Go.RowKit

def encText (s : List UInt8) : List UInt8 := vi s.length ++ s
def zz (n : Int) : Nat := if n < 0 then (-2 * n).toNat - 1 else (2 * n).toNat
def encInt (n : Int) : List UInt8 := if zigOk n then vi (zz n) else []
def encMany {α : Type} (one : α → List UInt8) (l : List α) : List UInt8 := vi l.length ++ (l.map one).flatten

set_option maxHeartbeats 400000 in
theorem etext_any (s : List UInt8) (w : World) (hs : s.length ≤ 4398046511104) :
    Calls Try.prog 16 #[.string ⟨s.toArray⟩] w fun e w' => e = .returned (.string ⟨(encText s).toArray⟩) ∧ Below w.heap.size w w' := by
  have hV := vi_len9 (n := s.length) (by omega)
  go_enter Try.func16, Try.ntmps16
  go_wp2_with (go_at_call 12; refine (num_any _ _ (by omega) (by omega)).mono ?_; rintro e w1 ⟨rfl, hb1⟩)
  go_ret
  exact ⟨rfl, hb1⟩

set_option maxHeartbeats 400000 in
theorem eint_any (n : Int) (w : World) :
    Calls Try.prog 14 #[.int .i64 n] w fun e w' => e = .returned (.string ⟨(encInt n).toArray⟩) ∧ Below w.heap.size w w' := by
  by_cases h : zigOk n
  · have R : Hid (encInt n = vi (zz n)) := Lib.hid (by simp [encInt, h])
    obtain ⟨h1, h2⟩ := h
    by_cases h0 : n < 0
    · have Z : Hid (zz n = (-2 * n).toNat - 1) := Lib.hid (by simp [zz, h0])
      go_enter Try.func14, Try.ntmps14
      go_wp2_with (go_at_call 12; refine (num_any _ _ (by omega) (by omega)).mono ?_; rintro e w1 ⟨rfl, hb1⟩)
      go_ret
      rw [R.out, Z.out]
      exact ⟨rfl, hb1⟩
    · have Z : Hid (zz n = (2 * n).toNat) := Lib.hid (by simp [zz, h0])
      go_enter Try.func14, Try.ntmps14
      go_wp2_with (go_at_call 12; refine (num_any _ _ (by omega) (by omega)).mono ?_; rintro e w1 ⟨rfl, hb1⟩)
      go_ret
      rw [R.out, Z.out]
      exact ⟨rfl, hb1⟩
  · have R : Hid (encInt n = []) := Lib.hid (by simp [encInt, h])
    unfold zigOk at h
    by_cases h1 : n < -2305843009213693952
    · go_enter Try.func14, Try.ntmps14
      go_wp2
      go_ret
      rw [R.out]
      exact ⟨rfl, Below.refl _ _⟩
    · have h2 : 2305843009213693952 < n := by omega
      go_enter Try.func14, Try.ntmps14
      go_wp2
      go_ret
      rw [R.out]
      exact ⟨rfl, Below.refl _ _⟩

def encPre {α : Type} (one : α → List UInt8) (l : List α) (k : Nat) : List UInt8 := vi l.length ++ ((l.take k).map one).flatten
theorem encPre_le {α : Type} (one : α → List UInt8) (l : List α) (k : Nat) : (encPre one l k).length ≤ (encMany one l).length := by
  unfold encMany encPre
  simp only [List.length_append]
  have : ((l.take k).map one).flatten.length ≤ (l.map one).flatten.length := by
    conv => rhs; rw [← List.take_append_drop k l]
    simp only [List.map_append, List.flatten_append, List.length_append]
    omega
  omega
theorem encPre_step {α : Type} (one : α → List UInt8) (l : List α) (k : Nat) (h : k < l.length) : encPre one l (k + 1) = encPre one l k ++ one l[k] := by
  unfold encPre
  rw [List.take_succ_eq_append_getElem h, List.map_append, List.flatten_append]; simp
theorem encPre_end {α : Type} (one : α → List UInt8) (l : List α) : encPre one l l.length = encMany one l := by
  simp [encMany, encPre]
theorem encPre_zero {α : Type} (one : α → List UInt8) (l : List α) : encPre one l 0 = vi l.length := by
  simp [encPre]

set_option maxRecDepth 100000 in
set_option maxHeartbeats 400000 in
theorem writes_any (A : Option Addr) (c n : Nat) (l : List (List UInt8)) (w : World) (hrow : Row w w.heap.size A (strs l)) (hs : (encMany encText l).length ≤ 4398046511104) (hn : n = l.length) (hl : n ≤ 4398046511104) (hx : ∀ x ∈ l, x.length ≤ 4398046511104) :
    Calls Try.prog 47 #[.slice A n c, .func (.func 16) #[] #[]] w fun e w' => e = .returned (.string ⟨(encMany encText l).toArray⟩) ∧ Below w.heap.size w w' := by
  have hS : (strs l).length = n := by simp [strs, hn]
  have hB0 := IsB.new w (Nat.le_refl _)
  have hb0 : Below w.heap.size w (w.alloc (.cells #[.pointer none, .slice none 0 0] 65)) := (Below.refl _ _).alloc (Nat.le_refl _) _
  have hnl := vi_len9 (n := n) (by omega)
  have hP0 := encPre_zero encText l
  have hPE := encPre_end encText l
  rw [← hn] at hP0 hPE
  have HP0 := Lib.hid hP0
  have HPE := Lib.hid hPE
  have HS := Lib.hid hS
  have Hn := Lib.hid hn
  clear hP0 hPE hS hn
  go_enter Try.func47, Try.ntmps47
  go_wp2_with (first
    | (go_at_call 12; refine (num_any _ _ (by omega) (by omega)).mono ?_; rintro e w1 ⟨rfl, hb1⟩; have hs1 := hb1.size)
    | (go_at_call 56; refine (ws_any w.heap.size w.heap.size [] _ _ (hB0.later hb1) (by simp; omega) (by simp at hs1; omega)).mono ?_; rintro e w2 ⟨rfl, hB2, hb2⟩))
  have hbw2 : Below w.heap.size w w2 := (hb0.trans (hb1.mono (by simp))).trans hb2
  rw [List.nil_append, ← HP0.out] at hB2
  clear hb1 hb2 hb0 hB0 hs1
  go_loopw [14] (fun v wr => ∃ k : Nat, v = .int .i64 k ∧ k ≤ n ∧ IsB wr w.heap.size w.heap.size (encPre encText l k) ∧ Below w.heap.size w wr) (fun v _ => n - (intOf v).toNat)
  case atStart => exact ⟨0, rfl, by omega, hB2, hbw2⟩
  case round =>
    obtain ⟨k, rfl, hk, hB, hb⟩ := hrel
    have hz := hb.size
    clear hB2 hbw2
    by_cases hlt : k < n
    · obtain ⟨bb, off, rfl, hbb, hc⟩ := hrow (by rw [HS.out]; omega)
      have hkl : k < l.length := by rw [← Hn.out]; exact hlt
      have hcell : wr.cell? ⟨bb, off + k, none⟩ = some (.string ⟨l[k].toArray⟩) := by
        rw [hb.cell (p := ⟨bb, off + k, none⟩) hbb, hc k (by rw [HS.out]; exact hlt)]
        simp [strs]
      have hpl := encPre_le encText l (k + 1)
      have HPS := Lib.hid (encPre_step encText l k hkl)
      rw [HPS.out, List.length_append] at hpl
      have hxk := hx l[k] (List.getElem_mem hkl)
      clear hc
      go_wp2_with (first
        | (go_at_call 16; refine (etext_any _ _ hxk).mono ?_; rintro e w3 ⟨rfl, hb3⟩; have hs3 := hb3.size)
        | (go_at_call 56; refine (ws_any w.heap.size w.heap.size _ _ _ (hB.later hb3) (by omega) (by omega)).mono ?_; rintro e w4 ⟨rfl, hB4, hb4⟩))
      go_roundw
      case rel => exact ⟨k + 1, by go_num, by omega, by rw [HPS.out]; exact hB4, (hb.trans (hb3.mono (by omega))).trans hb4⟩
      case measure => simp [intOf]; omega
    · obtain rfl : k = n := by omega
      go_wp2_with (go_at_call 57; refine (bs_any w.heap.size w.heap.size _ _ hB (by omega)).mono ?_; rintro e w3 ⟨rfl, hb3⟩)
      go_ret
      rw [← HPE.out]
      exact ⟨rfl, hb.trans hb3⟩

set_option maxRecDepth 100000 in
set_option maxHeartbeats 400000 in
theorem writei_any (A : Option Addr) (c n : Nat) (l : List Int) (w : World) (hrow : Row w w.heap.size A (i64s l)) (hs : (encMany encInt l).length ≤ 4398046511104) (hn : n = l.length) (hl : n ≤ 4398046511104) :
    Calls Try.prog 48 #[.slice A n c, .func (.func 14) #[] #[]] w fun e w' => e = .returned (.string ⟨(encMany encInt l).toArray⟩) ∧ Below w.heap.size w w' := by
  have hS : (i64s l).length = n := by simp [i64s, hn]
  have hB0 := IsB.new w (Nat.le_refl _)
  have hb0 : Below w.heap.size w (w.alloc (.cells #[.pointer none, .slice none 0 0] 65)) := (Below.refl _ _).alloc (Nat.le_refl _) _
  have hnl := vi_len9 (n := n) (by omega)
  have hP0 := encPre_zero encInt l
  have hPE := encPre_end encInt l
  rw [← hn] at hP0 hPE
  have HP0 := Lib.hid hP0
  have HPE := Lib.hid hPE
  have HS := Lib.hid hS
  have Hn := Lib.hid hn
  clear hP0 hPE hS hn
  go_enter Try.func48, Try.ntmps48
  go_wp2_with (first
    | (go_at_call 12; refine (num_any _ _ (by omega) (by omega)).mono ?_; rintro e w1 ⟨rfl, hb1⟩; have hs1 := hb1.size)
    | (go_at_call 56; refine (ws_any w.heap.size w.heap.size [] _ _ (hB0.later hb1) (by simp; omega) (by simp at hs1; omega)).mono ?_; rintro e w2 ⟨rfl, hB2, hb2⟩))
  have hbw2 : Below w.heap.size w w2 := (hb0.trans (hb1.mono (by simp))).trans hb2
  rw [List.nil_append, ← HP0.out] at hB2
  clear hb1 hb2 hb0 hB0 hs1
  go_loopw [14] (fun v wr => ∃ k : Nat, v = .int .i64 k ∧ k ≤ n ∧ IsB wr w.heap.size w.heap.size (encPre encInt l k) ∧ Below w.heap.size w wr) (fun v _ => n - (intOf v).toNat)
  case atStart => exact ⟨0, rfl, by omega, hB2, hbw2⟩
  case round =>
    obtain ⟨k, rfl, hk, hB, hb⟩ := hrel
    have hz := hb.size
    clear hB2 hbw2
    by_cases hlt : k < n
    · obtain ⟨bb, off, rfl, hbb, hc⟩ := hrow (by rw [HS.out]; omega)
      have hkl : k < l.length := by rw [← Hn.out]; exact hlt
      have hcell : wr.cell? ⟨bb, off + k, none⟩ = some (.int .i64 l[k]) := by
        rw [hb.cell (p := ⟨bb, off + k, none⟩) hbb, hc k (by rw [HS.out]; exact hlt)]
        simp [i64s]
      have hpl := encPre_le encInt l (k + 1)
      have HPS := Lib.hid (encPre_step encInt l k hkl)
      rw [HPS.out, List.length_append] at hpl
      clear hc
      go_wp2_with (first
        | (go_at_call 14; refine (eint_any _ _).mono ?_; rintro e w3 ⟨rfl, hb3⟩; have hs3 := hb3.size)
        | (go_at_call 56; refine (ws_any w.heap.size w.heap.size _ _ _ (hB.later hb3) (by omega) (by omega)).mono ?_; rintro e w4 ⟨rfl, hB4, hb4⟩))
      go_roundw
      case rel => exact ⟨k + 1, by go_num, by omega, by rw [HPS.out]; exact hB4, (hb.trans (hb3.mono (by omega))).trans hb4⟩
      case measure => simp [intOf]; omega
    · obtain rfl : k = n := by omega
      go_wp2_with (go_at_call 57; refine (bs_any w.heap.size w.heap.size _ _ hB (by omega)).mono ?_; rintro e w3 ⟨rfl, hb3⟩)
      go_ret
      rw [← HPE.out]
      exact ⟨rfl, hb.trans hb3⟩


set_option maxHeartbeats 400000 in
theorem elist_any (A : Option Addr) (c n : Nat) (l : List (List UInt8)) (w : World) (hrow : Row w w.heap.size A (strs l)) (hs : (encMany encText l).length ≤ 4398046511104) (hn : n = l.length) (hl : n ≤ 4398046511104) (hx : ∀ x ∈ l, x.length ≤ 4398046511104) :
    Calls Try.prog 18 #[.slice A n c] w fun e w' => e = .returned (.string ⟨(encMany encText l).toArray⟩) ∧ Below w.heap.size w w' := by
  have C := Lib.hid (writes_any A c n l w hrow hs hn hl hx)
  clear hn
  go_enter Try.func18, Try.ntmps18
  go_wp2_with (go_at_call 47; refine C.out.mono ?_; rintro e w1 ⟨rfl, hb1⟩)
  go_ret
  exact ⟨rfl, hb1⟩

set_option maxHeartbeats 400000 in
theorem enums_any (A : Option Addr) (c n : Nat) (l : List Int) (w : World) (hrow : Row w w.heap.size A (i64s l)) (hs : (encMany encInt l).length ≤ 4398046511104) (hn : n = l.length) (hl : n ≤ 4398046511104) :
    Calls Try.prog 20 #[.slice A n c] w fun e w' => e = .returned (.string ⟨(encMany encInt l).toArray⟩) ∧ Below w.heap.size w w' := by
  have C := Lib.hid (writei_any A c n l w hrow hs hn hl)
  clear hn
  go_enter Try.func20, Try.ntmps20
  go_wp2_with (go_at_call 48; refine C.out.mono ?_; rintro e w1 ⟨rfl, hb1⟩)
  go_ret
  exact ⟨rfl, hb1⟩

set_option maxHeartbeats 400000 in
theorem list_any (b : Nat) (s : List UInt8) (f : Bool) (w : World) (h : Rd w b s f) (hs : s.length ≤ 4398046511104) :
    Calls Try.prog 33 #[.pointer (some ⟨b, 0, none⟩)] w fun e w' => ∃ A c, e = .returned (.slice A (strs (rdMany rdText s f).1).length c) ∧ OwnS w' w.heap.size 9 A c (strs (rdMany rdText s f).1) ∧ Rd w' b (rdMany rdText s f).2.1 (rdMany rdText s f).2.2 ∧ w.grownBy w' (some b) := by
  have C := Lib.hid (reads_any b s f w h hs)
  generalize rdMany rdText s f = M at *
  clear h
  go_enter Try.func33, Try.ntmps33
  go_wp2_with (go_at_call 53; refine C.out.mono ?_; rintro e w1 ⟨A, c, rfl, h1, h2, h3⟩)
  go_ret
  exact ⟨A, c, rfl, h1, h2, h3⟩

set_option maxHeartbeats 400000 in
theorem nums_any (b : Nat) (s : List UInt8) (f : Bool) (w : World) (h : Rd w b s f) (hs : s.length ≤ 4398046511104) :
    Calls Try.prog 36 #[.pointer (some ⟨b, 0, none⟩)] w fun e w' => ∃ A c, e = .returned (.slice A (i64s (rdMany rdInt s f).1).length c) ∧ OwnS w' w.heap.size 3 A c (i64s (rdMany rdInt s f).1) ∧ Rd w' b (rdMany rdInt s f).2.1 (rdMany rdInt s f).2.2 ∧ w.grownBy w' (some b) := by
  have C := Lib.hid (readi_any b s f w h hs)
  generalize rdMany rdInt s f = M at *
  clear h
  go_enter Try.func36, Try.ntmps36
  go_wp2_with (go_at_call 55; refine C.out.mono ?_; rintro e w1 ⟨A, c, rfl, h1, h2, h3⟩)
  go_ret
  exact ⟨A, c, rfl, h1, h2, h3⟩

end Go.Proofs.Ytgojkbaodmiiaaa
