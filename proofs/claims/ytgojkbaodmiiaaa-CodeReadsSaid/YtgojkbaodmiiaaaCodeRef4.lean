/- The reference's reader: fail, Num, Int, Take, Text, count, Left, Done. -/
import Derived.Test.YtgojkbaodmiiaaaCodeRef3
namespace Go.Proofs.Ytgojkbaodmiiaaa
open Go.RowKit

/-- The reference's reader in block b: its rest, whether it has failed. -/
def Rx (w : World) (b : Nat) (s : List UInt8) (f : Bool) : Prop := Blk w b 59 #[.string ⟨s.toArray⟩, .bool f]
theorem Rx.set0 {w : World} {b : Nat} {s : List UInt8} {f : Bool} (h : Rx w b s f) (t : List UInt8) : Rx (w.setCell ⟨b, 0, none⟩ (.string ⟨t.toArray⟩)) b t f := Blk.set_ h 0 _
theorem Rx.set1 {w : World} {b : Nat} {s : List UInt8} {f : Bool} (h : Rx w b s f) (g : Bool) : Rx (w.setCell ⟨b, 1, none⟩ (.bool g)) b s g := Blk.set_ h 1 _
theorem Rx.c0 {w : World} {b : Nat} {s : List UInt8} {f : Bool} (h : Rx w b s f) : w.cell? ⟨b, 0, none⟩ = some (.string ⟨s.toArray⟩) := Blk.cell h 0
theorem Rx.c1 {w : World} {b : Nat} {s : List UInt8} {f : Bool} (h : Rx w b s f) : w.cell? ⟨b, 1, none⟩ = some (.bool f) := Blk.cell h 1
theorem Rx.z0 {w : World} {b : Nat} {s : List UInt8} {f : Bool} (h : Rx w b s f) : w.frozen? ⟨b, 0, none⟩ = false := Blk.frozen h 0
theorem Rx.z1 {w : World} {b : Nat} {s : List UInt8} {f : Bool} (h : Rx w b s f) : w.frozen? ⟨b, 1, none⟩ = false := Blk.frozen h 1

set_option maxHeartbeats 400000 in
theorem xopen_any (s : List UInt8) (w : World) :
    Calls Try.prog 23 #[.string ⟨s.toArray⟩] w fun e w' => e = .returned (.pointer (some ⟨w.heap.size, 0, none⟩)) ∧ Rx w' w.heap.size s false ∧ Below w.heap.size w w' := by
  go_enter Try.func23, Try.ntmps23
  go_wp2_with fail
  go_ret
  exact ⟨rfl, Blk.new _ _ _, (Below.refl _ _).alloc (Nat.le_refl _) _⟩

set_option maxHeartbeats 400000 in
theorem xfail_any (b : Nat) (s : List UInt8) (f : Bool) (w : World) (h : Rx w b s f) :
    Calls Try.prog 51 #[.pointer (some ⟨b, 0, none⟩)] w fun e w' => e = .returned (.tuple #[]) ∧ Rx w' b [] true ∧ w.grownBy w' (some b) := by
  have h0 := h.c0
  have h1 := h.c1
  have z0 := h.z0
  have z1 := h.z1
  have H := Lib.hid ((h.set0 []).set1 true)
  clear h
  go_enter Try.func51, Try.ntmps51
  go_wp2_with fail
  go_end0
  exact ⟨rfl, H.out, gr_own (gr_own (gr_refl _ _) 0 _) 1 _⟩

set_option maxHeartbeats 400000 in
theorem xleft_any (b : Nat) (s : List UInt8) (f : Bool) (w : World) (h : Rx w b s f) (_hs : s.length ≤ maxLen) :
    Calls Try.prog 40 #[.pointer (some ⟨b, 0, none⟩)] w fun e w' => e = .returned (.int .i64 s.length) ∧ w = w' := by
  have h0 := h.c0
  clear h
  unfold maxLen at _hs
  go_enter Try.func40, Try.ntmps40
  go_wp2_with fail
  go_ret
  exact ⟨rfl, rfl⟩

theorem bnot_and (f : Bool) (s : List UInt8) : (s.isEmpty && !f) = (!f && s.isEmpty) := by cases f <;> cases s <;> rfl
set_option maxHeartbeats 400000 in
theorem xdone_any (b : Nat) (s : List UInt8) (f : Bool) (w : World) (h : Rx w b s f) :
    Calls Try.prog 41 #[.pointer (some ⟨b, 0, none⟩)] w fun e w' => e = .returned (.bool (!f && s.isEmpty)) ∧ w = w' := by
  have h0 := h.c0
  have h1 := h.c1
  clear h
  cases s with
  | nil =>
    go_enter Try.func41, Try.ntmps41
    go_wp2_with fail
    go_ret
    exact ⟨by simp, rfl⟩
  | cons c s =>
    have he : (List.cons c s).isEmpty = false := rfl
    go_enter Try.func41, Try.ntmps41
    go_wp2_with fail
    go_ret
    exact ⟨by simp, rfl⟩

set_option maxRecDepth 100000 in
set_option maxHeartbeats 400000 in
theorem xnum_any (b : Nat) (s : List UInt8) (f : Bool) (w : World) (h : Rx w b s f) (hs : s.length ≤ 4398046511104) :
    Calls Try.prog 27 #[.pointer (some ⟨b, 0, none⟩)] w fun e w' => e = .returned (.int .i64 (rdNum s f).1) ∧ Rx w' b (rdNum s f).2.1 (rdNum s f).2.2 ∧ w.grownBy w' (some b) := by
  have h0 := h.c0
  have z0 := h.z0
  have HH := Lib.hid h
  clear h
  have L := Lib.hid (fun w => reflength_any s w hs)
  cases hd : dec 9 true s with
  | none =>
    rw [rdNum_none hd, vlen_none hd] at *
    have F := Lib.hid (xfail_any b s f w HH.out)
    clear hd
    go_enter Try.func27, Try.ntmps27
    go_wp2_with fail
    refine (L.out _).mono ?_; rintro e w1 ⟨rfl, rfl⟩
    go_wp2_with fail
    refine F.out.mono ?_; rintro e w1 ⟨rfl, r1, g1⟩
    go_wp2_with fail
    go_ret
    exact ⟨rfl, r1, g1⟩
  | some p =>
    obtain ⟨n, t⟩ := p
    rw [rdNum_some hd, vlen_some hd] at *
    obtain ⟨x, rfl, rfl, hx1, hx9⟩ := dec_take _ _ _ _ _ hd
    have V := Lib.hid (fun w => refvalue_any x w hx1 hx9)
    have HT := Lib.hid (HH.out.set0 t)
    have e1 : (x ++ t).length - t.length = x.length := by simp
    rw [e1] at L
    have E1 := Lib.hid (show (ByteArray.mk (x ++ t).toArray).extract 0 x.length = ⟨x.toArray⟩ by rw [bx_take]; simp)
    have E2 := Lib.hid (show (ByteArray.mk (x ++ t).toArray).extract x.length (x ++ t).length = ⟨t.toArray⟩ by rw [bx_end]; simp)
    have hxl : x.length ≤ (x ++ t).length := by simp
    have hnz : ((x.length : Int) == 0) = false := by simp; intro hh; simp [hh] at hx1
    clear hd e1
    generalize x ++ t = s at *
    go_enter Try.func27, Try.ntmps27
    go_wp2_with fail
    refine (L.out _).mono ?_; rintro e w1 ⟨rfl, rfl⟩
    go_wp2_with fail
    rw [E1.out]
    refine (V.out _).mono ?_; rintro e w1 ⟨rfl, rfl⟩
    go_wp2_with fail
    go_ret
    rw [E2.out]
    exact ⟨rfl, HT.out, gr_own (gr_refl _ _) 0 _⟩

set_option maxRecDepth 100000 in
set_option maxHeartbeats 400000 in
theorem xint_any (b : Nat) (s : List UInt8) (f : Bool) (w : World) (h : Rx w b s f) (hs : s.length ≤ 4398046511104) :
    Calls Try.prog 29 #[.pointer (some ⟨b, 0, none⟩)] w fun e w' => e = .returned (.int .i64 (rdInt s f).1) ∧ Rx w' b (rdInt s f).2.1 (rdInt s f).2.2 ∧ w.grownBy w' (some b) := by
  have hn := (rdNum_bd s f).1
  have C := Lib.hid (xnum_any b s f w h hs)
  have R1 := Lib.hid (rdInt_ok (s := s) (f := f))
  have R2 := Lib.hid (rdInt_no (s := s) (f := f))
  generalize hN : rdNum s f = N at *
  clear hN
  obtain ⟨n, t, g⟩ := N
  simp only at hn
  unfold zigOk at R1 R2
  simp only at R1 R2
  clear h
  by_cases h2 : n % 2 = 1
  · have hm : ((n : Int) % 2 == 1) = true := by simp; omega
    have hz : zig n = -((n : Int) / 2) - 1 := by unfold zig; rw [if_neg (by omega)]; omega
    rw [hz] at R1 R2
    clear hz
    go_enter Try.func29, Try.ntmps29
    go_wp2_with (first | (go_at_call 27; refine C.out.mono ?_; rintro e w1 ⟨rfl, hr1, hg1⟩) | (go_at_call 51; refine (xfail_any b t g _ hr1).mono ?_; rintro e w2 ⟨rfl, hr2, hg2⟩))
    · go_ret
      rw [R1.out (by omega)]
      exact ⟨rfl, hr1, hg1⟩
    · go_ret
      rw [R2.out (by omega)]
      exact ⟨rfl, hr2, gr_trans hg1 hg2⟩
  · have hm : ((n : Int) % 2 == 1) = false := by simp; omega
    have hz : zig n = (n : Int) / 2 := by unfold zig; rw [if_pos (by omega)]; omega
    rw [hz] at R1 R2
    clear hz
    go_enter Try.func29, Try.ntmps29
    go_wp2_with (first | (go_at_call 27; refine C.out.mono ?_; rintro e w1 ⟨rfl, hr1, hg1⟩) | (go_at_call 51; refine (xfail_any b t g _ hr1).mono ?_; rintro e w2 ⟨rfl, hr2, hg2⟩))
    · go_ret
      rw [R2.out (by omega)]
      exact ⟨rfl, hr2, gr_trans hg1 hg2⟩
    · go_ret
      rw [R1.out (by omega)]
      exact ⟨rfl, hr1, hg1⟩

set_option maxRecDepth 100000 in
set_option maxHeartbeats 400000 in
theorem xtake_any (b : Nat) (s : List UInt8) (f : Bool) (n : Int) (w : World) (h : Rx w b s f) (hs : s.length ≤ 4398046511104) :
    Calls Try.prog 39 #[.pointer (some ⟨b, 0, none⟩), .int .i64 n] w fun e w' => e = .returned (.string ⟨(rdTake s f n).1.toArray⟩) ∧ Rx w' b (rdTake s f n).2.1 (rdTake s f n).2.2 ∧ w.grownBy w' (some b) := by
  have h0 := h.c0
  have h1 := h.c1
  have z0 := h.z0
  have H := Lib.hid h
  have F := Lib.hid (xfail_any b s f w h)
  clear h
  by_cases hok : takeOk s f n
  · have R := Lib.hid (rdTake_ok hok)
    obtain ⟨rfl, hn0, hn1⟩ := hok
    obtain ⟨m, rfl⟩ := Int.eq_ofNat_of_zero_le hn0
    have B1 := Lib.hid (bx_take s m)
    have B2 := Lib.hid (bx_end s m)
    have R0 := Lib.hid (H.out.set0 (s.drop m))
    have hm : m ≤ s.length := by omega
    clear hn1 hn0
    go_enter Try.func39, Try.ntmps39
    go_wp2_with fail
    go_ret
    rw [R.out, B1.out, B2.out]
    exact ⟨by simp, by simpa using R0.out, gr_own (gr_refl _ _) 0 _⟩
  · have R := Lib.hid (rdTake_no hok)
    have hok' : n < 0 ∨ ¬ n < 0 ∧ (s.length : Int) < n ∨ ¬ n < 0 ∧ n ≤ (s.length : Int) ∧ f = true := by unfold takeOk at hok; cases f <;> simp at hok ⊢ <;> omega
    clear hok
    rcases hok' with hc | ⟨hn, hc⟩ | ⟨hn, hc, rfl⟩
    · go_enter Try.func39, Try.ntmps39
      go_wp2_with fail
      refine F.out.mono ?_; rintro e w1 ⟨rfl, hr1, hg1⟩
      go_wp2_with fail
      go_ret
      rw [R.out]
      exact ⟨rfl, hr1, hg1⟩
    · go_enter Try.func39, Try.ntmps39
      go_wp2_with fail
      refine F.out.mono ?_; rintro e w1 ⟨rfl, hr1, hg1⟩
      go_wp2_with fail
      go_ret
      rw [R.out]
      exact ⟨rfl, hr1, hg1⟩
    · go_enter Try.func39, Try.ntmps39
      go_wp2_with fail
      refine F.out.mono ?_; rintro e w1 ⟨rfl, hr1, hg1⟩
      go_wp2_with fail
      go_ret
      rw [R.out]
      exact ⟨rfl, hr1, hg1⟩

set_option maxRecDepth 100000 in
set_option maxHeartbeats 400000 in
theorem xtext_any (b : Nat) (s : List UInt8) (f : Bool) (w : World) (h : Rx w b s f) (hs : s.length ≤ 4398046511104) :
    Calls Try.prog 31 #[.pointer (some ⟨b, 0, none⟩)] w fun e w' => e = .returned (.string ⟨(rdText s f).1.toArray⟩) ∧ Rx w' b (rdText s f).2.1 (rdText s f).2.2 ∧ w.grownBy w' (some b) := by
  have hb := (rdNum_bd s f).2
  have C := Lib.hid (xnum_any b s f w h hs)
  unfold rdText
  generalize rdNum s f = N at *
  obtain ⟨n, t, g⟩ := N
  simp only at hb C ⊢
  clear h
  go_enter Try.func31, Try.ntmps31
  go_wp2_with (first | (go_at_call 27; refine C.out.mono ?_; rintro e w1 ⟨rfl, hr1, hg1⟩) | (go_at_call 39; refine (xtake_any b t g _ _ hr1 (by omega)).mono ?_; rintro e w2 ⟨rfl, hr2, hg2⟩))
  go_ret
  exact ⟨rfl, hr2, gr_trans hg1 hg2⟩

/-- What count leaves. -/
def rdCount (s : List UInt8) (f : Bool) : Nat × List UInt8 × Bool := if (rdNum s f).1 ≤ (rdNum s f).2.1.length then rdNum s f else (0, [], true)
set_option maxRecDepth 100000 in
set_option maxHeartbeats 400000 in
theorem xcount_any (b : Nat) (s : List UInt8) (f : Bool) (w : World) (h : Rx w b s f) (hs : s.length ≤ 4398046511104) :
    Calls Try.prog 54 #[.pointer (some ⟨b, 0, none⟩)] w fun e w' => e = .returned (.int .i64 (rdCount s f).1) ∧ Rx w' b (rdCount s f).2.1 (rdCount s f).2.2 ∧ w.grownBy w' (some b) := by
  have hb := (rdNum_bd s f).2
  have C := Lib.hid (xnum_any b s f w h hs)
  unfold rdCount
  generalize rdNum s f = N at *
  obtain ⟨n, t, g⟩ := N
  simp only at hb C ⊢
  clear h
  by_cases hnt : n ≤ t.length
  · have hdec : decide (t.length < n) = false := by simp; omega
    simp only [hnt, if_true]
    clear hnt
    go_enter Try.func54, Try.ntmps54
    go_wp2_with fail
    refine C.out.mono ?_; rintro e w1 ⟨rfl, hr1, hg1⟩
    have c0 := hr1.c0
    go_wp2_with fail
    go_ret
    exact ⟨rfl, hr1, hg1⟩
  · simp only [hnt, if_false]
    go_enter Try.func54, Try.ntmps54
    go_wp2_with fail
    refine C.out.mono ?_; rintro e w1 ⟨rfl, hr1, hg1⟩
    have c0 := hr1.c0
    have FF := Lib.hid (xfail_any b t g _ hr1)
    go_wp2_with fail
    refine FF.out.mono ?_; rintro e w2 ⟨rfl, hr2, hg2⟩
    go_wp2_with fail
    go_ret
    exact ⟨rfl, hr2, gr_trans hg1 hg2⟩
end Go.Proofs.Ytgojkbaodmiiaaa
