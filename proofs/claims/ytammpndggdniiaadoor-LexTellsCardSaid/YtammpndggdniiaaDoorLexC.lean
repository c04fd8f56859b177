/- Package lex: the scanner's op. -/
import Derived.Test.YtammpndggdniiaaDoorLexB
import Derived.Test.YtammpndggdniiaaDoorShelf
namespace Go.Proofs.YtammpndggdniiaaDoor
open Go.RowKit

def sig4 (b : UInt8) : Bool := b.toNat == 61 || b.toNat == 33 || b.toNat == 60 || b.toNat == 62
def opS (t : List UInt8) : List UInt8 × Bool :=
  if t[1]? = some 61 ∧ sig4 (t.headD 0) = true then (t.take 2, true) else (t.take 1, (t.headD 0).toNat != 33)
set_option maxRecDepth 100000 in
theorem idx_in (b : UInt8) : ∃ z : Int, (sig4 b = true → 0 ≤ z) ∧ (sig4 b = false → z < 0) ∧ ∀ w : World, Calls Tryd.prog 41 #[.string ⟨#[61, 33, 60, 62]⟩, .int .u8 b.toNat] w fun e w' => e = .returned (.int .i64 z) ∧ w' = w := by
  refine ⟨Lib.indexByte [61, 33, 60, 62] b, ?_, ?_, fun w => ?_⟩
  · have key : ∀ n : Fin 256, sig4 (UInt8.ofNat n) = true → 0 ≤ Lib.indexByte [61, 33, 60, 62] (UInt8.ofNat n) := by decide +kernel
    have := key ⟨b.toNat, b.toNat_lt⟩
    simpa using this
  · have key : ∀ n : Fin 256, sig4 (UInt8.ofNat n) = false → Lib.indexByte [61, 33, 60, 62] (UInt8.ofNat n) < 0 := by decide +kernel
    have := key ⟨b.toNat, b.toNat_lt⟩
    simpa using this
  · have h := Tryd.strings_IndexByte ⟨#[61, 33, 60, 62]⟩ b.toNat w
    simpa using h

set_option maxRecDepth 100000 in
set_option maxHeartbeats 8000000 in
theorem op_any (b : Nat) (s : List UInt8) (p : Nat) (w : World) (h : Sc w b s p) (hp : p < s.length) (hs : s.length ≤ 4096) :
    Calls Tryd.prog 28 #[.pointer (some ⟨b, 0, none⟩)] w fun e w' => e = .returned (.tuple #[.string ⟨(opS (s.drop p)).1.toArray⟩, .bool (opS (s.drop p)).2]) ∧ Below w.heap.size w w' := by
  have c0 := h.s
  have c1 := h.a
  have hps : p < (⟨s.toArray⟩ : ByteArray).size := by show p < s.toArray.size; simpa using hp
  have hp1 : 0 ≤ (p : Int) := by omega
  have hp2 : (p : Int) < s.length := by omega
  have hd : (s.drop p).headD 0 = (⟨s.toArray⟩ : ByteArray)[p] := by
    rw [List.headD_eq_head?_getD, List.head?_drop, List.getElem?_eq_getElem hp]; rfl
  obtain ⟨q, hq⟩ : ∃ q : Nat, p + 1 = q := ⟨_, rfl⟩
  have hw : IntKind.i64.wrap ((p : Int) + 1) = (q : Int) := by rw [IntKind.wrap_i64]; omega
  have h3 : (s.drop p)[1]? = s[q]? := by rw [List.getElem?_drop, hq]
  have hq0 : 0 ≤ (q : Int) := by omega
  have hpq : (p : Int) ≤ q := by omega
  have hql3 : q ≤ s.length := by omega
  have hpq4 : p ≤ q := by omega
  have hne : ((((⟨s.toArray⟩ : ByteArray)[p].toNat : Nat) : Int) != 33) = ((⟨s.toArray⟩ : ByteArray)[p].toNat != 33) := by
    rw [Bool.eq_iff_iff]; simp only [bne_iff_ne, ne_eq]; omega
  have HS := Lib.hid h
  clear h
  by_cases hlt : q < s.length
  · have hqs : q < (⟨s.toArray⟩ : ByteArray).size := by show q < s.toArray.size; simpa using hlt
    have hq1 : (q : Int) < s.length := by omega
    have h4 : s[q]? = some (⟨s.toArray⟩ : ByteArray)[q] := List.getElem?_eq_getElem hlt
    by_cases h61 : (⟨s.toArray⟩ : ByteArray)[q].toNat = 61
    · have g61 : ((((⟨s.toArray⟩ : ByteArray)[q].toNat : Nat) : Int) == 61) = true := by rw [beq_iff_eq]; omega
      have h5 : (s.drop p)[1]? = some 61 := by rw [h3, h4]; congr 1; apply UInt8.toNat_inj.1; rw [h61]; rfl
      obtain ⟨z, hz1, hz2, hc⟩ := idx_in (⟨s.toArray⟩ : ByteArray)[p]
      have HC := Lib.hid hc
      clear hc
      by_cases hg : sig4 (⟨s.toArray⟩ : ByteArray)[p] = true
      · have HT := Lib.hid (show opS (s.drop p) = ((s.drop p).take 2, true) by unfold opS; rw [if_pos ⟨h5, by rw [hd]; exact hg⟩])
        have hz := hz1 hg
        obtain ⟨r, hr⟩ : ∃ r : Nat, p + 2 = r := ⟨_, rfl⟩
        have hw2 : IntKind.i64.wrap ((p : Int) + 2) = (r : Int) := by rw [IntKind.wrap_i64]; omega
        have hr1 : (r : Int) ≤ s.length := by omega
        have hr2 : (p : Int) ≤ r := by omega
        have hr3 : r ≤ s.length := by omega
        have hr4 : p ≤ r := by omega
        have hzd : decide (0 ≤ z) = true := decide_eq_true hz
        have HQ := Lib.hid hq
        clear hd h3 h4 h5 hz1 hz2 hg
        go_enter Tryd.func28, Tryd.ntmps28
        go_wp2_with fail
        go_quiet ((go_at_call 41; exact Calls.quiet_of_same (HC.out _)))
        go_wp2_with fail
        go_quiet (fail)
        go_wp2_with fail
        go_ret2
        rw [HT.out]
        refine ⟨?_, below_drewN (below_drewN (Below.refl _ _) _) _⟩
        show Ending.returned (.tuple #[.string ((⟨s.toArray⟩ : ByteArray).extract p r), .bool true]) = _
        rw [bx, show r - p = 2 by omega]
      · have HT := Lib.hid (show opS (s.drop p) = ((s.drop p).take 1, (⟨s.toArray⟩ : ByteArray)[p].toNat != 33) by unfold opS; rw [if_neg (fun h => hg (by rw [← hd]; exact h.2)), hd])
        have hz := hz2 (by simpa using hg)
        have hzd : decide (0 ≤ z) = false := decide_eq_false (by omega)
        have HQ := Lib.hid hq
        clear hd h3 h4 h5 hz1 hz2 hg
        go_enter Tryd.func28, Tryd.ntmps28
        go_wp2_with fail
        go_quiet ((go_at_call 41; exact Calls.quiet_of_same (HC.out _)))
        go_wp2_with fail
        go_quiet (fail)
        go_wp2_with fail
        go_ret2
        rw [HT.out]
        refine ⟨?_, below_drewN (below_drewN (Below.refl _ _) _) _⟩
        show Ending.returned (.tuple #[.string ((⟨s.toArray⟩ : ByteArray).extract p q), .bool ((⟨s.toArray⟩ : ByteArray)[p].toNat != 33)]) = _
        rw [bx, show q - p = 1 by have := HQ.out; omega]
    · have g61 : ((((⟨s.toArray⟩ : ByteArray)[q].toNat : Nat) : Int) == 61) = false := by rw [beq_eq_false_iff_ne]; omega
      have h5 : ¬ (s.drop p)[1]? = some 61 := by rw [h3, h4]; intro h; injection h with h; exact h61 (by rw [h]; rfl)
      have HT := Lib.hid (show opS (s.drop p) = ((s.drop p).take 1, (⟨s.toArray⟩ : ByteArray)[p].toNat != 33) by unfold opS; rw [if_neg (fun h => h5 h.1), hd])
      have HQ := Lib.hid hq
      clear hd h3 h4 h5
      go_enter Tryd.func28, Tryd.ntmps28
      go_wp2_with fail
      go_quiet (fail)
      go_wp2_with fail
      go_quiet (fail)
      go_wp2_with fail
      go_ret2
      rw [HT.out]
      refine ⟨?_, below_drewN (below_drewN (Below.refl _ _) _) _⟩
      show Ending.returned (.tuple #[.string ((⟨s.toArray⟩ : ByteArray).extract p q), .bool ((⟨s.toArray⟩ : ByteArray)[p].toNat != 33)]) = _
      rw [bx, show q - p = 1 by have := HQ.out; omega]
  · have hql : decide ((q : Int) < s.length) = false := decide_eq_false (by omega)
    have h5 : ¬ (s.drop p)[1]? = some 61 := by rw [h3, List.getElem?_eq_none (by omega)]; intro h; cases h
    have HT := Lib.hid (show opS (s.drop p) = ((s.drop p).take 1, (⟨s.toArray⟩ : ByteArray)[p].toNat != 33) by unfold opS; rw [if_neg (fun h => h5 h.1), hd])
    have HQ := Lib.hid hq
    have hqm : (q : Int) ≤ s.length := by omega
    clear hd h3 h5
    go_enter Tryd.func28, Tryd.ntmps28
    go_wp2_with fail
    go_quiet (fail)
    go_wp2_with fail
    go_quiet (fail)
    go_wp2_with fail
    go_ret2
    rw [HT.out]
    refine ⟨?_, below_drewN (below_drewN (Below.refl _ _) _) _⟩
    show Ending.returned (.tuple #[.string ((⟨s.toArray⟩ : ByteArray).extract p q), .bool ((⟨s.toArray⟩ : ByteArray)[p].toNat != 33)]) = _
    rw [bx, show q - p = 1 by have := HQ.out; omega]
end Go.Proofs.YtammpndggdniiaaDoor
