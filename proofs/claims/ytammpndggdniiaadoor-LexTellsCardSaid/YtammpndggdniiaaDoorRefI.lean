/- The reference of lex: Scan. -/
import Derived.Test.YtammpndggdniiaaDoorRefH
namespace Go.Proofs.YtammpndggdniiaaDoor
open Go.RowKit

set_option maxRecDepth 100000 in
set_option maxHeartbeats 8000000 in
theorem rscan_big (s : List UInt8) (w : World) (h : 4096 < s.length) :
    Calls Tryd.prog 11 #[.string ⟨s.toArray⟩] w fun e w' => scanVal (scanR s) w.heap.size e w' ∧ Below w.heap.size w w' := by
  have HR := Lib.hid (show scanR s = (none, 7, 0) by unfold scanR; rw [if_pos h])
  have hl : (4096 : Int) < s.length := by omega
  go_enter Tryd.func11, Tryd.ntmps11
  go_wp2_with fail
  go_ret3
  rw [HR.out]
  exact ⟨rfl, Below.refl _ _⟩
set_option maxRecDepth 100000 in
set_option maxHeartbeats 8000000 in
theorem rscan_small (s : List UInt8) (w : World) (h : s.length ≤ 4096) :
    Calls Tryd.prog 11 #[.string ⟨s.toArray⟩] w fun e w' => scanVal (scanR s) w.heap.size e w' ∧ Below w.heap.size w w' := by
  have hl : (s.length : Int) ≤ 4096 := by omega
  go_enter Tryd.func11, Tryd.ntmps11
  go_wp2_with fail
  go_loopw [5, 6] (fun o i wr => ∃ (p f : Nat) (acc : List Tok) (A : Option Addr) (c : Nat), o = .slice A acc.length c ∧ i = .int .i64 p ∧ p ≤ s.length ∧ acc.length ≤ p ∧ Hid (s.length ≤ f + p) ∧ Hid (scanF s f p acc = scanS s) ∧ Hid (OwnK wr w.heap.size 25 4 A c acc.length (toksL acc)) ∧ Hid (Below w.heap.size w wr)) (fun _ i _ => s.length - (intOf i).toNat)
  case atStart => exact ⟨0, s.length, [], none, 0, rfl, rfl, by omega, by simp, Lib.hid (by omega), Lib.hid rfl, Lib.hid (OwnK.nil _ _ _ _), Lib.hid (Below.refl _ _)⟩
  case round =>
    obtain ⟨p, f, acc, A, c, rfl, rfl, hp, hacc, hf, hF, hO, hB⟩ := hrel
    have hbs := hB.out.size
    by_cases hlt : p < s.length
    · have hps : p < (⟨s.toArray⟩ : ByteArray).size := by show p < s.toArray.size; simpa using hlt
      have hp1 : 0 ≤ (p : Int) := by omega
      have hp2 : (p : Int) < s.length := by omega
      have hlp : decide ((p : Int) < s.length) = true := decide_eq_true hp2
      have PB := Lib.hid (rblank_any (⟨s.toArray⟩ : ByteArray)[p])
      obtain ⟨f, rfl⟩ : ∃ f', f = f' + 1 := ⟨f - 1, by have := hf.out; omega⟩
      by_cases h1 : isB (⟨s.toArray⟩ : ByteArray)[p] = true
      · have HF := Lib.hid ((scanF_blank (f := f) (acc := acc) hlt (by have h2 : isB s[p] = true := h1; simpa [isB] using h2)).symm.trans hF.out)
        rw [h1] at PB
        go_wp2_with fail
        refine (PB.out _).mono ?_; rintro e w2 ⟨rfl, rfl⟩
        go_wp2_with fail
        go_roundw
        case rel => exact ⟨p + 1, f, acc, A, c, rfl, by go_num, by omega, by omega, Lib.hid (by have := hf.out; omega), HF, Lib.hid hO.out, Lib.hid hB.out⟩
        case measure => simp [intOf]; omega
      · have h1' : ¬ cls s[p].toNat = 1 := by intro h2; apply h1; show isB s[p] = true; simp [isB, h2]
        rw [Bool.eq_false_iff.2 h1] at PB
        have hz := next_size (t := s.drop p) (p := p) (by intro h0; have := congrArg List.length h0; simp at this; omega)
        have HFo := scanF_ok (f := f) (acc := acc) hlt h1'
        have HFn := scanF_no (f := f) (acc := acc) hlt h1'
        have HN := Lib.hid (rtok_any s p wr hlt h)
        rw [List.length_drop] at hz
        generalize nextS (s.drop p) p = R at HN hz HFo HFn
        obtain ⟨tk, z, ok⟩ := R
        cases ok with
        | false =>
          have HR := Lib.hid ((HFn (by simp)).symm.trans hF.out)
          have hR : scanR s = (none, 2, p) := by unfold scanR; rw [if_neg (by omega), ← HR.out]
          clear HFo HFn hz h1 h1'
          go_wp2_with fail
          refine (PB.out _).mono ?_; rintro e w1 ⟨rfl, rfl⟩
          go_wp2_with fail
          refine HN.out.mono ?_; rintro e w2 ⟨⟨kd, tx, tn, tat⟩, m, rfl, hm, b2⟩
          rw [if_neg (by simp)] at hm
          subst hm
          have hw2 := b2.size
          have HL := (hB.out.trans (b2.mono hB.out.size)).alloc (by omega : w.heap.size ≤ w2.heap.size) (.cells #[.int .i64 kd, .string ⟨tx.toArray⟩, .int .i64 tn, .int .i64 tat] 25)
          simp only [Tok.cells]
          go_wp2_with fail
          go_ret3
          rw [hR]
          exact ⟨rfl, HL⟩
        | true =>
          have HR := Lib.hid ((HFo rfl).symm.trans hF.out)
          have hz2 : 1 ≤ z ∧ z ≤ s.length - p := hz rfl
          clear HFo HFn hz h1 h1'
          go_wp2_with fail
          refine (PB.out _).mono ?_; rintro e w1 ⟨rfl, rfl⟩
          go_wp2_with fail
          refine HN.out.mono ?_; rintro e w2 ⟨tk', m, rfl, hm, b2⟩
          rw [if_pos rfl] at hm
          obtain ⟨h5, h6⟩ := hm
          have h5 : tk' = tk := h5
          have h6 : m = z := h6
          subst h5 h6
          obtain ⟨kd, tx, tn, tat⟩ := tk'
          have hw2 := b2.size
          have HL := Lib.hid ((hB.out.trans (b2.mono hB.out.size)).alloc (by omega : w.heap.size ≤ w2.heap.size) (.cells #[.int .i64 kd, .string ⟨tx.toArray⟩, .int .i64 tn, .int .i64 tat] 25))
          have HK := Lib.hid (World.ownsRow.alloc (World.ownsRow.alloc (hO.out.later b2) (.cells #[.int .i64 kd, .string ⟨tx.toArray⟩, .int .i64 tn, .int .i64 tat] 25)) (.cells #[.int .i64 kd, .string ⟨tx.toArray⟩, .int .i64 tn, .int .i64 tat] 25))
          have HT := Lib.hid (toksL_snoc acc ⟨kd, tx, tn, tat⟩)
          have HU := Lib.hid (toks_hu2 w2 (.cells #[.int .i64 kd, .string ⟨tx.toArray⟩, .int .i64 tn, .int .i64 tat] 25) ⟨kd, tx, tn, tat⟩)
          have HF := Lib.hid hf.out
          have hz0 : ¬ m = 0 := by omega
          have hz3 : (p : Int) + m ≤ s.length := by omega
          clear hf hF hO
          simp only [Tok.cells]
          go_wp2_with (at_builtin; refine wpList_pushK rfl (.tmp 31) (.tmp 33) 22 rfl w.heap.size 25 _ 4 40 Tryd.underlying22 tok_info rfl (by decide) A c acc.length (toksL acc) rfl HK.out (w2.heap.size + 1) (Tok.cells ⟨kd, tx, tn, tat⟩).toList rfl rfl HU.out (toks_h1 _) (by omega) (by simp only [World.size_alloc]; omega) ?_; intro g' c' w3 hown' hbl hgr hat hgb)
          have hlen : (acc ++ [(⟨kd, tx, tn, tat⟩ : Tok)]).length = acc.length + 1 := by simp
          have hO4 : OwnK w3 w.heap.size 25 4 (some ⟨g', 0, none⟩) c' (acc ++ [(⟨kd, tx, tn, tat⟩ : Tok)]).length (toksL (acc ++ [⟨kd, tx, tn, tat⟩])) := by
            rw [hlen, HT.out]; exact hown'
          go_roundw
          case rel => exact ⟨p + m, f, acc ++ [⟨kd, tx, tn, tat⟩], some ⟨g', 0, none⟩, c', by rw [hlen], by go_num, by omega, by rw [hlen]; omega, Lib.hid (by have := HF.out; omega), HR, Lib.hid hO4, Lib.hid ((HL.out.alloc HL.out.size _).trans hbl)⟩
          case measure => simp [intOf]; omega
    · have hlp : ¬ (p : Int) < s.length := by omega
      have hlp' : decide ((p : Int) < s.length) = false := decide_eq_false hlp
      have HU := Lib.hid (toks_hu wr ⟨4, [], 0, s.length⟩)
      have HT := Lib.hid (toksL_snoc acc ⟨4, [], 0, s.length⟩)
      have HF := Lib.hid (scanF_end (s := s) (f := f) (acc := acc) hlt)
      go_wp2_with (at_builtin; refine wpList_pushK rfl _ _ 22 rfl w.heap.size 25 _ 4 40 Tryd.underlying22 tok_info rfl (by decide) A c acc.length (toksL acc) rfl (World.ownsRow.alloc hO.out _) wr.heap.size (Tok.cells ⟨4, [], 0, s.length⟩).toList rfl rfl HU.out (toks_h1 _) (by omega) (by rw [World.size_alloc]; omega) ?_; intro g' c' w3 hown' hbl hgr hat hgb)
      go_ret3
      have hR : scanR s = (some (acc ++ [⟨4, [], 0, s.length⟩]), 0, 0) := by unfold scanR; rw [if_neg (by omega), ← hF.out, HF.out]
      have hlen : (acc ++ [(⟨4, [], 0, s.length⟩ : Tok)]).length = acc.length + 1 := by simp
      rw [hR]
      refine ⟨⟨g', c', ?_, ?_⟩, (hB.out.alloc hB.out.size _).trans hbl⟩
      · rw [hlen]; rfl
      · rw [hlen, HT.out]; exact hown'
theorem rscan_any (s : List UInt8) (w : World) : Calls Tryd.prog 11 #[.string ⟨s.toArray⟩] w fun e w' => scanVal (scanR s) w.heap.size e w' ∧ Below w.heap.size w w' := by
  by_cases h : s.length ≤ 4096
  · exact rscan_small s w h
  · exact rscan_big s w (by omega)
end Go.Proofs.YtammpndggdniiaaDoor
