/- Package lex: Scan. -/
import Derived.Test.YtammpndggdniiaaDoorLexG
namespace Go.Proofs.YtammpndggdniiaaDoor
open Go.RowKit

theorem toks_hu (wr : World) (t : Tok) : ∀ j u, t.cells.toList[j]? = some u → (wr.alloc (.cells t.cells 25)).cell? ⟨wr.heap.size, j, none⟩ = some u :=
  fun j u h => (Blk.cell (Blk.new _ _ _) j).trans (by rw [← Array.getElem?_toList]; exact h)
theorem toks_h1 (t : Tok) : ∀ u ∈ t.cells.toList, u.oneCell' = true := by
  intro u h; simp [Tok.cells] at h; rcases h with rfl | rfl | rfl | rfl <;> rfl
theorem OwnK.mono {w : World} {B B' : Nat} {e : TypeId} {k : Nat} {A : Option Addr} {c n : Nat} {xs : List Value} (h : OwnK w B e k A c n xs) (hB : B' ≤ B) : OwnK w B' e k A c n xs := by
  refine ⟨h.1, ?_⟩
  rcases h.2 with h0 | ⟨g, cap, cur, hv, hb, r⟩
  · exact .inl h0
  · exact .inr ⟨g, cap, cur, hv, by omega, r⟩

theorem toks_hu2 (w : World) (o : Obj) (t : Tok) : ∀ j u, t.cells.toList[j]? = some u → ((w.alloc o).alloc (.cells t.cells 25)).cell? ⟨w.heap.size + 1, j, none⟩ = some u := by
  have := toks_hu (w.alloc o) t
  rwa [World.size_alloc] at this
theorem OwnK.kept {w w' : World} {B : Nat} {e : TypeId} {k : Nat} {A : Option Addr} {c n : Nat} {xs : List Value} (h : OwnK w B e k A c n xs) (hk : ∀ g, B ≤ g → g < w.heap.size → w'.heap[g]? = w.heap[g]?) : OwnK w' B e k A c n xs := by
  refine ⟨h.1, ?_⟩
  rcases h.2 with h0 | ⟨g, cap, cur, hv, hb, hgg, r⟩
  · exact .inl h0
  · exact .inr ⟨g, cap, cur, hv, hb, by rw [hk g hb (Array.getElem?_eq_some_iff.1 hgg).1]; exact hgg, r⟩
theorem OwnK.set_ {w : World} {b : Nat} {e : TypeId} {k : Nat} {A : Option Addr} {c n : Nat} {xs : List Value} (h : OwnK w (b + 1) e k A c n xs) {p : Addr} (hp : p.block = b) (u : Value) : OwnK (w.setCell p u) (b + 1) e k A c n xs :=
  h.kept fun g hb _ => Below.heap_setCell w p u g (by omega)
theorem OwnK.later {w w' : World} {B : Nat} {e : TypeId} {k : Nat} {A : Option Addr} {c n : Nat} {xs : List Value} (h : OwnK w B e k A c n xs) (hb : Below w.heap.size w w') : OwnK w' B e k A c n xs :=
  h.kept fun g _ hg => hb.block g hg

set_option maxRecDepth 100000 in
set_option maxHeartbeats 8000000 in
theorem scan_small (s : List UInt8) (w : World) (h : s.length ≤ 4096) (hL : Ld w) :
    Calls Tryd.prog 10 #[.string ⟨s.toArray⟩] w fun e w' => scanVal (scanR s) w.heap.size e w' ∧ Below w.heap.size w w' := by
  have hl : (s.length : Int) ≤ 4096 := by omega
  go_enter Tryd.func10, Tryd.ntmps10
  go_wp2_with fail
  refine (table_any _).mono ?_; rintro e w1 ⟨rfl, b1⟩
  have HBT := Lib.hid (show Tryd.prog.built 41 [(0, .agg (tabK 5)), (1, .string ⟨s.toArray⟩)] = some (scC s 0) from built_sc _)
  have HI := Lib.hid (show (Tryd.prog.info? 41).map (·.size) = some (scC s 0).size by rw [scC_size]; exact scanner_size)
  have H1 := Lib.hid (scC_one s 0)
  have hbt : ∀ a : Act, a.eval (.tmp 13) = .agg (tabK 5) → a.eval (.tmp 14) = .string ⟨s.toArray⟩ → Tryd.prog.built 41 ((#[(0, .tmp 13), (1, .tmp 14)] : Array (Nat × Operand)).map fun (i, x) => (i, a.eval x)).toList = some (scC s 0) := by
    intro a h1 h2
    simp only [List.map_toArray, List.map_cons, List.map_nil, h1, h2]
    exact HBT.out
  go_wp2_with (first
    | (refine wpList_buildIs rfl 41 #[(0, .tmp 13), (1, .tmp 14)] rfl (scC s 0) (hbt _ rfl rfl) ?_)
    | (refine wpList_store_row rfl 41 (.tmp 5) (.tmp 15) rfl w1.heap.size (scC s 0) rfl rfl 41 _ (heap_alloc_new w1 _) HI.out ?_ H1.out ?_))
  · rw [scC_size]; exact zero41_size
  have HS0 : Sc ((w1.alloc (.cells Tryd.zeroCells41 41)).setRow w1.heap.size (scC s 0)) w1.heap.size s 0 := setRow_heap _ _ _ _ _ _ (heap_alloc_new w1 _)
  have HB0 : Below w.heap.size w ((w1.alloc (.cells Tryd.zeroCells41 41)).setRow w1.heap.size (scC s 0)) := by
    have hb := b1.alloc b1.size (.cells Tryd.zeroCells41 41)
    exact ⟨hb.os, hb.tape, hb.output, by have := hb.size; simp only [World.setRow]; rw [Array.size_modify]; exact this, fun i hi => (setRow_other _ w1.heap.size i _ (by have := b1.size; omega)).trans (hb.block i hi)⟩
  generalize (w1.alloc (.cells Tryd.zeroCells41 41)).setRow w1.heap.size (scC s 0) = wl at HS0 HB0 ⊢
  have HS1 := Lib.hid HS0
  have HB1 := Lib.hid HB0
  have b1s := Lib.hid b1.size
  clear HS0 HB0 HI H1 HBT hbt b1
  go_loopw [6] (fun o wr => ∃ (p f : Nat) (acc : List Tok) (A : Option Addr) (c : Nat), o = .slice A acc.length c ∧ p ≤ s.length ∧ acc.length ≤ p ∧ Hid (s.length ≤ f + p) ∧ Hid (scanF s f p acc = scanS s) ∧ Hid (OwnK wr (w1.heap.size + 1) 25 4 A c acc.length (toksL acc)) ∧ Hid (Sc wr w1.heap.size s p) ∧ Hid (Below w.heap.size w wr)) (fun _ wr => s.length - (intOf ((wr.cell? ⟨w1.heap.size, 257, none⟩).getD undef)).toNat)
  case atStart => exact ⟨0, s.length, [], none, 0, rfl, by omega, by simp, Lib.hid (by omega), Lib.hid rfl, Lib.hid (OwnK.nil _ _ _ _), HS1, HB1⟩
  case round =>
    obtain ⟨p, f, acc, A, c, rfl, hp, hacc, hf, hF, hO, hS, hB⟩ := hrel
    by_cases hlt : p < s.length
    · have hps : p < (⟨s.toArray⟩ : ByteArray).size := by show p < s.toArray.size; simpa using hlt
      have hbn : (⟨s.toArray⟩ : ByteArray)[p].toNat < 256 := (⟨s.toArray⟩ : ByteArray)[p].toNat_lt
      have hbm : (((⟨s.toArray⟩ : ByteArray)[p].toNat : Nat) : Int) < 256 := by omega
      have hp1 : 0 ≤ (p : Int) := by omega
      have hp2 : (p : Int) < s.length := by omega
      have hlp : decide ((p : Int) < s.length) = true := decide_eq_true hp2
      have c1 := hS.out.a
      have c2 := hS.out.cls hbn
      have z1 := Blk.frozen hS.out 257
      have hbw := Blk.lt hS.out
      obtain ⟨f, rfl⟩ : ∃ f', f = f' + 1 := ⟨f - 1, by have := hf.out; omega⟩
      by_cases h1 : cls (⟨s.toArray⟩ : ByteArray)[p].toNat = 1
      · rw [h1] at c2
        have HF := Lib.hid ((scanF_blank (f := f) (acc := acc) hlt h1).symm.trans hF.out)
        have hM : Sc (wr.setCell ⟨w1.heap.size, 257, none⟩ (.int .i64 ((p : Int) + 1))) w1.heap.size s (p + 1) := hS.out.move (p + 1)
        go_wp2_with fail
        go_roundw
        case rel => exact ⟨p + 1, f, acc, A, c, rfl, by omega, by omega, Lib.hid (by have := hf.out; omega), HF, Lib.hid (hO.out.set_ rfl _), Lib.hid hM, Lib.hid (hB.out.setCell (p := ⟨w1.heap.size, 257, none⟩) b1s.out _)⟩
        case measure =>
          rw [hM.a, c1]; simp [intOf]; omega
      · have hL2 : Ld wr := hL.later hB.out
        have hz := next_size (t := s.drop p) (p := p) (by intro h0; have := congrArg List.length h0; simp at this; omega)
        have HFo := scanF_ok (f := f) (acc := acc) hlt h1
        have HFn := scanF_no (f := f) (acc := acc) hlt h1
        have HN := Lib.hid (next_any w1.heap.size s p wr hS.out hlt h hL2)
        rw [List.length_drop] at hz
        generalize nextS (s.drop p) p = R at HN hz HFo HFn
        obtain ⟨⟨kd, tx, tn, tat⟩, z, ok⟩ := R
        have HN := Lib.hid (show Calls Tryd.prog 19 #[.pointer (some ⟨w1.heap.size, 0, none⟩)] wr (fun e w' => e = .returned (.tuple #[.agg #[.int .i64 kd, .string ⟨tx.toArray⟩, .int .i64 tn, .int .i64 tat], .int .i64 z, .bool ok]) ∧ Below wr.heap.size wr w') from HN.out)
        have hg : ((cls (⟨s.toArray⟩ : ByteArray)[p].toNat : Nat) : Int) ≠ 1 := by
          intro h2; exact h1 (by omega)
        have HC := Lib.hid hg
        generalize cls (⟨s.toArray⟩ : ByteArray)[p].toNat = cc at c2 HC
        have hc1 : ((cc : Int) == 1) = false := by rw [beq_eq_false_iff_ne]; exact HC.out
        cases ok with
        | false =>
          have HR := Lib.hid ((HFn (by simp)).symm.trans hF.out)
          clear HFo HFn hz h1
          go_wp2_with fail
          refine HN.out.mono ?_; rintro e w2 ⟨rfl, b2⟩
          have hS2 : Sc w2 w1.heap.size s p := Blk.later hS.out b2
          have d1 := hS2.a
          have hw2 := b2.size
          have hq : w1.heap.size < w2.heap.size := by omega
          have hq2 := b1s.out
          have hR : scanR s = (none, 2, p) := by unfold scanR; rw [if_neg (by omega), ← HR.out]
          have HL := (hB.out.trans (b2.mono hB.out.size)).alloc (by omega : w.heap.size ≤ w2.heap.size) (.cells #[.int .i64 kd, .string ⟨tx.toArray⟩, .int .i64 tn, .int .i64 tat] 25)
          go_wp2_with fail
          go_quiet (fail)
          go_wp2_with fail
          go_ret3
          rw [hR]
          exact ⟨rfl, below_drewN HL _⟩
        | true =>
          have HR := Lib.hid ((HFo rfl).symm.trans hF.out)
          have hz2 : 1 ≤ z ∧ z ≤ s.length - p := hz rfl
          clear HFo HFn hz h1
          go_wp2_with fail
          refine HN.out.mono ?_; rintro e w2 ⟨rfl, b2⟩
          have hS2 : Sc w2 w1.heap.size s p := Blk.later hS.out b2
          have d1 := hS2.a
          have hw2 := b2.size
          have hq : w1.heap.size < w2.heap.size := by omega
          have hq2 := b1s.out
          have HL := Lib.hid ((hB.out.trans (b2.mono hB.out.size)).alloc (by omega : w.heap.size ≤ w2.heap.size) (.cells #[.int .i64 kd, .string ⟨tx.toArray⟩, .int .i64 tn, .int .i64 tat] 25))
          have HK := Lib.hid (World.ownsRow.alloc (World.ownsRow.alloc (hO.out.later b2) (.cells #[.int .i64 kd, .string ⟨tx.toArray⟩, .int .i64 tn, .int .i64 tat] 25)) (.cells #[.int .i64 kd, .string ⟨tx.toArray⟩, .int .i64 tn, .int .i64 tat] 25))
          have HS3 := Lib.hid (Blk.alloc (Blk.alloc hS2 (.cells #[.int .i64 kd, .string ⟨tx.toArray⟩, .int .i64 tn, .int .i64 tat] 25)) (.cells #[.int .i64 kd, .string ⟨tx.toArray⟩, .int .i64 tn, .int .i64 tat] 25))
          have HT := Lib.hid (toksL_snoc acc ⟨kd, tx, tn, tat⟩)
          have HU := Lib.hid (toks_hu2 w2 (.cells #[.int .i64 kd, .string ⟨tx.toArray⟩, .int .i64 tn, .int .i64 tat] 25) ⟨kd, tx, tn, tat⟩)
          have HF := Lib.hid hf.out
          clear hf hF hO
          go_wp2_with (at_builtin; refine wpList_pushK rfl (.tmp 42) (.tmp 44) 22 rfl (w1.heap.size + 1) 25 _ 4 40 Tryd.underlying22 tok_info rfl (by decide) A c acc.length (toksL acc) rfl HK.out (w2.heap.size + 1) (Tok.cells ⟨kd, tx, tn, tat⟩).toList rfl rfl HU.out (toks_h1 _) (by omega) (by simp only [World.size_alloc]; omega) ?_; intro g' c' w3 hown' hbl hgr hat hgb; have hS4 : Sc w3 w1.heap.size s p := Blk.below HS3.out hbl (Nat.lt_succ_self _); have d4 := hS4.a; have z4 := Blk.frozen hS4 257)
          have hM : Sc (w3.setCell ⟨w1.heap.size, 257, none⟩ (.int .i64 ((p : Int) + z))) w1.heap.size s (p + z) := by
            have e := hS4.move (p + z)
            rwa [show (((p + z : Nat)) : Int) = (p : Int) + z by omega] at e
          have hlen : (acc ++ [(⟨kd, tx, tn, tat⟩ : Tok)]).length = acc.length + 1 := by simp
          have hO4 : OwnK (w3.setCell ⟨w1.heap.size, 257, none⟩ (.int .i64 ((p : Int) + z))) (w1.heap.size + 1) 25 4 (some ⟨g', 0, none⟩) c' (acc ++ [(⟨kd, tx, tn, tat⟩ : Tok)]).length (toksL (acc ++ [⟨kd, tx, tn, tat⟩])) := by
            rw [hlen, HT.out]; exact OwnK.set_ hown' rfl _
          go_roundw
          case rel => exact ⟨p + z, f, acc ++ [⟨kd, tx, tn, tat⟩], some ⟨g', 0, none⟩, c', by rw [hlen], by omega, by rw [hlen]; omega, Lib.hid (by have := HF.out; omega), HR, Lib.hid hO4, Lib.hid hM, Lib.hid (((HL.out.alloc HL.out.size _).trans (hbl.mono (by omega))).setCell (p := ⟨w1.heap.size, 257, none⟩) hq2 _)⟩
          case measure =>
            rw [hM.a, c1]; simp [intOf]; omega
    · have c0 := hS.out.a
      have hlp : ¬ (p : Int) < s.length := by omega
      have hlp' : decide ((p : Int) < s.length) = false := decide_eq_false hlp
      have HU := Lib.hid (toks_hu wr ⟨4, [], 0, s.length⟩)
      have hw1 := Blk.lt hS.out
      have hw0 := b1s.out
      have HT := Lib.hid (toksL_snoc acc ⟨4, [], 0, s.length⟩)
      have HF := Lib.hid (scanF_end (s := s) (f := f) (acc := acc) hlt)
      go_wp2_with (at_builtin; refine wpList_pushK rfl _ _ 22 rfl (w1.heap.size + 1) 25 _ 4 40 Tryd.underlying22 tok_info rfl (by decide) A c acc.length (toksL acc) rfl (World.ownsRow.alloc hO.out _) wr.heap.size (Tok.cells ⟨4, [], 0, s.length⟩).toList rfl rfl HU.out (toks_h1 _) (by omega) (by rw [World.size_alloc]; omega) ?_; intro g' c' w3 hown' hbl hgr hat hgb)
      go_ret3
      have hR : scanR s = (some (acc ++ [⟨4, [], 0, s.length⟩]), 0, 0) := by unfold scanR; rw [if_neg (by omega), ← hF.out, HF.out]
      have hlen : (acc ++ [(⟨4, [], 0, s.length⟩ : Tok)]).length = acc.length + 1 := by simp
      rw [hR]
      refine ⟨⟨g', c', ?_, ?_⟩, (hB.out.alloc hB.out.size _).trans (hbl.mono (by omega))⟩
      · rw [hlen]; rfl
      · rw [hlen, HT.out]; exact OwnK.mono hown' (by omega)
theorem scan_any (s : List UInt8) (w : World) (hL : Ld w) :
    Calls Tryd.prog 10 #[.string ⟨s.toArray⟩] w fun e w' => scanVal (scanR s) w.heap.size e w' ∧ Below w.heap.size w w' := by
  by_cases h : s.length ≤ 4096
  · exact scan_small s w h hL
  · exact scan_big s w (by omega)
end Go.Proofs.YtammpndggdniiaaDoor
