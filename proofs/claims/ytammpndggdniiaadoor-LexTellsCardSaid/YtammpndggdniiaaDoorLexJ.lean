/- Package lex: Write. -/
import Derived.Test.YtammpndggdniiaaDoorLexI
import Derived.Lib.ItoaLen
namespace Go.Proofs.YtammpndggdniiaaDoor
open Go.RowKit

theorem cell_new2 (w : World) (o : Obj) (x : Value) (t : TypeId) : ((w.alloc o).alloc (.cells #[x] t)).cell? ⟨w.heap.size + 1, 0, none⟩ = some x := by
  have := cell_new (w.alloc o) x t
  rwa [World.size_alloc] at this
theorem q_eq (t : List UInt8) : ((⟨#[34]⟩ : ByteArray) ++ (⟨t.toArray⟩ : ByteArray) ++ (⟨#[34]⟩ : ByteArray)) = ⟨(34 :: (t ++ [34])).toArray⟩ := by
  apply ByteArray.ext; simp
theorem lens_le {m : Nat} : ∀ (xs : List (List UInt8)), (∀ x ∈ xs, x.length ≤ m) → Lib.lens xs ≤ m * xs.length
  | [], _ => by simp [Lib.lens]
  | x :: xs, h => by
    have ih := lens_le xs (fun y hy => h y (List.mem_cons_of_mem _ hy))
    have hx := h x (List.mem_cons_self ..)
    rw [show Lib.lens (x :: xs) = x.length + Lib.lens xs by simp [Lib.lens], List.length_cons, Nat.mul_succ]; omega
theorem join_le {m : Nat} (xs : List (List UInt8)) (h : ∀ x ∈ xs, x.length ≤ m) : (Lib.join xs [32]).length ≤ (m + 1) * xs.length := by
  cases xs with
  | nil => simp [Lib.join]
  | cons x r =>
    rw [Lib.join_length]
    have := lens_le _ h
    simp only [List.length_cons, List.length_nil] at this ⊢
    have e := Nat.succ_mul m (r.length + 1)
    rw [Nat.succ_eq_add_one] at e
    rw [e]; omega
theorem writeE_len {t : Tok} (h : TokOk t) : ∀ x ∈ writeE t, x.length ≤ 60 := by
  intro x hx
  have h1 := h.1
  have h2 := Lib.itoa_length_le t.n h.2.1 h.2.2
  unfold writeE at hx
  repeat' split at hx
  all_goals simp at hx
  all_goals subst hx
  all_goals first | (simp; omega) | omega | (simp)
theorem writeL_len {l : List Tok} (h : ∀ t ∈ l, TokOk t) : ∀ x ∈ writeL l, x.length ≤ 60 := by
  intro x hx
  obtain ⟨t, ht, hx⟩ := List.mem_flatMap.1 hx
  exact writeE_len (h t ht) x hx
theorem writeE_one (t : Tok) : (writeE t).length ≤ 1 := by
  unfold writeE
  repeat' split
  all_goals simp
theorem writeL_size (l : List Tok) : (writeL l).length ≤ l.length := by
  induction l with
  | nil => simp [writeL]
  | cons t l ih =>
    have := writeE_one t
    simp only [writeL, List.flatMap_cons, List.length_append, List.length_cons] at ih ⊢
    omega

set_option maxRecDepth 100000 in
set_option maxHeartbeats 8000000 in
theorem write_any (A : Option Addr) (c : Nat) (l : List Tok) (w : World) (hT : Toks w A l) (hO : ∀ t ∈ l, TokOk t) (hl : l.length ≤ 5000) (hL : Ld w) :
    Calls Tryd.prog 13 #[.slice A l.length c] w fun e w' => e = .returned (.string ⟨(writeS l).toArray⟩) ∧ Below w.heap.size w w' := by
  have HT := Lib.hid hT
  have HO := Lib.hid hO
  have HL := Lib.hid hL
  clear hT hO hL
  go_enter Tryd.func13, Tryd.ntmps13
  go_wp2_with fail
  go_loopw [3, 8] (fun o i wr => ∃ (k : Nat) (xs : List (List UInt8)) (D : Option Addr) (cc : Nat), o = .slice D (strs xs).length cc ∧ i = .int .i64 k ∧ k ≤ l.length ∧ xs.length ≤ k ∧ Hid (writeL (l.take k) = xs) ∧ Hid (OwnS wr w.heap.size 9 D cc (strs xs)) ∧ Hid (Below w.heap.size w wr)) (fun _ i _ => l.length - (intOf i).toNat)
  case atStart => exact ⟨0, [], none, 0, rfl, rfl, by omega, by simp, Lib.hid rfl, Lib.hid ⟨by simp [strs], .inl ⟨rfl, rfl⟩⟩, Lib.hid (Below.refl _ _)⟩
  case round =>
    obtain ⟨k, xs, D, cc, rfl, rfl, hk, hxs, hX, hown, hB⟩ := hrel
    have hbs := hB.out.size
    have hsl := Lib.hid (strs_length xs)
    by_cases hlt : k < l.length
    · obtain ⟨b, o, x, rfl, hx, hb, d0, d1, d2, d3⟩ := HT.out.get hlt hB.out
      have hok := HO.out x (by rw [← hx.out]; exact List.getElem_mem hlt)
      have HX := Lib.hid ((writeL_take hlt).trans (by rw [hX.out, hx.out] : _ = xs ++ writeE x))
      have hk1 : 0 ≤ (k : Int) := by omega
      have hk2 : (k : Int) < l.length := by omega
      clear hx hX
      obtain ⟨kd, tx, n, at_⟩ := x
      simp only at d0 d1 d2 d3
      obtain ⟨ht1, hn1, hn2⟩ := hok
      simp only at ht1 hn1 hn2
      by_cases k0 : kd = 0
      · subst k0
        go_wp2_with (at_builtin; refine wpList_push rfl _ _ 47 rfl w.heap.size 9 (.string ⟨#[]⟩) 16 Tryd.underlying47 Tryd.info_str rfl D cc (strs xs) rfl ((hown.out.alloc (.cells #[.int .i64 0, .string ⟨tx.toArray⟩, .int .i64 n, .int .i64 at_] 25)).alloc (.cells #[.string ⟨tx.toArray⟩] 9)) (wr.heap.size + 1) (.string ⟨tx.toArray⟩) rfl (cell_new2 wr _ _ _) rfl (by have := hsl.out; omega) (by first | omega | (simp only [World.size_alloc]; omega)) ?_; intro g' c' w3 hown' hbl hgr hat hgb)
        go_roundw
        case rel => exact ⟨k + 1, xs ++ [tx], some ⟨g', 0, none⟩, c', by simp [strs], by go_num, by omega, by simp; omega, Lib.hid HX.out, Lib.hid (by rw [strs_snoc]; exact hown'), Lib.hid ((((hB.out.alloc hbs (.cells #[.int .i64 0, .string ⟨tx.toArray⟩, .int .i64 n, .int .i64 at_] 25)).alloc (by simp only [World.size_alloc]; omega) (.cells #[.string ⟨tx.toArray⟩] 9)).trans hbl))⟩
        case measure => simp [intOf]; omega
      by_cases k3 : kd = 3
      · subst k3
        go_wp2_with (at_builtin; refine wpList_push rfl _ _ 47 rfl w.heap.size 9 (.string ⟨#[]⟩) 16 Tryd.underlying47 Tryd.info_str rfl D cc (strs xs) rfl ((hown.out.alloc (.cells #[.int .i64 3, .string ⟨tx.toArray⟩, .int .i64 n, .int .i64 at_] 25)).alloc (.cells #[.string ⟨tx.toArray⟩] 9)) (wr.heap.size + 1) (.string ⟨tx.toArray⟩) rfl (cell_new2 wr _ _ _) rfl (by have := hsl.out; omega) (by first | omega | (simp only [World.size_alloc]; omega)) ?_; intro g' c' w3 hown' hbl hgr hat hgb)
        go_roundw
        case rel => exact ⟨k + 1, xs ++ [tx], some ⟨g', 0, none⟩, c', by simp [strs], by go_num, by omega, by simp; omega, Lib.hid HX.out, Lib.hid (by rw [strs_snoc]; exact hown'), Lib.hid ((((hB.out.alloc hbs (.cells #[.int .i64 3, .string ⟨tx.toArray⟩, .int .i64 n, .int .i64 at_] 25)).alloc (by simp only [World.size_alloc]; omega) (.cells #[.string ⟨tx.toArray⟩] 9)).trans hbl))⟩
        case measure => simp [intOf]; omega
      by_cases k1 : kd = 1
      · subst k1
        have hb1 := hB.out.alloc hbs (.cells #[.int .i64 1, .string ⟨tx.toArray⟩, .int .i64 n, .int .i64 at_] 25)
        have HN := Lib.hid (ntext_any n (wr.alloc (.cells #[.int .i64 1, .string ⟨tx.toArray⟩, .int .i64 n, .int .i64 at_] 25)) (HL.out.later hb1) hn1 hn2)
        have HO1 := Lib.hid (hown.out.alloc (.cells #[.int .i64 1, .string ⟨tx.toArray⟩, .int .i64 n, .int .i64 at_] 25))
        have hb2 := Lib.hid hb1
        clear hb1
        go_wp2_with fail
        refine HN.out.mono ?_; rintro e w2 ⟨rfl, b2⟩
        have hz2 : w.heap.size ≤ w2.heap.size := Nat.le_trans hb2.out.size b2.size
        have HO2 := Lib.hid (HO1.out.later b2)
        go_wp2_with (at_builtin; refine wpList_push rfl _ _ 47 rfl w.heap.size 9 (.string ⟨#[]⟩) 16 Tryd.underlying47 Tryd.info_str rfl D cc (strs xs) rfl (HO2.out.alloc (.cells #[.string ⟨(Lib.itoa n).toArray⟩] 9)) (w2.heap.size) (.string ⟨(Lib.itoa n).toArray⟩) rfl (cell_new w2 _ _) rfl (by have := hsl.out; omega) (by first | omega | (simp only [World.size_alloc]; omega)) ?_; intro g' c' w3 hown' hbl hgr hat hgb)
        go_roundw
        case rel => exact ⟨k + 1, xs ++ [Lib.itoa n], some ⟨g', 0, none⟩, c', by simp [strs], by go_num, by omega, by simp; omega, Lib.hid HX.out, Lib.hid (by rw [strs_snoc]; exact hown'), Lib.hid (((hb2.out.trans (b2.mono (hb2.out.size))).alloc hz2 (.cells #[.string ⟨(Lib.itoa n).toArray⟩] 9)).trans hbl)⟩
        case measure => simp [intOf]; omega
      by_cases k2 : kd = 2
      · subst k2
        go_wp2_with (at_builtin; refine wpList_push rfl _ _ 47 rfl w.heap.size 9 (.string ⟨#[]⟩) 16 Tryd.underlying47 Tryd.info_str rfl D cc (strs xs) rfl ((hown.out.alloc (.cells #[.int .i64 2, .string ⟨tx.toArray⟩, .int .i64 n, .int .i64 at_] 25)).alloc (.cells #[.string (⟨#[34]⟩ ++ ⟨tx.toArray⟩ ++ ⟨#[34]⟩ : ByteArray)] 9)) (wr.heap.size + 1) (.string (⟨#[34]⟩ ++ ⟨tx.toArray⟩ ++ ⟨#[34]⟩ : ByteArray)) rfl (cell_new2 wr _ _ _) rfl (by have := hsl.out; omega) (by first | omega | (simp only [World.size_alloc]; omega)) ?_; intro g' c' w3 hown' hbl hgr hat hgb; rw [q_eq] at hown')
        go_roundw
        case rel => exact ⟨k + 1, xs ++ [(34 :: (tx ++ [34]))], some ⟨g', 0, none⟩, c', by simp [strs], by go_num, by omega, by simp; omega, Lib.hid HX.out, Lib.hid (by rw [strs_snoc]; exact hown'), Lib.hid ((((hB.out.alloc hbs (.cells #[.int .i64 2, .string ⟨tx.toArray⟩, .int .i64 n, .int .i64 at_] 25)).alloc (by simp only [World.size_alloc]; omega) (.cells #[.string (⟨#[34]⟩ ++ ⟨tx.toArray⟩ ++ ⟨#[34]⟩ : ByteArray)] 9)).trans hbl))⟩
        case measure => simp [intOf]; omega
      by_cases k4 : kd = 4
      · subst k4
        have HO1 := Lib.hid (hown.out.alloc (.cells #[.int .i64 4, .string ⟨tx.toArray⟩, .int .i64 n, .int .i64 at_] 25))
        go_wp2_with fail
        go_roundw
        case rel => exact ⟨k + 1, xs, D, cc, rfl, by go_num, by omega, by omega, Lib.hid (HX.out.trans (List.append_nil xs)), HO1, Lib.hid (hB.out.alloc hbs _)⟩
        case measure => simp [intOf]; omega
      have HX2 := Lib.hid (HX.out.trans (show _ = xs ++ [[]] by simp [writeE, k0, k1, k2, k3, k4]))
      clear HX
      have HX := HX2
      have q0 : (kd == 0) = false := by rw [beq_eq_false_iff_ne]; exact k0
      have q1 : (kd == 1) = false := by rw [beq_eq_false_iff_ne]; exact k1
      have q2 : (kd == 2) = false := by rw [beq_eq_false_iff_ne]; exact k2
      have q3 : (kd == 3) = false := by rw [beq_eq_false_iff_ne]; exact k3
      have q4 : (kd == 4) = false := by rw [beq_eq_false_iff_ne]; exact k4
      go_wp2_with (at_builtin; refine wpList_push rfl _ _ 47 rfl w.heap.size 9 (.string ⟨#[]⟩) 16 Tryd.underlying47 Tryd.info_str rfl D cc (strs xs) rfl ((hown.out.alloc (.cells #[.int .i64 kd, .string ⟨tx.toArray⟩, .int .i64 n, .int .i64 at_] 25)).alloc (.cells #[.string ⟨([] : List UInt8).toArray⟩] 9)) (wr.heap.size + 1) (.string ⟨([] : List UInt8).toArray⟩) rfl (cell_new2 wr _ _ _) rfl (by have := hsl.out; omega) (by first | omega | (simp only [World.size_alloc]; omega)) ?_; intro g' c' w3 hown' hbl hgr hat hgb)
      go_roundw
      case rel => exact ⟨k + 1, xs ++ [([] : List UInt8)], some ⟨g', 0, none⟩, c', by simp [strs], by go_num, by omega, by simp; omega, Lib.hid HX.out, Lib.hid (by rw [strs_snoc]; exact hown'), Lib.hid ((((hB.out.alloc hbs (.cells #[.int .i64 kd, .string ⟨tx.toArray⟩, .int .i64 n, .int .i64 at_] 25)).alloc (by simp only [World.size_alloc]; omega) (.cells #[.string ⟨([] : List UInt8).toArray⟩] 9)).trans hbl))⟩
      case measure => simp [intOf]; omega
    · have hke : k = l.length := by omega
      subst hke
      have hXX : writeL l = xs := by have := hX.out; rwa [List.take_length] at this
      have hlk : ¬ (l.length : Int) < l.length := by omega
      have hW := writeL_len HO.out
      rw [hXX] at hW
      have hJ := join_le xs hW
      have HS := Lib.hid (show Lib.join xs [32] = writeS l by rw [writeS, hXX])
      rcases Nat.eq_zero_or_pos xs.length with h0 | h0
      · obtain rfl := List.eq_nil_of_length_eq_zero h0
        go_wp2_with fail
        refine (Tryd.strings_Join_none _ _ _ _).mono ?_; rintro e w2 ⟨rfl, rfl⟩
        go_wp2_with fail
        go_ret
        exact ⟨by rw [← HS.out]; rfl, hB.out⟩
      · obtain ⟨g, rfl, hg1, hg2, hg3⟩ := hown.out.form (by have := hsl.out; omega)
        have hg4 : xs.length ≤ cc := by have := hsl.out; omega
        have hmm : (xs.map (fun x : List UInt8 => (⟨x.toArray⟩ : ByteArray))).map (·.data.toList) = xs := by
          rw [List.map_map]; exact (List.map_congr_left (by intro x _; simp)).trans (List.map_id _)
        have HJ := Lib.hid (Tryd.strings_Join g 0 cc (xs.map (fun x => (⟨x.toArray⟩ : ByteArray))) ⟨#[32]⟩ wr (fun j x hx => by
          rw [List.getElem?_map] at hx
          obtain ⟨y, hy, rfl⟩ := Option.map_eq_some_iff.1 hx
          obtain ⟨hj, rfl⟩ := List.getElem?_eq_some_iff.1 hy
          have := hown.out.cell rfl (j := j) (by have := hsl.out; omega)
          rw [Nat.zero_add, this]; simp [strs]) hg2 (by simp; omega) (by simp; omega) (by rw [hmm]; show (Lib.join xs [32]).length ≤ _; omega))
        rw [hmm, List.length_map] at HJ
        rw [show (⟨#[32]⟩ : ByteArray).data.toList = [32] from rfl, HS.out, ← hsl.out] at HJ
        go_wp2_with fail
        refine HJ.out.mono ?_; rintro e w2 ⟨rfl, b2⟩
        go_wp2_with fail
        go_ret
        exact ⟨rfl, hB.out.trans (b2.mono hbs)⟩
end Go.Proofs.YtammpndggdniiaaDoor
