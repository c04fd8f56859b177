/- The reference of lex: Write, Same. -/
import Derived.Test.YtammpndggdniiaaDoorLexR
import Derived.Test.YtammpndggdniiaaDoorRefB
namespace Go.Proofs.YtammpndggdniiaaDoor
open Go.RowKit

set_option maxRecDepth 100000 in
set_option maxHeartbeats 8000000 in
theorem rsame_any (A B : Option Addr) (c d : Nat) (a : List Tok) (w : World) (hA : Toks w A a) (hB : Toks w B a) (hl : a.length ≤ 140737488355328) :
    Calls Tryd.prog 12 #[.slice A a.length c, .slice B a.length d, .bool true] w fun e w' => e = .returned (.bool true) ∧ Below w.heap.size w w' := by
  have HA := Lib.hid hA
  have HB := Lib.hid hB
  clear hA hB
  go_enter Tryd.func12, Tryd.ntmps12
  go_wp2_with fail
  go_loopw [7] (fun i wr => ∃ (k : Nat), i = .int .i64 k ∧ k ≤ a.length ∧ Hid (Below w.heap.size w wr)) (fun i _ => a.length - (intOf i).toNat)
  case atStart => exact ⟨0, rfl, by omega, Lib.hid (Below.refl _ _)⟩
  case round =>
    obtain ⟨k, rfl, hk, hbl⟩ := hrel
    by_cases hlt : k < a.length
    · have hk1 : 0 ≤ (k : Int) := by omega
      have hk2 : (k : Int) < a.length := by omega
      obtain ⟨b1, o1, x, rfl, hx, hb1, d0, d1, d2, d3⟩ := HA.out.get hlt hbl.out
      obtain ⟨b2, o2, y, rfl, hy, hb2, e0, e1, e2, e3⟩ := HB.out.get hlt hbl.out
      obtain rfl : x = y := hx.out.symm.trans hy.out
      obtain ⟨kd, tx, n, at1⟩ := x
      clear hx hy
      simp only at d0 d1 d2 d3 e0 e1 e2 e3
      go_wp2_with fail
      go_quiet (fail)
      go_wp2_with fail
      go_roundw
      case rel => exact ⟨k + 1, by go_num, by omega, Lib.hid (below_drewN hbl.out _)⟩
      case measure => simp [intOf]; omega
    · go_wp2_with fail
      go_ret
      exact ⟨rfl, hbl.out⟩

theorem join_snoc {xs : List (List UInt8)} (e : List UInt8) (h : xs ≠ []) : Lib.join (xs ++ [e]) [32] = Lib.join xs [32] ++ (32 :: e) := by
  cases xs with
  | nil => exact absurd rfl h
  | cons x r => rw [List.cons_append, Lib.join_cons, Lib.join_cons]; simp [Lib.joinTail]
/-- The text so far, and whether it is the first. -/
def SoFar (xs : List (List UInt8)) (out : List UInt8) (f : Bool) : Prop := out = Lib.join xs [32] ∧ f = xs.isEmpty
theorem SoFar.first {xs : List (List UInt8)} {out : List UInt8} (h : SoFar xs out true) (e : List UInt8) : SoFar (xs ++ [e]) (out ++ e) false := by
  obtain ⟨rfl, h2⟩ := h
  have : xs = [] := by cases xs <;> simp_all
  subst this
  exact ⟨by simp [Lib.join_one, Lib.join_nil], rfl⟩
theorem SoFar.more {xs : List (List UInt8)} {out : List UInt8} (h : SoFar xs out false) (e : List UInt8) : SoFar (xs ++ [e]) (out ++ 32 :: e) false := by
  obtain ⟨rfl, h2⟩ := h
  have : xs ≠ [] := by rintro rfl; cases h2
  exact ⟨(join_snoc e this).symm, by cases xs <;> rfl⟩
theorem cat_first (out e : List UInt8) : ByteArray.mk out.toArray ++ ByteArray.mk e.toArray = ByteArray.mk (out ++ e).toArray := by rw [ByteArray.mk_append_mk]
theorem cat_more (out e : List UInt8) : ByteArray.mk out.toArray ++ ByteArray.mk #[32] ++ ByteArray.mk e.toArray = ByteArray.mk (out ++ 32 :: e).toArray := by
  rw [ByteArray.mk_append_mk, ByteArray.mk_append_mk]; simp

set_option maxRecDepth 100000 in
set_option maxHeartbeats 8000000 in
theorem rwrite_any (A : Option Addr) (c : Nat) (l : List Tok) (w : World) (hT : Toks w A l) (hO : ∀ t ∈ l, TokOk t) (hl : l.length ≤ 5000) :
    Calls Tryd.prog 14 #[.slice A l.length c] w fun e w' => e = .returned (.string ⟨(writeS l).toArray⟩) ∧ Below w.heap.size w w' := by
  have HT := Lib.hid hT
  have HO := Lib.hid hO
  clear hT hO
  go_enter Tryd.func14, Tryd.ntmps14
  go_wp2_with fail
  go_loopw [3, 4, 5] (fun o q i wr => ∃ (k : Nat) (xs : List (List UInt8)) (out : List UInt8) (f : Bool), o = .string ⟨out.toArray⟩ ∧ q = .bool f ∧ i = .int .i64 k ∧ k ≤ l.length ∧ out.length ≤ 61 * k ∧ Hid (writeL (l.take k) = xs) ∧ Hid (SoFar xs out f) ∧ Hid (Below w.heap.size w wr)) (fun _ _ i _ => l.length - (intOf i).toNat)
  case atStart => exact ⟨0, [], [], true, rfl, rfl, rfl, by omega, by simp, Lib.hid rfl, Lib.hid ⟨rfl, rfl⟩, Lib.hid (Below.refl _ _)⟩
  case round =>
    obtain ⟨k, xs, out, f, rfl, rfl, rfl, hk, hol, hX, hS, hB⟩ := hrel
    by_cases hlt : k < l.length
    · obtain ⟨b, o, x, rfl, hx, hb, d0, d1, d2, d3⟩ := HT.out.get hlt hB.out
      have hok := HO.out x (by rw [← hx.out]; exact List.getElem_mem hlt)
      have HX := Lib.hid ((writeL_take hlt).trans (by rw [hX.out, hx.out] : _ = xs ++ writeE x))
      have hk1 : 0 ≤ (k : Int) := by omega
      have hk2 : (k : Int) < l.length := by omega
      clear hx hX
      obtain ⟨kd, tx, n, at_⟩ := x
      simp only at d0 d1 d2 d3
      obtain ⟨ht1, hn1, hn2⟩ := hok
      simp only at ht1 hn1 hn2
      by_cases k0 : kd = 0
      · subst k0
        cases f with
        | true =>
          have HS2 := Lib.hid (hS.out.first tx)
          have HC := Lib.hid (cat_first out tx)
          go_wp2_with fail
          go_roundw
          case rel => exact ⟨k + 1, xs ++ [tx], out ++ tx, false, congrArg Value.string HC.out, rfl, by go_num, by omega, by simp; omega, Lib.hid HX.out, HS2, hB⟩
          case measure => simp [intOf]; omega
        | false =>
          have HS2 := Lib.hid (hS.out.more tx)
          have HC := Lib.hid (cat_more out tx)
          go_wp2_with fail
          go_roundw
          case rel => exact ⟨k + 1, xs ++ [tx], out ++ 32 :: tx, false, congrArg Value.string HC.out, rfl, by go_num, by omega, by simp; omega, Lib.hid HX.out, HS2, hB⟩
          case measure => simp [intOf]; omega
      by_cases k3 : kd = 3
      · subst k3
        cases f with
        | true =>
          have HS2 := Lib.hid (hS.out.first tx)
          have HC := Lib.hid (cat_first out tx)
          go_wp2_with fail
          go_roundw
          case rel => exact ⟨k + 1, xs ++ [tx], out ++ tx, false, congrArg Value.string HC.out, rfl, by go_num, by omega, by simp; omega, Lib.hid HX.out, HS2, hB⟩
          case measure => simp [intOf]; omega
        | false =>
          have HS2 := Lib.hid (hS.out.more tx)
          have HC := Lib.hid (cat_more out tx)
          go_wp2_with fail
          go_roundw
          case rel => exact ⟨k + 1, xs ++ [tx], out ++ 32 :: tx, false, congrArg Value.string HC.out, rfl, by go_num, by omega, by simp; omega, Lib.hid HX.out, HS2, hB⟩
          case measure => simp [intOf]; omega
      by_cases k1 : kd = 1
      · subst k1
        have hil := Lib.itoa_length_le n hn1 hn2
        have PT := Lib.hid (fun w1 => rtext_any n w1 hn1 hn2)
        cases f with
        | true =>
          have HS2 := Lib.hid (hS.out.first (Lib.itoa n))
          have HC := Lib.hid (cat_first out (Lib.itoa n))
          go_wp2_with fail
          refine (PT.out _).mono ?_; rintro e w1 ⟨rfl, rfl⟩
          go_wp2_with fail
          go_roundw
          case rel => exact ⟨k + 1, xs ++ [(Lib.itoa n)], out ++ (Lib.itoa n), false, congrArg Value.string HC.out, rfl, by go_num, by omega, by simp; omega, Lib.hid HX.out, HS2, hB⟩
          case measure => simp [intOf]; omega
        | false =>
          have HS2 := Lib.hid (hS.out.more (Lib.itoa n))
          have HC := Lib.hid (cat_more out (Lib.itoa n))
          go_wp2_with fail
          refine (PT.out _).mono ?_; rintro e w1 ⟨rfl, rfl⟩
          go_wp2_with fail
          go_roundw
          case rel => exact ⟨k + 1, xs ++ [(Lib.itoa n)], out ++ 32 :: (Lib.itoa n), false, congrArg Value.string HC.out, rfl, by go_num, by omega, by simp; omega, Lib.hid HX.out, HS2, hB⟩
          case measure => simp [intOf]; omega
      by_cases k2 : kd = 2
      · subst k2
        cases f with
        | true =>
          have HS2 := Lib.hid (hS.out.first (34 :: (tx ++ [34])))
          have HC := Lib.hid (show _ = ByteArray.mk (out ++ (34 :: (tx ++ [34]))).toArray from (congrArg (fun z => ByteArray.mk out.toArray ++ z) (q_eq tx)).trans (cat_first out (34 :: (tx ++ [34]))))
          go_wp2_with fail
          go_roundw
          case rel => exact ⟨k + 1, xs ++ [(34 :: (tx ++ [34]))], out ++ (34 :: (tx ++ [34])), false, congrArg Value.string HC.out, rfl, by go_num, by omega, by simp; omega, Lib.hid HX.out, HS2, hB⟩
          case measure => simp [intOf]; omega
        | false =>
          have HS2 := Lib.hid (hS.out.more (34 :: (tx ++ [34])))
          have HC := Lib.hid (show _ = ByteArray.mk (out ++ 32 :: (34 :: (tx ++ [34]))).toArray from (congrArg (fun z => (ByteArray.mk out.toArray ++ ByteArray.mk #[32]) ++ z) (q_eq tx)).trans (cat_more out (34 :: (tx ++ [34]))))
          go_wp2_with fail
          go_roundw
          case rel => exact ⟨k + 1, xs ++ [(34 :: (tx ++ [34]))], out ++ 32 :: (34 :: (tx ++ [34])), false, congrArg Value.string HC.out, rfl, by go_num, by omega, by simp; omega, Lib.hid HX.out, HS2, hB⟩
          case measure => simp [intOf]; omega
      by_cases k4 : kd = 4
      · subst k4
        go_wp2_with fail
        go_roundw
        case rel => exact ⟨k + 1, xs, out, f, rfl, rfl, by go_num, by omega, by omega, Lib.hid (HX.out.trans (List.append_nil xs)), hS, hB⟩
        case measure => simp [intOf]; omega
      have HX2 := Lib.hid (HX.out.trans (show _ = xs ++ [[]] by simp [writeE, k0, k1, k2, k3, k4]))
      clear HX
      have HX := HX2
      have q0 : (kd == 0) = false := by rw [beq_eq_false_iff_ne]; exact k0
      have q1 : (kd == 1) = false := by rw [beq_eq_false_iff_ne]; exact k1
      have q2 : (kd == 2) = false := by rw [beq_eq_false_iff_ne]; exact k2
      have q3 : (kd == 3) = false := by rw [beq_eq_false_iff_ne]; exact k3
      have q4 : (kd == 4) = false := by rw [beq_eq_false_iff_ne]; exact k4
      cases f with
      | true =>
        have HS2 := Lib.hid (hS.out.first ([] : List UInt8))
        have HC := Lib.hid (cat_first out ([] : List UInt8))
        go_wp2_with fail
        go_roundw
        case rel => exact ⟨k + 1, xs ++ [([] : List UInt8)], out ++ ([] : List UInt8), false, congrArg Value.string HC.out, rfl, by go_num, by omega, by simp; omega, Lib.hid HX.out, HS2, hB⟩
        case measure => simp [intOf]; omega
      | false =>
        have HS2 := Lib.hid (hS.out.more ([] : List UInt8))
        have HC := Lib.hid (cat_more out ([] : List UInt8))
        go_wp2_with fail
        go_roundw
        case rel => exact ⟨k + 1, xs ++ [([] : List UInt8)], out ++ 32 :: ([] : List UInt8), false, congrArg Value.string HC.out, rfl, by go_num, by omega, by simp; omega, Lib.hid HX.out, HS2, hB⟩
        case measure => simp [intOf]; omega
    · have hke : k = l.length := by omega
      subst hke
      have hXX : writeL l = xs := by have := hX.out; rwa [List.take_length] at this
      have hlk : ¬ (l.length : Int) < l.length := by omega
      have HS := Lib.hid (show out = writeS l by rw [writeS, hXX]; exact hS.out.1)
      go_wp2_with fail
      go_ret
      exact ⟨by rw [← HS.out]; rfl, hB.out⟩
end Go.Proofs.YtammpndggdniiaaDoor
