/- The reference's numerals: Text, Parse. -/
import Derived.Test.YtammpndggdniiaaDoorRefA
namespace Go.Proofs.YtammpndggdniiaaDoor
open Go.RowKit

set_option maxRecDepth 100000 in
set_option maxHeartbeats 400000 in
theorem digits_small (u : Nat) (w : World) (h : u < 10) :
    Calls Tryd.prog 38 #[.int .i64 (-(u : Int))] w fun e w' => e = .returned (.string ⟨(Lib.decDigits u).toArray⟩) ∧ w = w' := by
  have HV := Lib.hid (show Lib.decDigits u = [UInt8.ofNat (48 + u)] by rw [Lib.decDigits, dif_pos h])
  have E1 := Lib.hid (byte_piece u h)
  match u, h with
  | 0, _ | 1, _ | 2, _ | 3, _ | 4, _ | 5, _ | 6, _ | 7, _ | 8, _ | 9, _ =>
    go_enter Tryd.func38, Tryd.ntmps38
    go_wp2_with fail
    go_ret
    rw [HV.out]
    exact ⟨rfl, rfl⟩

set_option maxRecDepth 100000 in
set_option maxHeartbeats 400000 in
theorem digits_big (u q d : Nat) (w : World) (h : ¬ u < 10) (hu : u ≤ 9223372036854775808) (hq : q = u / 10) (hd : d = u % 10) (IH : Hid (∀ w, Calls Tryd.prog 38 #[.int .i64 (-(q : Int))] w fun e w' => e = .returned (.string ⟨(Lib.decDigits q).toArray⟩) ∧ w = w')) :
    Calls Tryd.prog 38 #[.int .i64 (-(u : Int))] w fun e w' => e = .returned (.string ⟨(Lib.decDigits u).toArray⟩) ∧ w = w' := by
  have HV := Lib.hid (show Lib.decDigits u = Lib.decDigits q ++ [UInt8.ofNat (48 + d)] by rw [digits_sg u h, hq, hd])
  have hl := digits_len q (by omega)
  have E1 := byte_piece d (by omega)
  have E2 : RowKit.wrap64 (-((u : Int) / 10)) = -(q : Int) := by rw [IntWalk.wrap64_in _ (by omega)]; omega
  have E3 : (u : Int) % 10 = (d : Int) := by omega
  have hcat : ByteArray.mk (Lib.decDigits q).toArray ++ ByteArray.mk [UInt8.ofNat (48 + d)].toArray = ByteArray.mk (Lib.decDigits q ++ [UInt8.ofNat (48 + d)]).toArray := by rw [ByteArray.mk_append_mk]
  have HC := Lib.hid hcat
  have h10 : -(u : Int) ≤ -10 := by omega
  have hd9 : d < 10 := by omega
  clear hcat hq hd h hu
  generalize Lib.decDigits q = T at *
  generalize UInt8.ofNat (48 + d) = ch at *
  go_enter Tryd.func38, Tryd.ntmps38
  go_wp2_with fail
  refine (IH.out _).mono ?_; rintro e w1 ⟨rfl, rfl⟩
  go_wp2_with fail
  go_ret
  rw [HV.out, ← HC.out]
  exact ⟨rfl, rfl⟩

theorem digits_any : ∀ (u : Nat), u ≤ 9223372036854775808 → ∀ w : World, Calls Tryd.prog 38 #[.int .i64 (-(u : Int))] w fun e w' => e = .returned (.string ⟨(Lib.decDigits u).toArray⟩) ∧ w = w' := by
  intro u
  induction u using Nat.strongRecOn with
  | ind u ih =>
    intro hu w
    by_cases h : u < 10
    · exact digits_small u w h
    · exact digits_big u (u / 10) (u % 10) w h hu rfl rfl (Lib.hid (ih (u / 10) (by omega) (by omega)))

theorem itoa_negF {n : Int} (h : n < 0) : Lib.itoa n = 45 :: Lib.decDigits n.natAbs := itoa_neg h
set_option maxHeartbeats 400000 in
theorem rtext_any (n : Int) (w : World) (h0 : -9223372036854775808 ≤ n) (h1 : n ≤ 9223372036854775807) :
    Calls Tryd.prog 23 #[.int .i64 n] w fun e w' => e = .returned (.string ⟨(Lib.itoa n).toArray⟩) ∧ w = w' := by
  by_cases h : n < 0
  · have HV := Lib.hid (itoa_neg h)
    have hl := digits_len n.natAbs (by omega)
    have D := Lib.hid (fun w => digits_any n.natAbs (by omega) w)
    rw [show -((n.natAbs : Nat) : Int) = n by omega] at D
    have hcat := Lib.hid (show ByteArray.mk #[45] ++ ByteArray.mk (Lib.decDigits n.natAbs).toArray = ByteArray.mk (45 :: Lib.decDigits n.natAbs).toArray by rw [ByteArray.mk_append_mk]; simp)
    generalize Lib.decDigits n.natAbs = T at *
    go_enter Tryd.func23, Tryd.ntmps23
    go_wp2_with fail
    refine (D.out _).mono ?_; rintro e w1 ⟨rfl, rfl⟩
    go_wp2_with fail
    go_ret
    rw [HV.out, ← hcat.out]
    exact ⟨rfl, rfl⟩
  · have HV := Lib.hid (itoa_nat h)
    have D := Lib.hid (fun w => digits_any n.toNat (by omega) w)
    rw [show ((n.toNat : Nat) : Int) = n by omega] at D
    generalize Lib.decDigits n.toNat = T at *
    go_enter Tryd.func23, Tryd.ntmps23
    go_wp2_with fail
    refine (D.out _).mono ?_; rintro e w1 ⟨rfl, rfl⟩
    go_wp2_with fail
    go_ret
    rw [HV.out]
    exact ⟨rfl, rfl⟩


theorem drop_take_snoc (s : List UInt8) (a k : Nat) (ha : a ≤ k) (h : k < s.length) : (s.drop a).take (k + 1 - a) = (s.drop a).take (k - a) ++ [s[k]] := by
  have e : k + 1 - a = (k - a) + 1 := by omega
  rw [e, List.take_succ_eq_append_getElem (by simp; omega)]
  simp [List.getElem_drop, show a + (k - a) = k by omega]

set_option maxRecDepth 100000 in
set_option maxHeartbeats 2000000 in
theorem rparse_nat (s : List UInt8) (lo hi : Int) (w : World) (hs : s.length ≤ 281474976710656) (hz : 0 < (ByteArray.mk s.toArray).size) (h45 : ((((ByteArray.mk s.toArray)[0]'hz).toNat : Int) == 45) = false) (hat : atOf s = 0) (hl : 0 < s.length) (hl2 : s.length ≤ 19 + 0) :
    Calls Tryd.prog 32 #[.string ⟨s.toArray⟩, .int .i64 lo, .int .i64 hi] w fun e w' => e = .returned (.tuple #[.int .i64 (parseN s lo hi), .bool (parseB s lo hi)]) ∧ w = w' := by
  have NO := Lib.hid (@ref_no s)
  have BAD := Lib.hid (@ref_bad s lo hi)
  have GOOD := Lib.hid (@ref_good s lo hi)
  have HV := Lib.hid (show refV s = IntKind.i64.wrap (-(foldW s)) by unfold refV; rw [hat]; rw [if_pos rfl, List.drop_zero])
  rw [hat] at NO
  rw [List.drop_zero] at NO
  have RT := Lib.hid (fun w => rtext_any (refV s) w (refV_in s).1 (refV_in s).2)
  have hle : ((s.length : Int) == 0) = false := by rw [beq_eq_false_iff_ne]; omega
  clear hat
  go_enter Tryd.func32, Tryd.ntmps32
  go_wp2_with fail
  go_loop [9, 10] (fun n i => ∃ k : Nat, 0 ≤ k ∧ k ≤ s.length ∧ i = .int .i64 k ∧ n = .int .i64 (foldW (s.take k)) ∧ Hid (∀ c ∈ s.take k, 48 ≤ c.toNat ∧ c.toNat ≤ 57)) (fun _ i => s.length - (intOf i).toNat)
  case atStart => exact ⟨0, by omega, by omega, rfl, rfl, Lib.hid (by simp)⟩
  case round =>
    obtain ⟨k, hk0, hk, rfl, rfl, hD⟩ := hrel
    by_cases hlt : k < s.length
    · have HS := Lib.hid (List.take_succ_eq_append_getElem hlt)
      have hw := foldW_in (s.take k)
      have HF := Lib.hid (foldW_snoc (s.take k) s[k])
      have HN := Lib.hid (show ¬ (48 ≤ s[k].toNat ∧ s[k].toNat ≤ 57) → ∃ c ∈ s, ¬ (48 ≤ c.toNat ∧ c.toNat ≤ 57) from fun h => ⟨s[k], List.getElem_mem hlt, h⟩)
      generalize foldW (s.take k) = n at *
      go_wp2_with fail
      · have g : 48 ≤ (s[k].toNat : Int) := by assumption
        have g2 : (s[k].toNat : Int) < 48 ∨ 57 < (s[k].toNat : Int) := by assumption
        have hN := NO.out (fun hh => by obtain ⟨c, hc, hc2⟩ := HN.out (by omega); exact hc2 (hh.2.2 c hc)) lo hi
        go_ret2
        rw [hN.1, hN.2]
        exact ⟨rfl, rfl⟩
      · have g : 48 ≤ (s[k].toNat : Int) ∧ (s[k].toNat : Int) ≤ 57 := by assumption
        go_round
        case rel => exact ⟨k + 1, by omega, by omega, by go_num, by rw [HS.out, HF.out]; unfold stepW; rw [IntWalk.i64_left, IntWalk.i64_left]; rfl, Lib.hid (by
          rw [HS.out]
          intro c hc
          rcases List.mem_append.1 hc with hc | hc
          · exact hD.out c hc
          · simp only [List.mem_singleton] at hc; rw [hc]; omega)⟩
        case measure => simp [intOf]; omega
      · have g : (s[k].toNat : Int) < 48 := by assumption
        have hN := NO.out (fun hh => by obtain ⟨c, hc, hc2⟩ := HN.out (by omega); exact hc2 (hh.2.2 c hc)) lo hi
        go_ret2
        rw [hN.1, hN.2]
        exact ⟨rfl, rfl⟩
    · have hke : s.take k = s := List.take_of_length_le (by skip; omega)
      rw [hke] at hD ⊢
      clear hke
      have hw := foldW_in s
      have HV2 : RowKit.wrap64 (-(foldW s)) = refV s := by rw [HV.out, IntWalk.i64_left]
      go_wp2_with fail
      refine (RT.out _).mono ?_; rintro e w1 ⟨rfl, rfl⟩
      go_wp2_with fail
      · have g : refV s < lo ∨ hi < refV s := by assumption
        have hN := BAD.out (fun hh => by omega)
        go_ret2
        rw [hN.1, hN.2]
        exact ⟨rfl, rfl⟩
      · have g : Lib.itoa (refV s) = s := by assumption
        have g2 : lo ≤ refV s ∧ refV s ≤ hi := by assumption
        have hN := GOOD.out ⟨g, g2⟩
        go_ret2
        rw [hN.1, hN.2]
        exact ⟨rfl, rfl⟩
      · have g : refV s < lo := by assumption
        have hN := BAD.out (fun hh => by omega)
        go_ret2
        rw [hN.1, hN.2]
        exact ⟨rfl, rfl⟩
      · have g : ¬ Lib.itoa (refV s) = s := by assumption
        have hN := BAD.out (fun hh => g hh.1)
        go_ret2
        rw [hN.1, hN.2]
        exact ⟨rfl, rfl⟩

set_option maxRecDepth 100000 in
set_option maxHeartbeats 2000000 in
theorem rparse_neg (s : List UInt8) (lo hi : Int) (w : World) (hs : s.length ≤ 281474976710656) (hz : 0 < (ByteArray.mk s.toArray).size) (h45 : ((((ByteArray.mk s.toArray)[0]'hz).toNat : Int) == 45) = true) (hat : atOf s = 1) (hl : 1 < s.length) (hl2 : s.length ≤ 19 + 1) :
    Calls Tryd.prog 32 #[.string ⟨s.toArray⟩, .int .i64 lo, .int .i64 hi] w fun e w' => e = .returned (.tuple #[.int .i64 (parseN s lo hi), .bool (parseB s lo hi)]) ∧ w = w' := by
  have NO := Lib.hid (@ref_no s)
  have BAD := Lib.hid (@ref_bad s lo hi)
  have GOOD := Lib.hid (@ref_good s lo hi)
  have HV := Lib.hid (show refV s = foldW (s.drop 1) by unfold refV; rw [hat]; rw [if_neg (by decide)])
  rw [hat] at NO
  skip
  have RT := Lib.hid (fun w => rtext_any (refV s) w (refV_in s).1 (refV_in s).2)
  have hle : ((s.length : Int) == 1) = false := by rw [beq_eq_false_iff_ne]; omega
  clear hat
  go_enter Tryd.func32, Tryd.ntmps32
  go_wp2_with fail
  go_loop [9, 10] (fun n i => ∃ k : Nat, 1 ≤ k ∧ k ≤ s.length ∧ i = .int .i64 k ∧ n = .int .i64 (foldW ((s.drop 1).take (k - 1))) ∧ Hid (∀ c ∈ (s.drop 1).take (k - 1), 48 ≤ c.toNat ∧ c.toNat ≤ 57)) (fun _ i => s.length - (intOf i).toNat)
  case atStart => exact ⟨1, by omega, by omega, rfl, rfl, Lib.hid (by simp)⟩
  case round =>
    obtain ⟨k, hk0, hk, rfl, rfl, hD⟩ := hrel
    by_cases hlt : k < s.length
    · have HS := Lib.hid (drop_take_snoc s 1 k hk0 hlt)
      have hw := foldW_in ((s.drop 1).take (k - 1))
      have HF := Lib.hid (foldW_snoc ((s.drop 1).take (k - 1)) s[k])
      have HN := Lib.hid (show ¬ (48 ≤ s[k].toNat ∧ s[k].toNat ≤ 57) → ∃ c ∈ (s.drop 1), ¬ (48 ≤ c.toNat ∧ c.toNat ≤ 57) from fun h => ⟨s[k], by rw [List.mem_drop_iff_getElem]; exact ⟨k - 1, by omega, by simp [show 1 + (k - 1) = k by omega]⟩, h⟩)
      generalize foldW ((s.drop 1).take (k - 1)) = n at *
      go_wp2_with fail
      · have g : 48 ≤ (s[k].toNat : Int) := by assumption
        have g2 : (s[k].toNat : Int) < 48 ∨ 57 < (s[k].toNat : Int) := by assumption
        have hN := NO.out (fun hh => by obtain ⟨c, hc, hc2⟩ := HN.out (by omega); exact hc2 (hh.2.2 c hc)) lo hi
        go_ret2
        rw [hN.1, hN.2]
        exact ⟨rfl, rfl⟩
      · have g : 48 ≤ (s[k].toNat : Int) ∧ (s[k].toNat : Int) ≤ 57 := by assumption
        go_round
        case rel => exact ⟨k + 1, by omega, by omega, by go_num, by rw [HS.out, HF.out]; unfold stepW; rw [IntWalk.i64_left, IntWalk.i64_left]; rfl, Lib.hid (by
          rw [HS.out]
          intro c hc
          rcases List.mem_append.1 hc with hc | hc
          · exact hD.out c hc
          · simp only [List.mem_singleton] at hc; rw [hc]; omega)⟩
        case measure => simp [intOf]; omega
      · have g : (s[k].toNat : Int) < 48 := by assumption
        have hN := NO.out (fun hh => by obtain ⟨c, hc, hc2⟩ := HN.out (by omega); exact hc2 (hh.2.2 c hc)) lo hi
        go_ret2
        rw [hN.1, hN.2]
        exact ⟨rfl, rfl⟩
    · have hke : (s.drop 1).take (k - 1) = (s.drop 1) := List.take_of_length_le (by rw [List.length_drop]; omega)
      rw [hke] at hD ⊢
      clear hke
      have hw := foldW_in (s.drop 1)
      rw [← HV.out]
      go_wp2_with fail
      refine (RT.out _).mono ?_; rintro e w1 ⟨rfl, rfl⟩
      go_wp2_with fail
      · have g : refV s < lo ∨ hi < refV s := by assumption
        have hN := BAD.out (fun hh => by omega)
        go_ret2
        rw [hN.1, hN.2]
        exact ⟨rfl, rfl⟩
      · have g : Lib.itoa (refV s) = s := by assumption
        have g2 : lo ≤ refV s ∧ refV s ≤ hi := by assumption
        have hN := GOOD.out ⟨g, g2⟩
        go_ret2
        rw [hN.1, hN.2]
        exact ⟨rfl, rfl⟩
      · have g : refV s < lo := by assumption
        have hN := BAD.out (fun hh => by omega)
        go_ret2
        rw [hN.1, hN.2]
        exact ⟨rfl, rfl⟩
      · have g : ¬ Lib.itoa (refV s) = s := by assumption
        have hN := BAD.out (fun hh => g hh.1)
        go_ret2
        rw [hN.1, hN.2]
        exact ⟨rfl, rfl⟩

set_option maxRecDepth 100000 in
set_option maxHeartbeats 1000000 in
theorem rparse_any (s : List UInt8) (lo hi : Int) (w : World) (hs : s.length ≤ 281474976710656) :
    Calls Tryd.prog 32 #[.string ⟨s.toArray⟩, .int .i64 lo, .int .i64 hi] w fun e w' => e = .returned (.tuple #[.int .i64 (parseN s lo hi), .bool (parseB s lo hi)]) ∧ w = w' := by
  rcases Nat.eq_zero_or_pos s.length with h0 | h0
  · obtain rfl := List.eq_nil_of_length_eq_zero h0
    have hN := ref_no (s := []) (by simp) lo hi
    rw [hN.1, hN.2]
    clear hN
    go_enter Tryd.func32, Tryd.ntmps32
    go_wp2_with fail
    go_ret2
    exact ⟨rfl, rfl⟩
  · have hz : 0 < (ByteArray.mk s.toArray).size := by show 0 < s.toArray.size; simpa using h0
    cases h45 : ((((ByteArray.mk s.toArray)[0]'hz).toNat : Int) == 45) with
    | false =>
      have hat : atOf s = 0 := by
        unfold atOf
        rw [if_neg]
        intro hh
        cases s with
        | nil => simp at hh
        | cons c r =>
          simp at hh
          subst hh
          have h46 : (((45 : UInt8).toNat : Int) == 45) = false := h45
          exact absurd h46 (by decide)
      by_cases hl2 : s.length ≤ 19 + 0
      · exact rparse_nat s lo hi w hs hz h45 hat h0 hl2
      · have hN := ref_no (s := s) (by rw [hat]; omega) lo hi
        rw [hN.1, hN.2]
        have hle : ((s.length : Int) == 0) = false := by rw [beq_eq_false_iff_ne]; omega
        clear hN hat
        go_enter Tryd.func32, Tryd.ntmps32
        go_wp2_with fail
        go_ret2
        exact ⟨rfl, rfl⟩
    | true =>
      have hat : atOf s = 1 := by
        unfold atOf
        rw [if_pos]
        cases s with
        | nil => simp at h0
        | cons c r =>
          have h46 : ((c.toNat : Int) == 45) = true := h45
          have : (c.toNat : Int) = 45 := by simpa using h46
          simp
          apply UInt8.toNat_inj.1
          have e : (45 : UInt8).toNat = 45 := rfl
          omega
      by_cases hl : 1 < s.length
      · by_cases hl2 : s.length ≤ 19 + 1
        · exact rparse_neg s lo hi w hs hz h45 hat hl hl2
        · have hN := ref_no (s := s) (by rw [hat]; omega) lo hi
          rw [hN.1, hN.2]
          have hle : ((s.length : Int) == 1) = false := by rw [beq_eq_false_iff_ne]; omega
          clear hN hat
          go_enter Tryd.func32, Tryd.ntmps32
          go_wp2_with fail
          go_ret2
          exact ⟨rfl, rfl⟩
      · have hN := ref_no (s := s) (by rw [hat]; omega) lo hi
        rw [hN.1, hN.2]
        have hle : ((s.length : Int) == 1) = true := by rw [beq_iff_eq]; omega
        clear hN hat hl
        go_enter Tryd.func32, Tryd.ntmps32
        go_wp2_with fail
        go_ret2
        exact ⟨rfl, rfl⟩

end Go.Proofs.YtammpndggdniiaaDoor
