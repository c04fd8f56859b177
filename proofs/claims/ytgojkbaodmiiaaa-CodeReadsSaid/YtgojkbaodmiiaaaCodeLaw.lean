/- The plain laws of the encoding: what is written is read back, and what is read was written so. -/
import Derived.Test.YtgojkbaodmiiaaaCode6
namespace Go.Proofs.Ytgojkbaodmiiaaa

theorem low_ok {n : Nat} {z : Bool} (h1 : n < 128) (hz : n ≠ 0 ∨ z = true) : ¬ (n.toUInt8.toNat = 0 ∧ z = false) := by
  rintro ⟨h0, rfl⟩
  simp at h0 hz
  omega

theorem dec_vi : ∀ (k n : Nat) (z : Bool) (t : List UInt8), n < 128 ^ (k + 1) → (n ≠ 0 ∨ z = true) → dec (k + 1) z (vi n ++ t) = some (n, t) := by
  intro k
  induction k with
  | zero =>
    intro n z t h hz
    have h1 : n < 128 := by simpa using h
    rw [vi_small h1, List.singleton_append, dec_low (by simp; omega) (low_ok h1 hz)]
    simp; omega
  | succ k ih =>
    intro n z t h hz
    by_cases h1 : n < 128
    · rw [vi_small h1, List.singleton_append, dec_low (by simp; omega) (low_ok h1 hz)]
      simp; omega
    · have hd : n / 128 < 128 ^ (k + 1) := by rw [Nat.pow_succ] at h; exact Nat.div_lt_of_lt_mul (by rw [Nat.mul_comm]; exact h)
      rw [vi_big h1, List.cons_append, dec_high (by simp; omega), ih (n / 128) false t hd (.inl (by omega))]
      simp; omega
theorem dec_pos : ∀ (k : Nat) (s : List UInt8) (n : Nat) (t : List UInt8), dec k false s = some (n, t) → n ≠ 0 := by
  intro k
  induction k with
  | zero => intro s n t h; simp [dec] at h
  | succ k ih =>
    intro s n t h
    cases s with
    | nil => simp [dec] at h
    | cons b s =>
      by_cases hb : 128 ≤ b.toNat
      · rw [dec_high hb] at h
        cases hd : dec k false s with
        | none => rw [hd] at h; simp at h
        | some p =>
          obtain ⟨m, t'⟩ := p
          rw [hd] at h
          simp at h
          have := ih _ _ _ hd
          omega
      · by_cases h0 : b.toNat = 0 ∧ false = false
        · rw [dec_zero h0.1 h0.2] at h; simp at h
        · rw [dec_low hb h0] at h
          simp at h h0
          omega
theorem dec_is : ∀ (k : Nat) (z : Bool) (s : List UInt8) (n : Nat) (t : List UInt8), dec k z s = some (n, t) → s = vi n ++ t := by
  intro k
  induction k with
  | zero => intro z s n t h; simp [dec] at h
  | succ k ih =>
    intro z s n t h
    cases s with
    | nil => simp [dec] at h
    | cons b s =>
      by_cases hb : 128 ≤ b.toNat
      · rw [dec_high hb] at h
        cases hd : dec k false s with
        | none => rw [hd] at h; simp at h
        | some p =>
          obtain ⟨m, t'⟩ := p
          rw [hd] at h
          simp at h
          obtain ⟨rfl, rfl⟩ := h
          have hp := dec_pos _ _ _ _ hd
          have e := ih _ _ _ _ hd
          have hlt := b.toNat_lt
          rw [vi_big (by omega), show (b.toNat % 128 + 128 * m) / 128 = m by omega, List.cons_append, ← e]
          congr 1
          apply UInt8.toNat_inj.1
          simp; omega
      · by_cases h0 : b.toNat = 0 ∧ z = false
        · rw [dec_zero h0.1 h0.2] at h; simp at h
        · rw [dec_low hb h0] at h
          simp at h
          obtain ⟨rfl, rfl⟩ := h
          rw [vi_small (by omega), List.singleton_append]
          congr 1
          apply UInt8.toNat_inj.1
          simp

theorem rdNum_vi (n : Nat) (t : List UInt8) (h : n < 9223372036854775808) : rdNum (vi n ++ t) false = (n, t, false) := rdNum_some (dec_vi 8 n true t (by omega) (.inr rfl)) false
theorem rdNum_is {s t : List UInt8} {n : Nat} (h : rdNum s false = (n, t, false)) : s = vi n ++ t ∧ n < 9223372036854775808 := by
  unfold rdNum at h
  split at h
  · rename_i m u hd
    simp at h
    obtain ⟨rfl, rfl⟩ := h
    exact ⟨dec_is _ _ _ _ _ hd, by have := (dec_bound _ _ _ _ _ hd).1; omega⟩
  · simp at h
theorem rdNum_fail {s t : List UInt8} {n : Nat} (h : rdNum s false = (n, t, true)) : n = 0 ∧ t = [] := by
  unfold rdNum at h
  split at h
  · simp at h
  · simp at h; exact ⟨h.1.symm, h.2⟩
theorem rdNum_dead (f : Bool) : rdNum [] f = (0, [], true) := by
  unfold rdNum; rfl

theorem zig_zz (n : Int) (h : zigOk n) : zig (zz n) = n ∧ zz n < 9223372036854775808 := by
  unfold zigOk at h
  unfold zig zz
  split <;> split <;> omega
theorem zz_zig (n : Nat) : zz (zig n) = n := by
  unfold zig zz
  split <;> split <;> omega
theorem rdInt_enc (n : Int) (t : List UInt8) (h : zigOk n) : rdInt (encInt n ++ t) false = (n, t, false) := by
  have hz := zig_zz n h
  unfold rdInt encInt
  rw [if_pos h, rdNum_vi _ _ hz.2]
  simp [hz.1, h]
theorem rdInt_is {s t : List UInt8} {n : Int} (h : rdInt s false = (n, t, false)) : s = encInt n ++ t ∧ zigOk n := by
  unfold rdInt at h
  split at h
  · rename_i hz
    obtain ⟨m, u, f, hN⟩ : ∃ m u f, rdNum s false = (m, u, f) := ⟨_, _, _, rfl⟩
    rw [hN] at h hz
    simp at h hz
    obtain ⟨rfl, rfl, rfl⟩ := h
    have := rdNum_is hN
    refine ⟨?_, hz⟩
    rw [this.1, encInt, if_pos hz, zz_zig]
  · simp at h
theorem rdInt_fail {s t : List UInt8} {n : Int} (h : rdInt s false = (n, t, true)) : t = [] := by
  unfold rdInt at h
  split at h
  · rename_i hz
    obtain ⟨m, u, f, hN⟩ : ∃ m u f, rdNum s false = (m, u, f) := ⟨_, _, _, rfl⟩
    rw [hN] at h
    simp at h
    obtain ⟨_, rfl, rfl⟩ := h
    exact (rdNum_fail hN).2
  · simp at h; exact h.2
theorem rdInt_dead (f : Bool) : (rdInt [] f).2 = ([], true) := by
  unfold rdInt
  rw [rdNum_dead]
  split <;> rfl

theorem rdText_enc (s t : List UInt8) (h : s.length < 9223372036854775808) : rdText (encText s ++ t) false = (s, t, false) := by
  unfold rdText encText
  rw [List.append_assoc, rdNum_vi _ _ h]
  rw [rdTake_ok ⟨rfl, by simp, by simp; omega⟩]
  simp
theorem rdText_is {s t x : List UInt8} (h : rdText s false = (x, t, false)) : s = encText x ++ t ∧ x.length < 9223372036854775808 := by
  unfold rdText at h
  obtain ⟨m, u, f, hN⟩ : ∃ m u f, rdNum s false = (m, u, f) := ⟨_, _, _, rfl⟩
  rw [hN] at h
  simp only at h
  unfold rdTake at h
  split at h
  · rename_i hk
    obtain ⟨rfl, _, hle⟩ := hk
    simp at h hle
    obtain ⟨rfl, rfl⟩ := h
    have := rdNum_is hN
    have e : (List.take m u).length = m := by simp; omega
    exact ⟨by rw [this.1, encText, e, List.append_assoc, List.take_append_drop], by rw [e]; exact this.2⟩
  · simp at h
theorem rdText_fail {s t x : List UInt8} (h : rdText s false = (x, t, true)) : t = [] := by
  unfold rdText at h
  obtain ⟨m, u, f, hN⟩ : ∃ m u f, rdNum s false = (m, u, f) := ⟨_, _, _, rfl⟩
  rw [hN] at h
  simp only at h
  unfold rdTake at h
  split at h
  · rename_i hk
    obtain ⟨rfl, _, hle⟩ := hk
    simp at h
  · simp at h; exact h.2
theorem rdText_dead (f : Bool) : rdText [] f = ([], [], true) := by
  unfold rdText
  rw [rdNum_dead]
  exact rdTake_no (by simp [takeOk])

structure Codec {α : Type} (enc : α → List UInt8) (rd : List UInt8 → Bool → α × List UInt8 × Bool) (ok : α → Prop) : Prop where
  back : ∀ x t, ok x → rd (enc x ++ t) false = (x, t, false)
  was : ∀ s x t, rd s false = (x, t, false) → s = enc x ++ t ∧ ok x
  fell : ∀ s x t, rd s false = (x, t, true) → t = []
  pos : ∀ x, ok x → 0 < (enc x).length

theorem codecNum : Codec vi rdNum (· < 9223372036854775808) :=
  ⟨fun n t h => rdNum_vi n t h, fun _ _ _ h => rdNum_is h, fun _ _ _ h => (rdNum_fail h).2, fun n _ => vi_pos n⟩
theorem codecInt : Codec encInt rdInt zigOk :=
  ⟨fun n t h => rdInt_enc n t h, fun _ _ _ h => rdInt_is h, fun _ _ _ h => rdInt_fail h, fun n h => by rw [encInt, if_pos h]; exact vi_pos _⟩
theorem codecText : Codec encText rdText (fun s => s.length < 9223372036854775808) :=
  ⟨fun s t h => rdText_enc s t h, fun _ _ _ h => rdText_is h, fun _ _ _ h => rdText_fail h, fun s _ => by have := vi_pos s.length; simp [encText]; omega⟩

section
variable {α : Type} {enc : α → List UInt8} {rd : List UInt8 → Bool → α × List UInt8 × Bool} {ok : α → Prop}

theorem loop_back (C : Codec enc rd ok) : ∀ (l l0 : List α) (t : List UInt8), (∀ x ∈ l, ok x) → rdLoop rd l.length ((l.map enc).flatten ++ t) false l0 = (l0 ++ l, t, false)
  | [], l0, t, _ => by simp [rdLoop]
  | x :: l, l0, t, h => by
    have hb := C.back x ((l.map enc).flatten ++ t) (h x (by simp))
    have ih := loop_back C l (l0 ++ [x]) t (fun y hy => h y (by simp [hy]))
    simp only [List.length_cons, List.map_cons, List.flatten_cons, List.append_assoc]
    rw [rdLoop, if_neg (by simp), hb]
    simp only
    rw [ih]; simp
theorem loop_was (C : Codec enc rd ok) : ∀ (k : Nat) (s : List UInt8) (l0 l : List α) (t : List UInt8), rdLoop rd k s false l0 = (l, t, false) → ∃ l1, l = l0 ++ l1 ∧ l1.length = k ∧ s = (l1.map enc).flatten ++ t ∧ ∀ x ∈ l1, ok x := by
  intro k
  induction k with
  | zero => intro s l0 l t h; simp [rdLoop] at h; exact ⟨[], by simp [h.1], rfl, by simp [h.2], by simp⟩
  | succ k ih =>
    intro s l0 l t h
    rw [rdLoop, if_neg (by simp)] at h
    obtain ⟨x, u, f, hx⟩ : ∃ x u f, rd s false = (x, u, f) := ⟨_, _, _, rfl⟩
    rw [hx] at h
    cases f
    · obtain ⟨l1, h1, h2, h3, h4⟩ := ih _ _ _ _ h
      obtain ⟨h5, h6⟩ := C.was _ _ _ hx
      simp only at h3
      refine ⟨x :: l1, by simp [h1], by simp [h2], by rw [h5, h3]; simp, ?_⟩
      intro y hy
      rcases List.mem_cons.1 hy with rfl | hy
      · exact h6
      · exact h4 y hy
    · simp only at h
      rw [rdLoop_stop] at h
      simp at h
theorem loop_fell (C : Codec enc rd ok) : ∀ (k : Nat) (s : List UInt8) (l0 l : List α) (t : List UInt8), rdLoop rd k s false l0 = (l, t, true) → t = [] := by
  intro k
  induction k with
  | zero => intro s l0 l t h; simp [rdLoop] at h
  | succ k ih =>
    intro s l0 l t h
    rw [rdLoop, if_neg (by simp)] at h
    obtain ⟨x, u, f, hx⟩ : ∃ x u f, rd s false = (x, u, f) := ⟨_, _, _, rfl⟩
    rw [hx] at h
    cases f
    · exact ih _ _ _ _ h
    · simp only at h
      rw [rdLoop_stop] at h
      simp at h
      rw [← h.2]; exact C.fell _ _ _ hx
theorem flat_len (C : Codec enc rd ok) : ∀ (l : List α), (∀ x ∈ l, ok x) → l.length ≤ (l.map enc).flatten.length
  | [], _ => by simp
  | x :: l, h => by
    have := flat_len C l (fun y hy => h y (by simp [hy]))
    have := C.pos x (h x (by simp))
    simp only [List.map_cons, List.flatten_cons, List.length_append, List.length_cons]
    omega
def okMany (ok : α → Prop) (l : List α) : Prop := l.length < 9223372036854775808 ∧ ∀ x ∈ l, ok x
theorem codecMany (C : Codec enc rd ok) : Codec (encMany enc) (rdMany rd) (okMany ok) where
  back := fun l t h => by
    have hn := rdNum_vi l.length ((l.map enc).flatten ++ t) h.1
    have hl := loop_back C l [] t h.2
    have hf := flat_len C l h.2
    unfold encMany
    rw [List.append_assoc, rdMany_eq hn (by simp; simp at hf; omega) hl]
    simp
  was := fun s l t h => by
    obtain ⟨n, u, f, hN⟩ : ∃ n u f, rdNum s false = (n, u, f) := ⟨_, _, _, rfl⟩
    by_cases hn : n ≤ u.length
    · obtain ⟨m, v, e, hL⟩ : ∃ m v e, rdLoop rd n u f [] = (m, v, e) := ⟨_, _, _, rfl⟩
      rw [rdMany_eq hN hn hL] at h
      cases e
      · simp at h
        obtain ⟨rfl, rfl⟩ := h
        cases f
        · obtain ⟨l1, h1, h2, h3, h4⟩ := loop_was C _ _ _ _ _ hL
          simp at h1
          subst h1
          have := rdNum_is hN
          exact ⟨by rw [this.1, h3, encMany, ← h2, List.append_assoc], by rw [h2]; exact this.2, h4⟩
        · rw [rdLoop_stop] at hL; simp at hL
      · simp at h
    · rw [rdMany_over hN hn] at h; simp at h
  fell := fun s l t h => by
    obtain ⟨n, u, f, hN⟩ : ∃ n u f, rdNum s false = (n, u, f) := ⟨_, _, _, rfl⟩
    by_cases hn : n ≤ u.length
    · obtain ⟨m, v, e, hL⟩ : ∃ m v e, rdLoop rd n u f [] = (m, v, e) := ⟨_, _, _, rfl⟩
      rw [rdMany_eq hN hn hL] at h
      cases e
      · simp at h
      · simp at h
        rw [← h.2]
        cases f
        · exact loop_fell C _ _ _ _ _ hL
        · rw [rdLoop_stop] at hL; simp at hL; rw [← hL.2]; exact (rdNum_fail hN).2
    · rw [rdMany_over hN hn] at h; simp at h; exact h.2
  pos := fun l _ => by have := vi_pos l.length; simp [encMany]; omega
theorem codec_inj (C : Codec enc rd ok) {a b : α} {u : List UInt8} (ha : ok a) (hb : ok b) (h : enc b = enc a ++ u) : a = b ∧ u = [] := by
  have h1 := C.back b [] hb
  rw [List.append_nil, h, C.back a u ha] at h1
  simp at h1; exact h1
theorem codec_cut (C : Codec enc rd ok) {a : α} (ha : ok a) {n : Nat} (hn : n < (enc a).length) : (rd ((enc a).take n) false).2 = ([], true) := by
  obtain ⟨y, t, f, h⟩ : ∃ y t f, rd ((enc a).take n) false = (y, t, f) := ⟨_, _, _, rfl⟩
  rw [h]
  cases f
  · obtain ⟨h1, h2⟩ := C.was _ _ _ h
    have h3 : enc a = enc y ++ (t ++ (enc a).drop n) := by
      conv => lhs; rw [← List.take_append_drop n (enc a), h1]
      simp
    have := (codec_inj C h2 ha h3).2
    simp at this
    omega
  · rw [C.fell _ _ _ h]
end

end Go.Proofs.Ytgojkbaodmiiaaa
