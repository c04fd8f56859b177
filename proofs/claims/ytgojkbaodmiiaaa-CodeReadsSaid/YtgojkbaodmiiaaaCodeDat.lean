/- The plain laws of the values of the five kinds. -/
import Derived.Test.YtgojkbaodmiiaaaCodeRead
import Derived.Test.YtgojkbaodmiiaaaCodeValid
namespace Go.Proofs.Ytgojkbaodmiiaaa

def canon (k : Nat) (d : Dat) : Dat := if k = 0 then ⟨d.n, [], [], []⟩ else if k = 1 then ⟨d.n, [], [], []⟩ else if k = 2 then ⟨0, d.s, [], []⟩ else if k = 3 then ⟨0, [], d.l, []⟩ else ⟨0, [], [], d.m⟩
def okV (k : Nat) (d : Dat) : Prop := canon k d = d ∧ (if k = 0 then 0 ≤ d.n ∧ d.n < 9223372036854775808 else if k = 1 then zigOk d.n else if k = 2 then d.s.length < 9223372036854775808
  else if k = 3 then okMany (fun s : List UInt8 => s.length < 9223372036854775808) d.l else okMany zigOk d.m)

theorem codecV (k : Nat) (hk : k < 5) : Codec (encV k) (rdV k) (okV k) := by
  have C3 := codecMany codecText
  have C4 := codecMany codecInt
  match k, hk with
  | 0, _ =>
    refine ⟨?_, ?_, ?_, ?_⟩
    · rintro ⟨n, s, l, m⟩ t ⟨h1, h2, h3⟩
      simp [canon] at h1
      obtain ⟨rfl, rfl, rfl⟩ := h1
      simp only at h2 h3
      have := rdNum_vi n.toNat t (by omega)
      simp only [rdV, encV, numL, if_true, if_neg (show ¬ n < 0 by omega)]
      rw [this]
      simp; omega
    · rintro s ⟨n, u, l, m⟩ t h
      simp [rdV] at h
      obtain ⟨⟨rfl, rfl, rfl, rfl⟩, h2⟩ := h
      obtain ⟨a, b, c, hN⟩ : ∃ a b c, rdNum s false = (a, b, c) := ⟨_, _, _, rfl⟩
      rw [hN] at h2 ⊢
      simp at h2
      obtain ⟨rfl, rfl⟩ := h2
      have := rdNum_is hN
      refine ⟨?_, by simp [canon], ?_⟩
      · rw [this.1]; simp [encV, numL]; intro h; omega
      · simp; omega
    · rintro s ⟨n, u, l, m⟩ t h
      simp [rdV] at h
      obtain ⟨a, b, c, hN⟩ : ∃ a b c, rdNum s false = (a, b, c) := ⟨_, _, _, rfl⟩
      rw [hN] at h
      simp at h
      obtain ⟨_, rfl, rfl⟩ := h
      exact (rdNum_fail hN).2
    · rintro ⟨n, s, l, m⟩ ⟨h1, h2, h3⟩
      simp only at h2
      have := vi_pos n.toNat
      simp only [encV, numL, if_true, if_neg (show ¬ n < 0 by omega)]
      exact this
  | 1, _ =>
    refine ⟨?_, ?_, ?_, ?_⟩
    · rintro ⟨n, s, l, m⟩ t ⟨h1, h2⟩
      simp [canon] at h1
      obtain ⟨rfl, rfl, rfl⟩ := h1
      simp at h2
      have := codecInt.back n t h2
      simp [rdV, encV, this]
    · rintro s ⟨n, u, l, m⟩ t h
      simp [rdV] at h
      obtain ⟨⟨rfl, rfl, rfl, rfl⟩, h2⟩ := h
      obtain ⟨a, b, c, hN⟩ : ∃ a b c, rdInt s false = (a, b, c) := ⟨_, _, _, rfl⟩
      rw [hN] at h2 ⊢
      simp at h2
      obtain ⟨rfl, rfl⟩ := h2
      have := codecInt.was _ _ _ hN
      exact ⟨by simpa [encV] using this.1, by simp [canon], by simpa using this.2⟩
    · rintro s ⟨n, u, l, m⟩ t h
      simp [rdV] at h
      obtain ⟨a, b, c, hN⟩ : ∃ a b c, rdInt s false = (a, b, c) := ⟨_, _, _, rfl⟩
      rw [hN] at h
      simp at h
      obtain ⟨_, rfl, rfl⟩ := h
      exact codecInt.fell _ _ _ hN
    · rintro ⟨n, s, l, m⟩ ⟨_, h2⟩
      simp at h2
      simpa [encV] using codecInt.pos n h2
  | 2, _ =>
    refine ⟨?_, ?_, ?_, ?_⟩
    · rintro ⟨n, s, l, m⟩ t ⟨h1, h2⟩
      simp [canon] at h1
      obtain ⟨rfl, rfl, rfl⟩ := h1
      simp at h2
      have := codecText.back s t h2
      simp [rdV, encV, this]
    · rintro s ⟨n, u, l, m⟩ t h
      simp [rdV] at h
      obtain ⟨⟨rfl, rfl, rfl, rfl⟩, h2⟩ := h
      obtain ⟨a, b, c, hN⟩ : ∃ a b c, rdText s false = (a, b, c) := ⟨_, _, _, rfl⟩
      rw [hN] at h2 ⊢
      simp at h2
      obtain ⟨rfl, rfl⟩ := h2
      have := codecText.was _ _ _ hN
      exact ⟨by simpa [encV] using this.1, by simp [canon], by simpa using this.2⟩
    · rintro s ⟨n, u, l, m⟩ t h
      simp [rdV] at h
      obtain ⟨a, b, c, hN⟩ : ∃ a b c, rdText s false = (a, b, c) := ⟨_, _, _, rfl⟩
      rw [hN] at h
      simp at h
      obtain ⟨_, rfl, rfl⟩ := h
      exact codecText.fell _ _ _ hN
    · rintro ⟨n, s, l, m⟩ ⟨_, h2⟩
      simp at h2
      simpa [encV] using codecText.pos s h2
  | 3, _ =>
    refine ⟨?_, ?_, ?_, ?_⟩
    · rintro ⟨n, s, l, m⟩ t ⟨h1, h2⟩
      simp [canon] at h1
      obtain ⟨rfl, rfl, rfl⟩ := h1
      simp at h2
      have := C3.back l t h2
      simp [rdV, encV, this]
    · rintro s ⟨n, u, l, m⟩ t h
      simp [rdV] at h
      obtain ⟨⟨rfl, rfl, rfl, rfl⟩, h2⟩ := h
      obtain ⟨a, b, c, hN⟩ : ∃ a b c, rdMany rdText s false = (a, b, c) := ⟨_, _, _, rfl⟩
      rw [hN] at h2 ⊢
      simp at h2
      obtain ⟨rfl, rfl⟩ := h2
      have := C3.was _ _ _ hN
      exact ⟨by simpa [encV] using this.1, by simp [canon], by simpa using this.2⟩
    · rintro s ⟨n, u, l, m⟩ t h
      simp [rdV] at h
      obtain ⟨a, b, c, hN⟩ : ∃ a b c, rdMany rdText s false = (a, b, c) := ⟨_, _, _, rfl⟩
      rw [hN] at h
      simp at h
      obtain ⟨_, rfl, rfl⟩ := h
      exact C3.fell _ _ _ hN
    · rintro ⟨n, s, l, m⟩ ⟨_, h2⟩
      simp at h2
      simpa [encV] using C3.pos l h2
  | 4, _ =>
    refine ⟨?_, ?_, ?_, ?_⟩
    · rintro ⟨n, s, l, m⟩ t ⟨h1, h2⟩
      simp [canon] at h1
      obtain ⟨rfl, rfl, rfl⟩ := h1
      simp at h2
      have := C4.back m t h2
      simp [rdV, encV, this]
    · rintro s ⟨n, u, l, m⟩ t h
      simp [rdV] at h
      obtain ⟨⟨rfl, rfl, rfl, rfl⟩, h2⟩ := h
      obtain ⟨a, b, c, hN⟩ : ∃ a b c, rdMany rdInt s false = (a, b, c) := ⟨_, _, _, rfl⟩
      rw [hN] at h2 ⊢
      simp at h2
      obtain ⟨rfl, rfl⟩ := h2
      have := C4.was _ _ _ hN
      exact ⟨by simpa [encV] using this.1, by simp [canon], by simpa using this.2⟩
    · rintro s ⟨n, u, l, m⟩ t h
      simp [rdV] at h
      obtain ⟨a, b, c, hN⟩ : ∃ a b c, rdMany rdInt s false = (a, b, c) := ⟨_, _, _, rfl⟩
      rw [hN] at h
      simp at h
      obtain ⟨_, rfl, rfl⟩ := h
      exact C4.fell _ _ _ hN
    · rintro ⟨n, s, l, m⟩ ⟨_, h2⟩
      simp at h2
      simpa [encV] using C4.pos m h2

theorem enc_canon (k : Nat) (d : Dat) : encV k (canon k d) = encV k d := by
  unfold encV canon; split
  · rfl
  · split
    · rfl
    · split
      · rfl
      · split <;> rfl
theorem canon_canon (k : Nat) (d : Dat) : canon k (canon k d) = canon k d := by
  unfold canon; split
  · rfl
  · split
    · rfl
    · split
      · rfl
      · split <;> rfl
theorem same_canon (k : Nat) (a b : Dat) : sameB k a b = true ↔ canon k a = canon k b := by
  unfold sameB canon
  split
  · simp
  · split
    · simp
    · split
      · simp
      · split <;> simp

/-- What a valid value is good for. -/
theorem valid_ok {x : Val} (h : validB x = true) (hn : x.n < 9223372036854775808) : okV x.kd (canon x.kd x.dat) ∧ x.Fit := by
  simp [validB, lightB] at h
  obtain ⟨h1, h2, ⟨h3, h4⟩, h5, h6, h7⟩ := h
  refine ⟨⟨canon_canon _ _, ?_⟩, hn, by omega, by omega, fun y hy => by have := h4 y hy; omega, by omega⟩
  unfold canon
  split
  · rename_i h; exact ⟨h6.elim (fun h' => absurd h h') id, hn⟩
  · split
    · rename_i h; exact h7.elim (fun h' => absurd h h') id
    · split
      · show x.s.length < _; omega
      · split
        · exact ⟨by show x.l.length < _; omega, fun y hy => by have := h4 y hy; omega⟩
        · exact ⟨by show x.m.length < _; omega, fun y hy => h5 y hy⟩

end Go.Proofs.Ytgojkbaodmiiaaa
