/- What is safe on a disk stays so, act by act. Plain. -/
import Derived.Test.YtnbaalllcddbkaaDiskFew
namespace Go.Proofs.Ytnbaalllcddbkaa

def Pre (SF : Nat → List UInt8) (S : DS) : Prop := ∀ f, f < 8 → SF f <+: (S.by_ f).take (S.la f)
def Settled (S : DS) : Prop := ∀ f, f < 8 → (S.by_ f).length ≤ S.la f
/-- What is safe lies at the front of what is durable; on a disk that is down all is durable. -/
def Inv (SF : Nat → List UInt8) (S : DS) : Prop := Pre SF S ∧ (S.down = true → Settled S)

theorem Pre.crash {SF : Nat → List UInt8} {S : DS} (h : Pre SF S) (k : List Int) : Pre SF (S.crash k) := by
  unfold DS.crash; split
  · exact h
  · intro f hf
    refine (h f hf).trans ?_
    show (S.by_ f).take (S.la f) <+: ((S.by_ f).take (S.la f + keepN S k f)).take (S.la f + keepN S k f)
    rw [List.take_take, Nat.min_self]
    exact List.take_prefix_take_left (by omega)
theorem settled_crash {S : DS} (h : S.down = true → Settled S) (k : List Int) : Settled (S.crash k) := by
  unfold DS.crash; split
  · rename_i hd; exact h hd
  · intro f hf
    show ((S.by_ f).take (S.la f + keepN S k f)).length ≤ S.la f + keepN S k f
    rw [List.length_take]; omega
theorem Inv.crash {SF : Nat → List UInt8} {S : DS} (h : Inv SF S) (k : List Int) : Inv SF (S.crash k) := ⟨h.1.crash k, fun _ => settled_crash h.2 k⟩
theorem Inv.of_same {SF : Nat → List UInt8} {S T : DS} (h : Inv SF S) (h1 : T.by_ = S.by_) (h2 : T.la = S.la) (h3 : T.down = S.down) : Inv SF T := by
  unfold Inv Pre Settled at *
  rw [h1, h2, h3]; exact h
theorem Inv.ends {SF : Nat → List UInt8} {S : DS} (h : Inv SF S) : Inv SF S.endsS := by
  unfold DS.endsS; split
  · exact h
  · exact h.of_same rfl rfl rfl
theorem Inv.tick {SF : Nat → List UInt8} {S : DS} (h : Inv SF S) : Inv SF S.tick := by
  unfold DS.tick; split
  · exact h.ends.crash _
  · exact h.ends
theorem Inv.put {SF : Nat → List UInt8} {S : DS} (h : Inv SF S) (hd : S.down = false) (hok : S.Ok) (f : Nat) (s : List UInt8) : Inv SF (S.put f s) := by
  refine ⟨fun g hg => ?_, fun hh => ?_⟩
  · have h1 := h.1 g hg
    have h2 := (hok.1 g hg).1
    unfold DS.put
    simp only
    split
    · rename_i e
      subst e
      rw [List.take_append_of_le_length h2]; exact h1
    · exact h1
  · have : (S.put f s).down = false := hd
    rw [this] at hh; cases hh
theorem down_ends (S : DS) : S.endsS.down = S.down := by unfold DS.endsS; split <;> rfl
theorem appE_zero {S : DS} {f : Int} {s : List UInt8} (h : S.appE f s = 0) : S.down = false ∧ 0 ≤ f ∧ f < 8 := by
  unfold DS.appE at h
  split at h
  · cases h
  · exact may_one h
theorem Inv.append {SF : Nat → List UInt8} {S : DS} (h : Inv SF S) (hok : S.Ok) (f : Int) (s : List UInt8) : Inv SF (S.appendS f s).2 := by
  have key : ∀ T : DS, Inv SF T → T.Ok → Inv SF (T.appS f s) := by
    intro T hT ho
    unfold DS.appS; split
    · rename_i he
      exact hT.put (appE_zero he).1 ho _ _
    · exact hT
  unfold DS.appendS; split
  · exact (key _ h.ends hok.ends).crash _
  · exact key _ h.ends hok.ends

/-- What the law keeps for a file, changed in one place. -/
def setF (SF : Nat → List UInt8) (f : Nat) (x : List UInt8) : Nat → List UInt8 := fun g => if g = f then x else SF g
theorem flush_fail {SF : Nat → List UInt8} {S : DS} {f : Int} (h : Inv SF S) (hr : (S.flushS f).1 ≠ 0) : Inv SF (S.flushS f).2 := by
  have ht := h.tick
  unfold DS.flushS at *
  split at hr
  · rename_i hm; rw [if_pos hm]; exact ht
  · rename_i hm
    split at hr
    · rename_i hl; rw [if_neg hm, if_pos hl]; exact ht.of_same rfl rfl rfl
    · exact absurd rfl hr
theorem flush_good {SF : Nat → List UInt8} {S : DS} {f : Int} (h : Inv SF S) (hr : (S.flushS f).1 = 0) :
    (0 ≤ f ∧ f < 8) ∧ (S.flushS f).2.down = false ∧ Inv (setF SF f.toNat ((S.flushS f).2.by_ f.toNat)) (S.flushS f).2 := by
  have ht := h.tick
  unfold DS.flushS at *
  split at hr
  · rename_i hm; exact absurd hr hm
  · rename_i hm
    have hm1 := may_one (S := S.tick) (f := f) (by omega)
    split at hr
    · cases hr
    · rename_i hl
      rw [if_neg hm, if_neg hl]
      refine ⟨hm1.2, hm1.1, fun g hg => ?_, fun hd => ?_⟩
      · have := ht.1 g hg
        unfold setF
        simp only
        split
        · rename_i e; subst e
          rw [List.take_length]; exact List.prefix_rfl
        · exact this
      · rw [hm1.1] at hd; cases hd
theorem cut_fail {SF : Nat → List UInt8} {S : DS} {f n : Int} (h : Inv SF S) (hr : (S.cutS f n).1 ≠ 0) : Inv SF (S.cutS f n).2 := by
  have ht := h.tick
  unfold DS.cutS at *
  split at hr
  · rename_i hm; rw [if_pos hm]; exact ht
  · rename_i hm
    split at hr
    · rename_i hl; rw [if_neg hm, if_pos hl]; exact ht
    · exact absurd rfl hr
/-- A cut that went well: what is safe is cut, too. -/
theorem cut_good {SF : Nat → List UInt8} {S : DS} {f n : Int} (h : Inv SF S) (hr : (S.cutS f n).1 = 0) :
    (0 ≤ f ∧ f < 8) ∧ 0 ≤ n ∧ (S.cutS f n).2.down = false ∧ Inv (setF SF f.toNat ((SF f.toNat).take n.toNat)) (S.cutS f n).2 := by
  have ht := h.tick
  unfold DS.cutS at *
  split at hr
  · rename_i hm; exact absurd hr hm
  · rename_i hm
    have hm1 := may_one (S := S.tick) (f := f) (by omega)
    split at hr
    · cases hr
    · rename_i hl
      rw [if_neg hm, if_neg hl]
      refine ⟨hm1.2, by omega, hm1.1, fun g hg => ?_, fun hd => ?_⟩
      · have := ht.1 g hg
        unfold setF
        simp only
        split
        · rename_i e; subst e
          have h2 : (SF f.toNat).take n.toNat <+: ((S.tick.by_ f.toNat).take (S.tick.la f.toNat)).take n.toNat := by
            obtain ⟨t, ht⟩ := this
            rw [← ht, List.take_append]
            exact List.prefix_append _ _
          rw [List.take_take] at h2 ⊢
          rw [show min (min (S.tick.la f.toNat) n.toNat) n.toNat = min n.toNat (S.tick.la f.toNat) by omega]
          exact h2
        · exact this
      · rw [hm1.1] at hd; cases hd
theorem turn_fail {SF : Nat → List UInt8} {S : DS} {f g : Int} (h : Inv SF S) (hr : (S.turnS f g).1 ≠ 0) : Inv SF (S.turnS f g).2 := by
  have ht := h.tick
  unfold DS.turnS at *
  split at hr
  · rename_i hm; rw [if_pos hm]; exact ht
  · rename_i hm
    split at hr
    · rename_i hl; rw [if_neg hm, if_pos hl]; exact ht
    · rename_i hl
      split at hr
      · rename_i hk; rw [if_neg hm, if_neg hl, if_pos hk]; exact ht
      · exact absurd rfl hr
theorem turn_good {SF : Nat → List UInt8} {S : DS} {f g : Int} (h : Inv SF S) (hr : (S.turnS f g).1 = 0) :
    (0 ≤ f ∧ f < 8) ∧ (0 ≤ g ∧ g < 8) ∧ f ≠ g ∧ (S.turnS f g).2.down = false ∧ Inv (setF (setF SF f.toNat (SF g.toNat)) g.toNat []) (S.turnS f g).2 := by
  have ht := h.tick
  unfold DS.turnS at *
  split at hr
  · rename_i hm; exact absurd hr hm
  · rename_i hm
    have hm1 := may_two (S := S.tick) (f := f) (g := g) (by omega)
    split at hr
    · cases hr
    · rename_i hl
      split at hr
      · cases hr
      · rename_i hk
        rw [if_neg hm, if_neg hl, if_neg hk]
        refine ⟨hm1.2.1, hm1.2.2, hl, hm1.1, fun i hi => ?_, fun hd => ?_⟩
        · have h1 := ht.1 i hi
          have h2 := ht.1 g.toNat (by omega)
          unfold setF DS.turnTo
          simp only
          split
          · simp
          · split
            · exact h2
            · exact h1
        · have : (S.tick.turnTo f.toNat g.toNat).down = S.tick.down := rfl
          rw [this, hm1.1] at hd; cases hd

/-- What the law does to its notes, by the act and its answer. -/
def note (SF : Nat → List UInt8) (x : Act) (R : (List UInt8 × Int) × DS) : Nat → List UInt8 :=
  if pickS x.kd = 2 ∧ R.1.2 = 0 then setF SF x.f.toNat (R.2.by_ x.f.toNat)
  else if pickS x.kd = 3 ∧ R.1.2 = 0 ∧ x.n < ((SF x.f.toNat).length : Int) then setF SF x.f.toNat ((SF x.f.toNat).take x.n.toNat)
  else if pickS x.kd = 4 ∧ R.1.2 = 0 then setF (setF SF x.f.toNat (SF x.g.toNat)) x.g.toNat []
  else SF
theorem setF_self (SF : Nat → List UInt8) (f : Nat) : setF SF f (SF f) = SF := by
  funext g; unfold setF; split
  · rename_i e; rw [e]
  · rfl
theorem note_inv {SF : Nat → List UInt8} {S : DS} {x : Act} (h : Inv SF S) (hok : S.Ok) : Inv (note SF x (doS S x)) (doS S x).2 := by
  have hb := pickS_bd x.kd
  rcases (by omega : pickS x.kd = 0 ∨ pickS x.kd = 1 ∨ pickS x.kd = 2 ∨ pickS x.kd = 3 ∨ pickS x.kd = 4 ∨ pickS x.kd = 5 ∨ pickS x.kd = 6 ∨ pickS x.kd = 7 ∨ pickS x.kd = 8 ∨ pickS x.kd = 9 ∨ pickS x.kd = 10) with hk | hk | hk | hk | hk | hk | hk | hk | hk | hk | hk
  · simp only [note, doS, hk]; simp; exact h.append hok _ _
  · simp only [note, doS, hk]; simp; exact h.append hok _ _
  · simp only [note, doS, hk]; simp
    split
    · rename_i hr; exact (flush_good h hr).2.2
    · rename_i hr; exact flush_fail h hr
  · simp only [note, doS, hk]; simp
    split
    · rename_i hr; exact (cut_good h hr.1).2.2.2
    · rename_i hr
      by_cases h0 : (S.cutS x.f x.n).1 = 0
      · obtain ⟨h1, h2, h3, h4⟩ := cut_good h h0
        have : (SF x.f.toNat).take x.n.toNat = SF x.f.toNat := List.take_of_length_le (by
          have : ¬ x.n < ((SF x.f.toNat).length : Int) := fun hh => hr ⟨h0, hh⟩
          omega)
        rw [this, setF_self] at h4
        exact h4
      · exact cut_fail h h0
  · simp only [note, doS, hk]; simp
    split
    · rename_i hr; exact (turn_good h hr).2.2.2.2
    · rename_i hr; exact turn_fail h hr
  · simp only [note, doS, hk]; simp; exact h.crash _
  · simp only [note, doS, hk]; simp; exact h.of_same rfl rfl rfl
  · simp only [note, doS, hk]; simp; exact ⟨h.1, fun hd => by cases hd⟩
  · simp only [note, doS, hk]; simp; exact h
  · simp only [note, doS, hk]; simp; exact h
  · simp only [note, doS, hk]; simp; exact h.of_same rfl rfl rfl
/-- The files are valid where the law looks. -/
theorem note_files {SF : Nat → List UInt8} {S : DS} {x : Act} (h : Inv SF S) (h0 : (doS S x).1.2 = 0) :
    (pickS x.kd = 2 → (0 ≤ x.f ∧ x.f < 8) ∧ (doS S x).2.down = false) ∧ (pickS x.kd = 3 → (0 ≤ x.f ∧ x.f < 8) ∧ 0 ≤ x.n ∧ (doS S x).2.down = false) ∧ (pickS x.kd = 4 → (0 ≤ x.f ∧ x.f < 8) ∧ (0 ≤ x.g ∧ x.g < 8) ∧ (doS S x).2.down = false) := by
  refine ⟨fun hk => ?_, fun hk => ?_, fun hk => ?_⟩
  · simp only [doS, hk] at h0 ⊢; simp at h0 ⊢
    exact ⟨(flush_good h h0).1, (flush_good h h0).2.1⟩
  · simp only [doS, hk] at h0 ⊢; simp at h0 ⊢
    exact ⟨(cut_good h h0).1, (cut_good h h0).2.1, (cut_good h h0).2.2.1⟩
  · simp only [doS, hk] at h0 ⊢; simp at h0 ⊢
    exact ⟨(turn_good h h0).1, (turn_good h h0).2.1, (turn_good h h0).2.2.2.1⟩
theorem doS_ok {S : DS} {x : Act} (h : S.Ok) (hn : x.n < 9223372036854775808) (hp : x.kp.length ≤ 4398046511104) : (doS S x).2.Ok := by
  unfold doS
  split
  · exact h.append _ _
  · split
    · exact h.flush _
    · split
      · exact h.cut _ _
      · split
        · exact h.turn _ _
        · split
          · exact h.crash _
          · split
            · obtain ⟨k1, k2, k3, k4⟩ := h
              exact ⟨k1, by show 0 ≤ max x.n 0; omega, by show max x.n 0 < _; omega, k4⟩
            · split
              · exact h
              · split
                · exact h
                · split
                  · obtain ⟨k1, k2, k3, k4, k5, k6⟩ := h
                    exact ⟨k1, k2, k3, by show 0 ≤ max x.n 0; omega, by show max x.n 0 < _; omega, hp⟩
                  · exact h
end Go.Proofs.Ytnbaalllcddbkaa
