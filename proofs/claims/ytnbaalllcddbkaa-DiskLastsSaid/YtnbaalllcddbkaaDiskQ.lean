/- Package disk: what the steps do to a disk that is up and has no crash scheduled. -/
import Derived.Test.YtnbaalllcddbkaaDisk9
namespace Go.Proofs.Ytnbaalllcddbkaa

def DS.Up (S : DS) : Prop := S.down = false ∧ S.armed = 0
def DS.hard (S : DS) (f : Nat) : DS := { S with la := fun g => if g = f then (S.by_ g).length else S.la g }

theorem endsS_up {S : DS} (h : S.Up) : S.endsS = S := by unfold DS.endsS; rw [if_pos (.inr h.2)]
theorem endsR_no {S : DS} (h : S.Up) : S.endsR = false := by unfold DS.endsR; rw [h.2]; simp
theorem tick_up {S : DS} (h : S.Up) : S.tick = S := by unfold DS.tick; rw [endsR_no h, if_neg (by decide), endsS_up h]
theorem may_ok {S : DS} (h : S.down = false) {f : Nat} (hf : f < 8) : S.mayR [(f : Int)] = 0 := by
  unfold DS.mayR
  rw [if_neg (by rw [h]; decide), if_pos]
  simp [isB]; omega
theorem may_ok2 {S : DS} (h : S.down = false) {f g : Nat} (hf : f < 8) (hg : g < 8) : S.mayR [(f : Int), (g : Int)] = 0 := by
  unfold DS.mayR
  rw [if_neg (by rw [h]; decide), if_pos]
  simp [isB]; omega
theorem append_up {S : DS} (h : S.Up) {f : Nat} (hf : f < 8) {s : List UInt8} (hs : (S.by_ f).length + s.length ≤ 16777216) : S.appendS f s = (0, S.put f s) := by
  have hm := may_ok h.1 hf
  have he : S.appE f s = 0 := by
    unfold DS.appE
    rw [if_neg (by simp only [Int.toNat_natCast]; omega), hm]
  unfold DS.appendS
  rw [endsR_no h, if_neg (by decide), endsS_up h]
  unfold DS.appS
  rw [if_pos he, he]; simp
theorem flush_up {S : DS} (h : S.Up) (hl : S.lost = 0) {f : Nat} (hf : f < 8) : S.flushS f = (0, S.hard f) := by
  unfold DS.flushS
  rw [tick_up h, if_neg (by rw [may_ok h.1 hf]; decide), if_neg (by omega)]
  simp [DS.hard]
theorem flush_lost {S : DS} (h : S.Up) (hl : 0 < S.lost) {f : Nat} (hf : f < 8) : S.flushS f = (18, { S with lost := S.lost - 1 }) := by
  unfold DS.flushS
  rw [tick_up h, if_neg (by rw [may_ok h.1 hf]; decide), if_pos hl]
theorem turn_up {S : DS} (h : S.Up) {f g : Nat} (hf : f < 8) (hg : g < 8) (hne : f ≠ g) (hl : ¬ S.la g < (S.by_ g).length) : S.turnS f g = (0, S.turnTo f g) := by
  unfold DS.turnS
  rw [tick_up h, if_neg (by rw [may_ok2 h.1 hf hg]; decide), if_neg (by omega)]
  simp only [Int.toNat_natCast]
  rw [if_neg hl]
theorem turn_soft {S : DS} (h : S.Up) {f g : Nat} (hf : f < 8) (hg : g < 8) (hne : f ≠ g) (hl : S.la g < (S.by_ g).length) : S.turnS f g = (9, S) := by
  unfold DS.turnS
  rw [tick_up h, if_neg (by rw [may_ok2 h.1 hf hg]; decide), if_neg (by omega)]
  simp only [Int.toNat_natCast]
  rw [if_pos hl]
theorem read_up {S : DS} (h : S.down = false) {f : Nat} (hf : f < 8) : ReadsF S f = (S.by_ f, 0) := by
  unfold ReadsF
  rw [if_neg (by rw [may_ok h hf]; decide)]; simp
theorem init_up : DS.init.Up := ⟨rfl, rfl⟩
theorem put_up {S : DS} (h : S.Up) (f : Nat) (s : List UInt8) : (S.put f s).Up := h
theorem hard_up {S : DS} (h : S.Up) (f : Nat) : (S.hard f).Up := h
/-- What a crash and a start leave of a file. -/
theorem crash_by {S : DS} (h : S.down = false) (k : List Int) (f : Nat) : (S.crash k).by_ f = (S.by_ f).take (S.la f + keepN S k f) := by unfold DS.crash; rw [if_neg (by rw [h]; decide)]
theorem crash_by_hard {S : DS} (h : S.down = false) (k : List Int) (f : Nat) (hl : (S.by_ f).length ≤ S.la f) : (S.crash k).by_ f = S.by_ f := by
  rw [crash_by h, List.take_of_length_le (by omega)]
theorem crash_len {S : DS} (h : S.down = false) (k : List Int) (f : Nat) : ((S.crash k).by_ f).length ≤ (S.by_ f).length := by rw [crash_by h, List.length_take]; omega

end Go.Proofs.Ytnbaalllcddbkaa
