/- What the rows' condition on the library's variables gives the walks. -/
import Derived.Test.YtllmgogcemannaaGreatDoorNumTP
import Derived.Test.YtllmgogcemannaaGreatDoorRow
import Derived.SizedLaws
import Derived.Test.YtllmgogcemannaaGreatDoorTie
import Derived.LaidMore
import Derived.LaidLaws
import Derived.Lib.LaidTab
namespace Go.Proofs.YtllmgogcemannaaGreatDoor
open Go.RowKit

theorem arg_strD {H : Type} {enc : TypeId × Value → H} {P : Program} {W : World} {r : Reach} {base : Nat} {t : TypeId} {v : Value} {d : DataW H} {p : List MemPlace} (ht : P.underlying t = some .string) (hv : Value.okWide P W r base t v) (h : DataW.Trod enc P W 0 (fun _ => true) true t v d p) :
    ∃ l : List UInt8, v = .string ⟨l.toArray⟩ ∧ l.length ≤ maxLen ∧ d = .lit (.string l) := by
  obtain ⟨s, rfl, rfl, rfl, hs⟩ := Go.ChangeMaps.open_string ht hv h
  exact ⟨s.data.toList, rfl, by simpa using hs, rfl⟩
/-- No argument takes more than the reach. -/
theorem sized_str {H : Type} {P : Program} {ts : List TypeId} {ds : List (DataW H)} (h : (DataW.weightsEach P ts ds).all (· ≤ reachBytes) = true) {j : Nat} {t : TypeId} {l : List UInt8} {d : DataW H} (ht : ts[j]? = some t) (hd : ds[j]? = some d) (e : d = .lit (.string l)) : l.length ≤ 140737488351232 := by
  subst e
  exact sized_string h ht hd
theorem laidVars_at {P : Program} {w : World} : ∀ {l : List (String × DataW Unit)} {ps : List MemPlace}, DataW.LaidVars P w l ps → ∀ n d, (n, d) ∈ l →
    ∃ g t cs fuel p, P.globalNamed n = some g ∧ (P.globals[g]?).map (·.type) = some t ∧ w.var? P n = some cs ∧ DataW.trod (fun _ => ()) P w 0 (fun _ => true) false fuel t cs.toList = some (d, p)
  | [], _, _, n, d, hm => by simp at hm
  | (m, e) :: r, ps, h, n, d, hm => by
    obtain ⟨g, t, cs, fuel, p, q, h1, h2, h3, h4, h5, _⟩ := h
    rcases List.mem_cons.1 hm with hm | hm
    · injection hm with e1 e2
      subst e1 e2
      exact ⟨g, t, cs, fuel, p, h1, h2, h3, h4⟩
    · exact laidVars_at h5 n d hm

theorem Tryz.isSyn : Tryz.prog.globalNamed "strconv.ErrSyntax" = some 1 := by kernel_rfl
theorem Tryz.isRan : Tryz.prog.globalNamed "strconv.ErrRange" = some 2 := by kernel_rfl
theorem Tryz.tSyn : (Tryz.prog.globals[1]?).map (·.type) = some 39 := by kernel_rfl
theorem Tryz.tRan : (Tryz.prog.globals[2]?).map (·.type) = some 39 := by kernel_rfl
theorem Tryz.tPow : (Tryz.prog.globals[5]?).map (·.type) = some 114 := by kernel_rfl

theorem iface_cell {w : World} {n : String} {g : Nat} {fuel : Nat} {d : DataW Unit} {nm : String} {p : List MemPlace} {cs : Array Value} {ms : Array (String × TypeId)} {t : TypeId} (hi : Tryz.prog.underlying t = some (.interface ms)) (hg : Tryz.prog.globalNamed n = some g) (hv : w.var? Tryz.prog n = some cs)
    (h : DataW.trod (fun _ => ()) Tryz.prog w 0 (fun _ => true) false fuel t cs.toList = some (.iface nm d, p)) : ∃ te pe, w.cell? ⟨g, 0, none⟩ = some (.iface te pe) := by
  obtain ⟨f1, u, v, hcs, _⟩ := iface_of_trod hi h
  refine ⟨u, v, ?_⟩
  have := World.var?_cell hg hv 0
  rw [Array.eq_one_of_toList hcs] at this
  simpa using this

theorem ld_of {W : World} {laid : List (String × DataW Unit)} (hh : (laid.filter fun x => x.2.handleName?.isSome) = []) (h1 : ("internal/strconv.uint64pow10", Rows.laid_internal_strconv_uint64pow10) ∈ laid) (h2 : ("strconv.ErrSyntax", Rows.laid_strconv_ErrSyntax) ∈ laid) (h3 : ("strconv.ErrRange", Rows.laid_strconv_ErrRange) ∈ laid)
    (h : laidMetH Tryz.prog laid W) : Ld W := by
  unfold laidMetH at h
  rw [hh] at h
  obtain ⟨ps, hv, _⟩ := h
  refine ⟨?_, ?_, ?_⟩
  · obtain ⟨g, t, cs, fuel, p, a1, a2, a3, a4⟩ := laidVars_at hv _ _ h1
    obtain rfl := Option.some.inj (Tryz.gpow.symm.trans a1)
    obtain rfl := Option.some.inj (Tryz.tPow.symm.trans a2)
    unfold Lib.TabIs
    rw [a3, ← Lib.cells_of_tab (k := .u64) (zs := Lib.pow10Tab) Tryz.underlying114 Tryz.underlying49 (by kernel_rfl) (by kernel_rfl) a4]
  · obtain ⟨g, t, cs, fuel, p, a1, a2, a3, a4⟩ := laidVars_at hv _ _ h2
    obtain rfl := Option.some.inj (Tryz.isSyn.symm.trans a1)
    obtain rfl := Option.some.inj (Tryz.tSyn.symm.trans a2)
    exact iface_cell Tryz.underlying39 Tryz.isSyn a3 a4
  · obtain ⟨g, t, cs, fuel, p, a1, a2, a3, a4⟩ := laidVars_at hv _ _ h3
    obtain rfl := Option.some.inj (Tryz.isRan.symm.trans a1)
    obtain rfl := Option.some.inj (Tryz.tRan.symm.trans a2)
    exact iface_cell Tryz.underlying39 Tryz.isRan a3 a4
end Go.Proofs.YtllmgogcemannaaGreatDoor
