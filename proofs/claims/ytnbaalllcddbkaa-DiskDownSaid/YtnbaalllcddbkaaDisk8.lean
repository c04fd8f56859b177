/- Package disk: Copy. -/
import Derived.Test.YtnbaalllcddbkaaDisk1
import Derived.Laws.Rows
import Derived.Laws.Tables
namespace Go.Proofs.Ytnbaalllcddbkaa
open Go.RowKit

theorem setRow_blk (w : World) (z cs : Array Value) (t : TypeId) : Blk ((w.alloc (.cells z t)).setRow w.heap.size cs) w.heap.size t cs := by
  simp only [Blk, World.setRow, World.alloc]
  rw [Array.getElem?_modify, if_pos rfl]
  simp
theorem setRow_below (w : World) (z cs : Array Value) (t : TypeId) : Below w.heap.size w ((w.alloc (.cells z t)).setRow w.heap.size cs) := by
  refine ⟨rfl, rfl, rfl, by simp only [World.setRow, World.alloc]; rw [Array.size_modify, Array.size_push]; omega, fun k hk => ?_⟩
  have h : ¬ w.heap.size = k := by omega
  have h2 : ¬ k = w.heap.size := by omega
  simp only [World.setRow, World.alloc]
  rw [Array.getElem?_modify, if_neg h, Array.getElem?_push, if_neg h2]
theorem disk_size : (Try.prog.info? 77).map (·.size) = some 20 := by kernel_rfl

set_option maxRecDepth 100000 in
set_option maxHeartbeats 1000000 in
theorem copy_raw (b : Nat) (cs : Array Value) (w : World) (hb : Blk w b 77 cs) (hs : cs.size = 20) (h1 : cs.all (·.oneCell') = true) :
    Calls Try.prog 22 #[.pointer (some ⟨b, 0, none⟩)] w fun e w' => e = .returned (.pointer (some ⟨w.heap.size, 0, none⟩)) ∧ Blk w' w.heap.size 77 cs ∧ Below w.heap.size w w' := by
  have HI := Lib.hid (show (Try.prog.info? 77).map (·.size) = some cs.size by rw [hs]; exact disk_size)
  have HB := Lib.hid hb
  have H1 := Lib.hid h1
  have HS := Lib.hid hs
  clear hb hs h1
  go_enter Try.func22, Try.ntmps22
  go_wp2_with (first
    | (refine wpList_load_row rfl 77 _ rfl b rfl 77 cs (0, 0) _ HB.out Try.underlying77 rfl HI.out ?_)
    | (refine wpList_store_row rfl 77 _ _ rfl w.heap.size cs rfl rfl 77 _ (heap_alloc_new w _) HI.out ?_ H1.out ?_))
  · rw [HS.out]; rfl
  go_ret
  exact ⟨rfl, setRow_blk _ _ _ _, setRow_below _ _ _ _⟩

theorem dcells_one {cs : Array Value} {S : DS} {A : Option Addr} {c : Nat} (h : DCells cs S A c) : cs.all (·.oneCell') = true := by
  obtain ⟨h0, h1, h2, h3, h4, h5⟩ := h
  rw [Array.all_eq_true]
  intro i hi
  have key : ∀ v, cs[i]? = some v → v.oneCell' = true → cs[i].oneCell' = true := by
    intro v hv ho
    rw [Array.getElem?_eq_getElem hi] at hv
    injection hv with hv
    rw [hv]; exact ho
  by_cases h16 : i < 16
  · have hf := h1 (i / 2) (by omega)
    by_cases he : i % 2 = 0
    · have e : i / 2 * 2 = i := by omega
      rw [e] at hf
      exact key _ hf.1 rfl
    · have e : i / 2 * 2 + 1 = i := by omega
      rw [e] at hf
      exact key _ hf.2 rfl
  · have : i = 16 ∨ i = 17 ∨ i = 18 ∨ i = 19 := by omega
    rcases this with rfl | rfl | rfl | rfl
    · exact key _ h2 rfl
    · exact key _ h3 rfl
    · exact key _ h4 rfl
    · exact key _ h5 rfl

theorem copy_any (b : Nat) (S : DS) (w : World) (h : Dk w b S) :
    Calls Try.prog 22 #[.pointer (some ⟨b, 0, none⟩)] w fun e w' => e = .returned (.pointer (some ⟨w.heap.size, 0, none⟩)) ∧ Dk w' w.heap.size S ∧ Below w.heap.size w w' := by
  obtain ⟨cs, A, c, hb, hc, ho⟩ := h
  exact (copy_raw b cs w hb hc.1 (dcells_one hc)).mono fun _ _ ⟨h1, h2, h3⟩ => ⟨h1, ⟨cs, A, c, h2, hc, ho.later h3⟩, h3⟩

end Go.Proofs.Ytnbaalllcddbkaa
