/- Package agoraref03: Sha. -/
import Derived.Test.YtllmgogcemannaaGreatDoorIsN
import Derived.Test.YtllmgogcemannaaGreatDoorIdJ
import Derived.Test.YtllmgogcemannaaGreatDoorOwnMP
namespace Go.Proofs.YtllmgogcemannaaGreatDoor
open Go.RowKit

theorem bytes_key (w : World) (s : List UInt8) (hs : s.length ≤ 1000000) : ∃ W1 cap, (convert 9 42 (.string ⟨s.toArray⟩)).run Tryz.prog w = .ok (.slice (some ⟨w.heap.size, 0, none⟩) s.length cap) W1 ∧ Hid (OwnM W1 w.heap.size 5 w.heap.size cap (u8s s)) ∧ Hid (Below w.heap.size w W1) := by
  have hz : (⟨s.toArray⟩ : ByteArray).size = s.length := by show s.toArray.size = _; simp
  have h := run_bytes_of_string (P := Tryz.prog) w 9 42 5 ⟨s.toArray⟩ Tryz.underlying9 Tryz.underlying42 Tryz.underlying5
  rw [hz] at h
  have hd : Below w.heap.size w w.drew := ⟨rfl, rfl, rfl, Nat.le_refl _, fun _ _ => rfl⟩
  exact ⟨_, _, h, Lib.hid (bytes_own w 5 s w.heap.size (Nat.le_refl _) hs), Lib.hid (hd.alloc (Nat.le_refl _) _)⟩
theorem u8s_128 (s : List UInt8) : u8s s ++ [.int .u8 128] = u8s (padB s 0) := by simp [u8s, padB]
theorem u8s_0 (s : List UInt8) (k : Nat) : u8s (padB s k) ++ [.int .u8 0] = u8s (padB s (k + 1)) := by rw [← padB_succ]; simp [u8s]
def slLen (v : Value) : Nat := match v with | .slice _ n _ => n | _ => 0
theorem shaT_get (s : List UInt8) : ∀ j q r, q < j → r < 4 → (shaT s j).getD (4 * q + r) 0 = (be4 (shaD s q)).getD r 0
  | 0, q, r, hq, _ => by omega
  | j + 1, q, r, hq, hr => by
    have hl := shaT_len s j
    rw [shaT, List.getD_eq_getElem?_getD]
    by_cases h : q < j
    · rw [List.getElem?_append_left (by omega), ← List.getD_eq_getElem?_getD]
      exact shaT_get s j q r h hr
    · obtain rfl : q = j := by omega
      rw [List.getElem?_append_right (by omega), hl, Nat.add_sub_cancel_left, ← List.getD_eq_getElem?_getD]
theorem sha_byte (s : List UInt8) {i : Nat} (h : i < 32) : shaD s (i / 4) / 2 ^ (24 - 8 * (i % 4)) % 256 = (((shaF8 s).getD i 0).toNat : Int) ∧ (shaF8 s).take (i + 1) = (shaF8 s).take i ++ [(shaF8 s).getD i 0] := by
  have hl := shaT_len s 8
  refine ⟨?_, ?_⟩
  · have hg := shaT_get s 8 (i / 4) (i % 4) (by omega) (by omega)
    rw [show 4 * (i / 4) + i % 4 = i by omega] at hg
    unfold shaF8
    rw [hg]
    obtain ⟨n, hn⟩ := Int.eq_ofNat_of_zero_le (shaD_range s (i / 4)).1
    have hn1 := (shaD_range s (i / 4)).2
    rw [hn] at hn1 ⊢
    have h4 : i % 4 = 0 ∨ i % 4 = 1 ∨ i % 4 = 2 ∨ i % 4 = 3 := by omega
    rcases h4 with h4 | h4 | h4 | h4 <;> rw [h4]
    · show (n : Int) / 16777216 % 256 = ((UInt8.ofNat (n / 16777216)).toNat : Int)
      rw [byteN]; omega
    · show (n : Int) / 65536 % 256 = ((UInt8.ofNat (n / 65536)).toNat : Int)
      rw [byteN]; omega
    · show (n : Int) / 256 % 256 = ((UInt8.ofNat (n / 256)).toNat : Int)
      rw [byteN]; omega
    · show (n : Int) / 1 % 256 = ((UInt8.ofNat n).toNat : Int)
      rw [byteN]; omega
  · have hi : i < (shaF8 s).length := by unfold shaF8; omega
    rw [List.take_succ_eq_append_getElem hi, List.getD_eq_getElem?_getD, List.getElem?_eq_getElem hi]; rfl
theorem shaT_len' (s : List UInt8) : (shaF8 s).length = 32 := shaT_len s 8
/-- Two own rows of unlike elements: what is appended to the one leaves the other. -/
theorem own_apart {w w' : World} {B : Nat} {e f : TypeId} {g c c' : Nat} {A : Option Addr} {xs ys : List Value} (h : OwnS w B e (some ⟨g, 0, none⟩) c xs) (hg : w.grownBy w' (A.map (·.block))) (k : OwnS w B f A c' ys) (hne : e ≠ f) : OwnS w' B e (some ⟨g, 0, none⟩) c xs := by
  refine h.kept hg fun g1 hA e1 => ?_
  injection hA with hA; injection hA with hA
  subst hA
  rcases h.2 with ⟨h0, _⟩ | ⟨g', cap, cur, hv, _, hh, _⟩
  · simp at h0
  · injection hv with h1; injection h1 with h1; injection h1 with h1
    subst h1
    cases A with
    | none => cases e1
    | some a =>
      simp only [Option.map_some, Option.some.injEq] at e1
      rcases k.2 with ⟨k0, _⟩ | ⟨g2, cap2, cur2, kv, _, kh, _⟩
      · simp at k0
      · injection kv with k1; injection k1 with k1
        subst k1
        simp only at e1
        subst e1
        rw [hh] at kh
        injection kh with kh
        injection kh with _ kh
        exact hne kh
theorem one1 (x : Int) : ∀ u ∈ ([.int .u8 x] : List Value), u.oneCell' = true := by
  intro u hu; rw [List.mem_singleton.1 hu]; rfl
set_option maxRecDepth 100000 in
set_option maxHeartbeats 8000000 in
theorem rsha_any (s : List UInt8) (w : World) (hs : s.length ≤ 1000000) :
    Calls Tryz.prog 24 #[.string ⟨s.toArray⟩] w fun e w' => e = .returned (.string ⟨(shaF8 s).toArray⟩) ∧ Below w.heap.size w w' := by
  obtain ⟨W1, cap, hconv, OM, B1⟩ := bytes_key w s hs
  have hl := Lib.hid (u8s_length s)
  have hB1 := B1.out.size
  have OX := Lib.hid (OM.out.later ((Below.refl W1.heap.size W1).alloc (Nat.le_refl _) (.cells #[.int .u8 128] 5)))
  have BX := Lib.hid (B1.out.alloc hB1 (.cells #[.int .u8 128] 5))
  go_enter Tryz.func24, Tryz.ntmps24
  go_wp2_with (at_builtin; refine wpList_pushOM (by rfl) (.tmp 11) (.tmp 12) 42 (by rfl) w.heap.size 5 (.int .u8 0) 1 Tryz.underlying42 Tryz.info_u8 (by rfl) w.heap.size cap s.length (s.length + 1) (u8s s) hl.out (by rfl) OX.out ⟨W1.heap.size, 0, none⟩ 1 1 [.int .u8 128] (by rfl) (by rfl) ?hu (one1 _) (by rfl) ?hn BX.out.size ?_; (case hu => (intro j u hu; rw [add_at]; obtain ⟨rfl, rfl⟩ := get_one hu; exact cell_new W1 _ _)); (case hn => omega); intro g2 c2 w2 o2 k2)
  have B2 := Lib.hid (k2.out _ BX.out)
  have O2 := Lib.hid (show OwnM w2 w.heap.size 5 g2 c2 (u8s (padB s 0)) by rw [← u8s_128]; exact o2.out)
  clear o2 k2 OX BX B1 OM hconv hB1
  go_loopw [3] (fun p wr => ∃ (k g c : Nat), p = .slice (some ⟨g, 0, none⟩) (s.length + 1 + k) c ∧ k ≤ padZ s.length ∧ Hid (OwnM wr w.heap.size 5 g c (u8s (padB s k))) ∧ Hid (Below w.heap.size w wr)) (fun p _ => s.length + 1 + padZ s.length - slLen p)
  case atStart => exact ⟨0, g2, c2, rfl, by omega, O2, Lib.hid B2⟩
  case round =>
    clear O2 B2
    obtain ⟨k, g, c, rfl, hk, O, B⟩ := hrel
    have hzl := padZ_lt s.length
    have hbz := B.out.size
    by_cases hkz : k < padZ s.length
    · have hne := padZ_mod s.length k hkz
      have hne' : ¬ ((s.length : Int) + 1 + k) % 64 = 56 := by omega
      have hlp := Lib.hid (show (u8s (padB s k)).length = s.length + 1 + k by rw [u8s_length, padB_len])
      have OX := Lib.hid (O.out.later ((Below.refl wr.heap.size wr).alloc (Nat.le_refl _) (.cells #[.int .u8 0] 5)))
      have BX := Lib.hid (B.out.alloc hbz (.cells #[.int .u8 0] 5))
      clear hne
      go_wp2_with (at_builtin; refine wpList_pushOM (by rfl) (.tmp 18) (.tmp 19) 42 (by rfl) w.heap.size 5 (.int .u8 0) 1 Tryz.underlying42 Tryz.info_u8 (by rfl) g c (s.length + 1 + k) (s.length + 1 + (k + 1)) (u8s (padB s k)) hlp.out (by rfl) OX.out ⟨wr.heap.size, 0, none⟩ 1 1 [.int .u8 0] (by rfl) (by rfl) ?hu (one1 _) (by rfl) ?hn BX.out.size ?_; (case hu => (intro j u hu; rw [add_at]; obtain ⟨rfl, rfl⟩ := get_one hu; exact cell_new wr _ _)); (case hn => omega); intro g3 c3 w3 o3 k3)
      go_roundw
      case rel => exact ⟨k + 1, g3, c3, rfl, by omega, Lib.hid (by rw [← u8s_0]; exact o3.out), Lib.hid (k3.out _ BX.out)⟩
      case measure => show _ - slLen (.slice _ _ _) < _ - slLen (.slice _ _ _); simp only [slLen]; omega
    · obtain rfl : k = padZ s.length := by omega
      have he := padZ_end s.length
      have he' : ((s.length : Int) + 1 + padZ s.length) % 64 = 56 := by omega
      replace O := Lib.hid (show OwnM wr w.heap.size 5 g c (u8s (padB s (padZ s.length) ++ be8 (s.length * 8) 0)) by rw [be8, List.append_nil]; exact O.out)
      go_wp2_with fail
      generalize Value.bool (((s.length : Int) + 1 + (padZ s.length : Int)) % 64 != 56) = v17
      clear he he' hkz hbz
      have HPL := Lib.hid (padB_len s (padZ s.length))
      revert wr
      intro wo B O
      go_loopw [3, 5] (fun p i wr => ∃ (j g c : Nat), p = .slice (some ⟨g, 0, none⟩) (s.length + 1 + padZ s.length + j) c ∧ i = .int .i64 (56 - 8 * j) ∧ j ≤ 8 ∧ Hid (OwnM wr w.heap.size 5 g c (u8s (padB s (padZ s.length) ++ be8 (s.length * 8) j))) ∧ Hid (Below w.heap.size w wr)) (fun _ i _ => (intOf i + 8).toNat)
      case atStart => exact ⟨0, g, c, rfl, rfl, by omega, O, B⟩
      case round =>
        clear O B
        obtain ⟨j, g, c, rfl, rfl, hj, O, B⟩ := hrel
        have hbz := B.out.size
        by_cases hj8 : j < 8
        · have hj8' : (0 : Int) ≤ 56 - 8 * j := by omega
          have hb := Lib.hid (show 8 * (s.length : Int) / 2 ^ (56 - 8 * j) % 256 = ((UInt8.ofNat (s.length * 8 / 2 ^ (56 - 8 * j))).toNat : Int) by rw [Int.mul_comm]; exact be8_byte s.length j)
          have hlp := Lib.hid (show (u8s (padB s (padZ s.length) ++ be8 (s.length * 8) j)).length = s.length + 1 + padZ s.length + j by rw [u8s_length, List.length_append, HPL.out, be8_len])
          have OX := Lib.hid (O.out.later ((Below.refl wr.heap.size wr).alloc (Nat.le_refl _) (.cells #[.int .u8 (8 * (s.length : Int) / 2 ^ (56 - 8 * j) % 256)] 5)))
          have BX := Lib.hid (B.out.alloc hbz (.cells #[.int .u8 (8 * (s.length : Int) / 2 ^ (56 - 8 * j) % 256)] 5))
          go_wp2_with (at_builtin; refine wpList_pushOM (by rfl) (.tmp 29) (.tmp 34) 42 (by rfl) w.heap.size 5 (.int .u8 0) 1 Tryz.underlying42 Tryz.info_u8 (by rfl) g c (s.length + 1 + padZ s.length + j) (s.length + 1 + padZ s.length + (j + 1)) (u8s (padB s (padZ s.length) ++ be8 (s.length * 8) j)) hlp.out (by rfl) OX.out ⟨wr.heap.size, 0, none⟩ 1 1 [.int .u8 (8 * (s.length : Int) / 2 ^ (56 - 8 * j) % 256)] (by rfl) (by rfl) ?hu (one1 _) (by rfl) ?hn BX.out.size ?_; (case hu => (intro j u hu; rw [add_at]; obtain ⟨rfl, rfl⟩ := get_one hu; exact cell_new wr _ _)); (case hn => omega); intro g3 c3 w3 o3 k3)
          go_roundw
          case rel => exact ⟨j + 1, g3, c3, rfl, by go_num, by omega, Lib.hid (by have h := o3.out; rw [hb.out] at h; rw [be8, ← List.append_assoc, u8s_snoc]; exact h), Lib.hid (k3.out _ BX.out)⟩
          case measure => simp [intOf]; omega
        · obtain rfl : j = 8 := by omega
          have h0 : ¬ (0 : Int) ≤ 56 - 8 * (8 : Nat) := by omega
          replace O := Lib.hid (show OwnM wr w.heap.size 5 g c (u8s (padF s)) from O.out)
          have HF := Lib.hid (fun w1 => firsts_any w1)
          go_wp2_with fail
          refine (HF.out _).mono ?_; rintro e w5 ⟨rfl, rfl⟩
          go_wp2_with fail
          have HN : Hid ((padF s).length = s.length + 1 + padZ s.length + 8) := Lib.hid (padF_len s)
          have HM := Lib.hid (padF_mod s)
          have hcN := Lib.hid (show (padF s).length ≤ c by obtain ⟨cur, fz, _, _, _, hn, _⟩ := O.out; rwa [u8s_length] at hn)
          have BA := Lib.hid (B.out.alloc hbz (.cells (arrU 8 shaHI) 44))
          have OA := Lib.hid (O.out.later ((Below.refl wr.heap.size wr).alloc (Nat.le_refl _) (.cells (arrU 8 shaHI) 44)))
          have HA := Lib.hid (show OwnS (wr.alloc (.cells (arrU 8 shaHI) 44)) w.heap.size 44 (some ⟨wr.heap.size, 0, none⟩) 8 (uL 8 (shaS (padF s) 0)) from own_blk (Blk.new _ _ _) hbz (by decide))
          clear O B HF HPL
          go_loopw [6, 7] (fun h i wr => ∃ (k gh ch : Nat), h = .slice (some ⟨gh, 0, none⟩) 8 ch ∧ i = .int .i64 (64 * k) ∧ 64 * k ≤ (padF s).length ∧ Hid (OwnS wr w.heap.size 44 (some ⟨gh, 0, none⟩) ch (uL 8 (shaS (padF s) k))) ∧ Hid (OwnM wr w.heap.size 5 g c (u8s (padF s))) ∧ Hid (Below w.heap.size w wr)) (fun _ i _ => (padF s).length - (intOf i).toNat)
          case atStart => exact ⟨0, _, 8, rfl, rfl, by omega, HA, OA, BA⟩
          case round =>
            clear HA OA BA
            obtain ⟨k, gh, ch, rfl, rfl, hk, OH, OP, B⟩ := hrel
            have hbz := B.out.size
            have hNN := HN.out
            by_cases hlt : 64 * k < (padF s).length
            · have hlt64 : 64 * k + 64 ≤ (padF s).length := by have := HM.out; omega
              have hc64 : 64 * k + 64 ≤ c := by have := hcN.out; omega
              have q0 : (0 : Int) ≤ 64 * (k : Int) := by omega
              have q1 : 64 * (k : Int) < (s.length : Int) + 1 + (padZ s.length : Int) + 8 := by omega
              have q2 : 64 * (k : Int) + 64 ≤ (c : Int) := by omega
              have q3 : 64 * (k : Int) ≤ 64 * (k : Int) + 64 := by omega
              have q4 : ¬ c = 64 * k := by omega
              have q5 : (64 * (k : Int)).toNat = 64 * k := by omega
              have q6 : (64 * (k : Int) + 64).toNat = 64 * k + 64 := by omega
              have hblk : (((padF s).drop (64 * k)).take 64).length = 64 := by rw [List.length_take, List.length_drop]; omega
              have HNX := Lib.hid (next_any (some ⟨gh, 0, none⟩) (some ⟨g, 64 * k, none⟩) ch (c - 64 * k) wr.heap.size (((padF s).drop (64 * k)).take 64) (shaS (padF s) k) wr OH.out.row (fun _ => ⟨g, 64 * k, rfl, OP.out.row, fun j hj => OP.out.cell (by
                  rw [u8s_length, hblk] at hj
                  simp only [u8s, List.getElem?_map, List.getElem_map, List.getElem_take, List.getElem_drop]
                  rw [List.getElem?_eq_getElem (by omega)]
                  rfl)⟩) (Nat.le_refl _) hblk (shaS_range (padF s) k))
              have HSS := Lib.hid (show shaS (padF s) (k + 1) = stepA (((padF s).drop (64 * k)).take 64) (shaS (padF s) k) from rfl)
              clear hblk hNN hlt
              go_wp2_with fail
              refine HNX.out.mono ?_; rintro e w6 ⟨C, x, rfl, OC, bC⟩
              obtain ⟨gc, hC, _, _, _⟩ := OC.form (by rw [uL_length]; omega)
              subst hC
              have OC2 := Lib.hid (show OwnS w6 w.heap.size 44 (some ⟨gc, 0, none⟩) x (uL 8 (shaS (padF s) (k + 1))) by rw [HSS.out]; exact OC.mono hbz)
              have OP2 := Lib.hid (OP.out.later bC)
              have B2 := Lib.hid (B.out.trans (bC.mono hbz))
              clear OC bC HNX HSS OH OP B
              go_wp2_with fail
              go_roundw
              case rel => exact ⟨k + 1, gc, x, rfl, by go_num, by omega, OC2, OP2, B2⟩
              case measure => simp [intOf]; omega
            · have hkN : 64 * k = (padF s).length := by omega
              have HFI := Lib.hid (show shaS (padF s) k = shaD s by rw [show k = (padF s).length / 64 by omega]; rfl)
              rw [HFI.out] at OH
              have hx : ¬ 64 * (k : Int) < (s.length : Int) + 1 + (padZ s.length : Int) + 8 := by omega
              have HR := Lib.hid (shaD_range s)
              have HB8 := Lib.hid (fun i (h : i < 32) => sha_byte s h)
              clear OP HFI hkN hNN
              go_wp2_with fail
              revert wr
              intro wo OH B hbz
              go_loopw [8, 9] (fun v i wr => ∃ (i' : Nat) (A' : Option Addr) (c' : Nat), v = .slice A' i' c' ∧ i = .int .i64 i' ∧ i' ≤ 32 ∧ Hid (OwnS wr w.heap.size 5 A' c' (u8s ((shaF8 s).take i'))) ∧ Hid (OwnS wr w.heap.size 44 (some ⟨gh, 0, none⟩) ch (uL 8 (shaD s))) ∧ Hid (Below w.heap.size w wr)) (fun _ i _ => 32 - (intOf i).toNat)
              case atStart => exact ⟨0, none, 0, rfl, rfl, by omega, Lib.hid (OwnS.nil _ _ _), OH, B⟩
              case round =>
                clear OH B hbz
                obtain ⟨i, A', c', rfl, rfl, hi, O, OH, B⟩ := hrel
                have hbz := B.out.size
                by_cases hi32 : i < 32
                · have hi1 : (i : Int) < 32 := by omega
                  have hi0 : 0 ≤ (i : Int) := by omega
                  have p0 : 0 ≤ (i : Int) / 4 := by omega
                  have p1 : (i : Int) / 4 < 8 := by omega
                  have p2 : ((i : Int) / 4).toNat = i / 4 := by omega
                  have ex := own_at OH.out (uL_at (shaD s) (show i / 4 < 8 by omega))
                  have xr := HR.out (i / 4)
                  obtain ⟨xr0, xr1⟩ := xr
                  have HBi := Lib.hid (HB8.out i hi32)
                  have hlp := Lib.hid (show (u8s ((shaF8 s).take i)).length = i by rw [u8s_length, List.length_take, shaT_len' s]; omega)
                  have OX := Lib.hid (O.out.alloc (.cells #[.int .u8 (shaD s (i / 4) / 2 ^ (24 - 8 * (i % 4)) % 256)] 5))
                  have BX := Lib.hid (B.out.alloc hbz (.cells #[.int .u8 (shaD s (i / 4) / 2 ^ (24 - 8 * (i % 4)) % 256)] 5))
                  have E := Lib.hid ((Below.refl wr.heap.size wr).alloc (Nat.le_refl _) (.cells #[.int .u8 (shaD s (i / 4) / 2 ^ (24 - 8 * (i % 4)) % 256)] 5))
                  have HX0 := Lib.hid (OH.out.later E.out)
                  go_wp2_with (at_builtin; refine wpList_pushS (by rfl) (.tmp 54) (.tmp 66) 42 (by rfl) w.heap.size 5 (.int .u8 0) 1 Tryz.underlying42 Tryz.info_u8 (by rfl) A' c' i (i + 1) (u8s ((shaF8 s).take i)) hlp.out (by rfl) OX.out ⟨wr.heap.size, 0, none⟩ 1 1 [.int .u8 (shaD s (i / 4) / 2 ^ (24 - 8 * (i % 4)) % 256)] (by rfl) (by rfl) ?hu (one1 _) (by rfl) ?hn BX.out.size ?_; (case hu => (intro j u hu; rw [add_at]; obtain ⟨rfl, rfl⟩ := get_one hu; exact cell_new wr _ _)); (case hn => omega); intro A3 c3 w3 o3 k3 g3)
                  go_roundw
                  case rel => exact ⟨i + 1, A3, c3, rfl, by go_num, by omega, Lib.hid (by have h := o3.out; rw [HBi.out.1] at h; rw [HBi.out.2, u8s_snoc]; exact h), Lib.hid (own_apart HX0.out g3.out OX.out (by decide)), Lib.hid (k3.out _ BX.out)⟩
                  case measure => simp [intOf]; omega
                · obtain rfl : i = 32 := by omega
                  have hi1 : ¬ ((32 : Nat) : Int) < 32 := by omega
                  have hall : (shaF8 s).take 32 = shaF8 s := List.take_of_length_le (by rw [shaT_len' s]; exact Nat.le_refl _)
                  rw [hall] at O
                  have hcv := conv_own (n := 32) (dst := 9) Tryz.underlying42 Tryz.underlying5 Tryz.underlying9 O.out (shaT_len' s).symm
                  go_wp2_with fail
                  go_ret
                  exact ⟨rfl, B.out⟩
end Go.Proofs.YtllmgogcemannaaGreatDoor
