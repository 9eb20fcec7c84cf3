/- The walk of merkle.Sum. -/
import Derived.Test.YtefccfakhgdfbaaDoorPlain
import Derived.Deep.RegionWith
namespace Go.Proofs.YtefccfakhgdfbaaDoor
open Go.RowKit
theorem ret_agg {a b : Array Value} (h : a = b) : Ending.returned (.agg a) = .returned (.agg b) := by rw [h]
set_option maxHeartbeats 800000 in
theorem sum_any (v : Value) (ls : List (List UInt8)) (w : World) (h : BssAt w v ls) (hn : ls.length ≤ 1048576) (hm : ∀ l ∈ ls, l.length ≤ 9223372036854775807) :
    Calls Tryd.prog 81 #[v] w fun e w' => e = .returned (.agg (h8 (hash ls.flatten))) ∧ Below w.heap.size w w' := by
  have hW1 : Below w.heap.size w (w.alloc (.cells #[.int .u8 0, .int .u8 0, .int .u8 0, .int .u8 0, .int .u8 0, .int .u8 0, .int .u8 0, .int .u8 0] 62)) := (Below.refl _ _).alloc (Nat.le_refl _) _
  obtain ⟨vs, hlen, ⟨a, c, rfl, hcap, hc⟩, hall⟩ := h.below hW1
  have HL := Lib.hid hlen
  have HC := Lib.hid hc
  have HA := Lib.hid hall
  have HM := Lib.hid hm
  clear hc hall hlen hm h hW1
  go_enter Tryd.func81, Tryd.ntmps81
  go_wp2
  go_loop [3, 11] (fun x i => ∃ k : Nat, k ≤ ls.length ∧ i = .int .i64 k ∧ x = .int .u64 (hfold (ls.take k).flatten)) (fun _ i => ls.length - (intOf i).toNat)
  case atStart => exact ⟨0, by omega, rfl, rfl⟩
  case round =>
    obtain ⟨k, hk, rfl, rfl⟩ := hrel
    by_cases hlt : k < ls.length
    · obtain ⟨l, hl⟩ : ∃ s, ls[k]? = some s := ⟨_, List.getElem?_eq_getElem hlt⟩
      obtain ⟨u, hu⟩ : ∃ s, vs[k]? = some s := ⟨_, List.getElem?_eq_getElem (by rw [HL.out]; exact hlt)⟩
      obtain ⟨b, off, rfl, hcell⟩ := HC.out k u hu
      obtain ⟨a2, c2, rfl, hcap2, hc2⟩ := HA.out k u l hu hl
      have hb := HM.out l (List.mem_of_getElem? hl)
      obtain ⟨pre, hpre⟩ : ∃ p, p = (ls.take k).flatten := ⟨_, rfl⟩
      rw [← hpre]
      have HP := Lib.hid hpre
      have HL2 := Lib.hid hl
      have HU2 := Lib.hid hu
      have HC2 := Lib.hid hc2
      clear hl hu hc2 hpre
      go_wp2
      go_loop [3, 17] (fun x i => ∃ j : Nat, j ≤ l.length ∧ i = .int .i64 j ∧ x = .int .u64 (hfold (pre ++ l.take j))) (fun _ i => l.length - (intOf i).toNat)
      case atStart => exact ⟨0, by omega, rfl, by simp⟩
      case round =>
        obtain ⟨j, hj, rfl, rfl⟩ := hrel
        by_cases hjl : j < l.length
        · obtain ⟨x, hx⟩ : ∃ s, l[j]? = some s := ⟨_, List.getElem?_eq_getElem hjl⟩
          obtain ⟨b2, off2, rfl, hcell2⟩ := HC2.out j (u8 x) (by simp [hx])
          have hst : hfold (pre ++ l.take (j + 1)) = hstep (hfold (pre ++ l.take j)) x := by rw [take_snoc' hx, ← List.append_assoc, hfold_snoc]
          have HST := Lib.hid hst
          clear hst hx
          go_wp2
          go_round
          case rel => exact ⟨j + 1, by omega, by go_num, by rw [HST.out]; rfl⟩
          case measure => simp [intOf]; omega
        · have ht : l.take j = l := List.take_of_length_le (by omega)
          rw [ht]
          go_wp2
          go_round
          case rel => exact ⟨k + 1, by omega, by go_num, by rw [flatten_take_succ HL2.out, ← HP.out]⟩
          case measure => simp [intOf]; omega
    · have ht : ls.take k = ls := List.take_of_length_le (by omega)
      rw [ht]
      have hbd := hfold_bd ls.flatten
      obtain ⟨y, hy⟩ : ∃ y, y = hfold ls.flatten := ⟨_, rfl⟩
      rw [← hy] at hbd ⊢
      have HY := Lib.hid hy
      clear hy ht
      obtain ⟨hb0, hb1⟩ := hbd
      go_wp2
      refine wp_loop_rounds 9 ?_
      iterate 9
        rw [rounds_succ]
        go_wp2
      refine bodyPost_ret (v := .agg (h8 (hash ls.flatten))) ?_ rfl ⟨rfl, (Below.refl _ _).alloc (Nat.le_refl _) _⟩
      unfold hash
      rw [← HY.out, h8_hbytes]
      simp [results, Tryd.results81, go_sem]
      omega

theorem cells_block {w : World} {k n c : Nat} {vs : Array Value} {e : TypeId} {fz : Nat × Nat} (hcap : n ≤ c) (hk : w.heap[k]? = some (.cells vs e fz)) : Cells w (.slice (some ⟨k, 0, none⟩) n c) n vs.toList :=
  ⟨_, c, rfl, hcap, fun j x hx => ⟨k, 0, rfl, by simpa [World.cell?, hk] using hx⟩⟩
theorem h8_toList (h : Hsh) : (h8 h).toList = h.toList.map u8 := by simp only [h8, Array.toList_map]; rfl
theorem hashOf_bytes {w : World} {g : Nat} {h : Hsh} (hh : hashOf w g h) (c : Nat) (hcap : 8 ≤ c := by decide) : BytesAt w (.slice (some ⟨g, 0, none⟩) 8 c) h.toList := by
  have := cells_block (n := 8) (c := c) hcap hh
  rw [h8_toList] at this
  unfold BytesAt
  simpa using this
theorem hashOf_at {w : World} {g : Nat} {h : Hsh} (e : g = w.heap.size) : hashOf (w.alloc (.cells (h8 h) 62)) g h := by subst e; exact hashOf_new w h
theorem bss2 {w : World} {k c : Nat} {u1 u2 : Value} {e : TypeId} {fz : Nat × Nat} {l1 l2 : List UInt8} (hk : w.heap[k]? = some (.cells #[u1, u2] e fz)) (h1 : BytesAt w u1 l1) (h2 : BytesAt w u2 l2) (hcap : 2 ≤ c := by decide) :
    BssAt w (.slice (some ⟨k, 0, none⟩) 2 c) [l1, l2] := by
  refine ⟨(#[u1, u2] : Array Value).toList, rfl, cells_block hcap hk, ?_⟩
  intro j u l g1 g2
  match j, g1, g2 with
  | 0, g1, g2 => simp at g1 g2; subst g1 g2; exact h1
  | 1, g1, g2 => simp at g1 g2; subst g1 g2; exact h2
theorem bss3 {w : World} {k c : Nat} {u1 u2 u3 : Value} {e : TypeId} {fz : Nat × Nat} {l1 l2 l3 : List UInt8} (hk : w.heap[k]? = some (.cells #[u1, u2, u3] e fz)) (h1 : BytesAt w u1 l1) (h2 : BytesAt w u2 l2) (h3 : BytesAt w u3 l3) (hcap : 3 ≤ c := by decide) :
    BssAt w (.slice (some ⟨k, 0, none⟩) 3 c) [l1, l2, l3] := by
  refine ⟨(#[u1, u2, u3] : Array Value).toList, rfl, cells_block hcap hk, ?_⟩
  intro j u l g1 g2
  match j, g1, g2 with
  | 0, g1, g2 => simp at g1 g2; subst g1 g2; exact h1
  | 1, g1, g2 => simp at g1 g2; subst g1 g2; exact h2
  | 2, g1, g2 => simp at g1 g2; subst g1 g2; exact h3
theorem bytes1 {w : World} {k c : Nat} {x : UInt8} {e : TypeId} {fz : Nat × Nat} (hk : w.heap[k]? = some (.cells #[u8 x] e fz)) (hcap : 1 ≤ c := by decide) : BytesAt w (.slice (some ⟨k, 0, none⟩) 1 c) [x] := cells_block hcap hk
theorem node_bss (w : World) (a b : Hsh) (o : Obj) :
    BssAt (((((w.alloc (.cells (h8 a) 62)).alloc (.cells (h8 b) 62)).alloc o).alloc (.cells #[.int .u8 1] 5)).alloc
      (.cells #[.slice (some ⟨w.heap.size + 1 + 1 + 1, 0, none⟩) 1 1, .slice (some ⟨w.heap.size, 0, none⟩) 8 8, .slice (some ⟨w.heap.size + 1, 0, none⟩) 8 8] 65)).drew
      (.slice (some ⟨w.heap.size + 1 + 1 + 1 + 1, 0, none⟩) 3 3) [[1], a.toList, b.toList] := by
  have ha : hashOf ((((w.alloc (.cells (h8 a) 62)).alloc (.cells (h8 b) 62)).alloc o).alloc (.cells #[.int .u8 1] 5)) w.heap.size a := hashOf_old (hashOf_old (hashOf_old (hashOf_at rfl) _) _) _
  have hb : hashOf ((((w.alloc (.cells (h8 a) 62)).alloc (.cells (h8 b) 62)).alloc o).alloc (.cells #[.int .u8 1] 5)) (w.heap.size + 1) b := hashOf_old (hashOf_old (hashOf_at (by simp)) _) _
  refine BssAt.below (bss3 (fz := (0, 0)) (heap_alloc_new' _ _ _ (by simp)) ?_ ?_ ?_) (below_drew _)
  · exact (bytes1 (x := 1) (fz := (0, 0)) (heap_alloc_new' _ _ _ (by simp))).below (below_alloc _ _)
  · exact (hashOf_bytes ha _).below (below_alloc _ _)
  · exact (hashOf_bytes hb _).below (below_alloc _ _)
end Go.Proofs.YtefccfakhgdfbaaDoor
