/- The walks of merkle.Leaf, merkle.Node; small laws for arrays of eight bytes in regions that draw their order. -/
import Derived.Test.YtefccfakhgdfbaaDoorSum
import Derived.Laws.CopyOwn
namespace Go.Proofs.YtefccfakhgdfbaaDoor
open Go.RowKit
theorem info8 : (Tryd.prog.info? 62).map (·.size) = some 8 := by kernel_rfl
theorem h8_0 (a : Hsh) : (h8 a)[0]? = some (u8 a[0]) := by simp [h8]
theorem h8_1 (a : Hsh) : (h8 a)[1]? = some (u8 a[1]) := by simp [h8]
theorem h8_2 (a : Hsh) : (h8 a)[2]? = some (u8 a[2]) := by simp [h8]
theorem h8_3 (a : Hsh) : (h8 a)[3]? = some (u8 a[3]) := by simp [h8]
theorem h8_4 (a : Hsh) : (h8 a)[4]? = some (u8 a[4]) := by simp [h8]
theorem h8_5 (a : Hsh) : (h8 a)[5]? = some (u8 a[5]) := by simp [h8]
theorem h8_6 (a : Hsh) : (h8 a)[6]? = some (u8 a[6]) := by simp [h8]
theorem h8_7 (a : Hsh) : (h8 a)[7]? = some (u8 a[7]) := by simp [h8]
theorem h8_fold (a : Hsh) : (#[u8 a[0], u8 a[1], u8 a[2], u8 a[3], u8 a[4], u8 a[5], u8 a[6], u8 a[7]] : Array Value) = h8 a := by
  apply Array.ext
  · simp
  · intro i h1 h2
    have : i = 0 ∨ i = 1 ∨ i = 2 ∨ i = 3 ∨ i = 4 ∨ i = 5 ∨ i = 6 ∨ i = 7 := by simp at h1; omega
    rcases this with rfl | rfl | rfl | rfl | rfl | rfl | rfl | rfl <;> simp [h8]
theorem h8_list (a : Hsh) : (h8 a).toList = [u8 a[0], u8 a[1], u8 a[2], u8 a[3], u8 a[4], u8 a[5], u8 a[6], u8 a[7]] := by
  rw [← h8_fold]
theorem run_store8 {P : Program} {w : World} {g : Nat} (k : Hsh) (h : Is8 w g) : Sem.run P (storeCells ⟨g, 0, none⟩ (h8 k).toList) w = .ok () (w.setRow g (h8 k)) := by
  obtain ⟨h0, hh⟩ := h
  have hst := run_storeCells_at P g 0 62 (h8 k).toList 0 (h8 h0) w hh (by simp) (fun u hu => by
    have := h8_one k
    rw [Array.all_eq_true'] at this
    exact this u (by simpa using hu))
  simp only [Nat.zero_add, Nat.add_zero] at hst
  rw [hst]
  congr 2
  apply Array.ext'
  simp
theorem bcell {W w1 : World} (hb : Below W.heap.size W w1) : (∀ b o, b < W.heap.size → w1.cell? ⟨b, o, none⟩ = W.cell? ⟨b, o, none⟩) ∧ (∀ b o, b < W.heap.size → w1.frozen? ⟨b, o, none⟩ = W.frozen? ⟨b, o, none⟩) :=
  ⟨fun b o h => hb.cell (p := ⟨b, o, none⟩) h, fun b o h => hb.frozen (p := ⟨b, o, none⟩) h⟩
theorem below_nest5 (w : World) (a b c d e : Obj) : Below w.heap.size w (((((w.alloc a).alloc b).alloc c).alloc d).alloc e).drew :=
  ((((((Below.refl _ _).alloc (Nat.le_refl _) _).alloc (by simp) _).alloc (by simp; omega) _).alloc (by simp; omega) _).alloc (by simp; omega) _).drew
section
attribute [local go_sem] h8_0 h8_1 h8_2 h8_3 h8_4 h8_5 h8_6 h8_7 h8_fold h8_size run_store8
set_option maxHeartbeats 400000 in
theorem leaf_any (v : Value) (l : List UInt8) (w : World) (h : BytesAt w v l) (hn : l.length ≤ 9223372036854775807) :
    Calls Tryd.prog 63 #[v] w fun e w' => e = .returned (.agg (h8 (leafH l))) ∧ Below w.heap.size w w' := by
  obtain ⟨a, c, rfl⟩ : ∃ a c, v = .slice a l.length c := by obtain ⟨a, c, h1, _, _⟩ := h; exact ⟨a, c, h1⟩
  have HH := Lib.hid h
  clear h
  go_enter Tryd.func63, Tryd.ntmps63
  go_wp2_with fail
  refine (sum_any _ [[0], l] _ (bss2 (fz := (0, 0)) (heap_alloc_new' _ _ _ (by simp)) ?_ ?_) (by simp) (by simp; omega)).mono ?_
  · exact (bytes1 (x := 0) (fz := (0, 0)) (heap_alloc_new' _ _ _ (by simp))).below (below_alloc _ _)
  · exact ((HH.out.below (below_alloc _ _)).below (below_alloc _ _)).below (below_alloc _ _)
  rintro e w1 ⟨rfl, hb⟩
  go_wp2_with (first | (refine wpList_store8 rfl 62 _ _ rfl _ _ rfl rfl info8 ?_ ?_ ?_; rotate_left; focus ((repeat (first | (with_reducible assumption) | ((with_reducible refine hashOf_zero' ?_); (first | rfl | (simp; done) | (simp; omega))) | ((with_reducible refine hashOf_at ?_); (first | rfl | (simp; done) | (simp; omega))) | (with_reducible exact hashOf_set' ⟨_, by assumption⟩ _) | ((with_reducible refine hashOf_set' (Is8_zero ?_) _); (first | rfl | (simp; done) | (simp; omega))) | (with_reducible refine hashOf_old ?_ _) | ((with_reducible refine hashOf_other ?_ _ ?_); rotate_left; (focus (first | (simp; done) | (simp; omega) | omega))) | (with_reducible refine hashOf_drew ?_) | (with_reducible refine hashOf_below ?_ (by assumption)))); done)))

  have hz : hashOf w1 w.heap.size zero8 := by
    (repeat (first | (with_reducible assumption) | ((with_reducible refine hashOf_zero' ?_); (first | rfl | (simp; done) | (simp; omega))) | ((with_reducible refine hashOf_at ?_); (first | rfl | (simp; done) | (simp; omega))) | (with_reducible exact hashOf_set' ⟨_, by assumption⟩ _) | ((with_reducible refine hashOf_set' (Is8_zero ?_) _); (first | rfl | (simp; done) | (simp; omega))) | (with_reducible refine hashOf_old ?_ _) | ((with_reducible refine hashOf_other ?_ _ ?_); rotate_left; (focus (first | (simp; done) | (simp; omega) | omega))) | (with_reducible refine hashOf_drew ?_) | (with_reducible refine hashOf_below ?_ (by assumption))))
  refine ret8 w.heap.size (leafH l) rfl rfl _ Tryd.underlying62 info8 (by simpa [leafH] using hashOf_set hz _) rfl ⟨rfl, ?_⟩
  exact below_setRow ((((below_alloc w _).alloc (by simp) _).alloc (by simp; omega) _).trans (hb.mono (by simp; omega))) (by omega) _
set_option maxHeartbeats 400000 in
theorem node_any (a b : Hsh) (w : World) :
    Calls Tryd.prog 73 #[.agg (h8 a), .agg (h8 b)] w fun e w' => e = .returned (.agg (h8 (nodeH a b))) ∧ Below w.heap.size w w' := by
  go_enter Tryd.func73, Tryd.ntmps73
  go_wp2_with fail
  go_region_with (go_at_call 81; refine (sum_any _ _ _ (node_bss w a b _) (by simp) (by simp)).mono ?_; rintro e w1 ⟨rfl, hb⟩; have HB := Lib.hid hb; have hz : w.heap.size + 4 < w1.heap.size := (by have := hb.size; simp at this; omega); have hI8 : Is8 w1 (w.heap.size + 1 + 1) := ⟨zero8, hashOf_below (hashOf_drew (hashOf_old (hashOf_old (hashOf_zero' (by simp)) _) _)) hb⟩; clear hb)
  go_wp2
  obtain ⟨z, hz8⟩ := hI8
  refine ret8 (w.heap.size + 1 + 1) (nodeH a b) rfl rfl _ Tryd.underlying62 info8 (hashOf_set hz8 _) rfl ⟨rfl, ?_⟩
  exact below_setRow ((below_nest5 w _ _ _ _ _).trans (HB.out.mono (by simp; omega))) (by omega) _
end
end Go.Proofs.YtefccfakhgdfbaaDoor
