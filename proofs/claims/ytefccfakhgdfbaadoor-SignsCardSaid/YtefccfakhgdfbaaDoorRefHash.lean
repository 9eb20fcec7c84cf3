/- The walks of tilesref.Hash, Leaf, Node. -/
import Derived.Test.YtefccfakhgdfbaaDoorSum
namespace Go.Proofs.YtefccfakhgdfbaaDoor
open Go.RowKit
/-- A hash as a text of eight bytes. -/
def HS (h : Hsh) : ByteArray := ⟨h.toArray⟩
/-- The block holds the cells of a hash (of whatever type). -/
def hashCells (w : World) (g : Nat) (h : Hsh) : Prop := (w.heap[g]?).map (fun | .cells c _ _ => c | _ => #[]) = some (h8 h)
theorem hashCells_bytes {w : World} {g : Nat} {h : Hsh} (hh : hashCells w g h) (c : Nat) (hcap : 8 ≤ c := by decide) : BytesAt w (.slice (some ⟨g, 0, none⟩) 8 c) h.toList := by
  unfold hashCells at hh
  rw [Option.map_eq_some_iff] at hh
  obtain ⟨o, ho, hc⟩ := hh
  cases o <;> simp at hc
  case cells cs e fz =>
    subst hc
    have := cells_block (n := 8) (c := c) hcap ho
    rw [h8_toList] at this
    unfold BytesAt
    simpa using this
  all_goals (have := congrArg Array.size hc; simp at this)
set_option maxHeartbeats 1000000 in
theorem rhash_any (s : ByteArray) (w : World) (hs : s.size ≤ 1099511627776) :
    Calls Tryd.prog 51 #[.string s] w fun e w' => e = .returned (.string (HS (hash s.data.toList))) ∧ Below w.heap.size w w' := by
  have hmk : ∀ w, (Instr.makeSlice 65 (.int .i64 8) (.int .i64 8)).run Tryd.prog w = .ok (.slice (some ⟨w.heap.size, 0, none⟩) 8 8) (w.alloc (.cells #[.int .u8 0, .int .u8 0, .int .u8 0, .int .u8 0, .int .u8 0, .int .u8 0, .int .u8 0, .int .u8 0] 5)) := fun _ => by kernel_rfl
  go_enter Tryd.func51, Tryd.ntmps51
  go_wp2
  go_loop [3, 4] (fun x i => ∃ k : Nat, k ≤ s.size ∧ i = .int .i64 k ∧ x = .int .u64 (hfold (s.data.toList.take k))) (fun _ i => s.size - (intOf i).toNat)
  case atStart => exact ⟨0, by omega, rfl, rfl⟩
  case round =>
    obtain ⟨k, hk, rfl, rfl⟩ := hrel
    by_cases hlt : k < s.size
    · have hst : hfold (s.data.toList.take (k + 1)) = hstep (hfold (s.data.toList.take k)) s[k] := by rw [take_snoc' (x := s[k]) (by simp [hlt]; rfl), hfold_snoc]
      have HST := Lib.hid hst
      clear hst
      go_wp2
      go_round
      case rel => exact ⟨k + 1, by omega, by go_num, by rw [HST.out]; rfl⟩
      case measure => simp [intOf]; omega
    · have ht : s.data.toList.take k = s.data.toList := List.take_of_length_le (by simp; omega)
      rw [ht]
      have hbd := hfold_bd s.data.toList
      obtain ⟨y, hy⟩ : ∃ y, y = hfold s.data.toList := ⟨_, rfl⟩
      rw [← hy] at hbd ⊢
      have HY := Lib.hid hy
      clear hy ht
      obtain ⟨hb0, hb1⟩ := hbd
      go_wp2
      refine wp_loop_rounds 9 ?_
      iterate 8
        rw [rounds_succ]
        go_wp2
      rw [rounds_succ]
      have d2 : y / 256 / 256 = y / 65536 := by omega
      have d3 : y / 65536 / 256 = y / 16777216 := by omega
      have d4 : y / 16777216 / 256 = y / 4294967296 := by omega
      have d5 : y / 4294967296 / 256 = y / 1099511627776 := by omega
      have d6 : y / 1099511627776 / 256 = y / 281474976710656 := by omega
      have d7 : y / 281474976710656 / 256 = y / 72057594037927936 := by omega
      have d8 : y / 72057594037927936 % 256 = y / 72057594037927936 := by omega
      have key : hashCells (w.alloc (.cells #[.int .u8 (y / 256 / 256 / 256 / 256 / 256 / 256 / 256), .int .u8 (y / 256 / 256 / 256 / 256 / 256 / 256 % 256), .int .u8 (y / 256 / 256 / 256 / 256 / 256 % 256), .int .u8 (y / 256 / 256 / 256 / 256 % 256), .int .u8 (y / 256 / 256 / 256 % 256), .int .u8 (y / 256 / 256 % 256), .int .u8 (y / 256 % 256), .int .u8 (y % 256)] 5)) w.heap.size (hash s.data.toList) := by
        unfold hashCells
        rw [heap_alloc_new' _ _ _ rfl]
        simp only [d2, d3, d4, d5, d6, d7]
        unfold hash
        rw [← HY.out, h8_hbytes, d8]
        rfl
      have KEY := Lib.hid key
      clear d2 d3 d4 d5 d6 d7 d8 key
      go_wp2_with (refine wpList_bs rfl 65 9 _ rfl _ Tryd.underlying65 Tryd.underlying5 Tryd.underlying9 _ ?_ rfl ?_ ?_; rotate_left; focus exact hashCells_bytes KEY.out 8)
      go_ret
      exact ⟨rfl, (Below.refl _ _).alloc (Nat.le_refl _) _⟩

theorem HS_size (h : Hsh) : (HS h).size = 8 := by simp [HS, ByteArray.size]
theorem HS_list (h : Hsh) : (HS h).data.toList = h.toList := rfl
theorem HS_inj {a b : Hsh} (h : HS a = HS b) : a = b := by
  have := congrArg ByteArray.data h
  exact Vector.toArray_inj.1 this
set_option maxHeartbeats 400000 in
theorem rleaf_any (s : ByteArray) (w : World) (hs : s.size ≤ 1099511627000) :
    Calls Tryd.prog 60 #[.string s] w fun e w' => e = .returned (.string (HS (leafH s.data.toList))) ∧ Below w.heap.size w w' := by
  have he : (({ data := #[0] } : ByteArray) ++ s).data.toList = 0 :: s.data.toList := by simp
  have HE := Lib.hid he
  clear he
  go_enter Tryd.func60, Tryd.ntmps60
  go_wp2_with fail
  refine (rhash_any _ _ (by simp only [ByteArray.size_append]; have : (ByteArray.mk #[0]).size = 1 := rfl; omega)).mono ?_
  rintro e w1 ⟨rfl, hb⟩
  rw [HE.out]
  go_wp2
  go_ret
  exact ⟨rfl, hb⟩
set_option maxHeartbeats 400000 in
theorem rnode_any (a b : ByteArray) (w : World) (ha : a.size ≤ 8) (hb : b.size ≤ 8) :
    Calls Tryd.prog 61 #[.string a, .string b] w fun e w' => e = .returned (.string (HS (hash (1 :: (a.data.toList ++ b.data.toList))))) ∧ Below w.heap.size w w' := by
  have he : (({ data := #[1] } : ByteArray) ++ a ++ b).data.toList = 1 :: (a.data.toList ++ b.data.toList) := by simp
  have HE := Lib.hid he
  clear he
  go_enter Tryd.func61, Tryd.ntmps61
  go_wp2_with fail
  refine (rhash_any _ _ (by simp only [ByteArray.size_append]; have : (ByteArray.mk #[1]).size = 1 := rfl; omega)).mono ?_
  rintro e w1 ⟨rfl, hb⟩
  rw [HE.out]
  go_wp2
  go_ret
  exact ⟨rfl, hb⟩
end Go.Proofs.YtefccfakhgdfbaaDoor
