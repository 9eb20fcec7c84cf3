/- The walks of files.Sign, tiles.Sign, plain.Sign. -/
import Derived.Test.YtefccfakhgdfbaaDoorHexed
import Derived.Test.YtefccfakhgdfbaaDoorFName
import Derived.Test.YtefccfakhgdfbaaDoorRSign
import Derived.Deep.RegionWith
import Derived.Deep.DeepCutAuto
import Derived.Deep.DeepMust
namespace Go.Proofs.YtefccfakhgdfbaaDoor
open Go.RowKit
/-- The cells of what is trusted. -/
abbrev trC (n : Int) (h : Hsh) : Array Value := #[.int .i64 n, bv h[0], bv h[1], bv h[2], bv h[3], bv h[4], bv h[5], bv h[6], bv h[7]]
abbrev trV (n : Int) (h : Hsh) : Value := .agg (trC n h)
theorem h8_lit (h : Hsh) : h8 h = #[bv h[0], bv h[1], bv h[2], bv h[3], bv h[4], bv h[5], bv h[6], bv h[7]] := by
  apply Array.ext
  · simp
  · intro i h1 h2
    simp at h2
    have : i = 0 ∨ i = 1 ∨ i = 2 ∨ i = 3 ∨ i = 4 ∨ i = 5 ∨ i = 6 ∨ i = 7 := by omega
    rcases this with rfl | rfl | rfl | rfl | rfl | rfl | rfl | rfl <;> simp [h8]
theorem hexed_lit (h : Hsh) (w : World) :
    Calls Tryd.prog 89 #[.agg #[bv h[0], bv h[1], bv h[2], bv h[3], bv h[4], bv h[5], bv h[6], bv h[7]]] w fun e w' => e = .returned (.string (sOf (hexOf h.toList))) ∧ Below w.heap.size w w' := by
  have := hexed_any h w
  rw [h8_lit] at this
  exact this
/-- A variable that holds what is trusted. -/
def TrAt (w : World) (g : Nat) (n : Int) (h : Hsh) : Prop := w.heap[g]? = some (.cells (trC n h) 77 (0, 0))
theorem TrAt.below {w w' : World} {g : Nat} {n : Int} {h : Hsh} (ht : TrAt w g n h) (hb : Below w.heap.size w w') : TrAt w' g n h := (hb.block g (lt_of_heap ht)).trans ht
theorem TrAt.cells {w : World} {g : Nat} {n : Int} {h : Hsh} (ht : TrAt w g n h) : w.cell? ⟨g, 0, none⟩ = some (.int .i64 n) ∧ w.cell? ⟨g, 1, none⟩ = some (bv h[0]) ∧ w.cell? ⟨g, 2, none⟩ = some (bv h[1]) ∧ w.cell? ⟨g, 3, none⟩ = some (bv h[2]) ∧ w.cell? ⟨g, 4, none⟩ = some (bv h[3]) ∧
    w.cell? ⟨g, 5, none⟩ = some (bv h[4]) ∧ w.cell? ⟨g, 6, none⟩ = some (bv h[5]) ∧ w.cell? ⟨g, 7, none⟩ = some (bv h[6]) ∧ w.cell? ⟨g, 8, none⟩ = some (bv h[7]) := by
  unfold TrAt at ht
  refine ⟨?_, ?_, ?_, ?_, ?_, ?_, ?_, ?_, ?_⟩ <;> simp [World.cell?, ht]
set_option maxHeartbeats 8000000 in
set_option maxRecDepth 100000 in
theorem fsign_any (n : Nat) (h : Hsh) (key : ByteArray) (w : World) (hn : n < 9223372036854775808) (hk : key.size ≤ 1048576) (hE : NumEnv w) :
    Calls Tryd.prog 68 #[trV n h, .string key] w fun e w' => e = .returned (.string (sOf (signOf n h key.data.toList))) ∧ Below w.heap.size w w' := by
  have hd : (dec n).length ≤ 19 := dec_len19 hn
  have hx : (hexOf h.toList).length = 16 := by rw [hexOf_len, toList_len]
  have T0 : TrAt (w.alloc (.cells (trC n h) 77)) w.heap.size n h := heap_alloc_new w _
  have HE := Lib.hid (hE.below (below_alloc w (.cells (trC n h) 77)))
  have HT := Lib.hid T0
  clear hE T0
  go_enter Tryd.func68, Tryd.ntmps68
  have c0 := (HT.out.below (below_drew _)).cells
  obtain ⟨k0, k1, k2, k3, k4, k5, k6, k7, k8⟩ := c0
  have hhead : (ByteArray.mk #[116, 105, 108, 101, 115, 10]) ++ sOf (dec n) ++ (ByteArray.mk #[10]) ++ sOf (hexOf h.toList) ++ (ByteArray.mk #[10]) = sOf (headOf n h) := by
    apply ByteArray.ext
    simp [headOf, kTiles]
  have HH := Lib.hid hhead
  clear hhead
  go_wp2_with fail
  go_cut [5] from 6 (fun s wx => s = .string (sOf (headOf n h)) ∧ Below w.heap.size w wx)
  case first =>
    go_region_with (first | (go_at_call 84; go_must (refine (itoa_any n _ hn (HE.out.below (below_drew _))).mono ?_; rintro e w1 ⟨rfl, hb1⟩; have HB1 := Lib.hid hb1; obtain ⟨j0, j1, j2, j3, j4, j5, j6, j7, j8⟩ := ((HT.out.below (below_drew _)).below hb1).cells; clear hb1)) | (go_at_call 89; go_must (refine (hexed_lit h _).mono ?_; rintro e w2 ⟨rfl, hb2⟩; have HB2 := Lib.hid hb2; clear hb2)))
    all_goals
      go_wp2_with fail
      go_meet
      exact ⟨by rw [HH.out], (((below_alloc w _).drew).trans (HB1.out.mono (below_alloc w (.cells (trC n h) 77)).size)).trans (HB2.out.mono (Nat.le_trans (below_alloc w (.cells (trC n h) 77)).size HB1.out.size))⟩
  case rest =>
    obtain ⟨rfl, hbc⟩ := hcut
    have HBC := Lib.hid hbc
    have hhl := (signOf_len n h key.data.toList hn).1
    clear hbc k0 k1 k2 k3 k4 k5 k6 k7 k8
    obtain ⟨hd', hdd⟩ : ∃ x, x = headOf n h := ⟨_, rfl⟩
    rw [← hdd] at hhl ⊢
    have HDD := Lib.hid hdd
    clear hdd
    go_wp2_with (first | (refine wpList_sb rfl 9 65 5 _ rfl Tryd.underlying9 Tryd.underlying65 Tryd.underlying5 rfl key rfl ?_; intro uk wk huk hbk hwk hvk; obtain ⟨bk, ck, rfl⟩ := hvk; have HUK := Lib.hid huk; have HBK := Lib.hid hbk; clear huk hbk hwk) | (refine wpList_sb rfl 9 65 5 _ rfl Tryd.underlying9 Tryd.underlying65 Tryd.underlying5 rfl (sOf hd') rfl ?_; intro us wsx hus hbs hws hvs; obtain ⟨bs', cs', rfl⟩ := hvs; have HUS := Lib.hid hus; have HBS := Lib.hid hbs; clear hus hbs hws))
    refine (sum_any _ [key.data.toList, [0], hd'] _ (bss3 (fz := (0, 0)) (heap_alloc_new' _ _ _ rfl) ?_ ?_ ?_) (by simp) (by simp; omega)).mono ?_
    · exact (((HUK.out.at.below (below_alloc _ _)).below HBS.out).below (below_alloc _ _))
    · exact (((bytes1 (x := 0) (fz := (0, 0)) (heap_alloc_new' _ _ _ rfl)).below HBS.out).below (below_alloc _ _))
    · exact HUS.out.at.below (below_alloc _ _)
    rintro e w3 ⟨rfl, hb3⟩
    have hfl : [key.data.toList, [0], hd'].flatten = key.data.toList ++ 0 :: hd' := by simp
    rw [hfl]
    have hbx := HBC.out.trans (HBK.out.mono HBC.out.size)
    have hby := hbx.alloc hbx.size (.cells #[.int .u8 0] 5)
    have hbz := hby.trans (HBS.out.mono hby.size)
    have hbw := hbz.alloc hbz.size (.cells #[.slice (some ⟨bk, 0, none⟩) key.size ck, .slice (some ⟨wk.heap.size, 0, none⟩) 1 1, .slice (some ⟨bs', 0, none⟩) hd'.length cs'] 65)
    have HB3 := Lib.hid (hbw.trans (hb3.mono hbw.size))
    clear hb3 hfl hbx hby hbz hbw
    obtain ⟨m, hm⟩ : ∃ m, m = hash (key.data.toList ++ 0 :: hd') := ⟨_, rfl⟩
    rw [← hm]
    have HM := Lib.hid hm
    have hx2 : (hexOf m.toList).length = 16 := by rw [hexOf_len, toList_len]
    clear hm
    go_wp2_with fail
    refine (hexed_any m _).mono ?_
    rintro e w4 ⟨rfl, hb4⟩
    have HB4 := Lib.hid (HB3.out.trans (hb4.mono HB3.out.size))
    clear hb4
    go_wp2
    go_ret
    refine ⟨ret_val (congrArg Value.string ?_), HB4.out⟩
    unfold signOf
    rw [← HDD.out, ← HM.out]
    apply ByteArray.ext
    simp
theorem trV_eq (n : Int) (h : Hsh) : trV n h = .agg (#[.int .i64 n] ++ h8 h) := by
  rw [h8_lit]
  rfl
end Go.Proofs.YtefccfakhgdfbaaDoor
