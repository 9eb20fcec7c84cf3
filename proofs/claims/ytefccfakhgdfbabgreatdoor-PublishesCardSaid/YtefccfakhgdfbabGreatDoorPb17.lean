/-
  The walks of files.Sign, tiles.Sign, plain.Sign.
  The walk of tilesref.Root.
-/
import Derived.Test.YtefccfakhgdfbabGreatDoorPb15
import Derived.Test.YtefccfakhgdfbabGreatDoorPb06
import Derived.Test.YtefccfakhgdfbabGreatDoorPb16
import Derived.Deep.RegionWith
import Derived.Deep.DeepCutAuto
import Derived.Deep.DeepMust
import Derived.Test.YtefccfakhgdfbabGreatDoorPb04
import Derived.Test.YtefccfakhgdfbabGreatDoorPb12
import Derived.Test.YtefccfakhgdfbabGreatDoorPb07
set_option linter.unusedVariables false
set_option linter.unusedSimpArgs false
section
namespace Go.Proofs.YtefccfakhgdfbabGreatDoor
open Go.RowKit
/-- The cells of what is trusted. -/
abbrev trC (n : Int) (h : Hsh) : Array Value := #[.int .i64 n, bv h[0], bv h[1], bv h[2], bv h[3], bv h[4], bv h[5], bv h[6], bv h[7]]
abbrev trV (n : Int) (h : Hsh) : Value := .agg (trC n h)
theorem h8_lit (h : Hsh) : h8 h = #[bv h[0], bv h[1], bv h[2], bv h[3], bv h[4], bv h[5], bv h[6], bv h[7]] := by
  apply Array.ext
  · simp
  · intro i h1 h2
    simp at h2
    have : i = 0 ∨ i = 1 ∨ i = 2 ∨ i = 3 ∨ i = 4 ∨ i = 5 ∨ i = 6 ∨ i = 7 := by omega
    rcases this with rfl | rfl | rfl | rfl | rfl | rfl | rfl | rfl <;> simp [h8]
theorem hexed_lit (h : Hsh) (w : World) :
    Calls Tryz.prog 137 #[.agg #[bv h[0], bv h[1], bv h[2], bv h[3], bv h[4], bv h[5], bv h[6], bv h[7]]] w fun e w' => e = .returned (.string (sOf (hexOf h.toList))) ∧ Below w.heap.size w w' := by
  have := hexed_any h w
  rw [h8_lit] at this
  exact this
/-- A variable that holds what is trusted. -/
def TrAt (w : World) (g : Nat) (n : Int) (h : Hsh) : Prop := w.heap[g]? = some (.cells (trC n h) 111 (0, 0))
theorem TrAt.below {w w' : World} {g : Nat} {n : Int} {h : Hsh} (ht : TrAt w g n h) (hb : Below w.heap.size w w') : TrAt w' g n h := (hb.block g (lt_of_heap ht)).trans ht
theorem TrAt.cells {w : World} {g : Nat} {n : Int} {h : Hsh} (ht : TrAt w g n h) : w.cell? ⟨g, 0, none⟩ = some (.int .i64 n) ∧ w.cell? ⟨g, 1, none⟩ = some (bv h[0]) ∧ w.cell? ⟨g, 2, none⟩ = some (bv h[1]) ∧ w.cell? ⟨g, 3, none⟩ = some (bv h[2]) ∧ w.cell? ⟨g, 4, none⟩ = some (bv h[3]) ∧
    w.cell? ⟨g, 5, none⟩ = some (bv h[4]) ∧ w.cell? ⟨g, 6, none⟩ = some (bv h[5]) ∧ w.cell? ⟨g, 7, none⟩ = some (bv h[6]) ∧ w.cell? ⟨g, 8, none⟩ = some (bv h[7]) := by
  unfold TrAt at ht
  refine ⟨?_, ?_, ?_, ?_, ?_, ?_, ?_, ?_, ?_⟩ <;> simp [World.cell?, ht]
set_option maxHeartbeats 8000000 in
set_option maxRecDepth 100000 in
theorem fsign_any (n : Nat) (h : Hsh) (key : ByteArray) (w : World) (hn : n < 9223372036854775808) (hk : key.size ≤ 1048600) (hE : NumEnv w) :
    Calls Tryz.prog 81 #[trV n h, .string key] w fun e w' => e = .returned (.string (sOf (signOf n h key.data.toList))) ∧ Below w.heap.size w w' := by
  have hd : (dec n).length ≤ 19 := dec_len19 hn
  have hx : (hexOf h.toList).length = 16 := by rw [hexOf_len, toList_len]
  have T0 : TrAt (w.alloc (.cells (trC n h) 111)) w.heap.size n h := heap_alloc_new w _
  have HE := Lib.hid (hE.below (below_alloc w (.cells (trC n h) 111)))
  have HT := Lib.hid T0
  clear hE T0
  go_enter Tryz.func81, Tryz.ntmps81
  have c0 := (HT.out.below (below_drew _)).cells
  obtain ⟨k0, k1, k2, k3, k4, k5, k6, k7, k8⟩ := c0
  have hhead : (ByteArray.mk #[116, 105, 108, 101, 115, 10]) ++ sOf (dec n) ++ (ByteArray.mk #[10]) ++ sOf (hexOf h.toList) ++ (ByteArray.mk #[10]) = sOf (headOf n h) := by
    apply ByteArray.ext
    simp [headOf, kTiles]
  have HH := Lib.hid hhead
  clear hhead
  go_wp2_with fail
  go_cut [5] from 6 (fun s wx => s = .string (sOf (headOf n h)) ∧ Below w.heap.size w wx)
  case first =>
    go_region_with (first | (go_at_call 136; go_must (refine (itoa_any n _ hn (HE.out.below (below_drew _))).mono ?_; rintro e w1 ⟨rfl, hb1⟩; have HB1 := Lib.hid hb1; obtain ⟨j0, j1, j2, j3, j4, j5, j6, j7, j8⟩ := ((HT.out.below (below_drew _)).below hb1).cells; clear hb1)) | (go_at_call 137; go_must (refine (hexed_lit h _).mono ?_; rintro e w2 ⟨rfl, hb2⟩; have HB2 := Lib.hid hb2; clear hb2)))
    all_goals
      go_wp2_with fail
      go_meet
      exact ⟨by rw [HH.out], (((below_alloc w _).drew).trans (HB1.out.mono (below_alloc w (.cells (trC n h) 111)).size)).trans (HB2.out.mono (Nat.le_trans (below_alloc w (.cells (trC n h) 111)).size HB1.out.size))⟩
  case rest =>
    obtain ⟨rfl, hbc⟩ := hcut
    have HBC := Lib.hid hbc
    have hhl := (signOf_len n h key.data.toList hn).1
    clear hbc k0 k1 k2 k3 k4 k5 k6 k7 k8
    obtain ⟨hd', hdd⟩ : ∃ x, x = headOf n h := ⟨_, rfl⟩
    rw [← hdd] at hhl ⊢
    have HDD := Lib.hid hdd
    clear hdd
    go_wp2_with (first | (refine wpList_sb rfl 9 94 5 _ rfl Tryz.underlying9 Tryz.underlying94 Tryz.underlying5 rfl key rfl ?_; intro uk wk huk hbk hwk hvk; obtain ⟨bk, ck, rfl⟩ := hvk; have HUK := Lib.hid huk; have HBK := Lib.hid hbk; clear huk hbk hwk) | (refine wpList_sb rfl 9 94 5 _ rfl Tryz.underlying9 Tryz.underlying94 Tryz.underlying5 rfl (sOf hd') rfl ?_; intro us wsx hus hbs hws hvs; obtain ⟨bs', cs', rfl⟩ := hvs; have HUS := Lib.hid hus; have HBS := Lib.hid hbs; clear hus hbs hws))
    refine (sum_any _ [key.data.toList, [0], hd'] _ (bss3 (fz := (0, 0)) (heap_alloc_new' _ _ _ rfl) ?_ ?_ ?_) (by simp) (by simp; omega)).mono ?_
    · exact (((HUK.out.at.below (below_alloc _ _)).below HBS.out).below (below_alloc _ _))
    · exact (((bytes1 (x := 0) (fz := (0, 0)) (heap_alloc_new' _ _ _ rfl)).below HBS.out).below (below_alloc _ _))
    · exact HUS.out.at.below (below_alloc _ _)
    rintro e w3 ⟨rfl, hb3⟩
    have hfl : [key.data.toList, [0], hd'].flatten = key.data.toList ++ 0 :: hd' := by simp
    rw [hfl]
    have hbx := HBC.out.trans (HBK.out.mono HBC.out.size)
    have hby := hbx.alloc hbx.size (.cells #[.int .u8 0] 5)
    have hbz := hby.trans (HBS.out.mono hby.size)
    have hbw := hbz.alloc hbz.size (.cells #[.slice (some ⟨bk, 0, none⟩) key.size ck, .slice (some ⟨wk.heap.size, 0, none⟩) 1 1, .slice (some ⟨bs', 0, none⟩) hd'.length cs'] 94)
    have HB3 := Lib.hid (hbw.trans (hb3.mono hbw.size))
    clear hb3 hfl hbx hby hbz hbw
    obtain ⟨m, hm⟩ : ∃ m, m = hash (key.data.toList ++ 0 :: hd') := ⟨_, rfl⟩
    rw [← hm]
    have HM := Lib.hid hm
    have hx2 : (hexOf m.toList).length = 16 := by rw [hexOf_len, toList_len]
    clear hm
    go_wp2_with fail
    refine (hexed_any m _).mono ?_
    rintro e w4 ⟨rfl, hb4⟩
    have HB4 := Lib.hid (HB3.out.trans (hb4.mono HB3.out.size))
    clear hb4
    go_wp2
    go_ret
    refine ⟨ret_val (congrArg Value.string ?_), HB4.out⟩
    unfold signOf
    rw [← HDD.out, ← HM.out]
    apply ByteArray.ext
    simp
theorem trV_eq (n : Int) (h : Hsh) : trV n h = .agg (#[.int .i64 n] ++ h8 h) := by
  rw [h8_lit]
  rfl
end Go.Proofs.YtefccfakhgdfbabGreatDoor
end

section
namespace Go.Proofs.YtefccfakhgdfbabGreatDoor
open Go.RowKit
theorem strs_take {w : World} {b off n c k : Nat} {ss : List ByteArray} (h : StrsAt w (.slice (some ⟨b, off, none⟩) n c) ss) (hk : k ≤ ss.length) : StrsAt w (.slice (some ⟨b, off, none⟩) k c) (ss.take k) := by
  obtain ⟨a, c', hv, hcap, hc⟩ := h
  cases hv
  have hl : (ss.take k).length = k := by simp; omega
  unfold StrsAt
  rw [hl]
  refine ⟨_, c, rfl, by omega, fun j x hx => ?_⟩
  rw [List.map_take] at hx
  have hj : j < k := by have := (List.getElem?_eq_some_iff.1 hx).1; rw [List.length_take] at this; omega
  exact hc j x (by rwa [List.getElem?_take_of_lt hj] at hx)
theorem strs_drop {w : World} {b off n c k : Nat} {ss : List ByteArray} (h : StrsAt w (.slice (some ⟨b, off, none⟩) n c) ss) (hk : k ≤ ss.length) : StrsAt w (.slice (some ⟨b, off + k, none⟩) (n - k) (c - k)) (ss.drop k) := by
  obtain ⟨a, c', hv, hcap, hc⟩ := h
  cases hv
  unfold StrsAt
  rw [List.length_drop]
  refine ⟨_, c - k, rfl, by omega, fun j x hx => ?_⟩
  rw [List.map_drop, List.getElem?_drop] at hx
  obtain ⟨b', off', hb, hcell⟩ := hc (k + j) x hx
  cases hb
  exact ⟨b, off + k, rfl, by rw [Nat.add_assoc]; exact hcell⟩
set_option maxHeartbeats 2000000 in
theorem rroot_any (f : Nat) : ∀ (ss : List ByteArray) (v : Value) (w : World), ss.length ≤ f → StrsAt w v ss → ss.length ≤ 1048576 → (∀ s ∈ ss, s.size ≤ 1048576) →
    Calls Tryz.prog 63 #[v] w fun e w' => e = .returned (.string (HS (rootOf (lists ss)))) ∧ Below w.heap.size w w' := by
  have base : ∀ (v : Value) (w : World), StrsAt w v [] → Calls Tryz.prog 63 #[v] w fun e w' => e = .returned (.string (HS (rootOf (lists [])))) ∧ Below w.heap.size w w' := by
    intro v w h
    obtain ⟨a, c, rfl, _, _⟩ := h
    go_enter Tryz.func63, Tryz.ntmps63
    go_wp2_with fail
    refine (rhash_any ⟨#[]⟩ _ (by decide)).mono ?_
    rintro e w1 ⟨rfl, hb⟩
    go_wp2
    go_ret
    exact ⟨rfl, hb⟩
  induction f with
  | zero =>
    intro ss v w hf h hl hs
    obtain rfl : ss = [] := List.eq_nil_of_length_eq_zero (by omega)
    exact base v w h
  | succ f ih =>
    intro ss v w hf h hl hs
    match ss, hf, h, hl, hs with
    | [], _, h, _, _ => exact base v w h
    | [s], hf, h, hl, hs =>
      obtain ⟨a, c, rfl, hcap, hc⟩ := h
      obtain ⟨b, off, rfl, hcell⟩ := hc 0 (.string s) rfl
      simp only [Nat.add_zero] at hcell
      have hs1 := hs s (by simp)
      clear hc hs ih base
      simp only [List.length_cons, List.length_nil, Nat.zero_add]
      go_enter Tryz.func63, Tryz.ntmps63
      go_wp2_with fail
      refine (rleaf_any s _ (by omega)).mono ?_
      rintro e w1 ⟨rfl, hb⟩
      go_wp2
      go_ret
      exact ⟨rfl, hb⟩
    | s1 :: s2 :: st, hf, h, hl, hs =>
      obtain ⟨ss, hss⟩ : ∃ ss, ss = s1 :: s2 :: st := ⟨_, rfl⟩
      rw [← hss] at h hf hl hs ⊢
      have h2 : 2 ≤ ss.length := by rw [hss]; simp
      obtain ⟨a, c, hv, hcap, hc⟩ := id h
      obtain ⟨b, off, rfl, _⟩ := hc 0 (.string s1) (by rw [hss]; rfl)
      clear hc hss
      subst hv
      obtain ⟨n, hn⟩ : ∃ n, n = ss.length := ⟨_, rfl⟩
      have hbd := below_bd (n := n) (by omega) (by omega)
      have hbl := below_lt (n := n) (by omega)
      have hrt : rootOf (lists ss) = nodeH (rootOf (lists (ss.take (below n)))) (rootOf (lists (ss.drop (below n)))) := by
        rw [rootOf_more (by simp [lists]; omega)]
        simp only [lists, List.length_map, List.map_take, List.map_drop, hn]
      obtain ⟨k, hk⟩ : ∃ k, k = below n := ⟨_, rfl⟩
      rw [← hk] at hbd hbl hrt
      have T := Lib.hid (strs_take h (by omega : k ≤ ss.length))
      have D := Lib.hid (strs_drop h (by omega : k ≤ ss.length))
      have HS' := Lib.hid hs
      have HK := Lib.hid hk
      have HR := Lib.hid hrt
      have IH := Lib.hid ih
      clear h hs hk hrt ih base
      rw [← hn] at D hcap ⊢
      have HN := Lib.hid hn
      have hf' : n ≤ f + 1 := by omega
      have hl' : n ≤ 1048576 := by omega
      clear hf hl hn
      have d0 : ((n : Int) == 0) = false := by rw [beq_eq_false_iff_ne]; omega
      have d1 : ((n : Int) == 1) = false := by rw [beq_eq_false_iff_ne]; omega
      go_enter Tryz.func63, Tryz.ntmps63
      go_wp2_with fail
      refine (rbelow_any n _ (by omega) (by omega)).mono ?_
      rintro e w0 ⟨rfl, rfl⟩
      rw [Int.toNat_natCast, ← HK.out]
      go_wp2_with fail
      refine (IH.out (ss.take k) _ _ (by simp; have := HN.out; omega) T.out (by simp; omega) (fun s hs => HS'.out s (List.mem_of_mem_take hs))).mono ?_
      rintro e w1 ⟨rfl, hb1⟩
      go_wp2_with fail
      refine (IH.out (ss.drop k) _ _ (by simp; have := HN.out; omega) (D.out.below hb1) (by simp; have := HN.out; omega) (fun s hs => HS'.out s (List.mem_of_mem_drop hs))).mono ?_
      rintro e w2 ⟨rfl, hb2⟩
      have HB := Lib.hid (hb1.trans (hb2.mono hb1.size))
      clear hb1 hb2
      go_wp2_with fail
      refine (rnode_any _ _ _ (by rw [HS_size]; decide) (by rw [HS_size]; decide)).mono ?_
      rintro e w3 ⟨rfl, hb3⟩
      go_wp2
      go_ret
      exact ⟨by rw [HR.out]; rfl, HB.out.trans (hb3.mono HB.out.size)⟩
end Go.Proofs.YtefccfakhgdfbabGreatDoor
end
