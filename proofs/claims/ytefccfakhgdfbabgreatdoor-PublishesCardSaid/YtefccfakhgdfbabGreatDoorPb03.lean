/-
  plain.Disk's Get, Put, Swap. Conditions: fewer than 2^40 files and calls.
  plain.Disk's Put. Conditions: fewer than 2^40 files and calls.
  plain.Disk's Fault, Mend, Hit, NewDisk. Conditions: fewer than 2^40 calls; a fault is 0 to 2^20 calls ahead.
  plain.NewDisk: a store with the first file of each path. Conditions: fewer than 2^30 files.
-/
import Derived.Test.YtefccfakhgdfbabGreatDoorPb02
import Derived.Deep.Cut
import Derived.Deep.CutRange
set_option linter.unusedVariables false
set_option linter.unusedSimpArgs false
section
namespace Go.Proofs.YtefccfakhgdfbabGreatDoor
open Go.RowKit
/-- What a store answers with when it fails: an error of its own, new. -/
def OwnErr (w : World) (base : Nat) (u : Value) : Prop := ∃ q n, u = .iface 152 (.pointer (some ⟨q, 0, none⟩)) ∧ base ≤ q ∧ w.heap[q]? = some (.cells #[.int .i64 n] 366 (0, 0))
theorem OwnErr.below {w w' : World} {base : Nat} {u : Value} (h : OwnErr w base u) (hb : Below w.heap.size w w') : OwnErr w' base u := by
  obtain ⟨q, n, rfl, hq, hh⟩ := h
  exact ⟨q, n, rfl, hq, (hb.block q (lt_of_heap hh)).trans hh⟩
def getF (l : List (ByteArray × ByteArray)) (p : ByteArray) : Option ByteArray := (l[findN l p]?).map (·.2)
theorem getF_hit {l : List (ByteArray × ByteArray)} {p : ByteArray} (h : findN l p < l.length) : getF l p = some (l[findN l p]'h).2 := by simp [getF, List.getElem?_eq_getElem h]
theorem getF_miss {l : List (ByteArray × ByteArray)} {p : ByteArray} (h : ¬ findN l p < l.length) : getF l p = none := by simp [getF, List.getElem?_eq_none (Nat.le_of_not_lt h)]
theorem enterK_le (d : Dk) : enterK d = 0 ∨ enterK d = 1 ∨ enterK d = 2 := by unfold enterK; split <;> (try split) <;> (try split) <;> simp
theorem enterD_files (d : Dk) : (enterD d).files = d.files := by unfold enterD; split <;> rfl
theorem enterD_calls (d : Dk) : (enterD d).calls = d.calls + 1 := by unfold enterD; split <;> rfl
/-- The cell of a file's data. -/
theorem DiskAt.data {w : World} {g : Nat} {v : Value} {d : Dk} (h : DiskAt w g v d) {j : Nat} {x : ByteArray × ByteArray} (hx : d.files[j]? = some x) :
    ∃ bk cap, v = .slice (some ⟨bk, 0, none⟩) d.files.length cap ∧ bk < w.heap.size ∧ bk ≠ g ∧ w.cell? ⟨bk, j * 2, none⟩ = some (.string x.1) ∧ w.cell? ⟨bk, j * 2 + 1, none⟩ = some (.string x.2) := by
  have hlt := (List.getElem?_eq_some_iff.1 hx).1
  have hp := h.parts
  rcases h.2.2 with ⟨_, h0⟩ | ⟨bk, cap, cur, rfl, _, hb, _, _, _, ht⟩
  · omega
  · refine ⟨bk, cap, rfl, lt_of_heap hb, fun e => hp (by simp [Value.ownBlock, e]), ?_, ?_⟩
    · have h1 := (fileRow_at _ j x hx).1
      rw [← ht, List.getElem?_take_of_lt (by omega)] at h1
      rw [cell_of_row w bk _ cur _ _ hb]
      simpa using h1
    · have h1 := (fileRow_at _ j x hx).2
      rw [← ht, List.getElem?_take_of_lt (by omega)] at h1
      rw [cell_of_row w bk _ cur _ _ hb]
      simpa using h1
def GetPost (w : World) (g : Nat) (v : Value) (d : Dk) (p : ByteArray) (e : Ending) (w' : World) : Prop :=
  DiskAt w' g v (enterD d) ∧ Fr (· = g) w w' ∧
  ((0 < enterK d ∧ ∃ u, e = .returned (.tuple #[.slice none 0 0, u]) ∧ OwnErr w' w.heap.size u) ∨
   (enterK d = 0 ∧ ∃ s v', getF d.files p = some s ∧ e = .returned (.tuple #[v', .nilIface]) ∧ OwnBytes w' w.heap.size v' s.data.toList ∧ ∃ b c, v' = .slice (some ⟨b, 0, none⟩) s.size c) ∨
   (enterK d = 0 ∧ getF d.files p = none ∧ e = .returned (.tuple #[.slice none 0 0, .nilIface])))
set_option maxRecDepth 100000 in
set_option maxHeartbeats 2000000 in
theorem get_any (w : World) (g : Nat) (v : Value) (d : Dk) (h : DiskAt w g v d) (p : ByteArray) (hc : d.calls < 1099511627776) :
    Calls Tryz.prog 249 #[.pointer (some ⟨g, 0, none⟩), .string p] w fun e w' => GetPost w g v d p e w' := by
  have hcon := enter_any w g v d h hc
  have hg := h.lt
  clear h
  obtain ⟨k, hk⟩ : ∃ k, k = enterK d := ⟨_, rfl⟩
  rw [← hk] at hcon
  have hk3 := enterK_le d
  rw [← hk] at hk3
  have HK := Lib.hid hk
  clear hk
  by_cases h0 : 0 < k
  · have hz : (0 : Int) < (k : Int) := by omega
    go_enter Tryz.func249, Tryz.ntmps249
    go_wp2_with (go_at_call 252; refine hcon.mono ?_; rintro e w1 ⟨rfl, hd1, hf1⟩; have HD1 := Lib.hid hd1; have HF1 := Lib.hid hf1; have c1 := hd1.cells.1.2.1; have hg1 := hd1.lt; clear hd1 hf1)
    go_region
    go_wp2
    go_ret2
    have hb : Below w1.heap.size w1 (w1.alloc (.cells #[.int .i64 ((enterD d).calls : Int)] 366)).drew := (below_alloc w1 _).drew
    exact ⟨HD1.out.below hb, HF1.out.trans (Fr.ofBelow hb), .inl ⟨by rw [← HK.out]; exact h0, _, rfl, w1.heap.size, _, rfl, HF1.out.size, heap_alloc_new w1 _⟩⟩
  · have hz : ¬ (0 : Int) < (k : Int) := by omega
    have hk0 : enterK d = 0 := by rw [← HK.out]; omega
    have HK0 := Lib.hid hk0
    have hfc := fun w1 hd1 => find_any w1 g v (enterD d) hd1 p
    rw [enterD_files] at hfc
    clear hk0 hk3
    by_cases hf : findN d.files p < d.files.length
    · have hF : findF d.files p = findN d.files p := by unfold findF; rw [if_pos hf]
      rw [hF] at hfc
      obtain ⟨x, hx⟩ : ∃ x, x = d.files[findN d.files p]'hf := ⟨_, rfl⟩
      have hxj : d.files[findN d.files p]? = some x := by rw [hx, List.getElem?_eq_getElem hf]
      have hgf : getF d.files p = some x.2 := by rw [getF_hit hf, hx]
      obtain ⟨j, hj⟩ : ∃ j, j = findN d.files p := ⟨_, rfl⟩
      rw [← hj] at hfc hf hxj
      have hjz : (0 : Int) ≤ (j : Int) := by omega
      have hjl : (j : Int) < (d.files.length : Int) := by omega
      have HX := Lib.hid hxj
      have HG := Lib.hid hgf
      clear hj hF hx hxj hgf
      go_enter Tryz.func249, Tryz.ntmps249
      go_wp2_with (first | (go_at_call 252; refine hcon.mono ?_; rintro e w1 ⟨rfl, hd1, hf1⟩; have HD1 := Lib.hid hd1; have HF1 := Lib.hid hf1; clear hd1 hf1) | (go_at_call 64; refine (hfc _ HD1.out).mono ?_; rintro e w2 ⟨rfl, hb2⟩; have HB2 := Lib.hid hb2; have hd2 := HD1.out.below hb2; have HD2 := Lib.hid hd2; have c0 := hd2.cells.1.1; obtain ⟨bk, cap, rfl, hbl, hbg, _, c1⟩ := hd2.data (j := j) (x := x) ((by rw [enterD_files]; exact HX.out)); rw [enterD_files] at c0; clear hb2 hd2) | (refine wpList_sb rfl _ _ _ _ rfl Tryz.underlying9 Tryz.underlying94 Tryz.underlying5 rfl _ rfl ?_; rintro v' w3 h1 h2 h3 ⟨b', c', h4⟩; have H1 := Lib.hid h1; have H2 := Lib.hid h2; subst h4; clear h1 h2 h3))
      go_ret2
      exact ⟨HD2.out.below H2.out, HF1.out.trans (Fr.ofBelow (HB2.out.trans (H2.out.mono HB2.out.size))), .inr (.inl ⟨HK0.out, x.2, _, HG.out, rfl, H1.out.mono (Nat.le_trans HF1.out.size HB2.out.size), b', c', rfl⟩)⟩
    · have hF : findF d.files p = -1 := by unfold findF; rw [if_neg hf]
      have hgf := getF_miss hf
      rw [hF] at hfc
      have HG := Lib.hid hgf
      clear hF hgf hf
      go_enter Tryz.func249, Tryz.ntmps249
      go_wp2_with (first | (go_at_call 252; refine hcon.mono ?_; rintro e w1 ⟨rfl, hd1, hf1⟩; have HD1 := Lib.hid hd1; have HF1 := Lib.hid hf1; clear hd1 hf1) | (go_at_call 64; refine (hfc _ HD1.out).mono ?_; rintro e w2 ⟨rfl, hb2⟩; have HB2 := Lib.hid hb2; clear hb2))
      go_ret2
      exact ⟨HD1.out.below HB2.out, HF1.out.trans (Fr.ofBelow HB2.out), .inr (.inr ⟨HK0.out, HG.out, rfl⟩)⟩
/-- Behind a Swap. -/
def swapD (d : Dk) (p b : ByteArray) : Dk := if enterK d < 2 then { enterD d with files := putF d.files p b } else enterD d
def clashF (l : List (ByteArray × ByteArray)) (p b : ByteArray) : Bool := match getF l p with | some x => decide (x ≠ b) | none => false
def putD (d : Dk) (p b : ByteArray) : Dk := if clashF d.files p b = true then { enterD d with turned := true } else swapD d p b
/-- What a call hands back that may fail. -/
def MayErr (w : World) (base : Nat) (bad : Bool) (u : Value) : Prop := if bad = true then OwnErr w base u else u = .nilIface
theorem MayErr.bad {w : World} {base : Nat} {u : Value} (h : OwnErr w base u) {b : Bool} (hb : b = true) : MayErr w base b u := by subst hb; exact h
theorem MayErr.fine {w : World} {base : Nat} {b : Bool} (hb : b = false) : MayErr w base b .nilIface := by subst hb; rfl
theorem DiskAt.noByte {w : World} {g : Nat} {v : Value} {d : Dk} (h : DiskAt w g v d) (i : Nat) (x : UInt8) : w.cell? ⟨g, i, none⟩ ≠ some (u8 x) := by
  obtain ⟨a, c, rfl⟩ := own_any h.2
  rw [cell_of_row w g i _ _ _ h.1]
  match i with
  | 0 => simp [dkCells, u8]
  | 1 => simp [dkCells, u8]
  | 2 => simp [dkCells, u8]
  | 3 => simp [dkCells, u8]
  | 4 => simp [dkCells, u8]
  | 5 => simp [dkCells, u8]
  | 6 => simp [dkCells, u8]
  | 7 => simp [dkCells, u8]
  | i + 8 => simp [dkCells]
theorem DiskAt.bytes {w w' : World} {g : Nat} {v : Value} {d : Dk} (h : DiskAt w g v d) (hf : Fr (· = g) w w') {dv : Value} {b : List UInt8} (hb : BytesAt w dv b) : BytesAt w' dv b := by
  obtain ⟨a, c, hv, hl, hc⟩ := hb
  refine ⟨a, c, hv, hl, fun j x hx => ?_⟩
  obtain ⟨q, off, ha, hcell⟩ := hc j x hx
  refine ⟨q, off, ha, hf.cell hcell ?_⟩
  rintro rfl
  obtain ⟨y, _, rfl⟩ := List.mem_map.1 (List.mem_of_getElem? hx)
  exact h.noByte _ _ hcell
/-- An error of a store's own, made out of its number of calls. -/
theorem own_made (w : World) (n : Int) (base : Nat) (hb : base ≤ w.heap.size) : OwnErr (w.alloc (.cells #[.int .i64 n] 366)) base (.iface 152 (.pointer (some ⟨w.heap.size, 0, none⟩))) :=
  ⟨w.heap.size, n, rfl, hb, heap_alloc_new w _⟩
theorem own_made' (w : World) (n : Int) (base q : Nat) (hb : base ≤ w.heap.size) (hq : q = w.heap.size) : OwnErr (w.alloc (.cells #[.int .i64 n] 366)) base (.iface 152 (.pointer (some ⟨q, 0, none⟩))) := by subst hq; exact own_made w n base hb
set_option maxRecDepth 100000 in
set_option maxHeartbeats 2000000 in
theorem swap_any (w : World) (g : Nat) (v : Value) (d : Dk) (h : DiskAt w g v d) (p : ByteArray) (dv : Value) (b : List UInt8) (hdv : BytesAt w dv b) (hc : d.calls < 1099511627776) (hn : d.files.length < 1099511627776) :
    Calls Tryz.prog 251 #[.pointer (some ⟨g, 0, none⟩), .string p, dv] w fun e w' => ∃ u, e = .returned u ∧ MayErr w' w.heap.size (decide (0 < enterK d)) u ∧ ∃ v', DiskAt w' g v' (swapD d p ⟨b.toArray⟩) ∧ Fr (dkS g v) w w' ∧ Moved w v v' := by
  have hcon := enter_any w g v d h hc
  have hg := h.lt
  have HH := Lib.hid h
  have HD := Lib.hid hdv
  clear h hdv
  have hset := fun w1 (hd1 : DiskAt w1 g v (enterD d)) (hb : BytesAt w1 dv b) => set_any w1 g v (enterD d) hd1 p dv b hb (by rw [enterD_files]; exact hn)
  rw [enterD_files] at hset
  rcases enterK_le d with hk | hk | hk
  · rw [hk] at hcon
    have HK := Lib.hid hk
    have hkc : ((0 : Nat) : Int) = 0 := rfl
    rw [hkc] at hcon
    clear hk hkc
    go_enter Tryz.func251, Tryz.ntmps251
    go_wp2_with (first | (go_at_call 252; refine hcon.mono ?_; rintro e w1 ⟨rfl, hd1, hf1⟩; have HD1 := Lib.hid hd1; have HF1 := Lib.hid hf1; clear hd1 hf1) | (go_at_call 253; refine (hset _ HD1.out (HH.out.bytes HF1.out HD.out)).mono ?_; rintro e w2 ⟨rfl, v2, hd2, hf2, hm2⟩; have HD2 := Lib.hid hd2; have HF2 := Lib.hid hf2; have HM2 := Lib.hid hm2; clear hd2 hf2 hm2))
    go_ret
    refine ⟨_, rfl, MayErr.fine (by rw [HK.out]; rfl), v2, ?_, (HF1.out.weak fun k _ hk => .inl hk).trans HF2.out, fun k hk => (HM2.out k hk).imp id (Nat.le_trans HF1.out.size)⟩
    rw [swapD, HK.out]
    exact HD2.out
  · rw [hk] at hcon
    have HK := Lib.hid hk
    have hkc : ((1 : Nat) : Int) = 1 := rfl
    rw [hkc] at hcon
    clear hk hkc
    go_enter Tryz.func251, Tryz.ntmps251
    go_wp2_with (first | (go_at_call 252; refine hcon.mono ?_; rintro e w1 ⟨rfl, hd1, hf1⟩; have HD1 := Lib.hid hd1; have HF1 := Lib.hid hf1; clear hd1 hf1) | (go_at_call 253; refine (hset _ HD1.out (HH.out.bytes HF1.out HD.out)).mono ?_; rintro e w2 ⟨rfl, v2, hd2, hf2, hm2⟩; have HD2 := Lib.hid hd2; have HF2 := Lib.hid hf2; have HM2 := Lib.hid hm2; have c1 := hd2.cells.1.2.1; clear hd2 hf2 hm2))
    go_ret
    have hsz : w.heap.size ≤ w2.heap.size := Nat.le_trans HF1.out.size HF2.out.size
    refine ⟨_, rfl, MayErr.bad (own_made w2 _ _ hsz) (by rw [HK.out]; rfl), v2, ?_, ((HF1.out.weak fun k _ hk => .inl hk).trans HF2.out).alloc _, fun k hk => (HM2.out k hk).imp id (Nat.le_trans HF1.out.size)⟩
    rw [swapD, HK.out]
    exact HD2.out.below (below_alloc _ _)
  · rw [hk] at hcon
    have HK := Lib.hid hk
    have hkc : ((2 : Nat) : Int) = 2 := rfl
    rw [hkc] at hcon
    clear hk hkc
    go_enter Tryz.func251, Tryz.ntmps251
    go_wp2_with (first | (go_at_call 252; refine hcon.mono ?_; rintro e w1 ⟨rfl, hd1, hf1⟩; have HD1 := Lib.hid hd1; have HF1 := Lib.hid hf1; have c1 := hd1.cells.1.2.1; clear hd1 hf1))
    go_ret
    refine ⟨_, rfl, MayErr.bad (own_made w1 _ _ HF1.out.size) (by rw [HK.out]; rfl), v, ?_, (HF1.out.weak fun k _ hk => .inl hk).alloc _, Moved.refl _ _⟩
    rw [swapD, HK.out]
    exact HD1.out.below (below_alloc _ _)
end Go.Proofs.YtefccfakhgdfbabGreatDoor
end

section
namespace Go.Proofs.YtefccfakhgdfbabGreatDoor
open Go.RowKit
theorem clash_miss {l : List (ByteArray × ByteArray)} {p b : ByteArray} (h : ¬ findN l p < l.length) : clashF l p b = false := by simp [clashF, getF_miss h]
theorem clash_hit {l : List (ByteArray × ByteArray)} {p b : ByteArray} {x : ByteArray × ByteArray} (h : l[findN l p]? = some x) : clashF l p b = decide (x.2 ≠ b) := by simp [clashF, getF, h]
set_option maxRecDepth 100000 in
set_option maxHeartbeats 2000000 in
theorem put_any (w : World) (g : Nat) (v : Value) (d : Dk) (h : DiskAt w g v d) (p : ByteArray) (dv : Value) (b : List UInt8) (hdv : BytesAt w dv b) (hc : d.calls < 1099511627776) (hn : d.files.length < 1099511627776) :
    Calls Tryz.prog 250 #[.pointer (some ⟨g, 0, none⟩), .string p, dv] w fun e w' => ∃ u, e = .returned u ∧ MayErr w' w.heap.size (clashF d.files p ⟨b.toArray⟩ || decide (0 < enterK d)) u ∧ ∃ v', DiskAt w' g v' (putD d p ⟨b.toArray⟩) ∧ Fr (dkS g v) w w' ∧ Moved w v v' := by
  have hcon := enter_any w g v d h hc
  have hg := h.lt
  have HH := Lib.hid h
  have HD := Lib.hid hdv
  clear h hdv
  have hset := fun w1 (hd1 : DiskAt w1 g v (enterD d)) (hb : BytesAt w1 dv b) => set_any w1 g v (enterD d) hd1 p dv b hb (by rw [enterD_files]; exact hn)
  have hfc := fun w1 hd1 => find_any w1 g v (enterD d) hd1 p
  rw [enterD_files] at hset hfc
  obtain ⟨k, hk⟩ : ∃ k, k = enterK d := ⟨_, rfl⟩
  have hk3 := enterK_le d
  rw [← hk] at hcon hk3
  have HK := Lib.hid hk
  clear hk
  go_enter Tryz.func250, Tryz.ntmps250
  go_upto_region 3 with (first | (go_at_call 252; refine hcon.mono ?_; rintro e w1 ⟨rfl, hd1, hf1⟩; have HD1 := Lib.hid hd1; have HF1 := Lib.hid hf1; clear hd1 hf1) | (go_at_call 64; refine (hfc _ HD1.out).mono ?_; rintro e w2 ⟨rfl, hb2⟩; have HB2 := Lib.hid hb2; have HD2 := Lib.hid (HD1.out.below hb2); have HF2 := Lib.hid (HF1.out.trans (Fr.ofBelow hb2)); clear hb2))
  go_cut [8, 13, 28] from 14 (fun _ _ c wx => c = .bool (clashF d.files p ⟨b.toArray⟩) ∧ DiskAt wx g v (enterD d) ∧ Fr (· = g) w wx)
  case first =>
    have hd2 := HD2.out
    have c0 := hd2.cells.1.1
    have hcv := fun n => run_bs (w := w2.drewN n) ((HH.out.bytes HF2.out HD.out).below (below_drewN (Below.refl _ w2) n))
    by_cases hf : findN d.files p < d.files.length
    · have hF : findF d.files p = findN d.files p := by unfold findF; rw [if_pos hf]
      obtain ⟨x, hx⟩ : ∃ x, x = d.files[findN d.files p]'hf := ⟨_, rfl⟩
      have hxj : d.files[findN d.files p]? = some x := by rw [hx, List.getElem?_eq_getElem hf]
      have hcl := clash_hit (b := ⟨b.toArray⟩) hxj
      obtain ⟨bk, cap, rfl, hbl, hbg, _, c1⟩ := hd2.data (x := x) (by rw [enterD_files]; exact hxj)
      rw [enterD_files] at c0
      obtain ⟨j, hj⟩ : ∃ j, j = findN d.files p := ⟨_, rfl⟩
      rw [hF]
      rw [← hj] at c1 hf ⊢
      have hjz : decide ((0 : Int) ≤ (j : Int)) = true := by simp
      have hjl : (j : Int) < (d.files.length : Int) := by omega
      have hj0 : (0 : Int) ≤ (j : Int) := by omega
      have hq : (x.2.toList == b) = decide (x.2 = ⟨b.toArray⟩) := by have := beq_str x.2 ⟨b.toArray⟩; simpa using this
      have HQ := Lib.hid hq
      have HCL := Lib.hid hcl
      clear hj hF hx hxj hcl hd2
      go_quiet (fail)
      go_wp2_with fail
      go_meet
      exact ⟨by rw [HCL.out]; simp [HQ.out], HD2.out.below (below_drewN (Below.refl _ w2) _), HF2.out.drewN _⟩
    · have hF : findF d.files p = -1 := by unfold findF; rw [if_neg hf]
      have HCL := Lib.hid (clash_miss (b := ⟨b.toArray⟩) hf)
      rw [hF]
      have hjz : decide ((0 : Int) ≤ (-1 : Int)) = false := by decide
      clear hF hf hd2
      go_quiet (fail)
      go_wp2_with fail
      go_meet
      exact ⟨by rw [HCL.out], HD2.out.below (below_drewN (Below.refl _ w2) _), HF2.out.drewN _⟩
  case rest =>
    obtain ⟨rfl, hdc, hfc'⟩ := hcut
    have HDC := Lib.hid hdc
    have HFC := Lib.hid hfc'
    have c1 := hdc.cells.1.2.1
    have hgc := hdc.lt
    have hfz := hdc.cells.2 7
    have c7 := hdc.cells.1.2.2.2.2.2.2.2
    clear hdc hfc'
    cases hcl : clashF d.files p ⟨b.toArray⟩ with
    | true =>
      have HCL := Lib.hid hcl
      have hne : (⟨g, 7, none⟩ : Addr) ≠ ⟨g, 1, none⟩ := by simp
      clear hcl
      go_wp2_with fail
      go_ret
      refine ⟨_, rfl, MayErr.bad (b := clashF d.files p ⟨b.toArray⟩ || decide (0 < enterK d)) (own_made' (wc.setCell ⟨g, 7, none⟩ (.bool true)) _ _ _ (by simpa using HFC.out.size) (by simp)) (by rw [HCL.out]; rfl), v, ?_, ((HFC.out.weak fun k _ hk => .inl hk).setCell (p := ⟨g, 7, none⟩) (fun _ => .inl rfl) _).alloc _, Moved.refl _ _⟩
      refine DiskAt.below (w := wc.setCell ⟨g, 7, none⟩ (.bool true)) ?_ (below_alloc _ _)
      rw [putD, if_pos HCL.out]
      exact HDC.out.set (Fr.setCell1 wc ⟨g, 7, none⟩ _) ((heap_setCell HDC.out.1 _).trans (by simp [dkCells])) rfl
    | false =>
      have HCL := Lib.hid hcl
      clear hcl
      have hp : putD d p ⟨b.toArray⟩ = swapD d p ⟨b.toArray⟩ := by rw [putD, if_neg (by rw [HCL.out]; decide)]
      have HP := Lib.hid hp
      clear hp
      have hcon2 := hset wc HDC.out (HH.out.bytes HFC.out HD.out)
      clear hset hfc hcon
      rcases hk3 with rfl | rfl | rfl
      · go_wp2_with (go_at_call 253; refine hcon2.mono ?_; rintro e w3 ⟨rfl, v3, hd3, hf3, hm3⟩; have HD3 := Lib.hid hd3; have HF3 := Lib.hid hf3; have HM3 := Lib.hid hm3; clear hd3 hf3 hm3)
        go_ret
        refine ⟨_, rfl, MayErr.fine (by rw [HCL.out, ← HK.out]; rfl), v3, ?_, (HFC.out.weak fun k _ hk => .inl hk).trans HF3.out, fun k hk => (HM3.out k hk).imp id (Nat.le_trans HFC.out.size)⟩
        rw [HP.out, swapD, ← HK.out]
        exact HD3.out
      · go_wp2_with (go_at_call 253; refine hcon2.mono ?_; rintro e w3 ⟨rfl, v3, hd3, hf3, hm3⟩; have HD3 := Lib.hid hd3; have HF3 := Lib.hid hf3; have HM3 := Lib.hid hm3; have c3 := hd3.cells.1.2.1; clear hd3 hf3 hm3)
        go_ret
        refine ⟨_, rfl, MayErr.bad (own_made w3 _ _ (Nat.le_trans HFC.out.size HF3.out.size)) (by rw [HCL.out, ← HK.out]; rfl), v3, ?_, ((HFC.out.weak fun k _ hk => .inl hk).trans HF3.out).alloc _, fun k hk => (HM3.out k hk).imp id (Nat.le_trans HFC.out.size)⟩
        rw [HP.out, swapD, ← HK.out]
        exact HD3.out.below (below_alloc _ _)
      · go_wp2_with fail
        go_ret
        refine ⟨_, rfl, MayErr.bad (own_made wc _ _ HFC.out.size) (by rw [HCL.out, ← HK.out]; rfl), v, ?_, (HFC.out.weak fun k _ hk => .inl hk).alloc _, Moved.refl _ _⟩
        rw [HP.out, swapD, ← HK.out]
        exact HDC.out.below (below_alloc _ _)
end Go.Proofs.YtefccfakhgdfbabGreatDoor
end

section
namespace Go.Proofs.YtefccfakhgdfbabGreatDoor
open Go.RowKit
def faultD (d : Dk) (a : Nat) (half once : Bool) : Dk := { d with failAt := (d.calls : Int) + a, half := half, once := once, dead := false, hit := false }
def mendD (d : Dk) : Dk := { d with failAt := 0, dead := false, hit := false }
set_option maxRecDepth 100000 in
set_option maxHeartbeats 1000000 in
theorem fault_any (w : World) (g : Nat) (v : Value) (d : Dk) (h : DiskAt w g v d) (a : Nat) (half once : Bool) (hc : d.calls < 1099511627776) (ha : a < 1099511627776) :
    Calls Tryz.prog 13 #[.pointer (some ⟨g, 0, none⟩), .int .i64 a, .bool half, .bool once] w fun e w' => e = .returned (.tuple #[]) ∧ DiskAt w' g v (faultD d a half once) ∧ Fr (· = g) w w' := by
  obtain ⟨⟨c0, c1, c2, c3, c4, c5, c6, c7⟩, f0⟩ := h.cells
  have HH := Lib.hid h
  have hw : wrap64 ((d.calls : Int) + (a : Int)) = (d.calls : Int) + a := by unfold wrap64; omega
  clear h
  have HC := Lib.hid (heap_setCell (i := 6) (heap_setCell (i := 3) (heap_setCell (i := 4) (heap_setCell (i := 5) (heap_setCell (i := 2) HH.out.1 (.int .i64 ((d.calls : Int) + a))) (.bool half)) (.bool once)) (.bool false)) (.bool false))
  have HF := Lib.hid (((((Fr.set1 w g 2 (.int .i64 ((d.calls : Int) + a))).set 5 (.bool half)).set 4 (.bool once)).set 3 (.bool false)).set 6 (.bool false))
  go_enter Tryz.func13, Tryz.ntmps13
  go_wp2
  go_end0
  exact ⟨rfl, HH.out.set HF.out (HC.out.trans (by simp [dkCells, faultD])) rfl, HF.out⟩
set_option maxRecDepth 100000 in
set_option maxHeartbeats 1000000 in
theorem mend_any (w : World) (g : Nat) (v : Value) (d : Dk) (h : DiskAt w g v d) :
    Calls Tryz.prog 17 #[.pointer (some ⟨g, 0, none⟩)] w fun e w' => e = .returned (.tuple #[]) ∧ DiskAt w' g v (mendD d) ∧ Fr (· = g) w w' := by
  obtain ⟨⟨c0, c1, c2, c3, c4, c5, c6, c7⟩, f0⟩ := h.cells
  have HH := Lib.hid h
  clear h
  have HC := Lib.hid (heap_setCell (i := 6) (heap_setCell (i := 3) (heap_setCell (i := 2) HH.out.1 (.int .i64 0)) (.bool false)) (.bool false))
  have HF := Lib.hid (((Fr.set1 w g 2 (.int .i64 0)).set 3 (.bool false)).set 6 (.bool false))
  go_enter Tryz.func17, Tryz.ntmps17
  go_wp2
  go_end0
  exact ⟨rfl, HH.out.set HF.out (HC.out.trans (by simp [dkCells, mendD])) rfl, HF.out⟩
theorem hit_any (w : World) (g : Nat) (v : Value) (d : Dk) (h : DiskAt w g v d) :
    Calls Tryz.prog 16 #[.pointer (some ⟨g, 0, none⟩)] w fun e w' => e = .returned (.bool d.hit) ∧ w = w' := by
  obtain ⟨⟨c0, c1, c2, c3, c4, c5, c6, c7⟩, f0⟩ := h.cells
  clear h
  go_enter Tryz.func16, Tryz.ntmps16
  go_wp2
  go_ret
  exact ⟨rfl, rfl⟩
end Go.Proofs.YtefccfakhgdfbabGreatDoor
end

section
namespace Go.Proofs.YtefccfakhgdfbabGreatDoor
open Go.RowKit
/-- Files as an argument reads. -/
def FilesAt (w : World) (v : Value) (l : List (ByteArray × ByteArray)) : Prop :=
  ∃ a c, v = .slice a l.length c ∧ l.length ≤ c ∧ ∀ j x, l[j]? = some x → ∃ b off, a = some ⟨b, off, none⟩ ∧ w.cell? ⟨b, off + j * 2, none⟩ = some (.string x.1) ∧ w.cell? ⟨b, off + j * 2 + 1, none⟩ = some (.string x.2)
theorem FilesAt.below {w w' : World} {v : Value} {l : List (ByteArray × ByteArray)} (h : FilesAt w v l) (hb : Below w.heap.size w w') : FilesAt w' v l := by
  obtain ⟨a, c, hv, hc, hx⟩ := h
  refine ⟨a, c, hv, hc, fun j x hj => ?_⟩
  obtain ⟨b, off, ha, h1, h2⟩ := hx j x hj
  exact ⟨b, off, ha, (hb.cell (cell_lt h1)).trans h1, (hb.cell (cell_lt h2)).trans h2⟩
def addF (acc : List (ByteArray × ByteArray)) (f : ByteArray × ByteArray) : List (ByteArray × ByteArray) := if findN acc f.1 < acc.length then acc else acc ++ [f]
def firsts (l : List (ByteArray × ByteArray)) : List (ByteArray × ByteArray) := l.foldl addF []
def dk0 (l : List (ByteArray × ByteArray)) : Dk := ⟨l, 0, 0, false, false, false, false, false⟩
theorem firsts_len (l : List (ByteArray × ByteArray)) : (firsts l).length ≤ l.length := by
  have h : ∀ (l acc : List (ByteArray × ByteArray)), (l.foldl addF acc).length ≤ acc.length + l.length := by
    intro l
    induction l with
    | nil => intro acc; simp
    | cons a l ih =>
      intro acc
      rw [List.foldl_cons]
      refine Nat.le_trans (ih _) ?_
      unfold addF
      split <;> simp <;> omega
  simpa [firsts] using h l []
theorem firsts_succ {l : List (ByteArray × ByteArray)} {k : Nat} {x : ByteArray × ByteArray} (h : l[k]? = some x) : firsts (l.take (k + 1)) = addF (firsts (l.take k)) x := by
  have e : l.take (k + 1) = l.take k ++ [x] := by rw [List.take_add_one, h]; rfl
  rw [e, firsts, List.foldl_append]; rfl
/-- Behind an append to a store's files and the store of their row into its block. -/
theorem DiskAt.pushed {w w' : World} {g : Nat} {v : Value} {d : Dk} (h : DiskAt w g v d) (x : ByteArray × ByteArray) {gb cp : Nat} (hf : Fr (fun k => v.ownBlock = some k) w w')
    (h2 : w'.ownsRow 0 73 2 (.slice (some ⟨gb, 0, none⟩) (d.files.length + 1) cp) (d.files.length + 1) (fileRow d.files ++ [.string x.1, .string x.2])) :
    DiskAt (w'.setCell ⟨g, 0, none⟩ (.slice (some ⟨gb, 0, none⟩) (d.files.length + 1) cp)) g (.slice (some ⟨gb, 0, none⟩) (d.files.length + 1) cp) { d with files := d.files ++ [x] } ∧
      Fr (dkS g v) w (w'.setCell ⟨g, 0, none⟩ (.slice (some ⟨gb, 0, none⟩) (d.files.length + 1) cp)) := by
  have hgw := hf.heap h.1 h.parts
  have hne : gb ≠ g := by
    rintro rfl
    rcases h2.2 with ⟨e, _⟩ | ⟨bk, cap', cur', e, _, hb, _⟩
    · cases e
    · cases e
      rw [hgw] at hb
      simp at hb
  refine ⟨⟨(heap_setCell hgw _).trans (by simp [dkCells]), ?_⟩, (hf.weak fun k _ hk => .inr hk).trans ((Fr.setCell1 w' ⟨g, 0, none⟩ _).weak fun k _ hk => .inl hk)⟩
  show World.ownsRow _ 0 73 2 _ (d.files ++ [x]).length (fileRow (d.files ++ [x]))
  rw [List.length_append, fileRow_snoc]
  exact ownsRow_fr h2 (Fr.setCell1 w' ⟨g, 0, none⟩ _) fun k hk e => by
    simp [Value.ownBlock] at hk
    exact hne (hk.trans e)
set_option maxRecDepth 100000 in
set_option maxHeartbeats 4000000 in
theorem newDisk_any (w : World) (va : Value) (l : List (ByteArray × ByteArray)) (h : FilesAt w va l) (hn : l.length ≤ 1073741824) :
    Calls Tryz.prog 35 #[va] w fun e w' => ∃ g v, e = .returned (.pointer (some ⟨g, 0, none⟩)) ∧ DiskAt w' g v (dk0 (firsts l)) ∧ Below w.heap.size w w' ∧ w.heap.size ≤ g ∧ (∀ k, v.ownBlock = some k → w.heap.size ≤ k) := by
  have HH := Lib.hid h
  obtain ⟨a, c, rfl, hc, hx⟩ := h
  have HX := Lib.hid hx
  clear hx
  obtain ⟨i, hi, hz, hs, hby⟩ := info_fileE
  have HI := Lib.hid (⟨hi, hz, hs, hby⟩ : _ ∧ _ ∧ _ ∧ _)
  clear hi hz hs hby
  go_enter Tryz.func35, Tryz.ntmps35
  go_wp2
  go_loopg [5, 10] l.length (fun gg _ s10 wr => ∃ kk : Nat, kk ≤ l.length ∧ l.length - kk ≤ gg ∧ s10 = .int .i64 kk ∧ Aside (Below w.heap.size w wr) ∧ ∃ v, Aside (DiskAt wr w.heap.size v (dk0 (firsts (l.take kk)))) ∧ Aside (∀ k, v.ownBlock = some k → w.heap.size ≤ k))
  case atStart => exact ⟨0, Nat.zero_le _, by omega, rfl, below_alloc _ _, .slice none 0 0, ⟨heap_alloc_new w _, World.ownsRow_nil _ _ _ _⟩, fun k hk => by simp [Value.ownBlock] at hk⟩
  case round =>
    obtain ⟨kk, hkk, hg, rfl, BW, v, HDk, HV⟩ := hrel
    by_cases hlt : kk < l.length
    · obtain ⟨x, hx⟩ : ∃ x, x = l[kk] := ⟨_, rfl⟩
      have hlx : l[kk]? = some x := by rw [hx, List.getElem?_eq_getElem hlt]
      obtain ⟨b, off, rfl, c1, c2⟩ := HX.out kk x hlx
      have hb : b < w.heap.size := cell_lt c1
      have d1 : wr.cell? ⟨b, off + kk * 2, none⟩ = some (.string x.1) := (BW.out.cell (p := ⟨b, off + kk * 2, none⟩) hb).trans c1
      have d2 : wr.cell? ⟨b, off + kk * 2 + 1, none⟩ = some (.string x.2) := (BW.out.cell (p := ⟨b, off + kk * 2 + 1, none⟩) hb).trans c2
      have hltz : (kk : Int) < (l.length : Int) := by omega
      have hbr : b < wr.heap.size := Nat.lt_of_lt_of_le hb BW.out.size
      have HLX := Lib.hid hlx
      clear hx hlx c1 c2
      obtain ⟨acc, hacc⟩ : ∃ acc, acc = firsts (l.take kk) := ⟨_, rfl⟩
      have hal : acc.length ≤ kk := by rw [hacc]; refine Nat.le_trans (firsts_len _) ?_; simp; omega
      have hsucc : firsts (l.take (kk + 1)) = addF acc x := by rw [hacc]; exact firsts_succ HLX.out
      rw [← hacc] at HDk
      have HS := Lib.hid hsucc
      clear hacc hsucc
      have hd1 := HDk.out.below (below_alloc wr (.cells #[.string x.1, .string x.2] 73))
      have hcon := find_any _ w.heap.size v (dk0 acc) hd1 x.1
      have HD1 := Lib.hid hd1
      clear hd1
      by_cases hf : findN acc x.1 < acc.length
      · have hF : findF acc x.1 = findN acc x.1 := by unfold findF; rw [if_pos hf]
        have hadd : addF acc x = acc := by unfold addF; rw [if_pos hf]
        rw [show findF (dk0 acc).files x.1 = findN acc x.1 from hF] at hcon
        have hz : ¬ ((findN acc x.1 : Nat) : Int) < 0 := by omega
        have HA := Lib.hid hadd
        clear hF hf hadd
        go_wp2_with (go_at_call 64; refine hcon.mono ?_; rintro e w2 ⟨rfl, hb2⟩; have HB2 := Lib.hid hb2; clear hb2)
        go_roundg (l.length - (kk + 1))
        case measure => omega
        case rel =>
          refine ⟨kk + 1, by omega, by omega, by go_num, (BW.out.trans ((below_alloc wr _).mono BW.out.size)).trans (HB2.out.mono (Nat.le_trans BW.out.size (by simp))), v, ?_, HV⟩
          show DiskAt _ _ _ (dk0 (firsts (l.take (kk + 1))))
          rw [HS.out, HA.out]
          exact HD1.out.below HB2.out
      · have hF : findF acc x.1 = -1 := by unfold findF; rw [if_neg hf]
        have hadd : addF acc x = acc ++ [x] := by unfold addF; rw [if_neg hf]
        rw [show findF (dk0 acc).files x.1 = -1 from hF] at hcon
        have HA := Lib.hid hadd
        clear hF hf hadd
        go_wp2_with (go_at_call 64; refine hcon.mono ?_; rintro e w2 ⟨rfl, hb2⟩; have HB2 := Lib.hid hb2; have hd2 := HD1.out.below hb2; have HD2 := Lib.hid hd2; have c0 := hd2.cells.1.1; have hfz := hd2.cells.2 0; have hg2 := hd2.lt; have e1 := (hb2.cell (p := ⟨wr.heap.size, 0, none⟩) (by simp)).trans (World.cell?_alloc_at #[.string x.1, .string x.2] 73 wr.heap.size 0 rfl); have e2 := (hb2.cell (p := ⟨wr.heap.size, 1, none⟩) (by simp)).trans (World.cell?_alloc_at #[.string x.1, .string x.2] 73 wr.heap.size 1 rfl); have hg3 : wr.heap.size < w2.heap.size := Nat.lt_of_lt_of_le (by simp) hb2.size; clear hb2 hd2)
        go_region_law (refine step_appM rfl _ _ _ rfl 0 73 i _ 2 32 Tryz.underlying39 HI.out.1 HI.out.2.1 HI.out.2.2.1 HI.out.2.2.2 rfl (by decide) (by decide) v acc.length (fileRow acc) rfl (ownsRow_below HD2.out.2 ((below_drew w2).alloc (Nat.le_refl _) _)) ⟨w2.heap.size, 0, none⟩ 1 1 [.string x.1, .string x.2] rfl rfl (cells2_new _ _ _ _ _ rfl) (by simp [Value.oneCell']) (by decide) (by omega) (Nat.zero_le _) ?_; intro v' w' h2 h3 h4 h5; obtain ⟨gb, cp, rfl, hgb⟩ := own_slice h2 h5; have H2 := Lib.hid h2; have H3 := Lib.hid ((Fr.ofBelow (S := fun k => v.ownBlock = some k) ((below_drew w2).alloc (Nat.le_refl _) _)).trans (Fr.ofGrown h3 fun k _ e => e)); have H4 := Lib.hid ((Moved.refl w2 v).trans h4 (by simp)); have k3 := H3.out.cell c0 HD2.out.parts; have k4 := (H3.out.frozen (p := ⟨w.heap.size, 0, none⟩) hg2 HD2.out.parts).trans hfz; clear h2 h3 h4 h5)
        all_goals (
          go_wp2_with fail
          go_roundg (l.length - (kk + 1))
          case measure => omega
          case rel =>
            have hp := HD2.out.pushed x H3.out H2.out
            have hg0 : w.heap.size ≤ w2.heap.size := Nat.le_trans BW.out.size (Nat.le_of_lt hg3)
            refine ⟨kk + 1, by omega, by omega, by go_num, ((BW.out.trans ((below_alloc wr _).mono BW.out.size)).trans (HB2.out.mono (Nat.le_trans BW.out.size (by simp)))).trans (hp.2.below hg0 ?_), .slice (some ⟨gb, 0, none⟩) (acc.length + 1) cp, ?_, ?_⟩
            · intro k hk hd
              rcases hd with rfl | hd
              · omega
              · have := HV.out k hd
                omega
            · show DiskAt _ _ _ (dk0 (firsts (l.take (kk + 1))))
              rw [HS.out, HA.out]
              exact hp.1
            · show ∀ k, _ → _
              intro k hk
              rcases H4.out k hk with hk' | hk'
              · exact HV.out k hk'
              · omega)
    · have hltz : ¬ (kk : Int) < (l.length : Int) := by omega
      have : kk = l.length := by omega
      subst this
      go_wp2
      go_ret
      refine ⟨_, rfl, v, ?_, BW.out, Nat.le_refl _, HV.out⟩
      have := HDk.out
      rw [List.take_length] at this
      exact this
end Go.Proofs.YtefccfakhgdfbabGreatDoor
end
