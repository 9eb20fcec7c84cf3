/-
  tileslaw.Publishes: the walk. Conditions: the numerals' tables, the sentinels and errors.errorType stand.
-/
import Derived.Test.YtefccfakhgdfbabGreatDoorPb42
set_option linter.unusedVariables false
set_option linter.unusedSimpArgs false
section
namespace Go.Proofs.YtefccfakhgdfbabGreatDoor
open Go.RowKit
/-- A World that a call has made. -/
def FreshW (w : World) (l : List Fil) (key : ByteArray) (p : Pl) (w' : World) : Prop :=
  WdIs w' p ⟨key, dk0 (firsts l), none, [], 0, false, false⟩ ∧ Below w.heap.size w w' ∧ ∀ k, WdS p ⟨key, dk0 (firsts l), none, [], 0, false, false⟩ k → w.heap.size ≤ k
set_option maxRecDepth 100000 in
set_option maxHeartbeats 2000000 in
theorem world_any (w : World) (va : Value) (l : List Fil) (key : ByteArray) (h : FilesAt w va l) (hn : l.length ≤ 1073741824) :
    Calls Tryz.prog 25 #[va, .string key] w fun e w' => ∃ p, e = .returned (.pointer (some ⟨p.gw, 0, none⟩)) ∧ FreshW w l key p w' := by
  obtain ⟨wb, hwb⟩ : ∃ wb, wb = w.alloc (.cells #[.pointer none, .string key, .pointer none, .slice none 0 0, .int .i64 0, .bool false, .bool false] 78) := ⟨_, rfl⟩
  have hb : Below w.heap.size w wb := by rw [hwb]; exact below_alloc w _
  have hob : wb.heap[w.heap.size]? = some (.cells #[.pointer none, .string key, .pointer none, .slice none 0 0, .int .i64 0, .bool false, .bool false] 78 (0, 0)) := by rw [hwb]; exact heap_alloc_new w _
  have HN := Lib.hid (newDisk_any wb va l (h.below hb) hn)
  have HB := Lib.hid hb
  have HOB := Lib.hid hob
  have HWB := Lib.hid hwb
  clear h hb hob hwb
  go_enter Tryz.func25, Tryz.ntmps25
  go_upto_region 2 with fail
  rw [← HWB.out]
  clear HWB
  go_wp2_with (first | (go_at_call 35; refine HN.out.mono ?_; rintro e w1 ⟨g, v, rfl, hd, hb1, hg, hv⟩; have HD := Lib.hid hd; have HB1 := Lib.hid hb1; have HV := Lib.hid hv; have hob1 := (hb1.block _ (lt_of_heap HOB.out)).trans HOB.out; have HOB1 := Lib.hid hob1; have o0 := cell_heap hob1 0 rfl; have of := frozen_heap hob1 0; clear hd hb1 hv hob1) | fail)
  go_ret
  have hsz := HB.out.size
  have hk1 := kinds_one HOB1.out
  have hfr := Fr.set1 w1 w.heap.size 0 (.pointer (some ⟨g, 0, none⟩))
  refine ⟨⟨w.heap.size, g, v, .slice none 0 0, 0, 0, .slice none 0 0, .slice none 0 0, .slice none 0 0, []⟩, rfl, ⟨(heap_setCell HOB1.out _).trans (by simp [wdCells, plV]), HD.out.kept hfr hk1 (by decide) (by decide), World.ownsRow_nil _ _ _ _, fun L hL => by cases hL⟩, ?_, ?_⟩
  · exact (HB.out.trans (HB1.out.mono HB.out.size)).setCell (Nat.le_refl _) _
  · intro k hk
    rcases hk with hk | (hk | hk) | hk | ⟨hk, _⟩
    · exact Nat.le_of_eq hk.symm
    · have : k = g := hk
      omega
    · exact Nat.le_trans hsz (HV.out k hk)
    · cases hk
    · cases hk
/-- A step of a script. -/
structure Op1 where
  kind : Int
  a : Int
  two : Bool
  s : ByteArray
def opCells (o : Op1) : List Value := [.int .i64 o.kind, .int .i64 o.a, .bool o.two, .string o.s]
def OpsAt (w : World) (v : Value) (l : List Op1) : Prop :=
  ∃ a c, v = .slice a l.length c ∧ l.length ≤ c ∧ ∀ j x, l[j]? = some x → ∃ b off, a = some ⟨b, off, none⟩ ∧ w.cell? ⟨b, off + j * 4, none⟩ = some (.int .i64 x.kind) ∧ w.cell? ⟨b, off + j * 4 + 1, none⟩ = some (.int .i64 x.a) ∧ w.cell? ⟨b, off + j * 4 + 2, none⟩ = some (.bool x.two) ∧ w.cell? ⟨b, off + j * 4 + 3, none⟩ = some (.string x.s)
theorem OpsAt.below {w w' : World} {v : Value} {l : List Op1} (h : OpsAt w v l) (hb : Below w.heap.size w w') : OpsAt w' v l := by
  obtain ⟨a, c, hv, hc, hx⟩ := h
  refine ⟨a, c, hv, hc, fun j x hj => ?_⟩
  obtain ⟨b, off, ha, h1, h2, h3, h4⟩ := hx j x hj
  exact ⟨b, off, ha, (hb.cell (cell_lt h1)).trans h1, (hb.cell (cell_lt h2)).trans h2, (hb.cell (cell_lt h3)).trans h3, (hb.cell (cell_lt h4)).trans h4⟩
/-- What claimed answers. -/
def ClaimOut (l : List Fil) (ops : List Op1) (w : World) (e : Ending) (w' : World) : Prop := ∃ b, e = .returned (.bool b) ∧ w = w' ∧ (b = true → l.length ≤ 4096 ∧ ops.length ≤ 4096 ∧ ∀ f ∈ l, f.1.size ≤ 1048576 ∧ f.2.size ≤ 1048576)
set_option maxRecDepth 100000 in
set_option maxHeartbeats 2000000 in
theorem claimed_any (w : World) (va vo : Value) (l : List Fil) (ops : List Op1) (h : FilesAt w va l) (ho : OpsAt w vo ops) (hn : l.length ≤ 9223372036854775807) (hm : ops.length ≤ 9223372036854775807) :
    Calls Tryz.prog 23 #[va, vo] w (ClaimOut l ops w) := by
  obtain ⟨a, c, rfl, hc, hx⟩ := h
  obtain ⟨ao, co, rfl, hco, _⟩ := ho
  have HX := Lib.hid hx
  clear hx
  by_cases h1 : 4096 < l.length
  · have hz : (4096 : Int) < (l.length : Int) := by omega
    go_enter Tryz.func23, Tryz.ntmps23
    go_wp2
    go_ret
    exact ⟨false, rfl, rfl, fun h => by cases h⟩
  · have hz : ¬ (4096 : Int) < (l.length : Int) := by omega
    by_cases h2 : 4096 < ops.length
    · have hz2 : (4096 : Int) < (ops.length : Int) := by omega
      go_enter Tryz.func23, Tryz.ntmps23
      go_wp2
      go_ret
      exact ⟨false, rfl, rfl, fun h => by cases h⟩
    · have hz2 : ¬ (4096 : Int) < (ops.length : Int) := by omega
      go_enter Tryz.func23, Tryz.ntmps23
      go_wp2
      go_loop [5] (fun s5 => ∃ k : Nat, k ≤ l.length ∧ s5 = .int .i64 k ∧ Aside (∀ j f, j < k → l[j]? = some f → f.1.size ≤ 1048576 ∧ f.2.size ≤ 1048576)) (fun s5 => l.length - (intOf s5).toNat)
      case atStart => exact ⟨0, Nat.zero_le _, rfl, fun j f hj => by omega⟩
      case round =>
        obtain ⟨k, hk, rfl, HM⟩ := hrel
        by_cases hlt : k < l.length
        · obtain ⟨x, hx⟩ : ∃ x, l[k]? = some x := ⟨_, List.getElem?_eq_getElem hlt⟩
          obtain ⟨b, off, rfl, d1, d2⟩ := HX.out k x hx
          have hkz : (k : Int) < (l.length : Int) := by omega
          have hk0 : (0 : Int) ≤ (k : Int) := by omega
          have HXX := Lib.hid hx
          clear hx
          by_cases g2 : 1048576 < x.2.size
          · have gz : (1048576 : Int) < (x.2.size : Int) := by omega
            go_wp2
            go_ret
            exact ⟨false, rfl, rfl, fun h => by cases h⟩
          · have gz : ¬ (1048576 : Int) < (x.2.size : Int) := by omega
            by_cases g1 : 1048576 < x.1.size
            · have gz2 : (1048576 : Int) < (x.1.size : Int) := by omega
              go_wp2
              go_ret
              exact ⟨false, rfl, rfl, fun h => by cases h⟩
            · have gz2 : ¬ (1048576 : Int) < (x.1.size : Int) := by omega
              go_wp2
              go_round
              case rel =>
                refine ⟨k + 1, by omega, by go_num, fun j f hj hf => ?_⟩
                by_cases hjk : j = k
                · subst hjk
                  rw [HXX.out] at hf
                  cases hf
                  exact ⟨by omega, by omega⟩
                · exact HM.out j f (by omega) hf
              case measure => simp [intOf]; omega
        · have hkz : ¬ (k : Int) < (l.length : Int) := by omega
          have hkl : k = l.length := by omega
          have HK := Lib.hid hkl
          clear hkl
          go_wp2
          go_ret
          refine ⟨true, rfl, rfl, fun _ => ⟨by omega, by omega, fun f hf => ?_⟩⟩
          obtain ⟨j, hj⟩ := List.mem_iff_getElem?.1 hf
          exact HM.out j f (by rw [HK.out]; exact (List.getElem?_eq_some_iff.1 hj).1) hj
end Go.Proofs.YtefccfakhgdfbabGreatDoor
end
