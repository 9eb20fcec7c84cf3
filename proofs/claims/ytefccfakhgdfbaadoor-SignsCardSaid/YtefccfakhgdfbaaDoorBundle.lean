/- The walks of tileslaw.few, plain.entries, plain.spoil. -/
import Derived.Test.YtefccfakhgdfbaaDoorLib
namespace Go.Proofs.YtefccfakhgdfbaaDoor
open Go.RowKit

def fewB (ss : List ByteArray) : Bool := decide (ss.length ≤ 4096) && ss.all (fun s => decide (s.size ≤ 1048576))
theorem few_yes {ss : List ByteArray} (h1 : ss.length ≤ 4096) (h : ∀ (j : Nat) (s : ByteArray), ss[j]? = some s → s.size ≤ 1048576) : fewB ss = true := by
  simp only [fewB, Bool.and_eq_true, decide_eq_true_eq, List.all_eq_true]
  refine ⟨h1, fun x hx => ?_⟩
  obtain ⟨j, hj, rfl⟩ := List.getElem_of_mem hx
  exact h j _ (List.getElem?_eq_getElem hj)
theorem few_no {ss : List ByteArray} {j : Nat} {s : ByteArray} (hj : ss[j]? = some s) (h : 1048576 < s.size) : fewB ss = false := by
  simp only [fewB, Bool.and_eq_false_iff]
  right
  rw [List.all_eq_false]
  exact ⟨s, List.mem_of_getElem? hj, by simp; omega⟩
theorem few_out {ss : List ByteArray} (h : fewB ss = true) : ss.length ≤ 4096 ∧ ∀ s ∈ ss, s.size ≤ 1048576 := by
  simpa [fewB] using h
set_option maxHeartbeats 400000 in
theorem few_any (v : Value) (ss : List ByteArray) (w : World) (h : StrsAt w v ss) :
    Calls Tryd.prog 10 #[v] w fun e w' => e = .returned (.bool (fewB ss)) ∧ w = w' := by
  obtain ⟨a, c, rfl, hcap, hc⟩ := h
  by_cases hn : 4096 < ss.length
  · go_enter Tryd.func10, Tryd.ntmps10
    go_wp2
    go_ret
    exact ⟨ret_bool (by simp [fewB]; omega), rfl⟩
  · have HC := Lib.hid hc
    clear hc
    have hd : decide (4096 < (ss.length : Int)) = false := by simp; omega
    go_enter Tryd.func10, Tryd.ntmps10
    go_wp2
    go_loop [3] (fun i => ∃ k : Nat, k ≤ ss.length ∧ i = .int .i64 k ∧ ∀ (j : Nat) (s : ByteArray), j < k → ss[j]? = some s → s.size ≤ 1048576) (fun i => ss.length - (intOf i).toNat)
    case atStart => exact ⟨0, by omega, rfl, by omega⟩
    case round =>
      obtain ⟨k, hk, rfl, hsm⟩ := hrel
      have HS := Lib.hid hsm
      clear hsm
      by_cases hlt : k < ss.length
      · obtain ⟨s, hs⟩ : ∃ s, ss[k]? = some s := ⟨_, List.getElem?_eq_getElem hlt⟩
        obtain ⟨b, off, rfl, hcell⟩ := HC.out k (.string s) (by simp [hs])
        have HK := Lib.hid hs
        clear hs
        go_wp2
        · have hbig : 1048576 < (s.size : Int) := by assumption
          go_ret
          exact ⟨ret_bool (few_no HK.out (by omega)).symm, rfl⟩
        · have hbig : (s.size : Int) ≤ 1048576 := by assumption
          go_round
          case rel =>
            refine ⟨k + 1, by omega, by go_num, fun j s' hj hs' => ?_⟩
            by_cases hjk : j = k
            · subst hjk
              have := HK.out
              rw [hs'] at this
              cases this
              omega
            · exact HS.out j s' (by omega) hs'
          case measure => simp [intOf]; omega
      · go_wp2
        go_ret
        exact ⟨ret_bool (few_yes (by omega) (fun j s hs => HS.out j s (by have := (List.getElem?_eq_some_iff.1 hs).1; omega) hs)).symm, rfl⟩

theorem info_bs : (Tryd.prog.info? 65).map (fun i => (i.zero, i.size, i.bytes)) = some (some (.slice none 0 0), 1, 24) := by kernel_rfl

set_option maxHeartbeats 400000 in
theorem entries_any (v : Value) (ss : List ByteArray) (w : World) (h : StrsAt w v ss) (hn : ss.length ≤ 1048576) :
    Calls Tryd.prog 31 #[v] w fun e w' => ∃ v', e = .returned v' ∧ OwnBss w' w.heap.size v' (ss.map (·.data.toList)) ∧ Below w.heap.size w w' := by
  obtain ⟨a, c, rfl, hcap, hc⟩ := h
  have HC := Lib.hid hc
  clear hc
  obtain ⟨i0, hi, hz0, hz1, hz2⟩ := info_parts info_bs
  go_enter Tryd.func31, Tryd.ntmps31
  go_wp2
  go_loopw [3, 8] (fun v i wr => ∃ k : Nat, k ≤ ss.length ∧ i = .int .i64 k ∧ OwnBss wr w.heap.size v ((ss.take k).map (·.data.toList)) ∧ Below w.heap.size w wr) (fun _ i _ => ss.length - (intOf i).toNat)
  case atStart => exact ⟨0, by omega, rfl, ⟨[], World.ownsRow_nil _ _ _ _, by simp⟩, Below.refl _ _⟩
  case round =>
    obtain ⟨k, hk, rfl, hown, hbel⟩ := hrel
    by_cases hlt : k < ss.length
    · obtain ⟨s, hs⟩ : ∃ s, ss[k]? = some s := ⟨_, List.getElem?_eq_getElem hlt⟩
      obtain ⟨b, off, rfl, hcell0⟩ := HC.out k (.string s) (by simp [hs])
      have hcell : wr.cell? ⟨b, off + k, none⟩ = some (.string s) := (hbel.cell (p := ⟨b, off + k, none⟩) (cell_lt hcell0)).trans hcell0
      have HK := Lib.hid hs
      clear hs hcell0
      obtain ⟨vs, hrow, hall⟩ := hown
      have HR := Lib.hid hrow
      have HA := Lib.hid hall
      have HB := Lib.hid hbel
      clear hrow hall hbel
      go_wp2_with (first | (refine wpList_sb rfl 9 65 5 _ rfl Tryd.underlying9 Tryd.underlying65 Tryd.underlying5 rfl s rfl ?_; intro u w1 hu hb1 hw1 hv1; obtain ⟨b1, c1, rfl⟩ := hv1; have HU := Lib.hid hu; have HB1 := Lib.hid hb1; clear hu hb1 hw1) | (at_builtin; refine wpList_app1 rfl _ _ 56 rfl w.heap.size 65 i0 (.slice none 0 0) 24 Tryd.underlying56 hi hz0 hz1 hz2 rfl (by decide) _ _ vs rfl (ownsRow_below HR.out HB1.out) _ rfl rfl (by simp; omega) (Nat.le_trans HB.out.size HB1.out.size) ?_; intro v2 w2 hr2 hg2 hne2; have HR2 := Lib.hid hr2; have HG2 := Lib.hid hg2; clear hr2 hg2 hne2))
      go_roundw
      case rel =>
        refine ⟨k + 1, by omega, by go_num, ?_, ?_⟩
        · rw [OwnBss.take_succ HK.out]
          refine OwnBss.grow (ownsRow_below HR.out HB1.out) (fun j u l h1 h2 => (HA.out j u l h1 h2).below HB1.out) (HU.out.mono HB.out.size) ?_ HG2.out
          simpa [Nat.min_eq_left hk] using HR2.out
        · exact ((HB.out.trans (HB1.out.mono HB.out.size)).grown HG2.out (Nat.le_trans HB.out.size HB1.out.size) (fun j hj => (HR.out.lt j hj).1))
      case measure => simp [intOf]; omega
    · have ht : ss.take k = ss := List.take_of_length_le (by omega)
      rw [ht] at hown
      go_wp2
      go_ret
      exact ⟨_, rfl, hown, hbel⟩
end Go.Proofs.YtefccfakhgdfbaaDoor
