/- tileslaw.Trees answers true. -/
import Derived.Test.YtefccfakhgdfbaaTree
namespace Go.Proofs.Ytefccfakhgdfbaa
open Go.RowKit
set_option maxHeartbeats 1000000 in
theorem trees_walk (v : Value) (ss : List ByteArray) (w : World) (h : StrsAt w v ss) :
    Calls Try.prog 6 #[v] w fun e w' => e = .returned (.bool true) ∧ Below w.heap.size w w' := by
  obtain ⟨a, c, hv, hcap, hc⟩ := id h
  have HC := Lib.hid hc
  have HH := Lib.hid h
  clear h hc
  subst hv
  go_enter Try.func6, Try.ntmps6
  go_wp2_with fail
  refine (few_any _ ss _ HH.out).mono ?_
  rintro e w0 ⟨rfl, rfl⟩
  cases hf : fewB ss with
  | false =>
    go_wp2
    go_ret
    exact ⟨rfl, Below.refl _ _⟩
  | true =>
    obtain ⟨hl, hs⟩ := few_out hf
    have HS' := Lib.hid hs
    clear hf hs
    go_wp2_with fail
    refine (proot_any _ ss _ HH.out (by omega) HS'.out).mono ?_
    rintro e w1 ⟨rfl, hb1⟩
    have HB1 := Lib.hid hb1
    clear hb1
    go_wp2_with fail
    refine (rroot_any ss.length ss _ _ (Nat.le_refl _) (HH.out.below HB1.out) (by omega) HS'.out).mono ?_
    rintro e w2 ⟨rfl, hb2⟩
    have HB2 := Lib.hid (HB1.out.trans (hb2.mono HB1.out.size))
    clear hb2
    obtain ⟨r, hr⟩ : ∃ r, r = HS (rootOf (lists ss)) := ⟨_, rfl⟩
    rw [← hr]
    clear hr
    go_wp2_with fail
    go_loopw [6] (fun i wr => ∃ k : Nat, k ≤ ss.length ∧ i = .int .i64 k ∧ Below w.heap.size w wr) (fun i _ => ss.length - (intOf i).toNat)
    case atStart => exact ⟨0, by omega, rfl, HB2.out⟩
    case round =>
      obtain ⟨k, hk, rfl, hbel⟩ := hrel
      by_cases hlt : k < ss.length
      · obtain ⟨s, hs⟩ : ∃ s, ss[k]? = some s := ⟨_, List.getElem?_eq_getElem hlt⟩
        obtain ⟨b, off, rfl, hcell0⟩ := HC.out k (.string s) (by simp [hs])
        have hcell : wr.cell? ⟨b, off + k, none⟩ = some (.string s) := (hbel.cell (p := ⟨b, off + k, none⟩) (cell_lt hcell0)).trans hcell0
        have hsm := HS'.out s (List.mem_of_getElem? hs)
        have HB := Lib.hid hbel
        have hcl := cell_lt hcell
        clear hs hcell0 hbel
        go_wp2_with fail
        refine (pleaf_any s _ hsm).mono ?_
        rintro e w3 ⟨rfl, hb3⟩
        have hcell3 := (hb3.cell (p := ⟨b, off + k, none⟩) hcl).trans hcell
        have HB3 := Lib.hid (HB.out.trans (hb3.mono HB.out.size))
        clear hb3 hcell
        go_wp2_with fail
        refine (rleaf_any s _ (by omega)).mono ?_
        rintro e w4 ⟨rfl, hb4⟩
        have HB4 := Lib.hid (HB3.out.trans (hb4.mono HB3.out.size))
        clear hb4 hcell3
        generalize HS (leafH s.data.toList) = x
        go_wp2
        go_roundw
        case rel => exact ⟨k + 1, by omega, by go_num, HB4.out⟩
        case measure => simp [intOf]; omega
      · go_wp2
        go_ret
        exact ⟨ret_bool (by simp), hbel⟩
end Go.Proofs.Ytefccfakhgdfbaa
