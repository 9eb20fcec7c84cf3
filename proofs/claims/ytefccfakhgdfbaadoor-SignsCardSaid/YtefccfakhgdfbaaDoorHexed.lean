/- The walk of files.hexed. -/
import Derived.Test.YtefccfakhgdfbaaDoorDrawHex
import Derived.Test.YtefccfakhgdfbaaDoorHashes
namespace Go.Proofs.YtefccfakhgdfbaaDoor
open Go.RowKit
theorem hexOf_succ {l : List UInt8} {k : Nat} (hk : k < l.length) : hexOf (l.take (k + 1)) = hexOf (l.take k) ++ [hexD ((l.getD k 0).toNat / 16), hexD ((l.getD k 0).toNat % 16)] := by
  have e : l.take (k + 1) = l.take k ++ [l.getD k 0] := by
    rw [List.take_add_one, List.getElem?_eq_getElem hk]
    simp [List.getD, hk]
  rw [e]
  unfold hexOf
  rw [List.flatMap_append]
  rfl
set_option maxHeartbeats 4000000 in
set_option maxRecDepth 100000 in
theorem hexed_any (h : Hsh) (w : World) :
    Calls Tryd.prog 89 #[.agg (h8 h)] w fun e w' => e = .returned (.string (sOf (hexOf h.toList))) ∧ Below w.heap.size w w' := by
  have hown0 : ∀ W, OwnRow W w.heap.size (.slice none 0 0) (hexOf (h.toList.take 0)) := fun W => World.ownsRow_nil _ _ _ _
  have HO0 := Lib.hid hown0
  clear hown0
  go_enter Tryd.func89, Tryd.ntmps89
  go_wp2_with (first | (refine wpList_load8 rfl 62 _ rfl _ rfl _ Tryd.underlying62 info8 ?_ ?_ ?_; rotate_left; focus ((repeat (first | (with_reducible assumption) | ((with_reducible refine hashOf_zero' ?_); (first | rfl | (simp; done) | (simp; omega))) | ((with_reducible refine hashOf_at ?_); (first | rfl | (simp; done) | (simp; omega))) | (with_reducible exact hashOf_set' ⟨_, by assumption⟩ _) | ((with_reducible refine hashOf_set' (Is8_zero ?_) _); (first | rfl | (simp; done) | (simp; omega))) | (with_reducible refine hashOf_old ?_ _) | ((with_reducible refine hashOf_other ?_ _ ?_); rotate_left; (focus (first | (simp; done) | (simp; omega) | omega))) | (with_reducible refine hashOf_drew ?_) | (with_reducible refine hashOf_below ?_ (by assumption)))); done)))
  go_loopw [3, 7] (fun v i wr => ∃ k : Nat, k ≤ 8 ∧ i = .int .i64 k ∧ OwnRow wr w.heap.size v (hexOf (h.toList.take k)) ∧ Below w.heap.size w wr) (fun _ i _ => 8 - (intOf i).toNat)
  case atStart => exact ⟨0, by omega, rfl, HO0.out _, below_alloc _ _⟩
  case round =>
    obtain ⟨k, hk, rfl, hown, hbel⟩ := hrel
    have HOWN := Lib.hid hown
    have HBEL := Lib.hid hbel
    clear hown hbel
    by_cases hlt : k < 8
    · have hx := index_h8 h k hlt wr
      obtain ⟨x, hxx⟩ : ∃ x, x = h.toList.getD k 0 := ⟨_, rfl⟩
      rw [← hxx] at hx
      have hsucc := hexOf_succ (l := h.toList) (k := k) (by simpa using hlt)
      rw [← hxx] at hsucc
      have HSU := Lib.hid hsucc
      clear hxx hsucc
      go_wp2_with fail
      refine wp_region_any (by kernel_rfl) ?_
      have hdr : OwnRow wr.drew w.heap.size _ _ := HOWN.out
      refine drawHex' (x := x) (B := w.heap.size) rfl rfl rfl ?_ ?_ ?_ ⟨_, rfl, rfl, rfl, rfl⟩ ⟨_, rfl, rfl, rfl, rfl⟩ ⟨_, _, rfl, rfl, rfl, rfl⟩ ⟨_, rfl, rfl, rfl, rfl⟩ ⟨_, rfl, rfl, rfl, rfl⟩ ⟨_, _, rfl, rfl, rfl, rfl⟩ ⟨_, rfl, rfl, rfl, rfl⟩ ⟨_, rfl, rfl, rfl, rfl⟩ ⟨_, rfl, rfl, rfl, rfl⟩ ⟨_, rfl, rfl, rfl, rfl⟩ hdr (by rw [hexOf_len]; simp; omega) (below_drewN HBEL.out 1).size ?_
      · intro b i hi
        rw [Region.ready, List.mem_filter] at hi
        obtain ⟨hi1, hi2⟩ := hi
        have hi10 : i < 10 := List.mem_range.1 hi1
        have : i = 0 ∨ i = 1 ∨ i = 2 ∨ i = 3 ∨ i = 4 ∨ i = 5 ∨ i = 6 ∨ i = 7 ∨ i = 8 ∨ i = 9 := by omega
        clear hi1
        rcases this with rfl | rfl | rfl | rfl | rfl | rfl | rfl | rfl | rfl | rfl <;> simp [bs, Region.binds] at hi2 ⊢ <;> simp [hi2]
      · intro b hb
        have hh : ∀ c : Bool, (!c).toNat = 0 → c = true := by intro c; cases c <;> simp
        unfold left at hb
        have k0 := hh (b 0) (by omega)
        have k1 := hh (b 1) (by omega)
        have k2 := hh (b 2) (by omega)
        have k3 := hh (b 3) (by omega)
        have k4 := hh (b 4) (by omega)
        have k5 := hh (b 5) (by omega)
        have k6 := hh (b 6) (by omega)
        have k7 := hh (b 7) (by omega)
        have k8 := hh (b 8) (by omega)
        have k9 := hh (b 9) (by omega)
        rw [show bs b = #[true, true, true, true, true, true, true, true, true, true] by simp only [bs, k0, k1, k2, k3, k4, k5, k6, k7, k8, k9]]
        rfl
      · intro b f hf
        rcases k0 : b 0 with _ | _
        · exact List.ne_nil_of_mem (a := 0) (by rw [Region.ready, List.mem_filter]; exact ⟨List.mem_range.2 (by show 0 < 10; decide), by simp [bs, Region.binds, k0]⟩)
        rcases k1 : b 1 with _ | _
        · exact List.ne_nil_of_mem (a := 1) (by rw [Region.ready, List.mem_filter]; exact ⟨List.mem_range.2 (by show 1 < 10; decide), by simp [bs, Region.binds, k0, k1]⟩)
        rcases k2 : b 2 with _ | _
        · exact List.ne_nil_of_mem (a := 2) (by rw [Region.ready, List.mem_filter]; exact ⟨List.mem_range.2 (by show 2 < 10; decide), by simp [bs, Region.binds, k0, k1, k2]⟩)
        rcases k3 : b 3 with _ | _
        · exact List.ne_nil_of_mem (a := 3) (by rw [Region.ready, List.mem_filter]; exact ⟨List.mem_range.2 (by show 3 < 10; decide), by simp [bs, Region.binds, k0, k1, k2, k3]⟩)
        rcases k4 : b 4 with _ | _
        · exact List.ne_nil_of_mem (a := 4) (by rw [Region.ready, List.mem_filter]; exact ⟨List.mem_range.2 (by show 4 < 10; decide), by simp [bs, Region.binds, k0, k1, k2, k3, k4]⟩)
        rcases k5 : b 5 with _ | _
        · exact List.ne_nil_of_mem (a := 5) (by rw [Region.ready, List.mem_filter]; exact ⟨List.mem_range.2 (by show 5 < 10; decide), by simp [bs, Region.binds, k0, k1, k2, k3, k4, k5]⟩)
        rcases k6 : b 6 with _ | _
        · exact List.ne_nil_of_mem (a := 6) (by rw [Region.ready, List.mem_filter]; exact ⟨List.mem_range.2 (by show 6 < 10; decide), by simp [bs, Region.binds, k0, k1, k2, k3, k4, k5, k6]⟩)
        rcases k7 : b 7 with _ | _
        · exact List.ne_nil_of_mem (a := 7) (by rw [Region.ready, List.mem_filter]; exact ⟨List.mem_range.2 (by show 7 < 10; decide), by simp [bs, Region.binds, k0, k1, k2, k3, k4, k5, k6, k7]⟩)
        rcases k8 : b 8 with _ | _
        · exact List.ne_nil_of_mem (a := 8) (by rw [Region.ready, List.mem_filter]; exact ⟨List.mem_range.2 (by show 8 < 10; decide), by simp [bs, Region.binds, k0, k1, k2, k3, k4, k5, k6, k7, k8]⟩)
        rcases k9 : b 9 with _ | _
        · exact List.ne_nil_of_mem (a := 9) (by rw [Region.ready, List.mem_filter]; exact ⟨List.mem_range.2 (by show 9 < 10; decide), by simp [bs, Region.binds, k0, k1, k2, k3, k4, k5, k6, k7, k8, k9]⟩)
        exfalso
        simp only [left, k0, k1, k2, k3, k4, k5, k6, k7, k8, k9, Bool.not_true, Bool.toNat_false] at hf
        omega
      · intro v' w' ho hg
        have hg' : Below w.heap.size w w' := (HBEL.out.drew).grown hg HBEL.out.drew.size (fun j hj => (HOWN.out.lt j hj).1)
        have HO' := Lib.hid ho
        have HG' := Lib.hid hg'
        clear ho hg hg'
        go_wp2
        go_roundw
        case rel => exact ⟨k + 1, by omega, by go_num, by rw [HSU.out]; exact HO'.out, HG'.out⟩
        case measure => (simp [intOf] <;> omega)
    · have ht : h.toList.take k = h.toList := List.take_of_length_le (by simp; omega)
      have hb := HOWN.out.bytes
      rw [ht] at hb
      have HBY := Lib.hid hb
      clear hb ht
      go_wp2_with (refine wpList_bs rfl 65 9 _ rfl _ Tryd.underlying65 Tryd.underlying5 Tryd.underlying9 _ ?_ rfl ?_ ?_; rotate_left; focus exact HBY.out)
      go_ret
      exact ⟨rfl, HBEL.out⟩
end Go.Proofs.YtefccfakhgdfbaaDoor
