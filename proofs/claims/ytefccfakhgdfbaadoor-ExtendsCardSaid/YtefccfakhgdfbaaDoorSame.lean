/- The walks of slices.Index and slices.Contains at errors, plain.Same, tileslaw.Names. Condition: the sentinels are there. -/
import Derived.Test.YtefccfakhgdfbaaDoorSent
import Derived.Deep.QuietTactic
import Derived.BigQuiet
import Derived.Deep.RegionWith
namespace Go.Proofs.YtefccfakhgdfbaaDoor
open Go.RowKit
abbrev errV (a : Addr) : Value := .iface 181 (.pointer (some a))
set_option maxHeartbeats 400000 in
theorem errIndex_any (xs : List Addr) (x : Addr) (v : Value) (w : World) (h : Cells w v xs.length (xs.map errV)) (hx : Held0 w x) (hall : ∀ a ∈ xs, x ≠ a ∧ Held0 w a) (hl : xs.length ≤ 1048576) :
    Calls Tryd.prog 54 #[v, errV x] w fun e w' => e = .returned (.int .i64 (-1)) ∧ w = w' := by
  obtain ⟨a, c, rfl, hcap, hc⟩ := h
  have HC := Lib.hid hc
  have HA := Lib.hid hall
  have HX := Lib.hid hx
  clear hc hall hx
  go_enter Tryd.func54, Tryd.ntmps54
  go_wp2
  go_loop [8] (fun i => ∃ k : Nat, k ≤ xs.length ∧ i = .int .i64 k) (fun i => xs.length - (intOf i).toNat)
  case atStart => exact ⟨0, by omega, rfl⟩
  case round =>
    obtain ⟨k, hk, rfl⟩ := hrel
    by_cases hlt : k < xs.length
    · obtain ⟨y, hy⟩ : ∃ y, xs[k]? = some y := ⟨_, List.getElem?_eq_getElem hlt⟩
      obtain ⟨b, off, rfl, hcell⟩ := HC.out k (errV y) (by simp [hy])
      have hq := eql_other w HX.out (HA.out y (List.mem_of_getElem? hy)).2 (HA.out y (List.mem_of_getElem? hy)).1
      clear hy
      go_wp2
      go_round
      case rel => exact ⟨k + 1, by omega, by go_num⟩
      case measure => simp [intOf]; omega
    · go_wp2
      go_ret
      exact ⟨rfl, rfl⟩
set_option maxHeartbeats 400000 in
theorem errContains_any (xs : List Addr) (x : Addr) (v : Value) (w : World) (h : Cells w v xs.length (xs.map errV)) (hx : Held0 w x) (hall : ∀ a ∈ xs, x ≠ a ∧ Held0 w a) (hl : xs.length ≤ 1048576) :
    Calls Tryd.prog 29 #[v, errV x] w fun e w' => e = .returned (.bool false) ∧ w = w' := by
  have HH := Lib.hid h
  have HA := Lib.hid hall
  have HX := Lib.hid hx
  clear h hall hx
  go_enter Tryd.func29, Tryd.ntmps29
  go_wp2_with fail
  refine (errIndex_any xs x v w HH.out HX.out HA.out hl).mono ?_
  rintro e w1 ⟨rfl, rfl⟩
  go_wp2
  go_ret
  exact ⟨rfl, rfl⟩
set_option maxHeartbeats 1000000 in
theorem psame_any (f : Nat → Addr) (w : World) (h : Sents w f) :
    Calls Tryd.prog 9 #[] w fun e w' => e = .returned (.bool true) ∧ Below w.heap.size w w' := by
  have c0 := (h 0 (by decide)).1
  have c1 := (h 1 (by decide)).1
  have c2 := (h 2 (by decide)).1
  have c3 := (h 3 (by decide)).1
  have c4 := (h 4 (by decide)).1
  have c5 := (h 5 (by decide)).1
  have c6 := (h 6 (by decide)).1
  simp only [sVars, List.getD_cons_zero, List.getD_cons_succ] at c0 c1 c2 c3 c4 c5 c6
  have HS := Lib.hid h
  clear h
  go_enter Tryd.func9, Tryd.ntmps9
  go_wp2
  obtain ⟨W1, hW1⟩ : ∃ W1, W1 = w.alloc (.cells #[errV (f 0), errV (f 1), errV (f 2), errV (f 3), errV (f 4), errV (f 5), errV (f 6)] 50) := ⟨_, rfl⟩
  have hcell : ∀ k, k < 7 → W1.cell? ⟨w.heap.size, k, none⟩ = some (errV (f k)) := by
    intro k hk
    rw [hW1, World.cell?_alloc_at _ _ _ _ rfl]
    have : k = 0 ∨ k = 1 ∨ k = 2 ∨ k = 3 ∨ k = 4 ∨ k = 5 ∨ k = 6 := by omega
    rcases this with rfl | rfl | rfl | rfl | rfl | rfl | rfl <;> rfl
  have hS1 : Sents W1 f := by rw [hW1]; exact HS.out.below (below_alloc w _)
  have hB1 : Below w.heap.size w W1 := by rw [hW1]; exact below_alloc w _
  have hlt1 : w.heap.size < W1.heap.size := by rw [hW1]; simp
  have HCELL := Lib.hid hcell
  have HS1 := Lib.hid hS1
  have HB1 := Lib.hid (show ∀ w2, Below W1.heap.size W1 w2 → Below w.heap.size w w2 from fun w2 h => hB1.trans (h.mono hB1.size))
  rw [← hW1]
  clear hcell hS1 hB1 hW1 c0 c1 c2 c3 c4 c5 c6 HS
  go_loopw [13] (fun i wr => ∃ k : Nat, k ≤ 7 ∧ i = .int .i64 k ∧ Below W1.heap.size W1 wr) (fun i _ => 7 - (intOf i).toNat)
  case atStart => exact ⟨0, by omega, rfl, Below.refl _ _⟩
  case round =>
    obtain ⟨k, hk, rfl, hbel⟩ := hrel
    by_cases hlt : k < 7
    · have hcell := (hbel.cell (p := ⟨w.heap.size, k, none⟩) hlt1).trans (HCELL.out k hlt)
      have hcells : Cells wr (.slice (some ⟨w.heap.size, 0, none⟩) k 7) ((List.range k).map f).length (((List.range k).map f).map errV) := by
        have hl : ((List.range k).map f).length = k := by simp
        rw [hl]
        refine ⟨_, 7, rfl, by omega, fun j x hx => ?_⟩
        rw [List.map_map, List.getElem?_map] at hx
        obtain ⟨y, hy, rfl⟩ := Option.map_eq_some_iff.1 hx
        have hj : j < k := by have := (List.getElem?_eq_some_iff.1 hy).1; simpa using this
        rw [List.getElem?_range hj] at hy
        cases hy
        refine ⟨w.heap.size, 0, rfl, ?_⟩
        rw [Nat.zero_add]
        exact (hbel.cell (p := ⟨w.heap.size, j, none⟩) hlt1).trans (HCELL.out j (by omega))
      have hSr := HS1.out.below hbel
      have hall : ∀ a ∈ (List.range k).map f, f k ≠ a ∧ Held0 wr a := by
        intro a ha
        obtain ⟨j, hj, rfl⟩ := List.mem_map.1 ha
        have hj := List.mem_range.1 hj
        exact ⟨hSr.ne hlt (by omega) (by omega), hSr.held (by omega)⟩
      have CON := Lib.hid (fun n => errContains_any ((List.range k).map f) (f k) (.slice (some ⟨w.heap.size, 0, none⟩) k 7) (wr.drewN n) (Cells.below hcells (below_drewN (Below.refl _ _) n)) ((hSr.held hlt).below (below_drewN (Below.refl _ _) n)) (fun a ha => ⟨(hall a ha).1, (hall a ha).2.below (below_drewN (Below.refl _ _) n)⟩) (by simp; omega))
      have HBEL := Lib.hid hbel
      have hnil := fun w => eql_nil w 181 (.pointer (some (f k)))
      clear hcells hSr hall hbel
      have i0 : (0 : Int) ≤ k := by omega
      have i1 : (k : Int) < 7 := by omega
      have i2 : (k : Int) ≤ 7 := by omega
      go_wp2_with fail
      go_quiet ((go_at_call 29; exact Calls.quiet_of_same ((CON.out _).mono fun _ _ ⟨he, hm⟩ => ⟨he, hm.symm⟩)))
      go_wp2
      go_roundw
      case rel => exact ⟨k + 1, by omega, by go_num, below_drewN HBEL.out _⟩
      case measure => simp [intOf]; omega
    · go_wp2
      go_ret
      exact ⟨rfl, HB1.out _ hbel⟩
set_option maxHeartbeats 400000 in
theorem names_walk (f : Nat → Addr) (w : World) (h : Sents w f) :
    Calls Tryd.prog 3 #[] w fun e w' => e = .returned (.bool true) ∧ Below w.heap.size w w' := by
  have HS := Lib.hid h
  clear h
  go_enter Tryd.func3, Tryd.ntmps3
  go_wp2_with fail
  refine (psame_any f _ HS.out).mono ?_
  rintro e w1 ⟨rfl, hb⟩
  go_wp2
  go_ret
  exact ⟨rfl, hb⟩
end Go.Proofs.YtefccfakhgdfbaaDoor
