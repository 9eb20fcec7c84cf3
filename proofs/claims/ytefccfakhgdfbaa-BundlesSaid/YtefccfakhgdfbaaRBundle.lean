/- The walks of tilesref.Bundle, tileslaw.same. -/
import Derived.Test.YtefccfakhgdfbaaBundle
import Derived.Test.YtefccfakhgdfbaaSum
import Derived.RegionTactic
import Derived.BigRegion
import Derived.Deep.QuietTactic
import Derived.BigQuiet
import Derived.WalkSmall
import Derived.WideShapes
namespace Go.Proofs.Ytefccfakhgdfbaa
open Go.RowKit
def encE (l : List UInt8) : List UInt8 := UInt8.ofNat l.length :: l
/-- P9: the bytes of a bundle; none: there is none. -/
def bundleOf (ls : List (List UInt8)) : Option (List UInt8) := if ls.length = 0 ∨ 4 < ls.length then none else if ls.all (fun l => decide (l.length ≤ 20)) then some (ls.flatMap encE) else none
def bss (ss : List ByteArray) : List (List UInt8) := ss.map (·.data.toList)
set_option maxHeartbeats 1000000 in
theorem same_any (v1 v2 : Value) (s1 s2 : List ByteArray) (w : World) (h1 : StrsAt w v1 s1) (h2 : StrsAt w v2 s2) (hn : s1.length ≤ 1048576) :
    Calls Try.prog 12 #[v1, v2] w fun e w' => e = .returned (.bool (decide (s1 = s2))) ∧ Below w.heap.size w w' := by
  obtain ⟨a1, c1, rfl, hcap1, hc1⟩ := h1
  obtain ⟨a2, c2, rfl, hcap2, hc2⟩ := h2
  by_cases hl : s1.length = s2.length
  · have hd : ((s1.length : Int) != (s2.length : Int)) = false := by rw [hl]; simp
    have H1 := Lib.hid hc1
    have H2 := Lib.hid hc2
    have HL := Lib.hid hl
    have hn2 : s2.length ≤ 1048576 := by omega
    clear hc1 hc2 hl
    go_enter Try.func12, Try.ntmps12
    go_wp2
    go_loopw [5] (fun i wr => ∃ (k n : Nat), k ≤ s1.length ∧ i = .int .i64 k ∧ wr = w.drewN n ∧ s1.take k = s2.take k) (fun i _ => s1.length - (intOf i).toNat)
    case atStart => exact ⟨0, 0, by omega, rfl, rfl, rfl⟩
    case round =>
      obtain ⟨k, nd, hk, rfl, rfl, heq⟩ := hrel
      have HEQ := Lib.hid heq
      clear heq
      by_cases hlt : k < s1.length
      · obtain ⟨x, hx⟩ : ∃ s, s1[k]? = some s := ⟨_, List.getElem?_eq_getElem hlt⟩
        obtain ⟨y, hy⟩ : ∃ s, s2[k]? = some s := ⟨_, List.getElem?_eq_getElem (by rw [← HL.out]; exact hlt)⟩
        obtain ⟨b1, off1, rfl, cell1⟩ := H1.out k (.string x) (by simp [hx])
        obtain ⟨b2, off2, rfl, cell2⟩ := H2.out k (.string y) (by simp [hy])
        have hlt2 : k < s2.length := by rw [← HL.out]; exact hlt
        have HX := Lib.hid hx
        have HY := Lib.hid hy
        have hk0 : (0 : Int) ≤ (k : Int) := by omega
        have hk1 : (k : Int) < (s1.length : Int) := by omega
        have hk2 : (k : Int) < (s2.length : Int) := by omega
        clear hx hy
        go_wp2
        go_quiet (fail)
        go_wp2
        · have hne : (!x.toList == y.toList) = true := by assumption
          go_ret
          refine ⟨ret_bool ?_, below_drewN (below_drewN (Below.refl _ _) _) _⟩
          rw [eq_comm, decide_eq_false_iff_not]
          rintro rfl
          have := HX.out
          rw [HY.out] at this
          cases this
          simp at hne
        · have hne : (!x.toList == y.toList) = false := by assumption
          have hxy : x = y := by
            rw [ByteArray.toList_eq, ByteArray.toList_eq] at hne
            exact Go.WideShapes.bytes_inj (by simpa using hne)
          subst hxy
          go_roundw
          case rel => exact ⟨k + 1, _, by omega, by go_num, rfl, by rw [List.take_add_one, List.take_add_one, HEQ.out, HX.out, HY.out]⟩
          case measure => simp [intOf]; omega
      · go_wp2
        go_ret
        have e1 : s1.take k = s1 := List.take_of_length_le (by omega)
        have e2 : s2.take k = s2 := List.take_of_length_le (by rw [← HL.out]; omega)
        exact ⟨ret_bool (by rw [eq_comm, decide_eq_true_eq, ← e1, ← e2]; exact HEQ.out), below_drewN (Below.refl _ _) _⟩
  · have hd : ((s1.length : Int) != (s2.length : Int)) = true := by rw [bne_iff_ne]; omega
    clear hc1 hc2
    go_enter Try.func12, Try.ntmps12
    go_wp2
    go_ret
    exact ⟨ret_bool (by rw [eq_comm, decide_eq_false_iff_not]; intro h; exact hl (by rw [h])), Below.refl _ _⟩
theorem bundle_none {ls : List (List UInt8)} (h : ls.length = 0 ∨ 4 < ls.length) : bundleOf ls = none := if_pos h
theorem bundle_long {ls : List (List UInt8)} {k : Nat} {l : List UInt8} (h : ls[k]? = some l) (hl : 20 < l.length) : bundleOf ls = none := by
  unfold bundleOf
  split
  · rfl
  · rw [if_neg]
    intro ha
    rw [List.all_eq_true] at ha
    have := ha l (List.mem_of_getElem? h)
    simp at this
    omega
theorem bundle_some {ls : List (List UInt8)} (h0 : ls.length ≠ 0) (h4 : ls.length ≤ 4) (h : ∀ (j : Nat) (l : List UInt8), ls[j]? = some l → l.length ≤ 20) : bundleOf ls = some (ls.flatMap encE) := by
  unfold bundleOf
  rw [if_neg (by omega), if_pos]
  rw [List.all_eq_true]
  intro l hl
  obtain ⟨j, hj, rfl⟩ := List.getElem_of_mem hl
  simpa using h j _ (List.getElem?_eq_getElem hj)
theorem run_bs {w : World} {v : Value} {l : List UInt8} (hb : BytesAt w v l) : Sem.run Try.prog (convert 35 9 v) w = .ok (.string ⟨l.toArray⟩) w := by
  obtain ⟨ad, c, rfl, _, hc⟩ := hb
  cases l with
  | nil =>
    have h := run_convert_bytes_string (P := Try.prog) w 35 9 5 ad 0 c Try.underlying35 Try.underlying5 Try.underlying9
    rw [show ([] : List UInt8).length = 0 from rfl, h]
    cases ad <;> simp [Conv.bytesToString, loadCells, loadCellsFrom] <;> rfl
  | cons x l =>
    obtain ⟨b, off, rfl, _⟩ := hc 0 (u8 x) (by simp)
    refine run_convert_bytes_back w 35 9 5 ⟨b, off, none⟩ c (x :: l) Try.underlying35 Try.underlying5 Try.underlying9 fun j hj => ?_
    obtain ⟨b', off', heq, hcell⟩ := hc j (u8 (x :: l)[j]) (by rw [List.getElem?_map, List.getElem?_eq_getElem hj]; rfl)
    cases heq
    rw [Addr.add_lit]
    exact hcell
theorem u8_small (n : Nat) (h : n ≤ 255) : (Value.int .u8 (n : Int)) = u8 (UInt8.ofNat n) := by
  show _ = Value.int .u8 _
  rw [UInt8.toNat_ofNat']
  congr 1
  omega
/-- A Go string and its flag, as Bundle answers. -/
def rbPost (ls : List (List UInt8)) (w : World) (e : Ending) (w' : World) : Prop :=
  e = .returned (.tuple #[.string ⟨((bundleOf ls).getD []).toArray⟩, .bool (bundleOf ls).isSome]) ∧ Below w.heap.size w w'
set_option maxHeartbeats 1000000 in
theorem rbundle_any (v : Value) (ss : List ByteArray) (w : World) (h : StrsAt w v ss) (hn : ss.length ≤ 1099511627776) :
    Calls Try.prog 9 #[v] w (rbPost (bss ss) w) := by
  obtain ⟨a, c, rfl, hcap, hc⟩ := h
  have hbl : (bss ss).length = ss.length := by simp [bss]
  by_cases h0 : ss.length = 0
  · have hd : ((ss.length : Int) == 0) = true := by simp [h0]
    clear hc
    go_enter Try.func9, Try.ntmps9
    go_wp2
    go_ret2
    rw [rbPost, bundle_none (.inl (by omega))]
    exact ⟨rfl, Below.refl _ _⟩
  · have hd : ((ss.length : Int) == 0) = false := by rw [beq_eq_false_iff_ne]; omega
    by_cases h4 : 4 < ss.length
    · have hd2 : decide (4 < (ss.length : Int)) = true := by simp; omega
      clear hc
      go_enter Try.func9, Try.ntmps9
      go_wp2
      go_ret2
      rw [rbPost, bundle_none (.inr (by omega))]
      exact ⟨rfl, Below.refl _ _⟩
    · have hd2 : decide (4 < (ss.length : Int)) = false := by simp; omega
      have HC := Lib.hid hc
      have HB := Lib.hid hbl
      clear hc hbl
      go_enter Try.func9, Try.ntmps9
      go_wp2
      go_loopw [4, 5] (fun s i wr => ∃ (k : Nat) (t : ByteArray), k ≤ ss.length ∧ i = .int .i64 k ∧ s = .string t ∧ t.size ≤ 21 * k ∧ t.data.toList = ((bss ss).take k).flatMap encE ∧ (∀ (j : Nat) (l : List UInt8), j < k → (bss ss)[j]? = some l → l.length ≤ 20) ∧ Below w.heap.size w wr) (fun _ i _ => ss.length - (intOf i).toNat)
      case atStart => exact ⟨0, ⟨#[]⟩, by omega, rfl, rfl, by decide, rfl, by omega, Below.refl _ _⟩
      case round =>
        obtain ⟨k, t, hk, rfl, rfl, htz, ht, hsm, hbel⟩ := hrel
        have HT := Lib.hid ht
        have HS := Lib.hid hsm
        have HBe := Lib.hid hbel
        clear ht hsm
        by_cases hlt : k < ss.length
        · obtain ⟨s, hs⟩ : ∃ s, ss[k]? = some s := ⟨_, List.getElem?_eq_getElem hlt⟩
          obtain ⟨b, off, rfl, hcell0⟩ := HC.out k (.string s) (by simp [hs])
          have hbw : b < w.heap.size := cell_lt hcell0
          have hcell : wr.cell? ⟨b, off + k, none⟩ = some (.string s) := (hbel.cell (p := ⟨b, off + k, none⟩) hbw).trans hcell0
          have hbw2 : b < wr.heap.size := cell_lt hcell
          have hbs : (bss ss)[k]? = some s.data.toList := by simp [bss, hs]
          have HK := Lib.hid hbs
          have hk0 : (0 : Int) ≤ (k : Int) := by omega
          have hk1 : (k : Int) < (ss.length : Int) := by omega
          clear hs hcell0 hbel hbs
          by_cases hlong : 20 < s.size
          · go_wp2
            go_ret2
            rw [rbPost, bundle_long HK.out hlong]
            exact ⟨rfl, HBe.out⟩
          · have hcv : Sem.run Try.prog (convert 35 9 (.slice (some ⟨wr.heap.size, 0, none⟩) 1 1)) ((wr.alloc (.cells #[.int .u8 (s.size : Int)] 5)).drew) = .ok (.string ⟨[UInt8.ofNat s.size].toArray⟩) ((wr.alloc (.cells #[.int .u8 (s.size : Int)] 5)).drew) := by
              rw [u8_small _ (by omega)]
              exact run_bs ((bytes1 (fz := (0, 0)) (heap_alloc_new' _ _ _ rfl)).below (below_drew _))
            go_wp2
            go_region
            go_wp2
            go_roundw
            case rel =>
              refine ⟨k + 1, _, by omega, by go_num, rfl, ?_, ?_, fun j l hj hl => ?_, (HBe.out.alloc HBe.out.size _).drew⟩
              · simp only [ByteArray.size_append]
                have : (ByteArray.mk #[UInt8.ofNat s.size]).size = 1 := rfl
                omega
              · rw [List.take_add_one, HK.out, List.flatMap_append, ← HT.out]
                simp [encE]
              · by_cases hjk : j = k
                · subst hjk
                  rw [HK.out] at hl
                  cases hl
                  exact Nat.le_of_not_lt hlong
                · exact HS.out j l (by omega) hl
            case measure => simp [intOf]; omega
        · go_wp2
          go_ret2
          have e1 : (bss ss).take k = bss ss := List.take_of_length_le (by rw [HB.out]; omega)
          have hb := bundle_some (ls := bss ss) (by rw [HB.out]; omega) (by rw [HB.out]; omega) (fun j l hj => HS.out j l (by have := (List.getElem?_eq_some_iff.1 hj).1; rw [HB.out] at this; omega) hj)
          rw [rbPost, hb]
          refine ⟨?_, HBe.out⟩
          have ht := HT.out
          rw [e1] at ht
          simp only [Option.getD_some, Option.isSome_some, ← ht]
          rfl
end Go.Proofs.Ytefccfakhgdfbaa
