/- The walk of tileslaw.same. -/
import Derived.Test.YtefccfakhgdfbaaDoorBundle
import Derived.RegionTactic
import Derived.BigRegion
import Derived.Deep.QuietTactic
import Derived.BigQuiet
import Derived.WalkSmall
import Derived.WideShapes
namespace Go.Proofs.YtefccfakhgdfbaaDoor
open Go.RowKit
set_option maxHeartbeats 1000000 in
theorem same_any (v1 v2 : Value) (s1 s2 : List ByteArray) (w : World) (h1 : StrsAt w v1 s1) (h2 : StrsAt w v2 s2) (hn : s1.length ≤ 1048576) :
    Calls Tryd.prog 14 #[v1, v2] w fun e w' => e = .returned (.bool (decide (s1 = s2))) ∧ Below w.heap.size w w' := by
  obtain ⟨a1, c1, rfl, hcap1, hc1⟩ := h1
  obtain ⟨a2, c2, rfl, hcap2, hc2⟩ := h2
  by_cases hl : s1.length = s2.length
  · have hd : ((s1.length : Int) != (s2.length : Int)) = false := by rw [hl]; simp
    have H1 := Lib.hid hc1
    have H2 := Lib.hid hc2
    have HL := Lib.hid hl
    have hn2 : s2.length ≤ 1048576 := by omega
    clear hc1 hc2 hl
    go_enter Tryd.func14, Tryd.ntmps14
    go_wp2
    go_loopw [5] (fun i wr => ∃ (k n : Nat), k ≤ s1.length ∧ i = .int .i64 k ∧ wr = w.drewN n ∧ s1.take k = s2.take k) (fun i _ => s1.length - (intOf i).toNat)
    case atStart => exact ⟨0, 0, by omega, rfl, rfl, rfl⟩
    case round =>
      obtain ⟨k, nd, hk, rfl, rfl, heq⟩ := hrel
      have HEQ := Lib.hid heq
      clear heq
      by_cases hlt : k < s1.length
      · obtain ⟨x, hx⟩ : ∃ s, s1[k]? = some s := ⟨_, List.getElem?_eq_getElem hlt⟩
        obtain ⟨y, hy⟩ : ∃ s, s2[k]? = some s := ⟨_, List.getElem?_eq_getElem (by rw [← HL.out]; exact hlt)⟩
        obtain ⟨b1, off1, rfl, cell1⟩ := H1.out k (.string x) (by simp [hx])
        obtain ⟨b2, off2, rfl, cell2⟩ := H2.out k (.string y) (by simp [hy])
        have hlt2 : k < s2.length := by rw [← HL.out]; exact hlt
        have HX := Lib.hid hx
        have HY := Lib.hid hy
        have hk0 : (0 : Int) ≤ (k : Int) := by omega
        have hk1 : (k : Int) < (s1.length : Int) := by omega
        have hk2 : (k : Int) < (s2.length : Int) := by omega
        clear hx hy
        go_wp2
        go_quiet (fail)
        go_wp2
        · have hne : (!x.toList == y.toList) = true := by assumption
          go_ret
          refine ⟨ret_bool ?_, below_drewN (below_drewN (Below.refl _ _) _) _⟩
          rw [eq_comm, decide_eq_false_iff_not]
          rintro rfl
          have := HX.out
          rw [HY.out] at this
          cases this
          simp at hne
        · have hne : (!x.toList == y.toList) = false := by assumption
          have hxy : x = y := by
            rw [ByteArray.toList_eq, ByteArray.toList_eq] at hne
            exact Go.WideShapes.bytes_inj (by simpa using hne)
          subst hxy
          go_roundw
          case rel => exact ⟨k + 1, _, by omega, by go_num, rfl, by rw [List.take_add_one, List.take_add_one, HEQ.out, HX.out, HY.out]⟩
          case measure => simp [intOf]; omega
      · go_wp2
        go_ret
        have e1 : s1.take k = s1 := List.take_of_length_le (by omega)
        have e2 : s2.take k = s2 := List.take_of_length_le (by rw [← HL.out]; omega)
        exact ⟨ret_bool (by rw [eq_comm, decide_eq_true_eq, ← e1, ← e2]; exact HEQ.out), below_drewN (Below.refl _ _) _⟩
  · have hd : ((s1.length : Int) != (s2.length : Int)) = true := by rw [bne_iff_ne]; omega
    clear hc1 hc2
    go_enter Tryd.func14, Tryd.ntmps14
    go_wp2
    go_ret
    exact ⟨ret_bool (by rw [eq_comm, decide_eq_false_iff_not]; intro h; exact hl (by rw [h])), Below.refl _ _⟩
theorem run_bs {w : World} {v : Value} {l : List UInt8} (hb : BytesAt w v l) : Sem.run Tryd.prog (convert 65 9 v) w = .ok (.string ⟨l.toArray⟩) w := by
  obtain ⟨ad, c, rfl, _, hc⟩ := hb
  cases l with
  | nil =>
    have h := run_convert_bytes_string (P := Tryd.prog) w 65 9 5 ad 0 c Tryd.underlying65 Tryd.underlying5 Tryd.underlying9
    rw [show ([] : List UInt8).length = 0 from rfl, h]
    cases ad <;> simp [Conv.bytesToString, loadCells, loadCellsFrom] <;> rfl
  | cons x l =>
    obtain ⟨b, off, rfl, _⟩ := hc 0 (u8 x) (by simp)
    refine run_convert_bytes_back w 65 9 5 ⟨b, off, none⟩ c (x :: l) Tryd.underlying65 Tryd.underlying5 Tryd.underlying9 fun j hj => ?_
    obtain ⟨b', off', heq, hcell⟩ := hc j (u8 (x :: l)[j]) (by rw [List.getElem?_map, List.getElem?_eq_getElem hj]; rfl)
    cases heq
    rw [Addr.add_lit]
    exact hcell
theorem u8_small (n : Nat) (h : n ≤ 255) : (Value.int .u8 (n : Int)) = u8 (UInt8.ofNat n) := by
  show _ = Value.int .u8 _
  rw [UInt8.toNat_ofNat']
  congr 1
  omega
/-- A list of bytes as a Go string. -/
abbrev sOf (l : List UInt8) : ByteArray := ⟨l.toArray⟩
theorem sOf_append (a b : List UInt8) : sOf a ++ sOf b = sOf (a ++ b) := by
  apply ByteArray.ext
  simp
theorem sOf_cons (x : UInt8) (r : List UInt8) : (ByteArray.mk #[x]) ++ sOf r = sOf (x :: r) := sOf_append [x] r
theorem beq_str_true {a b : ByteArray} (h : a = b) : (a.toList == b.toList) = true := by subst h; simp
theorem beq_str_false {a b : ByteArray} (h : a ≠ b) : (a.toList == b.toList) = false := by
  rw [beq_eq_false_iff_ne, ByteArray.toList_eq, ByteArray.toList_eq]
  intro e
  exact h (Go.WideShapes.bytes_inj e)
theorem sOf_self (s : ByteArray) : sOf s.data.toList = s := by
  apply ByteArray.ext
  simp
theorem sOf_size (l : List UInt8) : (sOf l).size = l.length := by simp [ByteArray.size]
theorem sOf_inj {a b : List UInt8} (h : sOf a = sOf b) : a = b := by
  have := congrArg (fun x => x.data.toList) h
  simpa using this
end Go.Proofs.YtefccfakhgdfbaaDoor
