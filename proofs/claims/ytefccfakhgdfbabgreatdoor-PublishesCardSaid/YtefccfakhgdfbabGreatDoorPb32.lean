/-
  errors.As at a path error of a store's own error, whole. The variable errors.errorType stands.
  plain.Of at path errors: of ErrTile, and of a store's own error. The sentinels and errors.errorType stand.
-/
import Derived.Test.YtefccfakhgdfbabGreatDoorPb31
import Derived.Deep.Cut
import Derived.BigQuiet
import Derived.Deep.RegionLaw
import Derived.Deep.CutRange
import Derived.Deep.DeepCutAuto
import Derived.Deep.DeepMust
set_option linter.unusedVariables false
set_option linter.unusedSimpArgs false
section
namespace Go.Proofs.YtefccfakhgdfbabGreatDoor
open Go.RowKit Go.Extern.Stop Go.Stop Go.Extern
set_option maxRecDepth 100000 in
set_option maxHeartbeats 4000000 in
theorem as_path (q r t : Nat) (w : World) (old : Value) (hg : w.cell? ⟨7, 0, none⟩ = some (.iface 282 (.agg #[.pointer (some ⟨17, 88, none⟩)])))
    (h1 : w.cell? ⟨r, 1, none⟩ = some (.iface 152 (.pointer (some ⟨q, 0, none⟩)))) (ht0 : w.cell? ⟨t, 0, none⟩ = some old) (hf0 : w.frozen? ⟨t, 0, none⟩ = false) :
    Calls Tryz.prog 74 #[.iface 153 (.pointer (some ⟨r, 0, none⟩)), .iface 158 (.pointer (some ⟨t, 0, none⟩))] w
      fun ev w' => ev = .returned (.bool true) ∧ w'.cell? ⟨t, 0, none⟩ = some (.pointer (some ⟨q, 0, none⟩)) ∧ Fr (· = t) w w' := by
  have h6 := @run_callFunc_extern Tryz.prog 132 _ (fun args => ReflectliteValue.unpack (args.getD 0 (.tuple #[]))) Tryz.func132 (by kernel_rfl) (by kernel_rfl) (by kernel_rfl) (by kernel_rfl)
  have h7 := @run_callFunc_extern Tryz.prog 133 _ (ReflectliteValue.methodAny (ReflectliteValue.valueError "reflectlite.Value.Type" 0) (fun t _ _ _ => ReflectliteType.toType t)) Tryz.func133 (by kernel_rfl) (by kernel_rfl) (by kernel_rfl) (by kernel_rfl)
  have h8 := @run_callFunc_extern Tryz.prog 134 _ (ReflectliteValue.method (ReflectliteValue.valueError "reflectlite.Value.IsNil" 0) ReflectliteValue.isNil) Tryz.func134 (by kernel_rfl) (by kernel_rfl) (by kernel_rfl) (by kernel_rfl)
  have h27 := @run_callFunc_extern Tryz.prog 246 _ (ReflectliteType.abiMethod fun t => do pure (.int .u8 (← Rtype.kind t))) Tryz.func246 (by kernel_rfl) (by kernel_rfl) (by kernel_rfl) (by kernel_rfl)
  have h37 := @run_callFunc_extern Tryz.prog 264 _ (ReflectliteType.method ReflectliteType.elem) Tryz.func264 (by kernel_rfl) (by kernel_rfl) (by kernel_rfl) (by kernel_rfl)
  have h38 := @run_callFunc_extern Tryz.prog 265 _ (ReflectliteType.relation "Implements" ReflectliteType.implements_) Tryz.func265 (by kernel_rfl) (by kernel_rfl) (by kernel_rfl) (by kernel_rfl)
  have mK := methodKind
  have mE := methodElem
  have mI := methodImplements
  have kPP := kindPP
  have kP := kindP
  have eP := elemPP
  have iP := implementsP
  have vT := valueOfT ⟨t, 0, none⟩ w
  have tV := typeOfV
  obtain ⟨w1, hw1⟩ : ∃ w1, w1 = w.alloc (.cells #[.pointer (some ⟨t, 0, none⟩)] 158) := ⟨_, rfl⟩
  have hs1 : w1.heap.size = w.heap.size + 1 := by rw [hw1]; simp
  have hB1 : Below w.heap.size w w1 := by rw [hw1]; exact below_alloc _ _
  have hc1 : w1.cell? ⟨w.heap.size, 0, none⟩ = some (.pointer (some ⟨t, 0, none⟩)) := by rw [hw1, World.cell?_alloc_at _ _ _ _ (by simp)]; rfl
  obtain ⟨w2, hw2⟩ : ∃ w2, w2 = w1.alloc (.cells (rvT w.heap.size) 231) := ⟨_, rfl⟩
  have hB2 : Below w.heap.size w w2 := by rw [hw2]; exact hB1.alloc (by omega) _
  have hc2 : w2.cell? ⟨w.heap.size, 0, none⟩ = some (.pointer (some ⟨t, 0, none⟩)) := by
    rw [hw2]
    exact ((below_alloc w1 _).cell (cell_lt hc1)).trans hc1
  have n8 := isNilPP ⟨w.heap.size, 0, none⟩ ⟨t, 0, none⟩ w2 hc2
  have hl0 : w2.cell? ⟨w.heap.size + 1, 0, none⟩ = some (.pointer (some ⟨17, 158, none⟩)) := by rw [hw2, World.cell?_alloc_at _ _ _ _ (by first | exact hs1 | exact hs1.symm)]; rfl
  have hl1 : w2.cell? ⟨w.heap.size + 1, 1, none⟩ = some (.pointer (some ⟨w.heap.size, 0, none⟩)) := by rw [hw2, World.cell?_alloc_at _ _ _ _ (by first | exact hs1 | exact hs1.symm)]; rfl
  have hl2 : w2.cell? ⟨w.heap.size + 1, 2, none⟩ = some (.int .u64 150) := by rw [hw2, World.cell?_alloc_at _ _ _ _ (by first | exact hs1 | exact hs1.symm)]; rfl
  have hcon := asw_path q r t w2 w.heap.size old hc2 ((hB2.cell (cell_lt h1)).trans h1) ((hB2.cell (cell_lt ht0)).trans ht0) ((hB2.frozen (cell_lt ht0)).trans hf0)
  have hg2 := (hB2.cell (cell_lt hg)).trans hg
  have HW1 := Lib.hid hw1
  have HW2 := Lib.hid hw2
  have HB2 := Lib.hid hB2
  have HCON := Lib.hid hcon
  clear hB1 hB2 hcon h1 ht0 hf0 hg hc1
  go_enter Tryz.func74, Tryz.ntmps74
  go_upto_region 6 with fail
  rw [← hw1, ← hw2]
  clear hw2 hw1
  go_wp2_with (go_at_call 135; refine HCON.out.mono ?_; rintro e w3 ⟨rfl, h31, h32⟩; have H31 := Lib.hid h31; have H32 := Lib.hid h32; clear h31 h32)
  go_ret
  exact ⟨rfl, H31.out, (Fr.ofBelow HB2.out).trans H32.out⟩
end Go.Proofs.YtefccfakhgdfbabGreatDoor
end

section
namespace Go.Proofs.YtefccfakhgdfbabGreatDoor
open Go.RowKit
theorem ofPathIs (v : Value) (w : World) : (Instr.typeAssert (.iface 153 v) 88 153 true).run Tryz.prog w = .ok (.tuple #[v, .bool true]) w := by kernel_rfl
set_option maxHeartbeats 1000000 in
set_option maxRecDepth 100000 in
theorem of_tile (f : Nat → Addr) (w : World) (h : Sents w f) (r : Nat) (p : ByteArray) (hr : w.heap[r]? = some (.cells #[.string p, .iface 338 (.pointer (some (f 5)))] 155 (0, 0))) :
    Calls Tryz.prog 37 #[.iface 153 (.pointer (some ⟨r, 0, none⟩))] w fun e w' => e = .returned (toldV 6 p) ∧ Below w.heap.size w w' := by
  obtain ⟨c0, c1, c2, c3, c4, c5, c6⟩ := h.cells
  have b0 : 3 < w.heap.size := cell_lt c0
  have b1 : 4 < w.heap.size := cell_lt c1
  have b2 : 1 < w.heap.size := cell_lt c2
  have b3 : 5 < w.heap.size := cell_lt c3
  have b4 : 2 < w.heap.size := cell_lt c4
  have b5 : 6 < w.heap.size := cell_lt c5
  have b6 : 0 < w.heap.size := cell_lt c6
  have hta := ofPathIs (.pointer (some ⟨r, 0, none⟩))
  have hq := fun w => eql_nil w 153 (.pointer (some ⟨r, 0, none⟩))
  have he := fun w => eql_same w (f 5)
  obtain ⟨W1, hW1⟩ : ∃ W1, W1 = ((w.alloc (.cells #[.int .i64 0, .string ⟨#[]⟩] 29)).alloc (.cells #[.nilIface, .iface 338 (.pointer (some (f 0))), .iface 338 (.pointer (some (f 1))), .iface 338 (.pointer (some (f 2))), .iface 338 (.pointer (some (f 3))), .iface 338 (.pointer (some (f 4))), .nilIface, .iface 338 (.pointer (some (f 6)))] 88)).alloc (.cells #[.pointer none] 152) := ⟨_, rfl⟩
  have hB1 : Below w.heap.size w W1 := by rw [hW1]; exact ((below_alloc w _).alloc (by simp) _).alloc (by simp; omega) _
  have hT1 : W1.heap[w.heap.size]? = some (.cells #[.int .i64 0, .string ⟨#[]⟩] 29 (0, 0)) := by
    rw [hW1, heap_alloc_old _ _ (by simp; omega), heap_alloc_old _ _ (by simp), heap_alloc_new]
  have hr1 := (hB1.block _ (lt_of_heap hr)).trans hr
  have k0 : W1.cell? ⟨r, 0, none⟩ = some (.string p) := cell_heap hr1 0 rfl
  have k1 : W1.cell? ⟨r, 1, none⟩ = some (.iface 338 (.pointer (some (f 5)))) := cell_heap hr1 1 rfl
  have k5 := (hB1.cell b5).trans c5
  have d0 := cell_heap hT1 0 rfl
  have d1 := cell_heap hT1 1 rfl
  have g0 := frozen_heap hT1 0
  have g1 := frozen_heap hT1 1
  have HIS := Lib.hid (fun n => is_path (f 5) r (W1.drewN n) k1)
  have HB1 := Lib.hid hB1
  have hsz1 : w.heap.size < W1.heap.size := lt_of_heap hT1
  have HW1 := Lib.hid hW1
  clear h hB1 hT1 hr1 hW1 hr
  go_enter Tryz.func37, Tryz.ntmps37
  go_upto_region 9 with fail
  rw [← HW1.out]
  clear HW1 c0 c1 c2 c3 c4 c5 c6 b0 b1 b2 b3 b4 b5 b6
  go_quiet ((go_at_call 73; exact Calls.quiet_of_same ((HIS.out _).mono fun _ _ ⟨he, hm⟩ => ⟨he, hm⟩)))
  go_wp2
  refine bodyPost_ret (v := toldV 6 p) (by simp [results, Tryz.results37, go_sem, d0, d1]) rfl ⟨rfl, ?_⟩
  exact ((below_drewN HB1.out _).setCell (Nat.le_refl _) _).setCell (Nat.le_refl _) _
theorem ownComp : (Tryz.prog.info? 152).map (·.comparable) = some true := by kernel_rfl
theorem ownSize : (Tryz.prog.info? 366).map (·.size) = some 1 := by kernel_rfl
set_option maxHeartbeats 1000000 in
set_option maxRecDepth 100000 in
theorem of_own (f : Nat → Addr) (w : World) (h : Sents w f) (hg : ErrT w) (r q : Nat) (p : ByteArray) (hr : w.heap[r]? = some (.cells #[.string p, .iface 152 (.pointer (some ⟨q, 0, none⟩))] 155 (0, 0))) :
    Calls Tryz.prog 37 #[.iface 153 (.pointer (some ⟨r, 0, none⟩))] w fun e w' => e = .returned (toldV 8 p) ∧ Below w.heap.size w w' := by
  obtain ⟨ic, hic, hcmp⟩ := Option.map_eq_some_iff.1 ownComp
  obtain ⟨jc, hjc, hjs⟩ := Option.map_eq_some_iff.1 ownSize
  obtain ⟨c0, c1, c2, c3, c4, c5, c6⟩ := h.cells
  have b0 : 3 < w.heap.size := cell_lt c0
  have b1 : 4 < w.heap.size := cell_lt c1
  have b2 : 1 < w.heap.size := cell_lt c2
  have b3 : 5 < w.heap.size := cell_lt c3
  have b4 : 2 < w.heap.size := cell_lt c4
  have b5 : 6 < w.heap.size := cell_lt c5
  have b6 : 0 < w.heap.size := cell_lt c6
  have hta := ofPathIs (.pointer (some ⟨r, 0, none⟩))
  have hq := fun w => eql_nil w 153 (.pointer (some ⟨r, 0, none⟩))
  have hty := fun w => run_eql_iface_types (P := Tryz.prog) 152 338 (.pointer (some ⟨q, 0, none⟩)) (.pointer (some (f 5))) Tryz.underlying88 (by decide) w
  have he := fun w => run_eql_iface_ptr_same (P := Tryz.prog) w ⟨q, 0, none⟩ Tryz.underlying88 Tryz.underlying152 hic hcmp hjc
  obtain ⟨W1, hW1⟩ : ∃ W1, W1 = ((w.alloc (.cells #[.int .i64 0, .string ⟨#[]⟩] 29)).alloc (.cells #[.nilIface, .iface 338 (.pointer (some (f 0))), .iface 338 (.pointer (some (f 1))), .iface 338 (.pointer (some (f 2))), .iface 338 (.pointer (some (f 3))), .iface 338 (.pointer (some (f 4))), .nilIface, .iface 338 (.pointer (some (f 6)))] 88)).alloc (.cells #[.pointer none] 152) := ⟨_, rfl⟩
  have hB1 : Below w.heap.size w W1 := by rw [hW1]; exact ((below_alloc w _).alloc (by simp) _).alloc (by simp; omega) _
  have hT1 : W1.heap[w.heap.size]? = some (.cells #[.int .i64 0, .string ⟨#[]⟩] 29 (0, 0)) := by
    rw [hW1, heap_alloc_old _ _ (by simp; omega), heap_alloc_old _ _ (by simp), heap_alloc_new]
  have hO1 : W1.heap[w.heap.size + 1 + 1]? = some (.cells #[.pointer none] 152 (0, 0)) := by
    have e := heap_alloc_new ((w.alloc (.cells #[.int .i64 0, .string ⟨#[]⟩] 29)).alloc (.cells #[.nilIface, .iface 338 (.pointer (some (f 0))), .iface 338 (.pointer (some (f 1))), .iface 338 (.pointer (some (f 2))), .iface 338 (.pointer (some (f 3))), .iface 338 (.pointer (some (f 4))), .nilIface, .iface 338 (.pointer (some (f 6)))] 88)) (.cells #[.pointer none] 152)
    rw [← hW1] at e
    rw [show w.heap.size + 1 + 1 = ((w.alloc (.cells #[.int .i64 0, .string ⟨#[]⟩] 29)).alloc (.cells #[.nilIface, .iface 338 (.pointer (some (f 0))), .iface 338 (.pointer (some (f 1))), .iface 338 (.pointer (some (f 2))), .iface 338 (.pointer (some (f 3))), .iface 338 (.pointer (some (f 4))), .nilIface, .iface 338 (.pointer (some (f 6)))] 88)).heap.size by simp]
    exact e
  have hr1 := (hB1.block _ (lt_of_heap hr)).trans hr
  have hrl := lt_of_heap hr
  have k1 : W1.cell? ⟨r, 1, none⟩ = some (.iface 152 (.pointer (some ⟨q, 0, none⟩))) := cell_heap hr1 1 rfl
  have k5 := (hB1.cell b5).trans c5
  have kg : ErrT W1 := (hB1.cell (cell_lt hg)).trans hg
  have HB1 := Lib.hid hB1
  have HR1 := Lib.hid hr1
  have HT1 := Lib.hid hT1
  have HO1 := Lib.hid hO1
  have HG1 := Lib.hid kg
  have hsz1 : w.heap.size < W1.heap.size := lt_of_heap hT1
  have HW1 := Lib.hid hW1
  clear h hB1 hT1 hr1 hW1 hr hO1 kg hg
  go_enter Tryz.func37, Tryz.ntmps37
  go_upto_region 9 with fail
  rw [← HW1.out]
  clear HW1 c0 c1 c2 c3 c4 c5 c6 b0 b1 b2 b3 b4 b5 b6
  go_quiet (fail)
  go_upto_region 11 with fail
  obtain ⟨W2, hW2⟩ : ∃ W2, W2 = W1.drewN nq := ⟨_, rfl⟩
  have HW2 := Lib.hid hW2
  rw [← hW2]
  have k2 : W2.cell? ⟨r, 1, none⟩ = some (.iface 152 (.pointer (some ⟨q, 0, none⟩))) := by rw [hW2]; exact k1
  have AS := Lib.hid (as_path q r (w.heap.size + 1 + 1) W2.drew (.pointer none) (show W2.cell? _ = _ by rw [hW2]; exact HG1.out) k2 (show W2.cell? _ = _ by rw [hW2]; exact cell_heap HO1.out 0 rfl) (show W2.frozen? _ = _ by rw [hW2]; exact frozen_heap HO1.out 0))
  clear hW2 k1 k5
  go_cut [39] from 39 to 51 (fun s39 wx => s39 = .bool true ∧ Aside (Fr (· = w.heap.size + 1 + 1) W2 wx))
  case first =>
    go_region_law (go_simp; go_at_call 74; go_must (refine (AS.out).mono ?_; rintro e w3 ⟨rfl, k31, k32⟩; have hf3 := (Fr.refl (· = w.heap.size + 1 + 1) W2).drew.trans k32; have K32 := Lib.hid hf3; have k33 := hf3.cell k2 (show ¬ r = w.heap.size + 1 + 1 by omega); clear k32 hf3))
    all_goals (
      go_wp2_with fail
      go_meet
      exact ⟨rfl, K32.out⟩)
  case rest =>
    obtain ⟨rfl, HF⟩ := hcut
    have hb : Fr (· = w.heap.size + 1 + 1) W1 wc := by
      have := HF.out
      rw [HW2.out] at this
      exact ((Fr.refl _ W1).drewN nq).trans this
    have hT2 := hb.heap HT1.out (show ¬ w.heap.size = w.heap.size + 1 + 1 by omega)
    have hR2 := hb.heap HR1.out (show ¬ r = w.heap.size + 1 + 1 by omega)
    have HB2 := Lib.hid (HB1.out.trans (hb.below HB1.out.size fun k hk e => by omega))
    have d0 := cell_heap hT2 0 rfl
    have d1 := cell_heap hT2 1 rfl
    have g0 := frozen_heap hT2 0
    have g1 := frozen_heap hT2 1
    have m0 := cell_heap hR2 0 rfl
    clear hT2 hR2 hb k2
    go_wp2
    refine bodyPost_ret (v := toldV 8 p) (by simp [results, Tryz.results37, go_sem, d0, d1]) rfl ⟨rfl, ?_⟩
    exact (HB2.out.setCell (Nat.le_refl _) _).setCell (Nat.le_refl _) _
end Go.Proofs.YtefccfakhgdfbabGreatDoor
end
