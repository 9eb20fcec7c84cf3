/-
  errors.As at a path error of a store's own error. The variable errors.errorType stands.
-/
import Derived.Test.YtefccfakhgdfbabGreatDoorPb30
import Derived.Test.YtefccfakhgdfbabGreatDoorPb01
set_option linter.unusedVariables false
set_option linter.unusedSimpArgs false
section
namespace Go.Proofs.YtefccfakhgdfbabGreatDoor
open Go.RowKit Go.Extern.Stop Go.Stop Go.Extern
theorem pathNoAs (v : Value) (xT : TypeId) (w : World) : (Instr.typeAssert (.iface 153 v) xT 293 true).run Tryz.prog w = .ok (.tuple #[.nilIface, .bool false]) w := run_typeAssert_lacksB Tryz.underlying293 (by kernel_rfl) (by kernel_rfl) v xT w
/-- The value of the target as reflectlite has it. -/
abbrev rvT (b : Nat) : Array Value := #[.pointer (some ⟨17, 158, none⟩), .pointer (some ⟨b, 0, none⟩), .int .u64 150]
set_option maxRecDepth 100000 in
set_option maxHeartbeats 4000000 in
theorem asw_path (q r t : Nat) (w : World) (b : Nat) (old : Value) (hb : w.cell? ⟨b, 0, none⟩ = some (.pointer (some ⟨t, 0, none⟩)))
    (h1 : w.cell? ⟨r, 1, none⟩ = some (.iface 152 (.pointer (some ⟨q, 0, none⟩)))) (ht0 : w.cell? ⟨t, 0, none⟩ = some old) (hf0 : w.frozen? ⟨t, 0, none⟩ = false) :
    Calls Tryz.prog 135 #[.iface 153 (.pointer (some ⟨r, 0, none⟩)), .iface 158 (.pointer (some ⟨t, 0, none⟩)), .agg (rvT b), .iface 282 (.agg #[.pointer (some ⟨17, 152, none⟩)])] w
      fun ev w' => ev = .returned (.bool true) ∧ w'.cell? ⟨t, 0, none⟩ = some (.pointer (some ⟨q, 0, none⟩)) ∧ Fr (· = t) w w' := by
  have h6 := @run_callFunc_extern Tryz.prog 132 _ (fun args => ReflectliteValue.unpack (args.getD 0 (.tuple #[]))) Tryz.func132 (by kernel_rfl) (by kernel_rfl) (by kernel_rfl) (by kernel_rfl)
  have h10 := @run_callFunc_extern Tryz.prog 130 _ ReflectliteType.typeOf Tryz.func130 (by kernel_rfl) (by kernel_rfl) (by kernel_rfl) (by kernel_rfl)
  have h35 := @run_callFunc_extern Tryz.prog 262 _ (ReflectliteType.relation "AssignableTo" ReflectliteType.assignableTo) Tryz.func262 (by kernel_rfl) (by kernel_rfl) (by kernel_rfl) (by kernel_rfl)
  have h11 := @run_callFunc_extern Tryz.prog 172 _ (ReflectliteValue.method (ReflectliteValue.valueError "reflectlite.Value.Elem" 0) ReflectliteValue.elem) Tryz.func172 (by kernel_rfl) (by kernel_rfl) (by kernel_rfl) (by kernel_rfl)
  have h12 := @run_callFunc_extern Tryz.prog 173 _ ReflectliteValue.set Tryz.func173 (by kernel_rfl) (by kernel_rfl) (by kernel_rfl) (by kernel_rfl)
  have tP := typeOfPath
  have tO := typeOfOwn
  have mA := methodAssignableTo
  have aP := assignPath
  have aO := assignOwn
  have vO := valueOfOwn
  have nA := pathNoAs
  have uP := pathHasUnwrap
  have mU := methodUnwrap
  obtain ⟨w3, hw3⟩ : ∃ w3, w3 = w.alloc (.cells (rvT b) 231) := ⟨_, rfl⟩
  have hB3 : Below w.heap.size w w3 := by rw [hw3]; exact below_alloc _ _
  have hs3 : w3.heap.size = w.heap.size + 1 := by rw [hw3]; simp
  have htl := cell_lt ht0
  have el := elemV ⟨b, 0, none⟩ ⟨t, 0, none⟩ w3 ((hB3.cell (cell_lt hb)).trans hb)
  have hr3 := (hB3.cell (cell_lt h1)).trans h1
  have ht3 := (hB3.cell (cell_lt ht0)).trans ht0
  have st := setP ⟨t, 0, none⟩ ⟨w.heap.size + 1, 0, none⟩ ⟨q, 0, none⟩ old (w3.alloc (.cells #[.pointer (some ⟨q, 0, none⟩)] 152))
    (by rw [World.cell?_alloc_at _ _ _ _ hs3.symm]; rfl)
    (((below_alloc w3 _).cell (cell_lt ht3)).trans ht3)
    (by rw [(below_alloc w3 _).frozen (cell_lt ht3), hB3.frozen htl]; exact hf0)
  have hql := eql_nil w3 152 (.pointer (some ⟨q, 0, none⟩))
  have hl0 : w3.cell? ⟨w.heap.size, 0, none⟩ = some (.pointer (some ⟨17, 158, none⟩)) := by rw [hw3, World.cell?_alloc_at _ _ _ _ (by simp)]; rfl
  have hl1 : w3.cell? ⟨w.heap.size, 1, none⟩ = some (.pointer (some ⟨b, 0, none⟩)) := by rw [hw3, World.cell?_alloc_at _ _ _ _ (by simp)]; rfl
  have hl2 : w3.cell? ⟨w.heap.size, 2, none⟩ = some (.int .u64 150) := by rw [hw3, World.cell?_alloc_at _ _ _ _ (by simp)]; rfl
  have HW3 := Lib.hid hw3
  have HB3 := Lib.hid hB3
  go_enter Tryz.func135, Tryz.ntmps135
  go_wp2_with fail
  rw [← hw3]
  clear hw3 hB3
  refine wp_loop_rounds 2 ?_
  rw [rounds_succ]
  go_wp2_with (go_at_call 257; refine (unwrap_any w3 r _ hr3).mono ?_; rintro e w2 ⟨rfl, rfl⟩)
  rw [rounds_succ]
  go_wp2
  go_ret
  have hf := ((Fr.ofBelow HB3.out : Fr (· = t) w w2).setCell (p := ⟨t, 0, none⟩) (fun _ => rfl) (.pointer (some ⟨q, 0, none⟩)))
  refine ⟨rfl, ?_, hf.alloc _⟩
  refine (Below.cell (below_alloc _ _) (p := ⟨t, 0, none⟩) ?_).trans ?_
  · exact Nat.lt_of_lt_of_le htl hf.size
  · exact World.cell?_setCell_same' _ _ _ (by rw [ht3]; rfl)
end Go.Proofs.YtefccfakhgdfbabGreatDoor
end
