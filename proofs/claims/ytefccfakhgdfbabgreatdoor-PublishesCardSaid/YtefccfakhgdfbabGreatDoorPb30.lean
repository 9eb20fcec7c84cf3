/-
  errors.Is and errors.As at a path error. No conditions.
-/
import Derived.Test.YtefccfakhgdfbabGreatDoorPb07
import Derived.WalkKit
import Derived.LaidEql
import Derived.Stop.Asserts
import Derived.RowKitTokens
set_option linter.unusedVariables false
set_option linter.unusedSimpArgs false
section
namespace Go.Proofs.YtefccfakhgdfbabGreatDoor
open Go.RowKit Go.Extern.Stop Go.Stop Go.Extern
theorem isTypeOf (v : Value) (w : World) : (Extern.ReflectliteType.typeOf #[.iface 338 v]).run Tryz.prog w = .ok (.iface 282 (.agg #[.pointer (some ⟨17, 338, none⟩)])) w := by kernel_rfl
theorem isComparable (w : World) : ((Extern.ReflectliteType.method fun t => do Extern.Rtype.noPackHeld "Comparable" t; Functor.map (fun a => Value.bool a.comparable) (typeInfo t)) #[.agg #[.pointer (some ⟨17, 338, none⟩)]]).run Tryz.prog w = .ok (.bool true) w := by kernel_rfl
theorem methodComparable (n : Nat) (h : Value) (w : World) : (Go.method (n + 1) 282 (.agg #[h]) "Comparable").run Tryz.prog w = .ok (263, .agg #[h]) w := by kernel_rfl
theorem methodUnwrap (n : Nat) (v : Value) (w : World) : (Go.method (n + 1) 153 v "Unwrap").run Tryz.prog w = .ok (257, v) w := by kernel_rfl
theorem isComp : (Tryz.prog.info? 338).map (·.comparable) = some true := by kernel_rfl
theorem isSize : (Tryz.prog.info? 340).map (·.size) = some 1 := by kernel_rfl
theorem pathNoIs (v : Value) (xT : TypeId) (w : World) : (Instr.typeAssert (.iface 153 v) xT 284 true).run Tryz.prog w = .ok (.tuple #[.nilIface, .bool false]) w := run_typeAssert_lacksB Tryz.underlying284 (by kernel_rfl) (by kernel_rfl) v xT w
theorem pathHasUnwrap (v : Value) (xT : TypeId) (w : World) : (Instr.typeAssert (.iface 153 v) xT 287 true).run Tryz.prog w = .ok (.tuple #[.iface 153 v, .bool true]) w := run_typeAssert_hasB Tryz.underlying287 (by kernel_rfl) v xT w
theorem unwrap_any (w : World) (r : Nat) (x : Value) (h1 : w.cell? ⟨r, 1, none⟩ = some x) : Calls Tryz.prog 257 #[.pointer (some ⟨r, 0, none⟩)] w fun e w' => e = .returned x ∧ w' = w := by
  go_enter Tryz.func257, Tryz.ntmps257
  go_wp2
  go_ret
  exact ⟨rfl, rfl⟩
set_option maxRecDepth 100000 in
theorem isw_path (a : Addr) (r : Nat) (w : World) (h1 : w.cell? ⟨r, 1, none⟩ = some (.iface 338 (.pointer (some a)))) :
    Calls Tryz.prog 131 #[.iface 153 (.pointer (some ⟨r, 0, none⟩)), .iface 338 (.pointer (some a)), .bool true] w fun e w' => e = .returned (.bool true) ∧ w' = w := by
  obtain ⟨i, hi, hcmp⟩ := Option.map_eq_some_iff.1 isComp
  obtain ⟨j, hj, hjs⟩ := Option.map_eq_some_iff.1 isSize
  have nP := pathNoIs
  have uP := pathHasUnwrap
  have mU := methodUnwrap
  have heq := run_eql_iface_ptr_same (P := Tryz.prog) w a Tryz.underlying88 Tryz.underlying338 hi hcmp hj
  have hty := run_eql_iface_types (P := Tryz.prog) 153 338 (.pointer (some ⟨r, 0, none⟩)) (.pointer (some a)) Tryz.underlying88 (by decide) w
  have hnl := neq_nil w 338 (.pointer (some a))
  have hql := eql_nil w 338 (.pointer (some a))
  go_enter Tryz.func131, Tryz.ntmps131
  go_wp2_with fail
  refine wp_loop_rounds 2 ?_
  rw [rounds_succ]
  go_wp2_with (go_at_call 257; refine (unwrap_any w r _ h1).mono ?_; rintro e w2 ⟨rfl, rfl⟩)
  rw [rounds_succ]
  go_wp2
  go_ret
  exact ⟨rfl, rfl⟩
set_option maxRecDepth 100000 in
theorem is_path (a : Addr) (r : Nat) (w : World) (h1 : w.cell? ⟨r, 1, none⟩ = some (.iface 338 (.pointer (some a)))) :
    Calls Tryz.prog 73 #[.iface 153 (.pointer (some ⟨r, 0, none⟩)), .iface 338 (.pointer (some a))] w fun e w' => e = .returned (.bool true) ∧ w' = w := by
  obtain ⟨i, hi, hcmp⟩ := Option.map_eq_some_iff.1 isComp
  obtain ⟨j, hj, hjs⟩ := Option.map_eq_some_iff.1 isSize
  have h8 := @run_callFunc_extern Tryz.prog 130 _ Extern.ReflectliteType.typeOf Tryz.func130 (by kernel_rfl) (by kernel_rfl) (by kernel_rfl) (by kernel_rfl)
  have h32 := @run_callFunc_extern Tryz.prog 263 _ (Extern.ReflectliteType.method fun t => do Extern.Rtype.noPackHeld "Comparable" t; pure (.bool (← typeInfo t).comparable)) Tryz.func263 (by kernel_rfl) (by kernel_rfl) (by kernel_rfl) (by kernel_rfl)
  have tT := isTypeOf
  have cT := isComparable
  have mR := methodComparable
  have mU := methodUnwrap
  have nP := pathNoIs
  have uP := pathHasUnwrap
  have heq := run_eql_iface_ptr_same (P := Tryz.prog) w a Tryz.underlying88 Tryz.underlying338 hi hcmp hj
  have hty := run_eql_iface_types (P := Tryz.prog) 153 338 (.pointer (some ⟨r, 0, none⟩)) (.pointer (some a)) Tryz.underlying88 (by decide) w
  go_enter Tryz.func73, Tryz.ntmps73
  go_wp2_with fail
  refine (isw_path a r w h1).mono ?_
  rintro e w2 ⟨rfl, rfl⟩
  go_wp2
  go_ret
  exact ⟨rfl, rfl⟩
theorem valueOfT (t : Addr) (w : World) : (ReflectliteValue.unpack (.iface 158 (.pointer (some t)))).run Tryz.prog w
    = .ok (.agg #[.pointer (some ⟨17, 158, none⟩), .pointer (some ⟨w.heap.size, 0, none⟩), .int .u64 150]) (w.alloc (.cells #[.pointer (some t)] 158)) := by kernel_rfl
theorem typeOfV (a : Addr) (w : World) : (ReflectliteValue.methodAny (ReflectliteValue.valueError "reflectlite.Value.Type" 0) (fun t _ _ _ => ReflectliteType.toType t) #[.agg #[.pointer (some ⟨17, 158, none⟩), .pointer (some a), .int .u64 150]]).run Tryz.prog w
    = .ok (.iface 282 (.agg #[.pointer (some ⟨17, 158, none⟩)])) w := by kernel_rfl
theorem kindPP (w : World) : ((ReflectliteType.abiMethod fun t => Functor.map (fun a : Nat => Value.int IntKind.u8 (a : Int)) (Rtype.kind t)) #[.pointer (some ⟨17, 158, none⟩)]).run Tryz.prog w = .ok (.int .u8 22) w := by kernel_rfl
theorem kindP (w : World) : ((ReflectliteType.abiMethod fun t => Functor.map (fun a : Nat => Value.int IntKind.u8 (a : Int)) (Rtype.kind t)) #[.pointer (some ⟨17, 152, none⟩)]).run Tryz.prog w = .ok (.int .u8 22) w := by kernel_rfl
theorem rlm (z : Sem Value) (f : TypeId → Addr → Nat → Nat → Sem Value) (v : Value) :
    ReflectliteValue.method z f #[v] = (do match ← ReflectliteValue.parts v with | none => z | some (t, a, fl) => f t a fl (fl % 32)) := rfl
theorem partsPP (a : Addr) (w : World) : (ReflectliteValue.parts (.agg #[.pointer (some ⟨17, 158, none⟩), .pointer (some a), .int .u64 150])).run Tryz.prog w = .ok (some (158, a, 150)) w := by kernel_rfl
theorem isNilPP (a p : Addr) (W : World) (ha : W.cell? a = some (.pointer (some p))) :
    (ReflectliteValue.method (ReflectliteValue.valueError "reflectlite.Value.IsNil" 0) ReflectliteValue.isNil #[.agg #[.pointer (some ⟨17, 158, none⟩), .pointer (some a), .int .u64 150]]).run Tryz.prog W = .ok (.bool false) W := by
  rw [rlm]
  simp only [Sem.run_bind, partsPP, Result.andThen]
  simp [ReflectliteValue.isNil, loadVar, isAgg, underlying, Tryz.underlying158, ha, Result.andThen]
theorem methodKind (n : Nat) (h : Value) (w : World) : (Go.method (n + 1) 282 (.agg #[h]) "Kind").run Tryz.prog w = .ok (246, h) w := by kernel_rfl
theorem methodElem (n : Nat) (h : Value) (w : World) : (Go.method (n + 1) 282 (.agg #[h]) "Elem").run Tryz.prog w = .ok (264, .agg #[h]) w := by kernel_rfl
theorem methodAssignableTo (n : Nat) (h : Value) (w : World) : (Go.method (n + 1) 282 (.agg #[h]) "AssignableTo").run Tryz.prog w = .ok (262, .agg #[h]) w := by kernel_rfl
theorem methodImplements (n : Nat) (h : Value) (w : World) : (Go.method (n + 1) 282 (.agg #[h]) "Implements").run Tryz.prog w = .ok (265, .agg #[h]) w := by kernel_rfl
theorem elemPP (w : World) : (ReflectliteType.method ReflectliteType.elem #[.agg #[.pointer (some ⟨17, 158, none⟩)]]).run Tryz.prog w = .ok (.iface 282 (.agg #[.pointer (some ⟨17, 152, none⟩)])) w := by kernel_rfl
theorem implementsP (w : World) : (ReflectliteType.relation "Implements" ReflectliteType.implements_ #[.agg #[.pointer (some ⟨17, 152, none⟩)], .iface 282 (.agg #[.pointer (some ⟨17, 88, none⟩)])]).run Tryz.prog w = .ok (.bool true) w := by kernel_rfl
theorem typeOfPath (v : Value) (w : World) : (ReflectliteType.typeOf #[.iface 153 v]).run Tryz.prog w = .ok (.iface 282 (.agg #[.pointer (some ⟨17, 153, none⟩)])) w := by kernel_rfl
theorem typeOfOwn (v : Value) (w : World) : (ReflectliteType.typeOf #[.iface 152 v]).run Tryz.prog w = .ok (.iface 282 (.agg #[.pointer (some ⟨17, 152, none⟩)])) w := by kernel_rfl
theorem assignPath (w : World) : (ReflectliteType.relation "AssignableTo" ReflectliteType.assignableTo #[.agg #[.pointer (some ⟨17, 153, none⟩)], .iface 282 (.agg #[.pointer (some ⟨17, 152, none⟩)])]).run Tryz.prog w = .ok (.bool false) w := by kernel_rfl
theorem assignOwn (w : World) : (ReflectliteType.relation "AssignableTo" ReflectliteType.assignableTo #[.agg #[.pointer (some ⟨17, 152, none⟩)], .iface 282 (.agg #[.pointer (some ⟨17, 152, none⟩)])]).run Tryz.prog w = .ok (.bool true) w := by kernel_rfl
theorem valueOfOwn (e : Addr) (w : World) : (ReflectliteValue.unpack (.iface 152 (.pointer (some e)))).run Tryz.prog w
    = .ok (.agg #[.pointer (some ⟨17, 152, none⟩), .pointer (some ⟨w.heap.size, 0, none⟩), .int .u64 150]) (w.alloc (.cells #[.pointer (some e)] 152)) := by kernel_rfl
theorem elemOfPP (w : World) : (Rtype.elem? 158).run Tryz.prog w = .ok (some 152) w := by kernel_rfl
theorem mkP (p : Addr) (w : World) : (ReflectliteValue.mk 152 p ReflectliteValue.flagAddr).run Tryz.prog w = .ok (.agg #[.pointer (some ⟨17, 152, none⟩), .pointer (some p), .int .u64 406]) w := by kernel_rfl
theorem elemV (a p : Addr) (W : World) (ha : W.cell? a = some (.pointer (some p))) :
    (ReflectliteValue.method (ReflectliteValue.valueError "reflectlite.Value.Elem" 0) ReflectliteValue.elem #[.agg #[.pointer (some ⟨17, 158, none⟩), .pointer (some a), .int .u64 150]]).run Tryz.prog W
      = .ok (.agg #[.pointer (some ⟨17, 152, none⟩), .pointer (some p), .int .u64 406]) W := by
  rw [rlm]
  simp only [Sem.run_bind, partsPP, Result.andThen]
  simp [ReflectliteValue.elem, loadVar, isAgg, underlying, Tryz.underlying158, ha, Result.andThen, elemOfPP, mkP]
theorem rls (v x : Value) : ReflectliteValue.set #[v, x] = (do
    let (some (dst, a, fl), some (src, b, _)) := (← ReflectliteValue.parts v, ← ReflectliteValue.parts x)
      | unsupported (.noEntry "extern/(internal/reflectlite.Value).Set.zeroValue")
    if fl / ReflectliteValue.flagAddr % 2 == 0 then unsupported (.noEntry "extern/(internal/reflectlite.Value).Set.unaddressable")
    let val ← loadVar src b
    if ← Rtype.directlyAssignable dst src then storeVar dst a val
    else if ← Rtype.implements dst src then
      if (← Rtype.kind src) == 20 then
        match val with
        | .nilIface => unsupported (.noEntry "extern/reflectlite: a nil value of one interface type handed on as a value of another")
        | _ => storeVar dst a val
      else storeVar dst a (.iface src val)
    else panicString ("reflectlite.Set: value of type " ++ (← Rtype.spelt src) ++ " is not assignable to type " ++ (← Rtype.spelt dst))
    pure (.tuple #[])) := rfl
theorem partsPa (a : Addr) (w : World) : (ReflectliteValue.parts (.agg #[.pointer (some ⟨17, 152, none⟩), .pointer (some a), .int .u64 406])).run Tryz.prog w = .ok (some (152, a, 406)) w := by kernel_rfl
theorem partsP (a : Addr) (w : World) : (ReflectliteValue.parts (.agg #[.pointer (some ⟨17, 152, none⟩), .pointer (some a), .int .u64 150])).run Tryz.prog w = .ok (some (152, a, 150)) w := by kernel_rfl
theorem directP (w : World) : (Rtype.directlyAssignable 152 152).run Tryz.prog w = .ok true w := by kernel_rfl
theorem setP (ta b e : Addr) (old : Value) (W : World) (hb : W.cell? b = some (.pointer (some e))) (ht : W.cell? ta = some old) (hf : W.frozen? ta = false) :
    (ReflectliteValue.set #[.agg #[.pointer (some ⟨17, 152, none⟩), .pointer (some ta), .int .u64 406], .agg #[.pointer (some ⟨17, 152, none⟩), .pointer (some b), .int .u64 150]]).run Tryz.prog W
      = .ok (.tuple #[]) (W.setCell ta (.pointer (some e))) := by
  rw [rls]
  simp only [Sem.run_bind, partsPa, partsP, Result.andThen]
  simp [ReflectliteValue.flagAddr, loadVar, isAgg, underlying, Tryz.underlying152, hb, Result.andThen, directP, storeVar, Value.cells, storeCells, Addr.add]
  rw [run_store Tryz.prog W ta _ _ (by rfl)]
  simp [ht, hf]
end Go.Proofs.YtefccfakhgdfbabGreatDoor
end
