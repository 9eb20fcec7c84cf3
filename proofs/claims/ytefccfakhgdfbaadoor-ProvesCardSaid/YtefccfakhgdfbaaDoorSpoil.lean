/- clear on slices of the call's own, whatever they hold; the walk of plain.spoil. -/
import Derived.Test.YtefccfakhgdfbaaDoorBundle
import Derived.Test.YtefccfakhgdfbaaDoorStore
import Derived.Laws.CopyOwn
namespace Go.Proofs.YtefccfakhgdfbaaDoor
open Go.RowKit
/-- Memory of n bytes from block 'base' on, whatever it holds; or nil. -/
def Room (w : World) (base : Nat) (v : Value) (n : Nat) : Prop :=
  (v = .slice none 0 0 ∧ n = 0) ∨
  ∃ (b off c : Nat) (C : Array Value) (fz : Nat × Nat), v = .slice (some ⟨b, off, none⟩) n c ∧ n ≤ c ∧ base ≤ b ∧ w.heap[b]? = some (.cells C 5 fz) ∧ off + n ≤ C.size ∧ (fz = (0, 0) ∨ C.size ≤ fz.1)
theorem OwnBytes.room {w : World} {base : Nat} {v : Value} {l : List UInt8} (h : OwnBytes w base v l) : Room w base v l.length := by
  rcases h with ⟨rfl, rfl⟩ | ⟨b, off, c, C, fz, h1, h0, h2, h3, _, h5, h6⟩
  · exact .inl ⟨rfl, rfl⟩
  · exact .inr ⟨b, off, c, C, fz, h1, h0, h2, h3, h5, h6⟩
/-- Only blocks of bytes have turned, each keeps its size; none is new. -/
def BytesTurned (base : Nat) (w w' : World) : Prop :=
  Below base w w' ∧ w'.heap.size = w.heap.size ∧ ∀ (k : Nat), w'.heap[k]? = w.heap[k]? ∨ ∃ (C C' : Array Value) (fz : Nat × Nat), w.heap[k]? = some (Obj.cells C 5 fz) ∧ w'.heap[k]? = some (Obj.cells C' 5 fz) ∧ C'.size = C.size
theorem BytesTurned.refl (base : Nat) (w : World) (h : base ≤ w.heap.size) : BytesTurned base w w := ⟨(Below.refl _ _).mono h, rfl, fun _ => .inl rfl⟩
theorem BytesTurned.trans {base : Nat} {a b c : World} (h : BytesTurned base a b) (k : BytesTurned base b c) : BytesTurned base a c := by
  refine ⟨h.1.trans k.1, k.2.1.trans h.2.1, fun i => ?_⟩
  rcases h.2.2 i with h1 | ⟨C, C', fz, h1, h2, h3⟩
  · rcases k.2.2 i with k1 | ⟨D, D', fy, k1, k2, k3⟩
    · exact .inl (k1.trans h1)
    · exact .inr ⟨D, D', fy, by rw [← h1]; exact k1, k2, k3⟩
  · rcases k.2.2 i with k1 | ⟨D, D', fy, k1, k2, k3⟩
    · exact .inr ⟨C, C', fz, h1, k1.trans h2, h3⟩
    · rw [h2] at k1
      simp only [Option.some.injEq, Obj.cells.injEq] at k1
      obtain ⟨rfl, _, rfl⟩ := k1
      exact .inr ⟨C, D', fz, h1, k2, k3.trans h3⟩
theorem Room.turned {w w' : World} {base b0 : Nat} {v : Value} {n : Nat} (h : Room w base v n) (ht : BytesTurned b0 w w') : Room w' base v n := by
  rcases h with h | ⟨b, off, c, C, fz, h1, h0, h2, h3, h4, h5⟩
  · exact .inl h
  · rcases ht.2.2 b with t | ⟨C1, C', fz', t1, t2, t3⟩
    · exact .inr ⟨b, off, c, C, fz, h1, h0, h2, t.trans h3, h4, h5⟩
    · rw [h3] at t1
      simp only [Option.some.injEq, Obj.cells.injEq] at t1
      obtain ⟨rfl, _, rfl⟩ := t1
      exact .inr ⟨b, off, c, C', fz, h1, h0, h2, t2, by omega, by rw [t3]; exact h5⟩
/-- 'clear(b)' of bytes. -/
theorem wpList_clear0 {P : Program} {ops : Array Oper} {rest : List Oper} {o : Oper} {a : Act} {Q : Exit → Act → World → Prop} {w : World} (hgd : o.guard = none) (x : Operand) (t : TypeId)
    (ho : o.op = .call { callee := .builtin .clear, args := #[x], argTypes := #[t] }) (i : TypeInfo) (ht : P.underlying t = some (.slice 5)) (hi : P.info? 5 = some i) (hz : i.zero = some (.int .u8 0))
    (base : Nat) (v : Value) (m : Nat) (hx : a.eval x = v) (hown : Room w base v m) (hbase : base ≤ w.heap.size)
    (h : ∀ w' n, BytesTurned base w w' → wpList P ops Q rest (a.put o.dst n) w') : wpList P ops Q (o :: rest) a w := by
  refine wpList_plain hgd fun K hK => ?_
  have noop : (Builtin.clear_ #[t] o.type #[v]).run P w = .ok (.tuple #[]) w → o.wp P a w K Q := fun hr => by
    unfold Oper.wp execOp
    simp only [ho, resolve, invoke, builtin, Sem.run_bind, Sem.run_pure, Result.andThen_ok, List.map_toArray, List.map_cons, List.map_nil, hx, hr]
    exact hK _ _ (h w _ (BytesTurned.refl _ _ hbase))
  rcases hown with ⟨rfl, rfl⟩ | ⟨b, off, c, C, fz, rfl, hcap, hb, hg, hsz, hf⟩
  · exact noop (by simp [Builtin.clear_, run_underlying ht])
  · by_cases h0 : m = 0
    · subst h0
      exact noop (by simp [Builtin.clear_, run_underlying ht])
    · obtain ⟨cur', hrun, hs⟩ := run_storeCells_any (P := P) b off 5 fz ((Builtin.zeroCells #[Value.int .u8 0] m).toList) 0 C w hg (by simp [Builtin.zeroCells]; omega) hf (fun u hu => by
        simp [Builtin.zeroCells] at hu
        obtain ⟨k, hk, rfl⟩ := hu
        simp [Nat.mod_one, Value.oneCell'])
      have hr : (Builtin.clear_ #[t] o.type #[.slice (some ⟨b, off, none⟩) m c]).run P w = .ok (.tuple #[]) (w.setRow b cur') := by
        cases m with
        | zero => exact absurd rfl h0
        | succ n => simp [Builtin.clear_, run_underlying ht, zeroValue, typeInfo, hi, hz, Value.cells, hrun]
      unfold Oper.wp execOp
      simp only [ho, resolve, invoke, builtin, Sem.run_bind, Sem.run_pure, Result.andThen_ok, List.map_toArray, List.map_cons, List.map_nil, hx, hr]
      refine hK _ _ (h _ _ ⟨below_setRow ((Below.refl _ _).mono hbase) hb _, by simp, fun k => ?_⟩)
      by_cases hkb : k = b
      · subst hkb
        exact .inr ⟨C, cur', fz, hg, setRow_heap w k _ _ _ _ hg, hs⟩
      · exact .inl (setRow_other w b k cur' hkb)
/-- 'clear(l)' of a row of one-cell elements: only its block turns. -/
theorem wpList_clearR {P : Program} {ops : Array Oper} {rest : List Oper} {o : Oper} {a : Act} {Q : Exit → Act → World → Prop} {w : World} (hgd : o.guard = none) (x : Operand) (t e : TypeId)
    (ho : o.op = .call { callee := .builtin .clear, args := #[x], argTypes := #[t] }) (i : TypeInfo) (z : Value) (ht : P.underlying t = some (.slice e)) (hi : P.info? e = some i) (hz : i.zero = some z) (hzc : z.cells = #[z]) (hz1 : z.oneCell' = true)
    (base : Nat) (v : Value) (m : Nat) (xs : List Value) (hx : a.eval x = v) (hown : w.ownsRow base e 1 v m xs)
    (h : ∀ w' n, w.grownBy w' v.ownBlock → w'.heap.size = w.heap.size → wpList P ops Q rest (a.put o.dst n) w') : wpList P ops Q (o :: rest) a w := by
  refine wpList_plain hgd fun K hK => ?_
  have noop : (Builtin.clear_ #[t] o.type #[v]).run P w = .ok (.tuple #[]) w → o.wp P a w K Q := fun hr => by
    unfold Oper.wp execOp
    simp only [ho, resolve, invoke, builtin, Sem.run_bind, Sem.run_pure, Result.andThen_ok, List.map_toArray, List.map_cons, List.map_nil, hx, hr]
    exact hK _ _ (h w _ ⟨rfl, rfl, rfl, Nat.le_refl _, fun _ _ _ => rfl⟩ rfl)
  obtain ⟨hl, hr2⟩ := hown
  rcases hr2 with ⟨rfl, rfl⟩ | ⟨b, c, C, rfl, hb, hg, hcap, hc, hs, hcur⟩
  · exact noop (by simp [Builtin.clear_, run_underlying ht])
  · by_cases h0 : m = 0
    · subst h0
      exact noop (by simp [Builtin.clear_, run_underlying ht])
    · obtain ⟨cur', hrun, hs⟩ := run_storeCells_any (P := P) b 0 e (0, 0) ((Builtin.zeroCells #[z] m).toList) 0 C w hg (by simp [Builtin.zeroCells]; omega) (.inl rfl) (fun u hu => by
        simp [Builtin.zeroCells] at hu
        obtain ⟨k, hk, rfl⟩ := hu
        simpa [Nat.mod_one] using hz1)
      have hr : (Builtin.clear_ #[t] o.type #[.slice (some ⟨b, 0, none⟩) m c]).run P w = .ok (.tuple #[]) (w.setRow b cur') := by
        cases m with
        | zero => exact absurd rfl h0
        | succ n => simp [Builtin.clear_, run_underlying ht, zeroValue, typeInfo, hi, hz, hzc, hrun]
      unfold Oper.wp execOp
      simp only [ho, resolve, invoke, builtin, Sem.run_bind, Sem.run_pure, Result.andThen_ok, List.map_toArray, List.map_cons, List.map_nil, hx, hr]
      exact hK _ _ (h _ _ (setRow_grown w b cur') (by simp))
/-- What spoil leaves: blocks that hold neither bytes nor slices of bytes stand, and all below 'base'. -/
def spoilPost (base : Nat) (w : World) (e : Ending) (w' : World) : Prop :=
  e = .returned (.tuple #[]) ∧ Below base w w' ∧ w'.heap.size = w.heap.size ∧ ∀ (k : Nat) (C : Array Value) (ty : TypeId) (fz : Nat × Nat), w.heap[k]? = some (.cells C ty fz) → ty ≠ 5 → ty ≠ 65 → w'.heap[k]? = w.heap[k]?
set_option maxHeartbeats 1000000 in
theorem spoil_any (v : Value) (ls : List (List UInt8)) (base : Nat) (w : World) (h : OwnBss w base v ls) (hbase : base ≤ w.heap.size) (hn : ls.length ≤ 1048576) :
    Calls Tryd.prog 38 #[v] w (spoilPost base w) := by
  obtain ⟨vs, hrow, hall⟩ := h
  obtain ⟨a, c, hv, hcap, hc⟩ := id (ownsRow_cells hrow)
  have hlen : vs.length = ls.length := by simpa using hrow.1
  have HROW := Lib.hid hrow
  have HA := Lib.hid hall
  have HC := Lib.hid hc
  have HL := Lib.hid hlen
  obtain ⟨i0, hi, hz0, hz1, hz2⟩ := info_parts (show (Tryd.prog.info? 5).map (fun i => (i.zero, i.size, i.bytes)) = some (some (.int .u8 0), 1, 1) by kernel_rfl)
  obtain ⟨j0, hj, hy0, hy1, hy2⟩ := info_parts info_bs
  clear hrow hall hc hlen
  subst hv
  go_enter Tryd.func38, Tryd.ntmps38
  go_wp2
  go_loopw [6] (fun i wr => ∃ k : Nat, k ≤ ls.length ∧ i = .int .i64 k ∧ BytesTurned base w wr) (fun i _ => ls.length - (intOf i).toNat)
  case atStart => exact ⟨0, by omega, rfl, BytesTurned.refl _ _ hbase⟩
  case round =>
    obtain ⟨k, hk, rfl, htn⟩ := hrel
    have hkeep : wr.ownsRow base 65 1 (.slice a ls.length c) ls.length vs := by
      refine ⟨HROW.out.1, ?_⟩
      rcases HROW.out.2 with h2 | ⟨g, cap, cur, h1, h2, h3, h4⟩
      · exact .inl h2
      · refine .inr ⟨g, cap, cur, h1, h2, ?_, h4⟩
        rcases htn.2.2 g with t | ⟨C1, C', fz', t1, t2, t3⟩
        · exact t.trans h3
        · rw [h3] at t1
          simp at t1
    have HT := Lib.hid htn
    have HKP := Lib.hid hkeep
    clear htn hkeep
    by_cases hlt : k < ls.length
    · obtain ⟨u, hu⟩ : ∃ u, vs[k]? = some u := ⟨_, List.getElem?_eq_getElem (by rw [HL.out]; exact hlt)⟩
      obtain ⟨l, hl⟩ : ∃ l, ls[k]? = some l := ⟨_, List.getElem?_eq_getElem hlt⟩
      obtain ⟨a', c', hv', _, hc'⟩ := ownsRow_cells HKP.out
      cases hv'
      obtain ⟨b, off, rfl, hcell⟩ := hc' k u hu
      have hroom := (HA.out k u l hu hl).room.turned HT.out
      have HRM := Lib.hid hroom
      have hbs : base ≤ wr.heap.size := by rw [HT.out.2.1]; exact hbase
      clear hc' hroom hu hl
      go_wp2_with (refine wpList_clear0 rfl _ 65 rfl i0 Tryd.underlying65 hi hz0 base u l.length rfl HRM.out hbs ?_; intro w1 n1 ht1; have HT1 := Lib.hid ht1; clear ht1)
      go_roundw
      case rel => exact ⟨k + 1, by omega, by go_num, HT.out.trans HT1.out⟩
      case measure => simp [intOf]; omega
    · go_wp2_with (refine wpList_clearR rfl _ 56 65 rfl j0 (.slice none 0 0) Tryd.underlying56 hj hy0 rfl rfl base _ ls.length vs rfl HKP.out ?_; intro w1 n1 hg1 hs1; have HG1 := Lib.hid hg1; have HS1 := Lib.hid hs1; clear hg1 hs1)
      go_end0
      refine ⟨rfl, ?_, HS1.out.trans HT.out.2.1, fun k C ty fz h1 h2 h3 => ?_⟩
      · exact HT.out.1.grown HG1.out (by rw [HT.out.2.1]; exact hbase) (fun j hj => (HKP.out.lt j hj).1)
      · have h4 : wr.heap[k]? = some (.cells C ty fz) := by
          rcases HT.out.2.2 k with t | ⟨C1, C', fz', t1, _, _⟩
          · exact t.trans h1
          · rw [h1] at t1
            simp only [Option.some.injEq, Obj.cells.injEq] at t1
            exact absurd t1.2.1 h2
        exact (ownsRow_other HKP.out HG1.out h3 h4).trans (h4.trans h1.symm)
end Go.Proofs.YtefccfakhgdfbaaDoor
