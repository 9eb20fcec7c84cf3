/- clear on slices of the call's own; the walks of plain.spoil, plain.Unbundle, plain.Bundle. -/
import Derived.Test.YtefccfakhgdfbaaRUnb
namespace Go.Proofs.Ytefccfakhgdfbaa
open Go.RowKit
/-- Cells are stored into a block that bears them: only that block turns, and it keeps its size. -/
theorem run_storeCells_any {P : Program} (g o : Nat) (t : TypeId) (fz : Nat × Nat) : ∀ (vs : List Value) (i : Nat) (cur : Array Value) (w : World), w.heap[g]? = some (.cells cur t fz) → o + i + vs.length ≤ cur.size → (fz = (0, 0) ∨ cur.size ≤ fz.1) → (∀ v ∈ vs, v.oneCell' = true) →
    ∃ cur', (storeCells ⟨g, o, none⟩ vs i).run P w = .ok () (w.setRow g cur') ∧ cur'.size = cur.size
  | [], i, cur, w, hg, _, _, _ => ⟨cur, by simp only [storeCells]; rw [setRow_self w g cur t fz hg]; rfl, rfl⟩
  | v :: rest, i, cur, w, hg, hl, hf, h1 => by
    have hi : o + i < cur.size := by simp at hl; omega
    have hadd : (⟨g, o, none⟩ : Addr).add i = ⟨g, o + i, none⟩ := by unfold Addr.add; split <;> simp_all
    have hcell : w.cell? ⟨g, o + i, none⟩ = some cur[o + i] := by simp [World.cell?, hg, hi]
    have hfro : w.frozen? ⟨g, o + i, none⟩ = false := by
      simp only [World.frozen?, hg]
      rcases hf with rfl | hf
      · simp
      · simp; omega
    have hst : (store ((⟨g, o, none⟩ : Addr).add i) v).run P w = .ok () (w.setRow g (cur.setIfInBounds (o + i) v)) := by
      rw [hadd, run_store P w _ v _ (h1 v (by simp)), hcell]
      simp [hfro, setCell_eq_setRow w g (o + i) cur t fz v hg]
    obtain ⟨cur', ih, hs⟩ := run_storeCells_any (P := P) g o t fz rest (i + 1) (cur.setIfInBounds (o + i) v) (w.setRow g (cur.setIfInBounds (o + i) v)) (setRow_heap w g cur _ t _ hg) (by simp at hl ⊢; omega) (by simpa using hf) (fun x hx => h1 x (by simp [hx]))
    refine ⟨cur', ?_, by simpa using hs⟩
    simp only [storeCells, Sem.run_bind, hst, Result.andThen_ok, ih, setRow_setRow]
theorem setRow_grown (w : World) (g : Nat) (cs : Array Value) : w.grownBy (w.setRow g cs) (some g) :=
  ⟨rfl, rfl, rfl, by simp, fun k _ hk => setRow_other w g k cs (fun e => hk (by rw [e]))⟩
/-- 'clear(b)' of bytes of the call's own: only their block turns. -/
theorem wpList_clearB {P : Program} {ops : Array Oper} {rest : List Oper} {o : Oper} {a : Act} {Q : Exit → Act → World → Prop} {w : World} (hgd : o.guard = none) (x : Operand) (t : TypeId)
    (ho : o.op = .call { callee := .builtin .clear, args := #[x], argTypes := #[t] }) (i : TypeInfo) (ht : P.underlying t = some (.slice 5)) (hi : P.info? 5 = some i) (hz : i.zero = some (.int .u8 0))
    (base : Nat) (v : Value) (l : List UInt8) (hx : a.eval x = v) (hown : OwnBytes w base v l)
    (h : ∀ w' n, w.grownBy w' v.ownBlock → (∀ k, k < w.heap.size → (∃ C C' fz, w.heap[k]? = some (.cells C 5 fz) ∧ w'.heap[k]? = some (.cells C' 5 fz) ∧ C'.size = C.size) ∨ w'.heap[k]? = w.heap[k]?) → w'.heap.size = w.heap.size → wpList P ops Q rest (a.put o.dst n) w') : wpList P ops Q (o :: rest) a w := by
  refine wpList_plain hgd fun K hK => ?_
  have noop : (Builtin.clear_ #[t] o.type #[v]).run P w = .ok (.tuple #[]) w → o.wp P a w K Q := fun hr => by
    unfold Oper.wp execOp
    simp only [ho, resolve, invoke, builtin, Sem.run_bind, Sem.run_pure, Result.andThen_ok, List.map_toArray, List.map_cons, List.map_nil, hx, hr]
    exact hK _ _ (h w _ ⟨rfl, rfl, rfl, Nat.le_refl _, fun _ _ _ => rfl⟩ (fun _ _ => .inr rfl) rfl)
  rcases hown with ⟨rfl, rfl⟩ | ⟨b, off, c, C, fz, rfl, hcap, hb, hg, hc, hsz, hf⟩
  · exact noop (by simp [Builtin.clear_, run_underlying ht])
  · by_cases h0 : l.length = 0
    · obtain rfl : l = [] := List.eq_nil_of_length_eq_zero h0
      exact noop (by simp [Builtin.clear_, run_underlying ht])
    · obtain ⟨cur', hrun, hs⟩ := run_storeCells_any (P := P) b off 5 fz ((Builtin.zeroCells #[Value.int .u8 0] l.length).toList) 0 C w hg (by simp [Builtin.zeroCells]; omega) hf (fun u hu => by
        simp [Builtin.zeroCells] at hu
        obtain ⟨k, hk, rfl⟩ := hu
        simp [Nat.mod_one, Value.oneCell'])
      have hr : (Builtin.clear_ #[t] o.type #[.slice (some ⟨b, off, none⟩) l.length c]).run P w = .ok (.tuple #[]) (w.setRow b cur') := by
        cases hl : l.length with
        | zero => exact absurd hl h0
        | succ n =>
          rw [hl] at hrun
          simp [Builtin.clear_, run_underlying ht, zeroValue, typeInfo, hi, hz, Value.cells, hrun]
      unfold Oper.wp execOp
      simp only [ho, resolve, invoke, builtin, Sem.run_bind, Sem.run_pure, Result.andThen_ok, List.map_toArray, List.map_cons, List.map_nil, hx, hr]
      refine hK _ _ (h _ _ (setRow_grown w b cur') (fun k hk => ?_) (by simp))
      by_cases hkb : k = b
      · subst hkb
        exact .inl ⟨C, cur', fz, hg, setRow_heap w k _ _ _ _ hg, hs⟩
      · exact .inr (setRow_other w b k cur' hkb)
theorem OwnBss.grownAway {w w' : World} {base base' : Nat} {v u : Value} {ls : List (List UInt8)} (h : OwnBss w base v ls) (hg : w.grownBy w' u.ownBlock) (hu : ∀ k, u.ownBlock = some k → k < base) (hb : base' ≤ base) : OwnBss w' base' v ls := by
  obtain ⟨vs, hrow, hall⟩ := h
  have hk : ∀ k, base ≤ k → k < w.heap.size → w'.heap[k]? = w.heap[k]? := fun k h1 h2 => hg.block k h2 (fun e => by have := hu k e.symm; omega)
  refine ⟨vs, ?_, fun j x l hx hl => ?_⟩
  · refine ⟨hrow.1, ?_⟩
    rcases hrow.2 with h2 | ⟨g, cap, cur, hv, hbg, hh, r⟩
    · exact .inl h2
    · exact .inr ⟨g, cap, cur, hv, Nat.le_trans hb hbg, (hk g hbg (lt_of_heap hh)).trans hh, r⟩
  · rcases hall j x l hx hl with h1 | ⟨b, off, c, C, fz, h1, h0, h2, h3, h4⟩
    · exact .inl h1
    · exact .inr ⟨b, off, c, C, fz, h1, h0, Nat.le_trans hb h2, (hk b h2 (lt_of_heap h3)).trans h3, h4⟩
set_option maxHeartbeats 400000 in
theorem tunbundle_any (v : Value) (data : List UInt8) (w : World) (h : BytesAt w v data) (hn : data.length ≤ 1099511627776) :
    Calls Try.prog 25 #[v] w (unbPost data w) := by
  have HH := Lib.hid h
  clear h
  go_enter Try.func25, Try.ntmps25
  go_wp2_with fail
  refine (funbundle_any v data _ HH.out hn).mono ?_
  rintro e w1 ⟨v1, rfl, hb, hr⟩
  have HR := Lib.hid hr
  clear hr
  go_wp2
  go_ret2
  exact ⟨_, rfl, hb, HR.out⟩
set_option maxHeartbeats 400000 in
theorem tbundle_any (v : Value) (ls : List (List UInt8)) (w : World) (h : BssAt w v ls) (hn : ls.length ≤ 1099511627776) :
    Calls Try.prog 23 #[v] w (fbPost ls w) := by
  have HH := Lib.hid h
  clear h
  go_enter Try.func23, Try.ntmps23
  go_wp2_with fail
  refine (fbundle_any v ls _ HH.out hn).mono ?_
  rintro e w1 ⟨v1, rfl, hb, hr⟩
  have HR := Lib.hid hr
  clear hr
  go_wp2
  go_ret
  exact ⟨_, rfl, hb, HR.out⟩
def pbPost (ls : List (List UInt8)) (w : World) (e : Ending) (w' : World) : Prop :=
  e = .returned (.tuple #[.string ⟨((bundleOf ls).getD []).toArray⟩, .bool (!(bundleOf ls).isSome)]) ∧ Below w.heap.size w w'
set_option maxHeartbeats 400000 in
theorem pbundle_any (v : Value) (ss : List ByteArray) (w : World) (h : StrsAt w v ss) (hn : ss.length ≤ 1048576) :
    Calls Try.prog 8 #[v] w (pbPost (bss ss) w) := by
  have HH := Lib.hid h
  clear h
  go_enter Try.func8, Try.ntmps8
  go_wp2_with fail
  refine (entries_any v ss _ HH.out hn).mono ?_
  rintro e w1 ⟨v1, rfl, ho1, hb1⟩
  have HB1 := Lib.hid hb1
  have HO1 := Lib.hid ho1
  clear hb1 ho1
  go_wp2_with fail
  refine (tbundle_any v1 (bss ss) _ HO1.out.at (by simp [bss]; omega)).mono ?_
  rintro e w2 ⟨v2, rfl, hb2, hr⟩
  have HB2 := Lib.hid hb2
  clear hb2
  have hbb : Below w.heap.size w w2 := HB1.out.trans (HB2.out.mono HB1.out.size)
  rcases hr with ⟨hu, rfl⟩ | ⟨l, hu, hol, a, n, c, rfl⟩
  · have hq := fun w => Lib.run_eql_slice_nil (P := Try.prog) w 35 5 none 0 0 0 0 Try.underlying35
    have HU := Lib.hid hu
    have hbs := run_bs (w := w2) (v := .slice none 0 0) (l := []) ⟨none, 0, rfl, Nat.le_refl _, fun j x hx => by simp at hx⟩
    clear hu
    go_wp2
    go_ret2
    refine ⟨?_, hbb⟩
    rw [HU.out]
    rfl
  · have hq := fun w => Lib.run_eql_slice_nil (P := Try.prog) w 35 5 (some a) n c 0 0 Try.underlying35
    have HU := Lib.hid hu
    have hbs := run_bs hol.at
    clear hu hol
    go_wp2
    go_ret2
    refine ⟨?_, hbb⟩
    rw [HU.out]
    rfl
end Go.Proofs.Ytefccfakhgdfbaa
