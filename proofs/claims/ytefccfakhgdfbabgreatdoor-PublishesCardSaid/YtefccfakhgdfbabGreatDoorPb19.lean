/-
  Cells stored into a block that bears them.
  clear on slices of the call's own, whatever they hold; the walk of plain.spoil.
  The walks of merkle.Whole, Entries, Root; tiles.Root, Leaf; plain.Root, Leaf.
-/
import Derived.Test.YtefccfakhgdfbabGreatDoorPb01
import Derived.Test.YtefccfakhgdfbabGreatDoorPb02
import Derived.Laws.CopyOwn
import Derived.Test.YtefccfakhgdfbabGreatDoorPb18
import Derived.Test.YtefccfakhgdfbabGreatDoorPb17
import Derived.Laws.EntriesVeiled
set_option linter.unusedVariables false
set_option linter.unusedSimpArgs false
section
namespace Go.Proofs.YtefccfakhgdfbabGreatDoor
open Go.RowKit
/-- Cells are stored into a block that bears them: only that block turns, and it keeps its size. -/
theorem run_storeCells_any {P : Program} (g o : Nat) (t : TypeId) (fz : Nat × Nat) : ∀ (vs : List Value) (i : Nat) (cur : Array Value) (w : World), w.heap[g]? = some (.cells cur t fz) → o + i + vs.length ≤ cur.size → (fz = (0, 0) ∨ cur.size ≤ fz.1) → (∀ v ∈ vs, v.oneCell' = true) →
    ∃ cur', (storeCells ⟨g, o, none⟩ vs i).run P w = .ok () (w.setRow g cur') ∧ cur'.size = cur.size
  | [], i, cur, w, hg, _, _, _ => ⟨cur, by simp only [storeCells]; rw [setRow_self w g cur t fz hg]; rfl, rfl⟩
  | v :: rest, i, cur, w, hg, hl, hf, h1 => by
    have hi : o + i < cur.size := by simp at hl; omega
    have hadd : (⟨g, o, none⟩ : Addr).add i = ⟨g, o + i, none⟩ := by unfold Addr.add; split <;> simp_all
    have hcell : w.cell? ⟨g, o + i, none⟩ = some cur[o + i] := by simp [World.cell?, hg, hi]
    have hfro : w.frozen? ⟨g, o + i, none⟩ = false := by
      simp only [World.frozen?, hg]
      rcases hf with rfl | hf
      · simp
      · simp; omega
    have hst : (store ((⟨g, o, none⟩ : Addr).add i) v).run P w = .ok () (w.setRow g (cur.setIfInBounds (o + i) v)) := by
      rw [hadd, run_store P w _ v _ (h1 v (by simp)), hcell]
      simp [hfro, setCell_eq_setRow w g (o + i) cur t fz v hg]
    obtain ⟨cur', ih, hs⟩ := run_storeCells_any (P := P) g o t fz rest (i + 1) (cur.setIfInBounds (o + i) v) (w.setRow g (cur.setIfInBounds (o + i) v)) (setRow_heap w g cur _ t _ hg) (by simp at hl ⊢; omega) (by simpa using hf) (fun x hx => h1 x (by simp [hx]))
    refine ⟨cur', ?_, by simpa using hs⟩
    simp only [storeCells, Sem.run_bind, hst, Result.andThen_ok, ih, setRow_setRow]
theorem setRow_grown (w : World) (g : Nat) (cs : Array Value) : w.grownBy (w.setRow g cs) (some g) :=
  ⟨rfl, rfl, rfl, by simp, fun k _ hk => setRow_other w g k cs (fun e => hk (by rw [e]))⟩
end Go.Proofs.YtefccfakhgdfbabGreatDoor
end

section
namespace Go.Proofs.YtefccfakhgdfbabGreatDoor
open Go.RowKit
/-- Memory of n bytes from block 'base' on, whatever it holds; or nil. -/
def Room (w : World) (base : Nat) (v : Value) (n : Nat) : Prop :=
  (v = .slice none 0 0 ∧ n = 0) ∨
  ∃ (b off c : Nat) (C : Array Value) (fz : Nat × Nat), v = .slice (some ⟨b, off, none⟩) n c ∧ n ≤ c ∧ base ≤ b ∧ w.heap[b]? = some (.cells C 5 fz) ∧ off + n ≤ C.size ∧ (fz = (0, 0) ∨ C.size ≤ fz.1)
theorem OwnBytes.room {w : World} {base : Nat} {v : Value} {l : List UInt8} (h : OwnBytes w base v l) : Room w base v l.length := by
  rcases h with ⟨rfl, rfl⟩ | ⟨b, off, c, C, fz, h1, h0, h2, h3, _, h5, h6⟩
  · exact .inl ⟨rfl, rfl⟩
  · exact .inr ⟨b, off, c, C, fz, h1, h0, h2, h3, h5, h6⟩
/-- Only blocks of bytes have turned, each keeps its size; none is new. -/
def BytesTurned (base : Nat) (w w' : World) : Prop :=
  Below base w w' ∧ w'.heap.size = w.heap.size ∧ ∀ (k : Nat), w'.heap[k]? = w.heap[k]? ∨ ∃ (C C' : Array Value) (fz : Nat × Nat), w.heap[k]? = some (Obj.cells C 5 fz) ∧ w'.heap[k]? = some (Obj.cells C' 5 fz) ∧ C'.size = C.size
theorem BytesTurned.refl (base : Nat) (w : World) (h : base ≤ w.heap.size) : BytesTurned base w w := ⟨(Below.refl _ _).mono h, rfl, fun _ => .inl rfl⟩
theorem BytesTurned.trans {base : Nat} {a b c : World} (h : BytesTurned base a b) (k : BytesTurned base b c) : BytesTurned base a c := by
  refine ⟨h.1.trans k.1, k.2.1.trans h.2.1, fun i => ?_⟩
  rcases h.2.2 i with h1 | ⟨C, C', fz, h1, h2, h3⟩
  · rcases k.2.2 i with k1 | ⟨D, D', fy, k1, k2, k3⟩
    · exact .inl (k1.trans h1)
    · exact .inr ⟨D, D', fy, by rw [← h1]; exact k1, k2, k3⟩
  · rcases k.2.2 i with k1 | ⟨D, D', fy, k1, k2, k3⟩
    · exact .inr ⟨C, C', fz, h1, k1.trans h2, h3⟩
    · rw [h2] at k1
      simp only [Option.some.injEq, Obj.cells.injEq] at k1
      obtain ⟨rfl, _, rfl⟩ := k1
      exact .inr ⟨C, D', fz, h1, k2, k3.trans h3⟩
theorem Room.turned {w w' : World} {base b0 : Nat} {v : Value} {n : Nat} (h : Room w base v n) (ht : BytesTurned b0 w w') : Room w' base v n := by
  rcases h with h | ⟨b, off, c, C, fz, h1, h0, h2, h3, h4, h5⟩
  · exact .inl h
  · rcases ht.2.2 b with t | ⟨C1, C', fz', t1, t2, t3⟩
    · exact .inr ⟨b, off, c, C, fz, h1, h0, h2, t.trans h3, h4, h5⟩
    · rw [h3] at t1
      simp only [Option.some.injEq, Obj.cells.injEq] at t1
      obtain ⟨rfl, _, rfl⟩ := t1
      exact .inr ⟨b, off, c, C', fz, h1, h0, h2, t2, by omega, by rw [t3]; exact h5⟩
/-- 'clear(b)' of bytes. -/
theorem wpList_clear0 {P : Program} {ops : Array Oper} {rest : List Oper} {o : Oper} {a : Act} {Q : Exit → Act → World → Prop} {w : World} (hgd : o.guard = none) (x : Operand) (t : TypeId)
    (ho : o.op = .call { callee := .builtin .clear, args := #[x], argTypes := #[t] }) (i : TypeInfo) (ht : P.underlying t = some (.slice 5)) (hi : P.info? 5 = some i) (hz : i.zero = some (.int .u8 0))
    (base : Nat) (v : Value) (m : Nat) (hx : a.eval x = v) (hown : Room w base v m) (hbase : base ≤ w.heap.size)
    (h : ∀ w' n, BytesTurned base w w' → wpList P ops Q rest (a.put o.dst n) w') : wpList P ops Q (o :: rest) a w := by
  refine wpList_plain hgd fun K hK => ?_
  have noop : (Builtin.clear_ #[t] o.type #[v]).run P w = .ok (.tuple #[]) w → o.wp P a w K Q := fun hr => by
    unfold Oper.wp execOp
    simp only [ho, resolve, invoke, builtin, Sem.run_bind, Sem.run_pure, Result.andThen_ok, List.map_toArray, List.map_cons, List.map_nil, hx, hr]
    exact hK _ _ (h w _ (BytesTurned.refl _ _ hbase))
  rcases hown with ⟨rfl, rfl⟩ | ⟨b, off, c, C, fz, rfl, hcap, hb, hg, hsz, hf⟩
  · exact noop (by simp [Builtin.clear_, run_underlying ht])
  · by_cases h0 : m = 0
    · subst h0
      exact noop (by simp [Builtin.clear_, run_underlying ht])
    · obtain ⟨cur', hrun, hs⟩ := run_storeCells_any (P := P) b off 5 fz ((Builtin.zeroCells #[Value.int .u8 0] m).toList) 0 C w hg (by simp [Builtin.zeroCells]; omega) hf (fun u hu => by
        simp [Builtin.zeroCells] at hu
        obtain ⟨k, hk, rfl⟩ := hu
        simp [Nat.mod_one, Value.oneCell'])
      have hr : (Builtin.clear_ #[t] o.type #[.slice (some ⟨b, off, none⟩) m c]).run P w = .ok (.tuple #[]) (w.setRow b cur') := by
        cases m with
        | zero => exact absurd rfl h0
        | succ n => simp [Builtin.clear_, run_underlying ht, zeroValue, typeInfo, hi, hz, Value.cells, hrun]
      unfold Oper.wp execOp
      simp only [ho, resolve, invoke, builtin, Sem.run_bind, Sem.run_pure, Result.andThen_ok, List.map_toArray, List.map_cons, List.map_nil, hx, hr]
      refine hK _ _ (h _ _ ⟨below_setRow ((Below.refl _ _).mono hbase) hb _, by simp, fun k => ?_⟩)
      by_cases hkb : k = b
      · subst hkb
        exact .inr ⟨C, cur', fz, hg, setRow_heap w k _ _ _ _ hg, hs⟩
      · exact .inl (setRow_other w b k cur' hkb)
/-- 'clear(l)' of a row of one-cell elements: only its block turns. -/
theorem wpList_clearR {P : Program} {ops : Array Oper} {rest : List Oper} {o : Oper} {a : Act} {Q : Exit → Act → World → Prop} {w : World} (hgd : o.guard = none) (x : Operand) (t e : TypeId)
    (ho : o.op = .call { callee := .builtin .clear, args := #[x], argTypes := #[t] }) (i : TypeInfo) (z : Value) (ht : P.underlying t = some (.slice e)) (hi : P.info? e = some i) (hz : i.zero = some z) (hzc : z.cells = #[z]) (hz1 : z.oneCell' = true)
    (base : Nat) (v : Value) (m : Nat) (xs : List Value) (hx : a.eval x = v) (hown : w.ownsRow base e 1 v m xs)
    (h : ∀ w' n, w.grownBy w' v.ownBlock → w'.heap.size = w.heap.size → wpList P ops Q rest (a.put o.dst n) w') : wpList P ops Q (o :: rest) a w := by
  refine wpList_plain hgd fun K hK => ?_
  have noop : (Builtin.clear_ #[t] o.type #[v]).run P w = .ok (.tuple #[]) w → o.wp P a w K Q := fun hr => by
    unfold Oper.wp execOp
    simp only [ho, resolve, invoke, builtin, Sem.run_bind, Sem.run_pure, Result.andThen_ok, List.map_toArray, List.map_cons, List.map_nil, hx, hr]
    exact hK _ _ (h w _ ⟨rfl, rfl, rfl, Nat.le_refl _, fun _ _ _ => rfl⟩ rfl)
  obtain ⟨hl, hr2⟩ := hown
  rcases hr2 with ⟨rfl, rfl⟩ | ⟨b, c, C, rfl, hb, hg, hcap, hc, hs, hcur⟩
  · exact noop (by simp [Builtin.clear_, run_underlying ht])
  · by_cases h0 : m = 0
    · subst h0
      exact noop (by simp [Builtin.clear_, run_underlying ht])
    · obtain ⟨cur', hrun, hs⟩ := run_storeCells_any (P := P) b 0 e (0, 0) ((Builtin.zeroCells #[z] m).toList) 0 C w hg (by simp [Builtin.zeroCells]; omega) (.inl rfl) (fun u hu => by
        simp [Builtin.zeroCells] at hu
        obtain ⟨k, hk, rfl⟩ := hu
        simpa [Nat.mod_one] using hz1)
      have hr : (Builtin.clear_ #[t] o.type #[.slice (some ⟨b, 0, none⟩) m c]).run P w = .ok (.tuple #[]) (w.setRow b cur') := by
        cases m with
        | zero => exact absurd rfl h0
        | succ n => simp [Builtin.clear_, run_underlying ht, zeroValue, typeInfo, hi, hz, hzc, hrun]
      unfold Oper.wp execOp
      simp only [ho, resolve, invoke, builtin, Sem.run_bind, Sem.run_pure, Result.andThen_ok, List.map_toArray, List.map_cons, List.map_nil, hx, hr]
      exact hK _ _ (h _ _ (setRow_grown w b cur') (by simp))
/-- What spoil leaves: blocks that hold neither bytes nor slices of bytes stand, and all below 'base'. -/
def spoilPost (base : Nat) (w : World) (e : Ending) (w' : World) : Prop :=
  e = .returned (.tuple #[]) ∧ Below base w w' ∧ w'.heap.size = w.heap.size ∧ ∀ (k : Nat) (C : Array Value) (ty : TypeId) (fz : Nat × Nat), w.heap[k]? = some (.cells C ty fz) → ty ≠ 5 → ty ≠ 94 → w'.heap[k]? = w.heap[k]?
end Go.Proofs.YtefccfakhgdfbabGreatDoor
end

section
namespace Go.Proofs.YtefccfakhgdfbabGreatDoor
open Go.RowKit
/-- A value that tells the roots of ranges of the entries ls: merkle.Entries' answer. -/
def RangeOf (w : World) (rv : Value) (ls : List (List UInt8)) : Prop :=
  ∃ (e1 e3 g1 g3 : Nat) (v : Value), rv = .func (.func 142) #[] #[.pointer (some ⟨g1, 0, none⟩), .pointer (some ⟨g3, 0, none⟩)] ∧
    w.cell? ⟨e1, 0, none⟩ = some v ∧ w.cell? ⟨e3, 0, none⟩ = some (.func (.func 171) #[] #[.pointer (some ⟨e1, 0, none⟩), .pointer (some ⟨e3, 0, none⟩)]) ∧ BssAt w v ls ∧
    w.cell? ⟨g1, 0, none⟩ = some (.func (.func 171) #[] #[.pointer (some ⟨e1, 0, none⟩), .pointer (some ⟨e3, 0, none⟩)]) ∧
    w.cell? ⟨g3, 0, none⟩ = some (.func (.func 142) #[] #[.pointer (some ⟨g1, 0, none⟩), .pointer (some ⟨g3, 0, none⟩)])
theorem RangeOf.below {w w' : World} {rv : Value} {ls : List (List UInt8)} (h : RangeOf w rv ls) (hb : Below w.heap.size w w') : RangeOf w' rv ls := by
  obtain ⟨e1, e3, g1, g3, v, h0, h1, h2, h3, h4, h5⟩ := h
  exact ⟨e1, e3, g1, g3, v, h0, (hb.cell (p := ⟨e1, 0, none⟩) (cell_lt h1)).trans h1, (hb.cell (p := ⟨e3, 0, none⟩) (cell_lt h2)).trans h2, h3.below hb, (hb.cell (p := ⟨g1, 0, none⟩) (cell_lt h4)).trans h4, (hb.cell (p := ⟨g3, 0, none⟩) (cell_lt h5)).trans h5⟩
set_option maxHeartbeats 1000000 in
theorem mwhole_any (F : FuncId) (caps : Array Value) (w : World) :
    Calls Tryz.prog 88 #[.func (.func F) #[] caps] w fun e w' => e = .returned (.func (.func 142) #[] #[.pointer (some ⟨w.heap.size, 0, none⟩), .pointer (some ⟨w.heap.size + 1, 0, none⟩)]) ∧
      w'.cell? ⟨w.heap.size, 0, none⟩ = some (.func (.func F) #[] caps) ∧ w'.cell? ⟨w.heap.size + 1, 0, none⟩ = some (.func (.func 142) #[] #[.pointer (some ⟨w.heap.size, 0, none⟩), .pointer (some ⟨w.heap.size + 1, 0, none⟩)]) ∧ Below w.heap.size w w' := by
  go_enter Tryz.func88, Tryz.ntmps88
  go_wp2_with fail
  go_ret
  refine ⟨rfl, ?_, ?_, (below_alloc w _).alloc (by simp) _⟩
  · rw [World.cell?_alloc_old]
    · exact World.cell?_alloc_at _ _ _ _ rfl
    · simp
  · exact World.cell?_alloc_at _ _ _ _ (by simp)
set_option maxHeartbeats 1000000 in
theorem mentries_any (v : Value) (ls : List (List UInt8)) (w : World) (h : BssAt w v ls) :
    Calls Tryz.prog 126 #[v] w fun e w' => ∃ rv, e = .returned rv ∧ RangeOf w' rv ls ∧ Below w.heap.size w w' := by
  obtain ⟨a, c, rfl⟩ : ∃ a c, v = .slice a ls.length c := by obtain ⟨_, _, ⟨a, c, h1, _⟩, _⟩ := h; exact ⟨a, c, h1⟩
  have HH := Lib.hid h
  clear h
  go_enter Tryz.func126, Tryz.ntmps126
  go_wp2_with fail
  have b0 : Below w.heap.size w ((w.alloc (.cells #[.slice a ls.length c] 135)).alloc (.cells #[.func (.func 171) #[] #[.pointer (some ⟨w.heap.size, 0, none⟩), .pointer (some ⟨w.heap.size + 1, 0, none⟩)]] 181)) := (below_alloc w _).alloc (by simp) _
  refine (mwhole_any _ _ _).mono ?_
  rintro e w1 ⟨rfl, h1, h2, hb⟩
  have hsz : ((w.alloc (.cells #[.slice a ls.length c] 135)).alloc (.cells #[.func (.func 171) #[] #[.pointer (some ⟨w.heap.size, 0, none⟩), .pointer (some ⟨w.heap.size + 1, 0, none⟩)]] 181)).heap.size = w.heap.size + 1 + 1 := by simp
  rw [hsz] at h1 h2
  clear hsz
  have B := Lib.hid (b0.trans (hb.mono b0.size))
  have q1 : w1.cell? ⟨w.heap.size, 0, none⟩ = some (.slice a ls.length c) := (hb.cell (p := ⟨w.heap.size, 0, none⟩) (by simp; omega)).trans ((World.cell?_alloc_past _ _ _ (by simp)).trans (World.cell?_alloc_at _ _ _ _ rfl))
  have q2 : w1.cell? ⟨w.heap.size + 1, 0, none⟩ = some (.func (.func 171) #[] #[.pointer (some ⟨w.heap.size, 0, none⟩), .pointer (some ⟨w.heap.size + 1, 0, none⟩)]) := (hb.cell (p := ⟨w.heap.size + 1, 0, none⟩) (by simp)).trans (World.cell?_alloc_at _ _ _ _ (by simp))
  have Q := Lib.hid (show RangeOf w1 _ ls from ⟨_, _, _, _, _, rfl, q1, q2, HH.out.below B.out, h1, h2⟩)
  clear b0 hb q1 q2 h1 h2
  go_wp2
  go_ret
  exact ⟨_, rfl, Q.out, B.out⟩
set_option maxHeartbeats 1000000 in
theorem mroot_any (n : Nat) (rv : Value) (ls : List (List UInt8)) (w : World) (h : RangeOf w rv ls) (hn : n ≤ ls.length) (hl : ls.length ≤ 1048576) (hs : ∀ l ∈ ls, l.length ≤ 9223372036854775807) :
    Calls Tryz.prog 125 #[rv, .int .i64 n] w fun e w' => e = .returned (.tuple #[.agg (h8 (rootOf (ls.take n))), .nilIface]) ∧ Below w.heap.size w w' := by
  by_cases h0 : n = 0
  · subst h0
    obtain ⟨e1, e3, g1, g3, v, rfl, _⟩ := h
    go_enter Tryz.func125, Tryz.ntmps125
    go_wp2_with fail
    refine (sum_any _ [] _ ⟨[], rfl, ⟨none, 0, rfl, Nat.le_refl _, fun j x hx => by simp at hx⟩, fun j u l hu _ => by simp at hu⟩ (by simp) (by simp)).mono ?_
    rintro e w1 ⟨rfl, hb⟩
    have z1 : hashOf w1 w.heap.size zero8 := hashOf_below (hashOf_zero' rfl) hb
    have B := Lib.hid ((below_alloc w _).trans (hb.mono (by simp)))
    clear hb
    go_wp2_with (first | (refine wpList_load8 rfl 109 _ rfl _ rfl _ Tryz.underlying109 info8 ?_ ?_ ?_; rotate_left; focus ((repeat (first | (with_reducible assumption) | ((with_reducible refine hashOf_zero' ?_); (first | rfl | (simp; done) | (simp; omega))) | ((with_reducible refine hashOf_at ?_); (first | rfl | (simp; done) | (simp; omega))) | (with_reducible exact hashOf_set' ⟨_, by assumption⟩ _) | ((with_reducible refine hashOf_set' (Is8_zero ?_) _); (first | rfl | (simp; done) | (simp; omega))) | (with_reducible refine hashOf_old ?_ _) | ((with_reducible refine hashOf_other ?_ _ ?_); rotate_left; (focus (first | (simp; done) | (simp; omega) | omega))) | (with_reducible refine hashOf_drew ?_) | (with_reducible refine hashOf_below ?_ (by assumption)))); done)) | (refine wpList_store8 rfl 109 _ _ rfl _ _ rfl rfl info8 ?_ ?_ ?_; rotate_left; focus ((repeat (first | (with_reducible assumption) | ((with_reducible refine hashOf_zero' ?_); (first | rfl | (simp; done) | (simp; omega))) | ((with_reducible refine hashOf_at ?_); (first | rfl | (simp; done) | (simp; omega))) | (with_reducible exact hashOf_set' ⟨_, by assumption⟩ _) | ((with_reducible refine hashOf_set' (Is8_zero ?_) _); (first | rfl | (simp; done) | (simp; omega))) | (with_reducible refine hashOf_old ?_ _) | ((with_reducible refine hashOf_other ?_ _ ?_); rotate_left; (focus (first | (simp; done) | (simp; omega) | omega))) | (with_reducible refine hashOf_drew ?_) | (with_reducible refine hashOf_below ?_ (by assumption)))); done)))
    refine ret8t w.heap.size (hash []) .nilIface rfl rfl rfl _ Tryz.underlying109 info8 (hashOf_set z1 _) rfl ⟨by rw [List.take_zero]; rfl, below_setRow B.out (Nat.le_refl _) _⟩
  · have hz : ((n : Int) == 0) = false := by rw [beq_eq_false_iff_ne]; omega
    obtain ⟨e1, e3, g1, g3, v, rfl, h1, h2, h3, h4, h5⟩ := h
    have b0 := below_alloc w (.cells #[.int .u8 0, .int .u8 0, .int .u8 0, .int .u8 0, .int .u8 0, .int .u8 0, .int .u8 0, .int .u8 0] 109)
    have W := Lib.hid (whole1_any n 0 n 0 n e1 e3 g1 g3 v ls (w.alloc (.cells #[.int .u8 0, .int .u8 0, .int .u8 0, .int .u8 0, .int .u8 0, .int .u8 0, .int .u8 0, .int .u8 0] 109)) rfl (by simp) (Nat.le_refl _) (by omega) (by omega) hl hs ((b0.cell (p := ⟨e1, 0, none⟩) (cell_lt h1)).trans h1) ((b0.cell (p := ⟨e3, 0, none⟩) (cell_lt h2)).trans h2) (h3.below b0) ((b0.cell (p := ⟨g1, 0, none⟩) (cell_lt h4)).trans h4) ((b0.cell (p := ⟨g3, 0, none⟩) (cell_lt h5)).trans h5))
    have hd : (ls.drop 0).take n = ls.take n := by rw [List.drop_zero]
    rw [hd] at W
    clear h1 h2 h3 h4 h5 hd hs hl hn
    go_enter Tryz.func125, Tryz.ntmps125
    go_wp2_with fail
    refine W.out.mono ?_
    rintro e w1 ⟨rfl, hb⟩
    have z1 : hashOf w1 w.heap.size zero8 := hashOf_below (hashOf_zero' rfl) hb
    have B := Lib.hid (b0.trans (hb.mono b0.size))
    clear hb b0 W
    go_wp2_with (first | (refine wpList_load8 rfl 109 _ rfl _ rfl _ Tryz.underlying109 info8 ?_ ?_ ?_; rotate_left; focus ((repeat (first | (with_reducible assumption) | ((with_reducible refine hashOf_zero' ?_); (first | rfl | (simp; done) | (simp; omega))) | ((with_reducible refine hashOf_at ?_); (first | rfl | (simp; done) | (simp; omega))) | (with_reducible exact hashOf_set' ⟨_, by assumption⟩ _) | ((with_reducible refine hashOf_set' (Is8_zero ?_) _); (first | rfl | (simp; done) | (simp; omega))) | (with_reducible refine hashOf_old ?_ _) | ((with_reducible refine hashOf_other ?_ _ ?_); rotate_left; (focus (first | (simp; done) | (simp; omega) | omega))) | (with_reducible refine hashOf_drew ?_) | (with_reducible refine hashOf_below ?_ (by assumption)))); done)) | (refine wpList_store8 rfl 109 _ _ rfl _ _ rfl rfl info8 ?_ ?_ ?_; rotate_left; focus ((repeat (first | (with_reducible assumption) | ((with_reducible refine hashOf_zero' ?_); (first | rfl | (simp; done) | (simp; omega))) | ((with_reducible refine hashOf_at ?_); (first | rfl | (simp; done) | (simp; omega))) | (with_reducible exact hashOf_set' ⟨_, by assumption⟩ _) | ((with_reducible refine hashOf_set' (Is8_zero ?_) _); (first | rfl | (simp; done) | (simp; omega))) | (with_reducible refine hashOf_old ?_ _) | ((with_reducible refine hashOf_other ?_ _ ?_); rotate_left; (focus (first | (simp; done) | (simp; omega) | omega))) | (with_reducible refine hashOf_drew ?_) | (with_reducible refine hashOf_below ?_ (by assumption)))); done)))
    refine ret8t w.heap.size _ .nilIface rfl rfl rfl _ Tryz.underlying109 info8 (hashOf_set z1 _) rfl ⟨rfl, below_setRow B.out (Nat.le_refl _) _⟩
set_option maxHeartbeats 1000000 in
theorem troot_any (v : Value) (ls : List (List UInt8)) (w : World) (h : BssAt w v ls) (hl : ls.length ≤ 1048576) (hs : ∀ l ∈ ls, l.length ≤ 9223372036854775807) :
    Calls Tryz.prog 69 #[v] w fun e w' => e = .returned (.agg (h8 (rootOf ls))) ∧ Below w.heap.size w w' := by
  obtain ⟨a, c, rfl⟩ : ∃ a c, v = .slice a ls.length c := by obtain ⟨_, _, ⟨a, c, h1, _⟩, _⟩ := h; exact ⟨a, c, h1⟩
  have HH := Lib.hid (h.below (below_alloc w (.cells #[.int .u8 0, .int .u8 0, .int .u8 0, .int .u8 0, .int .u8 0, .int .u8 0, .int .u8 0, .int .u8 0] 109)))
  have HS' := Lib.hid hs
  have ht : ls.take ls.length = ls := List.take_of_length_le (Nat.le_refl _)
  have HT := Lib.hid ht
  clear h hs ht
  go_enter Tryz.func69, Tryz.ntmps69
  go_wp2_with fail
  refine (mentries_any _ ls _ HH.out).mono ?_
  rintro e w1 ⟨rv, rfl, hr, hb1⟩
  have b1 := (below_alloc w (.cells #[.int .u8 0, .int .u8 0, .int .u8 0, .int .u8 0, .int .u8 0, .int .u8 0, .int .u8 0, .int .u8 0] 109)).trans (hb1.mono (by simp))
  have z1 : hashOf w1 w.heap.size zero8 := hashOf_below (hashOf_zero' rfl) hb1
  have HR := Lib.hid hr
  clear hr hb1
  go_wp2_with fail
  refine (mroot_any ls.length rv ls _ HR.out (Nat.le_refl _) hl HS'.out).mono ?_
  rintro e w2 ⟨rfl, hb2⟩
  rw [HT.out]
  have z2 := hashOf_below z1 hb2
  have hsz : w.heap.size + 1 ≤ w2.heap.size := by have := b1.size; have := hb2.size; have := (Array.getElem?_eq_some_iff.1 z1).1; omega
  have B2 := Lib.hid (b1.trans (hb2.mono b1.size))
  clear z1 hb2 b1
  have k1 : hashOf ((w2.alloc (.cells #[.int .u8 0, .int .u8 0, .int .u8 0, .int .u8 0, .int .u8 0, .int .u8 0, .int .u8 0, .int .u8 0] 109)).setRow w2.heap.size (h8 (rootOf ls))) w2.heap.size (rootOf ls) := hashOf_set (hashOf_zero' rfl) _
  have k2 : hashOf ((w2.alloc (.cells #[.int .u8 0, .int .u8 0, .int .u8 0, .int .u8 0, .int .u8 0, .int .u8 0, .int .u8 0, .int .u8 0] 109)).setRow w2.heap.size (h8 (rootOf ls))) w.heap.size zero8 := hashOf_other (hashOf_old z2 _) _ (by omega)
  have k3 : Below w.heap.size w ((w2.alloc (.cells #[.int .u8 0, .int .u8 0, .int .u8 0, .int .u8 0, .int .u8 0, .int .u8 0, .int .u8 0, .int .u8 0] 109)).setRow w2.heap.size (h8 (rootOf ls))) := below_setRow (B2.out.alloc B2.out.size _) B2.out.size _
  have K3 := Lib.hid k3
  clear k3 z2
  go_wp2_with (first | (refine wpList_load8 rfl 109 _ rfl _ rfl _ Tryz.underlying109 info8 ?_ ?_ ?_; rotate_left; focus ((repeat (first | (with_reducible assumption) | ((with_reducible refine hashOf_zero' ?_); (first | rfl | (simp; done) | (simp; omega))) | ((with_reducible refine hashOf_at ?_); (first | rfl | (simp; done) | (simp; omega))) | (with_reducible exact hashOf_set' ⟨_, by assumption⟩ _) | ((with_reducible refine hashOf_set' (Is8_zero ?_) _); (first | rfl | (simp; done) | (simp; omega))) | (with_reducible refine hashOf_old ?_ _) | ((with_reducible refine hashOf_other ?_ _ ?_); rotate_left; (focus (first | (simp; done) | (simp; omega) | omega))) | (with_reducible refine hashOf_drew ?_) | (with_reducible refine hashOf_below ?_ (by assumption)))); done)) | (refine wpList_store8 rfl 109 _ _ rfl _ _ rfl rfl info8 ?_ ?_ ?_; rotate_left; focus ((repeat (first | (with_reducible assumption) | ((with_reducible refine hashOf_zero' ?_); (first | rfl | (simp; done) | (simp; omega))) | ((with_reducible refine hashOf_at ?_); (first | rfl | (simp; done) | (simp; omega))) | (with_reducible exact hashOf_set' ⟨_, by assumption⟩ _) | ((with_reducible refine hashOf_set' (Is8_zero ?_) _); (first | rfl | (simp; done) | (simp; omega))) | (with_reducible refine hashOf_old ?_ _) | ((with_reducible refine hashOf_other ?_ _ ?_); rotate_left; (focus (first | (simp; done) | (simp; omega) | omega))) | (with_reducible refine hashOf_drew ?_) | (with_reducible refine hashOf_below ?_ (by assumption)))); done)))
  refine ret8 w.heap.size (rootOf ls) rfl rfl _ Tryz.underlying109 info8 (hashOf_set k2 _) rfl ⟨rfl, below_setRow K3.out (Nat.le_refl _) _⟩
set_option maxHeartbeats 1000000 in
theorem tleaf_any (v : Value) (l : List UInt8) (w : World) (h : BytesAt w v l) (hn : l.length ≤ 9223372036854775807) :
    Calls Tryz.prog 106 #[v] w fun e w' => e = .returned (.agg (h8 (leafH l))) ∧ Below w.heap.size w w' := by
  obtain ⟨a, c, rfl⟩ : ∃ a c, v = .slice a l.length c := by obtain ⟨a, c, h1, _⟩ := h; exact ⟨a, c, h1⟩
  have HH := Lib.hid (h.below (below_alloc w (.cells #[.int .u8 0, .int .u8 0, .int .u8 0, .int .u8 0, .int .u8 0, .int .u8 0, .int .u8 0, .int .u8 0] 109)))
  clear h
  go_enter Tryz.func106, Tryz.ntmps106
  go_wp2_with fail
  refine (leaf_any _ l _ HH.out hn).mono ?_
  rintro e w1 ⟨rfl, hb⟩
  have z1 : hashOf w1 w.heap.size zero8 := hashOf_below (hashOf_zero' rfl) hb
  have B := Lib.hid ((below_alloc w (.cells #[.int .u8 0, .int .u8 0, .int .u8 0, .int .u8 0, .int .u8 0, .int .u8 0, .int .u8 0, .int .u8 0] 109)).trans (hb.mono (by simp)))
  clear hb
  go_wp2_with (first | (refine wpList_load8 rfl 109 _ rfl _ rfl _ Tryz.underlying109 info8 ?_ ?_ ?_; rotate_left; focus ((repeat (first | (with_reducible assumption) | ((with_reducible refine hashOf_zero' ?_); (first | rfl | (simp; done) | (simp; omega))) | ((with_reducible refine hashOf_at ?_); (first | rfl | (simp; done) | (simp; omega))) | (with_reducible exact hashOf_set' ⟨_, by assumption⟩ _) | ((with_reducible refine hashOf_set' (Is8_zero ?_) _); (first | rfl | (simp; done) | (simp; omega))) | (with_reducible refine hashOf_old ?_ _) | ((with_reducible refine hashOf_other ?_ _ ?_); rotate_left; (focus (first | (simp; done) | (simp; omega) | omega))) | (with_reducible refine hashOf_drew ?_) | (with_reducible refine hashOf_below ?_ (by assumption)))); done)) | (refine wpList_store8 rfl 109 _ _ rfl _ _ rfl rfl info8 ?_ ?_ ?_; rotate_left; focus ((repeat (first | (with_reducible assumption) | ((with_reducible refine hashOf_zero' ?_); (first | rfl | (simp; done) | (simp; omega))) | ((with_reducible refine hashOf_at ?_); (first | rfl | (simp; done) | (simp; omega))) | (with_reducible exact hashOf_set' ⟨_, by assumption⟩ _) | ((with_reducible refine hashOf_set' (Is8_zero ?_) _); (first | rfl | (simp; done) | (simp; omega))) | (with_reducible refine hashOf_old ?_ _) | ((with_reducible refine hashOf_other ?_ _ ?_); rotate_left; (focus (first | (simp; done) | (simp; omega) | omega))) | (with_reducible refine hashOf_drew ?_) | (with_reducible refine hashOf_below ?_ (by assumption)))); done)))
  refine ret8 w.heap.size (leafH l) rfl rfl _ Tryz.underlying109 info8 (hashOf_set z1 _) rfl ⟨rfl, below_setRow B.out (Nat.le_refl _) _⟩
set_option maxHeartbeats 1000000 in
theorem pleaf_any (s : ByteArray) (w : World) (hs : s.size ≤ 9223372036854775807) :
    Calls Tryz.prog 52 #[.string s] w fun e w' => e = .returned (.string (HS (leafH s.data.toList))) ∧ Below w.heap.size w w' := by
  go_enter Tryz.func52, Tryz.ntmps52
  go_wp2_with (first | (refine wpList_sb rfl 9 94 5 _ rfl Tryz.underlying9 Tryz.underlying94 Tryz.underlying5 rfl s rfl ?_; intro u w1 hu hb1 hw1 hv1; obtain ⟨b1, c1, rfl⟩ := hv1; have HU := Lib.hid hu; have HB1 := Lib.hid hb1; clear hu hb1 hw1))
  have hlen : s.data.toList.length = s.size := rfl
  refine (tleaf_any _ s.data.toList _ HU.out.at (by omega)).mono ?_
  rintro e w2 ⟨rfl, hb2⟩
  have b2 := HB1.out.trans (hb2.mono HB1.out.size)
  have k3 : Below w.heap.size w ((w2.alloc (.cells #[.int .u8 0, .int .u8 0, .int .u8 0, .int .u8 0, .int .u8 0, .int .u8 0, .int .u8 0, .int .u8 0] 109)).setRow w2.heap.size (h8 (leafH s.data.toList))) := below_setRow (b2.alloc b2.size _) b2.size _
  have k1 : hashOf ((w2.alloc (.cells #[.int .u8 0, .int .u8 0, .int .u8 0, .int .u8 0, .int .u8 0, .int .u8 0, .int .u8 0, .int .u8 0] 109)).setRow w2.heap.size (h8 (leafH s.data.toList))) w2.heap.size (leafH s.data.toList) := hashOf_set (hashOf_zero' rfl) _
  have K3 := Lib.hid k3
  clear k3 b2 hb2
  go_wp2_with (first | (refine wpList_load8 rfl 109 _ rfl _ rfl _ Tryz.underlying109 info8 ?_ ?_ ?_; rotate_left; focus ((repeat (first | (with_reducible assumption) | ((with_reducible refine hashOf_zero' ?_); (first | rfl | (simp; done) | (simp; omega))) | ((with_reducible refine hashOf_at ?_); (first | rfl | (simp; done) | (simp; omega))) | (with_reducible exact hashOf_set' ⟨_, by assumption⟩ _) | ((with_reducible refine hashOf_set' (Is8_zero ?_) _); (first | rfl | (simp; done) | (simp; omega))) | (with_reducible refine hashOf_old ?_ _) | ((with_reducible refine hashOf_other ?_ _ ?_); rotate_left; (focus (first | (simp; done) | (simp; omega) | omega))) | (with_reducible refine hashOf_drew ?_) | (with_reducible refine hashOf_below ?_ (by assumption)))); done)) | (refine wpList_store8 rfl 109 _ _ rfl _ _ rfl rfl info8 ?_ ?_ ?_; rotate_left; focus ((repeat (first | (with_reducible assumption) | ((with_reducible refine hashOf_zero' ?_); (first | rfl | (simp; done) | (simp; omega))) | ((with_reducible refine hashOf_at ?_); (first | rfl | (simp; done) | (simp; omega))) | (with_reducible exact hashOf_set' ⟨_, by assumption⟩ _) | ((with_reducible refine hashOf_set' (Is8_zero ?_) _); (first | rfl | (simp; done) | (simp; omega))) | (with_reducible refine hashOf_old ?_ _) | ((with_reducible refine hashOf_other ?_ _ ?_); rotate_left; (focus (first | (simp; done) | (simp; omega) | omega))) | (with_reducible refine hashOf_drew ?_) | (with_reducible refine hashOf_below ?_ (by assumption)))); done)) | (refine wpList_bs rfl 94 9 _ rfl _ Tryz.underlying94 Tryz.underlying5 Tryz.underlying9 _ ?_ rfl ?_ ?_; rotate_left; focus exact hashOf_bytes k1 8))
  go_ret
  exact ⟨rfl, K3.out⟩
end Go.Proofs.YtefccfakhgdfbabGreatDoor
end
