/-
  Words and laws for the walks: what a slice reads as, what a call owns, and laws for operations that make memory. Conditions: none of the program's text is used here but the numbers of its types.
  Frames: a call that writes in some blocks alone; a struct behind a pointer, field by field.
  plain.Disk: what a store's block holds; enter, find. Conditions: the block is a Disk's, its files a row of their own; the number of calls is far from the end of int.
-/
import Derived.Test.YtefccfakhgdfbabGreatDoorRows
import Derived.WalkKit
import Derived.WalkSpells
import Derived.WalkLawsBesides
import Derived.Lib.Hide
import Derived.BigFrame
import Derived.Deep.Draws
import Derived.Laws.ResultCell
import Derived.Lib.ConvBytes
import Derived.BigQuiet
set_option linter.unusedVariables false
set_option linter.unusedSimpArgs false
section
namespace Go.Proofs.YtefccfakhgdfbabGreatDoor
open Go.RowKit

theorem below_alloc (w : World) (o : Obj) : Below w.heap.size w (w.alloc o) := (Below.refl _ _).alloc (Nat.le_refl _) o
theorem below_drew (w : World) : Below w.heap.size w w.drew := (Below.refl _ _).drew
theorem below_drewN {B : Nat} {w w' : World} (h : Below B w w') (n : Nat) : Below B w (w'.drewN n) := ⟨h.os, h.tape, h.output, h.size, h.block⟩
theorem ret_bool {a b : Bool} (h : a = b) : Ending.returned (.bool a) = .returned (.bool b) := by rw [h]
theorem ret_val {a b : Value} (h : a = b) : Ending.returned a = .returned b := by rw [h]

/-- A byte as a value. -/
abbrev u8 (x : UInt8) : Value := .int .u8 x.toNat

/-- A slice that reads as 'n' elements, the cells 'xs'. -/
def Cells (w : World) (v : Value) (n : Nat) (xs : List Value) : Prop :=
  ∃ a c, v = .slice a n c ∧ n ≤ c ∧ ∀ j x, xs[j]? = some x → ∃ b off, a = some ⟨b, off, none⟩ ∧ w.cell? ⟨b, off + j, none⟩ = some x

theorem cell_lt {w : World} {a : Addr} {v : Value} (h : w.cell? a = some v) : a.block < w.heap.size := World.block_lt_of_cell? w a h

theorem Cells.below {w w' : World} {v : Value} {n : Nat} {xs : List Value} (h : Cells w v n xs) (hb : Below w.heap.size w w') : Cells w' v n xs := by
  obtain ⟨a, c, hv, hcap, hc⟩ := h
  refine ⟨a, c, hv, hcap, fun j x hx => ?_⟩
  obtain ⟨b, off, ha, hcell⟩ := hc j x hx
  exact ⟨b, off, ha, (hb.cell (p := ⟨b, off + j, none⟩) (cell_lt hcell)).trans hcell⟩

/-- A slice of bytes that reads as 'l'. -/
def BytesAt (w : World) (v : Value) (l : List UInt8) : Prop := Cells w v l.length (l.map u8)
/-- A slice of strings. -/
def StrsAt (w : World) (v : Value) (ss : List ByteArray) : Prop := Cells w v ss.length (ss.map Value.string)
/-- A slice of slices of bytes. -/
def BssAt (w : World) (v : Value) (ls : List (List UInt8)) : Prop :=
  ∃ vs : List Value, vs.length = ls.length ∧ Cells w v ls.length vs ∧ ∀ (j : Nat) (u : Value) (l : List UInt8), vs[j]? = some u → ls[j]? = some l → BytesAt w u l

theorem BytesAt.below {w w' : World} {v : Value} {l : List UInt8} (h : BytesAt w v l) (hb : Below w.heap.size w w') : BytesAt w' v l := Cells.below h hb
theorem StrsAt.below {w w' : World} {v : Value} {l : List ByteArray} (h : StrsAt w v l) (hb : Below w.heap.size w w') : StrsAt w' v l := Cells.below h hb
theorem BssAt.below {w w' : World} {v : Value} {l : List (List UInt8)} (h : BssAt w v l) (hb : Below w.heap.size w w') : BssAt w' v l := by
  obtain ⟨vs, hl, hc, hj⟩ := h
  exact ⟨vs, hl, hc.below hb, fun j u l h1 h2 => (hj j u l h1 h2).below hb⟩

/-- Bytes in memory of the call's own: writable, in a block of bytes from 'base' on; or nil. -/
def OwnBytes (w : World) (base : Nat) (v : Value) (l : List UInt8) : Prop :=
  (v = .slice none 0 0 ∧ l = []) ∨
  ∃ b off c C fz, v = .slice (some ⟨b, off, none⟩) l.length c ∧ l.length ≤ c ∧ base ≤ b ∧ w.heap[b]? = some (.cells C 5 fz) ∧ (∀ j x, l[j]? = some x → C[off + j]? = some (u8 x)) ∧ off + l.length ≤ C.size ∧ (fz = (0, 0) ∨ C.size ≤ fz.1)

theorem OwnBytes.at {w : World} {base : Nat} {v : Value} {l : List UInt8} (h : OwnBytes w base v l) : BytesAt w v l := by
  rcases h with ⟨rfl, rfl⟩ | ⟨b, off, c, C, fz, rfl, hcap, _, hb, hc, _, _⟩
  · exact ⟨none, 0, rfl, Nat.le_refl _, fun j x hx => by simp at hx⟩
  · refine ⟨_, c, rfl, hcap, fun j x hx => ⟨b, off, rfl, ?_⟩⟩
    rw [List.getElem?_map, Option.map_eq_some_iff] at hx
    obtain ⟨y, hy, rfl⟩ := hx
    simp [World.cell?, hb, hc j y hy]

theorem OwnBytes.mono {w : World} {base base' : Nat} {v : Value} {l : List UInt8} (h : OwnBytes w base v l) (hb : base' ≤ base) : OwnBytes w base' v l := by
  rcases h with h | ⟨b, off, c, C, fz, h1, h0, h2, h3⟩
  · exact .inl h
  · exact .inr ⟨b, off, c, C, fz, h1, h0, Nat.le_trans hb h2, h3⟩

theorem OwnBytes.same {w w' : World} {base : Nat} {v : Value} {l : List UInt8} (h : OwnBytes w base v l) (hs : ∀ (k : Nat) (C : Array Value) (fz : Nat × Nat), w.heap[k]? = some (Obj.cells C 5 fz) → w'.heap[k]? = w.heap[k]?) : OwnBytes w' base v l := by
  rcases h with h | ⟨b, off, c, C, fz, h1, h0, h2, h3, h4⟩
  · exact .inl h
  · exact .inr ⟨b, off, c, C, fz, h1, h0, h2, (hs b C fz h3).trans h3, h4⟩

theorem lt_of_heap {w : World} {k : Nat} {o : Obj} (h : w.heap[k]? = some o) : k < w.heap.size := (Array.getElem?_eq_some_iff.1 h).1

theorem OwnBytes.below {w w' : World} {base : Nat} {v : Value} {l : List UInt8} (h : OwnBytes w base v l) (hb : Below w.heap.size w w') : OwnBytes w' base v l :=
  h.same fun _ _ _ hk => hb.block _ (lt_of_heap hk)

theorem OwnBytes.one {w : World} {base : Nat} {v : Value} {l : List UInt8} (h : OwnBytes w base v l) : v.oneCell' = true := by
  rcases h with ⟨rfl, _⟩ | ⟨b, off, c, C, fz, rfl, _⟩ <;> rfl
theorem OwnBss.take_succ {ss : List ByteArray} {k : Nat} {s : ByteArray} (h : ss[k]? = some s) : (ss.take (k + 1)).map (·.data.toList) = (ss.take k).map (·.data.toList) ++ [s.data.toList] := by
  rw [List.take_add_one, h]; simp

/-- A row of slices of bytes, all in memory of the call's own. -/
def OwnBss (w : World) (base : Nat) (v : Value) (ls : List (List UInt8)) : Prop :=
  ∃ vs : List Value, w.ownsRow base 94 1 v ls.length vs ∧ ∀ (j : Nat) (u : Value) (l : List UInt8), vs[j]? = some u → ls[j]? = some l → OwnBytes w base u l

theorem ownsRow_cells {w : World} {base : Nat} {e : TypeId} {size : Nat} {v : Value} {n : Nat} {xs : List Value} (h : w.ownsRow base e size v n xs) : Cells w v n xs := by
  obtain ⟨h1, h2⟩ := h
  rcases h2 with ⟨rfl, rfl⟩ | ⟨g, cap, cur, rfl, hb, hg, hn, hc, hs, ht⟩
  · refine ⟨none, 0, rfl, Nat.le_refl _, fun j x hx => ?_⟩
    have : xs = [] := List.eq_nil_of_length_eq_zero (by simpa using h1)
    simp [this] at hx
  · refine ⟨_, cap, rfl, hn, fun j x hx => ⟨g, 0, rfl, ?_⟩⟩
    rw [← ht, List.getElem?_take] at hx
    split at hx
    · simpa [World.cell?, hg] using hx
    · cases hx

theorem OwnBss.at {w : World} {base : Nat} {v : Value} {ls : List (List UInt8)} (h : OwnBss w base v ls) : BssAt w v ls := by
  obtain ⟨vs, h1, h2⟩ := h
  exact ⟨vs, by simpa using h1.1, ownsRow_cells h1, fun j u l hu hl => (h2 j u l hu hl).at⟩

theorem ownsRow_below {w w' : World} {base : Nat} {e : TypeId} {size : Nat} {v : Value} {n : Nat} {xs : List Value} (h : w.ownsRow base e size v n xs) (hb : Below w.heap.size w w') : w'.ownsRow base e size v n xs := by
  obtain ⟨h1, h2⟩ := h
  refine ⟨h1, ?_⟩
  rcases h2 with h2 | ⟨g, cap, cur, hv, hg, hh, r⟩
  · exact .inl h2
  · exact .inr ⟨g, cap, cur, hv, hg, (hb.block g (lt_of_heap hh)).trans hh, r⟩

theorem ownsRow_mono {w : World} {base base' : Nat} {e : TypeId} {size : Nat} {v : Value} {n : Nat} {xs : List Value} (h : w.ownsRow base e size v n xs) (hb : base' ≤ base) : w.ownsRow base' e size v n xs := by
  obtain ⟨h1, h2⟩ := h
  refine ⟨h1, ?_⟩
  rcases h2 with h2 | ⟨g, cap, cur, hv, hg, r⟩
  · exact .inl h2
  · exact .inr ⟨g, cap, cur, hv, Nat.le_trans hb hg, r⟩

theorem OwnBss.below {w w' : World} {base : Nat} {v : Value} {ls : List (List UInt8)} (h : OwnBss w base v ls) (hb : Below w.heap.size w w') : OwnBss w' base v ls := by
  obtain ⟨vs, h1, h2⟩ := h
  exact ⟨vs, ownsRow_below h1 hb, fun j u l hu hl => (h2 j u l hu hl).below hb⟩

theorem OwnBss.mono {w : World} {base base' : Nat} {v : Value} {ls : List (List UInt8)} (h : OwnBss w base v ls) (hb : base' ≤ base) : OwnBss w base' v ls := by
  obtain ⟨vs, h1, h2⟩ := h
  exact ⟨vs, ownsRow_mono h1 hb, fun j u l hu hl => (h2 j u l hu hl).mono hb⟩

/-- An owned row's block holds cells of its element's type: a block of another type is another block. -/
theorem ownsRow_other {w w' : World} {base : Nat} {e e' : TypeId} {size : Nat} {v : Value} {n : Nat} {xs : List Value} (h : w.ownsRow base e size v n xs) (hg : w.grownBy w' v.ownBlock) (hne : e' ≠ e)
    {k : Nat} {C : Array Value} {fz : Nat × Nat} (hk : w.heap[k]? = some (.cells C e' fz)) : w'.heap[k]? = w.heap[k]? := by
  refine hg.block k (lt_of_heap hk) fun hc => ?_
  rcases h.2 with ⟨rfl, _⟩ | ⟨g, cap, cur, rfl, _, hh, _⟩
  · simp [Value.ownBlock] at hc
  · simp [Value.ownBlock] at hc
    subst hc
    rw [hk] at hh
    simp only [Option.some.injEq, Obj.cells.injEq] at hh
    exact hne hh.2.1

/-- '[]byte(s)': new bytes of the call's own. -/
theorem wpList_sb {P : Program} {ops : Array Oper} {rest : List Oper} {o : Oper} {a : Act} {Q : Exit → Act → World → Prop} {w : World} (hgd : o.guard = none) (src dst e : TypeId) (x : Operand)
    (ho : o.op = .convert src dst x) (hs : P.underlying src = some .string) (hd : P.underlying dst = some (.slice e)) (he : P.underlying e = some (.int .u8)) (hu : e = 5)
    (s : ByteArray) (hx : a.eval x = .string s)
    (h : ∀ v' w', OwnBytes w' w.heap.size v' s.data.toList → Below w.heap.size w w' → w'.heap.size = w.heap.size + 1 → (∃ b c, v' = .slice (some ⟨b, 0, none⟩) s.size c) → wpList P ops Q rest (a.put o.dst v') w') : wpList P ops Q (o :: rest) a w := by
  refine wpList_plain hgd fun K' hK' => ?_
  have hr := Lib.run_convert_string_bytes (P := P) w src dst e s hs hd he
  unfold Oper.wp execOp
  simp only [ho, hx, Sem.run_bind, Sem.run_pure, Result.andThen_ok, hr]
  refine hK' _ _ (h _ _ ?_ ?_ (Lib.bytesWorld_size w e s) ⟨_, _, rfl⟩)
  · subst hu
    refine .inr ⟨w.heap.size, 0, grownCap w s.size 0 5, Lib.bytesCells w 5 s, _, by simp, by have := grownCap_ge w s.size 0 5; simpa using this, Nat.le_refl _, Lib.bytesWorld_at_new w _ s, fun j y hy => ?_, ?_, .inr (Nat.le_refl _)⟩
    · have hj : j < s.size := by
        have := (List.getElem?_eq_some_iff.1 hy).1
        simpa using this
      have h2 : s.data[j]? = some y := by simpa using hy
      have h3 : s.data[j] = y := by rw [Array.getElem?_eq_getElem hj, Option.some.injEq] at h2; exact h2
      simp [Lib.bytesCells, Array.getElem?_append, hj, h3]
    · simp [Lib.bytesCells]
  · exact ⟨by simp [Lib.bytesWorld, World.freeze, World.alloc, World.drew, -World.alloc_eq, -World.drew_eq], by simp [Lib.bytesWorld, World.freeze, World.alloc, World.drew, -World.alloc_eq, -World.drew_eq], by simp [Lib.bytesWorld, World.freeze, World.alloc, World.drew, -World.alloc_eq, -World.drew_eq], by rw [Lib.bytesWorld_size]; omega, fun k hk => Lib.bytesWorld_at_old w e s k hk⟩

/-- A row of strings of the call's own. -/
def OwnStrs (w : World) (base : Nat) (v : Value) (ss : List ByteArray) : Prop := w.ownsRow base 9 1 v ss.length (ss.map Value.string)
theorem OwnStrs.at {w : World} {base : Nat} {v : Value} {ss : List ByteArray} (h : OwnStrs w base v ss) : StrsAt w v ss := ownsRow_cells h

/-! Arrays of eight bytes: hashes, each in a variable (a block) of its own. -/
abbrev Hsh := Vector UInt8 8
def lists (ss : List ByteArray) : List (List UInt8) := ss.map (·.data.toList)
structure Lg where
  key : ByteArray
  entries : List (List UInt8)
  levels : List (List Hsh)
  put : List Nat
  failed : Bool
def h8 (a : Hsh) : Array Value := a.toArray.map u8
def HV (a : Hsh) : Value := .agg (h8 a)
@[simp] theorem h8_size (a : Hsh) : (h8 a).size = 8 := by simp [h8]
/-- The hash that a block holds. -/
def hashOf (w : World) (g : Nat) (h : Hsh) : Prop := w.heap[g]? = some (.cells (h8 h) 109 (0, 0))
theorem h8_one (a : Hsh) : (h8 a).all (·.oneCell') = true := by simp only [h8, Array.all_map]; rw [Array.all_eq_true]; intro i hi; rfl
theorem heap_alloc_new' (w : World) (o : Obj) (g : Nat) (e : g = w.heap.size) : (w.alloc o).heap[g]? = some o := by subst e; exact heap_alloc_new w o
theorem hashOf_new (w : World) (h : Hsh) : hashOf (w.alloc (.cells (h8 h) 109)) w.heap.size h := heap_alloc_new w _
theorem hashOf_old {w : World} {g : Nat} {h : Hsh} (hh : hashOf w g h) (o : Obj) : hashOf (w.alloc o) g h := (heap_alloc_old w o (Array.getElem?_eq_some_iff.1 hh).1).trans hh
theorem hashOf_set {w : World} {g : Nat} {h : Hsh} (hh : hashOf w g h) (k : Hsh) : hashOf (w.setRow g (h8 k)) g k := setRow_heap w g _ _ _ _ hh
theorem hashOf_other {w : World} {g k : Nat} {h : Hsh} (hh : hashOf w g h) (cs : Array Value) (hne : g ≠ k) : hashOf (w.setRow k cs) g h := (setRow_other w k g cs hne).trans hh
theorem hashOf_below {w w' : World} {g : Nat} {h : Hsh} (hh : hashOf w g h) (hb : Below w.heap.size w w') : hashOf w' g h := (hb.block g (Array.getElem?_eq_some_iff.1 hh).1).trans hh
theorem hashOf_drew {w : World} {g : Nat} {h : Hsh} (hh : hashOf w g h) : hashOf w.drew g h := hh

section
variable {P : Program} {ops : Array Oper} {rest : List Oper} {o : Oper} {a : Act} {Q : Exit → Act → World → Prop} {w : World}
theorem wpList_load8 (hw : Region.wanted o (yielded ops a.tmps) = true) (ty : TypeId) (x : Operand) (ho : o.op = .load ty x) (g : Nat) (hx : a.eval x = .pointer (some ⟨g, 0, none⟩))
    (e : TypeId) (hu : P.underlying ty = some (.array 8 e)) (hi : (P.info? ty).map (·.size) = some 8) (h : Hsh) (hh : hashOf w g h)
    (hk : wpList P ops Q rest (a.put o.dst (.agg (h8 h))) w) : wpList P ops Q (o :: rest) a w :=
  BigFrame.wpList_want hw fun _ hK => wp_load_row ty x ho g hx _ (h8 h) _ _ hh hu rfl (by rw [hi, h8_size]) (hK _ _ hk)
theorem wpList_store8 (hw : Region.wanted o (yielded ops a.tmps) = true) (ty : TypeId) (x y : Operand) (ho : o.op = .store ty x y) (g : Nat) (k : Hsh) (hx : a.eval x = .pointer (some ⟨g, 0, none⟩)) (hy : a.eval y = .agg (h8 k))
    (hi : (P.info? ty).map (·.size) = some 8) (h : Hsh) (hh : hashOf w g h)
    (hk : wpList P ops Q rest (a.put o.dst undef) (w.setRow g (h8 k))) : wpList P ops Q (o :: rest) a w :=
  BigFrame.wpList_want hw fun _ hK => wp_store_row ty x y ho g (h8 k) hx hy _ _ hh (by rw [hi, h8_size]) (by simp) (h8_one k) (hK _ _ hk)
theorem step_load8 {K : Act → World → Prop} {E : Prop} (hw : Region.wanted o (yielded ops a.tmps) = true) (ty : TypeId) (x : Operand) (ho : o.op = .load ty x) (g : Nat) (hx : a.eval x = .pointer (some ⟨g, 0, none⟩))
    (e : TypeId) (hu : P.underlying ty = some (.array 8 e)) (hi : (P.info? ty).map (·.size) = some 8) (h : Hsh) (hh : hashOf w g h)
    (hk : K (a.put o.dst (.agg (h8 h))) w) : if Region.wanted o (yielded ops a.tmps) = true then Oper.wp P o a w K Q else E := by
  rw [if_pos hw]
  exact wp_load_row ty x ho g hx _ (h8 h) _ _ hh hu rfl (by rw [hi, h8_size]) hk
theorem step_store8 {K : Act → World → Prop} {E : Prop} (hw : Region.wanted o (yielded ops a.tmps) = true) (ty : TypeId) (x y : Operand) (ho : o.op = .store ty x y) (g : Nat) (k : Hsh) (hx : a.eval x = .pointer (some ⟨g, 0, none⟩)) (hy : a.eval y = .agg (h8 k))
    (hi : (P.info? ty).map (·.size) = some 8) (h : Hsh) (hh : hashOf w g h)
    (hk : K (a.put o.dst undef) (w.setRow g (h8 k))) : if Region.wanted o (yielded ops a.tmps) = true then Oper.wp P o a w K Q else E := by
  rw [if_pos hw]
  exact wp_store_row ty x y ho g (h8 k) hx hy _ _ hh (by rw [hi, h8_size]) (by simp) (h8_one k) hk
end
/-- The end of a function whose one result is a hash, in a variable of its own. -/
theorem ret8 {P : Program} {fn : Func} {R : Ending → World → Prop} {a : Act} {w : World} {p : Tmp} {ty : TypeId} (g : Nat) (k : Hsh) (h : fn.results = #[.cell p ty]) (hx : a.tmps.getD p undef = .pointer (some ⟨g, 0, none⟩))
    (e : TypeId) (hu : P.underlying ty = some (.array 8 e)) (hi : (P.info? ty).map (·.size) = some 8) (hh : hashOf w g k) (hd : a.defers = []) (hR : R (.returned (.agg (h8 k))) w) : bodyPost P fn R .ret a w :=
  bodyPost_ret (results_cell_row h a.tmps w g _ (h8 k) _ _ hx hh hu rfl (by rw [hi, h8_size])) hd hR
/-- Two results: a hash in a variable of its own, and a value in a slot. -/
theorem ret8t {P : Program} {fn : Func} {R : Ending → World → Prop} {a : Act} {w : World} {p q : Tmp} {ty : TypeId} (g : Nat) (k : Hsh) (x : Value) (h : fn.results = #[.cell p ty, .tmp q]) (hx : a.tmps.getD p undef = .pointer (some ⟨g, 0, none⟩)) (hq : a.tmps.getD q undef = x)
    (e : TypeId) (hu : P.underlying ty = some (.array 8 e)) (hi : (P.info? ty).map (·.size) = some 8) (hh : hashOf w g k) (hd : a.defers = []) (hR : R (.returned (.tuple #[.agg (h8 k), x])) w) : bodyPost P fn R .ret a w := by
  refine bodyPost_ret (v := .tuple #[.agg (h8 k), x]) ?_ hd hR
  rw [results_cell_tmp h]
  have hl := run_loadVar_row (P := P) w g _ ty (h8 k) _ _ hh hu rfl (by rw [hi, h8_size])
  simp [hx, hq, asAddr, hl] at *
/-- Three results: two hashes in variables of their own, and a value in a slot. -/
theorem ret88t {P : Program} {fn : Func} {R : Ending → World → Prop} {a : Act} {w : World} {p p' q : Tmp} {ty : TypeId} (g g' : Nat) (k k' : Hsh) (x : Value) (h : fn.results = #[.cell p ty, .cell p' ty, .tmp q])
    (hx : a.tmps.getD p undef = .pointer (some ⟨g, 0, none⟩)) (hx' : a.tmps.getD p' undef = .pointer (some ⟨g', 0, none⟩)) (hq : a.tmps.getD q undef = x)
    (e : TypeId) (hu : P.underlying ty = some (.array 8 e)) (hi : (P.info? ty).map (·.size) = some 8) (hh : hashOf w g k) (hh' : hashOf w g' k') (hd : a.defers = []) (hR : R (.returned (.tuple #[.agg (h8 k), .agg (h8 k'), x])) w) : bodyPost P fn R .ret a w := by
  refine bodyPost_ret (v := .tuple #[.agg (h8 k), .agg (h8 k'), x]) ?_ hd hR
  have hl := run_loadVar_row (P := P) w g _ ty (h8 k) _ _ hh hu rfl (by rw [hi, h8_size])
  have hl' := run_loadVar_row (P := P) w g' _ ty (h8 k') _ _ hh' hu rfl (by rw [hi, h8_size])
  simp only [results, h]
  simp only [Array.getD_eq_getD_getElem?] at hx hx' hq
  simp [hx, hx', hq, asAddr, hl, hl']
def zero8 : Hsh := #v[0, 0, 0, 0, 0, 0, 0, 0]
theorem h8_zero : h8 zero8 = #[.int .u8 0, .int .u8 0, .int .u8 0, .int .u8 0, .int .u8 0, .int .u8 0, .int .u8 0, .int .u8 0] := by simp [h8, zero8]
theorem hashOf_zero (w : World) : hashOf (w.alloc (.cells #[.int .u8 0, .int .u8 0, .int .u8 0, .int .u8 0, .int .u8 0, .int .u8 0, .int .u8 0, .int .u8 0] 109)) w.heap.size zero8 := by rw [← h8_zero]; exact hashOf_new w zero8
theorem hashOf_zero' {w : World} {g : Nat} (e : g = w.heap.size) : hashOf (w.alloc (.cells #[.int .u8 0, .int .u8 0, .int .u8 0, .int .u8 0, .int .u8 0, .int .u8 0, .int .u8 0, .int .u8 0] 109)) g zero8 := by subst e; exact hashOf_zero w

/-- 'string(b)': the bytes that b reads as. -/
theorem wpList_bs {P : Program} {ops : Array Oper} {rest : List Oper} {o : Oper} {a : Act} {Q : Exit → Act → World → Prop} {w : World} (hw : Region.wanted o (yielded ops a.tmps) = true) (src dst : TypeId) (x : Operand)
    (ho : o.op = .convert src dst x) (e : TypeId) (hs : P.underlying src = some (.slice e)) (he : P.underlying e = some (.int .u8)) (hd : P.underlying dst = some .string)
    (v : Value) (l : List UInt8) (hx : a.eval x = v) (hb : BytesAt w v l)
    (h : wpList P ops Q rest (a.put o.dst (.string ⟨l.toArray⟩)) w) : wpList P ops Q (o :: rest) a w := by
  refine BigFrame.wpList_want hw fun K' hK' => ?_
  obtain ⟨ad, c, rfl, _, hc⟩ := hb
  have hr : (convert src dst (.slice ad l.length c)).run P w = .ok (.string ⟨l.toArray⟩) w := by
    cases l with
    | nil =>
      rw [run_convert_bytes_string w src dst e ad _ c hs he hd]
      cases ad <;> simp [Conv.bytesToString, loadCells, loadCellsFrom] <;> rfl
    | cons x l =>
      obtain ⟨b, off, rfl, _⟩ := hc 0 (u8 x) (by simp)
      refine run_convert_bytes_back w src dst e ⟨b, off, none⟩ c (x :: l) hs he hd fun j hj => ?_
      obtain ⟨b', off', heq, hcell⟩ := hc j (u8 (x :: l)[j]) (by rw [List.getElem?_map, List.getElem?_eq_getElem hj]; rfl)
      cases heq
      rw [Addr.add_lit]
      exact hcell
  unfold Oper.wp execOp
  simp only [ho, hx, Sem.run_bind, Sem.run_pure, Result.andThen_ok, hr]
  exact hK' _ _ h
/-- A block that holds a hash, whichever: what a store of a hash asks. -/
def Is8 (w : World) (g : Nat) : Prop := ∃ h, hashOf w g h
theorem Is8_zero {w : World} {g : Nat} (h : g = w.heap.size) : Is8 (w.alloc (.cells #[.int .u8 0, .int .u8 0, .int .u8 0, .int .u8 0, .int .u8 0, .int .u8 0, .int .u8 0, .int .u8 0] 109)) g := ⟨zero8, hashOf_zero' h⟩
theorem hashOf_set' {w : World} {g : Nat} (h : Is8 w g) (k : Hsh) : hashOf (w.setRow g (h8 k)) g k := by obtain ⟨_, hh⟩ := h; exact hashOf_set hh k

theorem grownBy_trans {a b c : World} {row : Option Nat} (h : a.grownBy b row) (k : b.grownBy c row) : a.grownBy c row :=
  ⟨k.os.trans h.os, k.tape.trans h.tape, k.output.trans h.output, Nat.le_trans h.size k.size, fun i hi hr => (k.block i (Nat.lt_of_lt_of_le hi h.size) hr).trans (h.block i hi hr)⟩
theorem grownBy_of_below {a b : World} (h : Below a.heap.size a b) (row : Option Nat) : a.grownBy b row := ⟨h.os, h.tape, h.output, h.size, fun k hk _ => h.block k hk⟩

/-- 's = append(s, u)' of one element of one cell, onto a row of the call's own: the element lies in a new block. -/
theorem wpList_app1 {P : Program} {ops : Array Oper} {rest : List Oper} {o : Oper} {a : Act} {Q : Exit → Act → World → Prop} {w : World} (hgd : o.guard = none) (s x : Operand) (t : TypeId)
    (ho : o.op = .call { callee := .builtin .append, args := #[s, x], argTypes := #[t, t] })
    (base : Nat) (e : TypeId) (i : TypeInfo) (z : Value) (bytes : Nat) (ht : P.underlying t = some (.slice e)) (hi : P.info? e = some i) (hz : i.zero = some z)
    (hsize : i.size = 1) (hby : i.bytes = bytes) (hzs : z.cells.size = 1) (hbb : bytes ≤ 64)
    (v : Value) (n : Nat) (xs : List Value) (hs : a.eval s = v) (hown : w.ownsRow base e 1 v n xs) (u : Value)
    (hx : a.eval x = .slice (some ⟨w.heap.size, 0, none⟩) 1 1) (h1 : u.oneCell' = true)
    (hn : n ≤ 1099511627776) (hbase : base ≤ w.heap.size)
    (h : ∀ v' w', w'.ownsRow base e 1 v' (n + 1) (xs ++ [u]) → w.grownBy w' v.ownBlock → (v' ≠ .slice none 0 0) → wpList P ops Q rest (a.put o.dst v') w') :
    wpList P ops Q (o :: rest) a (w.alloc (.cells #[u] e)) := by
  refine wpList_append_own _ hgd s x t ho base e i z 1 bytes ht hi hz hsize hby hzs (by decide) v n xs hs (hown.alloc _) ⟨w.heap.size, 0, none⟩ 1 1 [u] hx rfl (cell_one_new _ _ _) (by simpa using h1) (by unfold maxLen; omega) ?_ (by simp; omega) fun v' w' h2 h3 h4 => ?_
  · refine Nat.le_trans (Nat.mul_le_mul_left _ hbb) ?_
    omega
  · exact h v' w' h2 (grownBy_trans (World.grownBy_alloc w _ _) h3) (by simp [h4])

theorem wpList_app8 {P : Program} {ops : Array Oper} {rest : List Oper} {o : Oper} {a : Act} {Q : Exit → Act → World → Prop} {w : World} (hgd : o.guard = none) (s x : Operand) (t : TypeId)
    (ho : o.op = .call { callee := .builtin .append, args := #[s, x], argTypes := #[t, t] })
    (base : Nat) (i : TypeInfo) (ht : P.underlying t = some (.slice 109)) (hi : P.info? 109 = some i) (hz : i.zero = some (.agg (h8 zero8)))
    (hsize : i.size = 8) (hby : i.bytes = 8)
    (v : Value) (hs : List Hsh) (hsv : a.eval s = v) (hown : w.ownsRow base 109 8 v hs.length (hs.flatMap fun h => (h8 h).toList)) (h : Hsh)
    (hx : a.eval x = .slice (some ⟨w.heap.size, 0, none⟩) 1 1)
    (hn : hs.length ≤ 1099511627776) (hbase : base ≤ w.heap.size)
    (hk : ∀ v' w', w'.ownsRow base 109 8 v' (hs ++ [h]).length ((hs ++ [h]).flatMap fun h => (h8 h).toList) → w.grownBy w' v.ownBlock → (v' ≠ .slice none 0 0) → wpList P ops Q rest (a.put o.dst v') w') :
    wpList P ops Q (o :: rest) a (w.alloc (.cells (h8 h) 109)) := by
  refine wpList_append_own _ hgd s x t ho base 109 i _ 8 8 ht hi hz hsize hby (by simp [Value.cells]) (by decide) v _ _ hsv (hown.alloc _) ⟨w.heap.size, 0, none⟩ 1 1 (h8 h).toList hx (by simp) (fun j u hu => ?_) (fun u hu => ?_) (by unfold maxLen; omega) (by omega) (by simp; omega) fun v' w' h2 h3 h4 => ?_
  · rw [Addr.add_lit, World.cell?_alloc_at _ _ _ _ rfl]
    simpa using hu
  · have := h8_one h
    rw [Array.all_eq_true'] at this
    exact this u (by simpa using hu)
  · exact hk v' w' (by simpa using h2) (grownBy_trans (World.grownBy_alloc w _ _) h3) (by simp [h4])

theorem OwnBss.grow {w w' : World} {base : Nat} {v v' u : Value} {ls : List (List UInt8)} {l : List UInt8} {vs : List Value} (h : w.ownsRow base 94 1 v ls.length vs)
    (hj : ∀ (j : Nat) (u : Value) (l : List UInt8), vs[j]? = some u → ls[j]? = some l → OwnBytes w base u l) (hu : OwnBytes w base u l)
    (h' : w'.ownsRow base 94 1 v' (ls.length + 1) (vs ++ [u])) (hg : w.grownBy w' v.ownBlock) : OwnBss w' base v' (ls ++ [l]) := by
  have hlen : vs.length = ls.length := by simpa using h.1
  have hs : ∀ (k : Nat) (C : Array Value) (fz : Nat × Nat), w.heap[k]? = some (Obj.cells C 5 fz) → w'.heap[k]? = w.heap[k]? := fun k C fz hk => ownsRow_other h hg (by decide) hk
  refine ⟨vs ++ [u], by simpa using h', fun j u' l' hu' hl' => ?_⟩
  by_cases hlt : j < vs.length
  · rw [List.getElem?_append_left hlt] at hu'
    rw [List.getElem?_append_left (by omega)] at hl'
    exact (hj j u' l' hu' hl').same hs
  · rw [List.getElem?_append_right (by omega)] at hu' hl'
    by_cases hz : j - vs.length = 0
    · have hz' : j - ls.length = 0 := by omega
      simp [hz] at hu'
      simp [hz'] at hl'
      subst hu' hl'
      exact hu.same hs
    · simp [List.getElem?_eq_none (show [u].length ≤ j - vs.length by simp; omega)] at hu'
end Go.Proofs.YtefccfakhgdfbabGreatDoor
end

section
namespace Go.Proofs.YtefccfakhgdfbabGreatDoor
open Go.RowKit
/-- Of what was there nothing has turned but in the blocks of S. -/
structure Fr (S : Nat → Prop) (w w' : World) : Prop where
  os : w'.os = w.os
  tape : w'.tape = w.tape
  output : w'.output = w.output
  size : w.heap.size ≤ w'.heap.size
  block : ∀ k, k < w.heap.size → ¬ S k → w'.heap[k]? = w.heap[k]?
theorem Fr.refl (S : Nat → Prop) (w : World) : Fr S w w := ⟨rfl, rfl, rfl, Nat.le_refl _, fun _ _ _ => rfl⟩
theorem Fr.trans {S : Nat → Prop} {a b c : World} (h : Fr S a b) (k : Fr S b c) : Fr S a c :=
  ⟨k.os.trans h.os, k.tape.trans h.tape, k.output.trans h.output, Nat.le_trans h.size k.size, fun i hi hs => (k.block i (Nat.lt_of_lt_of_le hi h.size) hs).trans (h.block i hi hs)⟩
/-- What is let turned, turned only where it was there: blocks that are new to w need not stand in S. -/
theorem Fr.weak {S T : Nat → Prop} {w w' : World} (h : Fr S w w') (hST : ∀ k, k < w.heap.size → S k → T k) : Fr T w w' :=
  ⟨h.os, h.tape, h.output, h.size, fun k hk ht => h.block k hk fun hs => ht (hST k hk hs)⟩
/-- A later stretch may also write in what the first has laid. -/
theorem Fr.step {S T : Nat → Prop} {a b c : World} (h : Fr S a b) (k : Fr T b c) (hT : ∀ i, i < a.heap.size → T i → S i) : Fr S a c :=
  ⟨k.os.trans h.os, k.tape.trans h.tape, k.output.trans h.output, Nat.le_trans h.size k.size, fun i hi hs => (k.block i (Nat.lt_of_lt_of_le hi h.size) fun ht => hs (hT i hi ht)).trans (h.block i hi hs)⟩
theorem Fr.ofBelow {S : Nat → Prop} {w w' : World} (h : Below w.heap.size w w') : Fr S w w' := ⟨h.os, h.tape, h.output, h.size, fun k hk _ => h.block k hk⟩
theorem Fr.ofGrown {S : Nat → Prop} {w w' : World} {r : Option Nat} (h : w.grownBy w' r) (hr : ∀ k, k < w.heap.size → r = some k → S k) : Fr S w w' :=
  ⟨h.os, h.tape, h.output, h.size, fun k hk hs => h.block k hk fun e => hs (hr k hk e.symm)⟩
theorem Fr.below {w w' : World} {S : Nat → Prop} (h : Fr S w w') {B : Nat} (hB : B ≤ w.heap.size) (hS : ∀ k, k < B → ¬ S k) : Below B w w' := ⟨h.os, h.tape, h.output, h.size, fun k hk => h.block k (by omega) (hS k hk)⟩
theorem Fr.cell {S : Nat → Prop} {w w' : World} (h : Fr S w w') {p : Addr} {v : Value} (hv : w.cell? p = some v) (hs : ¬ S p.block) : w'.cell? p = some v :=
  (World.cell?_of_block (w := w) (h.block p.block (cell_lt hv) hs)).trans hv
theorem Fr.frozen {S : Nat → Prop} {w w' : World} (h : Fr S w w') {p : Addr} (hb : p.block < w.heap.size) (hs : ¬ S p.block) : w'.frozen? p = w.frozen? p := World.frozen?_of_block (w := w) (h.block p.block hb hs)
theorem Fr.heap {S : Nat → Prop} {w w' : World} (h : Fr S w w') {k : Nat} {o : Obj} (hv : w.heap[k]? = some o) (hs : ¬ S k) : w'.heap[k]? = some o := (h.block k (lt_of_heap hv) hs).trans hv
theorem Fr.setCell1 (w : World) (p : Addr) (u : Value) : Fr (· = p.block) w (w.setCell p u) :=
  ⟨rfl, rfl, rfl, by simp [World.setCell], fun _ _ hs => Below.heap_setCell _ _ _ _ hs⟩
theorem Fr.setCell {S : Nat → Prop} {a w : World} (h : Fr S a w) {p : Addr} (hp : p.block < a.heap.size → S p.block) (u : Value) : Fr S a (w.setCell p u) :=
  h.step (Fr.setCell1 w p u) fun i hi e => by subst e; exact hp hi
theorem Fr.alloc {S : Nat → Prop} {a w : World} (h : Fr S a w) (o : Obj) : Fr S a (w.alloc o) := h.trans (Fr.ofBelow (below_alloc w o))
theorem Fr.drew {S : Nat → Prop} {a w : World} (h : Fr S a w) : Fr S a w.drew := h.trans (Fr.ofBelow (below_drew w))
theorem Fr.drewN {S : Nat → Prop} {a w : World} (h : Fr S a w) (n : Nat) : Fr S a (w.drewN n) := ⟨h.os, h.tape, h.output, h.size, h.block⟩
/-- A store into a block, as the block's new cells. -/
theorem heap_setCell {w : World} {g i : Nat} {cs : Array Value} {t : TypeId} {fz : Nat × Nat} (h : w.heap[g]? = some (.cells cs t fz)) (u : Value) :
    (w.setCell ⟨g, i, none⟩ u).heap[g]? = some (.cells (cs.setIfInBounds i u) t fz) := by
  simp [World.setCell, Array.getElem?_modify, h]
theorem heap_setCell' {w : World} {p : Addr} {g : Nat} {o : Obj} (h : w.heap[g]? = some o) (hne : g ≠ p.block) (u : Value) : (w.setCell p u).heap[g]? = some o :=
  (Below.heap_setCell _ _ _ _ hne).trans h
theorem heap_alloc' {w : World} {g : Nat} {x : Obj} (h : w.heap[g]? = some x) (o : Obj) : (w.alloc o).heap[g]? = some x := (heap_alloc_old _ _ (lt_of_heap h)).trans h
theorem heap_drew' {w : World} {g : Nat} {x : Obj} (h : w.heap[g]? = some x) : w.drew.heap[g]? = some x := h
theorem cell_heap {w : World} {g : Nat} {cs : Array Value} {t : TypeId} (h : w.heap[g]? = some (.cells cs t (0, 0))) (i : Nat) {u : Value} (hu : cs[i]? = some u) : w.cell? ⟨g, i, none⟩ = some u := by
  rw [cell_of_row w g i cs t (0, 0) h, hu]
theorem frozen_heap {w : World} {g : Nat} {cs : Array Value} {t : TypeId} (h : w.heap[g]? = some (.cells cs t (0, 0))) (i : Nat) : w.frozen? ⟨g, i, none⟩ = false := by
  simp [World.frozen?, h]
theorem Fr.set1 (w : World) (g i : Nat) (u : Value) : Fr (· = g) w (w.setCell ⟨g, i, none⟩ u) := Fr.setCell1 w ⟨g, i, none⟩ u
theorem Fr.set {g : Nat} {a w : World} (h : Fr (· = g) a w) (i : Nat) (u : Value) : Fr (· = g) a (w.setCell ⟨g, i, none⟩ u) := h.trans (Fr.set1 w g i u)
end Go.Proofs.YtefccfakhgdfbabGreatDoor
end

section
namespace Go.Proofs.YtefccfakhgdfbabGreatDoor
open Go.RowKit
/-- A store, as data: the files (path, data), the calls so far, the call that fails, the marks. -/
structure Dk where
  files : List (ByteArray × ByteArray)
  calls : Nat
  failAt : Int
  dead : Bool
  once : Bool
  half : Bool
  hit : Bool
  turned : Bool
def fileCells (f : ByteArray × ByteArray) : List Value := [.string f.1, .string f.2]
def fileRow (l : List (ByteArray × ByteArray)) : List Value := l.flatMap fileCells
def dkCells (v : Value) (d : Dk) : Array Value := #[v, .int .i64 d.calls, .int .i64 d.failAt, .bool d.dead, .bool d.once, .bool d.half, .bool d.hit, .bool d.turned]
def DiskAt (w : World) (g : Nat) (v : Value) (d : Dk) : Prop :=
  w.heap[g]? = some (.cells (dkCells v d) 41 (0, 0)) ∧ w.ownsRow 0 73 2 v d.files.length (fileRow d.files)
/-- The blocks of a store. -/
def dkS (g : Nat) (v : Value) (k : Nat) : Prop := k = g ∨ v.ownBlock = some k
theorem fileRow_length (l : List (ByteArray × ByteArray)) : (fileRow l).length = l.length * 2 := by
  induction l with
  | nil => rfl
  | cons a l ih => simp only [fileRow, List.flatMap_cons, List.length_append, List.length_cons] at ih ⊢; rw [ih]; simp [fileCells]; omega
theorem fileRow_at : ∀ (l : List (ByteArray × ByteArray)) (j : Nat) (f : ByteArray × ByteArray), l[j]? = some f → (fileRow l)[j * 2]? = some (.string f.1) ∧ (fileRow l)[j * 2 + 1]? = some (.string f.2)
  | [], j, f, h => by simp at h
  | a :: l, 0, f, h => by simp at h; subst h; exact ⟨rfl, rfl⟩
  | a :: l, j + 1, f, h => by
      have := fileRow_at l j f (by simpa using h)
      have e : (fileRow (a :: l)) = .string a.1 :: .string a.2 :: fileRow l := rfl
      rw [e, show (j + 1) * 2 = j * 2 + 1 + 1 by omega]
      simpa using this
theorem DiskAt.parts {w : World} {g : Nat} {v : Value} {d : Dk} (h : DiskAt w g v d) : v.ownBlock ≠ some g := by
  intro e
  rcases h.2.2 with ⟨rfl, _⟩ | ⟨b, cap, cur, rfl, _, hb, _⟩
  · simp [Value.ownBlock] at e
  · simp [Value.ownBlock] at e
    subst e
    have := h.1
    rw [hb] at this
    simp at this
theorem DiskAt.lt {w : World} {g : Nat} {v : Value} {d : Dk} (h : DiskAt w g v d) : g < w.heap.size := lt_of_heap h.1
theorem DiskAt.below {w w' : World} {g : Nat} {v : Value} {d : Dk} (h : DiskAt w g v d) (hb : Below w.heap.size w w') : DiskAt w' g v d :=
  ⟨(hb.block g h.lt).trans h.1, ownsRow_below h.2 hb⟩
theorem DiskAt.fr {S : Nat → Prop} {w w' : World} {g : Nat} {v : Value} {d : Dk} (h : DiskAt w g v d) (hf : Fr S w w') (hS : ∀ k, dkS g v k → ¬ S k) : DiskAt w' g v d := by
  refine ⟨hf.heap h.1 (hS g (.inl rfl)), h.2.1, ?_⟩
  rcases h.2.2 with hn | ⟨b, cap, cur, rfl, hbb, hb, hr⟩
  · exact .inl hn
  · exact .inr ⟨b, cap, cur, rfl, hbb, hf.heap hb (hS b (.inr rfl)), hr⟩
/-- The cells of the store's block, and that they may be written. -/
theorem DiskAt.cells {w : World} {g : Nat} {v : Value} {d : Dk} (h : DiskAt w g v d) :
    (w.cell? ⟨g, 0, none⟩ = some v ∧ w.cell? ⟨g, 1, none⟩ = some (.int .i64 d.calls) ∧ w.cell? ⟨g, 2, none⟩ = some (.int .i64 d.failAt) ∧ w.cell? ⟨g, 3, none⟩ = some (.bool d.dead) ∧ w.cell? ⟨g, 4, none⟩ = some (.bool d.once) ∧
      w.cell? ⟨g, 5, none⟩ = some (.bool d.half) ∧ w.cell? ⟨g, 6, none⟩ = some (.bool d.hit) ∧ w.cell? ⟨g, 7, none⟩ = some (.bool d.turned)) ∧ ∀ i, w.frozen? ⟨g, i, none⟩ = false :=
  ⟨⟨cell_heap h.1 0 rfl, cell_heap h.1 1 rfl, cell_heap h.1 2 rfl, cell_heap h.1 3 rfl, cell_heap h.1 4 rfl, cell_heap h.1 5 rfl, cell_heap h.1 6 rfl, cell_heap h.1 7 rfl⟩, fun i => frozen_heap h.1 i⟩
def enterHit (d : Dk) : Bool := !d.dead && (decide (0 < d.failAt) && decide ((d.calls : Int) + 1 = d.failAt))
def enterD (d : Dk) : Dk := if enterHit d = true then { d with calls := d.calls + 1, dead := !d.once, hit := true } else { d with calls := d.calls + 1 }
def enterK (d : Dk) : Nat := if d.dead = true then 2 else if enterHit d = true then (if d.half = true then 1 else 2) else 0
theorem ownsRow_fr {S : Nat → Prop} {w w' : World} {base : Nat} {e : TypeId} {size : Nat} {v : Value} {n : Nat} {xs : List Value} (h : w.ownsRow base e size v n xs) (hf : Fr S w w') (hS : ∀ k, v.ownBlock = some k → ¬ S k) : w'.ownsRow base e size v n xs := by
  refine ⟨h.1, ?_⟩
  rcases h.2 with hn | ⟨b, cap, cur, rfl, hbb, hb, hr⟩
  · exact .inl hn
  · exact .inr ⟨b, cap, cur, rfl, hbb, hf.heap hb (hS b rfl), hr⟩
/-- Behind stores into the store's own block. -/
theorem DiskAt.set {w w' : World} {g : Nat} {v : Value} {d d' : Dk} (h : DiskAt w g v d) (hf : Fr (· = g) w w') (hc : w'.heap[g]? = some (.cells (dkCells v d') 41 (0, 0))) (hfl : d'.files = d.files) : DiskAt w' g v d' := by
  refine ⟨hc, ?_⟩
  rw [hfl]
  exact ownsRow_fr h.2 hf fun k hk e => h.parts (by rw [hk, e])
theorem enterK_dead {d : Dk} (h : d.dead = true) : enterK d = 2 := by simp [enterK, h]
set_option maxRecDepth 100000 in
set_option maxHeartbeats 1000000 in
theorem enter_any (w : World) (g : Nat) (v : Value) (d : Dk) (h : DiskAt w g v d) (hc : d.calls < 1099511627776) :
    Calls Tryz.prog 252 #[.pointer (some ⟨g, 0, none⟩)] w fun e w' => e = .returned (.int .i64 (enterK d)) ∧ DiskAt w' g v (enterD d) ∧ Fr (· = g) w w' := by
  obtain ⟨⟨c0, c1, c2, c3, c4, c5, c6, c7⟩, f0⟩ := h.cells
  have HH := Lib.hid h
  have hw : wrap64 ((d.calls : Int) + 1) = (d.calls : Int) + 1 := by unfold wrap64; omega
  clear h
  have F1 := Fr.setCell1 w ⟨g, 1, none⟩ (.int .i64 ((d.calls : Int) + 1))
  have H1 := heap_setCell (i := 1) HH.out.1 (.int .i64 ((d.calls : Int) + 1))
  have HF := Lib.hid F1
  have HH1 := Lib.hid H1
  clear F1 H1
  cases hdead : d.dead with
  | true =>
    rw [hdead] at c3
    have HD := Lib.hid hdead
    clear hdead
    go_enter Tryz.func252, Tryz.ntmps252
    go_wp2
    go_ret
    exact ⟨ret_val (by rw [enterK_dead HD.out]; rfl), HH.out.set HF.out (HH1.out.trans (by simp [dkCells, enterD, enterHit, HD.out])) (by simp [enterD, enterHit, HD.out]), HF.out⟩
  | false =>
    rw [hdead] at c3
    have HD := Lib.hid hdead
    clear hdead
    cases hgt : decide (0 < d.failAt) with
    | true =>
      cases heq : ((d.calls : Int) + 1 == d.failAt) with
      | false =>
        have hb : enterHit d = false := by simp [enterHit, HD.out]; intro _; simpa using heq
        have HFin := Lib.hid (show enterK d = 0 ∧ DiskAt (w.setCell ⟨g, 1, none⟩ (.int .i64 ((d.calls : Int) + 1))) g v (enterD d) from
          ⟨by simp [enterK, HD.out, hb], HH.out.set HF.out (HH1.out.trans (by simp [dkCells, enterD, hb])) (by simp [enterD, hb])⟩)
        clear hb
        go_enter Tryz.func252, Tryz.ntmps252
        go_wp2
        go_quiet (fail)
        go_wp2
        go_ret
        exact ⟨ret_val (by rw [HFin.out.1]; rfl), HFin.out.2, HF.out.drewN _⟩
      | true =>
        have hb : enterHit d = true := by
          have h1 := of_decide_eq_true hgt
          have h2 : (d.calls : Int) + 1 = d.failAt := by simpa using heq
          simp [enterHit, HD.out, h1, h2]
        have F2 := ((Fr.setCell1 w ⟨g, 1, none⟩ (.int .i64 ((d.calls : Int) + 1))).setCell (p := ⟨g, 3, none⟩) (fun _ => rfl) (.bool (!d.once))).setCell (p := ⟨g, 6, none⟩) (fun _ => rfl) (.bool true)
        have H2 := heap_setCell (i := 6) (heap_setCell (i := 3) HH1.out (.bool (!d.once))) (.bool true)
        have HF2 := Lib.hid F2
        have HH2 := Lib.hid H2
        clear F2 H2
        cases hhalf : d.half with
        | false =>
          rw [hhalf] at c5
          have HFin := Lib.hid (show enterK d = 2 ∧ DiskAt (((w.setCell ⟨g, 1, none⟩ (.int .i64 ((d.calls : Int) + 1))).setCell ⟨g, 3, none⟩ (.bool (!d.once))).setCell ⟨g, 6, none⟩ (.bool true)) g v (enterD d) from
            ⟨by simp [enterK, HD.out, hb, hhalf], HH.out.set HF2.out (HH2.out.trans (by simp [dkCells, enterD, hb])) (by simp [enterD, hb])⟩)
          clear hb hhalf
          go_enter Tryz.func252, Tryz.ntmps252
          go_wp2
          go_quiet (fail)
          go_wp2
          go_ret
          exact ⟨ret_val (by rw [HFin.out.1]; rfl), HFin.out.2, HF2.out.drewN _⟩
        | true =>
          rw [hhalf] at c5
          have HFin := Lib.hid (show enterK d = 1 ∧ DiskAt (((w.setCell ⟨g, 1, none⟩ (.int .i64 ((d.calls : Int) + 1))).setCell ⟨g, 3, none⟩ (.bool (!d.once))).setCell ⟨g, 6, none⟩ (.bool true)) g v (enterD d) from
            ⟨by simp [enterK, HD.out, hb, hhalf], HH.out.set HF2.out (HH2.out.trans (by simp [dkCells, enterD, hb])) (by simp [enterD, hb])⟩)
          clear hb hhalf
          go_enter Tryz.func252, Tryz.ntmps252
          go_wp2
          go_quiet (fail)
          go_wp2
          go_ret
          exact ⟨ret_val (by rw [HFin.out.1]; rfl), HFin.out.2, HF2.out.drewN _⟩
    | false =>
      have hb : enterHit d = false := by simp [enterHit, hgt]
      have HFin := Lib.hid (show enterK d = 0 ∧ DiskAt (w.setCell ⟨g, 1, none⟩ (.int .i64 ((d.calls : Int) + 1))) g v (enterD d) from
        ⟨by simp [enterK, HD.out, hb], HH.out.set HF.out (HH1.out.trans (by simp [dkCells, enterD, hb])) (by simp [enterD, hb])⟩)
      clear hb
      go_enter Tryz.func252, Tryz.ntmps252
      go_wp2
      go_quiet (fail)
      go_wp2
      go_ret
      exact ⟨ret_val (by rw [HFin.out.1]; rfl), HFin.out.2, HF.out.drewN _⟩
end Go.Proofs.YtefccfakhgdfbabGreatDoor
end
