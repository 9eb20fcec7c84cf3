/- A region that draws its order, by an invariant over the set of operations that have come up: each operation is walked once. -/
import Derived.Test.YtefccfakhgdfbaaDoorExtend
import Derived.Deep.RegionWith
namespace Go.Proofs.YtefccfakhgdfbaaDoor
open Go.RowKit
section
variable {P : Program} {md : Region.Mode} {ops : Array Oper} {Q : Exit → Act → World → Prop}
theorem wpAny_inv (I : Nat → Array Bool → Act → World → Prop) (h0 : ∀ L a w, I 0 L a w → Region.ready md ops L = [] ∧ Q .normal a w)
    (h1 : ∀ f L a w, I (f + 1) L a w → Region.ready md ops L ≠ [] ∧ ∀ i ∈ Region.ready md ops L, wpOp P ops Q i (I f (L.setIfInBounds i true)) a w) :
    ∀ (f : Nat) (L : Array Bool) (a : Act) (w : World), I f L a w → wpAny P md ops Q f L a w
  | 0, L, a, w, h => h0 L a w h
  | f + 1, L, a, w, h => ⟨fun hr => absurd hr (h1 f L a w h).1, fun i hi => wpOp_mono (fun a' w' h' => wpAny_inv I h0 h1 f _ a' w' h') ((h1 f L a w h).2 i hi)⟩
theorem wpOp_of {i : Nat} {o : Oper} {K : Act → World → Prop} {a : Act} {w : World} (hi : ops[i]? = some o) (hg : o.guard = none) (h : o.wp P a w K Q) : wpOp P ops Q i K a w := by
  have hw : Region.wanted o (yielded ops a.tmps) = true := by unfold Region.wanted; rw [hg]
  unfold wpOp
  rw [hi]
  simp only [hw, if_true]
  exact Or.inl h
theorem getD_put {a : Act} {d k : Nat} {v x : Value} (hk : a.tmps.getD k undef = x) (hne : d ≠ k) : (a.put (some d) v).tmps.getD k undef = x := by
  unfold Act.put
  simp only [Array.getD_eq_getD_getElem?, Array.getElem?_setIfInBounds] at *
  rw [if_neg hne]
  exact hk
theorem getD_put_same {a : Act} {d : Nat} {v : Value} (hd : d < a.tmps.size) : (a.put (some d) v).tmps.getD d undef = v := by
  unfold Act.put
  simp [Array.getD_eq_getD_getElem?, hd]
theorem put_size {a : Act} {d : Option Tmp} {v : Value} : (a.put d v).tmps.size = a.tmps.size := by
  cases d <;> simp [Act.put]
theorem put_defers {a : Act} {d : Option Tmp} {v : Value} : (a.put d v).defers = a.defers := by
  cases d <;> rfl
/-- The state of the region with two calls of Node, by the operations that have come up. -/
structure In14 (last x y n1 n2 : Hsh) (g : Nat) (ok : Value) (W : World) (b : Nat → Bool) (a : Act) (w : World) : Prop where
  d : a.defers = []
  s : 103 ≤ a.tmps.size
  t8 : a.tmps.getD 8 undef = .pointer (some ⟨g, 0, none⟩)
  t9 : a.tmps.getD 9 undef = .pointer (some ⟨g + 1, 0, none⟩)
  t11 : a.tmps.getD 11 undef = .pointer (some ⟨g + 1 + 1, 0, none⟩)
  t10 : a.tmps.getD 10 undef = ok
  r0 : b 0 = true → a.tmps.getD 96 undef = .agg (h8 last)
  r1 : b 1 = true → a.tmps.getD 97 undef = .agg (h8 x)
  r2 : b 2 = true → a.tmps.getD 98 undef = .agg (h8 n1)
  r3 : b 3 = true → a.tmps.getD 99 undef = .agg (h8 last)
  r4 : b 4 = true → a.tmps.getD 100 undef = .agg (h8 y)
  r5 : b 5 = true → a.tmps.getD 101 undef = .agg (h8 n2)
  r6 : b 6 = true → a.tmps.getD 102 undef = ok
  h11 : hashOf w (g + 1 + 1) last
  e8 : b 7 = false → hashOf w g x
  f8 : b 7 = true → hashOf w g n1
  e9 : b 8 = false → hashOf w (g + 1) y
  f9 : b 8 = true → hashOf w (g + 1) n2
  bel : Below g W w
  c7 : b 7 = true → b 1 = true
  c8 : b 8 = true → b 4 = true
def bs (b : Nat → Bool) : Array Bool := #[b 0, b 1, b 2, b 3, b 4, b 5, b 6, b 7, b 8, b 9]
def left (b : Nat → Bool) : Nat := (!b 0).toNat + (!b 1).toNat + (!b 2).toNat + (!b 3).toNat + (!b 4).toNat + (!b 5).toNat + (!b 6).toNat + (!b 7).toNat + (!b 8).toNat + (!b 9).toNat
def upd (b : Nat → Bool) (i : Nat) : Nat → Bool := fun j => if j = i then true else b j
theorem bs_upd (b : Nat → Bool) (i : Nat) (hi : i < 10) : (bs b).setIfInBounds i true = bs (upd b i) := by
  have : i = 0 ∨ i = 1 ∨ i = 2 ∨ i = 3 ∨ i = 4 ∨ i = 5 ∨ i = 6 ∨ i = 7 ∨ i = 8 ∨ i = 9 := by omega
  rcases this with rfl | rfl | rfl | rfl | rfl | rfl | rfl | rfl | rfl | rfl <;> rfl
theorem left_upd (b : Nat → Bool) (i : Nat) (hi : i < 10) (hb : b i = false) (f : Nat) (h : f + 1 = left b) : f = left (upd b i) := by
  have : i = 0 ∨ i = 1 ∨ i = 2 ∨ i = 3 ∨ i = 4 ∨ i = 5 ∨ i = 6 ∨ i = 7 ∨ i = 8 ∨ i = 9 := by omega
  rcases this with rfl | rfl | rfl | rfl | rfl | rfl | rfl | rfl | rfl | rfl <;> (simp only [left, upd, hb, Bool.not_false, Bool.toNat_true] at *; simp; omega)
theorem wp_call2 {o : Oper} {K : Act → World → Prop} {a : Act} {w : World} (f : FuncId) (x y : Operand) (ts : Array TypeId) (ho : o.op = .call { callee := .value (.func f), args := #[x, y], argTypes := ts })
    (hf : ∀ args w, (callFunc f args).run P w = .ok (.enter f args) w) (h : Calls P f #[a.eval x, a.eval y] w fun e w' => ∃ v, e = .returned v ∧ K (a.put o.dst v) w') : o.wp P a w K Q := by
  have hr : (execOp a.eval o).run P w = .ok (.enter f #[a.eval x, a.eval y]) w := by
    unfold execOp
    rw [ho]
    go_simp
  unfold Oper.wp
  rw [hr, Oper.upon_enter]
  refine h.mono ?_
  rintro e w' ⟨v, rfl, hk⟩
  exact hk
end
theorem draw14 (last x y n1 n2 : Hsh) (g : Nat) (ok : Value) (W : World) {ops : Array Oper} {Q : Exit → Act → World → Prop}
    (r : ∀ b : Nat → Bool, ∀ i ∈ Region.ready .any ops (bs b), i < 10 ∧ b i = false ∧ (i = 2 → b 0 = true ∧ b 1 = true) ∧ (i = 5 → b 3 = true ∧ b 4 = true) ∧ (i = 7 → b 1 = true ∧ b 2 = true) ∧ (i = 8 → b 4 = true ∧ b 5 = true) ∧ (i = 9 → b 6 = true))
    (r0 : ∀ b : Nat → Bool, left b = 0 → Region.ready .any ops (bs b) = []) (r1 : ∀ (b : Nat → Bool) (f : Nat), f + 1 = left b → Region.ready .any ops (bs b) ≠ [])
    (o0 : ∃ (o : Oper), ops[0]? = some o ∧ o.guard = none ∧ o.dst = some 96 ∧ o.op = .load 62 (.tmp 11))
    (o1 : ∃ (o : Oper), ops[1]? = some o ∧ o.guard = none ∧ o.dst = some 97 ∧ o.op = .load 62 (.tmp 8))
    (o2 : ∃ (o : Oper) (ts : Array TypeId), ops[2]? = some o ∧ o.guard = none ∧ o.dst = some 98 ∧ o.op = .call { callee := .value (.func 73), args := #[.tmp 96, .tmp 97], argTypes := ts })
    (o3 : ∃ (o : Oper), ops[3]? = some o ∧ o.guard = none ∧ o.dst = some 99 ∧ o.op = .load 62 (.tmp 11))
    (o4 : ∃ (o : Oper), ops[4]? = some o ∧ o.guard = none ∧ o.dst = some 100 ∧ o.op = .load 62 (.tmp 9))
    (o5 : ∃ (o : Oper) (ts : Array TypeId), ops[5]? = some o ∧ o.guard = none ∧ o.dst = some 101 ∧ o.op = .call { callee := .value (.func 73), args := #[.tmp 99, .tmp 100], argTypes := ts })
    (o6 : ∃ (o : Oper), ops[6]? = some o ∧ o.guard = none ∧ o.dst = some 102 ∧ o.op = .move (.tmp 10))
    (o7 : ∃ (o : Oper), ops[7]? = some o ∧ o.guard = none ∧ o.dst = none ∧ o.op = .store 62 (.tmp 8) (.tmp 98))
    (o8 : ∃ (o : Oper), ops[8]? = some o ∧ o.guard = none ∧ o.dst = none ∧ o.op = .store 62 (.tmp 9) (.tmp 101))
    (o9 : ∃ (o : Oper), ops[9]? = some o ∧ o.guard = none ∧ o.dst = some 10 ∧ o.op = .assign (.tmp 102))
    (hgW : g ≤ W.heap.size) (hcf : ∀ args w, (callFunc 73 args).run Tryd.prog w = .ok (.enter 73 args) w) (hn1 : ∀ w, Calls Tryd.prog 73 #[.agg (h8 last), .agg (h8 x)] w fun e w' => e = .returned (.agg (h8 n1)) ∧ Below w.heap.size w w') (hn2 : ∀ w, Calls Tryd.prog 73 #[.agg (h8 last), .agg (h8 y)] w fun e w' => e = .returned (.agg (h8 n2)) ∧ Below w.heap.size w w')
    (hQ : ∀ b a w, In14 last x y n1 n2 g ok W b a w → b 7 = true → b 8 = true → Q .normal a w) :
    ∀ a w, In14 last x y n1 n2 g ok W (fun _ => false) a w → wpAny Tryd.prog .any ops Q 10 (Array.replicate 10 false) a w := by
  intro a w h
  refine wpAny_inv (fun f L a w => ∃ b, L = bs b ∧ f = left b ∧ In14 last x y n1 n2 g ok W b a w) ?_ ?_ 10 _ a w ⟨fun _ => false, rfl, rfl, h⟩
  · rintro L a w ⟨b, rfl, hf, h⟩
    refine ⟨r0 b hf.symm, hQ b a w h ?_ ?_⟩
    · rcases hh : b 7 with _ | _
      · exfalso; simp only [left, hh, Bool.not_false, Bool.toNat_true] at hf; omega
      · rfl
    · rcases hh : b 8 with _ | _
      · exfalso; simp only [left, hh, Bool.not_false, Bool.toNat_true] at hf; omega
      · rfl
  · rintro f L a w ⟨b, rfl, hf, h⟩
    refine ⟨r1 b f hf, fun i hi => ?_⟩
    obtain ⟨hi10, hbi, d2, d5, d7, d8, d9⟩ := r b i hi
    have hL := bs_upd b i hi10
    have hF := left_upd b i hi10 hbi f hf
    have : i = 0 ∨ i = 1 ∨ i = 2 ∨ i = 3 ∨ i = 4 ∨ i = 5 ∨ i = 6 ∨ i = 7 ∨ i = 8 ∨ i = 9 := by omega
    rcases this with rfl | rfl | rfl | rfl | rfl | rfl | rfl | rfl | rfl | rfl
    -- STEPS
    · obtain ⟨o, h1, h2, h3, h4⟩ := o0
      refine wpOp_of h1 h2 (wp_load_row _ _ h4 _ h.t11 _ (h8 last) _ _ h.h11 Tryd.underlying62 rfl (by rw [info8, h8_size]) ⟨upd b 0, hL, hF, ?_⟩)
      rw [h3]
      exact { h11 := h.h11, e8 := h.e8, f8 := h.f8, e9 := h.e9, f9 := h.f9, bel := h.bel, c7 := h.c7, c8 := h.c8, d := put_defers.trans h.d, s := by rw [put_size]; exact h.s, t8 := getD_put h.t8 (by decide), t9 := getD_put h.t9 (by decide), t11 := getD_put h.t11 (by decide), t10 := getD_put h.t10 (by decide), r0 := fun _ => getD_put_same (by have := h.s; omega), r1 := fun hb => getD_put (h.r1 hb) (by decide), r2 := fun hb => getD_put (h.r2 hb) (by decide), r3 := fun hb => getD_put (h.r3 hb) (by decide), r4 := fun hb => getD_put (h.r4 hb) (by decide), r5 := fun hb => getD_put (h.r5 hb) (by decide), r6 := fun hb => getD_put (h.r6 hb) (by decide) }
    · obtain ⟨o, h1, h2, h3, h4⟩ := o1
      have n7 : b 7 = false := by rcases hh : b 7 with _ | _; rfl; exact absurd (h.c7 hh) (by rw [hbi]; decide)
      refine wpOp_of h1 h2 (wp_load_row _ _ h4 _ h.t8 _ (h8 x) _ _ (h.e8 n7) Tryd.underlying62 rfl (by rw [info8, h8_size]) ⟨upd b 1, hL, hF, ?_⟩)
      rw [h3]
      exact { h11 := h.h11, e8 := h.e8, f8 := h.f8, e9 := h.e9, f9 := h.f9, bel := h.bel, c7 := fun _ => rfl, c8 := h.c8, d := put_defers.trans h.d, s := by rw [put_size]; exact h.s, t8 := getD_put h.t8 (by decide), t9 := getD_put h.t9 (by decide), t11 := getD_put h.t11 (by decide), t10 := getD_put h.t10 (by decide), r0 := fun hb => getD_put (h.r0 hb) (by decide), r1 := fun _ => getD_put_same (by have := h.s; omega), r2 := fun hb => getD_put (h.r2 hb) (by decide), r3 := fun hb => getD_put (h.r3 hb) (by decide), r4 := fun hb => getD_put (h.r4 hb) (by decide), r5 := fun hb => getD_put (h.r5 hb) (by decide), r6 := fun hb => getD_put (h.r6 hb) (by decide) }
    · obtain ⟨o, ts, h1, h2, h3, h4⟩ := o2
      have dd := d2 rfl
      refine wpOp_of h1 h2 (wp_call2 _ _ _ _ h4 hcf ?_)
      rw [show a.eval (.tmp 96) = .agg (h8 last) from h.r0 dd.1, show a.eval (.tmp 97) = .agg (h8 x) from h.r1 dd.2]
      refine (hn1 w).mono ?_
      rintro e w' ⟨rfl, hb⟩
      refine ⟨_, rfl, upd b 2, hL, hF, ?_⟩
      rw [h3]
      exact { h11 := hashOf_below h.h11 hb, e8 := fun k => hashOf_below (h.e8 k) hb, f8 := fun k => hashOf_below (h.f8 k) hb, e9 := fun k => hashOf_below (h.e9 k) hb, f9 := fun k => hashOf_below (h.f9 k) hb, bel := h.bel.trans (hb.mono (Nat.le_trans hgW h.bel.size)), c7 := h.c7, c8 := h.c8, d := put_defers.trans h.d, s := by rw [put_size]; exact h.s, t8 := getD_put h.t8 (by decide), t9 := getD_put h.t9 (by decide), t11 := getD_put h.t11 (by decide), t10 := getD_put h.t10 (by decide), r0 := fun hb => getD_put (h.r0 hb) (by decide), r1 := fun hb => getD_put (h.r1 hb) (by decide), r2 := fun _ => getD_put_same (by have := h.s; omega), r3 := fun hb => getD_put (h.r3 hb) (by decide), r4 := fun hb => getD_put (h.r4 hb) (by decide), r5 := fun hb => getD_put (h.r5 hb) (by decide), r6 := fun hb => getD_put (h.r6 hb) (by decide) }
    · obtain ⟨o, h1, h2, h3, h4⟩ := o3
      refine wpOp_of h1 h2 (wp_load_row _ _ h4 _ h.t11 _ (h8 last) _ _ h.h11 Tryd.underlying62 rfl (by rw [info8, h8_size]) ⟨upd b 3, hL, hF, ?_⟩)
      rw [h3]
      exact { h11 := h.h11, e8 := h.e8, f8 := h.f8, e9 := h.e9, f9 := h.f9, bel := h.bel, c7 := h.c7, c8 := h.c8, d := put_defers.trans h.d, s := by rw [put_size]; exact h.s, t8 := getD_put h.t8 (by decide), t9 := getD_put h.t9 (by decide), t11 := getD_put h.t11 (by decide), t10 := getD_put h.t10 (by decide), r0 := fun hb => getD_put (h.r0 hb) (by decide), r1 := fun hb => getD_put (h.r1 hb) (by decide), r2 := fun hb => getD_put (h.r2 hb) (by decide), r3 := fun _ => getD_put_same (by have := h.s; omega), r4 := fun hb => getD_put (h.r4 hb) (by decide), r5 := fun hb => getD_put (h.r5 hb) (by decide), r6 := fun hb => getD_put (h.r6 hb) (by decide) }
    · obtain ⟨o, h1, h2, h3, h4⟩ := o4
      have n8 : b 8 = false := by rcases hh : b 8 with _ | _; rfl; exact absurd (h.c8 hh) (by rw [hbi]; decide)
      refine wpOp_of h1 h2 (wp_load_row _ _ h4 _ h.t9 _ (h8 y) _ _ (h.e9 n8) Tryd.underlying62 rfl (by rw [info8, h8_size]) ⟨upd b 4, hL, hF, ?_⟩)
      rw [h3]
      exact { h11 := h.h11, e8 := h.e8, f8 := h.f8, e9 := h.e9, f9 := h.f9, bel := h.bel, c7 := h.c7, c8 := fun _ => rfl, d := put_defers.trans h.d, s := by rw [put_size]; exact h.s, t8 := getD_put h.t8 (by decide), t9 := getD_put h.t9 (by decide), t11 := getD_put h.t11 (by decide), t10 := getD_put h.t10 (by decide), r0 := fun hb => getD_put (h.r0 hb) (by decide), r1 := fun hb => getD_put (h.r1 hb) (by decide), r2 := fun hb => getD_put (h.r2 hb) (by decide), r3 := fun hb => getD_put (h.r3 hb) (by decide), r4 := fun _ => getD_put_same (by have := h.s; omega), r5 := fun hb => getD_put (h.r5 hb) (by decide), r6 := fun hb => getD_put (h.r6 hb) (by decide) }
    · obtain ⟨o, ts, h1, h2, h3, h4⟩ := o5
      have dd := d5 rfl
      refine wpOp_of h1 h2 (wp_call2 _ _ _ _ h4 hcf ?_)
      rw [show a.eval (.tmp 99) = .agg (h8 last) from h.r3 dd.1, show a.eval (.tmp 100) = .agg (h8 y) from h.r4 dd.2]
      refine (hn2 w).mono ?_
      rintro e w' ⟨rfl, hb⟩
      refine ⟨_, rfl, upd b 5, hL, hF, ?_⟩
      rw [h3]
      exact { h11 := hashOf_below h.h11 hb, e8 := fun k => hashOf_below (h.e8 k) hb, f8 := fun k => hashOf_below (h.f8 k) hb, e9 := fun k => hashOf_below (h.e9 k) hb, f9 := fun k => hashOf_below (h.f9 k) hb, bel := h.bel.trans (hb.mono (Nat.le_trans hgW h.bel.size)), c7 := h.c7, c8 := h.c8, d := put_defers.trans h.d, s := by rw [put_size]; exact h.s, t8 := getD_put h.t8 (by decide), t9 := getD_put h.t9 (by decide), t11 := getD_put h.t11 (by decide), t10 := getD_put h.t10 (by decide), r0 := fun hb => getD_put (h.r0 hb) (by decide), r1 := fun hb => getD_put (h.r1 hb) (by decide), r2 := fun hb => getD_put (h.r2 hb) (by decide), r3 := fun hb => getD_put (h.r3 hb) (by decide), r4 := fun hb => getD_put (h.r4 hb) (by decide), r5 := fun _ => getD_put_same (by have := h.s; omega), r6 := fun hb => getD_put (h.r6 hb) (by decide) }
    · obtain ⟨o, h1, h2, h3, h4⟩ := o6
      refine wpOp_of h1 h2 (BigFrame.wp_move _ h4 ⟨upd b 6, hL, hF, ?_⟩)
      rw [h3, show a.eval (.tmp 10) = ok from h.t10]
      exact { h11 := h.h11, e8 := h.e8, f8 := h.f8, e9 := h.e9, f9 := h.f9, bel := h.bel, c7 := h.c7, c8 := h.c8, d := put_defers.trans h.d, s := by rw [put_size]; exact h.s, t8 := getD_put h.t8 (by decide), t9 := getD_put h.t9 (by decide), t11 := getD_put h.t11 (by decide), t10 := getD_put h.t10 (by decide), r0 := fun hb => getD_put (h.r0 hb) (by decide), r1 := fun hb => getD_put (h.r1 hb) (by decide), r2 := fun hb => getD_put (h.r2 hb) (by decide), r3 := fun hb => getD_put (h.r3 hb) (by decide), r4 := fun hb => getD_put (h.r4 hb) (by decide), r5 := fun hb => getD_put (h.r5 hb) (by decide), r6 := fun _ => getD_put_same (by have := h.s; omega) }
    · obtain ⟨o, h1, h2, h3, h4⟩ := o7
      have dd := d7 rfl
      refine wpOp_of h1 h2 (wp_store_row _ _ _ h4 _ (h8 n1) h.t8 (h.r2 dd.2) _ _ (h.e8 hbi) (by rw [info8, h8_size]) (by simp) (h8_one n1) ⟨upd b 7, hL, hF, ?_⟩)
      rw [h3]
      exact { h11 := hashOf_other h.h11 _ (by omega), e8 := fun k => absurd (show true = false from k) (by decide), f8 := fun _ => hashOf_set (h.e8 hbi) _, e9 := fun k => hashOf_other (h.e9 k) _ (by omega), f9 := fun k => hashOf_other (h.f9 k) _ (by omega), bel := below_setRow h.bel (by omega) _, c7 := fun _ => dd.1, c8 := h.c8, d := h.d, s := h.s, t8 := h.t8, t9 := h.t9, t11 := h.t11, t10 := h.t10, r0 := h.r0, r1 := h.r1, r2 := h.r2, r3 := h.r3, r4 := h.r4, r5 := h.r5, r6 := h.r6 }
    · obtain ⟨o, h1, h2, h3, h4⟩ := o8
      have dd := d8 rfl
      refine wpOp_of h1 h2 (wp_store_row _ _ _ h4 _ (h8 n2) h.t9 (h.r5 dd.2) _ _ (h.e9 hbi) (by rw [info8, h8_size]) (by simp) (h8_one n2) ⟨upd b 8, hL, hF, ?_⟩)
      rw [h3]
      exact { h11 := hashOf_other h.h11 _ (by omega), e8 := fun k => hashOf_other (h.e8 k) _ (by omega), f8 := fun k => hashOf_other (h.f8 k) _ (by omega), e9 := fun k => absurd (show true = false from k) (by decide), f9 := fun _ => hashOf_set (h.e9 hbi) _, bel := below_setRow h.bel (by omega) _, c7 := h.c7, c8 := fun _ => dd.1, d := h.d, s := h.s, t8 := h.t8, t9 := h.t9, t11 := h.t11, t10 := h.t10, r0 := h.r0, r1 := h.r1, r2 := h.r2, r3 := h.r3, r4 := h.r4, r5 := h.r5, r6 := h.r6 }
    · obtain ⟨o, h1, h2, h3, h4⟩ := o9
      refine wpOp_of h1 h2 (BigFrame.wp_assign _ h4 ⟨upd b 9, hL, hF, ?_⟩)
      rw [h3, show a.eval (.tmp 102) = ok from h.r6 (d9 rfl)]
      exact { h11 := h.h11, e8 := h.e8, f8 := h.f8, e9 := h.e9, f9 := h.f9, bel := h.bel, c7 := h.c7, c8 := h.c8, d := put_defers.trans h.d, s := by rw [put_size]; exact h.s, t8 := getD_put h.t8 (by decide), t9 := getD_put h.t9 (by decide), t11 := getD_put h.t11 (by decide), t10 := getD_put_same (by have := h.s; omega), r0 := fun hb => getD_put (h.r0 hb) (by decide), r1 := fun hb => getD_put (h.r1 hb) (by decide), r2 := fun hb => getD_put (h.r2 hb) (by decide), r3 := fun hb => getD_put (h.r3 hb) (by decide), r4 := fun hb => getD_put (h.r4 hb) (by decide), r5 := fun hb => getD_put (h.r5 hb) (by decide), r6 := fun hb => getD_put (h.r6 hb) (by decide) }
end Go.Proofs.YtefccfakhgdfbaaDoor
