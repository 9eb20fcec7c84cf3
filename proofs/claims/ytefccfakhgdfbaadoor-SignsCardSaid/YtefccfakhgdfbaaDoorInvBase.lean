/- A region that draws its order, by an invariant over the set of operations that have come up. No program is used. -/
import Derived.Test.YtefccfakhgdfbaaDoorLib
import Derived.Deep.RegionWith
namespace Go.Proofs.YtefccfakhgdfbaaDoor
open Go.RowKit
section
variable {P : Program} {md : Region.Mode} {ops : Array Oper} {Q : Exit → Act → World → Prop}
theorem wpAny_inv (I : Nat → Array Bool → Act → World → Prop) (h0 : ∀ L a w, I 0 L a w → Region.ready md ops L = [] ∧ Q .normal a w)
    (h1 : ∀ f L a w, I (f + 1) L a w → Region.ready md ops L ≠ [] ∧ ∀ i ∈ Region.ready md ops L, wpOp P ops Q i (I f (L.setIfInBounds i true)) a w) :
    ∀ (f : Nat) (L : Array Bool) (a : Act) (w : World), I f L a w → wpAny P md ops Q f L a w
  | 0, L, a, w, h => h0 L a w h
  | f + 1, L, a, w, h => ⟨fun hr => absurd hr (h1 f L a w h).1, fun i hi => wpOp_mono (fun a' w' h' => wpAny_inv I h0 h1 f _ a' w' h') ((h1 f L a w h).2 i hi)⟩
theorem wpOp_of {i : Nat} {o : Oper} {K : Act → World → Prop} {a : Act} {w : World} (hi : ops[i]? = some o) (hg : o.guard = none) (h : o.wp P a w K Q) : wpOp P ops Q i K a w := by
  have hw : Region.wanted o (yielded ops a.tmps) = true := by unfold Region.wanted; rw [hg]
  unfold wpOp
  rw [hi]
  simp only [hw, if_true]
  exact Or.inl h
theorem getD_put {a : Act} {d k : Nat} {v x : Value} (hk : a.tmps.getD k undef = x) (hne : d ≠ k) : (a.put (some d) v).tmps.getD k undef = x := by
  unfold Act.put
  simp only [Array.getD_eq_getD_getElem?, Array.getElem?_setIfInBounds] at *
  rw [if_neg hne]
  exact hk
theorem getD_put_same {a : Act} {d : Nat} {v : Value} (hd : d < a.tmps.size) : (a.put (some d) v).tmps.getD d undef = v := by
  unfold Act.put
  simp [Array.getD_eq_getD_getElem?, hd]
theorem put_size {a : Act} {d : Option Tmp} {v : Value} : (a.put d v).tmps.size = a.tmps.size := by
  cases d <;> simp [Act.put]
theorem put_defers {a : Act} {d : Option Tmp} {v : Value} : (a.put d v).defers = a.defers := by
  cases d <;> rfl
def bs (b : Nat → Bool) : Array Bool := #[b 0, b 1, b 2, b 3, b 4, b 5, b 6, b 7, b 8, b 9]
def left (b : Nat → Bool) : Nat := (!b 0).toNat + (!b 1).toNat + (!b 2).toNat + (!b 3).toNat + (!b 4).toNat + (!b 5).toNat + (!b 6).toNat + (!b 7).toNat + (!b 8).toNat + (!b 9).toNat
def upd (b : Nat → Bool) (i : Nat) : Nat → Bool := fun j => if j = i then true else b j
theorem bs_upd (b : Nat → Bool) (i : Nat) (hi : i < 10) : (bs b).setIfInBounds i true = bs (upd b i) := by
  have : i = 0 ∨ i = 1 ∨ i = 2 ∨ i = 3 ∨ i = 4 ∨ i = 5 ∨ i = 6 ∨ i = 7 ∨ i = 8 ∨ i = 9 := by omega
  rcases this with rfl | rfl | rfl | rfl | rfl | rfl | rfl | rfl | rfl | rfl <;> rfl
theorem left_upd (b : Nat → Bool) (i : Nat) (hi : i < 10) (hb : b i = false) (f : Nat) (h : f + 1 = left b) : f = left (upd b i) := by
  have : i = 0 ∨ i = 1 ∨ i = 2 ∨ i = 3 ∨ i = 4 ∨ i = 5 ∨ i = 6 ∨ i = 7 ∨ i = 8 ∨ i = 9 := by omega
  rcases this with rfl | rfl | rfl | rfl | rfl | rfl | rfl | rfl | rfl | rfl <;> (simp only [left, upd, hb, Bool.not_false, Bool.toNat_true] at *; simp; omega)
theorem wp_call2 {o : Oper} {K : Act → World → Prop} {a : Act} {w : World} (f : FuncId) (x y : Operand) (ts : Array TypeId) (ho : o.op = .call { callee := .value (.func f), args := #[x, y], argTypes := ts })
    (hf : ∀ args w, (callFunc f args).run P w = .ok (.enter f args) w) (h : Calls P f #[a.eval x, a.eval y] w fun e w' => ∃ v, e = .returned v ∧ K (a.put o.dst v) w') : o.wp P a w K Q := by
  have hr : (execOp a.eval o).run P w = .ok (.enter f #[a.eval x, a.eval y]) w := by
    unfold execOp
    rw [ho]
    go_simp
  unfold Oper.wp
  rw [hr, Oper.upon_enter]
  refine h.mono ?_
  rintro e w' ⟨v, rfl, hk⟩
  exact hk
end
end Go.Proofs.YtefccfakhgdfbaaDoor
