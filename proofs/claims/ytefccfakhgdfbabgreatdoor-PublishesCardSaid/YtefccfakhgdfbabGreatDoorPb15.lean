/-
  The region of files.hexed that draws its order: two digits are put behind what there is.
  The walk of files.hexed.
-/
import Derived.Test.YtefccfakhgdfbabGreatDoorPb14
import Derived.Test.YtefccfakhgdfbabGreatDoorPb05
set_option linter.unusedVariables false
set_option linter.unusedSimpArgs false
section
namespace Go.Proofs.YtefccfakhgdfbabGreatDoor
open Go.RowKit
theorem wp_val {P : Program} {o : Oper} {K : Act → World → Prop} {Q : Exit → Act → World → Prop} {a : Act} {w : World} (val : Value) (hr : (execOp a.eval o).run P w = .ok (.value val) w) (h : K (a.put o.dst val) w) : o.wp P a w K Q := by
  unfold Oper.wp
  rw [hr]
  exact h
theorem wp_valw {P : Program} {o : Oper} {K : Act → World → Prop} {Q : Exit → Act → World → Prop} {a : Act} {w : World} (val : Value) (w' : World) (hr : (execOp a.eval o).run P w = .ok (.value val) w') (h : K (a.put o.dst val) w') : o.wp P a w K Q := by
  unfold Oper.wp
  rw [hr]
  exact h
/-- The slots behind: all as at first, but those that are written. -/
structure InHex (base : Array Value) (v : Value) (x p q : UInt8) (l : List UInt8) (B : Nat) (W : World) (b : Nat → Bool) (a : Act) (w : World) : Prop where
  d : a.defers = []
  s : a.tmps.size = 22
  t5 : a.tmps.getD 5 undef = bv x
  keep : ∀ k, k ≠ 3 → (k < 10 ∨ 18 < k) → a.tmps.getD k undef = base.getD k undef
  t3 : b 9 = false → a.tmps.getD 3 undef = v
  r0 : b 0 = true → a.tmps.getD 10 undef = v
  r1 : b 1 = true → a.tmps.getD 11 undef = bv x
  r2 : b 2 = true → a.tmps.getD 12 undef = .int .u8 ((x.toNat / 16 : Nat) : Int)
  r3 : b 3 = true → a.tmps.getD 13 undef = bv p
  r4 : b 4 = true → a.tmps.getD 14 undef = bv x
  r5 : b 5 = true → a.tmps.getD 15 undef = .int .u8 ((x.toNat % 16 : Nat) : Int)
  r6 : b 6 = true → a.tmps.getD 16 undef = bv q
  r7 : b 7 = true → a.tmps.getD 17 undef = .slice (some ⟨W.heap.size, 0, none⟩) 2 2
  w0 : b 7 = false → w = W
  w1 : b 7 = true → b 8 = false → w = W.alloc (.cells #[bv p, bv q] 5)
  r8 : b 8 = true → OwnRow w B (a.tmps.getD 18 undef) (l ++ [p, q]) ∧ W.grownBy w v.ownBlock
  e9 : b 9 = true → b 8 = true ∧ a.tmps.getD 3 undef = a.tmps.getD 18 undef
  c8 : b 8 = true → b 7 = true
  c80 : b 8 = true → b 0 = true
theorem wp_app2 {P : Program} {o : Oper} {a : Act} {K : Act → World → Prop} {Q : Exit → Act → World → Prop} {w : World} (s x : Operand) (t : TypeId)
    (ho : o.op = .call { callee := .builtin .append, args := #[s, x], argTypes := #[t, t] })
    (base : Nat) (i : TypeInfo) (ht : P.underlying t = some (.slice 5)) (hi : P.info? 5 = some i) (hz : i.zero = some (.int .u8 0)) (hsize : i.size = 1) (hby : i.bytes = 1)
    (v : Value) (l : List UInt8) (hs : a.eval s = v) (hown : OwnRow w base v l) (p q : UInt8) (hx : a.eval x = .slice (some ⟨w.heap.size, 0, none⟩) 2 2)
    (hn : l.length ≤ 1099511627776) (hbase : base ≤ w.heap.size)
    (h : ∀ v' w', OwnRow w' base v' (l ++ [p, q]) → w.grownBy w' v.ownBlock → K (a.put o.dst v') w') :
    o.wp P a (w.alloc (.cells #[bv p, bv q] 5)) K Q := by
  refine wp_append_own _ s x t ho base _ i _ 1 1 ht hi hz hsize hby rfl (by decide) v _ _ hs (World.ownsRow.alloc hown _) ⟨w.heap.size, 0, none⟩ 2 2 [bv p, bv q] hx rfl ?_ (by simp [Value.oneCell']) (by unfold maxLen; omega) (by omega) (by simp; omega) fun v' w' h2 h3 _ => ?_
  · intro j u hj
    rw [Addr.add_lit, Nat.zero_add, World.cell?_alloc_at _ _ _ _ rfl]
    simpa using hj
  · refine h v' w' ?_ (grownBy_trans (World.grownBy_alloc w _ _) h3)
    unfold OwnRow
    simpa using h2
set_option maxHeartbeats 1000000 in
theorem drawHex {base : Array Value} {v : Value} {x p q : UInt8} {l : List UInt8} {B : Nat} {W : World} {ops : Array Oper} {Q : Exit → Act → World → Prop}
    (r : ∀ b : Nat → Bool, ∀ i ∈ Region.ready .any ops (bs b), i < 10 ∧ b i = false ∧ (i = 2 → b 1 = true) ∧ (i = 3 → b 2 = true) ∧ (i = 5 → b 4 = true) ∧ (i = 6 → b 5 = true) ∧ (i = 7 → b 3 = true ∧ b 6 = true) ∧ (i = 8 → b 0 = true ∧ b 7 = true) ∧ (i = 9 → b 8 = true))
    (r0 : ∀ b : Nat → Bool, left b = 0 → Region.ready .any ops (bs b) = []) (r1 : ∀ (b : Nat → Bool) (f : Nat), f + 1 = left b → Region.ready .any ops (bs b) ≠ [])
    (o0 : ∃ (o : Oper), ops[0]? = some o ∧ o.guard = none ∧ o.dst = some 10 ∧ o.op = .move (.tmp 3))
    (o1 : ∃ (o : Oper), ops[1]? = some o ∧ o.guard = none ∧ o.dst = some 11 ∧ o.op = .move (.tmp 5))
    (o2 : ∃ (o : Oper) (ty : TypeId), ops[2]? = some o ∧ o.guard = none ∧ o.dst = some 12 ∧ o.op = .binOp .shr 5 (.tmp 11) (.const (.int .u64 4)) ty)
    (o3 : ∃ (o : Oper), ops[3]? = some o ∧ o.guard = none ∧ o.dst = some 13 ∧ o.op = .index 9 (.const (.string kHex)) (.tmp 12))
    (o4 : ∃ (o : Oper), ops[4]? = some o ∧ o.guard = none ∧ o.dst = some 14 ∧ o.op = .move (.tmp 5))
    (o5 : ∃ (o : Oper) (ty : TypeId), ops[5]? = some o ∧ o.guard = none ∧ o.dst = some 15 ∧ o.op = .binOp .and 5 (.tmp 14) (.const (.int .u8 15)) ty)
    (o6 : ∃ (o : Oper), ops[6]? = some o ∧ o.guard = none ∧ o.dst = some 16 ∧ o.op = .index 9 (.const (.string kHex)) (.tmp 15))
    (o7 : ∃ (o : Oper), ops[7]? = some o ∧ o.guard = none ∧ o.dst = some 17 ∧ o.op = .buildSlice 94 2 #[(0, .tmp 13), (1, .tmp 16)])
    (o8 : ∃ (o : Oper), ops[8]? = some o ∧ o.guard = none ∧ o.dst = some 18 ∧ o.op = .call { callee := .builtin .append, args := #[.tmp 10, .tmp 17], argTypes := #[94, 94] })
    (o9 : ∃ (o : Oper), ops[9]? = some o ∧ o.guard = none ∧ o.dst = some 3 ∧ o.op = .assign (.tmp 18))
    (hp : p = hexD (x.toNat / 16)) (hq : q = hexD (x.toNat % 16)) (hown : OwnRow W B v l) (hll : l.length ≤ 1000) (hB : B ≤ W.heap.size)
    (hQ : ∀ a w, InHex base v x p q l B W (fun _ => true) a w → Q .normal a w) :
    ∀ a w, InHex base v x p q l B W (fun _ => false) a w → wpAny Tryz.prog .any ops Q 10 (Array.replicate 10 false) a w := by
  obtain ⟨i0, hi0, hz0, hz1, hz2⟩ := info_parts info_u8
  have hxb := x.toNat_lt
  intro a w h
  refine wpAny_inv (fun f L a w => ∃ b, L = bs b ∧ f = left b ∧ InHex base v x p q l B W b a w) ?_ ?_ 10 _ a w ⟨fun _ => false, rfl, rfl, h⟩
  · rintro L a w ⟨b, rfl, hf, h⟩
    refine ⟨r0 b hf.symm, hQ a w ?_⟩
    have hh : ∀ c : Bool, (!c).toNat = 0 → c = true := by intro c; cases c <;> simp
    unfold left at hf
    have e : ∀ k, k < 10 → b k = true := by
      intro k hk
      have : k = 0 ∨ k = 1 ∨ k = 2 ∨ k = 3 ∨ k = 4 ∨ k = 5 ∨ k = 6 ∨ k = 7 ∨ k = 8 ∨ k = 9 := by omega
      rcases this with rfl | rfl | rfl | rfl | rfl | rfl | rfl | rfl | rfl | rfl <;> exact hh _ (by omega)
    exact { d := h.d, s := h.s, t5 := h.t5, keep := h.keep, t3 := fun k => absurd k (by decide), r0 := fun _ => h.r0 (e 0 (by omega)), r1 := fun _ => h.r1 (e 1 (by omega)), r2 := fun _ => h.r2 (e 2 (by omega)), r3 := fun _ => h.r3 (e 3 (by omega)), r4 := fun _ => h.r4 (e 4 (by omega)), r5 := fun _ => h.r5 (e 5 (by omega)), r6 := fun _ => h.r6 (e 6 (by omega)), r7 := fun _ => h.r7 (e 7 (by omega)), w0 := fun k => absurd k (by decide), w1 := fun _ k => absurd k (by decide), r8 := fun _ => h.r8 (e 8 (by omega)), e9 := fun _ => ⟨rfl, (h.e9 (e 9 (by omega))).2⟩, c8 := fun _ => rfl, c80 := fun _ => rfl }
  · rintro f L a w ⟨b, rfl, hf, h⟩
    refine ⟨r1 b f hf, fun i hi => ?_⟩
    obtain ⟨hi10, hbi, d2, d3, d5, d6, d7, d8, d9⟩ := r b i hi
    have hL := bs_upd b i hi10
    have hF := left_upd b i hi10 hbi f hf
    have : i = 0 ∨ i = 1 ∨ i = 2 ∨ i = 3 ∨ i = 4 ∨ i = 5 ∨ i = 6 ∨ i = 7 ∨ i = 8 ∨ i = 9 := by omega
    rcases this with rfl | rfl | rfl | rfl | rfl | rfl | rfl | rfl | rfl | rfl
    · obtain ⟨o, h1, h2, h3, h4⟩ := o0
      have n9 : b 9 = false := by rcases hh : b 9 with _ | _; rfl; exact absurd (h.c80 (h.e9 hh).1) (by rw [hbi]; decide)
      refine wpOp_of h1 h2 (BigFrame.wp_move _ h4 ⟨upd b 0, hL, hF, ?_⟩)
      rw [h3, show a.eval (.tmp 3) = v from h.t3 n9]
      exact { d := put_defers.trans h.d, s := by rw [put_size]; exact h.s, t5 := getD_put h.t5 (by decide), keep := fun k h3 hk => getD_put (h.keep k h3 hk) (by omega), t3 := fun e => getD_put (h.t3 e) (by decide), r0 := fun _ => getD_put_same (by rw [h.s]; decide), r1 := fun e => getD_put (h.r1 e) (by decide), r2 := fun e => getD_put (h.r2 e) (by decide), r3 := fun e => getD_put (h.r3 e) (by decide), r4 := fun e => getD_put (h.r4 e) (by decide), r5 := fun e => getD_put (h.r5 e) (by decide), r6 := fun e => getD_put (h.r6 e) (by decide), r7 := fun e => getD_put (h.r7 e) (by decide), w0 := h.w0, w1 := h.w1, c8 := h.c8, c80 := fun _ => rfl, r8 := fun e => (by rw [getD_put rfl (by decide)]; exact h.r8 e), e9 := fun e => ⟨(h.e9 e).1, by rw [getD_put rfl (by decide), getD_put rfl (by decide)]; exact (h.e9 e).2⟩ }
    · obtain ⟨o, h1, h2, h3, h4⟩ := o1
      refine wpOp_of h1 h2 (BigFrame.wp_move _ h4 ⟨upd b 1, hL, hF, ?_⟩)
      rw [h3, show a.eval (.tmp 5) = bv x from h.t5]
      exact { d := put_defers.trans h.d, s := by rw [put_size]; exact h.s, t5 := getD_put h.t5 (by decide), keep := fun k h3 hk => getD_put (h.keep k h3 hk) (by omega), t3 := fun e => getD_put (h.t3 e) (by decide), r0 := fun e => getD_put (h.r0 e) (by decide), r1 := fun _ => getD_put_same (by rw [h.s]; decide), r2 := fun e => getD_put (h.r2 e) (by decide), r3 := fun e => getD_put (h.r3 e) (by decide), r4 := fun e => getD_put (h.r4 e) (by decide), r5 := fun e => getD_put (h.r5 e) (by decide), r6 := fun e => getD_put (h.r6 e) (by decide), r7 := fun e => getD_put (h.r7 e) (by decide), w0 := h.w0, w1 := h.w1, c8 := h.c8, c80 := h.c80, r8 := fun e => (by rw [getD_put rfl (by decide)]; exact h.r8 e), e9 := fun e => ⟨(h.e9 e).1, by rw [getD_put rfl (by decide), getD_put rfl (by decide)]; exact (h.e9 e).2⟩ }
    · obtain ⟨o, ty, h1, h2, h3, h4⟩ := o2
      have e1 : a.eval (.tmp 11) = bv x := h.r1 (d2 rfl)
      refine wpOp_of h1 h2 (wp_val (.int .u8 ((x.toNat / 16 : Nat) : Int)) ?_ ⟨upd b 2, hL, hF, ?_⟩)
      · unfold execOp
        rw [h4]
        have e2 : a.eval (.const (.int .u64 4)) = .int .u64 4 := rfl
        have hv := shr_val x w
        simp only [e1, e2, eqGuard_shr, Sem.run_bind, hv, Result.andThen_ok, Sem.run_pure]
      · rw [h3]
        exact { d := put_defers.trans h.d, s := by rw [put_size]; exact h.s, t5 := getD_put h.t5 (by decide), keep := fun k h3 hk => getD_put (h.keep k h3 hk) (by omega), t3 := fun e => getD_put (h.t3 e) (by decide), r0 := fun e => getD_put (h.r0 e) (by decide), r1 := fun e => getD_put (h.r1 e) (by decide), r2 := fun _ => getD_put_same (by rw [h.s]; decide), r3 := fun e => getD_put (h.r3 e) (by decide), r4 := fun e => getD_put (h.r4 e) (by decide), r5 := fun e => getD_put (h.r5 e) (by decide), r6 := fun e => getD_put (h.r6 e) (by decide), r7 := fun e => getD_put (h.r7 e) (by decide), w0 := h.w0, w1 := h.w1, c8 := h.c8, c80 := h.c80, r8 := fun e => (by rw [getD_put rfl (by decide)]; exact h.r8 e), e9 := fun e => ⟨(h.e9 e).1, by rw [getD_put rfl (by decide), getD_put rfl (by decide)]; exact (h.e9 e).2⟩ }
    · obtain ⟨o, h1, h2, h3, h4⟩ := o3
      have e1 : a.eval (.tmp 12) = .int .u8 ((x.toNat / 16 : Nat) : Int) := h.r2 (d3 rfl)
      have hv := index_hex (x.toNat / 16) (by omega) w
      rw [← hp] at hv
      refine wpOp_of h1 h2 (wp_val (bv p) ?_ ⟨upd b 3, hL, hF, ?_⟩)
      · unfold execOp
        rw [h4]
        have e2 : a.eval (.const (.string kHex)) = .string kHex := rfl
        simp only [e1, e2, Sem.run_bind, hv, Result.andThen_ok, Sem.run_pure]
      · rw [h3]
        exact { d := put_defers.trans h.d, s := by rw [put_size]; exact h.s, t5 := getD_put h.t5 (by decide), keep := fun k h3 hk => getD_put (h.keep k h3 hk) (by omega), t3 := fun e => getD_put (h.t3 e) (by decide), r0 := fun e => getD_put (h.r0 e) (by decide), r1 := fun e => getD_put (h.r1 e) (by decide), r2 := fun e => getD_put (h.r2 e) (by decide), r3 := fun _ => getD_put_same (by rw [h.s]; decide), r4 := fun e => getD_put (h.r4 e) (by decide), r5 := fun e => getD_put (h.r5 e) (by decide), r6 := fun e => getD_put (h.r6 e) (by decide), r7 := fun e => getD_put (h.r7 e) (by decide), w0 := h.w0, w1 := h.w1, c8 := h.c8, c80 := h.c80, r8 := fun e => (by rw [getD_put rfl (by decide)]; exact h.r8 e), e9 := fun e => ⟨(h.e9 e).1, by rw [getD_put rfl (by decide), getD_put rfl (by decide)]; exact (h.e9 e).2⟩ }
    · obtain ⟨o, h1, h2, h3, h4⟩ := o4
      refine wpOp_of h1 h2 (BigFrame.wp_move _ h4 ⟨upd b 4, hL, hF, ?_⟩)
      rw [h3, show a.eval (.tmp 5) = bv x from h.t5]
      exact { d := put_defers.trans h.d, s := by rw [put_size]; exact h.s, t5 := getD_put h.t5 (by decide), keep := fun k h3 hk => getD_put (h.keep k h3 hk) (by omega), t3 := fun e => getD_put (h.t3 e) (by decide), r0 := fun e => getD_put (h.r0 e) (by decide), r1 := fun e => getD_put (h.r1 e) (by decide), r2 := fun e => getD_put (h.r2 e) (by decide), r3 := fun e => getD_put (h.r3 e) (by decide), r4 := fun _ => getD_put_same (by rw [h.s]; decide), r5 := fun e => getD_put (h.r5 e) (by decide), r6 := fun e => getD_put (h.r6 e) (by decide), r7 := fun e => getD_put (h.r7 e) (by decide), w0 := h.w0, w1 := h.w1, c8 := h.c8, c80 := h.c80, r8 := fun e => (by rw [getD_put rfl (by decide)]; exact h.r8 e), e9 := fun e => ⟨(h.e9 e).1, by rw [getD_put rfl (by decide), getD_put rfl (by decide)]; exact (h.e9 e).2⟩ }
    · obtain ⟨o, ty, h1, h2, h3, h4⟩ := o5
      have e1 : a.eval (.tmp 14) = bv x := h.r4 (d5 rfl)
      have hv := and_val x w
      refine wpOp_of h1 h2 (wp_val (.int .u8 ((x.toNat % 16 : Nat) : Int)) ?_ ⟨upd b 5, hL, hF, ?_⟩)
      · unfold execOp
        rw [h4]
        have e2 : a.eval (.const (.int .u8 15)) = .int .u8 15 := rfl
        simp only [e1, e2, eqGuard_and, Sem.run_bind, hv, Result.andThen_ok, Sem.run_pure]
      · rw [h3]
        exact { d := put_defers.trans h.d, s := by rw [put_size]; exact h.s, t5 := getD_put h.t5 (by decide), keep := fun k h3 hk => getD_put (h.keep k h3 hk) (by omega), t3 := fun e => getD_put (h.t3 e) (by decide), r0 := fun e => getD_put (h.r0 e) (by decide), r1 := fun e => getD_put (h.r1 e) (by decide), r2 := fun e => getD_put (h.r2 e) (by decide), r3 := fun e => getD_put (h.r3 e) (by decide), r4 := fun e => getD_put (h.r4 e) (by decide), r5 := fun _ => getD_put_same (by rw [h.s]; decide), r6 := fun e => getD_put (h.r6 e) (by decide), r7 := fun e => getD_put (h.r7 e) (by decide), w0 := h.w0, w1 := h.w1, c8 := h.c8, c80 := h.c80, r8 := fun e => (by rw [getD_put rfl (by decide)]; exact h.r8 e), e9 := fun e => ⟨(h.e9 e).1, by rw [getD_put rfl (by decide), getD_put rfl (by decide)]; exact (h.e9 e).2⟩ }
    · obtain ⟨o, h1, h2, h3, h4⟩ := o6
      have e1 : a.eval (.tmp 15) = .int .u8 ((x.toNat % 16 : Nat) : Int) := h.r5 (d6 rfl)
      have hv := index_hex (x.toNat % 16) (by omega) w
      rw [← hq] at hv
      refine wpOp_of h1 h2 (wp_val (bv q) ?_ ⟨upd b 6, hL, hF, ?_⟩)
      · unfold execOp
        rw [h4]
        have e2 : a.eval (.const (.string kHex)) = .string kHex := rfl
        simp only [e1, e2, Sem.run_bind, hv, Result.andThen_ok, Sem.run_pure]
      · rw [h3]
        exact { d := put_defers.trans h.d, s := by rw [put_size]; exact h.s, t5 := getD_put h.t5 (by decide), keep := fun k h3 hk => getD_put (h.keep k h3 hk) (by omega), t3 := fun e => getD_put (h.t3 e) (by decide), r0 := fun e => getD_put (h.r0 e) (by decide), r1 := fun e => getD_put (h.r1 e) (by decide), r2 := fun e => getD_put (h.r2 e) (by decide), r3 := fun e => getD_put (h.r3 e) (by decide), r4 := fun e => getD_put (h.r4 e) (by decide), r5 := fun e => getD_put (h.r5 e) (by decide), r6 := fun _ => getD_put_same (by rw [h.s]; decide), r7 := fun e => getD_put (h.r7 e) (by decide), w0 := h.w0, w1 := h.w1, c8 := h.c8, c80 := h.c80, r8 := fun e => (by rw [getD_put rfl (by decide)]; exact h.r8 e), e9 := fun e => ⟨(h.e9 e).1, by rw [getD_put rfl (by decide), getD_put rfl (by decide)]; exact (h.e9 e).2⟩ }
    · obtain ⟨o, h1, h2, h3, h4⟩ := o7
      have e1 : a.eval (.tmp 13) = bv p := h.r3 (d7 rfl).1
      have e2 : a.eval (.tmp 16) = bv q := h.r6 (d7 rfl).2
      obtain rfl := h.w0 hbi
      refine wpOp_of h1 h2 (wp_valw (.slice (some ⟨w.heap.size, 0, none⟩) 2 2) (w.alloc (.cells #[bv p, bv q] 5)) ?_ ⟨upd b 7, hL, hF, ?_⟩)
      · unfold execOp
        rw [h4]
        have hv := build2 p q w
        simp only [List.map_toArray, List.map_cons, List.map_nil, e1, e2]
        simp [hv]
      · rw [h3]
        exact { d := put_defers.trans h.d, s := by rw [put_size]; exact h.s, t5 := getD_put h.t5 (by decide), keep := fun k h3 hk => getD_put (h.keep k h3 hk) (by omega), t3 := fun e => getD_put (h.t3 e) (by decide), r0 := fun e => getD_put (h.r0 e) (by decide), r1 := fun e => getD_put (h.r1 e) (by decide), r2 := fun e => getD_put (h.r2 e) (by decide), r3 := fun e => getD_put (h.r3 e) (by decide), r4 := fun e => getD_put (h.r4 e) (by decide), r5 := fun e => getD_put (h.r5 e) (by decide), r6 := fun e => getD_put (h.r6 e) (by decide), r7 := fun _ => getD_put_same (by rw [h.s]; decide), w0 := fun e => absurd (show true = false from e) (by decide), w1 := fun _ _ => rfl, c8 := fun e => rfl, c80 := h.c80, r8 := fun e => absurd (h.c8 e) (by rw [hbi]; decide), e9 := fun e => absurd (h.c8 (h.e9 e).1) (by rw [hbi]; decide) }
    · obtain ⟨o, h1, h2, h3, h4⟩ := o8
      obtain rfl := h.w1 (d8 rfl).2 hbi
      refine wpOp_of h1 h2 (wp_app2 _ _ _ h4 B i0 Tryz.underlying94 hi0 hz0 hz1 hz2 v l (h.r0 (d8 rfl).1) hown p q (h.r7 (d8 rfl).2) (by omega) hB fun v' w' hr hg => ⟨upd b 8, hL, hF, ?_⟩)
      rw [h3]
      exact { d := put_defers.trans h.d, s := by rw [put_size]; exact h.s, t5 := getD_put h.t5 (by decide), keep := fun k h3 hk => getD_put (h.keep k h3 hk) (by omega), t3 := fun e => getD_put (h.t3 e) (by decide), r0 := fun e => getD_put (h.r0 e) (by decide), r1 := fun e => getD_put (h.r1 e) (by decide), r2 := fun e => getD_put (h.r2 e) (by decide), r3 := fun e => getD_put (h.r3 e) (by decide), r4 := fun e => getD_put (h.r4 e) (by decide), r5 := fun e => getD_put (h.r5 e) (by decide), r6 := fun e => getD_put (h.r6 e) (by decide), r7 := fun e => getD_put (h.r7 e) (by decide), w0 := fun e => absurd (show b 7 = false from e) (by rw [(d8 rfl).2]; decide), w1 := fun _ e => absurd (show true = false from e) (by decide), c8 := fun _ => (d8 rfl).2, c80 := fun _ => (d8 rfl).1, r8 := fun _ => (by rw [getD_put_same (by rw [h.s]; decide)]; exact ⟨hr, hg⟩), e9 := fun e => absurd (h.e9 e).1 (by rw [hbi]; decide) }
    · obtain ⟨o, h1, h2, h3, h4⟩ := o9
      refine wpOp_of h1 h2 (BigFrame.wp_assign _ h4 ⟨upd b 9, hL, hF, ?_⟩)
      rw [h3, show a.eval (.tmp 18) = a.tmps.getD 18 undef from rfl]
      exact { d := put_defers.trans h.d, s := by rw [put_size]; exact h.s, t5 := getD_put h.t5 (by decide), keep := fun k h3 hk => getD_put (h.keep k h3 hk) (Ne.symm h3), t3 := fun e => absurd (show true = false from e) (by decide), r0 := fun e => getD_put (h.r0 e) (by decide), r1 := fun e => getD_put (h.r1 e) (by decide), r2 := fun e => getD_put (h.r2 e) (by decide), r3 := fun e => getD_put (h.r3 e) (by decide), r4 := fun e => getD_put (h.r4 e) (by decide), r5 := fun e => getD_put (h.r5 e) (by decide), r6 := fun e => getD_put (h.r6 e) (by decide), r7 := fun e => getD_put (h.r7 e) (by decide), w0 := h.w0, w1 := h.w1, c8 := h.c8, c80 := h.c80, r8 := fun e => (by rw [getD_put rfl (by decide)]; exact h.r8 e), e9 := fun _ => ⟨d9 rfl, by rw [getD_put_same (by rw [h.s]; decide), getD_put rfl (by decide)]⟩ }
/-- What stands in the slots behind the region. -/
abbrev putsHex (base : Array Value) (v : Value) (x p q : UInt8) (W : World) (v' : Value) : Act :=
  ((((((((((⟨base, []⟩ : Act).put (some 10) v).put (some 11) (bv x)).put (some 12) (.int .u8 ((x.toNat / 16 : Nat) : Int))).put (some 13) (bv p)).put (some 14) (bv x)).put (some 15) (.int .u8 ((x.toNat % 16 : Nat) : Int))).put (some 16) (bv q)).put (some 17) (.slice (some ⟨W.heap.size, 0, none⟩) 2 2)).put (some 18) v').put (some 3) v'
theorem act_eq {a c : Act} (hd : a.defers = c.defers) (hs : a.tmps.size = c.tmps.size) (h : ∀ k, k < c.tmps.size → a.tmps.getD k undef = c.tmps.getD k undef) : a = c := by
  obtain ⟨t, d⟩ := a
  obtain ⟨t', d'⟩ := c
  simp only at hd hs h
  subst hd
  congr 1
  apply Array.ext hs
  intro i h1 h2
  have := h i h2
  simpa [Array.getD_eq_getD_getElem?, h1, h2] using this
theorem InHex.act {base : Array Value} {v : Value} {x p q : UInt8} {l : List UInt8} {B : Nat} {W : World} {a : Act} {w : World} (hb : base.size = 22) (h : InHex base v x p q l B W (fun _ => true) a w) :
    a = putsHex base v x p q W (a.tmps.getD 18 undef) := by
  obtain ⟨y, hy⟩ : ∃ y, y = a.tmps.getD 18 undef := ⟨_, rfl⟩
  rw [← hy]
  have hsz : (putsHex base v x p q W y).tmps.size = 22 := by simp [Act.put, hb]
  refine act_eq h.d (h.s.trans hsz.symm) fun k hk => ?_
  rw [hsz] at hk
  have hc : k = 3 ∨ k = 10 ∨ k = 11 ∨ k = 12 ∨ k = 13 ∨ k = 14 ∨ k = 15 ∨ k = 16 ∨ k = 17 ∨ k = 18 ∨ (k ≠ 3 ∧ (k < 10 ∨ 18 < k)) := by omega
  rcases hc with rfl | rfl | rfl | rfl | rfl | rfl | rfl | rfl | rfl | rfl | ⟨h3, hk'⟩
  · rw [(h.e9 rfl).2, ← hy, getD_put_same (by simp [Act.put, hb])]
  · rw [h.r0 rfl]
    refine (?_ : _ = _).symm
    exact getD_put (getD_put (getD_put (getD_put (getD_put (getD_put (getD_put (getD_put (getD_put (getD_put_same (by simp [Act.put, hb])) (by decide)) (by decide)) (by decide)) (by decide)) (by decide)) (by decide)) (by decide)) (by decide)) (by decide)
  · rw [h.r1 rfl]
    refine (?_ : _ = _).symm
    exact getD_put (getD_put (getD_put (getD_put (getD_put (getD_put (getD_put (getD_put (getD_put_same (by simp [Act.put, hb])) (by decide)) (by decide)) (by decide)) (by decide)) (by decide)) (by decide)) (by decide)) (by decide)
  · rw [h.r2 rfl]
    refine (?_ : _ = _).symm
    exact getD_put (getD_put (getD_put (getD_put (getD_put (getD_put (getD_put (getD_put_same (by simp [Act.put, hb])) (by decide)) (by decide)) (by decide)) (by decide)) (by decide)) (by decide)) (by decide)
  · rw [h.r3 rfl]
    refine (?_ : _ = _).symm
    exact getD_put (getD_put (getD_put (getD_put (getD_put (getD_put (getD_put_same (by simp [Act.put, hb])) (by decide)) (by decide)) (by decide)) (by decide)) (by decide)) (by decide)
  · rw [h.r4 rfl]
    refine (?_ : _ = _).symm
    exact getD_put (getD_put (getD_put (getD_put (getD_put (getD_put_same (by simp [Act.put, hb])) (by decide)) (by decide)) (by decide)) (by decide)) (by decide)
  · rw [h.r5 rfl]
    refine (?_ : _ = _).symm
    exact getD_put (getD_put (getD_put (getD_put (getD_put_same (by simp [Act.put, hb])) (by decide)) (by decide)) (by decide)) (by decide)
  · rw [h.r6 rfl]
    refine (?_ : _ = _).symm
    exact getD_put (getD_put (getD_put (getD_put_same (by simp [Act.put, hb])) (by decide)) (by decide)) (by decide)
  · rw [h.r7 rfl]
    refine (?_ : _ = _).symm
    exact getD_put (getD_put (getD_put_same (by simp [Act.put, hb])) (by decide)) (by decide)
  · rw [← hy]
    refine (?_ : _ = _).symm
    exact getD_put (getD_put_same (by simp [Act.put, hb])) (by decide)
  · rw [h.keep k h3 hk']
    refine (?_ : _ = _).symm
    exact getD_put (getD_put (getD_put (getD_put (getD_put (getD_put (getD_put (getD_put (getD_put (getD_put (rfl) (by omega)) (by omega)) (by omega)) (by omega)) (by omega)) (by omega)) (by omega)) (by omega)) (by omega)) (by omega)
set_option maxHeartbeats 1000000 in
theorem drawHex' {base : Array Value} {v : Value} {x : UInt8} {l : List UInt8} {B : Nat} {W : World} {ops : Array Oper} {Q : Exit → Act → World → Prop}
    (hb : base.size = 22) (h3 : base.getD 3 undef = v) (h5 : base.getD 5 undef = bv x)
    (r : ∀ b : Nat → Bool, ∀ i ∈ Region.ready .any ops (bs b), i < 10 ∧ b i = false ∧ (i = 2 → b 1 = true) ∧ (i = 3 → b 2 = true) ∧ (i = 5 → b 4 = true) ∧ (i = 6 → b 5 = true) ∧ (i = 7 → b 3 = true ∧ b 6 = true) ∧ (i = 8 → b 0 = true ∧ b 7 = true) ∧ (i = 9 → b 8 = true))
    (r0 : ∀ b : Nat → Bool, left b = 0 → Region.ready .any ops (bs b) = []) (r1 : ∀ (b : Nat → Bool) (f : Nat), f + 1 = left b → Region.ready .any ops (bs b) ≠ [])
    (o0 : ∃ (o : Oper), ops[0]? = some o ∧ o.guard = none ∧ o.dst = some 10 ∧ o.op = .move (.tmp 3))
    (o1 : ∃ (o : Oper), ops[1]? = some o ∧ o.guard = none ∧ o.dst = some 11 ∧ o.op = .move (.tmp 5))
    (o2 : ∃ (o : Oper) (ty : TypeId), ops[2]? = some o ∧ o.guard = none ∧ o.dst = some 12 ∧ o.op = .binOp .shr 5 (.tmp 11) (.const (.int .u64 4)) ty)
    (o3 : ∃ (o : Oper), ops[3]? = some o ∧ o.guard = none ∧ o.dst = some 13 ∧ o.op = .index 9 (.const (.string kHex)) (.tmp 12))
    (o4 : ∃ (o : Oper), ops[4]? = some o ∧ o.guard = none ∧ o.dst = some 14 ∧ o.op = .move (.tmp 5))
    (o5 : ∃ (o : Oper) (ty : TypeId), ops[5]? = some o ∧ o.guard = none ∧ o.dst = some 15 ∧ o.op = .binOp .and 5 (.tmp 14) (.const (.int .u8 15)) ty)
    (o6 : ∃ (o : Oper), ops[6]? = some o ∧ o.guard = none ∧ o.dst = some 16 ∧ o.op = .index 9 (.const (.string kHex)) (.tmp 15))
    (o7 : ∃ (o : Oper), ops[7]? = some o ∧ o.guard = none ∧ o.dst = some 17 ∧ o.op = .buildSlice 94 2 #[(0, .tmp 13), (1, .tmp 16)])
    (o8 : ∃ (o : Oper), ops[8]? = some o ∧ o.guard = none ∧ o.dst = some 18 ∧ o.op = .call { callee := .builtin .append, args := #[.tmp 10, .tmp 17], argTypes := #[94, 94] })
    (o9 : ∃ (o : Oper), ops[9]? = some o ∧ o.guard = none ∧ o.dst = some 3 ∧ o.op = .assign (.tmp 18))
    (hown : OwnRow W B v l) (hll : l.length ≤ 1000) (hB : B ≤ W.heap.size)
    (hQ : ∀ v' w', OwnRow w' B v' (l ++ [hexD (x.toNat / 16), hexD (x.toNat % 16)]) → W.grownBy w' v.ownBlock → Q .normal (putsHex base v x (hexD (x.toNat / 16)) (hexD (x.toNat % 16)) W v') w') :
    wpAny Tryz.prog .any ops Q 10 (Array.replicate 10 false) ⟨base, []⟩ W := by
  refine drawHex (p := hexD (x.toNat / 16)) (q := hexD (x.toNat % 16)) (v := v) (x := x) (l := l) (B := B) (base := base) r r0 r1 o0 o1 o2 o3 o4 o5 o6 o7 o8 o9 rfl rfl hown hll hB (fun a w h => ?_) ⟨base, []⟩ W ?_
  · rw [InHex.act hb h]
    exact hQ _ _ (h.r8 rfl).1 (h.r8 rfl).2
  · exact { d := rfl, s := hb, t5 := h5, keep := fun _ _ _ => rfl, t3 := fun _ => h3, r0 := fun k => absurd k (by decide), r1 := fun k => absurd k (by decide), r2 := fun k => absurd k (by decide), r3 := fun k => absurd k (by decide), r4 := fun k => absurd k (by decide), r5 := fun k => absurd k (by decide), r6 := fun k => absurd k (by decide), r7 := fun k => absurd k (by decide), w0 := fun _ => rfl, w1 := fun k => absurd k (by decide), r8 := fun k => absurd k (by decide), e9 := fun k => absurd k (by decide), c8 := fun k => absurd k (by decide), c80 := fun k => absurd k (by decide) }
end Go.Proofs.YtefccfakhgdfbabGreatDoor
end

section
namespace Go.Proofs.YtefccfakhgdfbabGreatDoor
open Go.RowKit
theorem hexOf_succ {l : List UInt8} {k : Nat} (hk : k < l.length) : hexOf (l.take (k + 1)) = hexOf (l.take k) ++ [hexD ((l.getD k 0).toNat / 16), hexD ((l.getD k 0).toNat % 16)] := by
  have e : l.take (k + 1) = l.take k ++ [l.getD k 0] := by
    rw [List.take_add_one, List.getElem?_eq_getElem hk]
    simp [List.getD, hk]
  rw [e]
  unfold hexOf
  rw [List.flatMap_append]
  rfl
set_option maxHeartbeats 4000000 in
set_option maxRecDepth 100000 in
theorem hexed_any (h : Hsh) (w : World) :
    Calls Tryz.prog 137 #[.agg (h8 h)] w fun e w' => e = .returned (.string (sOf (hexOf h.toList))) ∧ Below w.heap.size w w' := by
  have hown0 : ∀ W, OwnRow W w.heap.size (.slice none 0 0) (hexOf (h.toList.take 0)) := fun W => World.ownsRow_nil _ _ _ _
  have HO0 := Lib.hid hown0
  clear hown0
  go_enter Tryz.func137, Tryz.ntmps137
  go_wp2_with (first | (refine wpList_load8 rfl 109 _ rfl _ rfl _ Tryz.underlying109 info8 ?_ ?_ ?_; rotate_left; focus ((repeat (first | (with_reducible assumption) | ((with_reducible refine hashOf_zero' ?_); (first | rfl | (simp; done) | (simp; omega))) | ((with_reducible refine hashOf_at ?_); (first | rfl | (simp; done) | (simp; omega))) | (with_reducible exact hashOf_set' ⟨_, by assumption⟩ _) | ((with_reducible refine hashOf_set' (Is8_zero ?_) _); (first | rfl | (simp; done) | (simp; omega))) | (with_reducible refine hashOf_old ?_ _) | ((with_reducible refine hashOf_other ?_ _ ?_); rotate_left; (focus (first | (simp; done) | (simp; omega) | omega))) | (with_reducible refine hashOf_drew ?_) | (with_reducible refine hashOf_below ?_ (by assumption)))); done)))
  go_loopw [3, 7] (fun v i wr => ∃ k : Nat, k ≤ 8 ∧ i = .int .i64 k ∧ OwnRow wr w.heap.size v (hexOf (h.toList.take k)) ∧ Below w.heap.size w wr) (fun _ i _ => 8 - (intOf i).toNat)
  case atStart => exact ⟨0, by omega, rfl, HO0.out _, below_alloc _ _⟩
  case round =>
    obtain ⟨k, hk, rfl, hown, hbel⟩ := hrel
    have HOWN := Lib.hid hown
    have HBEL := Lib.hid hbel
    clear hown hbel
    by_cases hlt : k < 8
    · have hx := index_h8 h k hlt wr
      obtain ⟨x, hxx⟩ : ∃ x, x = h.toList.getD k 0 := ⟨_, rfl⟩
      rw [← hxx] at hx
      have hsucc := hexOf_succ (l := h.toList) (k := k) (by simpa using hlt)
      rw [← hxx] at hsucc
      have HSU := Lib.hid hsucc
      clear hxx hsucc
      go_wp2_with fail
      refine wp_region_any (by kernel_rfl) ?_
      have hdr : OwnRow wr.drew w.heap.size _ _ := HOWN.out
      refine drawHex' (x := x) (B := w.heap.size) rfl rfl rfl ?_ ?_ ?_ ⟨_, rfl, rfl, rfl, rfl⟩ ⟨_, rfl, rfl, rfl, rfl⟩ ⟨_, _, rfl, rfl, rfl, rfl⟩ ⟨_, rfl, rfl, rfl, rfl⟩ ⟨_, rfl, rfl, rfl, rfl⟩ ⟨_, _, rfl, rfl, rfl, rfl⟩ ⟨_, rfl, rfl, rfl, rfl⟩ ⟨_, rfl, rfl, rfl, rfl⟩ ⟨_, rfl, rfl, rfl, rfl⟩ ⟨_, rfl, rfl, rfl, rfl⟩ hdr (by rw [hexOf_len]; simp; omega) (below_drewN HBEL.out 1).size ?_
      · intro b i hi
        rw [Region.ready, List.mem_filter] at hi
        obtain ⟨hi1, hi2⟩ := hi
        have hi10 : i < 10 := List.mem_range.1 hi1
        have : i = 0 ∨ i = 1 ∨ i = 2 ∨ i = 3 ∨ i = 4 ∨ i = 5 ∨ i = 6 ∨ i = 7 ∨ i = 8 ∨ i = 9 := by omega
        clear hi1
        rcases this with rfl | rfl | rfl | rfl | rfl | rfl | rfl | rfl | rfl | rfl <;> simp [bs, Region.binds] at hi2 ⊢ <;> simp [hi2]
      · intro b hb
        have hh : ∀ c : Bool, (!c).toNat = 0 → c = true := by intro c; cases c <;> simp
        unfold left at hb
        have k0 := hh (b 0) (by omega)
        have k1 := hh (b 1) (by omega)
        have k2 := hh (b 2) (by omega)
        have k3 := hh (b 3) (by omega)
        have k4 := hh (b 4) (by omega)
        have k5 := hh (b 5) (by omega)
        have k6 := hh (b 6) (by omega)
        have k7 := hh (b 7) (by omega)
        have k8 := hh (b 8) (by omega)
        have k9 := hh (b 9) (by omega)
        rw [show bs b = #[true, true, true, true, true, true, true, true, true, true] by simp only [bs, k0, k1, k2, k3, k4, k5, k6, k7, k8, k9]]
        rfl
      · intro b f hf
        rcases k0 : b 0 with _ | _
        · exact List.ne_nil_of_mem (a := 0) (by rw [Region.ready, List.mem_filter]; exact ⟨List.mem_range.2 (by show 0 < 10; decide), by simp [bs, Region.binds, k0]⟩)
        rcases k1 : b 1 with _ | _
        · exact List.ne_nil_of_mem (a := 1) (by rw [Region.ready, List.mem_filter]; exact ⟨List.mem_range.2 (by show 1 < 10; decide), by simp [bs, Region.binds, k0, k1]⟩)
        rcases k2 : b 2 with _ | _
        · exact List.ne_nil_of_mem (a := 2) (by rw [Region.ready, List.mem_filter]; exact ⟨List.mem_range.2 (by show 2 < 10; decide), by simp [bs, Region.binds, k0, k1, k2]⟩)
        rcases k3 : b 3 with _ | _
        · exact List.ne_nil_of_mem (a := 3) (by rw [Region.ready, List.mem_filter]; exact ⟨List.mem_range.2 (by show 3 < 10; decide), by simp [bs, Region.binds, k0, k1, k2, k3]⟩)
        rcases k4 : b 4 with _ | _
        · exact List.ne_nil_of_mem (a := 4) (by rw [Region.ready, List.mem_filter]; exact ⟨List.mem_range.2 (by show 4 < 10; decide), by simp [bs, Region.binds, k0, k1, k2, k3, k4]⟩)
        rcases k5 : b 5 with _ | _
        · exact List.ne_nil_of_mem (a := 5) (by rw [Region.ready, List.mem_filter]; exact ⟨List.mem_range.2 (by show 5 < 10; decide), by simp [bs, Region.binds, k0, k1, k2, k3, k4, k5]⟩)
        rcases k6 : b 6 with _ | _
        · exact List.ne_nil_of_mem (a := 6) (by rw [Region.ready, List.mem_filter]; exact ⟨List.mem_range.2 (by show 6 < 10; decide), by simp [bs, Region.binds, k0, k1, k2, k3, k4, k5, k6]⟩)
        rcases k7 : b 7 with _ | _
        · exact List.ne_nil_of_mem (a := 7) (by rw [Region.ready, List.mem_filter]; exact ⟨List.mem_range.2 (by show 7 < 10; decide), by simp [bs, Region.binds, k0, k1, k2, k3, k4, k5, k6, k7]⟩)
        rcases k8 : b 8 with _ | _
        · exact List.ne_nil_of_mem (a := 8) (by rw [Region.ready, List.mem_filter]; exact ⟨List.mem_range.2 (by show 8 < 10; decide), by simp [bs, Region.binds, k0, k1, k2, k3, k4, k5, k6, k7, k8]⟩)
        rcases k9 : b 9 with _ | _
        · exact List.ne_nil_of_mem (a := 9) (by rw [Region.ready, List.mem_filter]; exact ⟨List.mem_range.2 (by show 9 < 10; decide), by simp [bs, Region.binds, k0, k1, k2, k3, k4, k5, k6, k7, k8, k9]⟩)
        exfalso
        simp only [left, k0, k1, k2, k3, k4, k5, k6, k7, k8, k9, Bool.not_true, Bool.toNat_false] at hf
        omega
      · intro v' w' ho hg
        have hg' : Below w.heap.size w w' := (HBEL.out.drew).grown hg HBEL.out.drew.size (fun j hj => (HOWN.out.lt j hj).1)
        have HO' := Lib.hid ho
        have HG' := Lib.hid hg'
        clear ho hg hg'
        go_wp2
        go_roundw
        case rel => exact ⟨k + 1, by omega, by go_num, by rw [HSU.out]; exact HO'.out, HG'.out⟩
        case measure => (simp [intOf] <;> omega)
    · have ht : h.toList.take k = h.toList := List.take_of_length_le (by simp; omega)
      have hb := HOWN.out.bytes
      rw [ht] at hb
      have HBY := Lib.hid hb
      clear hb ht
      go_wp2_with (refine wpList_bs rfl 94 9 _ rfl _ Tryz.underlying94 Tryz.underlying5 Tryz.underlying9 _ ?_ rfl ?_ ?_; rotate_left; focus exact HBY.out)
      go_ret
      exact ⟨rfl, HBEL.out⟩
end Go.Proofs.YtefccfakhgdfbabGreatDoor
end
