/- The walk of merkle.gather over the entries' ranges. -/
import Derived.Test.YtefccfakhgdfbaaDoorTree
import Derived.Test.YtefccfakhgdfbaaDoorHashes
import Derived.Test.YtefccfakhgdfbaaDoorPathPlain
import Derived.Deep.RegionWith
namespace Go.Proofs.YtefccfakhgdfbaaDoor
open Go.RowKit
/-- 's = append(s, u)' of one element of some cells, onto a row of the call's own: the element lies in a new block. -/
theorem wpList_appC {P : Program} {ops : Array Oper} {rest : List Oper} {o : Oper} {a : Act} {Q : Exit → Act → World → Prop} {w : World} (hgd : o.guard = none) (s x : Operand) (t : TypeId)
    (ho : o.op = .call { callee := .builtin .append, args := #[s, x], argTypes := #[t, t] })
    (base : Nat) (e : TypeId) (i : TypeInfo) (z : Value) (size bytes : Nat) (ht : P.underlying t = some (.slice e)) (hi : P.info? e = some i) (hz : i.zero = some z)
    (hsize : i.size = size) (hby : i.bytes = bytes) (hzs : z.cells.size = size) (hsz : 0 < size) (hbb : bytes ≤ 64)
    (v : Value) (n : Nat) (xs : List Value) (hs : a.eval s = v) (hown : w.ownsRow base e size v n xs) (cs : Array Value) (hcs : cs.size = size) (h1 : ∀ u ∈ cs.toList, u.oneCell' = true)
    (hx : a.eval x = .slice (some ⟨w.heap.size, 0, none⟩) 1 1)
    (hn : n ≤ 1099511627776) (hbase : base ≤ w.heap.size)
    (h : ∀ v' w', w'.ownsRow base e size v' (n + 1) (xs ++ cs.toList) → w.grownBy w' v.ownBlock → (v' ≠ .slice none 0 0) → wpList P ops Q rest (a.put o.dst v') w') :
    wpList P ops Q (o :: rest) a (w.alloc (.cells cs e)) := by
  refine wpList_append_own _ hgd s x t ho base e i z size bytes ht hi hz hsize hby hzs hsz v n xs hs (hown.alloc _) ⟨w.heap.size, 0, none⟩ 1 1 cs.toList hx (by simpa using hcs) (fun j u hu => ?_) h1 (by unfold maxLen; omega) ?_ (by simp; omega) fun v' w' h2 h3 h4 => ?_
  · rw [Addr.add_lit, World.cell?_alloc_at _ _ _ _ rfl]
    simpa using hu
  · refine Nat.le_trans (Nat.mul_le_mul_left _ hbb) ?_
    omega
  · exact h v' w' h2 (grownBy_trans (World.grownBy_alloc w _ _) h3) (by simp [h4])
/-- A row of pairs of numbers. -/
def rsCells (rs : List (Nat × Nat)) : List Value := rs.flatMap fun x => [.int .i64 x.1, .int .i64 x.2]
def OwnRs (w : World) (base : Nat) (v : Value) (rs : List (Nat × Nat)) : Prop := w.ownsRow base 99 2 v rs.length (rsCells rs)
theorem rsCells_len (rs : List (Nat × Nat)) : (rsCells rs).length = 2 * rs.length := by
  induction rs with
  | nil => rfl
  | cons x rs ih => simp only [rsCells, List.flatMap_cons, List.length_append, List.length_cons, List.length_nil] at *; omega
theorem rsCells_get (rs : List (Nat × Nat)) : ∀ (k : Nat) (x : Nat × Nat), rs[k]? = some x → (rsCells rs)[k * 2]? = some (.int .i64 x.1) ∧ (rsCells rs)[k * 2 + 1]? = some (.int .i64 x.2) := by
  induction rs with
  | nil => intro k x h; simp at h
  | cons y rs ih =>
    intro k x h
    cases k with
    | zero => simp only [List.getElem?_cons_zero, Option.some.injEq] at h; subst h; exact ⟨rfl, rfl⟩
    | succ k =>
      have := ih k x (by simpa using h)
      rw [show (k + 1) * 2 = k * 2 + 1 + 1 by omega]
      simpa [rsCells] using this
theorem info_two : (Tryd.prog.info? 99).map (fun i => (i.zero, i.size, i.bytes)) = some (some (.agg #[.int .i64 0, .int .i64 0]), 2, 16) := by kernel_rfl
section
attribute [local go_sem] h8_0 h8_1 h8_2 h8_3 h8_4 h8_5 h8_6 h8_7 h8_fold h8_size run_store8
theorem range_call {w W : World} {g1 g3 : Nat} {ls : List (List UInt8)} (h : RangeOf w (.func (.func 93) #[] #[.pointer (some ⟨g1, 0, none⟩), .pointer (some ⟨g3, 0, none⟩)]) ls) (hb : Below w.heap.size w W) (x : Nat × Nat) (h1 : x.1 < x.2) (h2 : x.2 ≤ ls.length)
    (hl : ls.length ≤ 1048576) (hs : ∀ l ∈ ls, l.length ≤ 9223372036854775807) :
    Calls Tryd.prog 93 #[.int .i64 x.1, .int .i64 x.2, .pointer (some ⟨g1, 0, none⟩), .pointer (some ⟨g3, 0, none⟩)] W fun e w' => e = .returned (.tuple #[.agg (h8 (rootOf (part ls x.1 x.2))), .nilIface]) ∧ Below W.heap.size W w' := by
  obtain ⟨e1, e3, g1', g3', v, h0, c1, c3, hbs, d1, d3⟩ := h.below hb
  simp only [Value.func.injEq, true_and] at h0
  have h0' := h0
  simp at h0'
  obtain ⟨rfl, rfl⟩ := h0'
  exact whole1_any (x.2 - x.1) x.1 (x.2 - x.1) x.1 x.2 e1 e3 g1 g3 v ls W rfl (by omega) (Nat.le_refl _) (by omega) (by omega) hl hs c1 c3 hbs d1 d3
set_option maxHeartbeats 2000000 in
theorem gather_any (rv v : Value) (rs : List (Nat × Nat)) (ls : List (List UInt8)) (w : World) (h : RangeOf w rv ls) (hr : Cells w v rs.length (rsCells rs)) (hrs : ∀ x ∈ rs, x.1 < x.2 ∧ x.2 ≤ ls.length) (hn : rs.length ≤ 1048576)
    (hl : ls.length ≤ 1048576) (hs : ∀ l ∈ ls, l.length ≤ 9223372036854775807) :
    Calls Tryd.prog 71 #[rv, v] w fun e w' => ∃ v', e = .returned (.tuple #[v', .nilIface]) ∧ OwnHs w' w.heap.size v' (rs.reverse.map fun x => rootOf (part ls x.1 x.2)) ∧ Below w.heap.size w w' := by
  obtain ⟨a, c, rfl, hcap, hc⟩ := hr
  obtain ⟨g1, g3, rfl⟩ : ∃ g1 g3, rv = .func (.func 93) #[] #[.pointer (some ⟨g1, 0, none⟩), .pointer (some ⟨g3, 0, none⟩)] := by obtain ⟨_, _, g1, g3, _, h0, _⟩ := h; exact ⟨g1, g3, h0⟩
  have HC := Lib.hid hc
  have HR := Lib.hid h
  have HRS := Lib.hid hrs
  have HS' := Lib.hid hs
  obtain ⟨i0, hi, hz0, hz1, hz2⟩ := info_parts info_hash
  rw [← h8_zero] at hz0
  have HZ := Lib.hid hz0
  clear hc h hrs hs hz0
  go_enter Tryd.func71, Tryd.ntmps71
  go_wp2
  go_loopw [6, 7] (fun v i wr => ∃ j : Int, -1 ≤ j ∧ j < rs.length ∧ i = .int .i64 j ∧ OwnHs wr w.heap.size v ((rs.drop (j + 1).toNat).reverse.map fun x => rootOf (part ls x.1 x.2)) ∧ Below w.heap.size w wr) (fun _ i _ => (intOf i + 1).toNat)
  case atStart =>
    refine ⟨_, by omega, by omega, rfl, ?_, Below.refl _ _⟩
    rw [show ((rs.length : Int) - 1 + 1).toNat = rs.length by omega, List.drop_length]
    exact World.ownsRow_nil _ _ _ _
  case round =>
    obtain ⟨j, hj0, hj1, rfl, hown, hbel⟩ := hrel
    by_cases hge : 0 ≤ j
    · obtain ⟨k, rfl⟩ : ∃ k : Nat, j = k := ⟨j.toNat, by omega⟩
      have hk : k < rs.length := by omega
      obtain ⟨x, hx⟩ : ∃ x, rs[k]? = some x := ⟨_, List.getElem?_eq_getElem hk⟩
      obtain ⟨gx1, gx2⟩ := rsCells_get rs k x hx
      obtain ⟨b, off, rfl, hc1⟩ := HC.out _ _ gx1
      obtain ⟨b', off', hbo, hc2⟩ := HC.out _ _ gx2
      cases hbo
      have hb0 := cell_lt hc1
      have d1 : wr.cell? ⟨b, off + k * 2, none⟩ = some (.int .i64 x.1) := (hbel.cell (p := ⟨b, off + k * 2, none⟩) hb0).trans hc1
      have d2 : wr.cell? ⟨b, off + k * 2 + 1, none⟩ = some (.int .i64 x.2) := (hbel.cell (p := ⟨b, off + k * 2 + 1, none⟩) hb0).trans hc2
      have hxm := HRS.out x (List.mem_of_getElem? hx)
      have hRr := HR.out.below hbel
      have hstep : (rs.drop k).reverse.map (fun x => rootOf (part ls x.1 x.2)) = (rs.drop (k + 1)).reverse.map (fun x => rootOf (part ls x.1 x.2)) ++ [rootOf (part ls x.1 x.2)] := by
        rw [List.drop_eq_getElem_cons hk, List.reverse_cons, List.map_append]
        have : rs[k] = x := by rw [List.getElem?_eq_getElem hk] at hx; exact Option.some.inj hx
        rw [this]; rfl
      have hlen : ((rs.drop (k + 1)).reverse.map (fun x => rootOf (part ls x.1 x.2))).length ≤ 1048576 := by simp; omega
      rw [show ((k : Int) + 1).toNat = k + 1 by omega] at hown
      have hbr := cell_lt d1
      obtain ⟨done, hdone⟩ : ∃ d, d = (rs.drop (k + 1)).reverse.map (fun x => rootOf (part ls x.1 x.2)) := ⟨_, rfl⟩
      rw [← hdone] at hown hstep hlen
      obtain ⟨y, hy⟩ : ∃ y, y = rootOf (part ls x.1 x.2) := ⟨_, rfl⟩
      have CALL := Lib.hid (fun W (hb : Below wr.heap.size wr W) => range_call hRr hb x hxm.1 hxm.2 hl HS'.out)
      rw [← hy] at CALL hstep
      have HST := Lib.hid hstep
      have HO := Lib.hid hown
      have HB := Lib.hid hbel
      clear hx gx1 gx2 hc1 hc2 hxm hRr hstep hown hbel hdone hy
      obtain ⟨p, q⟩ := x
      simp only at d1 d2 CALL
      go_wp2_with fail
      go_region_with (go_at_call 93; (first | (refine (CALL.out _ (below_drew _)).mono ?_; rintro e w1 ⟨rfl, hb1⟩; have k2 := (below_drew wr).trans (hb1.mono (below_drew wr).size); have i1 : Is8 (w1.alloc (.cells #[.int .u8 0, .int .u8 0, .int .u8 0, .int .u8 0, .int .u8 0, .int .u8 0, .int .u8 0, .int .u8 0] 62)) w1.heap.size := Is8_zero rfl; have E1 := Lib.hid (hashOf_set' i1 y); have E2 := Lib.hid (below_setRow (k2.alloc k2.size (.cells #[.int .u8 0, .int .u8 0, .int .u8 0, .int .u8 0, .int .u8 0, .int .u8 0, .int .u8 0, .int .u8 0] 62)) k2.size (h8 y)); clear hb1 k2) | (refine (CALL.out _ ((below_alloc _ _).drew)).mono ?_; rintro e w1 ⟨rfl, hb1⟩; have k2 := (below_alloc wr (.cells #[.int .u8 0, .int .u8 0, .int .u8 0, .int .u8 0, .int .u8 0, .int .u8 0, .int .u8 0, .int .u8 0] 62)).drew.trans (hb1.mono (below_alloc wr (.cells #[.int .u8 0, .int .u8 0, .int .u8 0, .int .u8 0, .int .u8 0, .int .u8 0, .int .u8 0, .int .u8 0] 62)).drew.size); have i1 : Is8 w1 wr.heap.size := ⟨zero8, hashOf_below (hashOf_drew (hashOf_zero' rfl)) hb1⟩; have E1 := Lib.hid (hashOf_set' i1 y); have E2 := Lib.hid (below_setRow k2 (Nat.le_refl _) (h8 y)); clear hb1 k2)))
      all_goals
        have e1 := E1.out
        have HO2 := Lib.hid (ownsRow_below HO.out E2.out)
        have hbase := Nat.le_trans HB.out.size E2.out.size
        clear i1
        go_wp2_with (first | (refine wpList_load8 rfl 62 _ rfl _ rfl _ Tryd.underlying62 info8 ?_ ?_ ?_; rotate_left; focus ((repeat (first | (with_reducible assumption) | ((with_reducible refine hashOf_zero' ?_); (first | rfl | (simp; done) | (simp; omega))) | ((with_reducible refine hashOf_at ?_); (first | rfl | (simp; done) | (simp; omega))) | (with_reducible exact hashOf_set' ⟨_, by assumption⟩ _) | ((with_reducible refine hashOf_set' (Is8_zero ?_) _); (first | rfl | (simp; done) | (simp; omega))) | (with_reducible refine hashOf_old ?_ _) | ((with_reducible refine hashOf_other ?_ _ ?_); rotate_left; (focus (first | (simp; done) | (simp; omega) | omega))) | (with_reducible refine hashOf_drew ?_) | (with_reducible refine hashOf_below ?_ (by assumption)))); done)) | (refine wpList_bs8 rfl 53 _ rfl i0 Tryd.underlying53 hi HZ.out hz1 _ rfl ?_) | (at_builtin; (refine wpList_app8 rfl _ _ 53 rfl w.heap.size i0 Tryd.underlying53 hi HZ.out hz1 hz2 _ _ rfl HO2.out _ rfl (Nat.le_trans hlen (by decide)) hbase ?_); intro v2 w2 hr2 hg2 hne2; have HR2 := Lib.hid hr2; have HG2 := Lib.hid hg2; clear hr2 hg2 hne2))
        go_roundw
        case rel =>
          refine ⟨(k : Int) - 1, by omega, by omega, rfl, ?_, ?_⟩
          · rw [show ((k : Int) - 1 + 1).toNat = k by omega, HST.out]
            exact HR2.out
          · exact ((HB.out.trans (E2.out.mono HB.out.size)).grown HG2.out hbase (fun j hj => (HO2.out.lt j hj).1))
        case measure => (simp [intOf] <;> omega)
    · obtain rfl : j = -1 := by omega
      go_wp2
      go_ret2
      refine ⟨_, rfl, ?_, hbel⟩
      simpa using hown
end
end Go.Proofs.YtefccfakhgdfbaaDoor
