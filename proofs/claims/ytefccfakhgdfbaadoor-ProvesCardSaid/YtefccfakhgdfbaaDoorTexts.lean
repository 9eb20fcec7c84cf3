/- The walk of plain.texts: hashes as texts; the list is turned. -/
import Derived.Test.YtefccfakhgdfbaaDoorHashes
import Derived.Laws.CopyRow
namespace Go.Proofs.YtefccfakhgdfbaaDoor
open Go.RowKit
/-- A store of eight cells into a block that bears them. -/
theorem wpList_storeAt8 {P : Program} {ops : Array Oper} {rest : List Oper} {o : Oper} {a : Act} {Q : Exit → Act → World → Prop} {w : World} (hw : Region.wanted o (yielded ops a.tmps) = true) (ty : TypeId) (x y : Operand) (ho : o.op = .store ty x y)
    (g off : Nat) (hx : a.eval x = .pointer (some ⟨g, off, none⟩)) (cs : Array Value) (hy : a.eval y = .agg cs) (hcs : cs.size = 8) (h1 : ∀ u ∈ cs.toList, u.oneCell' = true) (hi : (P.info? ty).map (·.size) = some 8)
    (cur : Array Value) (t : TypeId) (hg : w.heap[g]? = some (.cells cur t (0, 0))) (hl : off + 8 ≤ cur.size)
    (hk : ∀ cur' : Array Value, cur'.size = cur.size → (∀ j, off + 8 ≤ j → cur'[j]? = cur[j]?) → wpList P ops Q rest (a.put o.dst undef) (w.setRow g cur')) : wpList P ops Q (o :: rest) a w := by
  refine BigFrame.wpList_want hw fun K' hK' => ?_
  have hrun := run_storeCells_at (P := P) g off t cs.toList 0 cur w hg (by simp [hcs]; omega) h1
  have hr : (storeVar ty ⟨g, off, none⟩ (.agg cs)).run P w = .ok () (w.setRow g (cur.toList.take (off + 0) ++ cs.toList ++ cur.toList.drop (off + 0 + cs.toList.length)).toArray) := by
    cases hq : P.info? ty with
    | none => simp [hq] at hi
    | some i =>
      have hs : i.size = 8 := by simpa [hq] using hi
      have hrun' := hrun
      simp only [Nat.add_zero] at hrun'
      simp [storeVar, sizeOf, typeInfo, hq, Value.cells, hs, hcs, hrun']
  unfold Oper.wp execOp
  simp only [ho, hx, hy, Instr.storeAt, Instr.sureAddr, Sem.run_bind, Sem.run_pure, Result.andThen_ok, hr]
  refine hK' _ _ (hk _ ?_ ?_)
  · simp [hcs]; omega
  · intro j hj
    have hc8 : cs.toList.length = 8 := by simpa using hcs
    rw [List.getElem?_toArray, Nat.add_zero, List.getElem?_append_right (by simp [hcs]; omega)]
    rw [List.getElem?_drop, ← Array.getElem?_toList]
    congr 1
    simp [hcs]
    omega
/-- A row of the call's own with n hashes' room, of which those from k on are hs'. -/
def Tail8 (w : World) (base : Nat) (v : Value) (hs : List Hsh) (k : Nat) : Prop :=
  ∃ (g cap : Nat) (cur : Array Value), v = .slice (some ⟨g, 0, none⟩) hs.length cap ∧ base ≤ g ∧ w.heap[g]? = some (.cells cur 62 (0, 0)) ∧ hs.length ≤ cap ∧ hs.length * 8 ≤ cur.size ∧
    ∀ (j : Nat) (h : Hsh), k ≤ j → hs[j]? = some h → ∀ (m : Nat) (hm : m < 8), cur[j * 8 + m]? = some (u8 h[m])
theorem flat_at (hs : List Hsh) : ∀ (j : Nat) (h : Hsh), hs[j]? = some h → ∀ (m : Nat) (hm : m < 8), (hs.flatMap fun h => (h8 h).toList)[j * 8 + m]? = some (u8 h[m]) := by
  induction hs with
  | nil => intro j h hj; simp at hj
  | cons x hs ih =>
    intro j h hj m hm
    have hx : (h8 x).toList.length = 8 := by simp
    cases j with
    | zero =>
      simp only [List.getElem?_cons_zero, Option.some.injEq] at hj
      subst hj
      rw [List.flatMap_cons, List.getElem?_append_left (by omega)]
      simp [h8, hm]
    | succ j =>
      rw [List.flatMap_cons, List.getElem?_append_right (by omega), hx, show (j + 1) * 8 + m - 8 = j * 8 + m by omega]
      exact ih j h (by simpa using hj) m hm
theorem OwnHs.tail {w : World} {base : Nat} {v : Value} {hs : List Hsh} (h : OwnHs w base v hs) : (v = .slice none 0 0 ∧ hs = []) ∨ Tail8 w base v hs 0 := by
  obtain ⟨h1, h2⟩ := h
  rcases h2 with ⟨rfl, h0⟩ | ⟨g, cap, cur, rfl, hb, hg, hn, hc, hsz, ht⟩
  · exact .inl ⟨rfl, List.eq_nil_of_length_eq_zero h0⟩
  · refine .inr ⟨g, cap, cur, rfl, hb, hg, hn, by omega, fun j h _ hj m hm => ?_⟩
    have := flat_at hs j h hj m hm
    rw [← ht, List.getElem?_take] at this
    split at this
    · simpa using this
    · cases this
theorem tail8_bytes {w : World} {g k : Nat} {cur : Array Value} {x : Hsh} {t : TypeId} (hg : w.heap[g]? = some (.cells cur t (0, 0))) (hall : ∀ (m : Nat) (hm : m < 8), cur[k * 8 + m]? = some (u8 x[m])) : BytesAt w (.slice (some ⟨g, k * 8, none⟩) 8 8) x.toList := by
  unfold BytesAt
  refine ⟨_, 8, by simp, by simp, fun j y hy => ⟨g, k * 8, rfl, ?_⟩⟩
  have hj : j < 8 := by have := (List.getElem?_eq_some_iff.1 hy).1; simpa using this
  have h1 := hall j hj
  rw [show (x.toList.map u8)[j]? = some (u8 x[j]) by simp [hj]] at hy
  cases hy
  simp [World.cell?, hg, h1]
theorem ownsRow_setRow_other {w : World} {base g : Nat} {e e' : TypeId} {size n : Nat} {v : Value} {xs : List Value} {cur : Array Value} {fz : Nat × Nat} (h : w.ownsRow base e size v n xs) (hg : w.heap[g]? = some (.cells cur e' fz)) (hne : e' ≠ e) (cs : Array Value) : (w.setRow g cs).ownsRow base e size v n xs := by
  obtain ⟨h1, h2⟩ := h
  refine ⟨h1, ?_⟩
  rcases h2 with h2 | ⟨b, cap, cu, hv, hb, hh, r⟩
  · exact .inl h2
  · refine .inr ⟨b, cap, cu, hv, hb, ?_, r⟩
    rw [setRow_other w g b cs (fun e1 => ?_)]
    · exact hh
    · subst e1
      rw [hg] at hh
      simp only [Option.some.injEq, Obj.cells.injEq] at hh
      exact hne hh.2.1
theorem hs_texts_succ {hs : List Hsh} {k : Nat} {h : Hsh} (hh : hs[k]? = some h) : ((hs.take (k + 1)).map HS) = (hs.take k).map HS ++ [HS h] := by
  rw [List.take_add_one, hh]; simp
set_option maxHeartbeats 1000000 in
set_option maxRecDepth 100000 in
theorem texts_any (v : Value) (hs : List Hsh) (base : Nat) (w : World) (h : OwnHs w base v hs) (hbase : base ≤ w.heap.size) (hn : hs.length ≤ 1048576) :
    Calls Tryd.prog 32 #[v] w fun e w' => ∃ v', e = .returned v' ∧ OwnStrs w' w.heap.size v' (hs.map HS) ∧ Below base w w' := by
  rcases h.tail with ⟨rfl, rfl⟩ | ht
  · clear h
    go_enter Tryd.func32, Tryd.ntmps32
    go_wp2
    refine wp_loop_rounds 1 ?_
    rw [rounds_succ]
    go_wp2
    go_ret
    exact ⟨_, rfl, World.ownsRow_nil _ _ _ _, Below.refl _ _⟩
  · obtain ⟨g, cap, cur0, rfl, hbg, hg0, hcap, hsz0, hall0⟩ := ht
    obtain ⟨i0, hi, hz0, hz1, hz2⟩ := info_parts info_str
    have HT := Lib.hid (show Tail8 w base (.slice (some ⟨g, 0, none⟩) hs.length cap) hs 0 from ⟨g, cap, cur0, rfl, hbg, hg0, hcap, hsz0, hall0⟩)
    clear h hall0 hg0 hsz0
    go_enter Tryd.func32, Tryd.ntmps32
    go_wp2
    go_loopw [3, 7] (fun v i wr => ∃ k : Nat, k ≤ hs.length ∧ i = .int .i64 k ∧ OwnStrs wr w.heap.size v ((hs.take k).map HS) ∧ Tail8 wr base (.slice (some ⟨g, 0, none⟩) hs.length cap) hs k ∧ Below base w wr) (fun _ i _ => hs.length - (intOf i).toNat)
    case atStart => exact ⟨0, by omega, rfl, World.ownsRow_nil _ _ _ _, HT.out, Below.refl _ _⟩
    case round =>
      obtain ⟨k, hk, rfl, hown, htl, hbel⟩ := hrel
      by_cases hlt : k < hs.length
      · obtain ⟨x, hx⟩ : ∃ x, hs[k]? = some x := ⟨_, List.getElem?_eq_getElem hlt⟩
        obtain ⟨g', cap', cur, hv, hbg', hg, hcap', hsz, hall⟩ := htl
        simp only [Value.slice.injEq, Option.some.injEq, Addr.mk.injEq, and_true, true_and] at hv
        obtain ⟨rfl, rfl⟩ := hv
        have hbytes := tail8_bytes hg (hall k x (Nat.le_refl _) hx)
        have hgw := lt_of_heap hg
        have hsp : k * 8 + 8 ≤ cur.size := by omega
        have HX := Lib.hid hx
        unfold OwnStrs at hown
        have HR := Lib.hid hown
        have HB := Lib.hid hbel
        have HG := Lib.hid hg
        have HALL := Lib.hid hall
        have HBY := Lib.hid hbytes
        have hwsz : w.heap.size ≤ wr.heap.size := hbel.size
        have hlen : ((hs.take k).map HS).length ≤ 1048576 := by simp; omega
        clear hx hg hall hbytes hown hbel
        go_wp2_with (first | (refine wpList_bs rfl 65 9 _ rfl _ Tryd.underlying65 Tryd.underlying5 Tryd.underlying9 _ ?_ rfl ?_ ?_; rotate_left; focus exact HBY.out) | (at_builtin; refine wpList_app1 rfl _ _ 23 rfl w.heap.size 9 i0 (.string ⟨#[]⟩) 16 Tryd.underlying23 hi hz0 hz1 hz2 rfl (by decide) _ _ _ rfl HR.out _ rfl rfl (Nat.le_trans hlen (by decide)) hwsz ?_; intro v2 w2 hr2 hg2 hne2; have HR2 := Lib.hid hr2; have HG2 := Lib.hid hg2; have hgg := (ownsRow_other HR.out hg2 (by decide) HG.out).trans HG.out; clear hr2 hg2 hne2) | (refine wpList_storeAt8 rfl 62 _ _ rfl g (k * 8) rfl _ rfl rfl (by decide) info8 cur 62 hgg hsp ?_; intro cur' hsz' hcur'; have HS2 := Lib.hid hsz'; have HC2 := Lib.hid hcur'; have HGG := Lib.hid hgg; clear hsz' hcur' hgg))
        go_roundw
        case rel =>
          refine ⟨k + 1, by omega, by go_num, ?_, ?_, ?_⟩
          · rw [hs_texts_succ HX.out]
            unfold OwnStrs
            refine ownsRow_setRow_other ?_ HGG.out (by decide) _
            have hr := HR2.out
            rw [show (⟨x.toList.toArray⟩ : ByteArray) = HS x from rfl] at hr
            simpa using hr
          · exact ⟨g, cap, cur', rfl, hbg, setRow_heap _ g cur _ _ _ HGG.out, hcap, by rw [HS2.out]; exact hsz, fun j h hj hh m hm => (HC2.out (j * 8 + m) (by omega)).trans (HALL.out j h (by omega) hh m hm)⟩
          · exact below_setRow (HB.out.grown HG2.out (Nat.le_trans hbase hwsz) (fun j hj => Nat.le_trans hbase (HR.out.lt j hj).1)) hbg _
        case measure => (simp [intOf] <;> omega)
      · have ht : hs.take k = hs := List.take_of_length_le (by omega)
        rw [ht] at hown
        go_wp2
        go_ret
        exact ⟨_, rfl, hown, hbel⟩
end Go.Proofs.YtefccfakhgdfbaaDoor
