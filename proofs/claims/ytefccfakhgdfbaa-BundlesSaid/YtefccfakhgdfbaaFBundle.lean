/- The walks of files.Bundle, bytes.Clone, tiles.Bundle, plain.Bundle. -/
import Derived.Test.YtefccfakhgdfbaaRBundle
import Derived.Test.YtefccfakhgdfbaaEight
namespace Go.Proofs.Ytefccfakhgdfbaa
open Go.RowKit
/-- 's = append(s, b...)': bytes onto a row of bytes of the call's own. -/
theorem wpList_appB {P : Program} {ops : Array Oper} {rest : List Oper} {o : Oper} {a : Act} {Q : Exit → Act → World → Prop} {w : World} (hgd : o.guard = none) (s x : Operand) (t : TypeId)
    (ho : o.op = .call { callee := .builtin .append, args := #[s, x], argTypes := #[t, t] })
    (base : Nat) (i : TypeInfo) (ht : P.underlying t = some (.slice 5)) (hi : P.info? 5 = some i) (hz : i.zero = some (.int .u8 0)) (hsize : i.size = 1) (hby : i.bytes = 1)
    (v : Value) (n : Nat) (xs : List Value) (hs : a.eval s = v) (hown : w.ownsRow base 5 1 v n xs) (u : Value) (l : List UInt8) (hx : a.eval x = u) (hb : BytesAt w u l)
    (hn : n ≤ 1099511627776) (hl : l.length ≤ 1099511627776) (hbase : base ≤ w.heap.size)
    (h : ∀ v' w', w'.ownsRow base 5 1 v' (n + l.length) (xs ++ l.map u8) → w.grownBy w' v.ownBlock → (v' = .slice none 0 0 ↔ v = .slice none 0 0 ∧ l.length = 0) → wpList P ops Q rest (a.put o.dst v') w') :
    wpList P ops Q (o :: rest) a w := by
  obtain ⟨ad, c, rfl, hcap, hc⟩ := hb
  cases l with
  | nil =>
    refine wpList_plain hgd fun K hK => ?_
    have hr : (Builtin.append_ #[t, t] o.type #[v, .slice ad 0 c]).run P w = .ok v w := by
      rcases hown.2 with ⟨rfl, rfl⟩ | ⟨g, cap, cur, rfl, hbg, hg, hnc, hcm, hcs, htake⟩
      · cases ad <;> simp [Builtin.append_, run_underlying ht, sizeOf, typeInfo, hi, Builtin.lenOf, Builtin.firstCells, loadCells, loadCellsFrom]
      · cases ad <;> simp [Builtin.append_, run_underlying ht, sizeOf, typeInfo, hi, Builtin.lenOf, Builtin.firstCells, loadCells, loadCellsFrom, storeCells, hnc]
    unfold Oper.wp execOp
    simp only [List.length_nil] at hx
    simp only [ho, resolve, invoke, builtin, Sem.run_bind, Sem.run_pure, Result.andThen_ok, List.map_toArray, List.map_cons, List.map_nil, hs, hx, hr]
    exact hK _ _ (h v w (by simpa using hown) ⟨rfl, rfl, rfl, Nat.le_refl _, fun _ _ _ => rfl⟩ (by simp))
  | cons y l =>
    obtain ⟨b, off, rfl, _⟩ := hc 0 (u8 y) (by simp)
    refine wpList_append_own _ hgd s x t ho base 5 i _ 1 1 ht hi hz hsize hby (by simp [Value.cells]) (by decide) v n xs hs hown ⟨b, off, none⟩ (y :: l).length c ((y :: l).map u8) hx (by simp) (fun j q hq => ?_) (fun q hq => ?_) (by unfold maxLen; omega) (by omega) hbase fun v' w' h2 h3 h4 => h v' w' h2 h3 h4
    · obtain ⟨b', off', heq, hcell⟩ := hc j q hq
      cases heq
      rw [Addr.add_lit]
      exact hcell
    · obtain ⟨z, _, rfl⟩ := List.mem_map.1 hq
      rfl
theorem ownsRow_bytes {w : World} {base : Nat} {v : Value} {n : Nat} {l : List UInt8} (h : w.ownsRow base 5 1 v n (l.map u8)) : OwnBytes w base v l := by
  have hn : l.length = n := by simpa using h.1
  subst hn
  rcases h.2 with ⟨rfl, h0⟩ | ⟨g, cap, cur, rfl, hb, hg, hnc, hcm, hcs, ht⟩
  · exact .inl ⟨rfl, List.eq_nil_of_length_eq_zero h0⟩
  · refine .inr ⟨g, 0, cap, cur, (0, 0), rfl, hnc, hb, hg, fun j x hx => ?_, by omega, .inl rfl⟩
    have : (l.map u8)[j]? = some (u8 x) := by rw [List.getElem?_map, hx]; rfl
    rw [← ht, List.getElem?_take] at this
    split at this
    · rw [Nat.zero_add]; simpa using this
    · cases this
set_option maxHeartbeats 800000 in
theorem clone_any (v : Value) (l : List UInt8) (w : World) (h : BytesAt w v l) (hl : l.length ≤ 1099511627776) :
    Calls Try.prog 45 #[v] w fun e w' => ∃ v', e = .returned v' ∧ OwnBytes w' w.heap.size v' l ∧ Below w.heap.size w w' := by
  obtain ⟨i0, hi, hz0, hz1, hz2⟩ := info_parts info_u8
  obtain ⟨a, c, rfl⟩ : ∃ a c, v = .slice a l.length c := by obtain ⟨a, c, h1, _, _⟩ := h; exact ⟨a, c, h1⟩
  have HH := Lib.hid h
  clear h
  cases a with
  | none =>
    have h0 : l = [] := by
      obtain ⟨a, c, h1, _, h2⟩ := HH.out
      cases l with
      | nil => rfl
      | cons x l =>
        obtain ⟨b, off, h3, _⟩ := h2 0 (u8 x) (by simp)
        simp only [Value.slice.injEq] at h1
        rw [h3] at h1
        exact absurd h1.1 (by simp)
    subst h0
    have hq := fun w => Lib.run_eql_slice_nil (P := Try.prog) w 35 5 none 0 c 0 0 Try.underlying35
    go_enter Try.func45, Try.ntmps45
    go_wp2
    go_ret
    exact ⟨_, rfl, .inl ⟨rfl, rfl⟩, Below.refl _ _⟩
  | some ad =>
    have hq := fun w => Lib.run_eql_slice_nil (P := Try.prog) w 35 5 (some ad) l.length c 0 0 Try.underlying35
    go_enter Try.func45, Try.ntmps45
    go_wp2_with (first | (at_builtin; refine wpList_appB rfl _ _ 35 rfl w.heap.size i0 Try.underlying35 hi hz0 hz1 hz2 _ 0 [] rfl ⟨rfl, .inr ⟨w.heap.size, 0, #[], rfl, Nat.le_refl _, heap_alloc_new' _ _ _ rfl, Nat.le_refl _, by unfold maxLen; omega, rfl, rfl⟩⟩ _ l rfl (HH.out.below (below_alloc w _)) (by omega) hl (by simp) ?_; intro v2 w2 hr2 hg2 hne2; have HR2 := Lib.hid hr2; have HG2 := Lib.hid hg2; clear hr2 hg2 hne2))
    go_ret
    refine ⟨_, rfl, ownsRow_bytes (by simpa using HR2.out), (below_alloc w _).grown HG2.out (by simp) (fun k hk => Nat.le_of_eq (Option.some.inj hk))⟩
/-- What files.Bundle answers: nil, or the bytes in a new row that is not nil. -/
def fbPost (ls : List (List UInt8)) (w : World) (e : Ending) (w' : World) : Prop :=
  ∃ v', e = .returned v' ∧ Below w.heap.size w w' ∧ ((bundleOf ls = none ∧ v' = .slice none 0 0) ∨ ∃ l, bundleOf ls = some l ∧ OwnBytes w' w.heap.size v' l ∧ ∃ a n c, v' = .slice (some a) n c)
theorem enc_len {ls : List (List UInt8)} {k : Nat} (h : ∀ (j : Nat) (l : List UInt8), j < k → ls[j]? = some l → l.length ≤ 20) : ((ls.take k).flatMap encE).length ≤ 21 * k := by
  induction k with
  | zero => simp
  | succ k ih =>
    have h1 := ih (fun j l hj hl => h j l (by omega) hl)
    rw [List.take_add_one, List.flatMap_append, List.length_append]
    cases hk : ls[k]? with
    | none =>
      have e : (List.flatMap encE (none : Option (List UInt8)).toList).length = 0 := rfl
      omega
    | some l =>
      have := h k l (by omega) hk
      have e : (List.flatMap encE (some l).toList).length = l.length + 1 := by simp [encE]
      omega
theorem ne_nil_slice {v : Value} {w : World} {base : Nat} {e : TypeId} {size n : Nat} {xs : List Value} (h : w.ownsRow base e size v n xs) (hv : v ≠ .slice none 0 0) : ∃ a n c, v = .slice (some a) n c := by
  rcases h.2 with ⟨rfl, _⟩ | ⟨g, cap, cur, rfl, _⟩
  · exact absurd rfl hv
  · exact ⟨_, _, _, rfl⟩
set_option maxHeartbeats 1000000 in
theorem fbundle_any (v : Value) (ls : List (List UInt8)) (w : World) (h : BssAt w v ls) (hn : ls.length ≤ 1099511627776) :
    Calls Try.prog 38 #[v] w (fbPost ls w) := by
  obtain ⟨vs, hlen, ⟨a, c, rfl, hcap, hc⟩, hall⟩ := h
  obtain ⟨i0, hi, hz0, hz1, hz2⟩ := info_parts info_u8
  by_cases h0 : ls.length = 0
  · have hd : ((ls.length : Int) == 0) = true := by simp [h0]
    clear hc hall
    go_enter Try.func38, Try.ntmps38
    go_wp2
    go_ret
    exact ⟨_, rfl, Below.refl _ _, .inl ⟨bundle_none (.inl h0), rfl⟩⟩
  · have hd : ((ls.length : Int) == 0) = false := by rw [beq_eq_false_iff_ne]; omega
    by_cases h4 : 4 < ls.length
    · have hd2 : decide (4 < (ls.length : Int)) = true := by simp; omega
      clear hc hall
      go_enter Try.func38, Try.ntmps38
      go_wp2
      go_ret
      exact ⟨_, rfl, Below.refl _ _, .inl ⟨bundle_none (.inr h4), rfl⟩⟩
    · have hd2 : decide (4 < (ls.length : Int)) = false := by simp; omega
      have HC := Lib.hid hc
      have HA := Lib.hid hall
      have HL := Lib.hid hlen
      clear hc hall hlen
      go_enter Try.func38, Try.ntmps38
      go_wp2
      go_loopw [3, 16] (fun v i wr => ∃ k : Nat, k ≤ ls.length ∧ i = .int .i64 k ∧ wr.ownsRow w.heap.size 5 1 v ((ls.take k).flatMap encE).length (((ls.take k).flatMap encE).map u8) ∧ (k = 0 ∨ v ≠ .slice none 0 0) ∧ (∀ (j : Nat) (l : List UInt8), j < k → ls[j]? = some l → l.length ≤ 20) ∧ Below w.heap.size w wr) (fun _ i _ => ls.length - (intOf i).toNat)
      case atStart => exact ⟨0, by omega, rfl, World.ownsRow_nil _ _ _ _, .inl rfl, by omega, Below.refl _ _⟩
      case round =>
        obtain ⟨k, hk, rfl, hown, hnn, hsm, hbel⟩ := hrel
        have hlen2 := enc_len hsm
        have HR := Lib.hid hown
        have HN := Lib.hid hnn
        have HS := Lib.hid hsm
        have HB := Lib.hid hbel
        clear hnn hsm hown
        by_cases hlt : k < ls.length
        · obtain ⟨l, hl⟩ : ∃ s, ls[k]? = some s := ⟨_, List.getElem?_eq_getElem hlt⟩
          obtain ⟨u, hu⟩ : ∃ s, vs[k]? = some s := ⟨_, List.getElem?_eq_getElem (by rw [HL.out]; exact hlt)⟩
          obtain ⟨b, off, rfl, hcell0⟩ := HC.out k u hu
          have hba0 := HA.out k u l hu hl
          have hle : Below w.heap.size w wr := hbel
          have hcell : wr.cell? ⟨b, off + k, none⟩ = some u := (hbel.cell (p := ⟨b, off + k, none⟩) (cell_lt hcell0)).trans hcell0
          have hba : BytesAt wr u l := hba0.below hbel
          obtain ⟨a2, c2, rfl⟩ : ∃ a c, u = .slice a l.length c := by obtain ⟨a, c, h1, _, _⟩ := hba; exact ⟨a, c, h1⟩
          have HBA := Lib.hid hba0
          have HK := Lib.hid hl
          clear hu hcell0 hba0 hle hbel hba hl
          by_cases hlong : 20 < l.length
          · go_wp2
            go_ret
            exact ⟨_, rfl, HB.out, .inl ⟨bundle_long HK.out hlong, rfl⟩⟩
          · go_wp2_with (first | (at_builtin; refine wpList_app1 rfl _ _ 35 rfl w.heap.size 5 i0 (.int .u8 0) 1 Try.underlying35 hi hz0 hz1 hz2 rfl (by decide) _ _ _ rfl HR.out _ rfl rfl (by omega) HB.out.size ?_; intro v2 w2 hr2 hg2 hne2; have HR2 := Lib.hid hr2; have HG2 := Lib.hid hg2; have HN2 := Lib.hid hne2; clear hr2 hg2 hne2) | (at_builtin; go_loud (refine wpList_appB rfl _ _ 35 rfl w.heap.size i0 Try.underlying35 hi hz0 hz1 hz2 _ _ _ rfl HR2.out _ l rfl (HBA.out.below (HB.out.grown HG2.out HB.out.size (fun j hj => (HR.out.lt j hj).1))) (by omega) (by omega) (Nat.le_trans HB.out.size HG2.out.size) ?_); intro v3 w3 hr3 hg3 hne3; have HR3 := Lib.hid hr3; have HG3 := Lib.hid hg3; have HN3 := Lib.hid hne3; clear hr3 hg3 hne3))
            have hb2 : Below w.heap.size w w2 := HB.out.grown HG2.out HB.out.size (fun j hj => (HR.out.lt j hj).1)
            go_roundw
            case rel =>
              refine ⟨k + 1, by omega, by go_num, ?_, .inr ?_, fun j l' hj hl' => ?_, hb2.grown HG3.out hb2.size (fun j hj => (HR2.out.lt j hj).1)⟩
              · have e : (ls.take (k + 1)).flatMap encE = (ls.take k).flatMap encE ++ encE l := by rw [List.take_add_one, HK.out, List.flatMap_append]; simp
                have e2 : ((ls.take k).flatMap encE ++ encE l).map u8 = ((ls.take k).flatMap encE).map u8 ++ [Value.int .u8 (l.length : Int)] ++ l.map u8 := by
                  rw [u8_small _ (by omega)]
                  simp [encE]
                rw [e, e2, show ((ls.take k).flatMap encE ++ encE l).length = ((ls.take k).flatMap encE).length + 1 + l.length from by simp [encE]; omega]
                exact HR3.out
              · intro h
                exact HN2.out (HN3.out.1 h).1
              · by_cases hjk : j = k
                · subst hjk
                  rw [HK.out] at hl'
                  cases hl'
                  omega
                · exact HS.out j l' (by omega) hl'
            case measure => simp [intOf]; omega
        · have ht : ls.take k = ls := List.take_of_length_le (by omega)
          have hb := bundle_some (ls := ls) h0 (by omega) (fun j l hj => HS.out j l (by have := (List.getElem?_eq_some_iff.1 hj).1; omega) hj)
          have HH := HR.out
          rw [ht] at HH
          go_wp2
          go_ret
          exact ⟨_, rfl, HB.out, .inr ⟨_, hb, ownsRow_bytes HH, ne_nil_slice HH (HN.out.resolve_left (by omega))⟩⟩
end Go.Proofs.Ytefccfakhgdfbaa
