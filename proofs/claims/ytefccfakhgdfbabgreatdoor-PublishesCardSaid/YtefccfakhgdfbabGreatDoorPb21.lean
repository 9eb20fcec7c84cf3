/-
  (*Log).grow: a leaf more; hashes of higher levels that are whole then. Conditions: fewer than 2^40 hashes on each level, fewer than 2^20 levels.
-/
import Derived.Test.YtefccfakhgdfbabGreatDoorPb07
import Derived.Test.YtefccfakhgdfbabGreatDoorPb04
import Derived.Test.YtefccfakhgdfbabGreatDoorPb14
import Derived.Test.YtefccfakhgdfbabGreatDoorPb12
import Derived.Deep.Cut
import Derived.Deep.CutRange
import Derived.Deep.RegionHeld3
set_option linter.unusedVariables false
set_option linter.unusedSimpArgs false
section
namespace Go.Proofs.YtefccfakhgdfbabGreatDoor
open Go.RowKit
theorem info_hs : ∃ i, Tryz.prog.info? 104 = some i ∧ i.zero = some (.slice none 0 0) ∧ i.size = 1 ∧ i.bytes = 24 := by
  have h : (Tryz.prog.info? 104).map (fun i => (i.zero, i.size, i.bytes)) = some (some (.slice none 0 0), 1, 24) := by kernel_rfl
  cases hi : Tryz.prog.info? 104 with
  | none => rw [hi] at h; simp at h
  | some i => rw [hi] at h; simp at h; exact ⟨i, rfl, h.1, h.2.1, h.2.2⟩
theorem hf_hash {w w' : World} {q : Nat} {y : Hsh} {S : Nat → Prop} (hy : hashOf w q y) (hf : Fr S w w') (hS : ¬ S q) : hashOf w' q y := hf.heap hy hS
theorem Fr.setRow (w : World) (g : Nat) (cs : Array Value) : Fr (· = g) w (w.setRow g cs) := ⟨rfl, rfl, rfl, by simp, fun b hb hn => setRow_other w g b cs hn⟩
theorem grow_push (h : Hsh) : growP [] h = growP [[]] h := by simp [growP]
theorem info_h : ∃ i, Tryz.prog.info? 109 = some i ∧ i.zero = some (.agg (h8 zero8)) ∧ i.size = 8 ∧ i.bytes = 8 := by
  have h : (Tryz.prog.info? 109).map (fun i => (i.zero, i.size, i.bytes)) = some (some (.agg #[.int .u8 0, .int .u8 0, .int .u8 0, .int .u8 0, .int .u8 0, .int .u8 0, .int .u8 0, .int .u8 0]), 8, 8) := by kernel_rfl
  cases hi : Tryz.prog.info? 109 with
  | none => rw [hi] at h; simp at h
  | some i => rw [hi] at h; simp at h; exact ⟨i, rfl, by rw [h8_zero]; exact h.1, h.2.1, h.2.2⟩
theorem h8_zip (y : Hsh) : Array.foldl (fun (cs : Array Value) (x : Value × Nat) => cs.setIfInBounds x.snd x.fst) #[.int .u8 0, .int .u8 0, .int .u8 0, .int .u8 0, .int .u8 0, .int .u8 0, .int .u8 0, .int .u8 0] (h8 y).zipIdx 0 8 = h8 y := by
  rw [← h8_fold y]
  simp
theorem cells8_new (w : World) (y : Hsh) (t : TypeId) (n : Nat) (hn : n = w.heap.size) : ∀ (j : Nat) (u : Value), (h8 y).toList[j]? = some u → (w.alloc (.cells (h8 y) t)).cell? ((⟨n, 0, none⟩ : Addr).add j) = some u := by
  intro j u hu
  rw [Addr.add_lit, World.cell?_alloc_at _ _ _ _ hn]
  simpa using hu
theorem h8_ones (y : Hsh) : ∀ u ∈ (h8 y).toList, u.oneCell' = true := by
  intro u hu
  have h := h8_one y
  rw [Array.all_eq_true'] at h
  exact h u (by simpa using hu)
section
attribute [local go_sem] h8_0 h8_1 h8_2 h8_3 h8_4 h8_5 h8_6 h8_7 h8_fold h8_size cell_setRow_ne run_store8 h8_zip
set_option maxRecDepth 100000 in
set_option maxHeartbeats 4000000 in
theorem grow_any (w : World) (g gd : Nat) (ve vl vp : Value) (vs : List Value) (L : Lg) (h : LogIs w g gd ve vl vp vs L) (x : Hsh) (hn : L.levels.length < 1048576) (hr : ∀ r ∈ L.levels, r.length < 1099511627776) :
    Calls Tryz.prog 71 #[.pointer (some ⟨g, 0, none⟩), .agg (h8 x)] w fun e w' => e = .returned (.tuple #[]) ∧ ∃ vl' vs', LogIs w' g gd ve vl' vp vs' { L with levels := growP L.levels x } ∧ Fr (LvS g ve vl vp vs) w w' ∧
      Sub w (LvS g ve vl vp vs) (LvS g ve vl' vp vs') := by
  have HH := Lib.hid h
  have hg := lt_of_heap h.cells
  have HN := Lib.hid hn
  have HR := Lib.hid hr
  obtain ⟨i, hi, hz, hs, hby⟩ := info_hs
  have HI := Lib.hid (⟨hi, hz, hs, hby⟩ : _ ∧ _ ∧ _ ∧ _)
  clear hi hz hs hby h hr
  go_enter Tryz.func71, Tryz.ntmps71
  go_wp2
  go_loopg [4, 5, 6] (L.levels.length + 1) (fun gg s4 _ _ wr => ∃ j : Nat, j ≤ L.levels.length ∧ L.levels.length + 1 - j ≤ gg ∧ s4 = .int .i64 j ∧ ∃ vl1 vs1 Lv y, Aside (LogIs wr g gd ve vl1 vp vs1 { L with levels := Lv }) ∧ hashOf wr w.heap.size y ∧
    Lv.length = L.levels.length ∧ Aside (growP L.levels x = Lv.take j ++ growP (Lv.drop j) y) ∧ Aside (∀ (i : Nat) (r : List Hsh), j ≤ i → Lv[i]? = some r → r.length < 1099511627776) ∧ Aside (Fr (LvS g ve vl vp vs) w wr) ∧ Aside (Sub (w.alloc (.cells (h8 x) 109)) (LvS g ve vl vp vs) (LvS g ve vl1 vp vs1)))
  case atStart =>
    refine ⟨0, Nat.zero_le _, by omega, rfl, vl, vs, L.levels, x, HH.out.below (below_alloc _ _), hashOf_new _ _, rfl, ?_, ?_, Fr.ofBelow (below_alloc _ _), Sub.refl _ _⟩
    · show growP L.levels x = _
      simp
    · show ∀ (i : Nat) (r : List Hsh), _ → _ → _
      exact fun i r _ hr => HR.out r (List.mem_of_getElem? hr)
  case round =>
    obtain ⟨j, hj, hgg, rfl, vl1, vs1, Lv, y, HL, hy, hlen, HG, HB, HF, HS⟩ := hrel
    have hd := HL.out.heads
    obtain ⟨⟨_, _, _, c3, _, _⟩, f0⟩ := hd
    obtain ⟨a, c, rfl⟩ := own_any HL.out.rows
    have HY := Lib.hid hy
    have HLE := Lib.hid hlen
    clear hy
    obtain ⟨nl, hnl⟩ : ∃ nl, nl = Lv.length := ⟨_, rfl⟩
    obtain ⟨cj, hlj, hcj⟩ : ∃ cj, ((j : Int) == (nl : Int)) = cj ∧ cj = decide (j = nl) := ⟨_, rfl, by rw [Bool.eq_iff_iff]; simp; omega⟩
    have HCJ := Lib.hid hcj
    clear hcj
    have c3' : wr.cell? ⟨g, 3, none⟩ = some (.slice a nl c) := by rw [hnl]; exact c3
    have HRN := Lib.hid (show ¬ (Value.slice a nl c).ownBlock = some g by rw [hnl]; exact HL.out.rowsNe)
    have HNL := Lib.hid hnl
    clear hlen hnl c3
    go_upto_if 15 with fail
    go_cut [] from 7 to 76 (fun wx => ∃ vl2 vs2 Lv2, Aside (LogIs wx g gd ve vl2 vp vs2 { L with levels := Lv2 }) ∧ hashOf wx w.heap.size y ∧ j < Lv2.length ∧ (Lv2.length = L.levels.length ∨ Lv2[j]? = some []) ∧ Lv2.length ≤ L.levels.length + 1 ∧
      Aside (growP L.levels x = Lv2.take j ++ growP (Lv2.drop j) y) ∧ Aside (∀ (i : Nat) (r : List Hsh), j ≤ i → Lv2[i]? = some r → r.length < 1099511627776) ∧ Aside (Fr (LvS g ve vl vp vs) w wx) ∧ Aside (Sub (w.alloc (.cells (h8 x) 109)) (LvS g ve vl vp vs) (LvS g ve vl2 vp vs2)))
    case first =>
      cases cj with
      | true =>
        have HJN := Lib.hid (show j = nl from of_decide_eq_true HCJ.out.symm)
        clear hlj
        go_wp2_with (at_builtin; refine wpList_appM rfl _ _ _ rfl 0 104 i _ 1 24 Tryz.underlying136 HI.out.1 HI.out.2.1 HI.out.2.2.1 HI.out.2.2.2 rfl (by decide) (by decide) (.slice a nl c) nl vs1 (by rfl) (by have h1 := ownsRow_below HL.out.rows (below_alloc wr (.cells #[.slice none 0 0] 104)); rw [HNL.out]; exact h1) ⟨wr.heap.size, 0, none⟩ 1 1 [.slice none 0 0] rfl rfl (cell_one_new _ _ _) (by simp [Value.oneCell']) (by decide) (by have := HLE.out; have := HNL.out; omega) (Nat.zero_le _) ?_; intro v' w' h2 h3 h4 h5; obtain ⟨gb, cp, rfl, hgb⟩ := own_slice h2 h5; have H2 := Lib.hid h2; have H3 := Lib.hid ((Fr.ofBelow (S := fun k => (Value.slice a nl c).ownBlock = some k) (below_alloc wr (.cells #[.slice none 0 0] 104))).trans (Fr.ofGrown h3 fun k _ e => e)); have H4 := Lib.hid ((Moved.refl wr (.slice a nl c)).trans h4 (by simp)); go_must (have k3 := H3.out.cell c3' HRN.out; have k4 := (H3.out.frozen (p := ⟨g, 3, none⟩) (cell_lt c3') HRN.out).trans (f0 3); clear h2 h3 h4 h5))
        go_meet
        have e1 := HNL.out
        subst e1
        have e2 := HLE.out
        have hp := HL.out.pushLevel H3.out H2.out H4.out
        have hyw := hf_hash HY.out hp.2.1
        have hjl : j = Lv.length := HJN.out
        have hsz : (w.alloc (.cells (h8 x) 109)).heap.size ≤ wr.heap.size := by have := lt_of_heap HY.out; simp; omega
        have hnq : ¬ LvS g ve (.slice a Lv.length c) vp vs1 w.heap.size := fun hq => by
          rcases HS.out _ hq with h1 | h1
          · obtain ⟨_, _, hC, _⟩ := HH.out.kinds h1.log
            exact absurd (lt_of_heap hC) (by omega)
          · simp at h1
            omega
        refine ⟨_, _, _, hp.1, hyw hnq, by simp; omega, .inr (by rw [hjl]; simp), by simp; omega, ?_, ?_, Fr.sub HF.out hp.2.1 (HS.out.mono (by simp)), HS.out.trans hp.2.2 hsz⟩
        · show growP L.levels x = _
          rw [HG.out, hjl]
          simp [grow_push]
        · show ∀ (i : Nat) (r : List Hsh), _ → (Lv ++ [[]])[i]? = some r → _
          intro i r hi hr
          rcases List.mem_append.1 (List.mem_of_getElem? hr) with h1 | h1
          · by_cases hlt : i < Lv.length
            · omega
            · rw [List.getElem?_append_right (by omega)] at hr
              have := List.mem_of_getElem? hr
              simp at this
              subst this
              simp
          · simp at h1
            subst h1
            simp
      | false =>
        have hjn := Lib.hid (of_decide_eq_false HCJ.out.symm)
        clear hlj
        go_wp2_with fail
        go_meet
        have h1 := HLE.out
        have h2 := HNL.out
        have h3 := hjn.out
        exact ⟨_, vs1, Lv, HL, HY.out, by omega, .inl h1, by omega, HG, HB, HF, HS⟩
    case rest =>
      obtain ⟨vl2, vs2, Lv2, HL2, hy2, hjl2, hor, hlen2, HG2, HB2, HF2, HS2⟩ := hcut
      have HY2 := Lib.hid hy2
      have HOR := Lib.hid hor
      have HLN2 := Lib.hid hlen2
      have hd2 := HL2.out.heads
      obtain ⟨⟨_, _, _, d3, _, _⟩, f2⟩ := hd2
      have hvl : vs2.length = Lv2.length := by simpa using HL2.out.rows.1
      obtain ⟨r, hr⟩ : ∃ r, Lv2[j]? = some r := ⟨_, List.getElem?_eq_getElem hjl2⟩
      obtain ⟨vj, hvj⟩ : ∃ vj, vs2[j]? = some vj := ⟨_, List.getElem?_eq_getElem (by omega)⟩
      have hrow := HL2.out.each j vj r hvj hr
      obtain ⟨aj, cj', rfl⟩ := own_any hrow
      have hrb := HB2.out j r (Nat.le_refl _) hr
      obtain ⟨bl, cp, rfl, e3, hbl⟩ : ∃ bl cp, vl2 = .slice (some ⟨bl, 0, none⟩) Lv2.length cp ∧ wc.cell? ⟨bl, j, none⟩ = some (.slice aj r.length cj') ∧ bl < wc.heap.size ∧ wc.frozen? ⟨bl, j, none⟩ = false := by
        rcases HL2.out.rows.2 with ⟨_, h0⟩ | ⟨b, cap, cur, h0, _, hb, _, _, _, ht⟩
        · have h00 : Lv2.length = 0 := h0
          omega
        · refine ⟨b, cap, h0, ?_, lt_of_heap hb, frozen_heap hb j⟩
          rw [cell_of_row wc b j cur _ _ hb]
          rw [← ht, List.getElem?_take_of_lt (show j < Lv2.length * 1 by omega)] at hvj
          simpa using hvj
      have hjz : (0 : Int) ≤ (j : Int) := by omega
      have hjn : (j : Int) < (Lv2.length : Int) := by omega
      have y0 := hashOf_cell hy2 0 (by decide)
      have y1 := hashOf_cell hy2 1 (by decide)
      have y2 := hashOf_cell hy2 2 (by decide)
      have y3 := hashOf_cell hy2 3 (by decide)
      have y4 := hashOf_cell hy2 4 (by decide)
      have y5 := hashOf_cell hy2 5 (by decide)
      have y6 := hashOf_cell hy2 6 (by decide)
      have y7 := hashOf_cell hy2 7 (by decide)
      have hgc : g < wc.heap.size := cell_lt d3
      have hqc : w.heap.size < wc.heap.size := lt_of_heap hy2
      obtain ⟨hbl1, hbl2⟩ := hbl
      have HBN := Lib.hid (show ¬ (Value.slice aj r.length cj').ownBlock = some bl from fun e => by
        obtain ⟨C, hC⟩ := ownBlock_type hrow e
        obtain ⟨C', hC'⟩ := ownBlock_type HL2.out.rows (k := bl) rfl
        exact heap_ne hC hC' (by decide) rfl)
      have HGN := Lib.hid (show ¬ (Value.slice aj r.length cj').ownBlock = some g from fun e => by
        obtain ⟨C, hC⟩ := ownBlock_type hrow e
        exact heap_ne HL2.out.cells hC (by decide) rfl)
      have HVJ := Lib.hid hvj
      have HRJ := Lib.hid hr
      have HROW := Lib.hid hrow
      clear hy2 hor hlen2 hvl hr hvj hrow
      obtain ⟨i8, hi8, hz8, hs8, hby8⟩ := info_h
      have HI8 := Lib.hid (⟨hi8, hz8, hs8, hby8⟩ : _ ∧ _ ∧ _ ∧ _)
      clear hi8 hz8 hs8 hby8
      go_upto_region 5 with fail
      go_cut [] from 25 to 76 (fun wx => ∃ v', Aside (LogIs wx g gd ve (.slice (some ⟨bl, 0, none⟩) Lv2.length cp) vp (vs2.set j v') { L with levels := Lv2.set j (r ++ [y]) }) ∧ hashOf wx w.heap.size y ∧ Aside (Fr (LvS g ve vl vp vs) w wx) ∧ Aside (Sub (w.alloc (.cells (h8 x) 109)) (LvS g ve vl vp vs) (LvS g ve (.slice (some ⟨bl, 0, none⟩) Lv2.length cp) vp (vs2.set j v'))))
      case first =>
        go_region_law (refine step_appM rfl _ _ _ rfl 0 109 i8 _ 8 8 Tryz.underlying104 HI8.out.1 HI8.out.2.1 HI8.out.2.2.1 HI8.out.2.2.2 (by simp [Value.cells]) (by decide) (by decide) (.slice aj r.length cj') r.length (r.flatMap fun h => (h8 h).toList) rfl (ownsRow_below HROW.out ((below_drew wc).alloc (Nat.le_refl _) _)) ⟨wc.heap.size, 0, none⟩ 1 1 (h8 y).toList rfl (by simp) (cells8_new _ _ _ _ rfl) (h8_ones y) (by decide) (by omega) (Nat.zero_le _) ?_; intro v' w' h2 h3 h4 h5; obtain ⟨gb, cp', rfl, hgb⟩ := own_slice h2 h5; have H2 := Lib.hid h2; have H3 := Lib.hid ((Fr.ofBelow (S := fun k => (Value.slice aj r.length cj').ownBlock = some k) ((below_drew wc).alloc (Nat.le_refl _) _)).trans (Fr.ofGrown h3 fun k _ e => e)); have H4 := Lib.hid ((Moved.refl wc (.slice aj r.length cj')).trans h4 (by simp)); have k3 := H3.out.cell e3 HBN.out; have k5 := H3.out.cell d3 HGN.out; have k4 := (H3.out.frozen (p := ⟨bl, j, none⟩) hbl1 HBN.out).trans hbl2; clear h2 h3 h4 h5)
        all_goals (
          go_wp2_with fail
          go_meet
          have h2 : OwnHs w' 0 (.slice (some ⟨gb, 0, none⟩) (r.length + 1) cp') (r ++ [y]) := by
            have := H2.out
            unfold OwnHs
            rw [List.length_append, List.flatMap_append]
            simpa using this
          have hp := HL2.out.pushHash y HVJ.out HRJ.out H3.out h2 H4.out rfl
          have hsz : (w.alloc (.cells (h8 x) 109)).heap.size ≤ wc.heap.size := by simp; omega
          have hnq : ¬ LvS g ve (.slice (some ⟨bl, 0, none⟩) Lv2.length cp) vp vs2 w.heap.size := fun hq => by
            rcases HS2.out _ hq with h1 | h1
            · obtain ⟨_, _, hC, _⟩ := HH.out.kinds h1.log
              exact absurd (lt_of_heap hC) (by omega)
            · simp at h1
              omega
          exact ⟨_, hp.1, hf_hash HY2.out hp.2.1 hnq, Fr.sub HF2.out hp.2.1 (HS2.out.mono (by simp)), HS2.out.trans hp.2.2 hsz⟩)
      case rest =>
        obtain ⟨v3, HL3, hy3, HF3, HS3⟩ := hcut
        have HY3 := Lib.hid hy3
        have hrow3 := HL3.out.each j v3 (r ++ [y]) (by rw [List.getElem?_set_self]; have := (List.getElem?_eq_some_iff.1 HVJ.out).1; exact this) (by show (Lv2.set j (r ++ [y]))[j]? = _; rw [List.getElem?_set_self hjl2])
        obtain ⟨a3, c3', rfl⟩ := own_any hrow3
        obtain ⟨⟨_, _, _, d4, _, _⟩, _⟩ := HL3.out.heads
        have e4 : wc.cell? ⟨bl, j, none⟩ = some (.slice a3 (r ++ [y]).length c3') := by
          have hjv := (List.getElem?_eq_some_iff.1 HVJ.out).1
          rcases HL3.out.rows.2 with ⟨e, _⟩ | ⟨b, cap, cur, e, _, hb, _, _, _, ht⟩
          · cases e
          · simp at e
            obtain ⟨rfl, rfl⟩ := e
            have h1 : (vs2.set j (.slice a3 (r ++ [y]).length c3'))[j]? = some (.slice a3 (r ++ [y]).length c3') := List.getElem?_set_self hjv
            rw [← ht, List.getElem?_take_of_lt (show j < (Lv2.set j (r ++ [y])).length * 1 by simp; omega)] at h1
            rw [cell_of_row wc bl j cur _ _ hb]
            simpa using h1
        clear hy3
        obtain ⟨cb, h51, hcb⟩ : ∃ cb, (((r.length : Int) + 1) % 4 != 0) = cb ∧ cb = !decide ((r.length + 1) % 4 = 0) := ⟨_, rfl, by rw [Bool.eq_iff_iff]; simp; omega⟩
        have HCB := Lib.hid hcb
        have hset : Lv2.set j (r ++ [y]) = Lv2.take j ++ (r ++ [y]) :: Lv2.drop (j + 1) := by rw [List.set_eq_take_append_cons_drop]; rw [if_pos hjl2]
        have hdrop : Lv2.drop j = r :: Lv2.drop (j + 1) := by
          rw [List.drop_eq_getElem_cons hjl2]
          have := HRJ.out
          rw [List.getElem?_eq_getElem hjl2] at this
          rw [Option.some.inj this]
        have HSET := Lib.hid hset
        have HDROP := Lib.hid hdrop
        clear hcb hset hdrop
        cases cb with
        | true =>
          have hnm : ¬ (r.length + 1) % 4 = 0 := by have := HCB.out; simpa using this
          have hlev : growP L.levels x = Lv2.set j (r ++ [y]) := by rw [HG2.out, HDROP.out, HSET.out, growP, if_neg hnm]
          have HLEV := Lib.hid hlev
          clear hnm hlev
          go_wp2_with fail
          refine bodyPost_ret (results_none rfl _ _ _) rfl ?_
          refine ⟨rfl, _, _, ?_, HF3.out, HS3.out.mono (by simp)⟩
          rw [HLEV.out]
          exact HL3.out
        | false =>
          have hm4 : (r.length + 1) % 4 = 0 := by have := HCB.out; simpa using this
          obtain ⟨q, hq⟩ : ∃ q, r.length = q + 3 := ⟨r.length - 3, by omega⟩
          have hrl : (r ++ [y]).length = q + 4 := by simp; omega
          obtain ⟨g3, rfl⟩ : ∃ g3, a3 = some ⟨g3, 0, none⟩ := by
            rcases hrow3.2 with ⟨e, h0⟩ | ⟨b, cap, cur, e, _⟩
            · omega
            · simp at e
              exact ⟨b, e.1⟩
          have hgt : ∀ i, i < 4 → ∃ z, (r ++ [y])[q + i]? = some z := fun i hi => ⟨_, List.getElem?_eq_getElem (by omega)⟩
          obtain ⟨z0, hz0⟩ := hgt 0 (by decide)
          obtain ⟨z1, hz1⟩ := hgt 1 (by decide)
          obtain ⟨z2, hz2⟩ := hgt 2 (by decide)
          obtain ⟨z3, hz3⟩ := hgt 3 (by decide)
          have hn4 : node4 (r ++ [y]) = nodeH (nodeH z0 z1) (nodeH z2 z3) := by
            unfold node4
            have e : (r ++ [y]).length - 4 = q := by omega
            rw [e]
            simp only [List.getD_eq_getElem?_getD]
            rw [hz1, hz2, hz3]
            have h0 : (r ++ [y])[q]? = some z0 := hz0
            rw [h0]
            rfl
          have HN4 := Lib.hid hn4
          have hs0 : (0 : Int) ≤ (r.length : Int) + 1 - 4 := by omega
          have hs1 : (r.length : Int) + 1 - 4 ≤ (r.length : Int) + 1 := by omega
          have hs2 : ((r.length : Int) + 1 - 4).toNat = q := by omega
          have hl4 : r.length + 1 - q = 4 := by omega
          have hs3 : ¬ c3' = q := by
            rcases hrow3.2 with ⟨e, h0⟩ | ⟨b, cap, cur, e, _, _, hnc, _⟩
            · omega
            · simp at e hnc
              omega
          have HM4 := Lib.hid hm4
          have z0_0 : wc.cell? ⟨g3, q * 8, none⟩ = some (Go.Proofs.YtefccfakhgdfbabGreatDoor.u8 z0[0]) := by
            have h1 := hashes_cell hrow3 hz0 0 (by decide)
            rw [show (q + 0) * 8 + 0 = q * 8 + 0 by omega] at h1
            exact h1
          have z0_1 : wc.cell? ⟨g3, q * 8 + 1, none⟩ = some (Go.Proofs.YtefccfakhgdfbabGreatDoor.u8 z0[1]) := by
            have h1 := hashes_cell hrow3 hz0 1 (by decide)
            rw [show (q + 0) * 8 + 1 = q * 8 + 1 by omega] at h1
            exact h1
          have z0_2 : wc.cell? ⟨g3, q * 8 + 2, none⟩ = some (Go.Proofs.YtefccfakhgdfbabGreatDoor.u8 z0[2]) := by
            have h1 := hashes_cell hrow3 hz0 2 (by decide)
            rw [show (q + 0) * 8 + 2 = q * 8 + 2 by omega] at h1
            exact h1
          have z0_3 : wc.cell? ⟨g3, q * 8 + 3, none⟩ = some (Go.Proofs.YtefccfakhgdfbabGreatDoor.u8 z0[3]) := by
            have h1 := hashes_cell hrow3 hz0 3 (by decide)
            rw [show (q + 0) * 8 + 3 = q * 8 + 3 by omega] at h1
            exact h1
          have z0_4 : wc.cell? ⟨g3, q * 8 + 4, none⟩ = some (Go.Proofs.YtefccfakhgdfbabGreatDoor.u8 z0[4]) := by
            have h1 := hashes_cell hrow3 hz0 4 (by decide)
            rw [show (q + 0) * 8 + 4 = q * 8 + 4 by omega] at h1
            exact h1
          have z0_5 : wc.cell? ⟨g3, q * 8 + 5, none⟩ = some (Go.Proofs.YtefccfakhgdfbabGreatDoor.u8 z0[5]) := by
            have h1 := hashes_cell hrow3 hz0 5 (by decide)
            rw [show (q + 0) * 8 + 5 = q * 8 + 5 by omega] at h1
            exact h1
          have z0_6 : wc.cell? ⟨g3, q * 8 + 6, none⟩ = some (Go.Proofs.YtefccfakhgdfbabGreatDoor.u8 z0[6]) := by
            have h1 := hashes_cell hrow3 hz0 6 (by decide)
            rw [show (q + 0) * 8 + 6 = q * 8 + 6 by omega] at h1
            exact h1
          have z0_7 : wc.cell? ⟨g3, q * 8 + 7, none⟩ = some (Go.Proofs.YtefccfakhgdfbabGreatDoor.u8 z0[7]) := by
            have h1 := hashes_cell hrow3 hz0 7 (by decide)
            rw [show (q + 0) * 8 + 7 = q * 8 + 7 by omega] at h1
            exact h1
          have z1_0 : wc.cell? ⟨g3, q * 8 + 8, none⟩ = some (Go.Proofs.YtefccfakhgdfbabGreatDoor.u8 z1[0]) := by
            have h1 := hashes_cell hrow3 hz1 0 (by decide)
            rw [show (q + 1) * 8 + 0 = q * 8 + 8 by omega] at h1
            exact h1
          have z1_1 : wc.cell? ⟨g3, q * 8 + 9, none⟩ = some (Go.Proofs.YtefccfakhgdfbabGreatDoor.u8 z1[1]) := by
            have h1 := hashes_cell hrow3 hz1 1 (by decide)
            rw [show (q + 1) * 8 + 1 = q * 8 + 9 by omega] at h1
            exact h1
          have z1_2 : wc.cell? ⟨g3, q * 8 + 10, none⟩ = some (Go.Proofs.YtefccfakhgdfbabGreatDoor.u8 z1[2]) := by
            have h1 := hashes_cell hrow3 hz1 2 (by decide)
            rw [show (q + 1) * 8 + 2 = q * 8 + 10 by omega] at h1
            exact h1
          have z1_3 : wc.cell? ⟨g3, q * 8 + 11, none⟩ = some (Go.Proofs.YtefccfakhgdfbabGreatDoor.u8 z1[3]) := by
            have h1 := hashes_cell hrow3 hz1 3 (by decide)
            rw [show (q + 1) * 8 + 3 = q * 8 + 11 by omega] at h1
            exact h1
          have z1_4 : wc.cell? ⟨g3, q * 8 + 12, none⟩ = some (Go.Proofs.YtefccfakhgdfbabGreatDoor.u8 z1[4]) := by
            have h1 := hashes_cell hrow3 hz1 4 (by decide)
            rw [show (q + 1) * 8 + 4 = q * 8 + 12 by omega] at h1
            exact h1
          have z1_5 : wc.cell? ⟨g3, q * 8 + 13, none⟩ = some (Go.Proofs.YtefccfakhgdfbabGreatDoor.u8 z1[5]) := by
            have h1 := hashes_cell hrow3 hz1 5 (by decide)
            rw [show (q + 1) * 8 + 5 = q * 8 + 13 by omega] at h1
            exact h1
          have z1_6 : wc.cell? ⟨g3, q * 8 + 14, none⟩ = some (Go.Proofs.YtefccfakhgdfbabGreatDoor.u8 z1[6]) := by
            have h1 := hashes_cell hrow3 hz1 6 (by decide)
            rw [show (q + 1) * 8 + 6 = q * 8 + 14 by omega] at h1
            exact h1
          have z1_7 : wc.cell? ⟨g3, q * 8 + 15, none⟩ = some (Go.Proofs.YtefccfakhgdfbabGreatDoor.u8 z1[7]) := by
            have h1 := hashes_cell hrow3 hz1 7 (by decide)
            rw [show (q + 1) * 8 + 7 = q * 8 + 15 by omega] at h1
            exact h1
          have z2_0 : wc.cell? ⟨g3, q * 8 + 16, none⟩ = some (Go.Proofs.YtefccfakhgdfbabGreatDoor.u8 z2[0]) := by
            have h1 := hashes_cell hrow3 hz2 0 (by decide)
            rw [show (q + 2) * 8 + 0 = q * 8 + 16 by omega] at h1
            exact h1
          have z2_1 : wc.cell? ⟨g3, q * 8 + 17, none⟩ = some (Go.Proofs.YtefccfakhgdfbabGreatDoor.u8 z2[1]) := by
            have h1 := hashes_cell hrow3 hz2 1 (by decide)
            rw [show (q + 2) * 8 + 1 = q * 8 + 17 by omega] at h1
            exact h1
          have z2_2 : wc.cell? ⟨g3, q * 8 + 18, none⟩ = some (Go.Proofs.YtefccfakhgdfbabGreatDoor.u8 z2[2]) := by
            have h1 := hashes_cell hrow3 hz2 2 (by decide)
            rw [show (q + 2) * 8 + 2 = q * 8 + 18 by omega] at h1
            exact h1
          have z2_3 : wc.cell? ⟨g3, q * 8 + 19, none⟩ = some (Go.Proofs.YtefccfakhgdfbabGreatDoor.u8 z2[3]) := by
            have h1 := hashes_cell hrow3 hz2 3 (by decide)
            rw [show (q + 2) * 8 + 3 = q * 8 + 19 by omega] at h1
            exact h1
          have z2_4 : wc.cell? ⟨g3, q * 8 + 20, none⟩ = some (Go.Proofs.YtefccfakhgdfbabGreatDoor.u8 z2[4]) := by
            have h1 := hashes_cell hrow3 hz2 4 (by decide)
            rw [show (q + 2) * 8 + 4 = q * 8 + 20 by omega] at h1
            exact h1
          have z2_5 : wc.cell? ⟨g3, q * 8 + 21, none⟩ = some (Go.Proofs.YtefccfakhgdfbabGreatDoor.u8 z2[5]) := by
            have h1 := hashes_cell hrow3 hz2 5 (by decide)
            rw [show (q + 2) * 8 + 5 = q * 8 + 21 by omega] at h1
            exact h1
          have z2_6 : wc.cell? ⟨g3, q * 8 + 22, none⟩ = some (Go.Proofs.YtefccfakhgdfbabGreatDoor.u8 z2[6]) := by
            have h1 := hashes_cell hrow3 hz2 6 (by decide)
            rw [show (q + 2) * 8 + 6 = q * 8 + 22 by omega] at h1
            exact h1
          have z2_7 : wc.cell? ⟨g3, q * 8 + 23, none⟩ = some (Go.Proofs.YtefccfakhgdfbabGreatDoor.u8 z2[7]) := by
            have h1 := hashes_cell hrow3 hz2 7 (by decide)
            rw [show (q + 2) * 8 + 7 = q * 8 + 23 by omega] at h1
            exact h1
          have z3_0 : wc.cell? ⟨g3, q * 8 + 24, none⟩ = some (Go.Proofs.YtefccfakhgdfbabGreatDoor.u8 z3[0]) := by
            have h1 := hashes_cell hrow3 hz3 0 (by decide)
            rw [show (q + 3) * 8 + 0 = q * 8 + 24 by omega] at h1
            exact h1
          have z3_1 : wc.cell? ⟨g3, q * 8 + 25, none⟩ = some (Go.Proofs.YtefccfakhgdfbabGreatDoor.u8 z3[1]) := by
            have h1 := hashes_cell hrow3 hz3 1 (by decide)
            rw [show (q + 3) * 8 + 1 = q * 8 + 25 by omega] at h1
            exact h1
          have z3_2 : wc.cell? ⟨g3, q * 8 + 26, none⟩ = some (Go.Proofs.YtefccfakhgdfbabGreatDoor.u8 z3[2]) := by
            have h1 := hashes_cell hrow3 hz3 2 (by decide)
            rw [show (q + 3) * 8 + 2 = q * 8 + 26 by omega] at h1
            exact h1
          have z3_3 : wc.cell? ⟨g3, q * 8 + 27, none⟩ = some (Go.Proofs.YtefccfakhgdfbabGreatDoor.u8 z3[3]) := by
            have h1 := hashes_cell hrow3 hz3 3 (by decide)
            rw [show (q + 3) * 8 + 3 = q * 8 + 27 by omega] at h1
            exact h1
          have z3_4 : wc.cell? ⟨g3, q * 8 + 28, none⟩ = some (Go.Proofs.YtefccfakhgdfbabGreatDoor.u8 z3[4]) := by
            have h1 := hashes_cell hrow3 hz3 4 (by decide)
            rw [show (q + 3) * 8 + 4 = q * 8 + 28 by omega] at h1
            exact h1
          have z3_5 : wc.cell? ⟨g3, q * 8 + 29, none⟩ = some (Go.Proofs.YtefccfakhgdfbabGreatDoor.u8 z3[5]) := by
            have h1 := hashes_cell hrow3 hz3 5 (by decide)
            rw [show (q + 3) * 8 + 5 = q * 8 + 29 by omega] at h1
            exact h1
          have z3_6 : wc.cell? ⟨g3, q * 8 + 30, none⟩ = some (Go.Proofs.YtefccfakhgdfbabGreatDoor.u8 z3[6]) := by
            have h1 := hashes_cell hrow3 hz3 6 (by decide)
            rw [show (q + 3) * 8 + 6 = q * 8 + 30 by omega] at h1
            exact h1
          have z3_7 : wc.cell? ⟨g3, q * 8 + 31, none⟩ = some (Go.Proofs.YtefccfakhgdfbabGreatDoor.u8 z3[7]) := by
            have h1 := hashes_cell hrow3 hz3 7 (by decide)
            rw [show (q + 3) * 8 + 7 = q * 8 + 31 by omega] at h1
            exact h1
          have HQ := Lib.hid hq
          have hnq3 : ¬ LvS g ve (.slice (some ⟨bl, 0, none⟩) Lv2.length cp) vp (vs2.set j (.slice (some ⟨g3, 0, none⟩) (r ++ [y]).length c3')) w.heap.size := fun hk => by
            rcases HS3.out _ hk with h1 | h1
            · obtain ⟨_, _, hC, _⟩ := HH.out.kinds h1.log
              exact absurd (lt_of_heap hC) (by omega)
            · simp at h1
              omega
          have hg3n : ¬ g3 = w.heap.size := fun e => hnq3 (e ▸ .inr (.inr ⟨_, List.mem_of_getElem? (i := j) (List.getElem?_set_self (by have := (List.getElem?_eq_some_iff.1 HVJ.out).1; exact this)), rfl⟩))
          have q8 : Is8 wc.drew w.heap.size := ⟨y, HY3.out⟩
          have HBB := Lib.hid (below_drew wc)
          clear hm4 hgt hz0 hz1 hz2 hz3 hn4 hq hrl
          go_upto_region 9 with fail
          go_region_held3 (fun w' => w'.cell? ⟨g3, q * 8, none⟩ = some (Go.Proofs.YtefccfakhgdfbabGreatDoor.u8 z0[0]) ∧ w'.cell? ⟨g3, q * 8 + 1, none⟩ = some (Go.Proofs.YtefccfakhgdfbabGreatDoor.u8 z0[1]) ∧ w'.cell? ⟨g3, q * 8 + 2, none⟩ = some (Go.Proofs.YtefccfakhgdfbabGreatDoor.u8 z0[2]) ∧ w'.cell? ⟨g3, q * 8 + 3, none⟩ = some (Go.Proofs.YtefccfakhgdfbabGreatDoor.u8 z0[3]) ∧ w'.cell? ⟨g3, q * 8 + 4, none⟩ = some (Go.Proofs.YtefccfakhgdfbabGreatDoor.u8 z0[4]) ∧ w'.cell? ⟨g3, q * 8 + 5, none⟩ = some (Go.Proofs.YtefccfakhgdfbabGreatDoor.u8 z0[5]) ∧ w'.cell? ⟨g3, q * 8 + 6, none⟩ = some (Go.Proofs.YtefccfakhgdfbabGreatDoor.u8 z0[6]) ∧ w'.cell? ⟨g3, q * 8 + 7, none⟩ = some (Go.Proofs.YtefccfakhgdfbabGreatDoor.u8 z0[7]) ∧ w'.cell? ⟨g3, q * 8 + 8, none⟩ = some (Go.Proofs.YtefccfakhgdfbabGreatDoor.u8 z1[0]) ∧ w'.cell? ⟨g3, q * 8 + 9, none⟩ = some (Go.Proofs.YtefccfakhgdfbabGreatDoor.u8 z1[1]) ∧ w'.cell? ⟨g3, q * 8 + 10, none⟩ = some (Go.Proofs.YtefccfakhgdfbabGreatDoor.u8 z1[2]) ∧ w'.cell? ⟨g3, q * 8 + 11, none⟩ = some (Go.Proofs.YtefccfakhgdfbabGreatDoor.u8 z1[3]) ∧ w'.cell? ⟨g3, q * 8 + 12, none⟩ = some (Go.Proofs.YtefccfakhgdfbabGreatDoor.u8 z1[4]) ∧ w'.cell? ⟨g3, q * 8 + 13, none⟩ = some (Go.Proofs.YtefccfakhgdfbabGreatDoor.u8 z1[5]) ∧ w'.cell? ⟨g3, q * 8 + 14, none⟩ = some (Go.Proofs.YtefccfakhgdfbabGreatDoor.u8 z1[6]) ∧ w'.cell? ⟨g3, q * 8 + 15, none⟩ = some (Go.Proofs.YtefccfakhgdfbabGreatDoor.u8 z1[7]) ∧ w'.cell? ⟨g3, q * 8 + 16, none⟩ = some (Go.Proofs.YtefccfakhgdfbabGreatDoor.u8 z2[0]) ∧ w'.cell? ⟨g3, q * 8 + 17, none⟩ = some (Go.Proofs.YtefccfakhgdfbabGreatDoor.u8 z2[1]) ∧ w'.cell? ⟨g3, q * 8 + 18, none⟩ = some (Go.Proofs.YtefccfakhgdfbabGreatDoor.u8 z2[2]) ∧ w'.cell? ⟨g3, q * 8 + 19, none⟩ = some (Go.Proofs.YtefccfakhgdfbabGreatDoor.u8 z2[3]) ∧ w'.cell? ⟨g3, q * 8 + 20, none⟩ = some (Go.Proofs.YtefccfakhgdfbabGreatDoor.u8 z2[4]) ∧ w'.cell? ⟨g3, q * 8 + 21, none⟩ = some (Go.Proofs.YtefccfakhgdfbabGreatDoor.u8 z2[5]) ∧ w'.cell? ⟨g3, q * 8 + 22, none⟩ = some (Go.Proofs.YtefccfakhgdfbabGreatDoor.u8 z2[6]) ∧ w'.cell? ⟨g3, q * 8 + 23, none⟩ = some (Go.Proofs.YtefccfakhgdfbabGreatDoor.u8 z2[7]) ∧ w'.cell? ⟨g3, q * 8 + 24, none⟩ = some (Go.Proofs.YtefccfakhgdfbabGreatDoor.u8 z3[0]) ∧ w'.cell? ⟨g3, q * 8 + 25, none⟩ = some (Go.Proofs.YtefccfakhgdfbabGreatDoor.u8 z3[1]) ∧ w'.cell? ⟨g3, q * 8 + 26, none⟩ = some (Go.Proofs.YtefccfakhgdfbabGreatDoor.u8 z3[2]) ∧ w'.cell? ⟨g3, q * 8 + 27, none⟩ = some (Go.Proofs.YtefccfakhgdfbabGreatDoor.u8 z3[3]) ∧ w'.cell? ⟨g3, q * 8 + 28, none⟩ = some (Go.Proofs.YtefccfakhgdfbabGreatDoor.u8 z3[4]) ∧ w'.cell? ⟨g3, q * 8 + 29, none⟩ = some (Go.Proofs.YtefccfakhgdfbabGreatDoor.u8 z3[5]) ∧ w'.cell? ⟨g3, q * 8 + 30, none⟩ = some (Go.Proofs.YtefccfakhgdfbabGreatDoor.u8 z3[6]) ∧ w'.cell? ⟨g3, q * 8 + 31, none⟩ = some (Go.Proofs.YtefccfakhgdfbabGreatDoor.u8 z3[7])) (first | exact ⟨z0_0, z0_1, z0_2, z0_3, z0_4, z0_5, z0_6, z0_7, z1_0, z1_1, z1_2, z1_3, z1_4, z1_5, z1_6, z1_7, z2_0, z2_1, z2_2, z2_3, z2_4, z2_5, z2_6, z2_7, z3_0, z3_1, z3_2, z3_3, z3_4, z3_5, z3_6, z3_7⟩ | (simp only [cell_setRow_ne hg3n]; exact ⟨z0_0, z0_1, z0_2, z0_3, z0_4, z0_5, z0_6, z0_7, z1_0, z1_1, z1_2, z1_3, z1_4, z1_5, z1_6, z1_7, z2_0, z2_1, z2_2, z2_3, z2_4, z2_5, z2_6, z2_7, z3_0, z3_1, z3_2, z3_3, z3_4, z3_5, z3_6, z3_7⟩)) (first | (go_at_call 129; refine (node_any _ _ _).mono ?_; rintro e w5 ⟨rfl, hb5⟩; replace z0_0 := (hb5.cell (p := ⟨g3, q * 8, none⟩) (cell_lt z0_0)).trans z0_0; replace z0_1 := (hb5.cell (p := ⟨g3, q * 8 + 1, none⟩) (cell_lt z0_1)).trans z0_1; replace z0_2 := (hb5.cell (p := ⟨g3, q * 8 + 2, none⟩) (cell_lt z0_2)).trans z0_2; replace z0_3 := (hb5.cell (p := ⟨g3, q * 8 + 3, none⟩) (cell_lt z0_3)).trans z0_3; replace z0_4 := (hb5.cell (p := ⟨g3, q * 8 + 4, none⟩) (cell_lt z0_4)).trans z0_4; replace z0_5 := (hb5.cell (p := ⟨g3, q * 8 + 5, none⟩) (cell_lt z0_5)).trans z0_5; replace z0_6 := (hb5.cell (p := ⟨g3, q * 8 + 6, none⟩) (cell_lt z0_6)).trans z0_6; replace z0_7 := (hb5.cell (p := ⟨g3, q * 8 + 7, none⟩) (cell_lt z0_7)).trans z0_7; replace z1_0 := (hb5.cell (p := ⟨g3, q * 8 + 8, none⟩) (cell_lt z1_0)).trans z1_0; replace z1_1 := (hb5.cell (p := ⟨g3, q * 8 + 9, none⟩) (cell_lt z1_1)).trans z1_1; replace z1_2 := (hb5.cell (p := ⟨g3, q * 8 + 10, none⟩) (cell_lt z1_2)).trans z1_2; replace z1_3 := (hb5.cell (p := ⟨g3, q * 8 + 11, none⟩) (cell_lt z1_3)).trans z1_3; replace z1_4 := (hb5.cell (p := ⟨g3, q * 8 + 12, none⟩) (cell_lt z1_4)).trans z1_4; replace z1_5 := (hb5.cell (p := ⟨g3, q * 8 + 13, none⟩) (cell_lt z1_5)).trans z1_5; replace z1_6 := (hb5.cell (p := ⟨g3, q * 8 + 14, none⟩) (cell_lt z1_6)).trans z1_6; replace z1_7 := (hb5.cell (p := ⟨g3, q * 8 + 15, none⟩) (cell_lt z1_7)).trans z1_7; replace z2_0 := (hb5.cell (p := ⟨g3, q * 8 + 16, none⟩) (cell_lt z2_0)).trans z2_0; replace z2_1 := (hb5.cell (p := ⟨g3, q * 8 + 17, none⟩) (cell_lt z2_1)).trans z2_1; replace z2_2 := (hb5.cell (p := ⟨g3, q * 8 + 18, none⟩) (cell_lt z2_2)).trans z2_2; replace z2_3 := (hb5.cell (p := ⟨g3, q * 8 + 19, none⟩) (cell_lt z2_3)).trans z2_3; replace z2_4 := (hb5.cell (p := ⟨g3, q * 8 + 20, none⟩) (cell_lt z2_4)).trans z2_4; replace z2_5 := (hb5.cell (p := ⟨g3, q * 8 + 21, none⟩) (cell_lt z2_5)).trans z2_5; replace z2_6 := (hb5.cell (p := ⟨g3, q * 8 + 22, none⟩) (cell_lt z2_6)).trans z2_6; replace z2_7 := (hb5.cell (p := ⟨g3, q * 8 + 23, none⟩) (cell_lt z2_7)).trans z2_7; replace z3_0 := (hb5.cell (p := ⟨g3, q * 8 + 24, none⟩) (cell_lt z3_0)).trans z3_0; replace z3_1 := (hb5.cell (p := ⟨g3, q * 8 + 25, none⟩) (cell_lt z3_1)).trans z3_1; replace z3_2 := (hb5.cell (p := ⟨g3, q * 8 + 26, none⟩) (cell_lt z3_2)).trans z3_2; replace z3_3 := (hb5.cell (p := ⟨g3, q * 8 + 27, none⟩) (cell_lt z3_3)).trans z3_3; replace z3_4 := (hb5.cell (p := ⟨g3, q * 8 + 28, none⟩) (cell_lt z3_4)).trans z3_4; replace z3_5 := (hb5.cell (p := ⟨g3, q * 8 + 29, none⟩) (cell_lt z3_5)).trans z3_5; replace z3_6 := (hb5.cell (p := ⟨g3, q * 8 + 30, none⟩) (cell_lt z3_6)).trans z3_6; replace z3_7 := (hb5.cell (p := ⟨g3, q * 8 + 31, none⟩) (cell_lt z3_7)).trans z3_7; replace q8 : Is8 w5 w.heap.size := q8.elim fun k hk => ⟨k, hashOf_below hk hb5⟩; replace HBB := Lib.hid (HBB.out.trans (hb5.mono HBB.out.size)); clear hb5))
          have hrel : ∃ j' : Nat, j' ≤ L.levels.length ∧ L.levels.length + 1 - j' ≤ L.levels.length - j ∧ Value.int .i64 (((j : Int) + 1)) = .int .i64 j' ∧ ∃ vl1 vs1 Lv y', Aside (LogIs (w5.setRow w.heap.size (h8 (nodeH (nodeH z0 z1) (nodeH z2 z3)))) g gd ve vl1 vp vs1 { L with levels := Lv }) ∧ hashOf (w5.setRow w.heap.size (h8 (nodeH (nodeH z0 z1) (nodeH z2 z3)))) w.heap.size y' ∧
              Lv.length = L.levels.length ∧ Aside (growP L.levels x = Lv.take j' ++ growP (Lv.drop j') y') ∧ Aside (∀ (i : Nat) (r : List Hsh), j' ≤ i → Lv[i]? = some r → r.length < 1099511627776) ∧ Aside (Fr (LvS g ve vl vp vs) w (w5.setRow w.heap.size (h8 (nodeH (nodeH z0 z1) (nodeH z2 z3))))) ∧ Aside (Sub (w.alloc (.cells (h8 x) 109)) (LvS g ve vl vp vs) (LvS g ve vl1 vp vs1)) := by
            obtain ⟨k5, hk5⟩ := q8
            have hFW : Fr (· = w.heap.size) wc (w5.setRow w.heap.size (h8 (nodeH (nodeH z0 z1) (nodeH z2 z3)))) := (Fr.ofBelow HBB.out).trans (Fr.setRow _ _ _)
            have hll : Lv2.length = L.levels.length := by
              rcases HOR.out with h1 | h1
              · exact h1
              · have h2 := HRJ.out
                rw [h1] at h2
                have h3 : r = [] := (Option.some.inj h2).symm
                have h4 := HQ.out
                rw [h3] at h4
                simp at h4
            have hlj : (Lv2.take j).length = j := by rw [List.length_take]; omega
            have e1 : (Lv2.take j ++ (r ++ [y]) :: Lv2.drop (j + 1)).take (j + 1) = Lv2.take j ++ [r ++ [y]] := by
              rw [List.take_append, hlj, List.take_of_length_le (by omega), show j + 1 - j = 1 by omega]
              rfl
            have e2 : (Lv2.take j ++ (r ++ [y]) :: Lv2.drop (j + 1)).drop (j + 1) = Lv2.drop (j + 1) := by
              rw [List.drop_append, hlj, List.drop_of_length_le (by omega), show j + 1 - j = 1 by omega]
              rfl
            refine ⟨j + 1, by omega, by omega, by rfl, _, _, Lv2.set j (r ++ [y]), node4 (r ++ [y]), HL3.out.fr hFW (fun k hk e => hnq3 (by subst e; exact HL3.out.lvOf HY3.out hk)) (fun k C fz hk e => ?_), ?_, by simpa using hll, ?_, ?_, HF3.out.step hFW (fun i hi e => by omega), HS3.out⟩
            · subst e
              have := HY3.out
              unfold hashOf at this
              rw [hk] at this
              simp at this
            · rw [HN4.out]
              exact hashOf_set hk5 _
            · show growP L.levels x = _
              rw [HSET.out, e1, e2, HG2.out, HDROP.out, growP, if_pos HM4.out, List.append_assoc]
              rfl
            · show ∀ (i : Nat) (r' : List Hsh), j + 1 ≤ i → (Lv2.set j (r ++ [y]))[i]? = some r' → _
              intro i r' hi hr'
              rw [List.getElem?_set_ne (by omega)] at hr'
              exact HB2.out i r' (by omega) hr'
          have HREL := Lib.hid hrel
          clear hrel
          go_wp2_with fail
          go_roundg (L.levels.length - j)
          case measure => omega
          case rel => exact HREL.out
end
end Go.Proofs.YtefccfakhgdfbabGreatDoor
end
