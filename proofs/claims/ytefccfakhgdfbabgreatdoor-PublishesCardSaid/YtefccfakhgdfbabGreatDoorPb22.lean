/-
  (*Log).Append: an entry more. Conditions: the block is a Log's whose levels are those of its entries; at most 2^20 entries; the entry is at most 2^20 bytes long.
-/
import Derived.Test.YtefccfakhgdfbabGreatDoorPb08
import Derived.Test.YtefccfakhgdfbabGreatDoorPb11
import Derived.Test.YtefccfakhgdfbabGreatDoorPb21
import Derived.Test.YtefccfakhgdfbabGreatDoorPb10
import Derived.Test.YtefccfakhgdfbabGreatDoorPb20
import Derived.BigQuiet
set_option linter.unusedVariables false
set_option linter.unusedSimpArgs false
section
namespace Go.Proofs.YtefccfakhgdfbabGreatDoor
open Go.RowKit
/-- A call that takes an entry in. -/
def Took (w : World) (g gd : Nat) (ve vl vp : Value) (vs : List Value) (L : Lg) (b : List UInt8) (w' : World) : Prop :=
  ∃ ve' vl' vs' vs0 u, LogIs w' g gd ve' vl' vp vs' { L with entries := L.entries ++ [b], levels := levels (L.entries ++ [b]) } ∧ Fr (LogS g ve vl vp vs) w w' ∧ Sub w (LogS g ve vl vp vs) (LogS g ve' vl' vp vs') ∧
    w.ownsRow 0 94 1 ve L.entries.length vs0 ∧ w'.ownsRow 0 94 1 ve' (L.entries.length + 1) (vs0 ++ [u]) ∧ OwnBytes w' w.heap.size u b
theorem own_bytes_slice {w : World} {base : Nat} {v : Value} {l : List UInt8} (h : OwnBytes w base v l) : ∃ a n c, v = .slice a n c := by
  rcases h with ⟨rfl, _⟩ | ⟨b, off, c, C, fz, rfl, _⟩
  · exact ⟨_, _, _, rfl⟩
  · exact ⟨_, _, _, rfl⟩
theorem levels_bd {es : List (List UInt8)} (h : es.length ≤ 1048576) : (levels es).length < 1048576 ∧ ∀ r ∈ levels es, r.length < 1099511627776 := by
  have h1 := nLev_small h
  refine ⟨by simp [levels]; omega, fun r hr => ?_⟩
  obtain ⟨k, hk, rfl⟩ := List.mem_map.1 hr
  rw [levelRow_len]
  have := Nat.div_le_self es.length (4 ^ k)
  omega
theorem lv_noEnts {w : World} {g gd k : Nat} {ve vl vp : Value} {vs : List Value} {L : Lg} (h : LogIs w g gd ve vl vp vs L) {C : Array Value} {f : Nat × Nat} (hk : w.heap[k]? = some (.cells C 94 f)) (hs : LvS g ve vl vp vs k) : False := by
  rcases hs with rfl | hs | ⟨v, hv, hs⟩
  · exact heap_ne hk h.cells (by decide) rfl
  · obtain ⟨C', h1⟩ := ownBlock_type h.rows hs
    exact heap_ne hk h1 (by decide) rfl
  · obtain ⟨j, hj⟩ := List.mem_iff_getElem?.1 hv
    have hl : vs.length = L.levels.length := by simpa using h.rows.1
    have hjl : j < L.levels.length := by have := (List.getElem?_eq_some_iff.1 hj).1; omega
    obtain ⟨C', h1⟩ := ownBlock_type (h.each j v _ hj (List.getElem?_eq_getElem hjl)) hs
    exact heap_ne hk h1 (by decide) rfl
def appendPost (f : Nat → Addr) (g gd : Nat) (ve vl vp : Value) (vs : List Value) (L : Lg) (b : List UInt8) (w : World) (e : Ending) (w' : World) : Prop :=
  if 20 < b.length then e = .returned (.tuple #[.int .i64 0, .iface 338 (.pointer (some (f 0)))]) ∧ Below w.heap.size w w'
  else if L.failed = true then e = .returned (.tuple #[.int .i64 0, .iface 338 (.pointer (some (f 6)))]) ∧ Below w.heap.size w w'
  else e = .returned (.tuple #[.int .i64 L.entries.length, .nilIface]) ∧ Took w g gd ve vl vp vs L b w'
set_option maxRecDepth 100000 in
set_option maxHeartbeats 4000000 in
theorem append_any (f : Nat → Addr) (w : World) (g gd : Nat) (ve vl vp : Value) (vs : List Value) (L : Lg) (h : LogIs w g gd ve vl vp vs L) (va : Value) (b : List UInt8) (hb : OwnBytes w 0 va b) (hn : L.entries.length < 1048576) (hlv : L.levels = levels L.entries)
    (hS : Sents w f) : Calls Tryz.prog 39 #[.pointer (some ⟨g, 0, none⟩), va] w (appendPost f g gd ve vl vp vs L b w) := by
  obtain ⟨s0, _, _, _, _, _, s6⟩ := hS.cells
  obtain ⟨a, c, rfl⟩ : ∃ a c, va = .slice a b.length c := by obtain ⟨a, c, h1, _, _⟩ := hb.at; exact ⟨a, c, h1⟩
  have HB := Lib.hid hb
  have HH := Lib.hid h
  have hd := h.heads
  obtain ⟨⟨_, _, c2, _, _, c5⟩, f0⟩ := hd
  have hg := lt_of_heap h.cells
  clear h hb hS
  by_cases hlong : 20 < b.length
  · have hz : (20 : Int) < (b.length : Int) := by omega
    go_enter Tryz.func39, Tryz.ntmps39
    go_wp2
    go_region
    all_goals (
      go_wp2
      go_ret2
      unfold appendPost
      rw [if_pos hlong]
      exact ⟨rfl, below_drew w⟩)
  · have hz : ¬ (20 : Int) < (b.length : Int) := by omega
    have hbl : b.length ≤ 1048576 := by omega
    cases hfl : L.failed with
    | true =>
      rw [hfl] at c5
      go_enter Tryz.func39, Tryz.ntmps39
      go_wp2
      go_region
      all_goals (
        go_wp2
        go_ret2
        unfold appendPost
        rw [if_neg hlong, if_pos hfl]
        exact ⟨rfl, below_drew w⟩)
    | false =>
      rw [hfl] at c5
      have HFL := Lib.hid hfl
      have HLV := Lib.hid hlv
      obtain ⟨vs0, hrow, hrb⟩ := HH.out.ents
      obtain ⟨a1, cp1, rfl⟩ := own_any hrow
      obtain ⟨ln, hln⟩ : ∃ ln, ln = L.entries.length := ⟨_, rfl⟩
      rw [← hln] at c2 hn
      have hrow' : w.ownsRow 0 94 1 (.slice a1 ln cp1) ln vs0 := by rw [hln]; exact hrow
      have hne : ¬ (Value.slice a1 ln cp1).ownBlock = some g := fun e => by
        obtain ⟨C, hC⟩ := ownBlock_type hrow' e
        exact heap_ne HH.out.cells hC (by decide) rfl
      obtain ⟨i0, hi0, hz0, hs0, hby0⟩ := info_bsE
      have HI := Lib.hid (⟨hi0, hz0, hs0, hby0⟩ : _ ∧ _ ∧ _ ∧ _)
      have HLN := Lib.hid hln
      have HROW := Lib.hid hrow'
      have HRB := Lib.hid hrb
      have HNE := Lib.hid hne
      clear hfl hlv hrow hrb hln hrow' hne hi0 hz0 hs0 hby0
      go_enter Tryz.func39, Tryz.ntmps39
      go_upto_region 5 with fail
      go_cut [] from 17 to 27 (fun wx => ∃ ve', Aside (LogIs wx g gd ve' vl vp vs { L with entries := L.entries ++ [b] }) ∧ Aside (Fr (LogS g (.slice a1 L.entries.length cp1) vl vp vs) w wx) ∧ Aside (Sub w (LogS g (.slice a1 L.entries.length cp1) vl vp vs) (LogS g ve' vl vp vs)) ∧ Aside (OwnBytes wx 0 (.slice a b.length c) b) ∧ ∃ u, Aside (wx.ownsRow 0 94 1 ve' (ln + 1) (vs0 ++ [u])) ∧ Aside (OwnBytes wx w.heap.size u b))
      case first =>
        go_region_law (first | (go_simp; go_at_call 75; refine (clone_any _ b _ (HB.out.at.below (below_drew w)) (by omega)).mono ?_; rintro e w2 ⟨v2, rfl, ho2, hb2⟩; obtain ⟨q2, n2, k2, rfl⟩ := own_bytes_slice ho2; have HO2 := Lib.hid ho2; have HB2 := Lib.hid hb2; have c2' := (hb2.cell (p := ⟨g, 2, none⟩) hg).trans c2; have f2' := (hb2.frozen (p := ⟨g, 2, none⟩) hg).trans (f0 2); have hg2 : g < w2.heap.size := Nat.lt_of_lt_of_le hg hb2.size; clear ho2 hb2) | (refine step_appM rfl _ _ _ rfl 0 94 i0 _ 1 24 Tryz.underlying135 HI.out.1 HI.out.2.1 HI.out.2.2.1 HI.out.2.2.2 rfl (by decide) (by decide) (.slice a1 ln cp1) ln vs0 rfl (ownsRow_below HROW.out (((below_drew w).trans HB2.out).alloc (Nat.le_trans (Nat.le_refl _) HB2.out.size) _)) ⟨w2.heap.size, 0, none⟩ 1 1 [.slice q2 n2 k2] rfl rfl (cell_one_new _ _ _) (by simp [HO2.out.one]) (by decide) (by omega) (Nat.zero_le _) ?_; intro v' w' h2 h3 h4 h5; obtain ⟨gb, cpb, rfl, hgb⟩ := own_slice h2 h5; have H2 := Lib.hid h2; have H3 := Lib.hid ((Fr.ofBelow (S := fun k => (Value.slice a1 ln cp1).ownBlock = some k) (((below_drew w).trans HB2.out).alloc (Nat.le_trans (Nat.le_refl _) HB2.out.size) (.cells #[.slice q2 n2 k2] 94))).trans (Fr.ofGrown h3 fun k _ e => e)); have H3b := Lib.hid (Fr.ofGrown (S := fun k => (Value.slice a1 ln cp1).ownBlock = some k) h3 fun k _ e => e); have H4 := Lib.hid ((Moved.refl w (.slice a1 ln cp1)).trans h4 (((below_drew w).trans HB2.out).alloc (Nat.le_trans (Nat.le_refl _) HB2.out.size) (.cells #[.slice q2 n2 k2] 94)).size); have k3 := H3.out.cell c2 HNE.out; have k4 := (H3.out.frozen (p := ⟨g, 2, none⟩) hg HNE.out).trans (f0 2); clear h2 h3 h4 h5))
        all_goals (
          go_wp2_with fail
          go_meet
          have B2 : Below w.heap.size w (w2.alloc (.cells #[.slice q2 n2 k2] 94)) := ((below_drew w).trans HB2.out).alloc (Nat.le_trans (Nat.le_refl _) HB2.out.size) _
          have hown : OwnBss w' 0 (.slice (some ⟨gb, 0, none⟩) (ln + 1) cpb) (L.entries ++ [b]) :=
            OwnBss.push (ls' := [b]) (ownsRow_below HROW.out B2) (fun j u l hu hl => (HRB.out j u l hu hl).below B2) HLN.out H3b.out H2.out (by rw [HLN.out]; rfl) (fun j u l hu hl => by
              cases j with
              | zero => cases hu; cases hl; exact (HO2.out.mono (Nat.zero_le _)).below (below_alloc _ _)
              | succ j => simp at hu)
          have hmv : Moved w (.slice a1 L.entries.length cp1) (.slice (some ⟨gb, 0, none⟩) (ln + 1) cpb) := by rw [← HLN.out]; exact H4.out
          have hfr : Fr (fun k => (Value.slice a1 L.entries.length cp1).ownBlock = some k) w w' := by rw [← HLN.out]; exact H3.out
          have hp := HH.out.setEnts hfr hown hmv
          have hgw : w'.heap[g]? = some (.cells (lgCells gd (.slice a1 L.entries.length cp1) vl vp L) 138 (0, 0)) := H3.out.heap HH.out.cells HNE.out
          refine ⟨_, hp.1, hp.2.1, hp.2.2, ?_, _, ownsRow_fr H2.out (Fr.set1 w' g 2 _) (fun k hk e => ?_), ?_⟩
          · exact HB.out.same fun k C fz hk => hp.2.1.block k (lt_of_heap hk) fun hS => HH.out.noBytes k C fz hk hS
          · obtain ⟨C, hC⟩ := ownBlock_type H2.out hk
            exact heap_ne hC hgw (by decide) e
          · have o1 : OwnBytes (w2.alloc (.cells #[.slice q2 n2 k2] 94)) w.heap.size (.slice q2 n2 k2) b := (HO2.out.mono (below_drew w).size).below (below_alloc _ _)
            have o2 : OwnBytes w' w.heap.size (.slice q2 n2 k2) b := o1.same fun k C fz hk => H3b.out.block k (lt_of_heap hk) fun e => by
              obtain ⟨C', hC'⟩ := ownBlock_type (ownsRow_below HROW.out B2) e
              exact heap_ne hk hC' (by decide) rfl
            exact o2.same fun k C fz hk => (Fr.set1 w' g 2 _).block k (lt_of_heap hk) fun e => heap_ne hk hgw (by decide) e)
      case rest =>
        obtain ⟨ve', HL, HFr, HSb, HBc, u, HRU, HOU⟩ := hcut
        obtain ⟨vse, hrowe, _⟩ := HL.out.ents
        obtain ⟨ae, ce, rfl⟩ := own_any hrowe
        clear hrowe
        have hgl := HL.out.heads
        have hn0 : L.entries.length ≤ 1048576 := by have := HLN.out; omega
        have HBD := Lib.hid (levels_bd hn0)
        clear hn0
        go_wp2_with (first
          | (go_at_call 72; refine (leaf_any _ b _ HBc.out.at (by omega)).mono ?_; rintro e w3 ⟨rfl, hb3⟩; have HL3 := Lib.hid (HL.out.below hb3); have HB3 := Lib.hid hb3; clear hb3)
          | (go_at_call 71; refine (grow_any w3 g gd _ _ _ _ _ HL3.out (leafH b) (by show L.levels.length < _; rw [HLV.out]; exact HBD.out.1) (by show ∀ r ∈ L.levels, _; rw [HLV.out]; exact HBD.out.2)).mono ?_; rintro e w4 ⟨rfl, vl4, vs4, hl4, hf4, hs4⟩; have HL4 := Lib.hid hl4; have HF4 := Lib.hid hf4; have HS4 := Lib.hid hs4; have hd4 := hl4.heads; clear hl4 hf4 hs4))
        obtain ⟨⟨_, _, e2, _, _, _⟩, _⟩ := hd4
        go_wp2_with fail
        go_ret2
        unfold appendPost
        rw [if_neg hlong, if_neg (by rw [HFL.out]; decide)]
        refine ⟨?_, .slice ae (L.entries ++ [b]).length ce, vl4, vs4, vs0, u, ?_, ?_, ?_, ?_, ?_, ?_⟩
        · simp
          have := HLN.out
          unfold wrap64
          omega
        · have := HL4.out
          rw [show growP ({ L with entries := L.entries ++ [b] } : Lg).levels (leafH b) = levels (L.entries ++ [b]) by show growP L.levels _ = _; rw [HLV.out, grow_leaf]] at this
          exact this
        · exact (Fr.sub (HFr.out.trans (Fr.ofBelow HB3.out)) (HF4.out.weak fun _ _ h => h.log) HSb.out)
        · exact HSb.out.trans (sub_lv HS4.out) (by have := HFr.out.size; have := HB3.out.size; omega)
        · rw [← HLN.out]; exact HROW.out
        · rw [← HLN.out]
          exact ownsRow_fr (ownsRow_below HRU.out HB3.out) HF4.out fun k hk e => by
            obtain ⟨C, hC⟩ := ownBlock_type (ownsRow_below HRU.out HB3.out) hk
            exact lv_noEnts HL3.out hC e
        · exact (HOU.out.below HB3.out).same fun k C fz hk => HF4.out.block k (lt_of_heap hk) fun e => HL3.out.noBytes k C fz hk e.log
end Go.Proofs.YtefccfakhgdfbabGreatDoor
end
