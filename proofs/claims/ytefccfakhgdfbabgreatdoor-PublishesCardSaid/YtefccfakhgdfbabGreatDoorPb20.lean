/-
  (*Log).load: the entries of a checkpoint. Conditions: bounds on calls, files, indices.
  (*Log).further: entries behind those that there are. Conditions: bounds on calls, files, indices.
-/
import Derived.Test.YtefccfakhgdfbabGreatDoorPb11
import Derived.Deep.DeepMust
import Derived.Lib.SliceRun
set_option linter.unusedVariables false
set_option linter.unusedSimpArgs false
section
namespace Go.Proofs.YtefccfakhgdfbabGreatDoor
open Go.RowKit
theorem info_bsE : ∃ i, Tryz.prog.info? 94 = some i ∧ i.zero = some (.slice none 0 0) ∧ i.size = 1 ∧ i.bytes = 24 := by
  have h : (Tryz.prog.info? 94).map (fun i => (i.zero, i.size, i.bytes)) = some (some (.slice none 0 0), 1, 24) := by kernel_rfl
  cases hi : Tryz.prog.info? 94 with
  | none => rw [hi] at h; simp at h
  | some i => rw [hi] at h; simp at h; exact ⟨i, rfl, h.1, h.2.1, h.2.2⟩
theorem eql_bsnil (w : World) (a : Option Addr) (n c : Nat) : (binOp .eql 135 (.slice a n c) (.slice none 0 0)).run Tryz.prog w = .ok (.bool a.isNone) w := Lib.run_eql_slice_nil w _ _ a n c 0 0 Tryz.underlying135
theorem bss_ones {w : World} {base : Nat} {us : List Value} {ls : List (List UInt8)} (hl : us.length = ls.length) (hb : ∀ (j : Nat) (u : Value) (l : List UInt8), us[j]? = some u → ls[j]? = some l → OwnBytes w base u l) : ∀ u ∈ us, u.oneCell' = true := by
  intro u hu
  obtain ⟨j, hj⟩ := List.mem_iff_getElem?.1 hu
  have hjl : j < ls.length := by have := (List.getElem?_eq_some_iff.1 hj).1; omega
  exact (hb j u _ hj (List.getElem?_eq_getElem hjl)).one
theorem bundleF_unb {l : List Fil} {i w : Nat} {s : ByteArray} (h : getF l (bunName i w) = some s) : bundleF l i w = unbW s w := by unfold bundleF unbW; rw [h]; rfl
/-- What a look of many calls leaves: the store looked at, the publisher with other entries. -/
structure Lkd (w : World) (g gd : Nat) (v ve vl vp : Value) (vs : List Value) (L : Lg) (ve' : Value) (d' : Dk) (es : List (List UInt8)) (w' : World) : Prop where
  disk : DiskAt w' gd v d'
  log : LogIs w' g gd ve' vl vp vs { L with entries := es }
  fr : Fr (fun k => k = gd ∨ LogS g ve vl vp vs k) w w'
  sub : Sub w (LogS g ve vl vp vs) (LogS g ve' vl vp vs)
theorem lks {w : World} {g gd : Nat} {ve vl vp ve' : Value} {vs : List Value} (h : Sub w (LogS g ve vl vp vs) (LogS g ve' vl vp vs)) : Sub w (fun k => k = gd ∨ LogS g ve vl vp vs k) (fun k => k = gd ∨ LogS g ve' vl vp vs k) := fun k hk => by
  rcases hk with hk | hk
  · exact .inl (.inl hk)
  · exact (h k hk).imp (fun h => .inr h) id
/-- A look at the store. -/
theorem Lkd.look {w w1 w2 : World} {g gd : Nat} {v ve vl vp ve1 : Value} {vs : List Value} {L : Lg} {d1 d2 : Dk} {es : List (List UInt8)} (h : Lkd w g gd v ve vl vp vs L ve1 d1 es w1) (hd : DiskAt w2 gd v d2) (hf : Fr (· = gd) w1 w2) : Lkd w g gd v ve vl vp vs L ve1 d2 es w2 :=
  ⟨hd, h.log.fr hf (fun k hk e => h.log.apartDisk h.disk k hk (.inl e)) (fun k C fz hk e => by subst e; have := h.disk.1; rw [hk] at this; simp at this), Fr.sub h.fr (hf.weak fun k _ hk => (.inl hk : k = gd ∨ LogS g ve1 vl vp vs k)) (lks h.sub), h.sub⟩
theorem Lkd.below {w w1 w2 : World} {g gd : Nat} {v ve vl vp ve1 : Value} {vs : List Value} {L : Lg} {d1 : Dk} {es : List (List UInt8)} (h : Lkd w g gd v ve vl vp vs L ve1 d1 es w1) (hb : Below w1.heap.size w1 w2) : Lkd w g gd v ve vl vp vs L ve1 d1 es w2 :=
  h.look (h.disk.below hb) (Fr.ofBelow hb)
/-- Entries more. -/
theorem Lkd.ents {w w1 w2 : World} {g gd : Nat} {v ve vl vp ve1 ve2 : Value} {vs : List Value} {L : Lg} {d1 : Dk} {es es2 : List (List UInt8)} (h : Lkd w g gd v ve vl vp vs L ve1 d1 es w1) (hl : LogIs w2 g gd ve2 vl vp vs { L with entries := es2 }) (hf : Fr (LogS g ve1 vl vp vs) w1 w2) (hs : Sub w1 (LogS g ve1 vl vp vs) (LogS g ve2 vl vp vs)) (hsz : w.heap.size ≤ w1.heap.size) : Lkd w g gd v ve vl vp vs L ve2 d1 es2 w2 :=
  ⟨h.disk.fr hf fun k hk hS => h.log.apartDisk h.disk k hS hk, hl, Fr.sub h.fr (hf.weak fun k _ hk => (.inr hk : k = gd ∨ LogS g ve1 vl vp vs k)) (lks h.sub), h.sub.trans hs hsz⟩
/-- What load comes to. -/
def loadPost (w : World) (g gd : Nat) (v ve vl vp : Value) (vs : List Value) (d : Dk) (L : Lg) (f : Nat → Addr) (n B : Nat) (e : Ending) (w' : World) : Prop :=
  (∃ ve' d' es' i q m r, Lkd w g gd v ve vl vp vs L ve' d' es' w' ∧ Hurt B d d' ∧ e = .returned (.iface 153 (.pointer (some ⟨r, 0, none⟩))) ∧ w.heap.size ≤ q ∧ w.heap.size ≤ r ∧ w'.heap[q]? = some (.cells #[.int .i64 m] 366 (0, 0)) ∧
      w'.heap[r]? = some (.cells #[.string (bunName i (min 4 (n - 4 * i))), .iface 152 (.pointer (some ⟨q, 0, none⟩))] 155 (0, 0))) ∨
  (∃ ve' d' es' i r, Lkd w g gd v ve vl vp vs L ve' d' es' w' ∧ Calm B d d' ∧ loadP d.files n ((n + 3) / 4) 0 [] = (es', some i) ∧ e = .returned (.iface 153 (.pointer (some ⟨r, 0, none⟩))) ∧ w.heap.size ≤ r ∧
      w'.heap[r]? = some (.cells #[.string (bunName i (min 4 (n - 4 * i))), .iface 338 (.pointer (some (f 5)))] 155 (0, 0))) ∨
  (∃ ve' d' es', Lkd w g gd v ve vl vp vs L ve' d' es' w' ∧ Calm B d d' ∧ loadP d.files n ((n + 3) / 4) 0 [] = (es', none) ∧ e = .returned .nilIface)
theorem loadP_next {l : List Fil} {n i : Nat} {d : List (List UInt8)} (h : 4 * i < n) : loadP l n ((n + 3) / 4 - i) i d = match bundleF l i (min 4 (n - 4 * i)) with
    | none => (d, some i)
    | some e => loadP l n ((n + 3) / 4 - (i + 1)) (i + 1) (d ++ e) := by
  obtain ⟨m, hm⟩ : ∃ m, (n + 3) / 4 - i = m + 1 := ⟨(n + 3) / 4 - i - 1, by omega⟩
  rw [hm, loadP, show (n + 3) / 4 - (i + 1) = m by omega]
  cases bundleF l i (min 4 (n - 4 * i)) <;> rfl
theorem loadP_end {l : List Fil} {n i : Nat} {d : List (List UInt8)} (h : n ≤ 4 * i) : loadP l n ((n + 3) / 4 - i) i d = (d, none) := by
  rw [show (n + 3) / 4 - i = 0 by omega, loadP]
set_option maxRecDepth 100000 in
set_option maxHeartbeats 4000000 in
theorem load_any (f : Nat → Addr) (w : World) (g gd : Nat) (v ve vl vp : Value) (vs : List Value) (d : Dk) (L : Lg) (h : LogIs w g gd ve vl vp vs L) (hD : DiskAt w gd v d) (n N : Nat) (hE : EnvS f (fun k => k = gd ∨ LogS g ve vl vp vs k) w)
    (hL : L.entries = []) (hn : n < 9223372036854775808) (hN : FewB d.files N) (hN2 : N ≤ 1048576) (hc : d.calls < 1000000000000) (hsz : ∀ b ∈ d.files, b.2.size ≤ 1048576) :
    Calls Tryz.prog 68 #[.pointer (some ⟨g, 0, none⟩), .int .i64 n] w (loadPost w g gd v ve vl vp vs d L f n (N + 1)) := by
  have HE := Lib.hid hE
  have HN := Lib.hid hN
  have HZ := Lib.hid hsz
  have hg := lt_of_heap h.cells
  have hlk : Lkd w g gd v ve vl vp vs L ve d [] w := ⟨hD, by rw [← hL]; exact h, Fr.refl _ _, Sub.refl _ _⟩
  have HL := Lib.hid hlk
  clear h hD hE hL hN hsz hlk
  go_enter Tryz.func68, Tryz.ntmps68
  go_wp2
  go_loopg [5] (N + 1) (fun gg s5 wr => ∃ i : Nat, i ≤ N ∧ N + 1 - i ≤ gg ∧ s5 = .int .i64 i ∧ ∃ ve1 d1 es1, Aside (Lkd w g gd v ve vl vp vs L ve1 d1 es1 wr) ∧ Aside (Calm i d d1) ∧ Aside (loadP d.files n ((n + 3) / 4) 0 [] = loadP d.files n ((n + 3) / 4 - i) i es1) ∧ Aside (es1.length = min n (4 * i)) ∧ Aside (Taken d.files es1) ∧ w.heap.size ≤ wr.heap.size)
  case atStart => exact ⟨0, Nat.zero_le _, by omega, rfl, ve, d, [], HL.out, Calm.refl d, rfl, by show [].length = _; simp, Taken.nil _, Nat.le_refl _⟩
  case round =>
    obtain ⟨i, hi, hgg, rfl, ve1, d1, es1, HL1, HC1, HP1, HLEN, HT1, hsw⟩ := hrel
    obtain ⟨⟨_, _, c2, _, _, _⟩, f0⟩ := HL1.out.log.heads
    have hents := HL1.out.log.ents
    obtain ⟨vsr, hrow, _⟩ := hents
    obtain ⟨a1, cp1, rfl⟩ := own_any hrow
    clear hrow
    obtain ⟨ln, hln⟩ : ∃ ln, ln = es1.length := ⟨_, rfl⟩
    have c2' : wr.cell? ⟨g, 2, none⟩ = some (.slice a1 ln cp1) := by rw [hln]; exact c2
    have hl4 : ln = min n (4 * i) := by rw [hln]; exact HLEN.out
    have HLN := Lib.hid hln
    clear c2 hln
    by_cases hlt : ln < n
    · have hltz : (ln : Int) < (n : Int) := by omega
      have h4i : 4 * i < n := by omega
      have hcon := fat_any (-1) i n wr h4i hn (HE.out.step HL1.out.fr (lks HL1.out.sub)).num
      have HL4 := Lib.hid hl4
      have H4I := Lib.hid h4i
      clear hl4 h4i
      obtain ⟨k, hk⟩ : ∃ k, k = min 4 (n - 4 * i) := ⟨_, rfl⟩
      rw [← hk] at hcon
      obtain ⟨p, hp⟩ : ∃ p, p = bunName i k := ⟨_, rfl⟩
      rw [show sOf (nameOf (-1) (i : Int) (k : Int)) = p from hp.symm] at hcon
      have hc1 : d1.calls < 1099511627776 := by have := HC1.out.calls; omega
      have hfl := HC1.out.files
      have HK := Lib.hid hk
      have HP := Lib.hid hp
      have HFL := Lib.hid hfl
      clear hk hp
      rcases Nat.eq_zero_or_pos (enterK d1) with h0 | h0
      · have HC2 := Lib.hid (HC1.out.trans (calm_enter h0))
        cases hget : getF d1.files p with
        | none =>
          have HG := Lib.hid hget
          clear hget hfl
          go_wp2_with (first
            | (go_at_call 123; refine hcon.mono ?_; rintro e w2 ⟨rfl, hb2⟩; have HL2 := Lib.hid (HL1.out.below hb2); have HB2 := Lib.hid hb2; clear hb2)
            | (go_at_call 124; refine (bun_miss w2 g gd v _ _ _ _ d1 _ HL2.out.log HL2.out.disk p k hc1 h0 HG.out).mono ?_; rintro e w3 ⟨rfl, hd3, hf3⟩; have HL3 := Lib.hid (HL2.out.look hd3 hf3); have HF3 := Lib.hid hf3; have hn3 := neq_nils w3; have hq3 := eql_bsnil w3 none 0 0; have s5 := (HE.out.step HL3.out.fr (lks HL3.out.sub)).sents.cells.2.2.2.2.2.1; clear hd3 hf3)
            | (go_at_call 65; refine (at_any _ _ _ _).mono ?_; rintro e w4 ⟨u, rfl, ⟨r, rfl, hr, hhr⟩, hb4⟩; have HR := Lib.hid hhr; have HL4' := Lib.hid (HL3.out.below hb4); clear hhr hb4))
          go_ret
          refine .inr (.inl ⟨_, _, es1, i, r, HL4'.out, HC2.out.more (by omega), ?_, rfl, ?_, ?_⟩)
          · rw [HP1.out, loadP_next H4I.out, ← HK.out, bundleF_none (by rw [← HP.out, ← HFL.out]; exact HG.out)]
          · have := HB2.out.size; have := HF3.out.size; omega
          · rw [← HK.out, ← HP.out]; exact HR.out
        | some s =>
          have hs20 : s.size ≤ 1048576 := by have := HZ.out _ (getF_some (by rw [← hfl]; exact hget)); exact this
          cases hu : unbW s k with
          | none =>
            have HG := Lib.hid hget
            have HU := Lib.hid hu
            clear hget hfl hu
            go_wp2_with (first
              | (go_at_call 123; refine hcon.mono ?_; rintro e w2 ⟨rfl, hb2⟩; have HL2 := Lib.hid (HL1.out.below hb2); have HB2 := Lib.hid hb2; clear hb2)
              | (go_at_call 124; refine (bun_bad w2 g gd v _ _ _ _ d1 _ HL2.out.log HL2.out.disk p k hc1 h0 HG.out hs20 HU.out).mono ?_; rintro e w3 ⟨rfl, hd3, hf3⟩; have HL3 := Lib.hid (HL2.out.look hd3 hf3); have HF3 := Lib.hid hf3; have hn3 := neq_nils w3; have hq3 := eql_bsnil w3 none 0 0; have s5 := (HE.out.step HL3.out.fr (lks HL3.out.sub)).sents.cells.2.2.2.2.2.1; clear hd3 hf3)
              | (go_at_call 65; refine (at_any _ _ _ _).mono ?_; rintro e w4 ⟨u, rfl, ⟨r, rfl, hr, hhr⟩, hb4⟩; have HR := Lib.hid hhr; have HL4' := Lib.hid (HL3.out.below hb4); clear hhr hb4))
            go_ret
            refine .inr (.inl ⟨_, _, es1, i, r, HL4'.out, HC2.out.more (by omega), ?_, rfl, ?_, ?_⟩)
            · rw [HP1.out, loadP_next H4I.out, ← HK.out, bundleF_unb (s := s) (by rw [← HP.out, ← HFL.out]; exact HG.out), HU.out]
            · have := HB2.out.size; have := HF3.out.size; omega
            · rw [← HK.out, ← HP.out]; exact HR.out
          | some ls =>
            have hbun : bundleF d.files i k = some ls := by rw [bundleF_unb (s := s) (by rw [← HP.out, ← HFL.out]; exact hget)]; exact hu
            have hlens := bundleF_some hbun
            have htk := HT1.out.step (w := k) (e := ls) (i := i) (by rw [HLEN.out]; have := H4I.out; omega) hbun
            have hfew := htk.few HN.out
            have hfew2 : es1.length + ls.length ≤ 1099511627776 := by rw [List.length_append] at hfew; omega
            have hlp : 0 < ls.length := by omega
            have HTK := Lib.hid htk
            have HBUN := Lib.hid hbun
            have HFEW := Lib.hid hfew
            have HLL := Lib.hid hlens.1
            have HG := Lib.hid hget
            have HU := Lib.hid hu
            obtain ⟨i0, hi0, hz0, hs0, hby0⟩ := info_bsE
            have HI := Lib.hid (⟨hi0, hz0, hs0, hby0⟩ : _ ∧ _ ∧ _ ∧ _)
            clear hget hfl hu hbun hlens htk hfew hi0 hz0 hs0 hby0
            go_wp2_with (first
              | (go_at_call 123; refine hcon.mono ?_; rintro e w2 ⟨rfl, hb2⟩; have HL2 := Lib.hid (HL1.out.below hb2); have HB2 := Lib.hid hb2; clear hb2)
              | (go_at_call 124; refine (bun_good w2 g gd v _ _ _ _ d1 _ HL2.out.log HL2.out.disk p k hc1 h0 HG.out hs20 HU.out).mono ?_; rintro e w3 ⟨b3, c3, rfl, ho3, hd3, hf3⟩; have HL3 := Lib.hid (HL2.out.look hd3 hf3); have HF3 := Lib.hid hf3; have hn3 := neq_nils w3; have hq3 := eql_bsnil w3 (some ⟨b3, 0, none⟩) ls.length c3; have hd3' := HL3.out.log.heads; have c3g := hd3'.1.2.2.1; have f3g := hd3'.2 2; have HO3 := Lib.hid ho3; have c3g' : w3.cell? ⟨g, 2, none⟩ = some (.slice a1 ln cp1) := (by rw [HLN.out]; exact c3g); have hg3 := lt_of_heap HL3.out.log.cells; clear hd3 hf3 ho3 hd3' c3g)
              | (at_builtin; obtain ⟨vsx, hrx, hbx⟩ := HL3.out.log.ents; obtain ⟨us, hus, hub⟩ := HO3.out; have hrx' : w3.ownsRow 0 94 1 (.slice a1 ln cp1) ln vsx := (by rw [HLN.out]; exact hrx); have hul : us.length = ls.length := (by simpa using hus.1); refine wpList_appM rfl _ _ _ rfl 0 94 i0 _ 1 24 Tryz.underlying135 HI.out.1 HI.out.2.1 HI.out.2.2.1 HI.out.2.2.2 rfl (by decide) (by decide) (.slice a1 ln cp1) ln vsx (by rfl) hrx' ⟨b3, 0, none⟩ ls.length c3 us rfl (by omega) (hus.cells (g := b3) rfl) (bss_ones hul hub) hlp (by rw [HLN.out]; exact hfew2) (Nat.zero_le _) ?_; intro v' w' h2 h3 h4 h5; obtain ⟨gb, cpb, rfl, hgb⟩ := own_slice h2 h5; have H2 := Lib.hid h2; have H3 := Lib.hid (Fr.ofGrown (S := fun k => (Value.slice a1 ln cp1).ownBlock = some k) h3 fun k _ e => e); have H4 := Lib.hid h4; have hne : ¬ (Value.slice a1 ln cp1).ownBlock = some g := (fun e => by obtain ⟨C, hC⟩ := ownBlock_type hrx' e; exact heap_ne HL3.out.log.cells hC (by decide) rfl); have HUL := Lib.hid hul; have HUB := Lib.hid hub; have HRX := Lib.hid hrx'; have HBX := Lib.hid hbx; go_must (have k3 := H3.out.cell c3g' hne; have k4 := (H3.out.frozen (p := ⟨g, 2, none⟩) hg3 hne).trans f3g; clear h2 h3 h4 h5 hul hub hrx' hbx hrx hus hne)))
            go_roundg (N + 1 - (i + 1))
            case measure => omega
            case rel =>
              have hown : OwnBss w' 0 (.slice (some ⟨gb, 0, none⟩) (ln + ls.length) cpb) (es1 ++ ls) := by
                exact OwnBss.push HRX.out HBX.out HLN.out H3.out H2.out (by rw [HLN.out]) (fun j u l hu hl => (HUB.out j u l hu hl).mono (Nat.zero_le _))
              have hmv : Moved w3 (.slice a1 es1.length cp1) (.slice (some ⟨gb, 0, none⟩) (ln + ls.length) cpb) := by rw [← HLN.out]; exact H4.out
              have hfr : Fr (fun k => (Value.slice a1 es1.length cp1).ownBlock = some k) w3 w' := by rw [← HLN.out]; exact H3.out
              have hp := HL3.out.log.setEnts hfr hown hmv
              have hw23 : w.heap.size ≤ w3.heap.size := by have := HB2.out.size; have := HF3.out.size; omega
              have hw3' : w3.heap.size ≤ (w'.setCell ⟨g, 2, none⟩ (.slice (some ⟨gb, 0, none⟩) (ln + ls.length) cpb)).heap.size := hp.2.1.size
              refine ⟨i + 1, ?_, by omega, by go_num, _, _, _, HL3.out.ents hp.1 hp.2.1 hp.2.2 hw23, HC2.out, ?_, ?_, HTK.out, by omega⟩
              · have := HFEW.out; have := HN.out (i + 1) fun j hj => HTK.out.has j (by rw [List.length_append, HLEN.out, HLL.out, HK.out]; have := H4I.out; omega); exact this
              · show loadP _ _ _ _ _ = _
                rw [HP1.out, loadP_next H4I.out, ← HK.out, HBUN.out]
              · show (es1 ++ ls).length = _
                rw [List.length_append, HLEN.out, HLL.out, HK.out]
                have := H4I.out
                omega
      · have HHU := Lib.hid (HC1.out.hurt (hurt_enter h0))
        clear hfl
        go_wp2_with (first
          | (go_at_call 123; refine hcon.mono ?_; rintro e w2 ⟨rfl, hb2⟩; have HL2 := Lib.hid (HL1.out.below hb2); have HB2 := Lib.hid hb2; clear hb2)
          | (go_at_call 124; refine (bun_err w2 g gd v _ _ _ _ d1 _ HL2.out.log HL2.out.disk p k hc1 h0).mono ?_; rintro e w3 ⟨q, m, r, rfl, hq, hr, hh3, hhr, hd3, hf3⟩; have HL3 := Lib.hid (HL2.out.look hd3 hf3); have HQ := Lib.hid hh3; have HR := Lib.hid hhr; have hn3 := neq_nil w3 153 (.pointer (some ⟨r, 0, none⟩)); clear hd3 hf3 hh3 hhr))
        go_ret
        refine .inl ⟨_, _, es1, i, q, m, r, HL3.out, HHU.out.more (by omega), rfl, ?_, ?_, HQ.out, ?_⟩
        · have := HB2.out.size; omega
        · have := HB2.out.size; omega
        · rw [← HK.out, ← HP.out]; exact HR.out
    · have hltz : ¬ (ln : Int) < (n : Int) := by omega
      have hend : n ≤ 4 * i := by omega
      have HEN := Lib.hid hend
      clear hl4 hend
      go_wp2
      go_ret
      refine .inr (.inr ⟨_, d1, es1, HL1.out, HC1.out.more (by omega), ?_, rfl⟩)
      rw [HP1.out, loadP_end HEN.out]
end Go.Proofs.YtefccfakhgdfbabGreatDoor
end

section
namespace Go.Proofs.YtefccfakhgdfbabGreatDoor
open Go.RowKit
theorem bequal_any {w : World} {v1 v2 : Value} {l1 l2 : List UInt8} (h1 : BytesAt w v1 l1) (h2 : BytesAt w v2 l2) : Calls Tryz.prog 128 #[v1, v2] w fun e w' => e = .returned (.bool (l1 == l2)) ∧ w' = w := by
  have e : ∀ l : List UInt8, Lib.bytesOf (l.map fun c => (c.toNat : Int)) = l := by
    intro l
    unfold Lib.bytesOf
    rw [List.map_map]
    conv => rhs; rw [← List.map_id l]
    exact List.map_congr_left fun c _ => by simp
  have e2 : ∀ l : List UInt8, strOfNums (l.map fun c => (c.toNat : Int)) = ⟨l.toArray⟩ := by
    intro l
    have := e l
    unfold Lib.bytesOf at this
    unfold strOfNums
    rw [this]
  have h := Tryz.bytes_Equal v1 v2 (l1.map fun c => (c.toNat : Int)) (l2.map fun c => (c.toNat : Int)) w (by rw [e2]; exact run_bs h1) (by rw [e2]; exact run_bs h2)
  rw [e, e] at h
  exact h
def furPost (w : World) (g gd : Nat) (v ve vl vp : Value) (vs : List Value) (d : Dk) (L : Lg) (B : Nat) (e : Ending) (w' : World) : Prop :=
  (∃ d' q m r p, Lkd w g gd v ve vl vp vs L ve d' L.entries w' ∧ Hurt B d d' ∧ e = .returned (.tuple #[.bool false, .iface 153 (.pointer (some ⟨r, 0, none⟩))]) ∧ w.heap.size ≤ q ∧ w.heap.size ≤ r ∧ w'.heap[q]? = some (.cells #[.int .i64 m] 366 (0, 0)) ∧
      w'.heap[r]? = some (.cells #[.string p, .iface 152 (.pointer (some ⟨q, 0, none⟩))] 155 (0, 0))) ∨
  (∃ ve' d', Lkd w g gd v ve vl vp vs L ve' d' (L.entries ++ (furtherP d.files L.entries).1) w' ∧ Calm B d d' ∧ e = .returned (.tuple #[.bool (furtherP d.files L.entries).2, .nilIface]))
theorem furtherW_stop {l : List Fil} {d : List (List UInt8)} {k : Nat} (h : k ≤ d.length % 4) : furtherW l d k = ([], false) := by
  cases k with
  | zero => rfl
  | succ k => rw [furtherW, if_pos h]
theorem furtherW_miss {l : List Fil} {d : List (List UInt8)} {k : Nat} (h : d.length % 4 < k) (hg : getF l (bunName (d.length / 4) k) = none) : furtherW l d k = furtherW l d (k - 1) := by
  cases k with
  | zero => omega
  | succ k => rw [furtherW, if_neg (by omega), hg]; rfl
theorem furtherW_bad {l : List Fil} {d : List (List UInt8)} {k : Nat} {s : ByteArray} (h : d.length % 4 < k) (hg : getF l (bunName (d.length / 4) k) = some s) (hb : bundleF l (d.length / 4) k = none) : furtherW l d k = ([], false) := by
  cases k with
  | zero => omega
  | succ k => rw [furtherW, if_neg (by omega), hg, hb]; rfl
theorem furtherW_good {l : List Fil} {d e : List (List UInt8)} {k : Nat} {s : ByteArray} (h : d.length % 4 < k) (hg : getF l (bunName (d.length / 4) k) = some s) (hb : bundleF l (d.length / 4) k = some e) :
    furtherW l d k = if e.take (d.length % 4) = d.drop (4 * (d.length / 4)) then (e.drop (d.length % 4), decide (k = 4)) else ([], false) := by
  cases k with
  | zero => omega
  | succ k => rw [furtherW, if_neg (by omega), hg, hb]; rfl
set_option maxRecDepth 100000 in
set_option maxHeartbeats 4000000 in
theorem further_any (f : Nat → Addr) (w : World) (g gd : Nat) (v ve vl vp : Value) (vs : List Value) (d : Dk) (L : Lg) (h : LogIs w g gd ve vl vp vs L) (hD : DiskAt w gd v d) (hE : EnvS f (fun k => k = gd ∨ LogS g ve vl vp vs k) w)
    (hT : Taken d.files L.entries) (hlen : L.entries.length < 1000000000000) (hc : d.calls < 1000000000000) (hsz : ∀ b ∈ d.files, b.2.size ≤ 1048576) :
    Calls Tryz.prog 70 #[.pointer (some ⟨g, 0, none⟩)] w (furPost w g gd v ve vl vp vs d L 4) := by
  have HE := Lib.hid hE
  have HZ := Lib.hid hsz
  have HT := Lib.hid hT
  have hg := lt_of_heap h.cells
  have HL := Lib.hid (⟨hD, h, Fr.refl _ _, Sub.refl _ _⟩ : Lkd w g gd v ve vl vp vs L ve d L.entries w)
  obtain ⟨⟨_, _, c2, _, _, _⟩, f0⟩ := h.heads
  obtain ⟨vsr, hrow, hrb⟩ := h.ents
  obtain ⟨a1, cp1, rfl⟩ := own_any hrow
  obtain ⟨ln, hln⟩ : ∃ ln, ln = L.entries.length := ⟨_, rfl⟩
  rw [← hln] at c2 hlen
  have hcap : ln ≤ cp1 ∧ (0 < ln → ∃ b1, a1 = some ⟨b1, 0, none⟩) := by
    rcases hrow.2 with ⟨e, h0⟩ | ⟨b, cap, cur, e, _, _, hnc, _⟩
    · exact ⟨by omega, fun h => by omega⟩
    · simp at e
      exact ⟨by omega, fun _ => ⟨b, e.1⟩⟩
  obtain ⟨hcap, hadr⟩ := hcap
  have HADR := Lib.hid hadr
  clear hadr
  have HLN := Lib.hid hln
  have HROW := Lib.hid hrow
  have HRB := Lib.hid hrb
  clear h hD hE hT hsz hln hrow hrb
  go_enter Tryz.func70, Tryz.ntmps70
  obtain ⟨q, hq⟩ : ∃ q, q = ln / 4 := ⟨_, rfl⟩
  obtain ⟨hn, hhn⟩ : ∃ hn, hn = ln % 4 := ⟨_, rfl⟩
  have hq1 : (ln : Int) / 4 = (q : Int) := by omega
  have hq2 : (q : Int) * 4 ≤ (ln : Int) := by omega
  have hq3 : (0 : Int) ≤ (q : Int) * 4 := by omega
  have hq4 : ln - q * 4 = hn := by omega
  have HQ := Lib.hid hq
  have HHN := Lib.hid hhn
  have hn3 : hn < 4 := by omega
  have hqb : q < 9223372036854775808 := by omega
  clear hq hhn
  go_upto_region 2 with fail
  go_cut [5] from 18 to 24 (fun s5 wx => w = wx ∧ ∃ av cv, s5 = .slice av hn cv ∧ Aside (0 < hn → ∃ b1, a1 = some ⟨b1, 0, none⟩ ∧ av = some ⟨b1, q * 4, none⟩))
  case first =>
    by_cases hcq : cp1 = q * 4
    · subst hcq
      go_wp2_with fail
      go_meet
      exact ⟨rfl, _, _, by rw [hq4], fun h => by omega⟩
    · go_wp2_with fail
      go_meet
      refine ⟨rfl, _, _, by rw [hq4], fun h => ?_⟩
      obtain ⟨b1, rfl⟩ := HADR.out (by omega)
      exact ⟨b1, rfl, by simp [Addr.add_lit]⟩
  case rest =>
    obtain ⟨rfl, av, cv, rfl, HAV⟩ := hcut
    clear hcap hq1 hq2 hq3 hq4
    go_wp2_with fail
    go_loopg [6] 4 (fun gg s6 wr => ∃ k : Nat, k ≤ 4 ∧ k ≤ gg ∧ s6 = .int .i64 k ∧ hn ≤ k ∧ ∃ d1, Aside (Lkd w g gd v (.slice a1 L.entries.length cp1) vl vp vs L (.slice a1 L.entries.length cp1) d1 L.entries wr) ∧ Aside (Calm (4 - k) d d1) ∧ Aside (furtherP d.files L.entries = furtherW d.files L.entries k) ∧ w.heap.size ≤ wr.heap.size)
    case atStart => exact ⟨4, by omega, by omega, rfl, by omega, d, HL.out, Calm.refl d, rfl, Nat.le_refl _⟩
    case round =>
      obtain ⟨k, hk4, hgg, rfl, hnk, d1, HL1, HC1, HP1, hsw⟩ := hrel
      by_cases hlt : hn < k
      · have hltz : (hn : Int) < (k : Int) := by omega
        have hE1 := HE.out.step HL1.out.fr (lks HL1.out.sub)
        have hcon := fname_any (-1) (q : Int) (k : Int) wr (by omega) hE1.num
        obtain ⟨p, hp⟩ : ∃ p, p = bunName q k := ⟨_, rfl⟩
        rw [show sOf (nameOf (-1) (q : Int) (k : Int)) = p from hp.symm] at hcon
        have hc1 : d1.calls < 1099511627776 := by have := HC1.out.calls; omega
        have hfl := HC1.out.files
        have hmod : L.entries.length % 4 < k := by have := HLN.out; have := HHN.out; omega
        have hpq : p = bunName (L.entries.length / 4) k := by rw [hp, HQ.out, HLN.out]
        have HMOD := Lib.hid hmod
        have HPQ := Lib.hid hpq
        have HFL := Lib.hid hfl
        clear hp hmod hpq
        rcases Nat.eq_zero_or_pos (enterK d1) with h0 | h0
        · have HC2 := Lib.hid ((HC1.out.trans (calm_enter h0)).more (show 4 - k + 1 ≤ 4 - (k - 1) by omega))
          cases hget : getF d1.files p with
          | none =>
            have HG := Lib.hid hget
            clear hget hfl
            go_wp2_with (first
              | (go_at_call 127; refine hcon.mono ?_; rintro e w2 ⟨rfl, hb2⟩; have HL2 := Lib.hid (HL1.out.below hb2); have HB2 := Lib.hid hb2; clear hb2)
              | (go_at_call 124; refine (bun_miss w2 g gd v _ _ _ _ d1 _ HL2.out.log HL2.out.disk p k hc1 h0 HG.out).mono ?_; rintro e w3 ⟨rfl, hd3, hf3⟩; have HL3 := Lib.hid (HL2.out.look hd3 hf3); have HF3 := Lib.hid hf3; have hn3 := neq_nils w3; clear hd3 hf3))
            go_roundg (k - 1)
            case measure => omega
            case rel =>
              refine ⟨k - 1, by omega, by omega, by go_num, by omega, _, HL3.out, HC2.out, ?_, by have := HB2.out.size; have := HF3.out.size; omega⟩
              show furtherP _ _ = _
              rw [HP1.out, furtherW_miss HMOD.out (by rw [← HPQ.out, ← HFL.out]; exact HG.out)]
          | some s =>
            have hs20 : s.size ≤ 1048576 := HZ.out _ (getF_some (by rw [← hfl]; exact hget))
            have hgetd : getF d.files (bunName (L.entries.length / 4) k) = some s := by rw [← HPQ.out, ← HFL.out]; exact hget
            cases hu : unbW s k with
            | none =>
              have hbn : bundleF d.files (L.entries.length / 4) k = none := by rw [bundleF_unb hgetd]; exact hu
              have HG := Lib.hid hget
              have HU := Lib.hid hu
              have hfp : furtherP d.files L.entries = ([], false) := by rw [HP1.out, furtherW_bad HMOD.out hgetd hbn]
              have HFP := Lib.hid hfp
              clear hget hfl hu hgetd hbn hfp
              go_wp2_with (first
                | (go_at_call 127; refine hcon.mono ?_; rintro e w2 ⟨rfl, hb2⟩; have HL2 := Lib.hid (HL1.out.below hb2); have HB2 := Lib.hid hb2; clear hb2)
                | (go_at_call 124; refine (bun_bad w2 g gd v _ _ _ _ d1 _ HL2.out.log HL2.out.disk p k hc1 h0 HG.out hs20 HU.out).mono ?_; rintro e w3 ⟨rfl, hd3, hf3⟩; have HL3 := Lib.hid (HL2.out.look hd3 hf3); have HF3 := Lib.hid hf3; have hn3 := neq_nils w3; have hq3 := eql_bsnil w3 none 0 0; clear hd3 hf3))
              go_ret2
              refine .inr ⟨.slice a1 L.entries.length cp1, enterD d1, ?_, HC2.out.more (by omega), by rw [HFP.out]; rfl⟩
              rw [HFP.out, List.append_nil]
              exact HL3.out
            | some ls =>
              have hbn : bundleF d.files (L.entries.length / 4) k = some ls := by rw [bundleF_unb hgetd]; exact hu
              have hlk := (bundleF_some hbn).1
              have HG := Lib.hid hget
              have HU := Lib.hid hu
              have hfp : furtherP d.files L.entries = if ls.take (L.entries.length % 4) = L.entries.drop (4 * (L.entries.length / 4)) then (ls.drop (L.entries.length % 4), decide (k = 4)) else ([], false) := by rw [HP1.out, furtherW_good HMOD.out hgetd hbn]
              have HFP := Lib.hid hfp
              have HLK := Lib.hid hlk
              clear hget hfl hu hgetd hbn hfp hlk
              go_wp2_with (first
                | (go_at_call 127; refine hcon.mono ?_; rintro e w2 ⟨rfl, hb2⟩; have HL2 := Lib.hid (HL1.out.below hb2); have HB2 := Lib.hid hb2; clear hb2)
                | (go_at_call 124; refine (bun_good w2 g gd v _ _ _ _ d1 _ HL2.out.log HL2.out.disk p k hc1 h0 HG.out hs20 HU.out).mono ?_; rintro e w3 ⟨b3, c3, rfl, ho3, hd3, hf3⟩; have HL3 := Lib.hid (HL2.out.look hd3 hf3); have HF3 := Lib.hid hf3; have HO3 := Lib.hid ho3; have hn3 := neq_nils w3; have hq3 := eql_bsnil w3 (some ⟨b3, 0, none⟩) ls.length c3; clear hd3 hf3 ho3))
              go_loopg [50, 10, 11] hn (fun gg s50 _ _ wx => ∃ jj : Nat, jj ≤ hn ∧ hn - jj ≤ gg ∧ s50 = .int .i64 jj ∧ w3 = wx ∧ Aside (∀ j, j < jj → ls[j]? = L.entries[4 * q + j]?))
              case atStart =>
                refine ⟨0, by omega, by omega, rfl, rfl, ?_⟩
                show ∀ j, j < 0 → _
                intro j hj
                omega
              case round =>
                obtain ⟨jj, hjj, hg2, rfl, rfl, HJ⟩ := hrel
                by_cases hlt2 : jj < hn
                · have hltz2 : (jj : Int) < (hn : Int) := by omega
                  obtain ⟨b1, ha1, rfl⟩ := HAV.out (by omega)
                  subst ha1
                  obtain ⟨vs3, hrow3, hb3⟩ := HL3.out.log.ents
                  obtain ⟨us, hus, hub⟩ := HO3.out
                  have hle : 4 * q + jj < L.entries.length := by have := HQ.out; have := HHN.out; have := HLN.out; omega
                  have hv3 : vs3.length = L.entries.length := by simpa using hrow3.1
                  have hul : us.length = ls.length := by simpa using hus.1
                  obtain ⟨u1, hu1⟩ : ∃ u, vs3[4 * q + jj]? = some u := ⟨_, List.getElem?_eq_getElem (by omega)⟩
                  obtain ⟨u2, hu2⟩ : ∃ u, us[jj]? = some u := ⟨_, List.getElem?_eq_getElem (by have := HLK.out; omega)⟩
                  obtain ⟨x1, hx1⟩ : ∃ x, L.entries[4 * q + jj]? = some x := ⟨_, List.getElem?_eq_getElem hle⟩
                  obtain ⟨x2, hx2⟩ : ∃ x, ls[jj]? = some x := ⟨_, List.getElem?_eq_getElem (by have := HLK.out; omega)⟩
                  have k1 : w3.cell? ⟨b1, q * 4 + jj, none⟩ = some u1 := by
                    have h1 := hrow3.cells (g := b1) rfl (4 * q + jj) u1 hu1
                    rw [Addr.add_lit] at h1
                    simpa [Nat.mul_comm] using h1
                  have k2 : w3.cell? ⟨b3, jj, none⟩ = some u2 := by
                    have h1 := hus.cells (g := b3) rfl jj u2 hu2
                    rw [Addr.add_lit] at h1
                    simpa using h1
                  have hj0 : (0 : Int) ≤ (jj : Int) := by omega
                  have hjl : (jj : Int) < (ls.length : Int) := by have := HLK.out; omega
                  have hcq := bequal_any (hb3 _ _ _ hu1 hx1).at (hub _ _ _ hu2 hx2).at
                  have HX1 := Lib.hid hx1
                  have HX2 := Lib.hid hx2
                  clear hrow3 hb3 hus hub hle hv3 hul hu1 hu2 hx1 hx2
                  cases hbb : (x1 == x2) with
                  | true =>
                    rw [hbb] at hcq
                    have hxx : x1 = x2 := by simpa using hbb
                    have HXX := Lib.hid hxx
                    clear hbb hxx
                    go_wp2_with (go_at_call 128; refine hcq.mono ?_; rintro e w4 ⟨rfl, rfl⟩)
                    go_roundg (hn - (jj + 1))
                    case measure => omega
                    case rel =>
                      refine ⟨jj + 1, by omega, by omega, by go_num, rfl, ?_⟩
                      show ∀ j, j < jj + 1 → _
                      intro j hj
                      by_cases hjk : j = jj
                      · subst hjk
                        rw [HX1.out, HX2.out, HXX.out]
                      · exact HJ.out j (by omega)
                  | false =>
                    rw [hbb] at hcq
                    have hxx : x1 ≠ x2 := by simpa using hbb
                    have HXX := Lib.hid hxx
                    clear hbb hxx
                    go_wp2_with (go_at_call 128; refine hcq.mono ?_; rintro e w4 ⟨rfl, rfl⟩)
                    go_ret2
                    have hfp : furtherP d.files L.entries = ([], false) := by
                      rw [HFP.out, if_neg]
                      intro e
                      have h1 : (ls.take (L.entries.length % 4))[jj]? = (L.entries.drop (4 * (L.entries.length / 4)))[jj]? := by rw [e]
                      rw [List.getElem?_take_of_lt (by have := HHN.out; have := HLN.out; omega), List.getElem?_drop, HX2.out, show 4 * (L.entries.length / 4) + jj = 4 * q + jj by have := HQ.out; have := HLN.out; omega, HX1.out] at h1
                      exact HXX.out (Option.some.inj h1).symm
                    refine .inr ⟨.slice (some ⟨b1, 0, none⟩) L.entries.length cp1, enterD d1, ?_, HC2.out.more (by omega), by rw [hfp]; rfl⟩
                    rw [hfp, List.append_nil]
                    exact HL3.out
                · have hltz2 : ¬ (jj : Int) < (hn : Int) := by omega
                  have hjh : jj = hn := by omega
                  have HJH := Lib.hid hjh
                  clear hjh
                  obtain ⟨i0, hi0, hz0, hs0, hby0⟩ := info_bsE
                  have HI := Lib.hid (⟨hi0, hz0, hs0, hby0⟩ : _ ∧ _ ∧ _ ∧ _)
                  clear hi0 hz0 hs0 hby0
                  have hd3 := HL3.out.log.heads
                  have c3g := hd3.1.2.2.1
                  have f3g := hd3.2 2
                  have hg3 := lt_of_heap HL3.out.log.cells
                  have c3g' : w3.cell? ⟨g, 2, none⟩ = some (.slice a1 ln cp1) := by rw [HLN.out]; exact c3g
                  obtain ⟨vs3, hrow3, hb3⟩ := HL3.out.log.ents
                  obtain ⟨us, hus, hub⟩ := HO3.out
                  have hrow3' : w3.ownsRow 0 94 1 (.slice a1 ln cp1) ln vs3 := by rw [HLN.out]; exact hrow3
                  have hul : us.length = ls.length := by simpa using hus.1
                  have hne : ¬ (Value.slice a1 ln cp1).ownBlock = some g := fun e => by
                    obtain ⟨C, hC⟩ := ownBlock_type hrow3' e
                    exact heap_ne HL3.out.log.cells hC (by decide) rfl
                  have hlk := HLK.out
                  have hc3 : ls.length ≤ c3 := by
                    rcases hus.2 with ⟨e, _⟩ | ⟨b, cap, cur, e, _, _, hnc, _⟩
                    · cases e
                    · simp at e; omega
                  have hs1 : (hn : Int) ≤ (ls.length : Int) := by omega
                  have hs0 : (0 : Int) ≤ (hn : Int) := by omega
                  have hs3 : ¬ c3 = hn := by omega
                  have hnews : ∀ (j : Nat) (u : Value), (us.drop hn)[j]? = some u → w3.drew.cell? ((⟨b3, hn, none⟩ : Addr).add j) = some u := by
                    intro j u hj
                    rw [List.getElem?_drop] at hj
                    have h1 := hus.cells (g := b3) rfl (hn + j) u hj
                    rw [Addr.add_lit] at h1 ⊢
                    simpa using h1
                  have hones : ∀ u ∈ us.drop hn, u.oneCell' = true := fun u hu => bss_ones hul hub u (List.mem_of_mem_drop hu)
                  have hdl : (us.drop hn).length = (ls.length - hn) * 1 := by rw [List.length_drop]; omega
                  have hpos : 0 < ls.length - hn := by omega
                  have hbig : ln + (ls.length - hn) ≤ 1099511627776 := by omega
                  obtain ⟨ck, hck, hck2⟩ : ∃ ck, ((k : Int) == 4) = ck ∧ ck = decide (k = 4) := ⟨_, rfl, by rw [Bool.eq_iff_iff]; simp; omega⟩
                  have HCK := Lib.hid hck2
                  have HROW3 := Lib.hid hrow3'
                  have HB3 := Lib.hid hb3
                  have HUL := Lib.hid hul
                  have HUB := Lib.hid hub
                  have HNEWS := Lib.hid hnews
                  have HONES := Lib.hid hones
                  have HDL := Lib.hid hdl
                  have HPOS := Lib.hid hpos
                  have HBIG := Lib.hid hbig
                  have HNE := Lib.hid hne
                  clear hck2 hrow3 hrow3' hb3 hul hub hus hnews hones hdl hpos hbig hne hd3 c3g hlk
                  go_upto_region 18 with fail
                  go_region_law (refine step_appM rfl _ _ _ rfl 0 94 i0 _ 1 24 Tryz.underlying135 HI.out.1 HI.out.2.1 HI.out.2.2.1 HI.out.2.2.2 rfl (by decide) (by decide) (.slice a1 ln cp1) ln vs3 rfl (ownsRow_below HROW3.out (below_drew w3)) ⟨b3, hn, none⟩ (ls.length - hn) (c3 - hn) (us.drop hn) rfl HDL.out HNEWS.out HONES.out HPOS.out HBIG.out (Nat.zero_le _) ?_; intro v' w' h2 h3 h4 h5; obtain ⟨gb, cpb, rfl, hgb⟩ := own_slice h2 h5; have H2 := Lib.hid h2; have H3 := Lib.hid ((Fr.ofBelow (S := fun k => (Value.slice a1 ln cp1).ownBlock = some k) (below_drew w3)).trans (Fr.ofGrown h3 fun k _ e => e)); have H4 := Lib.hid ((Moved.refl w3 (.slice a1 ln cp1)).trans h4 (by simp)); have k3 := H3.out.cell c3g' HNE.out; have k4 := (H3.out.frozen (p := ⟨g, 2, none⟩) hg3 HNE.out).trans f3g; clear h2 h3 h4 h5)
                  all_goals (
                    go_wp2_with fail
                    go_ret2
                    have hfp : furtherP d.files L.entries = (ls.drop hn, decide (k = 4)) := by
                      have hm : L.entries.length % 4 = hn := by have := HHN.out; have := HLN.out; omega
                      have hq4 : 4 * (L.entries.length / 4) = 4 * q := by have := HQ.out; have := HLN.out; omega
                      rw [HFP.out, hm, hq4, if_pos]
                      apply List.ext_getElem?
                      intro j
                      by_cases hj : j < hn
                      · rw [List.getElem?_take_of_lt hj, List.getElem?_drop]
                        exact HJ.out j (by have := HJH.out; omega)
                      · rw [List.getElem?_eq_none (by rw [List.length_take]; omega), List.getElem?_eq_none (by rw [List.length_drop]; omega)]
                    have hown : OwnBss w' 0 (.slice (some ⟨gb, 0, none⟩) (ln + (ls.length - hn)) cpb) (L.entries ++ ls.drop hn) :=
                      OwnBss.push (ls' := ls.drop hn) HROW3.out HB3.out HLN.out H3.out H2.out (by rw [HLN.out, List.length_drop]) (fun j u l hu hl => by
                        rw [List.getElem?_drop] at hu hl
                        exact (HUB.out (hn + j) u l hu hl).mono (Nat.zero_le _))
                    have hmv : Moved w3 (.slice a1 L.entries.length cp1) (.slice (some ⟨gb, 0, none⟩) (ln + (ls.length - hn)) cpb) := by rw [← HLN.out]; exact H4.out
                    have hfr : Fr (fun k => (Value.slice a1 L.entries.length cp1).ownBlock = some k) w3 w' := by rw [← HLN.out]; exact H3.out
                    have hp := HL3.out.log.setEnts hfr hown hmv
                    have hw23 : w.heap.size ≤ w3.heap.size := by have := HB2.out.size; have := HF3.out.size; omega
                    refine .inr ⟨.slice (some ⟨gb, 0, none⟩) (ln + (ls.length - hn)) cpb, enterD d1, ?_, HC2.out.more (by omega), by rw [hfp, ← HCK.out]; rfl⟩
                    rw [hfp]
                    exact HL3.out.ents hp.1 hp.2.1 hp.2.2 hw23)
        · have HHU := Lib.hid ((HC1.out.hurt (hurt_enter h0)).more (show 4 - k + 1 ≤ 4 by omega))
          clear hfl
          go_wp2_with (first
            | (go_at_call 127; refine hcon.mono ?_; rintro e w2 ⟨rfl, hb2⟩; have HL2 := Lib.hid (HL1.out.below hb2); have HB2 := Lib.hid hb2; clear hb2)
            | (go_at_call 124; refine (bun_err w2 g gd v _ _ _ _ d1 _ HL2.out.log HL2.out.disk p k hc1 h0).mono ?_; rintro e w3 ⟨q3, m, r, rfl, hq, hr, hh3, hhr, hd3, hf3⟩; have HL3 := Lib.hid (HL2.out.look hd3 hf3); have HQ3 := Lib.hid hh3; have HR := Lib.hid hhr; have hn3 := neq_nil w3 153 (.pointer (some ⟨r, 0, none⟩)); clear hd3 hf3 hh3 hhr))
          go_ret2
          refine .inl ⟨_, q3, m, r, p, HL3.out, HHU.out, rfl, ?_, ?_, HQ3.out, HR.out⟩
          · have := HB2.out.size; omega
          · have := HB2.out.size; omega
      · have hltz : ¬ (hn : Int) < (k : Int) := by omega
        have hst : k ≤ L.entries.length % 4 := by have := HLN.out; have := HHN.out; omega
        have HST := Lib.hid hst
        clear hst
        go_wp2_with fail
        go_ret2
        have hfp : furtherP d.files L.entries = ([], false) := by rw [HP1.out]; exact furtherW_stop HST.out
        refine .inr ⟨.slice a1 L.entries.length cp1, d1, ?_, HC1.out.more (by omega), by rw [hfp]; rfl⟩
        rw [hfp, List.append_nil]
        exact HL1.out
end Go.Proofs.YtefccfakhgdfbabGreatDoor
end
