/-
  tilesref.bundle: the bundle of an index and width in some files. Conditions: fewer than 2^40 files of at most 2^20 bytes.
  tilesref.further: the entries behind some that are there. Conditions: fewer than 2^40 files of at most 2^20 bytes; at most 2^20 entries.
  tilesref.Opened: what a reader of some files comes to. Conditions: fewer than 2^40 files of at most 2^20 bytes; few indices of bundles.
-/
import Derived.Test.YtefccfakhgdfbabGreatDoorPb37
import Derived.Test.YtefccfakhgdfbabGreatDoorPb33
import Derived.Test.YtefccfakhgdfbabGreatDoorPb10
import Derived.Test.YtefccfakhgdfbabGreatDoorPb11
import Derived.Test.YtefccfakhgdfbabGreatDoorPb20
import Derived.Test.YtefccfakhgdfbabGreatDoorPb24
import Derived.Test.YtefccfakhgdfbabGreatDoorPb17
import Derived.Test.YtefccfakhgdfbabGreatDoorPb12
import Derived.Deep.Cut
set_option linter.unusedVariables false
set_option linter.unusedSimpArgs false
section
namespace Go.Proofs.YtefccfakhgdfbabGreatDoor
open Go.RowKit
theorem findF_none {l : List Fil} {p : ByteArray} (h : getF l p = none) : findF l p = -1 := by
  unfold findF
  rw [if_neg]
  intro hl
  rw [getF_hit hl] at h
  cases h
theorem findF_some {l : List Fil} {p b : ByteArray} (h : getF l p = some b) : ∃ k x, findF l p = ((k : Nat) : Int) ∧ k < l.length ∧ l[k]? = some x ∧ x.2 = b := by
  by_cases hl : findN l p < l.length
  · rw [getF_hit hl] at h
    exact ⟨findN l p, _, by unfold findF; rw [if_pos hl], hl, List.getElem?_eq_getElem hl, Option.some.inj h⟩
  · rw [getF_miss hl] at h; cases h
theorem runb_none {s : ByteArray} {w : World} (hn : s.size ≤ 1099511627776) (hu : unbundleOf s.data.toList = none) :
    Calls Tryz.prog 166 #[.string s] w fun e w' => e = .returned (.tuple #[.slice none 0 0, .bool false]) ∧ Below w.heap.size w w' :=
  (runbundle_any s w hn).mono fun e w' hp => by
    obtain ⟨v', h1, h2, ⟨_, h4⟩ | ⟨ls, h3, _⟩⟩ := hp
    · rw [hu] at h1
      subst h4
      exact ⟨h1, h2⟩
    · rw [hu] at h3; cases h3
theorem runb_some {s : ByteArray} {ls : List (List UInt8)} {w : World} (hn : s.size ≤ 1099511627776) (hu : unbundleOf s.data.toList = some ls) :
    Calls Tryz.prog 166 #[.string s] w fun e w' => ∃ b c ss, e = .returned (.tuple #[.slice (some ⟨b, 0, none⟩) ss.length c, .bool true]) ∧ OwnStrs w' w.heap.size (.slice (some ⟨b, 0, none⟩) ss.length c) ss ∧ bss ss = ls ∧ Below w.heap.size w w' :=
  (runbundle_any s w hn).mono fun e w' hp => by
    obtain ⟨v', h1, h2, ⟨h3, _⟩ | ⟨ss, h3, h4⟩⟩ := hp
    · rw [hu] at h3; cases h3
    · rw [hu] at h1 h3
      have h3 := Option.some.inj h3
      have hl := (unbundleOf_lens hu).1
      have hl2 : ls.length = ss.length := by rw [h3]; simp [bss]
      have h5 := h4
      rcases h4.2 with ⟨_, h0⟩ | ⟨b, cap, cur, rfl, _⟩
      · omega
      · exact ⟨b, cap, ss, h1, h5, h3.symm, h2⟩
/-- What bundle answers. -/
def rbunPost (l : List Fil) (i k : Nat) (w : World) (e : Ending) (w' : World) : Prop :=
  Below w.heap.size w w' ∧ ((bundleF l i k = none ∧ ∃ u, e = .returned (.tuple #[u, .bool false])) ∨ ∃ ls b c ss, bundleF l i k = some ls ∧ e = .returned (.tuple #[.slice (some ⟨b, 0, none⟩) ss.length c, .bool true]) ∧ OwnStrs w' w.heap.size (.slice (some ⟨b, 0, none⟩) ss.length c) ss ∧ bss ss = ls)
set_option maxRecDepth 100000 in
set_option maxHeartbeats 2000000 in
theorem rbundleF_any (w : World) (va : Value) (l : List Fil) (h : FilesAt w va l) (hn : l.length ≤ 1099511627776) (hsz : ∀ f ∈ l, f.2.size ≤ 1048576) (i k : Nat) (hi : i < 9223372036854775808) (hk : k < 9223372036854775808) :
    Calls Tryz.prog 112 #[va, .int .i64 i, .int .i64 k] w (rbunPost l i k w) := by
  have HH := Lib.hid h
  obtain ⟨a, c, rfl, hc, hx⟩ := h
  have HX := Lib.hid hx
  clear hx
  obtain ⟨p, hp⟩ : ∃ p, p = bunName i k := ⟨_, rfl⟩
  have hcon := rname_any (-1) (i : Int) (k : Int) w (by omega)
  rw [show sOf (nameOf (-1) (i : Int) (k : Int)) = p from hp.symm] at hcon
  have HP := Lib.hid hp
  cases hg : getF l p with
  | none =>
    have hf := findF_none hg
    have HF := Lib.hid hf
    have hbn : bundleF l i k = none := bundleF_none (by rw [← hp]; exact hg)
    have HBN := Lib.hid hbn
    clear hf hg hp hbn
    go_enter Tryz.func112, Tryz.ntmps112
    go_wp2_with (first
      | (go_at_call 113; refine hcon.mono ?_; rintro e w2 ⟨rfl, hb2⟩; have HH2 := Lib.hid (HH.out.below hb2); have HB2 := Lib.hid hb2; clear hb2)
      | (go_at_call 59; refine (rfind_any w2 _ l p HH2.out hn).mono ?_; rintro e w3 ⟨rfl, rfl⟩; rw [HF.out]))
    go_ret2
    exact ⟨HB2.out, .inl ⟨HBN.out, _, rfl⟩⟩
  | some b =>
    obtain ⟨j, x, hf, hjl, hlx, hxb⟩ := findF_some hg
    obtain ⟨bb, off, rfl, _, d2⟩ := HX.out j x hlx
    have hbs : b.size ≤ 1099511627776 := by have := hsz x (List.mem_of_getElem? hlx); rw [hxb] at this; omega
    have hbw : bb < w.heap.size := cell_lt d2
    rw [hxb] at d2
    have hg' : getF l (bunName i k) = some b := by rw [← hp]; exact hg
    have hj0 : (0 : Int) ≤ (j : Int) := by omega
    have hj1 : (j : Int) < (l.length : Int) := by omega
    have hj2 : ¬ (j : Int) < 0 := by omega
    have HF := Lib.hid hf
    clear hf hg hp hlx hxb hjl hsz
    cases hu : unbundleOf b.data.toList with
    | none =>
      have hbn : bundleF l i k = none := bundleF_bad hg' hu
      have HBN := Lib.hid hbn
      have HU := Lib.hid hu
      clear hbn hu hg'
      go_enter Tryz.func112, Tryz.ntmps112
      go_wp2_with (first
        | (go_at_call 113; refine hcon.mono ?_; rintro e w2 ⟨rfl, hb2⟩; have HH2 := Lib.hid (HH.out.below hb2); have HB2 := Lib.hid hb2; have d3 := (hb2.cell (p := ⟨bb, off + j * 2 + 1, none⟩) hbw).trans d2; clear hb2)
        | (go_at_call 59; refine (rfind_any w2 _ l p HH2.out hn).mono ?_; rintro e w3 ⟨rfl, rfl⟩; rw [HF.out])
        | (go_at_call 166; refine (runb_none hbs HU.out).mono ?_; rintro e w4 ⟨rfl, hb4⟩; have HB4 := Lib.hid hb4; clear hb4))
      go_ret2
      exact ⟨HB2.out.trans (HB4.out.mono HB2.out.size), .inl ⟨HBN.out, _, rfl⟩⟩
    | some ls =>
      have hbo := bundleF_ok hg' hu
      have HBO := Lib.hid hbo
      have HU := Lib.hid hu
      have hdl : ((ls.length : Int) == (k : Int)) = decide (ls.length = k) := by rw [Bool.eq_iff_iff]; simp; omega
      have HDL := Lib.hid hdl
      clear hbo hu hg' hdl
      by_cases hlk : ls.length = k
      · have HLK := Lib.hid hlk
        clear hlk
        go_enter Tryz.func112, Tryz.ntmps112
        go_wp2_with (first
          | (go_at_call 113; refine hcon.mono ?_; rintro e w2 ⟨rfl, hb2⟩; have HH2 := Lib.hid (HH.out.below hb2); have HB2 := Lib.hid hb2; have d3 := (hb2.cell (p := ⟨bb, off + j * 2 + 1, none⟩) hbw).trans d2; clear hb2)
          | (go_at_call 59; refine (rfind_any w2 _ l p HH2.out hn).mono ?_; rintro e w3 ⟨rfl, rfl⟩; rw [HF.out])
          | (go_at_call 166; refine (runb_some hbs HU.out).mono ?_; rintro e w4 ⟨b5, c5, ss, rfl, ho4, hss, hb4⟩; have hsl := (show ((ss.length : Int) == (k : Int)) = true by rw [← HLK.out, ← hss]; simp [bss]); have HO4 := Lib.hid ho4; have HSS := Lib.hid hss; have HB4 := Lib.hid hb4; clear hb4 ho4 hss))
        go_ret2
        refine ⟨HB2.out.trans (HB4.out.mono HB2.out.size), .inr ⟨ls, b5, c5, ss, ?_, rfl, ?_, HSS.out⟩⟩
        · rw [HBO.out, if_pos HLK.out]
        · exact ownsRow_mono HO4.out HB2.out.size
      · have HLK := Lib.hid hlk
        clear hlk
        go_enter Tryz.func112, Tryz.ntmps112
        go_wp2_with (first
          | (go_at_call 113; refine hcon.mono ?_; rintro e w2 ⟨rfl, hb2⟩; have HH2 := Lib.hid (HH.out.below hb2); have HB2 := Lib.hid hb2; have d3 := (hb2.cell (p := ⟨bb, off + j * 2 + 1, none⟩) hbw).trans d2; clear hb2)
          | (go_at_call 59; refine (rfind_any w2 _ l p HH2.out hn).mono ?_; rintro e w3 ⟨rfl, rfl⟩; rw [HF.out])
          | (go_at_call 166; refine (runb_some hbs HU.out).mono ?_; rintro e w4 ⟨b5, c5, ss, rfl, ho4, hss, hb4⟩; have hsl := (show ((ss.length : Int) == (k : Int)) = false by rw [beq_eq_false_iff_ne]; intro e; apply HLK.out; rw [← hss]; simp [bss]; omega); have HB4 := Lib.hid hb4; clear hb4 ho4 hss))
        go_ret2
        exact ⟨HB2.out.trans (HB4.out.mono HB2.out.size), .inl ⟨by rw [HBO.out, if_neg HLK.out], _, rfl⟩⟩
end Go.Proofs.YtefccfakhgdfbabGreatDoor
end

section
namespace Go.Proofs.YtefccfakhgdfbabGreatDoor
open Go.RowKit
theorem rbun_none {w : World} {va : Value} {l : List Fil} (h : FilesAt w va l) (hn : l.length ≤ 1099511627776) (hsz : ∀ f ∈ l, f.2.size ≤ 1048576) {i k : Nat} (hi : i < 9223372036854775808) (hk : k < 9223372036854775808) (hb : bundleF l i k = none) :
    Calls Tryz.prog 112 #[va, .int .i64 i, .int .i64 k] w fun e w' => (∃ u, e = .returned (.tuple #[u, .bool false])) ∧ Below w.heap.size w w' :=
  (rbundleF_any w va l h hn hsz i k hi hk).mono fun e w' hp => by
    obtain ⟨h1, ⟨_, h2⟩ | ⟨ls, _, _, _, h2, _⟩⟩ := hp
    · exact ⟨h2, h1⟩
    · rw [hb] at h2; cases h2
theorem rbun_some {w : World} {va : Value} {l : List Fil} (h : FilesAt w va l) (hn : l.length ≤ 1099511627776) (hsz : ∀ f ∈ l, f.2.size ≤ 1048576) {i k : Nat} {ls : List (List UInt8)} (hi : i < 9223372036854775808) (hk : k < 9223372036854775808) (hb : bundleF l i k = some ls) :
    Calls Tryz.prog 112 #[va, .int .i64 i, .int .i64 k] w fun e w' => ∃ b c ss, e = .returned (.tuple #[.slice (some ⟨b, 0, none⟩) ss.length c, .bool true]) ∧ OwnStrs w' w.heap.size (.slice (some ⟨b, 0, none⟩) ss.length c) ss ∧ lists ss = ls ∧ Below w.heap.size w w' :=
  (rbundleF_any w va l h hn hsz i k hi hk).mono fun e w' hp => by
    obtain ⟨h1, ⟨h2, _⟩ | ⟨ls', b, c, ss, h2, h3, h4, h5⟩⟩ := hp
    · rw [hb] at h2; cases h2
    · rw [hb] at h2
      cases h2
      exact ⟨b, c, ss, h3, h4, h5, h1⟩
/-- What further answers. -/
def rfurPost (l : List Fil) (d : List (List UInt8)) (w : World) (e : Ending) (w' : World) : Prop :=
  Below w.heap.size w w' ∧ ∃ v' ss, e = .returned (.tuple #[v', .bool (furtherP l d).2]) ∧ lists ss = (furtherP l d).1 ∧ StrsAt w' v' ss
theorem rfur_none {l : List Fil} {d : List (List UInt8)} {w w' : World} (hb : Below w.heap.size w w') (hf : furtherP l d = ([], false)) : rfurPost l d w (.returned (.tuple #[.slice none 0 0, .bool false])) w' :=
  ⟨hb, _, [], by rw [hf]; rfl, by rw [hf]; rfl, none, 0, rfl, Nat.le_refl _, fun j x hx => by simp at hx⟩
set_option maxRecDepth 100000 in
set_option maxHeartbeats 4000000 in
theorem rfurther_any (w : World) (va : Value) (l : List Fil) (h : FilesAt w va l) (hn : l.length ≤ 1099511627776) (hsz : ∀ f ∈ l, f.2.size ≤ 1048576) (vd : Value) (ds : List ByteArray) (hd : StrsAt w vd ds) (hdl : ds.length ≤ 1073741824) :
    Calls Tryz.prog 114 #[va, vd] w (rfurPost l (lists ds) w) := by
  have HH := Lib.hid h
  have HZ := Lib.hid hsz
  have HN := Lib.hid hn
  obtain ⟨av, cv, rfl⟩ : ∃ a c, va = .slice a l.length c := by obtain ⟨a, c, h1, _⟩ := h; exact ⟨a, c, h1⟩
  obtain ⟨ad, cd, rfl, hcap, hx⟩ := hd
  have HX := Lib.hid hx
  obtain ⟨ln, hln⟩ : ∃ ln, ln = ds.length := ⟨_, rfl⟩
  rw [← hln] at hdl hcap
  obtain ⟨q, hq⟩ : ∃ q, q = ln / 4 := ⟨_, rfl⟩
  obtain ⟨m, hm⟩ : ∃ m, m = ln % 4 := ⟨_, rfl⟩
  have hq1 : (ln : Int) / 4 = (q : Int) := by omega
  have hq5 : (ln : Int) - (q : Int) * 4 = (m : Int) := by omega
  have hqb : q < 9223372036854775808 := by omega
  have hm3 : m < 4 := by omega
  have hmod : (lists ds).length % 4 = m := by rw [lists_len, ← hln]; exact hm.symm
  have hdiv : (lists ds).length / 4 = q := by rw [lists_len, ← hln]; exact hq.symm
  have HLN := Lib.hid hln
  have HMOD := Lib.hid hmod
  have HDIV := Lib.hid hdiv
  have HQ := Lib.hid hq
  have HM := Lib.hid hm
  rw [← hln]
  clear h hsz hn hx hq hm hmod hdiv hln
  go_enter Tryz.func114, Tryz.ntmps114
  go_wp2_with fail
  clear hq1 hq5
  go_loopg [8] 4 (fun gg s8 wr => ∃ k : Nat, k ≤ 4 ∧ k ≤ gg ∧ s8 = .int .i64 k ∧ m ≤ k ∧ Aside (Below w.heap.size w wr) ∧ Aside (furtherP l (lists ds) = furtherW l (lists ds) k))
  case atStart => exact ⟨4, by omega, by omega, rfl, by omega, Below.refl _ _, rfl⟩
  case round =>
    obtain ⟨k, hk4, hgg, rfl, hmk, HB, HP⟩ := hrel
    by_cases hlt : m < k
    · have hltz : (m : Int) < (k : Int) := by omega
      have hcon := rname_any (-1) (q : Int) (k : Int) wr (by omega)
      obtain ⟨p, hp⟩ : ∃ p, p = bunName q k := ⟨_, rfl⟩
      rw [show sOf (nameOf (-1) (q : Int) (k : Int)) = p from hp.symm] at hcon
      have hpq : p = bunName ((lists ds).length / 4) k := by rw [hp, HDIV.out]
      have hmk2 : (lists ds).length % 4 < k := by rw [HMOD.out]; exact hlt
      have hkb : k < 9223372036854775808 := by omega
      have HPQ := Lib.hid hpq
      have HMK := Lib.hid hmk2
      have HCON := Lib.hid hcon
      clear hp hpq hmk2 hcon
      cases hg : getF l p with
      | none =>
        have HF := Lib.hid (findF_none hg)
        have HG := Lib.hid hg
        clear hg
        go_wp2_with (first
          | (go_at_call 113; refine HCON.out.mono ?_; rintro e w2 ⟨rfl, hb2⟩; have HB2 := Lib.hid (HB.out.trans (hb2.mono HB.out.size)); have HH2 := Lib.hid (HH.out.below HB2.out); clear hb2)
          | (go_at_call 59; refine (rfind_any w2 _ l p HH2.out HN.out).mono ?_; rintro e w3 ⟨rfl, rfl⟩; rw [HF.out]))
        go_roundg (k - 1)
        case measure => omega
        case rel =>
          refine ⟨k - 1, by omega, by omega, by go_num, by omega, HB2.out, ?_⟩
          show furtherP _ _ = _
          rw [HP.out, furtherW_miss HMK.out (by rw [← HPQ.out]; exact HG.out)]
      | some b =>
        obtain ⟨j, x, hf, hjl, _, _⟩ := findF_some hg
        have hj2 : ¬ (j : Int) < 0 := by omega
        have HF := Lib.hid hf
        have HG := Lib.hid (show getF l (bunName ((lists ds).length / 4) k) = some b by rw [← HPQ.out]; exact hg)
        clear hf hg hjl
        cases hbn : bundleF l q k with
        | none =>
          have hfp : furtherP l (lists ds) = ([], false) := by rw [HP.out, furtherW_bad HMK.out HG.out (by rw [HDIV.out]; exact hbn)]
          have HFP := Lib.hid hfp
          have HBN := Lib.hid hbn
          clear hfp hbn
          go_wp2_with (first
            | (go_at_call 113; refine HCON.out.mono ?_; rintro e w2 ⟨rfl, hb2⟩; have HB2 := Lib.hid (HB.out.trans (hb2.mono HB.out.size)); have HH2 := Lib.hid (HH.out.below HB2.out); clear hb2)
            | (go_at_call 59; refine (rfind_any w2 _ l p HH2.out HN.out).mono ?_; rintro e w3 ⟨rfl, rfl⟩; rw [HF.out])
            | (go_at_call 112; refine (rbun_none HH2.out HN.out HZ.out hqb hkb HBN.out).mono ?_; rintro e w4 ⟨⟨u, rfl⟩, hb4⟩; have HB4 := Lib.hid (HB2.out.trans (hb4.mono HB2.out.size)); clear hb4))
          go_ret2
          exact rfur_none HB4.out HFP.out
        | some ls =>
          have hlk := (bundleF_some hbn).1
          have hfp : furtherP l (lists ds) = if ls.take ((lists ds).length % 4) = (lists ds).drop (4 * ((lists ds).length / 4)) then (ls.drop ((lists ds).length % 4), decide (k = 4)) else ([], false) := by rw [HP.out, furtherW_good HMK.out HG.out (by rw [HDIV.out]; exact hbn)]
          rw [HMOD.out, HDIV.out] at hfp
          have HFP := Lib.hid hfp
          have HBN := Lib.hid hbn
          have HLK := Lib.hid hlk
          clear hfp hbn hlk
          go_wp2_with (first
            | (go_at_call 113; refine HCON.out.mono ?_; rintro e w2 ⟨rfl, hb2⟩; have HB2 := Lib.hid (HB.out.trans (hb2.mono HB.out.size)); have HH2 := Lib.hid (HH.out.below HB2.out); clear hb2)
            | (go_at_call 59; refine (rfind_any w2 _ l p HH2.out HN.out).mono ?_; rintro e w3 ⟨rfl, rfl⟩; rw [HF.out])
            | (go_at_call 112; refine (rbun_some HH2.out HN.out HZ.out hqb hkb HBN.out).mono ?_; rintro e w4 ⟨b5, c5, ss, rfl, ho4, hss, hb4⟩; have HB4 := Lib.hid (HB2.out.trans (hb4.mono HB2.out.size)); have HO4 := Lib.hid ho4; have HSS := Lib.hid hss; clear hb4 ho4 hss))
          have hsl : ss.length = k := by have := HSS.out; have h2 := HLK.out; rw [← this, lists_len] at h2; exact h2
          have HSL := Lib.hid hsl
          clear hsl
          go_loopg [13] m (fun gg s13 wx => ∃ jj : Nat, jj ≤ m ∧ m - jj ≤ gg ∧ s13 = .int .i64 jj ∧ Aside (Below w4.heap.size w4 wx) ∧ Aside (∀ j, j < jj → ss[j]? = ds[4 * q + j]?))
          case atStart =>
            refine ⟨0, by omega, by omega, rfl, Below.refl _ _, ?_⟩
            show ∀ j, j < 0 → _
            intro j hj
            omega
          case round =>
            obtain ⟨jj, hjj, hg2, rfl, HB5, HJ⟩ := hrel
            have HB6 := Lib.hid (HB4.out.trans (HB5.out.mono HB4.out.size))
            by_cases hlt2 : jj < m
            · have hltz2 : (jj : Int) < (m : Int) := by omega
              have hle : 4 * q + jj < ds.length := by have := HQ.out; have := HM.out; have := HLN.out; omega
              have hls : jj < ss.length := by have := HSL.out; omega
              obtain ⟨s1, hs1⟩ : ∃ s, ds[4 * q + jj]? = some s := ⟨_, List.getElem?_eq_getElem hle⟩
              obtain ⟨s2, hs2⟩ : ∃ s, ss[jj]? = some s := ⟨_, List.getElem?_eq_getElem hls⟩
              obtain ⟨bd, od, had, hc1⟩ := HX.out (4 * q + jj) (.string s1) (by rw [List.getElem?_map, hs1]; rfl)
              subst had
              have k1 : wr.cell? ⟨bd, od + (q * 4 + jj), none⟩ = some (.string s1) := by
                have := (HB6.out.cell (cell_lt hc1)).trans hc1
                rwa [Nat.mul_comm 4 q] at this
              have k2 : wr.cell? ⟨b5, jj, none⟩ = some (.string s2) := by
                obtain ⟨a', c', he, _, hc⟩ := HO4.out.at
                cases he
                obtain ⟨b', o', he, hc2⟩ := hc jj (.string s2) (by rw [List.getElem?_map, hs2]; rfl)
                cases he
                have h2 := (HB5.out.cell (cell_lt hc2)).trans hc2
                simpa using h2
              have hi0 : (0 : Int) ≤ (jj : Int) := by omega
              have hi1 : (jj : Int) < (ss.length : Int) := by omega
              have hi2 : (0 : Int) ≤ (q : Int) * 4 + (jj : Int) := by omega
              have hi3 : (q : Int) * 4 + (jj : Int) < (ln : Int) := by have := HLN.out; omega
              have hi4 : ((q : Int) * 4 + (jj : Int)).toNat = q * 4 + jj := by omega
              have HS1 := Lib.hid hs1
              have HS2 := Lib.hid hs2
              clear hle hls hs1 hs2 hc1
              by_cases hss : s2 = s1
              · have hqq := beq_str_true hss
                have HSE := Lib.hid hss
                clear hss
                go_wp2_with fail
                go_region
                go_wp2_with fail
                go_roundg (m - (jj + 1))
                case measure => omega
                case rel =>
                  refine ⟨jj + 1, by omega, by omega, by go_num, HB5.out.trans ((below_drew _).mono HB5.out.size), ?_⟩
                  show ∀ j, j < jj + 1 → _
                  intro j hj
                  by_cases hjk : j = jj
                  · subst hjk
                    rw [HS1.out, HS2.out, HSE.out]
                  · exact HJ.out j (by omega)
              · have hqq := beq_str_false hss
                have HSE := Lib.hid hss
                clear hss
                go_wp2_with fail
                go_region
                go_wp2_with fail
                go_ret2
                refine rfur_none (HB6.out.trans ((below_drew _).mono HB6.out.size)) ?_
                rw [HFP.out, if_neg]
                intro e
                have h1 : (ls.take m)[jj]? = ((lists ds).drop (4 * q))[jj]? := by rw [e]
                have e1 : ls[jj]? = some s2.data.toList := by rw [← HSS.out]; unfold lists; rw [List.getElem?_map, HS2.out]; rfl
                have e2 : (lists ds)[4 * q + jj]? = some s1.data.toList := by unfold lists; rw [List.getElem?_map, HS1.out]; rfl
                rw [List.getElem?_take_of_lt hlt2, List.getElem?_drop, e1, e2] at h1
                exact HSE.out (Go.WideShapes.bytes_inj (Option.some.inj h1))
            · have hltz2 : ¬ (jj : Int) < (m : Int) := by omega
              have hjh : jj = m := by omega
              have HJH := Lib.hid hjh
              clear hjh
              have hc5 : ss.length ≤ c5 := by
                obtain ⟨a', c', he, hc, _⟩ := HO4.out.at
                cases he
                exact hc
              have hs1 : (m : Int) ≤ (ss.length : Int) := by have := HSL.out; omega
              have hs0 : (0 : Int) ≤ (m : Int) := by omega
              have hs3 : ¬ c5 = m := by have := HSL.out; omega
              obtain ⟨ck, hck, hck2⟩ : ∃ ck, ((k : Int) == 4) = ck ∧ ck = decide (k = 4) := ⟨_, rfl, by rw [Bool.eq_iff_iff]; simp; omega⟩
              have HCK := Lib.hid hck2
              clear hck2
              go_wp2_with fail
              go_ret2
              have hfp : furtherP l (lists ds) = (lists (ss.drop m), ck) := by
                rw [HFP.out, if_pos, HCK.out]
                · rw [← HSS.out]; unfold lists; rw [List.map_drop]
                · apply List.ext_getElem?
                  intro j
                  by_cases hj : j < m
                  · rw [List.getElem?_take_of_lt hj, List.getElem?_drop, ← HSS.out]
                    unfold lists
                    rw [List.getElem?_map, List.getElem?_map, HJ.out j (by rw [HJH.out]; exact hj)]
                  · rw [List.getElem?_eq_none (by rw [List.length_take]; omega), List.getElem?_eq_none (by rw [List.length_drop, lists_len]; have := HLN.out; have := HM.out; have := HQ.out; omega)]
              have hown := HO4.out
              have hlt3 : m < ss.length := by rw [HSL.out]; exact hlt
              refine ⟨HB6.out, .slice (some ⟨b5, m, none⟩) (ss.length - m) (c5 - m), ss.drop m, ?_, ?_, ?_⟩
              · rw [hfp]; rfl
              · rw [hfp]
              · have h1 := strs_drop (hown.at.below HB5.out) (Nat.le_of_lt hlt3)
                simpa using h1
    · have hltz : ¬ (m : Int) < (k : Int) := by omega
      have hst : k ≤ (lists ds).length % 4 := by rw [HMOD.out]; omega
      have HST := Lib.hid hst
      clear hst
      go_wp2_with fail
      go_ret2
      exact rfur_none HB.out (by rw [HP.out]; exact furtherW_stop HST.out)
end Go.Proofs.YtefccfakhgdfbabGreatDoor
end

section
namespace Go.Proofs.YtefccfakhgdfbabGreatDoor
open Go.RowKit
/-- 's = append(s, x...)': texts onto a row of texts of the call's own. -/
theorem wpList_appS {P : Program} {ops : Array Oper} {rest : List Oper} {o : Oper} {a : Act} {Q : Exit → Act → World → Prop} {w : World} (hgd : o.guard = none) (s x : Operand) (t : TypeId)
    (ho : o.op = .call { callee := .builtin .append, args := #[s, x], argTypes := #[t, t] })
    (base : Nat) (i : TypeInfo) (ht : P.underlying t = some (.slice 9)) (hi : P.info? 9 = some i) (hz : i.zero = some (.string ⟨#[]⟩)) (hsize : i.size = 1) (hby : i.bytes = 16)
    (v : Value) (n : Nat) (xs : List ByteArray) (hs : a.eval s = v) (hnx : n = xs.length) (hown : OwnStrs w base v xs) (u : Value) (l : List ByteArray) (hx : a.eval x = u) (hb : StrsAt w u l)
    (hn : n ≤ 1099511627776) (hl : l.length ≤ 1099511627776) (hbase : base ≤ w.heap.size)
    (h : ∀ v' w', OwnStrs w' base v' (xs ++ l) → w.grownBy w' v.ownBlock → wpList P ops Q rest (a.put o.dst v') w') :
    wpList P ops Q (o :: rest) a w := by
  subst hnx
  obtain ⟨ad, c, rfl, hcap, hc⟩ := hb
  unfold OwnStrs at hown
  cases l with
  | nil =>
    refine wpList_plain hgd fun K hK => ?_
    have hr : (Builtin.append_ #[t, t] o.type #[v, .slice ad 0 c]).run P w = .ok v w := by
      rcases hown.2 with ⟨rfl, h0⟩ | ⟨g, cap, cur, rfl, hbg, hg, hnc, hcm, hcs, htake⟩
      · cases ad <;> simp [Builtin.append_, run_underlying ht, sizeOf, typeInfo, hi, Builtin.lenOf, Builtin.firstCells, loadCells, loadCellsFrom]
      · cases ad <;> simp [Builtin.append_, run_underlying ht, sizeOf, typeInfo, hi, Builtin.lenOf, Builtin.firstCells, loadCells, loadCellsFrom, storeCells, hnc]
    unfold Oper.wp execOp
    simp only [List.length_nil] at hx
    simp only [ho, resolve, invoke, builtin, Sem.run_bind, Sem.run_pure, Result.andThen_ok, List.map_toArray, List.map_cons, List.map_nil, hs, hx, hr]
    exact hK _ _ (h v w (by unfold OwnStrs; simpa using hown) ⟨rfl, rfl, rfl, Nat.le_refl _, fun _ _ _ => rfl⟩)
  | cons y l =>
    obtain ⟨b, off, rfl, _⟩ := hc 0 (.string y) (by simp)
    refine wpList_append_own _ hgd s x t ho base 9 i _ 1 16 ht hi hz hsize hby (by simp [Value.cells]) (by decide) v xs.length (xs.map Value.string) hs hown ⟨b, off, none⟩ (y :: l).length c ((y :: l).map Value.string) hx (by simp) (fun j q hq => ?_) (fun q hq => ?_) (by unfold maxLen; omega) (by omega) hbase fun v' w' h2 h3 h4 => h v' w' ?_ h3
    · obtain ⟨b', off', heq, hcell⟩ := hc j q hq
      cases heq
      rw [Addr.add_lit]
      exact hcell
    · obtain ⟨z, _, rfl⟩ := List.mem_map.1 hq
      rfl
    · unfold OwnStrs
      simpa using h2
theorem results_tmp4 {fn : Func} {t u v x : Tmp} (h : fn.results = #[.tmp t, .tmp u, .tmp v, .tmp x]) (tmps : Array Value) (P : Program) (w : World) :
    (results fn tmps).run P w = .ok (.tuple #[tmps.getD t undef, tmps.getD u undef, tmps.getD v undef, tmps.getD x undef]) w := by
  simp [results, h]
theorem lists_append (a b : List ByteArray) : lists (a ++ b) = lists a ++ lists b := by unfold lists; rw [List.map_append]
theorem hs_inj {a b : Hsh} (h : HS a = HS b) : a = b := by
  unfold HS at h
  have h1 := congrArg ByteArray.data h
  exact Vector.toArray_inj.1 h1
theorem lists_short {ss : List ByteArray} {l : List Fil} (h : Taken l (lists ss)) : ∀ s ∈ ss, s.size ≤ 1048576 := fun s hs => by
  have h1 := h.short s.data.toList (by unfold lists; exact List.mem_map.2 ⟨s, hs, rfl⟩)
  simp at h1
  omega
/-- What Opened answers. -/
def ropPost (l : List Fil) (key : ByteArray) (w : World) (e : Ending) (w' : World) : Prop :=
  Below w.heap.size w w' ∧ ((∃ k p, OpensTo l key (.bad k p) ∧ e = .returned (.tuple #[.slice none 0 0, .int .i64 0, .int .i64 k, .string p])) ∨
    ∃ n v ss, n < 9223372036854775808 ∧ OpensTo l key (.good (lists ss) n) ∧ e = .returned (.tuple #[v, .int .i64 n, .int .i64 0, .string ⟨#[]⟩]) ∧ OwnStrs w' w.heap.size v ss)
set_option maxRecDepth 100000 in
set_option maxHeartbeats 4000000 in
theorem ropened_any (w : World) (va : Value) (l : List Fil) (key : ByteArray) (h : FilesAt w va l) (hn : l.length ≤ 1099511627776) (hsz : ∀ f ∈ l, f.2.size ≤ 1048576) (hkey : key.size ≤ 1048600) (N : Nat) (hN : FewB l N) (hN2 : N ≤ 262144) :
    Calls Tryz.prog 58 #[va, .string key] w (ropPost l key w) := by
  have HH := Lib.hid h
  have HZ := Lib.hid hsz
  have HLN := Lib.hid hn
  have HN := Lib.hid hN
  obtain ⟨av, cv, rfl, _, hx⟩ := h
  have HX := Lib.hid hx
  clear hsz hn hN hx
  obtain ⟨fi, hfi⟩ : ∃ fi, fi = findF l (sOf kCp) := ⟨_, rfl⟩
  have HFI := Lib.hid hfi
  clear hfi
  go_enter Tryz.func58, Tryz.ntmps58
  go_upto_region 3 with (first
    | (go_at_call 110; refine (rhash_any ⟨#[]⟩ _ (by decide)).mono ?_; rintro e w1 ⟨rfl, hb1⟩; have HB1 := Lib.hid hb1; have HH1 := Lib.hid (HH.out.below hb1); clear hb1))
  go_upto_if 25 with (first
    | (go_at_call 59; refine (rfind_any w1 _ l (sOf kCp) HH1.out HLN.out).mono ?_; rintro e w2 ⟨rfl, rfl⟩; rw [← HFI.out]))
  go_cut [8, 9, 11] from 26 to 38 (fun s8 s9 s11 wx => ∃ (n : Nat) (root : Hsh), Aside (openHead l key = some (n, root)) ∧ n < 9223372036854775808 ∧ s8 = .int .i64 n ∧ s9 = .string (HS root) ∧ Aside (Below w.heap.size w wx))
  case first =>
    cases hg : getF l (sOf kCp) with
    | none =>
      have hf := findF_none hg
      have hfi : fi = -1 := by rw [HFI.out, hf]
      subst hfi
      have HG := Lib.hid hg
      clear hg hf
      go_wp2_with fail
      go_meet
      exact ⟨0, hash [], by show openHead _ _ = _; unfold openHead; rw [HG.out], by decide, rfl, rfl, HB1.out⟩
    | some b =>
      obtain ⟨j, x, hf, hjl, hlx, hxb⟩ := findF_some hg
      obtain ⟨bb, off, rfl, _, d2⟩ := HX.out j x hlx
      have hbs : b.size ≤ 1048576 := by have := HZ.out x (List.mem_of_getElem? hlx); rw [hxb] at this; exact this
      have hbw : bb < w.heap.size := cell_lt d2
      rw [hxb] at d2
      have d3 := (HB1.out.cell (p := ⟨bb, off + j * 2 + 1, none⟩) hbw).trans d2
      have hj0 : (0 : Int) ≤ (j : Int) := by omega
      have hj1 : (j : Int) < (l.length : Int) := by omega
      have hcon := rcheck_any b key w1 hbs hkey
      rw [← check_same] at hcon
      obtain ⟨q, hq⟩ : ∃ q, q = checkGo b.data.toList key.data.toList := ⟨_, rfl⟩
      rw [← hq] at hcon
      have hsnd := checkGo_sound b.data.toList key.data.toList
      rw [← hq] at hsnd
      have hoh : openHead l key = if q.2.2 = true then some (q.1.toNat, q.2.1) else none := by unfold openHead; rw [hg, hq]
      obtain ⟨qn, qh, qb⟩ := q
      have hfi : fi = (j : Int) := by rw [HFI.out, hf]
      subst hfi
      have HSND := Lib.hid hsnd
      have HOH := Lib.hid hoh
      clear hsnd hoh hq hg hf hlx hxb hbs d2 hjl
      unfold rcheckPost at hcon
      cases qb with
      | false =>
        go_wp2_with (first
          | (go_at_call 111; refine hcon.mono ?_; rintro e w5 ⟨rfl, hb5⟩; have HB5 := Lib.hid hb5; clear hb5))
        (try simp only [Exit.inBlock, Exit.then])
        refine bodyPost_ret (results_tmp4 rfl _ _ _) rfl ?_
        exact ⟨HB1.out.trans (HB5.out.mono HB1.out.size), .inl ⟨3, ⟨#[]⟩, .checkpoint HOH.out, rfl⟩⟩
      | true =>
        go_wp2_with (first
          | (go_at_call 111; refine hcon.mono ?_; rintro e w5 ⟨rfl, hb5⟩; have HB5 := Lib.hid hb5; clear hb5))
        go_meet
        obtain ⟨p1, p2, _⟩ := HSND.out.1 rfl
        have hqn : qn = (qn.toNat : Int) := by omega
        refine ⟨qn.toNat, qh, ?_, by omega, ?_, rfl, HB1.out.trans (HB5.out.mono HB1.out.size)⟩
        · show openHead _ _ = _
          rw [HOH.out]
          rfl
        · rw [← hqn]
  case rest =>
    obtain ⟨n, root, HOH, hn0, rfl, rfl, HB2⟩ := hcut
    obtain ⟨i0, hi0, hz0, hs0, hby0⟩ := info_parts info_str
    go_wp2_with fail
    go_loopg [12, 13] (N + 1) (fun gg s12 s13 wr => ∃ i : Nat, i ≤ N ∧ N + 1 - i ≤ gg ∧ s13 = .int .i64 i ∧ ∃ ss1, Aside (OwnStrs wr w.heap.size s12 ss1) ∧ Aside (Below w.heap.size w wr) ∧ Aside (loadP l n ((n + 3) / 4) 0 [] = loadP l n ((n + 3) / 4 - i) i (lists ss1)) ∧ Aside (ss1.length = min n (4 * i)) ∧ Aside (Taken l (lists ss1)))
    case atStart => exact ⟨0, Nat.zero_le _, by omega, rfl, [], World.ownsRow_nil _ _ _ _, HB2.out, rfl, by show [].length = _; simp, Taken.nil _⟩
    case round =>
      obtain ⟨i, hi, hgg, rfl, ss1, HO, HB3, HP, HLEN, HT⟩ := hrel
      obtain ⟨a1, cp1, rfl⟩ := own_any HO.out
      obtain ⟨ln, hln⟩ : ∃ ln, ln = ss1.length := ⟨_, rfl⟩
      have HLN1 := Lib.hid hln
      have hl4 : ln = min n (4 * i) := by rw [hln]; exact HLEN.out
      have HL4 := Lib.hid hl4
      clear hln
      rw [← HLN1.out]
      by_cases hlt : ln < n
      · have hltz : (ln : Int) < (n : Int) := by omega
        have h4i : 4 * i < n := by omega
        obtain ⟨k, hk⟩ : ∃ k, k = min 4 (n - 4 * i) := ⟨_, rfl⟩
        have hnl : n - ln = n - 4 * i := by omega
        have hkz : (n : Int) - (ln : Int) = ((n - 4 * i : Nat) : Int) := by omega
        have hib : i < 9223372036854775808 := by omega
        have hkb : k < 9223372036854775808 := by omega
        have H4I := Lib.hid h4i
        have HK := Lib.hid hk
        have HH3 := Lib.hid (HH.out.below HB3.out)
        obtain ⟨dz, hdz⟩ : ∃ dz, (n : Int) - (ln : Int) = dz := ⟨_, rfl⟩
        have hkn : k ≤ 4 ∧ (4 < dz → k = 4) ∧ (¬ 4 < dz → dz = (k : Int)) := by omega
        have HKN := Lib.hid hkn
        clear hl4 h4i hnl hkn hk hkz
        go_upto_if 50 with fail
        clear hdz
        go_cut [14] from 50 to 51 (fun s14 wx => s14 = .int .i64 k ∧ wr = wx)
        case first =>
          by_cases hgt : 4 < dz
          · have HK4 := Lib.hid (HKN.out.2.1 hgt)
            go_wp2_with fail
            go_meet
            exact ⟨by rw [HK4.out]; rfl, rfl⟩
          · have HK4 := Lib.hid (HKN.out.2.2 hgt)
            go_wp2_with fail
            go_meet
            exact ⟨by rw [HK4.out], rfl⟩
        case rest =>
          obtain ⟨rfl, rfl⟩ := hcut
          have hcon := fun w' => rname_any (-1) (i : Int) (k : Int) w' (by omega)
          cases hb : bundleF l i k with
          | none =>
            have HB := Lib.hid hb
            clear hb
            go_wp2_with (first
              | (go_at_call 112; refine (rbun_none HH3.out HLN.out HZ.out hib hkb HB.out).mono ?_; rintro e w4 ⟨⟨u, rfl⟩, hb4⟩; have HB4 := Lib.hid (HB3.out.trans (hb4.mono HB3.out.size)); clear hb4)
              | (go_at_call 113; refine (hcon _).mono ?_; rintro e w5 ⟨rfl, hb5⟩; have HB5 := Lib.hid (HB4.out.trans (hb5.mono HB4.out.size)); clear hb5))
            (try simp only [Exit.inBlock, Exit.then])
            refine bodyPost_ret (results_tmp4 rfl _ _ _) rfl ?_
            refine ⟨HB5.out, .inl ⟨6, bunName i (min 4 (n - 4 * i)), .tile (d := lists ss1) HOH.out ?_, ?_⟩⟩
            · rw [HP.out, loadP_next H4I.out, ← HK.out, HB.out]
            · rw [← HK.out]; rfl
          | some ls =>
            have hlens := bundleF_some hb
            have htk := HT.out.step (w := k) (e := ls) (i := i) (by rw [lists_len, HLEN.out]; have := H4I.out; omega) hb
            have hfew := htk.few HN.out
            rw [List.length_append, lists_len] at hfew
            have hlb : ls.length ≤ 1099511627776 := by omega
            have hlnb : ln ≤ 1099511627776 := by have := HLN1.out; omega
            have HTK := Lib.hid htk
            have HBUN := Lib.hid hb
            have HFEW := Lib.hid hfew
            have HLL := Lib.hid hlens.1
            clear hb hlens htk hfew
            go_wp2_with fail
            refine (rbun_some HH3.out HLN.out HZ.out hib hkb HBUN.out).mono ?_
            rintro e w4 ⟨b5, c5, ss, rfl, ho4, hss, hb4⟩
            have HB4 := Lib.hid (HB3.out.trans (hb4.mono HB3.out.size))
            have HO4 := Lib.hid ho4
            have HO5 := Lib.hid (show OwnStrs w4 w.heap.size (.slice a1 ss1.length cp1) ss1 from ownsRow_below HO.out hb4)
            have HSS := Lib.hid hss
            have hsl := (show ss.length ≤ 1099511627776 by rw [← lists_len, hss]; exact hlb)
            clear hb4 ho4 hss
            go_wp2_with (first
              | (at_builtin; refine wpList_appS rfl _ _ 22 rfl w.heap.size i0 Tryz.underlying22 hi0 hz0 hs0 hby0 _ ln ss1 rfl HLN1.out (by rw [HLN1.out]; exact HO5.out) _ ss rfl HO4.out.at hlnb hsl HB4.out.size ?_; intro v2 w5 ho5 hg5; have HB5 := Lib.hid (HB4.out.grown hg5 HB4.out.size (fun j hj => (HO5.out.lt j (by rw [HLN1.out] at hj; exact hj)).1)); have HO6 := Lib.hid ho5; clear ho5 hg5))
            go_roundg (N + 1 - (i + 1))
            case measure => omega
            case rel =>
              refine ⟨i + 1, ?_, by omega, by go_num, ss1 ++ ss, HO6.out, HB5.out, ?_, ?_, ?_⟩
              · have := HFEW.out; have := HN.out (i + 1) fun j hj => HTK.out.has j (by rw [List.length_append, lists_len, HLEN.out, HLL.out, HK.out]; have := H4I.out; omega); exact this
              · show loadP _ _ _ _ _ = _
                rw [HP.out, loadP_next H4I.out, ← HK.out, HBUN.out]
                show loadP _ _ _ _ (lists ss1 ++ ls) = _
                rw [← HSS.out, ← lists_append]
              · show (ss1 ++ ss).length = _
                have h1 : ss.length = k := by rw [← lists_len, HSS.out]; exact HLL.out
                rw [List.length_append, HLEN.out, h1, HK.out]
                have := H4I.out
                omega
              · show Taken l (lists (ss1 ++ ss))
                rw [lists_append, HSS.out]
                exact HTK.out
      · have hltz : ¬ (ln : Int) < (n : Int) := by omega
        have h4i : n ≤ 4 * i := by omega
        have H4I := Lib.hid h4i
        clear h4i hl4
        have hpe : loadP l n ((n + 3) / 4) 0 [] = (lists ss1, none) := by rw [HP.out, loadP_end H4I.out]
        have hfew := HT.out.few HN.out
        rw [lists_len] at hfew
        have HPE := Lib.hid hpe
        have hcon := rroot_any ss1.length ss1 (.slice a1 ln cp1) wr (Nat.le_refl _) (by rw [HLN1.out]; exact ownsRow_cells HO.out) (by omega) (lists_short HT.out)
        have HCON := Lib.hid hcon
        have HFEW := Lib.hid hfew
        clear hpe hcon hfew
        by_cases hr : rootOf (lists ss1) = root
        · have hqq := beq_str_true (show HS (rootOf (lists ss1)) = HS root by rw [hr])
          have HR := Lib.hid hr
          clear hr
          go_wp2_with fail
          refine HCON.out.mono ?_
          rintro e w5 ⟨rfl, hb5⟩
          have HB5 := Lib.hid (HB3.out.trans (hb5.mono HB3.out.size))
          have HO5 := Lib.hid (show OwnStrs w5 w.heap.size (.slice a1 ln cp1) ss1 by rw [HLN1.out]; exact ownsRow_below HO.out hb5)
          clear hb5
          go_wp2_with fail
          clear hltz hqq
          go_loopg [12] (N + 2) (fun gg s12 wr => ∃ ss2, Aside (OwnStrs wr w.heap.size s12 ss2) ∧ Aside (Below w.heap.size w wr) ∧ Aside (∀ r, Goes l (lists ss2) r → Goes l (lists ss1) r) ∧ Aside (Taken l (lists ss2)) ∧ N + 1 - ss2.length / 4 ≤ gg)
          case atStart => exact ⟨ss1, HO5.out, HB5.out, fun r h => h, HT.out, by omega⟩
          case round =>
            obtain ⟨ss2, HO7, HB7, HG7, HT7, hgg⟩ := hrel
            obtain ⟨a2, cp2, rfl⟩ := own_any HO7.out
            have hfew7 := HT7.out.few HN.out
            rw [lists_len] at hfew7
            obtain ⟨bw, hbw⟩ : ∃ bw, bw = (furtherP l (lists ss2)).2 := ⟨_, rfl⟩
            have hcon := rfurther_any wr _ l (HH.out.below HB7.out) HLN.out HZ.out (.slice a2 ss2.length cp2) ss2 (ownsRow_cells HO7.out) (by omega)
            unfold rfurPost at hcon
            rw [← hbw] at hcon
            have HCON := Lib.hid hcon
            have HBW := Lib.hid hbw
            have HFEW7 := Lib.hid hfew7
            have hl2b : ss2.length ≤ 1099511627776 := by omega
            clear hcon hbw hfew7
            go_wp2_with fail
            refine HCON.out.mono ?_
            rintro e w8 ⟨hb8, v8, ss8, rfl, hs8, hst8⟩
            have HB8 := Lib.hid (HB7.out.trans (hb8.mono HB7.out.size))
            have HO8 := Lib.hid (show OwnStrs w8 w.heap.size (.slice a2 ss2.length cp2) ss2 from ownsRow_below HO7.out hb8)
            have HST8 := Lib.hid hst8
            have HS8 := Lib.hid hs8
            obtain ⟨a8, c8, rfl, _⟩ := hst8
            have hl8 : ss8.length ≤ 1099511627776 := by
              have h1 := (HT7.out.further 4 (by omega)).1.few HN.out
              rw [show furtherW l (lists ss2) 4 = furtherP l (lists ss2) from rfl, ← HS8.out, ← lists_append, lists_len, List.length_append] at h1
              omega
            clear hb8 hs8
            cases bw with
            | true =>
              go_wp2_with (first
                | (at_builtin; refine wpList_appS rfl _ _ 22 rfl w.heap.size i0 Tryz.underlying22 hi0 hz0 hs0 hby0 _ ss2.length ss2 rfl rfl HO8.out _ ss8 rfl HST8.out hl2b hl8 HB8.out.size ?_; intro v2 w9 ho9 hg9; have HB9 := Lib.hid (HB8.out.grown hg9 HB8.out.size (fun j hj => (HO8.out.lt j hj).1)); have HO9 := Lib.hid ho9; clear ho9 hg9))
              have hwide := (HT7.out.further 4 (by omega)).2 HBW.out.symm
              have hT8 := (HT7.out.further 4 (by omega)).1
              rw [show furtherW l (lists ss2) 4 = furtherP l (lists ss2) from rfl, ← HS8.out, ← lists_append] at hwide hT8
              rw [lists_len, lists_len] at hwide
              have HW := Lib.hid hwide
              have HT8 := Lib.hid hT8
              clear hwide hT8
              go_roundg (N + 1 - (ss2.length / 4 + 1))
              case measure => have := HFEW7.out; omega
              case rel =>
                refine ⟨ss2 ++ ss8, HO9.out, HB9.out, ?_, HT8.out, ?_⟩
                · show ∀ r, Goes l (lists (ss2 ++ ss8)) r → Goes l (lists ss1) r
                  intro r h
                  rw [lists_append, HS8.out] at h
                  exact HG7.out r (.more HBW.out.symm h)
                · rw [HW.out]
                  omega
            | false =>
              go_wp2_with (first
                | (at_builtin; refine wpList_appS rfl _ _ 22 rfl w.heap.size i0 Tryz.underlying22 hi0 hz0 hs0 hby0 _ ss2.length ss2 rfl rfl HO8.out _ ss8 rfl HST8.out hl2b hl8 HB8.out.size ?_; intro v2 w9 ho9 hg9; have HB9 := Lib.hid (HB8.out.grown hg9 HB8.out.size (fun j hj => (HO8.out.lt j hj).1)); have HO9 := Lib.hid ho9; clear ho9 hg9))
              (try simp only [Exit.inBlock, Exit.then])
              refine bodyPost_ret (results_tmp4 rfl _ _ _) rfl ?_
              refine ⟨HB9.out, .inr ⟨n, v2, ss2 ++ ss8, hn0, .fine HOH.out HPE.out HR.out (HG7.out _ ?_), rfl, HO9.out⟩⟩
              rw [lists_append, HS8.out]
              exact .stop HBW.out.symm
        · have hqq := beq_str_false (fun e => hr (hs_inj e) : ¬ HS (rootOf (lists ss1)) = HS root)
          have HR := Lib.hid hr
          clear hr
          go_wp2_with fail
          refine HCON.out.mono ?_
          rintro e w5 ⟨rfl, hb5⟩
          have HB5 := Lib.hid (HB3.out.trans (hb5.mono HB3.out.size))
          clear hb5
          go_wp2_with fail
          (try simp only [Exit.inBlock, Exit.then])
          refine bodyPost_ret (results_tmp4 rfl _ _ _) rfl ?_
          exact ⟨HB5.out, .inl ⟨5, ⟨#[]⟩, .proof HOH.out HPE.out HR.out, rfl⟩⟩
end Go.Proofs.YtefccfakhgdfbabGreatDoor
end
