/-
  tileslaw's World.open: P11, P12. Conditions: the World is sound.
  plain's publisher: a Log's Publish and Append; OpenNone. Conditions: those of the publisher's own functions.
  plain's publisher: a Log's Append. Conditions: those of the publisher's own function.
-/
import Derived.Test.YtefccfakhgdfbabGreatDoorPb39
import Derived.Test.YtefccfakhgdfbabGreatDoorPb33
set_option linter.unusedVariables false
set_option linter.unusedSimpArgs false
section
namespace Go.Proofs.YtefccfakhgdfbabGreatDoor
open Go.RowKit
theorem rop_val {l : List Fil} {key : ByteArray} {w w' : World} {e : Ending} (h : ropPost l key w e w') : ∃ (ve : Value) (n k : Int) (p : ByteArray), e = .returned (.tuple #[ve, .int .i64 n, .int .i64 k, .string p]) := by
  rcases h.2 with ⟨k, p, _, rfl⟩ | ⟨n, v, ss, _, _, rfl, _⟩
  · exact ⟨_, _, _, _, rfl⟩
  · exact ⟨_, _, _, _, rfl⟩
theorem rop_cases {l : List Fil} {key : ByteArray} {w w' : World} {ve : Value} {n k : Int} {p : ByteArray} (h : ropPost l key w (.returned (.tuple #[ve, .int .i64 n, .int .i64 k, .string p])) w') :
    (∃ kn : Nat, OpensTo l key (.bad kn p) ∧ k = kn) ∨ ∃ (nn : Nat) (ss : List ByteArray), OpensTo l key (.good (lists ss) nn) ∧ n = nn ∧ k = 0 ∧ OwnStrs w' w.heap.size ve ss := by
  rcases h.2 with ⟨kn, p', h1, he⟩ | ⟨nn, v, ss, _, h1, he, h2⟩
  · simp at he
    obtain ⟨_, _, rfl, rfl⟩ := he
    exact .inl ⟨kn, h1, rfl⟩
  · simp at he
    obtain ⟨rfl, rfl, rfl, rfl⟩ := he
    exact .inr ⟨nn, ss, h1, rfl, rfl, h2⟩
theorem opens_pos {l : List Fil} {key : ByteArray} {k : Nat} {p : ByteArray} (h : OpensTo l key (.bad k p)) : 0 < k := by
  cases h <;> decide
set_option maxRecDepth 100000 in
set_option maxHeartbeats 8000000 in
theorem wopen_any (f : Nat → Addr) (w : World) (p : Pl) (m : Wm) (U : List Nat) (K : Nat) (h : WdIs w p m) (hG : Good m U K) (hfo : m.foreign = false) (hE : EnvS f (WdS p m) w) (hU : U.length ≤ 16384) (hK : K ≤ 800000000000) (hkey : m.key.size ≤ 1048600) :
    Calls Tryz.prog 31 #[.pointer (some ⟨p.gw, 0, none⟩)] w (StepOk w p m U (K + 1048576)) := by
  have hgg := h.gg
  have hfl : m.d.files.length ≤ 1000000000000 := by have := hG.sane.len; omega
  obtain ⟨⟨c0, c1, _⟩, cf⟩ := h.heads
  have HM := Lib.hid (mend_any w p.gd p.v m.d h.disk)
  have HH := Lib.hid h
  have HG := Lib.hid hG
  have HE := Lib.hid hE
  have HFO := Lib.hid hfo
  clear h hG hE hfo
  go_enter Tryz.func31, Tryz.ntmps31
  go_wp2_with (go_at_call 17; refine HM.out.mono ?_; rintro e w1 ⟨rfl, hd1, hf1⟩; have HD1 := Lib.hid hd1; have HF1 := Lib.hid hf1; clear hd1 hf1)
  have h1 : WdIs w1 p { m with d := mendD m.d } := HH.out.diskStep HD1.out (fr_gd HF1.out)
  have HW1 := Lib.hid (wfiles_any w1 p { m with d := mendD m.d } h1 hfl)
  have H1 := Lib.hid h1
  obtain ⟨⟨d0, d1, _⟩, df⟩ := h1.heads
  clear h1
  go_upto_region 3 with (first | (go_at_call 57; refine HW1.out.mono ?_; rintro e w2 ⟨v2, l2, rfl, ho2, hp2, hb2⟩; have HO2 := Lib.hid ho2; have HP2 := Lib.hid hp2; have HB2 := Lib.hid hb2; obtain ⟨a2, cp2, rfl⟩ := own_any ho2; clear ho2 hp2 hb2) | fail)
  have h2 := H1.out.below HB2.out
  obtain ⟨⟨e0, e1, _⟩, ef⟩ := h2.heads
  have hgf : getF l2 = getF m.d.files := getF_perm HG.out.sane.once HP2.out
  have hfew2 : FewB l2 U.length := few_ext hgf (HG.out.sane.few (by omega))
  have HRO := Lib.hid (ropened_any w2 (.slice a2 l2.length cp2) l2 m.key (own_filesAt HO2.out) (by rw [HP2.out.length_eq]; exact Nat.le_trans hfl (by decide)) (fun x hx => HG.out.sane.size x (HP2.out.mem_iff.1 hx)) hkey U.length hfew2 (by omega))
  have H2 := Lib.hid h2
  have HGF := Lib.hid hgf
  clear h2 hgf hfew2 d0 d1 df
  go_upto_region 4 with (first | (go_at_call 58; refine HRO.out.mono ?_; intro e w3 h3; obtain ⟨ve, nn, rk, rp, rfl⟩ := rop_val h3; have HR3 := Lib.hid h3; clear h3) | fail)
  have h3 := H2.out.below HR3.out.1
  obtain ⟨⟨p0, p1, _⟩, pf⟩ := h3.heads
  have hop := fun (W : World) (hb : Below w3.heap.size w3 W) => popen_any f W p.gd p.v (mendD m.d) m.key (h3.disk.below hb) U.length
    (((((HE.out.fr (HF1.out.weak fun _ _ e => gd_wd e)).below HB2.out).below HR3.out.1).below hb).less fun k e => gd_wd e) (HG.out.sane.few (by omega)) (by omega) (by have := HG.out.sane.calls; show m.d.calls < _; omega) HG.out.sane.size hkey
  have HOP := Lib.hid hop
  have H3 := Lib.hid h3
  have HD3 := Lib.hid h3.disk
  have pb := cell_lt p0
  have pbn : p.gw < w3.heap.size := pb
  have pa0 : (w3.alloc (.cells #[.int .i64 0, .string ⟨#[]⟩] 29)).drew.cell? ⟨p.gw, 0, none⟩ = some (.pointer (some ⟨p.gd, 0, none⟩)) := ((below_alloc w3 _).cell (p := ⟨p.gw, 0, none⟩) pb).trans p0
  have pa1 : (w3.alloc (.cells #[.int .i64 0, .string ⟨#[]⟩] 29)).drew.cell? ⟨p.gw, 1, none⟩ = some (.string m.key) := ((below_alloc w3 _).cell (p := ⟨p.gw, 1, none⟩) pb).trans p1
  have pd0 : w3.drew.cell? ⟨p.gw, 0, none⟩ = some (.pointer (some ⟨p.gd, 0, none⟩)) := p0
  have pd1 : w3.drew.cell? ⟨p.gw, 1, none⟩ = some (.string m.key) := p1
  have mne : p.gw ≠ w3.heap.size := Nat.ne_of_lt pb
  clear h3 hop
  go_cut [8, 9] from 31 to 41 (fun s8 s9 wx => ∃ (lv : Value) (t : Nat), s8 = lv ∧ s9 = .pointer (some ⟨t, 0, none⟩) ∧ Aside (PopSt w3 p.gd p.v (mendD m.d) m.key (8 * U.length + 16) lv t wx))
  case first =>
    go_region_held3 (fun w' => w'.cell? ⟨p.gw, 0, none⟩ = some (.pointer (some ⟨p.gd, 0, none⟩)) ∧ w'.cell? ⟨p.gw, 1, none⟩ = some (.string m.key)) (first | with_reducible exact ⟨p0, p1⟩ | with_reducible exact ⟨pd0, pd1⟩ | with_reducible exact ⟨pa0, pa1⟩ | with_reducible exact ⟨m0, m1⟩ | exact ⟨st_keep m0 mne, st_keep m1 mne⟩ | exact ⟨((below_alloc w7 _).cell (p := ⟨p.gw, 0, none⟩) mb).trans m0, ((below_alloc w7 _).cell (p := ⟨p.gw, 1, none⟩) mb).trans m1⟩ | exact ⟨st_keep (((below_alloc w7 _).cell (p := ⟨p.gw, 0, none⟩) mb).trans m0) (Nat.ne_of_lt mb), st_keep (((below_alloc w7 _).cell (p := ⟨p.gw, 1, none⟩) mb).trans m1) (Nat.ne_of_lt mb)⟩ | fail) (first | (go_at_call 10; refine Calls.mono (HOP.out _ (by first | exact below_drew _ | exact (below_alloc _ _).drew)) ?_; intro e w7 h7; obtain ⟨lv, kk, pth, rfl⟩ := pop_val h7; have H7 := Lib.hid h7; have HF7 := Lib.hid (pop_fr h7); have m0 := HF7.out.cell (by first | with_reducible exact pd0 | with_reducible exact pa0) (show ¬ p.gw = p.gd from hgg); have m1 := HF7.out.cell (by first | with_reducible exact pd1 | with_reducible exact pa1) (show ¬ p.gw = p.gd from hgg); have mb := cell_lt m0; (first | (have hff : Fr (· = p.gd) (w3.alloc (.cells #[.int .i64 0, .string ⟨#[]⟩] 29)).drew w7 := (by with_reducible exact HF7.out); obtain ⟨t0, t1, t2, t3, t4⟩ := (told_pop HD3.out hff).facts; clear hff) | skip); clear h7) | fail)
    all_goals (
      go_wp2_with fail
      go_meet
      first
        | exact ⟨lv, w3.heap.size, rfl, rfl, pop_st ((below_alloc _ _).drew) HD3.out.lt H7.out (Below.refl _ _) (told_pop HD3.out HF7.out) (Nat.le_refl _)⟩
        | exact ⟨lv, w7.heap.size, rfl, rfl, by rw [told_alloc]; exact pop_st (below_drew _) HD3.out.lt H7.out (below_alloc _ _) (told_new w7) HF7.out.size⟩)
  case rest =>
    obtain ⟨lv, t, rfl, rfl, d', k, pth, hD, hF, hT, htw, hR⟩ := hcut
    have hR2 : Calm (8 * U.length + 16) (mendD m.d) d' ∧ ((∃ kn : Nat, OpensTo m.d.files m.key (.bad kn pth) ∧ u8 = .pointer none ∧ k = kn) ∨
        ∃ es n gl g, OpensTo m.d.files m.key (.good es n) ∧ u8 = .pointer (some ⟨gl, 0, none⟩) ∧ k = 0 ∧ PlIs wc gl g ∧ w3.heap.size ≤ gl ∧ Fresh0 w3 p.gd m.key es g wc) := by
      rcases hR with ⟨c, _⟩ | ⟨kn, c, h1, h2, h3⟩ | ⟨es, n, gl, g, c, h1, h2, h3, h4, h5, h6⟩
      · exact (not_hurt_mend c).elim
      · exact ⟨c, .inl ⟨kn, h1, h2, h3⟩⟩
      · exact ⟨c, .inr ⟨es, n, gl, g, h1, h2, h3, h4, h5, h6⟩⟩
    obtain ⟨hcalm, hR3⟩ := hR2
    have h4 : WdIs wc p { m with d := d' } := H3.out.diskStep hD (fr_gd hF)
    have hfd : d'.files = m.d.files := hcalm.files
    have HW4 := Lib.hid (wfiles_any wc p { m with d := d' } h4 (by show d'.files.length ≤ _; rw [hfd]; exact hfl))
    have HT := Lib.hid hT
    have HF := Lib.hid hF
    have HCALM := Lib.hid hcalm
    have H4 := Lib.hid h4
    have HFD := Lib.hid hfd
    have hgt : ¬ p.gw = t := by omega
    have hgt' : ¬ t = p.gw := fun e => hgt e.symm
    have hgg' : ¬ p.gd = p.gw := fun e => hgg e.symm
    clear hD hF hT hR hcalm h4 hfd p0 p1 pf pd0 pd1 pa0 pa1 mne
    go_upto_region 6 with (first | (go_at_call 57; refine HW4.out.mono ?_; rintro e w4 ⟨v4, l4, rfl, ho4, hp4, hb4⟩; have HO4 := Lib.hid ho4; have HP4 := Lib.hid hp4; have HB4 := Lib.hid hb4; obtain ⟨a4, cp4, rfl⟩ := own_any ho4; clear ho4 hp4 hb4) | fail)
    have h5 := H4.out.below HB4.out
    obtain ⟨⟨q0, q1, q2, q3, q4, q5, q6⟩, qf⟩ := h5.heads
    obtain ⟨⟨_, _, _, _, _, _, _, s7⟩, _⟩ := h5.disk.cells
    obtain ⟨t0, t1, _, _, _⟩ := (HT.out.below HB4.out).facts
    have hle : ((l2.length : Int) == (l4.length : Int)) = true := by
      rw [HP4.out.length_eq, HP2.out.length_eq, HFD.out]
      exact beq_self_eq_true _
    have hle2 : (!((l2.length : Int) == (l4.length : Int))) = false := by rw [hle]; rfl
    have H5 := Lib.hid h5
    have hgb := cell_lt q0
    have hturn : d'.turned = false := HCALM.out.turned.trans HG.out.sane.turned
    rw [hturn] at s7
    have hfr : Fr (WdS p m) w w4 := (HF1.out.weak fun _ _ e => gd_wd e).trans ((Fr.ofBelow (HB2.out.trans (HR3.out.1.mono HB2.out.size))).trans ((HF.out.weak fun _ _ e => gd_wd e).trans (Fr.ofBelow HB4.out)))
    have HFR := Lib.hid hfr
    have hz3 : w.heap.size ≤ w3.heap.size := Nat.le_trans HF1.out.size (Nat.le_trans HB2.out.size HR3.out.1.size)
    have hz2 : w.heap.size ≤ w2.heap.size := Nat.le_trans HF1.out.size HB2.out.size
    have HC := Lib.hid (rop_cases HR3.out)
    have HRR := Lib.hid hR3
    clear h5 hturn hfr hR3
    rcases HC.out with ⟨kn, ho, hrk⟩ | ⟨nn', ss, ho, hnn, hrk, hown⟩
    · have ho2 := opensTo_ext HGF.out ho
      have hpos := opens_pos ho2
      rcases HRR.out with ⟨kn2, ho3, hlv, hk⟩ | ⟨es, n, gl, g, ho3, _⟩
      · have hone := ho3.one ho2
        simp only [Opn.bad.injEq] at hone
        obtain ⟨rfl, rfl⟩ := hone
        subst hlv
        subst hk
        subst hrk
        have hkz : ((kn2 : Int) == 0) = false := by rw [beq_eq_false_iff_ne]; omega
        have hkz' : ¬ (kn2 : Int) = 0 := by omega
        clear ho ho2 ho3 hpos HC HRR
        go_wp2
        go_ret
        have hown := H5.out.ownStep (p' := p) (m' := ⟨m.key, d', none, m.es, m.pub, false, m.foreign⟩) ((Fr.set1 w4 p.gw 2 (.pointer none)).set 5 (.bool false)) ((heap_setCell (heap_setCell H5.out.cells _) _).trans (by simp [wdCells, plV])) ⟨rfl, rfl, rfl, rfl⟩ H5.out.ents (fun L hL => by cases hL)
        refine ⟨rfl, p, ⟨m.key, d', none, m.es, m.pub, false, m.foreign⟩, rfl, rfl, hown, .inr ⟨HFO.out, (good_shut HG.out HCALM.out m.foreign).bound (by omega)⟩, ?_, ?_⟩
        · exact HFR.out.trans (((Fr.set1 w4 p.gw 2 (.pointer none)).set 5 (.bool false)).weak fun _ _ e => .inl e)
        · intro i hi
          rcases hi with hi | hi | hi | ⟨hi, _⟩
          · exact .inl (.inl hi)
          · exact .inl (.inr (.inl hi))
          · exact .inl (.inr (.inr (.inl hi)))
          · cases hi
      · have := ho3.one ho2
        cases this
    · have ho2 := opensTo_ext HGF.out ho
      rcases HRR.out with ⟨kn2, ho3, hlv, hk⟩ | ⟨es, n, gl, g, ho3, hlv, hk, hpl, hgl, hfresh⟩
      · have := ho3.one ho2
        cases this
      · have hone := ho3.one ho2
        simp only [Opn.good.injEq] at hone
        obtain ⟨rfl, rfl⟩ := hone
        subst hlv
        subst hk
        subst hrk
        subst hnn
        obtain ⟨qve, qvl, qvs, hlog, hgb2, hsb⟩ := hfresh
        have hownc : OwnStrs wc w2.heap.size ve ss := row_kept hown HF.out (kinds_one HD3.out.1) (by decide)
        have hown4 : OwnStrs w4 0 ve ss := ownsRow_mono (ownsRow_below hownc HB4.out) (Nat.zero_le _)
        have hlog4 := hlog.below HB4.out
        have hpl4 : PlIs w4 gl g := (HB4.out.block _ (lt_of_heap hpl)).trans hpl
        have hveb : ∀ i, ve.ownBlock = some i → w.heap.size ≤ i := fun i hi => Nat.le_trans hz2 (hownc.lt i hi).1
        obtain ⟨ae, ce, rfl⟩ := own_any hown4
        have hstep := H5.out.ownStep (p' := { p with en := .slice ae ss.length ce, gl := gl, g := g, ve := qve, vl := qvl, vp := .slice none 0 0, vs := qvs }) (m' := ⟨m.key, d', some ⟨m.key, lists ss, levels (lists ss), [], false⟩, ss, n, false, m.foreign⟩)
          ((((Fr.set1 w4 p.gw 2 (.pointer (some ⟨gl, 0, none⟩))).set 5 (.bool false)).set 3 (.slice ae ss.length ce)).set 4 (.int .i64 n))
          ((heap_setCell (heap_setCell (heap_setCell (heap_setCell H5.out.cells _) _) _) _).trans (by simp [wdCells, plV])) ⟨rfl, rfl, rfl, rfl⟩ hown4 (fun L hL => by cases hL; exact ⟨hpl4, hlog4⟩)
        have HSTEP := Lib.hid hstep
        have hps := psize_any _ gl g p.gd _ _ _ _ _ (hstep.log _ rfl).1 (hstep.log _ rfl).2
        have hlen : ((lists ss).length : Int) = (ss.length : Int) := by simp [lists]
        dsimp only at hps
        rw [hlen] at hps
        have HPS := Lib.hid hps
        have HVE := Lib.hid hveb
        have HSB := Lib.hid hsb
        have HO2' := Lib.hid ho2
        clear hown hownc hown4 hlog hlog4 hpl hpl4 hstep hps hlen hveb ho ho2 ho3 HC HRR hsb
        go_wp2_with (first | (go_at_call 11; refine HPS.out.mono ?_; rintro e w9 ⟨rfl, rfl⟩) | fail)
        all_goals (first | exact absurd (eq_of_beq hle) (by assumption) | skip)
        go_ret
        refine ⟨rfl, { p with en := .slice ae ss.length ce, gl := gl, g := g, ve := qve, vl := qvl, vp := .slice none 0 0, vs := qvs }, ⟨m.key, d', some ⟨m.key, lists ss, levels (lists ss), [], false⟩, ss, n, false, m.foreign⟩, rfl, rfl, HSTEP.out, .inr ⟨HFO.out, (good_open HG.out (by omega) HCALM.out HO2'.out m.foreign).bound (by omega)⟩, ?_, ?_⟩
        · exact HFR.out.trans (((((Fr.set1 w4 p.gw 2 (.pointer (some ⟨gl, 0, none⟩))).set 5 (.bool false)).set 3 (.slice ae ss.length ce)).set 4 (.int .i64 n)).weak fun _ _ e => .inl e)
        · intro i hi
          rcases hi with hi | hi | hi | ⟨_, hi | hi⟩
          · exact .inl (.inl hi)
          · exact .inl (.inr (.inl hi))
          · exact .inr (HVE.out i hi)
          · exact .inr (by subst hi; exact Nat.le_trans hz3 hgl)
          · exact .inr (Nat.le_trans hz3 (HSB.out i hi))
end Go.Proofs.YtefccfakhgdfbabGreatDoor
end

section
namespace Go.Proofs.YtefccfakhgdfbabGreatDoor
open Go.RowKit
theorem topenNone_any (f : Nat → Addr) (w : World) (hS : Sents w f) : Calls Tryz.prog 36 #[.nilIface, .string ⟨#[]⟩] w fun e w' => e = .returned (.tuple #[.pointer none, .iface 338 (.pointer (some (f 6)))]) ∧ Below w.heap.size w w' := by
  have hn : (binOp .eql 134 .nilIface .nilIface).run Tryz.prog w = .ok (.bool true) w := by
    have h : ∀ d : Nat, (Op.equalIn (d + 1) 134 .nilIface .nilIface).run Tryz.prog w = .ok true w := fun d => by simp [Op.equalIn, run_underlying Tryz.underlying134]
    simp only [binOp]
    simp [Op.equal, Op.maxDepth, h 9999]
  obtain ⟨_, _, _, _, _, _, s6⟩ := hS.cells
  clear hS
  go_enter Tryz.func36, Tryz.ntmps36
  go_wp2
  go_region
  all_goals (
    go_wp2
    go_ret2
    exact ⟨rfl, below_drew w⟩)
set_option maxRecDepth 100000 in
theorem openNone_any (f : Nat → Addr) (w : World) (hS : Sents w f) :
    Calls Tryz.prog 24 #[] w fun e w' => e = .returned (.tuple #[.bool false, toldV 7 ⟨#[]⟩]) ∧ Below w.heap.size w w' := by
  obtain ⟨w0, hw0⟩ : ∃ w0, w0 = w.alloc (.cells #[.int .i64 0, .string ⟨#[]⟩] 29) := ⟨_, rfl⟩
  have hb0 : Below w.heap.size w w0 := by rw [hw0]; exact below_alloc w _
  have HT := Lib.hid (show ToldAt' w0 w.heap.size 0 ⟨#[]⟩ by rw [hw0]; exact told_new w)
  have HB0 := Lib.hid hb0
  have HS := Lib.hid (hS.below hb0)
  have hx0 := fun (w1 : World) (hb : Below w0.heap.size w0 w1) => of_sent f w1 (HS.out.below hb) 6 (by decide) (by decide)
  rw [show ((ofCode 6 : Nat) : Int) = 7 from rfl] at hx0
  have HX := Lib.hid hx0
  clear hx0
  have HTOP := Lib.hid (topenNone_any f w0 HS.out)
  have HW0 := Lib.hid hw0
  clear hS hb0 hw0
  go_enter Tryz.func24, Tryz.ntmps24
  go_wp2_with fail
  rw [← HW0.out]
  go_wp2_with (first
    | (go_at_call 36; refine HTOP.out.mono ?_; rintro e w1 ⟨rfl, hb1⟩; have HB1 := Lib.hid hb1; clear hb1)
    | (go_at_call 37; refine (HX.out w1 HB1.out).mono ?_; rintro e w2 ⟨rfl, hb2⟩; have HB2 := Lib.hid hb2; clear hb2; obtain ⟨t0, t1, t2, t3, t4⟩ := ((HT.out.below HB1.out).below HB2.out).facts))
  refine bodyPost_ret (v := .tuple #[.bool false, toldV 7 ⟨#[]⟩]) (by simp [results, Tryz.results24, go_sem, t0, t1]) rfl ⟨rfl, ?_⟩
  have hz : w.heap.size ≤ w1.heap.size := Nat.le_trans HB0.out.size HB1.out.size
  exact (((HB0.out.trans (HB1.out.mono HB0.out.size)).trans (HB2.out.mono hz)).setCell (Nat.le_refl _) _).setCell (Nat.le_refl _) _
/-- What plain's Publish answers. -/
def ppubPost (w : World) (g gd : Nat) (v ve vl vp : Value) (vs : List Value) (d : Dk) (L : Lg) (e : Ending) (w' : World) : Prop :=
  if L.failed = true then e = .returned (.tuple #[.int .i64 0, toldV 7 ⟨#[]⟩]) ∧ Below w.heap.size w w'
  else ∃ v' vp' Q, Q = pubD L.entries L.key L.put d ∧ DiskAt w' gd v' Q.1 ∧ LogIs w' g gd ve vl vp' vs { L with put := Q.2.1, failed := Q.2.2.isSome } ∧ Fr (bothS g gd v ve vl vp vs) w w' ∧ Sub w (bothS g gd v ve vl vp vs) (bothS g gd v' ve vl vp' vs) ∧
    ((Q.2.2 = none ∧ e = .returned (.tuple #[.int .i64 L.entries.length, toldV 0 ⟨#[]⟩])) ∨ ∃ p, Q.2.2 = some p ∧ e = .returned (.tuple #[.int .i64 0, toldV 8 p]))
/-- The end of a publishing that has told. -/
theorem told_pub {w w0 w1 w2 w3 : World} {g gd : Nat} {v ve vl vp v' vp' : Value} {vs : List Value} {L L' : Lg} {d d' : Dk} (hw0 : w0 = w.alloc (.cells #[.int .i64 0, .string ⟨#[]⟩] 29)) (hl : LogIs w0 g gd ve vl vp vs L) (hd : DiskAt w0 gd v d)
    (hbs : ∀ k, bothS g gd v ve vl vp vs k → k < w.heap.size) (hD : DiskAt w1 gd v' d') (hL : LogIs w1 g gd ve vl vp' vs L') (hF : Fr (bothS g gd v ve vl vp vs) w0 w1) (hS : Sub w0 (bothS g gd v ve vl vp vs) (bothS g gd v' ve vl vp' vs)) (h2 : Below w1.heap.size w1 w2) :
    ToldAt' w2 w.heap.size 0 ⟨#[]⟩ ∧ ∀ n s, w3 = (w2.setCell ⟨w.heap.size, 0, none⟩ (.int .i64 n)).setCell ⟨w.heap.size, 1, none⟩ (.string s) →
      DiskAt w3 gd v' d' ∧ LogIs w3 g gd ve vl vp' vs L' ∧ Fr (bothS g gd v ve vl vp vs) w w3 ∧ Sub w (bothS g gd v ve vl vp vs) (bothS g gd v' ve vl vp' vs) := by
  have t0 : ToldAt' w0 w.heap.size 0 ⟨#[]⟩ := by rw [hw0]; exact told_new w
  have t1 : ToldAt' w1 w.heap.size 0 ⟨#[]⟩ := t0.kept hF ((kinds_disk hd).or (kinds_log hl)) (by decide)
  have t2 := t1.below h2
  have hb0 : Below w.heap.size w w0 := by rw [hw0]; exact below_alloc w _
  refine ⟨t2, fun n s e => ?_⟩
  have ts := told_set (m := n) (t := s) t2
  rw [← e] at ts
  have hk2 := kinds_one t2
  refine ⟨(hD.below h2).kept ts.2 hk2 (by decide) (by decide), (hL.below h2).kept ts.2 hk2 (by decide) (by decide), ?_, hS.mono hb0.size⟩
  exact ((Fr.ofBelow hb0).trans (hF.trans (Fr.ofBelow h2))).step ts.2 fun k hk e => by subst e; omega
set_option maxRecDepth 100000 in
set_option maxHeartbeats 2000000 in
theorem ppublish_any (f : Nat → Addr) (w : World) (gl g gd : Nat) (v ve vl vp : Value) (vs : List Value) (d : Dk) (L : Lg) (hp : PlIs w gl g) (h : LogIs w g gd ve vl vp vs L) (hD : DiskAt w gd v d) (hE : EnvS f (bothS g gd v ve vl vp vs) w) (hlv : L.levels = levels L.entries) (hn : L.entries.length ≤ 1048576)
    (hs : ∀ e ∈ L.entries, e.length ≤ 20) (hm : MarkOk (rowsOf L.entries) L.put) (hc : d.calls < 900000000000) (hfl : d.files.length < 900000000000) (hkey : L.key.size ≤ 1048600) :
    Calls Tryz.prog 15 #[.pointer (some ⟨gl, 0, none⟩)] w (ppubPost w g gd v ve vl vp vs d L) := by
  obtain ⟨w0, hw0⟩ : ∃ w0, w0 = w.alloc (.cells #[.int .i64 0, .string ⟨#[]⟩] 29) := ⟨_, rfl⟩
  have hb0 : Below w.heap.size w w0 := by rw [hw0]; exact below_alloc w _
  have hbs : ∀ k, bothS g gd v ve vl vp vs k → k < w.heap.size := fun k hk => bothS_lt h hD hk
  have h0 := h.below hb0
  have hD0 := hD.below hb0
  have hp0 : PlIs w0 gl g := (hb0.block _ (lt_of_heap hp)).trans hp
  have c0 := cell_heap hp 0 rfl
  have hgl := lt_of_heap hp
  have HB0 := Lib.hid hb0
  have HE := Lib.hid (hE.below hb0)
  have HL := Lib.hid h0
  have HD := Lib.hid hD0
  have HBS := Lib.hid hbs
  have HC := Lib.hid (publish_any f w0 g gd v ve vl vp vs d L h0 hD0 (hE.below hb0) hlv hn hs hm hc hfl hkey)
  have HT := Lib.hid (show ToldAt' w0 w.heap.size 0 ⟨#[]⟩ by rw [hw0]; exact told_new w)
  have HW0 := Lib.hid hw0
  clear hp h hD hE hlv hs hm hb0 hbs h0 hD0 hp0 hw0
  go_enter Tryz.func15, Tryz.ntmps15
  go_wp2_with fail
  rw [← HW0.out]
  go_at_call 40
  refine HC.out.mono ?_
  intro e w1 h1
  unfold pubPost at h1
  by_cases hf : L.failed = true
  · rw [if_pos hf] at h1
    obtain ⟨rfl, hb⟩ := h1
    have hx0 := of_sent f w1 (HE.out.below hb).sents 6 (by decide) (by decide)
    rw [show ((ofCode 6 : Nat) : Int) = 7 from rfl] at hx0
    have HX := Lib.hid hx0
    clear hx0
    have HB := Lib.hid hb
    have HF := Lib.hid hf
    clear hb hf
    go_wp2_with (go_at_call 37; refine HX.out.mono ?_; rintro e w2 ⟨rfl, hb2⟩; have HB2 := Lib.hid hb2; clear hb2; obtain ⟨t0, t1, t2, t3, t4⟩ := ((HT.out.below HB.out).below HB2.out).facts)
    refine bodyPost_ret (v := .tuple #[.int .i64 0, toldV 7 ⟨#[]⟩]) (by simp [results, Tryz.results15, go_sem, t0, t1]) rfl ?_
    unfold ppubPost
    rw [if_pos HF.out]
    have hz : w.heap.size ≤ w1.heap.size := Nat.le_trans HB0.out.size HB.out.size
    exact ⟨rfl, (((HB0.out.trans (HB.out.mono HB0.out.size)).trans (HB2.out.mono hz)).setCell (Nat.le_refl _) _).setCell (Nat.le_refl _) _⟩
  · rw [if_neg hf] at h1
    obtain ⟨v', vp', Q, hQ, h2, h3, h4, h5, h6⟩ := h1
    have HQ := Lib.hid hQ
    have H2 := Lib.hid h2
    have H3 := Lib.hid h3
    have H4 := Lib.hid h4
    have H5 := Lib.hid h5
    have HF := Lib.hid hf
    have hE1 := HE.out.step h4 h5
    have HE1 := Lib.hid hE1
    clear hQ h2 h3 h4 h5 hf hE1
    rcases h6 with ⟨h7, rfl⟩ | ⟨p, r, u, m, h7, rfl, _, _, h8, h9⟩
    · have H7 := Lib.hid h7
      have HX := Lib.hid (of_nil f w1 HE1.out.sents)
      clear h7
      go_wp2_with (go_at_call 37; refine HX.out.mono ?_; rintro e w2 ⟨rfl, hb2⟩; have HB2 := Lib.hid hb2; clear hb2; obtain ⟨ht2, hen⟩ := told_pub (w3 := (w2.setCell ⟨w.heap.size, 0, none⟩ (.int .i64 0)).setCell ⟨w.heap.size, 1, none⟩ (.string ⟨#[]⟩)) HW0.out HL.out HD.out HBS.out H2.out H3.out H4.out H5.out HB2.out; have HEN := Lib.hid (hen 0 _ rfl); obtain ⟨t0, t1, t2, t3, t4⟩ := ht2.facts; clear ht2 hen)
      refine bodyPost_ret (v := .tuple #[.int .i64 L.entries.length, toldV 0 ⟨#[]⟩]) (by simp [results, Tryz.results15, go_sem, t0, t1]) rfl ?_
      unfold ppubPost
      rw [if_neg HF.out]
      exact ⟨v', vp', Q, HQ.out, HEN.out.1, HEN.out.2.1, HEN.out.2.2.1, HEN.out.2.2.2, .inl ⟨H7.out, rfl⟩⟩
    · have H7 := Lib.hid h7
      have HX := Lib.hid (of_own f w1 HE1.out.sents HE1.out.errT r u p h9)
      clear h7 h8 h9
      go_wp2_with (go_at_call 37; refine HX.out.mono ?_; rintro e w2 ⟨rfl, hb2⟩; have HB2 := Lib.hid hb2; clear hb2; obtain ⟨ht2, hen⟩ := told_pub (w3 := (w2.setCell ⟨w.heap.size, 0, none⟩ (.int .i64 8)).setCell ⟨w.heap.size, 1, none⟩ (.string p)) HW0.out HL.out HD.out HBS.out H2.out H3.out H4.out H5.out HB2.out; have HEN := Lib.hid (hen 8 p rfl); obtain ⟨t0, t1, t2, t3, t4⟩ := ht2.facts; clear ht2 hen)
      refine bodyPost_ret (v := .tuple #[.int .i64 0, toldV 8 p]) (by simp [results, Tryz.results15, go_sem, t0, t1]) rfl ?_
      unfold ppubPost
      rw [if_neg HF.out]
      exact ⟨v', vp', Q, HQ.out, HEN.out.1, HEN.out.2.1, HEN.out.2.2.1, HEN.out.2.2.2, .inr ⟨p, H7.out, rfl⟩⟩
end Go.Proofs.YtefccfakhgdfbabGreatDoor
end

section
namespace Go.Proofs.YtefccfakhgdfbabGreatDoor
open Go.RowKit
theorem OwnBytes.same2 {w w' : World} {base : Nat} {v : Value} {l : List UInt8} (h : OwnBytes w base v l) (hs : ∀ (k : Nat) (C : Array Value) (fz : Nat × Nat), base ≤ k → w.heap[k]? = some (Obj.cells C 5 fz) → w'.heap[k]? = w.heap[k]?) (base' : Nat) (hb : base' ≤ base) : OwnBytes w' base' v l := by
  rcases h with h | ⟨b, off, c, C, fz, h1, h0, h2, h3, h4⟩
  · exact .inl h
  · exact .inr ⟨b, off, c, C, fz, h1, h0, Nat.le_trans hb h2, (hs b C fz h2 h3).trans h3, h4⟩
theorem ownsRow_one {w : World} {b b' : Nat} {e : TypeId} {size : Nat} {v : Value} {n : Nat} {xs ys : List Value} (h : w.ownsRow b e size v n xs) (k : w.ownsRow b' e size v n ys) : xs = ys := by
  rcases h.2 with ⟨rfl, h0⟩ | ⟨g, cap, cur, rfl, _, hg, _, _, _, ht⟩
  · have h1 := h.1
    have k1 := k.1
    subst h0
    have e1 : xs = [] := List.eq_nil_of_length_eq_zero (by simpa using h1)
    have e2 : ys = [] := List.eq_nil_of_length_eq_zero (by simpa using k1)
    rw [e1, e2]
  · rcases k.2 with ⟨e, _⟩ | ⟨g', cap', cur', e, _, hg', _, _, _, ht'⟩
    · cases e
    · cases e
      rw [hg] at hg'
      cases hg'
      exact ht.symm.trans ht'
/-- Behind an append of bytes that are then cleared: the publisher stands. -/
theorem took_clear {w w1 w2 w3 : World} {g gd b1 : Nat} {ve vl vp : Value} {vs : List Value} {L : Lg} {b : List UInt8} (h : LogIs w g gd ve vl vp vs L) (hb : Below w.heap.size w w1) (ht : Took w1 g gd ve vl vp vs L b w2) (hf : Fr (· = b1) w2 w3) (hw : w.heap.size ≤ b1) (hb1 : b1 < w1.heap.size) (hk : Kinds w2 (· = b1) [5]) :
    ∃ ve' vl' vs', LogIs w3 g gd ve' vl' vp vs' { L with entries := L.entries ++ [b], levels := levels (L.entries ++ [b]) } ∧ Fr (LogS g ve vl vp vs) w w3 ∧ Sub w (LogS g ve vl vp vs) (LogS g ve' vl' vp vs') := by
  obtain ⟨ve', vl', vs', vs0, u, hl2, hf2, hs2, hr0, hr2, hu⟩ := ht
  have h1 := h.below hb
  obtain ⟨vsw, hrw, hel⟩ := h.ents
  have hv0 : vsw = vs0 := ownsRow_one (ownsRow_below hrw hb) hr0
  subst hv0
  have hrest := hl2.rest hf 5 (fun k C s f hk' hc => List.mem_singleton.1 (hk k C s f hk' hc))
  refine ⟨ve', vl', vs', ⟨(hrest.1 (by decide)).trans hl2.cells, ?_, hrest.2.2.1 (by decide), hrest.2.2.2.1 (by decide), hl2.apart, hrest.2.2.2.2 (by decide)⟩, ?_, hs2.mono hb.size⟩
  · have hrow : w3.ownsRow 0 94 1 ve' (L.entries ++ [b]).length (vsw ++ [u]) := by
      rw [List.length_append, List.length_singleton]
      exact row_kept hr2 hf hk (by decide)
    refine ⟨_, hrow, fun j x l hx hlj => ?_⟩
    have hlen : vsw.length = L.entries.length := by simpa using hrw.1
    rcases Nat.lt_or_ge j vsw.length with hj | hj
    · rw [List.getElem?_append_left hj] at hx
      rw [List.getElem?_append_left (by omega)] at hlj
      exact (hel j x l hx hlj).same fun k C fz hkC => by
        have hlt := lt_of_heap hkC
        have e1 := hb.block k hlt
        have hk1 : w1.heap[k]? = some (.cells C 5 fz) := e1.trans hkC
        have e2 := hf2.block k (lt_of_heap hk1) fun hS => h1.noBytes k C fz hk1 hS
        have e3 := hf.block k (Nat.lt_of_lt_of_le (lt_of_heap hk1) hf2.size) (fun e => by subst e; omega)
        exact e3.trans (e2.trans e1)
    · rw [List.getElem?_append_right hj] at hx
      rw [List.getElem?_append_right (by omega)] at hlj
      have hj0 : j - vsw.length = 0 := by
        rcases Nat.eq_zero_or_pos (j - vsw.length) with h0 | h0
        · exact h0
        · rw [List.getElem?_eq_none (by simp; omega)] at hx; cases hx
      rw [hj0] at hx
      rw [show j - L.entries.length = 0 by omega] at hlj
      cases hx
      cases hlj
      exact hu.same2 (fun k C fz hbk hkC => hf.block k (lt_of_heap hkC) fun e => by subst e; omega) 0 (Nat.zero_le _)
  · exact ((Fr.ofBelow hb).trans hf2).step hf fun i hi e => by subst e; omega
/-- What plain's Append answers. -/
def pappPost (w : World) (g gd : Nat) (ve vl vp : Value) (vs : List Value) (L : Lg) (b : List UInt8) (e : Ending) (w' : World) : Prop :=
  if 20 < b.length then e = .returned (.tuple #[.int .i64 0, toldV 1 ⟨#[]⟩]) ∧ Below w.heap.size w w'
  else if L.failed = true then e = .returned (.tuple #[.int .i64 0, toldV 7 ⟨#[]⟩]) ∧ Below w.heap.size w w'
  else e = .returned (.tuple #[.int .i64 L.entries.length, toldV 0 ⟨#[]⟩]) ∧ ∃ ve' vl' vs', LogIs w' g gd ve' vl' vp vs' { L with entries := L.entries ++ [b], levels := levels (L.entries ++ [b]) } ∧ Fr (LogS g ve vl vp vs) w w' ∧ Sub w (LogS g ve vl vp vs) (LogS g ve' vl' vp vs')
set_option maxRecDepth 100000 in
set_option maxHeartbeats 2000000 in
theorem pappend_any (f : Nat → Addr) (w : World) (gl g gd : Nat) (ve vl vp : Value) (vs : List Value) (L : Lg) (s : ByteArray) (hp : PlIs w gl g) (h : LogIs w g gd ve vl vp vs L) (hE : EnvS f (LogS g ve vl vp vs) w) (hlv : L.levels = levels L.entries) (hn : L.entries.length < 1048576) :
    Calls Tryz.prog 12 #[.pointer (some ⟨gl, 0, none⟩), .string s] w (pappPost w g gd ve vl vp vs L s.data.toList) := by
  obtain ⟨i0, hi, hz0, _, _⟩ := info_parts info_u8
  have c0 := cell_heap hp 0 rfl
  have hgl := lt_of_heap hp
  have HE := Lib.hid hE
  have HL := Lib.hid h
  have HP := Lib.hid hp
  have HLV := Lib.hid hlv
  have hg := lt_of_heap h.cells
  obtain ⟨w0, hw0⟩ : ∃ w0, w0 = w.alloc (.cells #[.int .i64 0, .string ⟨#[]⟩] 29) := ⟨_, rfl⟩
  have HW0 := Lib.hid hw0
  have HB0 := Lib.hid (show Below w.heap.size w w0 by rw [hw0]; exact below_alloc w _)
  have HT0 := Lib.hid (show ToldAt' w0 w.heap.size 0 ⟨#[]⟩ by rw [hw0]; exact told_new w)
  have hz00 : w0.heap.size = w.heap.size + 1 := by rw [hw0]; simp
  have hc0 := (HB0.out.cell (p := ⟨gl, 0, none⟩) hgl).trans c0
  clear h hE hp hlv hw0
  go_enter Tryz.func12, Tryz.ntmps12
  go_upto_region 1 with fail
  rw [← HW0.out]
  go_upto_region 2 with (first | (refine wpList_sb rfl 9 94 5 _ rfl Tryz.underlying9 Tryz.underlying94 Tryz.underlying5 rfl s rfl ?_; intro u w1 hu hb1 hw1 hv1; obtain ⟨b1, c1, rfl⟩ := hv1; have HU := Lib.hid hu; have HB1 := Lib.hid hb1; clear hu hb1 hw1) | fail)
  have hl1 := (HL.out.below HB0.out).below HB1.out
  have hE1 := (HE.out.below HB0.out).below HB1.out
  have hb1w : w0.heap.size ≤ b1 ∧ b1 < w1.heap.size ∧ ∃ C fz, w1.heap[b1]? = some (.cells C 5 fz) := by
    rcases HU.out with ⟨e, _⟩ | ⟨b, off, c, C, fz, e, _, h2, h3, _⟩
    · cases e
    · cases e; exact ⟨h2, lt_of_heap h3, C, fz, h3⟩
  have HB1W := Lib.hid hb1w
  have HAP := Lib.hid (append_any f w1 g gd ve vl vp vs L hl1 _ s.data.toList (HU.out.mono (Nat.zero_le _)) hn HLV.out hE1.sents)
  have HE1 := Lib.hid hE1
  have HL1 := Lib.hid hl1
  have HBW := Lib.hid (HB0.out.trans (HB1.out.mono HB0.out.size))
  have hc1 := (HB1.out.cell (p := ⟨gl, 0, none⟩) (cell_lt hc0)).trans hc0
  have HT1 := Lib.hid (HT0.out.below HB1.out)
  clear hl1 hE1 hb1w
  go_wp2_with fail
  go_at_call 39
  refine HAP.out.mono ?_
  intro e w2 h2
  unfold appendPost at h2
  have hz01 : w.heap.size ≤ w1.heap.size := HBW.out.size
  by_cases hlong : 20 < s.data.toList.length
  · rw [if_pos hlong] at h2
    obtain ⟨rfl, hb2⟩ := h2
    have HB2 := Lib.hid hb2
    have HU2 := Lib.hid ((HU.out.mono (Nat.zero_le _)).below hb2)
    have HT2 := Lib.hid (HT1.out.below hb2)
    have HK2 := Lib.hid (show Kinds w2 (· = b1) [5] from by obtain ⟨_, _, C, fz, hC⟩ := HB1W.out; exact kinds_one ((hb2.block _ (lt_of_heap hC)).trans hC))
    have hz2 : w.heap.size ≤ w2.heap.size := Nat.le_trans hz01 hb2.size
    have HLONG := Lib.hid hlong
    have hse := fun (w3 : World) (hf : Fr (LogS g ve vl vp vs) w w3) => of_sent f w3 (HE.out w3 hf).2.1 0 (by decide) (by decide)
    rw [show ((ofCode 0 : Nat) : Int) = 1 from rfl] at hse
    have HSE := Lib.hid hse
    have hbw : w.heap.size ≤ b1 := Nat.le_trans (by omega) HB1W.out.1
    clear hb2 hlong hse
    go_wp2_with (first | (refine wpList_clearB rfl _ 94 rfl i0 Tryz.underlying94 hi hz0 0 _ s.data.toList rfl HU2.out ?_; intro w3 n3 hg3 hsh3 hz3; have HF3 := Lib.hid (Fr.ofGrown (S := (· = b1)) hg3 fun k _ e => (Option.some.inj e).symm); have hz3' : w.heap.size ≤ w3.heap.size := Nat.le_trans hz2 HF3.out.size; clear hg3 hsh3 hz3) | (go_at_call 37; refine (HSE.out _ (((Fr.ofBelow (HBW.out.trans (HB2.out.mono hz01)))).step HF3.out fun i hi e => by subst e; omega)).mono ?_; rintro e w4 ⟨rfl, hb4⟩; have HB4 := Lib.hid hb4; obtain ⟨t0, t1, t2, t3, t4⟩ := ((HT2.out.kept HF3.out HK2.out (by decide)).below hb4).facts; clear hb4) | fail)
    refine bodyPost_ret (v := .tuple #[.int .i64 0, toldV 1 ⟨#[]⟩]) (by simp [results, Tryz.results12, go_sem, t0, t1]) rfl ?_
    unfold pappPost
    rw [if_pos HLONG.out]
    have hb3 : Below w.heap.size w w3 := (HBW.out.trans (HB2.out.mono hz01)).trans (HF3.out.below hz2 fun k hk e => by omega)
    exact ⟨rfl, ((hb3.trans (HB4.out.mono hz3')).setCell (Nat.le_refl _) _).setCell (Nat.le_refl _) _⟩
  · rw [if_neg hlong] at h2
    by_cases hfd : L.failed = true
    · rw [if_pos hfd] at h2
      obtain ⟨rfl, hb2⟩ := h2
      have HB2 := Lib.hid hb2
      have HU2 := Lib.hid ((HU.out.mono (Nat.zero_le _)).below hb2)
      have HT2 := Lib.hid (HT1.out.below hb2)
      have HK2 := Lib.hid (show Kinds w2 (· = b1) [5] from by obtain ⟨_, _, C, fz, hC⟩ := HB1W.out; exact kinds_one ((hb2.block _ (lt_of_heap hC)).trans hC))
      have hz2 : w.heap.size ≤ w2.heap.size := Nat.le_trans hz01 hb2.size
      have HLONG := Lib.hid hlong
      have HFD := Lib.hid hfd
      have hse := fun (w3 : World) (hf : Fr (LogS g ve vl vp vs) w w3) => of_sent f w3 (HE.out w3 hf).2.1 6 (by decide) (by decide)
      rw [show ((ofCode 6 : Nat) : Int) = 7 from rfl] at hse
      have HSE := Lib.hid hse
      have hbw : w.heap.size ≤ b1 := Nat.le_trans (by omega) HB1W.out.1
      clear hb2 hlong hse hfd
      go_wp2_with (first | (refine wpList_clearB rfl _ 94 rfl i0 Tryz.underlying94 hi hz0 0 _ s.data.toList rfl HU2.out ?_; intro w3 n3 hg3 hsh3 hz3; have HF3 := Lib.hid (Fr.ofGrown (S := (· = b1)) hg3 fun k _ e => (Option.some.inj e).symm); have hz3' : w.heap.size ≤ w3.heap.size := Nat.le_trans hz2 HF3.out.size; clear hg3 hsh3 hz3) | (go_at_call 37; refine (HSE.out _ (((Fr.ofBelow (HBW.out.trans (HB2.out.mono hz01)))).step HF3.out fun i hi e => by subst e; omega)).mono ?_; rintro e w4 ⟨rfl, hb4⟩; have HB4 := Lib.hid hb4; obtain ⟨t0, t1, t2, t3, t4⟩ := ((HT2.out.kept HF3.out HK2.out (by decide)).below hb4).facts; clear hb4) | fail)
      refine bodyPost_ret (v := .tuple #[.int .i64 0, toldV 7 ⟨#[]⟩]) (by simp [results, Tryz.results12, go_sem, t0, t1]) rfl ?_
      unfold pappPost
      rw [if_neg HLONG.out, if_pos HFD.out]
      have hb3 : Below w.heap.size w w3 := (HBW.out.trans (HB2.out.mono hz01)).trans (HF3.out.below hz2 fun k hk e => by omega)
      exact ⟨rfl, ((hb3.trans (HB4.out.mono hz3')).setCell (Nat.le_refl _) _).setCell (Nat.le_refl _) _⟩
    · rw [if_neg hfd] at h2
      obtain ⟨rfl, htook⟩ := h2
      obtain ⟨ve2, vl2, vs2, vs0, u2, hl2, hf2, hs2, hr02, hr22, hu2⟩ := htook
      have HTK := Lib.hid (show Took w1 g gd ve vl vp vs L s.data.toList w2 from ⟨ve2, vl2, vs2, vs0, u2, hl2, hf2, hs2, hr02, hr22, hu2⟩)
      have HF2 := Lib.hid hf2
      have HU2 := Lib.hid ((HU.out.mono (Nat.zero_le _)).same fun k C fz hk => hf2.block k (lt_of_heap hk) fun hS => HL1.out.noBytes k C fz hk hS)
      have HT2 := Lib.hid (HT1.out.kept hf2 (kinds_log HL1.out) (by decide))
      have HK2 := Lib.hid (show Kinds w2 (· = b1) [5] from by obtain ⟨_, _, C, fz, hC⟩ := HB1W.out; exact kinds_one (hf2.heap hC (fun hS => HL1.out.noBytes _ C fz hC hS)))
      have hz2 : w.heap.size ≤ w2.heap.size := Nat.le_trans hz01 hf2.size
      have HLONG := Lib.hid hlong
      have HFD := Lib.hid hfd
      have hse := fun (w3 : World) (hf : Fr (LogS g ve vl vp vs) w w3) => of_nil f w3 (HE.out w3 hf).2.1
      have HSE := Lib.hid hse
      have hbw : w.heap.size ≤ b1 := Nat.le_trans (by omega) HB1W.out.1
      have hb1lt := HB1W.out.2.1
      clear hl2 hf2 hs2 hr02 hr22 hu2 hlong hse hfd
      go_wp2_with (first | (refine wpList_clearB rfl _ 94 rfl i0 Tryz.underlying94 hi hz0 0 _ s.data.toList rfl HU2.out ?_; intro w3 n3 hg3 hsh3 hz3; have HF3 := Lib.hid (Fr.ofGrown (S := (· = b1)) hg3 fun k _ e => (Option.some.inj e).symm); have hz3' : w.heap.size ≤ w3.heap.size := Nat.le_trans hz2 HF3.out.size; clear hg3 hsh3 hz3) | (go_at_call 37; refine (HSE.out _ (((Fr.ofBelow HBW.out).trans HF2.out).step HF3.out fun i hi e => by subst e; omega)).mono ?_; rintro e w4 ⟨rfl, hb4⟩; have HB4 := Lib.hid hb4; have HT4 := Lib.hid ((HT2.out.kept HF3.out HK2.out (by decide)).below hb4); obtain ⟨t0, t1, t2, t3, t4⟩ := HT4.out.facts; clear hb4) | fail)
      refine bodyPost_ret (v := .tuple #[.int .i64 L.entries.length, toldV 0 ⟨#[]⟩]) (by simp [results, Tryz.results12, go_sem, t0, t1]) rfl ?_
      unfold pappPost
      rw [if_neg HLONG.out, if_neg HFD.out]
      obtain ⟨ve', vl', vs', k1, k2, k3⟩ := took_clear HL.out HBW.out HTK.out HF3.out hbw hb1lt HK2.out
      have ts := told_set (m := 0) (t := ⟨#[]⟩) HT4.out
      refine ⟨rfl, ve', vl', vs', (k1.below HB4.out).kept ts.2 (kinds_one HT4.out) (by decide) (by decide), ?_, k3⟩
      exact (k2.trans (Fr.ofBelow HB4.out)).step ts.2 fun i hi e => by subst e; omega
end Go.Proofs.YtefccfakhgdfbabGreatDoor
end
