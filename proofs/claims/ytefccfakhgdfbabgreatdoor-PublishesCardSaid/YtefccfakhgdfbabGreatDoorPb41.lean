/-
  tileslaw's World.append1: P13. Conditions: the World is sound and has a publisher.
  tileslaw.clash, there, kept. Conditions: fewer than 2^40 files; there and kept: what they ask is so.
  tileslaw's World.publish: P14, P15. Conditions: the World is sound and has a publisher.
-/
import Derived.Test.YtefccfakhgdfbabGreatDoorPb40
import Derived.Deep.DeepMust
import Derived.Test.YtefccfakhgdfbabGreatDoorPb37
import Derived.Test.YtefccfakhgdfbabGreatDoorPb33
import Derived.Deep.Cut
import Derived.Test.YtefccfakhgdfbabGreatDoorPb16
set_option linter.unusedVariables false
set_option linter.unusedSimpArgs false
section
namespace Go.Proofs.YtefccfakhgdfbabGreatDoor
open Go.RowKit
theorem log_wd {p : Pl} {m : Wm} (hm : m.l.isSome = true) {k : Nat} (h : LogS p.g p.ve p.vl p.vp p.vs k) : WdS p m k := .inr (.inr (.inr ⟨hm, .inr h⟩))
/-- The publisher turns, the store does not. -/
theorem WdIs.logStep {w w' : World} {p : Pl} {m : Wm} {L L' : Lg} (h : WdIs w p m) (hL : m.l = some L) {ve' vl' vp' : Value} {vs' : List Value} (hl : LogIs w' p.g p.gd ve' vl' vp' vs' L') (hf : Fr (LogS p.g p.ve p.vl p.vp p.vs) w w') :
    WdIs w' { p with ve := ve', vl := vl', vp := vp', vs := vs' } { m with l := some L' } := by
  have hk := kinds_log (h.log L hL).2
  refine ⟨?_, h.disk.kept hf hk (by decide) (by decide), row_kept h.ents hf hk (by decide), fun L2 hL2 => ?_⟩
  · have h1 := heap_kept h.cells hf hk (by decide)
    rw [h1]
    unfold wdCells
    rw [hL]
    rfl
  · cases hL2
    exact ⟨heap_kept (h.log L hL).1 hf hk (by decide), hl⟩
/-- The entries turn: a store of their new row. -/
theorem WdIs.entStep {w w2 : World} {p : Pl} {m : Wm} (h : WdIs w p m) (hf : Fr (fun k => p.en.ownBlock = some k) w w2) {v' : Value} {es' : List ByteArray} (he : OwnStrs w2 0 v' es') : WdIs (w2.setCell ⟨p.gw, 3, none⟩ v') { p with en := v' } { m with es := es' } := by
  have hk := kinds_row h.ents
  have hc := heap_kept h.cells hf hk (by decide)
  have hs := Fr.set1 w2 p.gw 3 v'
  have hk2 := kinds_one hc
  exact ⟨(heap_setCell hc _).trans (by simp [wdCells, plV]), (h.disk.kept hf hk (by decide) (by decide)).kept hs hk2 (by decide) (by decide), row_kept he hs hk2 (by decide),
    fun L hL => ⟨heap_kept (heap_kept (h.log L hL).1 hf hk (by decide)) hs hk2 (by decide), ((h.log L hL).2.kept hf hk (by decide) (by decide)).kept hs hk2 (by decide) (by decide)⟩⟩
set_option maxRecDepth 100000 in
set_option maxHeartbeats 4000000 in
theorem wappend_any (f : Nat → Addr) (w : World) (p : Pl) (m : Wm) (L : Lg) (s : ByteArray) (U : List Nat) (K : Nat) (h : WdIs w p m) (hG : Good m U K) (hL : m.l = some L) (hfo : m.foreign = false) (hE : EnvS f (WdS p m) w) (hU : U.length ≤ 16384) (hes : m.es.length < 1048576) :
    Calls Tryz.prog 48 #[.pointer (some ⟨p.gw, 0, none⟩), .string s] w (StepOk w p m (L.entries.length / 4 :: U) K) := by
  have hsome : m.l.isSome = true := by rw [hL]; rfl
  obtain ⟨hr, hmk, hen, hlv, hfd, hky⟩ := hG.run L hL
  obtain ⟨hpl, hlog⟩ := h.log L hL
  have hel : L.entries.length = m.es.length := by rw [hen]; simp [lists]
  obtain ⟨⟨c0, c1, c2, c3, c4, c5, c6⟩, cf⟩ := h.heads
  rw [hL] at c2
  have c2' : w.cell? ⟨p.gw, 2, none⟩ = some (.pointer (some ⟨p.gl, 0, none⟩)) := c2
  have HA := Lib.hid (pappend_any f w p.gl p.g p.gd p.ve p.vl p.vp p.vs L s hpl hlog (hE.less fun k hk => log_wd hsome hk) hlv (by omega))
  have HH := Lib.hid h
  have HG := Lib.hid hG
  have HL := Lib.hid hL
  have HFO := Lib.hid hfo
  have HEL := Lib.hid hel
  have HFD := Lib.hid hfd
  have hpgw := cell_lt c0
  have hpg : p.gw < w.heap.size := hpgw
  clear h hG hE hL hfo hr hmk hen hlv hky hpl hlog hel c2 hfd
  go_enter Tryz.func48, Tryz.ntmps48
  go_wp2_with fail
  go_at_call 12
  refine HA.out.mono ?_
  intro e w1 h1
  unfold pappPost at h1
  have hsz : s.data.toList.length = s.size := by simp
  by_cases hlong : 20 < s.data.toList.length
  · rw [if_pos hlong] at h1
    obtain ⟨rfl, hb1⟩ := h1
    have HB1 := Lib.hid hb1
    have hz : (20 : Int) < (s.size : Int) := by omega
    have H1 := Lib.hid (HH.out.below hb1)
    have hz1 := hb1.size
    clear hb1 hsz hlong c0 c1 c2' c3 c4 c5 c6 cf
    go_wp2
    go_ret
    exact ⟨rfl, p, m, rfl, rfl, H1.out.below (below_alloc w1 _), .inr ⟨HFO.out, HG.out.more _ (Nat.le_refl _)⟩, Fr.ofBelow (HB1.out.trans ((below_alloc w1 _).mono hz1)), Sub.refl _ _⟩
  · rw [if_neg hlong] at h1
    have hz : ¬ (20 : Int) < (s.size : Int) := by omega
    by_cases hfail : L.failed = true
    · rw [if_pos hfail] at h1
      obtain ⟨rfl, hb1⟩ := h1
      have HB1 := Lib.hid hb1
      have H1 := Lib.hid (HH.out.below hb1)
      have hz1 := hb1.size
      obtain ⟨⟨_, _, _, _, _, q5, _⟩, _⟩ := H1.out.heads
      have hmf : m.failed = true := by rw [← HFD.out]; exact hfail
      rw [hmf] at q5
      have hgw1 := cell_lt q5
      clear hb1 hsz hlong c0 c1 c2' c3 c4 c5 c6 cf hfail hmf
      go_wp2
      go_ret
      exact ⟨rfl, p, m, rfl, rfl, H1.out.below (below_alloc w1 _), .inr ⟨HFO.out, HG.out.more _ (Nat.le_refl _)⟩, Fr.ofBelow (HB1.out.trans ((below_alloc w1 _).mono hz1)), Sub.refl _ _⟩
    · rw [if_neg hfail] at h1
      obtain ⟨rfl, ve', vl', vs', k1, k2, k3⟩ := h1
      have hff : L.failed = false := by simpa using hfail
      have hmf : m.failed = false := by rw [← HFD.out]; exact hff
      have h1 := HH.out.logStep HL.out k1 k2
      have h2 := h1.below (below_alloc w1 (.cells #[.int .i64 0, .string ⟨#[]⟩] 29))
      obtain ⟨⟨_, _, _, q3, _, q5, _⟩, qf⟩ := h1.heads
      dsimp only at q3 q5
      rw [hmf] at q5
      have hgw1 : p.gw < w1.heap.size := cell_lt q5
      obtain ⟨ea, ec, hen⟩ := own_any HH.out.ents
      have hent := h2.ents
      dsimp only at hent
      obtain ⟨i0, hi0, hz0, hs0, hby0⟩ := info_parts info_str
      have HI := Lib.hid (⟨hi0, hz0, hs0, hby0⟩ : _ ∧ _ ∧ _ ∧ _)
      have H1 := Lib.hid h1
      have H2 := Lib.hid h2
      have K1 := Lib.hid k1
      have K2 := Lib.hid k2
      have K3 := Lib.hid k3
      have HMF := Lib.hid hmf
      obtain ⟨ln, hln⟩ : ∃ ln, ln = m.es.length := ⟨_, rfl⟩
      have HLN := Lib.hid hln
      rw [hen] at q3 hent
      rw [← hln] at q3
      have hent' : (w1.alloc (.cells #[.int .i64 0, .string ⟨#[]⟩] 29)).ownsRow 0 9 1 (.slice ea ln ec) ln (m.es.map Value.string) := by rw [hln]; exact hent
      have HENT := Lib.hid hent'
      have HEN := Lib.hid hen
      have hle : L.entries.length = ln := by rw [hln]; exact HEL.out
      have hlz : ((L.entries.length : Int) == (ln : Int)) = true := by rw [hle]; exact beq_self_eq_true _
      have hln2 : ln + 1 ≤ 1099511627776 := by omega
      have HLE := Lib.hid hle
      have hsize : w.heap.size ≤ w1.heap.size := k2.size
      have hne : ¬ p.en.ownBlock = some p.gw := fun e => by
        obtain ⟨C, hC⟩ := ownBlock_type HH.out.ents e
        exact heap_ne hC HH.out.cells (by decide) rfl
      have hnt : ¬ p.en.ownBlock = some w1.heap.size := fun e => by
        obtain ⟨C, hC⟩ := ownBlock_type HH.out.ents e
        have := lt_of_heap hC
        omega
      have HNE := Lib.hid hne
      have HNT := Lib.hid hnt
      have q3a := h2.heads.1.2.2.2.1
      have qfa := h2.heads.2
      dsimp only at q3a
      rw [HEN.out, ← HLN.out] at q3a
      have hgwa := cell_lt q3a
      clear hsz hlong hfail h1 h2 k1 k2 k3 hmf hff hen hent hent' hln hi0 hz0 hs0 hby0 hle c0 c1 c2' c3 c4 c5 c6 cf hes hne hnt
      go_wp2_with (at_builtin; go_must (refine wpList_appM rfl _ _ _ rfl 0 9 i0 _ 1 16 Tryz.underlying22 HI.out.1 HI.out.2.1 HI.out.2.2.1 HI.out.2.2.2 rfl (by decide) (by decide) (.slice ea ln ec) ln _ rfl (ownsRow_below HENT.out (below_alloc _ _)) ⟨w1.heap.size + 1, 0, none⟩ 1 1 [.string s] rfl rfl (by have := cell_one_new (w1.alloc (.cells #[.int .i64 0, .string ⟨#[]⟩] 29)) (.string s) 9; simpa using this) (by simp [Value.oneCell']) (by decide) hln2 (Nat.zero_le _) ?_; intro v' w' g2 g3 g4 g5; have G2 := Lib.hid g2; have G3 := Lib.hid (Fr.ofGrown (S := fun k => p.en.ownBlock = some k) g3 fun k _ e => by rw [HEN.out, ← HLN.out]; exact e); have G4 := Lib.hid g4; obtain ⟨gb, cpb, rfl, hgb⟩ := own_slice g2 g5; have m0 := G3.out.cell (p := ⟨p.gw, 3, none⟩) (((below_alloc (w1.alloc (.cells #[.int .i64 0, .string ⟨#[]⟩] 29)) _).cell (p := ⟨p.gw, 3, none⟩) hgwa).trans q3a) HNE.out; have m1 := (G3.out.frozen (p := ⟨p.gw, 3, none⟩) (by simp; omega) HNE.out).trans (((below_alloc (w1.alloc (.cells #[.int .i64 0, .string ⟨#[]⟩] 29)) _).frozen (p := ⟨p.gw, 3, none⟩) hgwa).trans (qfa 3)); have mt := G3.out.cell (p := ⟨w1.heap.size, 0, none⟩) (((below_alloc (w1.alloc (.cells #[.int .i64 0, .string ⟨#[]⟩] 29)) _).cell (p := ⟨w1.heap.size, 0, none⟩) (by simp)).trans (cell_heap (told_new w1) 0 rfl)) HNT.out; have hgwt : ¬ w1.heap.size = p.gw := (by omega); clear g2 g3 g4 g5))
      go_ret
      have hstep := H2.out.below (below_alloc _ (.cells #[.string s] 9))
      have hent2 : OwnStrs w' 0 (.slice (some ⟨gb, 0, none⟩) (ln + 1) cpb) (m.es ++ [s]) := by
        have := G2.out
        unfold OwnStrs
        rw [List.length_append, List.length_singleton, List.map_append, ← HLN.out]
        exact this
      have hfin := hstep.entStep G3.out hent2
      refine ⟨rfl, { p with en := .slice (some ⟨gb, 0, none⟩) (ln + 1) cpb, ve := ve', vl := vl', vs := vs' }, { m with l := some { L with entries := L.entries ++ [s.data.toList], levels := levels (L.entries ++ [s.data.toList]) }, es := m.es ++ [s] }, rfl, rfl, hfin, .inr ⟨HFO.out, good_append HG.out HL.out HMF.out (by omega)⟩, ?_, ?_⟩
      · have hb : Below w1.heap.size w1 ((w1.alloc (.cells #[.int .i64 0, .string ⟨#[]⟩] 29)).alloc (.cells #[.string s] 9)) := (below_alloc w1 _).alloc (by simp) _
        exact (K2.out.weak fun _ _ e => log_wd hsome e).trans ((Fr.ofBelow hb).trans ((G3.out.weak fun _ _ e => .inr (.inr (.inl e))).trans ((Fr.set1 w' p.gw 3 _).weak fun _ _ e => .inl e)))
      · intro i hi
        rcases hi with hi | hi | hi | ⟨_, hi | hi⟩
        · exact .inl (.inl hi)
        · exact .inl (.inr (.inl hi))
        · rcases G4.out i hi with e | e
          · exact .inl (.inr (.inr (.inl (by rw [HEN.out, ← HLN.out]; exact e))))
          · exact .inr (by simp at e; omega)
        · exact .inl (.inr (.inr (.inr ⟨hsome, .inl hi⟩)))
        · rcases K3.out i hi with e | e
          · exact .inl (log_wd hsome e)
          · exact .inr e
end Go.Proofs.YtefccfakhgdfbabGreatDoor
end

section
namespace Go.Proofs.YtefccfakhgdfbabGreatDoor
open Go.RowKit
theorem neq_str_true {a b : ByteArray} (h : a ≠ b) : (!a.toList == b.toList) = true := by rw [beq_str_false h]; rfl
theorem neq_str_false {a b : ByteArray} (h : a = b) : (!a.toList == b.toList) = false := by rw [beq_str_true h]; rfl
theorem cp_list : (⟨#[99, 104, 101, 99, 107, 112, 111, 105, 110, 116]⟩ : ByteArray) = sOf kCp := by decide
theorem cp_neq {a : ByteArray} (h : a = sOf kCp) : (!a.toList == (⟨#[99, 104, 101, 99, 107, 112, 111, 105, 110, 116]⟩ : ByteArray).toList) = false := neq_str_false (by rw [cp_list]; exact h)
theorem cp_neq' {a : ByteArray} (h : a = sOf kCp) : (!a.toList == [99, 104, 101, 99, 107, 112, 111, 105, 110, 116]) = false := by
  have := cp_neq h
  rw [show (⟨#[99, 104, 101, 99, 107, 112, 111, 105, 110, 116]⟩ : ByteArray).toList = [99, 104, 101, 99, 107, 112, 111, 105, 110, 116] by rw [ByteArray.toList_eq]] at this
  exact this
set_option maxHeartbeats 2000000 in
set_option maxRecDepth 100000 in
theorem clash_any (w : World) (va vb : Value) (l k : List Fil) (ha : FilesAt w va l) (hb : FilesAt w vb k) (hn : l.length ≤ 1099511627776) (hm : k.length ≤ 1099511627776) :
    Calls Tryz.prog 99 #[va, vb] w fun e w' => e = .returned (.bool (clashB l k)) ∧ Below w.heap.size w w' := by
  have HA := Lib.hid ha
  have HB := Lib.hid hb
  obtain ⟨a1, c1, rfl, _, hx⟩ := ha
  obtain ⟨a2, c2, rfl, _, hy⟩ := hb
  have HX := Lib.hid hx
  have HY := Lib.hid hy
  clear hx hy
  go_enter Tryz.func99, Tryz.ntmps99
  go_wp2
  go_loopg [5] k.length (fun gg s5 wr => ∃ kk : Nat, kk ≤ k.length ∧ k.length - kk ≤ gg ∧ s5 = .int .i64 kk ∧ Aside (Below w.heap.size w wr) ∧ Aside (∀ j, j < kk → ∀ y, k[j]? = some y → clashF l y.1 y.2 = false))
  case atStart =>
    refine ⟨0, Nat.zero_le _, by omega, rfl, Below.refl _ _, ?_⟩
    show ∀ j, j < 0 → _
    intro j hj
    omega
  case round =>
    obtain ⟨kk, hkk, hg, rfl, HW, HM⟩ := hrel
    by_cases hlt : kk < k.length
    · obtain ⟨x, hx⟩ : ∃ x, x = k[kk] := ⟨_, rfl⟩
      have hlx : k[kk]? = some x := by rw [hx, List.getElem?_eq_getElem hlt]
      obtain ⟨b2, off2, rfl, q1, q2⟩ := HY.out kk x hlx
      have q1 := (HW.out.cell (cell_lt q1)).trans q1
      have q2 := (HW.out.cell (cell_lt q2)).trans q2
      have hltz : (kk : Int) < (k.length : Int) := by omega
      have hk0 : (0 : Int) ≤ (kk : Int) := by omega
      have HLX := Lib.hid hlx
      have hcon := rfind_any wr _ l x.1 (HA.out.below HW.out) hn
      rcases find_cases l x.1 with ⟨h1, h2⟩ | ⟨i, b, hi, h1, h2, h3⟩
      · rw [h1] at hcon
        have HCON := Lib.hid hcon
        have HG := Lib.hid h2
        clear hx hlx hcon h1 h2
        go_wp2_with (go_at_call 59; refine HCON.out.mono ?_; rintro e w2 ⟨rfl, rfl⟩)
        have hd : decide ((-1 : Int) ≥ 0) = false := rfl
        go_quiet (fail)
        go_wp2
        go_roundg (k.length - (kk + 1))
        case measure => omega
        case rel =>
          refine ⟨kk + 1, by omega, by omega, by go_num, below_drewN HW.out _, ?_⟩
          show ∀ j, j < kk + 1 → _
          intro j hj y hy
          by_cases hjk : j = kk
          · subst hjk
            rw [HLX.out] at hy
            cases hy
            unfold clashF
            rw [HG.out]
          · exact HM.out j (by omega) y hy
      · rw [h1] at hcon
        obtain ⟨b1, off1, rfl, p1, p2⟩ := HX.out i _ h2
        have p2 := (HW.out.cell (cell_lt p2)).trans p2
        have HCON := Lib.hid hcon
        have HG := Lib.hid h3
        have hi0 : (0 : Int) ≤ (i : Int) := by omega
        have hi1 : (i : Int) < (l.length : Int) := by omega
        have hd : decide ((i : Int) ≥ 0) = true := decide_eq_true hi0
        clear hx hlx hcon h1 h2 h3 p1
        by_cases he : b = x.2
        · have e := neq_str_false he
          have HE := Lib.hid he
          clear he
          go_wp2_with (go_at_call 59; refine HCON.out.mono ?_; rintro e w2 ⟨rfl, rfl⟩)
          go_quiet (fail)
          go_wp2
          go_roundg (k.length - (kk + 1))
          case measure => omega
          case rel =>
            refine ⟨kk + 1, by omega, by omega, by go_num, below_drewN HW.out _, ?_⟩
            show ∀ j, j < kk + 1 → _
            intro j hj y hy
            by_cases hjk : j = kk
            · subst hjk
              rw [HLX.out] at hy
              cases hy
              unfold clashF
              rw [HG.out, HE.out]
              simp
            · exact HM.out j (by omega) y hy
        · have e := neq_str_true he
          have HE := Lib.hid he
          clear he
          go_wp2_with (go_at_call 59; refine HCON.out.mono ?_; rintro e w2 ⟨rfl, rfl⟩)
          go_quiet (fail)
          go_wp2
          go_ret
          refine ⟨ret_val ?_, below_drewN HW.out _⟩
          have : clashB l k = true := List.any_eq_true.2 ⟨x, List.mem_of_getElem? HLX.out, by unfold clashF; rw [HG.out]; simpa using HE.out⟩
          rw [this]
          rfl
    · have hltz : ¬ (kk : Int) < (k.length : Int) := by omega
      go_wp2
      go_ret
      refine ⟨ret_val ?_, HW.out⟩
      have : clashB l k = false := List.any_eq_false.2 fun f hf => by
        obtain ⟨j, hj⟩ := List.mem_iff_getElem?.1 hf
        have := HM.out j (by have := (List.getElem?_eq_some_iff.1 hj).1; omega) f hj
        simp [this]
      rw [this]
      rfl
set_option maxHeartbeats 2000000 in
set_option maxRecDepth 100000 in
theorem there_any (w : World) (va vb : Value) (l k : List Fil) (ha : FilesAt w va l) (hb : FilesAt w vb k) (hn : l.length ≤ 1099511627776) (hm : k.length ≤ 1099511627776) (hall : ∀ f ∈ k, getF l f.1 = some f.2) :
    Calls Tryz.prog 102 #[va, vb] w fun e w' => e = .returned (.bool true) ∧ Below w.heap.size w w' := by
  have HA := Lib.hid ha
  have HB := Lib.hid hb
  have HALL := Lib.hid hall
  obtain ⟨a1, c1, rfl, _, hx⟩ := ha
  obtain ⟨a2, c2, rfl, _, hy⟩ := hb
  have HX := Lib.hid hx
  have HY := Lib.hid hy
  clear hx hy hall
  go_enter Tryz.func102, Tryz.ntmps102
  go_wp2
  go_loopg [5] k.length (fun gg s5 wr => ∃ kk : Nat, kk ≤ k.length ∧ k.length - kk ≤ gg ∧ s5 = .int .i64 kk ∧ Aside (Below w.heap.size w wr))
  case atStart => exact ⟨0, Nat.zero_le _, by omega, rfl, Below.refl _ _⟩
  case round =>
    obtain ⟨kk, hkk, hg, rfl, HW⟩ := hrel
    by_cases hlt : kk < k.length
    · obtain ⟨x, hx⟩ : ∃ x, x = k[kk] := ⟨_, rfl⟩
      have hlx : k[kk]? = some x := by rw [hx, List.getElem?_eq_getElem hlt]
      obtain ⟨b2, off2, rfl, q1, q2⟩ := HY.out kk x hlx
      have q1 := (HW.out.cell (cell_lt q1)).trans q1
      have q2 := (HW.out.cell (cell_lt q2)).trans q2
      have hltz : (kk : Int) < (k.length : Int) := by omega
      have hk0 : (0 : Int) ≤ (kk : Int) := by omega
      have hgx := HALL.out x (List.mem_of_getElem? hlx)
      have hcon := rfind_any wr _ l x.1 (HA.out.below HW.out) hn
      rcases find_cases l x.1 with ⟨h1, h2⟩ | ⟨i, b, hi, h1, h2, h3⟩
      · rw [h2] at hgx; cases hgx
      · rw [h3] at hgx
        cases hgx
        rw [h1] at hcon
        obtain ⟨b1, off1, rfl, p1, p2⟩ := HX.out i _ h2
        have p2 := (HW.out.cell (cell_lt p2)).trans p2
        have HCON := Lib.hid hcon
        have hi0 : (0 : Int) ≤ (i : Int) := by omega
        have hi1 : (i : Int) < (l.length : Int) := by omega
        have hd : decide ((i : Int) < 0) = false := decide_eq_false (by omega)
        have e := neq_str_false (rfl : x.2 = x.2)
        clear hx hlx hcon h1 h2 h3 p1
        go_wp2_with (go_at_call 59; refine HCON.out.mono ?_; rintro e w2 ⟨rfl, rfl⟩)
        go_quiet (fail)
        go_wp2
        go_roundg (k.length - (kk + 1))
        case measure => omega
        case rel => exact ⟨kk + 1, by omega, by omega, by go_num, below_drewN HW.out _⟩
    · have hltz : ¬ (kk : Int) < (k.length : Int) := by omega
      go_wp2
      go_ret
      exact ⟨rfl, HW.out⟩
set_option maxHeartbeats 4000000 in
set_option maxRecDepth 100000 in
theorem kept_any (w : World) (va vb vc : Value) (l k W : List Fil) (c : ByteArray) (ha : FilesAt w va l) (hb : FilesAt w vb k) (hc : FilesAt w vc W) (hn : l.length ≤ 1099511627776) (hm : k.length ≤ 1099511627776) (hp : W.length ≤ 1099511627776)
    (hk : KeptP l k W c) (hol : Once l) (hok : Once k) (hoW : OneOf W) :
    Calls Tryz.prog 101 #[va, vb, vc, .string c] w fun e w' => e = .returned (.bool true) ∧ Below w.heap.size w w' := by
  have HA := Lib.hid ha
  have HB := Lib.hid hb
  have HC := Lib.hid hc
  have HK1 := Lib.hid (fun f hf => kept_old hk hol (f := f) hf)
  have HK2 := Lib.hid (fun f hf => kept_new hk hok hoW (f := f) hf)
  obtain ⟨a1, c1, rfl, _, hx⟩ := ha
  obtain ⟨a2, c2, rfl, _, hy⟩ := hb
  obtain ⟨a3, c3, rfl, _, hz⟩ := hc
  have HX := Lib.hid hx
  have HY := Lib.hid hy
  have HZ := Lib.hid hz
  clear hx hy hz hk hol hok hoW
  go_enter Tryz.func101, Tryz.ntmps101
  go_wp2
  go_loopg [9] l.length (fun gg s9 wr => ∃ kk : Nat, kk ≤ l.length ∧ l.length - kk ≤ gg ∧ s9 = .int .i64 kk ∧ Aside (Below w.heap.size w wr))
  case atStart => exact ⟨0, Nat.zero_le _, by omega, rfl, Below.refl _ _⟩
  case round =>
    obtain ⟨kk, hkk, hg, rfl, HW⟩ := hrel
    by_cases hlt : kk < l.length
    · obtain ⟨x, hx⟩ : ∃ x, x = l[kk] := ⟨_, rfl⟩
      have hlx : l[kk]? = some x := by rw [hx, List.getElem?_eq_getElem hlt]
      obtain ⟨b1, off1, rfl, q1, q2⟩ := HX.out kk x hlx
      have q1 := (HW.out.cell (cell_lt q1)).trans q1
      have q2 := (HW.out.cell (cell_lt q2)).trans q2
      have hltz : (kk : Int) < (l.length : Int) := by omega
      have hk0 : (0 : Int) ≤ (kk : Int) := by omega
      obtain ⟨b, hgb, hor⟩ := HK1.out x (List.mem_of_getElem? hlx)
      have hcon := rfind_any wr _ k x.1 (HB.out.below HW.out) hm
      rcases find_cases k x.1 with ⟨h1, h2⟩ | ⟨i, b', hi, h1, h2, h3⟩
      · rw [h2] at hgb; cases hgb
      · rw [h3] at hgb
        cases hgb
        rw [h1] at hcon
        obtain ⟨b2, off2, rfl, p1, p2⟩ := HY.out i _ h2
        have p2 := (HW.out.cell (cell_lt p2)).trans p2
        have HCON := Lib.hid hcon
        have hi0 : (0 : Int) ≤ (i : Int) := by omega
        have hi1 : (i : Int) < (k.length : Int) := by omega
        have hd : decide ((i : Int) < 0) = false := decide_eq_false (by omega)
        clear hx hlx hcon h1 h2 h3 p1
        by_cases he : b = x.2
        · have e := neq_str_false he
          clear he hor
          go_wp2_with (go_at_call 59; refine HCON.out.mono ?_; rintro e w2 ⟨rfl, rfl⟩)
          go_quiet (fail)
          go_wp2
          go_roundg (l.length - (kk + 1))
          case measure => omega
          case rel => exact ⟨kk + 1, by omega, by omega, by go_num, below_drewN HW.out _⟩
        · have e := neq_str_true he
          obtain ⟨hcp, hbc⟩ : x.1 = sOf kCp ∧ b = c := by
            rcases hor with h | h
            · exact absurd h he
            · exact h
          have e2 := neq_str_false hbc
          have e3 := cp_neq hcp
          have e4 := cp_neq' hcp
          clear he hor hcp hbc
          go_wp2_with (go_at_call 59; refine HCON.out.mono ?_; rintro e w2 ⟨rfl, rfl⟩)
          go_quiet (fail)
          go_wp2
          go_roundg (l.length - (kk + 1))
          case measure => omega
          case rel => exact ⟨kk + 1, by omega, by omega, by go_num, below_drewN HW.out _⟩
    · have hltz : ¬ (kk : Int) < (l.length : Int) := by omega
      go_wp2
      go_loopg [11] k.length (fun gg s11 wx => ∃ kk : Nat, kk ≤ k.length ∧ k.length - kk ≤ gg ∧ s11 = .int .i64 kk ∧ Aside (Below w.heap.size w wx))
      case atStart => exact ⟨0, Nat.zero_le _, by omega, rfl, HW.out⟩
      case round =>
        obtain ⟨kx, hkx, hgx, rfl, HV⟩ := hrel
        by_cases hlt : kx < k.length
        · obtain ⟨x, hx⟩ : ∃ x, x = k[kx] := ⟨_, rfl⟩
          have hlx : k[kx]? = some x := by rw [hx, List.getElem?_eq_getElem hlt]
          obtain ⟨b2, off2, rfl, q1, q2⟩ := HY.out kx x hlx
          have q1 := (HV.out.cell (cell_lt q1)).trans q1
          have q2 := (HV.out.cell (cell_lt q2)).trans q2
          have hltz : (kx : Int) < (k.length : Int) := by omega
          have hk0 : (0 : Int) ≤ (kx : Int) := by omega
          have hor := HK2.out x (List.mem_of_getElem? hlx)
          have hcon := rfind_any wr _ l x.1 (HA.out.below HV.out) hn
          have hcn2 := rfind_any wr _ W x.1 (HC.out.below HV.out) hp
          rcases find_cases l x.1 with ⟨h1, h2⟩ | ⟨i, b', hi, h1, h2, h3⟩
          · have hor : getF W x.1 = some x.2 ∨ (x.1 = sOf kCp ∧ x.2 = c) := by
              rcases hor with h | h
              · exact absurd h2 h
              · exact h
            have hd : decide ((-1 : Int) < 0) = true := rfl
            rw [h1] at hcon
            rcases find_cases W x.1 with ⟨j1, j2⟩ | ⟨i2, b3, hi2, j1, j2, j3⟩
            · obtain ⟨hcp, hbc⟩ : x.1 = sOf kCp ∧ x.2 = c := by
                rcases hor with h | h
                · rw [j2] at h; cases h
                · exact h
              rw [j1] at hcn2
              have HCON := Lib.hid hcon
              have HCN2 := Lib.hid hcn2
              have e2 := neq_str_false hbc
              have e3 := cp_neq hcp
              have e4 := cp_neq' hcp
              clear hx hlx hcon hcn2 h1 h2 j1 j2 hor hcp hbc
              go_upto_region 11 with (go_at_call 59; refine HCON.out.mono ?_; rintro e w2 ⟨rfl, rfl⟩)
              go_upto_region 12 with (go_at_call 59; refine HCN2.out.mono ?_; rintro e w2 ⟨rfl, rfl⟩)
              go_quiet (fail)
              go_wp2
              go_roundg (k.length - (kx + 1))
              case measure => omega
              case rel => exact ⟨kx + 1, by omega, by omega, by go_num, below_drewN HV.out _⟩
            · rw [j1] at hcn2
              obtain ⟨b3', off3, rfl, r1, r2⟩ := HZ.out i2 _ j2
              have r2 := (HV.out.cell (cell_lt r2)).trans r2
              have HCON := Lib.hid hcon
              have HCN2 := Lib.hid hcn2
              have hi0 : (0 : Int) ≤ (i2 : Int) := by omega
              have hi1 : (i2 : Int) < (W.length : Int) := by omega
              have hd2 : decide ((i2 : Int) < 0) = false := decide_eq_false (by omega)
              by_cases he : x.2 = b3
              · have e := neq_str_false he
                clear hx hlx hcon hcn2 h1 h2 j1 j2 j3 hor he r1
                go_upto_region 11 with (go_at_call 59; refine HCON.out.mono ?_; rintro e w2 ⟨rfl, rfl⟩)
                go_upto_region 12 with (go_at_call 59; refine HCN2.out.mono ?_; rintro e w2 ⟨rfl, rfl⟩)
                go_quiet (fail)
                go_wp2
                go_roundg (k.length - (kx + 1))
                case measure => omega
                case rel => exact ⟨kx + 1, by omega, by omega, by go_num, below_drewN HV.out _⟩
              · obtain ⟨hcp, hbc⟩ : x.1 = sOf kCp ∧ x.2 = c := by
                  rcases hor with h | h
                  · rw [j3] at h
                    cases h
                    exact absurd rfl he
                  · exact h
                have e := neq_str_true he
                have e2 := neq_str_false hbc
                have e3 := cp_neq hcp
                have e4 := cp_neq' hcp
                clear hx hlx hcon hcn2 h1 h2 j1 j2 j3 hor he r1 hcp hbc
                go_upto_region 11 with (go_at_call 59; refine HCON.out.mono ?_; rintro e w2 ⟨rfl, rfl⟩)
                go_upto_region 12 with (go_at_call 59; refine HCN2.out.mono ?_; rintro e w2 ⟨rfl, rfl⟩)
                go_quiet (fail)
                go_wp2
                go_roundg (k.length - (kx + 1))
                case measure => omega
                case rel => exact ⟨kx + 1, by omega, by omega, by go_num, below_drewN HV.out _⟩
          · rw [h1] at hcon
            have HCON := Lib.hid hcon
            have HCN2 := Lib.hid hcn2
            have hd : decide ((i : Int) < 0) = false := decide_eq_false (by omega)
            clear hx hlx hcon hcn2 h1 h2 h3 hor
            go_upto_region 11 with (go_at_call 59; refine HCON.out.mono ?_; rintro e w2 ⟨rfl, rfl⟩)
            go_upto_region 12 with (go_at_call 59; refine HCN2.out.mono ?_; rintro e w2 ⟨rfl, rfl⟩)
            go_quiet (fail)
            go_wp2
            go_roundg (k.length - (kx + 1))
            case measure => omega
            case rel => exact ⟨kx + 1, by omega, by omega, by go_num, below_drewN HV.out _⟩
        · have hltz : ¬ (kx : Int) < (k.length : Int) := by omega
          go_wp2
          go_ret
          exact ⟨rfl, HV.out⟩
end Go.Proofs.YtefccfakhgdfbabGreatDoor
end

section
namespace Go.Proofs.YtefccfakhgdfbabGreatDoor
open Go.RowKit
set_option maxRecDepth 100000 in
set_option maxHeartbeats 4000000 in
/-- A publisher that has failed. -/
theorem wpublish_dead (f : Nat → Addr) (w : World) (p : Pl) (m : Wm) (L : Lg) (U : List Nat) (K : Nat) (h : WdIs w p m) (hG : Good m U K) (hL : m.l = some L) (hfo : m.foreign = false) (hfl : L.failed = true) (hE : EnvS f (WdS p m) w) (hU : U.length ≤ 16384) (hK : K ≤ 800000000000) (hkey : m.key.size ≤ 1048600) :
    Calls Tryz.prog 49 #[.pointer (some ⟨p.gw, 0, none⟩)] w (StepOk w p m U (K + 1048576)) := by
  have hsome : m.l.isSome = true := by rw [hL]; rfl
  obtain ⟨hr, hmk, hen, hlv, hfd, hky⟩ := hG.run L hL
  have hel : L.entries.length ≤ 1048576 := by have := hr.len; omega
  have hfn : m.d.files.length ≤ 1000000000000 := by have := hG.sane.len; omega
  have HW1 := Lib.hid (wfiles_any w p m h hfn)
  have HP := Lib.hid fun (w1 : World) (hb : Below w.heap.size w w1) => ppublish_any f w1 p.gl p.g p.gd p.v p.ve p.vl p.vp p.vs m.d L ((hb.block _ (lt_of_heap (h.log L hL).1)).trans (h.log L hL).1) ((h.log L hL).2.below hb) (h.disk.below hb) ((hE.below hb).less fun k hk => both_wd hsome hk) hlv hel hr.short hmk (by have := hG.sane.calls; omega) (by have := hG.sane.len; omega) (by rw [hky]; exact hkey)
  have hmf : m.failed = true := by rw [← hfd]; exact hfl
  have HH := Lib.hid h
  have HG := Lib.hid hG
  have HFO := Lib.hid hfo
  have HFL := Lib.hid hfl
  have HLL := Lib.hid hL
  have HMF := Lib.hid hmf
  clear h hG hL hfo hfl hE hr hmk hen hlv hfd hky hel hmf
  go_enter Tryz.func49, Tryz.ntmps49
  go_upto_region 2 with (first | (go_at_call 57; refine HW1.out.mono ?_; rintro e w1 ⟨v1, l1, rfl, ho1, hp1, hb1⟩; have HO1 := Lib.hid ho1; have HP1 := Lib.hid hp1; have HB1 := Lib.hid hb1; obtain ⟨a1, cp1, rfl⟩ := own_any ho1; clear ho1 hp1 hb1) | fail)
  have h1 := HH.out.below HB1.out
  have q2 := h1.heads.1.2.2.1
  rw [HLL.out] at q2
  have q2' : w1.cell? ⟨p.gw, 2, none⟩ = some (.pointer (some ⟨p.gl, 0, none⟩)) := q2
  clear q2
  have hgw1 := cell_lt q2'
  have H1 := Lib.hid h1
  clear h1
  go_upto_region 3 with (first | (go_at_call 15; refine (HP.out w1 HB1.out).mono ?_; intro e w2 h2; unfold ppubPost at h2; rw [if_pos HFL.out] at h2; obtain ⟨rfl, hb2⟩ := h2; have HB2 := Lib.hid hb2; clear hb2) | fail)
  have hb3 : Below w1.heap.size w1 (w2.alloc (.cells #[.int .i64 7, .string ⟨#[]⟩] 29)) := HB2.out.alloc HB2.out.size _
  have h3 := H1.out.below hb3
  have HT := Lib.hid (show ToldAt' (w2.alloc (.cells #[.int .i64 7, .string ⟨#[]⟩] 29)) w2.heap.size 7 ⟨#[]⟩ from heap_alloc_new w2 _)
  have HB3 := Lib.hid hb3
  have HW3 := Lib.hid (wfiles_any _ p m h3 hfn)
  have HHI := Lib.hid (hit_any _ p.gd p.v m.d h3.disk)
  have r0 := h3.heads.1.1
  have H3 := Lib.hid h3
  obtain ⟨w3, hw3⟩ : ∃ w3, w3 = w2.alloc (.cells #[.int .i64 7, .string ⟨#[]⟩] 29) := ⟨_, rfl⟩
  rw [← hw3] at HT HB3 HW3 HHI r0 H3
  rw [← hw3]
  clear hb3 h3 hw3
  go_wp2_with (first | (go_at_call 16; refine HHI.out.mono ?_; rintro e w4 ⟨rfl, rfl⟩) | (go_at_call 57; refine HW3.out.mono ?_; rintro e w4 ⟨v4, l4, rfl, ho4, hp4, hb4⟩; have HB4 := Lib.hid hb4; obtain ⟨a4, cp4, rfl⟩ := own_any ho4; obtain ⟨t0, t1, _, _, _⟩ := (HT.out.below hb4).facts; have s5 := (H3.out.below hb4).heads.1.2.2.2.2.2.1; rw [HMF.out] at s5; have hle : ((l1.length : Int) == (l4.length : Int)) = true := (by rw [hp4.length_eq, HP1.out.length_eq]; exact beq_self_eq_true _); clear ho4 hp4 hb4) | fail)
  go_ret
  have hbe : Below w.heap.size w w4 := HB1.out.trans ((HB3.out.trans (HB4.out.mono HB3.out.size)).mono HB1.out.size)
  exact ⟨rfl, p, m, rfl, rfl, HH.out.below hbe, .inr ⟨HFO.out, HG.out.bound (by omega)⟩, Fr.ofBelow hbe, Sub.refl _ _⟩
end Go.Proofs.YtefccfakhgdfbabGreatDoor
end
