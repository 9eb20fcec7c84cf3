/-
  (*Log).Publish: what it has is published. Conditions: the publisher's rows are those of its entries, its marks of whole files; bounds.
-/
import Derived.Test.YtefccfakhgdfbabGreatDoorPb14
import Derived.Test.YtefccfakhgdfbabGreatDoorPb17
import Derived.Test.YtefccfakhgdfbabGreatDoorPb18
import Derived.Test.YtefccfakhgdfbabGreatDoorPb19
import Derived.Test.YtefccfakhgdfbabGreatDoorPb28
import Derived.Deep.Cut
import Derived.Handy
import Derived.StillTailTactics
set_option linter.unusedVariables false
set_option linter.unusedSimpArgs false
section
namespace Go.Proofs.YtefccfakhgdfbabGreatDoor
open Go.RowKit
theorem putsD_bd : ∀ (fs : List Fil) (d : Dk), (putsD d fs).1.calls ≤ d.calls + fs.length ∧ (putsD d fs).1.files.length ≤ d.files.length + fs.length
  | [], d => ⟨Nat.le_refl _, Nat.le_refl _⟩
  | f :: fs, d => by
      have h := putD_bd d f.1 f.2
      have h2 := putsD_bd fs (putD d f.1 f.2)
      rw [putsD]
      split
      · simp only [List.length_cons]; omega
      · simp only [List.length_cons]; omega
theorem writeJ_bd (t : Int) (row : List (List UInt8)) (j : Nat) (d : Dk) : (writeJ t row j d).1.calls ≤ d.calls + (row.length + 3) / 4 ∧ (writeJ t row j d).1.files.length ≤ d.files.length + (row.length + 3) / 4 := by
  have h := putsD_bd ((levelF t row).drop j) d
  have hl : ((levelF t row).drop j).length ≤ (row.length + 3) / 4 := by rw [List.length_drop, levelF_len]; omega
  unfold writeJ
  simp only []
  omega
def pubPost (f : Nat → Addr) (w : World) (g gd : Nat) (v ve vl vp : Value) (vs : List Value) (d : Dk) (L : Lg) (e : Ending) (w' : World) : Prop :=
  if L.failed = true then e = .returned (.tuple #[.int .i64 0, .iface 338 (.pointer (some (f 6)))]) ∧ Below w.heap.size w w'
  else ∃ v' vp' Q, Q = pubD L.entries L.key L.put d ∧ DiskAt w' gd v' Q.1 ∧ LogIs w' g gd ve vl vp' vs { L with put := Q.2.1, failed := Q.2.2.isSome } ∧ Fr (bothS g gd v ve vl vp vs) w w' ∧ Sub w (bothS g gd v ve vl vp vs) (bothS g gd v' ve vl vp' vs) ∧
    ((Q.2.2 = none ∧ e = .returned (.tuple #[.int .i64 L.entries.length, .nilIface])) ∨ ∃ p r u m, Q.2.2 = some p ∧ e = .returned (.tuple #[.int .i64 0, .iface 153 (.pointer (some ⟨r, 0, none⟩))]) ∧ w.heap.size ≤ r ∧ w.heap.size ≤ u ∧ w'.heap[u]? = some (.cells #[.int .i64 m] 366 (0, 0)) ∧
      w'.heap[r]? = some (.cells #[.string p, .iface 152 (.pointer (some ⟨u, 0, none⟩))] 155 (0, 0)))
/-- The call's own variables. -/
structure Vars (w : World) (g pl : Nat) (n : Int) (ev : Value) : Prop where
  l : w.heap[pl]? = some (.cells #[.pointer (some ⟨g, 0, none⟩)] 86 (0, 0))
  n : w.heap[pl + 1]? = some (.cells #[.int .i64 n] 3 (0, 0))
  e : w.heap[pl + 1 + 1]? = some (.cells #[ev] 88 (0, 0))
theorem Vars.below {w w' : World} {g pl : Nat} {n : Int} {ev : Value} (h : Vars w g pl n ev) (hb : Below w.heap.size w w') : Vars w' g pl n ev :=
  ⟨(hb.block _ (lt_of_heap h.l)).trans h.l, (hb.block _ (lt_of_heap h.n)).trans h.n, (hb.block _ (lt_of_heap h.e)).trans h.e⟩
theorem Vars.cells {w : World} {g pl : Nat} {n : Int} {ev : Value} (h : Vars w g pl n ev) : w.cell? ⟨pl, 0, none⟩ = some (.pointer (some ⟨g, 0, none⟩)) ∧ w.cell? ⟨pl + 1, 0, none⟩ = some (.int .i64 n) ∧ w.cell? ⟨pl + 1 + 1, 0, none⟩ = some ev ∧
    w.frozen? ⟨pl + 1, 0, none⟩ = false ∧ w.frozen? ⟨pl + 1 + 1, 0, none⟩ = false := ⟨cell_heap h.l 0 rfl, cell_heap h.n 0 rfl, cell_heap h.e 0 rfl, frozen_heap h.n 0, frozen_heap h.e 0⟩
theorem Vars.err {w : World} {g pl : Nat} {n : Int} {ev : Value} (h : Vars w g pl n ev) (x : Value) : Vars (w.setCell ⟨pl + 1 + 1, 0, none⟩ x) g pl n x :=
  ⟨heap_setCell' h.l (show pl ≠ pl + 1 + 1 by omega) _, heap_setCell' h.n (show pl + 1 ≠ pl + 1 + 1 by omega) _, (heap_setCell h.e _).trans (by simp)⟩
theorem Vars.num {w : World} {g pl : Nat} {n : Int} {ev : Value} (h : Vars w g pl n ev) (x : Int) : Vars (w.setCell ⟨pl + 1, 0, none⟩ (.int .i64 x)) g pl x ev :=
  ⟨heap_setCell' h.l (show pl ≠ pl + 1 by omega) _, (heap_setCell h.n _).trans (by simp), heap_setCell' h.e (show pl + 1 + 1 ≠ pl + 1 by omega) _⟩
/-- Between two levels: k rows have been looked at. -/
def PubSt (w : World) (g gd : Nat) (v ve vl vp : Value) (vs : List Value) (L : Lg) (d : Dk) (pl k : Nat) (wx : World) : Prop :=
  ∃ v1 vp1 d1 ps ev, Pk w (pl + 3) g gd v ve vl vp vs L v1 vp1 d1 ps wx ∧ Vars wx g pl 0 ev ∧ MarkOk (rowsOf L.entries) ps ∧ d1.calls ≤ d.calls + k * 1048576 ∧ d1.files.length ≤ d.files.length + k * 1048576 ∧
    ((ev = .nilIface ∧ pubJ 0 (rowsOf L.entries) L.put d = pubJ k ((rowsOf L.entries).drop k) ps d1) ∨
     ∃ p r u m, ev = .iface 153 (.pointer (some ⟨r, 0, none⟩)) ∧ w.heap.size ≤ r ∧ w.heap.size ≤ u ∧ wx.heap[u]? = some (.cells #[.int .i64 m] 366 (0, 0)) ∧
      wx.heap[r]? = some (.cells #[.string p, .iface 152 (.pointer (some ⟨u, 0, none⟩))] 155 (0, 0)) ∧ pubJ 0 (rowsOf L.entries) L.put d = (d1, ps, some p))
theorem pub_next {w wr w5 : World} {g gd : Nat} {v ve vl vp v1 vp1 u : Value} {vs : List Value} {L : Lg} {d d1 : Dk} {pl k : Nat} {ps : List Nat} {row : List (List UInt8)} {t : Int} (hp : Pk w (pl + 3) g gd v ve vl vp vs L v1 vp1 d1 ps wr) (hv : Vars wr g pl 0 .nilIface)
    (hm : MarkOk (rowsOf L.entries) ps) (hr : (rowsOf L.entries)[k]? = some row) (hl : row.length ≤ 1048576) (hJ : pubJ 0 (rowsOf L.entries) L.put d = pubJ k ((rowsOf L.entries).drop k) ps d1) (ht : t = (k : Int) - 1)
    (hw : writePost wr g gd v1 ve vl vp1 vs d1 { L with put := ps } t k row (.returned u) w5) (hc : d1.calls ≤ d.calls + k * 1048576) (hf : d1.files.length ≤ d.files.length + k * 1048576) (hpl : pl = w.heap.size) : PubSt w g gd v ve vl vp vs L d pl (k + 1) (w5.setCell ⟨pl + 1 + 1, 0, none⟩ u) := by
  obtain ⟨p1, q, hp1, hq, v', vp', hwk, hend⟩ := hw
  subst ht
  have hbd := writeJ_bd ((k : Int) - 1) row (p1.getD k 0 / 4) d1
  have hmk := writeJ_mark ((k : Int) - 1) row (p1.getD k 0 / 4) d1
  rw [← hq] at hbd hmk
  have hst := pubJ_step hr ps d1 hp1 hq
  have hP := hp.write hwk
  have h1 := hp.keeps hwk.fr (b := pl) (by omega) (by omega) hv.l
  have h2 := hp.keeps hwk.fr (b := pl + 1) (by omega) (by omega) hv.n
  have h3 := hp.keeps hwk.fr (b := pl + 1 + 1) (by omega) (by omega) hv.e
  have hFs := Fr.set1 w5 (pl + 1 + 1) 0 u
  have hP2 := hP.var (b := pl + 1 + 1) (by omega) (by omega) h3 (by decide) hFs
  have hV2 : Vars (w5.setCell ⟨pl + 1 + 1, 0, none⟩ u) g pl 0 u := Vars.err ⟨h1, h2, h3⟩ u
  have hM2 : MarkOk (rowsOf L.entries) (p1.set k q.2.1) := by rw [hp1]; exact hm.next hr hmk
  refine ⟨v', vp', q.1, p1.set k q.2.1, u, hP2, hV2, hM2, by omega, by omega, ?_⟩
  rcases hend with ⟨hq2, he⟩ | ⟨p, r, x, m, hq2, he, hr1, hx1, hhx, hhr⟩
  · left
    rw [hq2] at hst
    cases he
    exact ⟨rfl, by rw [hJ, hst]⟩
  · right
    rw [hq2] at hst
    cases he
    have hsz := hp.size
    exact ⟨p, r, x, m, rfl, by omega, by omega, hFs.heap hhx (by omega), hFs.heap hhr (by omega), by rw [hJ, hst]⟩
theorem vars_new (w : World) (g : Nat) : Vars (((w.alloc (.cells #[.pointer (some ⟨g, 0, none⟩)] 86)).alloc (.cells #[.int .i64 0] 3)).alloc (.cells #[.nilIface] 88)) g w.heap.size 0 .nilIface := by
  refine ⟨?_, ?_, ?_⟩
  · rw [heap_alloc_old _ _ (by simp; omega), heap_alloc_old _ _ (by simp), heap_alloc_new]
  · rw [heap_alloc_old _ _ (by simp)]
    have := heap_alloc_new (w.alloc (.cells #[.pointer (some ⟨g, 0, none⟩)] 86)) (.cells #[.int .i64 0] 3)
    simpa using this
  · have := heap_alloc_new ((w.alloc (.cells #[.pointer (some ⟨g, 0, none⟩)] 86)).alloc (.cells #[.int .i64 0] 3)) (.cells #[.nilIface] 88)
    simpa using this
/-- Behind the door of a publishing that has failed. -/
theorem pub_fail {f : Nat → Addr} {w W9 : World} {g gd : Nat} {v ve vl vp v1 vp1 : Value} {vs : List Value} {L : Lg} {d d1 : Dk} {pl r u : Nat} {m x : Int} {p : ByteArray} {ps : List Nat} (hP : Pk w (pl + 3) g gd v ve vl vp vs L v1 vp1 d1 ps W9) (hV : Vars W9 g pl x (.iface 153 (.pointer (some ⟨r, 0, none⟩))))
    (hpl : pl = w.heap.size) (hg : g < w.heap.size) (hr : w.heap.size ≤ r) (hu : w.heap.size ≤ u) (hhu : W9.heap[u]? = some (.cells #[.int .i64 m] 366 (0, 0))) (hhr : W9.heap[r]? = some (.cells #[.string p, .iface 152 (.pointer (some ⟨u, 0, none⟩))] 155 (0, 0)))
    (hfd : L.failed = false) (hQ : pubD L.entries L.key L.put d = (d1, ps, some p)) :
    pubPost f w g gd v ve vl vp vs d L (.returned (.tuple #[.int .i64 0, .iface 153 (.pointer (some ⟨r, 0, none⟩))])) ((W9.setCell ⟨pl + 1, 0, none⟩ (.int .i64 0)).setCell ⟨g, 5, none⟩ (.bool true)) ∧
      ((W9.setCell ⟨pl + 1, 0, none⟩ (.int .i64 0)).setCell ⟨g, 5, none⟩ (.bool true)).cell? ⟨pl + 1, 0, none⟩ = some (.int .i64 0) ∧ ((W9.setCell ⟨pl + 1, 0, none⟩ (.int .i64 0)).setCell ⟨g, 5, none⟩ (.bool true)).cell? ⟨pl + 1 + 1, 0, none⟩ = some (.iface 153 (.pointer (some ⟨r, 0, none⟩))) := by
  have hF1 := Fr.set1 W9 (pl + 1) 0 (.int .i64 0)
  have hP1 := hP.var (b := pl + 1) (by omega) (by omega) hV.n (by decide) hF1
  have hV1 := hV.num 0
  have hl := hP1.log.fail true
  have hF2 := hl.2
  have hF3 : Fr (bothS g gd v1 ve vl vp1 vs) (W9.setCell ⟨pl + 1, 0, none⟩ (.int .i64 0)) ((W9.setCell ⟨pl + 1, 0, none⟩ (.int .i64 0)).setCell ⟨g, 5, none⟩ (.bool true)) := hF2.weak fun k _ hk => .inr hk
  have hn := hP1.keeps hF3 (b := pl + 1) (by omega) (by omega) hV1.n
  have he := hP1.keeps hF3 (b := pl + 1 + 1) (by omega) (by omega) hV1.e
  refine ⟨?_, cell_heap hn 0 rfl, cell_heap he 0 rfl⟩
  unfold pubPost
  rw [if_neg (by rw [hfd]; decide)]
  have hFg := Fr.set1 (W9.setCell ⟨pl + 1, 0, none⟩ (.int .i64 0)) g 5 (.bool true)
  have h1 := hF1.heap hhu fun e => by subst e; rw [hV.n] at hhu; simp at hhu
  have h2 := hF1.heap hhr fun e => by subst e; rw [hV.n] at hhr; simp at hhr
  refine ⟨v1, vp1, (d1, ps, some p), hQ.symm, ?_, hl.1, Fr.sub hP1.fr hF3 hP1.subw, hP1.subw, .inr ⟨p, r, u, m, rfl, rfl, hr, hu, hFg.heap h1 (by omega), hFg.heap h2 (by omega)⟩⟩
  exact hP1.disk.fr hF2 fun k hk hS => hP1.log.apartDisk hP1.disk k hS hk
theorem pub_door_err {f : Nat → Addr} {w W9 : World} {g gd : Nat} {v ve vl vp v1 vp1 : Value} {vs : List Value} {L : Lg} {d d1 : Dk} {pl r u : Nat} {m x : Int} {p : ByteArray} {ps : List Nat} {T : Array Value} (hP : Pk w (pl + 3) g gd v ve vl vp vs L v1 vp1 d1 ps W9) (hV : Vars W9 g pl x (.iface 153 (.pointer (some ⟨r, 0, none⟩))))
    (hpl : pl = w.heap.size) (hg : g < w.heap.size) (hr : w.heap.size ≤ r) (hu : w.heap.size ≤ u) (hhu : W9.heap[u]? = some (.cells #[.int .i64 m] 366 (0, 0))) (hhr : W9.heap[r]? = some (.cells #[.string p, .iface 152 (.pointer (some ⟨u, 0, none⟩))] 155 (0, 0)))
    (hfd : L.failed = false) (hQ : pubD L.entries L.key L.put d = (d1, ps, some p)) (hT2 : T.getD 2 undef = .pointer (some ⟨pl + 1, 0, none⟩)) (hT3 : T.getD 3 undef = .pointer (some ⟨pl + 1 + 1, 0, none⟩)) :
    bodyPostD Tryz.prog Tryz.f40 (pubPost f w g gd v ve vl vp vs d L) Exit.ret { tmps := T, defers := [{ target := .fn (.func 76) #[.pointer (some ⟨pl + 1 + 1, 0, none⟩), .pointer (some ⟨pl + 1, 0, none⟩), .pointer (some ⟨pl, 0, none⟩)], args := #[] }] } W9 := by
  obtain ⟨x1, x2, x3, xf2, _⟩ := hV.cells
  have xg := hP.log.heads.1.2.2.2.2.2
  have xgf := hP.log.heads.2 5
  obtain ⟨pf1, pf2, pf3⟩ := pub_fail (f := f) hP hV hpl hg hr hu hhu hhr hfd hQ
  refine leaves_cons (f := 76) (args := #[.pointer (some ⟨pl + 1 + 1, 0, none⟩), .pointer (some ⟨pl + 1, 0, none⟩), .pointer (some ⟨pl, 0, none⟩)]) (by simp) (by simp [go_sem]) ?_
  refine (pub1_err (pl + 1 + 1) (pl + 1) pl g .returning W9 x3 x1 x2 ⟨_, rfl⟩ xf2 xg xgf (by omega)).mono ?_
  rintro e u' w'' ⟨rfl, rfl, rfl⟩
  simp only [Leaves, settle]
  refine ⟨.tuple #[.int .i64 0, .iface 153 (.pointer (some ⟨r, 0, none⟩))], ?_, pf1⟩
  have hT2' : T[2]?.getD undef = .pointer (some ⟨pl + 1, 0, none⟩) := by simpa [Array.getD_eq_getD_getElem?] using hT2
  have hT3' : T[3]?.getD undef = .pointer (some ⟨pl + 1 + 1, 0, none⟩) := by simpa [Array.getD_eq_getD_getElem?] using hT3
  simp [results, Tryz.results40, go_sem, hT2', hT3', pf2, pf3]
theorem pub_door_fine {f : Nat → Addr} {w W9 : World} {g gd : Nat} {v ve vl vp v1 vp1 : Value} {vs : List Value} {L : Lg} {d d1 : Dk} {pl : Nat} {ps : List Nat} {T : Array Value} (hP : Pk w (pl + 3) g gd v ve vl vp vs L v1 vp1 d1 ps W9) (hV : Vars W9 g pl (L.entries.length : Int) .nilIface)
    (hfd : L.failed = false) (hQ : pubD L.entries L.key L.put d = (d1, ps, none)) (hT2 : T.getD 2 undef = .pointer (some ⟨pl + 1, 0, none⟩)) (hT3 : T.getD 3 undef = .pointer (some ⟨pl + 1 + 1, 0, none⟩)) :
    bodyPostD Tryz.prog Tryz.f40 (pubPost f w g gd v ve vl vp vs d L) Exit.ret { tmps := T, defers := [{ target := .fn (.func 76) #[.pointer (some ⟨pl + 1 + 1, 0, none⟩), .pointer (some ⟨pl + 1, 0, none⟩), .pointer (some ⟨pl, 0, none⟩)], args := #[] }] } W9 := by
  obtain ⟨x1, x2, x3, _, _⟩ := hV.cells
  refine leaves_cons (f := 76) (args := #[.pointer (some ⟨pl + 1 + 1, 0, none⟩), .pointer (some ⟨pl + 1, 0, none⟩), .pointer (some ⟨pl, 0, none⟩)]) (by simp) (by simp [go_sem]) ?_
  refine (pub1_nil (pl + 1 + 1) (pl + 1) pl .returning W9 x3).mono ?_
  rintro e u' w'' ⟨rfl, rfl, rfl⟩
  simp only [Leaves, settle]
  refine ⟨.tuple #[.int .i64 L.entries.length, .nilIface], ?_, ?_⟩
  · have hT2' : T[2]?.getD undef = .pointer (some ⟨pl + 1, 0, none⟩) := by simpa [Array.getD_eq_getD_getElem?] using hT2
    have hT3' : T[3]?.getD undef = .pointer (some ⟨pl + 1 + 1, 0, none⟩) := by simpa [Array.getD_eq_getD_getElem?] using hT3
    simp [results, Tryz.results40, go_sem, hT2', hT3', x2, x3]
  · unfold pubPost
    rw [if_neg (by rw [hfd]; decide)]
    have hl := hP.log
    refine ⟨v1, vp1, (d1, ps, none), hQ.symm, hP.disk, ?_, hP.fr, hP.subw, .inl ⟨rfl, rfl⟩⟩
    have e : ({ L with put := ps, failed := false } : Lg) = { L with put := ps } := by rw [← hfd]
    show LogIs _ _ _ _ _ _ _ { L with put := ps, failed := false }
    rw [e]
    exact hl
theorem pub_bd {a b k : Nat} (h : a ≤ b + (k + 1) * 1048576) (hb : b < 900000000000) (hk : k ≤ 12) : a < 1000000000000 := by omega
theorem h9_zip2 (n : Int) (y : Hsh) : Array.foldl (fun (cs : Array Value) (x : Value × Nat) => cs.setIfInBounds (1 + x.snd) x.fst) #[.int .i64 n, .int .u8 0, .int .u8 0, .int .u8 0, .int .u8 0, .int .u8 0, .int .u8 0, .int .u8 0, .int .u8 0] (h8 y).zipIdx 0 8 = trC n y := by
  rw [h8_lit]
  simp
theorem tr_sfr (w : World) (g : Nat) (n : Int) (k : Hsh) : Fr (· = g) w (((((((((w.setCell ⟨g, 0, none⟩ (.int .i64 n)).setCell ⟨g, 1, none⟩ (u8 k[0])).setCell ⟨g, 2, none⟩ (u8 k[1])).setCell ⟨g, 3, none⟩ (u8 k[2])).setCell ⟨g, 4, none⟩ (u8 k[3])).setCell ⟨g, 5, none⟩ (u8 k[4])).setCell ⟨g, 6, none⟩ (u8 k[5])).setCell ⟨g, 7, none⟩ (u8 k[6])).setCell ⟨g, 8, none⟩ (u8 k[7])) := (((((((((Fr.set1 w g 0 (.int .i64 n)).set 1 (u8 k[0])).set 2 (u8 k[1])).set 3 (u8 k[2])).set 4 (u8 k[3])).set 5 (u8 k[4])).set 6 (u8 k[5])).set 7 (u8 k[6])).set 8 (u8 k[7]))
theorem tr_stores {w : World} {g : Nat} (h : TrAt w g 0 zero8) (n : Int) (k : Hsh) : TrAt (((((((((w.setCell ⟨g, 0, none⟩ (.int .i64 n)).setCell ⟨g, 1, none⟩ (u8 k[0])).setCell ⟨g, 2, none⟩ (u8 k[1])).setCell ⟨g, 3, none⟩ (u8 k[2])).setCell ⟨g, 4, none⟩ (u8 k[3])).setCell ⟨g, 5, none⟩ (u8 k[4])).setCell ⟨g, 6, none⟩ (u8 k[5])).setCell ⟨g, 7, none⟩ (u8 k[6])).setCell ⟨g, 8, none⟩ (u8 k[7])) g n k :=
  (heap_setCell (i := 8) (heap_setCell (i := 7) (heap_setCell (i := 6) (heap_setCell (i := 5) (heap_setCell (i := 4) (heap_setCell (i := 3) (heap_setCell (i := 2) (heap_setCell (i := 1) (heap_setCell (i := 0) h (.int .i64 n)) (u8 k[0])) (u8 k[1])) (u8 k[2])) (u8 k[3])) (u8 k[4])) (u8 k[5])) (u8 k[6])) (u8 k[7])).trans (by simp [trC, bv])
theorem run_sb (w : World) (s : ByteArray) : ∃ b c w', Sem.run Tryz.prog (convert 9 94 (.string s)) w = .ok (.slice (some ⟨b, 0, none⟩) s.size c) w' ∧ OwnBytes w' w.heap.size (.slice (some ⟨b, 0, none⟩) s.size c) s.data.toList ∧ Below w.heap.size w w' := by
  have hr := Lib.run_convert_string_bytes (P := Tryz.prog) w 9 94 5 s Tryz.underlying9 Tryz.underlying94 Tryz.underlying5
  refine ⟨_, _, _, hr, ?_, ?_⟩
  · refine .inr ⟨w.heap.size, 0, grownCap w s.size 0 5, Lib.bytesCells w 5 s, _, by simp, by have := grownCap_ge w s.size 0 5; simpa using this, Nat.le_refl _, Lib.bytesWorld_at_new w _ s, fun j y hy => ?_, ?_, .inr (Nat.le_refl _)⟩
    · have hj : j < s.size := by
        have := (List.getElem?_eq_some_iff.1 hy).1
        simpa using this
      have h2 : s.data[j]? = some y := by simpa using hy
      have h3 : s.data[j] = y := by rw [Array.getElem?_eq_getElem hj, Option.some.injEq] at h2; exact h2
      simp [Lib.bytesCells, Array.getElem?_append, hj, h3]
    · simp [Lib.bytesCells]
  · exact ⟨by simp [Lib.bytesWorld, World.freeze, World.alloc, World.drew, -World.alloc_eq, -World.drew_eq], by simp [Lib.bytesWorld, World.freeze, World.alloc, World.drew, -World.alloc_eq, -World.drew_eq], by simp [Lib.bytesWorld, World.freeze, World.alloc, World.drew, -World.alloc_eq, -World.drew_eq], by rw [Lib.bytesWorld_size]; omega, fun k hk => Lib.bytesWorld_at_old w 5 s k hk⟩
theorem eql_nils (w : World) : (binOp .eql 88 .nilIface .nilIface).run Tryz.prog w = .ok (.bool true) w := by
  have h : ∀ d : Nat, (Op.equalIn (d + 1) 88 .nilIface .nilIface).run Tryz.prog w = .ok true w := fun d => by simp [Op.equalIn, run_underlying Tryz.underlying88]
  simp only [binOp]
  simp [Op.equal, Op.maxDepth, h 9999]
theorem writePost_ret {w : World} {g gd : Nat} {v ve vl vp : Value} {vs : List Value} {d : Dk} {L : Lg} {t : Int} {n : Nat} {row : List (List UInt8)} {e : Ending} {w' : World} (h : writePost w g gd v ve vl vp vs d L t n row e w') : ∃ u, e = .returned u ∧ (u = .nilIface ∨ ∃ t x, u = .iface t x) := by
  obtain ⟨_, _, _, _, _, _, _, h⟩ := h
  rcases h with ⟨_, rfl⟩ | ⟨_, _, _, _, _, rfl, _⟩
  · exact ⟨_, rfl, .inl rfl⟩
  · exact ⟨_, rfl, .inr ⟨_, _, rfl⟩⟩
/-- The conversion of the checkpoint: named, so that the region does not try to take it first (it makes memory). -/
def cvPub : Op := .convert 9 94 (.tmp 71)
theorem cvPub_eq : Op.convert 9 94 (.tmp 71) = cvPub := rfl
section
attribute [local go_sem] cvPub h9_zip2 h8_0 h8_1 h8_2 h8_3 h8_4 h8_5 h8_6 h8_7 h8_fold h8_size
set_option maxRecDepth 100000 in
set_option maxHeartbeats 4000000 in
theorem publish_any (f : Nat → Addr) (w : World) (g gd : Nat) (v ve vl vp : Value) (vs : List Value) (d : Dk) (L : Lg) (h : LogIs w g gd ve vl vp vs L) (hD : DiskAt w gd v d) (hE : EnvS f (bothS g gd v ve vl vp vs) w) (hlv : L.levels = levels L.entries) (hn : L.entries.length ≤ 1048576)
    (hs : ∀ e ∈ L.entries, e.length ≤ 20) (hm : MarkOk (rowsOf L.entries) L.put) (hc : d.calls < 900000000000) (hfl : d.files.length < 900000000000) (hkey : L.key.size ≤ 1048600) :
    Calls Tryz.prog 40 #[.pointer (some ⟨g, 0, none⟩)] w (pubPost f w g gd v ve vl vp vs d L) := by
  have hmf : ∀ (fn : Fn) (first cap : Array Value) (w : World), (Instr.makeFunc fn first cap).run Tryz.prog w = .ok (.func fn first cap) w := fun _ _ _ _ => rfl
  have hg := lt_of_heap h.cells
  obtain ⟨_, _, _, _, _, _, s6⟩ := hE.sents.cells
  have b6 := cell_lt s6
  obtain ⟨⟨_, _, _, _, _, c5⟩, f0⟩ := h.heads
  obtain ⟨W0, hW0⟩ : ∃ W0, W0 = ((w.alloc (.cells #[.pointer (some ⟨g, 0, none⟩)] 86)).alloc (.cells #[.int .i64 0] 3)).alloc (.cells #[.nilIface] 88) := ⟨_, rfl⟩
  have hb0 : Below w.heap.size w W0 := by rw [hW0]; exact ((below_alloc w _).alloc (by simp) _).alloc (by simp; omega) _
  have hv0 : Vars W0 g w.heap.size 0 .nilIface := by rw [hW0]; exact vars_new w g
  have hp0 : Pk w W0.heap.size g gd v ve vl vp vs L v vp d L.put W0 := ⟨hD.below hb0, h.below hb0, Fr.ofBelow hb0, fun k hk => .inl hk, fun k hk => bothS_lt h hD hk, Nat.le_refl _, hb0.size⟩
  obtain ⟨pl, hpl⟩ : ∃ pl, pl = w.heap.size := ⟨_, rfl⟩
  have hszW : W0.heap.size = w.heap.size + 3 := by rw [hW0]; simp
  have hHl := hp0.log.heads
  obtain ⟨⟨_, _, _, _, _, c50⟩, _⟩ := hHl
  have hgW : g < W0.heap.size := by omega
  have s60 := (hb0.cell (p := ⟨0, 0, none⟩) b6).trans s6
  have b60 := cell_lt s60
  obtain ⟨k1, k2, k3, kf2, kf3⟩ := hv0.cells
  have HW0 := Lib.hid hW0
  have HPL := Lib.hid hpl
  have HSZ := Lib.hid hszW
  have HB0 := Lib.hid hb0
  have HFL := Lib.hid hfl
  have hpb1 := lt_of_heap hv0.l
  have hpb2 := lt_of_heap hv0.n
  have hpb3 := lt_of_heap hv0.e
  rw [← hpl] at k1 k2 k3 kf2 kf3 hpb1 hpb2 hpb3 hv0
  cases hfd : L.failed with
  | true =>
    have c50' : W0.cell? ⟨g, 5, none⟩ = some (.bool true) := by rw [← hfd]; exact c50
    clear h hD hE hW0 hpl hszW hb0 hp0 c50 c5 s6 b6 f0
    go_enter_defers Tryz.func40, Tryz.ntmps40
    go_upto_region 1 with fail
    rw [← HW0.out, ← HPL.out]
    go_wp2
    go_region
    all_goals (
      go_wp2
      have hV := ((hv0.num 0).err (.iface 338 (.pointer (some (f 6))))).below (below_drew _)
      obtain ⟨_, r2, r3, _, _⟩ := hV.cells
      have hBB : Below w.heap.size w ((W0.setCell ⟨pl + 1, 0, none⟩ (.int .i64 0)).setCell ⟨pl + 1 + 1, 0, none⟩ (.iface 338 (.pointer (some (f 6))))).drew := by
        have hp := HPL.out
        exact ((HB0.out.setCell (by show _ ≤ pl + 1; omega) _).setCell (by show _ ≤ pl + 1 + 1; omega) _).drew
      simp only [bodyPostD, Leaves]
      refine ⟨.tuple #[.int .i64 0, .iface 338 (.pointer (some (f 6)))], ?_, ?_⟩
      · simp [results, Tryz.results40, go_sem, r2, r3]
      · unfold pubPost
        rw [if_pos hfd]
        exact ⟨rfl, hBB⟩)
  | false =>
    have c50' : W0.cell? ⟨g, 5, none⟩ = some (.bool false) := by rw [← hfd]; exact c50
    have HE := Lib.hid hE
    have HP0 := Lib.hid hp0
    have HV0 := Lib.hid hv0
    have HLV := Lib.hid hlv
    have HS := Lib.hid hs
    have HM := Lib.hid hm
    have HFD := Lib.hid hfd
    clear h hD hE hlv hs hm hfd hp0 hv0 hb0 hW0 hpl hszW c50 c5 s6 b6 f0 hfl
    go_enter_defers Tryz.func40, Tryz.ntmps40
    go_upto_region 1 with fail
    rw [← HW0.out, ← HPL.out]
    obtain ⟨vse, hrowe, _⟩ := HP0.out.log.ents
    obtain ⟨ae, ce, rfl⟩ := own_any hrowe
    have ce2 := HP0.out.log.heads.1.2.2.1
    obtain ⟨ln, hln⟩ : ∃ ln, ln = L.entries.length := ⟨_, rfl⟩
    have ce2' : W0.cell? ⟨g, 2, none⟩ = some (.slice ae ln ce) := by rw [hln]; exact ce2
    have HLN := Lib.hid hln
    clear hrowe ce2 hln
    go_upto_region 4 with fail
    go_cut [] from 14 to 21 (fun wx => Aside (PubSt w g gd v (.slice ae L.entries.length ce) vl vp vs L d pl 1 wx))
    case first =>
      go_still_tail 7, (by kernel_rfl)
      change wpList _ _ _ _ _ W0.drew
      obtain ⟨W1, hW1⟩ : ∃ W1, W1 = W0.drew := ⟨_, rfl⟩
      rw [← hW1]
      have hP1 : Pk w (pl + 3) g gd v (.slice ae L.entries.length ce) vl vp vs L v vp d L.put W1 := by
        rw [hW1, show pl + 3 = W0.heap.size by rw [HSZ.out, HPL.out]]
        exact HP0.out.below (below_drew _)
      have hV1 : Vars W1 g pl 0 .nilIface := by rw [hW1]; exact HV0.out.below (below_drew _)
      clear hW1
      obtain ⟨j1, j2, j3, jf2, jf3⟩ := hV1.cells
      have jc := hP1.log.heads.1.2.2.1
      have hlen : (L.entries.map encE).length = L.entries.length := by simp
      have hwr := write_any f W1 g gd v (.slice ae L.entries.length ce) vl vp vs d { L with put := L.put } hP1.log hP1.disk (HE.out.step hP1.fr hP1.subw) (-1) 0 (by decide) (by decide) (by show L.put.length ≤ _; have := HM.out.1; rw [rowsOf_len] at this; have := nLev_small hn; omega) (L.entries.map encE) (by rw [hlen]; exact hn)
        (fun a ha => HM.out.2 0 a _ ha (rowsOf_zero _)) (fun x hx => by obtain ⟨e, he, rfl⟩ := List.mem_map.1 hx; have := HS.out e he; simp only [encE, List.length_cons]; omega) (by omega) (by have := HFL.out; omega)
        78 pl (enters_of Tryz.func78 (by kernel_rfl) rfl) (fun w1 vp1 ps hl hfr j hj => by
          rw [hlen] at hj ⊢
          exact pub2_any w1 g gd _ vl vp1 vs { L with put := ps } hl pl (hfr.cell j1 (hP1.out (b := pl) (by rw [HPL.out]; exact Nat.le_refl _) (by omega))) j hj hn HS.out)
      rw [hlen] at hwr
      have HWR := Lib.hid hwr
      have HP1 := Lib.hid hP1
      have HV1 := Lib.hid hV1
      clear hwr hlen hP1 hV1
      go_wp2_with fail
      refine HWR.out.mono ?_
      rintro e w5 hw5
      obtain ⟨u, rfl, hu⟩ := writePost_ret hw5
      have HST := Lib.hid (pub_next (k := 0) HP1.out HV1.out HM.out (rowsOf_zero _) (by rw [List.length_map]; exact hn) rfl (by decide) hw5 (by omega) (by omega) HPL.out)
      obtain ⟨jz, hjz⟩ : ∃ c, w5.cell? ⟨pl + 1 + 1, 0, none⟩ = some c ∧ w5.frozen? ⟨pl + 1 + 1, 0, none⟩ = false := by
        obtain ⟨_, _, _, _, _, _, hwk, _⟩ := hw5
        have h3 := HP1.out.keeps hwk.fr (b := pl + 1 + 1) (by rw [HPL.out]; omega) (by omega) HV1.out.e
        exact ⟨_, cell_heap h3 0 rfl, frozen_heap h3 0⟩
      obtain ⟨jz1, jz2⟩ := hjz
      clear hw5
      rcases hu with rfl | ⟨tu, xu, rfl⟩
      · go_wp2_with fail
        go_meet
        exact HST.out
      · go_wp2_with fail
        go_meet
        exact HST.out
    case rest =>
      have HST0 := hcut
      clear hcut k1 k2 k3 kf2 kf3 c50' s60 ce2'
      go_wp2_with fail
      go_loopg [4] (nLev L.entries.length + 2) (fun gg s4 wr => ∃ k : Nat, k ≤ nLev L.entries.length ∧ nLev L.entries.length + 1 - k ≤ gg ∧ s4 = .int .i64 k ∧ Aside (PubSt w g gd v (.slice ae L.entries.length ce) vl vp vs L d pl (k + 1) wr))
      case atStart => exact ⟨0, by omega, by omega, rfl, HST0⟩
      case round =>
        obtain ⟨k, hk, hgg, rfl, HST⟩ := hrel
        obtain ⟨v1, vp1, d1, ps, ev, hP, hV, hM, hdc, hdf, hend⟩ := HST.out
        have HP := Lib.hid hP
        have HV := Lib.hid hV
        have HM2 := Lib.hid hM
        obtain ⟨j1, j2, j3, jf2, jf3⟩ := hV.cells
        have jc3 := hP.log.heads.1.2.2.2.1
        have jg := lt_of_heap hP.log.cells
        obtain ⟨al, cl, hvl⟩ : ∃ al cl, vl = .slice al L.levels.length cl := own_any hP.log.rows
        obtain ⟨nl, hnl⟩ : ∃ nl, nl = L.levels.length := ⟨_, rfl⟩
        have hnl2 : nl = nLev L.entries.length := by rw [hnl, HLV.out]; simp [levels]
        rw [hvl, ← hnl] at jc3
        have HVL := Lib.hid hvl
        have HNL := Lib.hid hnl
        have HNL2 := Lib.hid hnl2
        have hpb1 := lt_of_heap hV.l
        have hpb2 := lt_of_heap hV.n
        have hpb3 := lt_of_heap hV.e
        clear hP hV hM hvl hnl hnl2 HST0 HST
        rcases hend with ⟨rfl, hJ⟩ | ⟨p, r, u, m, rfl, hr, hu, hhu, hhr, hJ⟩
        · have hee := eql_nils wr
          have HJ := Lib.hid hJ
          clear hJ
          by_cases hlt : k < nl
          · have hltz : (k : Int) < (nl : Int) := by omega
            have hkl : k < L.levels.length := by have := HNL.out; omega
            have hvsl : vs.length = L.levels.length := by simpa using HP.out.log.rows.1
            obtain ⟨r, hr⟩ : ∃ r, L.levels[k]? = some r := ⟨_, List.getElem?_eq_getElem hkl⟩
            obtain ⟨vk, hvk⟩ : ∃ vk, vs[k]? = some vk := ⟨_, List.getElem?_eq_getElem (by omega)⟩
            have hown := HP.out.log.each k vk r hvk hr
            obtain ⟨ak, ck, rfl⟩ := own_any hown
            obtain ⟨bl, rfl⟩ : ∃ bl, al = some ⟨bl, 0, none⟩ := by
              rcases HP.out.log.rows.2 with ⟨_, h0⟩ | ⟨b, cap, cur, e, _⟩
              · have h00 : L.levels.length = 0 := h0
                omega
              · rw [HVL.out] at e; simp at e; exact ⟨b, e.1⟩
            have jbl : wr.cell? ⟨bl, k, none⟩ = some (.slice ak r.length ck) := by
              have hrw := HP.out.log.rows
              rw [HVL.out] at hrw
              have h1 := hrw.cells (g := bl) rfl k _ hvk
              rw [Addr.add_lit] at h1
              simpa using h1
            have hlr : L.levels[k]? = some (levelRow L.entries k) := by
              rw [HLV.out]
              unfold levels
              rw [List.getElem?_map, List.getElem?_range (by have := HNL2.out; omega)]
              rfl
            have hre : r = levelRow L.entries k := by rw [hr] at hlr; exact Option.some.inj hlr
            obtain ⟨row, hrow⟩ : ∃ row, row = r.map fun (x : Hsh) => x.toList := ⟨_, rfl⟩
            have hrowl : row.length = r.length := by rw [hrow]; simp
            have hrr : (rowsOf L.entries)[k + 1]? = some row := by rw [rowsOf_succ L.entries k (by have := HNL2.out; omega), hrow, hre]
            have hrl : r.length ≤ 1048576 := by rw [hre, levelRow_len]; have := Nat.div_le_self L.entries.length (4 ^ k); omega
            have hk0 : (0 : Int) ≤ (k : Int) := by omega
            have HRR := Lib.hid hrr
            have HROW := Lib.hid hrow
            have HRL := Lib.hid hrowl
            have HR0 := Lib.hid hr
            have HVK := Lib.hid hvk
            clear hkl hvsl hr hvk hown hlr hre hrow hrowl hrr
            go_wp2_with fail
            obtain ⟨W2, hW2⟩ : ∃ W2, W2 = wr.alloc (.cells #[.slice ak r.length ck] 104) := ⟨_, rfl⟩
            rw [← hW2]
            have hb2 : Below wr.heap.size wr W2 := by rw [hW2]; exact below_alloc _ _
            have hph : W2.heap[wr.heap.size]? = some (.cells #[.slice ak r.length ck] 104 (0, 0)) := by rw [hW2]; exact heap_alloc_new _ _
            have hP2 := HP.out.below hb2
            have hV2 := HV.out.below hb2
            have hkb : k ≤ 12 := by have := nLev_small hn; omega
            have hpout : ¬ bothS g gd v1 (.slice ae L.entries.length ce) vl vp1 vs wr.heap.size := fun hk' => by
              have := bothS_lt HP.out.log HP.out.disk hk'
              omega
            have hwr := write_any f W2 g gd v1 (.slice ae L.entries.length ce) vl vp1 vs d1 { L with put := ps } hP2.log hP2.disk (HE.out.step hP2.fr hP2.subw) (k : Int) (k + 1) (by omega) (by omega) (by show ps.length ≤ _; have := HM2.out.1; rw [rowsOf_len] at this; have := nLev_small hn; omega) row (by rw [HRL.out]; exact hrl)
              (fun a ha => HM2.out.2 (k + 1) a row ha HRR.out) (fun x hx => by rw [HROW.out] at hx; obtain ⟨e, he, rfl⟩ := List.mem_map.1 hx; simp) (pub_bd hdc hc hkb) (pub_bd hdf (by have := HFL.out; exact this) hkb)
              80 wr.heap.size (enters_of Tryz.func80 (by kernel_rfl) rfl) (fun w1 vp1' ps' hl hfr j hj => by
                have hcw : w1.cell? ⟨wr.heap.size, 0, none⟩ = some (.slice ak r.length ck) := cell_heap (hfr.heap hph hpout) 0 rfl
                have hp3 := pub3_any w1 wr.heap.size _ r hcw (hl.each k _ r HVK.out HR0.out) j (by rw [← HRL.out]; exact hj) hrl
                rw [← HROW.out, ← HRL.out] at hp3
                exact hp3)
            rw [HRL.out] at hwr
            refine hwr.mono ?_
            rintro e w5 hw5
            obtain ⟨u, rfl, hu⟩ := writePost_ret hw5
            have HST5 := Lib.hid (pub_next (k := k + 1) hP2 hV2 HM2.out HRR.out (by rw [HRL.out]; exact hrl) HJ.out (by omega) hw5 hdc hdf HPL.out)
            obtain ⟨jz1, jz2⟩ : (∃ c, w5.cell? ⟨pl + 1 + 1, 0, none⟩ = some c) ∧ w5.frozen? ⟨pl + 1 + 1, 0, none⟩ = false := by
              obtain ⟨_, _, _, _, _, _, hwk, _⟩ := hw5
              have h3 := hP2.keeps hwk.fr (b := pl + 1 + 1) (by rw [HPL.out]; omega) (by omega) hV2.e
              exact ⟨⟨_, cell_heap h3 0 rfl⟩, frozen_heap h3 0⟩
            obtain ⟨jc0, jz1⟩ := jz1
            clear hw5 hwr hP2 hV2 hph hW2 hb2 hpout
            rcases hu with rfl | ⟨tu, xu, rfl⟩
            · go_wp2_with fail
              go_roundg (nLev L.entries.length + 1 - (k + 1))
              case measure => have := HNL2.out; omega
              case rel => exact ⟨k + 1, by have := HNL2.out; omega, by omega, by go_num, HST5.out⟩
            · go_wp2_with fail
              go_roundg (nLev L.entries.length + 1 - (k + 1))
              case measure => have := HNL2.out; omega
              case rel => exact ⟨k + 1, by have := HNL2.out; omega, by omega, by go_num, HST5.out⟩
          · have hltz : ¬ (k : Int) < (nl : Int) := by omega
            have hfin : pubJ 0 (rowsOf L.entries) L.put d = (d1, ps, none) := by
              rw [HJ.out, pubJ_out]
              rw [rowsOf_len]
              have := HNL2.out
              omega
            have HFIN := Lib.hid hfin
            have hnn := neq_nils wr
            have jc2 := HP.out.log.heads.1.2.2.1
            have hbs0 := HP.out.log.ents.at
            clear hfin
            obtain ⟨ln, hln⟩ : ∃ ln, ln = L.entries.length := ⟨_, rfl⟩
            have hlnb : ln ≤ 1048576 := by omega
            have jc2' : wr.cell? ⟨g, 2, none⟩ = some (.slice ae ln ce) := by rw [hln]; exact jc2
            have hbs1 : BssAt wr (.slice ae ln ce) L.entries := by rw [hln]; exact hbs0
            have HBS := Lib.hid hbs1
            have HLN := Lib.hid hln
            have hbs : ∀ l ∈ L.entries, l.length ≤ 9223372036854775807 := fun l hl => by have := HS.out l hl; omega
            have HBL := Lib.hid hbs
            clear hln jc2 hbs hbs0 hbs1
            go_upto_region 12 with fail
            go_cut [6] from 51 to 61 (fun s6 wx => ∃ q6, s6 = .pointer (some ⟨q6, 0, none⟩) ∧ Aside (TrAt wx q6 ln (rootOf L.entries)) ∧ Aside (Below wr.heap.size wr wx) ∧ wr.heap.size ≤ q6)
            case first =>
              have hne1 : ¬ pl = wr.heap.size := by omega
              have j1d : wr.drew.cell? ⟨pl, 0, none⟩ = some (.pointer (some ⟨g, 0, none⟩)) := j1
              have j2d : wr.drew.cell? ⟨g, 2, none⟩ = some (.slice ae ln ce) := jc2'
              have ja1 : (wr.alloc (.cells #[.int .i64 0, .int .u8 0, .int .u8 0, .int .u8 0, .int .u8 0, .int .u8 0, .int .u8 0, .int .u8 0, .int .u8 0] 111)).drew.cell? ⟨pl, 0, none⟩ = some (.pointer (some ⟨g, 0, none⟩)) := ((below_alloc wr _).cell (p := ⟨pl, 0, none⟩) hpb1).trans j1
              have ja2 : (wr.alloc (.cells #[.int .i64 0, .int .u8 0, .int .u8 0, .int .u8 0, .int .u8 0, .int .u8 0, .int .u8 0, .int .u8 0, .int .u8 0] 111)).drew.cell? ⟨g, 2, none⟩ = some (.slice ae ln ce) := ((below_alloc wr _).cell (p := ⟨g, 2, none⟩) jg).trans jc2'
              have hne2 : ¬ g = wr.heap.size := by omega
              go_region_held3 (fun w' => w'.cell? ⟨pl, 0, none⟩ = some (.pointer (some ⟨g, 0, none⟩)) ∧ w'.cell? ⟨g, 2, none⟩ = some (.slice ae ln ce)) (first | with_reducible exact ⟨j1d, j2d⟩ | with_reducible exact ⟨m1, m2⟩ | with_reducible exact ⟨ja1, ja2⟩ | with_reducible exact ⟨mz1, mz2⟩ | with_reducible exact ⟨(tr_sfr w7 _ _ _).cell m1 hne1, (tr_sfr w7 _ _ _).cell m2 hne2⟩ | exact ⟨((below_alloc w7 _).cell (p := ⟨pl, 0, none⟩) mb1).trans m1, ((below_alloc w7 _).cell (p := ⟨g, 2, none⟩) mb2).trans m2⟩) (first | (go_at_call 69; refine (troot_any _ L.entries _ (HBS.out.below (below_drew wr)) hn HBL.out).mono ?_; rintro e w7 ⟨rfl, hb7⟩; have HB7 := Lib.hid (show Below wr.heap.size wr w7 from (below_drew wr).trans hb7); have m1 := (HB7.out.cell (p := ⟨pl, 0, none⟩) hpb1).trans j1; have m2 := (HB7.out.cell (p := ⟨g, 2, none⟩) jg).trans jc2'; have mb1 := Nat.lt_of_lt_of_le hpb1 HB7.out.size; have mb2 := Nat.lt_of_lt_of_le jg HB7.out.size; have mz1 : (w7.alloc (.cells #[.int .i64 0, .int .u8 0, .int .u8 0, .int .u8 0, .int .u8 0, .int .u8 0, .int .u8 0, .int .u8 0, .int .u8 0] 111)).cell? ⟨pl, 0, none⟩ = some (.pointer (some ⟨g, 0, none⟩)) := ((below_alloc w7 _).cell (p := ⟨pl, 0, none⟩) mb1).trans m1; have mz2 : (w7.alloc (.cells #[.int .i64 0, .int .u8 0, .int .u8 0, .int .u8 0, .int .u8 0, .int .u8 0, .int .u8 0, .int .u8 0, .int .u8 0] 111)).cell? ⟨g, 2, none⟩ = some (.slice ae ln ce) := ((below_alloc w7 _).cell (p := ⟨g, 2, none⟩) mb2).trans m2; clear hb7) | (go_at_call 69; refine (troot_any _ L.entries _ ((HBS.out.below (below_drew wr)).below (below_alloc _ _)) hn HBL.out).mono ?_; rintro e w7 ⟨rfl, hb7⟩; have HB7 := Lib.hid (show Below wr.heap.size wr w7 from ((below_drew wr).alloc (Nat.le_refl _) _).trans (hb7.mono (by simp))); have m1 := (HB7.out.cell (p := ⟨pl, 0, none⟩) hpb1).trans j1; have m2 := (HB7.out.cell (p := ⟨g, 2, none⟩) jg).trans jc2'; have mb1 := Nat.lt_of_lt_of_le hpb1 HB7.out.size; have mb2 := Nat.lt_of_lt_of_le jg HB7.out.size; have mz1 : (w7.alloc (.cells #[.int .i64 0, .int .u8 0, .int .u8 0, .int .u8 0, .int .u8 0, .int .u8 0, .int .u8 0, .int .u8 0, .int .u8 0] 111)).cell? ⟨pl, 0, none⟩ = some (.pointer (some ⟨g, 0, none⟩)) := ((below_alloc w7 _).cell (p := ⟨pl, 0, none⟩) mb1).trans m1; have mz2 : (w7.alloc (.cells #[.int .i64 0, .int .u8 0, .int .u8 0, .int .u8 0, .int .u8 0, .int .u8 0, .int .u8 0, .int .u8 0, .int .u8 0] 111)).cell? ⟨g, 2, none⟩ = some (.slice ae ln ce) := ((below_alloc w7 _).cell (p := ⟨g, 2, none⟩) mb2).trans m2; have HT7 := Lib.hid (TrAt.below (show TrAt (wr.drew.alloc (.cells (trC 0 zero8) 111)) wr.heap.size 0 zero8 from heap_alloc_new wr.drew _) hb7); have ⟨n0, n1, n2, n3, n4, n5, n6, n7, n8⟩ := HT7.out.cells; have nf := (fun i => frozen_heap HT7.out i : ∀ i, w7.frozen? ⟨wr.heap.size, i, none⟩ = false); have nb := lt_of_heap HT7.out; clear hb7))
              all_goals (
                go_wp2_with fail
                go_meet
                show ∃ q6, _ ∧ Aside (TrAt _ q6 ln (rootOf L.entries)) ∧ Aside (Below wr.heap.size wr _) ∧ wr.heap.size ≤ q6
                first
                  | (refine ⟨w7.heap.size, rfl, ?_, ?_, HB7.out.size⟩
                     · show TrAt _ _ _ _
                       generalize rootOf L.entries = rt
                       exact heap_alloc_new w7 _
                     · show Below _ _ _
                       exact HB7.out.alloc HB7.out.size _)
                  | (refine ⟨wr.heap.size, rfl, ?_, ?_, Nat.le_refl _⟩
                     · show TrAt _ _ _ _
                       generalize rootOf L.entries = rt
                       exact tr_stores HT7.out ln rt
                     · show Below _ _ _
                       generalize rootOf L.entries = rt
                       exact HB7.out.trans ((tr_sfr w7 wr.heap.size ln rt).below HB7.out.size fun k hk e => by omega)))
            case rest =>
              obtain ⟨q6, rfl, HT6, HB6, hq6⟩ := hcut
              have hP6 := HP.out.below HB6.out
              have hV6 := HV.out.below HB6.out
              obtain ⟨rt, hrt⟩ : ∃ rt, rt = rootOf L.entries := ⟨_, rfl⟩
              have hT6 : TrAt wc q6 ln rt := by rw [hrt]; exact HT6.out
              have hPd := hP6.below (below_drew wc)
              have hVd := hV6.below (below_drew wc)
              have hTd := hT6.below (below_drew wc)
              obtain ⟨cp, hcp⟩ : ∃ cp, cp = cpOf L.entries L.key := ⟨_, rfl⟩
              have hsg := fsign_any ln rt L.key wc.drew (by omega) hkey (HE.out.step hPd.fr hPd.subw).num
              rw [show sOf (signOf ln rt L.key.data.toList) = cp by rw [hcp, hrt, HLN.out]; rfl] at hsg
              have hdout : ∀ k, dkS gd v1 k → k < wr.heap.size := fun k hk => bothS_lt HP.out.log HP.out.disk (.inl hk)
              have hdplo : ¬ dkS gd v1 pl := fun hk => HP.out.out (b := pl) (by have := HPL.out; omega) (by omega) (.inl hk)
              have hc12 := pub_bd hdc hc (by have := nLev_small hn; have := HNL2.out; omega)
              have hf12 := pub_bd hdf HFL.out (by have := nLev_small hn; have := HNL2.out; omega)
              have HSG := Lib.hid hsg
              have HPD := Lib.hid hPd
              have HVD := Lib.hid hVd
              have HTD := Lib.hid hTd
              have HDO := Lib.hid hdout
              have HDP := Lib.hid hdplo
              have HCP := Lib.hid hcp
              have hpl0 : w.heap.size ≤ pl := by rw [HPL.out]; exact Nat.le_refl _
              have hpl1 : w.heap.size ≤ pl + 1 := Nat.le_succ_of_le hpl0
              have hpl2 : w.heap.size ≤ pl + 1 + 1 := Nat.le_succ_of_le hpl1
              have hpl3 : pl < pl + 3 := by omega
              have hpl4 : pl + 1 < pl + 3 := by omega
              have hpl5 : pl + 1 + 1 < pl + 3 := by omega
              have hq6n : ¬ dkS gd v1 q6 := fun hk => by have := HDO.out q6 hk; omega
              have za := (hVd).cells.1
              have zb := (hPd.log).heads.1.1
              have zc := (hPd.log).heads.1.2.1
              have ⟨z0, z1, z2, z3, z4, z5, z6, z7, z8⟩ := (hTd).cells
              clear hP6 hV6 hT6 hPd hVd hTd hcp hrt hsg hdout hdplo
              go_upto_region 13 with fail
              go_cut [7] from 62 to 75 (fun s7 wx => ∃ v2, Aside (Pk w (pl + 3) g gd v (.slice ae L.entries.length ce) vl vp vs L v2 vp1 (swapD d1 (sOf kCp) cp) ps wx) ∧ Aside (Vars wx g pl 0 .nilIface) ∧ wx.cell? ⟨q6, 0, none⟩ = some (.int .i64 ln) ∧ Aside (∃ bs, w.heap.size ≤ bs ∧ MayErr wx bs (decide (0 < enterK d1)) s7))
              case first =>
                rw [cvPub_eq]
                go_region_held3 (fun w' => w'.cell? ⟨pl, 0, none⟩ = some (.pointer (some ⟨g, 0, none⟩)) ∧ w'.cell? ⟨g, 0, none⟩ = some (.iface 25 (.pointer (some ⟨gd, 0, none⟩))) ∧ w'.cell? ⟨g, 1, none⟩ = some (.string L.key) ∧ w'.cell? ⟨q6, 0, none⟩ = some (.int .i64 ln) ∧ w'.cell? ⟨q6, 1, none⟩ = some (bv rt[0]) ∧ w'.cell? ⟨q6, 2, none⟩ = some (bv rt[1]) ∧ w'.cell? ⟨q6, 3, none⟩ = some (bv rt[2]) ∧ w'.cell? ⟨q6, 4, none⟩ = some (bv rt[3]) ∧ w'.cell? ⟨q6, 5, none⟩ = some (bv rt[4]) ∧ w'.cell? ⟨q6, 6, none⟩ = some (bv rt[5]) ∧ w'.cell? ⟨q6, 7, none⟩ = some (bv rt[6]) ∧ w'.cell? ⟨q6, 8, none⟩ = some (bv rt[7])) (first | with_reducible exact ⟨za, zb, zc, z0, z1, z2, z3, z4, z5, z6, z7, z8⟩ | with_reducible exact ⟨ya, yb, yc, y0, y1, y2, y3, y4, y5, y6, y7, y8⟩ | with_reducible exact ⟨xa, xb, xc, x0, x1, x2, x3, x4, x5, x6, x7, x8⟩ | with_reducible exact ⟨va, vb, vc, v0, v1', v2', v3', v4', v5', v6', v7', v8'⟩) (first | (go_at_call 81; refine HSG.out.mono ?_; rintro e w7 ⟨rfl, hb7⟩; have HP7 := Lib.hid (HPD.out.below hb7); have HV7 := Lib.hid (HVD.out.below hb7); have HT7 := Lib.hid (HTD.out.below hb7); have ya := (HV7.out).cells.1; have yb := (HP7.out.log).heads.1.1; have yc := (HP7.out.log).heads.1.2.1; have ⟨y0, y1, y2, y3, y4, y5, y6, y7, y8⟩ := (HT7.out).cells; obtain ⟨b8, c8, w8, hcv, hob, hb8⟩ := run_sb w7 cp; have HP8 := Lib.hid (HP7.out.below hb8); have HV8 := Lib.hid (HV7.out.below hb8); have HT8 := Lib.hid (HT7.out.below hb8); have HOB := Lib.hid hob; have xa := (HV8.out).cells.1; have xb := (HP8.out.log).heads.1.1; have xc := (HP8.out.log).heads.1.2.1; have ⟨x0, x1, x2, x3, x4, x5, x6, x7, x8⟩ := (HT8.out).cells; clear hb7 hb8 hob) | (go_at_call 251; refine (swap_any w8 gd v1 d1 HP8.out.disk (sOf kCp) _ _ HOB.out.at (Nat.lt_trans hc12 (by decide)) (Nat.lt_trans hf12 (by decide))).mono ?_; rintro e w9 ⟨u, rfl, hme, v2, hd9, hf9, hm9⟩; rw [show (ByteArray.mk cp.data.toList.toArray) = cp from sOf_self cp] at hd9; have HME := Lib.hid hme; have HP9 := Lib.hid (HP8.out.write (HP8.out.wk.put hd9 hf9 hm9 (Nat.le_refl _))); have HV9 := Lib.hid (⟨hf9.heap HV8.out.l (fun hk => HP8.out.out (b := pl) hpl0 hpl3 (.inl hk)), hf9.heap HV8.out.n (fun hk => HP8.out.out (b := pl + 1) hpl1 hpl4 (.inl hk)), hf9.heap HV8.out.e (fun hk => HP8.out.out (b := pl + 1 + 1) hpl2 hpl5 (.inl hk))⟩ : Vars w9 g pl 0 .nilIface); have HT9 := Lib.hid (show TrAt w9 q6 ln rt from hf9.heap HT8.out hq6n); have HF9 := Lib.hid hf9; have va := HV9.out.cells.1; have vb := HP9.out.log.heads.1.1; have vc := HP9.out.log.heads.1.2.1; have ⟨v0, v1', v2', v3', v4', v5', v6', v7', v8'⟩ := HT9.out.cells; clear hme hd9 hf9 hm9))
                all_goals (
                  go_wp2_with fail
                  go_meet
                  have hw8 : w.heap.size ≤ w8.heap.size := HP8.out.fr.size
                  exact ⟨v2, HP9.out, HV9.out, v0, ⟨w8.heap.size, hw8, HME.out⟩⟩)
              case rest =>
                obtain ⟨v2, HPA, HVA, hq60, HMA⟩ := hcut
                have hma := HMA.out
                obtain ⟨bs, hbs, hma⟩ := hma
                obtain ⟨y1, y2, y3, yf2, yf3⟩ := HVA.out.cells
                have hqb := cell_lt hq60
                have ya := lt_of_heap HVA.out.l
                have yb := lt_of_heap HVA.out.n
                have yc := lt_of_heap HVA.out.e
                clear HMA
                rcases Nat.eq_zero_or_pos (enterK d1) with h0 | h0
                · have hu7 : u7 = .nilIface := by
                    unfold MayErr at hma
                    rw [if_neg (by simp [h0])] at hma
                    exact hma
                  subst hu7
                  have hnn7 := neq_nils wc
                  clear hma
                  go_wp2_with fail
                  have hW1 := (HPA.out.var (b := pl + 1) hpl1 hpl4 HVA.out.n (by decide) (Fr.set1 wc (pl + 1) 0 (.int .i64 ln))).var (b := pl + 1 + 1) hpl2 hpl5 (HVA.out.num ln).e (by decide) (Fr.set1 (wc.setCell ⟨pl + 1, 0, none⟩ (.int .i64 ln)) (pl + 1 + 1) 0 .nilIface)
                  have hVW := (HVA.out.num ln).err .nilIface
                  have hQ : pubD L.entries L.key L.put d = (swapD d1 (sOf kCp) cp, ps, none) := by
                    unfold pubD
                    rw [HFIN.out, HCP.out]
                    simp [h0]
                  have hVW2 : Vars ((wc.setCell ⟨pl + 1, 0, none⟩ (.int .i64 ln)).setCell ⟨pl + 1 + 1, 0, none⟩ .nilIface) g pl (L.entries.length : Int) .nilIface := by
                    have e : (L.entries.length : Int) = (ln : Int) := by rw [HLN.out]
                    rw [e]
                    exact hVW
                  exact pub_door_fine hW1 hVW2 HFD.out hQ rfl rfl
                · have hme : OwnErr wc bs u7 := by
                    unfold MayErr at hma
                    rw [if_pos (by simpa using h0)] at hma
                    exact hma
                  obtain ⟨q, nn, rfl, hq, hh⟩ := hme
                  have hnn7 := neq_nil wc 152 (.pointer (some ⟨q, 0, none⟩))
                  have HH := Lib.hid hh
                  clear hma hh
                  go_wp2_with (go_at_call 65; refine (at_any _ _ _ _).mono ?_; rintro e wA ⟨u, rfl, ⟨r, rfl, hr, hhr⟩, hbA⟩; have HR := Lib.hid hhr; have HBA := Lib.hid hbA; have HPB := Lib.hid (HPA.out.below hbA); have HVB := Lib.hid (HVA.out.below hbA); have ⟨t1, t2, t3, tf2, tf3⟩ := HVB.out.cells; clear hhr hbA)
                  have hW1 := (HPB.out.var (b := pl + 1) hpl1 hpl4 HVB.out.n (by decide) (Fr.set1 wA (pl + 1) 0 (.int .i64 0))).var (b := pl + 1 + 1) hpl2 hpl5 (HVB.out.num 0).e (by decide) (Fr.set1 (wA.setCell ⟨pl + 1, 0, none⟩ (.int .i64 0)) (pl + 1 + 1) 0 (.iface 153 (.pointer (some ⟨r, 0, none⟩))))
                  have hVW := (HVB.out.num 0).err (.iface 153 (.pointer (some ⟨r, 0, none⟩)))
                  have hQ : pubD L.entries L.key L.put d = (swapD d1 (sOf kCp) cp, ps, some (sOf kCp)) := by
                    unfold pubD
                    rw [HFIN.out, HCP.out]
                    simp [h0]
                  have hhA : wA.heap[q]? = some (.cells #[.int .i64 nn] 366 (0, 0)) := (HBA.out.block _ (lt_of_heap HH.out)).trans HH.out
                  have hrA : wA.heap[r]? = some (.cells #[.string (sOf kCp), .iface 152 (.pointer (some ⟨q, 0, none⟩))] 155 (0, 0)) := HR.out
                  have hh1 := (Fr.set1 wA (pl + 1) 0 (.int .i64 0)).heap hhA fun e => by subst e; have := HVB.out.n; rw [hhA] at this; simp at this
                  have hh2 := (Fr.set1 (wA.setCell ⟨pl + 1, 0, none⟩ (.int .i64 0)) (pl + 1 + 1) 0 (.iface 153 (.pointer (some ⟨r, 0, none⟩)))).heap hh1 fun e => by subst e; have := HVB.out.e; rw [hhA] at this; simp at this
                  have hr1 := (Fr.set1 wA (pl + 1) 0 (.int .i64 0)).heap hrA fun e => by subst e; have := HVB.out.n; rw [hrA] at this; simp at this
                  have hr2 := (Fr.set1 (wA.setCell ⟨pl + 1, 0, none⟩ (.int .i64 0)) (pl + 1 + 1) 0 (.iface 153 (.pointer (some ⟨r, 0, none⟩)))).heap hr1 fun e => by subst e; have := HVB.out.e; rw [hrA] at this; simp at this
                  have hwc : w.heap.size ≤ wc.heap.size := HPA.out.fr.size
                  exact pub_door_err hW1 hVW HPL.out hg (Nat.le_trans hwc hr) (Nat.le_trans hbs hq) hh2 hr2 HFD.out hQ rfl rfl
        · have hee := eql_nil wr 153 (.pointer (some ⟨r, 0, none⟩))
          have hne := neq_nil wr 153 (.pointer (some ⟨r, 0, none⟩))
          have HJ := Lib.hid hJ
          have HU := Lib.hid hhu
          have HR := Lib.hid hhr
          clear hJ hhu hhr
          by_cases hlt : k < nl
          · have hltz : (k : Int) < (nl : Int) := by omega
            go_upto_region 11 with fail
            go_region
            all_goals (
              go_wp2
              have hW1 := ((HP.out.var (b := pl + 1) (by have := HPL.out; omega) (by omega) HV.out.n (by decide) (Fr.set1 wr (pl + 1) 0 (.int .i64 0))).var (b := pl + 1 + 1) (by have := HPL.out; omega) (by omega) (HV.out.num 0).e (by decide) (Fr.set1 (wr.setCell ⟨pl + 1, 0, none⟩ (.int .i64 0)) (pl + 1 + 1) 0 (.iface 153 (.pointer (some ⟨r, 0, none⟩))))).below (below_drew _)
              have hVW := ((HV.out.num 0).err (.iface 153 (.pointer (some ⟨r, 0, none⟩)))).below (below_drew _)
              have hh1 := (Fr.set1 wr (pl + 1) 0 (.int .i64 0)).heap HU.out fun e => by subst e; have := HV.out.n; rw [HU.out] at this; simp at this
              have hh2 := (Fr.set1 (wr.setCell ⟨pl + 1, 0, none⟩ (.int .i64 0)) (pl + 1 + 1) 0 (.iface 153 (.pointer (some ⟨r, 0, none⟩)))).heap hh1 fun e => by subst e; have := HV.out.e; rw [HU.out] at this; simp at this
              have hr1 := (Fr.set1 wr (pl + 1) 0 (.int .i64 0)).heap HR.out fun e => by subst e; have := HV.out.n; rw [HR.out] at this; simp at this
              have hr2 := (Fr.set1 (wr.setCell ⟨pl + 1, 0, none⟩ (.int .i64 0)) (pl + 1 + 1) 0 (.iface 153 (.pointer (some ⟨r, 0, none⟩)))).heap hr1 fun e => by subst e; have := HV.out.e; rw [HR.out] at this; simp at this
              exact pub_door_err hW1 hVW HPL.out hg hr hu hh2 hr2 HFD.out (by unfold pubD; rw [HJ.out]) rfl rfl)
          · have hltz : ¬ (k : Int) < (nl : Int) := by omega
            go_upto_region 11 with fail
            go_region
            all_goals (
              go_wp2
              have hW1 := ((HP.out.var (b := pl + 1) (by have := HPL.out; omega) (by omega) HV.out.n (by decide) (Fr.set1 wr (pl + 1) 0 (.int .i64 0))).var (b := pl + 1 + 1) (by have := HPL.out; omega) (by omega) (HV.out.num 0).e (by decide) (Fr.set1 (wr.setCell ⟨pl + 1, 0, none⟩ (.int .i64 0)) (pl + 1 + 1) 0 (.iface 153 (.pointer (some ⟨r, 0, none⟩))))).below (below_drew _)
              have hVW := ((HV.out.num 0).err (.iface 153 (.pointer (some ⟨r, 0, none⟩)))).below (below_drew _)
              have hh1 := (Fr.set1 wr (pl + 1) 0 (.int .i64 0)).heap HU.out fun e => by subst e; have := HV.out.n; rw [HU.out] at this; simp at this
              have hh2 := (Fr.set1 (wr.setCell ⟨pl + 1, 0, none⟩ (.int .i64 0)) (pl + 1 + 1) 0 (.iface 153 (.pointer (some ⟨r, 0, none⟩)))).heap hh1 fun e => by subst e; have := HV.out.e; rw [HU.out] at this; simp at this
              have hr1 := (Fr.set1 wr (pl + 1) 0 (.int .i64 0)).heap HR.out fun e => by subst e; have := HV.out.n; rw [HR.out] at this; simp at this
              have hr2 := (Fr.set1 (wr.setCell ⟨pl + 1, 0, none⟩ (.int .i64 0)) (pl + 1 + 1) 0 (.iface 153 (.pointer (some ⟨r, 0, none⟩)))).heap hr1 fun e => by subst e; have := HV.out.e; rw [HR.out] at this; simp at this
              exact pub_door_err hW1 hVW HPL.out hg hr hu hh2 hr2 HFD.out (by unfold pubD; rw [HJ.out]) rfl rfl)
end
end Go.Proofs.YtefccfakhgdfbabGreatDoor
end
