/- tileslaw.Paths answers true. -/
import Derived.Test.YtefccfakhgdfbaaDoorPPath
import Derived.Test.YtefccfakhgdfbaaDoorRPath
import Derived.Test.YtefccfakhgdfbaaDoorSameStr
namespace Go.Proofs.YtefccfakhgdfbaaDoor
open Go.RowKit
/-- What plain.Path tells, at any number. -/
def pathSaid (ss : List ByteArray) (i : Int) : Int × List Hsh := if 0 ≤ i ∧ i < ss.length then (0, pathOf (lists ss) i.toNat) else (2, [])
def partSaid (ss : List ByteArray) (m : Int) : Int × List Hsh := if 1 ≤ m ∧ m ≤ ss.length then (0, partOf m.toNat (lists ss) true) else (2, [])
theorem ppath_all (f : Nat → Addr) (v : Value) (ss : List ByteArray) (i : Int) (c : Int) (p : List Hsh) (hp : (c, p) = pathSaid ss i) (w : World) (h : StrsAt w v ss) (hS : Sents w f) (hl : ss.length ≤ 1048576) (hs : ∀ s ∈ ss, s.size ≤ 9223372036854775807) :
    Calls Tryd.prog 11 #[v, .int .i64 i] w (ProofPost c p w) := by
  unfold pathSaid at hp
  by_cases hi : 0 ≤ i ∧ i < ss.length
  · rw [if_pos hi] at hp
    cases hp
    obtain ⟨k, rfl⟩ : ∃ k : Nat, i = k := ⟨i.toNat, by omega⟩
    exact ppath_any f v ss k w h hS hl hs (by omega)
  · rw [if_neg hi] at hp
    cases hp
    exact ppath_bad f v ss i w h hS hl hs (by omega)
theorem pprove_all (f : Nat → Addr) (v : Value) (ss : List ByteArray) (m : Int) (c : Int) (p : List Hsh) (hp : (c, p) = partSaid ss m) (w : World) (h : StrsAt w v ss) (hS : Sents w f) (hl : ss.length ≤ 1048576) (hs : ∀ s ∈ ss, s.size ≤ 9223372036854775807) :
    Calls Tryd.prog 12 #[v, .int .i64 m] w (ProofPost c p w) := by
  unfold partSaid at hp
  by_cases hi : 1 ≤ m ∧ m ≤ ss.length
  · rw [if_pos hi] at hp
    cases hp
    obtain ⟨k, rfl⟩ : ∃ k : Nat, m = k := ⟨m.toNat, by omega⟩
    exact pprove_any f v ss k w h hS hl hs (by omega) (by omega)
  · rw [if_neg hi] at hp
    cases hp
    exact pprove_bad f v ss m w h hS hl hs (by omega)
theorem path_ways {ss : List ByteArray} {i c : Int} {p : List Hsh} (hp : (c, p) = pathSaid ss i) :
    (c = 2 ∧ p = [] ∧ (decide (i < 0) = true ∨ (decide (i < 0) = false ∧ decide ((ss.length : Int) ≤ i) = true))) ∨ (c = 0 ∧ decide (i < 0) = false ∧ decide ((ss.length : Int) ≤ i) = false ∧ ∃ k : Nat, i = k ∧ k < ss.length ∧ p = pathOf (lists ss) k) := by
  unfold pathSaid at hp
  by_cases hi : 0 ≤ i ∧ i < ss.length
  · rw [if_pos hi] at hp
    cases hp
    exact .inr ⟨rfl, decide_eq_false (by omega), decide_eq_false (by omega), i.toNat, by omega, by omega, rfl⟩
  · rw [if_neg hi] at hp
    cases hp
    refine .inl ⟨rfl, rfl, ?_⟩
    by_cases h0 : i < 0
    · exact .inl (decide_eq_true h0)
    · exact .inr ⟨decide_eq_false h0, decide_eq_true (by omega)⟩
theorem part_ways {ss : List ByteArray} {m c : Int} {p : List Hsh} (hp : (c, p) = partSaid ss m) :
    (c = 2 ∧ p = [] ∧ (decide (m < 1) = true ∨ (decide (m < 1) = false ∧ decide ((ss.length : Int) < m) = true))) ∨ (c = 0 ∧ decide (m < 1) = false ∧ decide ((ss.length : Int) < m) = false ∧ ∃ k : Nat, m = k ∧ 1 ≤ k ∧ k ≤ ss.length ∧ p = partOf k (lists ss) true) := by
  unfold partSaid at hp
  by_cases hi : 1 ≤ m ∧ m ≤ ss.length
  · rw [if_pos hi] at hp
    cases hp
    exact .inr ⟨rfl, decide_eq_false (by omega), decide_eq_false (by omega), m.toNat, by omega, by omega, by omega, rfl⟩
  · rw [if_neg hi] at hp
    cases hp
    refine .inl ⟨rfl, rfl, ?_⟩
    by_cases h0 : m < 1
    · exact .inl (decide_eq_true h0)
    · exact .inr ⟨decide_eq_false h0, decide_eq_true (by omega)⟩
theorem OwnStrs.below {w w' : World} {base : Nat} {v : Value} {ss : List ByteArray} (h : OwnStrs w base v ss) (hb : Below w.heap.size w w') : OwnStrs w' base v ss := ownsRow_below h hb
theorem OwnStrs.alloc {w : World} {base : Nat} {v : Value} {ss : List ByteArray} (h : OwnStrs w base v ss) (o : Obj) : OwnStrs (w.alloc o) base v ss := World.ownsRow.alloc h o
theorem owns_form {w : World} {base : Nat} {v : Value} {ss : List ByteArray} (h : OwnStrs w base v ss) : ∃ a n c, v = .slice a n c ∧ n = ss.length := by
  obtain ⟨a, c, h1, _⟩ := h.at
  exact ⟨a, _, c, h1, rfl⟩
set_option maxHeartbeats 4000000 in
set_option maxRecDepth 100000 in
theorem paths_walk (f : Nat → Addr) (v : Value) (ss : List ByteArray) (i m : Int) (w : World) (h : StrsAt w v ss) (hS : Sents w f) :
    Calls Tryd.prog 4 #[v, .int .i64 i, .int .i64 m] w fun e w' => e = .returned (.bool true) ∧ Below w.heap.size w w' := by
  obtain ⟨a, c, rfl⟩ : ∃ a c, v = .slice a ss.length c := by obtain ⟨a, c, h1, _⟩ := h; exact ⟨a, c, h1⟩
  have HH := Lib.hid h
  have HSen := Lib.hid hS
  obtain ⟨pc, pl, hp⟩ : ∃ c p, (c, p) = pathSaid ss i := ⟨(pathSaid ss i).1, (pathSaid ss i).2, rfl⟩
  obtain ⟨qc, ql, hq⟩ : ∃ c p, (c, p) = partSaid ss m := ⟨(partSaid ss m).1, (partSaid ss m).2, rfl⟩
  have hi := path_ways hp
  have hm := part_ways hq
  have HP := Lib.hid hp
  have HQ := Lib.hid hq
  have HI := Lib.hid hi
  have HM := Lib.hid hm
  clear h hS hp hq hi hm
  go_enter Tryd.func4, Tryd.ntmps4
  go_wp2_with fail
  refine (few_any _ ss _ HH.out).mono ?_
  rintro e w0 ⟨rfl, rfl⟩
  cases hf : fewB ss with
  | false =>
    go_wp2
    go_ret
    exact ⟨rfl, Below.refl _ _⟩
  | true =>
    obtain ⟨hl, hs⟩ := few_out hf
    have HS' := Lib.hid hs
    have HSZ := Lib.hid (show ∀ s ∈ ss, s.size ≤ 9223372036854775807 from fun s h => Nat.le_trans (hs s h) (by decide))
    clear hf hs
    have hl' : ss.length ≤ 1048576 := by omega
    go_wp2_with fail
    refine (ppath_all f _ ss i pc pl HP.out _ HH.out HSen.out hl' HSZ.out).mono ?_
    rintro e w1 ⟨v1, rfl, ho1, hb1⟩
    obtain ⟨a1, n1, k1, rfl, hn1⟩ := owns_form ho1
    have HN1 := Lib.hid hn1
    have A1 := hb1.alloc hb1.size (.cells #[.int .i64 pc, .string ⟨#[]⟩] 26)
    have T1 : ToldAt (w1.alloc (.cells #[.int .i64 pc, .string ⟨#[]⟩] 26)) w1.heap.size pc ⟨#[]⟩ := heap_alloc_new w1 _
    have HO1 := Lib.hid (ho1.alloc (.cells #[.int .i64 pc, .string ⟨#[]⟩] 26))
    have HA1 := Lib.hid A1
    have HT1 := Lib.hid T1
    clear ho1 hb1 A1 T1 hn1
    go_wp2_with fail
    refine (pprove_all f _ ss m qc ql HQ.out _ (HH.out.below HA1.out) (HSen.out.below HA1.out) hl' HSZ.out).mono ?_
    rintro e w2 ⟨v2, rfl, ho2, hb2⟩
    obtain ⟨a2, n2, k2, rfl, hn2⟩ := owns_form ho2
    have HN2 := Lib.hid hn2
    have hb2' := hb2.alloc hb2.size (.cells #[.int .i64 qc, .string ⟨#[]⟩] 26)
    have T2 : ToldAt (w2.alloc (.cells #[.int .i64 qc, .string ⟨#[]⟩] 26)) w2.heap.size qc ⟨#[]⟩ := heap_alloc_new w2 _
    have t1 := (HT1.out.below hb2').facts.1
    have t2 := T2.facts.1
    have HB := Lib.hid (HA1.out.trans (hb2'.mono HA1.out.size))
    have HO1' := Lib.hid (HO1.out.below hb2')
    have HO2 := Lib.hid (ho2.alloc (.cells #[.int .i64 qc, .string ⟨#[]⟩] 26))
    clear ho2 hb2 hb2' T2 hn2
    have hpl : (pl.map HS).length ≤ 1048576 := by
      rcases HI.out with ⟨_, rfl, _⟩ | ⟨_, _, _, k, _, hk, rfl⟩
      · simp
      · rw [List.length_map]; exact Nat.le_trans (pathOf_len _ _) (by simp [lists]; omega)
    have hql : (ql.map HS).length ≤ 1048576 := by
      rcases HM.out with ⟨_, rfl, _⟩ | ⟨_, _, _, k, _, _, hk, rfl⟩
      · simp
      · rw [List.length_map]; exact Nat.le_trans (partOf_len _ _ _) (by simp [lists]; omega)
    rcases HI.out with ⟨rfl, rfl, hi | ⟨hi0, hi1⟩⟩ | ⟨rfl, hi0, hi1, k, rfl, hk, rfl⟩
    · obtain rfl : n1 = 0 := HN1.out
      rcases HM.out with ⟨rfl, rfl, hm | ⟨hm0, hm1⟩⟩ | ⟨rfl, hm0, hm1, k', rfl, hk1, hk2, rfl⟩
      · obtain rfl : n2 = 0 := HN2.out
        go_wp2
        go_ret
        exact ⟨rfl, HB.out⟩
      · obtain rfl : n2 = 0 := HN2.out
        go_wp2
        go_ret
        exact ⟨rfl, HB.out⟩
      · go_wp2_with fail
        refine (rpart_any _ ss _ k' true _ (Nat.le_refl _) (HH.out.below HB.out) hl' HS'.out hk1 hk2).mono ?_
        rintro e w5 ⟨v5, rfl, ho5, hb5⟩
        have t5 := (hb5.cell (cell_lt t2)).trans t2
        have HB5 := Lib.hid (HB.out.trans (hb5.mono HB.out.size))
        have HO5 := Lib.hid ho5.at
        have HO6 := Lib.hid (HO2.out.below hb5).at
        clear t2 hb5 ho5
        go_wp2_with fail
        refine (same_any _ _ _ _ _ HO6.out HO5.out hql).mono ?_
        rintro e w6 ⟨rfl, hb6⟩
        have t6 := (hb6.cell (cell_lt t5)).trans t5
        have HB6 := Lib.hid (HB5.out.trans (hb6.mono HB5.out.size))
        rw [decide_eq_true (rfl : (partOf k' (lists ss) true).map HS = _)]
        clear t5 hb6
        go_wp2
        go_ret
        exact ⟨rfl, HB6.out⟩
    · obtain rfl : n1 = 0 := HN1.out
      rcases HM.out with ⟨rfl, rfl, hm | ⟨hm0, hm1⟩⟩ | ⟨rfl, hm0, hm1, k', rfl, hk1, hk2, rfl⟩
      · obtain rfl : n2 = 0 := HN2.out
        go_wp2
        go_ret
        exact ⟨rfl, HB.out⟩
      · obtain rfl : n2 = 0 := HN2.out
        go_wp2
        go_ret
        exact ⟨rfl, HB.out⟩
      · go_wp2_with fail
        refine (rpart_any _ ss _ k' true _ (Nat.le_refl _) (HH.out.below HB.out) hl' HS'.out hk1 hk2).mono ?_
        rintro e w5 ⟨v5, rfl, ho5, hb5⟩
        have t5 := (hb5.cell (cell_lt t2)).trans t2
        have HB5 := Lib.hid (HB.out.trans (hb5.mono HB.out.size))
        have HO5 := Lib.hid ho5.at
        have HO6 := Lib.hid (HO2.out.below hb5).at
        clear t2 hb5 ho5
        go_wp2_with fail
        refine (same_any _ _ _ _ _ HO6.out HO5.out hql).mono ?_
        rintro e w6 ⟨rfl, hb6⟩
        have t6 := (hb6.cell (cell_lt t5)).trans t5
        have HB6 := Lib.hid (HB5.out.trans (hb6.mono HB5.out.size))
        rw [decide_eq_true (rfl : (partOf k' (lists ss) true).map HS = _)]
        clear t5 hb6
        go_wp2
        go_ret
        exact ⟨rfl, HB6.out⟩
    · go_wp2_with fail
      refine (rpath_any _ ss _ k _ (Nat.le_refl _) (HH.out.below HB.out) hl' HS'.out hk).mono ?_
      rintro e w3 ⟨v3, rfl, ho3, hb3⟩
      have t3 := (hb3.cell (cell_lt t1)).trans t1
      have u3' := (hb3.cell (cell_lt t2)).trans t2
      have HB3 := Lib.hid (HB.out.trans (hb3.mono HB.out.size))
      have HO3 := Lib.hid ho3.at
      have HOp := Lib.hid (HO1'.out.below hb3).at
      have HO2' := Lib.hid (HO2.out.below hb3)
      clear t1 t2 hb3 ho3
      go_wp2_with fail
      refine (same_any _ _ _ _ _ HOp.out HO3.out hpl).mono ?_
      rintro e w4 ⟨rfl, hb4⟩
      have t1 := (hb4.cell (cell_lt t3)).trans t3
      have t2 := (hb4.cell (cell_lt u3')).trans u3'
      have HBw := Lib.hid (HB3.out.trans (hb4.mono HB3.out.size))
      have HOw := Lib.hid (HO2'.out.below hb4)
      rw [decide_eq_true (rfl : (pathOf (lists ss) k).map HS = _)]
      clear t3 u3' hb4 HB HO2
      have HB := HBw
      have HO2 := HOw
      rcases HM.out with ⟨rfl, rfl, hm | ⟨hm0, hm1⟩⟩ | ⟨rfl, hm0, hm1, k', rfl, hk1, hk2, rfl⟩
      · obtain rfl : n2 = 0 := HN2.out
        go_wp2
        go_ret
        exact ⟨rfl, HB.out⟩
      · obtain rfl : n2 = 0 := HN2.out
        go_wp2
        go_ret
        exact ⟨rfl, HB.out⟩
      · go_wp2_with fail
        refine (rpart_any _ ss _ k' true _ (Nat.le_refl _) (HH.out.below HB.out) hl' HS'.out hk1 hk2).mono ?_
        rintro e w5 ⟨v5, rfl, ho5, hb5⟩
        have t5 := (hb5.cell (cell_lt t2)).trans t2
        have HB5 := Lib.hid (HB.out.trans (hb5.mono HB.out.size))
        have HO5 := Lib.hid ho5.at
        have HO6 := Lib.hid (HO2.out.below hb5).at
        clear t2 hb5 ho5
        go_wp2_with fail
        refine (same_any _ _ _ _ _ HO6.out HO5.out hql).mono ?_
        rintro e w6 ⟨rfl, hb6⟩
        have t6 := (hb6.cell (cell_lt t5)).trans t5
        have HB6 := Lib.hid (HB5.out.trans (hb6.mono HB5.out.size))
        rw [decide_eq_true (rfl : (partOf k' (lists ss) true).map HS = _)]
        clear t5 hb6
        go_wp2
        go_ret
        exact ⟨rfl, HB6.out⟩
end Go.Proofs.YtefccfakhgdfbaaDoor
