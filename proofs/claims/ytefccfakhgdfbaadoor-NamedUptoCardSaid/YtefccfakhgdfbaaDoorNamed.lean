/- tileslaw.Named answers true. -/
import Derived.Test.YtefccfakhgdfbaaDoorFParse
namespace Go.Proofs.YtefccfakhgdfbaaDoor
open Go.RowKit
abbrev fourV (q : Four) : Value := .agg #[.int .i64 q.1, .int .i64 q.2.1, .int .i64 q.2.2.1, .bool q.2.2.2]
abbrev fourCells (q : Four) : Array Value := #[.int .i64 q.1, .int .i64 q.2.1, .int .i64 q.2.2.1, .bool q.2.2.2]
/-- A variable that holds what Parse answers. -/
def FourAt (w : World) (g : Nat) (q : Four) : Prop := w.heap[g]? = some (.cells (fourCells q) 40 (0, 0))
theorem FourAt.below {w w' : World} {g : Nat} {q : Four} (h : FourAt w g q) (hb : Below w.heap.size w w') : FourAt w' g q := (hb.block g (lt_of_heap h)).trans h
theorem FourAt.facts {w : World} {g : Nat} {a b c : Int} {d : Bool} (h : FourAt w g (a, b, c, d)) : w.cell? ⟨g, 0, none⟩ = some (.int .i64 a) ∧ w.cell? ⟨g, 1, none⟩ = some (.int .i64 b) ∧ w.cell? ⟨g, 2, none⟩ = some (.int .i64 c) ∧ w.cell? ⟨g, 3, none⟩ = some (.bool d) ∧
    w.frozen? ⟨g, 0, none⟩ = false ∧ w.frozen? ⟨g, 1, none⟩ = false ∧ w.frozen? ⟨g, 2, none⟩ = false ∧ w.frozen? ⟨g, 3, none⟩ = false ∧ g < w.heap.size := by
  unfold FourAt at h
  exact ⟨by simp [World.cell?, h], by simp [World.cell?, h], by simp [World.cell?, h], by simp [World.cell?, h], by simp [World.frozen?, h], by simp [World.frozen?, h], by simp [World.frozen?, h], by simp [World.frozen?, h], lt_of_heap h⟩
set_option maxHeartbeats 1000000 in
set_option maxRecDepth 100000 in
theorem pparse_any (s : ByteArray) (w : World) (hs : s.size ≤ 1048576) (h : NumEnv w) :
    Calls Tryd.prog 22 #[.string s] w fun e w' => e = .returned (fourV (parseGo s.data.toList)) ∧ Below w.heap.size w w' := by
  obtain ⟨q, hq⟩ : ∃ q, q = parseGo s.data.toList := ⟨_, rfl⟩
  rw [← hq]
  have HQ := Lib.hid hq
  have b0 := below_alloc w (.cells #[.int .i64 0, .int .i64 0, .int .i64 0, .bool false] 40)
  have HE := Lib.hid (h.below b0)
  have B0 := Lib.hid b0
  clear h hq b0
  go_enter Tryd.func22, Tryd.ntmps22
  go_wp2_with fail
  refine (tparse_any s _ hs HE.out).mono ?_
  rintro e w1 ⟨rfl, hb⟩
  rw [← HQ.out]
  obtain ⟨t0, t1, t2, t3, f0, f1, f2, f3, hlt⟩ := (FourAt.below (q := (0, 0, 0, false)) (heap_alloc_new w _) hb).facts
  have HB := Lib.hid (B0.out.trans (hb.mono (by simp)))
  clear hb
  obtain ⟨a, b, c, d⟩ := q
  go_wp2
  refine bodyPost_ret (v := fourV (a, b, c, d)) (by simp [results, Tryd.results22, go_sem, t0, t1, t2, t3]) rfl ⟨rfl, ?_⟩
  exact (((HB.out.setCell (Nat.le_refl _) _).setCell (Nat.le_refl _) _).setCell (Nat.le_refl _) _).setCell (Nat.le_refl _) _
theorem nameOf_len (l i wd : Int) (hi : i < 9223372036854775808) : (nameOf l i wd).length ≤ 100 := by
  unfold nameOf
  split
  · rename_i h
    obtain ⟨h1, h2, h3, h4, h5⟩ := h
    have e1 := dec_len19 (n := l.toNat) (by omega)
    have e2 := dec_len19 (n := i.toNat) (by omega)
    have e3 := dec_len19 (n := wd.toNat) (by omega)
    unfold nameBody
    split <;> split <;> simp [kT, kE, kP] <;> omega
  · simp
set_option maxHeartbeats 4000000 in
set_option maxRecDepth 100000 in
theorem named_walk (l i wd : Int) (s : ByteArray) (w : World) (hi : i < 9223372036854775808) (hs : s.size ≤ 1048576) (h : NumEnv w) :
    Calls Tryd.prog 7 #[.int .i64 l, .int .i64 i, .int .i64 wd, .string s] w fun e w' => e = .returned (.bool true) ∧ Below w.heap.size w w' := by
  have hway := parse_name l i wd hi
  obtain ⟨nm, hnm⟩ : ∃ x, x = nameOf l i wd := ⟨_, rfl⟩
  rw [← hnm] at hway
  have hnl : nm.length ≤ 100 := by
    rw [hnm]
    exact nameOf_len l i wd hi
  have HW := Lib.hid hway
  have HN := Lib.hid hnm
  have HE := Lib.hid h
  clear hway hnm h
  go_enter Tryd.func7, Tryd.ntmps7
  go_wp2_with fail
  refine (pname_any l i wd _ hi HE.out).mono ?_
  rintro e w1 ⟨rfl, hb1⟩
  rw [← HN.out]
  have HB1 := Lib.hid hb1
  have HE1 := Lib.hid (HE.out.below hb1)
  clear hb1
  go_wp2_with fail
  refine (rname_any l i wd _ hi).mono ?_
  rintro e w2 ⟨rfl, hb2⟩
  rw [← HN.out]
  have HB2 := Lib.hid (HB1.out.trans (hb2.mono HB1.out.size))
  have HE2 := Lib.hid (HE1.out.below hb2)
  clear hb2
  go_wp2_with fail
  refine (pparse_any s _ hs HE2.out).mono ?_
  rintro e w3 ⟨rfl, hb3⟩
  obtain ⟨p, hp⟩ : ∃ x, x = parseGo s.data.toList := ⟨_, rfl⟩
  rw [← hp]
  have HP := Lib.hid hp
  clear hp
  obtain ⟨pl, pi, pw, pk⟩ := p
  have b3 := hb3.alloc hb3.size (.cells (fourCells (pl, pi, pw, pk)) 40)
  have T3 : FourAt (w3.alloc (.cells (fourCells (pl, pi, pw, pk)) 40)) w3.heap.size (pl, pi, pw, pk) := heap_alloc_new w3 _
  have HT3 := Lib.hid T3
  have HB3 := Lib.hid (HB2.out.trans (b3.mono HB2.out.size))
  have HE3 := Lib.hid (HE2.out.below b3)
  clear hb3 b3 T3
  go_wp2_with fail
  refine (rparse_any s _ (by omega)).mono ?_
  rintro e w4 ⟨rfl, hb4⟩
  rw [← parse_same, ← HP.out]
  have HT4 := Lib.hid (HT3.out.below hb4)
  have HB4 := Lib.hid (HB3.out.trans (hb4.mono HB3.out.size))
  have HE4 := Lib.hid (HE3.out.below hb4)
  clear hb4
  go_wp2_with fail
  refine (pparse_any (sOf nm) _ (by rw [sOf_size]; omega) HE4.out).mono ?_
  rintro e w5 ⟨rfl, hb5⟩
  rw [show parseGo (sOf nm).data.toList = parseGo nm from rfl]
  obtain ⟨q, hq⟩ : ∃ x, x = parseGo nm := ⟨_, rfl⟩
  rw [← hq]
  have HQ := Lib.hid hq
  clear hq
  obtain ⟨ql, qi, qw, qk⟩ := q
  have b5 := hb5.alloc hb5.size (.cells (fourCells (ql, qi, qw, qk)) 40)
  have T5 : FourAt (w5.alloc (.cells (fourCells (ql, qi, qw, qk)) 40)) w5.heap.size (ql, qi, qw, qk) := heap_alloc_new w5 _
  have HB5 := Lib.hid (HB4.out.trans (b5.mono HB4.out.size))
  obtain ⟨t0, t1, t2, t3, _, _, _, _, _⟩ := (HT4.out.below b5).facts
  obtain ⟨s0, s1, s2, s3, _, _, _, _, _⟩ := T5.facts
  clear hb5 b5 T5
  have n1 : (nm == nm) = true := by simp
  by_cases hok : nameOk l i wd
  · have hw := HW.out
    rw [if_pos hok] at hw
    obtain ⟨hne, hpq⟩ := hw
    rw [← HQ.out] at hpq
    simp only [Prod.mk.injEq] at hpq
    obtain ⟨rfl, rfl, rfl, rfl⟩ := hpq
    have n2 : nm.isEmpty = false := by simpa using hne
    clear hok
    go_wp2
    go_ret
    exact ⟨rfl, HB5.out⟩
  · have hw := HW.out
    rw [if_neg hok] at hw
    subst hw
    have hpq := HQ.out
    rw [parse_none] at hpq
    simp only [noFour, Prod.mk.injEq] at hpq
    obtain ⟨rfl, rfl, rfl, rfl⟩ := hpq
    clear hok
    go_wp2
    go_ret
    exact ⟨rfl, HB5.out⟩
end Go.Proofs.YtefccfakhgdfbaaDoor
