/- The walk of tilesref.Parse. -/
import Derived.Test.YtefccfakhgdfbaaDoorRName
import Derived.Deep.DeepCutAuto
namespace Go.Proofs.YtefccfakhgdfbaaDoor
open Go.RowKit
theorem str_ne_nil {l : List UInt8} (h : l ≠ []) : (sOf l).toList.isEmpty = false := by
  rw [ByteArray.toList_eq]
  simpa using h
def fourPost (q : Four) (w : World) (e : Ending) (w' : World) : Prop :=
  e = .returned (.tuple #[.int .i64 q.1, .int .i64 q.2.1, .int .i64 q.2.2.1, .bool q.2.2.2]) ∧ Below w.heap.size w w'
theorem beginsOf_le (s p : List UInt8) : (beginsOf s p).1.length ≤ s.length := by
  unfold beginsOf
  split <;> simp
theorem numGo_le : ∀ (l : List UInt8) (a n : Nat) (r : List UInt8), numGo a l = some (n, r) → r.length ≤ l.length
  | [], a, n, r, h => by simp only [numGo, Option.some.injEq, Prod.mk.injEq] at h; rw [← h.2]; exact Nat.le_refl _
  | c :: l, a, n, r, h => by
    simp only [numGo] at h
    split at h
    · split at h
      · cases h
      · have := numGo_le l _ n r h
        simp only [List.length_cons]
        omega
    · simp only [Option.some.injEq, Prod.mk.injEq] at h; rw [← h.2]; exact Nat.le_refl _
theorem numberOf_le (l : List UInt8) : (numberOf l).2.1.length ≤ l.length := by
  unfold numberOf
  cases h : numGo 0 l with
  | none => exact Nat.le_refl _
  | some x => exact numGo_le l 0 x.1 x.2 h
set_option maxHeartbeats 4000000 in
set_option maxRecDepth 100000 in
theorem rparse_any (s : ByteArray) (w : World) (hs : s.size ≤ 9223372036854775806) :
    Calls Tryd.prog 23 #[.string s] w (fourPost (parseRef s.data.toList) w) := by
  obtain ⟨l, hl⟩ : ∃ l, l = s.data.toList := ⟨_, rfl⟩
  have hself : s = sOf l := by rw [hl, sOf_self]
  have hlen : l.length ≤ 9223372036854775806 := by rw [hl]; simpa using hs
  clear hl hs
  subst hself
  obtain ⟨q, hq⟩ : ∃ q, q = parseRef l := ⟨_, rfl⟩
  show Calls Tryd.prog 23 #[.string (sOf l)] w (fourPost (parseRef l) w)
  rw [← hq]
  have HQ := Lib.hid hq
  clear hq
  go_enter Tryd.func23, Tryd.ntmps23
  go_wp2_with fail
  refine (begins_any (sOf l) _ _).mono ?_
  rintro e w0 ⟨rfl, rfl⟩
  have h1 : (beginsOf (sOf l).data.toList (ByteArray.mk #[101, 110, 116, 114, 105, 101, 115, 47]).data.toList) = beginsOf l kE := rfl
  rw [h1]
  clear h1
  have hb1 := beginsOf_le l kE
  obtain ⟨x1, hx1⟩ : ∃ x, x = beginsOf l kE := ⟨_, rfl⟩
  rw [← hx1] at hb1 ⊢
  have HX1 := Lib.hid hx1
  clear hx1
  obtain ⟨s1, b1⟩ := x1
  simp only at hb1 ⊢
  go_upto_if 20 with fail
  go_cut [6, 7] (fun vl vs wx => ∃ (lv : Int) (t : List UInt8), vl = .int .i64 lv ∧ vs = .string (sOf t) ∧ q = refTail l lv t ∧ t.length ≤ l.length ∧ Below w.heap.size w wx)
  case first =>
    cases b1 with
    | true =>
      go_wp2_with fail
      go_meet
      refine ⟨-1, s1, rfl, rfl, ?_, hb1, Below.refl _ _⟩
      rw [HQ.out]
      unfold parseRef
      rw [← HX1.out, if_pos rfl]
    | false =>
      have hq1 : q = if (beginsOf l kT).2 = true then (if (numberOf (beginsOf l kT).1).2.2 = true then (if (beginsOf (numberOf (beginsOf l kT).1).2.1 [47]).2 = true then refTail l (numberOf (beginsOf l kT).1).1 (beginsOf (numberOf (beginsOf l kT).1).2.1 [47]).1 else noFour) else noFour) else noFour := by
        rw [HQ.out]
        unfold parseRef
        rw [← HX1.out, if_neg (by simp)]
      have HQ1 := Lib.hid hq1
      clear hq1 HX1
      go_wp2_with fail
      refine (begins_any (sOf l) _ _).mono ?_
      rintro e w0 ⟨rfl, rfl⟩
      rw [show (beginsOf (sOf l).data.toList (ByteArray.mk #[116, 105, 108, 101, 47]).data.toList) = beginsOf l kT from rfl]
      have hb2 := beginsOf_le l kT
      obtain ⟨x2, hx2⟩ : ∃ x, x = beginsOf l kT := ⟨_, rfl⟩
      rw [← hx2] at hb2 ⊢
      have hq2 := HQ1.out
      rw [← hx2] at hq2
      clear hx2 HQ1
      obtain ⟨s2, b2⟩ := x2
      simp only at hb2 hq2 ⊢
      cases b2 with
      | false =>
        rw [if_neg (by simp)] at hq2
        have HQ2 := Lib.hid hq2
        clear hq2
        go_wp2
        refine bodyPost_ret (v := .tuple #[.int .i64 0, .int .i64 0, .int .i64 0, .bool false]) (by simp [results, Tryd.results23, go_sem]) rfl ⟨?_, Below.refl _ _⟩
        rw [HQ2.out]
        rfl
      | true =>
        rw [if_pos rfl] at hq2
        have HQ2 := Lib.hid hq2
        clear hq2
        go_wp2_with fail
        refine (number_any (sOf s2) _ (by rw [sOf_size]; omega)).mono ?_
        rintro e w2 ⟨rfl, hbw2⟩
        rw [show numberOf (sOf s2).data.toList = numberOf s2 from rfl]
        have hb3 := numberOf_le s2
        obtain ⟨x3, hx3⟩ : ∃ x, x = numberOf s2 := ⟨_, rfl⟩
        have hq3 := HQ2.out
        rw [← hx3] at hb3 hq3 ⊢
        have HB2 := Lib.hid hbw2
        clear hx3 HQ2 hbw2
        obtain ⟨n3, s3, b3⟩ := x3
        simp only at hb3 hq3 ⊢
        cases b3 with
        | false =>
          rw [if_neg (by simp)] at hq3
          have HQ3 := Lib.hid hq3
          clear hq3
          go_wp2
          refine bodyPost_ret (v := .tuple #[.int .i64 0, .int .i64 0, .int .i64 0, .bool false]) (by simp [results, Tryd.results23, go_sem]) rfl ⟨?_, HB2.out⟩
          rw [HQ3.out]
          rfl
        | true =>
          rw [if_pos rfl] at hq3
          have HQ3 := Lib.hid hq3
          clear hq3
          go_wp2_with fail
          refine (begins_any (sOf s3) _ _).mono ?_
          rintro e w0 ⟨rfl, rfl⟩
          rw [show (beginsOf (sOf s3).data.toList (ByteArray.mk #[47]).data.toList) = beginsOf s3 [47] from rfl]
          have hb4 := beginsOf_le s3 [47]
          obtain ⟨x4, hx4⟩ : ∃ x, x = beginsOf s3 [47] := ⟨_, rfl⟩
          have hq4 := HQ3.out
          rw [← hx4] at hb4 hq4 ⊢
          clear hx4 HQ3
          obtain ⟨s4, b4⟩ := x4
          simp only at hb4 hq4 ⊢
          cases b4 with
          | false =>
            rw [if_neg (by simp)] at hq4
            have HQ4 := Lib.hid hq4
            clear hq4
            go_wp2
            refine bodyPost_ret (v := .tuple #[.int .i64 0, .int .i64 0, .int .i64 0, .bool false]) (by simp [results, Tryd.results23, go_sem]) rfl ⟨?_, HB2.out⟩
            rw [HQ4.out]
            rfl
          | true =>
            rw [if_pos rfl] at hq4
            have HQ4 := Lib.hid hq4
            clear hq4
            go_wp2_with fail
            go_meet
            exact ⟨n3, s4, rfl, rfl, HQ4.out, by omega, HB2.out⟩
  case rest =>
    obtain ⟨lv, t, rfl, rfl, hqt, htl, hbw⟩ := hcut
    have HB := Lib.hid hbw
    clear HQ HX1 hbw hb1
    have HQ := Lib.hid hqt
    clear hqt
    go_wp2_with fail
    refine (number_any (sOf t) _ (by rw [sOf_size]; omega)).mono ?_
    rintro e w2 ⟨rfl, hbw2⟩
    rw [show numberOf (sOf t).data.toList = numberOf t from rfl]
    have hb3 := numberOf_le t
    have hbd := numberOf_bd t
    obtain ⟨x3, hx3⟩ : ∃ x, x = numberOf t := ⟨_, rfl⟩
    have hq3 : q = refEnd l lv (numberOf t).1 (refWidth (numberOf t)) := HQ.out
    rw [← hx3] at hb3 hbd hq3 ⊢
    have HB2 := Lib.hid (HB.out.trans (hbw2.mono HB.out.size))
    clear hx3 HQ hbw2
    obtain ⟨i, s3, b3⟩ := x3
    simp only at hb3 hbd hq3 ⊢
    have HQ3 := Lib.hid hq3
    clear hq3
    go_wp2_with fail
    refine (begins_any (sOf s3) _ _).mono ?_
    rintro e w0 ⟨rfl, rfl⟩
    rw [show (beginsOf (sOf s3).data.toList (ByteArray.mk #[46, 112, 47]).data.toList) = beginsOf s3 kP from rfl]
    have hb4 := beginsOf_le s3 kP
    obtain ⟨x4, hx4⟩ : ∃ x, x = beginsOf s3 kP := ⟨_, rfl⟩
    have hq4 : q = refEnd l lv i (if b3 = true ∧ (beginsOf s3 kP).2 = true then ((numberOf (beginsOf s3 kP).1).1, (numberOf (beginsOf s3 kP).1).2) else (4, s3, b3)) := HQ3.out
    rw [← hx4] at hb4 hq4 ⊢
    clear hx4 HQ3
    obtain ⟨s4, b4⟩ := x4
    simp only at hb4 hq4 ⊢
    obtain ⟨c5, hc5⟩ : ∃ c, c = (b3 && b4) := ⟨_, rfl⟩
    have hq4' : q = refEnd l lv i (if c5 = true then ((numberOf s4).1, (numberOf s4).2) else (4, s3, b3)) := by
      rw [hq4, hc5]
      simp only [Bool.and_eq_true]
    have HQ4 := Lib.hid hq4'
    have HC5 := Lib.hid hc5
    clear hq4 hq4' hc5
    go_upto_region 16 with fail
    go_cut [57] from 54 to 57 (fun c wx => c = .bool c5 ∧ wx = w2)
    case first =>
      cases b3 with
      | false =>
        go_wp2_with fail
        go_meet
        exact ⟨by rw [HC5.out]; rfl, rfl⟩
      | true =>
        go_wp2_with fail
        go_meet
        exact ⟨by rw [HC5.out]; rfl, rfl⟩
    obtain ⟨rfl, rfl⟩ := hcut
    go_upto_if 57 with fail
    go_cut [7, 8, 10] (fun vs vb vw wx => ∃ (wd : Int) (r : List UInt8) (ok : Bool), vw = .int .i64 wd ∧ vs = .string (sOf r) ∧ vb = .bool ok ∧ q = refEnd l lv i (wd, r, ok) ∧ r.length ≤ l.length ∧ Below w.heap.size w wx)
    case first =>
      cases c5 with
      | false =>
        go_wp2_with fail
        go_meet
        refine ⟨4, s3, b3, rfl, rfl, rfl, ?_, by omega, HB2.out⟩
        rw [HQ4.out, if_neg (by simp)]
      | true =>
          go_wp2_with fail
          refine (number_any (sOf s4) _ (by rw [sOf_size]; omega)).mono ?_
          rintro e w3 ⟨rfl, hbw3⟩
          rw [show numberOf (sOf s4).data.toList = numberOf s4 from rfl]
          have hb5 := numberOf_le s4
          have hq5 := HQ4.out
          rw [if_pos trivial] at hq5
          obtain ⟨x5, hx5⟩ : ∃ x, x = numberOf s4 := ⟨_, rfl⟩
          rw [← hx5] at hb5 hq5 ⊢
          have HQ5 := Lib.hid hq5
          have HB3 := Lib.hid (HB2.out.trans (hbw3.mono HB2.out.size))
          clear hx5 HQ4 hq5 hbw3
          obtain ⟨n5, s5, b5⟩ := x5
          simp only at hb5 ⊢
          go_wp2_with fail
          go_meet
          exact ⟨n5, s5, b5, rfl, rfl, rfl, HQ5.out, by omega, HB3.out⟩
    case rest =>
      obtain ⟨wd, r, ok, rfl, rfl, rfl, hqr, hrl, hbw3⟩ := hcut
      have HB3 := Lib.hid hbw3
      have HQ5 := Lib.hid hqr
      clear HQ4 hbw3 hqr HB2
      go_wp2_with fail
      refine (rname_any lv i wd _ (by omega)).mono ?_
      rintro e w4 ⟨rfl, hbw4⟩
      have HB4 := Lib.hid (HB3.out.trans (hbw4.mono HB3.out.size))
      clear hbw4
      have hq6 := HQ5.out
      unfold refEnd at hq6
      simp only at hq6
      obtain ⟨nm, hnm⟩ : ∃ x, x = nameOf lv i wd := ⟨_, rfl⟩
      rw [← hnm] at hq6 ⊢
      clear hnm HQ5
      by_cases hgood : ok = true ∧ r = [] ∧ nm = l ∧ nm ≠ []
      · rw [if_pos hgood] at hq6
        obtain ⟨rfl, rfl, rfl, hne⟩ := hgood
        have c1 : ((sOf []).toList == (ByteArray.mk #[]).toList) = true := beq_str_true rfl
        have c2 : ((sOf nm).toList == (sOf nm).toList) = true := beq_str_true rfl
        have c3 : nm.isEmpty = false := by simpa using hne
        have HQ6 := Lib.hid hq6
        clear hq6
        go_wp2
        refine bodyPost_ret (v := .tuple #[.int .i64 lv, .int .i64 i, .int .i64 wd, .bool true]) (by simp [results, Tryd.results23, go_sem]) rfl ⟨?_, HB4.out⟩
        rw [HQ6.out]
      · rw [if_neg hgood] at hq6
        have HQ6 := Lib.hid hq6
        clear hq6
        have hway : ok = false ∨ (ok = true ∧ r ≠ []) ∨ (ok = true ∧ r = [] ∧ nm ≠ l) ∨ (ok = true ∧ r = [] ∧ nm = l ∧ nm = []) := by
          by_cases h1 : ok = true
          · by_cases h2 : r = []
            · by_cases h3 : nm = l
              · by_cases h4 : nm = []
                · exact .inr (.inr (.inr ⟨h1, h2, h3, h4⟩))
                · exact absurd ⟨h1, h2, h3, h4⟩ hgood
              · exact .inr (.inr (.inl ⟨h1, h2, h3⟩))
            · exact .inr (.inl ⟨h1, h2⟩)
          · exact .inl (by simpa using h1)
        clear hgood
        rcases hway with rfl | ⟨rfl, hr⟩ | ⟨rfl, rfl, hn⟩ | ⟨rfl, rfl, rfl, rfl⟩
        · go_wp2
          refine bodyPost_ret (v := .tuple #[.int .i64 0, .int .i64 0, .int .i64 0, .bool false]) (by simp [results, Tryd.results23, go_sem]) rfl ⟨?_, HB4.out⟩
          rw [HQ6.out]
          rfl
        · have c1 : r.isEmpty = false := by simpa using hr
          go_wp2
          refine bodyPost_ret (v := .tuple #[.int .i64 0, .int .i64 0, .int .i64 0, .bool false]) (by simp [results, Tryd.results23, go_sem]) rfl ⟨?_, HB4.out⟩
          rw [HQ6.out]
          rfl
        · have c1 : ((sOf []).toList == (ByteArray.mk #[]).toList) = true := beq_str_true rfl
          have c2 : ((sOf nm).toList == (sOf l).toList) = false := beq_str_false (fun h => hn (sOf_inj h))
          go_wp2
          refine bodyPost_ret (v := .tuple #[.int .i64 0, .int .i64 0, .int .i64 0, .bool false]) (by simp [results, Tryd.results23, go_sem]) rfl ⟨?_, HB4.out⟩
          rw [HQ6.out]
          rfl
        · have c1 : ((sOf []).toList == (ByteArray.mk #[]).toList) = true := beq_str_true rfl
          have c2 : ((sOf []).toList == (sOf []).toList) = true := beq_str_true rfl
          go_wp2
          refine bodyPost_ret (v := .tuple #[.int .i64 0, .int .i64 0, .int .i64 0, .bool false]) (by simp [results, Tryd.results23, go_sem]) rfl ⟨?_, HB4.out⟩
          rw [HQ6.out]
          rfl
end Go.Proofs.YtefccfakhgdfbaaDoor
