/- The walk of files.Parse, tiles.Parse, plain.Parse. -/
import Derived.Test.YtefccfakhgdfbaaDoorFName
import Derived.Test.YtefccfakhgdfbaaDoorRParse
import Derived.Test.YtefccfakhgdfbaaDoorOf
namespace Go.Proofs.YtefccfakhgdfbaaDoor
open Go.RowKit
theorem cut_le (s p : List UInt8) : (Lib.cut s p).1.length ≤ s.length ∧ (Lib.cut s p).2.1.length ≤ s.length := by
  unfold Lib.cut
  split
  · simp; omega
  · simp
theorem cut_none {s p : List UInt8} (h : (Lib.cut s p).2.2 = false) : (Lib.cut s p).1 = s := by
  unfold Lib.cut at *
  split at h
  · simp at h
  · rename_i hn; rw [if_neg hn]
theorem trimPrefix_le (s p : List UInt8) : (Lib.trimPrefix s p).length ≤ s.length := by
  unfold Lib.trimPrefix
  split <;> simp
theorem atoi_any (s : ByteArray) (w : World) (hs : s.size ≤ 1048576) (h : NumEnv w) :
    Calls Tryd.prog 87 #[.string s] w fun e w' => ∃ v ev, e = .returned (.tuple #[.int .i64 v, ev]) ∧ ((atoiO s.data.toList = some v ∧ ev = .nilIface) ∨ (atoiO s.data.toList = none ∧ ∃ T p, ev = .iface T p)) ∧ Below w.heap.size w w' := by
  obtain ⟨_, _, ⟨e1, h1, h1'⟩, ⟨e2, h2, h2'⟩⟩ := h
  cases hr : Lib.atoiAll s.data.toList with
  | ok v =>
    refine (Tryd.strconv_Atoi_ok s (by omega) v hr w).mono ?_
    rintro e w' ⟨rfl, hw⟩
    refine ⟨v, .nilIface, rfl, .inl ⟨by unfold atoiO; rw [hr], rfl⟩, ?_⟩
    rcases hw with rfl | ⟨t, rfl⟩
    · exact Below.refl _ _
    · exact Lib.bytesWorld_below _ _ _
  | range =>
    refine (Tryd.strconv_Atoi_range s (by omega) hr e2 w h2 h2').mono ?_
    rintro e w' ⟨N, rfl, _, _, hb⟩
    exact ⟨_, _, rfl, .inr ⟨by unfold atoiO; rw [hr], _, _, rfl⟩, hb⟩
  | _ =>
    refine (Tryd.strconv_Atoi_syntax s (by omega) hr e1 w h1 h1').mono ?_
    rintro e w' ⟨N, rfl, _, _, hb⟩
    exact ⟨_, _, rfl, .inr ⟨by unfold atoiO; rw [hr], _, _, rfl⟩, hb⟩
theorem scut_any (s sep : ByteArray) (w : World) (hs : s.size ≤ 1048576) (h : NumEnv w) :
    Calls Tryd.prog 88 #[.string s, .string sep] w fun e w' => e = .returned (.tuple #[.string (sOf (Lib.cut s.data.toList sep.data.toList).1), .string (sOf (Lib.cut s.data.toList sep.data.toList).2.1), .bool (Lib.cut s.data.toList sep.data.toList).2.2]) ∧ Below w.heap.size w w' := by
  obtain ⟨m, hm⟩ := h.most
  refine (Tryd.strings_Cut s sep m w (by omega) hm).mono ?_
  rintro e w' ⟨rfl, n, rfl⟩
  exact ⟨rfl, below_drewN (Below.refl _ _) _⟩
theorem prefix_any (l p : List UInt8) (w : World) :
    Calls Tryd.prog 85 #[.string (sOf l), .string (sOf p)] w fun e w' => e = .returned (.tuple #[.string (sOf (Lib.trimPrefix l p)), .bool (Lib.hasPrefix l p)]) ∧ w = w' := by
  refine (Tryd.strings_CutPrefix (sOf l) (sOf p) w).mono ?_
  rintro e w' ⟨rfl, rfl⟩
  exact ⟨rfl, rfl⟩
set_option maxHeartbeats 1000000 in
set_option maxRecDepth 100000 in
theorem fcut_any (s sep : ByteArray) (ok : Bool) (w : World) (hs : s.size ≤ 1048576) (h : NumEnv w) :
    Calls Tryd.prog 86 #[.string s, .string sep, .bool ok] w fun e w' => e = .returned (.tuple #[.string (sOf (Lib.cut s.data.toList sep.data.toList).1), .string (sOf (Lib.cut s.data.toList sep.data.toList).2.1), .bool (ok && (Lib.cut s.data.toList sep.data.toList).2.2)]) ∧ Below w.heap.size w w' := by
  have HE := Lib.hid h
  obtain ⟨c, hc⟩ : ∃ c, c = Lib.cut s.data.toList sep.data.toList := ⟨_, rfl⟩
  rw [← hc]
  have HC := Lib.hid hc
  clear h hc
  go_enter Tryd.func86, Tryd.ntmps86
  go_wp2_with fail
  refine (scut_any s sep _ hs HE.out).mono ?_
  rintro e w1 ⟨rfl, hb⟩
  rw [← HC.out]
  obtain ⟨x, y, z⟩ := c
  cases ok
  all_goals
    go_wp2
    go_ret3
    exact ⟨rfl, hb⟩
set_option maxHeartbeats 4000000 in
set_option maxRecDepth 100000 in
theorem fparse_any (s : ByteArray) (w : World) (hs : s.size ≤ 1048576) (h : NumEnv w) :
    Calls Tryd.prog 67 #[.string s] w (fourPost (parseGo s.data.toList) w) := by
  obtain ⟨l, hl⟩ : ∃ l, l = s.data.toList := ⟨_, rfl⟩
  have hself : s = sOf l := by rw [hl, sOf_self]
  have hlen : l.length ≤ 1048576 := by rw [hl]; simpa using hs
  clear hl hs
  subst hself
  obtain ⟨q, hq⟩ : ∃ q, q = parseGo l := ⟨_, rfl⟩
  show Calls Tryd.prog 67 #[.string (sOf l)] w (fourPost (parseGo l) w)
  rw [← hq]
  have HQ := Lib.hid hq
  have HE := Lib.hid h
  clear hq h
  go_enter Tryd.func67, Tryd.ntmps67
  go_wp2_with fail
  refine (prefix_any l kE _).mono ?_
  rintro e w0 ⟨rfl, rfl⟩
  have hb1 := trimPrefix_le l kE
  obtain ⟨s1, hs1⟩ : ∃ x, x = Lib.trimPrefix l kE := ⟨_, rfl⟩
  obtain ⟨b1, hb1'⟩ : ∃ x, x = Lib.hasPrefix l kE := ⟨_, rfl⟩
  rw [← hs1] at hb1
  rw [← hs1, ← hb1']
  have HS1 := Lib.hid hs1
  have HB1 := Lib.hid hb1'
  clear hs1 hb1'
  go_upto_if 19 with fail
  go_cut [2, 4, 5, 6, 8, 9] from 13 (fun vl vw _ vr _ _ wx => ∃ (lv : Int) (t : List UInt8), vl = .int .i64 lv ∧ vw = .int .i64 4 ∧ vr = .string (sOf t) ∧ q = parseTail l lv t ∧ t.length ≤ l.length ∧ Below w.heap.size w wx)
  case first =>
    cases b1 with
    | true =>
      go_wp2_with fail
      go_meet
      refine ⟨-1, s1, rfl, rfl, rfl, ?_, hb1, Below.refl _ _⟩
      rw [HQ.out]
      unfold parseGo
      rw [← HB1.out, ← HS1.out, if_pos rfl]
    | false =>
      have hq1 := HQ.out
      unfold parseGo at hq1
      rw [← HB1.out, if_neg (by simp)] at hq1
      have hb2 := trimPrefix_le l kT
      obtain ⟨s2, hs2⟩ : ∃ x, x = Lib.trimPrefix l kT := ⟨_, rfl⟩
      obtain ⟨b2, hb2'⟩ : ∃ x, x = Lib.hasPrefix l kT := ⟨_, rfl⟩
      rw [← hs2] at hb2
      rw [← hs2, ← hb2'] at hq1
      have HQ1 := Lib.hid hq1
      have HS2 := Lib.hid hs2
      have HB2 := Lib.hid hb2'
      clear hs2 hb2' hq1 HQ HB1 HS1
      go_wp2_with fail
      refine (prefix_any l kT _).mono ?_
      rintro e w0 ⟨rfl, rfl⟩
      rw [← HS2.out, ← HB2.out]
      go_wp2_with fail
      refine (fcut_any (sOf s2) (sOf [47]) b2 _ (by rw [sOf_size]; omega) HE.out).mono ?_
      rintro e w1 ⟨rfl, hbw1⟩
      rw [show Lib.cut (sOf s2).data.toList (sOf [47]).data.toList = Lib.cut s2 [47] from rfl]
      have hcl := cut_le s2 [47]
      obtain ⟨c, hc⟩ : ∃ x, x = Lib.cut s2 [47] := ⟨_, rfl⟩
      have hq2 := HQ1.out
      rw [← hc] at hcl hq2 ⊢
      obtain ⟨c1, c2, c3⟩ := c
      simp only at hcl hq2 ⊢
      obtain ⟨ok, hok⟩ : ∃ x, x = (b2 && c3) := ⟨_, rfl⟩
      have hq3 : q = if ok = true then (match atoiO c1 with | none => noFour | some v => if v < 0 then noFour else parseTail l v c2) else noFour := by
        rw [hq2, hok]
        cases b2 <;> cases c3 <;> rfl
      rw [← hok]
      have HQ3 := Lib.hid hq3
      have HBW1 := Lib.hid hbw1
      have HE1 := Lib.hid (HE.out.below hbw1)
      clear hq2 hq3 hok hbw1 hc HQ1
      cases ok with
      | false =>
        go_wp2
        refine bodyPost_ret (v := .tuple #[.int .i64 0, .int .i64 0, .int .i64 0, .bool false]) (by simp [results, Tryd.results67, go_sem]) rfl ⟨?_, HBW1.out⟩
        rw [HQ3.out, if_neg (by simp)]
        rfl
      | true =>
        go_wp2_with fail
        refine (atoi_any (sOf c1) _ (by rw [sOf_size]; omega) HE1.out).mono ?_
        rintro e w2 ⟨v, ev, rfl, hv, hbw2⟩
        rw [show (sOf c1).data.toList = c1 from rfl] at hv
        have hq4 := HQ3.out
        rw [if_pos trivial] at hq4
        have HBW2 := Lib.hid (HBW1.out.trans (hbw2.mono HBW1.out.size))
        clear hbw2
        rcases hv with ⟨hv, rfl⟩ | ⟨hv, T, p, rfl⟩
        · rw [hv] at hq4
          simp only at hq4
          have e0 := neq_nils w2
          by_cases h0 : v < 0
          · have hd : decide (v < 0) = true := decide_eq_true h0
            rw [if_pos h0] at hq4
            have HQ4 := Lib.hid hq4
            clear hq4 hv h0
            go_wp2
            refine bodyPost_ret (v := .tuple #[.int .i64 0, .int .i64 0, .int .i64 0, .bool false]) (by simp [results, Tryd.results67, go_sem]) rfl ⟨?_, HBW2.out⟩
            rw [HQ4.out]
            rfl
          · have hd : decide (v < 0) = false := decide_eq_false h0
            rw [if_neg h0] at hq4
            have HQ4 := Lib.hid hq4
            clear hq4 hv h0
            go_wp2_with fail
            go_meet
            exact ⟨v, c2, rfl, rfl, rfl, HQ4.out, by omega, HBW2.out⟩
        · rw [hv] at hq4
          simp only at hq4
          have e0 := neq_nil w2 T p
          have HQ4 := Lib.hid hq4
          clear hq4 hv
          go_wp2
          refine bodyPost_ret (v := .tuple #[.int .i64 0, .int .i64 0, .int .i64 0, .bool false]) (by simp [results, Tryd.results67, go_sem]) rfl ⟨?_, HBW2.out⟩
          rw [HQ4.out]
          rfl
  case rest =>
    obtain ⟨lv, t, rfl, rfl, rfl, hqt, htl, hbw⟩ := hcut
    have HB := Lib.hid hbw
    have HE1 := Lib.hid (HE.out.below hbw)
    clear HQ HB1 HS1 hbw hb1 HE
    have HQ := Lib.hid hqt
    clear hqt
    go_wp2_with fail
    refine (scut_any (sOf t) (sOf kP) _ (by rw [sOf_size]; omega) HE1.out).mono ?_
    rintro e w2 ⟨rfl, hbw2⟩
    rw [show Lib.cut (sOf t).data.toList (sOf kP).data.toList = Lib.cut t kP from rfl]
    have hcl := cut_le t kP
    have hcn := @cut_none t kP
    have hq2 : q = (match (if (Lib.cut t kP).2.2 = true then atoiO (Lib.cut t kP).2.1 else some 4) with
      | none => noFour
      | some width => match atoiO (Lib.cut t kP).1 with
        | none => noFour
        | some index => if nameOf lv index width = l then (lv, index, width, true) else noFour) := HQ.out
    obtain ⟨c, hc⟩ : ∃ x, x = Lib.cut t kP := ⟨_, rfl⟩
    rw [← hc] at hcl hq2 hcn ⊢
    obtain ⟨c1, c2, c3⟩ := c
    simp only at hcl hq2 hcn ⊢
    have HB2 := Lib.hid (HB.out.trans (hbw2.mono HB.out.size))
    have HE2 := Lib.hid (HE1.out.below hbw2)
    have HQ2 := Lib.hid hq2
    have HCN := Lib.hid hcn
    clear hq2 hbw2 hc HQ hcn HE1
    go_upto_if 51 with fail
    go_cut [2, 4, 6, 8] from 13 (fun vl vw vr _ wx => ∃ (wd : Int) (r : List UInt8), vl = .int .i64 lv ∧ vw = .int .i64 wd ∧ vr = .string (sOf r) ∧ q = (match atoiO r with | none => noFour | some index => if nameOf lv index wd = l then (lv, index, wd, true) else noFour) ∧ r.length ≤ l.length ∧ Below w.heap.size w wx ∧ NumEnv wx)
    case first =>
      cases c3 with
      | false =>
        have HR := Lib.hid (HCN.out rfl)
        have hq3 := HQ2.out
        rw [if_neg (by simp)] at hq3
        simp only at hq3
        have HQ3 := Lib.hid hq3
        clear hq3
        go_wp2_with fail
        go_meet
        exact ⟨4, c1, rfl, rfl, by rw [HR.out], HQ3.out, by omega, HB2.out, HE2.out⟩
      | true =>
        have hq3 := HQ2.out
        rw [if_pos rfl] at hq3
        have HQ3' := Lib.hid hq3
        clear hq3
        go_wp2_with fail
        refine (atoi_any (sOf c2) _ (by rw [sOf_size]; omega) HE2.out).mono ?_
        rintro e w3 ⟨v, ev, rfl, hv, hbw3⟩
        rw [show (sOf c2).data.toList = c2 from rfl] at hv
        have HB3 := Lib.hid (HB2.out.trans (hbw3.mono HB2.out.size))
        have HE3 := Lib.hid (HE2.out.below hbw3)
        have hq3 := HQ3'.out
        clear hbw3
        rcases hv with ⟨hv, rfl⟩ | ⟨hv, T, p, rfl⟩
        · rw [hv] at hq3
          simp only at hq3
          have e0 := neq_nils w3
          have HQ3 := Lib.hid hq3
          clear hq3 hv
          go_wp2_with fail
          go_meet
          exact ⟨v, c1, rfl, rfl, rfl, HQ3.out, by omega, HB3.out, HE3.out⟩
        · rw [hv] at hq3
          simp only at hq3
          have e0 := neq_nil w3 T p
          have HQ3 := Lib.hid hq3
          clear hq3 hv
          go_wp2
          refine bodyPost_ret (v := .tuple #[.int .i64 0, .int .i64 0, .int .i64 0, .bool false]) (by simp [results, Tryd.results67, go_sem]) rfl ⟨?_, HB3.out⟩
          rw [HQ3.out]
          rfl
    case rest =>
      obtain ⟨wd, r, rfl, rfl, rfl, hqr, hrl, hbw3, henv⟩ := hcut
      have HB3 := Lib.hid hbw3
      have HE3 := Lib.hid henv
      have HQR := Lib.hid hqr
      clear HQ2 HCN HB2 HE2 hbw3 henv hqr
      go_wp2_with fail
      refine (atoi_any (sOf r) _ (by rw [sOf_size]; omega) HE3.out).mono ?_
      rintro e w4 ⟨v, ev, rfl, hv, hbw4⟩
      rw [show (sOf r).data.toList = r from rfl] at hv
      have HB4 := Lib.hid (HB3.out.trans (hbw4.mono HB3.out.size))
      have HE4 := Lib.hid (HE3.out.below hbw4)
      have hqr := HQR.out
      clear hbw4
      rcases hv with ⟨hv, rfl⟩ | ⟨hv, T, p, rfl⟩
      · rw [hv] at hqr
        simp only at hqr
        have hvb := atoiO_bd hv
        have e0 := neq_nils w4
        obtain ⟨nm, hnm⟩ : ∃ x, x = nameOf lv v wd := ⟨_, rfl⟩
        have HNM := Lib.hid hnm
        rw [← hnm] at hqr
        by_cases he : nm = l
        · rw [if_pos he] at hqr
          have HQ4 := Lib.hid hqr
          clear hqr hv hnm
          go_wp2_with fail
          refine (fname_any lv v wd _ hvb HE4.out).mono ?_
          rintro e w5 ⟨rfl, hb5⟩
          rw [← HNM.out]
          have HB5 := Lib.hid (HB4.out.trans (hb5.mono HB4.out.size))
          subst he
          go_wp2
          refine bodyPost_ret (v := .tuple #[.int .i64 lv, .int .i64 v, .int .i64 wd, .bool true]) (by simp [results, Tryd.results67, go_sem]) rfl ⟨?_, HB5.out⟩
          rw [HQ4.out]
        · rw [if_neg he] at hqr
          have HQ4 := Lib.hid hqr
          clear hqr hv hnm
          go_wp2_with fail
          refine (fname_any lv v wd _ hvb HE4.out).mono ?_
          rintro e w5 ⟨rfl, hb5⟩
          rw [← HNM.out]
          have HB5 := Lib.hid (HB4.out.trans (hb5.mono HB4.out.size))
          have c6 : (nm == l) = false := beq_eq_false_iff_ne.2 he
          go_wp2
          refine bodyPost_ret (v := .tuple #[.int .i64 0, .int .i64 0, .int .i64 0, .bool false]) (by simp [results, Tryd.results67, go_sem]) rfl ⟨?_, HB5.out⟩
          rw [HQ4.out]
          rfl
      · rw [hv] at hqr
        simp only at hqr
        have e0 := neq_nil w4 T p
        have HQ4 := Lib.hid hqr
        clear hqr hv
        go_wp2
        refine bodyPost_ret (v := .tuple #[.int .i64 0, .int .i64 0, .int .i64 0, .bool false]) (by simp [results, Tryd.results67, go_sem]) rfl ⟨?_, HB4.out⟩
        rw [HQ4.out]
        rfl
theorem tparse_any (s : ByteArray) (w : World) (hs : s.size ≤ 1048576) (h : NumEnv w) :
    Calls Tryd.prog 46 #[.string s] w (fourPost (parseGo s.data.toList) w) := by
  have HE := Lib.hid h
  obtain ⟨q, hq⟩ : ∃ q, q = parseGo s.data.toList := ⟨_, rfl⟩
  rw [← hq]
  have HQ := Lib.hid hq
  clear h hq
  go_enter Tryd.func46, Tryd.ntmps46
  go_wp2_with fail
  refine (fparse_any s _ hs HE.out).mono ?_
  rintro e w1 ⟨rfl, hb⟩
  rw [← HQ.out]
  obtain ⟨a, b, c, d⟩ := q
  go_wp2
  refine bodyPost_ret (v := .tuple #[.int .i64 a, .int .i64 b, .int .i64 c, .bool d]) (by simp [results, Tryd.results46, go_sem]) rfl ⟨rfl, hb⟩
end Go.Proofs.YtefccfakhgdfbaaDoor
