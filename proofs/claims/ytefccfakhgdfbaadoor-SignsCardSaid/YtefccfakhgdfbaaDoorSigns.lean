/- The walks of tiles.Check, plain.Check; tileslaw.Signs answers true. -/
import Derived.Test.YtefccfakhgdfbaaDoorFCheck
import Derived.Test.YtefccfakhgdfbaaDoorPSign
import Derived.Test.YtefccfakhgdfbaaDoorRCheck
import Derived.Test.YtefccfakhgdfbaaDoorEight
namespace Go.Proofs.YtefccfakhgdfbaaDoor
open Go.RowKit
set_option maxHeartbeats 1000000 in
set_option maxRecDepth 100000 in
theorem tcheck_any (s key : ByteArray) (w : World) (hs : s.size ≤ 1048576) (hk : key.size ≤ 1048576) (hE : NumEnv w) :
    Calls Tryd.prog 52 #[.string s, .string key] w (fcheckPost (checkGo s.data.toList key.data.toList) w) := by
  obtain ⟨q, hq⟩ : ∃ q, q = checkGo s.data.toList key.data.toList := ⟨_, rfl⟩
  rw [← hq]
  have b0 := below_alloc w (.cells (trC 0 zero8) 77)
  have T0 : TrAt (w.alloc (.cells (trC 0 zero8) 77)) w.heap.size 0 zero8 := heap_alloc_new w _
  have HQ := Lib.hid hq
  have HE0 := Lib.hid (hE.below b0)
  have HB0 := Lib.hid b0
  have HT0 := Lib.hid T0
  clear hq hE b0 T0
  go_enter Tryd.func52, Tryd.ntmps52
  go_wp2_with fail
  refine (fcheck_any s key _ hs hk HE0.out).mono ?_
  rintro e w1 ⟨rfl, hb1⟩
  rw [← HQ.out]
  obtain ⟨n, h, b⟩ := q
  have HT1 := Lib.hid (HT0.out.below hb1)
  have HB1 := Lib.hid (HB0.out.trans (hb1.mono HB0.out.size))
  clear hb1
  go_wp2_with (refine wpList_storeT rfl _ _ rfl _ n h rfl rfl _ _ HT1.out ?_)
  exact retT w.heap.size n h (.bool b) rfl rfl rfl (HT1.out.set _ _) rfl ⟨rfl, below_setRow HB1.out (Nat.le_refl _) _⟩
theorem tr_bytes {w : World} {g : Nat} {n : Int} {h : Hsh} (ht : TrAt w g n h) : BytesAt w (.slice (some ⟨g, 1, none⟩) 8 8) h.toList := by
  unfold BytesAt
  refine ⟨_, 8, by simp, by simp, fun j x hx => ⟨g, 1, rfl, ?_⟩⟩
  have hj : j < 8 := by have := (List.getElem?_eq_some_iff.1 hx).1; simpa using this
  have h1 := trC_get n h j hj
  rw [show (h.toList.map u8)[j]? = some (u8 h[j]) by simp [hj]] at hx
  cases hx
  unfold TrAt at ht
  simp only [World.cell?, ht]
  exact h1
set_option maxHeartbeats 1000000 in
set_option maxRecDepth 100000 in
theorem pcheck_any (s key : ByteArray) (w : World) (hs : s.size ≤ 1048576) (hk : key.size ≤ 1048576) (hE : NumEnv w) :
    Calls Tryd.prog 27 #[.string s, .string key] w fun e w' => e = .returned (.tuple #[.int .i64 (checkGo s.data.toList key.data.toList).1, .string (HS (checkGo s.data.toList key.data.toList).2.1), .bool (checkGo s.data.toList key.data.toList).2.2]) ∧ Below w.heap.size w w' := by
  obtain ⟨q, hq⟩ : ∃ q, q = checkGo s.data.toList key.data.toList := ⟨_, rfl⟩
  rw [← hq]
  have HQ := Lib.hid hq
  have HE := Lib.hid hE
  clear hq hE
  go_enter Tryd.func27, Tryd.ntmps27
  go_wp2_with fail
  refine (tcheck_any s key _ hs hk HE.out).mono ?_
  rintro e w1 ⟨rfl, hb1⟩
  rw [← HQ.out]
  obtain ⟨n, h, b⟩ := q
  have T1 : TrAt (w1.alloc (.cells (trC 0 zero8) 77)) w1.heap.size 0 zero8 := heap_alloc_new w1 _
  have T2 := T1.set n h
  have B2 := below_setRow (hb1.alloc hb1.size (.cells (trC 0 zero8) 77)) (g := w1.heap.size) hb1.size (trC n h)
  have HT1 := Lib.hid T1
  obtain ⟨W, hW⟩ : ∃ W, W = (w1.alloc (.cells (trC 0 zero8) 77)).setRow w1.heap.size (trC n h) := ⟨_, rfl⟩
  rw [← hW] at T2 B2
  have HW := Lib.hid hW
  have hcv := run_bs (tr_bytes (T2.below (below_drew _)))
  obtain ⟨k0, _, _, _, _, _, _, _, _⟩ := (T2.below (below_drew _)).cells
  have hlt := lt_of_heap T2
  have HB2 := Lib.hid B2
  clear T1 T2 B2 hW hb1
  go_wp2_with (refine wpList_storeT rfl _ _ rfl _ n h rfl rfl _ _ HT1.out ?_)
  rw [show (w1.alloc (.cells #[.int .i64 0, .int .u8 0, .int .u8 0, .int .u8 0, .int .u8 0, .int .u8 0, .int .u8 0, .int .u8 0, .int .u8 0] 77)).setRow w1.heap.size (trC n h) = W from HW.out.symm]
  go_region
  go_wp2
  go_ret3
  exact ⟨rfl, HB2.out.drew⟩
theorem checkGo_no {l key : List UInt8} (h : (checkGo l key).2.2 = false) : checkGo l key = noThree := (checkGo_sound l key).2 h
theorem eight_none : eightOf (ByteArray.mk #[]).data.toList = zero8 := rfl
theorem rcheck_all (s key : ByteArray) (q : Three) (hq : q = checkGo s.data.toList key.data.toList) (w : World) (hs : s.size ≤ 1048576) (hk : key.size ≤ 1048576) :
    Calls Tryd.prog 28 #[.string s, .string key] w fun e w' => ∃ b : ByteArray, e = .returned (.tuple #[.int .i64 q.1, .string b, .bool q.2.2]) ∧ eightOf b.data.toList = q.2.1 ∧ b.size ≤ 8 ∧ Below w.heap.size w w' := by
  have hno : q.2.2 = false → q = noThree := by rw [hq]; exact checkGo_no
  have h := rcheck_any s key w hs hk
  rw [← check_same, ← hq] at h
  refine h.mono ?_
  rintro e w' ⟨rfl, hb⟩
  refine ⟨_, rfl, ?_, ?_, hb⟩
  · cases hb2 : q.2.2 with
    | true => rw [if_pos rfl]; exact eightOf_toList _
    | false => rw [if_neg (by simp), hno hb2]; rfl
  · cases hb2 : q.2.2 with
    | true => rw [if_pos rfl, HS_size]; exact Nat.le_refl _
    | false => rw [if_neg (by simp)]; decide
/-- The size that Signs takes of a number. -/
theorem size_abs (n : Int) (h0 : -9223372036854775808 ≤ n) (h1 : n ≤ 9223372036854775807) : ∃ m : Nat, m < 9223372036854775808 ∧ (if n < 0 then -(n + 1) else n) = m := by
  split
  · exact ⟨(-(n + 1)).toNat, by omega, by omega⟩
  · exact ⟨n.toNat, by omega, by omega⟩
set_option maxHeartbeats 4000000 in
set_option maxRecDepth 100000 in
theorem signs_walk (n : Int) (root key text : ByteArray) (w : World) (h0 : -9223372036854775808 ≤ n) (h1 : n ≤ 9223372036854775807) (hr : root.size ≤ 9223372036854775807) (hE : NumEnv w) :
    Calls Tryd.prog 8 #[.int .i64 n, .string root, .string key, .string text] w fun e w' => e = .returned (.bool true) ∧ Below w.heap.size w w' := by
  by_cases hbig : 1048576 < key.size ∨ 1048576 < text.size
  · by_cases hk : 1048576 < key.size
    · have d1 : decide ((1048576 : Int) < (key.size : Int)) = true := decide_eq_true (by omega)
      clear hE hbig
      go_enter Tryd.func8, Tryd.ntmps8
      go_wp2
      go_ret
      exact ⟨rfl, Below.refl _ _⟩
    · have d1 : decide ((1048576 : Int) < (key.size : Int)) = false := decide_eq_false (by omega)
      have d2 : decide ((1048576 : Int) < (text.size : Int)) = true := decide_eq_true (by omega)
      clear hE hbig
      go_enter Tryd.func8, Tryd.ntmps8
      go_wp2
      go_ret
      exact ⟨rfl, Below.refl _ _⟩
  · have d1 : decide ((1048576 : Int) < (key.size : Int)) = false := decide_eq_false (by omega)
    have d2 : decide ((1048576 : Int) < (text.size : Int)) = false := decide_eq_false (by omega)
    have hk : key.size ≤ 1048576 := by omega
    have ht : text.size ≤ 1048576 := by omega
    obtain ⟨m, hm, hmn⟩ := size_abs n h0 h1
    have HE := Lib.hid hE
    have HMN := Lib.hid hmn
    clear hE hbig hmn
    go_enter Tryd.func8, Tryd.ntmps8
    go_upto_if 30 with fail
    go_cut [0] from 21 (fun v0 wx => v0 = .int .i64 m ∧ wx = w)
    case first =>
      by_cases hn : n < 0
      · have hd : decide (n < 0) = true := decide_eq_true hn
        have e1 := HMN.out
        rw [if_pos hn] at e1
        have E1 := Lib.hid e1
        clear e1
        go_wp2_with fail
        go_meet
        refine ⟨?_, rfl⟩
        rw [← E1.out]
      · have hd : decide (n < 0) = false := decide_eq_false hn
        have e1 := HMN.out
        rw [if_neg hn] at e1
        have E1 := Lib.hid e1
        clear e1
        go_wp2_with fail
        go_meet
        refine ⟨?_, rfl⟩
        rw [← E1.out]
    case rest =>
      obtain ⟨rfl, rfl⟩ := hcut
      obtain ⟨r, hrr⟩ : ∃ r, r = eightOf root.data.toList := ⟨_, rfl⟩
      obtain ⟨st, hst⟩ : ∃ s, s = signOf m r key.data.toList := ⟨_, rfl⟩
      obtain ⟨q, hq⟩ : ∃ q, q = checkGo text.data.toList key.data.toList := ⟨_, rfl⟩
      have HR := Lib.hid hrr
      have HST := Lib.hid hst
      have HQ := Lib.hid hq
      have hstl : st.length ≤ 200 := by rw [hst]; exact (signOf_len m r key.data.toList hm).2
      clear HMN hrr hst hq d1 d2
      go_wp2_with fail
      refine (eight_any root _ hr).mono ?_
      rintro e w1 ⟨rfl, hb1⟩
      rw [← HR.out]
      have HB1 := Lib.hid hb1
      have HE1 := Lib.hid (HE.out.below hb1)
      clear hb1
      go_wp2_with fail
      refine (psign_any m root key _ hm hr hk HE1.out).mono ?_
      rintro e w2 ⟨rfl, hb2⟩
      rw [← HR.out, ← HST.out]
      have HB2 := Lib.hid (HB1.out.trans (hb2.mono HB1.out.size))
      have HE2 := Lib.hid (HE1.out.below hb2)
      clear hb2
      go_wp2_with fail
      refine (rsign_any m r key _ hm hk).mono ?_
      rintro e w3 ⟨rfl, hb3⟩
      rw [← HST.out]
      have HB3 := Lib.hid (HB2.out.trans (hb3.mono HB2.out.size))
      have HE3 := Lib.hid (HE2.out.below hb3)
      clear hb3
      go_wp2_with fail
      refine (pcheck_any text key _ ht hk HE3.out).mono ?_
      rintro e w4 ⟨rfl, hb4⟩
      rw [← HQ.out]
      have HB4 := Lib.hid (HB3.out.trans (hb4.mono HB3.out.size))
      have HE4 := Lib.hid (HE3.out.below hb4)
      clear hb4
      go_wp2_with fail
      refine (rcheck_all text key q HQ.out _ ht hk).mono ?_
      rintro e w5 ⟨bs', rfl, hbe, hbz8, hb5⟩
      have HB5 := Lib.hid (HB4.out.trans (hb5.mono HB4.out.size))
      have HE5 := Lib.hid (HE4.out.below hb5)
      have hbz : bs'.size ≤ 9223372036854775807 := by omega
      have HBE := Lib.hid hbe
      clear hb5 hbe hbz8
      obtain ⟨qn, qh, qb⟩ := q
      go_wp2_with fail
      refine (eight_any bs' _ hbz).mono ?_
      rintro e w6 ⟨rfl, hb6⟩
      rw [HBE.out]
      have HB6 := Lib.hid (HB5.out.trans (hb6.mono HB5.out.size))
      have HE6 := Lib.hid (HE5.out.below hb6)
      clear hb6
      go_wp2_with fail
      refine (pcheck_any (sOf st) key _ (by rw [sOf_size]; omega) hk HE6.out).mono ?_
      rintro e w7 ⟨rfl, hb7⟩
      have hck : checkGo (sOf st).data.toList key.data.toList = ((m : Int), r, true) := by
        show checkGo st key.data.toList = _
        rw [HST.out]
        exact checkGo_sign m r key.data.toList hm
      rw [hck]
      have HB7 := Lib.hid (HB6.out.trans (hb7.mono HB6.out.size))
      clear hb7 hck
      have n1 : (qb == qb) = true := by simp
      have n2 : ((HS qh).toList == (HS qh).toList) = true := by simp
      have n3 : ((HS r).toList == (HS r).toList) = true := by simp
      go_wp2
      go_ret
      exact ⟨rfl, HB7.out⟩
end Go.Proofs.YtefccfakhgdfbaaDoor
