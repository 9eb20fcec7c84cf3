/-
  The walk of tilesref.Check.
-/
import Derived.Test.YtefccfakhgdfbabGreatDoorPb16
import Derived.Test.YtefccfakhgdfbabGreatDoorPb23
set_option linter.unusedVariables false
set_option linter.unusedSimpArgs false
section
namespace Go.Proofs.YtefccfakhgdfbabGreatDoor
open Go.RowKit
theorem unhexR_lt {c : UInt8} {m : Nat} (h : unhexR c = some m) : m < 16 := by
  unfold unhexR at h
  split at h
  · cases h; omega
  · split at h
    · cases h; omega
    · cases h
theorem eightOf_list {r : List UInt8} (h : r.length = 8) : (eightOf r).toList = r := by
  match r, h with
  | [a, b, c, d, e, f, g, i], _ => rfl
theorem HS_eight {r : List UInt8} (h : r.length = 8) : sOf r = HS (eightOf r) := by
  conv => lhs; rw [← eightOf_list h]
  rfl
/-- What the reference's Check answers. -/
def rcheckPost (q : Three) (w : World) (e : Ending) (w' : World) : Prop :=
  e = .returned (.tuple #[.int .i64 q.1, .string (if q.2.2 = true then HS q.2.1 else ⟨#[]⟩), .bool q.2.2]) ∧ Below w.heap.size w w'
theorem rcheck_no {w w' : World} (h : Below w.heap.size w w') : rcheckPost noThree w (.returned (.tuple #[.int .i64 0, .string ⟨#[]⟩, .bool false])) w' := ⟨rfl, h⟩
theorem unhexL_step (d : UInt8 → Option Nat) (a b : UInt8) (l : List UInt8) : unhexL d (a :: b :: l) = (d a).bind fun x => (d b).bind fun y => (unhexL d l).map (UInt8.ofNat (16 * x + y) :: ·) := by
  conv => lhs; unfold unhexL
  cases d a <;> cases d b <;> rfl
set_option maxHeartbeats 4000000 in
set_option maxRecDepth 100000 in
theorem rcheck_any (s key : ByteArray) (w : World) (hs : s.size ≤ 1048576) (hk : key.size ≤ 1048600) :
    Calls Tryz.prog 111 #[.string s, .string key] w (rcheckPost (checkRef s.data.toList key.data.toList) w) := by
  obtain ⟨l, hl⟩ : ∃ l, l = s.data.toList := ⟨_, rfl⟩
  have hself : s = sOf l := by rw [hl, sOf_self]
  have hlen : l.length ≤ 1048576 := by rw [hl]; simpa using hs
  clear hl hs
  subst hself
  obtain ⟨q, hq⟩ : ∃ q, q = checkRef l key.data.toList := ⟨_, rfl⟩
  show Calls Tryz.prog 111 #[.string (sOf l), .string key] w (rcheckPost (checkRef l key.data.toList) w)
  rw [← hq]
  have HQ := Lib.hid hq
  clear hq
  go_enter Tryz.func111, Tryz.ntmps111
  go_wp2_with fail
  refine (begins_any (sOf l) (sOf kTiles) _).mono ?_
  rintro e w0 ⟨rfl, rfl⟩
  rw [show beginsOf (sOf l).data.toList (sOf kTiles).data.toList = beginsOf l kTiles from rfl]
  have hb1 := beginsOf_le l kTiles
  have hq1 := HQ.out
  unfold checkRef at hq1
  obtain ⟨x1, hx1⟩ : ∃ x, x = beginsOf l kTiles := ⟨_, rfl⟩
  rw [← hx1] at hb1 hq1 ⊢
  clear hx1 HQ
  obtain ⟨s1, b1⟩ := x1
  simp only at hb1 hq1 ⊢
  cases b1 with
  | false =>
    rw [if_neg (by simp)] at hq1
    have HQ1 := Lib.hid hq1
    clear hq1
    go_wp2
    go_ret3
    rw [HQ1.out]
    exact rcheck_no (Below.refl _ _)
  | true =>
    rw [if_pos rfl] at hq1
    have HQ1 := Lib.hid hq1
    clear hq1
    go_wp2_with fail
    refine (number_any (sOf s1) _ (by rw [sOf_size]; omega)).mono ?_
    rintro e w2 ⟨rfl, hbw2⟩
    rw [show numberOf (sOf s1).data.toList = numberOf s1 from rfl]
    have hb3 := numberOf_le s1
    have hbd := numberOf_bd s1
    have hq2 := HQ1.out
    obtain ⟨x3, hx3⟩ : ∃ x, x = numberOf s1 := ⟨_, rfl⟩
    rw [← hx3] at hb3 hbd hq2 ⊢
    have HB2 := Lib.hid hbw2
    clear hx3 HQ1 hbw2
    obtain ⟨n, s3, b3⟩ := x3
    simp only at hb3 hbd hq2 ⊢
    by_cases hgood : b3 = true ∧ 17 ≤ s3.length
    · rw [if_pos hgood] at hq2
      obtain ⟨rfl, h17⟩ := hgood
      have d1 : decide ((s3.length : Int) < 17) = false := decide_eq_false (by omega)
      obtain ⟨S, hS⟩ : ∃ S, S = sOf s3 := ⟨_, rfl⟩
      have hsz : S.size = s3.length := by rw [hS, sOf_size]
      obtain ⟨D, hD⟩ : ∃ D, D = (s3.drop 1).take 16 := ⟨_, rfl⟩
      rw [← hD] at hq2
      have hDl : D.length = 16 := by rw [hD]; simp; omega
      have hDg : ∀ j, j < 16 → ∃ (h : j + 1 < S.size) (h2 : j < D.length), S[j + 1] = D[j] := by
        intro j hj
        refine ⟨by omega, by omega, ?_⟩
        subst hS
        subst hD
        simp [ByteArray.getElem_eq_getElem_data, Nat.add_comm 1 j]
      have HQ2 := Lib.hid hq2
      have HDG := Lib.hid hDg
      have HDL := Lib.hid hDl
      have HU := Lib.hid (show unhexL unhexR D = (unhexL unhexR (D.drop 0)).map ([] ++ ·) by simp)
      rw [← hS]
      clear hq2 hDg hDl hD hS
      rw [← hsz] at d1 h17
      clear hsz
      go_wp2_with fail
      go_loopw [10, 11] (fun vr vi wr => ∃ (k j : Nat) (r : List UInt8), Hid (k = 2 * j + 1) ∧ k ≤ 17 ∧ vi = .int .i64 k ∧ vr = .string (sOf r) ∧ r.length = j ∧ Hid (unhexL unhexR D = (unhexL unhexR (D.drop (2 * j))).map (r ++ ·)) ∧ Below w.heap.size w wr) (fun _ vi _ => 18 - (intOf vi).toNat)
      case atStart => exact ⟨1, 0, [], Lib.hid rfl, by omega, rfl, rfl, rfl, HU, HB2.out⟩
      case round =>
        obtain ⟨k, j, r, hkj, hk17, rfl, rfl, hr, hinv, hbel⟩ := hrel
        have HB := Lib.hid hbel
        have hrl : r.length ≤ 8 := by have := hkj.out; omega
        have HR := Lib.hid hr
        clear hbel HB2 HU hr
        by_cases hlt : k < 17
        · obtain ⟨ha1, ha2, ha⟩ := HDG.out (2 * j) (by have := hkj.out; omega)
          obtain ⟨hb1', hb2, hb⟩ := HDG.out (2 * j + 1) (by have := hkj.out; omega)
          have hcut : D.drop (2 * j) = D[2 * j] :: D[2 * j + 1] :: D.drop (2 * (j + 1)) := by
            rw [List.drop_eq_getElem_cons ha2, List.drop_eq_getElem_cons hb2]
            rfl
          have hst := hinv.out
          rw [hcut, unhexL_step] at hst
          obtain ⟨ca, hca⟩ : ∃ c, c = D[2 * j] := ⟨_, rfl⟩
          obtain ⟨cb, hcb⟩ : ∃ c, c = D[2 * j + 1] := ⟨_, rfl⟩
          rw [← hca] at ha hst
          rw [← hcb] at hb hst
          have k1 : k < S.size := by omega
          have k2 : k + 1 < S.size := by have := hkj.out; omega
          have hax : S[k] = ca := by rw [← ha]; congr 1 <;> exact hkj.out
          have hbx : S[k + 1] = cb := by rw [← hb]; congr 1 <;> (have := hkj.out; omega)
          have HST := Lib.hid hst
          clear hcut hst ha hb hca hcb ha1 hb1' ha2 hb2 hinv
          have hk15 : k ≤ 15 := by have := hkj.out; omega
          go_wp2_with fail
          refine (unhex_any ca _).mono ?_
          rintro e w3 ⟨rfl, rfl⟩
          go_wp2_with fail
          refine (unhex_any cb _).mono ?_
          rintro e w3 ⟨rfl, rfl⟩
          have hst := HST.out
          cases hua : unhexR ca with
          | none =>
            have hia : unhexI ca = -1 := by unfold unhexI; rw [hua]
            rw [hua] at hst
            have hq3 := HQ2.out
            rw [hst] at hq3
            have HQ3 := Lib.hid hq3
            rw [hia]
            clear hst hq3 hua hia hax hbx
            go_wp2
            go_ret3
            rw [HQ3.out]
            exact rcheck_no HB.out
          | some x =>
            have hx16 := unhexR_lt hua
            have hia : unhexI ca = (x : Int) := by unfold unhexI; rw [hua]
            rw [hua] at hst
            rw [hia]
            have dx : decide ((x : Int) < 0) = false := decide_eq_false (by omega)
            cases hub : unhexR cb with
            | none =>
              have hib : unhexI cb = -1 := by unfold unhexI; rw [hub]
              rw [hub] at hst
              have hq3 := HQ2.out
              rw [hst] at hq3
              have HQ3 := Lib.hid hq3
              rw [hib]
              clear hst hq3 hua hia hub hib hax hbx
              go_wp2
              go_ret3
              rw [HQ3.out]
              exact rcheck_no HB.out
            | some y =>
              have hy16 := unhexR_lt hub
              have hib : unhexI cb = (y : Int) := by unfold unhexI; rw [hub]
              rw [hub] at hst
              rw [hib]
              have dy : decide ((y : Int) < 0) = false := decide_eq_false (by omega)
              obtain ⟨z, hz⟩ : ∃ z, z = UInt8.ofNat (16 * x + y) := ⟨_, rfl⟩
              have hby : BytesAt (wr.alloc (.cells #[.int .u8 (16 * (x : Int) + (y : Int))] 5)) (.slice (some ⟨wr.heap.size, 0, none⟩) 1 1) [z] := by
                rw [show (16 * (x : Int) + (y : Int)) = ((16 * x + y : Nat) : Int) by omega, u8_small _ (by omega), ← hz]
                exact bytes1 (fz := (0, 0)) (heap_alloc_new' _ _ _ rfl)
              have hcv := run_bs hby
              have hnew : unhexL unhexR D = (unhexL unhexR (D.drop (2 * (j + 1)))).map ((r ++ [z]) ++ ·) := by
                rw [hst, hz]
                cases unhexL unhexR (D.drop (2 * (j + 1))) <;> simp
              have HNEW := Lib.hid hnew
              clear hst hua hia hub hib hax hbx hby hz hnew
              go_wp2
              exact ⟨⟨k + 2, j + 1, r ++ [z], Lib.hid (by have := hkj.out; omega), by omega, by go_num, by rw [sOf_append r [z]], by simp; exact HR.out, HNEW, HB.out.alloc HB.out.size _⟩, by simp [intOf]; omega⟩
        · have hj8 : j = 8 := by have := hkj.out; omega
          have hall := hinv.out
          rw [List.drop_of_length_le (by rw [HDL.out]; omega)] at hall
          have hq3 := HQ2.out
          rw [hall] at hq3
          have hr8 : r.length = 8 := by rw [HR.out]; exact hj8
          obtain ⟨hh, hhh⟩ : ∃ h, h = eightOf r := ⟨_, rfl⟩
          have hq4 : q = checkEnd l key.data.toList n hh := by rw [hq3, hhh]; simp [unhexL]
          have hrs : sOf r = HS hh := by rw [hhh]; exact HS_eight hr8
          rw [hrs]
          have HQ4 := Lib.hid hq4
          clear hall hq3 hinv hj8 hkj hhh hrs hq4
          go_wp2_with fail
          refine (rsign_any n hh key _ hbd hk).mono ?_
          rintro e w4 ⟨rfl, hb4⟩
          have HB4 := Lib.hid (HB.out.trans (hb4.mono HB.out.size))
          have hq5 := HQ4.out
          unfold checkEnd at hq5
          rw [Int.toNat_natCast] at hq5
          obtain ⟨t, ht⟩ : ∃ t, t = signOf n hh key.data.toList := ⟨_, rfl⟩
          rw [← ht] at hq5 ⊢
          clear ht hb4 HQ4
          by_cases he : t = l
          · rw [if_pos he] at hq5
            have HQ5 := Lib.hid hq5
            subst he
            clear hq5
            go_wp2
            go_ret3
            rw [HQ5.out]
            exact ⟨rfl, HB4.out⟩
          · rw [if_neg he] at hq5
            have HQ5 := Lib.hid hq5
            have c6 : (t == l) = false := beq_eq_false_iff_ne.2 he
            clear hq5
            go_wp2
            go_ret3
            rw [HQ5.out]
            exact rcheck_no HB4.out
    · rw [if_neg hgood] at hq2
      have HQ2 := Lib.hid hq2
      clear hq2
      by_cases hb : b3 = true
      · have d1 : decide ((s3.length : Int) < 17) = true := decide_eq_true (by
          have : ¬ 17 ≤ s3.length := fun h => hgood ⟨hb, h⟩
          omega)
        subst hb
        clear hgood
        go_wp2
        go_ret3
        rw [HQ2.out]
        exact rcheck_no HB2.out
      · have hb' : b3 = false := by simpa using hb
        subst hb'
        clear hgood hb
        go_wp2
        go_ret3
        rw [HQ2.out]
        exact rcheck_no HB2.out
end Go.Proofs.YtefccfakhgdfbabGreatDoor
end
