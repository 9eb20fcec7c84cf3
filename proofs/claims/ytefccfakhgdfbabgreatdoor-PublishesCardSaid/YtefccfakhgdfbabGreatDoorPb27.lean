/-
  The walk of files.Check.
-/
import Derived.Test.YtefccfakhgdfbabGreatDoorPb18
import Derived.Test.YtefccfakhgdfbabGreatDoorPb24
import Derived.Test.YtefccfakhgdfbabGreatDoorPb25
import Derived.Test.YtefccfakhgdfbabGreatDoorPb26
set_option linter.unusedVariables false
set_option linter.unusedSimpArgs false
section
namespace Go.Proofs.YtefccfakhgdfbabGreatDoor
open Go.RowKit
abbrev threeV (q : Three) : Value := .tuple #[trV q.1 q.2.1, .bool q.2.2]
def fcheckPost (q : Three) (w : World) (e : Ending) (w' : World) : Prop := e = .returned (threeV q) ∧ Below w.heap.size w w'
theorem zero_trC : trC 0 zero8 = #[.int .i64 0, .int .u8 0, .int .u8 0, .int .u8 0, .int .u8 0, .int .u8 0, .int .u8 0, .int .u8 0, .int .u8 0] := rfl
theorem unhexG_lt {c : UInt8} {m : Nat} (h : unhexG c = some m) : m < 16 := by
  unfold unhexG at h
  split at h
  · cases h; omega
  · split at h
    · cases h; omega
    · split at h
      · cases h; omega
      · cases h
set_option maxHeartbeats 8000000 in
set_option maxRecDepth 100000 in
theorem fcheck_any (s key : ByteArray) (w : World) (hs : s.size ≤ 1048576) (hk : key.size ≤ 1048600) (hE : NumEnv w) :
    Calls Tryz.prog 67 #[.string s, .string key] w (fcheckPost (checkGo s.data.toList key.data.toList) w) := by
  obtain ⟨l, hl⟩ : ∃ l, l = s.data.toList := ⟨_, rfl⟩
  have hself : s = sOf l := by rw [hl, sOf_self]
  have hlen : l.length ≤ 1048576 := by rw [hl]; simpa using hs
  clear hl hs
  subst hself
  obtain ⟨q, hq⟩ : ∃ q, q = checkGo l key.data.toList := ⟨_, rfl⟩
  show Calls Tryz.prog 67 #[.string (sOf l), .string key] w (fcheckPost (checkGo l key.data.toList) w)
  rw [← hq]
  have b0 := below_alloc w (.cells (trC 0 zero8) 111)
  have T0 : TrAt (w.alloc (.cells (trC 0 zero8) 111)) w.heap.size 0 zero8 := heap_alloc_new w _
  have HQ := Lib.hid hq
  have HE0 := Lib.hid (hE.below b0)
  have HB0 := Lib.hid b0
  have HT0 := Lib.hid T0
  clear hq b0 T0
  go_enter Tryz.func67, Tryz.ntmps67
  go_wp2_with fail
  refine (ssplit_any (sOf l) _ (by rw [sOf_size]; exact hlen) HE0.out).mono ?_
  rintro e w1 ⟨v, Ls, rfl, hL, hLl, hb1⟩
  rw [show (sOf l).data.toList = l from rfl] at hLl
  have hq1 := HQ.out
  unfold checkGo at hq1
  rw [← hLl] at hq1
  obtain ⟨a1, n1, k1, rfl, hn1⟩ : ∃ a n c, v = .slice a n c ∧ n = Ls.length := by obtain ⟨a, c, h1, _⟩ := hL; exact ⟨a, _, c, h1, rfl⟩
  obtain ⟨z0, z1, z2, z3, z4, z5, z6, z7, z8⟩ := (HT0.out.below hb1).cells
  have HT1 := Lib.hid (HT0.out.below hb1)
  have HE1 := Lib.hid (HE0.out.below hb1)
  have HB1 := Lib.hid (HB0.out.trans (hb1.mono HB0.out.size))
  have HL := Lib.hid hL
  have HLL := Lib.hid hLl
  have HEw := Lib.hid hE
  have HQ1 := Lib.hid hq1
  clear HQ hq1 hLl hb1 hL HB0 HE0 HT0 hE
  by_cases h5 : n1 = 5
  · obtain ⟨L0, L1, L2, L3, L4, rfl⟩ : ∃ a b c d e, Ls = [a, b, c, d, e] := by
      match Ls, hn1.symm.trans h5 with
      | [a, b, c, d, e], _ => exact ⟨a, b, c, d, e, rfl⟩
    subst h5
    clear hn1
    obtain ⟨bl, ol, rfl, hc1⟩ : ∃ b o, a1 = some ⟨b, o, none⟩ ∧ ∀ j x, ([L0, L1, L2, L3, L4].map Value.string)[j]? = some x → w1.cell? ⟨b, o + j, none⟩ = some x := by
      obtain ⟨a', c', hv, _, hc⟩ := HL.out
      cases hv
      obtain ⟨b, o, hb, _⟩ := hc 0 (.string L0) rfl
      refine ⟨b, o, hb, fun j x hx => ?_⟩
      obtain ⟨b', o', hb', hcell⟩ := hc j x hx
      rw [hb] at hb'
      cases hb'
      exact hcell
    have m1 := hc1 1 (.string L1) rfl
    have m2 := hc1 2 (.string L2) rfl
    clear hc1 HL z0 z1 z2 z3 z4 z5 z6 z7 z8
    have hbt := HB1.out.size
    by_cases h16 : L2.size = 16
    · have d16 : ((L2.size : Int) != 16) = false := by rw [h16]; rfl
      have hq2 : q = match atoiO L1.data.toList with
          | none => noThree
          | some n => if n < 0 then noThree else match unhexL unhexG L2.data.toList with
            | none => noThree
            | some b => checkEnd l key.data.toList n (eightOf b) := by
        rw [HQ1.out]
        show checkLines l key.data.toList [L0.data.toList, L1.data.toList, L2.data.toList, L3.data.toList, L4.data.toList] = _
        show (if L2.data.toList.length ≠ 16 then noThree else _) = _
        rw [if_neg (by simpa using h16)]
        rfl
      have HQ2 := Lib.hid hq2
      have hL1 : L1.size ≤ 1048576 := by
        have := linesOf_le l L1.data.toList (by rw [← HLL.out]; simp [lists])
        simp at this
        omega
      clear hq2 HQ1
      go_wp2_with fail
      refine (atoi_any L1 _ hL1 HE1.out).mono ?_
      rintro e w2 ⟨v, ev, rfl, hv, hb2⟩
      have hq3 := HQ2.out
      have HT2 := Lib.hid (HT1.out.below hb2)
      have HB2 := Lib.hid (HB1.out.trans (hb2.mono HB1.out.size))
      have HE2 := Lib.hid (HE1.out.below hb2)
      have m2' := (hb2.cell (cell_lt m2)).trans m2
      clear hb2 m1 m2 HQ2
      rcases hv with ⟨hv, rfl⟩ | ⟨hv, T, p, rfl⟩
      · rw [hv] at hq3
        simp only at hq3
        have e0 := neq_nils w2
        have hvb := atoiO_bd hv
        by_cases h0 : v < 0
        · have hd : decide (v < 0) = true := decide_eq_true h0
          rw [if_pos h0] at hq3
          have HQ3 := Lib.hid hq3
          clear hq3 hv h0
          go_wp2_with (first | (refine wpList_loadT rfl _ rfl _ rfl _ _ HT2.out ?_) | (refine wpList_storeT rfl _ _ rfl _ 0 zero8 rfl rfl _ _ HT2.out ?_))
          refine retT w.heap.size 0 zero8 (.bool false) rfl rfl rfl (HT2.out.set _ _) rfl ⟨?_, below_setRow HB2.out (Nat.le_refl _) _⟩
          rw [HQ3.out]
          rfl
        · have hd : decide (v < 0) = false := decide_eq_false h0
          rw [if_neg h0] at hq3
          have HQ3 := Lib.hid hq3
          clear hq3 hv
          have hgt : w.heap.size < w2.heap.size := lt_of_heap HT2.out
          have hblt : bl < w2.heap.size := cell_lt m2'
          have bA := below_alloc w2 (.cells (trC v zero8) 111)
          have TA : TrAt (w2.alloc (.cells (trC v zero8) 111)) w2.heap.size v zero8 := heap_alloc_new w2 _
          obtain ⟨Wb, hWb⟩ : ∃ x, x = w2.alloc (.cells (trC v zero8) 111) := ⟨_, rfl⟩
          have m3 := (bA.cell (cell_lt m2')).trans m2'
          have T4 := HT2.out.below bA
          have B4 := HB2.out.trans (bA.mono HB2.out.size)
          have hsz : w2.heap.size < Wb.heap.size := by rw [hWb]; simp
          rw [← hWb] at TA m3 T4 B4
          have HTA := Lib.hid TA
          have HT4 := Lib.hid T4
          have HB4 := Lib.hid B4
          have HM3 := Lib.hid m3
          have HWb := Lib.hid hWb
          have l2len : L2.data.toList.length = 16 := by simpa using h16
          have HU := Lib.hid (show unhexL unhexG L2.data.toList = (unhexL unhexG (L2.data.toList.drop 0)).map ([] ++ ·) by simp)
          clear bA TA m3 T4 B4 hWb m2'
          go_wp2_with fail
          rw [show w2.alloc (.cells #[.int .i64 v, .int .u8 0, .int .u8 0, .int .u8 0, .int .u8 0, .int .u8 0, .int .u8 0, .int .u8 0, .int .u8 0] 111) = Wb from HWb.out.symm]
          go_loopw [42] (fun vi wr => ∃ (k : Nat) (r : List UInt8), k ≤ 8 ∧ vi = .int .i64 k ∧ r.length = k ∧ Hid (unhexL unhexG L2.data.toList = (unhexL unhexG (L2.data.toList.drop (2 * k))).map (r ++ ·)) ∧ Hid (Wb.grownBy wr (some w2.heap.size)) ∧ Hid (TrAt wr w2.heap.size v (eightOf r))) (fun vi _ => 8 - (intOf vi).toNat)
          case atStart => exact ⟨0, [], by omega, rfl, rfl, HU, Lib.hid (grownBy_of_below (Below.refl _ _) _), HTA⟩
          case round =>
            obtain ⟨k, r, hk8, rfl, hrk, hinv, hgr, htr⟩ := hrel
            have hB : Below w.heap.size w wr := HB4.out.grown hgr.out HB4.out.size (fun j hj => by have := Option.some.inj hj; omega)
            have HBr := Lib.hid hB
            have HEr := Lib.hid (HEw.out.below hB)
            have m4 : wr.cell? ⟨bl, ol + 2, none⟩ = some (.string L2) := (World.cell?_of_block (a := ⟨bl, ol + 2, none⟩) (hgr.out.block bl (by omega) (fun e => by have := Option.some.inj e; omega))).trans HM3.out
            have HT4r := Lib.hid (show TrAt wr w.heap.size 0 zero8 from (hgr.out.block w.heap.size (by omega) (fun e => by have := Option.some.inj e; omega)).trans HT4.out)
            clear hB
            by_cases hlt : k < 8
            · obtain ⟨a, b, hab⟩ : ∃ a b, L2.data.toList.drop (2 * k) = a :: b :: L2.data.toList.drop (2 * (k + 1)) := by
                refine ⟨L2.data.toList[2 * k]'(by omega), L2.data.toList[2 * k + 1]'(by omega), ?_⟩
                rw [List.drop_eq_getElem_cons (by omega), List.drop_eq_getElem_cons (i := 2 * k + 1) (by omega)]
                rfl
              have hext : L2.extract (2 * k) (2 * k + 2) = sOf [a, b] := by
                rw [← sOf_self (L2.extract (2 * k) (2 * k + 2))]
                congr 1
                have : (L2.extract (2 * k) (2 * k + 2)).data.toList = (L2.data.toList.drop (2 * k)).take 2 := by
                  simp
                rw [this, hab]
                rfl
              have hst := hinv.out
              rw [hab, unhexL_step] at hst
              have P := pu16_any a b wr HEr.out
              obtain ⟨hat, hfz⟩ := htr.out.at (by omega)
              have HST := Lib.hid hst
              have hrl := Lib.hid hrk
              clear hinv hst hab
              go_wp2_with fail
              have hst := HST.out
              cases hua : unhexG a with
              | none =>
                rw [hua] at P hst
                simp only [Option.bind_none, Option.map_none] at P hst
                refine P.mono ?_
                rintro e w3 ⟨hb3, T, p, rfl⟩
                have hq4 := HQ3.out
                rw [hst] at hq4
                have HQ4 := Lib.hid hq4
                have HT5 := Lib.hid (HT4r.out.below hb3)
                have HB5 := Lib.hid (HBr.out.trans (hb3.mono HBr.out.size))
                have e1 := neq_nil w3 T p
                clear hb3 hst hq4 P hua HST hat hfz m4 hext
                go_wp2_with (first | (refine wpList_loadT rfl _ rfl _ rfl _ _ HT5.out ?_) | (refine wpList_storeT rfl _ _ rfl _ 0 zero8 rfl rfl _ _ HT5.out ?_))
                refine retT w.heap.size 0 zero8 (.bool false) rfl rfl rfl (HT5.out.set _ _) rfl ⟨?_, below_setRow HB5.out (Nat.le_refl _) _⟩
                rw [HQ4.out]
                rfl
              | some x =>
                cases hub : unhexG b with
                | none =>
                  rw [hua, hub] at P hst
                  simp only [Option.bind_some, Option.map_none, Option.bind_none] at P hst
                  refine P.mono ?_
                  rintro e w3 ⟨hb3, T, p, rfl⟩
                  have hq4 := HQ3.out
                  rw [hst] at hq4
                  have HQ4 := Lib.hid hq4
                  have HT5 := Lib.hid (HT4r.out.below hb3)
                  have HB5 := Lib.hid (HBr.out.trans (hb3.mono HBr.out.size))
                  have e1 := neq_nil w3 T p
                  clear hb3 hst hq4 P hua hub HST hat hfz m4 hext
                  go_wp2_with (first | (refine wpList_loadT rfl _ rfl _ rfl _ _ HT5.out ?_) | (refine wpList_storeT rfl _ _ rfl _ 0 zero8 rfl rfl _ _ HT5.out ?_))
                  refine retT w.heap.size 0 zero8 (.bool false) rfl rfl rfl (HT5.out.set _ _) rfl ⟨?_, below_setRow HB5.out (Nat.le_refl _) _⟩
                  rw [HQ4.out]
                  rfl
                | some y =>
                  rw [hua, hub] at P hst
                  simp only [Option.bind_some, Option.map_some] at P hst
                  obtain ⟨zb, hzb, hzo⟩ : ∃ zb : UInt8, 16 * x + y = zb.toNat ∧ UInt8.ofNat (16 * x + y) = zb := by
                    refine ⟨UInt8.ofNat (16 * x + y), ?_, rfl⟩
                    have h1 := unhexG_lt hua
                    have h2 := unhexG_lt hub
                    rw [UInt8.toNat_ofNat']
                    omega
                  rw [hzb] at P
                  rw [hzo] at hst
                  have hnew : unhexL unhexG L2.data.toList = (unhexL unhexG (L2.data.toList.drop (2 * (k + 1)))).map ((r ++ [zb]) ++ ·) := by
                    rw [hst]
                    cases unhexL unhexG (L2.data.toList.drop (2 * (k + 1))) <;> simp
                  have HNEW := Lib.hid hnew
                  have hzl := zb.toNat_lt
                  refine P.mono ?_
                  rintro e w3 ⟨hb3, rfl⟩
                  have HT6 := Lib.hid (htr.out.below hb3)
                  obtain ⟨⟨y0, hat3⟩, hfz3⟩ := (htr.out.below hb3).at (by omega)
                  rw [hrk] at hat3 hfz3
                  have HG3 := Lib.hid (grownBy_trans hgr.out (grownBy_of_below hb3 _))
                  have e1 := neq_nils w3
                  clear hb3 hst P hua hub HST hat hfz m4 hext hzb hzo hnew htr hgr
                  go_wp2
                  refine ⟨⟨k + 1, r ++ [zb], by omega, rfl, by simp; exact hrk, HNEW, Lib.hid (grownBy_trans HG3.out (grownBy_setCell w3 ⟨w2.heap.size, 1 + k, none⟩ _)), Lib.hid ?_⟩, by simp [intOf]; omega⟩
                  have := HT6.out.step zb (by omega)
                  rw [hrk] at this
                  exact this
            · have hk8' : k = 8 := by omega
              have hall := hinv.out
              rw [List.drop_of_length_le (by omega)] at hall
              have hq4 := HQ3.out
              rw [hall] at hq4
              obtain ⟨vn, hvn⟩ : ∃ n : Nat, v = n := ⟨v.toNat, by omega⟩
              subst hvn
              obtain ⟨hh, hhh⟩ : ∃ h, h = eightOf r := ⟨_, rfl⟩
              have hq5 : q = checkEnd l key.data.toList vn hh := by rw [hq4, hhh]; simp [unhexL]
              rw [← hhh] at htr
              have HTg := Lib.hid htr.out
              have hq6 := hq5
              unfold checkEnd at hq6
              rw [Int.toNat_natCast] at hq6
              have HQ6 := Lib.hid hq6
              have hvb' : vn < 9223372036854775808 := by omega
              clear hall hq4 hhh hq5 hq6 hinv htr
              go_wp2_with (refine wpList_loadT rfl _ rfl _ rfl _ _ HTg.out ?_)
              refine (fsign_any vn hh key _ hvb' hk HEr.out).mono ?_
              rintro e w5 ⟨rfl, hb5⟩
              have HTg5 := Lib.hid (HTg.out.below hb5)
              have HT45 := Lib.hid (HT4r.out.below hb5)
              have HB5 := Lib.hid (HBr.out.trans (hb5.mono HBr.out.size))
              have hq7 := HQ6.out
              obtain ⟨tx, htx⟩ : ∃ t, t = signOf vn hh key.data.toList := ⟨_, rfl⟩
              rw [← htx] at hq7 ⊢
              clear htx hb5 HQ6 m4
              by_cases he : tx = l
              · rw [if_pos he] at hq7
                have HQ7 := Lib.hid hq7
                subst he
                clear hq7
                go_wp2_with (first | (refine wpList_loadT rfl _ rfl _ rfl _ _ HTg5.out ?_) | (refine wpList_storeT rfl _ _ rfl _ vn hh rfl rfl _ _ HT45.out ?_))
                refine retT w.heap.size vn hh (.bool true) rfl rfl rfl (HT45.out.set _ _) rfl ⟨?_, below_setRow HB5.out (Nat.le_refl _) _⟩
                rw [HQ7.out]
              · rw [if_neg he] at hq7
                have HQ7 := Lib.hid hq7
                have c6 : (tx == l) = false := beq_eq_false_iff_ne.2 he
                clear hq7
                go_wp2_with (first | (refine wpList_loadT rfl _ rfl _ rfl _ _ HT45.out ?_) | (refine wpList_storeT rfl _ _ rfl _ 0 zero8 rfl rfl _ _ HT45.out ?_))
                refine retT w.heap.size 0 zero8 (.bool false) rfl rfl rfl (HT45.out.set _ _) rfl ⟨?_, below_setRow HB5.out (Nat.le_refl _) _⟩
                rw [HQ7.out]
                rfl
      · rw [hv] at hq3
        simp only at hq3
        have e0 := neq_nil w2 T p
        have HQ3 := Lib.hid hq3
        clear hq3 hv
        go_wp2_with (first | (refine wpList_loadT rfl _ rfl _ rfl _ _ HT2.out ?_) | (refine wpList_storeT rfl _ _ rfl _ 0 zero8 rfl rfl _ _ HT2.out ?_))
        refine retT w.heap.size 0 zero8 (.bool false) rfl rfl rfl (HT2.out.set _ _) rfl ⟨?_, below_setRow HB2.out (Nat.le_refl _) _⟩
        rw [HQ3.out]
        rfl
    · have d16 : ((L2.size : Int) != 16) = true := by simp; omega
      have hq2 : q = noThree := by
        rw [HQ1.out]
        show (if L2.data.toList.length ≠ 16 then noThree else _) = _
        rw [if_pos (by simpa using h16)]
      have HQ2 := Lib.hid hq2
      clear hq2 HQ1
      go_wp2_with (first | (refine wpList_loadT rfl _ rfl _ rfl _ _ HT1.out ?_) | (refine wpList_storeT rfl _ _ rfl _ 0 zero8 rfl rfl _ _ HT1.out ?_))
      refine retT w.heap.size 0 zero8 (.bool false) rfl rfl rfl (HT1.out.set _ _) rfl ⟨?_, below_setRow HB1.out (Nat.le_refl _) _⟩
      rw [HQ2.out]
      rfl
  · have d5 : ((n1 : Int) != 5) = true := by simp; omega
    have hq2 : q = noThree := by
      rw [HQ1.out]
      match Ls, hn1 with
      | [], _ => rfl
      | [_], _ => rfl
      | [_, _], _ => rfl
      | [_, _, _], _ => rfl
      | [_, _, _, _], _ => rfl
      | [_, _, _, _, _], h => exact absurd h h5
      | _ :: _ :: _ :: _ :: _ :: _ :: _, _ => rfl
    have HQ2 := Lib.hid hq2
    clear hq2 HQ1 z0 z1 z2 z3 z4 z5 z6 z7 z8
    go_wp2_with (first | (refine wpList_loadT rfl _ rfl _ rfl _ _ HT1.out ?_) | (refine wpList_storeT rfl _ _ rfl _ 0 zero8 rfl rfl _ _ HT1.out ?_))
    refine retT w.heap.size 0 zero8 (.bool false) rfl rfl rfl (HT1.out.set _ _) rfl ⟨?_, below_setRow HB1.out (Nat.le_refl _) _⟩
    rw [HQ2.out]
    rfl
end Go.Proofs.YtefccfakhgdfbabGreatDoor
end
