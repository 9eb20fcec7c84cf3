/-
  tilesref.Files: the files of some entries. Conditions: at most 2^20 entries of at most 20 bytes.
  tileslaw's World.files: the files of a World's store as the document's. Conditions: at most 10^12 files.
  tileslaw's World.opens: an opening that may fail by the store. Conditions: the World is sound and has no publisher.
-/
import Derived.Test.YtefccfakhgdfbabGreatDoorPb38
import Derived.Test.YtefccfakhgdfbabGreatDoorPb10
import Derived.Test.YtefccfakhgdfbabGreatDoorPb08
import Derived.Test.YtefccfakhgdfbabGreatDoorPb35
import Derived.Test.YtefccfakhgdfbabGreatDoorPb37
import Derived.Deep.RegionLaw
import Derived.Deep.RegionHeld3
import Derived.Deep.Cut
set_option linter.unusedVariables false
set_option linter.unusedSimpArgs false
section
namespace Go.Proofs.YtefccfakhgdfbabGreatDoor
open Go.RowKit
theorem filesR_snoc (r : List (List UInt8)) : ∀ (rs : List (List (List UInt8))) (t : Int), filesR t (rs ++ [r]) = filesR t rs ++ levelF (t + (rs.length : Int)) r
  | [], t => by simp [filesR]
  | x :: rs, t => by
    rw [List.cons_append, filesR, filesR_snoc r rs (t + 1), filesR, List.append_assoc, List.length_cons, show t + 1 + (rs.length : Int) = t + ((rs.length + 1 : Nat) : Int) by omega]
theorem levelF_le (t : Int) (r : List (List UInt8)) : (levelF t r).length ≤ r.length := by rw [levelF_len]; omega
theorem filesR_le {k : Nat} : ∀ (rs : List (List (List UInt8))) (t : Int), (∀ r ∈ rs, r.length ≤ k) → (filesR t rs).length ≤ rs.length * k
  | [], t, _ => by simp [filesR]
  | r :: rs, t, h => by
    rw [filesR, List.length_append, List.length_cons, Nat.add_mul, Nat.one_mul]
    have h1 := levelF_le t r
    have h2 := h r (by simp)
    have h3 := filesR_le rs (t + 1) fun x hx => h x (List.mem_cons_of_mem _ hx)
    omega
theorem strs_sub {w : World} {b off n c i j : Nat} {ss : List ByteArray} (h : StrsAt w (.slice (some ⟨b, off, none⟩) n c) ss) (hij : i ≤ j) (hj : j ≤ ss.length) : StrsAt w (.slice (some ⟨b, off + i, none⟩) (j - i) (c - i)) ((ss.drop i).take (j - i)) :=
  strs_take (strs_drop h (Nat.le_trans hij hj)) (by rw [List.length_drop]; omega)
theorem lists_sizes {ds : List ByteArray} {k : Nat} (h : ∀ x ∈ lists ds, x.length ≤ k) : ∀ s ∈ ds, s.size ≤ k := fun s hs => by
  have h1 := h s.data.toList (by unfold lists; exact List.mem_map.2 ⟨s, hs, rfl⟩)
  simpa using h1
set_option maxRecDepth 100000 in
set_option maxHeartbeats 4000000 in
theorem rfiles_any (w : World) (v : Value) (ss : List ByteArray) (h : StrsAt w v ss) (hn : ss.length ≤ 1048576) (hsz : ∀ s ∈ ss, s.size ≤ 20) :
    Calls Tryz.prog 98 #[v] w fun e w' => ∃ v', e = .returned v' ∧ OwnFiles w' v' (filesP (lists ss)) ∧ Below w.heap.size w w' ∧ ∀ k, v'.ownBlock = some k → w.heap.size ≤ k := by
  have HH := Lib.hid h
  have HZ := Lib.hid hsz
  obtain ⟨av, cv, rfl, hcv, hx⟩ := h
  have HX := Lib.hid hx
  obtain ⟨n, hnn⟩ : ∃ n, n = ss.length := ⟨_, rfl⟩
  rw [← hnn]
  rw [← hnn] at hn hcv
  have HNN := Lib.hid hnn
  clear hsz hx hnn
  obtain ⟨i0, hi0, hz0, hs0, hby0⟩ := info_parts info_str
  go_enter Tryz.func98, Tryz.ntmps98
  go_wp2_with fail
  go_loopg [4, 5] n (fun gg s4 s5 wr => ∃ i : Nat, i ≤ n ∧ n - i ≤ gg ∧ s5 = .int .i64 i ∧ ∃ ds, Aside (OwnStrs wr w.heap.size s4 ds) ∧ Aside (lists ds = ((lists ss).take i).map encE) ∧ Aside (Below w.heap.size w wr))
  case atStart => exact ⟨0, Nat.zero_le _, by omega, rfl, [], World.ownsRow_nil _ _ _ _, by show lists [] = _; simp [lists], Below.refl _ _⟩
  case round =>
    obtain ⟨i, hi, hgg, rfl, ds, HO, HDS, HB⟩ := hrel
    have hdl : ds.length = i := by rw [← lists_len, HDS.out, List.length_map, List.length_take, lists_len, ← HNN.out]; omega
    have HDL := Lib.hid hdl
    clear hdl
    by_cases hlt : i < n
    · have hltz : (i : Int) < (n : Int) := by omega
      obtain ⟨s, hs⟩ : ∃ s, ss[i]? = some s := ⟨_, List.getElem?_eq_getElem (by rw [← HNN.out]; exact hlt)⟩
      obtain ⟨bv, ov, rfl, _⟩ := HX.out i (.string s) (by rw [List.getElem?_map, hs]; rfl)
      have hsub := strs_sub (i := i) (j := i + 1) (by rw [HNN.out]; exact HH.out.below HB.out : StrsAt wr (.slice (some ⟨bv, ov, none⟩) n cv) ss) (by omega) (by rw [← HNN.out]; omega)
      have hone : (ss.drop i).take (i + 1 - i) = [s] := by
        rw [show i + 1 - i = 1 by omega, List.take_one, List.head?_drop, hs]; rfl
      rw [hone] at hsub
      have hcon := rbundle_any _ [s] wr hsub (by simp)
      have hbu := bundle_one (l := s.data.toList) (by have := HZ.out s (List.mem_of_getElem? hs); simpa using this)
      unfold rbPost at hcon
      rw [show bss [s] = [s.data.toList] from rfl, hbu] at hcon
      have hc1 : ¬ cv = i := by omega
      have h1 : i + 1 - i = 1 := by omega
      rw [h1] at hcon
      have HCON := Lib.hid hcon
      have HS := Lib.hid hs
      clear hsub hone hcon hbu hs h1
      go_wp2_with fail
      refine HCON.out.mono ?_
      rintro e w2 ⟨rfl, hb2⟩
      have HB2 := Lib.hid (HB.out.trans (hb2.mono HB.out.size))
      have HO2 := Lib.hid (show OwnStrs w2 w.heap.size u4 ds from ownsRow_below HO.out hb2)
      have hdl2 : ds.length ≤ 1099511627776 := by have := HDL.out; omega
      clear hb2
      go_wp2_with (first
        | (at_builtin; refine wpList_app1 rfl _ _ 22 rfl w.heap.size 9 i0 (.string ⟨#[]⟩) 16 Tryz.underlying22 hi0 hz0 hs0 hby0 rfl (by decide) u4 ds.length (ds.map Value.string) rfl HO2.out _ rfl rfl hdl2 HB2.out.size ?_; intro v3 w3 hr3 hg3 hne3; have HR3 := Lib.hid hr3; have HB3 := Lib.hid (HB2.out.grown hg3 HB2.out.size (fun j hj => (HO2.out.lt j hj).1)); clear hr3 hg3 hne3))
      go_roundg (n - (i + 1))
      case measure => omega
      case rel =>
        refine ⟨i + 1, by omega, by omega, by go_num, ds ++ [⟨(encE s.data.toList).toArray⟩], ?_, ?_, HB3.out⟩
        · show OwnStrs _ _ _ _
          unfold OwnStrs
          simpa using HR3.out
        · show lists _ = _
          rw [lists_append, HDS.out, List.take_add_one, lists_get?, HS.out, List.map_append]
          rfl
    · have hltz : ¬ (i : Int) < (n : Int) := by omega
      have hin : i = n := by omega
      have hds : lists ds = (lists ss).map encE := by rw [HDS.out, hin, List.take_of_length_le (by rw [lists_len, ← HNN.out]; omega)]
      have hsz : ∀ s ∈ ds, s.size ≤ 1048576 := lists_sizes fun x hx => by
        rw [hds] at hx
        obtain ⟨e, he, rfl⟩ := List.mem_map.1 hx
        obtain ⟨s, hs, rfl⟩ := List.mem_map.1 he
        have := HZ.out s hs
        simp [encE]
        omega
      have hcon := rlevel_any wr (.slice none 0 0) [] (World.ownsRow_nil _ _ _ _) (-1) u4 ds (ownsRow_mono HO.out (Nat.zero_le _)) (by have := HDL.out; show 0 + _ ≤ _; omega) hsz
      have HCON := Lib.hid hcon
      have HDS2 := Lib.hid hds
      have hn11 : nLev n ≤ 11 := nLev_small hn
      clear hcon hds hsz hltz
      go_wp2_with fail
      refine HCON.out.mono ?_
      rintro e w2 ⟨v2, rfl, ho2, hf2, hm2⟩
      have hb2 : Below w.heap.size w w2 := HB.out.trans (hf2.below HB.out.size fun k _ e => by simp [Value.ownBlock] at e)
      have hnew2 : ∀ k, v2.ownBlock = some k → w.heap.size ≤ k := fun k hk => by
        rcases hm2 k hk with h | h
        · simp [Value.ownBlock] at h
        · exact Nat.le_trans HB.out.size h
      have HB2 := Lib.hid hb2
      have HO2 := Lib.hid (show OwnFiles w2 v2 (filesR (-1) ((rowsOf (lists ss)).take 1)) by
        rw [show (rowsOf (lists ss)).take 1 = [(lists ss).map encE] from rfl, filesR, filesR, List.append_nil, ← HDS2.out]
        exact ho2)
      have HNEW2 := Lib.hid hnew2
      clear ho2 hf2 hm2 hb2 hnew2
      go_wp2_with fail
      go_loopg [3, 8, 9] (nLev n) (fun gg s3 s8 s9 wr => ∃ lv u : Nat, lv ≤ nLev n ∧ nLev n - lv ≤ gg ∧ s9 = .int .i64 lv ∧ s8 = .int .i64 u ∧ Aside (u = 4 ^ lv) ∧ u ≤ 4194304 ∧ 0 < u ∧ Aside (OwnFiles wr s3 (filesR (-1) ((rowsOf (lists ss)).take (lv + 1)))) ∧ Aside (Below w.heap.size w wr) ∧ Aside (∀ k, s3.ownBlock = some k → w.heap.size ≤ k))
      case atStart => exact ⟨0, 1, by omega, by omega, rfl, rfl, rfl, by omega, by omega, HO2.out, HB2.out, HNEW2.out⟩
      case round =>
        obtain ⟨lv, u, hlv, hgg2, rfl, rfl, HU, hu4, hu0, HF, HBF, HNEW⟩ := hrel
        by_cases hun : u ≤ n
        · have hunz : (u : Int) ≤ (n : Int) := by omega
          go_wp2_with fail
          obtain ⟨B, hB⟩ : ∃ B, B = wr.heap.size := ⟨_, rfl⟩
          have HBB := Lib.hid hB
          clear hB
          go_loopg [4, 10] n (fun gg s4 s10 wx => ∃ j : Nat, j * u ≤ n ∧ n - j ≤ gg ∧ s10 = .int .i64 j ∧ ∃ ds, Aside (OwnStrs wx B s4 ds) ∧ Aside (lists ds = ((levelRow (lists ss) lv).take j).map fun (x : Hsh) => x.toList) ∧ Aside (Below B wr wx))
          case atStart => exact ⟨0, by omega, by omega, rfl, [], World.ownsRow_nil _ _ _ _, by show lists [] = _; simp [lists], Below.refl _ _⟩
          case round =>
            obtain ⟨j, hjn, hgg3, rfl, ds2, HO3, HDS3, HB3⟩ := hrel
            obtain ⟨hi, hhi⟩ : ∃ hi, hi = (j + 1) * u := ⟨_, rfl⟩
            obtain ⟨lo, hlo⟩ : ∃ lo, lo = j * u := ⟨_, rfl⟩
            have hlh : hi = lo + u := by rw [hhi, hlo, Nat.add_mul, Nat.one_mul]
            have hziL : (j : Int) * (u : Int) = (lo : Int) := by rw [hlo]; push_cast; rfl
            have hziH : ((j : Int) + 1) * (u : Int) = (hi : Int) := by rw [hhi]; push_cast; rfl
            rw [← hlo] at hjn
            have hjb : j ≤ n := by
              have := Nat.le_mul_of_pos_right j hu0
              omega
            have hhb : hi ≤ 8388608 := by omega
            have HHI := Lib.hid hhi
            have HLO := Lib.hid hlo
            clear hhi hlo
            by_cases hlt : hi ≤ n
            · have hltz : (hi : Int) ≤ (n : Int) := by omega
              obtain ⟨s, hs⟩ : ∃ s, ss[lo]? = some s := ⟨_, List.getElem?_eq_getElem (by rw [← HNN.out]; omega)⟩
              obtain ⟨bv, ov, rfl, _⟩ := HX.out lo (.string s) (by rw [List.getElem?_map, hs]; rfl)
              have hB3 := HB3.out
              rw [HBB.out] at hB3
              have hbw3 := HBF.out.trans (hB3.mono HBF.out.size)
              have hsub := strs_sub (i := lo) (j := hi) (by rw [HNN.out]; exact HH.out.below hbw3 : StrsAt wr (.slice (some ⟨bv, ov, none⟩) n cv) ss) (by omega) (by rw [← HNN.out]; omega)
              rw [show hi - lo = u by omega] at hsub
              have hlv12 : lv ≤ 11 := by omega
              have hpart := rootOf_part (lists ss) lv j (by omega) (by rw [lists_len, ← HNN.out, ← HU.out, ← HHI.out]; exact hlt)
              have hll : lists ((ss.drop lo).take u) = ((lists ss).drop (j * 4 ^ lv)).take (4 ^ lv) := by
                rw [← HU.out, ← HLO.out]
                unfold lists
                rw [List.map_take, List.map_drop]
              have hcon := rroot_any ((ss.drop lo).take u).length _ _ wr (Nat.le_refl _) hsub (by rw [List.length_take]; omega) (fun s hs => by have := HZ.out s (List.mem_of_mem_drop (List.mem_of_mem_take hs)); omega)
              rw [hll, hpart] at hcon
              have hrow : (levelRow (lists ss) lv)[j]? = some (fullRoot (lists ss) (2 * lv) j) := by
                unfold levelRow
                rw [List.getElem?_map, List.getElem?_range]
                · rfl
                · rw [lists_len, ← HNN.out, ← HU.out]
                  exact (Nat.le_div_iff_mul_le hu0).2 (by have := HHI.out; show (j + 1) * u ≤ n; omega)
              have HCON := Lib.hid hcon
              have HROW := Lib.hid hrow
              have HW3 := Lib.hid hbw3
              have hcl : ¬ cv = lo := by omega
              have hj1 : j + 1 ≤ n := by
                have := Nat.le_mul_of_pos_right (j + 1) hu0
                have := HHI.out
                omega
              have hdl2 : ds2.length ≤ 1099511627776 := by
                have h1 := HDS3.out
                have h2 := congrArg List.length h1
                rw [lists_len, List.length_map, List.length_take] at h2
                omega
              clear hs hsub hpart hll hcon hrow hbw3
              go_wp2_with fail
              refine HCON.out.mono ?_
              rintro e w5 ⟨rfl, hb5⟩
              have HB5 := Lib.hid (HB3.out.trans (hb5.mono (by rw [HBB.out]; exact hB3.size)))
              have HO5 := Lib.hid (show OwnStrs w5 B u4 ds2 from ownsRow_below HO3.out hb5)
              have hws : B ≤ w5.heap.size := by rw [HBB.out]; exact Nat.le_trans hB3.size hb5.size
              clear hb5
              go_wp2_with (first
                | (at_builtin; refine wpList_app1 rfl _ _ 22 rfl B 9 i0 (.string ⟨#[]⟩) 16 Tryz.underlying22 hi0 hz0 hs0 hby0 rfl (by decide) u4 ds2.length (ds2.map Value.string) rfl HO5.out _ rfl rfl hdl2 hws ?_; intro v6 w6 hr6 hg6 hne6; have HR6 := Lib.hid hr6; have HB6 := Lib.hid (HB5.out.grown hg6 hws (fun j hj => (HO5.out.lt j hj).1)); clear hr6 hg6 hne6))
              go_roundg (n - (j + 1))
              case measure => omega
              case rel =>
                refine ⟨j + 1, by rw [← HHI.out]; exact hlt, by omega, by go_num, ds2 ++ [HS (fullRoot (lists ss) (2 * lv) j)], ?_, ?_, ?_⟩
                · show OwnStrs _ _ _ _
                  unfold OwnStrs
                  simpa using HR6.out
                · show lists _ = _
                  rw [lists_append, HDS3.out, List.take_add_one, HROW.out, List.map_append]
                  rfl
                · exact HB6.out
            · have hltz : ¬ (hi : Int) ≤ (n : Int) := by omega
              have hjd : n / u ≤ j := by
                have h1 : n / u < j + 1 := (Nat.div_lt_iff_lt_mul hu0).2 (by have := HHI.out; omega)
                omega
              have hds : lists ds2 = (levelRow (lists ss) lv).map fun (x : Hsh) => x.toList := by
                rw [HDS3.out, List.take_of_length_le]
                unfold levelRow
                rw [List.length_map, List.length_range, lists_len, ← HNN.out, ← HU.out]
                exact hjd
              have hlvn : lv < nLev (lists ss).length := (nLev_iff _ _).2 (by rw [lists_len, ← HNN.out, ← HU.out]; exact hun)
              have hds2 : (rowsOf (lists ss))[lv + 1]? = some (lists ds2) := by rw [hds]; exact rowsOf_succ _ _ hlvn
              have hsz : ∀ s ∈ ds2, s.size ≤ 1048576 := lists_sizes fun x hx => by
                rw [hds] at hx
                obtain ⟨y, _, rfl⟩ := List.mem_map.1 hx
                simp
              have hfl : (filesR (-1) ((rowsOf (lists ss)).take (lv + 1))).length ≤ 12 * n := by
                have h1 := filesR_le (k := n) ((rowsOf (lists ss)).take (lv + 1)) (-1) fun r hr => by
                  have := rowsOf_short (List.mem_of_mem_take hr)
                  rw [lists_len, ← HNN.out] at this
                  exact this
                have h2 : ((rowsOf (lists ss)).take (lv + 1)).length * n ≤ 12 * n := Nat.mul_le_mul_right n (by rw [List.length_take]; omega)
                omega
              have hdl : ds2.length ≤ n := by
                have h2 := rowsOf_short (List.mem_of_getElem? hds2)
                rw [lists_len, lists_len, ← HNN.out] at h2
                exact h2
              have hu3 : OwnFiles wr u3 (filesR (-1) ((rowsOf (lists ss)).take (lv + 1))) := by
                have hB3 := HB3.out
                rw [HBB.out] at hB3
                exact ownsRow_below HF.out hB3
              have hcon := rlevel_any wr u3 _ hu3 (lv : Int) u4 ds2 (ownsRow_mono HO3.out (Nat.zero_le _)) (by omega) hsz
              have HCON := Lib.hid hcon
              have HDS4 := Lib.hid hds2
              have HLVN := Lib.hid hlvn
              clear hds hlvn hds2 hsz hfl hdl hu3 hcon hjd
              go_wp2_with fail
              refine HCON.out.mono ?_
              rintro e w5 ⟨v5, rfl, ho5, hf5, hm5⟩
              have HO5 := Lib.hid ho5
              have HF5 := Lib.hid hf5
              have HM5 := Lib.hid hm5
              clear ho5 hf5 hm5
              go_wp2_with fail
              have hB3 := HB3.out
              rw [HBB.out] at hB3
              have hlvl : lv < nLev n := by have := HLVN.out; rw [lists_len, ← HNN.out] at this; exact this
              go_roundg (nLev n - (lv + 1))
              case measure => omega
              case rel =>
                have hbw := HBF.out.trans (hB3.mono HBF.out.size)
                refine ⟨lv + 1, u * 4, by omega, by omega, by go_num, by go_num, ?_, by omega, by omega, ?_, ?_, ?_⟩
                · show u * 4 = 4 ^ (lv + 1)
                  rw [HU.out, Nat.pow_succ]
                · show OwnFiles _ _ _
                  have hl : ((rowsOf (lists ss)).take (lv + 1)).length = lv + 1 := by
                    rw [List.length_take, rowsOf_len, lists_len, ← HNN.out]
                    omega
                  rw [List.take_add_one, HDS4.out]
                  show OwnFiles _ _ (filesR (-1) (_ ++ [lists ds2]))
                  rw [filesR_snoc, hl, show (-1 : Int) + ((lv + 1 : Nat) : Int) = (lv : Int) by omega]
                  exact HO5.out
                · exact hbw.trans (HF5.out.below hbw.size fun k hk e => by have := HNEW.out k e; omega)
                · show ∀ k, _ → _
                  intro k hk
                  rcases HM5.out k hk with h | h
                  · exact HNEW.out k h
                  · exact Nat.le_trans hbw.size h
        · have hunz : ¬ (u : Int) ≤ (n : Int) := by omega
          go_wp2_with fail
          go_ret
          have hlv2 : lv = nLev n := by
            rcases Nat.lt_or_ge lv (nLev n) with h | h
            · have := (nLev_iff n lv).1 h
              have := HU.out
              omega
            · omega
          refine ⟨_, rfl, ?_, HBF.out, HNEW.out⟩
          have h1 := HF.out
          rw [List.take_of_length_le (by rw [rowsOf_len, lists_len, ← HNN.out]; omega)] at h1
          exact h1
end Go.Proofs.YtefccfakhgdfbabGreatDoor
end

section
namespace Go.Proofs.YtefccfakhgdfbabGreatDoor
open Go.RowKit
set_option maxRecDepth 100000 in
set_option maxHeartbeats 4000000 in
theorem wfiles_any (w : World) (p : Pl) (m : Wm) (h : WdIs w p m) (hn : m.d.files.length ≤ 1000000000000) :
    Calls Tryz.prog 57 #[.pointer (some ⟨p.gw, 0, none⟩)] w fun e w' => ∃ v' l', e = .returned v' ∧ w'.ownsRow w.heap.size 194 2 v' l'.length (fileRow l') ∧ l'.Perm m.d.files ∧ Below w.heap.size w w' := by
  obtain ⟨⟨c0, _⟩, _⟩ := h.heads
  have HC := Lib.hid (dfiles_any w p.gd p.v m.d h.disk (by omega))
  obtain ⟨i0, hi0, hz0, hs0, hby0⟩ := info_fileR
  have HI := Lib.hid (⟨hi0, hz0, hs0, hby0⟩ : _ ∧ _ ∧ _ ∧ _)
  clear h hi0 hz0 hs0 hby0
  go_enter Tryz.func57, Tryz.ntmps57
  go_wp2_with (go_at_call 30; refine HC.out.mono ?_; rintro e w1 ⟨v1, l1, rfl, ho1, hp1, hb1⟩; have HO1 := Lib.hid ho1; have HP1 := Lib.hid hp1; have HB1 := Lib.hid hb1; obtain ⟨a1, cp1, rfl⟩ := own_any ho1; have hl1 : l1.length ≤ 1000000000000 := (by rw [hp1.length_eq]; exact hn); clear ho1 hp1 hb1)
  go_loopw [3, 5] (fun s3 s5 wr => ∃ k : Nat, k ≤ l1.length ∧ s5 = .int .i64 k ∧ Aside (wr.ownsRow w.heap.size 194 2 s3 (l1.take k).length (fileRow (l1.take k))) ∧ Aside (wr.ownsRow w.heap.size 73 2 (.slice a1 l1.length cp1) l1.length (fileRow l1)) ∧ Aside (Below w.heap.size w wr)) (fun _ s5 _ => l1.length - (intOf s5).toNat)
  case atStart => exact ⟨0, Nat.zero_le _, rfl, World.ownsRow_nil _ _ _ _, HO1.out, HB1.out⟩
  case round =>
    obtain ⟨k, hk, rfl, HR, HO, HB⟩ := hrel
    by_cases hlt : k < l1.length
    · obtain ⟨x, hx⟩ : ∃ x, l1[k]? = some x := ⟨_, List.getElem?_eq_getElem hlt⟩
      obtain ⟨b1, rfl⟩ : ∃ b1, a1 = some ⟨b1, 0, none⟩ := by
        rcases HO.out.2 with ⟨_, h0⟩ | ⟨b, cap, cur, e, _⟩
        · omega
        · simp at e; exact ⟨b, e.1⟩
      obtain ⟨f1, f2⟩ := fileRow_at l1 k x hx
      have k1 := own_cells HO.out (k * 2) _ f1
      have k2 := own_cells HO.out (k * 2 + 1) _ f2
      rw [Addr.add_lit] at k1 k2
      simp only [Nat.zero_add] at k1 k2
      have hlt1 := cell_lt k1
      obtain ⟨ln, hln⟩ : ∃ ln, ln = (l1.take k).length := ⟨_, rfl⟩
      have hlk : ln = k := by rw [hln, List.length_take]; omega
      have hrow : wr.ownsRow w.heap.size 194 2 u3 ln (fileRow (l1.take k)) := by rw [hln]; exact HR.out
      have HROW := Lib.hid hrow
      have HX := Lib.hid hx
      have HLK := Lib.hid hlk
      have hln2 : ln + 1 ≤ 1099511627776 := by omega
      have hkz : (0 : Int) ≤ (k : Int) := by omega
      have hkl : (k : Int) < (l1.length : Int) := by omega
      have hz := HB.out.size
      clear hln hx hlk hrow f1 f2
      go_wp2_with fail
      go_region_law (refine step_appM rfl _ _ _ rfl w.heap.size 194 i0 _ 2 32 Tryz.underlying123 HI.out.1 HI.out.2.1 HI.out.2.2.1 HI.out.2.2.2 rfl (by decide) (by decide) u3 ln _ rfl (ownsRow_below HROW.out ((below_drew wr).alloc (Nat.le_refl _) _)) ⟨wr.heap.size, 0, none⟩ 1 1 [.string x.1, .string x.2] rfl rfl (cells2_new _ _ _ _ _ rfl) (by simp [Value.oneCell']) (by decide) hln2 (by simp; omega) ?_; intro v' w' h2 h3 h4 h5; have H2 := Lib.hid h2; have H3 := Lib.hid h3; clear h2 h3 h4 h5)
      all_goals (
        go_wp2_with fail
        go_roundw
        case rel =>
          refine ⟨k + 1, by omega, by go_num, ?_, ?_, ?_⟩
          · have h1 := H2.out
            have e : l1.take (k + 1) = l1.take k ++ [x] := by rw [List.take_add_one, HX.out]; rfl
            have h0 : (l1.take k).length = k := by rw [List.length_take]; omega
            show w'.ownsRow _ _ _ v' _ _
            rw [e, fileRow_snoc, List.length_append, List.length_singleton, h0]
            have h2 := HLK.out
            rw [h2] at h1
            exact h1
          · exact ownsRow_fr (ownsRow_below HO.out ((below_drew wr).alloc (Nat.le_refl _) _)) (Fr.ofGrown (S := fun k => u3.ownBlock = some k) H3.out fun k _ e => e) fun k hk e => by
              obtain ⟨C, hC⟩ := ownBlock_type HO.out hk
              obtain ⟨C', hC'⟩ := ownBlock_type HROW.out e
              exact heap_ne hC hC' (by decide) rfl
          · have hb1 : Below w.heap.size w (wr.drew.alloc (.cells #[.string x.1, .string x.2] 194)) := (HB.out.drew).alloc hz _
            exact hb1.grown H3.out hb1.size fun j hj => (HROW.out.lt j hj).1
        case measure => simp [intOf]; omega)
    · have hlt' : ¬ (k : Int) < (l1.length : Int) := by omega
      have hkl : k = l1.length := by omega
      have HK := Lib.hid hkl
      clear hkl
      go_wp2
      go_ret
      refine ⟨u3, rfl, l1, ?_, HP1.out, HB.out⟩
      have h1 := HR.out
      rw [HK.out, List.take_length] at h1
      exact h1
end Go.Proofs.YtefccfakhgdfbabGreatDoor
end

section
namespace Go.Proofs.YtefccfakhgdfbabGreatDoor
open Go.RowKit
theorem st_keep {w : World} {g t i : Nat} {v x y : Value} (h : w.cell? ⟨g, i, none⟩ = some v) (hne : g ≠ t) : ((w.setCell ⟨t, 0, none⟩ x).setCell ⟨t, 1, none⟩ y).cell? ⟨g, i, none⟩ = some v :=
  ((Fr.set1 w t 0 x).set 1 y).cell h hne
theorem pop_val {w : World} {gd : Nat} {v : Value} {d : Dk} {key : ByteArray} {B : Nat} {e : Ending} {w' : World} (h : popPost w gd v d key B e w') : ∃ (lv : Value) (k : Int) (p : ByteArray), e = .returned (.tuple #[lv, toldV k p]) := by
  obtain ⟨d', _, _, ⟨p, _, rfl⟩ | ⟨k, p, _, _, rfl⟩ | ⟨es, n, gl, g, _, _, rfl, _⟩⟩ := h
  · exact ⟨_, _, _, rfl⟩
  · exact ⟨_, _, _, rfl⟩
  · exact ⟨_, _, _, rfl⟩
theorem pop_fr {w : World} {gd : Nat} {v : Value} {d : Dk} {key : ByteArray} {B : Nat} {e : Ending} {w' : World} (h : popPost w gd v d key B e w') : Fr (· = gd) w w' := by
  obtain ⟨d', _, h2, _⟩ := h
  exact h2
/-- Behind an opening: the publisher, and what is told, in a variable. -/
def PopSt (w : World) (gd : Nat) (v : Value) (d : Dk) (key : ByteArray) (B : Nat) (lv : Value) (t : Nat) (w' : World) : Prop :=
  ∃ (d' : Dk) (k : Int) (p : ByteArray), DiskAt w' gd v d' ∧ Fr (· = gd) w w' ∧ ToldAt' w' t k p ∧ w.heap.size ≤ t ∧
    ((Hurt B d d' ∧ lv = .pointer none ∧ k = 8) ∨
     (∃ kn : Nat, Calm B d d' ∧ OpensTo d.files key (.bad kn p) ∧ lv = .pointer none ∧ k = kn) ∨
     (∃ es n gl g, Calm B d d' ∧ OpensTo d.files key (.good es n) ∧ lv = .pointer (some ⟨gl, 0, none⟩) ∧ k = 0 ∧ PlIs w' gl g ∧ w.heap.size ≤ gl ∧ Fresh0 w gd key es g w'))
theorem toldV_inj {k k' : Int} {p p' : ByteArray} {a b : Value} (h : Ending.returned (.tuple #[a, toldV k p]) = .returned (.tuple #[b, toldV k' p'])) : a = b ∧ k = k' ∧ p = p' := by
  simp at h
  exact ⟨h.1, h.2.1, h.2.2⟩
theorem pop_st {w W w7 w8 : World} {gd : Nat} {v : Value} {d : Dk} {key : ByteArray} {B : Nat} {lv : Value} {k : Int} {p : ByteArray} {t : Nat} (hW : Below w.heap.size w W) (hg : gd < w.heap.size) (h : popPost W gd v d key B (.returned (.tuple #[lv, toldV k p])) w7) (h8 : Below w7.heap.size w7 w8)
    (ht : ToldAt' w8 t 0 ⟨#[]⟩) (htw : w.heap.size ≤ t) : PopSt w gd v d key B lv t ((w8.setCell ⟨t, 0, none⟩ (.int .i64 k)).setCell ⟨t, 1, none⟩ (.string p)) := by
  obtain ⟨d', hD, hF, hR⟩ := h
  have ts := told_set (m := k) (t := p) ht
  have hk := kinds_one ht
  refine ⟨d', k, p, (hD.below h8).kept ts.2 hk (by decide) (by decide), ?_, ts.1, htw, ?_⟩
  · exact ((Fr.ofBelow hW).trans (hF.trans (Fr.ofBelow h8))).step ts.2 fun i hi e => by subst e; omega
  · rcases hR with ⟨p', h1, he⟩ | ⟨kn, p', h1, h2, he⟩ | ⟨es, n, gl, g, h1, h2, he, h3, h4, h5⟩
    · obtain ⟨e1, e2, e3⟩ := toldV_inj he
      exact .inl ⟨h1, e1, e2⟩
    · obtain ⟨e1, e2, e3⟩ := toldV_inj he
      exact .inr (.inl ⟨kn, h1, by rw [e3]; exact h2, e1, e2⟩)
    · obtain ⟨e1, e2, e3⟩ := toldV_inj he
      refine .inr (.inr ⟨es, n, gl, g, h1, h2, e1, e2, ?_, Nat.le_trans hW.size h4, ?_⟩)
      · exact heap_kept ((h8.block _ (lt_of_heap h3)).trans h3) ts.2 hk (by decide)
      · obtain ⟨ve, vl, vs, a, b, c⟩ := (h5.below h8).kept ts.2 hk (by decide) (by decide)
        exact ⟨ve, vl, vs, a, Nat.le_trans hW.size b, fun i hi => Nat.le_trans hW.size (c i hi)⟩
theorem told_alloc (w : World) (k : Int) (p : ByteArray) : w.alloc (.cells #[.int .i64 k, .string p] 29) = ((w.alloc (.cells #[.int .i64 0, .string ⟨#[]⟩] 29)).setCell ⟨w.heap.size, 0, none⟩ (.int .i64 k)).setCell ⟨w.heap.size, 1, none⟩ (.string p) := by rw [World.setCell_alloc_at _ _ _ _ _ rfl, World.setCell_alloc_at _ _ _ _ _ rfl]; simp
theorem told_pop {w1 w7 : World} {gd : Nat} {v : Value} {d : Dk} (hD : DiskAt w1 gd v d) (hF : Fr (· = gd) (w1.alloc (.cells #[.int .i64 0, .string ⟨#[]⟩] 29)).drew w7) : ToldAt' w7 w1.heap.size 0 ⟨#[]⟩ :=
  heap_kept (w := (w1.alloc (.cells #[.int .i64 0, .string ⟨#[]⟩] 29)).drew) (told_new w1) hF (kinds_one (hD.below ((below_alloc w1 _).drew)).1) (by decide)
/-- A step of a World that is right: it goes on. -/
def StepOk (w : World) (p : Pl) (m : Wm) (U : List Nat) (K : Nat) (e : Ending) (w' : World) : Prop :=
  e = .returned (.bool true) ∧ ∃ p' m', p'.gw = p.gw ∧ m'.key = m.key ∧ WdIs w' p' m' ∧ GoodOr m' U K ∧ Fr (WdS p m) w w' ∧ Sub w (WdS p m) (WdS p' m')
theorem gd_wd {p : Pl} {m : Wm} {k : Nat} (h : k = p.gd) : WdS p m k := .inr (.inl (.inl h))
theorem WdIs.gg {w : World} {p : Pl} {m : Wm} (h : WdIs w p m) : ¬ p.gw = p.gd := fun e => heap_ne h.cells h.disk.1 (by decide) e
set_option maxRecDepth 100000 in
set_option maxHeartbeats 4000000 in
theorem wopens_any (f : Nat → Addr) (w : World) (p : Pl) (m : Wm) (U : List Nat) (K : Nat) (h : WdIs w p m) (hG : Good m U K) (hl : m.l = none) (hfo : m.foreign = false) (hh : m.d.hit = false) (hE : EnvS f (WdS p m) w) (hU : U.length ≤ 16384) (hK : K ≤ 800000000000) (hkey : m.key.size ≤ 1048600) :
    Calls Tryz.prog 47 #[.pointer (some ⟨p.gw, 0, none⟩)] w (StepOk w p m U (K + 1048576)) := by
  have hgg := h.gg
  have hgl := h.disk.lt
  have hfl : m.d.files.length ≤ 1000000000000 := by have := hG.sane.len; omega
  have HW1 := Lib.hid (wfiles_any w p m h hfl)
  have HH := Lib.hid h
  have HG := Lib.hid hG
  have HE := Lib.hid hE
  have HL := Lib.hid hl
  have HFO := Lib.hid hfo
  have HHIT := Lib.hid hh
  clear h hG hE hl hfo hh
  go_enter Tryz.func47, Tryz.ntmps47
  go_wp2_with (go_at_call 57; refine HW1.out.mono ?_; rintro e w1 ⟨v1, l1, rfl, ho1, hp1, hb1⟩; have HO1 := Lib.hid ho1; have HP1 := Lib.hid hp1; have HB1 := Lib.hid hb1; obtain ⟨a1, cp1, rfl⟩ := own_any ho1; clear ho1 hp1 hb1)
  have h1 := HH.out.below HB1.out
  obtain ⟨⟨p0, p1, _⟩, pf⟩ := h1.heads
  have hz1 := HB1.out.size
  have hop := fun (W : World) (hb : Below w1.heap.size w1 W) => popen_any f W p.gd p.v m.d m.key (h1.disk.below hb) U.length (((HE.out.below HB1.out).below hb).less fun k e => gd_wd e) (HG.out.sane.few (by omega)) (by omega) (by have := HG.out.sane.calls; omega) HG.out.sane.size hkey
  have HOP := Lib.hid hop
  have H1 := Lib.hid h1
  have HD1 := Lib.hid h1.disk
  have pb := cell_lt p0
  have pa0 : (w1.alloc (.cells #[.int .i64 0, .string ⟨#[]⟩] 29)).drew.cell? ⟨p.gw, 0, none⟩ = some (.pointer (some ⟨p.gd, 0, none⟩)) := ((below_alloc w1 _).cell (p := ⟨p.gw, 0, none⟩) pb).trans p0
  have pa1 : (w1.alloc (.cells #[.int .i64 0, .string ⟨#[]⟩] 29)).drew.cell? ⟨p.gw, 1, none⟩ = some (.string m.key) := ((below_alloc w1 _).cell (p := ⟨p.gw, 1, none⟩) pb).trans p1
  have pd0 : w1.drew.cell? ⟨p.gw, 0, none⟩ = some (.pointer (some ⟨p.gd, 0, none⟩)) := p0
  have pd1 : w1.drew.cell? ⟨p.gw, 1, none⟩ = some (.string m.key) := p1
  have mne : p.gw ≠ w1.heap.size := Nat.ne_of_lt pb
  clear h1 hop
  go_upto_region 2 with fail
  go_cut [4, 5] from 11 to 21 (fun s4 s5 wx => ∃ (lv : Value) (t : Nat), s4 = lv ∧ s5 = .pointer (some ⟨t, 0, none⟩) ∧ Aside (PopSt w1 p.gd p.v m.d m.key (8 * U.length + 16) lv t wx))
  case first =>
    go_region_held3 (fun w' => w'.cell? ⟨p.gw, 0, none⟩ = some (.pointer (some ⟨p.gd, 0, none⟩)) ∧ w'.cell? ⟨p.gw, 1, none⟩ = some (.string m.key)) (first | with_reducible exact ⟨p0, p1⟩ | with_reducible exact ⟨pd0, pd1⟩ | with_reducible exact ⟨pa0, pa1⟩ | with_reducible exact ⟨m0, m1⟩ | exact ⟨st_keep m0 mne, st_keep m1 mne⟩ | exact ⟨((below_alloc w7 _).cell (p := ⟨p.gw, 0, none⟩) mb).trans m0, ((below_alloc w7 _).cell (p := ⟨p.gw, 1, none⟩) mb).trans m1⟩ | exact ⟨st_keep (((below_alloc w7 _).cell (p := ⟨p.gw, 0, none⟩) mb).trans m0) (Nat.ne_of_lt mb), st_keep (((below_alloc w7 _).cell (p := ⟨p.gw, 1, none⟩) mb).trans m1) (Nat.ne_of_lt mb)⟩ | fail) (first | (go_at_call 10; refine Calls.mono (HOP.out _ (by first | exact below_drew _ | exact (below_alloc _ _).drew)) ?_; intro e w7 h7; obtain ⟨lv, kk, pth, rfl⟩ := pop_val h7; have H7 := Lib.hid h7; have HF7 := Lib.hid (pop_fr h7); have m0 := HF7.out.cell (by first | with_reducible exact pd0 | with_reducible exact pa0) (show ¬ p.gw = p.gd from hgg); have m1 := HF7.out.cell (by first | with_reducible exact pd1 | with_reducible exact pa1) (show ¬ p.gw = p.gd from hgg); have mb := cell_lt m0; (first | (have hff : Fr (· = p.gd) (w1.alloc (.cells #[.int .i64 0, .string ⟨#[]⟩] 29)).drew w7 := (by with_reducible exact HF7.out); obtain ⟨t0, t1, t2, t3, t4⟩ := (told_pop HD1.out hff).facts; clear hff) | skip); clear h7) | fail)
    all_goals (
      go_wp2_with fail
      go_meet
      first
        | exact ⟨lv, w1.heap.size, rfl, rfl, pop_st ((below_alloc _ _).drew) HD1.out.lt H7.out (Below.refl _ _) (told_pop HD1.out HF7.out) (Nat.le_refl _)⟩
        | exact ⟨lv, w7.heap.size, rfl, rfl, by rw [told_alloc]; exact pop_st (below_drew _) HD1.out.lt H7.out (below_alloc _ _) (told_new w7) HF7.out.size⟩)
  case rest =>
    obtain ⟨lv, t, rfl, rfl, d', k, pth, hD, hF, hT, htw, hR⟩ := hcut
    have h2 : WdIs wc p { m with d := d' } := H1.out.diskStep hD (fr_gd hF)
    have hfd : d'.files = m.d.files := by
      rcases hR with ⟨c, _⟩ | ⟨_, c, _⟩ | ⟨_, _, _, _, c, _⟩
      · exact c.files
      · exact c.files
      · exact c.files
    have HW2 := Lib.hid (wfiles_any wc p { m with d := d' } h2 (by show d'.files.length ≤ _; rw [hfd]; exact hfl))
    have HHI := Lib.hid (hit_any wc p.gd p.v d' hD)
    obtain ⟨⟨q0, q1, _⟩, qf⟩ := h2.heads
    have HT := Lib.hid hT
    have HF := Lib.hid hF
    have HR := Lib.hid hR
    have H2 := Lib.hid h2
    have HFD := Lib.hid hfd
    obtain ⟨b, hb⟩ : ∃ b, b = d'.hit := ⟨_, rfl⟩
    have HB := Lib.hid hb
    rw [← hb] at HHI
    clear hD hF hT hR h2 hfd hb p0 p1 pf pd0 pd1 pa0 pa1
    have hgood : GoodOr { m with d := d' } U (K + 1048576) := by
      refine .inr ⟨HFO.out, ?_⟩
      rcases HR.out with ⟨c, _⟩ | ⟨_, c, _⟩ | ⟨_, _, _, _, c, _⟩
      · exact (good_hurt HG.out HL.out c).bound (by omega)
      · exact (good_calm HG.out HL.out c).bound (by omega)
      · exact (good_calm HG.out HL.out c).bound (by omega)
    have HGD := Lib.hid hgood
    clear hgood
    have fin : ∀ w4, Below wc.heap.size wc w4 → StepOk w p m U (K + 1048576) (.returned (.bool true)) w4 := fun w4 hb4 =>
      ⟨rfl, p, { m with d := d' }, rfl, rfl, H2.out.below hb4, HGD.out, (Fr.ofBelow HB1.out).trans ((HF.out.weak fun _ _ e => gd_wd e).trans (Fr.ofBelow hb4)), Sub.refl _ _⟩
    have FIN := Lib.hid fin
    clear fin
    cases b with
    | false =>
      go_wp2_with (first | (go_at_call 16; refine HHI.out.mono ?_; rintro e w3 ⟨rfl, rfl⟩) | (go_at_call 57; refine HW2.out.mono ?_; rintro e w4 ⟨v4, l4, rfl, ho4, hp4, hb4⟩; have HO4 := Lib.hid ho4; have HP4 := Lib.hid hp4; have HB4 := Lib.hid hb4; obtain ⟨a4, cp4, rfl⟩ := own_any ho4; obtain ⟨t0, t1, _, _, _⟩ := (HT.out.below hb4).facts; clear ho4 hp4 hb4) | fail)
      go_ret
      exact FIN.out _ HB4.out
    | true =>
      have hurt : u4 = .pointer none ∧ k = 8 := by
        rcases HR.out with ⟨_, e1, e2⟩ | ⟨_, c, _⟩ | ⟨_, _, _, _, c, _⟩
        · exact ⟨e1, e2⟩
        · exact absurd (HB.out.trans (c.hit.trans HHIT.out)) (by decide)
        · exact absurd (HB.out.trans (c.hit.trans HHIT.out)) (by decide)
      obtain ⟨rfl, rfl⟩ := hurt
      have hlen : ∀ l4 : List Fil, l4.Perm d'.files → ((l1.length : Int) == (l4.length : Int)) = true := fun l4 hp => by
        rw [hp.length_eq, HP1.out.length_eq, HFD.out]
        exact beq_self_eq_true _
      have HLEN := Lib.hid hlen
      clear hlen
      go_wp2_with (first | (go_at_call 16; refine HHI.out.mono ?_; rintro e w3 ⟨rfl, rfl⟩) | (go_at_call 57; refine HW2.out.mono ?_; rintro e w4 ⟨v4, l4, rfl, ho4, hp4, hb4⟩; have HO4 := Lib.hid ho4; have hle := HLEN.out l4 hp4; have HB4 := Lib.hid hb4; obtain ⟨a4, cp4, rfl⟩ := own_any ho4; obtain ⟨t0, t1, _, _, _⟩ := (HT.out.below hb4).facts; clear ho4 hp4 hb4) | fail)
      go_ret
      exact FIN.out _ HB4.out
end Go.Proofs.YtefccfakhgdfbabGreatDoor
end
