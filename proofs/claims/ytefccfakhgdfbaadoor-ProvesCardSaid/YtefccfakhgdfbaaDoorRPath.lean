/- The walks of tilesref.Path and tilesref.Part. -/
import Derived.Test.YtefccfakhgdfbaaDoorRTree
import Derived.Test.YtefccfakhgdfbaaDoorPathPlain
import Derived.Test.YtefccfakhgdfbaaDoorHashes
namespace Go.Proofs.YtefccfakhgdfbaaDoor
open Go.RowKit
set_option maxHeartbeats 2000000 in
set_option maxRecDepth 100000 in
theorem rpath_any (f : Nat) : ∀ (ss : List ByteArray) (v : Value) (i : Nat) (w : World), ss.length ≤ f → StrsAt w v ss → ss.length ≤ 1048576 → (∀ s ∈ ss, s.size ≤ 1048576) → i < ss.length →
    Calls Tryd.prog 13 #[v, .int .i64 i] w fun e w' => ∃ v', e = .returned v' ∧ OwnStrs w' w.heap.size v' ((pathOf (lists ss) i).map HS) ∧ Below w.heap.size w w' := by
  induction f with
  | zero => intro ss v i w hf h hl hs hi; omega
  | succ f ih =>
    intro ss v i w hf h hl hs hi
    obtain ⟨a, c, hv, hcap, hc⟩ := id h
    obtain ⟨s0, hs0⟩ : ∃ s, ss[0]? = some s := ⟨_, List.getElem?_eq_getElem (by omega)⟩
    obtain ⟨g, off, rfl, _⟩ := hc 0 (.string s0) (by simp [hs0])
    clear hc hs0
    subst hv
    obtain ⟨n, hn⟩ : ∃ n, n = ss.length := ⟨_, rfl⟩
    obtain ⟨i0, hi0, hz0, hz1, hz2⟩ := info_parts info_str
    by_cases h1 : n = 1
    · have hp : pathOf (lists ss) i = [] := pathOf_one (by simp [lists]; omega) i
      rw [hp, ← hn, h1]
      clear hf h hl hs hi hn h1 hp ih
      go_enter Tryd.func13, Tryd.ntmps13
      go_wp2_with fail
      go_ret
      exact ⟨_, rfl, World.ownsRow_nil _ _ _ _, Below.refl _ _⟩
    · have hbd := below_bd (n := n) (by omega) (by omega)
      have hbl := below_lt (n := n) (by omega)
      have hrt := pathOf_more (l := lists ss) (by simp [lists]; omega) i
      have hll : (lists ss).length = n := by simp [lists]; omega
      have htk : ∀ m, (lists ss).take m = lists (ss.take m) := fun m => by simp [lists]
      have hdk : ∀ m, (lists ss).drop m = lists (ss.drop m) := fun m => by simp [lists]
      rw [hll, htk, hdk] at hrt
      obtain ⟨k, hk⟩ : ∃ k, k = below n := ⟨_, rfl⟩
      rw [← hk] at hbd hbl hrt
      have T := Lib.hid (strs_take h (by omega : k ≤ ss.length))
      have D := Lib.hid (strs_drop h (by omega : k ≤ ss.length))
      have HS' := Lib.hid hs
      have HK := Lib.hid hk
      have IH := Lib.hid ih
      clear h hs hk ih hll htk hdk
      rw [← hn] at D hcap hi ⊢
      have HN := Lib.hid hn
      have hf' : n ≤ f + 1 := by omega
      have hl' : n ≤ 1048576 := by omega
      clear hf hl
      have d1 : ((n : Int) == 1) = false := by rw [beq_eq_false_iff_ne]; omega
      by_cases hik : i < k
      · have hd : decide ((i : Int) < (k : Int)) = true := decide_eq_true (by omega)
        have hpt : pathOf (lists ss) i = pathOf (lists (ss.take k)) i ++ [rootOf (lists (ss.drop k))] := by rw [hrt, if_pos (by omega)]
        have hplen : (pathOf (lists (ss.take k)) i).length ≤ 1048576 := Nat.le_trans (pathOf_len _ _) (by simp [lists]; omega)
        have HP := Lib.hid hpt
        clear hpt hrt hn
        go_enter Tryd.func13, Tryd.ntmps13
        go_wp2_with fail
        refine (rbelow_any n _ (by omega) (by omega)).mono ?_
        rintro e w0 ⟨rfl, rfl⟩
        rw [Int.toNat_natCast, ← HK.out]
        go_wp2_with fail
        refine (IH.out (ss.take k) _ i _ (by simp; have := HN.out; omega) T.out (by simp; have := HN.out; omega) (fun s hs => HS'.out s (List.mem_of_mem_take hs)) (by simp; have := HN.out; omega)).mono ?_
        rintro e w1 ⟨v1, rfl, ho1, hb1⟩
        go_wp2_with fail
        refine (rroot_any _ (ss.drop k) _ _ (Nat.le_refl _) (D.out.below hb1) (by simp; have := HN.out; omega) (fun s hs => HS'.out s (List.mem_of_mem_drop hs))).mono ?_
        rintro e w2 ⟨rfl, hb2⟩
        have HO := Lib.hid (ownsRow_below ho1 hb2)
        have HB := Lib.hid (hb1.trans (hb2.mono hb1.size))
        clear ho1 hb1 hb2
        go_wp2_with (first | (at_builtin; refine wpList_app1 rfl _ _ 23 rfl w.heap.size 9 i0 (.string ⟨#[]⟩) 16 Tryd.underlying23 hi0 hz0 hz1 hz2 rfl (by decide) _ _ _ rfl HO.out _ rfl rfl (by rw [List.length_map]; omega) HB.out.size ?_; intro v2 w3 hr2 hg2 hne2; have HR2 := Lib.hid hr2; have HG2 := Lib.hid hg2; clear hr2 hg2 hne2) | fail)
        go_ret
        refine ⟨_, rfl, ?_, HB.out.grown HG2.out HB.out.size (fun j hj => (HO.out.lt j hj).1)⟩
        rw [HP.out, List.map_append]
        unfold OwnStrs
        simpa using HR2.out
      · have hd : decide ((i : Int) < (k : Int)) = false := decide_eq_false (by omega)
        have hpt : pathOf (lists ss) i = pathOf (lists (ss.drop k)) (i - k) ++ [rootOf (lists (ss.take k))] := by rw [hrt, if_neg (by omega)]
        have hplen : (pathOf (lists (ss.drop k)) (i - k)).length ≤ 1048576 := Nat.le_trans (pathOf_len _ _) (by simp [lists]; omega)
        have HP := Lib.hid hpt
        have hsub : (i : Int) - (k : Int) = ((i - k : Nat) : Int) := by omega
        clear hpt hrt hn
        go_enter Tryd.func13, Tryd.ntmps13
        go_wp2_with fail
        refine (rbelow_any n _ (by omega) (by omega)).mono ?_
        rintro e w0 ⟨rfl, rfl⟩
        rw [Int.toNat_natCast, ← HK.out]
        go_wp2_with fail
        refine (IH.out (ss.drop k) _ (i - k) _ (by simp; have := HN.out; omega) D.out (by simp; have := HN.out; omega) (fun s hs => HS'.out s (List.mem_of_mem_drop hs)) (by simp; have := HN.out; omega)).mono ?_
        rintro e w1 ⟨v1, rfl, ho1, hb1⟩
        go_wp2_with fail
        refine (rroot_any _ (ss.take k) _ _ (Nat.le_refl _) (T.out.below hb1) (by simp; have := HN.out; omega) (fun s hs => HS'.out s (List.mem_of_mem_take hs))).mono ?_
        rintro e w2 ⟨rfl, hb2⟩
        have HO := Lib.hid (ownsRow_below ho1 hb2)
        have HB := Lib.hid (hb1.trans (hb2.mono hb1.size))
        clear ho1 hb1 hb2
        go_wp2_with (first | (at_builtin; refine wpList_app1 rfl _ _ 23 rfl w.heap.size 9 i0 (.string ⟨#[]⟩) 16 Tryd.underlying23 hi0 hz0 hz1 hz2 rfl (by decide) _ _ _ rfl HO.out _ rfl rfl (by rw [List.length_map]; omega) HB.out.size ?_; intro v2 w3 hr2 hg2 hne2; have HR2 := Lib.hid hr2; have HG2 := Lib.hid hg2; clear hr2 hg2 hne2) | fail)
        go_ret
        refine ⟨_, rfl, ?_, HB.out.grown HG2.out HB.out.size (fun j hj => (HO.out.lt j hj).1)⟩
        rw [HP.out, List.map_append]
        unfold OwnStrs
        simpa using HR2.out
set_option maxHeartbeats 2000000 in
set_option maxRecDepth 100000 in
theorem rpart_any (f : Nat) : ∀ (ss : List ByteArray) (v : Value) (i : Nat) (b : Bool) (w : World), ss.length ≤ f → StrsAt w v ss → ss.length ≤ 1048576 → (∀ s ∈ ss, s.size ≤ 1048576) → 1 ≤ i → i ≤ ss.length →
    Calls Tryd.prog 15 #[.int .i64 i, v, .bool b] w fun e w' => ∃ v', e = .returned v' ∧ OwnStrs w' w.heap.size v' ((partOf i (lists ss) b).map HS) ∧ Below w.heap.size w w' := by
  induction f with
  | zero => intro ss v i b w hf h hl hs hi1 hi; omega
  | succ f ih =>
    intro ss v i b w hf h hl hs hi1 hi
    obtain ⟨a, c, hv, hcap, hc⟩ := id h
    obtain ⟨s0, hs0⟩ : ∃ s, ss[0]? = some s := ⟨_, List.getElem?_eq_getElem (by omega)⟩
    obtain ⟨g, off, rfl, _⟩ := hc 0 (.string s0) (by simp [hs0])
    clear hc hs0
    subst hv
    obtain ⟨n, hn⟩ : ∃ n, n = ss.length := ⟨_, rfl⟩
    obtain ⟨i0, hi0, hz0, hz1, hz2⟩ := info_parts info_str
    by_cases h1 : i = n
    · have hp : partOf i (lists ss) b = if b then [] else [rootOf (lists ss)] := by
        have := partOf_all (lists ss) b (by simp [lists]; omega)
        rw [show (lists ss).length = i by simp [lists]; omega] at this
        exact this
      rw [hp]
      have h' := Lib.hid h
      have HS' := Lib.hid hs
      rw [← hn] at h'
      have HN := Lib.hid hn
      have hI : (i : Int) = (n : Int) := by omega
      rw [← hn, hI]
      cases b
      · clear hf h hs hi hn hp ih
        go_enter Tryd.func15, Tryd.ntmps15
        go_wp2_with fail
        refine (rroot_any _ ss _ _ (Nat.le_refl _) h'.out hl HS'.out).mono ?_
        rintro e w2 ⟨rfl, hb2⟩
        have HB := Lib.hid hb2
        clear hb2
        go_wp2_with fail
        go_ret
        refine ⟨_, rfl, ?_, HB.out.alloc HB.out.size _⟩
        exact World.ownsRow_lit _ _ _ HB.out.size (by decide) rfl
      · clear hf h hs hi hn hp ih
        go_enter Tryd.func15, Tryd.ntmps15
        go_wp2_with fail
        go_ret
        exact ⟨_, rfl, World.ownsRow_nil _ _ _ _, Below.refl _ _⟩
    · have hbd := below_bd (n := n) (by omega) (by omega)
      have hbl := below_lt (n := n) (by omega)
      have hrt := partOf_more (l := lists ss) (m := i) hi1 (by simp [lists]; omega) b
      have hll : (lists ss).length = n := by simp [lists]; omega
      have htk : ∀ m, (lists ss).take m = lists (ss.take m) := fun m => by simp [lists]
      have hdk : ∀ m, (lists ss).drop m = lists (ss.drop m) := fun m => by simp [lists]
      rw [hll, htk, hdk] at hrt
      obtain ⟨k, hk⟩ : ∃ k, k = below n := ⟨_, rfl⟩
      rw [← hk] at hbd hbl hrt
      have T := Lib.hid (strs_take h (by omega : k ≤ ss.length))
      have D := Lib.hid (strs_drop h (by omega : k ≤ ss.length))
      have HS' := Lib.hid hs
      have HK := Lib.hid hk
      have IH := Lib.hid ih
      clear h hs hk ih hll htk hdk
      rw [← hn] at D hcap hi ⊢
      have HN := Lib.hid hn
      have hf' : n ≤ f + 1 := by omega
      have hl' : n ≤ 1048576 := by omega
      clear hf hl
      have d1 : ((i : Int) == (n : Int)) = false := by rw [beq_eq_false_iff_ne]; omega
      by_cases hik : i ≤ k
      · have hd : decide ((i : Int) ≤ (k : Int)) = true := decide_eq_true (by omega)
        have hpt : partOf i (lists ss) b = partOf i (lists (ss.take k)) b ++ [rootOf (lists (ss.drop k))] := by rw [hrt, if_pos (by omega)]
        have hplen : (partOf i (lists (ss.take k)) b).length ≤ 1048576 := Nat.le_trans (partOf_len _ _ _) (by simp [lists]; omega)
        have HP := Lib.hid hpt
        clear hpt hrt hn
        go_enter Tryd.func15, Tryd.ntmps15
        go_wp2_with fail
        refine (rbelow_any n _ (by omega) (by omega)).mono ?_
        rintro e w0 ⟨rfl, rfl⟩
        rw [Int.toNat_natCast, ← HK.out]
        go_wp2_with fail
        refine (IH.out (ss.take k) _ i b _ (by simp; have := HN.out; omega) T.out (by simp; have := HN.out; omega) (fun s hs => HS'.out s (List.mem_of_mem_take hs)) (by omega) (by simp; have := HN.out; omega)).mono ?_
        rintro e w1 ⟨v1, rfl, ho1, hb1⟩
        go_wp2_with fail
        refine (rroot_any _ (ss.drop k) _ _ (Nat.le_refl _) (D.out.below hb1) (by simp; have := HN.out; omega) (fun s hs => HS'.out s (List.mem_of_mem_drop hs))).mono ?_
        rintro e w2 ⟨rfl, hb2⟩
        have HO := Lib.hid (ownsRow_below ho1 hb2)
        have HB := Lib.hid (hb1.trans (hb2.mono hb1.size))
        clear ho1 hb1 hb2
        go_wp2_with (first | (at_builtin; refine wpList_app1 rfl _ _ 23 rfl w.heap.size 9 i0 (.string ⟨#[]⟩) 16 Tryd.underlying23 hi0 hz0 hz1 hz2 rfl (by decide) _ _ _ rfl HO.out _ rfl rfl (by rw [List.length_map]; omega) HB.out.size ?_; intro v2 w3 hr2 hg2 hne2; have HR2 := Lib.hid hr2; have HG2 := Lib.hid hg2; clear hr2 hg2 hne2) | fail)
        go_ret
        refine ⟨_, rfl, ?_, HB.out.grown HG2.out HB.out.size (fun j hj => (HO.out.lt j hj).1)⟩
        rw [HP.out, List.map_append]
        unfold OwnStrs
        simpa using HR2.out
      · have hd : decide ((i : Int) ≤ (k : Int)) = false := decide_eq_false (by omega)
        have hpt : partOf i (lists ss) b = partOf (i - k) (lists (ss.drop k)) false ++ [rootOf (lists (ss.take k))] := by rw [hrt, if_neg (by omega)]
        have hplen : (partOf (i - k) (lists (ss.drop k)) false).length ≤ 1048576 := Nat.le_trans (partOf_len _ _ _) (by simp [lists]; omega)
        have HP := Lib.hid hpt
        have hsub : (i : Int) - (k : Int) = ((i - k : Nat) : Int) := by omega
        clear hpt hrt hn
        go_enter Tryd.func15, Tryd.ntmps15
        go_wp2_with fail
        refine (rbelow_any n _ (by omega) (by omega)).mono ?_
        rintro e w0 ⟨rfl, rfl⟩
        rw [Int.toNat_natCast, ← HK.out]
        go_wp2_with fail
        refine (IH.out (ss.drop k) _ (i - k) false _ (by simp; have := HN.out; omega) D.out (by simp; have := HN.out; omega) (fun s hs => HS'.out s (List.mem_of_mem_drop hs)) (by omega) (by simp; have := HN.out; omega)).mono ?_
        rintro e w1 ⟨v1, rfl, ho1, hb1⟩
        go_wp2_with fail
        refine (rroot_any _ (ss.take k) _ _ (Nat.le_refl _) (T.out.below hb1) (by simp; have := HN.out; omega) (fun s hs => HS'.out s (List.mem_of_mem_take hs))).mono ?_
        rintro e w2 ⟨rfl, hb2⟩
        have HO := Lib.hid (ownsRow_below ho1 hb2)
        have HB := Lib.hid (hb1.trans (hb2.mono hb1.size))
        clear ho1 hb1 hb2
        go_wp2_with (first | (at_builtin; refine wpList_app1 rfl _ _ 23 rfl w.heap.size 9 i0 (.string ⟨#[]⟩) 16 Tryd.underlying23 hi0 hz0 hz1 hz2 rfl (by decide) _ _ _ rfl HO.out _ rfl rfl (by rw [List.length_map]; omega) HB.out.size ?_; intro v2 w3 hr2 hg2 hne2; have HR2 := Lib.hid hr2; have HG2 := Lib.hid hg2; clear hr2 hg2 hne2) | fail)
        go_ret
        refine ⟨_, rfl, ?_, HB.out.grown HG2.out HB.out.size (fun j hj => (HO.out.lt j hj).1)⟩
        rw [HP.out, List.map_append]
        unfold OwnStrs
        simpa using HR2.out
end Go.Proofs.YtefccfakhgdfbaaDoor
