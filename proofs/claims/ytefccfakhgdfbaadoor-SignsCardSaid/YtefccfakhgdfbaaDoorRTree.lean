/- The walk of tilesref.Root. -/
import Derived.Test.YtefccfakhgdfbaaDoorRefHash
import Derived.Test.YtefccfakhgdfbaaDoorSplit
import Derived.Test.YtefccfakhgdfbaaDoorTreePlain
namespace Go.Proofs.YtefccfakhgdfbaaDoor
open Go.RowKit
theorem strs_take {w : World} {b off n c k : Nat} {ss : List ByteArray} (h : StrsAt w (.slice (some ⟨b, off, none⟩) n c) ss) (hk : k ≤ ss.length) : StrsAt w (.slice (some ⟨b, off, none⟩) k c) (ss.take k) := by
  obtain ⟨a, c', hv, hcap, hc⟩ := h
  cases hv
  have hl : (ss.take k).length = k := by simp; omega
  unfold StrsAt
  rw [hl]
  refine ⟨_, c, rfl, by omega, fun j x hx => ?_⟩
  rw [List.map_take] at hx
  have hj : j < k := by have := (List.getElem?_eq_some_iff.1 hx).1; rw [List.length_take] at this; omega
  exact hc j x (by rwa [List.getElem?_take_of_lt hj] at hx)
theorem strs_drop {w : World} {b off n c k : Nat} {ss : List ByteArray} (h : StrsAt w (.slice (some ⟨b, off, none⟩) n c) ss) (hk : k ≤ ss.length) : StrsAt w (.slice (some ⟨b, off + k, none⟩) (n - k) (c - k)) (ss.drop k) := by
  obtain ⟨a, c', hv, hcap, hc⟩ := h
  cases hv
  unfold StrsAt
  rw [List.length_drop]
  refine ⟨_, c - k, rfl, by omega, fun j x hx => ?_⟩
  rw [List.map_drop, List.getElem?_drop] at hx
  obtain ⟨b', off', hb, hcell⟩ := hc (k + j) x hx
  cases hb
  exact ⟨b, off + k, rfl, by rw [Nat.add_assoc]; exact hcell⟩
def lists (ss : List ByteArray) : List (List UInt8) := ss.map (·.data.toList)
set_option maxHeartbeats 2000000 in
theorem rroot_any (f : Nat) : ∀ (ss : List ByteArray) (v : Value) (w : World), ss.length ≤ f → StrsAt w v ss → ss.length ≤ 1048576 → (∀ s ∈ ss, s.size ≤ 1048576) →
    Calls Tryd.prog 36 #[v] w fun e w' => e = .returned (.string (HS (rootOf (lists ss)))) ∧ Below w.heap.size w w' := by
  have base : ∀ (v : Value) (w : World), StrsAt w v [] → Calls Tryd.prog 36 #[v] w fun e w' => e = .returned (.string (HS (rootOf (lists [])))) ∧ Below w.heap.size w w' := by
    intro v w h
    obtain ⟨a, c, rfl, _, _⟩ := h
    go_enter Tryd.func36, Tryd.ntmps36
    go_wp2_with fail
    refine (rhash_any ⟨#[]⟩ _ (by decide)).mono ?_
    rintro e w1 ⟨rfl, hb⟩
    go_wp2
    go_ret
    exact ⟨rfl, hb⟩
  induction f with
  | zero =>
    intro ss v w hf h hl hs
    obtain rfl : ss = [] := List.eq_nil_of_length_eq_zero (by omega)
    exact base v w h
  | succ f ih =>
    intro ss v w hf h hl hs
    match ss, hf, h, hl, hs with
    | [], _, h, _, _ => exact base v w h
    | [s], hf, h, hl, hs =>
      obtain ⟨a, c, rfl, hcap, hc⟩ := h
      obtain ⟨b, off, rfl, hcell⟩ := hc 0 (.string s) rfl
      simp only [Nat.add_zero] at hcell
      have hs1 := hs s (by simp)
      clear hc hs ih base
      simp only [List.length_cons, List.length_nil, Nat.zero_add]
      go_enter Tryd.func36, Tryd.ntmps36
      go_wp2_with fail
      refine (rleaf_any s _ (by omega)).mono ?_
      rintro e w1 ⟨rfl, hb⟩
      go_wp2
      go_ret
      exact ⟨rfl, hb⟩
    | s1 :: s2 :: st, hf, h, hl, hs =>
      obtain ⟨ss, hss⟩ : ∃ ss, ss = s1 :: s2 :: st := ⟨_, rfl⟩
      rw [← hss] at h hf hl hs ⊢
      have h2 : 2 ≤ ss.length := by rw [hss]; simp
      obtain ⟨a, c, hv, hcap, hc⟩ := id h
      obtain ⟨b, off, rfl, _⟩ := hc 0 (.string s1) (by rw [hss]; rfl)
      clear hc hss
      subst hv
      obtain ⟨n, hn⟩ : ∃ n, n = ss.length := ⟨_, rfl⟩
      have hbd := below_bd (n := n) (by omega) (by omega)
      have hbl := below_lt (n := n) (by omega)
      have hrt : rootOf (lists ss) = nodeH (rootOf (lists (ss.take (below n)))) (rootOf (lists (ss.drop (below n)))) := by
        rw [rootOf_more (by simp [lists]; omega)]
        simp only [lists, List.length_map, List.map_take, List.map_drop, hn]
      obtain ⟨k, hk⟩ : ∃ k, k = below n := ⟨_, rfl⟩
      rw [← hk] at hbd hbl hrt
      have T := Lib.hid (strs_take h (by omega : k ≤ ss.length))
      have D := Lib.hid (strs_drop h (by omega : k ≤ ss.length))
      have HS' := Lib.hid hs
      have HK := Lib.hid hk
      have HR := Lib.hid hrt
      have IH := Lib.hid ih
      clear h hs hk hrt ih base
      rw [← hn] at D hcap ⊢
      have HN := Lib.hid hn
      have hf' : n ≤ f + 1 := by omega
      have hl' : n ≤ 1048576 := by omega
      clear hf hl hn
      have d0 : ((n : Int) == 0) = false := by rw [beq_eq_false_iff_ne]; omega
      have d1 : ((n : Int) == 1) = false := by rw [beq_eq_false_iff_ne]; omega
      go_enter Tryd.func36, Tryd.ntmps36
      go_wp2_with fail
      refine (rbelow_any n _ (by omega) (by omega)).mono ?_
      rintro e w0 ⟨rfl, rfl⟩
      rw [Int.toNat_natCast, ← HK.out]
      go_wp2_with fail
      refine (IH.out (ss.take k) _ _ (by simp; have := HN.out; omega) T.out (by simp; omega) (fun s hs => HS'.out s (List.mem_of_mem_take hs))).mono ?_
      rintro e w1 ⟨rfl, hb1⟩
      go_wp2_with fail
      refine (IH.out (ss.drop k) _ _ (by simp; have := HN.out; omega) (D.out.below hb1) (by simp; have := HN.out; omega) (fun s hs => HS'.out s (List.mem_of_mem_drop hs))).mono ?_
      rintro e w2 ⟨rfl, hb2⟩
      have HB := Lib.hid (hb1.trans (hb2.mono hb1.size))
      clear hb1 hb2
      go_wp2_with fail
      refine (rnode_any _ _ _ (by rw [HS_size]; decide) (by rw [HS_size]; decide)).mono ?_
      rintro e w3 ⟨rfl, hb3⟩
      go_wp2
      go_ret
      exact ⟨by rw [HR.out]; rfl, HB.out.trans (hb3.mono HB.out.size)⟩
end Go.Proofs.YtefccfakhgdfbaaDoor
