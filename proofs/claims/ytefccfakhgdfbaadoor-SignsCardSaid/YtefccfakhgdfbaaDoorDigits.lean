/- The walks of tilesref.digits, number, begins. -/
import Derived.Test.YtefccfakhgdfbaaDoorSameStr
import Derived.Test.YtefccfakhgdfbaaDoorSum
import Derived.Test.YtefccfakhgdfbaaDoorNamePlain
namespace Go.Proofs.YtefccfakhgdfbaaDoor
open Go.RowKit
theorem dec_small {n : Nat} (h : n < 10) : dec n = [UInt8.ofNat (48 + n)] := by
  unfold dec
  rw [Lib.decDigits, dif_pos h]
theorem dec_more {n : Nat} (h : ¬ n < 10) : dec n = dec (n / 10) ++ [UInt8.ofNat (48 + n % 10)] := by
  unfold dec
  conv => lhs; rw [Lib.decDigits, dif_neg h]
theorem dec_len : ∀ (k n : Nat), n < 10 ^ (k + 1) → (dec n).length ≤ k + 1
  | 0, n, h => by rw [dec_small (by omega)]; simp
  | k + 1, n, h => by
    by_cases h9 : n < 10
    · rw [dec_small h9]; simp
    · rw [dec_more h9, List.length_append]
      have := dec_len k (n / 10) (by rw [Nat.pow_succ] at h; omega)
      simp only [List.length_cons, List.length_nil]
      omega
theorem dec_len19 {n : Nat} (h : n < 9223372036854775808) : (dec n).length ≤ 19 := dec_len 18 n (by omega)
set_option maxHeartbeats 1000000 in
set_option maxRecDepth 100000 in
theorem digits_any (n : Nat) (w : World) (hn : n < 9223372036854775808) :
    Calls Tryd.prog 45 #[.int .i64 n] w fun e w' => e = .returned (.string (sOf (dec n))) ∧ Below w.heap.size w w' := by
  go_enter Tryd.func45, Tryd.ntmps45
  go_wp2
  go_loopw [0, 3] (fun m s wr => ∃ (k : Nat) (r : List UInt8), k ≤ n ∧ m = .int .i64 k ∧ s = .string (sOf r) ∧ dec k ++ r = dec n ∧ Below w.heap.size w wr) (fun m _ _ => (intOf m).toNat)
  case atStart => exact ⟨n, [], Nat.le_refl _, rfl, rfl, by simp, Below.refl _ _⟩
  case round =>
    obtain ⟨k, r, hk, rfl, rfl, hd, hbel⟩ := hrel
    have hrl : r.length ≤ 19 := by
      have := dec_len19 hn
      rw [← hd, List.length_append] at this
      omega
    have HD := Lib.hid hd
    have HB := Lib.hid hbel
    clear hd hbel
    by_cases h9 : 9 < k
    · have e1 : ((k : Int) / 10) = ((k / 10 : Nat) : Int) := by omega
      have e2 : ((k : Int) % 10) = ((k % 10 : Nat) : Int) := by omega
      obtain ⟨x, hx⟩ : ∃ x, x = UInt8.ofNat (48 + k % 10) := ⟨_, rfl⟩
      have hb : BytesAt (wr.alloc (.cells #[.int .u8 (48 + (k : Int) % 10)] 5)) (.slice (some ⟨wr.heap.size, 0, none⟩) 1 1) [x] := by
        rw [e2, show (48 + ((k % 10 : Nat) : Int)) = ((48 + k % 10 : Nat) : Int) by omega, u8_small _ (by omega), ← hx]
        exact bytes1 (fz := (0, 0)) (heap_alloc_new' _ _ _ rfl)
      have hcv := run_bs hb
      have HX := Lib.hid hx
      have HE := Lib.hid e1
      clear hb e1 e2 hx
      go_wp2
      refine ⟨⟨k / 10, x :: r, by omega, by rw [HE.out], by rw [sOf_cons], ?_, HB.out.alloc HB.out.size _⟩, by simp [intOf]; omega⟩
      rw [← HD.out, dec_more (n := k) (by omega), ← HX.out]
      simp
    · obtain ⟨x, hx⟩ : ∃ x, x = UInt8.ofNat (48 + k) := ⟨_, rfl⟩
      have hb : BytesAt (wr.alloc (.cells #[.int .u8 (48 + (k : Int))] 5)) (.slice (some ⟨wr.heap.size, 0, none⟩) 1 1) [x] := by
        rw [show (48 + (k : Int)) = ((48 + k : Nat) : Int) by omega, u8_small _ (by omega), ← hx]
        exact bytes1 (fz := (0, 0)) (heap_alloc_new' _ _ _ rfl)
      have hcv := run_bs hb
      have HX := Lib.hid hx
      clear hb hx
      go_wp2
      go_ret
      refine ⟨?_, HB.out.alloc HB.out.size _⟩
      rw [sOf_cons, ← HD.out, dec_small (n := k) (by omega), ← HX.out]
      rfl
theorem hasPrefix_extract (s p : ByteArray) : Lib.hasPrefix s.data.toList p.data.toList = true ↔ p.size ≤ s.size ∧ s.extract 0 p.size = p := by
  unfold Lib.hasPrefix
  rw [List.isPrefixOf_iff_prefix]
  have hx : (s.extract 0 p.size).data.toList = s.data.toList.take p.size := by simp
  constructor
  · intro h
    have hl := h.length_le
    have h2 := List.prefix_iff_eq_take.1 h
    refine ⟨by simpa using hl, ?_⟩
    rw [← sOf_self (s.extract 0 p.size), hx, show p.size = p.data.toList.length by simp, ← h2, sOf_self]
  · rintro ⟨hl, h⟩
    rw [List.prefix_iff_eq_take, show p.data.toList.length = p.size by simp, ← hx, h]
set_option maxHeartbeats 1000000 in
theorem begins_any (s p : ByteArray) (w : World) :
    Calls Tryd.prog 47 #[.string s, .string p] w fun e w' => e = .returned (.tuple #[.string (sOf (beginsOf s.data.toList p.data.toList).1), .bool (beginsOf s.data.toList p.data.toList).2]) ∧ w = w' := by
  have hiff := hasPrefix_extract s p
  unfold beginsOf
  by_cases hl : s.size < p.size
  · have hn : ¬ Lib.hasPrefix s.data.toList p.data.toList = true := fun h => by have := (hiff.1 h).1; omega
    have hd : decide ((s.size : Int) < (p.size : Int)) = true := decide_eq_true (by omega)
    rw [if_neg hn]
    clear hiff hn
    go_enter Tryd.func47, Tryd.ntmps47
    go_wp2
    go_ret2
    refine ⟨?_, rfl⟩
    show Ending.returned (.tuple #[.string s, .bool false]) = _
    rw [sOf_self]
  · have hd : decide ((s.size : Int) < (p.size : Int)) = false := decide_eq_false (by omega)
    have hle : p.size ≤ s.size := by omega
    by_cases he : s.extract 0 p.size = p
    · rw [if_pos (hiff.2 ⟨hle, he⟩)]
      have hne := beq_str_true he
      have hx : s.extract p.size s.size = sOf (s.data.toList.drop p.data.toList.length) := by
        rw [← sOf_self (s.extract p.size s.size)]
        congr 1
        simp
        exact List.take_of_length_le (by simp)
      have HX := Lib.hid hx
      clear hiff he hx
      go_enter Tryd.func47, Tryd.ntmps47
      go_wp2
      go_ret2
      refine ⟨?_, rfl⟩
      rw [← HX.out]
      rfl
    · have hn : ¬ Lib.hasPrefix s.data.toList p.data.toList = true := fun h => he (hiff.1 h).2
      have hne := beq_str_false he
      rw [if_neg hn]
      clear hiff hn he
      go_enter Tryd.func47, Tryd.ntmps47
      go_wp2
      go_ret2
      refine ⟨?_, rfl⟩
      show Ending.returned (.tuple #[.string s, .bool false]) = _
      rw [sOf_self]
theorem numGo_step {c : UInt8} {r : List UInt8} {a : Nat} (h : isDig c) (hv : ¬ (9223372036854775807 - (c.toNat - 48)) / 10 < a) : numGo a (c :: r) = numGo (10 * a + (c.toNat - 48)) r := by
  unfold isDig at h
  simp only [numGo]
  rw [if_pos h, if_neg hv]
theorem numGo_over {c : UInt8} {r : List UInt8} {a : Nat} (h : isDig c) (hv : (9223372036854775807 - (c.toNat - 48)) / 10 < a) : numGo a (c :: r) = none := by
  unfold isDig at h
  simp only [numGo]
  rw [if_pos h, if_pos hv]
theorem numGo_stop {c : UInt8} {r : List UInt8} {a : Nat} (h : ¬ isDig c) : numGo a (c :: r) = some (a, c :: r) := by
  unfold isDig at h
  simp only [numGo]
  rw [if_neg h]
theorem numberOf_at {l : List UInt8} {a k : Nat} (hk : k ≤ l.length) (h : numGo 0 l = some (a, l.drop k)) : numberOf l = (a, l.drop k, decide (0 < k)) := by
  unfold numberOf
  rw [h]
  simp only [List.length_drop, Prod.mk.injEq, true_and]
  by_cases h0 : 0 < k
  · rw [decide_eq_true h0, decide_eq_true (by omega)]
  · rw [decide_eq_false h0, decide_eq_false (by omega)]
theorem numberOf_over {l : List UInt8} (h : numGo 0 l = none) : numberOf l = (0, l, false) := by
  unfold numberOf
  rw [h]
/-- What number answers. -/
def numPost (l : List UInt8) (w : World) (e : Ending) (w' : World) : Prop :=
  e = .returned (.tuple #[.int .i64 (numberOf l).1, .string (sOf (numberOf l).2.1), .bool (numberOf l).2.2]) ∧ Below w.heap.size w w'
set_option maxHeartbeats 4000000 in
set_option maxRecDepth 100000 in
theorem number_any (s : ByteArray) (w : World) (hs : s.size ≤ 9223372036854775806) :
    Calls Tryd.prog 48 #[.string s] w (numPost s.data.toList w) := by
  obtain ⟨l, hl⟩ : ∃ l, l = s.data.toList := ⟨_, rfl⟩
  have hlen : l.length = s.size := by rw [hl]; simp
  have hget : ∀ (k : Nat) (hk : k < s.size), l.drop k = s[k] :: l.drop (k + 1) := by
    intro k hk
    rw [List.drop_eq_getElem_cons (by omega)]
    congr 1
    subst hl
    simp
    rfl
  have hext : ∀ k, s.extract k s.size = sOf (l.drop k) := by
    intro k
    rw [← sOf_self (s.extract k s.size)]
    congr 1
    rw [hl]
    simp
    exact List.take_of_length_le (by simp)
  have hself : s = sOf l := by rw [hl, sOf_self]
  rw [← hl]
  have HG := Lib.hid hget
  have HE := Lib.hid hext
  have HL := Lib.hid hlen
  have HSF := Lib.hid hself
  clear hl hget hext hlen hself
  go_enter Tryd.func48, Tryd.ntmps48
  go_wp2
  go_loop [5, 6, 7] (fun vn vi _ => ∃ (k a : Nat), k ≤ s.size ∧ vi = .int .i64 k ∧ vn = .int .i64 a ∧ a ≤ 9223372036854775807 ∧ Hid (numGo 0 l = numGo a (l.drop k))) (fun _ vi _ => s.size - (intOf vi).toNat)
  case atStart => exact ⟨0, 0, by omega, rfl, rfl, by omega, Lib.hid rfl⟩
  case round =>
    obtain ⟨k, a, hk, rfl, rfl, ha, hh⟩ := hrel
    by_cases hlt : k < s.size
    · have hd := HG.out k hlt
      have hx : ∀ (j : Nat) (hj : j < s.size), j = k → s[j].toNat = s[k].toNat := by intro j hj e; subst e; rfl
      have hr := hh.out
      rw [hd] at hr
      have HX := Lib.hid (rfl : s[k] = s[k])
      by_cases hdig : isDig s[k]
      · obtain ⟨h48, h57⟩ := id hdig
        have hc0 : decide ((48 : Int) ≤ (s[k].toNat : Int)) = true := decide_eq_true (by omega)
        have hc1 : decide ((s[k].toNat : Int) ≤ (57 : Int)) = true := decide_eq_true (by omega)
        by_cases hov : (9223372036854775807 - (s[k].toNat - 48)) / 10 < a
        · have hov' : decide ((9223372036854775807 - ((s[k].toNat : Int) - 48)) / 10 < (a : Int)) = true := decide_eq_true (by omega)
          rw [numGo_over hdig hov] at hr
          have HR := Lib.hid hr
          clear hr hd hx hdig hov
          go_wp2
          go_ret3
          unfold numPost
          rw [numberOf_over HR.out, ← HSF.out]
          exact ⟨rfl, Below.refl _ _⟩
        · have hov' : decide ((9223372036854775807 - ((s[k].toNat : Int) - 48)) / 10 < (a : Int)) = false := decide_eq_false (by omega)
          rw [numGo_step hdig hov] at hr
          have hn : 10 * (a : Int) + ((s[k].toNat : Int) - 48) = ((10 * a + (s[k].toNat - 48) : Nat) : Int) := by omega
          have hn2 : 10 * a + (s[k].toNat - 48) ≤ 9223372036854775807 := by omega
          have HR := Lib.hid hr
          have HN := Lib.hid hn
          clear hr hd hx hdig hn
          go_wp2
          exact ⟨⟨k + 1, 10 * a + (s[k].toNat - 48), by omega, by go_num, by rw [HN.out], hn2, HR⟩, by simp [intOf]; omega⟩
      · rw [numGo_stop hdig, ← hd] at hr
        have HR := Lib.hid hr
        by_cases h48 : 48 ≤ s[k].toNat
        · have hc0 : decide ((48 : Int) ≤ (s[k].toNat : Int)) = true := decide_eq_true (by omega)
          have hc1 : decide ((s[k].toNat : Int) ≤ (57 : Int)) = false := decide_eq_false (by unfold isDig at hdig; omega)
          clear hr hd hx hdig
          go_wp2_with fail
          go_region
          go_wp2
          go_ret3
          unfold numPost
          rw [numberOf_at (by rw [HL.out]; exact hk) HR.out, HE.out]
          exact ⟨rfl, below_drewN (Below.refl _ _) _⟩
        · have hc0 : decide ((48 : Int) ≤ (s[k].toNat : Int)) = false := decide_eq_false (by omega)
          clear hr hd hx hdig
          go_wp2_with fail
          go_region
          go_wp2
          go_ret3
          unfold numPost
          rw [numberOf_at (by rw [HL.out]; exact hk) HR.out, HE.out]
          exact ⟨rfl, below_drewN (Below.refl _ _) _⟩
    · have hnil : numGo a (l.drop k) = some (a, l.drop k) := by
        rw [List.drop_eq_nil_of_le (by rw [HL.out]; omega)]; rfl
      have HR := Lib.hid (hh.out.trans hnil)
      clear hnil
      go_wp2_with fail
      go_region
      go_wp2
      go_ret3
      unfold numPost
      rw [numberOf_at (by rw [HL.out]; exact hk) HR.out, HE.out]
      exact ⟨rfl, below_drewN (Below.refl _ _) _⟩
end Go.Proofs.YtefccfakhgdfbaaDoor
