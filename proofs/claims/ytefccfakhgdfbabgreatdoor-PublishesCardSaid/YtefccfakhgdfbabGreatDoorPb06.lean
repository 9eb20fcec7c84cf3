/-
  The walks of tilesref.digits, number, begins.
  The walks of tilesref.Name and tilesref.Parse.
  The walk of files.Name, tiles.Name, plain.Name.
  The sentinel errors of package api: what the listed variables give a walk; == of two of them. Conditions: the variables hold pointers to their texts, as the rows list them.
-/
import Derived.Test.YtefccfakhgdfbabGreatDoorPb02
import Derived.Test.YtefccfakhgdfbabGreatDoorPb04
import Derived.Test.YtefccfakhgdfbabGreatDoorPb05
import Derived.Test.YtefccfakhgdfbabGreatDoorShelf
import Derived.Test.YtefccfakhgdfbabGreatDoorPb01
import Derived.Stop.LaidErr
import Derived.LaidEql
set_option linter.unusedVariables false
set_option linter.unusedSimpArgs false
section
namespace Go.Proofs.YtefccfakhgdfbabGreatDoor
open Go.RowKit
theorem dec_small {n : Nat} (h : n < 10) : dec n = [UInt8.ofNat (48 + n)] := by
  unfold dec
  rw [Lib.decDigits, dif_pos h]
theorem dec_more {n : Nat} (h : ¬ n < 10) : dec n = dec (n / 10) ++ [UInt8.ofNat (48 + n % 10)] := by
  unfold dec
  conv => lhs; rw [Lib.decDigits, dif_neg h]
theorem dec_len : ∀ (k n : Nat), n < 10 ^ (k + 1) → (dec n).length ≤ k + 1
  | 0, n, h => by rw [dec_small (by omega)]; simp
  | k + 1, n, h => by
    by_cases h9 : n < 10
    · rw [dec_small h9]; simp
    · rw [dec_more h9, List.length_append]
      have := dec_len k (n / 10) (by rw [Nat.pow_succ] at h; omega)
      simp only [List.length_cons, List.length_nil]
      omega
theorem dec_len19 {n : Nat} (h : n < 9223372036854775808) : (dec n).length ≤ 19 := dec_len 18 n (by omega)
set_option maxHeartbeats 1000000 in
set_option maxRecDepth 100000 in
theorem digits_any (n : Nat) (w : World) (hn : n < 9223372036854775808) :
    Calls Tryz.prog 151 #[.int .i64 n] w fun e w' => e = .returned (.string (sOf (dec n))) ∧ Below w.heap.size w w' := by
  go_enter Tryz.func151, Tryz.ntmps151
  go_wp2
  go_loopw [0, 3] (fun m s wr => ∃ (k : Nat) (r : List UInt8), k ≤ n ∧ m = .int .i64 k ∧ s = .string (sOf r) ∧ dec k ++ r = dec n ∧ Below w.heap.size w wr) (fun m _ _ => (intOf m).toNat)
  case atStart => exact ⟨n, [], Nat.le_refl _, rfl, rfl, by simp, Below.refl _ _⟩
  case round =>
    obtain ⟨k, r, hk, rfl, rfl, hd, hbel⟩ := hrel
    have hrl : r.length ≤ 19 := by
      have := dec_len19 hn
      rw [← hd, List.length_append] at this
      omega
    have HD := Lib.hid hd
    have HB := Lib.hid hbel
    clear hd hbel
    by_cases h9 : 9 < k
    · have e1 : ((k : Int) / 10) = ((k / 10 : Nat) : Int) := by omega
      have e2 : ((k : Int) % 10) = ((k % 10 : Nat) : Int) := by omega
      obtain ⟨x, hx⟩ : ∃ x, x = UInt8.ofNat (48 + k % 10) := ⟨_, rfl⟩
      have hb : BytesAt (wr.alloc (.cells #[.int .u8 (48 + (k : Int) % 10)] 5)) (.slice (some ⟨wr.heap.size, 0, none⟩) 1 1) [x] := by
        rw [e2, show (48 + ((k % 10 : Nat) : Int)) = ((48 + k % 10 : Nat) : Int) by omega, u8_small _ (by omega), ← hx]
        exact bytes1 (fz := (0, 0)) (heap_alloc_new' _ _ _ rfl)
      have hcv := run_bs hb
      have HX := Lib.hid hx
      have HE := Lib.hid e1
      clear hb e1 e2 hx
      go_wp2
      refine ⟨⟨k / 10, x :: r, by omega, by rw [HE.out], by rw [sOf_cons], ?_, HB.out.alloc HB.out.size _⟩, by simp [intOf]; omega⟩
      rw [← HD.out, dec_more (n := k) (by omega), ← HX.out]
      simp
    · obtain ⟨x, hx⟩ : ∃ x, x = UInt8.ofNat (48 + k) := ⟨_, rfl⟩
      have hb : BytesAt (wr.alloc (.cells #[.int .u8 (48 + (k : Int))] 5)) (.slice (some ⟨wr.heap.size, 0, none⟩) 1 1) [x] := by
        rw [show (48 + (k : Int)) = ((48 + k : Nat) : Int) by omega, u8_small _ (by omega), ← hx]
        exact bytes1 (fz := (0, 0)) (heap_alloc_new' _ _ _ rfl)
      have hcv := run_bs hb
      have HX := Lib.hid hx
      clear hb hx
      go_wp2
      go_ret
      refine ⟨?_, HB.out.alloc HB.out.size _⟩
      rw [sOf_cons, ← HD.out, dec_small (n := k) (by omega), ← HX.out]
      rfl
theorem hasPrefix_extract (s p : ByteArray) : Lib.hasPrefix s.data.toList p.data.toList = true ↔ p.size ≤ s.size ∧ s.extract 0 p.size = p := by
  unfold Lib.hasPrefix
  rw [List.isPrefixOf_iff_prefix]
  have hx : (s.extract 0 p.size).data.toList = s.data.toList.take p.size := by simp
  constructor
  · intro h
    have hl := h.length_le
    have h2 := List.prefix_iff_eq_take.1 h
    refine ⟨by simpa using hl, ?_⟩
    rw [← sOf_self (s.extract 0 p.size), hx, show p.size = p.data.toList.length by simp, ← h2, sOf_self]
  · rintro ⟨hl, h⟩
    rw [List.prefix_iff_eq_take, show p.data.toList.length = p.size by simp, ← hx, h]
set_option maxHeartbeats 1000000 in
theorem begins_any (s p : ByteArray) (w : World) :
    Calls Tryz.prog 163 #[.string s, .string p] w fun e w' => e = .returned (.tuple #[.string (sOf (beginsOf s.data.toList p.data.toList).1), .bool (beginsOf s.data.toList p.data.toList).2]) ∧ w = w' := by
  have hiff := hasPrefix_extract s p
  unfold beginsOf
  by_cases hl : s.size < p.size
  · have hn : ¬ Lib.hasPrefix s.data.toList p.data.toList = true := fun h => by have := (hiff.1 h).1; omega
    have hd : decide ((s.size : Int) < (p.size : Int)) = true := decide_eq_true (by omega)
    rw [if_neg hn]
    clear hiff hn
    go_enter Tryz.func163, Tryz.ntmps163
    go_wp2
    go_ret2
    refine ⟨?_, rfl⟩
    show Ending.returned (.tuple #[.string s, .bool false]) = _
    rw [sOf_self]
  · have hd : decide ((s.size : Int) < (p.size : Int)) = false := decide_eq_false (by omega)
    have hle : p.size ≤ s.size := by omega
    by_cases he : s.extract 0 p.size = p
    · rw [if_pos (hiff.2 ⟨hle, he⟩)]
      have hne := beq_str_true he
      have hx : s.extract p.size s.size = sOf (s.data.toList.drop p.data.toList.length) := by
        rw [← sOf_self (s.extract p.size s.size)]
        congr 1
        simp
        exact List.take_of_length_le (by simp)
      have HX := Lib.hid hx
      clear hiff he hx
      go_enter Tryz.func163, Tryz.ntmps163
      go_wp2
      go_ret2
      refine ⟨?_, rfl⟩
      rw [← HX.out]
      rfl
    · have hn : ¬ Lib.hasPrefix s.data.toList p.data.toList = true := fun h => he (hiff.1 h).2
      have hne := beq_str_false he
      rw [if_neg hn]
      clear hiff hn he
      go_enter Tryz.func163, Tryz.ntmps163
      go_wp2
      go_ret2
      refine ⟨?_, rfl⟩
      show Ending.returned (.tuple #[.string s, .bool false]) = _
      rw [sOf_self]
theorem numGo_step {c : UInt8} {r : List UInt8} {a : Nat} (h : isDig c) (hv : ¬ (9223372036854775807 - (c.toNat - 48)) / 10 < a) : numGo a (c :: r) = numGo (10 * a + (c.toNat - 48)) r := by
  unfold isDig at h
  simp only [numGo]
  rw [if_pos h, if_neg hv]
theorem numGo_over {c : UInt8} {r : List UInt8} {a : Nat} (h : isDig c) (hv : (9223372036854775807 - (c.toNat - 48)) / 10 < a) : numGo a (c :: r) = none := by
  unfold isDig at h
  simp only [numGo]
  rw [if_pos h, if_pos hv]
theorem numGo_stop {c : UInt8} {r : List UInt8} {a : Nat} (h : ¬ isDig c) : numGo a (c :: r) = some (a, c :: r) := by
  unfold isDig at h
  simp only [numGo]
  rw [if_neg h]
theorem numberOf_at {l : List UInt8} {a k : Nat} (hk : k ≤ l.length) (h : numGo 0 l = some (a, l.drop k)) : numberOf l = (a, l.drop k, decide (0 < k)) := by
  unfold numberOf
  rw [h]
  simp only [List.length_drop, Prod.mk.injEq, true_and]
  by_cases h0 : 0 < k
  · rw [decide_eq_true h0, decide_eq_true (by omega)]
  · rw [decide_eq_false h0, decide_eq_false (by omega)]
theorem numberOf_over {l : List UInt8} (h : numGo 0 l = none) : numberOf l = (0, l, false) := by
  unfold numberOf
  rw [h]
/-- What number answers. -/
def numPost (l : List UInt8) (w : World) (e : Ending) (w' : World) : Prop :=
  e = .returned (.tuple #[.int .i64 (numberOf l).1, .string (sOf (numberOf l).2.1), .bool (numberOf l).2.2]) ∧ Below w.heap.size w w'
set_option maxHeartbeats 4000000 in
set_option maxRecDepth 100000 in
theorem number_any (s : ByteArray) (w : World) (hs : s.size ≤ 9223372036854775806) :
    Calls Tryz.prog 164 #[.string s] w (numPost s.data.toList w) := by
  obtain ⟨l, hl⟩ : ∃ l, l = s.data.toList := ⟨_, rfl⟩
  have hlen : l.length = s.size := by rw [hl]; simp
  have hget : ∀ (k : Nat) (hk : k < s.size), l.drop k = s[k] :: l.drop (k + 1) := by
    intro k hk
    rw [List.drop_eq_getElem_cons (by omega)]
    congr 1
    subst hl
    simp
    rfl
  have hext : ∀ k, s.extract k s.size = sOf (l.drop k) := by
    intro k
    rw [← sOf_self (s.extract k s.size)]
    congr 1
    rw [hl]
    simp
    exact List.take_of_length_le (by simp)
  have hself : s = sOf l := by rw [hl, sOf_self]
  rw [← hl]
  have HG := Lib.hid hget
  have HE := Lib.hid hext
  have HL := Lib.hid hlen
  have HSF := Lib.hid hself
  clear hl hget hext hlen hself
  go_enter Tryz.func164, Tryz.ntmps164
  go_wp2
  go_loop [5, 6, 7] (fun vn vi _ => ∃ (k a : Nat), k ≤ s.size ∧ vi = .int .i64 k ∧ vn = .int .i64 a ∧ a ≤ 9223372036854775807 ∧ Hid (numGo 0 l = numGo a (l.drop k))) (fun _ vi _ => s.size - (intOf vi).toNat)
  case atStart => exact ⟨0, 0, by omega, rfl, rfl, by omega, Lib.hid rfl⟩
  case round =>
    obtain ⟨k, a, hk, rfl, rfl, ha, hh⟩ := hrel
    by_cases hlt : k < s.size
    · have hd := HG.out k hlt
      have hx : ∀ (j : Nat) (hj : j < s.size), j = k → s[j].toNat = s[k].toNat := by intro j hj e; subst e; rfl
      have hr := hh.out
      rw [hd] at hr
      have HX := Lib.hid (rfl : s[k] = s[k])
      by_cases hdig : isDig s[k]
      · obtain ⟨h48, h57⟩ := id hdig
        have hc0 : decide ((48 : Int) ≤ (s[k].toNat : Int)) = true := decide_eq_true (by omega)
        have hc1 : decide ((s[k].toNat : Int) ≤ (57 : Int)) = true := decide_eq_true (by omega)
        by_cases hov : (9223372036854775807 - (s[k].toNat - 48)) / 10 < a
        · have hov' : decide ((9223372036854775807 - ((s[k].toNat : Int) - 48)) / 10 < (a : Int)) = true := decide_eq_true (by omega)
          rw [numGo_over hdig hov] at hr
          have HR := Lib.hid hr
          clear hr hd hx hdig hov
          go_wp2
          go_ret3
          unfold numPost
          rw [numberOf_over HR.out, ← HSF.out]
          exact ⟨rfl, Below.refl _ _⟩
        · have hov' : decide ((9223372036854775807 - ((s[k].toNat : Int) - 48)) / 10 < (a : Int)) = false := decide_eq_false (by omega)
          rw [numGo_step hdig hov] at hr
          have hn : 10 * (a : Int) + ((s[k].toNat : Int) - 48) = ((10 * a + (s[k].toNat - 48) : Nat) : Int) := by omega
          have hn2 : 10 * a + (s[k].toNat - 48) ≤ 9223372036854775807 := by omega
          have HR := Lib.hid hr
          have HN := Lib.hid hn
          clear hr hd hx hdig hn
          go_wp2
          exact ⟨⟨k + 1, 10 * a + (s[k].toNat - 48), by omega, by go_num, by rw [HN.out], hn2, HR⟩, by simp [intOf]; omega⟩
      · rw [numGo_stop hdig, ← hd] at hr
        have HR := Lib.hid hr
        by_cases h48 : 48 ≤ s[k].toNat
        · have hc0 : decide ((48 : Int) ≤ (s[k].toNat : Int)) = true := decide_eq_true (by omega)
          have hc1 : decide ((s[k].toNat : Int) ≤ (57 : Int)) = false := decide_eq_false (by unfold isDig at hdig; omega)
          clear hr hd hx hdig
          go_wp2_with fail
          go_region
          go_wp2
          go_ret3
          unfold numPost
          rw [numberOf_at (by rw [HL.out]; exact hk) HR.out, HE.out]
          exact ⟨rfl, below_drewN (Below.refl _ _) _⟩
        · have hc0 : decide ((48 : Int) ≤ (s[k].toNat : Int)) = false := decide_eq_false (by omega)
          clear hr hd hx hdig
          go_wp2_with fail
          go_region
          go_wp2
          go_ret3
          unfold numPost
          rw [numberOf_at (by rw [HL.out]; exact hk) HR.out, HE.out]
          exact ⟨rfl, below_drewN (Below.refl _ _) _⟩
    · have hnil : numGo a (l.drop k) = some (a, l.drop k) := by
        rw [List.drop_eq_nil_of_le (by rw [HL.out]; omega)]; rfl
      have HR := Lib.hid (hh.out.trans hnil)
      clear hnil
      go_wp2_with fail
      go_region
      go_wp2
      go_ret3
      unfold numPost
      rw [numberOf_at (by rw [HL.out]; exact hk) HR.out, HE.out]
      exact ⟨rfl, below_drewN (Below.refl _ _) _⟩
end Go.Proofs.YtefccfakhgdfbabGreatDoor
end

section
namespace Go.Proofs.YtefccfakhgdfbabGreatDoor
open Go.RowKit
theorem ret_str {a b : ByteArray} (h : a = b) : Ending.returned (.string a) = .returned (.string b) := by rw [h]
set_option maxHeartbeats 4000000 in
set_option maxRecDepth 100000 in
theorem rname_any (l i wd : Int) (w : World) (hi : i < 9223372036854775808) :
    Calls Tryz.prog 113 #[.int .i64 l, .int .i64 i, .int .i64 wd] w fun e w' => e = .returned (.string (sOf (nameOf l i wd))) ∧ Below w.heap.size w w' := by
  by_cases hok : nameOk l i wd
  · have hbody := nameOf_body hok
    obtain ⟨h1, h2, h3, h4, h5⟩ := hok
    have d1 : decide (l < -1) = false := decide_eq_false (by omega)
    have d2 : decide (20 < l) = false := decide_eq_false (by omega)
    have d3 : decide (i < 0) = false := decide_eq_false (by omega)
    have d4 : decide (wd < 1) = false := decide_eq_false (by omega)
    have d5 : decide (4 < wd) = false := decide_eq_false (by omega)
    obtain ⟨k, rfl⟩ : ∃ k : Nat, i = k := ⟨i.toNat, by omega⟩
    obtain ⟨x, rfl⟩ : ∃ x : Nat, wd = x := ⟨wd.toNat, by omega⟩
    have hk : (dec k).length ≤ 19 := dec_len19 (by omega)
    have hx : (dec x).length ≤ 19 := dec_len19 (by omega)
    have hkb : k < 9223372036854775808 := by omega
    have hxb : x < 9223372036854775808 := by omega
    unfold nameBody at hbody
    rw [Int.toNat_natCast, Int.toNat_natCast] at hbody
    by_cases hl : 0 ≤ l
    · obtain ⟨j, rfl⟩ : ∃ j : Nat, l = j := ⟨l.toNat, by omega⟩
      have hj : (dec j).length ≤ 19 := dec_len19 (by omega)
      have hjb : j < 9223372036854775808 := by omega
      rw [if_pos hl, Int.toNat_natCast] at hbody
      by_cases h4' : (x : Int) < 4
      · have d6 : decide ((x : Int) < 4) = true := decide_eq_true h4'
        have d7 : decide ((0 : Int) ≤ (j : Int)) = true := decide_eq_true hl
        rw [if_pos h4'] at hbody
        have HBody := Lib.hid hbody
        clear hbody
        go_enter Tryz.func113, Tryz.ntmps113
        go_wp2_with fail
        refine (digits_any j _ hjb).mono ?_
        rintro e w1 ⟨rfl, hb1⟩
        go_wp2_with fail
        refine (digits_any k _ hkb).mono ?_
        rintro e w2 ⟨rfl, hb2⟩
        go_wp2_with fail
        refine (digits_any x _ hxb).mono ?_
        rintro e w3 ⟨rfl, hb3⟩
        go_wp2
        go_ret
        refine ⟨?_, (hb1.trans (hb2.mono hb1.size)).trans (hb3.mono (Nat.le_trans hb1.size hb2.size))⟩
        rw [HBody.out]
        refine ret_str ?_
        apply ByteArray.ext
        simp [kT, kP]
      · have d6 : decide ((x : Int) < 4) = false := decide_eq_false h4'
        have d7 : decide ((0 : Int) ≤ (j : Int)) = true := decide_eq_true hl
        rw [if_neg h4'] at hbody
        have HBody := Lib.hid hbody
        clear hbody
        go_enter Tryz.func113, Tryz.ntmps113
        go_wp2_with fail
        refine (digits_any j _ hjb).mono ?_
        rintro e w1 ⟨rfl, hb1⟩
        go_wp2_with fail
        refine (digits_any k _ hkb).mono ?_
        rintro e w2 ⟨rfl, hb2⟩
        go_wp2
        go_ret
        refine ⟨?_, hb1.trans (hb2.mono hb1.size)⟩
        rw [HBody.out]
        refine ret_str ?_
        apply ByteArray.ext
        simp [kT]
    · rw [if_neg hl] at hbody
      have d7 : decide ((0 : Int) ≤ l) = false := decide_eq_false hl
      by_cases h4' : (x : Int) < 4
      · have d6 : decide ((x : Int) < 4) = true := decide_eq_true h4'
        rw [if_pos h4'] at hbody
        have HBody := Lib.hid hbody
        clear hbody
        go_enter Tryz.func113, Tryz.ntmps113
        go_wp2_with fail
        refine (digits_any k _ hkb).mono ?_
        rintro e w2 ⟨rfl, hb2⟩
        go_wp2_with fail
        refine (digits_any x _ hxb).mono ?_
        rintro e w3 ⟨rfl, hb3⟩
        go_wp2
        go_ret
        refine ⟨?_, hb2.trans (hb3.mono hb2.size)⟩
        rw [HBody.out]
        refine ret_str ?_
        apply ByteArray.ext
        simp [kE, kP]
      · have d6 : decide ((x : Int) < 4) = false := decide_eq_false h4'
        rw [if_neg h4'] at hbody
        have HBody := Lib.hid hbody
        clear hbody
        go_enter Tryz.func113, Tryz.ntmps113
        go_wp2_with fail
        refine (digits_any k _ hkb).mono ?_
        rintro e w2 ⟨rfl, hb2⟩
        go_wp2
        go_ret
        refine ⟨?_, hb2⟩
        rw [HBody.out]
        refine ret_str ?_
        apply ByteArray.ext
        simp [kE]
  · have hno : nameOf l i wd = [] := by unfold nameOf; rw [if_neg hok]
    rw [hno]
    have hway : (decide (l < -1) = true) ∨ (decide (l < -1) = false ∧ decide (20 < l) = true) ∨ (decide (l < -1) = false ∧ decide (20 < l) = false ∧ decide (i < 0) = true) ∨
        (decide (l < -1) = false ∧ decide (20 < l) = false ∧ decide (i < 0) = false ∧ decide (wd < 1) = true) ∨
        (decide (l < -1) = false ∧ decide (20 < l) = false ∧ decide (i < 0) = false ∧ decide (wd < 1) = false ∧ decide (4 < wd) = true) := by
      unfold nameOk at hok
      simp only [decide_eq_true_eq, decide_eq_false_iff_not]
      omega
    clear hok hno
    rcases hway with h | ⟨h, h'⟩ | ⟨h, h', h''⟩ | ⟨h, h', h'', h3⟩ | ⟨h, h', h'', h3, h4⟩
    all_goals
      go_enter Tryz.func113, Tryz.ntmps113
      go_wp2
      go_ret
      exact ⟨rfl, Below.refl _ _⟩
end Go.Proofs.YtefccfakhgdfbabGreatDoor
end

section
namespace Go.Proofs.YtefccfakhgdfbabGreatDoor
open Go.RowKit
/-- What the numerals' functions read of the world. -/
structure NumEnv (w : World) : Prop where
  tab : Lib.TabIs Tryz.prog w "internal/strconv.uint64pow10" .u64 Lib.pow10Tab
  most : ∃ m, w.cell? ⟨11, 0, none⟩ = some (.int .i64 m)
  esyn : ∃ ev, w.cell? ⟨9, 0, none⟩ = some ev ∧ (ev = .nilIface ∨ ∃ te pe, ev = .iface te pe)
  erng : ∃ ev, w.cell? ⟨10, 0, none⟩ = some ev ∧ (ev = .nilIface ∨ ∃ te pe, ev = .iface te pe)
theorem tab_below {w w' : World} {name : String} {k : IntKind} {zs : List Int} (h : Lib.TabIs Tryz.prog w name k zs) (hb : Below w.heap.size w w') : Lib.TabIs Tryz.prog w' name k zs := by
  unfold Lib.TabIs World.var? at *
  cases hg : Tryz.prog.globalNamed name with
  | none => simp [hg] at h
  | some g =>
    simp only [hg, Option.bind_some] at h ⊢
    have hlt : g < w.heap.size := by
      rcases Nat.lt_or_ge g w.heap.size with h' | h'
      · exact h'
      · rw [Array.getElem?_eq_none h'] at h; simp at h
    rw [hb.block g hlt]
    exact h
theorem NumEnv.below {w w' : World} (h : NumEnv w) (hb : Below w.heap.size w w') : NumEnv w' := by
  obtain ⟨t, ⟨m, hm⟩, ⟨e1, h1, h1'⟩, ⟨e2, h2, h2'⟩⟩ := h
  exact ⟨tab_below t hb, ⟨m, (hb.cell (cell_lt hm)).trans hm⟩, ⟨e1, (hb.cell (cell_lt h1)).trans h1, h1'⟩, ⟨e2, (hb.cell (cell_lt h2)).trans h2, h2'⟩⟩
theorem below_grow {w : World} (os : Array Obj) (k : Nat) : Below w.heap.size w (Go.Sort.grow (w.drewN k) os) := by
  have h := below_drewN (Below.refl w.heap.size w) k
  exact ⟨h.os, h.tape, h.output, by simp [Go.Sort.grow], fun j hj => by rw [← h.block j hj]; simp [Go.Sort.grow, Array.getElem?_append, hj]⟩
theorem itoa_any (n : Nat) (w : World) (hn : n < 9223372036854775808) (h : NumEnv w) :
    Calls Tryz.prog 136 #[.int .i64 n] w fun e w' => e = .returned (.string (sOf (dec n))) ∧ Below w.heap.size w w' := by
  refine (Tryz.strconv_Itoa n (by omega) (by omega) w h.tab).mono ?_
  rintro e w' ⟨rfl, k, os, rfl⟩
  refine ⟨?_, below_grow os k⟩
  have : Lib.itoa (n : Int) = dec n := by unfold Lib.itoa; rw [if_neg (by omega), Int.toNat_natCast]
  rw [this]
set_option maxHeartbeats 4000000 in
set_option maxRecDepth 100000 in
theorem fname_any (l i wd : Int) (w : World) (hi : i < 9223372036854775808) (hE : NumEnv w) :
    Calls Tryz.prog 127 #[.int .i64 l, .int .i64 i, .int .i64 wd] w fun e w' => e = .returned (.string (sOf (nameOf l i wd))) ∧ Below w.heap.size w w' := by
  by_cases hok : nameOk l i wd
  · have hbody := nameOf_body hok
    obtain ⟨h1, h2, h3, h4, h5⟩ := hok
    have d1 : decide (l < -1) = false := decide_eq_false (by omega)
    have d2 : decide (20 < l) = false := decide_eq_false (by omega)
    have d3 : decide (i < 0) = false := decide_eq_false (by omega)
    have d4 : decide (wd < 1) = false := decide_eq_false (by omega)
    have d5 : decide (4 < wd) = false := decide_eq_false (by omega)
    obtain ⟨k, rfl⟩ : ∃ k : Nat, i = k := ⟨i.toNat, by omega⟩
    obtain ⟨x, rfl⟩ : ∃ x : Nat, wd = x := ⟨wd.toNat, by omega⟩
    have hk : (dec k).length ≤ 19 := dec_len19 (by omega)
    have hx : (dec x).length ≤ 19 := dec_len19 (by omega)
    have hkb : k < 9223372036854775808 := by omega
    have hxb : x < 9223372036854775808 := by omega
    unfold nameBody at hbody
    rw [Int.toNat_natCast, Int.toNat_natCast] at hbody
    by_cases hl : 0 ≤ l
    · obtain ⟨j, rfl⟩ : ∃ j : Nat, l = j := ⟨l.toNat, by omega⟩
      have hj : (dec j).length ≤ 19 := dec_len19 (by omega)
      have hjb : j < 9223372036854775808 := by omega
      rw [if_pos hl, Int.toNat_natCast] at hbody
      by_cases h4' : (x : Int) < 4
      · have d6 : decide ((x : Int) < 4) = true := decide_eq_true h4'
        have d7 : decide ((0 : Int) ≤ (j : Int)) = true := decide_eq_true hl
        rw [if_pos h4'] at hbody
        have HBody := Lib.hid hbody
        clear hbody
        have HE := Lib.hid hE
        clear hE
        go_enter Tryz.func127, Tryz.ntmps127
        go_wp2_with fail
        refine (itoa_any j _ hjb HE.out).mono ?_
        rintro e w1 ⟨rfl, hb1⟩
        have HE1 := HE.out.below hb1
        go_wp2_with fail
        refine (itoa_any k _ hkb HE1).mono ?_
        rintro e w2 ⟨rfl, hb2⟩
        have HE2 := HE1.below hb2
        go_wp2_with fail
        refine (itoa_any x _ hxb HE2).mono ?_
        rintro e w3 ⟨rfl, hb3⟩
        go_wp2
        go_ret
        refine ⟨?_, (hb1.trans (hb2.mono hb1.size)).trans (hb3.mono (Nat.le_trans hb1.size hb2.size))⟩
        rw [HBody.out]
        refine ret_str ?_
        apply ByteArray.ext
        simp [kT, kP]
      · have d6 : decide ((x : Int) < 4) = false := decide_eq_false h4'
        have d7 : decide ((0 : Int) ≤ (j : Int)) = true := decide_eq_true hl
        rw [if_neg h4'] at hbody
        have HBody := Lib.hid hbody
        clear hbody
        have HE := Lib.hid hE
        clear hE
        go_enter Tryz.func127, Tryz.ntmps127
        go_wp2_with fail
        refine (itoa_any j _ hjb HE.out).mono ?_
        rintro e w1 ⟨rfl, hb1⟩
        have HE1 := HE.out.below hb1
        go_wp2_with fail
        refine (itoa_any k _ hkb HE1).mono ?_
        rintro e w2 ⟨rfl, hb2⟩
        have HE2 := HE1.below hb2
        go_wp2
        go_ret
        refine ⟨?_, hb1.trans (hb2.mono hb1.size)⟩
        rw [HBody.out]
        refine ret_str ?_
        apply ByteArray.ext
        simp [kT]
    · rw [if_neg hl] at hbody
      have d7 : decide ((0 : Int) ≤ l) = false := decide_eq_false hl
      by_cases h4' : (x : Int) < 4
      · have d6 : decide ((x : Int) < 4) = true := decide_eq_true h4'
        rw [if_pos h4'] at hbody
        have HBody := Lib.hid hbody
        clear hbody
        have HE := Lib.hid hE
        clear hE
        go_enter Tryz.func127, Tryz.ntmps127
        go_wp2_with fail
        refine (itoa_any k _ hkb HE.out).mono ?_
        rintro e w2 ⟨rfl, hb2⟩
        have HE2 := HE.out.below hb2
        go_wp2_with fail
        refine (itoa_any x _ hxb HE2).mono ?_
        rintro e w3 ⟨rfl, hb3⟩
        go_wp2
        go_ret
        refine ⟨?_, hb2.trans (hb3.mono hb2.size)⟩
        rw [HBody.out]
        refine ret_str ?_
        apply ByteArray.ext
        simp [kE, kP]
      · have d6 : decide ((x : Int) < 4) = false := decide_eq_false h4'
        rw [if_neg h4'] at hbody
        have HBody := Lib.hid hbody
        clear hbody
        have HE := Lib.hid hE
        clear hE
        go_enter Tryz.func127, Tryz.ntmps127
        go_wp2_with fail
        refine (itoa_any k _ hkb HE.out).mono ?_
        rintro e w2 ⟨rfl, hb2⟩
        have HE2 := HE.out.below hb2
        go_wp2
        go_ret
        refine ⟨?_, hb2⟩
        rw [HBody.out]
        refine ret_str ?_
        apply ByteArray.ext
        simp [kE]
  · have hno : nameOf l i wd = [] := by unfold nameOf; rw [if_neg hok]
    rw [hno]
    have hway : (decide (l < -1) = true) ∨ (decide (l < -1) = false ∧ decide (20 < l) = true) ∨ (decide (l < -1) = false ∧ decide (20 < l) = false ∧ decide (i < 0) = true) ∨
        (decide (l < -1) = false ∧ decide (20 < l) = false ∧ decide (i < 0) = false ∧ decide (wd < 1) = true) ∨
        (decide (l < -1) = false ∧ decide (20 < l) = false ∧ decide (i < 0) = false ∧ decide (wd < 1) = false ∧ decide (4 < wd) = true) := by
      unfold nameOk at hok
      simp only [decide_eq_true_eq, decide_eq_false_iff_not]
      omega
    clear hok hno hE
    rcases hway with h | ⟨h, h'⟩ | ⟨h, h', h''⟩ | ⟨h, h', h'', h3⟩ | ⟨h, h', h'', h3, h4⟩
    all_goals
      go_enter Tryz.func127, Tryz.ntmps127
      go_wp2
      go_ret
      exact ⟨rfl, Below.refl _ _⟩
end Go.Proofs.YtefccfakhgdfbabGreatDoor
end

section
namespace Go.Proofs.YtefccfakhgdfbabGreatDoor
open Go.RowKit Go.ChangeShapes
/-- Variable g holds a pointer to an errorString of that text. -/
def SentAt (w : World) (g : Nat) (a : Addr) (text : List UInt8) : Prop :=
  w.cell? ⟨g, 0, none⟩ = some (.iface 338 (.pointer (some a))) ∧ (∃ s : ByteArray, w.cell? a = some (.string s) ∧ s.data.toList = text) ∧ ∃ (c : Array Value) (t : TypeId), w.heap[a.block]? = some (.cells c t (0, 0))
theorem SentAt.below {w w' : World} {g : Nat} {a : Addr} {text : List UInt8} (h : SentAt w g a text) (hb : Below w.heap.size w w') : SentAt w' g a text := by
  obtain ⟨h1, ⟨s, h2, h3⟩, c, t, h4⟩ := h
  exact ⟨(hb.cell (cell_lt h1)).trans h1, ⟨s, (hb.cell (cell_lt h2)).trans h2, h3⟩, c, t, (hb.block _ (lt_of_heap h4)).trans h4⟩
theorem SentAt.ne {w : World} {g g' : Nat} {a a' : Addr} {x y : List UInt8} (h : SentAt w g a x) (h' : SentAt w g' a' y) (hne : x ≠ y) : a ≠ a' := by
  rintro rfl
  obtain ⟨_, ⟨s, h2, h3⟩, _⟩ := h
  obtain ⟨_, ⟨s', h2', h3'⟩, _⟩ := h'
  rw [h2] at h2'
  cases h2'
  exact hne (h3.symm.trans h3')
theorem sName : "*" ++ "errors.errorString" = "*errors.errorString" := by decide
theorem sRow (u : TypeId) (h : Tryz.prog.typeName? 3 u = some "*errors.errorString") : u = 338 :=
  typeName_ptr_named (nm := "errors.errorString") (by rw [sName]; kernel_rfl) (by kernel_rfl) (by decide) u (by rw [sName]; exact h)
theorem sCells : Tryz.prog.cellsOf 340 = 1 := by kernel_rfl
theorem sCells2 : Tryz.prog.cellsOf 9 = 1 := by kernel_rfl
set_option maxRecDepth 100000 in
/-- The head of the list, as a sentinel. -/
theorem sent_head {n : String} {text : List UInt8} {r : List (String × DataW Unit)} {W : World} {g : Nat}
    (h : laidMet Tryz.prog ((n, .iface "*errors.errorString" (.ptr (.agg [.lit (.string text)]))) :: r) W)
    (hg : Tryz.prog.globalNamed n = some g) (ht : (Tryz.prog.globals[g]?).map (·.type) = some 88) : ∃ a, SentAt W g a text := by
  obtain ⟨ps, ⟨g0, t0, cs0, f0, p0, q0, hg0, ht0, hv0, hd0, _, e0⟩, _, hrows⟩ := h
  obtain rfl := Option.some.inj (hg.symm.trans hg0)
  obtain rfl := Option.some.inj (ht.symm.trans ht0)
  subst e0
  obtain ⟨l0⟩ := cs0
  have ok0 : ∀ u v, l0 = [.iface u v] → Value.okWide Tryz.prog W .any 0 u v := fun u v e => by
    subst e
    exact (hrows g 0 (by simp [MemPlace.row])).2 u v (by simpa using World.var?_cell hg0 hv0 0)
  obtain ⟨a0, s0, rfl, hc0, hs0, hz0, rfl⟩ := errorString_of_trod Tryz.underlying88 sRow Tryz.underlying338 Tryz.underlying340 rfl rfl Tryz.underlying9 sCells sCells2 hd0 ok0
  obtain ⟨c0, t0, hb0⟩ := (hrows a0.block a0.off (by simp [MemPlace.row])).1
  exact ⟨a0, by simpa using World.var?_cell hg0 hv0 0, ⟨s0, hc0, hs0⟩, c0, t0, hb0⟩
/-- A pointer that is the address of such a block. -/
def Held0 (w : World) (a : Addr) : Prop := ∃ (c : Array Value) (t : TypeId), w.heap[a.block]? = some (.cells c t (0, 0))
theorem SentAt.held {w : World} {g : Nat} {a : Addr} {text : List UInt8} (h : SentAt w g a text) : Held0 w a := h.2.2
theorem Held0.below {w w' : World} {a : Addr} (h : Held0 w a) (hb : Below w.heap.size w w') : Held0 w' a := by
  obtain ⟨c, t, h4⟩ := h
  exact ⟨c, t, (hb.block _ (lt_of_heap h4)).trans h4⟩
theorem comp_err : (Tryz.prog.info? 338).map (·.comparable) = some true := by kernel_rfl
theorem size_err : (Tryz.prog.info? 340).map (·.size) = some 1 := by kernel_rfl
theorem eql_same (w : World) (a : Addr) : (binOp .eql 88 (.iface 338 (.pointer (some a))) (.iface 338 (.pointer (some a)))).run Tryz.prog w = .ok (.bool true) w := by
  obtain ⟨i, hi, hcmp⟩ := Option.map_eq_some_iff.1 comp_err
  obtain ⟨j, hj, _⟩ := Option.map_eq_some_iff.1 size_err
  exact run_eql_iface_ptr_same w a Tryz.underlying88 Tryz.underlying338 hi hcmp hj
theorem eql_other (w : World) {a b : Addr} (ha : Held0 w a) (hb : Held0 w b) (hne : a ≠ b) : (binOp .eql 88 (.iface 338 (.pointer (some a))) (.iface 338 (.pointer (some b)))).run Tryz.prog w = .ok (.bool false) w := by
  obtain ⟨i, hi, hcmp⟩ := Option.map_eq_some_iff.1 comp_err
  obtain ⟨j, hj, hsz⟩ := Option.map_eq_some_iff.1 size_err
  obtain ⟨ca, ta, h1⟩ := ha
  obtain ⟨cb, tb, h2⟩ := hb
  exact run_eql_iface_ptr_other w Tryz.underlying88 Tryz.underlying338 hi hcmp hj (by rw [hsz]; decide) hne h1 h2
theorem eql_nil (w : World) (T : TypeId) (v : Value) : (binOp .eql 88 (.iface T v) .nilIface).run Tryz.prog w = .ok (.bool false) w := by
  have h : ∀ d : Nat, (Op.equalIn (d + 1) 88 (.iface T v) .nilIface).run Tryz.prog w = .ok false w := fun d => by simp [Op.equalIn, run_underlying Tryz.underlying88]
  simp only [binOp]
  simp [Op.equal, Op.maxDepth, h 9999]
/-- The sentinels' variables, and their texts. -/
def sVars : List Nat := [3, 4, 1, 5, 2, 6, 0]
def sTexts : List (List UInt8) := [[116, 104, 101, 32, 101, 110, 116, 114, 121, 32, 105, 115, 32, 116, 111, 111, 32, 108, 111, 110, 103],
  [116, 104, 101, 114, 101, 32, 105, 115, 32, 110, 111, 32, 115, 117, 99, 104, 32, 101, 110, 116, 114, 121, 44, 32, 111, 114, 32, 110, 111, 32, 115, 117, 99, 104, 32, 115, 105, 122, 101],
  [116, 104, 105, 115, 32, 105, 115, 32, 110, 111, 32, 99, 104, 101, 99, 107, 112, 111, 105, 110, 116, 32, 111, 102, 32, 116, 104, 97, 116, 32, 107, 101, 121],
  [116, 104, 101, 32, 99, 104, 101, 99, 107, 112, 111, 105, 110, 116, 32, 105, 115, 32, 111, 108, 100, 101, 114, 32, 116, 104, 97, 110, 32, 119, 104, 97, 116, 32, 105, 115, 32, 116, 114, 117, 115, 116, 101, 100],
  [119, 104, 97, 116, 32, 104, 97, 115, 32, 99, 111, 109, 101, 32, 100, 111, 101, 115, 32, 110, 111, 116, 32, 102, 105, 116],
  [97, 32, 116, 105, 108, 101, 32, 111, 114, 32, 98, 117, 110, 100, 108, 101, 32, 105, 115, 32, 109, 105, 115, 115, 105, 110, 103, 32, 111, 114, 32, 98, 114, 111, 107, 101, 110],
  [116, 104, 101, 32, 112, 117, 98, 108, 105, 115, 104, 101, 114, 32, 104, 97, 115, 32, 102, 97, 105, 108, 101, 100]]
/-- All seven are there: f tells their addresses. -/
def Sents (w : World) (f : Nat → Addr) : Prop := ∀ i, i < 7 → SentAt w (sVars.getD i 0) (f i) (sTexts.getD i [])
theorem Sents.below {w w' : World} {f : Nat → Addr} (h : Sents w f) (hb : Below w.heap.size w w') : Sents w' f := fun i hi => (h i hi).below hb
theorem Sents.ne {w : World} {f : Nat → Addr} (h : Sents w f) {i j : Nat} (hi : i < 7) (hj : j < 7) (hne : i ≠ j) : f i ≠ f j := by
  refine (h i hi).ne (h j hj) ?_
  have key : ∀ i j : Fin 7, i ≠ j → sTexts.getD i.val [] ≠ sTexts.getD j.val [] := by decide
  exact key ⟨i, hi⟩ ⟨j, hj⟩ (fun e => hne (congrArg Fin.val e))
theorem Sents.held {w : World} {f : Nat → Addr} (h : Sents w f) {i : Nat} (hi : i < 7) : Held0 w (f i) := (h i hi).held
end Go.Proofs.YtefccfakhgdfbabGreatDoor
end
