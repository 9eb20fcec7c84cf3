/- The walks of tilesref.Name and tilesref.Parse. -/
import Derived.Test.YtefccfakhgdfbaaDoorDigits
namespace Go.Proofs.YtefccfakhgdfbaaDoor
open Go.RowKit
theorem ret_str {a b : ByteArray} (h : a = b) : Ending.returned (.string a) = .returned (.string b) := by rw [h]
set_option maxHeartbeats 4000000 in
set_option maxRecDepth 100000 in
theorem rname_any (l i wd : Int) (w : World) (hi : i < 9223372036854775808) :
    Calls Tryd.prog 21 #[.int .i64 l, .int .i64 i, .int .i64 wd] w fun e w' => e = .returned (.string (sOf (nameOf l i wd))) ∧ Below w.heap.size w w' := by
  by_cases hok : nameOk l i wd
  · have hbody := nameOf_body hok
    obtain ⟨h1, h2, h3, h4, h5⟩ := hok
    have d1 : decide (l < -1) = false := decide_eq_false (by omega)
    have d2 : decide (20 < l) = false := decide_eq_false (by omega)
    have d3 : decide (i < 0) = false := decide_eq_false (by omega)
    have d4 : decide (wd < 1) = false := decide_eq_false (by omega)
    have d5 : decide (4 < wd) = false := decide_eq_false (by omega)
    obtain ⟨k, rfl⟩ : ∃ k : Nat, i = k := ⟨i.toNat, by omega⟩
    obtain ⟨x, rfl⟩ : ∃ x : Nat, wd = x := ⟨wd.toNat, by omega⟩
    have hk : (dec k).length ≤ 19 := dec_len19 (by omega)
    have hx : (dec x).length ≤ 19 := dec_len19 (by omega)
    have hkb : k < 9223372036854775808 := by omega
    have hxb : x < 9223372036854775808 := by omega
    unfold nameBody at hbody
    rw [Int.toNat_natCast, Int.toNat_natCast] at hbody
    by_cases hl : 0 ≤ l
    · obtain ⟨j, rfl⟩ : ∃ j : Nat, l = j := ⟨l.toNat, by omega⟩
      have hj : (dec j).length ≤ 19 := dec_len19 (by omega)
      have hjb : j < 9223372036854775808 := by omega
      rw [if_pos hl, Int.toNat_natCast] at hbody
      by_cases h4' : (x : Int) < 4
      · have d6 : decide ((x : Int) < 4) = true := decide_eq_true h4'
        have d7 : decide ((0 : Int) ≤ (j : Int)) = true := decide_eq_true hl
        rw [if_pos h4'] at hbody
        have HBody := Lib.hid hbody
        clear hbody
        go_enter Tryd.func21, Tryd.ntmps21
        go_wp2_with fail
        refine (digits_any j _ hjb).mono ?_
        rintro e w1 ⟨rfl, hb1⟩
        go_wp2_with fail
        refine (digits_any k _ hkb).mono ?_
        rintro e w2 ⟨rfl, hb2⟩
        go_wp2_with fail
        refine (digits_any x _ hxb).mono ?_
        rintro e w3 ⟨rfl, hb3⟩
        go_wp2
        go_ret
        refine ⟨?_, (hb1.trans (hb2.mono hb1.size)).trans (hb3.mono (Nat.le_trans hb1.size hb2.size))⟩
        rw [HBody.out]
        refine ret_str ?_
        apply ByteArray.ext
        simp [kT, kP]
      · have d6 : decide ((x : Int) < 4) = false := decide_eq_false h4'
        have d7 : decide ((0 : Int) ≤ (j : Int)) = true := decide_eq_true hl
        rw [if_neg h4'] at hbody
        have HBody := Lib.hid hbody
        clear hbody
        go_enter Tryd.func21, Tryd.ntmps21
        go_wp2_with fail
        refine (digits_any j _ hjb).mono ?_
        rintro e w1 ⟨rfl, hb1⟩
        go_wp2_with fail
        refine (digits_any k _ hkb).mono ?_
        rintro e w2 ⟨rfl, hb2⟩
        go_wp2
        go_ret
        refine ⟨?_, hb1.trans (hb2.mono hb1.size)⟩
        rw [HBody.out]
        refine ret_str ?_
        apply ByteArray.ext
        simp [kT]
    · rw [if_neg hl] at hbody
      have d7 : decide ((0 : Int) ≤ l) = false := decide_eq_false hl
      by_cases h4' : (x : Int) < 4
      · have d6 : decide ((x : Int) < 4) = true := decide_eq_true h4'
        rw [if_pos h4'] at hbody
        have HBody := Lib.hid hbody
        clear hbody
        go_enter Tryd.func21, Tryd.ntmps21
        go_wp2_with fail
        refine (digits_any k _ hkb).mono ?_
        rintro e w2 ⟨rfl, hb2⟩
        go_wp2_with fail
        refine (digits_any x _ hxb).mono ?_
        rintro e w3 ⟨rfl, hb3⟩
        go_wp2
        go_ret
        refine ⟨?_, hb2.trans (hb3.mono hb2.size)⟩
        rw [HBody.out]
        refine ret_str ?_
        apply ByteArray.ext
        simp [kE, kP]
      · have d6 : decide ((x : Int) < 4) = false := decide_eq_false h4'
        rw [if_neg h4'] at hbody
        have HBody := Lib.hid hbody
        clear hbody
        go_enter Tryd.func21, Tryd.ntmps21
        go_wp2_with fail
        refine (digits_any k _ hkb).mono ?_
        rintro e w2 ⟨rfl, hb2⟩
        go_wp2
        go_ret
        refine ⟨?_, hb2⟩
        rw [HBody.out]
        refine ret_str ?_
        apply ByteArray.ext
        simp [kE]
  · have hno : nameOf l i wd = [] := by unfold nameOf; rw [if_neg hok]
    rw [hno]
    have hway : (decide (l < -1) = true) ∨ (decide (l < -1) = false ∧ decide (20 < l) = true) ∨ (decide (l < -1) = false ∧ decide (20 < l) = false ∧ decide (i < 0) = true) ∨
        (decide (l < -1) = false ∧ decide (20 < l) = false ∧ decide (i < 0) = false ∧ decide (wd < 1) = true) ∨
        (decide (l < -1) = false ∧ decide (20 < l) = false ∧ decide (i < 0) = false ∧ decide (wd < 1) = false ∧ decide (4 < wd) = true) := by
      unfold nameOk at hok
      simp only [decide_eq_true_eq, decide_eq_false_iff_not]
      omega
    clear hok hno
    rcases hway with h | ⟨h, h'⟩ | ⟨h, h', h''⟩ | ⟨h, h', h'', h3⟩ | ⟨h, h', h'', h3, h4⟩
    all_goals
      go_enter Tryd.func21, Tryd.ntmps21
      go_wp2
      go_ret
      exact ⟨rfl, Below.refl _ _⟩
end Go.Proofs.YtefccfakhgdfbaaDoor
