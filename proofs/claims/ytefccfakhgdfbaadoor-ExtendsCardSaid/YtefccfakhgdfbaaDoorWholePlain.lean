/- The tests of merkle.Whole in plain terms. No program is used. -/
import Derived.Test.YtefccfakhgdfbaaDoorTreePlain
namespace Go.Proofs.YtefccfakhgdfbaaDoor
open Go.RowKit
theorem and_i64 (a b : Nat) (ha : a < 9223372036854775808) (hb : b < 9223372036854775808) : bits .and .i64 (a : Int) (b : Int) = ((a &&& b : Nat) : Int) := by
  have h1 : (BitVec.ofInt 64 (a : Int)).toNat = a := by
    rw [BitVec.ofInt_natCast, BitVec.toNat_ofNat]; exact Nat.mod_eq_of_lt (by omega)
  have h2 : (BitVec.ofInt 64 (b : Int)).toNat = b := by
    rw [BitVec.ofInt_natCast, BitVec.toNat_ofNat]; exact Nat.mod_eq_of_lt (by omega)
  have h3 : a &&& b ≤ a := Nat.and_le_left
  show IntKind.i64.wrap ((BitVec.ofInt 64 (a : Int) &&& BitVec.ofInt 64 (b : Int)).toNat : Int) = _
  rw [BitVec.toNat_and, h1, h2]
  generalize a &&& b = c at *
  simp [IntKind.wrap, IntKind.bits, IntKind.signed]
  omega
theorem pow_of_and {n : Nat} (h1 : 1 ≤ n) (hn : n < 2 ^ 64) (h : n &&& (n - 1) = 0) : n = 2 ^ (Lib.bitLen n - 1) := by
  obtain ⟨e, he⟩ : ∃ e, e = Lib.bitLen n - 1 := ⟨_, rfl⟩
  have hb := Lib.bitLenAux_bounds 64 n hn (by omega)
  have hb' : 2 ^ e ≤ n ∧ n < 2 ^ e * 2 := by
    rw [he]
    have hs : Lib.bitLen n = Lib.bitLenAux 64 n := rfl
    rw [hs]
    obtain ⟨a1, a2, a3⟩ := hb
    refine ⟨a2, ?_⟩
    rw [← Nat.pow_succ]
    have : (Lib.bitLenAux 64 n - 1).succ = Lib.bitLenAux 64 n := by omega
    rw [this]
    exact a3
  rw [← he]
  rcases Nat.lt_or_ge (2 ^ e) n with hlt | hge
  · exfalso
    have t1 : n.testBit e = true := by
      rw [Nat.testBit_eq_decide_div_mod_eq, (Nat.div_eq_of_lt_le (k := 1) (by omega) (by omega) : n / 2 ^ e = 1)]; rfl
    have t2 : (n - 1).testBit e = true := by
      rw [Nat.testBit_eq_decide_div_mod_eq, (Nat.div_eq_of_lt_le (k := 1) (by omega) (by omega) : (n - 1) / 2 ^ e = 1)]; rfl
    have t3 : (n &&& (n - 1)).testBit e = true := by rw [Nat.testBit_and, t1, t2]; rfl
    rw [h] at t3
    simp at t3
  · omega
end Go.Proofs.YtefccfakhgdfbaaDoor
