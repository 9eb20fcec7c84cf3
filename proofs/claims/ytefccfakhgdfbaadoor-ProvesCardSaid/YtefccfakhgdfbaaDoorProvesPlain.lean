/- What P5 and P7 take of P4 and P6, and what not. No program is used. -/
import Derived.Test.YtefccfakhgdfbaaDoorPathPlain
namespace Go.Proofs.YtefccfakhgdfbaaDoor
open Go.RowKit
theorem included_path (ls : List (List UInt8)) (i : Nat) (hi : i < ls.length) : included (leafH (ls.getD i [])) i ls.length (pathOf ls i) (rootOf ls) = true := by
  unfold included
  rw [Int.toNat_natCast, Int.toNat_natCast, rebuild_path ls.length ls i (Nat.le_refl _) hi]
  simp
  omega
theorem included_more (ls : List (List UInt8)) (i : Nat) (hi : i < ls.length) (x r y : Hsh) : included x i ls.length (pathOf ls i ++ [y]) r = false := by
  unfold included
  rw [Int.toNat_natCast, Int.toNat_natCast, Bool.and_eq_false_iff]
  right
  rw [beq_eq_false_iff_ne]
  intro h
  have := rebuild_len (pathOf ls i).length (leafH (ls.getD i [])) x i ls.length (pathOf ls i) (pathOf ls i ++ [y]) (Nat.le_refl _) (by rw [rebuild_path ls.length ls i (Nat.le_refl _) hi]; rfl) (by rw [h]; rfl)
  simp at this
theorem included_out (x r : Hsh) (n : Int) (p : List Hsh) : included x n n p r = false := by
  unfold included
  rw [show decide (n < n) = false by simp]
  simp
theorem consistent_part (ls : List (List UInt8)) (m : Nat) (h1 : 1 ≤ m) (hm : m ≤ ls.length) (hl : ls.length < 9223372036854775808) : consistent m ls.length (rootOf (ls.take m)) (rootOf ls) (partOf m ls true) = true := by
  unfold consistent
  have h := roots_part ls.length ls m true (Nat.le_refl _) hl h1 hm
  rw [if_pos rfl] at h
  rw [Int.toNat_natCast, Int.toNat_natCast, h]
  simp
  omega
theorem consistent_more (ls : List (List UInt8)) (m : Nat) (h1 : 1 ≤ m) (hm : m ≤ ls.length) (hl : ls.length < 9223372036854775808) (a b y : Hsh) : consistent m ls.length a b (partOf m ls true ++ [y]) = false := by
  unfold consistent
  rw [Int.toNat_natCast, Int.toNat_natCast, Bool.and_eq_false_iff]
  right
  rw [beq_eq_false_iff_ne]
  intro h
  have h0 := roots_part ls.length ls m true (Nat.le_refl _) hl h1 hm
  rw [if_pos rfl] at h0
  have := roots_len (partOf m ls true).length (some (rootOf (ls.take m))) (some a) m ls.length (partOf m ls true) (partOf m ls true ++ [y]) rfl (Nat.le_refl _) (by rw [h0]; rfl) (by rw [h]; rfl)
  simp at this
theorem consistent_none (n : Int) (a b : Hsh) (p : List Hsh) : consistent 0 n a b p = false := by
  unfold consistent
  rw [show decide ((1 : Int) ≤ 0) = false by decide]
  simp
end Go.Proofs.YtefccfakhgdfbaaDoor
