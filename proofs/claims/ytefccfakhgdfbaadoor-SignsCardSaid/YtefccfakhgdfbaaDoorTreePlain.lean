/- Trees in plain terms. No program is used. -/
import Derived.Test.YtefccfakhgdfbaaDoorPlain
namespace Go.Proofs.YtefccfakhgdfbaaDoor
open Go.RowKit
/-- P3: the root of some entries, by their number (fuel: no fewer than there are). -/
def rootF : Nat → List (List UInt8) → Hsh
  | 0, _ => hash []
  | f + 1, l => if l.length = 0 then hash [] else if l.length = 1 then leafH (l.getD 0 []) else nodeH (rootF f (l.take (below l.length))) (rootF f (l.drop (below l.length)))
def rootOf (l : List (List UInt8)) : Hsh := rootF l.length l
theorem below_lt {n : Nat} (h2 : 2 ≤ n) : 0 < below n ∧ below n < n := by
  unfold below
  have h := Nat.two_pow_pos (Lib.bitLen (n - 1) - 1)
  refine ⟨h, ?_⟩
  by_cases hb : n - 1 < 2 ^ 64
  · have := Lib.bitLenAux_bounds 64 (n - 1) hb (by omega)
    have h2 := this.2.1
    show 2 ^ (Lib.bitLenAux 64 (n - 1) - 1) < n
    omega
  · have : Lib.bitLenAux 64 (n - 1) ≤ 64 := by
      have hf : ∀ (f x : Nat), Lib.bitLenAux f x ≤ f := by
        intro f
        induction f with
        | zero => intro x; simp [Lib.bitLenAux]
        | succ f ih => intro x; simp only [Lib.bitLenAux]; split; omega; have := ih (x / 2); omega
      exact hf 64 _
    have h3 : 2 ^ (Lib.bitLenAux 64 (n - 1) - 1) ≤ 2 ^ 63 := Nat.pow_le_pow_right (by decide) (by omega)
    show 2 ^ (Lib.bitLenAux 64 (n - 1) - 1) < n
    omega
theorem rootF_more : ∀ (f g : Nat) (l : List (List UInt8)), l.length ≤ f → l.length ≤ g → rootF f l = rootF g l
  | 0, 0, _, _, _ => rfl
  | 0, g + 1, l, h, _ => by
    have : l.length = 0 := by omega
    simp [rootF, this]
  | f + 1, 0, l, _, h => by
    have : l.length = 0 := by omega
    simp [rootF, this]
  | f + 1, g + 1, l, h1, h2 => by
    simp only [rootF]
    split
    · rfl
    · split
      · rfl
      · have hb := below_lt (n := l.length) (by omega)
        rw [rootF_more f g _ (by simp; omega) (by simp; omega), rootF_more f g (l.drop _) (by simp; omega) (by simp; omega)]
theorem rootOf_nil : rootOf [] = hash [] := rfl
theorem rootOf_one (e : List UInt8) : rootOf [e] = leafH e := rfl
theorem rootOf_more {l : List (List UInt8)} (h : 2 ≤ l.length) : rootOf l = nodeH (rootOf (l.take (below l.length))) (rootOf (l.drop (below l.length))) := by
  unfold rootOf
  have hb := below_lt h
  obtain ⟨n, hn⟩ : ∃ n, l.length = n + 1 := ⟨l.length - 1, by omega⟩
  rw [hn]
  simp only [rootF]
  rw [if_neg (by omega), if_neg (by omega), hn]
  rw [hn] at hb
  congr 1
  · exact rootF_more _ _ _ (by simp; omega) (Nat.le_refl _)
  · exact rootF_more _ _ _ (by simp; omega) (Nat.le_refl _)
/-- The root of 2^level entries, from index times that on. -/
def fullRoot (ls : List (List UInt8)) : Nat → Nat → Hsh
  | 0, i => leafH (ls.getD i [])
  | L + 1, i => nodeH (fullRoot ls L (2 * i)) (fullRoot ls L (2 * i + 1))
theorem below_pow (e : Nat) (he : e + 1 ≤ 62) : below (2 ^ (e + 1)) = 2 ^ e := by
  have h1 : 2 ^ (e + 1) ≤ 2 ^ 62 := Nat.pow_le_pow_right (by decide) he
  have h2 : 2 ^ e ≥ 1 := Nat.two_pow_pos e
  rw [Nat.pow_succ] at h1
  apply below_uniq
  · rw [Nat.pow_succ]; omega
  · rw [Nat.pow_succ]; omega
  · rw [Nat.pow_succ]; omega
  · rw [Nat.pow_succ]; omega
theorem fullRoot_eq (ls : List (List UInt8)) : ∀ (L i : Nat), L ≤ 62 → (i + 1) * 2 ^ L ≤ ls.length → fullRoot ls L i = rootOf ((ls.drop (i * 2 ^ L)).take (2 ^ L))
  | 0, i, _, h => by
    simp only [Nat.pow_zero, Nat.mul_one] at h ⊢
    have hi : i < ls.length := by omega
    rw [List.drop_eq_getElem_cons hi]
    show _ = rootOf [ls[i]]
    rw [rootOf_one]
    simp [fullRoot, List.getD, hi]
  | L + 1, i, hL, h => by
    have hp : 2 ^ L ≥ 1 := Nat.two_pow_pos L
    have hlen : ((ls.drop (i * 2 ^ (L + 1))).take (2 ^ (L + 1))).length = 2 ^ (L + 1) := by
      rw [List.length_take, List.length_drop]
      rw [Nat.add_mul] at h
      omega
    rw [rootOf_more (by rw [hlen, Nat.pow_succ]; omega), hlen, below_pow L hL]
    have e1 : i * 2 ^ (L + 1) = (2 * i) * 2 ^ L := by rw [Nat.pow_succ, Nat.mul_comm 2 i, Nat.mul_assoc, Nat.mul_comm (2 ^ L) 2]
    have e2 : 2 ^ (L + 1) = 2 ^ L + 2 ^ L := by rw [Nat.pow_succ]; omega
    have e3 : (2 * i + 1) * 2 ^ L = (2 * i) * 2 ^ L + 2 ^ L := by rw [Nat.add_mul, Nat.one_mul]
    have e4 : (i + 1) * 2 ^ (L + 1) = (2 * i) * 2 ^ L + 2 ^ L + 2 ^ L := by rw [Nat.add_mul, Nat.one_mul, e1, e2]; omega
    rw [e4] at h
    simp only [fullRoot]
    rw [fullRoot_eq ls L (2 * i) (by omega) (by rw [Nat.add_mul, Nat.one_mul]; omega), fullRoot_eq ls L (2 * i + 1) (by omega) (by rw [Nat.add_mul, Nat.one_mul, e3]; omega)]
    congr 2
    · rw [List.take_take, e1, e2]; congr 1; omega
    · rw [e3, e1, e2, List.drop_take, List.drop_drop]
      congr 1
      omega
end Go.Proofs.YtefccfakhgdfbaaDoor
