/- P7 in plain terms: what is rebuilt, case by case. -/
import Derived.Test.YtefccfakhgdfbaaDoorPlain
namespace Go.Proofs.YtefccfakhgdfbaaDoor
theorem rootsp_nil (m n : Nat) (whole : Option Hsh) : roots m n whole [] = if m = n then whole.map fun a => (a, a) else none := by simp [roots, rootsR]
theorem rootsp_snoc (m n : Nat) (whole : Option Hsh) (q : List Hsh) (r : Hsh) : roots m n whole (q ++ [r]) = if m = n then (match whole with | some _ => none | none => if q = [] then some (r, r) else none)
      else if m ≤ below n then (roots m (below n) whole q).map fun x => (x.1, nodeH x.2 r) else (roots (m - below n) (n - below n) none q).map fun x => (nodeH r x.1, nodeH r x.2) := by
  unfold roots below
  rw [List.reverse_append]
  simp only [List.reverse_cons, List.reverse_nil, List.nil_append, List.singleton_append, rootsR]
  cases whole <;> simp
theorem rootsp_whole (m : Nat) (a : Hsh) (p : List Hsh) : roots m m (some a) p = if p.length = 0 then some (a, a) else none := by
  rcases List.eq_nil_or_concat p with rfl | ⟨q, r, rfl⟩
  · simp [rootsp_nil]
  · rw [List.concat_eq_append] at *
    rw [rootsp_snoc, if_pos rfl]; simp
theorem rootsp_one (m : Nat) (r : Hsh) : roots m m none [r] = some (r, r) := by
  have := rootsp_snoc m m none [] r
  simpa using this
theorem rootsp_other (m : Nat) (p : List Hsh) (h : p.length ≠ 1) : roots m m none p = none := by
  rcases List.eq_nil_or_concat p with rfl | ⟨q, r, rfl⟩
  · simp [rootsp_nil]
  · rw [List.concat_eq_append] at *
    rw [rootsp_snoc, if_pos rfl]
    have : q ≠ [] := by intro e; subst e; simp at h
    simp [this]
end Go.Proofs.YtefccfakhgdfbaaDoor
