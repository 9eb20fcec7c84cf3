/- P5 in plain terms: what is rebuilt, case by case. -/
import Derived.Test.YtefccfakhgdfbaaDoorPlain
namespace Go.Proofs.YtefccfakhgdfbaaDoor
theorem rebuild_nil (leaf : Hsh) (i n : Nat) : rebuild leaf i n [] = if n = 1 then some leaf else none := by simp [rebuild, rebuildR]
theorem rebuild_snoc (leaf last : Hsh) (i n : Nat) (q : List Hsh) : rebuild leaf i n (q ++ [last]) = if n = 1 then none else if i < below n then (rebuild leaf i (below n) q).map (nodeH · last) else (rebuild leaf (i - below n) (n - below n) q).map (nodeH last ·) := by
  unfold rebuild below
  rw [List.reverse_append]
  rfl
end Go.Proofs.YtefccfakhgdfbaaDoor
