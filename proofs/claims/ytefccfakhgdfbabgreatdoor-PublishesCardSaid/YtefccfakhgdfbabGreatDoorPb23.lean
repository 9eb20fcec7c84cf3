/-
  The walk of tilesref.Parse.
-/
import Derived.Test.YtefccfakhgdfbabGreatDoorPb06
import Derived.Deep.DeepCutAuto
set_option linter.unusedVariables false
set_option linter.unusedSimpArgs false
section
namespace Go.Proofs.YtefccfakhgdfbabGreatDoor
open Go.RowKit
theorem str_ne_nil {l : List UInt8} (h : l ≠ []) : (sOf l).toList.isEmpty = false := by
  rw [ByteArray.toList_eq]
  simpa using h
def fourPost (q : Four) (w : World) (e : Ending) (w' : World) : Prop :=
  e = .returned (.tuple #[.int .i64 q.1, .int .i64 q.2.1, .int .i64 q.2.2.1, .bool q.2.2.2]) ∧ Below w.heap.size w w'
theorem beginsOf_le (s p : List UInt8) : (beginsOf s p).1.length ≤ s.length := by
  unfold beginsOf
  split <;> simp
theorem numGo_le : ∀ (l : List UInt8) (a n : Nat) (r : List UInt8), numGo a l = some (n, r) → r.length ≤ l.length
  | [], a, n, r, h => by simp only [numGo, Option.some.injEq, Prod.mk.injEq] at h; rw [← h.2]; exact Nat.le_refl _
  | c :: l, a, n, r, h => by
    simp only [numGo] at h
    split at h
    · split at h
      · cases h
      · have := numGo_le l _ n r h
        simp only [List.length_cons]
        omega
    · simp only [Option.some.injEq, Prod.mk.injEq] at h; rw [← h.2]; exact Nat.le_refl _
theorem numberOf_le (l : List UInt8) : (numberOf l).2.1.length ≤ l.length := by
  unfold numberOf
  cases h : numGo 0 l with
  | none => exact Nat.le_refl _
  | some x => exact numGo_le l 0 x.1 x.2 h
end Go.Proofs.YtefccfakhgdfbabGreatDoor
end
