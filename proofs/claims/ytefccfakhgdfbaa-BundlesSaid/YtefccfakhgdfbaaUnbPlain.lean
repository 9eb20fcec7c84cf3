/- P9 in plain terms: what Unbundle reads. No program is used. -/
import Derived.Test.YtefccfakhgdfbaaFBundle
namespace Go.Proofs.Ytefccfakhgdfbaa
open Go.RowKit
/-- The pieces of some bytes: a length, so many bytes, and so on. -/
def rawF : Nat → List UInt8 → Option (List (List UInt8))
  | _, [] => some []
  | 0, _ :: _ => none
  | f + 1, x :: r => if x.toNat ≤ r.length then (rawF f (r.drop x.toNat)).map (r.take x.toNat :: ·) else none
def rawU (l : List UInt8) : Option (List (List UInt8)) := rawF l.length l
theorem rawF_more : ∀ (f g : Nat) (l : List UInt8), l.length ≤ f → l.length ≤ g → rawF f l = rawF g l
  | _, _, [], _, _ => by simp [rawF]
  | 0, _, _ :: _, h, _ => by simp at h
  | _, 0, _ :: _, _, h => by simp at h
  | f + 1, g + 1, x :: r, h1, h2 => by
    simp only [rawF]
    simp only [List.length_cons] at h1 h2
    rw [rawF_more f g (r.drop x.toNat) (by simp; omega) (by simp; omega)]
theorem rawU_nil : rawU [] = some [] := rfl
theorem rawU_cons (x : UInt8) (r : List UInt8) : rawU (x :: r) = if x.toNat ≤ r.length then (rawU (r.drop x.toNat)).map (r.take x.toNat :: ·) else none := by
  show rawF (r.length + 1) (x :: r) = _
  simp only [rawF]
  rw [show rawU (r.drop x.toNat) = rawF r.length (r.drop x.toNat) from rawF_more _ _ _ (by simp) (by simp)]
def unbundleOf (l : List UInt8) : Option (List (List UInt8)) := (rawU l).bind fun ls => if (bundleOf ls).isSome then some ls else none
theorem rawF_flat : ∀ (f : Nat) (l : List UInt8) (ls : List (List UInt8)), rawF f l = some ls → ls.flatMap encE = l
  | _, [], ls, h => by simp [rawF] at h; subst h; rfl
  | 0, _ :: _, ls, h => by simp [rawF] at h
  | f + 1, x :: r, ls, h => by
    simp only [rawF] at h
    split at h
    · rename_i hx
      obtain ⟨ls', h', rfl⟩ := Option.map_eq_some_iff.1 h
      have := rawF_flat f _ _ h'
      rw [List.flatMap_cons, this, encE, List.length_take, Nat.min_eq_left hx]
      simp
    · cases h
theorem unbundle_flat {l : List UInt8} {ls : List (List UInt8)} (h : rawU l = some ls) : ls.flatMap encE = l := rawF_flat _ _ _ h
/-- What the loop has read so far, and what is left. -/
def Read (data : List UInt8) (ls : List (List UInt8)) (rest : List UInt8) : Prop := rawU data = (rawU rest).map (ls ++ ·)
theorem Read.start (data : List UInt8) : Read data [] data := by unfold Read; simp
theorem Read.step {data r : List UInt8} {ls : List (List UInt8)} {x : UInt8} (h : Read data ls (x :: r)) (hx : x.toNat ≤ r.length) : Read data (ls ++ [r.take x.toNat]) (r.drop x.toNat) := by
  unfold Read at *
  rw [h, rawU_cons, if_pos hx, Option.map_map]
  congr 1
  funext q
  simp
theorem Read.bad {data r : List UInt8} {ls : List (List UInt8)} {x : UInt8} (h : Read data ls (x :: r)) (hx : r.length < x.toNat) : rawU data = none := by
  unfold Read at h
  rw [h, rawU_cons, if_neg (by omega)]
  rfl
theorem Read.done {data : List UInt8} {ls : List (List UInt8)} (h : Read data ls []) : rawU data = some ls := by
  unfold Read at h
  rw [h, rawU_nil]
  simp
theorem bundle_mem_long {ls : List (List UInt8)} {l : List UInt8} (h : l ∈ ls) (hl : 20 < l.length) : bundleOf ls = none := by
  obtain ⟨k, hk, rfl⟩ := List.getElem_of_mem h
  exact bundle_long (List.getElem?_eq_getElem hk) hl
theorem Read.long {data r : List UInt8} {ls : List (List UInt8)} {x : UInt8} (h : Read data ls (x :: r)) (hx : 20 < x.toNat) : unbundleOf data = none := by
  unfold unbundleOf
  by_cases hr : x.toNat ≤ r.length
  · have h2 := h.step hr
    unfold Read at h2
    rw [h2]
    cases rawU (r.drop x.toNat) with
    | none => rfl
    | some q =>
      simp only [Option.map_some, Option.bind_some]
      rw [bundle_mem_long (l := r.take x.toNat) (by simp) (by simp; omega)]
      rfl
  · rw [h.bad (by omega)]
    rfl
theorem Read.many {data r : List UInt8} {ls : List (List UInt8)} {x : UInt8} (h : Read data ls (x :: r)) (h4 : 4 ≤ ls.length) : unbundleOf data = none := by
  unfold unbundleOf
  by_cases hr : x.toNat ≤ r.length
  · have h2 := h.step hr
    unfold Read at h2
    rw [h2]
    cases rawU (r.drop x.toNat) with
    | none => rfl
    | some q =>
      simp only [Option.map_some, Option.bind_some]
      rw [bundle_none (.inr (by simp; omega))]
      rfl
  · rw [h.bad (by omega)]
    rfl
theorem unbundle_bad {data : List UInt8} (h : rawU data = none) : unbundleOf data = none := by unfold unbundleOf; rw [h]; rfl
theorem unbundle_ok {data : List UInt8} {ls : List (List UInt8)} (h : rawU data = some ls) (h0 : ls.length ≠ 0) (h4 : ls.length ≤ 4) (hs : ∀ l ∈ ls, l.length ≤ 20) : unbundleOf data = some ls := by
  unfold unbundleOf
  rw [h, Option.bind_some, bundle_some h0 h4 (fun j l hj => hs l (List.mem_of_getElem? hj))]
  rfl
theorem unbundle_empty : unbundleOf [] = none := by unfold unbundleOf; rw [rawU_nil]; rfl
end Go.Proofs.Ytefccfakhgdfbaa
