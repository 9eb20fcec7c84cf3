/- The sentinels of package api, as a row's laid variables give them. No walk. -/
import Derived.Test.YtefccfakhgdfbaaDoorSent
import Derived.LaidSub
namespace Go.Proofs.YtefccfakhgdfbaaDoor
open Go.RowKit
theorem sents_laid {W : World} (h : laidMet Tryd.prog Rows.namesRow.laid W) : ∃ f, Sents W f := by
  obtain ⟨a0, h0⟩ := sent_head (text := sTexts.getD 0 []) (g := 0) h (by kernel_rfl) (by kernel_rfl)
  have h := h.tail
  obtain ⟨a1, h1⟩ := sent_head (text := sTexts.getD 1 []) (g := 1) h (by kernel_rfl) (by kernel_rfl)
  have h := h.tail
  obtain ⟨a2, h2⟩ := sent_head (text := sTexts.getD 2 []) (g := 2) h (by kernel_rfl) (by kernel_rfl)
  have h := h.tail
  obtain ⟨a3, h3⟩ := sent_head (text := sTexts.getD 3 []) (g := 3) h (by kernel_rfl) (by kernel_rfl)
  have h := h.tail
  obtain ⟨a4, h4⟩ := sent_head (text := sTexts.getD 4 []) (g := 4) h (by kernel_rfl) (by kernel_rfl)
  have h := h.tail
  obtain ⟨a5, h5⟩ := sent_head (text := sTexts.getD 5 []) (g := 5) h (by kernel_rfl) (by kernel_rfl)
  have h := h.tail
  obtain ⟨a6, h6⟩ := sent_head (text := sTexts.getD 6 []) (g := 6) h (by kernel_rfl) (by kernel_rfl)
  refine ⟨fun i => [a0, a1, a2, a3, a4, a5, a6].getD i a0, fun i hi => ?_⟩
  have : i = 0 ∨ i = 1 ∨ i = 2 ∨ i = 3 ∨ i = 4 ∨ i = 5 ∨ i = 6 := by omega
  rcases this with rfl | rfl | rfl | rfl | rfl | rfl | rfl <;> assumption
theorem sents_rest {W : World} {l : List (String × DataW Unit)} (h : laidMetH Tryd.prog l W) (he : (l.filter fun x => x.2.handleName?.isNone) = Rows.namesRow.laid) : ∃ f, Sents W f := by
  have h1 := (laidMetH_iff.1 h).1
  rw [he] at h1
  exact sents_laid h1
end Go.Proofs.YtefccfakhgdfbaaDoor
