/-
  The walk of files.Parse, tiles.Parse, plain.Parse.
-/
import Derived.Test.YtefccfakhgdfbabGreatDoorPb06
import Derived.Test.YtefccfakhgdfbabGreatDoorPb23
import Derived.Test.YtefccfakhgdfbabGreatDoorPb07
set_option linter.unusedVariables false
set_option linter.unusedSimpArgs false
section
namespace Go.Proofs.YtefccfakhgdfbabGreatDoor
open Go.RowKit
theorem cut_le (s p : List UInt8) : (Lib.cut s p).1.length ≤ s.length ∧ (Lib.cut s p).2.1.length ≤ s.length := by
  unfold Lib.cut
  split
  · simp; omega
  · simp
theorem cut_none {s p : List UInt8} (h : (Lib.cut s p).2.2 = false) : (Lib.cut s p).1 = s := by
  unfold Lib.cut at *
  split at h
  · simp at h
  · rename_i hn; rw [if_neg hn]
theorem trimPrefix_le (s p : List UInt8) : (Lib.trimPrefix s p).length ≤ s.length := by
  unfold Lib.trimPrefix
  split <;> simp
theorem atoi_any (s : ByteArray) (w : World) (hs : s.size ≤ 1048576) (h : NumEnv w) :
    Calls Tryz.prog 121 #[.string s] w fun e w' => ∃ v ev, e = .returned (.tuple #[.int .i64 v, ev]) ∧ ((atoiO s.data.toList = some v ∧ ev = .nilIface) ∨ (atoiO s.data.toList = none ∧ ∃ T p, ev = .iface T p)) ∧ Below w.heap.size w w' := by
  obtain ⟨_, _, ⟨e1, h1, h1'⟩, ⟨e2, h2, h2'⟩⟩ := h
  cases hr : Lib.atoiAll s.data.toList with
  | ok v =>
    refine (Tryz.strconv_Atoi_ok s (by omega) v hr w).mono ?_
    rintro e w' ⟨rfl, hw⟩
    refine ⟨v, .nilIface, rfl, .inl ⟨by unfold atoiO; rw [hr], rfl⟩, ?_⟩
    rcases hw with rfl | ⟨t, rfl⟩
    · exact Below.refl _ _
    · exact Lib.bytesWorld_below _ _ _
  | range =>
    refine (Tryz.strconv_Atoi_range s (by omega) hr e2 w h2 h2').mono ?_
    rintro e w' ⟨N, rfl, _, _, hb⟩
    exact ⟨_, _, rfl, .inr ⟨by unfold atoiO; rw [hr], _, _, rfl⟩, hb⟩
  | _ =>
    refine (Tryz.strconv_Atoi_syntax s (by omega) hr e1 w h1 h1').mono ?_
    rintro e w' ⟨N, rfl, _, _, hb⟩
    exact ⟨_, _, rfl, .inr ⟨by unfold atoiO; rw [hr], _, _, rfl⟩, hb⟩
end Go.Proofs.YtefccfakhgdfbabGreatDoor
end
