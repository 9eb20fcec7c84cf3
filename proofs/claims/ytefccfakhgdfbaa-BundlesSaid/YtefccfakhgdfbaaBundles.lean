/- tileslaw.Bundles answers true. -/
import Derived.Test.YtefccfakhgdfbaaPUnb
namespace Go.Proofs.Ytefccfakhgdfbaa
open Go.RowKit
theorem bss_len (ss : List ByteArray) : (bss ss).length = ss.length := by simp [bss]
set_option maxHeartbeats 1000000 in
theorem bundles_walk (v : Value) (ss : List ByteArray) (d : ByteArray) (w : World) (h : StrsAt w v ss) :
    Calls Try.prog 3 #[v, .string d] w fun e w' => e = .returned (.bool true) ∧ Below w.heap.size w w' := by
  have HH := Lib.hid h
  clear h
  go_enter Try.func3, Try.ntmps3
  go_wp2_with fail
  refine (few_any v ss _ HH.out).mono ?_
  rintro e w0 ⟨rfl, rfl⟩
  cases hf : fewB ss with
  | false =>
    go_wp2
    go_ret
    exact ⟨rfl, Below.refl _ _⟩
  | true =>
    obtain ⟨hl, _⟩ := few_out hf
    clear hf
    by_cases hd : 1048576 < d.size
    · have hd1 : decide ((1048576 : Int) < (d.size : Int)) = true := decide_eq_true (by omega)
      go_wp2
      go_ret
      exact ⟨rfl, Below.refl _ _⟩
    · have hd1 : decide ((1048576 : Int) < (d.size : Int)) = false := decide_eq_false (by omega)
      go_wp2_with fail
      refine (pbundle_any v ss _ HH.out (by omega)).mono ?_
      rintro e w1 ⟨rfl, hb1⟩
      have HB1 := Lib.hid hb1
      clear hb1
      go_wp2_with fail
      refine (rbundle_any v ss _ (HH.out.below HB1.out) (by omega)).mono ?_
      rintro e w2 ⟨rfl, hb2⟩
      have HB2 := Lib.hid (HB1.out.trans (hb2.mono HB1.out.size))
      clear hb2
      go_wp2_with fail
      refine (punbundle_any d _ (by omega)).mono ?_
      rintro e w3 ⟨v3, s3, rfl, ho3, hs3, hb3⟩
      have HB3 := Lib.hid (HB2.out.trans (hb3.mono HB2.out.size))
      have HO3 := Lib.hid ho3.at
      have HS3 := Lib.hid hs3
      clear hb3 ho3 hs3
      go_wp2_with fail
      refine (runbundle_any d _ (by omega)).mono ?_
      rintro e w4 ⟨v4, rfl, hb4, hr4⟩
      have HB4 := Lib.hid (HB3.out.trans (hb4.mono HB3.out.size))
      have HB4' := Lib.hid hb4
      obtain ⟨s4, ho4, hs4⟩ : ∃ s4, StrsAt w4 v4 s4 ∧ bss s4 = (unbundleOf d.data.toList).getD [] := by
        rcases hr4 with ⟨h1, rfl⟩ | ⟨s4, h1, ho⟩
        · exact ⟨[], ⟨none, 0, rfl, Nat.le_refl _, fun j x hx => by simp at hx⟩, by rw [h1]; rfl⟩
        · exact ⟨s4, ho.at, by rw [h1]; rfl⟩
      have heq : s3 = s4 := bss_inj (by rw [HS3.out, hs4])
      subst heq
      have hlen3 : s3.length ≤ 1048576 := by
        rw [← bss_len, hs4]
        cases hu : unbundleOf d.data.toList with
        | none => simp
        | some q =>
          unfold unbundleOf at hu
          cases hq : rawU d.data.toList with
          | none => rw [hq] at hu; cases hu
          | some q' =>
            rw [hq, Option.bind_some] at hu
            split at hu
            · rename_i hb
              cases hu
              unfold bundleOf at hb
              split at hb
              · cases hb
              · simp only [Option.getD_some]; omega
            · cases hu
      have HO4 := Lib.hid ho4
      clear hb4 hr4 ho4 hs4
      go_wp2_with fail
      refine (same_any v3 v4 s3 s3 _ (HO3.out.below HB4'.out) HO4.out hlen3).mono ?_
      rintro e w5 ⟨rfl, hb5⟩
      obtain ⟨x, hx⟩ : ∃ x, x = (bundleOf (bss ss)) := ⟨_, rfl⟩
      rw [← hx]
      clear hx
      go_wp2
      go_ret
      exact ⟨ret_bool (by cases x <;> cases unbundleOf d.data.toList <;> simp), HB4.out.trans (hb5.mono HB4.out.size)⟩
end Go.Proofs.Ytefccfakhgdfbaa
