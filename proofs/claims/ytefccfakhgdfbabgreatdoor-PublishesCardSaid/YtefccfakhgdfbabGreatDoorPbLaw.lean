/-
  The law tileslaw.Publishes: for every input the call returns true, and each argument reads afterwards as it read before; the listed variables read as the program's text lays them (the card ties them). No other condition.
-/
import Derived.Test.YtefccfakhgdfbabGreatDoorPb44
import Derived.Test.YtefccfakhgdfbabGreatDoorPb46
import Derived.Test.YtefccfakhgdfbabGreatDoorTie
import Derived.Test.YtefccfakhgdfbabGreatDoorCards
import Derived.LaidMore
import Derived.Lay
import Derived.SevenTiedAt
import Derived.Stop.Joined
namespace Go.Proofs.YtefccfakhgdfbabGreatDoor
open Go.ChangeShapes Go.WideShapes Go.ChangeAt Go.RowKit
open Go.ChangeMaps (open_string shut_string)
set_option linter.unusedVariables false
namespace publishesDone
set_option maxRecDepth 100000 in
theorem door_met (os : Os) (args : Array Value) : laidMetH Tryz.prog Rows.publishesRow.laid ((laidH os Rows.publishesRow.laid).forCall (fun _ _ => 0) ⟨#[], args, []⟩).memory :=
  laidMetH_laidH args (by kernel_rfl) (by kernel_rfl) (by kernel_rfl)
theorem plainPart : (Rows.publishesRow.laid.filter fun x => x.2.handleName?.isNone) = [("math/bits.deBruijn32tab", Rows.laid_math_bits_deBruijn32tab), ("math/bits.deBruijn64tab", Rows.laid_math_bits_deBruijn64tab), ("internal/strconv.uint64pow10", Rows.laid_internal_strconv_uint64pow10), ("unicode/utf8.acceptRanges", Rows.laid_unicode_utf8_acceptRanges),
    ("strconv.ErrRange", Rows.laid_strconv_ErrRange), ("strconv.ErrSyntax", Rows.laid_strconv_ErrSyntax), ("tiles/api.ErrEntry", Rows.laid_tiles_api_ErrEntry), ("tiles/api.ErrRange", Rows.laid_tiles_api_ErrRange), ("tiles/api.ErrCheckpoint", Rows.laid_tiles_api_ErrCheckpoint), ("tiles/api.ErrOld", Rows.laid_tiles_api_ErrOld),
    ("tiles/api.ErrProof", Rows.laid_tiles_api_ErrProof), ("tiles/api.ErrTile", Rows.laid_tiles_api_ErrTile), ("tiles/api.ErrFailed", Rows.laid_tiles_api_ErrFailed), ("unicode/utf8.first", Rows.laid_unicode_utf8_first)] := rfl
theorem handlePart : (Rows.publishesRow.laid.filter fun x => x.2.handleName?.isSome) = [("errors.errorType", Rows.laid_errors_errorType)] := rfl
set_option maxRecDepth 100000 in
theorem lifted (os : Os) (started : os.Started) (H : Type) (enc : TypeId × Value → H) :
    ReturnsInHanded {} Tryz.checked os 4 .any (fun w args => (Rows.publishesSpec.pre enc Tryz.prog Tryz.f4 [] false w args ∧ laidMetH Tryz.prog Rows.publishesRow.laid w) ∧ sizedMet enc Tryz.prog Tryz.f4 (OpenSpec.ofChange Rows.publishesSpec) false w args)
      (Rows.publishesSpec.post enc Tryz.prog Tryz.f4 false true false false) := by
  refine handed_shaped_and (C := Tryz.checked) (X := fun w _ => laidMetH Tryz.prog Rows.publishesRow.laid w) (fun _ _ _ hh h => h.of_heap hh) own started (by kernel_rfl) Tryz.func4
    (ChangeSpec.witness_shaped (enc := enc) (C := Tryz.checked) (os := os) (X := fun w _ => laidMetH Tryz.prog Rows.publishesRow.laid w) false (laidH os Rows.publishesRow.laid) #[.slice none 0 0, .string ⟨#[]⟩, .slice none 0 0] 8 (laidH_os _ _) (World.shaped_of_ZipB (by kernel_rfl) (by kernel_rfl)) (by kernel_rfl) (by kernel_rfl) (by kernel_rfl) (door_met os _)) ?_
  intro W base args ds gs before hval0 hW hshape hL
  have hval : ∀ (j : Nat) t v, Tryz.f4.params[j]? = some t → args[j]? = some v → Value.okWide Tryz.prog W .any base t v := hval0
  have hW' := hW
  obtain ⟨p, q, hA0, hV, rfl, hfz, hnd⟩ := hW
  have hA : DataW.TrodAll enc Tryz.prog W 0 (fun _ => true) true Tryz.f4.params.toList args.toList ds p := hA0
  rw [Tryz.params4] at hA hval
  obtain ⟨v0, vs0, d0, ds0, p0, q0, hargs, rfl, rfl, h0, r0⟩ := trodAll_cons hA
  obtain ⟨v1, vs1, d1, ds1, p1, q1, rfl, rfl, rfl, h1, r1⟩ := trodAll_cons r0
  obtain ⟨v2, vs2, d2, ds2, p2, q2, rfl, rfl, rfl, h2, r2⟩ := trodAll_cons r1
  obtain ⟨rfl, rfl, rfl⟩ := trodAll_nil r2
  obtain rfl : args = #[v0, v1, v2] := by cases args; simp_all
  obtain ⟨rfl, rfl⟩ := trodVars_none hV
  have k0 := h0
  have lt0 : ∀ x ∈ p0, x.block < W.heap.size := by obtain ⟨m, hm⟩ := k0; exact DataW.trod_lt m _ _ _ hm
  obtain ⟨fl0, hs0, hm0⟩ := files_open (okWide_slice Tryz.underlying39 (hval 0 39 v0 rfl rfl)) h0
  obtain ⟨s1, rfl, rfl, rfl, w1⟩ := open_string Tryz.underlying9 (hval 1 9 v1 rfl rfl) h1
  have k2 := h2
  have lt2 : ∀ x ∈ p2, x.block < W.heap.size := by obtain ⟨m, hm⟩ := k2; exact DataW.trod_lt m _ _ _ hm
  obtain ⟨op2, hs2, hm2⟩ := ops_open (okWide_slice Tryz.underlying53 (hval 2 53 v2 rfl rfl)) h2
  obtain ⟨hL1, hL2⟩ := laidMetH_iff.1 hL
  rw [plainPart] at hL1
  rw [handlePart] at hL2
  have hE : NumEnv W := env_of hL1.tail.tail hL1.tail.tail.tail.tail hshape
  obtain ⟨f, hS⟩ := sents_of hL1.tail.tail.tail.tail.tail.tail
  have hT : ErrT W := errT_of hL2
  clear hA0 hval0
  refine Calls.mono (publishes_walk f W v0 v2 fl0 s1 op2 hs0 hs2 (le_max hm0) (le_max hm2.1) hE hS hT hm2.2) fun e W' hr => ?_
  obtain ⟨he, bel⟩ := hr
  subst he
  exact ⟨_, rfl, _, _, _, [], _, [], hW', trodAll_mk1 (shut_bool Tryz.underlying4 _), (trodAll_cons_mk (Below.trod laidOut (by kernel_rfl) (of_decide_eq_true (by kernel_rfl)) k0 bel lt0) (trodAll_cons_mk (shut_string Tryz.underlying9 w1) (trodAll_cons_mk (Below.trod laidOut (by kernel_rfl) (of_decide_eq_true (by kernel_rfl)) k2 bel lt2) trodAll_mk0))), rfl, bel.frame _, fun h => by cases h⟩
theorem over : Rows.publishesRow.holds Tryz.pinned (OpenSpec.ofChange Rows.publishesSpec) :=
  OpenClaim.holds_of_wide 4 Tryz.f4 rfl rfl rfl rfl rfl rfl rfl ⟨rfl, rfl, rfl, rfl, rfl⟩ rfl rfl rfl rfl rfl (by kernel_rfl) Tryz.func4 (by kernel_rfl)
    (of_decide_eq_true (by kernel_rfl)) (by unfold Func.isWrapper; first | (rw [if_pos (by decide +kernel)]; kernel_rfl) | (rw [if_neg (by decide +kernel)]; exact ⟨rfl, rfl⟩))
    (fun os started H enc _ => lifted os started H enc)
end publishesDone
theorem publishes_holds : Rows.PublishesCardSaid :=
  Claim7.holds_tied_plain_at .later [] Rows.publishesCard.laidKinds true Rows.publishesCard.stood.harness Rows.publishesCard.stood.looks
    publishesDone.over (fun _ h => by cases h) (by kernel_rfl) (fun _ h => by cases h) publishes_row_tie rfl ⟨rfl, rfl⟩ (by kernel_rfl) rfl
    (fun f fn hf hfn => by
      obtain rfl : f = 4 := Option.some.inj ((show Tryz.prog.funcNamed Rows.publishesRow.func = some 4 by kernel_rfl).symm.trans hf) |>.symm
      obtain rfl : fn = Tryz.f4 := (Option.some.inj (Tryz.func4.symm.trans hfn)).symm
      exact ⟨by kernel_rfl, fun j t ht => by
        rw [Tryz.params4] at ht
        have hm := Array.mem_of_getElem? ht
        have hall : (Tryz.f4.params.toList.all fun u => !Tryz.prog.wantsStandIn u) = true := by kernel_rfl
        rw [Tryz.params4] at hall
        exact (show Tryz.prog.wantsStandIn t = false by simpa using List.all_eq_true.1 hall t (by simpa using hm))⟩)
    (by kernel_rfl)
#print axioms publishes_holds
end Go.Proofs.YtefccfakhgdfbabGreatDoor
