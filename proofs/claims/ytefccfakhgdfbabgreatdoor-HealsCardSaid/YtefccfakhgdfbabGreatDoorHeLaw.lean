/-
  The law tileskeep.Heals: for every input the call returns true, and each argument reads afterwards as it read before; the listed variables read as the program's text lays them (the card ties them). No other condition.
-/
import Derived.Test.YtefccfakhgdfbabGreatDoorHe22
import Derived.Test.YtefccfakhgdfbabGreatDoorTie
import Derived.Test.YtefccfakhgdfbabGreatDoorCards
set_option linter.unusedVariables false
namespace Go.Proofs.YtefccfakhgdfbabGreatDoor
open Go.RowKit Go.Proofs.Tryz
open Go.ChangeShapes Go.WideShapes Go.ChangeAt Go.RowKit
open Go.ChangeMaps (open_string shut_string)
set_option linter.unusedVariables false
namespace healsDone
set_option maxRecDepth 100000 in
theorem door_met (os:Os) (args:Array Value):laidMetH Tryz.prog Rows.healsRow.laid ((laidH os Rows.healsRow.laid).forCall (fun _ _=>0) ⟨#[],args,[]⟩).memory:=
 laidMetH_laidH args (by kernel_rfl) (by kernel_rfl) (by kernel_rfl)
theorem plainPart:(Rows.healsRow.laid.filter fun x=>x.2.handleName?.isNone) = [("math/bits.deBruijn32tab",Rows.laid_math_bits_deBruijn32tab),("math/bits.deBruijn64tab",Rows.laid_math_bits_deBruijn64tab),("internal/strconv.uint64pow10",Rows.laid_internal_strconv_uint64pow10),("unicode/utf8.acceptRanges",Rows.laid_unicode_utf8_acceptRanges),
  ("strconv.ErrRange",Rows.laid_strconv_ErrRange),("strconv.ErrSyntax",Rows.laid_strconv_ErrSyntax),("tiles/api.ErrEntry",Rows.laid_tiles_api_ErrEntry),("tiles/api.ErrRange",Rows.laid_tiles_api_ErrRange),("tiles/api.ErrCheckpoint",Rows.laid_tiles_api_ErrCheckpoint),("tiles/api.ErrOld",Rows.laid_tiles_api_ErrOld),
  ("tiles/api.ErrProof",Rows.laid_tiles_api_ErrProof),("tiles/api.ErrTile",Rows.laid_tiles_api_ErrTile),("tiles/api.ErrFailed",Rows.laid_tiles_api_ErrFailed),("tiles/tiles.errNone",Rows.laid_tiles_tiles_errNone),("unicode/utf8.first",Rows.laid_unicode_utf8_first)]:=rfl
theorem handlePart:(Rows.healsRow.laid.filter fun x=>x.2.handleName?.isSome) = [("errors.errorType",Rows.laid_errors_errorType)]:=rfl
set_option maxRecDepth 100000 in
theorem lifted (os:Os) (started:os.Started) (H:Type) (enc:TypeId×Value→H) :
  ReturnsInHanded {} Tryz.checked os 6 .any (fun w args=>(Rows.healsSpec.pre enc Tryz.prog Tryz.f6 [] false w args∧laidMetH Tryz.prog Rows.healsRow.laid w)∧sizedMet enc Tryz.prog Tryz.f6 (OpenSpec.ofChange Rows.healsSpec) false w args)
   (Rows.healsSpec.post enc Tryz.prog Tryz.f6 false true false false):=by
 refine handed_shaped_and (C:=Tryz.checked) (X:=fun w _=>laidMetH Tryz.prog Rows.healsRow.laid w) (fun _ _ _ hh h=>h.of_heap hh) own started (by kernel_rfl) Tryz.func6
  (ChangeSpec.witness_shaped (enc:=enc) (C:=Tryz.checked) (os:=os) (X:=fun w _=>laidMetH Tryz.prog Rows.healsRow.laid w) false (laidH os Rows.healsRow.laid) #[.slice none 0 0,.slice none 0 0,.string ⟨#[]⟩,.int .i64 0,.slice none 0 0] 8 (laidH_os _ _) (World.shaped_of_ZipB (by kernel_rfl) (by kernel_rfl)) (by kernel_rfl) (by kernel_rfl) (by kernel_rfl) (door_met os _)) ?_
 intro W base args ds gs before hval0 hW hshape hL
 have hval:∀ (j:Nat) t v,Tryz.f6.params[j]?=some t→args[j]?=some v→Value.okWide Tryz.prog W .any base t v:=hval0
 have hW':=hW
 obtain⟨p,q,hA0,hV,rfl,hfz,hnd⟩:=hW
 have hA:DataW.TrodAll enc Tryz.prog W 0 (fun _=>true) true Tryz.f6.params.toList args.toList ds p:=hA0
 rw[Tryz.params6] at hA hval
 obtain⟨v0,vs0,d0,ds0,p0,q0,hargs,rfl,rfl,h0,r0⟩:=trodAll_cons hA
 obtain⟨v1,vs1,d1,ds1,p1,q1,rfl,rfl,rfl,h1,r1⟩:=trodAll_cons r0
 obtain⟨v2,vs2,d2,ds2,p2,q2,rfl,rfl,rfl,h2,r2⟩:=trodAll_cons r1
 obtain⟨v3,vs3,d3,ds3,p3,q3,rfl,rfl,rfl,h3,r3⟩:=trodAll_cons r2
 obtain⟨v4,vs4,d4,ds4,p4,q4,rfl,rfl,rfl,h4,r4⟩:=trodAll_cons r3
 obtain⟨rfl,rfl,rfl⟩:=trodAll_nil r4
 obtain rfl:args=#[v0,v1,v2,v3,v4]:=by cases args;simp_all
 obtain⟨rfl,rfl⟩:=trodVars_none hV
 have k0:=h0
 have lt0:∀ x∈p0,x.block<W.heap.size:=by obtain⟨m,hm⟩:=k0;exact DataW.trod_lt m _ _ _ hm
 obtain⟨ss0,hs0,hm0⟩:=strs_open (okWide_slice Tryz.underlying22 (hval 0 22 v0 rfl rfl)) h0
 have k1:=h1
 have lt1:∀ x∈p1,x.block<W.heap.size:=by obtain⟨m,hm⟩:=k1;exact DataW.trod_lt m _ _ _ hm
 obtain⟨in1,hs1,hm1⟩:=ints_open (okWide_slice Tryz.underlying23 (hval 1 23 v1 rfl rfl)) h1
 obtain⟨s2,rfl,rfl,rfl,w2⟩:=open_string Tryz.underlying9 (hval 2 9 v2 rfl rfl) h2
 obtain⟨i3,rfl,rfl,rfl,w3⟩:=open_int Tryz.underlying3 (hval 3 3 v3 rfl rfl) h3
 obtain⟨lo3,hi3⟩:=int_bd w3
 have k4:=h4
 have lt4:∀ x∈p4,x.block<W.heap.size:=by obtain⟨m,hm⟩:=k4;exact DataW.trod_lt m _ _ _ hm
 obtain⟨in4,hs4,hm4⟩:=ints_open (okWide_slice Tryz.underlying23 (hval 4 23 v4 rfl rfl)) h4
 obtain⟨hL1,hL2⟩:=laidMetH_iff.1 hL
 rw[plainPart] at hL1
 rw[handlePart] at hL2
 have hE:NumEnv W:=env_of hL1.tail.tail hL1.tail.tail.tail.tail hshape
 obtain⟨f,hS⟩:=sents_of hL1.tail.tail.tail.tail.tail.tail
 have hT:ErrT W:=errT_of hL2
 have hNO:NoneErr W:=noneErr_of hL1.tail.tail.tail.tail.tail.tail.tail.tail.tail.tail.tail.tail.tail
 clear hA0 hval0
 refine Calls.mono (heals_walk f W v0 v1 v4 ss0 in1 s2 i3 in4 hs0 hs1 hs4 (le_max hm1.1) hm1.2 (le_max hm4.1) hm4.2 (le_max w2) hi3 hE hS hT) fun e W' hr=>?_
 obtain⟨he,bel⟩:=hr
 subst he
 exact⟨_,rfl,_,_,_,[],_,[],hW',trodAll_mk1 (shut_bool Tryz.underlying4 _),(trodAll_cons_mk (Below.trod laidOut (by kernel_rfl) (of_decide_eq_true (by kernel_rfl)) k0 bel lt0) (trodAll_cons_mk (Below.trod laidOut (by kernel_rfl) (of_decide_eq_true (by kernel_rfl)) k1 bel lt1) (trodAll_cons_mk (shut_string Tryz.underlying9 w2) (trodAll_cons_mk (shut_int Tryz.underlying3 w3) (trodAll_cons_mk (Below.trod laidOut (by kernel_rfl) (of_decide_eq_true (by kernel_rfl)) k4 bel lt4) trodAll_mk0))))),rfl,bel.frame _,fun h=>by cases h⟩
theorem and2 {a b:Bool} (ha:a=true) (hb:b=true):(a && b)=true:=by rw[ha,hb];rfl
theorem cl0:(Rows.healsRow.wf (OpenSpec.ofChange Rows.healsSpec))=true:=by kernel_rfl
theorem cl1:(laidOutB Tryz.pinned.checked.prog)=true:=by kernel_rfl
theorem cl2:(mapsRowed Tryz.pinned.checked.prog)=true:=by kernel_rfl
theorem cl3:(Tryz.f6.params.all (Tryz.pinned.checked.prog.readableRec ·))=true:=by kernel_rfl
theorem cl4:(namedTie Tryz.pinned.checked.prog Rows.healsRow.named Rows.healsSpec.vars)=true:=by kernel_rfl
theorem cl5:((Rows.healsRow.stops == []))=true:=by kernel_rfl
theorem cl6:((Tryz.pinned.checked.prog.stops == []))=true:=by kernel_rfl
theorem cl7:((Rows.healsRow.knobs == []))=true:=by kernel_rfl
theorem cl8:((Tryz.pinned.checked.prog.stopKnobs == []))=true:=by kernel_rfl
theorem cl9:((Rows.healsRow.inPlace == Tryz.pinned.checked.prog.inPlace 6))=true:=by kernel_rfl
theorem cl10:((Rows.healsRow.unfollowed == Tryz.pinned.checked.prog.unfollowed 6))=true:=by kernel_rfl
theorem cl11:((Rows.healsRow.recurses == Tryz.pinned.checked.prog.recurses 6))=true:=by kernel_rfl
theorem cl12:((Rows.healsRow.named == Tryz.pinned.checked.prog.varsNamed 6))=true:=by kernel_rfl
theorem cl13:((Rows.healsRow.maps == (Tryz.f6.params.toList++Rows.healsSpec.plain.varTypes Tryz.pinned.checked.prog).any (Tryz.pinned.checked.prog.mapsRec ·)))=true:=by kernel_rfl
theorem cl14:((Rows.healsRow.ifaces == (Tryz.f6.params.toList++Rows.healsSpec.plain.varTypes Tryz.pinned.checked.prog).any (Tryz.pinned.checked.prog.ifacesRec ·)))=true:=by kernel_rfl
theorem cl15:((Rows.healsRow.mapsOut == Tryz.pinned.checked.prog.mapsAmong Tryz.f6.resultTypes.toList))=true:=by kernel_rfl
theorem cl16:((Rows.healsRow.loops == (Tryz.f6.params.toList++Rows.healsSpec.plain.varTypes Tryz.pinned.checked.prog).any (Tryz.pinned.checked.prog.loopsFrom ·)))=true:=by kernel_rfl
theorem cl17:((Rows.healsRow.wideKeys == (Tryz.f6.params.toList++Rows.healsSpec.plain.varTypes Tryz.pinned.checked.prog++Tryz.f6.resultTypes.toList).any (Tryz.pinned.checked.prog.wideKeysFrom ·)))=true:=by kernel_rfl
theorem cl18:(Rows.healsSpec.vars.all (Tryz.pinned.checked.prog.varReadable ·))=true:=by kernel_rfl
theorem cl19:(Tryz.f6.resultTypes.all (fun t=>Tryz.pinned.checked.prog.readableRec t && decide (t<Tryz.pinned.checked.prog.types.size)))=true:=by kernel_rfl
theorem cl20:((Rows.healsRow.ifacesOut == Tryz.f6.resultTypes.toList.any (Tryz.pinned.checked.prog.ifacesRec ·)))=true:=by kernel_rfl
theorem cl21:((Rows.healsRow.loopsOut == Tryz.f6.resultTypes.toList.any (Tryz.pinned.checked.prog.loopsFrom ·)))=true:=by kernel_rfl
theorem cl22:((Rows.healsRow.plainKeys == Tryz.pinned.checked.prog.plainKeys))=true:=by kernel_rfl
theorem cl23:(Rows.healsRow.shortTexts.isNone)=true:=by kernel_rfl
theorem cl24:(Tryz.pinned.checked.prog.stopsHeard)=true:=by kernel_rfl
theorem cl25:(Tryz.pinned.checked.prog.mayEnter)=true:=by kernel_rfl
theorem cl26:((Rows.healsRow.lifted == Tryz.pinned.checked.prog.liftsFinal))=true:=by kernel_rfl
theorem cl27:((Tryz.pinned.checked.prog.make == some Rows.healsRow.make))=true:=by kernel_rfl
theorem cl28:((Rows.healsRow.kinds == (if Rows.healsRow.domain.isEmpty then [] else Tryz.f6.params.toList.map fun t=>match Tryz.pinned.checked.prog.underlying t with|some (.int k)=>some k|_=>none)))=true:=by kernel_rfl
theorem cl29:((Rows.healsRow.pinned == Rows.healsRow.pinnedBy))=true:=by kernel_rfl
theorem cl30:((Rows.healsRow.veiled == (Tryz.f6.params.toList++Rows.healsSpec.plain.varTypes Tryz.pinned.checked.prog++Tryz.f6.resultTypes.toList).any (Tryz.pinned.checked.prog.veiledRec ·)))=true:=by kernel_rfl
theorem cl31:(Rows.healsRow.veiledFits Tryz.pinned.checked.prog Tryz.f6.params.toList (Tryz.f6.params.toList++Rows.healsSpec.plain.varTypes Tryz.pinned.checked.prog++Tryz.f6.resultTypes.toList))=true:=by kernel_rfl
set_option maxRecDepth 100000 in
theorem closed:joinedFacts Tryz.pinned.checked.prog 6 Tryz.f6 Rows.healsSpec Rows.healsRow=true:=by
 unfold joinedFacts
 exact (and2 (and2 (and2 (and2 (and2 (and2 (and2 (and2 (and2 (and2 (and2 (and2 (and2 (and2 (and2 (and2 (and2 (and2 (and2 (and2 (and2 (and2 (and2 (and2 (and2 (and2 (and2 (and2 (and2 (and2 (and2 cl0 cl1) cl2) cl3) cl4) cl5) cl6) cl7) cl8) cl9) cl10) cl11) cl12) cl13) cl14) cl15) cl16) cl17) cl18) cl19) cl20) cl21) cl22) cl23) cl24) cl25) cl26) cl27) cl28) cl29) cl30) cl31)
theorem over:Rows.healsRow.holds Tryz.pinned (OpenSpec.ofChange Rows.healsSpec):=
 OpenClaim.holds_of_wide 6 Tryz.f6 rfl rfl rfl rfl rfl rfl rfl ⟨rfl,rfl,rfl,rfl,rfl⟩ rfl rfl rfl rfl rfl (by kernel_rfl) Tryz.func6 closed
  (of_decide_eq_true (by kernel_rfl)) (by unfold Func.isWrapper;first|(rw[if_pos (by decide +kernel)];kernel_rfl)|(rw[if_neg (by decide +kernel)];exact⟨rfl,rfl⟩))
  (fun os started H enc _=>lifted os started H enc)
end healsDone
theorem heals_holds:Rows.HealsCardSaid:=
 Claim7.holds_tied_plain_at .later [] Rows.healsCard.laidKinds true Rows.healsCard.stood.harness Rows.healsCard.stood.looks
  healsDone.over (fun _ h=>by cases h) (by kernel_rfl) (fun _ h=>by cases h) heals_row_tie rfl ⟨rfl,rfl⟩ (by kernel_rfl) rfl
  (fun f fn hf hfn=>by
   obtain rfl:f=6:=Option.some.inj ((show Tryz.prog.funcNamed Rows.healsRow.func=some 6 by kernel_rfl).symm.trans hf) |>.symm
   obtain rfl:fn=Tryz.f6:=(Option.some.inj (Tryz.func6.symm.trans hfn)).symm
   exact⟨by kernel_rfl,fun j t ht=>by
    rw[Tryz.params6] at ht
    have hm:=Array.mem_of_getElem? ht
    have hall:(Tryz.f6.params.toList.all fun u=>!Tryz.prog.wantsStandIn u)=true:=by kernel_rfl
    rw[Tryz.params6] at hall
    exact (show Tryz.prog.wantsStandIn t=false by simpa using List.all_eq_true.1 hall t (by simpa using hm))⟩)
  (by kernel_rfl)
#print axioms heals_holds
end Go.Proofs.YtefccfakhgdfbabGreatDoor
