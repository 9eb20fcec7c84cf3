/-
  The law tileslaw.All where what it reads is of bulk at most 1048576: the call returns true, and each argument reads afterwards as it read before; the listed variables read as the program's text lays them (the card ties them). No other condition.
-/
import Derived.Test.YtefccfakhgdfbaaGreatDoorAl10
import Derived.Test.YtefccfakhgdfbaaGreatDoorTie
import Derived.Test.YtefccfakhgdfbaaGreatDoorCards
set_option linter.unusedVariables false
namespace Go.Proofs.YtefccfakhgdfbaaGreatDoor
open Go.RowKit Go.Proofs.Tryz Tryz
open Go.ChangeShapes Go.WideShapes Go.ChangeAt Go.RowKit
open Go.ChangeMaps (open_string shut_string)
set_option linter.unusedVariables false
namespace allDone
set_option maxRecDepth 100000 in
theorem door_met(os:Os)(args:Array Value):laidMetH prog Rows.allUptoRow.laid ((Quc os Rows.allUptoRow.laid).forCall (λ_ _=>0) ⟨#[],args,[]⟩).memory:=
 Qqp args (by kernel_rfl) (by kernel_rfl) (by kernel_rfl)
theorem plainPart:(Rows.allUptoRow.laid.filter λx=>x.2.handleName?.isNone) = [("math/bits.deBruijn32tab",Rows.laid_math_bits_deBruijn32tab),("math/bits.deBruijn64tab",Rows.laid_math_bits_deBruijn64tab),("internal/strconv.uint64pow10",Rows.laid_internal_strconv_uint64pow10),("unicode/utf8.acceptRanges",Rows.laid_unicode_utf8_acceptRanges),
  ("strconv.ErrRange",Rows.laid_strconv_ErrRange),("strconv.ErrSyntax",Rows.laid_strconv_ErrSyntax),("tiles/api.ErrEntry",Rows.laid_tiles_api_ErrEntry),("tiles/api.ErrRange",Rows.laid_tiles_api_ErrRange),("tiles/api.ErrCheckpoint",Rows.laid_tiles_api_ErrCheckpoint),("tiles/api.ErrOld",Rows.laid_tiles_api_ErrOld),
  ("tiles/api.ErrProof",Rows.laid_tiles_api_ErrProof),("tiles/api.ErrTile",Rows.laid_tiles_api_ErrTile),("tiles/api.ErrFailed",Rows.laid_tiles_api_ErrFailed),("tiles/tiles.errNone",Rows.laid_tiles_tiles_errNone),("unicode/utf8.first",Rows.laid_unicode_utf8_first)]:=rfl
theorem handlePart:(Rows.allUptoRow.laid.filter λx=>x.2.handleName?.isSome) = [("errors.errorType",Rows.laid_errors_errorType)]:=rfl
set_option maxRecDepth 100000 in
theorem lifted(os:Os)(started:os.Started)(H:Type)(enc:TypeId×Value->H)(F:Stop.Interp):ReturnsInHanded {} checked os 4 .any (λw args=>((Rows.OpenSpec.upto Rows.allSpec).pre enc prog f4 [] false w args/\laidMetH prog Rows.allUptoRow.laid w)/\sizedMet enc prog f4 (Rows.OpenSpec.upto Rows.allSpec) false w args)
   (((Rows.OpenSpec.upto Rows.allSpec).at F).post enc prog f4 false true false false):=by
 refine Qo6 (C:=checked) (s:=Rows.OpenSpec.upto Rows.allSpec) (k:=Rows.uptoSmall) rfl (X:=λw _=>laidMetH prog Rows.allUptoRow.laid w) (λ_ _ _ hh h=>h.of_heap hh) own started (by kernel_rfl) func4
  (Qwd (C:=checked) (k:=Rows.uptoSmall) rfl (X:=λw _=>laidMetH prog Rows.allUptoRow.laid w) false (Quc os Rows.allUptoRow.laid) #[.slice none 0 0,.int .i64 0,.int .i64 0,.slice none 0 0,.string ⟨#[]⟩,.string ⟨#[]⟩,.slice none 0 0,.string ⟨#[]⟩,.int .i64 0,.slice none 0 0] 8 (Q9l _ _) (World.shaped_of_ZipB (by kernel_rfl) (by kernel_rfl)) (by kernel_rfl) (x:=([.nil,.lit (.int .i64 0),.lit (.int .i64 0),.nil,.lit (.string []),.lit (.string []),.nil,.lit (.string []),.lit (.int .i64 0),.nil],[],[])) (by kernel_rfl) rfl (by kernel_rfl) (by kernel_rfl) (door_met os _)) ?_
 intro W base args ds gs before hval0 hW hk hshape hL
 have hval:∀ (j:Nat) t v,f4.params[j]?=some t->args[j]?=some v->Value.okWide prog W .any base t v:=hval0
 have hW':=hW
 obtain⟨p,q,hA0,hV,rfl,hfz,hnd⟩:=hW
 have hA:DataW.TrodAll enc prog W 0 (λ_=>true) true f4.params.toList args.toList ds p:=hA0
 rw[params4] at hA hval
 obtain⟨v0,vs0,d0,ds0,p0,q0,hargs,rfl,rfl,h0,r0⟩:=trodAll_cons hA
 obtain⟨v1,vs1,d1,ds1,p1,q1,rfl,rfl,rfl,h1,r1⟩:=trodAll_cons r0
 obtain⟨v2,vs2,d2,ds2,p2,q2,rfl,rfl,rfl,h2,r2⟩:=trodAll_cons r1
 obtain⟨v3,vs3,d3,ds3,p3,q3,rfl,rfl,rfl,h3,r3⟩:=trodAll_cons r2
 obtain⟨v4,vs4,d4,ds4,p4,q4,rfl,rfl,rfl,h4,r4⟩:=trodAll_cons r3
 obtain⟨v5,vs5,d5,ds5,p5,q5,rfl,rfl,rfl,h5,r5⟩:=trodAll_cons r4
 obtain⟨v6,vs6,d6,ds6,p6,q6,rfl,rfl,rfl,h6,r6⟩:=trodAll_cons r5
 obtain⟨v7,vs7,d7,ds7,p7,q7,rfl,rfl,rfl,h7,r7⟩:=trodAll_cons r6
 obtain⟨v8,vs8,d8,ds8,p8,q8,rfl,rfl,rfl,h8,r8⟩:=trodAll_cons r7
 obtain⟨v9,vs9,d9,ds9,p9,q9,rfl,rfl,rfl,h9,r9⟩:=trodAll_cons r8
 obtain⟨rfl,rfl,rfl⟩:=trodAll_nil r9
 obtain rfl:args=#[v0,v1,v2,v3,v4,v5,v6,v7,v8,v9]:=by cases args;simp_all
 obtain⟨rfl,rfl⟩:=trodVars_none hV
 have k0:=h0
 have lt0:∀ x∈p0,x.block<W.heap.size:=by obtain⟨m,hm⟩:=k0;exact DataW.trod_lt m _ _ _ hm
 obtain⟨ss0,hs0,hm0⟩:=Qt6 (okWide_slice underlying22 (hval 0 22 v0 rfl rfl)) h0
 obtain⟨i1,rfl,rfl,rfl,w1⟩:=open_int underlying3 (hval 1 3 v1 rfl rfl) h1
 obtain⟨lo1,hi1⟩:=Qz9 w1
 obtain⟨i2,rfl,rfl,rfl,w2⟩:=open_int underlying3 (hval 2 3 v2 rfl rfl) h2
 obtain⟨lo2,hi2⟩:=Qz9 w2
 have k3:=h3
 have lt3:∀ x∈p3,x.block<W.heap.size:=by obtain⟨m,hm⟩:=k3;exact DataW.trod_lt m _ _ _ hm
 obtain⟨ss3,hs3,hm3⟩:=Qt6 (okWide_slice underlying22 (hval 3 22 v3 rfl rfl)) h3
 obtain⟨s4,rfl,rfl,rfl,w4⟩:=open_string underlying9 (hval 4 9 v4 rfl rfl) h4
 obtain⟨s5,rfl,rfl,rfl,w5⟩:=open_string underlying9 (hval 5 9 v5 rfl rfl) h5
 have k6:=h6
 have lt6:∀ x∈p6,x.block<W.heap.size:=by obtain⟨m,hm⟩:=k6;exact DataW.trod_lt m _ _ _ hm
 obtain⟨fl6,hs6,hm6⟩:=Q2i (okWide_slice underlying32 (hval 6 32 v6 rfl rfl)) h6
 obtain⟨s7,rfl,rfl,rfl,w7⟩:=open_string underlying9 (hval 7 9 v7 rfl rfl) h7
 obtain⟨i8,rfl,rfl,rfl,w8⟩:=open_int underlying3 (hval 8 3 v8 rfl rfl) h8
 obtain⟨lo8,hi8⟩:=Qz9 w8
 have k9:=h9
 have lt9:∀ x∈p9,x.block<W.heap.size:=by obtain⟨m,hm⟩:=k9;exact DataW.trod_lt m _ _ _ hm
 obtain⟨op9,hs9,hm9⟩:=Q81 (okWide_slice underlying33 (hval 9 33 v9 rfl rfl)) h9
 have hb:=of_decide_eq_true hk
 simp only[List.append_nil,Rows.uptoBulkAll,Rows.uptoBulk] at hb
 obtain⟨hL1,hL2⟩:=laidMetH_iff.1 hL
 rw[plainPart] at hL1
 rw[handlePart] at hL2
 have hE:Z5 W:=Zda hL1.tail.tail hL1.tail.tail.tail.tail hshape
 obtain⟨f,hS⟩:=Q9h hL1.tail.tail.tail.tail.tail.tail
 have hT:Qio W:=Zbq hL2
 have hNO:Qdc W:=Q3p hL1.tail.tail.tail.tail.tail.tail.tail.tail.tail.tail.tail.tail.tail
 clear hA0 hval0
 have e4:s4.data.toList.length=s4.size:=by simp
 have e5:s5.data.toList.length=s5.size:=by simp
 have e7:s7.data.toList.length=s7.size:=by simp
 have h4z:s4.size<=1048576:=by omega
 have h5z:s5.size<=1048576:=by omega
 have h7z:s7.size<=1048576:=by omega
 refine Calls.mono (Zaf f W v0 v3 v6 v9 ss0 ss3 i1 i2 i8 s4 s5 s7 fl6 op9 hs0 hs3 hs6 hs9 lo1 hi1 lo2 hi2 hi8 hm3 h4z h5z h7z (Zav hm6) (Zav hm9.1) hm9.2 hE hS hT hNO) λe W' hr=>?_
 obtain⟨he,bel⟩:=hr
 subst he
 exact⟨_,rfl,_,_,_,[],_,[],hW',trodAll_mk1 (shut_bool underlying4 _),(trodAll_cons_mk (Below.trod Qsu (by kernel_rfl) (of_decide_eq_true (by kernel_rfl)) k0 bel lt0) (trodAll_cons_mk (shut_int underlying3 w1) (trodAll_cons_mk (shut_int underlying3 w2) (trodAll_cons_mk (Below.trod Qsu (by kernel_rfl) (of_decide_eq_true (by kernel_rfl)) k3 bel lt3) (trodAll_cons_mk (shut_string underlying9 w4) (trodAll_cons_mk (shut_string underlying9 w5) (trodAll_cons_mk (Below.trod Qsu (by kernel_rfl) (of_decide_eq_true (by kernel_rfl)) k6 bel lt6) (trodAll_cons_mk (shut_string underlying9 w7) (trodAll_cons_mk (shut_int underlying3 w8) (trodAll_cons_mk (Below.trod Qsu (by kernel_rfl) (of_decide_eq_true (by kernel_rfl)) k9 bel lt9) trodAll_mk0)))))))))),rfl,bel.frame _,λh=>by cases h⟩
theorem and2{a b:Bool}(ha:a=true)(hb:b=true):(a && b)=true:=by rw[ha,hb];rfl
theorem cl0:(Rows.allUptoRow.wf (OpenSpec.ofChange Rows.allSpec))=true:=by kernel_rfl
theorem cl1:(laidOutB pinned.checked.prog)=true:=by kernel_rfl
theorem cl2:(mapsRowed pinned.checked.prog)=true:=by kernel_rfl
theorem cl3:(f4.params.all (pinned.checked.prog.readableRec ·))=true:=by kernel_rfl
theorem cl4:(namedTie pinned.checked.prog Rows.allUptoRow.named Rows.allSpec.vars)=true:=by kernel_rfl
theorem cl5:((Rows.allUptoRow.stops == []))=true:=by kernel_rfl
theorem cl6:((pinned.checked.prog.stops == []))=true:=by kernel_rfl
theorem cl7:((Rows.allUptoRow.knobs == []))=true:=by kernel_rfl
theorem cl8:((pinned.checked.prog.stopKnobs == []))=true:=by kernel_rfl
theorem cl9:((Rows.allUptoRow.inPlace == pinned.checked.prog.inPlace 4))=true:=by kernel_rfl
theorem cl10:((Rows.allUptoRow.unfollowed == pinned.checked.prog.unfollowed 4))=true:=by kernel_rfl
theorem cl11:((Rows.allUptoRow.recurses == pinned.checked.prog.recurses 4))=true:=by kernel_rfl
theorem cl12:((Rows.allUptoRow.named == pinned.checked.prog.varsNamed 4))=true:=by kernel_rfl
theorem cl13:((Rows.allUptoRow.maps == (f4.params.toList++Rows.allSpec.plain.varTypes pinned.checked.prog).any (pinned.checked.prog.mapsRec ·)))=true:=by kernel_rfl
theorem cl14:((Rows.allUptoRow.ifaces == (f4.params.toList++Rows.allSpec.plain.varTypes pinned.checked.prog).any (pinned.checked.prog.ifacesRec ·)))=true:=by kernel_rfl
theorem cl15:((Rows.allUptoRow.mapsOut == pinned.checked.prog.mapsAmong f4.resultTypes.toList))=true:=by kernel_rfl
theorem cl16:((Rows.allUptoRow.loops == (f4.params.toList++Rows.allSpec.plain.varTypes pinned.checked.prog).any (pinned.checked.prog.loopsFrom ·)))=true:=by kernel_rfl
theorem cl17:((Rows.allUptoRow.wideKeys == (f4.params.toList++Rows.allSpec.plain.varTypes pinned.checked.prog++f4.resultTypes.toList).any (pinned.checked.prog.wideKeysFrom ·)))=true:=by kernel_rfl
theorem cl18:(Rows.allSpec.vars.all (pinned.checked.prog.varReadable ·))=true:=by kernel_rfl
theorem cl19:(f4.resultTypes.all (λt=>pinned.checked.prog.readableRec t && decide (t<pinned.checked.prog.types.size)))=true:=by kernel_rfl
theorem cl20:((Rows.allUptoRow.ifacesOut == f4.resultTypes.toList.any (pinned.checked.prog.ifacesRec ·)))=true:=by kernel_rfl
theorem cl21:((Rows.allUptoRow.loopsOut == f4.resultTypes.toList.any (pinned.checked.prog.loopsFrom ·)))=true:=by kernel_rfl
theorem cl22:((Rows.allUptoRow.plainKeys == pinned.checked.prog.plainKeys))=true:=by kernel_rfl
theorem cl23:(Rows.allUptoRow.shortTexts.isNone)=true:=by kernel_rfl
theorem cl24:(pinned.checked.prog.stopsHeard)=true:=by kernel_rfl
theorem cl25:(pinned.checked.prog.mayEnter)=true:=by kernel_rfl
theorem cl26:((Rows.allUptoRow.lifted == pinned.checked.prog.liftsFinal))=true:=by kernel_rfl
theorem cl27:((pinned.checked.prog.make == some Rows.allUptoRow.make))=true:=by kernel_rfl
theorem cl28:((Rows.allUptoRow.kinds == (if Rows.allUptoRow.domain.isEmpty then [] else f4.params.toList.map λt=>match pinned.checked.prog.underlying t with|some (.int k)=>some k|_=>none)))=true:=by kernel_rfl
theorem cl29:((Rows.allUptoRow.pinned == Rows.allUptoRow.pinnedBy))=true:=by kernel_rfl
theorem cl30:((Rows.allUptoRow.veiled == (f4.params.toList++Rows.allSpec.plain.varTypes pinned.checked.prog++f4.resultTypes.toList).any (pinned.checked.prog.veiledRec ·)))=true:=by kernel_rfl
theorem cl31:(Rows.allUptoRow.veiledFits pinned.checked.prog f4.params.toList (f4.params.toList++Rows.allSpec.plain.varTypes pinned.checked.prog++f4.resultTypes.toList))=true:=by kernel_rfl
set_option maxRecDepth 100000 in
theorem closed:joinedFacts pinned.checked.prog 4 f4 Rows.allSpec Rows.allUptoRow=true:=by
 unfold joinedFacts
 exact (and2 (and2 (and2 (and2 (and2 (and2 (and2 (and2 (and2 (and2 (and2 (and2 (and2 (and2 (and2 (and2 (and2 (and2 (and2 (and2 (and2 (and2 (and2 (and2 (and2 (and2 (and2 (and2 (and2 (and2 (and2 cl0 cl1) cl2) cl3) cl4) cl5) cl6) cl7) cl8) cl9) cl10) cl11) cl12) cl13) cl14) cl15) cl16) cl17) cl18) cl19) cl20) cl21) cl22) cl23) cl24) cl25) cl26) cl27) cl28) cl29) cl30) cl31)
theorem over:Rows.allUptoRow.holds pinned (Rows.OpenSpec.upto Rows.allSpec):=
 OpenClaim.holds_of_cond 4 f4 rfl rfl rfl rfl rfl rfl rfl ⟨rfl,rfl,rfl,rfl,rfl⟩ rfl rfl rfl rfl rfl (by kernel_rfl) func4 closed
  (of_decide_eq_true (by kernel_rfl)) (by unfold Func.isWrapper;first|(rw[if_pos (by decide +kernel)];kernel_rfl)|(rw[if_neg (by decide +kernel)];exact⟨rfl,rfl⟩))
  (λos started H enc _ F=>lifted os started H enc F)
end allDone
theorem all_holds:Rows.AllUptoCardSaid:=
 Claim7.holds_tied_plain_at .later [] Rows.allUptoCard.laidKinds true Rows.allUptoCard.stood.harness Rows.allUptoCard.stood.looks
  allDone.over (λ_ h=>by cases h) (by kernel_rfl) (λ_ h=>by cases h) allUpto_row_tie rfl ⟨rfl,rfl⟩ (by kernel_rfl) rfl
  (λf fn hf hfn=>by
   obtain rfl:f=4:=Option.some.inj ((show prog.funcNamed Rows.allUptoRow.func=some 4 by kernel_rfl).symm.trans hf) |>.symm
   obtain rfl:fn=f4:=(Option.some.inj (func4.symm.trans hfn)).symm
   exact⟨by kernel_rfl,λj t ht=>by
    rw[params4] at ht
    have hm:=Array.mem_of_getElem? ht
    have hall:(f4.params.toList.all λu=>!prog.wantsStandIn u)=true:=by kernel_rfl
    rw[params4] at hall
    exact (show prog.wantsStandIn t=false by simpa using List.all_eq_true.1 hall t (by simpa using hm))⟩)
  (by kernel_rfl)
#print axioms all_holds
end Go.Proofs.YtefccfakhgdfbaaGreatDoor
