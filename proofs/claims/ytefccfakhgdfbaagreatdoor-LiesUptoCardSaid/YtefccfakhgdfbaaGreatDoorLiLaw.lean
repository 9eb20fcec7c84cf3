/-
  The law tileslaw.Lies where what it reads is of bulk at most 1048576: the call returns true, and each argument reads afterwards as it read before; the listed variables read as the program's text lays them (the card ties them). No other condition.
-/
import Derived.Test.YtefccfakhgdfbaaGreatDoorLi22
import Derived.Test.YtefccfakhgdfbaaGreatDoorTie
import Derived.Test.YtefccfakhgdfbaaGreatDoorCards
set_option linter.unusedVariables false
namespace Go.Proofs.YtefccfakhgdfbaaGreatDoor
open Go.RowKit Go.Proofs.Tryz
open Go.ChangeShapes Go.WideShapes Go.ChangeAt Go.RowKit
open Go.ChangeMaps (open_string shut_string)
set_option linter.unusedVariables false
namespace liesDone
set_option maxRecDepth 100000 in
theorem door_met (os:Os) (args:Array Value):laidMetH Tryz.prog Rows.liesUptoRow.laid ((Qsd os Rows.liesUptoRow.laid).forCall (fun _ _=>0) ⟨#[],args,[]⟩).memory:=
 Qn3 args (by kernel_rfl) (by kernel_rfl) (by kernel_rfl)
theorem plainPart:(Rows.liesUptoRow.laid.filter fun x=>x.2.handleName?.isNone) = [("math/bits.deBruijn32tab",Rows.laid_math_bits_deBruijn32tab),("math/bits.deBruijn64tab",Rows.laid_math_bits_deBruijn64tab),("internal/strconv.uint64pow10",Rows.laid_internal_strconv_uint64pow10),("unicode/utf8.acceptRanges",Rows.laid_unicode_utf8_acceptRanges),
  ("strconv.ErrRange",Rows.laid_strconv_ErrRange),("strconv.ErrSyntax",Rows.laid_strconv_ErrSyntax),("tiles/api.ErrEntry",Rows.laid_tiles_api_ErrEntry),("tiles/api.ErrRange",Rows.laid_tiles_api_ErrRange),("tiles/api.ErrCheckpoint",Rows.laid_tiles_api_ErrCheckpoint),("tiles/api.ErrOld",Rows.laid_tiles_api_ErrOld),
  ("tiles/api.ErrProof",Rows.laid_tiles_api_ErrProof),("tiles/api.ErrTile",Rows.laid_tiles_api_ErrTile),("tiles/api.ErrFailed",Rows.laid_tiles_api_ErrFailed),("tiles/tiles.errNone",Rows.laid_tiles_tiles_errNone),("unicode/utf8.first",Rows.laid_unicode_utf8_first)]:=rfl
theorem handlePart:(Rows.liesUptoRow.laid.filter fun x=>x.2.handleName?.isSome) = [("errors.errorType",Rows.laid_errors_errorType)]:=rfl
set_option maxRecDepth 100000 in
theorem lifted (os:Os) (started:os.Started) (H:Type) (enc:TypeId×Value→H) (F:Stop.Interp) :
  ReturnsInHanded {} Tryz.checked os 3 .any (fun w args=>((Rows.OpenSpec.upto Rows.liesSpec).pre enc Tryz.prog Tryz.f3 [] false w args∧laidMetH Tryz.prog Rows.liesUptoRow.laid w)∧sizedMet enc Tryz.prog Tryz.f3 (Rows.OpenSpec.upto Rows.liesSpec) false w args)
   (((Rows.OpenSpec.upto Rows.liesSpec).at F).post enc Tryz.prog Tryz.f3 false true false false):=by
 refine Qmc (C:=Tryz.checked) (s:=Rows.OpenSpec.upto Rows.liesSpec) (k:=Rows.uptoSmall) rfl (X:=fun w _=>laidMetH Tryz.prog Rows.liesUptoRow.laid w) (fun _ _ _ hh h=>h.of_heap hh) own started (by kernel_rfl) Tryz.func3
  (Qso (C:=Tryz.checked) (k:=Rows.uptoSmall) rfl (X:=fun w _=>laidMetH Tryz.prog Rows.liesUptoRow.laid w) false (Qsd os Rows.liesUptoRow.laid) #[.slice none 0 0,.int .i64 0,.string ⟨#[]⟩,.slice none 0 0,.int .i64 0] 8 (Q5k _ _) (World.shaped_of_ZipB (by kernel_rfl) (by kernel_rfl)) (by kernel_rfl) (x:=([.nil,.lit (.int .i64 0),.lit (.string []),.nil,.lit (.int .i64 0)],[],[])) (by kernel_rfl) rfl (by kernel_rfl) (by kernel_rfl) (door_met os _)) ?_
 intro W base args ds gs before hval0 hW hk hshape hL
 have hval:∀ (j:Nat) t v,Tryz.f3.params[j]?=some t→args[j]?=some v→Value.okWide Tryz.prog W .any base t v:=hval0
 have hW':=hW
 obtain⟨p,q,hA0,hV,rfl,hfz,hnd⟩:=hW
 have hA:DataW.TrodAll enc Tryz.prog W 0 (fun _=>true) true Tryz.f3.params.toList args.toList ds p:=hA0
 rw[Tryz.params3] at hA hval
 obtain⟨v0,vs0,d0,ds0,p0,q0,hargs,rfl,rfl,h0,r0⟩:=trodAll_cons hA
 obtain⟨v1,vs1,d1,ds1,p1,q1,rfl,rfl,rfl,h1,r1⟩:=trodAll_cons r0
 obtain⟨v2,vs2,d2,ds2,p2,q2,rfl,rfl,rfl,h2,r2⟩:=trodAll_cons r1
 obtain⟨v3,vs3,d3,ds3,p3,q3,rfl,rfl,rfl,h3,r3⟩:=trodAll_cons r2
 obtain⟨v4,vs4,d4,ds4,p4,q4,rfl,rfl,rfl,h4,r4⟩:=trodAll_cons r3
 obtain⟨rfl,rfl,rfl⟩:=trodAll_nil r4
 obtain rfl:args=#[v0,v1,v2,v3,v4]:=by cases args;simp_all
 obtain⟨rfl,rfl⟩:=trodVars_none hV
 have k0:=h0
 have lt0:∀ x∈p0,x.block<W.heap.size:=by obtain⟨m,hm⟩:=k0;exact DataW.trod_lt m _ _ _ hm
 obtain⟨ss0,hs0,hm0⟩:=Q2e (okWide_slice Tryz.underlying22 (hval 0 22 v0 rfl rfl)) h0
 obtain⟨i1,rfl,rfl,rfl,w1⟩:=open_int Tryz.underlying3 (hval 1 3 v1 rfl rfl) h1
 obtain⟨lo1,hi1⟩:=Q6z w1
 obtain⟨s2,rfl,rfl,rfl,w2⟩:=open_string Tryz.underlying9 (hval 2 9 v2 rfl rfl) h2
 have k3:=h3
 have lt3:∀ x∈p3,x.block<W.heap.size:=by obtain⟨m,hm⟩:=k3;exact DataW.trod_lt m _ _ _ hm
 obtain⟨li3,hs3,hm3⟩:=Q2x (okWide_slice Tryz.underlying23 (hval 3 23 v3 rfl rfl)) h3
 obtain⟨i4,rfl,rfl,rfl,w4⟩:=open_int Tryz.underlying3 (hval 4 3 v4 rfl rfl) h4
 obtain⟨lo4,hi4⟩:=Q6z w4
 have hb:=of_decide_eq_true hk
 simp only[List.append_nil,Rows.uptoBulkAll,Rows.uptoBulk] at hb
 obtain⟨hL1,hL2⟩:=laidMetH_iff.1 hL
 rw[plainPart] at hL1
 rw[handlePart] at hL2
 have hE:Qad W:=Q9x hL1.tail.tail hL1.tail.tail.tail.tail hshape
 obtain⟨f,hS⟩:=Q4w hL1.tail.tail.tail.tail.tail.tail
 have hT:ErrT W:=Q8k hL2
 clear hA0 hval0
 have hky:s2.size≤1048600:=by
  have e:s2.data.toList.length=s2.size:=by simp
  omega
 have hli:∀ x∈li3,x.data.size≤1048576:=fun x hx=>by
  have:=hm3.2 x hx
  omega
 refine Calls.mono (Q00 f W v0 v3 ss0 i1 i4 s2 li3 hs0 hs3 lo1 hi1 lo4 hi4 hky hli hE hS hT) fun e W' hr=>?_
 obtain⟨he,bel⟩:=hr
 subst he
 exact⟨_,rfl,_,_,_,[],_,[],hW',trodAll_mk1 (shut_bool Tryz.underlying4 _),(trodAll_cons_mk (Below.trod Q2i (by kernel_rfl) (of_decide_eq_true (by kernel_rfl)) k0 bel lt0) (trodAll_cons_mk (shut_int Tryz.underlying3 w1) (trodAll_cons_mk (shut_string Tryz.underlying9 w2) (trodAll_cons_mk (Below.trod Q2i (by kernel_rfl) (of_decide_eq_true (by kernel_rfl)) k3 bel lt3) (trodAll_cons_mk (shut_int Tryz.underlying3 w4) trodAll_mk0))))),rfl,bel.frame _,fun h=>by cases h⟩
theorem and2 {a b:Bool} (ha:a=true) (hb:b=true):(a && b)=true:=by rw[ha,hb];rfl
theorem cl0:(Rows.liesUptoRow.wf (OpenSpec.ofChange Rows.liesSpec))=true:=by kernel_rfl
theorem cl1:(laidOutB Tryz.pinned.checked.prog)=true:=by kernel_rfl
theorem cl2:(mapsRowed Tryz.pinned.checked.prog)=true:=by kernel_rfl
theorem cl3:(Tryz.f3.params.all (Tryz.pinned.checked.prog.readableRec ·))=true:=by kernel_rfl
theorem cl4:(namedTie Tryz.pinned.checked.prog Rows.liesUptoRow.named Rows.liesSpec.vars)=true:=by kernel_rfl
theorem cl5:((Rows.liesUptoRow.stops == []))=true:=by kernel_rfl
theorem cl6:((Tryz.pinned.checked.prog.stops == []))=true:=by kernel_rfl
theorem cl7:((Rows.liesUptoRow.knobs == []))=true:=by kernel_rfl
theorem cl8:((Tryz.pinned.checked.prog.stopKnobs == []))=true:=by kernel_rfl
theorem cl9:((Rows.liesUptoRow.inPlace == Tryz.pinned.checked.prog.inPlace 3))=true:=by kernel_rfl
theorem cl10:((Rows.liesUptoRow.unfollowed == Tryz.pinned.checked.prog.unfollowed 3))=true:=by kernel_rfl
theorem cl11:((Rows.liesUptoRow.recurses == Tryz.pinned.checked.prog.recurses 3))=true:=by kernel_rfl
theorem cl12:((Rows.liesUptoRow.named == Tryz.pinned.checked.prog.varsNamed 3))=true:=by kernel_rfl
theorem cl13:((Rows.liesUptoRow.maps == (Tryz.f3.params.toList++Rows.liesSpec.plain.varTypes Tryz.pinned.checked.prog).any (Tryz.pinned.checked.prog.mapsRec ·)))=true:=by kernel_rfl
theorem cl14:((Rows.liesUptoRow.ifaces == (Tryz.f3.params.toList++Rows.liesSpec.plain.varTypes Tryz.pinned.checked.prog).any (Tryz.pinned.checked.prog.ifacesRec ·)))=true:=by kernel_rfl
theorem cl15:((Rows.liesUptoRow.mapsOut == Tryz.pinned.checked.prog.mapsAmong Tryz.f3.resultTypes.toList))=true:=by kernel_rfl
theorem cl16:((Rows.liesUptoRow.loops == (Tryz.f3.params.toList++Rows.liesSpec.plain.varTypes Tryz.pinned.checked.prog).any (Tryz.pinned.checked.prog.loopsFrom ·)))=true:=by kernel_rfl
theorem cl17:((Rows.liesUptoRow.wideKeys == (Tryz.f3.params.toList++Rows.liesSpec.plain.varTypes Tryz.pinned.checked.prog++Tryz.f3.resultTypes.toList).any (Tryz.pinned.checked.prog.wideKeysFrom ·)))=true:=by kernel_rfl
theorem cl18:(Rows.liesSpec.vars.all (Tryz.pinned.checked.prog.varReadable ·))=true:=by kernel_rfl
theorem cl19:(Tryz.f3.resultTypes.all (fun t=>Tryz.pinned.checked.prog.readableRec t && decide (t<Tryz.pinned.checked.prog.types.size)))=true:=by kernel_rfl
theorem cl20:((Rows.liesUptoRow.ifacesOut == Tryz.f3.resultTypes.toList.any (Tryz.pinned.checked.prog.ifacesRec ·)))=true:=by kernel_rfl
theorem cl21:((Rows.liesUptoRow.loopsOut == Tryz.f3.resultTypes.toList.any (Tryz.pinned.checked.prog.loopsFrom ·)))=true:=by kernel_rfl
theorem cl22:((Rows.liesUptoRow.plainKeys == Tryz.pinned.checked.prog.plainKeys))=true:=by kernel_rfl
theorem cl23:(Rows.liesUptoRow.shortTexts.isNone)=true:=by kernel_rfl
theorem cl24:(Tryz.pinned.checked.prog.stopsHeard)=true:=by kernel_rfl
theorem cl25:(Tryz.pinned.checked.prog.mayEnter)=true:=by kernel_rfl
theorem cl26:((Rows.liesUptoRow.lifted == Tryz.pinned.checked.prog.liftsFinal))=true:=by kernel_rfl
theorem cl27:((Tryz.pinned.checked.prog.make == some Rows.liesUptoRow.make))=true:=by kernel_rfl
theorem cl28:((Rows.liesUptoRow.kinds == (if Rows.liesUptoRow.domain.isEmpty then [] else Tryz.f3.params.toList.map fun t=>match Tryz.pinned.checked.prog.underlying t with|some (.int k)=>some k|_=>none)))=true:=by kernel_rfl
theorem cl29:((Rows.liesUptoRow.pinned == Rows.liesUptoRow.pinnedBy))=true:=by kernel_rfl
theorem cl30:((Rows.liesUptoRow.veiled == (Tryz.f3.params.toList++Rows.liesSpec.plain.varTypes Tryz.pinned.checked.prog++Tryz.f3.resultTypes.toList).any (Tryz.pinned.checked.prog.veiledRec ·)))=true:=by kernel_rfl
theorem cl31:(Rows.liesUptoRow.veiledFits Tryz.pinned.checked.prog Tryz.f3.params.toList (Tryz.f3.params.toList++Rows.liesSpec.plain.varTypes Tryz.pinned.checked.prog++Tryz.f3.resultTypes.toList))=true:=by kernel_rfl
set_option maxRecDepth 100000 in
theorem closed:joinedFacts Tryz.pinned.checked.prog 3 Tryz.f3 Rows.liesSpec Rows.liesUptoRow=true:=by
 unfold joinedFacts
 exact (and2 (and2 (and2 (and2 (and2 (and2 (and2 (and2 (and2 (and2 (and2 (and2 (and2 (and2 (and2 (and2 (and2 (and2 (and2 (and2 (and2 (and2 (and2 (and2 (and2 (and2 (and2 (and2 (and2 (and2 (and2 cl0 cl1) cl2) cl3) cl4) cl5) cl6) cl7) cl8) cl9) cl10) cl11) cl12) cl13) cl14) cl15) cl16) cl17) cl18) cl19) cl20) cl21) cl22) cl23) cl24) cl25) cl26) cl27) cl28) cl29) cl30) cl31)
theorem over:Rows.liesUptoRow.holds Tryz.pinned (Rows.OpenSpec.upto Rows.liesSpec):=
 OpenClaim.holds_of_cond 3 Tryz.f3 rfl rfl rfl rfl rfl rfl rfl ⟨rfl,rfl,rfl,rfl,rfl⟩ rfl rfl rfl rfl rfl (by kernel_rfl) Tryz.func3 closed
  (of_decide_eq_true (by kernel_rfl)) (by unfold Func.isWrapper;first|(rw[if_pos (by decide +kernel)];kernel_rfl)|(rw[if_neg (by decide +kernel)];exact⟨rfl,rfl⟩))
  (fun os started H enc _ F=>lifted os started H enc F)
end liesDone
theorem lies_holds:Rows.LiesUptoCardSaid:=
 Claim7.holds_tied_plain_at .later [] Rows.liesUptoCard.laidKinds true Rows.liesUptoCard.stood.harness Rows.liesUptoCard.stood.looks
  liesDone.over (fun _ h=>by cases h) (by kernel_rfl) (fun _ h=>by cases h) liesUpto_row_tie rfl ⟨rfl,rfl⟩ (by kernel_rfl) rfl
  (fun f fn hf hfn=>by
   obtain rfl:f=3:=Option.some.inj ((show Tryz.prog.funcNamed Rows.liesUptoRow.func=some 3 by kernel_rfl).symm.trans hf) |>.symm
   obtain rfl:fn=Tryz.f3:=(Option.some.inj (Tryz.func3.symm.trans hfn)).symm
   exact⟨by kernel_rfl,fun j t ht=>by
    rw[Tryz.params3] at ht
    have hm:=Array.mem_of_getElem? ht
    have hall:(Tryz.f3.params.toList.all fun u=>!Tryz.prog.wantsStandIn u)=true:=by kernel_rfl
    rw[Tryz.params3] at hall
    exact (show Tryz.prog.wantsStandIn t=false by simpa using List.all_eq_true.1 hall t (by simpa using hm))⟩)
  (by kernel_rfl)
#print axioms lies_holds
end Go.Proofs.YtefccfakhgdfbaaGreatDoor
