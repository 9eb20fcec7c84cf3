/- P5 in plain terms: what is rebuilt, case by case. -/
import Derived.Test.YtefccfakhgdfbabGreatDoorHe11
import Derived.Stop.Asserts
set_option linter.unusedVariables false
set_option linter.unusedSimpArgs false
open Go.RowKit Go.Proofs.Tryz
set_option maxRecDepth 100000
set_option maxHeartbeats 4000000
namespace Go.Proofs.YtefccfakhgdfbabGreatDoor
section
theorem two_one (a b:Int):∀ u∈(#[.int .i64 a,.int .i64 b]:Array Value).toList,u.oneCell'=true:=by
 intro u hu
 simp at hu
 rcases hu with rfl|rfl <;> rfl
theorem rsCells_snoc (rs:List (Nat×Nat)) (x:Nat×Nat):rsCells (rs ++ [x])=rsCells rs ++ [.int .i64 x.1,.int .i64 x.2]:=by simp[rsCells]
theorem OwnRs.snoc {w:World} {base:Nat} {v:Value} {rs:List (Nat×Nat)} {x:Nat×Nat} {a b:Int} (h:w.ownsRow base 252 2 v (rs.length+1) (rsCells rs++(#[.int .i64 a,.int .i64 b]:Array Value).toList)) (ha:a=x.1) (hb:b=x.2):OwnRs w base v (rs ++ [x]):=by
 subst ha hb
 unfold OwnRs
 rw[rsCells_snoc,List.length_append]
 exact h
end
section
section
variable [Inhabited OutT]
theorem gath_val {F:Nat→Addr} {w w':World} {q:Qf} {x:Qv} {N:Nat} {d:Dk} {r:Except QErr (List Hsh)×Cs} {e:Ending} (h:GathPost F w q x N d r e w'):∃ v u,e=.returned (.tuple #[v,u]):=by
 obtain⟨_,⟨_,v,_,h,_⟩|⟨_,u,_,h,_⟩⟩:=h
 ·exact⟨_,_,h⟩
 ·exact⟨_,_,h⟩
theorem gath_low {F:Nat→Addr} {w W w':World} {q:Qf} {x:Qv} {N:Nat} {d:Dk} {r:Except QErr (List Hsh)×Cs} {e:Ending} (hb:Below w.heap.size w W) (h:GathPost F W q x N d r e w'):GathPost F w q x N d r e w':=by
 obtain⟨h1,h2⟩:=h
 refine⟨QStep.trans (Fr.ofBelow hb) (Sub.refl _ _) h1,?_⟩
 rcases h2 with ⟨l,v,h3,h4,h5⟩|⟨p,u,h3,h4,h5⟩
 ·exact .inl ⟨l,v,h3,h4,ownsRow_mono h5 hb.size⟩
 ·exact .inr ⟨p,u,h3,h4,h5.low hb.size⟩
theorem qpath_any (F:Nat→Addr) (w:World) (q:Qf) (x0:Qv) (N:Nat) (s:Cs) (d:Dk) (h:QIs w q x0 N s d) (hE:EnvS F (QS q x0) w) (g1 g3:Nat) (hc:ClAt w q x0 g1 g3) (i n:Nat) (hin:i<n) (hnN:n≤N) (hN:N<9223372036854775808) (hb:Bnd s (gatherT N (pathR n 0 n i).reverse).length) (hp:(gatherQ N (pathR n 0 n i).reverse s).1≠.error .panic) :
  Calls prog 95 #[.func (.func 142) #[] #[.pointer (some ⟨g1,0,none⟩),.pointer (some ⟨g3,0,none⟩)],.int .i64 i,.int .i64 n] w (GathPost F w q x0 N d (gatherQ N (pathR n 0 n i).reverse s)):=by
 have HGA:=zh (fun (W:World) (hW:Below w.heap.size w W) (v:Value) (rs:List (Nat×Nat)) (hr:W.ownsRow 0 252 2 v rs.length (rsCells rs)) (hrs:∀ x∈rs,x.1<x.2∧x.2≤N) (hn:rs.length≤1048576) (he:rs=pathR n 0 n i)=>
  qgather_any F W q x0 N s d (h.below hW) (hE.below hW) g1 g3 (hc.below hW) hN v rs hr hrs hn (by rw[he];exact hb) (by rw[he];exact hp))
 obtain⟨i0,hi,hz0,hz1,hz2⟩:=info_parts info_two
 clear h hE hc hb hp
 go_enter func95,ntmps95
 go_wp2
 go_loopw [8,9,10] (fun v a b wr=>∃ (x y f mm:Nat) (done:List (Nat×Nat)),a=.int .i64 x∧b=.int .i64 y∧x≤i∧i<y∧y≤n∧y-x≤f∧Hid (done++pathR f x y i=pathR n 0 n i)∧Hid (y-x≤2 ^ mm∧done.length+mm≤63)∧OwnRs wr w.heap.size v done∧Below w.heap.size w wr) (fun _ a b _=>(intOf b-intOf a).toNat)
 case atStart=>exact⟨0,n,n,63,[],rfl,rfl,by omega,hin,Nat.le_refl _,by omega,zh rfl,zh ⟨by omega,by simp⟩,World.ownsRow_nil _ _ _ _,Below.refl _ _⟩
 case round=>
  obtain⟨x,y,f,mm,done,rfl,rfl,hx,hy,hyn,hf,HD,HLEN,hown,hbel⟩:=hrel
  have hlen:done.length≤63:=by have:=HLEN.o.2;omega
  by_cases hlt:1<y-x
  ·obtain⟨f,rfl⟩:∃ g,f=g+1:=⟨f-1,by omega⟩
   have hbd:=below_lt (n:=y-x) (by omega)
   obtain⟨m2,hm2,hh1,hh2⟩:=below_half (n:=y-x) (m:=mm) (by omega) HLEN.o.1 (by have:=HLEN.o.2;omega)
   have HM2:=zh (And.intro hm2 (And.intro hh1 hh2))
   clear hm2 hh1 hh2
   have hp:pathR (f+1) x y i=if i<x+below (y-x) then (x+below (y-x),y) :: pathR f x (x+below (y-x)) i else (x,x+below (y-x)) :: pathR f (x+below (y-x)) y i:=by
    simp only[pathR];rw[if_neg (by omega)]
   obtain⟨k,hk⟩:∃ k,k=below (y-x):=⟨_,rfl⟩
   rw[←hk] at hbd hp HM2
   have HK:=zh (show ((below ((y:Int)-x).toNat:Nat):Int)=k by rw[show ((y:Int)-x).toNat=y-x by omega,hk])
   have HP:=zh hp
   unfold OwnRs at hown
   have HO:=zh hown
   have HB:=zh hbel
   have hxy:(x:Int)+2≤y:=by omega
   have hyi:(y:Int)≤9223372036854775807:=by omega
   have hbase:=hbel.size
   have hdl:done.length≤1048576:=by omega
   have hlt':(1:Int)<y-x:=by omega
   have HL:=zh (And.intro hlen (And.intro hf (And.intro hbd hlt)))
   have hk1:(1:Int)≤k:=by omega
   have hk2:(x:Int)+k≤y:=by omega
   clear hk hp hown hbel hlen hf hbd hlt
   by_cases hik:i<x+k
   ·have hik':(i:Int)<x+k:=by omega
    go_wp2_with fail
    refine (split_any _ _ (by omega) (by omega)).mono ?_
    rintro e w0 ⟨rfl,rfl⟩
    rw[HK.o]
    go_wp2_with (at_builtin;refine wpList_appC rfl _ _ 251 rfl w.heap.size 252 i0 (.agg #[.int .i64 0,.int .i64 0]) 2 16 underlying251 hi hz0 hz1 hz2 rfl (by decide) (by decide) _ _ _ rfl HO.o #[.int .i64 _,.int .i64 _] rfl (two_one _ _) rfl (Nat.le_trans hdl (by decide)) hbase ?_;intro v2 w2 hr2 hg2 hne2;have HR2:=zh hr2;have HG2:=zh hg2;clear hr2 hg2 hne2)
    go_roundw
    case rel=>
     obtain⟨hlen,hf,hbd,hlt⟩:=HL.o
     exact⟨x,x+k,f,m2,done ++ [(x+k,y)],rfl,by go_num,hx,hik,by omega,by omega,zh (by rw[←HD.o,HP.o,if_pos hik,List.append_assoc];rfl),zh ⟨by have:=HM2.o;omega,by have:=HLEN.o.2;have:=HM2.o.1;simp;omega⟩,OwnRs.snoc HR2.o (by simp) (by simp),HB.o.grown HG2.o HB.o.size (fun j hj=>(HO.o.lt j hj).1)⟩
    case measure=>(obtain⟨hlen,hf,hbd,hlt⟩:=HL.o;simp[intOf] <;> omega)
   ·have hik':(x:Int)+k≤i:=by omega
    go_wp2_with fail
    refine (split_any _ _ (by omega) (by omega)).mono ?_
    rintro e w0 ⟨rfl,rfl⟩
    rw[HK.o]
    go_wp2_with (at_builtin;refine wpList_appC rfl _ _ 251 rfl w.heap.size 252 i0 (.agg #[.int .i64 0,.int .i64 0]) 2 16 underlying251 hi hz0 hz1 hz2 rfl (by decide) (by decide) _ _ _ rfl HO.o #[.int .i64 _,.int .i64 _] rfl (two_one _ _) rfl (Nat.le_trans hdl (by decide)) hbase ?_;intro v2 w2 hr2 hg2 hne2;have HR2:=zh hr2;have HG2:=zh hg2;clear hr2 hg2 hne2)
    go_roundw
    case rel=>
     obtain⟨hlen,hf,hbd,hlt⟩:=HL.o
     exact⟨x+k,y,f,m2,done ++ [(x,x+k)],by go_num,rfl,by omega,hy,hyn,by omega,zh (by rw[←HD.o,HP.o,if_neg hik,List.append_assoc];rfl),zh ⟨by have:=HM2.o;omega,by have:=HLEN.o.2;have:=HM2.o.1;simp;omega⟩,OwnRs.snoc HR2.o (by simp) (by simp),HB.o.grown HG2.o HB.o.size (fun j hj=>(HO.o.lt j hj).1)⟩
    case measure=>(simp[intOf] <;> omega)
  ·have hdn:done=pathR n 0 n i:=by
    rw[←HD.o]
    cases f with
    | zero=>omega
    | succ f=>simp only[pathR];rw[if_pos (by omega),List.append_nil]
   have hmem:∀ z∈done,z.1<z.2∧z.2≤N:=by
    intro z hz
    rw[hdn] at hz
    have:=pathR_mem n 0 n i (by omega) (by omega) hin z hz
    omega
   have HM:=zh hmem
   have HDN:=zh hdn
   unfold OwnRs at hown
   have HO:=zh hown
   have HB:=zh hbel
   have hnx:¬ ((1:Int)<y-x):=by omega
   clear hdn hmem hown hbel HD
   go_wp2_with fail
   refine (HGA.o _ HB.o _ done (ownsRow_mono HO.o (Nat.zero_le _)) HM.o (by omega) HDN.o).mono ?_
   intro e w2 h2
   obtain⟨v2,u2,rfl⟩:=gath_val h2
   have HX:=zh (gath_low HB.o h2)
   rw[HDN.o] at HX
   clear h2
   go_wp2
   go_ret2
   exact HX.o
theorem qproof_any (F:Nat→Addr) (w:World) (q:Qf) (x0:Qv) (N:Nat) (s:Cs) (d:Dk) (h:QIs w q x0 N s d) (hE:EnvS F (QS q x0) w) (g1 g3:Nat) (hc:ClAt w q x0 g1 g3) (m n:Nat) (hm1:1≤m) (hin:m≤n) (hnN:n≤N) (hN:N<9223372036854775808) (hb:Bnd s (gatherT N (partR n 0 n m).reverse).length) (hp:(gatherQ N (partR n 0 n m).reverse s).1≠.error .panic) :
  Calls prog 87 #[.func (.func 142) #[] #[.pointer (some ⟨g1,0,none⟩),.pointer (some ⟨g3,0,none⟩)],.int .i64 m,.int .i64 n] w (GathPost F w q x0 N d (gatherQ N (partR n 0 n m).reverse s)):=by
 have HGA:=zh (fun (W:World) (hW:Below w.heap.size w W) (v:Value) (rs:List (Nat×Nat)) (hr:W.ownsRow 0 252 2 v rs.length (rsCells rs)) (hrs:∀ x∈rs,x.1<x.2∧x.2≤N) (hn:rs.length≤1048576) (he:rs=partR n 0 n m)=>
  qgather_any F W q x0 N s d (h.below hW) (hE.below hW) g1 g3 (hc.below hW) hN v rs hr hrs hn (by rw[he];exact hb) (by rw[he];exact hp))
 obtain⟨i0,hi,hz0,hz1,hz2⟩:=info_parts info_two
 clear h hE hc hb hp
 go_enter func87,ntmps87
 go_wp2
 go_loopw [8,9,10] (fun v a b wr=>∃ (x y f mm:Nat) (done:List (Nat×Nat)),a=.int .i64 x∧b=.int .i64 y∧x<m∧m≤y∧y≤n∧y-x≤f∧Hid (done++partR f x y m=partR n 0 n m)∧Hid (y-x≤2 ^ mm∧done.length+mm≤63)∧OwnRs wr w.heap.size v done∧Below w.heap.size w wr) (fun _ a b _=>(intOf b-intOf a).toNat)
 case atStart=>exact⟨0,n,n,63,[],rfl,rfl,by omega,hin,Nat.le_refl _,by omega,zh rfl,zh ⟨by omega,by simp⟩,World.ownsRow_nil _ _ _ _,Below.refl _ _⟩
 case round=>
  obtain⟨x,y,f,mm,done,rfl,rfl,hx,hy,hyn,hf,HD,HLEN,hown,hbel⟩:=hrel
  have hlen:done.length≤63:=by have:=HLEN.o.2;omega
  by_cases hlt:m<y
  ·obtain⟨f,rfl⟩:∃ g,f=g+1:=⟨f-1,by omega⟩
   have hbd:=below_lt (n:=y-x) (by omega)
   obtain⟨m2,hm2,hh1,hh2⟩:=below_half (n:=y-x) (m:=mm) (by omega) HLEN.o.1 (by have:=HLEN.o.2;omega)
   have HM2:=zh (And.intro hm2 (And.intro hh1 hh2))
   clear hm2 hh1 hh2
   have hp:partR (f+1) x y m=if m≤x+below (y-x) then (x+below (y-x),y) :: partR f x (x+below (y-x)) m else (x,x+below (y-x)) :: partR f (x+below (y-x)) y m:=by
    simp only[partR];rw[if_neg (by omega)]
   obtain⟨k,hk⟩:∃ k,k=below (y-x):=⟨_,rfl⟩
   rw[←hk] at hbd hp HM2
   have HK:=zh (show ((below ((y:Int)-x).toNat:Nat):Int)=k by rw[show ((y:Int)-x).toNat=y-x by omega,hk])
   have HP:=zh hp
   unfold OwnRs at hown
   have HO:=zh hown
   have HB:=zh hbel
   have hxy:(x:Int)+2≤y:=by omega
   have hyi:(y:Int)≤9223372036854775807:=by omega
   have hbase:=hbel.size
   have hdl:done.length≤1048576:=by omega
   have hlt':(m:Int)<y:=by omega
   have HL:=zh (And.intro hlen (And.intro hf (And.intro hbd hlt)))
   have hk1:(1:Int)≤k:=by omega
   have hk2:(x:Int)+k≤y:=by omega
   clear hk hp hown hbel hlen hf hbd hlt
   by_cases hik:m≤x+k
   ·have hik':(m:Int)≤x+k:=by omega
    go_wp2_with fail
    refine (split_any _ _ (by omega) (by omega)).mono ?_
    rintro e w0 ⟨rfl,rfl⟩
    rw[HK.o]
    go_wp2_with (at_builtin;refine wpList_appC rfl _ _ 251 rfl w.heap.size 252 i0 (.agg #[.int .i64 0,.int .i64 0]) 2 16 underlying251 hi hz0 hz1 hz2 rfl (by decide) (by decide) _ _ _ rfl HO.o #[.int .i64 _,.int .i64 _] rfl (two_one _ _) rfl (Nat.le_trans hdl (by decide)) hbase ?_;intro v2 w2 hr2 hg2 hne2;have HR2:=zh hr2;have HG2:=zh hg2;clear hr2 hg2 hne2)
    go_roundw
    case rel=>
     obtain⟨hlen,hf,hbd,hlt⟩:=HL.o
     exact⟨x,x+k,f,m2,done ++ [(x+k,y)],rfl,by go_num,hx,hik,by omega,by omega,zh (by rw[←HD.o,HP.o,if_pos hik,List.append_assoc];rfl),zh ⟨by have:=HM2.o;omega,by have:=HLEN.o.2;have:=HM2.o.1;simp;omega⟩,OwnRs.snoc HR2.o (by simp) (by simp),HB.o.grown HG2.o HB.o.size (fun j hj=>(HO.o.lt j hj).1)⟩
    case measure=>(obtain⟨hlen,hf,hbd,hlt⟩:=HL.o;simp[intOf] <;> omega)
   ·have hik':¬ (m:Int)≤x+k:=by omega
    go_wp2_with fail
    refine (split_any _ _ (by omega) (by omega)).mono ?_
    rintro e w0 ⟨rfl,rfl⟩
    rw[HK.o]
    go_wp2_with (at_builtin;refine wpList_appC rfl _ _ 251 rfl w.heap.size 252 i0 (.agg #[.int .i64 0,.int .i64 0]) 2 16 underlying251 hi hz0 hz1 hz2 rfl (by decide) (by decide) _ _ _ rfl HO.o #[.int .i64 _,.int .i64 _] rfl (two_one _ _) rfl (Nat.le_trans hdl (by decide)) hbase ?_;intro v2 w2 hr2 hg2 hne2;have HR2:=zh hr2;have HG2:=zh hg2;clear hr2 hg2 hne2)
    go_roundw
    case rel=>
     obtain⟨hlen,hf,hbd,hlt⟩:=HL.o
     exact⟨x+k,y,f,m2,done ++ [(x,x+k)],by go_num,rfl,by omega,hy,hyn,by omega,zh (by rw[←HD.o,HP.o,if_neg hik,List.append_assoc];rfl),zh ⟨by have:=HM2.o;omega,by have:=HLEN.o.2;have:=HM2.o.1;simp;omega⟩,OwnRs.snoc HR2.o (by simp) (by simp),HB.o.grown HG2.o HB.o.size (fun j hj=>(HO.o.lt j hj).1)⟩
    case measure=>(simp[intOf] <;> omega)
  ·obtain⟨f,rfl⟩:∃ g,f=g+1:=⟨f-1,by omega⟩
   obtain⟨fin,hfin⟩:∃ fin,fin=partR n 0 n m:=⟨_,rfl⟩
   have hdn:done++(if 0<x then [(x,y)] else [])=fin:=by
    have hle:y≤m:=by omega
    rw[hfin,←HD.o]
    simp only[partR,if_pos hle]
   have hmem:∀ z∈fin,z.1<z.2∧z.2≤N:=by
    intro z hz
    rw[hfin] at hz
    have:=partR_mem n 0 n m (by omega) (by omega) hin z hz
    omega
   have HM:=zh hmem
   have HFIN:=zh hfin
   unfold OwnRs at hown
   have HO:=zh hown
   have HB:=zh hbel
   have hbase:=hbel.size
   have hdl:done.length≤1048576:=by omega
   have hnx:¬ ((m:Int)<y):=by omega
   have hyi:(y:Int)≤9223372036854775807:=by omega
   by_cases hx0:0<x
   ·rw[if_pos hx0] at hdn
    have hx0':(0:Int)<x:=by omega
    have HDN:=zh hdn
    have hfl:fin.length≤1048576:=by rw[←hdn];simp;omega
    clear hdn hmem hown hbel HD hfin hlen hf hlt hx hy
    go_wp2_with (at_builtin;refine wpList_appC rfl _ _ 251 rfl w.heap.size 252 i0 (.agg #[.int .i64 0,.int .i64 0]) 2 16 underlying251 hi hz0 hz1 hz2 rfl (by decide) (by decide) _ _ _ rfl HO.o #[.int .i64 _,.int .i64 _] rfl (two_one _ _) rfl (Nat.le_trans hdl (by decide)) hbase ?_;intro v2 w2 hr2 hg2 hne2;have HR2:=zh (OwnRs.snoc (x:=(x,y)) hr2 rfl rfl);have HB1:=zh (HB.o.grown hg2 HB.o.size (fun j hj=>(HO.o.lt j hj).1));clear hr2 hg2 hne2)
    have ho:=HR2.o
    rw[HDN.o] at ho
    refine (HGA.o _ HB1.o _ fin (ownsRow_mono ho (Nat.zero_le _)) HM.o hfl HFIN.o).mono ?_
    intro e w3 h3
    obtain⟨v3,u3,rfl⟩:=gath_val h3
    have HX:=zh (gath_low HB1.o h3)
    rw[HFIN.o] at HX
    clear h3
    go_wp2
    go_ret2
    exact HX.o
   ·rw[if_neg hx0,List.append_nil] at hdn
    obtain rfl:x=0:=by omega
    have HDN:=zh hdn
    have hfl:fin.length≤1048576:=by rw[←hdn];omega
    clear hdn hmem hown hbel HD hfin hlen hf hlt hx hy hx0
    go_wp2_with fail
    refine (HGA.o _ HB.o _ fin (by rw[←HDN.o];exact ownsRow_mono HO.o (Nat.zero_le _)) HM.o hfl HFIN.o).mono ?_
    intro e w2 h2
    obtain⟨v2,u2,rfl⟩:=gath_val h2
    have HX:=zh (gath_low HB.o h2)
    rw[HFIN.o] at HX
    clear h2
    go_wp2
    go_ret2
    exact HX.o
end
end
section
section
variable [Inhabited OutT]
theorem look_any (w:World) (gc:Nat) (n:Int) :
  Calls prog 86 #[.pointer (some ⟨gc,0,none⟩),.int .i64 n] w fun e w'=>∃ gq mq,e=.returned (.pointer (some ⟨gq,0,none⟩))∧w'.heap[gq]?=some (.cells #[.pointer (some ⟨gc,0,none⟩),.int .i64 n,.map (some mq),.slice none 0 0] 250 (0,0))∧w'.heap[mq]?=some (.map #[] 0)∧Below w.heap.size w w'∧w.heap.size≤gq∧w.heap.size≤mq:=by
 have hmm:=@run_makeMap prog
 go_enter func86,ntmps86
 go_wp2
 refine bodyPost_ret (results_tmp rfl _ _ _) rfl ⟨w.heap.size+1,w.heap.size,rfl,?_,(heap_alloc_old _ _ (by rw[alloc_len];exact Nat.lt_succ_self _)).trans (heap_alloc_new _ _),(below_alloc w _).alloc (by rw[alloc_len];exact Nat.le_succ _) _,Nat.le_succ _,Nat.le_refl _⟩
 rw[←alloc_len w (.map #[] 0)]
 exact heap_alloc_new _ _
def cnS (gc gk mc gn:Nat) (vt:Value) (qs:List CEnt) (k:Nat):Prop:=clS gc gk mc qs k∨netS gn vt k
theorem ask_is {w w':World} {mu:Int} {gc gk mc gn gd gq mq:Nat} {vl vt v:Value} {c:Cl} {qs:List CEnt} {n:Nt} {d:Dk} {N:Nat} (h:ClM mu w gc gk mc (.iface 44 (.pointer (some ⟨gn,0,none⟩))) c qs) (hn:NetIs w gn gd vl vt n) (hd:DiskAt w gd v d) (hdf:d.files=n.files) (ho:∀ z,Out.blk=some z→z<w.heap.size)
  (hb:Below w.heap.size w w') (hq:w'.heap[gq]?=some (.cells #[.pointer (some ⟨gc,0,none⟩),.int .i64 N,.map (some mq),.slice none 0 0] 250 (0,0))) (hm:w'.heap[mq]?=some (.map #[] 0)) (h1:w.heap.size≤mq) :
  QIs w' ⟨gq,gc,gk,mc,gn,gd,mq,vl,vt,v,cliC mu (.iface 44 (.pointer (some ⟨gn,0,none⟩))) c.key c.size c.root gk⟩ ⟨.slice none 0 0,qs,[]⟩ N (askQ n c.cache) d where
 look:=hq
 km:=KmAt.made_at w' 9 hm
 ord:=World.ownsRow_nil _ _ _ _
 vals y hy:=by cases hy
 keys:=List.nodup_nil
 small y hy:=by cases hy
 files:=rfl
 cli:=(h.below hb).cells
 c2:=rfl
 c13:=rfl
 cache:=(h.below hb).cache
 net:=hn.below hb
 disk:=hd.below hb
 dfiles:=hdf
 maps e:=by
  have:=h.cache.km.lt
  dsimp only at e
  omega
 o z hz:=Nat.lt_of_lt_of_le (ho z hz) hb.size
theorem ask_sub {w:World} {gc gk mc gn gd gq mq:Nat} {vl vt v:Value} {qs:List CEnt} {C:Array Value} (hq:w.heap.size≤gq) (hm:w.heap.size≤mq) {i:Nat} (hi:i<w.heap.size) (h:QS ⟨gq,gc,gk,mc,gn,gd,mq,vl,vt,v,C⟩ ⟨.slice none 0 0,qs,[]⟩ i):cnS gc gk mc gn vt qs i:=by
 have:=(inferInstance:Inhabited OutT)
 rcases h with (e|e|e)|e|e
 ·exact absurd hi (by rw[show i=gq from e];omega)
 ·exact absurd hi (by rw[show i=mq from e];omega)
 ·cases e
 ·exact .inl (.inr e)
 ·exact .inr e
theorem ask_end {w w1 w':World} {mu:Int} {gc gk mc gn gd gq mq N:Nat} {vl vt v vf:Value} {c:Cl} {qs qs':List CEnt} {vs:List FEnt} {vo:Value} {s:Cs} {d:Dk} (hq:w.heap.size≤gq) (hm:w.heap.size≤mq) (hb:Below w.heap.size w w1)
  (h:QIs w' ⟨gq,gc,gk,mc,gn,gd,mq,vl,vt,v,cliC mu vf c.key c.size c.root gk⟩ ⟨vo,qs',vs⟩ N s d) (hf:Fr (QS ⟨gq,gc,gk,mc,gn,gd,mq,vl,vt,v,cliC mu vf c.key c.size c.root gk⟩ ⟨.slice none 0 0,qs,[]⟩) w1 w') (hs:Sub w1 (QS ⟨gq,gc,gk,mc,gn,gd,mq,vl,vt,v,cliC mu vf c.key c.size c.root gk⟩ ⟨.slice none 0 0,qs,[]⟩) (QS ⟨gq,gc,gk,mc,gn,gd,mq,vl,vt,v,cliC mu vf c.key c.size c.root gk⟩ ⟨vo,qs',vs⟩)) :
  ClM mu w' gc gk mc vf { c with cache:=s.cache } qs'∧NetIs w' gn gd vl vt s.net∧Fr (cnS gc gk mc gn vt qs) w w'∧Sub w (cnS gc gk mc gn vt qs) (cnS gc gk mc gn vt qs'):=by
 refine⟨⟨h.cli,h.cache⟩,h.net,(Fr.ofBelow hb).step hf fun i hi e=>ask_sub hq hm hi e,fun k hk=>?_⟩
 rcases hk with (e|e)|e
 ·exact .inl (.inl (.inl e))
 ·rcases hs k (.inr (.inl e)) with e2|e2
  ·rcases Nat.lt_or_ge k w.heap.size with hlt|hge
   ·exact .inl (ask_sub hq hm hlt e2)
   ·exact .inr hge
  ·exact .inr (Nat.le_trans hb.size e2)
 ·exact .inl (.inr e)
end
end
section
open Go.RowKit Go.Extern.Stop Go.Stop Go.Extern
theorem isTypeOf (v:Value) (w:World):(Extern.ReflectliteType.typeOf #[.iface 338 v]).run prog w=.ok (.iface 282 (.agg #[.pointer (some ⟨17,338,none⟩)])) w:=by kernel_rfl
theorem isComparable (w:World):((Extern.ReflectliteType.method fun t=>do Extern.Rtype.noPackHeld "Comparable" t;Functor.map (fun a=>Value.bool a.comparable) (typeInfo t)) #[.agg #[.pointer (some ⟨17,338,none⟩)]]).run prog w=.ok (.bool true) w:=by kernel_rfl
theorem methodComparable (n:Nat) (h:Value) (w:World):(Go.method (n+1) 282 (.agg #[h]) "Comparable").run prog w=.ok (263,.agg #[h]) w:=by kernel_rfl
theorem methodUnwrap (n:Nat) (v:Value) (w:World):(Go.method (n+1) 153 v "Unwrap").run prog w=.ok (257,v) w:=by kernel_rfl
theorem isComp:(prog.info? 338).map (·.comparable)=some true:=by kernel_rfl
theorem isSize:(prog.info? 340).map (·.size)=some 1:=by kernel_rfl
theorem pathNoIs (v:Value) (xT:TypeId) (w:World):(Instr.typeAssert (.iface 153 v) xT 284 true).run prog w=.ok (.tuple #[.nilIface,.bool false]) w:=run_typeAssert_lacksB underlying284 (by kernel_rfl) (by kernel_rfl) v xT w
theorem pathHasUnwrap (v:Value) (xT:TypeId) (w:World):(Instr.typeAssert (.iface 153 v) xT 287 true).run prog w=.ok (.tuple #[.iface 153 v,.bool true]) w:=run_typeAssert_hasB underlying287 (by kernel_rfl) v xT w
theorem unwrap_any (w:World) (r:Nat) (x:Value) (h1:w.cell? ⟨r,1,none⟩=some x):Calls prog 257 #[.pointer (some ⟨r,0,none⟩)] w fun e w'=>e=.returned x∧w'=w:=by
 go_enter func257,ntmps257
 go_wp2
 go_ret
 exact⟨rfl,rfl⟩
theorem isw_path (a:Addr) (r:Nat) (w:World) (h1:w.cell? ⟨r,1,none⟩=some (.iface 338 (.pointer (some a)))) :
  Calls prog 131 #[.iface 153 (.pointer (some ⟨r,0,none⟩)),.iface 338 (.pointer (some a)),.bool true] w fun e w'=>e=.returned (.bool true)∧w'=w:=by
 obtain⟨i,hi,hcmp⟩:=Option.map_eq_some_iff.1 isComp
 obtain⟨j,hj,hjs⟩:=Option.map_eq_some_iff.1 isSize
 have nP:=pathNoIs
 have uP:=pathHasUnwrap
 have mU:=methodUnwrap
 have heq:=run_eql_iface_ptr_same (P:=prog) w a underlying88 underlying338 hi hcmp hj
 have hty:=run_eql_iface_types (P:=prog) 153 338 (.pointer (some ⟨r,0,none⟩)) (.pointer (some a)) underlying88 (by decide) w
 have hnl:=neq_nil w 338 (.pointer (some a))
 have hql:=eql_nil w 338 (.pointer (some a))
 go_enter func131,ntmps131
 go_wp2_with fail
 refine wp_loop_rounds 2 ?_
 rw[rounds_succ]
 go_wp2_with (go_at_call 257;refine (unwrap_any w r _ h1).mono ?_;rintro e w2 ⟨rfl,rfl⟩)
 rw[rounds_succ]
 go_wp2
 go_ret
 exact⟨rfl,rfl⟩
theorem is_path (a:Addr) (r:Nat) (w:World) (h1:w.cell? ⟨r,1,none⟩=some (.iface 338 (.pointer (some a)))) :
  Calls prog 73 #[.iface 153 (.pointer (some ⟨r,0,none⟩)),.iface 338 (.pointer (some a))] w fun e w'=>e=.returned (.bool true)∧w'=w:=by
 obtain⟨i,hi,hcmp⟩:=Option.map_eq_some_iff.1 isComp
 obtain⟨j,hj,hjs⟩:=Option.map_eq_some_iff.1 isSize
 have h8:=@run_callFunc_extern prog 130 _ Extern.ReflectliteType.typeOf func130 (by kernel_rfl) (by kernel_rfl) (by kernel_rfl) (by kernel_rfl)
 have h32:=@run_callFunc_extern prog 263 _ (Extern.ReflectliteType.method fun t=>do Extern.Rtype.noPackHeld "Comparable" t;pure (.bool (←typeInfo t).comparable)) func263 (by kernel_rfl) (by kernel_rfl) (by kernel_rfl) (by kernel_rfl)
 have tT:=isTypeOf
 have cT:=isComparable
 have mR:=methodComparable
 have mU:=methodUnwrap
 have nP:=pathNoIs
 have uP:=pathHasUnwrap
 have heq:=run_eql_iface_ptr_same (P:=prog) w a underlying88 underlying338 hi hcmp hj
 have hty:=run_eql_iface_types (P:=prog) 153 338 (.pointer (some ⟨r,0,none⟩)) (.pointer (some a)) underlying88 (by decide) w
 go_enter func73,ntmps73
 go_wp2_with fail
 refine (isw_path a r w h1).mono ?_
 rintro e w2 ⟨rfl,rfl⟩
 go_wp2
 go_ret
 exact⟨rfl,rfl⟩
theorem valueOfT (t:Addr) (w:World):(ReflectliteValue.unpack (.iface 158 (.pointer (some t)))).run prog w
  = .ok (.agg #[.pointer (some ⟨17,158,none⟩),.pointer (some ⟨w.heap.size,0,none⟩),.int .u64 150]) (w.alloc (.cells #[.pointer (some t)] 158)):=by kernel_rfl
theorem typeOfV (a:Addr) (w:World):(ReflectliteValue.methodAny (ReflectliteValue.valueError "reflectlite.Value.Type" 0) (fun t _ _ _=>ReflectliteType.toType t) #[.agg #[.pointer (some ⟨17,158,none⟩),.pointer (some a),.int .u64 150]]).run prog w
  = .ok (.iface 282 (.agg #[.pointer (some ⟨17,158,none⟩)])) w:=by kernel_rfl
theorem kindPP (w:World):((ReflectliteType.abiMethod fun t=>Functor.map (fun a:Nat=>Value.int IntKind.u8 (a:Int)) (Rtype.kind t)) #[.pointer (some ⟨17,158,none⟩)]).run prog w=.ok (.int .u8 22) w:=by kernel_rfl
theorem kindP (w:World):((ReflectliteType.abiMethod fun t=>Functor.map (fun a:Nat=>Value.int IntKind.u8 (a:Int)) (Rtype.kind t)) #[.pointer (some ⟨17,152,none⟩)]).run prog w=.ok (.int .u8 22) w:=by kernel_rfl
theorem rlm (z:Sem Value) (f:TypeId→Addr→Nat→Nat→Sem Value) (v:Value) :
  ReflectliteValue.method z f #[v]=(do match ←ReflectliteValue.parts v with|none=>z|some (t,a,fl)=>f t a fl (fl%32)):=rfl
theorem partsPP (a:Addr) (w:World):(ReflectliteValue.parts (.agg #[.pointer (some ⟨17,158,none⟩),.pointer (some a),.int .u64 150])).run prog w=.ok (some (158,a,150)) w:=by kernel_rfl
theorem isNilPP (a p:Addr) (W:World) (ha:W.cell? a=some (.pointer (some p))) :
  (ReflectliteValue.method (ReflectliteValue.valueError "reflectlite.Value.IsNil" 0) ReflectliteValue.isNil #[.agg #[.pointer (some ⟨17,158,none⟩),.pointer (some a),.int .u64 150]]).run prog W=.ok (.bool false) W:=by
 rw[rlm]
 simp only[Sem.run_bind,partsPP,Result.andThen]
 simp[ReflectliteValue.isNil,loadVar,isAgg,underlying,underlying158,ha,Result.andThen]
theorem methodKind (n:Nat) (h:Value) (w:World):(Go.method (n+1) 282 (.agg #[h]) "Kind").run prog w=.ok (246,h) w:=by kernel_rfl
theorem methodElem (n:Nat) (h:Value) (w:World):(Go.method (n+1) 282 (.agg #[h]) "Elem").run prog w=.ok (264,.agg #[h]) w:=by kernel_rfl
theorem methodAssignableTo (n:Nat) (h:Value) (w:World):(Go.method (n+1) 282 (.agg #[h]) "AssignableTo").run prog w=.ok (262,.agg #[h]) w:=by kernel_rfl
theorem methodImplements (n:Nat) (h:Value) (w:World):(Go.method (n+1) 282 (.agg #[h]) "Implements").run prog w=.ok (265,.agg #[h]) w:=by kernel_rfl
theorem elemPP (w:World):(ReflectliteType.method ReflectliteType.elem #[.agg #[.pointer (some ⟨17,158,none⟩)]]).run prog w=.ok (.iface 282 (.agg #[.pointer (some ⟨17,152,none⟩)])) w:=by kernel_rfl
theorem implementsP (w:World):(ReflectliteType.relation "Implements" ReflectliteType.implements_ #[.agg #[.pointer (some ⟨17,152,none⟩)],.iface 282 (.agg #[.pointer (some ⟨17,88,none⟩)])]).run prog w=.ok (.bool true) w:=by kernel_rfl
theorem typeOfPath (v:Value) (w:World):(ReflectliteType.typeOf #[.iface 153 v]).run prog w=.ok (.iface 282 (.agg #[.pointer (some ⟨17,153,none⟩)])) w:=by kernel_rfl
theorem typeOfOwn (v:Value) (w:World):(ReflectliteType.typeOf #[.iface 152 v]).run prog w=.ok (.iface 282 (.agg #[.pointer (some ⟨17,152,none⟩)])) w:=by kernel_rfl
theorem assignPath (w:World):(ReflectliteType.relation "AssignableTo" ReflectliteType.assignableTo #[.agg #[.pointer (some ⟨17,153,none⟩)],.iface 282 (.agg #[.pointer (some ⟨17,152,none⟩)])]).run prog w=.ok (.bool false) w:=by kernel_rfl
theorem assignOwn (w:World):(ReflectliteType.relation "AssignableTo" ReflectliteType.assignableTo #[.agg #[.pointer (some ⟨17,152,none⟩)],.iface 282 (.agg #[.pointer (some ⟨17,152,none⟩)])]).run prog w=.ok (.bool true) w:=by kernel_rfl
theorem valueOfOwn (e:Addr) (w:World):(ReflectliteValue.unpack (.iface 152 (.pointer (some e)))).run prog w
  = .ok (.agg #[.pointer (some ⟨17,152,none⟩),.pointer (some ⟨w.heap.size,0,none⟩),.int .u64 150]) (w.alloc (.cells #[.pointer (some e)] 152)):=by kernel_rfl
theorem elemOfPP (w:World):(Rtype.elem? 158).run prog w=.ok (some 152) w:=by kernel_rfl
theorem mkP (p:Addr) (w:World):(ReflectliteValue.mk 152 p ReflectliteValue.flagAddr).run prog w=.ok (.agg #[.pointer (some ⟨17,152,none⟩),.pointer (some p),.int .u64 406]) w:=by kernel_rfl
theorem elemV (a p:Addr) (W:World) (ha:W.cell? a=some (.pointer (some p))) :
  (ReflectliteValue.method (ReflectliteValue.valueError "reflectlite.Value.Elem" 0) ReflectliteValue.elem #[.agg #[.pointer (some ⟨17,158,none⟩),.pointer (some a),.int .u64 150]]).run prog W
   = .ok (.agg #[.pointer (some ⟨17,152,none⟩),.pointer (some p),.int .u64 406]) W:=by
 rw[rlm]
 simp only[Sem.run_bind,partsPP,Result.andThen]
 simp[ReflectliteValue.elem,loadVar,isAgg,underlying,underlying158,ha,Result.andThen,elemOfPP,mkP]
theorem rls (v x:Value):ReflectliteValue.set #[v,x]=(do
  let (some (dst,a,fl),some (src,b,_)):=(←ReflectliteValue.parts v,←ReflectliteValue.parts x)
   | unsupported (.noEntry "extern/(internal/reflectlite.Value).Set.zeroValue")
  if fl / ReflectliteValue.flagAddr%2 == 0 then unsupported (.noEntry "extern/(internal/reflectlite.Value).Set.unaddressable")
  let val ←loadVar src b
  if ←Rtype.directlyAssignable dst src then storeVar dst a val
  else if ←Rtype.implements dst src then
   if (←Rtype.kind src) == 20 then
    match val with
    | .nilIface=>unsupported (.noEntry "extern/reflectlite: a nil value of one interface type handed on as a value of another")
    | _=>storeVar dst a val
   else storeVar dst a (.iface src val)
  else panicString ("reflectlite.Set: value of type "++(←Rtype.spelt src) ++ " is not assignable to type "++(←Rtype.spelt dst))
  pure (.tuple #[])):=rfl
theorem partsPa (a:Addr) (w:World):(ReflectliteValue.parts (.agg #[.pointer (some ⟨17,152,none⟩),.pointer (some a),.int .u64 406])).run prog w=.ok (some (152,a,406)) w:=by kernel_rfl
theorem partsP (a:Addr) (w:World):(ReflectliteValue.parts (.agg #[.pointer (some ⟨17,152,none⟩),.pointer (some a),.int .u64 150])).run prog w=.ok (some (152,a,150)) w:=by kernel_rfl
theorem directP (w:World):(Rtype.directlyAssignable 152 152).run prog w=.ok true w:=by kernel_rfl
theorem setP (ta b e:Addr) (old:Value) (W:World) (hb:W.cell? b=some (.pointer (some e))) (ht:W.cell? ta=some old) (hf:W.frozen? ta=false) :
  (ReflectliteValue.set #[.agg #[.pointer (some ⟨17,152,none⟩),.pointer (some ta),.int .u64 406],.agg #[.pointer (some ⟨17,152,none⟩),.pointer (some b),.int .u64 150]]).run prog W
   = .ok (.tuple #[]) (W.setCell ta (.pointer (some e))):=by
 rw[rls]
 simp only[Sem.run_bind,partsPa,partsP,Result.andThen]
 simp[ReflectliteValue.flagAddr,loadVar,isAgg,underlying,underlying152,hb,Result.andThen,directP,storeVar,Value.cells,storeCells,Addr.add]
 rw[run_store prog W ta _ _ (by rfl)]
 simp[ht,hf]
end
section
open Go.RowKit Go.Extern.Stop Go.Stop Go.Extern
theorem pathNoAs (v:Value) (xT:TypeId) (w:World):(Instr.typeAssert (.iface 153 v) xT 293 true).run prog w=.ok (.tuple #[.nilIface,.bool false]) w:=run_typeAssert_lacksB underlying293 (by kernel_rfl) (by kernel_rfl) v xT w
abbrev rvT (b:Nat):Array Value:=#[.pointer (some ⟨17,158,none⟩),.pointer (some ⟨b,0,none⟩),.int .u64 150]
theorem asw_path (q r t:Nat) (w:World) (b:Nat) (old:Value) (hb:w.cell? ⟨b,0,none⟩=some (.pointer (some ⟨t,0,none⟩)))
  (h1:w.cell? ⟨r,1,none⟩=some (.iface 152 (.pointer (some ⟨q,0,none⟩)))) (ht0:w.cell? ⟨t,0,none⟩=some old) (hf0:w.frozen? ⟨t,0,none⟩=false) :
  Calls prog 135 #[.iface 153 (.pointer (some ⟨r,0,none⟩)),.iface 158 (.pointer (some ⟨t,0,none⟩)),.agg (rvT b),.iface 282 (.agg #[.pointer (some ⟨17,152,none⟩)])] w
   fun ev w'=>ev=.returned (.bool true)∧w'.cell? ⟨t,0,none⟩=some (.pointer (some ⟨q,0,none⟩))∧Fr (·=t) w w':=by
 have h6:=@run_callFunc_extern prog 132 _ (fun args=>ReflectliteValue.unpack (args.getD 0 (.tuple #[]))) func132 (by kernel_rfl) (by kernel_rfl) (by kernel_rfl) (by kernel_rfl)
 have h10:=@run_callFunc_extern prog 130 _ ReflectliteType.typeOf func130 (by kernel_rfl) (by kernel_rfl) (by kernel_rfl) (by kernel_rfl)
 have h35:=@run_callFunc_extern prog 262 _ (ReflectliteType.relation "AssignableTo" ReflectliteType.assignableTo) func262 (by kernel_rfl) (by kernel_rfl) (by kernel_rfl) (by kernel_rfl)
 have h11:=@run_callFunc_extern prog 172 _ (ReflectliteValue.method (ReflectliteValue.valueError "reflectlite.Value.Elem" 0) ReflectliteValue.elem) func172 (by kernel_rfl) (by kernel_rfl) (by kernel_rfl) (by kernel_rfl)
 have h12:=@run_callFunc_extern prog 173 _ ReflectliteValue.set func173 (by kernel_rfl) (by kernel_rfl) (by kernel_rfl) (by kernel_rfl)
 have tP:=typeOfPath
 have tO:=typeOfOwn
 have mA:=methodAssignableTo
 have aP:=assignPath
 have aO:=assignOwn
 have vO:=valueOfOwn
 have nA:=pathNoAs
 have uP:=pathHasUnwrap
 have mU:=methodUnwrap
 obtain⟨w3,hw3⟩:∃ w3,w3=w.alloc (.cells (rvT b) 231):=⟨_,rfl⟩
 have hB3:Below w.heap.size w w3:=by rw[hw3];exact below_alloc _ _
 have hs3:w3.heap.size=w.heap.size+1:=by rw[hw3];simp
 have htl:=cell_lt ht0
 have el:=elemV ⟨b,0,none⟩ ⟨t,0,none⟩ w3 ((hB3.cell (cell_lt hb)).trans hb)
 have hr3:=(hB3.cell (cell_lt h1)).trans h1
 have ht3:=(hB3.cell (cell_lt ht0)).trans ht0
 have st:=setP ⟨t,0,none⟩ ⟨w.heap.size+1,0,none⟩ ⟨q,0,none⟩ old (w3.alloc (.cells #[.pointer (some ⟨q,0,none⟩)] 152))
  (by rw[World.cell?_alloc_at _ _ _ _ hs3.symm];rfl)
  (((below_alloc w3 _).cell (cell_lt ht3)).trans ht3)
  (by rw[(below_alloc w3 _).frozen (cell_lt ht3),hB3.frozen htl];exact hf0)
 have hql:=eql_nil w3 152 (.pointer (some ⟨q,0,none⟩))
 have hl0:w3.cell? ⟨w.heap.size,0,none⟩=some (.pointer (some ⟨17,158,none⟩)):=by rw[hw3,World.cell?_alloc_at _ _ _ _ (by simp)];rfl
 have hl1:w3.cell? ⟨w.heap.size,1,none⟩=some (.pointer (some ⟨b,0,none⟩)):=by rw[hw3,World.cell?_alloc_at _ _ _ _ (by simp)];rfl
 have hl2:w3.cell? ⟨w.heap.size,2,none⟩=some (.int .u64 150):=by rw[hw3,World.cell?_alloc_at _ _ _ _ (by simp)];rfl
 have HW3:=zh hw3
 have HB3:=zh hB3
 go_enter func135,ntmps135
 go_wp2_with fail
 rw[←hw3]
 clear hw3 hB3
 refine wp_loop_rounds 2 ?_
 rw[rounds_succ]
 go_wp2_with (go_at_call 257;refine (unwrap_any w3 r _ hr3).mono ?_;rintro e w2 ⟨rfl,rfl⟩)
 rw[rounds_succ]
 go_wp2
 go_ret
 have hf:=((Fr.ofBelow HB3.o:Fr (·=t) w w2).setCell (p:=⟨t,0,none⟩) (fun _=>rfl) (.pointer (some ⟨q,0,none⟩)))
 refine⟨rfl,?_,hf.alloc _⟩
 refine (Below.cell (below_alloc _ _) (p:=⟨t,0,none⟩) ?_).trans ?_
 ·exact Nat.lt_of_lt_of_le htl hf.size
 ·exact World.cell?_setCell_same' _ _ _ (by rw[ht3];rfl)
end
section
open Go.RowKit Go.Extern.Stop Go.Stop Go.Extern
theorem as_path (q r t:Nat) (w:World) (old:Value) (hg:w.cell? ⟨7,0,none⟩=some (.iface 282 (.agg #[.pointer (some ⟨17,88,none⟩)])))
  (h1:w.cell? ⟨r,1,none⟩=some (.iface 152 (.pointer (some ⟨q,0,none⟩)))) (ht0:w.cell? ⟨t,0,none⟩=some old) (hf0:w.frozen? ⟨t,0,none⟩=false) :
  Calls prog 74 #[.iface 153 (.pointer (some ⟨r,0,none⟩)),.iface 158 (.pointer (some ⟨t,0,none⟩))] w
   fun ev w'=>ev=.returned (.bool true)∧w'.cell? ⟨t,0,none⟩=some (.pointer (some ⟨q,0,none⟩))∧Fr (·=t) w w':=by
 have h6:=@run_callFunc_extern prog 132 _ (fun args=>ReflectliteValue.unpack (args.getD 0 (.tuple #[]))) func132 (by kernel_rfl) (by kernel_rfl) (by kernel_rfl) (by kernel_rfl)
 have h7:=@run_callFunc_extern prog 133 _ (ReflectliteValue.methodAny (ReflectliteValue.valueError "reflectlite.Value.Type" 0) (fun t _ _ _=>ReflectliteType.toType t)) func133 (by kernel_rfl) (by kernel_rfl) (by kernel_rfl) (by kernel_rfl)
 have h8:=@run_callFunc_extern prog 134 _ (ReflectliteValue.method (ReflectliteValue.valueError "reflectlite.Value.IsNil" 0) ReflectliteValue.isNil) func134 (by kernel_rfl) (by kernel_rfl) (by kernel_rfl) (by kernel_rfl)
 have h27:=@run_callFunc_extern prog 246 _ (ReflectliteType.abiMethod fun t=>do pure (.int .u8 (←Rtype.kind t))) func246 (by kernel_rfl) (by kernel_rfl) (by kernel_rfl) (by kernel_rfl)
 have h37:=@run_callFunc_extern prog 264 _ (ReflectliteType.method ReflectliteType.elem) func264 (by kernel_rfl) (by kernel_rfl) (by kernel_rfl) (by kernel_rfl)
 have h38:=@run_callFunc_extern prog 265 _ (ReflectliteType.relation "Implements" ReflectliteType.implements_) func265 (by kernel_rfl) (by kernel_rfl) (by kernel_rfl) (by kernel_rfl)
 have mK:=methodKind
 have mE:=methodElem
 have mI:=methodImplements
 have kPP:=kindPP
 have kP:=kindP
 have eP:=elemPP
 have iP:=implementsP
 have vT:=valueOfT ⟨t,0,none⟩ w
 have tV:=typeOfV
 obtain⟨w1,hw1⟩:∃ w1,w1=w.alloc (.cells #[.pointer (some ⟨t,0,none⟩)] 158):=⟨_,rfl⟩
 have hs1:w1.heap.size=w.heap.size+1:=by rw[hw1];simp
 have hB1:Below w.heap.size w w1:=by rw[hw1];exact below_alloc _ _
 have hc1:w1.cell? ⟨w.heap.size,0,none⟩=some (.pointer (some ⟨t,0,none⟩)):=by rw[hw1,World.cell?_alloc_at _ _ _ _ (by simp)];rfl
 obtain⟨w2,hw2⟩:∃ w2,w2=w1.alloc (.cells (rvT w.heap.size) 231):=⟨_,rfl⟩
 have hB2:Below w.heap.size w w2:=by rw[hw2];exact hB1.alloc (by omega) _
 have hc2:w2.cell? ⟨w.heap.size,0,none⟩=some (.pointer (some ⟨t,0,none⟩)):=by
  rw[hw2]
  exact ((below_alloc w1 _).cell (cell_lt hc1)).trans hc1
 have n8:=isNilPP ⟨w.heap.size,0,none⟩ ⟨t,0,none⟩ w2 hc2
 have hl0:w2.cell? ⟨w.heap.size+1,0,none⟩=some (.pointer (some ⟨17,158,none⟩)):=by rw[hw2,World.cell?_alloc_at _ _ _ _ (by first|exact hs1|exact hs1.symm)];rfl
 have hl1:w2.cell? ⟨w.heap.size+1,1,none⟩=some (.pointer (some ⟨w.heap.size,0,none⟩)):=by rw[hw2,World.cell?_alloc_at _ _ _ _ (by first|exact hs1|exact hs1.symm)];rfl
 have hl2:w2.cell? ⟨w.heap.size+1,2,none⟩=some (.int .u64 150):=by rw[hw2,World.cell?_alloc_at _ _ _ _ (by first|exact hs1|exact hs1.symm)];rfl
 have hcon:=asw_path q r t w2 w.heap.size old hc2 ((hB2.cell (cell_lt h1)).trans h1) ((hB2.cell (cell_lt ht0)).trans ht0) ((hB2.frozen (cell_lt ht0)).trans hf0)
 have hg2:=(hB2.cell (cell_lt hg)).trans hg
 have HW1:=zh hw1
 have HW2:=zh hw2
 have HB2:=zh hB2
 have HCON:=zh hcon
 clear hB1 hB2 hcon h1 ht0 hf0 hg hc1
 go_enter func74,ntmps74
 go_upto_region 6 with fail
 rw[←hw1,←hw2]
 clear hw2 hw1
 go_wp2_with (go_at_call 135;refine HCON.o.mono ?_;rintro e w3 ⟨rfl,h31,h32⟩;have H31:=zh h31;have H32:=zh h32;clear h31 h32)
 go_ret
 exact⟨rfl,H31.o,(Fr.ofBelow HB2.o).trans H32.o⟩
end
section
theorem ofPathIs (v:Value) (w:World):(Instr.typeAssert (.iface 153 v) 88 153 true).run prog w=.ok (.tuple #[v,.bool true]) w:=by kernel_rfl
theorem of_tile (f:Nat→Addr) (w:World) (h:Sents w f) (r:Nat) (p:ByteArray) (hr:w.heap[r]?=some (.cells #[.string p,.iface 338 (.pointer (some (f 5)))] 155 (0,0))) :
  Calls prog 37 #[.iface 153 (.pointer (some ⟨r,0,none⟩))] w fun e w'=>e=.returned (toldV 6 p)∧Below w.heap.size w w':=by
 obtain⟨c0,c1,c2,c3,c4,c5,c6⟩:=h.cells
 have b0:3<w.heap.size:=cell_lt c0
 have b1:4<w.heap.size:=cell_lt c1
 have b2:1<w.heap.size:=cell_lt c2
 have b3:5<w.heap.size:=cell_lt c3
 have b4:2<w.heap.size:=cell_lt c4
 have b5:6<w.heap.size:=cell_lt c5
 have b6:0<w.heap.size:=cell_lt c6
 have hta:=ofPathIs (.pointer (some ⟨r,0,none⟩))
 have hq:=fun w=>eql_nil w 153 (.pointer (some ⟨r,0,none⟩))
 have he:=fun w=>eql_same w (f 5)
 obtain⟨W1,hW1⟩:∃ W1,W1=((w.alloc (.cells #[.int .i64 0,.string ⟨#[]⟩] 29)).alloc (.cells #[.nilIface,.iface 338 (.pointer (some (f 0))),.iface 338 (.pointer (some (f 1))),.iface 338 (.pointer (some (f 2))),.iface 338 (.pointer (some (f 3))),.iface 338 (.pointer (some (f 4))),.nilIface,.iface 338 (.pointer (some (f 6)))] 88)).alloc (.cells #[.pointer none] 152):=⟨_,rfl⟩
 have hB1:Below w.heap.size w W1:=by rw[hW1];exact ((below_alloc w _).alloc (by simp) _).alloc (by simp;omega) _
 have hT1:W1.heap[w.heap.size]?=some (.cells #[.int .i64 0,.string ⟨#[]⟩] 29 (0,0)):=by
  rw[hW1,heap_alloc_old _ _ (by simp;omega),heap_alloc_old _ _ (by simp),heap_alloc_new]
 have hr1:=(hB1.block _ (lt_of_heap hr)).trans hr
 have k0:W1.cell? ⟨r,0,none⟩=some (.string p):=cell_heap hr1 0 rfl
 have k1:W1.cell? ⟨r,1,none⟩=some (.iface 338 (.pointer (some (f 5)))):=cell_heap hr1 1 rfl
 have k5:=(hB1.cell b5).trans c5
 have d0:=cell_heap hT1 0 rfl
 have d1:=cell_heap hT1 1 rfl
 have g0:=frozen_heap hT1 0
 have g1:=frozen_heap hT1 1
 have HIS:=zh (fun n=>is_path (f 5) r (W1.drewN n) k1)
 have HB1:=zh hB1
 have hsz1:w.heap.size<W1.heap.size:=lt_of_heap hT1
 have HW1:=zh hW1
 clear h hB1 hT1 hr1 hW1 hr
 go_enter func37,ntmps37
 go_upto_region 9 with fail
 rw[←HW1.o]
 clear HW1 c0 c1 c2 c3 c4 c5 c6 b0 b1 b2 b3 b4 b5 b6
 go_quiet ((go_at_call 73;exact Calls.quiet_of_same ((HIS.o _).mono fun _ _ ⟨he,hm⟩=>⟨he,hm⟩)))
 go_wp2
 refine bodyPost_ret (v:=toldV 6 p) (by simp[results,results37,go_sem,d0,d1]) rfl ⟨rfl,?_⟩
 exact ((below_drewN HB1.o _).setCell (Nat.le_refl _) _).setCell (Nat.le_refl _) _
theorem ownComp:(prog.info? 152).map (·.comparable)=some true:=by kernel_rfl
theorem ownSize:(prog.info? 366).map (·.size)=some 1:=by kernel_rfl
theorem of_own (f:Nat→Addr) (w:World) (h:Sents w f) (hg:ErrT w) (r q:Nat) (p:ByteArray) (hr:w.heap[r]?=some (.cells #[.string p,.iface 152 (.pointer (some ⟨q,0,none⟩))] 155 (0,0))) :
  Calls prog 37 #[.iface 153 (.pointer (some ⟨r,0,none⟩))] w fun e w'=>e=.returned (toldV 8 p)∧Below w.heap.size w w':=by
 obtain⟨ic,hic,hcmp⟩:=Option.map_eq_some_iff.1 ownComp
 obtain⟨jc,hjc,hjs⟩:=Option.map_eq_some_iff.1 ownSize
 obtain⟨c0,c1,c2,c3,c4,c5,c6⟩:=h.cells
 have b0:3<w.heap.size:=cell_lt c0
 have b1:4<w.heap.size:=cell_lt c1
 have b2:1<w.heap.size:=cell_lt c2
 have b3:5<w.heap.size:=cell_lt c3
 have b4:2<w.heap.size:=cell_lt c4
 have b5:6<w.heap.size:=cell_lt c5
 have b6:0<w.heap.size:=cell_lt c6
 have hta:=ofPathIs (.pointer (some ⟨r,0,none⟩))
 have hq:=fun w=>eql_nil w 153 (.pointer (some ⟨r,0,none⟩))
 have hty:=fun w=>run_eql_iface_types (P:=prog) 152 338 (.pointer (some ⟨q,0,none⟩)) (.pointer (some (f 5))) underlying88 (by decide) w
 have he:=fun w=>run_eql_iface_ptr_same (P:=prog) w ⟨q,0,none⟩ underlying88 underlying152 hic hcmp hjc
 obtain⟨W1,hW1⟩:∃ W1,W1=((w.alloc (.cells #[.int .i64 0,.string ⟨#[]⟩] 29)).alloc (.cells #[.nilIface,.iface 338 (.pointer (some (f 0))),.iface 338 (.pointer (some (f 1))),.iface 338 (.pointer (some (f 2))),.iface 338 (.pointer (some (f 3))),.iface 338 (.pointer (some (f 4))),.nilIface,.iface 338 (.pointer (some (f 6)))] 88)).alloc (.cells #[.pointer none] 152):=⟨_,rfl⟩
 have hB1:Below w.heap.size w W1:=by rw[hW1];exact ((below_alloc w _).alloc (by simp) _).alloc (by simp;omega) _
 have hT1:W1.heap[w.heap.size]?=some (.cells #[.int .i64 0,.string ⟨#[]⟩] 29 (0,0)):=by
  rw[hW1,heap_alloc_old _ _ (by simp;omega),heap_alloc_old _ _ (by simp),heap_alloc_new]
 have hO1:W1.heap[w.heap.size+1+1]?=some (.cells #[.pointer none] 152 (0,0)):=by
  have e:=heap_alloc_new ((w.alloc (.cells #[.int .i64 0,.string ⟨#[]⟩] 29)).alloc (.cells #[.nilIface,.iface 338 (.pointer (some (f 0))),.iface 338 (.pointer (some (f 1))),.iface 338 (.pointer (some (f 2))),.iface 338 (.pointer (some (f 3))),.iface 338 (.pointer (some (f 4))),.nilIface,.iface 338 (.pointer (some (f 6)))] 88)) (.cells #[.pointer none] 152)
  rw[←hW1] at e
  rw[show w.heap.size+1+1=((w.alloc (.cells #[.int .i64 0,.string ⟨#[]⟩] 29)).alloc (.cells #[.nilIface,.iface 338 (.pointer (some (f 0))),.iface 338 (.pointer (some (f 1))),.iface 338 (.pointer (some (f 2))),.iface 338 (.pointer (some (f 3))),.iface 338 (.pointer (some (f 4))),.nilIface,.iface 338 (.pointer (some (f 6)))] 88)).heap.size by simp]
  exact e
 have hr1:=(hB1.block _ (lt_of_heap hr)).trans hr
 have hrl:=lt_of_heap hr
 have k1:W1.cell? ⟨r,1,none⟩=some (.iface 152 (.pointer (some ⟨q,0,none⟩))):=cell_heap hr1 1 rfl
 have k5:=(hB1.cell b5).trans c5
 have kg:ErrT W1:=(hB1.cell (cell_lt hg)).trans hg
 have HB1:=zh hB1
 have HR1:=zh hr1
 have HT1:=zh hT1
 have HO1:=zh hO1
 have HG1:=zh kg
 have hsz1:w.heap.size<W1.heap.size:=lt_of_heap hT1
 have HW1:=zh hW1
 clear h hB1 hT1 hr1 hW1 hr hO1 kg hg
 go_enter func37,ntmps37
 go_upto_region 9 with fail
 rw[←HW1.o]
 clear HW1 c0 c1 c2 c3 c4 c5 c6 b0 b1 b2 b3 b4 b5 b6
 go_quiet (fail)
 go_upto_region 11 with fail
 obtain⟨W2,hW2⟩:∃ W2,W2=W1.drewN nq:=⟨_,rfl⟩
 have HW2:=zh hW2
 rw[←hW2]
 have k2:W2.cell? ⟨r,1,none⟩=some (.iface 152 (.pointer (some ⟨q,0,none⟩))):=by rw[hW2];exact k1
 have AS:=zh (as_path q r (w.heap.size+1+1) W2.drew (.pointer none) (show W2.cell? _=_ by rw[hW2];exact HG1.o) k2 (show W2.cell? _=_ by rw[hW2];exact cell_heap HO1.o 0 rfl) (show W2.frozen? _=_ by rw[hW2];exact frozen_heap HO1.o 0))
 clear hW2 k1 k5
 go_cut [39] from 39 to 51 (fun s39 wx=>s39=.bool true∧Aside (Fr (·=w.heap.size+1+1) W2 wx))
 case first=>
  go_region_law (go_simp;go_at_call 74;go_must (refine (AS.o).mono ?_;rintro e w3 ⟨rfl,k31,k32⟩;have hf3:=(Fr.refl (·=w.heap.size+1+1) W2).drew.trans k32;have K32:=zh hf3;have k33:=hf3.cell k2 (show ¬ r=w.heap.size+1+1 by omega);clear k32 hf3))
  all_goals (
   go_wp2_with fail
   go_meet
   exact⟨rfl,K32.o⟩)
 case rest=>
  obtain⟨rfl,HF⟩:=hcut
  have hb:Fr (·=w.heap.size+1+1) W1 wc:=by
   have:=HF.o
   rw[HW2.o] at this
   exact ((Fr.refl _ W1).drewN nq).trans this
  have hT2:=hb.heap HT1.o (show ¬ w.heap.size=w.heap.size+1+1 by omega)
  have hR2:=hb.heap HR1.o (show ¬ r=w.heap.size+1+1 by omega)
  have HB2:=zh (HB1.o.trans (hb.below HB1.o.size fun k hk e=>by omega))
  have d0:=cell_heap hT2 0 rfl
  have d1:=cell_heap hT2 1 rfl
  have g0:=frozen_heap hT2 0
  have g1:=frozen_heap hT2 1
  have m0:=cell_heap hR2 0 rfl
  clear hT2 hR2 hb k2
  go_wp2
  refine bodyPost_ret (v:=toldV 8 p) (by simp[results,results37,go_sem,d0,d1]) rfl ⟨rfl,?_⟩
  exact (HB2.o.setCell (Nat.le_refl _) _).setCell (Nat.le_refl _) _
end
section
open Go.RowKit Go.MuLone
def ErrIs (F:Nat→Addr) (w:World) (base:Nat) (t:Tld) (u:Value):Prop:=
 (t=tFine∧u=.nilIface)∨(∃ i,i<7∧i≠5∧t=(ofCode i,⟨#[]⟩)∧u=.iface 338 (.pointer (some (F i))))∨∃ p,t=(6,p)∧MissErr F w base p u
theorem of_err {F:Nat→Addr} {w:World} {base:Nat} {t:Tld} {u:Value} (hs:Sents w F) (h:ErrIs F w base t u):Calls prog 37 #[u] w fun e w'=>e=.returned (toldV t.1 t.2)∧Below w.heap.size w w':=by
 rcases h with ⟨rfl,rfl⟩|⟨i,hi,h5,rfl,rfl⟩|⟨p,rfl,q,rfl,_,hq⟩
 ·exact of_nil F w hs
 ·exact of_sent F w hs i hi h5
 ·exact of_tile F w hs q p hq
theorem ErrIs.fr {F:Nat→Addr} {S:Nat→Prop} {w w':World} {base:Nat} {t:Tld} {u:Value} (h:ErrIs F w base t u) (hf:Fr S w w') (hn:∀ k C fz,w.heap[k]?=some (.cells C 155 fz)→¬ S k):ErrIs F w' base t u:=by
 rcases h with h|h|⟨p,h1,q,h2,h3,h4⟩
 ·exact .inl h
 ·exact .inr (.inl h)
 ·exact .inr (.inr ⟨p,h1,q,h2,h3,hf.heap h4 (hn _ _ _ h4)⟩)
theorem clip_any (w:World) (base:Nat) (v:Value) (l:List UInt8) (h:OwnBytes w base v l) :
  Calls prog 97 #[v] w fun e w'=>∃ v',e=.returned v'∧OwnBytes w base v' l∧v'.ownBlock=v.ownBlock∧w'=w:=by
 rcases h with ⟨rfl,rfl⟩|⟨b,off,c,C,fz,rfl,h1,h2,h3,h4,h5,h6⟩
 ·go_enter func97,ntmps97
  go_wp2
  refine bodyPost_ret (results_tmp rfl _ _ _) rfl ⟨.slice none 0 0,rfl,.inl ⟨rfl,rfl⟩,rfl,rfl⟩
 ·obtain⟨n,hn⟩:∃ n,n=l.length:=⟨_,rfl⟩
  rw[←hn] at h1 h5 ⊢
  have e1:(n:Int)≤c:=by omega
  have HN:=zh hn
  clear hn
  go_enter func97,ntmps97
  go_wp2
  refine bodyPost_ret (results_tmp rfl _ _ _) rfl ⟨.slice (some ⟨b,off,none⟩) n n,rfl,.inr ⟨b,off,n,C,fz,by rw[HN.o],by rw[HN.o];exact Nat.le_refl _,h2,h3,h4,by rw[←HN.o];exact h5,h6⟩,rfl,rfl⟩
section
theorem OwnB.o {o1 o2:OutT} {w w':World} {v:Value} {l:List UInt8} (h : @OwnB ⟨o1⟩ w 0 v l) (hb:Below w.heap.size w w') (ho:∀ z,o2.blk=some z→w.heap.size≤z) : @OwnB ⟨o2⟩ w' 0 v l:=by
 refine⟨h.1.below hb,fun z hz e=>?_⟩
 have hge:=ho z hz
 rcases h.1 with ⟨rfl,_⟩|⟨b,off,c,C,fz,rfl,_,h2,h3,_⟩
 ·cases e
 ·simp[Value.ownBlock] at e
  have:=lt_of_heap h3
  omega
theorem CacheIs.o {o1 o2:OutT} {w w':World} {g m:Nat} {c:Cch} {qs:List CEnt} (h : @CacheIs ⟨o1⟩ w g m c qs) (hb:Below w.heap.size w w') (ho:∀ z,o2.blk=some z→w.heap.size≤z) : @CacheIs ⟨o2⟩ w' g m c qs:=by
 obtain⟨r1,r2,r3,r4,r5,r6,r7,r8⟩:=@CacheIs.fr ⟨o1⟩ w w' g m c qs h (fun _=>False) (Fr.ofBelow hb) (fun _ _=>id) (fun _ _ _ _=>id)
 obtain⟨_,_,v3,_⟩:=h
 exact @CacheIs.mk ⟨o2⟩ _ _ _ _ _ r1 r2 (fun q hq=>OwnB.o (v3 q hq) hb ho) r4 r5 r6 r7 r8
theorem QIs.outB {o1 o2:OutT} {w w':World} {q:Qf} {x:Qv} {N:Nat} {s:Cs} {d:Dk} (h : @QIs ⟨o1⟩ w q x N s d) (hb:Below w.heap.size w w') (ho:∀ z,o2.blk=some z→w.heap.size≤z∧z<w'.heap.size) : @QIs ⟨o2⟩ w' q x N s d:=by
 obtain⟨b1,b2,b3,b4,b5,b6,b7,b8,b9,b10,b11,b12,b13,b14,b15,b16⟩:=@QIs.below ⟨o1⟩ w w' q x N s d h hb
 obtain⟨_,_,_,a4,_,_,_,_,_,_,a11,_⟩:=h
 exact @QIs.mk ⟨o2⟩ _ _ _ _ _ _ b1 b2 b3 (fun y hy=>OwnB.o (a4 y hy) hb fun z hz=>(ho z hz).1) b5 b6 b7 b8 b9 b10 (CacheIs.o a11 hb fun z hz=>(ho z hz).1) b12 b13 b14 b15 fun z hz=>(ho z hz).2
theorem ClM.back {o1:OutT} {mu:Int} {w w':World} {gc gk mc:Nat} {vf:Value} {c:Cl} {qs:List CEnt} (h : @ClM ⟨o1⟩ mu w gc gk mc vf c qs) (hf:Fr (fun k=>o1.blk=some k) w w') (hn:∀ z,o1.blk=some z→∃ C fz,w.heap[z]?=some (.cells C 5 fz)):ClM mu w' gc gk mc vf c qs:=by
 obtain⟨hcells,hcache⟩:=h
 have hkc:=@kinds_cache ⟨o1⟩ _ _ _ _ _ hcache
 have hk:∀ k,clS gc gk mc qs k→¬ o1.blk=some k:=fun k hk e=>by
  obtain⟨C,fz,hC⟩:=hn k e
  rcases hk with rfl|hk
  ·rw[hcells] at hC;cases hC
  ·exact kinds_not hkc hC (by decide) hk
 obtain⟨r1,r2,r3,r4,r5,r6,r7,r8⟩:=hcache
 refine⟨hf.heap hcells (hk _ (.inl rfl)),?_⟩
 have hr:RingIs w' gk mc c.cache.most (qs.map CEnt.tri):=r1.fr hf (hk _ (.inr (.inl rfl))) fun b hb=>hk _ (.inr (.inr (.inr (by rw[tri_fst] at hb;exact hb))))
 refine⟨hr,r2,fun q hq=>⟨?_,fun z hz=>by cases hz⟩,r4.fr hf (hk _ (.inr (.inr (.inl rfl)))),r5,r6,r7,r8⟩
 have h1:=r3 q hq
 rcases h1.1 with ⟨e1,e2⟩|⟨b,off,cc,C,fz,e,a1,a2,a3,a4,a5,a6⟩
 ·exact .inl ⟨e1,e2⟩
 ·refine .inr ⟨b,off,cc,C,fz,e,a1,a2,hf.heap a3 fun hz=>?_,a4,a5,a6⟩
  exact h1.2 b hz (by rw[e];rfl)
end
end
section
theorem rebuild_nil (leaf:Hsh) (i n:Nat):rebuild leaf i n []=if n=1 then some leaf else none:=by simp[rebuild,rebuildR]
theorem rebuild_snoc (leaf last:Hsh) (i n:Nat) (q:List Hsh):rebuild leaf i n (q ++ [last])=if n=1 then none else if i<below n then (rebuild leaf i (below n) q).map (nodeH · last) else (rebuild leaf (i-below n) (n-below n) q).map (nodeH last ·):=by
 unfold rebuild below
 rw[List.reverse_append]
 rfl
end
end Go.Proofs.YtefccfakhgdfbabGreatDoor
