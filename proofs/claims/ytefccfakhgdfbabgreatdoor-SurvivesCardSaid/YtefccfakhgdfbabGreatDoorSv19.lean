/- The walk of tiles' Client.Read where something is asked. Conditions: as of Read. -/
import Derived.Test.YtefccfakhgdfbabGreatDoorSv18
set_option linter.unusedVariables false
set_option linter.unusedSimpArgs false
open Go.RowKit Go.Proofs.Tryz
set_option maxRecDepth 100000
set_option maxHeartbeats 4000000
namespace Go.Proofs.YtefccfakhgdfbabGreatDoor
section
theorem two_one (a b:Int):∀ u∈(#[.int .i64 a,.int .i64 b]:Array Value).toList,u.oneCell'=true:=by
 intro u hu
 simp at hu
 rcases hu with rfl|rfl <;> rfl
theorem rsCells_snoc (rs:List (Nat×Nat)) (x:Nat×Nat):rsCells (rs ++ [x])=rsCells rs ++ [.int .i64 x.1,.int .i64 x.2]:=by simp[rsCells]
theorem OwnRs.snoc {w:World} {base:Nat} {v:Value} {rs:List (Nat×Nat)} {x:Nat×Nat} {a b:Int} (h:w.ownsRow base 252 2 v (rs.length+1) (rsCells rs++(#[.int .i64 a,.int .i64 b]:Array Value).toList)) (ha:a=x.1) (hb:b=x.2):OwnRs w base v (rs ++ [x]):=by
 subst ha hb
 unfold OwnRs
 rw[rsCells_snoc,List.length_append]
 exact h
end
section
section
variable [Inhabited OutT]
theorem gath_val {F:Nat→Addr} {w w':World} {q:Qf} {x:Qv} {N:Nat} {d:Dk} {r:Except QErr (List Hsh)×Cs} {e:Ending} (h:GathPost F w q x N d r e w'):∃ v u,e=.returned (.tuple #[v,u]):=by
 obtain⟨_,⟨_,v,_,h,_⟩|⟨_,u,_,h,_⟩⟩:=h
 ·exact⟨_,_,h⟩
 ·exact⟨_,_,h⟩
theorem gath_low {F:Nat→Addr} {w W w':World} {q:Qf} {x:Qv} {N:Nat} {d:Dk} {r:Except QErr (List Hsh)×Cs} {e:Ending} (hb:Below w.heap.size w W) (h:GathPost F W q x N d r e w'):GathPost F w q x N d r e w':=by
 obtain⟨h1,h2⟩:=h
 refine⟨QStep.trans (Fr.ofBelow hb) (Sub.refl _ _) h1,?_⟩
 rcases h2 with ⟨l,v,h3,h4,h5⟩|⟨p,u,h3,h4,h5⟩
 ·exact .inl ⟨l,v,h3,h4,ownsRow_mono h5 hb.size⟩
 ·exact .inr ⟨p,u,h3,h4,h5.low hb.size⟩
theorem qpath_any (F:Nat→Addr) (w:World) (q:Qf) (x0:Qv) (N:Nat) (s:Cs) (d:Dk) (h:QIs w q x0 N s d) (hE:EnvS F (QS q x0) w) (g1 g3:Nat) (hc:ClAt w q x0 g1 g3) (i n:Nat) (hin:i<n) (hnN:n≤N) (hN:N<9223372036854775808) (hb:Bnd s (gatherT N (pathR n 0 n i).reverse).length) (hp:(gatherQ N (pathR n 0 n i).reverse s).1≠.error .panic) :
  Calls prog 95 #[.func (.func 142) #[] #[.pointer (some ⟨g1,0,none⟩),.pointer (some ⟨g3,0,none⟩)],.int .i64 i,.int .i64 n] w (GathPost F w q x0 N d (gatherQ N (pathR n 0 n i).reverse s)):=by
 have HGA:=zh (fun (W:World) (hW:Below w.heap.size w W) (v:Value) (rs:List (Nat×Nat)) (hr:W.ownsRow 0 252 2 v rs.length (rsCells rs)) (hrs:∀ x∈rs,x.1<x.2∧x.2≤N) (hn:rs.length≤1048576) (he:rs=pathR n 0 n i)=>
  qgather_any F W q x0 N s d (h.below hW) (hE.below hW) g1 g3 (hc.below hW) hN v rs hr hrs hn (by rw[he];exact hb) (by rw[he];exact hp))
 obtain⟨i0,hi,hz0,hz1,hz2⟩:=info_parts info_two
 clear h hE hc hb hp
 go_enter func95,ntmps95
 go_wp2
 go_loopw [8,9,10] (fun v a b wr=>∃ (x y f mm:Nat) (done:List (Nat×Nat)),a=.int .i64 x∧b=.int .i64 y∧x≤i∧i<y∧y≤n∧y-x≤f∧Hid (done++pathR f x y i=pathR n 0 n i)∧Hid (y-x≤2 ^ mm∧done.length+mm≤63)∧OwnRs wr w.heap.size v done∧Below w.heap.size w wr) (fun _ a b _=>(intOf b-intOf a).toNat)
 case atStart=>exact⟨0,n,n,63,[],rfl,rfl,by omega,hin,Nat.le_refl _,by omega,zh rfl,zh ⟨by omega,by simp⟩,World.ownsRow_nil _ _ _ _,Below.refl _ _⟩
 case round=>
  obtain⟨x,y,f,mm,done,rfl,rfl,hx,hy,hyn,hf,HD,HLEN,hown,hbel⟩:=hrel
  have hlen:done.length≤63:=by have:=HLEN.o.2;omega
  by_cases hlt:1<y-x
  ·obtain⟨f,rfl⟩:∃ g,f=g+1:=⟨f-1,by omega⟩
   have hbd:=below_lt (n:=y-x) (by omega)
   obtain⟨m2,hm2,hh1,hh2⟩:=below_half (n:=y-x) (m:=mm) (by omega) HLEN.o.1 (by have:=HLEN.o.2;omega)
   have HM2:=zh (And.intro hm2 (And.intro hh1 hh2))
   clear hm2 hh1 hh2
   have hp:pathR (f+1) x y i=if i<x+below (y-x) then (x+below (y-x),y) :: pathR f x (x+below (y-x)) i else (x,x+below (y-x)) :: pathR f (x+below (y-x)) y i:=by
    simp only[pathR];rw[if_neg (by omega)]
   obtain⟨k,hk⟩:∃ k,k=below (y-x):=⟨_,rfl⟩
   rw[←hk] at hbd hp HM2
   have HK:=zh (show ((below ((y:Int)-x).toNat:Nat):Int)=k by rw[show ((y:Int)-x).toNat=y-x by omega,hk])
   have HP:=zh hp
   unfold OwnRs at hown
   have HO:=zh hown
   have HB:=zh hbel
   have hxy:(x:Int)+2≤y:=by omega
   have hyi:(y:Int)≤9223372036854775807:=by omega
   have hbase:=hbel.size
   have hdl:done.length≤1048576:=by omega
   have hlt':(1:Int)<y-x:=by omega
   have HL:=zh (And.intro hlen (And.intro hf (And.intro hbd hlt)))
   have hk1:(1:Int)≤k:=by omega
   have hk2:(x:Int)+k≤y:=by omega
   clear hk hp hown hbel hlen hf hbd hlt
   by_cases hik:i<x+k
   ·have hik':(i:Int)<x+k:=by omega
    go_wp2_with fail
    refine (split_any _ _ (by omega) (by omega)).mono ?_
    rintro e w0 ⟨rfl,rfl⟩
    rw[HK.o]
    go_wp2_with (at_builtin;refine wpList_appC rfl _ _ 251 rfl w.heap.size 252 i0 (.agg #[.int .i64 0,.int .i64 0]) 2 16 underlying251 hi hz0 hz1 hz2 rfl (by decide) (by decide) _ _ _ rfl HO.o #[.int .i64 _,.int .i64 _] rfl (two_one _ _) rfl (Nat.le_trans hdl (by decide)) hbase ?_;intro v2 w2 hr2 hg2 hne2;have HR2:=zh hr2;have HG2:=zh hg2;clear hr2 hg2 hne2)
    go_roundw
    case rel=>
     obtain⟨hlen,hf,hbd,hlt⟩:=HL.o
     exact⟨x,x+k,f,m2,done ++ [(x+k,y)],rfl,by go_num,hx,hik,by omega,by omega,zh (by rw[←HD.o,HP.o,if_pos hik,List.append_assoc];rfl),zh ⟨by have:=HM2.o;omega,by have:=HLEN.o.2;have:=HM2.o.1;simp;omega⟩,OwnRs.snoc HR2.o (by simp) (by simp),HB.o.grown HG2.o HB.o.size (fun j hj=>(HO.o.lt j hj).1)⟩
    case measure=>(obtain⟨hlen,hf,hbd,hlt⟩:=HL.o;simp[intOf] <;> omega)
   ·have hik':(x:Int)+k≤i:=by omega
    go_wp2_with fail
    refine (split_any _ _ (by omega) (by omega)).mono ?_
    rintro e w0 ⟨rfl,rfl⟩
    rw[HK.o]
    go_wp2_with (at_builtin;refine wpList_appC rfl _ _ 251 rfl w.heap.size 252 i0 (.agg #[.int .i64 0,.int .i64 0]) 2 16 underlying251 hi hz0 hz1 hz2 rfl (by decide) (by decide) _ _ _ rfl HO.o #[.int .i64 _,.int .i64 _] rfl (two_one _ _) rfl (Nat.le_trans hdl (by decide)) hbase ?_;intro v2 w2 hr2 hg2 hne2;have HR2:=zh hr2;have HG2:=zh hg2;clear hr2 hg2 hne2)
    go_roundw
    case rel=>
     obtain⟨hlen,hf,hbd,hlt⟩:=HL.o
     exact⟨x+k,y,f,m2,done ++ [(x,x+k)],by go_num,rfl,by omega,hy,hyn,by omega,zh (by rw[←HD.o,HP.o,if_neg hik,List.append_assoc];rfl),zh ⟨by have:=HM2.o;omega,by have:=HLEN.o.2;have:=HM2.o.1;simp;omega⟩,OwnRs.snoc HR2.o (by simp) (by simp),HB.o.grown HG2.o HB.o.size (fun j hj=>(HO.o.lt j hj).1)⟩
    case measure=>(simp[intOf] <;> omega)
  ·have hdn:done=pathR n 0 n i:=by
    rw[←HD.o]
    cases f with
    | zero=>omega
    | succ f=>simp only[pathR];rw[if_pos (by omega),List.append_nil]
   have hmem:∀ z∈done,z.1<z.2∧z.2≤N:=by
    intro z hz
    rw[hdn] at hz
    have:=pathR_mem n 0 n i (by omega) (by omega) hin z hz
    omega
   have HM:=zh hmem
   have HDN:=zh hdn
   unfold OwnRs at hown
   have HO:=zh hown
   have HB:=zh hbel
   have hnx:¬ ((1:Int)<y-x):=by omega
   clear hdn hmem hown hbel HD
   go_wp2_with fail
   refine (HGA.o _ HB.o _ done (ownsRow_mono HO.o (Nat.zero_le _)) HM.o (by omega) HDN.o).mono ?_
   intro e w2 h2
   obtain⟨v2,u2,rfl⟩:=gath_val h2
   have HX:=zh (gath_low HB.o h2)
   rw[HDN.o] at HX
   clear h2
   go_wp2
   go_ret2
   exact HX.o
theorem qproof_any (F:Nat→Addr) (w:World) (q:Qf) (x0:Qv) (N:Nat) (s:Cs) (d:Dk) (h:QIs w q x0 N s d) (hE:EnvS F (QS q x0) w) (g1 g3:Nat) (hc:ClAt w q x0 g1 g3) (m n:Nat) (hm1:1≤m) (hin:m≤n) (hnN:n≤N) (hN:N<9223372036854775808) (hb:Bnd s (gatherT N (partR n 0 n m).reverse).length) (hp:(gatherQ N (partR n 0 n m).reverse s).1≠.error .panic) :
  Calls prog 87 #[.func (.func 142) #[] #[.pointer (some ⟨g1,0,none⟩),.pointer (some ⟨g3,0,none⟩)],.int .i64 m,.int .i64 n] w (GathPost F w q x0 N d (gatherQ N (partR n 0 n m).reverse s)):=by
 have HGA:=zh (fun (W:World) (hW:Below w.heap.size w W) (v:Value) (rs:List (Nat×Nat)) (hr:W.ownsRow 0 252 2 v rs.length (rsCells rs)) (hrs:∀ x∈rs,x.1<x.2∧x.2≤N) (hn:rs.length≤1048576) (he:rs=partR n 0 n m)=>
  qgather_any F W q x0 N s d (h.below hW) (hE.below hW) g1 g3 (hc.below hW) hN v rs hr hrs hn (by rw[he];exact hb) (by rw[he];exact hp))
 obtain⟨i0,hi,hz0,hz1,hz2⟩:=info_parts info_two
 clear h hE hc hb hp
 go_enter func87,ntmps87
 go_wp2
 go_loopw [8,9,10] (fun v a b wr=>∃ (x y f mm:Nat) (done:List (Nat×Nat)),a=.int .i64 x∧b=.int .i64 y∧x<m∧m≤y∧y≤n∧y-x≤f∧Hid (done++partR f x y m=partR n 0 n m)∧Hid (y-x≤2 ^ mm∧done.length+mm≤63)∧OwnRs wr w.heap.size v done∧Below w.heap.size w wr) (fun _ a b _=>(intOf b-intOf a).toNat)
 case atStart=>exact⟨0,n,n,63,[],rfl,rfl,by omega,hin,Nat.le_refl _,by omega,zh rfl,zh ⟨by omega,by simp⟩,World.ownsRow_nil _ _ _ _,Below.refl _ _⟩
 case round=>
  obtain⟨x,y,f,mm,done,rfl,rfl,hx,hy,hyn,hf,HD,HLEN,hown,hbel⟩:=hrel
  have hlen:done.length≤63:=by have:=HLEN.o.2;omega
  by_cases hlt:m<y
  ·obtain⟨f,rfl⟩:∃ g,f=g+1:=⟨f-1,by omega⟩
   have hbd:=below_lt (n:=y-x) (by omega)
   obtain⟨m2,hm2,hh1,hh2⟩:=below_half (n:=y-x) (m:=mm) (by omega) HLEN.o.1 (by have:=HLEN.o.2;omega)
   have HM2:=zh (And.intro hm2 (And.intro hh1 hh2))
   clear hm2 hh1 hh2
   have hp:partR (f+1) x y m=if m≤x+below (y-x) then (x+below (y-x),y) :: partR f x (x+below (y-x)) m else (x,x+below (y-x)) :: partR f (x+below (y-x)) y m:=by
    simp only[partR];rw[if_neg (by omega)]
   obtain⟨k,hk⟩:∃ k,k=below (y-x):=⟨_,rfl⟩
   rw[←hk] at hbd hp HM2
   have HK:=zh (show ((below ((y:Int)-x).toNat:Nat):Int)=k by rw[show ((y:Int)-x).toNat=y-x by omega,hk])
   have HP:=zh hp
   unfold OwnRs at hown
   have HO:=zh hown
   have HB:=zh hbel
   have hxy:(x:Int)+2≤y:=by omega
   have hyi:(y:Int)≤9223372036854775807:=by omega
   have hbase:=hbel.size
   have hdl:done.length≤1048576:=by omega
   have hlt':(m:Int)<y:=by omega
   have HL:=zh (And.intro hlen (And.intro hf (And.intro hbd hlt)))
   have hk1:(1:Int)≤k:=by omega
   have hk2:(x:Int)+k≤y:=by omega
   clear hk hp hown hbel hlen hf hbd hlt
   by_cases hik:m≤x+k
   ·have hik':(m:Int)≤x+k:=by omega
    go_wp2_with fail
    refine (split_any _ _ (by omega) (by omega)).mono ?_
    rintro e w0 ⟨rfl,rfl⟩
    rw[HK.o]
    go_wp2_with (at_builtin;refine wpList_appC rfl _ _ 251 rfl w.heap.size 252 i0 (.agg #[.int .i64 0,.int .i64 0]) 2 16 underlying251 hi hz0 hz1 hz2 rfl (by decide) (by decide) _ _ _ rfl HO.o #[.int .i64 _,.int .i64 _] rfl (two_one _ _) rfl (Nat.le_trans hdl (by decide)) hbase ?_;intro v2 w2 hr2 hg2 hne2;have HR2:=zh hr2;have HG2:=zh hg2;clear hr2 hg2 hne2)
    go_roundw
    case rel=>
     obtain⟨hlen,hf,hbd,hlt⟩:=HL.o
     exact⟨x,x+k,f,m2,done ++ [(x+k,y)],rfl,by go_num,hx,hik,by omega,by omega,zh (by rw[←HD.o,HP.o,if_pos hik,List.append_assoc];rfl),zh ⟨by have:=HM2.o;omega,by have:=HLEN.o.2;have:=HM2.o.1;simp;omega⟩,OwnRs.snoc HR2.o (by simp) (by simp),HB.o.grown HG2.o HB.o.size (fun j hj=>(HO.o.lt j hj).1)⟩
    case measure=>(obtain⟨hlen,hf,hbd,hlt⟩:=HL.o;simp[intOf] <;> omega)
   ·have hik':¬ (m:Int)≤x+k:=by omega
    go_wp2_with fail
    refine (split_any _ _ (by omega) (by omega)).mono ?_
    rintro e w0 ⟨rfl,rfl⟩
    rw[HK.o]
    go_wp2_with (at_builtin;refine wpList_appC rfl _ _ 251 rfl w.heap.size 252 i0 (.agg #[.int .i64 0,.int .i64 0]) 2 16 underlying251 hi hz0 hz1 hz2 rfl (by decide) (by decide) _ _ _ rfl HO.o #[.int .i64 _,.int .i64 _] rfl (two_one _ _) rfl (Nat.le_trans hdl (by decide)) hbase ?_;intro v2 w2 hr2 hg2 hne2;have HR2:=zh hr2;have HG2:=zh hg2;clear hr2 hg2 hne2)
    go_roundw
    case rel=>
     obtain⟨hlen,hf,hbd,hlt⟩:=HL.o
     exact⟨x+k,y,f,m2,done ++ [(x,x+k)],by go_num,rfl,by omega,hy,hyn,by omega,zh (by rw[←HD.o,HP.o,if_neg hik,List.append_assoc];rfl),zh ⟨by have:=HM2.o;omega,by have:=HLEN.o.2;have:=HM2.o.1;simp;omega⟩,OwnRs.snoc HR2.o (by simp) (by simp),HB.o.grown HG2.o HB.o.size (fun j hj=>(HO.o.lt j hj).1)⟩
    case measure=>(simp[intOf] <;> omega)
  ·obtain⟨f,rfl⟩:∃ g,f=g+1:=⟨f-1,by omega⟩
   obtain⟨fin,hfin⟩:∃ fin,fin=partR n 0 n m:=⟨_,rfl⟩
   have hdn:done++(if 0<x then [(x,y)] else [])=fin:=by
    have hle:y≤m:=by omega
    rw[hfin,←HD.o]
    simp only[partR,if_pos hle]
   have hmem:∀ z∈fin,z.1<z.2∧z.2≤N:=by
    intro z hz
    rw[hfin] at hz
    have:=partR_mem n 0 n m (by omega) (by omega) hin z hz
    omega
   have HM:=zh hmem
   have HFIN:=zh hfin
   unfold OwnRs at hown
   have HO:=zh hown
   have HB:=zh hbel
   have hbase:=hbel.size
   have hdl:done.length≤1048576:=by omega
   have hnx:¬ ((m:Int)<y):=by omega
   have hyi:(y:Int)≤9223372036854775807:=by omega
   by_cases hx0:0<x
   ·rw[if_pos hx0] at hdn
    have hx0':(0:Int)<x:=by omega
    have HDN:=zh hdn
    have hfl:fin.length≤1048576:=by rw[←hdn];simp;omega
    clear hdn hmem hown hbel HD hfin hlen hf hlt hx hy
    go_wp2_with (at_builtin;refine wpList_appC rfl _ _ 251 rfl w.heap.size 252 i0 (.agg #[.int .i64 0,.int .i64 0]) 2 16 underlying251 hi hz0 hz1 hz2 rfl (by decide) (by decide) _ _ _ rfl HO.o #[.int .i64 _,.int .i64 _] rfl (two_one _ _) rfl (Nat.le_trans hdl (by decide)) hbase ?_;intro v2 w2 hr2 hg2 hne2;have HR2:=zh (OwnRs.snoc (x:=(x,y)) hr2 rfl rfl);have HB1:=zh (HB.o.grown hg2 HB.o.size (fun j hj=>(HO.o.lt j hj).1));clear hr2 hg2 hne2)
    have ho:=HR2.o
    rw[HDN.o] at ho
    refine (HGA.o _ HB1.o _ fin (ownsRow_mono ho (Nat.zero_le _)) HM.o hfl HFIN.o).mono ?_
    intro e w3 h3
    obtain⟨v3,u3,rfl⟩:=gath_val h3
    have HX:=zh (gath_low HB1.o h3)
    rw[HFIN.o] at HX
    clear h3
    go_wp2
    go_ret2
    exact HX.o
   ·rw[if_neg hx0,List.append_nil] at hdn
    obtain rfl:x=0:=by omega
    have HDN:=zh hdn
    have hfl:fin.length≤1048576:=by rw[←hdn];omega
    clear hdn hmem hown hbel HD hfin hlen hf hlt hx hy hx0
    go_wp2_with fail
    refine (HGA.o _ HB.o _ fin (by rw[←HDN.o];exact ownsRow_mono HO.o (Nat.zero_le _)) HM.o hfl HFIN.o).mono ?_
    intro e w2 h2
    obtain⟨v2,u2,rfl⟩:=gath_val h2
    have HX:=zh (gath_low HB.o h2)
    rw[HFIN.o] at HX
    clear h2
    go_wp2
    go_ret2
    exact HX.o
end
end
section
section
variable [Inhabited OutT]
theorem look_any (w:World) (gc:Nat) (n:Int) :
  Calls prog 86 #[.pointer (some ⟨gc,0,none⟩),.int .i64 n] w fun e w'=>∃ gq mq,e=.returned (.pointer (some ⟨gq,0,none⟩))∧w'.heap[gq]?=some (.cells #[.pointer (some ⟨gc,0,none⟩),.int .i64 n,.map (some mq),.slice none 0 0] 250 (0,0))∧w'.heap[mq]?=some (.map #[] 0)∧Below w.heap.size w w'∧w.heap.size≤gq∧w.heap.size≤mq:=by
 have hmm:=@run_makeMap prog
 go_enter func86,ntmps86
 go_wp2
 refine bodyPost_ret (results_tmp rfl _ _ _) rfl ⟨w.heap.size+1,w.heap.size,rfl,?_,(heap_alloc_old _ _ (by rw[alloc_len];exact Nat.lt_succ_self _)).trans (heap_alloc_new _ _),(below_alloc w _).alloc (by rw[alloc_len];exact Nat.le_succ _) _,Nat.le_succ _,Nat.le_refl _⟩
 rw[←alloc_len w (.map #[] 0)]
 exact heap_alloc_new _ _
def cnS (gc gk mc gn:Nat) (vt:Value) (qs:List CEnt) (k:Nat):Prop:=clS gc gk mc qs k∨netS gn vt k
theorem ask_is {w w':World} {mu:Int} {gc gk mc gn gd gq mq:Nat} {vl vt v:Value} {c:Cl} {qs:List CEnt} {n:Nt} {d:Dk} {N:Nat} (h:ClM mu w gc gk mc (.iface 44 (.pointer (some ⟨gn,0,none⟩))) c qs) (hn:NetIs w gn gd vl vt n) (hd:DiskAt w gd v d) (hdf:d.files=n.files) (ho:∀ z,Out.blk=some z→z<w.heap.size)
  (hb:Below w.heap.size w w') (hq:w'.heap[gq]?=some (.cells #[.pointer (some ⟨gc,0,none⟩),.int .i64 N,.map (some mq),.slice none 0 0] 250 (0,0))) (hm:w'.heap[mq]?=some (.map #[] 0)) (h1:w.heap.size≤mq) :
  QIs w' ⟨gq,gc,gk,mc,gn,gd,mq,vl,vt,v,cliC mu (.iface 44 (.pointer (some ⟨gn,0,none⟩))) c.key c.size c.root gk⟩ ⟨.slice none 0 0,qs,[]⟩ N (askQ n c.cache) d where
 look:=hq
 km:=KmAt.made_at w' 9 hm
 ord:=World.ownsRow_nil _ _ _ _
 vals y hy:=by cases hy
 keys:=List.nodup_nil
 small y hy:=by cases hy
 files:=rfl
 cli:=(h.below hb).cells
 c2:=rfl
 c13:=rfl
 cache:=(h.below hb).cache
 net:=hn.below hb
 disk:=hd.below hb
 dfiles:=hdf
 maps e:=by
  have:=h.cache.km.lt
  dsimp only at e
  omega
 o z hz:=Nat.lt_of_lt_of_le (ho z hz) hb.size
theorem ask_sub {w:World} {gc gk mc gn gd gq mq:Nat} {vl vt v:Value} {qs:List CEnt} {C:Array Value} (hq:w.heap.size≤gq) (hm:w.heap.size≤mq) {i:Nat} (hi:i<w.heap.size) (h:QS ⟨gq,gc,gk,mc,gn,gd,mq,vl,vt,v,C⟩ ⟨.slice none 0 0,qs,[]⟩ i):cnS gc gk mc gn vt qs i:=by
 have:=(inferInstance:Inhabited OutT)
 rcases h with (e|e|e)|e|e
 ·exact absurd hi (by rw[show i=gq from e];omega)
 ·exact absurd hi (by rw[show i=mq from e];omega)
 ·cases e
 ·exact .inl (.inr e)
 ·exact .inr e
theorem ask_end {w w1 w':World} {mu:Int} {gc gk mc gn gd gq mq N:Nat} {vl vt v vf:Value} {c:Cl} {qs qs':List CEnt} {vs:List FEnt} {vo:Value} {s:Cs} {d:Dk} (hq:w.heap.size≤gq) (hm:w.heap.size≤mq) (hb:Below w.heap.size w w1)
  (h:QIs w' ⟨gq,gc,gk,mc,gn,gd,mq,vl,vt,v,cliC mu vf c.key c.size c.root gk⟩ ⟨vo,qs',vs⟩ N s d) (hf:Fr (QS ⟨gq,gc,gk,mc,gn,gd,mq,vl,vt,v,cliC mu vf c.key c.size c.root gk⟩ ⟨.slice none 0 0,qs,[]⟩) w1 w') (hs:Sub w1 (QS ⟨gq,gc,gk,mc,gn,gd,mq,vl,vt,v,cliC mu vf c.key c.size c.root gk⟩ ⟨.slice none 0 0,qs,[]⟩) (QS ⟨gq,gc,gk,mc,gn,gd,mq,vl,vt,v,cliC mu vf c.key c.size c.root gk⟩ ⟨vo,qs',vs⟩)) :
  ClM mu w' gc gk mc vf { c with cache:=s.cache } qs'∧NetIs w' gn gd vl vt s.net∧Fr (cnS gc gk mc gn vt qs) w w'∧Sub w (cnS gc gk mc gn vt qs) (cnS gc gk mc gn vt qs'):=by
 refine⟨⟨h.cli,h.cache⟩,h.net,(Fr.ofBelow hb).step hf fun i hi e=>ask_sub hq hm hi e,fun k hk=>?_⟩
 rcases hk with (e|e)|e
 ·exact .inl (.inl (.inl e))
 ·rcases hs k (.inr (.inl e)) with e2|e2
  ·rcases Nat.lt_or_ge k w.heap.size with hlt|hge
   ·exact .inl (ask_sub hq hm hlt e2)
   ·exact .inr hge
  ·exact .inr (Nat.le_trans hb.size e2)
 ·exact .inl (.inr e)
end
end
section
open Go.RowKit Go.MuLone
def ErrIs (F:Nat→Addr) (w:World) (base:Nat) (t:Tld) (u:Value):Prop:=
 (t=tFine∧u=.nilIface)∨(∃ i,i<7∧i≠5∧t=(ofCode i,⟨#[]⟩)∧u=.iface 338 (.pointer (some (F i))))∨∃ p,t=(6,p)∧MissErr F w base p u
theorem of_err {F:Nat→Addr} {w:World} {base:Nat} {t:Tld} {u:Value} (hs:Sents w F) (h:ErrIs F w base t u):Calls prog 37 #[u] w fun e w'=>e=.returned (toldV t.1 t.2)∧Below w.heap.size w w':=by
 rcases h with ⟨rfl,rfl⟩|⟨i,hi,h5,rfl,rfl⟩|⟨p,rfl,q,rfl,_,hq⟩
 ·exact of_nil F w hs
 ·exact of_sent F w hs i hi h5
 ·exact of_tile F w hs q p hq
theorem ErrIs.fr {F:Nat→Addr} {S:Nat→Prop} {w w':World} {base:Nat} {t:Tld} {u:Value} (h:ErrIs F w base t u) (hf:Fr S w w') (hn:∀ k C fz,w.heap[k]?=some (.cells C 155 fz)→¬ S k):ErrIs F w' base t u:=by
 rcases h with h|h|⟨p,h1,q,h2,h3,h4⟩
 ·exact .inl h
 ·exact .inr (.inl h)
 ·exact .inr (.inr ⟨p,h1,q,h2,h3,hf.heap h4 (hn _ _ _ h4)⟩)
theorem clip_any (w:World) (base:Nat) (v:Value) (l:List UInt8) (h:OwnBytes w base v l) :
  Calls prog 97 #[v] w fun e w'=>∃ v',e=.returned v'∧OwnBytes w base v' l∧v'.ownBlock=v.ownBlock∧w'=w:=by
 rcases h with ⟨rfl,rfl⟩|⟨b,off,c,C,fz,rfl,h1,h2,h3,h4,h5,h6⟩
 ·go_enter func97,ntmps97
  go_wp2
  refine bodyPost_ret (results_tmp rfl _ _ _) rfl ⟨.slice none 0 0,rfl,.inl ⟨rfl,rfl⟩,rfl,rfl⟩
 ·obtain⟨n,hn⟩:∃ n,n=l.length:=⟨_,rfl⟩
  rw[←hn] at h1 h5 ⊢
  have e1:(n:Int)≤c:=by omega
  have HN:=zh hn
  clear hn
  go_enter func97,ntmps97
  go_wp2
  refine bodyPost_ret (results_tmp rfl _ _ _) rfl ⟨.slice (some ⟨b,off,none⟩) n n,rfl,.inr ⟨b,off,n,C,fz,by rw[HN.o],by rw[HN.o];exact Nat.le_refl _,h2,h3,h4,by rw[←HN.o];exact h5,h6⟩,rfl,rfl⟩
section
theorem OwnB.o {o1 o2:OutT} {w w':World} {v:Value} {l:List UInt8} (h : @OwnB ⟨o1⟩ w 0 v l) (hb:Below w.heap.size w w') (ho:∀ z,o2.blk=some z→w.heap.size≤z) : @OwnB ⟨o2⟩ w' 0 v l:=by
 refine⟨h.1.below hb,fun z hz e=>?_⟩
 have hge:=ho z hz
 rcases h.1 with ⟨rfl,_⟩|⟨b,off,c,C,fz,rfl,_,h2,h3,_⟩
 ·cases e
 ·simp[Value.ownBlock] at e
  have:=lt_of_heap h3
  omega
theorem CacheIs.o {o1 o2:OutT} {w w':World} {g m:Nat} {c:Cch} {qs:List CEnt} (h : @CacheIs ⟨o1⟩ w g m c qs) (hb:Below w.heap.size w w') (ho:∀ z,o2.blk=some z→w.heap.size≤z) : @CacheIs ⟨o2⟩ w' g m c qs:=by
 obtain⟨r1,r2,r3,r4,r5,r6,r7,r8⟩:=@CacheIs.fr ⟨o1⟩ w w' g m c qs h (fun _=>False) (Fr.ofBelow hb) (fun _ _=>id) (fun _ _ _ _=>id)
 obtain⟨_,_,v3,_⟩:=h
 exact @CacheIs.mk ⟨o2⟩ _ _ _ _ _ r1 r2 (fun q hq=>OwnB.o (v3 q hq) hb ho) r4 r5 r6 r7 r8
theorem QIs.outB {o1 o2:OutT} {w w':World} {q:Qf} {x:Qv} {N:Nat} {s:Cs} {d:Dk} (h : @QIs ⟨o1⟩ w q x N s d) (hb:Below w.heap.size w w') (ho:∀ z,o2.blk=some z→w.heap.size≤z∧z<w'.heap.size) : @QIs ⟨o2⟩ w' q x N s d:=by
 obtain⟨b1,b2,b3,b4,b5,b6,b7,b8,b9,b10,b11,b12,b13,b14,b15,b16⟩:=@QIs.below ⟨o1⟩ w w' q x N s d h hb
 obtain⟨_,_,_,a4,_,_,_,_,_,_,a11,_⟩:=h
 exact @QIs.mk ⟨o2⟩ _ _ _ _ _ _ b1 b2 b3 (fun y hy=>OwnB.o (a4 y hy) hb fun z hz=>(ho z hz).1) b5 b6 b7 b8 b9 b10 (CacheIs.o a11 hb fun z hz=>(ho z hz).1) b12 b13 b14 b15 fun z hz=>(ho z hz).2
theorem ClM.back {o1:OutT} {mu:Int} {w w':World} {gc gk mc:Nat} {vf:Value} {c:Cl} {qs:List CEnt} (h : @ClM ⟨o1⟩ mu w gc gk mc vf c qs) (hf:Fr (fun k=>o1.blk=some k) w w') (hn:∀ z,o1.blk=some z→∃ C fz,w.heap[z]?=some (.cells C 5 fz)):ClM mu w' gc gk mc vf c qs:=by
 obtain⟨hcells,hcache⟩:=h
 have hkc:=@kinds_cache ⟨o1⟩ _ _ _ _ _ hcache
 have hk:∀ k,clS gc gk mc qs k→¬ o1.blk=some k:=fun k hk e=>by
  obtain⟨C,fz,hC⟩:=hn k e
  rcases hk with rfl|hk
  ·rw[hcells] at hC;cases hC
  ·exact kinds_not hkc hC (by decide) hk
 obtain⟨r1,r2,r3,r4,r5,r6,r7,r8⟩:=hcache
 refine⟨hf.heap hcells (hk _ (.inl rfl)),?_⟩
 have hr:RingIs w' gk mc c.cache.most (qs.map CEnt.tri):=r1.fr hf (hk _ (.inr (.inl rfl))) fun b hb=>hk _ (.inr (.inr (.inr (by rw[tri_fst] at hb;exact hb))))
 refine⟨hr,r2,fun q hq=>⟨?_,fun z hz=>by cases hz⟩,r4.fr hf (hk _ (.inr (.inr (.inl rfl)))),r5,r6,r7,r8⟩
 have h1:=r3 q hq
 rcases h1.1 with ⟨e1,e2⟩|⟨b,off,cc,C,fz,e,a1,a2,a3,a4,a5,a6⟩
 ·exact .inl ⟨e1,e2⟩
 ·refine .inr ⟨b,off,cc,C,fz,e,a1,a2,hf.heap a3 fun hz=>?_,a4,a5,a6⟩
  exact h1.2 b hz (by rw[e];rfl)
end
end
section
open Go.RowKit Go.MuLone
def ReadPost (F:Nat→Addr) (w:World) (gc gk mc gn gd:Nat) (vl vt:Value) (qs:List CEnt) (r:Tld×(List UInt8×List Hsh)×Cl×Nt) (e:Ending) (w':World):Prop:=
 ∃ u v y,e=.returned (.tuple #[u,v,y])∧OwnBytes w' w.heap.size u r.2.1.1∧OwnHs w' w.heap.size v r.2.1.2∧ErrIs F w' w.heap.size r.1 y∧
  ∃ qs',@ClM ⟨⟨u.ownBlock⟩⟩ 0 w' gc gk mc (.iface 44 (.pointer (some ⟨gn,0,none⟩))) r.2.2.1 qs'∧NetIs w' gn gd vl vt r.2.2.2∧Fr (cnS gc gk mc gn vt qs) w w'∧Sub w (cnS gc gk mc gn vt qs) (cnS gc gk mc gn vt qs')∧(r.1=tFine∨u=.slice none 0 0)
theorem read_door {R:Ending→World→Prop} {T:Array Value} {W:World} {gc:Nat} {u v y:Value} (h0:W.cell? ⟨gc,0,none⟩=some (.int .i32 1)) (h1:W.frozen? ⟨gc,0,none⟩=false) (hT4:T.getD 4 undef=u) (hT5:T.getD 5 undef=v) (hT6:T.getD 6 undef=y)
  (hR:R (.returned (.tuple #[u,v,y])) (W.setCell ⟨gc,0,none⟩ (.int .i32 0))) :
  bodyPostD prog f45 R Exit.ret { tmps:=T,defers:=[{ target:=.fn (.func 84) #[],args:=#[.pointer (some ⟨gc,0,none⟩)] }] } W:=by
 refine leaves_cons (f:=84) (args:=#[.pointer (some ⟨gc,0,none⟩)]) (by simp) (by simp[go_sem]) ?_
 refine (unlock_deferred muLib ⟨gc,0,none⟩ .returning W h0 h1).mono ?_
 rintro e u' w'' ⟨rfl,rfl,rfl⟩
 simp only[Leaves,settle]
 refine⟨.tuple #[u,v,y],?_,hR⟩
 have a4:T[4]?.getD undef=u:=by simpa [Array.getD_eq_getD_getElem?] using hT4
 have a5:T[5]?.getD undef=v:=by simpa [Array.getD_eq_getD_getElem?] using hT5
 have a6:T[6]?.getD undef=y:=by simpa [Array.getD_eq_getD_getElem?] using hT6
 simp[results,results45,go_sem,a4,a5,a6]
theorem read_end {F:Nat→Addr} {w W:World} {gc gk mc gn gd:Nat} {vl vt u v y:Value} {qs qs':List CEnt} {t:Tld} {b:List UInt8} {l:List Hsh} {c':Cl} {n':Nt} (hc : @ClM ⟨⟨u.ownBlock⟩⟩ 1 W gc gk mc (.iface 44 (.pointer (some ⟨gn,0,none⟩))) c' qs') (hn:NetIs W gn gd vl vt n') (hf:Fr (cnS gc gk mc gn vt qs) w W) (hs:Sub w (cnS gc gk mc gn vt qs) (cnS gc gk mc gn vt qs'))
  (hg:gc<w.heap.size) (hu:OwnBytes W w.heap.size u b) (hv:OwnHs W w.heap.size v l) (he:ErrIs F W w.heap.size t y) (hz:t=tFine∨u=.slice none 0 0):ReadPost F w gc gk mc gn gd vl vt qs (t,(b,l),c',n') (.returned (.tuple #[u,v,y])) (W.setCell ⟨gc,0,none⟩ (.int .i32 0)):=by
 have hcells:=@ClM.cells ⟨⟨u.ownBlock⟩⟩ _ _ _ _ _ _ _ _ hc
 have hF:=Fr.set1 W gc 0 (.int .i32 0)
 have hk:=kinds_one hcells
 refine⟨u,v,y,rfl,hu.same fun k C fz hC=>hF.block k (lt_of_heap hC) (kinds_not hk hC (by decide)),row_kept hv hF hk (by decide),he.fr hF fun k C fz hC=>kinds_not hk hC (by decide),qs',@ClM.turn ⟨⟨u.ownBlock⟩⟩ _ _ _ _ _ _ _ _ hc 0,?_,hf.step hF fun i hi e=>.inl (.inl e),hs,hz⟩
 exact net_kept hn hF hk (by decide) (by decide) (by decide)
end
section
open Go.RowKit Go.MuLone
section
variable [Inhabited OutT]
theorem file_two {F:Nat→Addr} {w:World} {q:Qf} {x:Qv} {N:Nat} {d:Dk} {r:Except QErr (List UInt8)×Cs} {e:Ending} {w':World} (h:FilePost F w q x N d r e w'):∃ u y,e=.returned (.tuple #[u,y])∧QStep w q x N d w' r.2∧((∃ b a n c,r.1=.ok b∧y=.nilIface∧u=.slice a n c∧OwnBytes w' 0 (.slice a n c) b)∨∃ p,r.1=.error (.miss p)∧u=.slice none 0 0∧(∃ g,y=.iface 153 (.pointer (some ⟨g,0,none⟩)))∧MissErr F w' w.heap.size p y):=by
 obtain⟨h1,⟨b,a,n,c,h2,rfl,h3⟩|⟨p,u,h2,rfl,h3⟩⟩:=h
 ·exact⟨_,_,rfl,h1,.inl ⟨b,a,n,c,h2,rfl,rfl,h3⟩⟩
 ·exact⟨_,_,rfl,h1,.inr ⟨p,h2,rfl,⟨h3.choose,h3.choose_spec.1⟩,h3⟩⟩
theorem gath_two {F:Nat→Addr} {w:World} {q:Qf} {x:Qv} {N:Nat} {d:Dk} {r:Except QErr (List Hsh)×Cs} {e:Ending} {w':World} (h:GathPost F w q x N d r e w'):∃ v y,e=.returned (.tuple #[v,y])∧QStep w q x N d w' r.2∧((∃ l,r.1=.ok l∧y=.nilIface∧OwnHs w' w.heap.size v l)∨∃ p,r.1=.error (.miss p)∧v=.slice none 0 0∧(∃ g,y=.iface 153 (.pointer (some ⟨g,0,none⟩)))∧MissErr F w' w.heap.size p y):=by
 obtain⟨h1,⟨l,v,h2,rfl,h3⟩|⟨p,u,h2,rfl,h3⟩⟩:=h
 ·exact⟨_,_,rfl,h1,.inl ⟨l,h2,rfl,h3⟩⟩
 ·exact⟨_,_,rfl,h1,.inr ⟨p,h2,rfl,⟨h3.choose,h3.choose_spec.1⟩,h3⟩⟩
end
theorem ownB_block {w':World} {a:Option Addr} {n c base:Nat} {l:List UInt8} (h:OwnBytes w' base (.slice a n c) l):∀ z,(Value.slice a n c).ownBlock=some z→base≤z∧z<w'.heap.size:=fun z hz=>by
 rcases h with ⟨e,_⟩|⟨b,off,c,C,fz,e,_,h2,h3,_⟩
 ·rw[e] at hz;cases hz
 ·rw[e] at hz
  simp[Value.ownBlock] at hz
  subst hz
  exact⟨h2,lt_of_heap h3⟩
theorem unb_yes {data:List UInt8} {ls:List (List UInt8)} {w w':World} {e:Ending} (hl:unbundleOf data=some ls) (h:unbPost data w e w'):∃ v' b,e=.returned (.tuple #[v',.bool b])∧Below w.heap.size w w'∧OwnBss w' w.heap.size v' ls:=by
 obtain⟨v',h1,h2,⟨h3,_⟩|⟨ls',h3,h4⟩⟩:=h
 ·rw[hl] at h3;cases h3
 ·rw[hl] at h3;cases h3
  exact⟨v',_,h1,h2,h4⟩
abbrev cQ (gq gc gk mc gn gd mq:Nat) (vl vt v:Value) (c:Cl):Qf:=⟨gq,gc,gk,mc,gn,gd,mq,vl,vt,v,cliC 1 (.iface 44 (.pointer (some ⟨gn,0,none⟩))) c.key c.size c.root gk⟩
theorem read_fin {F:Nat→Addr} {w w1 w2 W:World} {gc gk mc gn gd gq mq N:Nat} {vl vt v u v5 y:Value} {qs:List CEnt} {x:Qv} {t:Tld} {b:List UInt8} {l:List Hsh} {c:Cl} {s:Cs} {d:Dk} (hF1:Fr (·=gc) w w1) (hz:w1.heap.size=w.heap.size) (hb2:Below w1.heap.size w1 w2) (hgq:w1.heap.size≤gq) (hmq:w1.heap.size≤mq) (hg:gc<w.heap.size)
  (h : @QIs ⟨⟨u.ownBlock⟩⟩ W (cQ gq gc gk mc gn gd mq vl vt v c) x N s d) (hf:Fr (QS (cQ gq gc gk mc gn gd mq vl vt v c) ⟨.slice none 0 0,qs,[]⟩) w2 W) (hs:Sub w2 (QS (cQ gq gc gk mc gn gd mq vl vt v c) ⟨.slice none 0 0,qs,[]⟩) (QS (cQ gq gc gk mc gn gd mq vl vt v c) x))
  (hu:OwnBytes W w.heap.size u b) (hv:OwnHs W w.heap.size v5 l) (he:ErrIs F W w.heap.size t y) (hz:t=tFine∨u=.slice none 0 0):ReadPost F w gc gk mc gn gd vl vt qs (t,(b,l),{ c with cache:=s.cache },s.net) (.returned (.tuple #[u,v5,y])) (W.setCell ⟨gc,0,none⟩ (.int .i32 0)):=by
 obtain⟨vo,qs',vs⟩:=x
 obtain⟨e1,e2,e3,e4⟩:=@ask_end ⟨⟨u.ownBlock⟩⟩ w1 w2 W 1 gc gk mc gn gd gq mq N vl vt v _ c qs qs' vs vo s d hgq hmq hb2 h hf hs
 exact read_end e1 e2 ((hF1.weak fun _ _ e=>.inl (.inl e)).trans e3) (fun k hk=>(e4 k hk).imp id fun e=>by omega) hg hu hv he hz
theorem read_ask (F:Nat→Addr) (w:World) (gc gk mc gn gd:Nat) (vl vt v:Value) (c:Cl) (qs:List CEnt) (n:Nt) (d:Dk) (h:ClIs w gc gk mc (.iface 44 (.pointer (some ⟨gn,0,none⟩))) c qs) (hn:NetIs w gn gd vl vt n) (hd:DiskAt w gd v d) (hdf:d.files=n.files) (hE:EnvS F (cnS gc gk mc gn vt qs) w) (i:Nat) (hi:i<c.size) (hsz:c.size<9223372036854775808)
  (hb:Bnd (askQ n c.cache) (readT c.size i).length) (hbl:∀ b s1,fileQ fitsBun (-1) (i / 4) c.size (askQ n c.cache)=(.ok b,s1)→b.length≤1099511627776) (hp:(readQ c.size i (askQ n c.cache)).1≠.error .panic) (hL:c.cache.items.length+(readT c.size i).length<1099511627775) :
  Calls prog 45 #[.pointer (some ⟨gc,0,none⟩),.int .i64 i] w (ReadPost F w gc gk mc gn gd vl vt qs (readP c n i)):=by
 obtain⟨R,hR⟩:∃ R,R=readP c n i:=⟨_,rfl⟩
 have hlt:=h.lt
 obtain⟨s0,hs0⟩:∃ s,s=askQ n c.cache:=⟨_,rfl⟩
 obtain⟨N,hN⟩:∃ N,N=c.size:=⟨_,rfl⟩
 rw[←hs0] at hb hbl hp
 rw[←hN] at hb hbl hp hi hsz hL
 rw[←hR]
 have H:=zh h
 have HN:=zh hn
 have HD:=zh hd
 have HDF:=zh hdf
 have HE:=zh hE
 have HR:=zh hR
 have HB:=zh hb
 have HBL:=zh hbl
 have HP:=zh hp
 have HL:=zh hL
 have HS0:=zh hs0
 have HNN:=zh hN
 clear h hn hd hdf hE hR hb hbl hp hL hs0 hN
 have hin:(i:Int)<(N:Int):=by omega
 have hi0:(0:Int)≤(i:Int):=by omega
 go_enter_defers func45,ntmps45
 go_upto_region 4 with (first
  | (go_at_call 83;refine (lock_cl H.o).mono ?_;rintro e w1 ⟨rfl,h1,hf1,hz1⟩;have H1:=zh h1;have HF1:=zh hf1;have d4:=cell_heap h1.cells 4 rfl;rw[←HNN.o] at d4;have HZ1:=zh hz1;clear h1 hf1 hz1)
  | fail)
 go_upto_region 7 with (first
  | (go_at_call 86;refine (look_any w1 gc N).mono ?_;rintro e w2 ⟨gq,mq,rfl,hq2,hm2,hb2,hg2,hmm2⟩;have HQ2:=zh hq2;have HM2:=zh hm2;have HB2:=zh hb2;clear hq2 hm2 hb2)
  | fail)
 have hq0:=ask_is (N:=N) H1.o (net_kept HN.o HF1.o (kinds_one H.o.cells) (by decide) (by decide) (by decide)) (HD.o.kept HF1.o (kinds_one H.o.cells) (by decide) (by decide)) HDF.o (fun z hz=>by cases hz) HB2.o HQ2.o HM2.o hmm2
 rw[←HS0.o] at hq0
 have hE2:EnvS F (QS ⟨gq,gc,gk,mc,gn,gd,mq,vl,vt,v,cliC 1 (.iface 44 (.pointer (some ⟨gn,0,none⟩))) c.key c.size c.root gk⟩ ⟨.slice none 0 0,qs,[]⟩) w2:=
  HE.o.step ((HF1.o.weak fun _ _ e=>.inl (.inl e)).trans (Fr.ofBelow HB2.o)) fun k hk=>by
   rcases Nat.lt_or_ge k w1.heap.size with hlk|hge
   ·exact .inl (ask_sub hg2 hmm2 hlk hk)
   ·exact .inr (Nat.le_trans (Nat.le_of_eq HZ1.o.symm) hge)
 have hrt:(readT N i).length=1+(gatherT N (pathR N 0 N i).reverse).length:=by unfold readT;simp;omega
 have hfb:Calls prog 92 #[.pointer (some ⟨gq,0,none⟩),.int .i64 (-1),.int .i64 (i / 4:Nat),.int .i64 N,.func (.func 93) #[] #[]] w2 (FilePost F w2 _ _ N d (fileQ fitsBun (-1) (i / 4) N s0)):=
  file_bun F w2 _ _ N s0 d hq0 hE2 (-1) (i / 4) N (by omega) hsz (by have:=HB.o.fetches;omega) (by simp) HB.o.small
 have HQ0:=zh hq0
 have HE2:=zh hE2
 have HFB:=zh hfb
 have HRT:=zh hrt
 clear hq0 hE2 hfb hrt
 go_upto_region 8 with (first
  | (go_at_call 92;refine HFB.o.mono ?_;intro e w3 h3;obtain⟨u3,y3,rfl,hq3,hy3⟩:=file_two h3;have HQ3:=zh hq3;have HY3:=zh hy3;clear h3 hq3 hy3)
  | fail)
 obtain⟨r1,hr1⟩:∃ r,r=fileQ fitsBun (-1) (i / 4) N s0:=⟨_,rfl⟩
 have hQ3:=HQ3.o
 have hY3:=HY3.o
 rw[←hr1] at hQ3 hY3
 obtain⟨o1,s1⟩:=r1
 obtain⟨x3,hx3,hf3,hs3⟩:=hQ3
 have HX3:=zh hx3
 have HF3:=zh hf3
 have HS3:=zh hs3
 have HR1:=zh hr1
 clear hx3 hf3 hs3 hr1 HQ3 HY3
 rcases hY3 with ⟨b,a3,n3,c3,hob,rfl,rfl,hb3⟩|⟨p,hop,rfl,⟨ge,rfl⟩,hme⟩
 rotate_left
 ·have HOP:=zh hop
  have HME:=zh hme
  clear hop hme
  go_wp2
  refine read_door (u:=.slice none 0 0) (v:=.slice none 0 0) (y:=.iface 153 (.pointer (some ⟨ge,0,none⟩))) (cell_heap HX3.o.cli 0 rfl) (frozen_heap HX3.o.cli 0) rfl rfl rfl ?_
  have hRe:R=((6,p),([],[]),{ c with cache:=s1.cache },s1.net):=by
   rw[HR.o]
   unfold readP
   rw[if_neg (by rw[←HNN.o];omega),Int.toNat_natCast,←HS0.o,←HNN.o]
   unfold readQ Qm.bind
   rw[←HR1.o]
   have hop2:o1=.error (.miss p):=HOP.o
   rw[hop2]
  rw[hRe]
  exact read_fin HF1.o HZ1.o HB2.o hg2 hmm2 hlt HX3.o HF3.o HS3.o (.inl ⟨rfl,rfl⟩) (World.ownsRow_nil _ _ _ _) (.inr (.inr ⟨p,rfl,MissErr.low HME.o (by have:=HB2.o.size;have:=HZ1.o;omega)⟩)) (.inr rfl)
 have hob:o1=.ok b:=hob
 subst hob
 have hun:∃ ls e,unbundleOf b=some ls∧ls[i%4]?=some e:=by
  have hpp:=HP.o
  unfold readQ Qm.bind at hpp
  rw[←HR1.o] at hpp
  dsimp only at hpp
  cases hu:unbundleOf b with
  | none=>rw[hu] at hpp;exact absurd rfl hpp
  | some ls=>
   rw[hu] at hpp
   dsimp only[Option.getD] at hpp
   cases he:ls[i%4]? with
   | none=>rw[he] at hpp;exact absurd rfl hpp
   | some e=>exact⟨ls,e,rfl,he⟩
 obtain⟨ls,ent,hls,hent⟩:=hun
 have hub:=funbundle_any (.slice a3 n3 c3) b w3 hb3.at (HBL.o b s1 HR1.o.symm)
 have HUB:=zh hub
 have HLS:=zh hls
 have HENT:=zh hent
 clear hub hls hent hb3
 have hi4:((i%4:Nat):Int)<(ls.length:Int):=by have:=(List.getElem?_eq_some_iff.1 HENT.o).1;omega
 have hi40:(0:Int)≤((i%4:Nat):Int):=by omega
 go_upto_region 11 with (first
  | (go_at_call 94;refine HUB.o.mono ?_;intro e w4 h4;obtain⟨v4,b4,rfl,hb4,ho4⟩:=unb_yes HLS.o h4;have HB4:=zh hb4;have HO4:=zh ho4;clear h4 hb4 ho4)
  | fail)
 obtain⟨vs4,hrow4,hall4⟩:=HO4.o
 have hvl:=hrow4
 obtain⟨ve,hve⟩:∃ ve,vs4[i%4]?=some ve:=by
  have hl:=hrow4.1
  exact⟨_,List.getElem?_eq_getElem (by omega)⟩
 have hoe:=hall4 _ _ _ hve HENT.o
 obtain⟨ae,ne,ce,hvE⟩:=ownB_any hoe
 subst hvE
 obtain⟨a4,c4,hv4,_,hcell⟩:=ownsRow_cells hrow4
 obtain⟨bb4,off4,ha4,hc4⟩:=hcell _ _ hve
 subst ha4
 subst hv4
 have HOE:=zh hoe
 have hc4i:w4.cell? ⟨bb4,off4+(((i:Int)%4)).toNat,none⟩=some (.slice ae ne ce):=by
  rw[show ((i:Int)%4).toNat=i%4 by omega]
  exact hc4
 have hi4i:(i:Int)%4<(ls.length:Int):=by omega
 have hi40i:(0:Int)≤(i:Int)%4:=by omega
 clear hrow4 hall4 hvl hve hoe hcell hi4 hi40 HO4
 go_upto_region 12 with fail
 have hown:∀ z,(Value.slice ae ne ce).ownBlock=some z→w3.heap.size≤z∧z<w4.heap.size:=ownB_block HOE.o
 have hq4 : @QIs ⟨⟨(Value.slice ae ne ce).ownBlock⟩⟩ w4 (cQ gq gc gk mc gn gd mq vl vt v c) x3 N s1 d:=QIs.outB (o2:=⟨(Value.slice ae ne ce).ownBlock⟩) HX3.o HB4.o hown
 have hE4:EnvS F (QS (cQ gq gc gk mc gn gd mq vl vt v c) x3) w4:=(HE2.o.step HF3.o HS3.o).below HB4.o
 have hb1:Bnd s1 (gatherT N (pathR N 0 N i).reverse).length:=by
  have:=HB.o
  rw[HRT.o] at this
  have h2:=this.next (fileQ_costs fitsBun (-1) (i / 4) N) (fileQ_kept (keepsQ_same s0.net) fitsBun (-1) (i / 4) N s0 (SameN.refl _))
  rw[←HR1.o] at h2
  exact h2
 have hrq:readQ N i s0=(match gatherQ N (pathR N 0 N i).reverse s1 with|(.ok l,s2)=>(.ok (ent,l),s2)|(.error e,s2)=>(.error e,s2)):=by
  unfold readQ Qm.bind
  rw[←HR1.o]
  dsimp only
  rw[HLS.o]
  dsimp only[Option.getD]
  rw[HENT.o]
  dsimp only
  cases hg:gatherQ N (pathR N 0 N i).reverse s1 with
  | mk o s2=>cases o <;> rfl
 have hp1:(gatherQ N (pathR N 0 N i).reverse s1).1≠.error .panic:=fun e=>by
  apply HP.o
  rw[hrq]
  cases hg:gatherQ N (pathR N 0 N i).reverse s1 with
  | mk o s2=>rw[hg] at e;dsimp only at e;subst e;rfl
 have hwh:=fun W hW=>@mwholeQ_any ⟨⟨(Value.slice ae ne ce).ownBlock⟩⟩ W (cQ gq gc gk mc gn gd mq vl vt v c) x3 N s1 d (@QIs.below ⟨⟨(Value.slice ae ne ce).ownBlock⟩⟩ _ W _ _ _ _ _ hq4 hW)
 have hpa:=fun W hW g1 g3 hc=>@qpath_any ⟨⟨(Value.slice ae ne ce).ownBlock⟩⟩ F W (cQ gq gc gk mc gn gd mq vl vt v c) x3 N s1 d (@QIs.below ⟨⟨(Value.slice ae ne ce).ownBlock⟩⟩ _ W _ _ _ _ _ hq4 hW) (hE4.below hW) g1 g3 hc i N hi (Nat.le_refl _) hsz hb1 hp1
 have HWH:=zh hwh
 have HPA:=zh hpa
 have HRQ:=zh hrq
 have HOWN:=zh hown
 clear hown hq4 hE4 hb1 hrq hp1 hwh hpa
 go_upto_region 13 with (first
  | (go_at_call 88;refine (HWH.o w4 (Below.refl _ _)).mono ?_;rintro e w5 ⟨g1,g3,rfl,hc5,hb5⟩;have HC5:=zh hc5;have HB5:=zh hb5;clear hc5 hb5)
  | (go_at_call 95;refine (HPA.o w5 HB5.o g1 g3 HC5.o).mono ?_;intro e w6 h6;obtain⟨v6,y6,rfl,hq6,hy6⟩:=@gath_two ⟨⟨(Value.slice ae ne ce).ownBlock⟩⟩ _ _ _ _ _ _ _ _ _ h6;have HQ6:=zh hq6;have HY6:=zh hy6;clear h6 hq6 hy6)
  | fail)
 obtain⟨r2,hr2⟩:∃ r,r=gatherQ N (pathR N 0 N i).reverse s1:=⟨_,rfl⟩
 have hQ6:=HQ6.o
 have hY6:=HY6.o
 rw[←hr2] at hQ6 hY6
 obtain⟨o2,s2⟩:=r2
 obtain⟨x6,hx6,hf6,hs6⟩:=hQ6
 have hz5:w2.heap.size≤w5.heap.size:=Nat.le_trans HF3.o.size (Nat.le_trans HB4.o.size HB5.o.size)
 have hF6:Fr (QS (cQ gq gc gk mc gn gd mq vl vt v c) ⟨.slice none 0 0,qs,[]⟩) w2 w6:=Fr.sub ((HF3.o.trans (Fr.ofBelow HB4.o)).trans (Fr.ofBelow HB5.o)) hf6 HS3.o
 have hS6:Sub w2 (QS (cQ gq gc gk mc gn gd mq vl vt v c) ⟨.slice none 0 0,qs,[]⟩) (QS (cQ gq gc gk mc gn gd mq vl vt v c) x6):=HS3.o.trans hs6 hz5
 have hoe6:OwnBytes w6 w3.heap.size (.slice ae ne ce) ent:=by
  have h5:OwnBytes w5 w3.heap.size (.slice ae ne ce) ent:=HOE.o.below HB5.o
  have hq5:=@QIs.below ⟨⟨(Value.slice ae ne ce).ownBlock⟩⟩ _ w5 _ _ _ _ _ (QIs.outB (o2:=⟨(Value.slice ae ne ce).ownBlock⟩) HX3.o HB4.o HOWN.o) HB5.o
  exact @bytes_qs ⟨⟨(Value.slice ae ne ce).ownBlock⟩⟩ _ _ _ _ _ _ _ _ _ _ h5 hf6 hq5
 have HX6:=zh hx6
 have HF6:=zh hF6
 have HS6:=zh hS6
 have HR2:=zh hr2
 have HOE6:=zh hoe6
 have hcli:w6.heap[gc]?=some (.cells (cliC 1 (.iface 44 (.pointer (some ⟨gn,0,none⟩))) c.key c.size c.root gk) 177 (0,0)):=@QIs.cli ⟨⟨(Value.slice ae ne ce).ownBlock⟩⟩ _ _ _ _ _ _ hx6
 have HCLI:=zh hcli
 have hb0:w.heap.size≤w3.heap.size:=by have:=HB2.o.size;have:=HZ1.o;have:=HF3.o.size;omega
 have HB0:=zh hb0
 clear hx6 hf6 hs6 hr2 hF6 hS6 hoe6 HQ6 HY6 hcli hb0 hz5
 rcases hY6 with ⟨l6,hol,rfl,hv6⟩|⟨p,hop,rfl,⟨ge,rfl⟩,hme⟩
 rotate_left
 ·have HOP:=zh hop
  have HME:=zh hme
  clear hop hme
  go_wp2
  refine read_door (u:=.slice none 0 0) (v:=.slice none 0 0) (y:=.iface 153 (.pointer (some ⟨ge,0,none⟩))) (cell_heap HCLI.o 0 rfl) (frozen_heap HCLI.o 0) rfl rfl rfl ?_
  have hRe:R=((6,p),([],[]),{ c with cache:=s2.cache },s2.net):=by
   rw[HR.o]
   unfold readP
   rw[if_neg (by rw[←HNN.o];omega),Int.toNat_natCast,←HS0.o,←HNN.o,HRQ.o,←HR2.o]
   have hop2:o2=.error (.miss p):=HOP.o
   rw[hop2]
  rw[hRe]
  refine read_fin HF1.o HZ1.o HB2.o hg2 hmm2 hlt (QIs.outB HX6.o (Below.refl _ _) fun z hz=>by cases hz) HF6.o HS6.o (.inl ⟨rfl,rfl⟩) (World.ownsRow_nil _ _ _ _) (.inr (.inr ⟨p,rfl,MissErr.low HME.o (by have:=HB5.o.size;have:=HB4.o.size;have:=HB0.o;omega)⟩)) (.inr rfl)
 have hol:o2=.ok l6:=hol
 subst hol
 have HV6:=zh hv6
 have hlf:∀ W,Below w6.heap.size w6 W→Calls prog 72 #[.slice ae ne ce] W fun e w'=>e=.returned (.agg #[bv (leafH ent)[0],bv (leafH ent)[1],bv (leafH ent)[2],bv (leafH ent)[3],bv (leafH ent)[4],bv (leafH ent)[5],bv (leafH ent)[6],bv (leafH ent)[7]])∧Below W.heap.size W w':=fun W hW=>by
  have hlen:ent.length≤9223372036854775807:=by
   have:=(unbundleOf_lens HLS.o).2.2 ent (List.mem_of_getElem? HENT.o)
   omega
  have:=leaf_any (.slice ae ne ce) ent W (HOE6.o.below hW).at hlen
  rw[h8_lit] at this
  exact this
 have hpl:l6.length≤1048576:=by
  have e:=gatherQ_len N (pathR N 0 N i).reverse s1 s2 l6 HR2.o.symm
  have:=pathR_len N 63 0 N i (by omega) (Nat.le_refl _)
  rw[e,List.length_reverse]
  omega
 have hinc:∀ W,Below w6.heap.size w6 W→Calls prog 96 #[.agg #[bv (leafH ent)[0],bv (leafH ent)[1],bv (leafH ent)[2],bv (leafH ent)[3],bv (leafH ent)[4],bv (leafH ent)[5],bv (leafH ent)[6],bv (leafH ent)[7]],.int .i64 i,.int .i64 N,v6,.agg #[bv c.root[0],bv c.root[1],bv c.root[2],bv c.root[3],bv c.root[4],bv c.root[5],bv c.root[6],bv c.root[7]]] W fun e w'=>e=.returned (.bool (included (leafH ent) i N l6 c.root))∧Below W.heap.size W w':=fun W hW=>by
  have:=mincluded_any l6 (leafH ent) c.root i N v6 W (OwnHs.at (ownsRow_below HV6.o hW)) (by omega) (by omega) hpl
  rw[h8_lit,h8_lit] at this
  exact this
 obtain⟨ib,hib⟩:∃ x,x=included (leafH ent) i N l6 c.root:=⟨_,rfl⟩
 rw[←hib] at hinc
 have k0:w6.cell? ⟨gc,5,none⟩=some (bv c.root[0]):=cell_heap HCLI.o 5 rfl
 have kd0:w6.drew.cell? ⟨gc,5,none⟩=some (bv c.root[0]):=k0
 have k1:w6.cell? ⟨gc,6,none⟩=some (bv c.root[1]):=cell_heap HCLI.o 6 rfl
 have kd1:w6.drew.cell? ⟨gc,6,none⟩=some (bv c.root[1]):=k1
 have k2:w6.cell? ⟨gc,7,none⟩=some (bv c.root[2]):=cell_heap HCLI.o 7 rfl
 have kd2:w6.drew.cell? ⟨gc,7,none⟩=some (bv c.root[2]):=k2
 have k3:w6.cell? ⟨gc,8,none⟩=some (bv c.root[3]):=cell_heap HCLI.o 8 rfl
 have kd3:w6.drew.cell? ⟨gc,8,none⟩=some (bv c.root[3]):=k3
 have k4:w6.cell? ⟨gc,9,none⟩=some (bv c.root[4]):=cell_heap HCLI.o 9 rfl
 have kd4:w6.drew.cell? ⟨gc,9,none⟩=some (bv c.root[4]):=k4
 have k5:w6.cell? ⟨gc,10,none⟩=some (bv c.root[5]):=cell_heap HCLI.o 10 rfl
 have kd5:w6.drew.cell? ⟨gc,10,none⟩=some (bv c.root[5]):=k5
 have k6:w6.cell? ⟨gc,11,none⟩=some (bv c.root[6]):=cell_heap HCLI.o 11 rfl
 have kd6:w6.drew.cell? ⟨gc,11,none⟩=some (bv c.root[6]):=k6
 have k7:w6.cell? ⟨gc,12,none⟩=some (bv c.root[7]):=cell_heap HCLI.o 12 rfl
 have kd7:w6.drew.cell? ⟨gc,12,none⟩=some (bv c.root[7]):=k7
 have hb6:gc<w6.heap.size:=lt_of_heap HCLI.o
 have HLF:=zh hlf
 have HINC:=zh hinc
 have HIB:=zh hib
 clear hlf hinc hib hpl hv6
 go_upto_region 15 with fail
 go_region_held3 (fun w'=>w'.cell? ⟨gc,5,none⟩=some (bv c.root[0])∧w'.cell? ⟨gc,6,none⟩=some (bv c.root[1])∧w'.cell? ⟨gc,7,none⟩=some (bv c.root[2])∧w'.cell? ⟨gc,8,none⟩=some (bv c.root[3])∧w'.cell? ⟨gc,9,none⟩=some (bv c.root[4])∧w'.cell? ⟨gc,10,none⟩=some (bv c.root[5])∧w'.cell? ⟨gc,11,none⟩=some (bv c.root[6])∧w'.cell? ⟨gc,12,none⟩=some (bv c.root[7])) (first|with_reducible exact⟨k0,k1,k2,k3,k4,k5,k6,k7⟩|with_reducible exact⟨kd0,kd1,kd2,kd3,kd4,kd5,kd6,kd7⟩|with_reducible exact⟨m0,m1,m2,m3,m4,m5,m6,m7⟩|with_reducible exact⟨e0,e1,e2,e3,e4,e5,e6,e7⟩|fail) (first|(go_at_call 72;refine (HLF.o _ (below_drew w6)).mono ?_;rintro e w7 ⟨rfl,hb7⟩;have HB7:=zh (show Below w6.heap.size w6 w7 from (below_drew w6).trans hb7);have m0:=(HB7.o.cell (p:=⟨gc,5,none⟩) hb6).trans k0;have m1:=(HB7.o.cell (p:=⟨gc,6,none⟩) hb6).trans k1;have m2:=(HB7.o.cell (p:=⟨gc,7,none⟩) hb6).trans k2;have m3:=(HB7.o.cell (p:=⟨gc,8,none⟩) hb6).trans k3;have m4:=(HB7.o.cell (p:=⟨gc,9,none⟩) hb6).trans k4;have m5:=(HB7.o.cell (p:=⟨gc,10,none⟩) hb6).trans k5;have m6:=(HB7.o.cell (p:=⟨gc,11,none⟩) hb6).trans k6;have m7:=(HB7.o.cell (p:=⟨gc,12,none⟩) hb6).trans k7;clear hb7)|(go_at_call 96;refine (HINC.o w7 HB7.o).mono ?_;rintro e w8 ⟨rfl,hb8⟩;have HB8:=zh (HB7.o.trans (hb8.mono HB7.o.size));have e0:=(HB8.o.cell (p:=⟨gc,5,none⟩) hb6).trans k0;have e1:=(HB8.o.cell (p:=⟨gc,6,none⟩) hb6).trans k1;have e2:=(HB8.o.cell (p:=⟨gc,7,none⟩) hb6).trans k2;have e3:=(HB8.o.cell (p:=⟨gc,8,none⟩) hb6).trans k3;have e4:=(HB8.o.cell (p:=⟨gc,9,none⟩) hb6).trans k4;have e5:=(HB8.o.cell (p:=⟨gc,10,none⟩) hb6).trans k5;have e6:=(HB8.o.cell (p:=⟨gc,11,none⟩) hb6).trans k6;have e7:=(HB8.o.cell (p:=⟨gc,12,none⟩) hb6).trans k7;clear hb8)|fail)
 all_goals (
  cases ib with
  | false=>
   have hg:=((HE2.o.step HF6.o HS6.o).below HB8.o).sents.cells.2.2.2.2.1
   have HCLI8:=zh ((HB8.o.block _ hb6).trans HCLI.o)
   go_wp2
   go_region
   all_goals (
    go_wp2
    refine read_door (u:=.slice none 0 0) (v:=.slice none 0 0) (y:=.iface 338 (.pointer (some (F 4)))) (cell_heap (w:=w8.drew) HCLI8.o 0 rfl) (frozen_heap (w:=w8.drew) HCLI8.o 0) rfl rfl rfl ?_
    have hRe:R=((5,⟨#[]⟩),([],[]),{ c with cache:=s2.cache },s2.net):=by
     rw[HR.o]
     unfold readP
     rw[if_neg (by rw[←HNN.o];omega),Int.toNat_natCast,←HS0.o,←HNN.o,HRQ.o,←HR2.o]
     dsimp only
     rw[←HIB.o]
     rfl
    rw[hRe]
    refine read_fin HF1.o HZ1.o HB2.o hg2 hmm2 hlt (QIs.outB HX6.o (HB8.o.trans (below_drew w8 |>.mono HB8.o.size)) fun z hz=>by cases hz) (HF6.o.trans (Fr.ofBelow (HB8.o.trans (below_drew w8 |>.mono HB8.o.size)))) HS6.o (.inl ⟨rfl,rfl⟩) (World.ownsRow_nil _ _ _ _) (.inr (.inl ⟨4,by decide,by decide,rfl,rfl⟩)) (.inr rfl))
  | true=>
   have hq8:=@QIs.below ⟨⟨(Value.slice ae ne ce).ownBlock⟩⟩ _ w8 _ _ _ _ _ HX6.o HB8.o
   have hcost:Cost (readT N i).length s0 s2:=by
    have:=readQ_costs N i s0
    rw[HRQ.o,←HR2.o] at this
    exact this
   have hln:x6.qs.length+x6.vs.length<1099511627775:=by
    have a1:s2.cache.items.length=x6.qs.length:=by
     rw[@CacheIs.items ⟨⟨(Value.slice ae ne ce).ownBlock⟩⟩ _ _ _ _ _ (@QIs.cache ⟨⟨(Value.slice ae ne ce).ownBlock⟩⟩ _ _ _ _ _ _ hq8),List.length_map]
    have a2:s2.files.length=x6.vs.length:=by
     rw[@QIs.files ⟨⟨(Value.slice ae ne ce).ownBlock⟩⟩ _ _ _ _ _ _ hq8,List.length_map]
    have a3:=hcost.files
    have a4:=hcost.items
    have a5:s0.files.length=0:=by rw[HS0.o];rfl
    have a6:s0.cache.items.length=c.cache.items.length:=by rw[HS0.o];rfl
    have:=HL.o
    omega
   have hre:=@remember_any ⟨⟨(Value.slice ae ne ce).ownBlock⟩⟩ w8 _ x6 N s2 d hq8 hln
   have hkc:=@kinds_cache ⟨⟨(Value.slice ae ne ce).ownBlock⟩⟩ _ _ _ _ _ (@QIs.cache ⟨⟨(Value.slice ae ne ce).ownBlock⟩⟩ _ _ _ _ _ _ hq8)
   have HRE:=zh hre
   have HKC:=zh hkc
   clear hq8 hcost hln hre hkc
   go_wp2_with (first
    | (go_at_call 91;refine HRE.o.mono ?_;rintro e w9 ⟨rfl,qs9,hq9,hf9,hs9⟩;have HQ9:=zh hq9;have HF9:=zh hf9;have HS9:=zh hs9;clear hq9 hf9 hs9)
    | (go_at_call 97;refine (clip_any w9 w3.heap.size (.slice ae ne ce) ent (bytes_kept (HOE6.o.below HB8.o) HF9.o HKC.o (by decide))).mono ?_;rintro e w10 ⟨u10,rfl,hu10,hob10,rfl⟩;have HU10:=zh hu10;have HOB:=zh hob10;clear hu10 hob10)
    | fail)
   have hli9:w10.heap[gc]?=some (.cells (cliC 1 (.iface 44 (.pointer (some ⟨gn,0,none⟩))) c.key c.size c.root gk) 177 (0,0)):=@QIs.cli ⟨⟨(Value.slice ae ne ce).ownBlock⟩⟩ _ _ _ _ _ _ HQ9.o
   refine read_door (u:=u10) (v:=v6) (y:=.nilIface) (cell_heap hli9 0 rfl) (frozen_heap hli9 0) rfl rfl rfl ?_
   have hRe:R=(tFine,(ent,l6),{ c with cache:=rememberQ s2.cache s2.files },s2.net):=by
    rw[HR.o]
    unfold readP
    rw[if_neg (by rw[←HNN.o];omega),Int.toNat_natCast,←HS0.o,←HNN.o,HRQ.o,←HR2.o]
    dsimp only
    rw[←HIB.o]
    rfl
   rw[hRe]
   have hF8:Fr (QS (cQ gq gc gk mc gn gd mq vl vt v c) ⟨.slice none 0 0,qs,[]⟩) w2 w8:=HF6.o.trans (Fr.ofBelow HB8.o)
   refine read_fin (s:={ s2 with cache:=rememberQ s2.cache s2.files }) HF1.o HZ1.o HB2.o hg2 hmm2 hlt (by rw[HOB.o];exact HQ9.o) (Fr.sub hF8 (HF9.o.weak fun _ _ e=>.inr (.inl e)) HS6.o) (fun k hk=>?_) (HU10.o.mono HB0.o) (ownsRow_mono (row_kept (ownsRow_below HV6.o HB8.o) HF9.o HKC.o (by decide)) (by have:=HB5.o.size;have:=HB4.o.size;have:=HB0.o;omega)) (.inl ⟨rfl,rfl⟩) (.inl rfl)
   rcases hk with e|e|e
   ·exact HS6.o k (.inl e)
   ·rcases Nat.lt_or_ge k w8.heap.size with hlk|hge
    ·exact HS6.o k (.inr (.inl (HS9.o k hlk e)))
    ·exact .inr (Nat.le_trans hF8.size hge)
   ·exact HS6.o k (.inr (.inr e)))
end
end Go.Proofs.YtefccfakhgdfbabGreatDoor
