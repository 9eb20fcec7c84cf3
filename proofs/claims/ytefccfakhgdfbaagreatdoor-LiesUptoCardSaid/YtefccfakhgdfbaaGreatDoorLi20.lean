/- The walk of tilesref's (*Look).node. Conditions: the unit a power of 2 within the size; the size below 2^63; fewer than 2^40 misses. -/
import Derived.Test.YtefccfakhgdfbaaGreatDoorLi19
set_option linter.unusedVariables false
set_option linter.unusedSimpArgs false
open Go.RowKit Go.Proofs.Tryz
set_option maxRecDepth 100000
set_option maxHeartbeats 4000000
namespace Go.Proofs.YtefccfakhgdfbaaGreatDoor
section
variable {w:World}
theorem Q6s {g gd:Nat} {v ve vl vp:Value} {vs:List Value} {d:Dk} {L:Lg} {e:Ending} {w':World} (hf:L.failed=false) (h:Qg2 w g gd v ve vl vp vs d L e w') :
  ∃ (v' vp':Value) (n k:Int) (pth:ByteArray),e=.returned (.tuple #[.int .i64 n,Qaa k pth])∧Q1 w' gd v' (pubD L.entries L.key L.put d).1∧
   Zq w' g gd ve vl vp' vs { L with put:=(pubD L.entries L.key L.put d).2.1,failed:=(pubD L.entries L.key L.put d).2.2.isSome }∧Fr (Jz g gd v ve vl vp vs) w w'∧Sub w (Jz g gd v ve vl vp vs) (Jz g gd v' ve vl vp' vs)∧
   (((pubD L.entries L.key L.put d).2.2=none∧n=L.entries.length∧k=0)∨((pubD L.entries L.key L.put d).2.2=some pth∧n=0∧k=8)):=by
 unfold Qg2 at h;rw[if_neg (by rw[hf];decide)] at h;obtain⟨v',vp',Q,rfl,h1,h2,h3,h4,h5⟩:=h;rcases h5 with ⟨h6,rfl⟩|⟨p,h6,rfl⟩
 ·exact⟨v',vp',_,_,_,rfl,h1,h2,h3,h4,.inl ⟨h6,rfl,rfl⟩⟩
 ·exact⟨v',vp',_,_,_,rfl,h1,h2,h3,h4,.inr ⟨h6,rfl,rfl⟩⟩
theorem Q43 {l:List Fil} {p b:ByteArray} (h:(p,b)∈l):∃ k:Nat,Jc l p=(k:Int):=by
 rcases Qaj l p with ⟨_,h1⟩|⟨k,b',_,h1,_⟩
 ·exact absurd rfl (Qdi.1 h1 _ h)
 ·exact⟨k,h1⟩
theorem Qyw (es:List (List UInt8)) (h:es.length≤1048576):(Yv es).length≤1099511627776:=by
 have h1:=Qnc (k:=es.length) (Zd es) (-1) fun r hr=>Qaz hr
 have h2:=(Qct h).2.1;have h3:(Zd es).length*es.length≤22*es.length:=Nat.mul_le_mul_right _ (by omega);unfold Yv;omega
theorem Q3w:∀ (rs:List (List (List UInt8))) (n:Nat) (put:List Nat) (d:Dk),(∀ r∈rs,r.length≤1048576)→(pubJ n rs put d).1.files.length≤d.files.length+rs.length*1048576
 | [],n,put,d,_=>by simp[pubJ]
 | r :: rs,n,put,d,h=>by
   have h1:=(Qrf ((n:Int)-1) r ((put++List.replicate (n+1-put.length) 0).getD n 0 / 4) d).2
   have h2:=h r List.mem_cons_self
   rw[pubJ,List.length_cons,Nat.add_mul,Nat.one_mul]
   split
   ·dsimp only
    omega
   ·have h3:=Q3w rs (n+1) ((put++List.replicate (n+1-put.length) 0).set n (Qae ((n:Int)-1) r ((put++List.replicate (n+1-put.length) 0).getD n 0 / 4) d).2.1) (Qae ((n:Int)-1) r ((put++List.replicate (n+1-put.length) 0).getD n 0 / 4) d).1 fun r hr=>h r (List.mem_cons_of_mem _ hr)
    omega
theorem Q8t {es:List (List UInt8)} (h:es.length≤1048576) (key:ByteArray) (put:List Nat) (d:Dk):(pubD es key put d).1.files.length≤d.files.length+23068673:=by
 have h1:=Q3w (Zd es) 0 put d fun r hr=>Nat.le_trans (Qaz hr) h
 have h2:=(Qct h).2.1;have h3:(Zd es).length*1048576≤22*1048576:=Nat.mul_le_mul_right _ (by omega);unfold pubD
 split
 ·show (pubJ 0 (Zd es) put d).1.files.length≤_
  omega
 ·show (Qb6 (pubJ 0 (Zd es) put d).1 _ _).files.length≤_
  rw[Qfj]
  split
  ·have:=(Qk9 (pubJ 0 (Zd es) put d).1.files (sOf kCp) (cpOf es key)).2
   omega
  ·omega
variable {p:Pl} {m:Wm}
theorem WdIs.forStep (h:WdIs w p m) (b:Bool):WdIs (w.setCell ⟨p.gw,6,none⟩ (.bool b)) p { m with foreign:=b }:=
 h.ownStep (Fr.set1 w p.gw 6 _) ((heap_setCell h.cells _).trans (by simp[Qdp,plV])) ⟨rfl,rfl,rfl,rfl⟩ h.ents h.log
theorem WdIs.failStep (h:WdIs w p m) (b:Bool):WdIs (w.setCell ⟨p.gw,5,none⟩ (.bool b)) p { m with failed:=b }:=
 h.ownStep (Fr.set1 w p.gw 5 _) ((heap_setCell h.cells _).trans (by simp[Qdp,plV])) ⟨rfl,rfl,rfl,rfl⟩ h.ents h.log
theorem WdIs.pubStep (h:WdIs w p m) (n:Int):WdIs (w.setCell ⟨p.gw,4,none⟩ (.int .i64 n)) p { m with pub:=n }:=
 h.ownStep (Fr.set1 w p.gw 4 _) ((heap_setCell h.cells _).trans (by simp[Qdp,plV])) ⟨rfl,rfl,rfl,rfl⟩ h.ents h.log
set_option maxHeartbeats 8000000 in
theorem Qul (f:Nat→Addr) (w:World) (p:Pl) (m:Wm) (L:Lg) (U:List Nat) (K:Nat) (h:WdIs w p m) (hG:Good m U K) (hL:m.l=some L) (hfo:m.foreign=false) (hfl:L.failed=false) (hE:EnvS f (WdS p m) w) (hU:U.length≤16384) (hK:K≤800000000000) (hkey:m.key.size≤1048600) :
  Calls prog 22 #[.pointer (some ⟨p.gw,0,none⟩)] w (Qsb (PubQ m L) w p m U (K+1048576)):=by
 have ad:m.l.isSome=true:=by rw[hL];rfl
 obtain⟨hr,c3,az,c5,cz,b8⟩:=hG.run L hL;have dr:L.entries.length≤1048576:=by have:=hr.len;omega
 have c0:m.d.files.length≤1000000000000:=by have:=hG.sane.len;omega
 have ao:(pubD L.entries L.key L.put m.d).1.files.length≤1000000000000:=by
  have h1:=Q8t dr L.key L.put m.d
  have:=hG.sane.len
  omega
 have d4:=zh (Qdc w p m h c0);have HP:=zh fun (w1:World) (hb:Below w.heap.size w w1)=>Qrh f w1 p.gl p.g p.gd p.v p.ve p.vl p.vp p.vs m.d L ((hb.block _ (Qc (h.log L hL).1)).trans (h.log L hL).1) ((h.log L hL).2.below hb) (h.disk.below hb) ((hE.below hb).less fun k hk=>Q12 ad hk) c5 dr hr.short c3 (by have:=hG.sane.calls;omega) (by have:=hG.sane.len;omega) (by rw[b8];exact Nat.le_trans hkey (by decide))
 have df:m.failed=false:=by rw[←cz];exact hfl
 have bi:L.entries.length=m.es.length:=by rw[az];simp[lists]
 have ar:∀ s∈m.es,s.size≤20:=by
  have:=Qh0 (k:=20) (ds:=m.es) (by rw[←az];exact hr.short)
  exact this
 have HH:=zh h;have HG:=zh hG;have ey:=zh hfo;have ee:=zh hfl;have a3:=zh hL;have a7:=zh df;have O:=zh az;have d3:=zh b8;have dm:=zh ar;have J:=zh bi;have HR:=zh hr;clear h hG hL hfo hfl hE hr c3 az c5 cz b8 df bi ar
 go_enter func22,ntmps22
 go_upto_region 2 with (first|(go_at_call 26;refine d4.o.mono ?_;rintro e w1 ⟨v1,l1,rfl,bg,c6,cx⟩;have el:=zh bg;have ax:=zh c6;have ba:=zh cx;obtain⟨a1,a0,rfl⟩:=Zi bg;clear bg c6 cx)|fail)
 have h1:=HH.o.below ba.o;have q2:=h1.heads.1.2.2.1;rw[a3.o] at q2;have eo:w1.cell? ⟨p.gw,2,none⟩=some (.pointer (some ⟨p.gl,0,none⟩)):=q2;clear q2;have dw:=Qk eo;have H1:=zh h1;clear h1;obtain⟨Q,hQ⟩:∃ Q,Q=pubD L.entries L.key L.put m.d:=⟨_,rfl⟩
 have HQ:=zh hQ;clear hQ
 go_upto_region 3 with (first|(go_at_call 75;refine (HP.o w1 ba.o).mono ?_;intro e w2 h2;obtain⟨v',vp',n2,code,pth,rfl,cj,b6,cs,dj,ch⟩:=Q6s ee.o h2;rw[←HQ.o] at cj b6 ch;have ej:=zh cj;have eh:=zh b6;have a6:=zh cs;have d1:=zh dj;have eb:=zh ch;clear h2 cj b6 cs dj ch)|fail)
 have h2:=H1.o.bothStep a3.o ej.o eh.o a6.o;have cf:Below w2.heap.size w2 (w2.alloc (.cells #[.int .i64 code,.string pth] 63)):=Qa w2 _;have h3:=h2.below cf;have HT:=zh (show Zr (w2.alloc (.cells #[.int .i64 code,.string pth] 63)) w2.heap.size code pth from heap_alloc_new w2 _);have ci:=zh cf;rw[←HQ.o] at ao;have bt:=zh (Qdc _ _ _ h3 ao);have da:=zh (Q7k _ p.gd v' Q.1 h3.disk);have r0:=h3.heads.1.1;dsimp only at r0;have H3:=zh h3;obtain⟨w3,b5⟩:∃ w3,w3=w2.alloc (.cells #[.int .i64 code,.string pth] 63):=⟨_,rfl⟩
 rw[←b5] at HT ci bt da r0 H3;rw[←b5];have dy:w.heap.size≤w1.heap.size:=ba.o.size;have bq:Fr (WdS p m) w w3:=(Fr.ofBelow ba.o).trans ((a6.o.weak fun k _ hk=>Q12 ad hk).trans (Fr.ofBelow ci.o));have du:=zh bq;have al:=zh (fun (m':Wm)=>Q42 (m:=m) (m':=m') (d1.o.mono dy) ad);clear cf h3 b5 h2 bq;dsimp only at bt
 go_upto_region 8 with (first|(go_at_call 76;refine da.o.mono ?_;rintro e w4 ⟨rfl,rfl⟩)|(go_at_call 26;refine bt.o.mono ?_;rintro e w4 ⟨v4,l4,rfl,cd,c2,cl⟩;have a8:=zh cl;have d2:=zh cd;have a5:=zh c2;obtain⟨a4,bd,rfl⟩:=Zi cd;have H4:=zh (H3.o.below cl);have s5:=H4.o.heads.1.2.2.2.2.2.1;have s3:=H4.o.heads.1.2.2.2.1;dsimp only at s5 s3;rw[a7.o] at s5;clear cd c2 cl)|(go_at_call 77;refine (Qxr w4 p.en m.es H4.o.ents.at (by have:=J.o;omega) dm.o).mono ?_;rintro e w5 ⟨v5,rfl,cy,dd,_⟩;have c7:=zh cy;have S:=zh dd;clear cy dd)|fail)
 have aq:w2.ownsRow w.heap.size 61 2 (.slice a1 l1.length a0) l1.length (Zg l1):=Zk el.o a6.o ((Qcc H1.o.disk).or (Qga (H1.o.log L a3.o).2)) (by decide);have ab:=Ql (Ql (Ql aq ci.o) a8.o) S.o;have ak:=Ql d2.o S.o;have ai:(Yv (lists m.es)).length≤1099511627776:=Qyw _ (by simp[lists];have:=J.o;omega);have an:l1.length≤1099511627776:=by rw[ax.o.length_eq];exact Nat.le_trans c0 (by decide)
 have ac:l4.length≤1099511627776:=by rw[a5.o.length_eq];exact Nat.le_trans ao (by decide)
 have eg:=zh ab;have ep:=zh ak;obtain⟨bb,bm⟩:∃ bb,bb=Qf8 l1 (Yv (lists m.es)):=⟨_,rfl⟩
 have b1:=Q2o w5 (.slice a1 l1.length a0) v5 l1 (Yv (lists m.es)) (Z7 ab) (Z7 c7.o) an ai;rw[←bm] at b1;have d8:=zh b1;have bn:bb=Qf8 m.d.files (Yv (lists m.es)):=by rw[bm];exact Qx1 (Qcm HG.o.sane.once ax.o) _
 have dn:=zh bn;clear aq ab ak bm b1 bn s3 s5
 go_upto_region 9 with (first|(go_at_call 78;refine d8.o.mono ?_;rintro e w6 ⟨rfl,ck⟩;have cg:=zh ck;have H6:=zh ((H4.o.below S.o).below ck);have bw:=H6.o.heads;have s6:=bw.1.2.2.2.2.2.2;have sf:=bw.2 6;dsimp only at s6 sf;clear ck bw)|fail)
 have h7:=H6.o.forStep bb;have H7:=zh h7;obtain⟨w7,aw⟩:∃ w7,w7=w6.setCell ⟨p.gw,6,none⟩ (.bool bb):=⟨_,rfl⟩
 have dh:Fr (·=p.gw) w6 w7:=by rw[aw];exact Fr.set1 w6 p.gw 6 _
 have bl:=zh dh;rw[←aw] at H7;rw[←aw];have em:=H7.o.heads.1;obtain⟨z0,z1,z2,z3,z4,z5,z6⟩:=em;dsimp only at z0 z1 z2 z3 z4 z5 z6;have bo:Fr (WdS p m) w w7:=du.o.trans ((Fr.ofBelow (a8.o.trans ((S.o.trans (cg.o.mono S.o.size)).mono a8.o.size))).trans (bl.o.weak fun _ _ e=>.inl e));have be:=zh bo;clear h7 aw dh s6 sf bo z2 z4;cases bb with
 | true=>
  go_wp2;go_ret;exact⟨rfl,{ p with v:=v',vp:=vp' },⟨m.key,Q.1,some { L with put:=Q.2.1,failed:=Q.2.2.isSome },m.es,m.pub,m.failed,true⟩,rfl,rfl,H7.o,.inl rfl,be.o,al.o _,rfl,fun N _=>absurd (Q1l (by rw[O.o] at N;exact N)) (by rw[←dn.o];decide)⟩
 | false=>
  have N:Qba (Yv L.entries) m.d.files:=by rw[O.o];exact Qzq dn.o.symm
  have V:Runs m.d L.entries L.put false U:=by have:=HR.o;rw[a7.o] at this;exact this
  have cm:L.entries.length≤1048576:=by have:=V.len;omega
  have cp:m.es.length≤1048576:=by have:=J.o;omega
  have C:=zh (Qhx L.key cm (V.live rfl).1 N (V.live rfl).2);rw[←HQ.o] at C;have ae:=zh fun (pub:Int)=>Qq6 HG.o hU a3.o a7.o N pub false
  rw[←HQ.o] at ae;obtain⟨cc,bj⟩:∃ cc,cc=sOf (Qao m.es.length (rootOf (lists m.es)) m.key.data.toList):=⟨_,rfl⟩
  have ap:cpOf L.entries L.key=cc:=by rw[show cpOf L.entries L.key=sOf (Qao L.entries.length (rootOf L.entries) L.key.data.toList) from rfl,J.o,O.o,d3.o,bj]
  have cn:=fun (W:World)=>Qre m.es.length (rootOf (lists m.es)) m.key W (by omega) hkey
  rw[←bj] at cn;have ef:=zh cn;have dl:Qsf l1 l4 (Yv (lists m.es)) cc:=by
   have:=C.o.1
   rw[ap,O.o] at this;exact Q5m this (Qcm HG.o.sane.once ax.o) (Qcm C.o.2.1 a5.o)
  have db:=zh dl;have bk:=Qmo HG.o.sane.once ax.o;have bh:=Qmo C.o.2.1 a5.o;have dq:Qvh (Yv (lists m.es)):=Qn9 (by simp[lists];exact cp);have bf:=zh bk;have ce:=zh bh;have dc:=zh dq;have d7:=zh ap;obtain⟨ea,ec,Y⟩:=Zi HH.o.ents;rw[Y] at z3;have a2:=H7.o.ents.at;dsimp only at a2;rw[Y] at a2;have au:=Qdh m.es.length m.es (.slice ea m.es.length ec) w7 (Nat.le_refl _) a2 cp fun s hs=>Nat.le_trans (dm.o s hs) (by decide)
  have cr:=zh au;have bu:=zh Y;clear N V cm bj ap cn dl bk bh dq a2 au Y
  go_upto_region 12 with (first|(go_at_call 30;refine cr.o.mono ?_;rintro e w8 ⟨rfl,de⟩;have M:=zh de;clear de)|fail)
  have n3:=(M.o.cell (p:=⟨p.gw,3,none⟩) (Qk z3)).trans z3;have n1:=(M.o.cell (p:=⟨p.gw,1,none⟩) (Qk z1)).trans z1;have dt:w8.drew.cell? ⟨p.gw,3,none⟩=some (.slice ea m.es.length ec):=n3;have dp:w8.drew.cell? ⟨p.gw,1,none⟩=some (.string m.key):=n1;have nb:=Qk n3
  go_region_held3 (fun w'=>w'.cell? ⟨p.gw,3,none⟩=some (.slice ea m.es.length ec)∧w'.cell? ⟨p.gw,1,none⟩=some (.string m.key)) (first|with_reducible exact⟨n3,n1⟩|with_reducible exact⟨dt,dp⟩|with_reducible exact⟨m3,m1⟩|fail) (first|(go_at_call 61;refine (ef.o _).mono ?_;rintro e w9 ⟨rfl,c8⟩;have P:=zh (show Below w8.heap.size w8 w9 from (Qn w8).trans c8);have m3:=(P.o.cell (p:=⟨p.gw,3,none⟩) nb).trans n3;have m1:=(P.o.cell (p:=⟨p.gw,1,none⟩) nb).trans n1;clear c8)|fail)
  have H9:=zh ((H7.o.below M.o).below P.o);have carry:∀ (b:Nat) (v:Value) (n:Nat) (xs:List Value),w5.ownsRow b 61 2 v n xs→w9.ownsRow b 61 2 v n xs:=fun b v n xs hx=>
   Ql (Ql (Zk (Ql hx cg.o) bl.o (Q5 H6.o.cells) (by decide)) M.o) P.o
  have c4:=zh (carry _ _ _ _ eg.o);have cw:=zh (carry _ _ _ _ ep.o);have bc:=zh (carry _ _ _ _ c7.o);have c1:Zr w7 w2.heap.size code pth:=(((HT.o.below a8.o).below S.o).below cg.o).kept bl.o (Q5 H6.o.cells) (by decide);have cq:=zh ((c1.below M.o).below P.o);have cb:Fr (WdS p m) w w9:=be.o.trans (Fr.ofBelow (M.o.trans (P.o.mono M.o.size)));have b0:=zh cb;obtain⟨hh,b9⟩:∃ hh,hh=Q.1.hit:=⟨_,rfl⟩
  have cu:=zh b9;rw[←b9];clear z0 z1 z3 z5 z6 carry c1 cb n3 n1 dt dp nb m3 m1 b9 r0;obtain⟨_,_,kturn,_,_,_,kend⟩:=C.o;have KEND:=zh kend;have X:=zh kturn;have E:=H9.o.heads;have eu:p.gw<w9.heap.size:=Qk E.1.1;have et:p.gw<w2.heap.size:=Nat.lt_of_lt_of_le dw a6.o.size;have ek:¬ p.gw=w2.heap.size:=by omega
  have ew:¬ w2.heap.size=p.gw:=fun e=>ek e.symm
  have d0:¬ p.gw=p.gd:=HH.o.gg;have er:¬ p.gd=p.gw:=fun e=>d0 e.symm
  clear kend kturn;rcases eb.o with ⟨hq,ay,af⟩|⟨hq,ay,af⟩
  ·have b7:hh=false:=by
    rcases KEND.o with ⟨_,h1,_⟩|⟨q,h1,_⟩
    ·rw[cu.o];exact h1.hit
    ·rw[hq] at h1;cases h1
   have Z:(∀ x∈Yv (lists m.es),getF l4 x.1=some x.2)∧getF l4 (sOf kCp)=some cc:=by
    rcases KEND.o with ⟨_,_,_,h1,h2⟩|⟨q,h1,_⟩
    ·rw[Qcm C.o.2.1 a5.o]
     rw[O.o] at h1;rw[d7.o] at h2;exact⟨h1,h2⟩
    ·rw[hq] at h1;cases h1
   obtain⟨kk,b,di,a9,ct,br⟩:∃ (kk:Nat) (b:ByteArray),kk<l4.length∧Jc l4 (sOf kCp)=(kk:Int)∧l4[kk]?=some (sOf kCp,b)∧getF l4 (sOf kCp)=some b:=by
    rcases Qaj l4 (sOf kCp) with ⟨_,h1⟩|h1
    ·rw[Z.2] at h1;cases h1
    ·exact h1
   obtain rfl:b=cc:=by rw[Z.2] at br;exact (Option.some.inj br).symm
   have eq:n2=(m.es.length:Int):=by rw[ay,J.o]
   have B:Good ⟨m.key,Q.1,some { L with put:=Q.2.1,failed:=Q.2.2.isSome },m.es,m.es.length,m.failed,false⟩ U (K+1048576):=by
    have:=ae.o m.es.length
    rw[show m.failed=Q.2.2.isSome by rw[a7.o,hq];rfl];exact this
   have bx:=zh B;have dx:=zh Z;subst b7;subst af;subst eq;have a:=Fr.set1 w9 p.gw 4 (.int .i64 (m.es.length:Int));have aj:=H9.o.pubStep (m.es.length:Int);have t:=Q5 H9.o.cells;have G:=zh (Zk c4.o a t (by decide));have r:=zh (Zk cw.o a t (by decide));have R:=zh (Zk bc.o a t (by decide));have D:=zh (cq.o.kept a t (by decide));have I:=zh a;have H:=zh aj;have g4:=E.1.2.2.2.2.1;have g3:=E.1.2.2.2.1;have gf:=E.2;dsimp only at g3 g4;rw[bu.o] at g3;have d5:=zh (⟨di,ct⟩:_∧_);clear hq ay B Z br aj a t E ct
   go_upto_region 19 with fail
   obtain⟨i,u⟩:∃ i,i=w9.setCell ⟨p.gw,4,none⟩ (.int .i64 (m.es.length:Int)):=⟨_,rfl⟩
   rw[←u] at G r R D I H;rw[←u];have A:=Qwe i (.slice a1 l1.length a0) (.slice a4 l4.length bd) v5 l1 l4 (Yv (lists m.es)) b (Z7 G.o) (Z7 r.o) (Z7 R.o) an ac ai db.o bf.o ce.o dc.o;have F:=zh A;have y:=Yf i (.slice a4 l4.length bd) l4 (sOf kCp) (Z7 r.o) ac;rw[a9] at y;have am:=zh y;have ah:=fun (j:World) (hb:Below i.heap.size i j)=>Q20 j (.slice a4 l4.length bd) v5 l4 (Yv (lists m.es)) ((Z7 r.o).below hb) ((Z7 R.o).below hb) ac ai dx.o.1
   have bz:=zh ah;have dk:(0:Int)≤(kk:Int):=by omega
   have ex:(kk:Int)<(l4.length:Int):=by omega
   clear u A y ah a9 g3 g4 gf di
   go_wp2_with (first|(go_at_call 27;refine am.o.mono ?_;rintro e j ⟨rfl,rfl⟩)|(go_at_call 79;refine F.o.mono ?_;rintro e j ⟨rfl,c⟩;have z:=zh c;clear c)|(go_at_call 80;refine (bz.o j z.o).mono ?_;rintro e ez ⟨rfl,co⟩;have T:=zh (z.o.trans (co.mono z.o.size));clear co;have b3:=zh (H.o.below T.o);have ha:=b3.o.heads.1;have g0:=ha.1;have g3:=ha.2.2.2.1;have gt:=b3.o.disk.cells.1.2.2.2.2.2.2.2;dsimp only at g0 g3 gt;rw[bu.o] at g3;rw[X.o] at gt;obtain⟨t0,t1,_,_,_⟩:=(D.o.below T.o).facts;obtain⟨aa,ca,d6,_,c9⟩:=(Z7 r.o).below T.o;obtain⟨b4,o4,dv,_,kx⟩:=c9 kk _ d5.o.2;cases d6;subst dv;clear ha c9)|fail)
   go_ret;exact⟨rfl,{ p with v:=v',vp:=vp' },⟨m.key,Q.1,some { L with put:=Q.2.1,failed:=Q.2.2.isSome },m.es,m.es.length,m.failed,false⟩,rfl,rfl,b3.o,.inr ⟨rfl,bx.o⟩,
    b0.o.trans ((I.o.weak fun _ _ e=>.inl e).trans (Fr.ofBelow T.o)),al.o _,rfl,fun _ _=>by rw[HQ.o]⟩
  ·have b7:hh=true∧((∃ b,(pth,b)∈Yv (lists m.es))∨pth=sOf kCp):=by
    rcases KEND.o with ⟨h1,_⟩|⟨q,h1,h2,h3⟩
    ·rw[hq] at h1;cases h1
    ·rw[hq] at h1
     cases h1;rw[cu.o];rw[O.o] at h3;exact⟨h2,h3⟩
   obtain⟨rfl,bp⟩:=b7;have B:Good ⟨m.key,Q.1,some { L with put:=Q.2.1,failed:=Q.2.2.isSome },m.es,m.pub,true,false⟩ U (K+1048576):=by
    have:=ae.o m.pub
    rw[show (true:Bool)=Q.2.2.isSome by rw[hq];rfl];exact this
   have bx:=zh B;subst ay;subst af;have a:=Fr.set1 w9 p.gw 5 (.bool true);have aj:=H9.o.failStep true;have t:=Q5 H9.o.cells;have G:=zh (Zk c4.o a t (by decide));have r:=zh (Zk cw.o a t (by decide));have R:=zh (Zk bc.o a t (by decide));have D:=zh (cq.o.kept a t (by decide));have I:=zh a;have H:=zh aj;have g5:=E.1.2.2.2.2.2.1;have gf:=E.2;dsimp only at g5;obtain⟨av,cv,d9⟩:=Zi bc.o;have y:=Yf w9 v5 (Yv (lists m.es)) pth (Z7 bc.o) ai;have dz:=zh bp;obtain⟨fk,b2⟩:∃ fk,fk=Jc (Yv (lists m.es)) pth:=⟨_,rfl⟩
   rw[←b2] at y;have ed:=zh b2;have am:=zh y;obtain⟨u0,u1,_,_,_⟩:=cq.o.facts;have ei:=zh hq;clear hq B aj a t E bp y b2 d9
   go_upto_region 16 with (first|(go_at_call 27;refine am.o.mono ?_;rintro e j ⟨rfl,rfl⟩)|fail)
   obtain⟨i,u⟩:∃ i,i=w9.setCell ⟨p.gw,5,none⟩ (.bool true):=⟨_,rfl⟩
   rw[←u] at G r R D I H;rw[←u];have A:=Qwe i (.slice a1 l1.length a0) (.slice a4 l4.length bd) v5 l1 l4 (Yv (lists m.es)) cc (Z7 G.o) (Z7 r.o) (Z7 R.o) an ac ai db.o bf.o ce.o dc.o;have F:=zh A;clear u A g5 gf u0 u1;have fin:∀ j,Below i.heap.size i j→Qsb (PubQ m L) w p m U (K+1048576) (.returned (.bool true)) j:=fun j hb=>
    ⟨rfl,{ p with v:=v',vp:=vp' },⟨m.key,Q.1,some { L with put:=Q.2.1,failed:=Q.2.2.isSome },m.es,m.pub,true,false⟩,rfl,rfl,H.o.below hb,.inr ⟨rfl,bx.o⟩,
     b0.o.trans ((I.o.weak fun _ _ e=>.inl e).trans (Fr.ofBelow hb)),al.o _,rfl,fun _ hno=>absurd (HQ.o ▸ hno) (by rw[ei.o];exact fun e=>by cases e)⟩
   have FIN:=zh fin;clear fin;by_cases dk:(0:Int)≤fk
   ·go_wp2_with (first|(go_at_call 79;refine F.o.mono ?_;rintro e j ⟨rfl,c⟩;have z:=zh c;have ag:=zh (H.o.below c);have ha:=ag.o.heads.1;have g0:=ha.1;have gt:=ag.o.disk.cells.1.2.2.2.2.2.2.2;dsimp only at g0 gt;rw[X.o] at gt;obtain⟨t0,t1,_,_,_⟩:=(D.o.below c).facts;clear c ha)|fail)
    go_ret;exact FIN.o _ z.o
   ·have dg:pth=sOf kCp:=by
     rcases dz.o with ⟨b,hb⟩|hb
     ·obtain⟨k,hk⟩:=Q43 hb
      exact absurd (by rw[ed.o,hk];exact Int.natCast_nonneg k) dk
     ·exact hb
    have ev:(pth.toList == [99,104,101,99,107,112,111,105,110,116])=true:=by
     have h0:=Qqh dg;cases hq:(pth.toList == [99,104,101,99,107,112,111,105,110,116]) with
     | true=>rfl
     | false=>rw[hq] at h0;cases h0
    clear dg
    go_wp2_with (first|(go_at_call 79;refine F.o.mono ?_;rintro e j ⟨rfl,c⟩;have z:=zh c;have ag:=zh (H.o.below c);have ha:=ag.o.heads.1;have g0:=ha.1;have gt:=ag.o.disk.cells.1.2.2.2.2.2.2.2;dsimp only at g0 gt;rw[X.o] at gt;obtain⟨t0,t1,_,_,_⟩:=(D.o.below c).facts;clear c ha)|fail)
    go_ret;exact FIN.o _ z.o
end
section
def Qtd (c:Int) (n:Nat):Nat:=(if c<0 then -(c+1) else c).toNat%n
theorem Qw3 (c:Int) (n:Nat) (w:World) (hc1 : -9223372036854775808≤c) (hc2:c≤9223372036854775807) (hn:0<n) (hn2:n≤1073741824):Calls prog 6 #[.int .i64 c,.int .i64 n] w fun e w'=>e=.returned (.int .i64 (Qtd c n))∧w=w':=by
 by_cases h0:c<0
 ·have hv:(-(c+1))%(n:Int)=((Qtd c n:Nat):Int):=by
   unfold Qtd;rw[if_pos h0];obtain⟨k,hk⟩:∃ k:Nat,-(c+1)=(k:Int):=⟨(-(c+1)).toNat,by omega⟩
   rw[hk,Int.toNat_natCast];rfl
  have d:0≤-(c+1):=by omega
  have b:((n:Int) == 0)=false:=by rw[beq_eq_false_iff_ne];omega
  have a:¬ (n:Int)=0:=by omega
  have HV:=zh hv;clear hv
  go_enter func6,ntmps6
  go_wp2;go_ret;refine⟨?_,rfl⟩;rw[←HV.o];show Ending.returned (.int .i64 (-((c+1).tmod (n:Int))))=_;rw[←Int.neg_tmod,Int.tmod_eq_emod_of_nonneg d]
 ·have hv:c%(n:Int)=((Qtd c n:Nat):Int):=by
   unfold Qtd;rw[if_neg h0];obtain⟨k,hk⟩:∃ k:Nat,c=(k:Int):=⟨c.toNat,by omega⟩
   rw[hk,Int.toNat_natCast];rfl
  have b:((n:Int) == 0)=false:=by rw[beq_eq_false_iff_ne];omega
  have a:¬ (n:Int)=0:=by omega
  have f:0≤c:=by omega
  have HV:=zh hv;clear hv
  go_enter func6,ntmps6
  go_wp2;go_ret;refine⟨?_,rfl⟩;rw[←HV.o]
  first|rfl|(congr 2;omega)|(simp;omega)
theorem Qv4 (c:Int) {n:Nat} (hn:0<n):Qtd c n<n:=Nat.mod_lt _ hn
end
section
theorem Qyu (d:Dk):Qa2 (Qif d):=⟨rfl,rfl,rfl⟩
theorem Qa2.calm {d d':Dk} {j:Nat} (h:Qa2 d) (c:Calm j d d'):Qa2 d':=⟨c.failAt.trans h.failAt,c.dead.trans h.dead,c.hit.trans h.hit⟩
end
section
theorem Qoa (key:ByteArray):Yh [] key (.good [] 0):=
 Q04 (es:=[]) (n:=0) (by simp) (fun e he=>by simp at he) (Qbg.nil _) (fun j hj=>by simp at hj) (Nat.le_refl _) (fun j hj=>by simp at hj) (Q1e rfl)
theorem Q6g {m m':Wm} (h:Q7h m m') (hf:m.d.files = []) (ht:m.d.turned=false) (hfo:m.foreign=false):∃ L,RdW m' L 0∧m'.es = []∧m'.key=m.key:=by
 obtain⟨d',k,hc,hq⟩:=h;rw[hf] at hq;rcases hq with ⟨ss,n,ho,rfl⟩|⟨⟨kn,q,ho⟩,_⟩
 ·have e:=ho.one (Qoa m.key)
  simp only[Opn.good.injEq] at e;obtain⟨e1,rfl⟩:=e;have e2:ss = []:=by
   cases ss with
   | nil=>rfl
   | cons a l=>simp[lists] at e1
  subst e2;exact⟨_,Q7z m.key rfl rfl rfl rfl rfl rfl rfl rfl hfo rfl ((Qyu m.d).calm hc) (hc.turned.trans ht) (by show d'.files = [];rw[hc.files];exact hf),rfl,rfl⟩
 ·exact absurd (ho.one (Qoa m.key)) (by simp)
end
section
def Q66 (w:World) (l:List Fil) (key:ByteArray) (p:Pl) (w':World):Prop:=
 WdIs w' p ⟨key,dk0 (firsts l),none,[],0,false,false⟩∧Below w.heap.size w w'∧∀ k,WdS p ⟨key,dk0 (firsts l),none,[],0,false,false⟩ k→w.heap.size≤k
theorem Q3u (w:World) (va:Value) (l:List Fil) (key:ByteArray) (h:Jv w va l) (hn:l.length≤1073741824) :
  Calls prog 20 #[va,.string key] w fun e w'=>∃ p,e=.returned (.pointer (some ⟨p.gw,0,none⟩))∧Q66 w l key p w':=by
 obtain⟨wb,b⟩:∃ wb,wb=w.alloc (.cells #[.pointer none,.string key,.pointer none,.slice none 0 0,.int .i64 0,.bool false,.bool false] 53):=⟨_,rfl⟩
 have hb:Below w.heap.size w wb:=by rw[b];exact Qa w _
 have f:wb.heap[w.heap.size]?=some (.cells #[.pointer none,.string key,.pointer none,.slice none 0 0,.int .i64 0,.bool false,.bool false] 53 (0,0)):=by rw[b];exact heap_alloc_new w _
 have HN:=zh (Qui wb va l (h.below hb) hn);have HB:=zh hb;have j:=zh f;have i:=zh b;clear h hb f b
 go_enter func20,ntmps20
 go_upto_region 2 with fail
 rw[←i.o];clear i
 go_wp2_with (first|(go_at_call 70;refine HN.o.mono ?_;rintro e w1 ⟨g,v,rfl,hd,d,hg,hv⟩;have HD:=zh hd;have n:=zh d;have HV:=zh hv;have a:=(d.block _ (Qc j.o)).trans j.o;have c:=zh a;have o0:=Qd a 0 rfl;have of:=Qs a 0;clear hd d hv a)|fail)
 go_ret;have r:=HB.o.size;have q:=Q5 c.o;have m:=Fr.set1 w1 w.heap.size 0 (.pointer (some ⟨g,0,none⟩));refine⟨⟨w.heap.size,g,v,.slice none 0 0,0,0,.slice none 0 0,.slice none 0 0,.slice none 0 0,[]⟩,rfl,⟨(heap_setCell c.o _).trans (by simp[Qdp,plV]),HD.o.kept m q (by decide) (by decide),World.ownsRow_nil _ _ _ _,fun L hL=>by cases hL⟩,?_,?_⟩
 ·exact (HB.o.trans (n.o.mono HB.o.size)).setCell (Nat.le_refl _) _
 ·intro k hk
  rcases hk with hk|(hk|hk)|hk|⟨hk,_⟩
  ·exact Nat.le_of_eq hk.symm
  ·have:k=g:=hk
   omega
  ·exact Nat.le_trans r (HV.o k hk)
  ·cases hk
  ·cases hk
end
section
structure WSt (w0 w:World) (k:Nat) (key:ByteArray) (p:Pl) (m:Wm) (L:Lg) (P:Nat):Prop where
 wd:WdIs w p m
 mkey:m.key=key
 rdw:RdW m L P
 good:∃ U,U.length≤k∧Good m U ((k+1)*2097152)
 few:m.es.length≤k
 below:Below w0.heap.size w0 w
 new:∀ i,WdS p m i→w0.heap.size≤i
def WGo (w0:World) (k:Nat) (key:ByteArray) (gw:Nat) (es:List ByteArray) (e:Ending) (w':World):Prop:=
 e=.returned (.bool true)∧∃ p m L P,p.gw=gw∧m.es=es∧WSt w0 w' k key p m L P
def WPub (w0:World) (k:Nat) (key:ByteArray) (gw:Nat) (es:List ByteArray) (e:Ending) (w':World):Prop:=
 e=.returned (.bool true)∧∃ p m L,p.gw=gw∧m.es=es∧WSt w0 w' k key p m L es.length
section
variable {F:Nat→Addr} {w0 w:World} {k:Nat} {key:ByteArray} {p:Pl} {m:Wm} {L:Lg} {P:Nat}
theorem WSt.more (h:WSt w0 w k key p m L P) {j:Nat} (hj:k≤j):WSt w0 w j key p m L P:=by obtain⟨U,hU,hG⟩:=h.good;exact { h with good:=⟨U,by omega,hG.bound (Nat.mul_le_mul_right _ (by omega))⟩,few:=by have:=h.few;omega }
theorem WSt.env (h:WSt w0 w k key p m L P) (hn:Qad w0) (hS:Qbs w0 F) (hT:ErrT w0):EnvS F (WdS p m) w:=Qum h.below hn hS hT h.new
variable {w':World}
theorem WSt.turn (h:WSt w0 w k key p m L P) {p':Pl} {m':Wm} {L':Lg} {P':Nat} {U:List Nat} (hkey:m'.key=m.key) (hw':WdIs w' p' m') (hU:U.length≤k+1) (hG:Good m' U ((k+1+1)*2097152)) (hf:Fr (WdS p m) w w') (hs:Sub w (WdS p m) (WdS p' m'))
  (hr:RdW m' L' P') (hl:m'.es.length≤k+1):WSt w0 w' (k+1) key p' m' L' P':=by
 have hz:=h.below.size;refine⟨hw',hkey.trans h.mkey,hr,⟨U,hU,hG⟩,hl,h.below.trans (hf.below hz fun i hi hj=>by have:=h.new i hj;omega),fun i hi=>?_⟩;rcases hs i hi with e1|e1
 ·exact h.new i e1
 ·omega
theorem WSt.append (h:WSt w0 w k key p m L P) (hk:k≤4096) (hn:Qad w0) (hS:Qbs w0 F) (hT:ErrT w0) (s:ByteArray) (hs20:s.size≤20) :
  Calls prog 23 #[.pointer (some ⟨p.gw,0,none⟩),.string s] w (WGo w0 (k+1) key p.gw (m.es ++ [s])):=by
 obtain⟨U,hU,hG⟩:=h.good;have b:=h.few;refine (Qzg F w p m L s U ((k+1)*2097152) h.wd hG h.rdw.log h.rdw.foreign (h.env hn hS hT) (by omega) (by omega)).mono fun e w' hst=>?_
 obtain⟨he,p',m',x1,x2,x3,x4,x5,x6,x7,x8⟩:=hst;have em:m'=Q0z m L s:=by
  rcases x8 with ⟨h1,_⟩|⟨h1,_⟩|⟨_,h1⟩
  ·omega
  ·rw[h.rdw.live] at h1;cases h1
  ·exact h1
 subst em;have a:Good (Q0z m L s) (L.entries.length / 4 :: U) ((k+1+1)*2097152):=by
  rcases x4 with e1|⟨_,e1⟩
  ·have:=h.rdw.foreign
   have e2:m.foreign=true:=e1;rw[this] at e2;cases e2
  ·exact e1.bound (by omega)
 exact⟨he,p',_,_,P,x1,rfl,h.turn x2 x3 (by rw[List.length_cons];omega) a x5 x6 (Q5r h.rdw hs20) (by
  show (m.es ++ [s]).length≤k+1
  rw[List.length_append]
  simp
  omega)⟩
theorem WSt.publish (h:WSt w0 w k key p m L P) (hk:k≤4096) (hn:Qad w0) (hS:Qbs w0 F) (hT:ErrT w0) (hkey:key.size≤1048600) :
  Calls prog 22 #[.pointer (some ⟨p.gw,0,none⟩)] w (WPub w0 (k+1) key p.gw m.es):=by
 obtain⟨U,hU,hG⟩:=h.good;have c:=h.few;have a:m.es.length≤1048576:=by omega
 refine (Qul F w p m L U ((k+1)*2097152) h.wd hG h.rdw.log h.rdw.foreign h.rdw.live (h.env hn hS hT) (by omega) (by omega) (by rw[h.mkey];exact hkey)).mono fun e w' hst=>?_
 obtain⟨he,p',m',x1,x2,x3,x4,x5,x6,x7,x8⟩:=hst;have em:m'=pubW m L:=x8 (Qu2 h.rdw.toRdW0 a) (Q49 h.rdw.toRdW0 a).1;subst em;have b:Good (pubW m L) U ((k+1+1)*2097152):=by
  rcases x4 with e1|⟨_,e1⟩
  ·cases e1
  ·exact e1.bound (by omega)
 exact⟨he,p',pubW m L,_,x1,rfl,h.turn x2 x3 (by omega) b x5 x6 (Q8i h.rdw.toRdW0 a) (by
  show m.es.length≤k+1
  omega)⟩
end
def Q2d (w:World) (key:ByteArray) (l:List ByteArray) (e:Ending) (w':World):Prop:=
 ∃ p m L,e=.returned (.pointer (some ⟨p.gw,0,none⟩))∧m.es=l∧WSt w w' (2*l.length+2) key p m L l.length
variable {w':World}
theorem Q44 {w0 w:World} {key:ByteArray} {p:Pl} {e:Ending} (h:Q66 w0 [] key p w) (hop:Qsb (Q7h ⟨key,dk0 (firsts []),none,[],0,false,false⟩) w p ⟨key,dk0 (firsts []),none,[],0,false,false⟩ [] (0+1048576) e w') :
  e=.returned (.bool true)∧∃ p' m' L,p'.gw=p.gw∧m'.es = []∧WSt w0 w' 0 key p' m' L 0:=by
 obtain⟨he,p',m',x1,x2,x3,x4,x5,x6,x7,x8⟩:=hop;obtain⟨L,a,b,c⟩:=Q6g x8 rfl rfl rfl;have hG:Good m' [] (0+1048576):=by
  rcases x4 with e1|⟨_,e1⟩
  ·rw[a.foreign] at e1;cases e1
  ·exact e1
 refine⟨he,p',m',L,x1,b,x3,c,a,⟨[],Nat.le_refl _,hG.bound (by omega)⟩,by rw[b];exact Nat.le_refl _,h.2.1.trans (x5.below h.2.1.size fun i hi hj=>by have:=h.2.2 i hj;omega),fun i hi=>?_⟩;rcases x6 i hi with e1|e1
 ·exact h.2.2 i e1
 ·have:=h.2.1.size;omega
end
section
structure LiSt (w0 w:World) (k gd ga gc gk mc gn:Nat) (vl vt:Value) (n:Nt) (c:Cl) (qs:List CEnt):Prop where
 net:Y1 w gn gd vl vt n
 pc:PcAt w ga gc
 cl:ClIs w gc gk mc (.iface 48 (.pointer (some ⟨gn,0,none⟩))) c qs
 below:Below w0.heap.size w0 w
 new:∀ i,cnS gc gk mc gn vt qs i→w0.heap.size≤i
 fetches:n.fetches≤k*900000
structure Qjy (n:Nt):Prop where
 steady:Jo n
 files:∀ f∈n.files,f.2.size≤1048576
 lies:∀ l∈n.lies,l.data.size≤1048576
variable {n:Nt}
theorem Qjy.small (h:Qjy n):Qa6 n:=⟨fun f hf=>by have:=h.files f hf;omega,fun l hl=>by have:=h.lies l hl;omega⟩
theorem Qjy.fetch (h:Qjy n) {p:ByteArray} {d:List UInt8} (hd:Q6 n p=some d):d.length≤1048576:=by
 unfold Q6 at hd
 split at hd
 ·obtain⟨l,hl,h2⟩:=Option.bind_eq_some_iff.1 hd
  split at h2
  ·cases h2
  ·rw[←Option.some.inj h2]
   have:=h.lies l (List.mem_of_getElem? hl)
   simpa using this
 ·obtain⟨b,hb,rfl⟩:=Option.map_eq_some_iff.1 hd
  have:=h.files _ (Qai hb)
  simpa using this
section
variable {F:Nat→Addr} {w0 w:World} {k gd ga gc gk mc gn:Nat} {vl vt v:Value} {n:Nt} {c:Cl} {qs:List CEnt} {d:Dk}
theorem LiSt.lt (h:LiSt w0 w k gd ga gc gk mc gn vl vt n c qs):∀ i,cnS gc gk mc gn vt qs i→i<w.heap.size:=fun i hi=>by
 rcases hi with hk|hk|hk
 ·exact h.cl.ltS hk
 ·exact hk ▸ h.net.lt
 ·obtain⟨C,hC⟩:=Qe h.net.told hk
  exact Qc hC
theorem LiSt.kinds (h:LiSt w0 w k gd ga gc gk mc gn vl vt n c qs):Qa0 w (cnS gc gk mc gn vt qs) (([205] ++ [253,251]) ++ [126,3]):=((Q5 h.cl.cells).or (Qbl h.cl.cache)).or (Qdu h.net)
theorem LiSt.env (h:LiSt w0 w k gd ga gc gk mc gn vl vt n c qs) (hn:Qad w0) (hS:Qbs w0 F) (hT:ErrT w0):EnvS F (cnS gc gk mc gn vt qs) w:=Qum h.below hn hS hT h.new
variable {w':World}
theorem LiSt.grow (h:LiSt w0 w k gd ga gc gk mc gn vl vt n c qs) (hb:Below w.heap.size w w'):LiSt w0 w' k gd ga gc gk mc gn vl vt n c qs:=
 { h with net:=h.net.below hb,pc:=(hb.block _ (Qc h.pc)).trans h.pc,cl:=h.cl.below hb,below:=h.below.trans (hb.mono h.below.size) }
theorem LiSt.told (h:LiSt w0 w k gd ga gc gk mc gn vl vt n c qs) {tb:Nat} {x:Int} {s:ByteArray} (ht:Zr w tb x s) (htb:w0.heap.size≤tb) (hf:Fr (·=tb) w w'):LiSt w0 w' k gd ga gc gk mc gn vl vt n c qs:=by have hk:=Q5 ht;exact { h with net:=J1 h.net hf hk (by decide) (by decide) (by decide),pc:=Zl h.pc hf hk (by decide),cl:=h.cl.kept hf hk (fun i hi=>⟨_,_,_,hi ▸ ht⟩) (by decide) (by decide) (by decide) (by decide),below:=h.below.trans (hf.below h.below.size fun i hi e=>by omega) }
theorem LiSt.next (h:LiSt w0 w k gd ga gc gk mc gn vl vt n c qs) {c':Cl} {n':Nt} {qs':List CEnt} (hf:Fr (cnS gc gk mc gn vt qs) w w') (hs:Sub w (cnS gc gk mc gn vt qs) (cnS gc gk mc gn vt qs')) (hcl:ClIs w' gc gk mc (.iface 48 (.pointer (some ⟨gn,0,none⟩))) c' qs') (hn:Y1 w' gn gd vl vt n')
  (hfe:n'.fetches≤n.fetches+900000):LiSt w0 w' (k+1) gd ga gc gk mc gn vl vt n' c' qs'∧∀ tb x u,Zr w tb x u→Zr w' tb x u:=by
 have hz:=h.below.size;refine⟨⟨hn,Zl h.pc hf h.kinds (by decide),hcl,h.below.trans (hf.below hz fun i hi e=>by have:=h.new i e;omega),fun i hi=>?_,?_⟩,fun tb x u ht=>ht.kept hf h.kinds (by decide)⟩
 ·rcases hs i hi with e|e
  ·exact h.new i e
  ·omega
 ·have:=h.fetches
  omega
theorem LiSt.lied (h:LiSt w0 w k gd ga gc gk mc gn vl vt n c qs) {vl' vt':Value} {l:List Lie1} {ts:List Nat} (hn:Y1 w' gn gd vl' vt' { n with lies:=l,told:=ts }) (hf:Fr (netS gn vt) w w') (hs:Sub w (netS gn vt) (netS gn vt')) :
  LiSt w0 w' k gd ga gc gk mc gn vl' vt' { n with lies:=l,told:=ts } c qs∧∀ tb x u,Zr w tb x u→Zr w' tb x u:=by
 have hk:=Qdu h.net;have hz:=h.below.size;refine⟨{ h with net:=hn,pc:=Zl h.pc hf hk (by decide),cl:=h.cl.kept hf hk (fun i hi=>?_) (by decide) (by decide) (by decide) (by decide),below:=h.below.trans (hf.below hz fun i hi e=>by have:=h.new i (.inr e);omega),new:=fun i hi=>?_ },fun tb x u ht=>ht.kept hf hk (by decide)⟩
 ·rcases hi with e|e
  ·exact⟨_,_,_,e ▸ h.net.cells⟩
  ·obtain⟨C,hC⟩:=Qe h.net.told e
   exact⟨C,_,_,hC⟩
 ·rcases hi with e|e
  ·exact h.new i (.inl e)
  ·rcases hs i e with e1|e1
   ·exact h.new i (.inr e1)
   ·omega
def Q6k (w0 w:World) (k gd ga gc gk mc gn:Nat) (vl vt:Value) (r:Tld×List Hsh×Cl×Nt) (e:Ending) (w':World):Prop:=
 ∃ (v':Value) (qs':List CEnt),e=.returned (.tuple #[v',Qaa r.1.1 r.1.2])∧Q0 w' w.heap.size v' (r.2.1.map HS)∧LiSt w0 w' k gd ga gc gk mc gn vl vt r.2.2.2 r.2.2.1 qs'∧∀ tb x u,Zr w tb x u→Zr w' tb x u
def LiRd (w0 w:World) (k gd ga gc gk mc gn:Nat) (vl vt:Value) (r:Tld×(List UInt8×List Hsh)×Cl×Nt) (e:Ending) (w':World):Prop:=
 ∃ (nn:Bool) (v':Value) (qs':List CEnt),e=.returned (.tuple #[.string (sOf r.2.1.1),.bool nn,v',Qaa r.1.1 r.1.2])∧(r.1=Qdk∨nn=true)∧Q0 w' w.heap.size v' (r.2.1.2.map HS)∧LiSt w0 w' k gd ga gc gk mc gn vl vt r.2.2.2 r.2.2.1 qs'∧∀ tb x u,Zr w tb x u→Zr w' tb x u
theorem LiSt.update (h:LiSt w0 w k gd ga gc gk mc gn vl vt n c qs) (hk:k≤100) (hD:Q1 w0 gd v d) (hdf:n.files=d.files) (hn:Qad w0) (hS:Qbs w0 F) (hT:ErrT w0) (hN:Qjy n) (hkey:c.key.size≤9223372036854775807) (hit:c.cache.items = []) (hsz:c.size≤8192) :
  Calls prog 29 #[.pointer (some ⟨ga,0,none⟩)] w (Q6k w0 w (k+1) gd ga gc gk mc gn vl vt (Y0 c n)):=by
 have hb:=Qa w (.cells #[.int .i64 0,.string ⟨#[]⟩] 63);have hE:=h.env (F:=F) hn hS hT;have g:=Qr2 (c:=c) (n:=n);have i:=Qmt hN.steady hit (by omega);have j:=h.fetches;have hd:=(hD.below h.below).below hb;refine (Qzb F w ga gc gk mc gn gd vl vt qs (Y0 c n) h.pc hE h.lt (by omega) ?_).mono fun e w' hq=>?_
 ·refine Qzu F _ gc gk mc gn gd vl vt v c qs n d (h.cl.below hb) (h.net.below hb) hd hdf.symm (hE.below hb) (by omega) hkey (fun data hd=>hN.fetch hd) (by omega) fun data N hd hok hNe hlt hpos=>?_
  have b:N<9223372036854775808:=by
   have:=((Js data c.key.data.toList).1 hok).2.1
   omega
  have hT:=Qgy (N:=N) (m:=c.size) (by omega) hpos (by omega);have e1:(Zy n (sOf kCp)).fetches=n.fetches+1:=(Yj n (sOf kCp)).2.2;refine⟨⟨?_,?_,Qhb hN.small _⟩,Qp7 b hN.steady hpos (by omega) (by omega) (Qcf n _) hit,?_⟩
  ·show (Zy n (sOf kCp)).fetches+_<_
   omega
  ·show 0+_<_
   omega
  ·rw[hit]
   show 0+_<_;omega
 ·obtain⟨v',he,ho,qs',f,a,hf,hs⟩:=hq
  obtain⟨h1,h2⟩:=h.next hf hs f a (by omega);exact⟨v',qs',he,ho,h1,h2⟩
theorem LiSt.read (h:LiSt w0 w k gd ga gc gk mc gn vl vt n c qs) (hk:k≤100) (hD:Q1 w0 gd v d) (hdf:n.files=d.files) (hn:Qad w0) (hS:Qbs w0 F) (hT:ErrT w0) (hN:Qjy n) (hit:c.cache.items = []) (hsz:c.size≤8192) (j:Nat) (hj:j<c.size) :
  Calls prog 36 #[.pointer (some ⟨ga,0,none⟩),.int .i64 j] w (LiRd w0 w (k+1) gd ga gc gk mc gn vl vt (Qcx c n j)):=by
 have hb:=Qa w (.cells #[.int .i64 0,.string ⟨#[]⟩] 63);have hE:=h.env (F:=F) hn hS hT;have m:=Qze (n:=n) (i:=(j:Int)) hsz;have o:=Qs8 hN.steady hit rfl (by omega:c.size<2 ^ 44) hj;have q:=h.fetches;have r:=Qho hsz hj;refine (Q4a F w ga gc gk mc gn gd vl vt j qs (Qcx c n j) h.pc hE h.lt (by omega) ?_).mono fun e w' hq=>?_
 ·refine Q5g F _ gc gk mc gn gd vl vt v c qs n d (h.cl.below hb) (h.net.below hb) ((hD.below h.below).below hb) hdf.symm (hE.below hb) j hj (by omega) ⟨?_,?_,hN.small⟩ ?_ (Qrb (by omega) hN.steady hj hit) ?_
  ·show n.fetches+_<_
   omega
  ·show 0+_<_
   omega
  ·intro b s1 f
   have:=Q1f (by omega) hN.steady hj hit (fun p d hd=>hN.fetch hd) f
   omega
  ·rw[hit]
   show 0+_<_;omega
 ·obtain⟨nn,v',he,_,g,ho,qs',l,a,hf,hs⟩:=hq
  obtain⟨h1,h2⟩:=h.next hf hs l a (by omega);exact⟨nn,v',qs',he,g,ho,h1,h2⟩
theorem LiSt.trusted (h:LiSt w0 w k gd ga gc gk mc gn vl vt n c qs) :
  Calls prog 31 #[.pointer (some ⟨ga,0,none⟩)] w fun e w'=>e=.returned (.tuple #[.int .i64 c.size,.string (HS c.root)])∧LiSt w0 w' k gd ga gc gk mc gn vl vt n c qs∧(∀ tb x u,Zr w tb x u→Zr w' tb x u)∧Fr (·=gc) w w':=by
 refine (Qr1 w ga gc gk mc _ c qs h.pc h.cl).mono fun e w' hq=>?_
 obtain⟨he,a,hf⟩:=hq;have hk:=Q5 h.cl.cells;exact⟨he,{ h with net:=J1 h.net hf hk (by decide) (by decide) (by decide),pc:=Zl h.pc hf hk (by decide),cl:=a,below:=h.below.trans (hf.below h.below.size fun i hi e=>by have:=h.new i (.inl (.inl e));omega) },fun tb x u ht=>ht.kept hf hk (by decide),hf⟩
theorem Qv1 {w1 w2 w3:World} {key:ByteArray} {cap:Int} {fs:List Fil} (hb1:Below w0.heap.size w0 w1)
  (hn:Y1 w2 gn gd (.slice none 0 0) (.slice none 0 0) ⟨fs,[],[],0⟩) (hb2:Below w1.heap.size w1 w2) (hg:w1.heap.size≤gn) (hpc:PcAt w3 ga gc) (hcl:ClIs w3 gc gk mc (.iface 48 (.pointer (some ⟨gn,0,none⟩))) ⟨key,0,hash [],⟨cap.toNat,[]⟩⟩ []) (hb3:Below w2.heap.size w2 w3) (h2:w2.heap.size≤gc) (h3:w2.heap.size≤gk) (h4:w2.heap.size≤mc) :
  LiSt w0 w3 0 gd ga gc gk mc gn (.slice none 0 0) (.slice none 0 0) ⟨fs,[],[],0⟩ ⟨key,0,hash [],⟨cap.toNat,[]⟩⟩ [] where
 net:=hn.below hb3
 pc:=hpc
 cl:=hcl
 below:=(hb1.trans (hb2.mono hb1.size)).trans (hb3.mono (Nat.le_trans hb1.size hb2.size))
 new i hi:=by
  have z1:=hb1.size
  have z2:=hb2.size
  rcases hi with (e|e|e|e)|e|e
  ·omega
  ·omega
  ·omega
  ·simp at e
  ·omega
  ·cases e
 fetches:=Nat.le_refl _
end
end
section
def lieF (n:Nt):List Fil:=n.lies.map fun l=>(l.path,l.data)
theorem Qgn (n:Nt):(lieF n).length=n.lies.length:=by simp[lieF]
variable {n:Nt} {i:Nat} {x:Lie1}
theorem Qlh (h:n.lies[i]?=some x):(lieF n)[i]?=some (x.path,x.data):=by unfold lieF;rw[List.getElem?_map,h];rfl
theorem Qn7 (h:Jo n) {p:ByteArray} (hi:n.lies[i]?=some x):Qco n p i=decide (x.path=p):=by
 unfold Qco;rw[hi];have h0:=h x (List.mem_of_getElem? hi)
 have:¬ 0<x.times:=by omega
 simp[this]
theorem Qkn (h:Jo n) (p:ByteArray):∀ k i,i+k=n.lies.length→
  (Jj n p k i=none∧∀ j,i≤j→∀ y,(lieF n)[j]?=some y→¬ y.1=p)∨∃ j x,Jj n p k i=some j∧n.lies[j]?=some x∧x.path=p∧∀ j',i≤j'→j'<j→∀ y,(lieF n)[j']?=some y→¬ y.1=p
 | 0,i,e=>.inl ⟨rfl,fun j hj y hy=>by
   have:=(List.getElem?_eq_some_iff.1 hy).1
   rw[Qgn] at this
   omega⟩
 | k+1,i,e=>by
  obtain⟨x,hx⟩:∃ x,n.lies[i]?=some x:=⟨_,List.getElem?_eq_getElem (by omega)⟩
  rw[Jj,Qn7 h hx]
  by_cases hp:x.path=p
  ·rw[if_pos (by simp[hp])]
   exact .inr ⟨i,x,rfl,hx,hp,fun j' h1 h2=>by omega⟩
  ·rw[if_neg (by simp[hp])]
   have a:∀ y,(lieF n)[i]?=some y→¬ y.1=p:=fun y hy=>by
    rw[Qlh hx] at hy
    cases hy
    exact hp
   rcases Qkn h p k (i+1) (by omega) with ⟨h1,h2⟩|⟨j,z,h1,h2,h3,h4⟩
   ·refine .inl ⟨h1,fun j hj y hy=>?_⟩
    by_cases hji:j=i
    ·subst hji;exact a y hy
    ·exact h2 j (by omega) y hy
   ·refine .inr ⟨j,z,h1,h2,h3,fun j' h5 h6 y hy=>?_⟩
    by_cases hji:j'=i
    ·subst hji;exact a y hy
    ·exact h4 j' (by omega) h6 y hy
theorem Qp3 (h:Jo n) (p:ByteArray):(Jc (lieF n) p = -1∧Q6 n p=(getF n.files p).map (·.data.toList))∨
  ∃ (k:Nat) (x:Lie1),Jc (lieF n) p=(k:Int)∧n.lies[k]?=some x∧Q6 n p=if x.fails=true then none else some x.data.data.toList:=by
 rcases Qkn h p n.lies.length 0 (by omega) with ⟨h1,h2⟩|⟨j,x,h1,h2,h3,h4⟩
 ·refine .inl ⟨Qjl fun j _ y hy=>h2 j (Nat.zero_le _) y hy,?_⟩
  have hl:Qcd n p=none:=h1;unfold Q6;rw[hl]
 ·refine .inr ⟨j,x,Qnf (Qlh h2) h3 fun j' hj' y hy=>h4 j' (Nat.zero_le _) hj' y hy,h2,?_⟩
  have hl:Qcd n p=some j:=h1;unfold Q6;rw[hl];dsimp only;rw[h2];rfl
structure NetR (w:World) (nb:Nat) (v0 v1 v2:Value) (n:Nt):Prop where
 cells:w.heap[nb]?=some (.cells #[v0,v1,v2] 150 (0,0))
 files:Jv w v0 n.files
 lies:Jv w v1 (lieF n)
 fails:Qe2 w v2 n.lies.length (n.lies.map fun l=>Value.bool l.fails)
 steady:Jo n
 small:(∀ x∈n.files,x.2.size≤1099511627776)∧∀ l∈n.lies,l.data.size≤1099511627776
 few:n.files.length≤1099511627776∧n.lies.length≤1099511627776
theorem NetR.below {w w':World} {nb:Nat} {v0 v1 v2:Value} (h:NetR w nb v0 v1 v2 n) (hb:Below w.heap.size w w'):NetR w' nb v0 v1 v2 n:=
 ⟨(hb.block _ (Qc h.cells)).trans h.cells,h.files.below hb,h.lies.below hb,h.fails.below hb,h.steady,h.small,h.few⟩
theorem Qgu (w:World) (nb:Nat) (v0 v1 v2:Value) (n:Nt) (p:ByteArray) (h:NetR w nb v0 v1 v2 n) :
  Calls prog 94 #[.pointer (some ⟨nb,0,none⟩),.string p] w fun e w'=>(∃ s,e=.returned (.tuple #[.string s,.bool (Q6 n p).isSome])∧(∀ d,Q6 n p=some d→s.data.toList=d)∧s.size≤1099511627776)∧Below w.heap.size w w':=by
 have c0:w.cell? ⟨nb,0,none⟩=some v0:=Qd h.cells 0 rfl;have c1:w.cell? ⟨nb,1,none⟩=some v1:=Qd h.cells 1 rfl;have c2:w.cell? ⟨nb,2,none⟩=some v2:=Qd h.cells 2 rfl;have z:nb<w.heap.size:=Qc h.cells;have g:=zh (Yf w v1 (lieF n) p h.lies (by rw[Qgn];exact h.few.2));have i:=zh (Yf w v0 n.files p h.files h.few.1);have H:=zh h;rcases Qp3 h.steady p with ⟨hf,ha⟩|⟨k,x,hf,hx,ha⟩
 ·have HF:=zh hf
  have HA:=zh ha;rcases Qaj n.files p with ⟨g1,g2⟩|⟨j,b,hj,g1,g2,g3⟩
  ·have HG:=zh (And.intro g1 g2)
   clear h hf ha g1 g2
   go_enter func94,ntmps94
   go_wp2_with (first
    | (go_at_call 27;first|(with_reducible refine g.o.mono ?_;rintro e w3 ⟨rfl,rfl⟩;rw[HF.o])|(with_reducible refine i.o.mono ?_;rintro e w3 ⟨rfl,rfl⟩;rw[HG.o.1]))
    | fail)
   go_ret2;refine⟨⟨_,by rw[HA.o,HG.o.2];rfl,fun d hd=>?_,by decide⟩,Below.refl _ _⟩;rw[HA.o,HG.o.2] at hd;cases hd
  ·obtain⟨a,c,ev,hc,f⟩:=h.files
   obtain⟨bb,off,rfl,_,d2⟩:=f j _ g2;subst ev;have r:bb<w.heap.size:=Qk d2;have u:(0:Int)≤(j:Int):=by omega
   have v:(j:Int)<(n.files.length:Int):=by omega
   have q:¬ (j:Int)<0:=by omega
   have hs:=h.small.1 _ (List.mem_of_getElem? g2);dsimp only at d2 hs;have HS:=zh hs;have HG:=zh (And.intro g1 g3);clear h hf ha g1 g3 f hs g2 hj
   go_enter func94,ntmps94
   go_wp2_with (first
    | (go_at_call 27;first|(with_reducible refine g.o.mono ?_;rintro e w3 ⟨rfl,rfl⟩;rw[HF.o])|(with_reducible refine i.o.mono ?_;rintro e w3 ⟨rfl,rfl⟩;rw[HG.o.1]))
    | fail)
   go_ret2;refine⟨⟨_,by rw[HA.o,HG.o.2];rfl,fun d hd=>?_,HS.o⟩,Below.refl _ _⟩;rw[HA.o,HG.o.2] at hd;cases hd;rfl
 ·obtain⟨a,c,ev,hc,f⟩:=h.lies
  obtain⟨bb,off,rfl,_,d2⟩:=f k _ (Qlh hx);obtain⟨a2,cc,m,A,l⟩:=h.fails;obtain⟨b2,o2,rfl,d3⟩:=l k (.bool x.fails) (by rw[List.getElem?_map,hx];rfl);subst ev m;have r:bb<w.heap.size:=Qk d2;have y:b2<w.heap.size:=Qk d3;have t:k<n.lies.length:=(List.getElem?_eq_some_iff.1 hx).1;have u:(0:Int)≤(k:Int):=by omega
  have v:(k:Int)<((lieF n).length:Int):=by rw[Qgn];omega
  have q:¬ (k:Int)<0:=by omega
  have B:(k:Int)<(n.lies.length:Int):=by omega
  have hs:=h.small.2 _ (List.mem_of_getElem? hx);dsimp only at d2;have HS:=zh hs;have HF:=zh hf;have HA:=zh ha;clear h hf ha f l hs hx t
  go_enter func94,ntmps94
  go_wp2_with (first
   | (go_at_call 27;(with_reducible refine g.o.mono ?_;rintro e w3 ⟨rfl,rfl⟩;rw[HF.o]))
   | fail)
  go_quiet (fail)
  go_wp2;go_ret2;refine⟨⟨x.data,?_,fun d hd=>?_,HS.o⟩,Ze (Below.refl _ _) _⟩
  ·rw[HA.o]
   cases x.fails <;> rfl
  ·rw[HA.o] at hd
   cases hfl:x.fails with
   | true=>rw[hfl] at hd;cases hd
   | false=>rw[hfl] at hd;cases hd;rfl
end
section
def lieG (l:List Lie1):List Fil:=l.map fun x=>(x.path,x.data)
def lieB (l:List Lie1):List Value:=l.map fun x=>Value.bool x.fails
structure NB (w0 w:World) (nb:Nat) (v0 v1 v2:Value) (fs:List Fil) (ls:List Lie1) (k1 k2:Nat):Prop where
 cells:w.heap[nb]?=some (.cells #[v0,v1,v2] 150 (0,0))
 f:w.ownsRow w0.heap.size 61 2 v0 fs.length (Zg fs)
 l:w.ownsRow w0.heap.size 61 2 v1 k1 (Zg ((lieG ls).take k1))
 b:w.ownsRow w0.heap.size 4 1 v2 k2 ((lieB ls).take k2)
 bel:Below w0.heap.size w0 w
 low:w0.heap.size≤nb
 apart:∀ k,v0.ownBlock=some k→v1.ownBlock≠some k
section
variable {w0 w W w':World} {nb k1 k2:Nat} {v0 v1 v2 v':Value} {fs:List Fil} {ls:List Lie1}
theorem NB.ne0 (h:NB w0 w nb v0 v1 v2 fs ls k1 k2):∀ k,v0.ownBlock=some k→k≠nb:=fun k hk e=>by
 obtain⟨C,hC⟩:=Qe h.f hk
 exact Zp hC h.cells (by decide) e
theorem NB.ne1 (h:NB w0 w nb v0 v1 v2 fs ls k1 k2):∀ k,v1.ownBlock=some k→k≠nb:=fun k hk e=>by
 obtain⟨C,hC⟩:=Qe h.l hk
 exact Zp hC h.cells (by decide) e
theorem NB.ne2 (h:NB w0 w nb v0 v1 v2 fs ls k1 k2):∀ k,v2.ownBlock=some k→k≠nb:=fun k hk e=>by
 obtain⟨C,hC⟩:=Qe h.b hk
 exact Zp hC h.cells (by decide) e
variable {x:Lie1}
theorem NB.addL (h:NB w0 w nb v0 v1 v2 fs ls k1 k2) (hx:ls[k1]?=some x) (hb:Below w.heap.size w W) (h2:w'.ownsRow w0.heap.size 61 2 v' (k1+1) (Zg ((lieG ls).take k1) ++ [.string x.path,.string x.data])) (h3:W.grownBy w' v1.ownBlock) (h4:J2 W v1 v') :
  NB w0 (w'.setCell ⟨nb,1,none⟩ v') nb v0 v' v2 fs ls (k1+1) k2:=by
 have hf:Fr (fun k=>v1.ownBlock=some k) w w':=(Fr.ofBelow hb).trans (Fr.ofGrown h3 fun k _ e=>e);have hc:=hf.heap h.cells fun e=>h.ne1 nb e rfl
 have a:Fr (fun k=>k=nb∨v1.ownBlock=some k) w (w'.setCell ⟨nb,1,none⟩ v'):=(hf.weak fun k _ e=>.inr e).trans ((Fr.set1 w' nb 1 v').weak fun k _ e=>.inl e);have c:∀ k,v'.ownBlock=some k→k≠nb:=fun k hk e=>by obtain⟨C,hC⟩:=Qe h2 hk;exact Zp hC hc (by decide) e
 refine⟨(heap_setCell hc _).trans (by simp),Q3 h.f a fun k hk e=>?_,?_,Q3 h.b a fun k hk e=>?_,?_,h.low,fun k hk e=>?_⟩
 ·rcases e with e|e
  ·exact h.ne0 k hk e
  ·exact h.apart k hk e
 ·have:=Q3 h2 (Fr.set1 w' nb 1 v') fun k hk e=>c k hk e
  have e:(lieG ls).take (k1+1)=(lieG ls).take k1 ++ [(x.path,x.data)]:=by rw[List.take_add_one];unfold lieG;rw[List.getElem?_map,hx];rfl
  rw[e,Qbo];exact this
 ·rcases e with e|e
  ·exact h.ne2 k hk e
  ·obtain⟨C,hC⟩:=Qe h.b hk
   obtain⟨C',d⟩:=Qe h.l e;exact Zp hC d (by decide) rfl
 ·refine h.bel.trans (a.below h.bel.size fun k hk e=>?_)
  rcases e with e|e
  ·have:=h.low;omega
  ·have:=(h.l.lt k e).1;omega
 ·rcases h4 k e with e|e
  ·exact h.apart k hk e
  ·obtain⟨C,hC⟩:=Qe h.f hk
   have h5:=Qc hC;have h6:=hb.size;omega
theorem NB.addB (h:NB w0 w nb v0 v1 v2 fs ls k1 k2) (hx:ls[k2]?=some x) (hb:Below w.heap.size w W) (h2:w'.ownsRow w0.heap.size 4 1 v' (k2+1) ((lieB ls).take k2 ++ [.bool x.fails])) (h3:W.grownBy w' v2.ownBlock) :
  NB w0 (w'.setCell ⟨nb,2,none⟩ v') nb v0 v1 v' fs ls k1 (k2+1):=by
 have hf:Fr (fun k=>v2.ownBlock=some k) w w':=(Fr.ofBelow hb).trans (Fr.ofGrown h3 fun k _ e=>e);have hc:=hf.heap h.cells fun e=>h.ne2 nb e rfl
 have a:Fr (fun k=>k=nb∨v2.ownBlock=some k) w (w'.setCell ⟨nb,2,none⟩ v'):=(hf.weak fun k _ e=>.inr e).trans ((Fr.set1 w' nb 2 v').weak fun k _ e=>.inl e);have d:∀ k,v'.ownBlock=some k→k≠nb:=fun k hk e=>by obtain⟨C,hC⟩:=Qe h2 hk;exact Zp hC hc (by decide) e
 refine⟨(heap_setCell hc _).trans (by simp),Q3 h.f a fun k hk e=>?_,Q3 h.l a fun k hk e=>?_,?_,?_,h.low,h.apart⟩
 ·rcases e with e|e
  ·exact h.ne0 k hk e
  ·obtain⟨C,hC⟩:=Qe h.f hk
   obtain⟨C',c⟩:=Qe h.b e;exact Zp hC c (by decide) rfl
 ·rcases e with e|e
  ·exact h.ne1 k hk e
  ·obtain⟨C,hC⟩:=Qe h.l hk
   obtain⟨C',c⟩:=Qe h.b e;exact Zp hC c (by decide) rfl
 ·have:=Q3 h2 (Fr.set1 w' nb 2 v') fun k hk e=>d k hk e
  have e:(lieB ls).take (k2+1)=(lieB ls).take k2 ++ [.bool x.fails]:=by rw[List.take_add_one];unfold lieB;rw[List.getElem?_map,hx];rfl
  rw[e];exact this
 ·refine h.bel.trans (a.below h.bel.size fun k hk e=>?_)
  rcases e with e|e
  ·have:=h.low;omega
  ·have:=(h.b.lt k e).1;omega
end
theorem Q5z:(prog.info? 4).map (fun i=>(i.zero,i.size,i.bytes))=some (some (.bool false),1,1):=by kernel_rfl
theorem Qym (w:World) (x:Value) (t:TypeId) (n:Nat) (hn:n=w.heap.size):∀ (j:Nat) (u:Value),[x][j]?=some u→(w.alloc (.cells #[x] t)).cell? ((⟨n,0,none⟩:Addr).add j)=some u:=by intro j u hu;rw[Addr.add_lit,World.cell?_alloc_at _ _ _ _ hn];simpa using hu
theorem Qwj (l:List Lie1):(lieG l).length=l.length:=by simp[lieG]
def Q6h (m:Wm) (ls:List Lie1) (w:World) (e:Ending) (w':World):Prop:=
 ∃ nb v0 v1 v2 l',e=.returned (.pointer (some ⟨nb,0,none⟩))∧l'.Perm m.d.files∧NB w w' nb v0 v1 v2 l' ls ls.length ls.length
theorem Qwx (w:World) (p:Pl) (m:Wm) (h:WdIs w p m) (hn:m.d.files.length≤1000000000000) (vl:Value) (ls:List Lie1) (hv:w.ownsRow 0 47 4 vl ls.length (Qar ls)) (hll:ls.length≤1000000) :
  Calls prog 32 #[.pointer (some ⟨p.gw,0,none⟩),vl] w (Q6h m ls w):=by
 have HC:=zh (Qdc w p m h hn);obtain⟨i0,B,z,D,v⟩:=Qj4;have HI:=zh (⟨B,z,D,v⟩:_∧_∧_∧_);obtain⟨ib,J,G,F,t⟩:=info_parts Q5z;have n:=zh (⟨J,G,F,t⟩:_∧_∧_∧_);obtain⟨al,cl,rfl⟩:=Zi hv;have HV:=zh hv;clear h hv B z D v J G F t
 go_enter func32,ntmps32
 go_upto_region 2 with (first|(go_at_call 26;refine HC.o.mono ?_;rintro e w1 ⟨v1,l1,rfl,s,A,C⟩;obtain⟨a1,u,rfl⟩:=Zi s;have L:=zh s;have N:=zh A;have q:=zh C;clear s A C)|fail)
 have H:NB w (w1.alloc (.cells #[.slice a1 l1.length u,.slice none 0 0,.slice none 0 0] 150)) w1.heap.size (.slice a1 l1.length u) (.slice none 0 0) (.slice none 0 0) l1 ls 0 0:=
  ⟨heap_alloc_new w1 _,World.ownsRow.alloc L.o _,World.ownsRow_nil _ _ _ _,World.ownsRow_nil _ _ _ _,q.o.alloc q.o.size _,q.o.size,fun k _=>by simp[Value.ownBlock]⟩
 have M:=zh H;clear H
 go_wp2_with fail
 go_loopg [6] ls.length (fun gg s6 wr=>∃ (k:Nat) (v1 v2:Value),k≤ls.length∧ls.length-k≤gg∧s6=.int .i64 k∧Aside (NB w wr w1.heap.size (.slice a1 l1.length u) v1 v2 l1 ls k k))
 case atStart=>exact⟨0,_,_,Nat.zero_le _,by omega,rfl,M.o⟩
 case round=>
  obtain⟨k,v1,v2,hk,hg,rfl,a⟩:=hrel;by_cases hlt:k<ls.length
  ·obtain⟨x,hx⟩:∃ x,ls[k]?=some x:=⟨_,List.getElem?_eq_getElem hlt⟩
   obtain⟨bl,rfl⟩:∃ bl,al=some ⟨bl,0,none⟩:=by
    rcases HV.o.2 with ⟨_,h0⟩|⟨b,cap,cur,e,_⟩
    ·omega
    ·simp at e;exact⟨b,e.1⟩
   have hN:=a.o;have f:=Ql HV.o hN.bel;obtain⟨f1,f2,f3,_⟩:=Qlq ls k x hx;have k1:=Qev f (k*4) _ f1;have k2:=Qev f (k*4+1) _ f2;have k3:=Qev f (k*4+2) _ f3;rw[Addr.add_lit] at k1 k2 k3;simp only[Nat.zero_add] at k1 k2 k3;have K:=Qk k1;have n1:wr.cell? ⟨w1.heap.size,1,none⟩=some v1:=Qd hN.cells 1 rfl;have I:=Qc hN.cells;have y:k+1≤1099511627776:=by omega
   have hz:=hN.bel.size;have S:(0:Int)≤(k:Int):=by omega
   have r:(k:Int)<(ls.length:Int):=by omega
   have HX:=zh hx;have P:=zh f3;clear hN f f1 f2 f3 hx k3
   go_wp2_with fail
   go_region_law (refine Qcp rfl _ _ _ rfl w.heap.size 61 i0 _ 2 32 underlying56 HI.o.1 HI.o.2.1 HI.o.2.2.1 HI.o.2.2.2 rfl (by decide) (by decide) v1 k (Zg ((lieG ls).take k)) rfl (Ql a.o.l ((Qn wr).alloc (Nat.le_refl _) _)) ⟨wr.heap.size,0,none⟩ 1 1 [.string x.path,.string x.data] rfl rfl (Qdf _ _ _ _ _ rfl) (by simp[Value.oneCell']) (by decide) y (by simp;omega) ?_;intro v' w' h2 h3 h4 h5;obtain⟨gb,cp,rfl,O⟩:=Jm h2 h5;have N5:=zh (NB.addL a.o HX.o ((Qn wr).alloc (Nat.le_refl _) _) h2 h3 h4);have i:Fr (fun k=>v1.ownBlock=some k) wr w':=(Fr.ofBelow ((Qn wr).alloc (Nat.le_refl _) _)).trans (Fr.ofGrown h3 fun k _ e=>e);have g:=i.heap a.o.cells (fun e=>a.o.ne1 _ e rfl);have k4:=Qd g 1 rfl;have k5:=Qs g 1;clear h2 h3 h4 h5 i g)
   all_goals (
    obtain⟨W5,E⟩:∃ W,W=w'.setCell ⟨w1.heap.size,1,none⟩ (.slice (some ⟨gb,0,none⟩) (k+1) cp):=⟨_,rfl⟩
    have c:=N5.o
    rw[←E] at c ⊢
    clear E N5 k1 k2 k4 k5 n1 K I hz O
    have f:=Ql HV.o c.bel
    have k3:=Qev f (k*4+2) _ P.o
    rw[Addr.add_lit] at k3
    simp only[Nat.zero_add] at k3
    have K:=Qk k3
    have n2:W5.cell? ⟨w1.heap.size,2,none⟩=some v2:=Qd c.cells 2 rfl
    have I:=Qc c.cells
    have hz:=c.bel.size
    have j:=zh c
    clear c f
    go_wp2_with fail
    go_region_law (refine Qcp rfl _ _ _ rfl w.heap.size 4 ib _ 1 1 underlying148 n.o.1 n.o.2.1 n.o.2.2.1 n.o.2.2.2 rfl (by decide) (by decide) v2 k ((lieB ls).take k) rfl (Ql j.o.b ((Qn W5).alloc (Nat.le_refl _) _)) ⟨W5.heap.size,0,none⟩ 1 1 [.bool x.fails] rfl rfl (Qym _ _ _ _ rfl) (by simp[Value.oneCell']) (by decide) y (by simp;omega) ?_;intro v6 w6 h2 h3 h4 h5;obtain⟨g6,T,rfl,R⟩:=Jm h2 h5;have N6:=zh (NB.addB j.o HX.o ((Qn W5).alloc (Nat.le_refl _) _) h2 h3);have i:Fr (fun k=>v2.ownBlock=some k) W5 w6:=(Fr.ofBelow ((Qn W5).alloc (Nat.le_refl _) _)).trans (Fr.ofGrown h3 fun k _ e=>e);have g:=i.heap j.o.cells (fun e=>j.o.ne2 _ e rfl);have k4:=Qd g 2 rfl;have k5:=Qs g 2;clear h2 h3 h4 h5 i g)
    all_goals (
     go_wp2_with fail
     go_roundg (ls.length-(k+1))
     case measure=>omega
     case rel=>exact⟨k+1,_,_,by omega,by omega,by go_num,N6.o⟩))
  ·have Q:¬ (k:Int)<(ls.length:Int):=by omega
   have r:k=ls.length:=by omega
   have HK:=zh r;clear r;go_wp2;go_ret;have h1:=a.o;rw[HK.o] at h1;exact⟨_,_,v1,v2,l1,rfl,N.o,h1⟩
end
section
variable {n:Nt} {es:List (List UInt8)}
theorem Qkf {c:Cl} {key:ByteArray} (hf:Q6 n (sOf kCp)=some (cpOf es key).data.toList) (hc:c.size=0) (hk:c.key=key) (h1:1≤es.length) (hl:es.length≤1048576) :
  Y0 c n=(Qdk,[],{ c with size:=es.length,root:=rootOf es },Zy n (sOf kCp)):=by
 have e:(cpOf es key).data.toList=Qao es.length (rootOf es) key.data.toList:=rfl;unfold Y0;rw[hf];dsimp only;rw[e,hk,Qkp _ _ _ (by omega),Int.toNat_natCast,if_neg (by simp),if_neg (by omega),if_neg (by omega),if_pos hc]
theorem Qx0 (hl:es.length≤1048576) (hs:∀ e∈es,e.length≤20) (hn:Qh1 es n) (key:ByteArray) (most:Nat) (hh:Q0h es es.length n) {i:Nat} (hi:i<es.length) :
  (Qcx ⟨key,es.length,rootOf es,⟨most,[]⟩⟩ n i).1=Qdk∧(Qcx ⟨key,es.length,rootOf es,⟨most,[]⟩⟩ n i).2.1=(es.getD i [],Qav es i):=by
 have ht:es.take es.length=es:=List.take_length;have hT:Qg6 es es.length true (askQ n ⟨most,[]⟩):=⟨fun x hx=>by simp[askQ] at hx,fun x hx=>by simp[askQ] at hx,hn,fun _=>hh⟩
 obtain⟨_,h2,h3⟩:=Qxp hl (Nat.le_refl _) hs (av:=true) hi (askQ n ⟨most,[]⟩) hT;unfold Qcx;rw[if_neg (by dsimp only;omega),Int.toNat_natCast];dsimp only;cases hq:Qfq es.length i (askQ n ⟨most,[]⟩) with
 | mk o s=>
  rw[hq] at h2 h3;dsimp only at h2 h3;cases o with
  | error e=>
   obtain⟨a,_⟩:=h3 e rfl;cases a
  | ok r=>
   have hr:=h2 r rfl;subst hr;rw[ht];dsimp only;rw[if_pos (Qpy es i hi)];exact⟨rfl,rfl⟩
theorem Q0i {fs:List Fil} {ts:List Nat} {k:Nat} {d:ByteArray}:Q6 ⟨fs,[⟨sOf kCp,d,false,0⟩],ts,k⟩ (sOf kCp)=some d.data.toList:=by
 unfold Q6
 have:Qcd ⟨fs,[⟨sOf kCp,d,false,0⟩],ts,k⟩ (sOf kCp)=some 0:=by unfold Qcd;rw[show ([⟨sOf kCp,d,false,0⟩]:List Lie1).length=0+1 from rfl,Jj,if_pos];simp[Qco]
 rw[this];rfl
theorem Qig (n:Nt) (l:List Fil) (p:ByteArray):∀ k i,Jj { n with files:=l } p k i=Jj n p k i
 | 0,_=>rfl
 | k+1,i=>by
  rw[Jj,Jj,Qig n l p k]
  rfl
variable {l:List Fil}
theorem Qtx (h:getF l=getF n.files) (p:ByteArray):Q6 { n with files:=l } p=Q6 n p:=by
 have e2:Qcd { n with files:=l } p=Qcd n p:=Qig n l p _ _;unfold Q6;rw[e2];cases Qcd n p with
 | some i=>rfl
 | none=>show (getF l p).map _=_;rw[h]
theorem Qo0 (hs:Jo n) (ho:Once n.files) (hp:l.Perm n.files) (p:ByteArray):Q6 ⟨l,n.lies,[],0⟩ p=Q6 n p:=
 (Qc3 (n:={ n with files:=l }) (n':=⟨l,n.lies,[],0⟩) hs rfl rfl p).trans (Qtx (Qcm ho hp) p)
theorem Q1h {w0 w:World} {nb:Nat} {v0 v1 v2:Value} {ls:List Lie1} (h:NB w0 w nb v0 v1 v2 l ls ls.length ls.length) (hN:Qjy ⟨l,ls,[],0⟩) (h1:l.length≤1099511627776) (h2:ls.length≤1099511627776):NetR w nb v0 v1 v2 ⟨l,ls,[],0⟩ where
 cells:=h.cells
 files:=Z7 h.f
 lies:=by
  have:=h.l
  rw[List.take_of_length_le (by rw[Qwj];exact Nat.le_refl _)] at this
  have e:(lieF ⟨l,ls,[],0⟩)=lieG ls:=rfl
  rw[e]
  refine Z7 (base:=w0.heap.size) (t:=61) ?_
  rw[Qwj]
  exact this
 fails:=by
  have:=h.b
  rw[List.take_of_length_le (by unfold lieB;rw[List.length_map];exact Nat.le_refl _)] at this
  exact Z4 this
 steady:=hN.steady
 small:=hN.small
 few:=⟨h1,h2⟩
end
section
structure RLk (w:World) (base qb nb N:Nat) (vm:Value) (ms:List ByteArray):Prop where
 cells:w.heap[qb]?=some (.cells #[.pointer (some ⟨nb,0,none⟩),.int .i64 N,vm] 78 (0,0))
 miss:Q0 w base vm ms
 low:base≤qb
def rlkS (qb:Nat) (vm:Value) (k:Nat):Prop:=k=qb∨vm.ownBlock=some k
structure Jf (base qb nb N:Nat) (w:World) (vm:Value) (ms:List ByteArray) (w':World) (vm':Value):Prop where
 lk:RLk w' base qb nb N vm' ms
 fr:Fr (rlkS qb vm) w w'
 sub:Sub w (rlkS qb vm) (rlkS qb vm')
section
variable {w w' w2:World} {base qb nb N:Nat} {vm vm':Value} {ms:List ByteArray}
theorem RLk.parts (h:RLk w base qb nb N vm ms):∀ k,vm.ownBlock=some k→k≠qb:=fun k hk e=>by
 obtain⟨C,hC⟩:=Qe h.miss hk
 exact Zp hC h.cells (by decide) e
theorem RLk.lt (h:RLk w base qb nb N vm ms):∀ k,rlkS qb vm k→k<w.heap.size:=fun k hk=>by
 rcases hk with rfl|hk
 ·exact Qc h.cells
 ·obtain⟨C,hC⟩:=Qe h.miss hk
  exact Qc hC
theorem RLk.fr {S:Nat→Prop} (h:RLk w base qb nb N vm ms) (hf:Fr S w w') (hs:∀ k,rlkS qb vm k→¬ S k):RLk w' base qb nb N vm ms:=
 ⟨hf.heap h.cells (hs qb (.inl rfl)),Q3 h.miss hf fun k hk=>hs k (.inr hk),h.low⟩
theorem RLk.below (h:RLk w base qb nb N vm ms) (hb:Below w.heap.size w w'):RLk w' base qb nb N vm ms:=
 ⟨(hb.block _ (Qc h.cells)).trans h.cells,Ql h.miss hb,h.low⟩
theorem Jf.ofBelow (h:RLk w base qb nb N vm ms) (hb:Below w.heap.size w w'):Jf base qb nb N w vm ms w' vm:=⟨h.below hb,Fr.ofBelow hb,Sub.refl _ _⟩
theorem Jf.trans {ms2:List ByteArray} {vm2:Value} (h:Jf base qb nb N w vm ms w' vm') (k:Jf base qb nb N w' vm' ms2 w2 vm2):Jf base qb nb N w vm ms2 w2 vm2:=
 ⟨k.lk,h.fr.step k.fr fun i hi hT=>(h.sub i hT).elim id fun e=>absurd e (by omega),h.sub.trans k.sub h.fr.size⟩
theorem Jf.after (hb:Below w.heap.size w w') (k:Jf base qb nb N w' vm ms w2 vm'):Jf base qb nb N w vm ms w2 vm':=
 ⟨k.lk,(Fr.ofBelow hb).trans k.fr,k.sub.mono hb.size⟩
theorem Jf.then (h:Jf base qb nb N w vm ms w' vm') (hb:Below w'.heap.size w' w2):Jf base qb nb N w vm ms w2 vm':=
 h.trans (.ofBelow h.lk hb)
theorem Jf.keeps (h:Jf base qb nb N w vm ms w' vm') {ms0:List ByteArray} (k:RLk w base qb nb N vm ms0) (hb:base≤w.heap.size):Below base w w':=
 h.fr.below hb fun i hi hs=>by
  rcases hs with rfl|hs
  ·have:=k.low;omega
  ·have:=(k.miss.lt i hs).1
   omega
theorem RLk.push (h:RLk w base qb nb N vm ms) {name:ByteArray} {v2:Value} (o:w2.ownsRow base 9 1 v2 (ms.length+1) (ms.map Value.string ++ [.string name])) (hg:(w.alloc (.cells #[.string name] 9)).grownBy w2 vm.ownBlock) (hm:J2 (w.alloc (.cells #[.string name] 9)) vm v2) :
  Jf base qb nb N w vm (ms ++ [name]) (w2.setCell ⟨qb,2,none⟩ v2) v2:=by
 have b:Fr (fun k=>vm.ownBlock=some k) w w2:=(Fr.ofBelow (Qa w _)).trans (Fr.ofGrown hg fun k _ e=>e);have a:w2.heap[qb]?=some (.cells #[.pointer (some ⟨nb,0,none⟩),.int .i64 N,vm] 78 (0,0)):=b.heap h.cells fun e=>h.parts qb e rfl
 have c:∀ k,v2.ownBlock=some k→k≠qb:=fun k hk e=>by obtain⟨C,hC⟩:=Qe o hk;exact Zp hC a (by decide) e
 refine⟨⟨(heap_setCell a _).trans (by simp),?_,h.low⟩,(b.weak fun _ _ e=>.inr e).trans ((Fr.set1 w2 qb 2 _).weak fun _ _ e=>.inl e),fun k hk=>?_⟩
 ·have:=Q3 o (Fr.set1 w2 qb 2 v2) c
  unfold Q0;rw[List.length_append,List.length_singleton,List.map_append];exact this
 ·rcases hk with hk|hk
  ·exact .inl (.inl hk)
  ·rcases hm k hk with e|e
   ·exact .inl (.inr e)
   ·exact .inr (by have:=(Qa w (.cells #[.string name] 9)).size;omega)
end
end
section
def Q0k (n:Nt) (t t4:ByteArray) (w:Nat):Option (List UInt8):=((Q6 n t).bind fun d=>Zh d w w).or ((Q6 n t4).bind fun d=>Zh d 4 w)
variable {n:Nt} {w:Nat}
theorem Qxz {k j:Nat} (hw:w≤4):Q0k n (Qq (k:Int) j w) (Qq (k:Int) j 4) w=Qal n (k+1) j w:=by
 have e:((k+1:Nat):Int)-1=(k:Int):=by omega
 have hf:Yc (k+1)=Zh:=by unfold Yc;rw[if_neg (by omega)]
 unfold Q0k Qal;rw[e,hf];by_cases h4:w=4
 ·subst h4
  rw[if_pos rfl];cases (Q6 n (Qq (k:Int) j 4)).bind fun d=>Zh d 4 4 <;> rfl
 ·rw[if_neg h4]
def Qle (n:Nt) (base qb nb N:Nat) (vm:Value) (ms:List ByteArray) (name:ByteArray) (o:Option (List UInt8)) (w:World) (e:Ending) (w':World):Prop:=
 match o with
 | some b=>(∃ s:ByteArray,e=.returned (.tuple #[.string s,.bool true])∧s.data.toList=b)∧Below w.heap.size w w'
 | none=>e=.returned (.tuple #[.string ⟨#[]⟩,.bool false])∧∃ vm',Jf base qb nb N w vm (ms ++ [name]) w' vm'
variable {s:ByteArray}
theorem Q3a (h:s.size=32):(s.extract 0 (8*w)).data.toList=s.data.toList.take (8*w):=by simp
theorem Qoh {t:ByteArray} {a:Nat} (hs:∀ d,Q6 n t=some d→s.data.toList=d):((Q6 n t).bind fun d=>Zh d a w)=if ((Q6 n t).isSome && decide ((s.size:Int)=8*(a:Int)))=true then some (s.data.toList.take (8*w)) else none:=by
 cases hf:Q6 n t with
 | none=>rfl
 | some d=>
  have e:=hs d hf;subst e;unfold Zh;have e2:s.data.toList.length=s.size:=by simp
  simp only[Option.bind_some,Option.isSome_some,Bool.true_and,decide_eq_true_eq,e2];by_cases h:s.size=8*a
  ·rw[if_pos h,if_pos (by omega)]
  ·rw[if_neg h,if_neg (by omega)]
theorem Q16 (w:World) (v0 v1 v2:Value) (n:Nt) (base qb nb N:Nat) (vm:Value) (ms:List ByteArray) (hn:NetR w nb v0 v1 v2 n) (h:RLk w base qb nb N vm ms) (hb:base≤w.heap.size) (k j c:Nat) (hj:4*j<c) (hc:c<9223372036854775808) (hk:k<9223372036854775808) (hms:ms.length<1099511627776) :
  Calls prog 195 #[.pointer (some ⟨qb,0,none⟩),.int .i64 k,.int .i64 j,.int .i64 c] w (Qle n base qb nb N vm ms (Qq (k:Int) j (Zc j c)) (Qal n (k+1) j (Zc j c)) w):=by
 obtain⟨i0,R,Q,aa,P⟩:=info_parts Qb5;obtain⟨wz,u⟩:∃ wz,wz=Zc j c:=⟨_,rfl⟩
 have ab:wz≤4∧1≤wz:=by unfold Zc at u;omega
 rw[←u,←Qxz ab.1];have c0:w.cell? ⟨qb,0,none⟩=some (.pointer (some ⟨nb,0,none⟩)):=Qd h.cells 0 rfl;have c2:w.cell? ⟨qb,2,none⟩=some vm:=Qd h.cells 2 rfl;have f2:w.frozen? ⟨qb,2,none⟩=false:=Qs h.cells 2;have G:qb<w.heap.size:=Qc h.cells;obtain⟨t1,C⟩:∃ t,t=Qq (k:Int) j wz:=⟨_,rfl⟩
 obtain⟨t4,I⟩:∃ t,t=Qq (k:Int) j 4:=⟨_,rfl⟩
 have v:=fun w=>Qck (k:Int) (j:Int) (wz:Int) w (by omega)
 have E:=fun w=>Qck (k:Int) (j:Int) 4 w (by omega)
 rw[show sOf (Y4 (k:Int) (j:Int) (wz:Int))=t1 from C.symm] at v;rw[show sOf (Y4 (k:Int) (j:Int) 4)=t4 from I.symm] at E;rw[←C,←I];have HN:=zh hn;have H:=zh h;have V:=zh v;have Y:=zh E;have HW:=zh u;have U:=zh hms;have ah:(1:Int)≤(wz:Int):=by omega
 have ai:(wz:Int)≤4:=by omega
 clear hn h v E C I u hms
 go_enter func195,ntmps195
 go_upto_if 20 with fail
 go_cut [10] from 19 to 20 (fun s10 wx=>w=wx∧s10=.int .i64 (wz:Int))
 case first=>
  by_cases h4:(4:Int)<(c:Int)-(j:Int)*4
  ·have hw:=HW.o
   unfold Zc at hw;have HE:=zh (show (4:Int)=(wz:Int) by omega)
   go_wp2_with fail
   go_meet;exact⟨rfl,by rw[HE.o]⟩
  ·have hw:=HW.o
   unfold Zc at hw;have HE:=zh (show (c:Int)-(j:Int)*4=(wz:Int) by omega)
   go_wp2_with fail
   go_meet;exact⟨rfl,by rw[HE.o]⟩
 case rest=>
  obtain⟨rfl,rfl⟩:=hcut;obtain⟨b1,x⟩:∃ b,b=(Q6 n t1).isSome:=⟨_,rfl⟩
  obtain⟨b4,g⟩:∃ b,b=(Q6 n t4).isSome:=⟨_,rfl⟩
  have HF:=zh (fun (w:World) (hn:NetR w nb v0 v1 v2 n)=>Qgu w nb v0 v1 v2 n t1 hn);have J:=zh (fun (w:World) (hn:NetR w nb v0 v1 v2 n)=>Qgu w nb v0 v1 v2 n t4 hn);rw[←x] at HF;rw[←g] at J;have ad:=zh x;have Z:=zh g;clear x g
  go_upto_region 6 with (first
   | (go_at_call 53;refine (V.o _).mono ?_;rintro e w2 ⟨rfl,z⟩;have A:=zh z;have d0:=(z.cell (p:=⟨qb,0,none⟩) G).trans c0;clear z)
   | (go_at_call 94;refine (HF.o _ (HN.o.below A.o)).mono ?_;rintro e w3 ⟨⟨s3,rfl,L,m⟩,O⟩;have W:=zh L;have T:=zh m;have i:=zh (A.o.trans (O.mono A.o.size));clear L m O)
   | fail)
  have m:=T.o;have e0:=(i.o.cell (p:=⟨qb,0,none⟩) G).trans c0;clear d0 c0
  go_cut [41] from 34 to 41 (fun s41 wx=>w3=wx∧s41=.bool (b1 && decide ((s3.size:Int)=8*(wz:Int))))
  case first=>
   cases b1 with
   | false=>
    go_wp2_with fail
    go_meet;exact⟨rfl,rfl⟩
   | true=>
    by_cases d:(s3.size:Int)=8*(wz:Int)
    ·have hd:((s3.size:Int) == 8*(wz:Int))=true:=by simpa using d
     have HE:=zh d;clear d
     go_wp2_with fail
     go_meet;exact⟨rfl,by simp[HE.o]⟩
    ·have hd:((s3.size:Int) == 8*(wz:Int))=false:=by simpa using d
     have HE:=zh d;clear d
     go_wp2_with fail
     go_meet;exact⟨rfl,by simp[HE.o]⟩
  case rest=>
   obtain⟨rfl,rfl⟩:=hcut;have f:=Qoh (w:=wz) (a:=wz) W.o;rw[←ad.o] at f;cases hA:(b1 && decide ((s3.size:Int)=8*(wz:Int))) with
   | true=>
    rw[hA,if_pos rfl] at f;have d:s3.size=8*wz:=by simp at hA;omega
    have HT:=zh (And.intro f d);clear f hA d
    go_wp2_with fail
    go_ret2;unfold Qle Q0k;rw[HT.o.1];exact⟨⟨s3,rfl,by rw[List.take_of_length_le];simp[HT.o.2]⟩,i.o⟩
   | false=>
    rw[hA,if_neg (by decide)] at f;have HT:=zh f;clear f hA
    go_upto_region 10 with (first
     | (go_at_call 53;refine (Y.o _).mono ?_;rintro e w4 ⟨rfl,g⟩;have q:=zh (i.o.trans (g.mono i.o.size));have d0:=(q.o.cell (p:=⟨qb,0,none⟩) G).trans (Qd H.o.cells 0 rfl);clear g)
     | (go_at_call 94;refine (J.o _ (HN.o.below q.o)).mono ?_;rintro e w5 ⟨⟨s5,rfl,K,r⟩,y⟩;have S:=zh K;have ac:=zh r;have l:=zh (q.o.trans (y.mono q.o.size));clear K r y)
     | fail)
    have r:=ac.o;clear d0 e0 m
    go_cut [60] from 55 to 60 (fun s60 wx=>w5=wx∧s60=.bool (b4 && decide ((s5.size:Int)=8*((4:Nat):Int))))
    case first=>
     cases b4 with
     | false=>
      go_wp2_with fail
      go_meet;exact⟨rfl,rfl⟩
     | true=>
      by_cases d:(s5.size:Int)=32
      ·have hd:((s5.size:Int) == 32)=true:=by simpa using d
       have HE:=zh d;clear d
       go_wp2_with fail
       go_meet;exact⟨rfl,by simp[HE.o]⟩
      ·have hd:((s5.size:Int) == 32)=false:=by simpa using d
       have HE:=zh d;clear d
       go_wp2_with fail
       go_meet;exact⟨rfl,by simp[HE.o]⟩
    case rest=>
     obtain⟨rfl,rfl⟩:=hcut;have f:=Qoh (w:=wz) (a:=4) S.o;rw[←Z.o] at f;cases hA:(b4 && decide ((s5.size:Int)=8*((4:Nat):Int))) with
     | true=>
      rw[hA,if_pos rfl] at f;have d:s5.size=32:=by simp at hA;omega
      have s:=zh (And.intro f d);have ag:8*(wz:Int)≤(s5.size:Int):=by omega
      have ak:(0:Int)≤8*(wz:Int):=by omega
      clear f hA d
      go_wp2_with fail
      go_ret2;unfold Qle Q0k;rw[HT.o,s.o.1,Option.none_or];exact⟨⟨_,rfl,by rw[←Q3a s.o.2]⟩,l.o⟩
     | false=>
      rw[hA,if_neg (by decide)] at f;have s:=zh f;clear f hA r;have B:=H.o.below l.o;have F:=B.cells;have p2:w5.cell? ⟨qb,2,none⟩=some vm:=Qd F 2 rfl;have aj:qb<w5.heap.size:=Qc F;have HK:=zh B;have X:ms.length+1≤1099511627776:=by have:=U.o;omega
      have y:base≤w5.heap.size:=Nat.le_trans hb l.o.size;clear B F
      go_wp2_with (at_builtin;refine Yr rfl _ _ _ rfl base 9 i0 _ 1 16 underlying22 R Q aa P rfl (by decide) (by decide) vm ms.length (ms.map Value.string) rfl (Ql HK.o.miss (Qa _ _)) ⟨w5.heap.size,0,none⟩ 1 1 [.string t1] rfl rfl (by have:=cell_one_new w5 (.string t1) 9;simpa using this) (by simp[Value.oneCell']) (by decide) X (by have:=(Qa w5 (.cells #[.string t1] 9)).size;omega) ?_;intro v6 w6 g2 g3 g4 g5;obtain⟨gb,cpb,ae,af⟩:=Jm g2 g5;subst ae;have G2:=zh g2;have G3:=zh g3;have G4:=zh g4;have M:Fr (fun k=>vm.ownBlock=some k) w5 w6:=(Fr.ofBelow (Qa w5 _)).trans (Fr.ofGrown g3 fun k _ e=>e);have D:=M.heap HK.o.cells (fun e=>HK.o.parts qb e rfl);have p6:=Qd D 2 rfl;have z6:=Qs D 2;clear g2 g3 g4 g5 M D)
      go_ret2;unfold Qle Q0k;rw[HT.o,s.o,Option.none_or];exact⟨rfl,_,(HK.o.push G2.o G3.o G4.o).after l.o⟩
end
section
structure LkW (w0:World) (nb:Nat) (v0 v1 v2:Value) (n:Nt) (qb N:Nat) (w:World) (vm:Value) (ms:List ByteArray):Prop where
 net:NetR w0 nb v0 v1 v2 n
 bel:Below w0.heap.size w0 w
 lk:RLk w w0.heap.size qb nb N vm ms
section
variable {w0 w w':World} {nb qb N:Nat} {v0 v1 v2 vm vm':Value} {n:Nt} {ms ms':List ByteArray}
theorem LkW.step (h:LkW w0 nb v0 v1 v2 n qb N w vm ms) (s:Jf w0.heap.size qb nb N w vm ms' w' vm'):LkW w0 nb v0 v1 v2 n qb N w' vm' ms':=⟨h.net,h.bel.trans (s.keeps h.lk h.bel.size),s.lk⟩
end
def hpost (o:Option Hsh) (base qb nb N:Nat) (vm:Value) (ms add:List ByteArray) (w:World) (e:Ending) (w':World):Prop:=
 ∃ s vm',e=.returned (.string s)∧(∀ h,o=some h→s=HS h)∧s.size≤8∧Jf base qb nb N w vm (ms++add) w' vm'
theorem Qy7 (l:List UInt8) (h:8≤l.length):(Yo l).toArray.toList=l.take 8:=by
 rcases l with _|⟨x0,_|⟨x1,_|⟨x2,_|⟨x3,_|⟨x4,_|⟨x5,_|⟨x6,_|⟨x7,r⟩⟩⟩⟩⟩⟩⟩⟩
 all_goals first|rfl|(simp at h)
theorem Q9g {s:ByteArray} {q:Nat} (h:8*q+8≤s.size):s.extract (8*q) (8*q+8)=HS (Yo (s.data.toList.drop (8*q))):=by
 apply ByteArray.ext;apply Array.ext';show _=(Yo (s.data.toList.drop (8*q))).toArray.toList;have hl:s.data.toList.length=s.size:=by simp
 rw[Qy7 _ (by rw[List.length_drop,hl];omega)];have e:(s.extract (8*q) (8*q+8)).data.toList=(s.data.toList.drop (8*q)).take (8*q+8-8*q):=by simp[List.drop_take]
 rw[e,show 8*q+8-8*q=8 by omega]
theorem Qjb (w0 w:World) (v0 v1 v2:Value) (n:Nt) (qb nb N:Nat) (vm:Value) (ms:List ByteArray) (h:LkW w0 nb v0 v1 v2 n qb N w vm ms) (k j:Nat) (hk:4 ^ k<9223372036854775808) (hj:(j+1)*4 ^ k≤N) (hN:N<9223372036854775808) (hms:ms.length<1099511627776) :
  Calls prog 153 #[.pointer (some ⟨qb,0,none⟩),.int .i64 ((4 ^ k:Nat):Int),.int .i64 j] w (hpost (Qb8 n N k j) w0.heap.size qb nb N vm ms (Qbd n N k j) w):=by
 have L:k<4 ^ k:=Nat.lt_pow_self (by decide);have hp:0<4 ^ k:=Nat.pow_pos (by decide);have F:j<N / 4 ^ k:=(Nat.le_div_iff_mul_le hp).2 hj;obtain⟨q,hq⟩:∃ q,q=j / 4:=⟨_,rfl⟩
 obtain⟨m,hm⟩:∃ m,m=j%4:=⟨_,rfl⟩
 obtain⟨c,hc⟩:∃ c,c=N / 4 ^ k:=⟨_,rfl⟩
 have S:c≤N:=by rw[hc];exact Nat.div_le_self _ _
 have a:=Q16 w v0 v1 v2 n w0.heap.size qb nb N vm ms (h.net.below (h.bel.mono (Nat.le_refl _))) h.lk h.bel.size k q c (by omega) (by omega) (by omega) hms;have hv:Qh2 n N k j=Qal n (k+1) q (Zc q c):=by unfold Qh2;rw[←hq,←hc]
 have D:Qb8 n N k j=(Qal n (k+1) q (Zc q c)).map fun b=>Qdn b m:=by unfold Qb8;rw[hv,hm]
 have z:Qbd n N k j=if (Qal n (k+1) q (Zc q c)).isSome then [] else [Qq (k:Int) q (Zc q c)]:=by unfold Qbd;rw[hv,←hq,←hc]
 have c1:w.cell? ⟨qb,1,none⟩=some (.int .i64 N):=Qd h.lk.cells 1 rfl;have V:qb<w.heap.size:=Qc h.lk.cells;have t:(j:Int) / 4=(q:Int):=by omega
 have l:(j:Int)%4=(m:Int):=by omega
 obtain⟨u,hu⟩:∃ u,u=4 ^ k:=⟨_,rfl⟩
 have r:(N:Int) / (u:Int)=(c:Int):=by rw[hc,hu];exact (Int.natCast_ediv N (4 ^ k)).symm
 have B:m<Zc q c∧Zc q c≤4:=by unfold Zc;omega
 have A:=zh B;obtain⟨o,ho⟩:∃ o,o=Qb8 n N k j:=⟨_,rfl⟩
 obtain⟨add,f⟩:∃ o,o=Qbd n N k j:=⟨_,rfl⟩
 rw[←ho,←f,←hu];rw[D] at ho;rw[z] at f;have HO:=zh ho;have HA:=zh f;clear ho f;rw[←hu] at hk hp L;have P:m<4:=by omega
 have HU:=zh hu;have M:=zh h.lk;have J:=zh r;have G:=zh t;have E:=zh l;have U:(0:Int)<(u:Int):=by omega
 have R:j<9223372036854775808:=by have:=Nat.div_le_self N (4 ^ k);omega
 clear h hj F hq hm hc hv D z hu B r t l
 go_enter func153,ntmps153
 go_wp2_with fail
 go_loopg [7,8] k (fun gg s7 s8 wr=>∃ i x:Nat,i≤k∧k-i≤gg∧s7=.int .i64 i∧s8=.int .i64 x∧x=4 ^ i∧w=wr)
 case atStart=>exact⟨0,1,Nat.zero_le _,by omega,rfl,rfl,rfl,rfl⟩
 case round=>
  obtain⟨i,x,hi,hg,rfl,rfl,hx,rfl⟩:=hrel;by_cases hlt:i<k
  ·have h4:4*x≤u:=by rw[hx,HU.o,Nat.mul_comm,←Nat.pow_succ];exact Nat.pow_le_pow_right (by decide) hlt
   have K:(x:Int)≤(u:Int) / 4:=by omega
   have Q:(x:Int)*4≤(u:Int):=by omega
   have HX:=zh (show x*4=4 ^ (i+1) by rw[hx,Nat.pow_succ]);clear hx
   go_wp2_with fail
   go_roundg (k-(i+1))
   case measure=>omega
   case rel=>exact⟨i+1,x*4,by omega,by omega,by go_num,by go_num,HX.o,rfl⟩
  ·obtain rfl:i=k:=by omega
   obtain rfl:x=u:=by rw[hx,HU.o]
   have K:¬ (x:Int)≤(x:Int) / 4:=by omega
   have W:¬ (x:Int)<(x:Int):=by omega
   clear hx hlt;have r:=J.o;have t:=G.o;have l:=E.o;cases hfv:Qal n (i+1) q (Zc q c) with
   | none=>
    rw[hfv] at a;have HC:=zh a;have v:=zh (HO.o.trans (by rw[hfv];rfl:_=(none:Option Hsh)));have p:=zh (HA.o.trans (by rw[hfv];rfl:_ = [Qq (i:Int) q (Zc q c)]));clear a hfv
    go_wp2_with (first
     | (go_at_call 195;refine HC.o.mono ?_;rintro e w2 ⟨rfl,H,d⟩;have g:=zh d;clear d)
     | fail)
    go_ret;exact⟨_,H,rfl,fun h hh=>(by rw[v.o] at hh;cases hh),by decide,by rw[p.o];exact g.o⟩
   | some b=>
    have C:=Qsr hfv A.o.2;rw[hfv] at a;have HC:=zh a;have O:=zh C;have v:=zh (HO.o.trans (by rw[hfv];rfl:_=some (Qdn b m)));have p:=zh (HA.o.trans (by rw[hfv];rfl:_=([]:List ByteArray)));clear a hfv C
    go_wp2_with (first
     | (go_at_call 195;refine HC.o.mono ?_;rintro e w2 ⟨⟨s2,rfl,d⟩,y⟩;have T:8*(m:Int)+8≤(s2.size:Int):=(by have h1:=O.o;have h2:=A.o;rw[←d] at h1;simp at h1;omega);have g:=zh d;have I:=zh y;clear d y)
     | fail)
    go_ret;refine⟨_,vm,rfl,fun h hh=>?_,?_,?_⟩
    ·rw[v.o] at hh
     cases hh
     have:=Q9g (s:=s2) (q:=m) (by omega)
     rw[g.o] at this;exact this
    ·simp
     omega
    ·rw[p.o,List.append_nil]
     exact .ofBelow M.o I.o
end
end Go.Proofs.YtefccfakhgdfbaaGreatDoor
