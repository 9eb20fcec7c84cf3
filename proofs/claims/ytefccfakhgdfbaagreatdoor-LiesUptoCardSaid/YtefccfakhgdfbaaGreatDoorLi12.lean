/- The walk of tilesref.Check. -/
import Derived.Test.YtefccfakhgdfbaaGreatDoorLi11
set_option linter.unusedVariables false
set_option linter.unusedSimpArgs false
open Go.RowKit Go.Proofs.Tryz
set_option maxRecDepth 100000
set_option maxHeartbeats 4000000
namespace Go.Proofs.YtefccfakhgdfbaaGreatDoor
section
open Go.RowKit Go.MuLone
section
variable [Inhabited OutT]
variable {F:Nat→Addr} {w w':World} {q:Qf} {x:Qv} {N:Nat} {d:Dk} {e:Ending}
theorem Q58 {r:Except QErr (List UInt8)×Cs} (h:Qit F w q x N d r e w'):∃ u y,e=.returned (.tuple #[u,y])∧Y7 w q x N d w' r.2∧((∃ b a n c,r.1=.ok b∧y=.nilIface∧u=.slice a n c∧Qy w' 0 (.slice a n c) b)∨∃ p,r.1=.error (.miss p)∧u=.slice none 0 0∧(∃ g,y=.iface 219 (.pointer (some ⟨g,0,none⟩)))∧Y8 F w' w.heap.size p y):=by
 obtain⟨h1,⟨b,a,n,c,h2,rfl,h3⟩|⟨p,u,h2,rfl,h3⟩⟩:=h
 ·exact⟨_,_,rfl,h1,.inl ⟨b,a,n,c,h2,rfl,rfl,h3⟩⟩
 ·exact⟨_,_,rfl,h1,.inr ⟨p,h2,rfl,⟨h3.choose,h3.choose_spec.1⟩,h3⟩⟩
theorem Qxg {F:Nat→Addr} {w:World} {q:Qf} {x:Qv} {N:Nat} {d:Dk} {r:Except QErr (List Hsh)×Cs} {e:Ending} {w':World} (h:Qfg F w q x N d r e w'):∃ v y,e=.returned (.tuple #[v,y])∧Y7 w q x N d w' r.2∧((∃ l,r.1=.ok l∧y=.nilIface∧Qcs w' w.heap.size v l)∨∃ p,r.1=.error (.miss p)∧v=.slice none 0 0∧(∃ g,y=.iface 219 (.pointer (some ⟨g,0,none⟩)))∧Y8 F w' w.heap.size p y):=by
 obtain⟨h1,⟨l,v,h2,rfl,h3⟩|⟨p,u,h2,rfl,h3⟩⟩:=h
 ·exact⟨_,_,rfl,h1,.inl ⟨l,h2,rfl,h3⟩⟩
 ·exact⟨_,_,rfl,h1,.inr ⟨p,h2,rfl,⟨h3.choose,h3.choose_spec.1⟩,h3⟩⟩
end
variable {w':World}
theorem Qo7 {a:Option Addr} {n c base:Nat} {l:List UInt8} (h:Qy w' base (.slice a n c) l):∀ z,(Value.slice a n c).ownBlock=some z→base≤z∧z<w'.heap.size:=fun z hz=>by
 rcases h with ⟨e,_⟩|⟨b,off,c,C,fz,e,_,h2,h3,_⟩
 ·rw[e] at hz;cases hz
 ·rw[e] at hz
  simp[Value.ownBlock] at hz
  subst hz
  exact⟨h2,Qc h3⟩
variable {w:World} {e:Ending}
theorem Q7o {data:List UInt8} {ls:List (List UInt8)} (hl:Qr data=some ls) (h:Q3g data w e w'):∃ v' b,e=.returned (.tuple #[v',.bool b])∧Below w.heap.size w w'∧Ja w' w.heap.size v' ls:=by
 obtain⟨v',h1,h2,⟨h3,_⟩|⟨ls',h3,h4⟩⟩:=h
 ·rw[hl] at h3;cases h3
 ·rw[hl] at h3;cases h3
  exact⟨v',_,h1,h2,h4⟩
abbrev cQ (gq gc gk mc gn gd mq:Nat) (vl vt v:Value) (c:Cl):Qf:=⟨gq,gc,gk,mc,gn,gd,mq,vl,vt,v,cliC 1 (.iface 48 (.pointer (some ⟨gn,0,none⟩))) c.key c.size c.root gk⟩
variable {F:Nat→Addr} {N:Nat} {x:Qv} {d:Dk}
theorem Qkz {w1 w2 W:World} {gc gk mc gn gd gq mq:Nat} {vl vt v u v5 y:Value} {qs:List CEnt} {t:Tld} {b:List UInt8} {l:List Hsh} {c:Cl} {s:Cs} (hF1:Fr (·=gc) w w1) (hz:w1.heap.size=w.heap.size) (hb2:Below w1.heap.size w1 w2) (hgq:w1.heap.size≤gq) (hmq:w1.heap.size≤mq) (hg:gc<w.heap.size)
  (h : @QIs ⟨⟨u.ownBlock⟩⟩ W (cQ gq gc gk mc gn gd mq vl vt v c) x N s d) (hf:Fr (QS (cQ gq gc gk mc gn gd mq vl vt v c) ⟨.slice none 0 0,qs,[]⟩) w2 W) (hs:Sub w2 (QS (cQ gq gc gk mc gn gd mq vl vt v c) ⟨.slice none 0 0,qs,[]⟩) (QS (cQ gq gc gk mc gn gd mq vl vt v c) x))
  (hu:Qy W w.heap.size u b) (hv:Qcs W w.heap.size v5 l) (he:Qpz F W w.heap.size t y) (hz:t=Qdk∨u=.slice none 0 0):Qlc F w gc gk mc gn gd vl vt qs (t,(b,l),{ c with cache:=s.cache },s.net) (.returned (.tuple #[u,v5,y])) (W.setCell ⟨gc,0,none⟩ (.int .i32 0)):=by
 obtain⟨vo,qs',vs⟩:=x;obtain⟨e1,e2,e3,e4⟩:=@Q0n ⟨⟨u.ownBlock⟩⟩ w1 w2 W 1 gc gk mc gn gd gq mq N vl vt v _ c qs qs' vs vo s d hgq hmq hb2 h hf hs;exact Q39 e1 e2 ((hF1.weak fun _ _ e=>.inl (.inl e)).trans e3) (fun k hk=>(e4 k hk).imp id fun e=>by omega) hg hu hv he hz
theorem Q5g (F:Nat→Addr) (w:World) (gc gk mc gn gd:Nat) (vl vt v:Value) (c:Cl) (qs:List CEnt) (n:Nt) (d:Dk) (h:ClIs w gc gk mc (.iface 48 (.pointer (some ⟨gn,0,none⟩))) c qs) (hn:Y1 w gn gd vl vt n) (hd:Q1 w gd v d) (hdf:d.files=n.files) (hE:EnvS F (cnS gc gk mc gn vt qs) w) (i:Nat) (hi:i<c.size) (hsz:c.size<9223372036854775808)
  (hb:Bnd (askQ n c.cache) (Qn1 c.size i).length) (hbl:∀ b s1,J3 Z2 (-1) (i / 4) c.size (askQ n c.cache)=(.ok b,s1)→b.length≤1099511627776) (hp:(Qfq c.size i (askQ n c.cache)).1≠.error .panic) (hL:c.cache.items.length+(Qn1 c.size i).length<1099511627775) :
  Calls prog 93 #[.pointer (some ⟨gc,0,none⟩),.int .i64 i] w (Qlc F w gc gk mc gn gd vl vt qs (Qcx c n i)):=by
 obtain⟨R,hR⟩:∃ R,R=Qcx c n i:=⟨_,rfl⟩
 have ak:=h.lt;obtain⟨s0,bg⟩:∃ s,s=askQ n c.cache:=⟨_,rfl⟩
 obtain⟨N,hN⟩:∃ N,N=c.size:=⟨_,rfl⟩
 rw[←bg] at hb hbl hp;rw[←hN] at hb hbl hp hi hsz hL;rw[←hR];have H:=zh h;have HN:=zh hn;have HD:=zh hd;have dl:=zh hdf;have HE:=zh hE;have HR:=zh hR;have HB:=zh hb;have d5:=zh hbl;have HP:=zh hp;have HL:=zh hL;have C:=zh bg;have q:=zh hN;clear h hn hd hdf hE hR hb hbl hp hL bg hN;have em:(i:Int)<(N:Int):=by omega
 have eo:(0:Int)≤(i:Int):=by omega
 go_enter_defers func93,ntmps93
 go_upto_region 4 with (first
  | (go_at_call 134;refine (Qug H.o).mono ?_;rintro e w1 ⟨rfl,h1,c7,cp⟩;have H1:=zh h1;have J:=zh c7;have d4:=Qd h1.cells 4 rfl;rw[←q.o] at d4;have I:=zh cp;clear h1 c7 cp)
  | fail)
 go_upto_region 7 with (first
  | (go_at_call 138;refine (Qws w1 gc N).mono ?_;rintro e w2 ⟨gq,mq,rfl,db,b7,c1,T,t⟩;have d1:=zh db;have dr:=zh b7;have A:=zh c1;clear db b7 c1)
  | fail)
 have ag:=Q7d (N:=N) H1.o (J1 HN.o J.o (Q5 H.o.cells) (by decide) (by decide) (by decide)) (HD.o.kept J.o (Q5 H.o.cells) (by decide) (by decide)) dl.o (fun z hz=>by cases hz) A.o d1.o dr.o t;rw[←C.o] at ag;have au:EnvS F (QS ⟨gq,gc,gk,mc,gn,gd,mq,vl,vt,v,cliC 1 (.iface 48 (.pointer (some ⟨gn,0,none⟩))) c.key c.size c.root gk⟩ ⟨.slice none 0 0,qs,[]⟩) w2:=
  HE.o.step ((J.o.weak fun _ _ e=>.inl (.inl e)).trans (Fr.ofBelow A.o)) fun k hk=>by
   rcases Nat.lt_or_ge k w1.heap.size with am|bc
   ·exact .inl (Qqk T t am hk)
   ·exact .inr (Nat.le_trans (Nat.le_of_eq I.o.symm) bc)
 have bk:(Qn1 N i).length=1+(Zx N (Yx N 0 N i).reverse).length:=by unfold Qn1;simp;omega
 have bp:Calls prog 146 #[.pointer (some ⟨gq,0,none⟩),.int .i64 (-1),.int .i64 (i / 4:Nat),.int .i64 N,.func (.func 147) #[] #[]] w2 (Qit F w2 _ _ N d (J3 Z2 (-1) (i / 4) N s0)):=
  Q5e F w2 _ _ N s0 d ag au (-1) (i / 4) N (by omega) hsz (by have:=HB.o.fetches;omega) (by simp) HB.o.small
 have el:=zh ag;have ci:=zh au;have dx:=zh bp;have d9:=zh bk;clear ag au bp bk
 go_upto_region 8 with (first
  | (go_at_call 146;refine dx.o.mono ?_;intro e w3 h3;obtain⟨u3,y3,rfl,cd,ck⟩:=Q58 h3;have cb:=zh cd;have cy:=zh ck;clear h3 cd ck)
  | fail)
 obtain⟨r1,be⟩:∃ r,r=J3 Z2 (-1) (i / 4) N s0:=⟨_,rfl⟩
 have b1:=cb.o;have ca:=cy.o;rw[←be] at b1 ca;obtain⟨o1,s1⟩:=r1;obtain⟨x3,da,b3,b2⟩:=b1;have X:=zh da;have O:=zh b3;have aj:=zh b2;have P:=zh be;clear da b3 b2 be cb cy;rcases ca with ⟨b,a3,n3,c3,bf,rfl,rfl,cu⟩|⟨p,V,rfl,⟨ge,rfl⟩,U⟩
 rotate_left
 ·have al:=zh V
  have ar:=zh U;clear V U;go_wp2;refine Qic (u:=.slice none 0 0) (v:=.slice none 0 0) (y:=.iface 219 (.pointer (some ⟨ge,0,none⟩))) (Qd X.o.cli 0 rfl) (Qs X.o.cli 0) rfl rfl rfl ?_;have E:R=((6,p),([],[]),{ c with cache:=s1.cache },s1.net):=by rw[HR.o];unfold Qcx;rw[if_neg (by rw[←q.o];omega),Int.toNat_natCast,←C.o,←q.o];unfold Qfq Qm.bind;rw[←P.o];have Y:o1=.error (.miss p):=al.o;rw[Y]
  rw[E];exact Qkz J.o I.o A.o T t ak X.o O.o aj.o (.inl ⟨rfl,rfl⟩) (World.ownsRow_nil _ _ _ _) (.inr (.inr ⟨p,rfl,Y8.low ar.o (by have:=A.o.size;have:=I.o;omega)⟩)) (.inr rfl)
 have bf:o1=.ok b:=bf;subst bf;have dz:∃ ls e,Qr b=some ls∧ls[i%4]?=some e:=by
  have m:=HP.o;unfold Qfq Qm.bind at m;rw[←P.o] at m;dsimp only at m;cases hu:Qr b with
  | none=>rw[hu] at m;exact absurd rfl m
  | some ls=>
   rw[hu] at m;dsimp only[Option.getD] at m;cases he:ls[i%4]? with
   | none=>rw[he] at m;exact absurd rfl m
   | some e=>exact⟨ls,e,rfl,he⟩
 obtain⟨ls,ent,br,ao⟩:=dz;have c0:=Qfl (.slice a3 n3 c3) b w3 cu.at (d5.o b s1 P.o.symm);have dk:=zh c0;have an:=zh br;have L:=zh ao;clear c0 br ao cu;have dp:((i%4:Nat):Int)<(ls.length:Int):=by have:=(List.getElem?_eq_some_iff.1 L.o).1;omega
 have dd:(0:Int)≤((i%4:Nat):Int):=by omega
 go_upto_region 11 with (first
  | (go_at_call 148;refine dk.o.mono ?_;intro e w4 h4;obtain⟨v4,b4,rfl,cz,ct⟩:=Q7o an.o h4;have G:=zh cz;have bm:=zh ct;clear h4 cz ct)
  | fail)
 obtain⟨ed,B,ad⟩:=bm.o;have du:=B;obtain⟨ve,av⟩:∃ ve,ed[i%4]?=some ve:=by have hl:=B.1;exact⟨_,List.getElem?_eq_getElem (by omega)⟩
 have az:=ad _ _ _ av L.o;obtain⟨ae,ne,ce,eb⟩:=Qgm az;subst eb;obtain⟨a4,c4,ee,_,ah⟩:=Z4 B;obtain⟨ec,df,dm,eg⟩:=ah _ _ av;subst dm;subst ee;have bn:=zh az;have ej:w4.cell? ⟨ec,df+(((i:Int)%4)).toNat,none⟩=some (.slice ae ne ce):=by rw[show ((i:Int)%4).toNat=i%4 by omega];exact eg
 have ek:(i:Int)%4<(ls.length:Int):=by omega
 have ei:(0:Int)≤(i:Int)%4:=by omega
 clear B ad du av az ah dp dd bm
 go_upto_region 12 with fail
 have aa:∀ z,(Value.slice ae ne ce).ownBlock=some z→w3.heap.size≤z∧z<w4.heap.size:=Qo7 bn.o;have bi : @QIs ⟨⟨(Value.slice ae ne ce).ownBlock⟩⟩ w4 (cQ gq gc gk mc gn gd mq vl vt v c) x3 N s1 d:=QIs.outB (o2:=⟨(Value.slice ae ne ce).ownBlock⟩) X.o G.o aa;have c8:EnvS F (QS (cQ gq gc gk mc gn gd mq vl vt v c) x3) w4:=(ci.o.step O.o aj.o).below G.o;have bo:Bnd s1 (Zx N (Yx N 0 N i).reverse).length:=by
  have:=HB.o
  rw[d9.o] at this;have h2:=this.next (Qhu Z2 (-1) (i / 4) N) (Qj7 (Qd6 s0.net) Z2 (-1) (i / 4) N s0 (Qd1.refl _));rw[←P.o] at h2;exact h2
 have ax:Qfq N i s0=(match Zf N (Yx N 0 N i).reverse s1 with|(.ok l,s2)=>(.ok (ent,l),s2)|(.error e,s2)=>(.error e,s2)):=by
  unfold Qfq Qm.bind;rw[←P.o];dsimp only;rw[an.o];dsimp only[Option.getD];rw[L.o];dsimp only;cases hg:Zf N (Yx N 0 N i).reverse s1 with
  | mk o s2=>cases o <;> rfl
 have b6:(Zf N (Yx N 0 N i).reverse s1).1≠.error .panic:=fun e=>by
  apply HP.o;rw[ax];cases hg:Zf N (Yx N 0 N i).reverse s1 with
  | mk o s2=>rw[hg] at e;dsimp only at e;subst e;rfl
 have bz:=fun W hW=>@Qlu ⟨⟨(Value.slice ae ne ce).ownBlock⟩⟩ W (cQ gq gc gk mc gn gd mq vl vt v c) x3 N s1 d (@QIs.below ⟨⟨(Value.slice ae ne ce).ownBlock⟩⟩ _ W _ _ _ _ _ bi hW)
 have c6:=fun W hW g1 g3 hc=>@Q0f ⟨⟨(Value.slice ae ne ce).ownBlock⟩⟩ F W (cQ gq gc gk mc gn gd mq vl vt v c) x3 N s1 d (@QIs.below ⟨⟨(Value.slice ae ne ce).ownBlock⟩⟩ _ W _ _ _ _ _ bi hW) (c8.below hW) g1 g3 hc i N hi (Nat.le_refl _) hsz bo b6
 have dv:=zh bz;have ea:=zh c6;have af:=zh ax;have di:=zh aa;clear aa bi c8 bo ax b6 bz c6
 go_upto_region 13 with (first
  | (go_at_call 140;refine (dv.o w4 (Below.refl _ _)).mono ?_;rintro e w5 ⟨g1,g3,rfl,cs,co⟩;have d8:=zh cs;have D:=zh co;clear cs co)
  | (go_at_call 149;refine (ea.o w5 D.o g1 g3 d8.o).mono ?_;intro e w6 h6;obtain⟨v6,y6,rfl,b9,c5⟩:=@Qxg ⟨⟨(Value.slice ae ne ce).ownBlock⟩⟩ _ _ _ _ _ _ _ _ _ h6;have cj:=zh b9;have cg:=zh c5;clear h6 b9 c5)
  | fail)
 obtain⟨r2,bd⟩:∃ r,r=Zf N (Yx N 0 N i).reverse s1:=⟨_,rfl⟩
 have c9:=cj.o;have b0:=cg.o;rw[←bd] at c9 b0;obtain⟨o2,s2⟩:=r2;obtain⟨x6,a9,bj,cr⟩:=c9;have bt:w2.heap.size≤w5.heap.size:=Nat.le_trans O.o.size (Nat.le_trans G.o.size D.o.size);have ch:Fr (QS (cQ gq gc gk mc gn gd mq vl vt v c) ⟨.slice none 0 0,qs,[]⟩) w2 w6:=Fr.sub ((O.o.trans (Fr.ofBelow G.o)).trans (Fr.ofBelow D.o)) bj aj.o;have cf:Sub w2 (QS (cQ gq gc gk mc gn gd mq vl vt v c) ⟨.slice none 0 0,qs,[]⟩) (QS (cQ gq gc gk mc gn gd mq vl vt v c) x6):=aj.o.trans cr bt;have ay:Qy w6 w3.heap.size (.slice ae ne ce) ent:=by have h5:Qy w5 w3.heap.size (.slice ae ne ce) ent:=bn.o.below D.o;have eh:=@QIs.below ⟨⟨(Value.slice ae ne ce).ownBlock⟩⟩ _ w5 _ _ _ _ _ (QIs.outB (o2:=⟨(Value.slice ae ne ce).ownBlock⟩) X.o G.o di.o) D.o;exact @Qqd ⟨⟨(Value.slice ae ne ce).ownBlock⟩⟩ _ _ _ _ _ _ _ _ _ _ h5 bj eh
 have a8:=zh a9;have ab:=zh ch;have K:=zh cf;have S:=zh bd;have ap:=zh ay;have aw:w6.heap[gc]?=some (.cells (cliC 1 (.iface 48 (.pointer (some ⟨gn,0,none⟩))) c.key c.size c.root gk) 205 (0,0)):=@QIs.cli ⟨⟨(Value.slice ae ne ce).ownBlock⟩⟩ _ _ _ _ _ _ a9;have g:=zh aw;have bu:w.heap.size≤w3.heap.size:=by have:=A.o.size;have:=I.o;have:=O.o.size;omega
 have bh:=zh bu;clear a9 bj cr bd ch cf ay cj cg aw bu bt;rcases b0 with ⟨l6,ba,rfl,b5⟩|⟨p,V,rfl,⟨ge,rfl⟩,U⟩
 rotate_left
 ·have al:=zh V
  have ar:=zh U;clear V U;go_wp2;refine Qic (u:=.slice none 0 0) (v:=.slice none 0 0) (y:=.iface 219 (.pointer (some ⟨ge,0,none⟩))) (Qd g.o 0 rfl) (Qs g.o 0) rfl rfl rfl ?_;have E:R=((6,p),([],[]),{ c with cache:=s2.cache },s2.net):=by rw[HR.o];unfold Qcx;rw[if_neg (by rw[←q.o];omega),Int.toNat_natCast,←C.o,←q.o,af.o,←S.o];have Y:o2=.error (.miss p):=al.o;rw[Y]
  rw[E];refine Qkz J.o I.o A.o T t ak (QIs.outB a8.o (Below.refl _ _) fun z hz=>by cases hz) ab.o K.o (.inl ⟨rfl,rfl⟩) (World.ownsRow_nil _ _ _ _) (.inr (.inr ⟨p,rfl,Y8.low ar.o (by have:=D.o.size;have:=G.o.size;have:=bh.o;omega)⟩)) (.inr rfl)
 have ba:o2=.ok l6:=ba;subst ba;have cv:=zh b5;have bx:∀ W,Below w6.heap.size w6 W→Calls prog 151 #[.slice ae ne ce] W fun e w'=>e=.returned (.agg #[bv (Jx ent)[0],bv (Jx ent)[1],bv (Jx ent)[2],bv (Jx ent)[3],bv (Jx ent)[4],bv (Jx ent)[5],bv (Jx ent)[6],bv (Jx ent)[7]])∧Below W.heap.size W w':=fun W hW=>by
  have dg:ent.length≤9223372036854775807:=by
   have:=(Yq an.o).2.2 ent (List.mem_of_getElem? L.o)
   omega
  have:=Qk4 (.slice ae ne ce) ent W (ap.o.below hW).at dg
  rw[Qgh] at this;exact this
 have bw:l6.length≤1048576:=by
  have e:=Qh5 N (Yx N 0 N i).reverse s1 s2 l6 S.o.symm
  have:=Qdt N 63 0 N i (by omega) (Nat.le_refl _)
  rw[e,List.length_reverse];omega
 have Z:∀ W,Below w6.heap.size w6 W→Calls prog 150 #[.agg #[bv (Jx ent)[0],bv (Jx ent)[1],bv (Jx ent)[2],bv (Jx ent)[3],bv (Jx ent)[4],bv (Jx ent)[5],bv (Jx ent)[6],bv (Jx ent)[7]],.int .i64 i,.int .i64 N,v6,.agg #[bv c.root[0],bv c.root[1],bv c.root[2],bv c.root[3],bv c.root[4],bv c.root[5],bv c.root[6],bv c.root[7]]] W fun e w'=>e=.returned (.bool (included (Jx ent) i N l6 c.root))∧Below W.heap.size W w':=fun W hW=>by
  have:=Qqn l6 (Jx ent) c.root i N v6 W (Qcs.at (Ql cv.o hW)) (by omega) (by omega) bw
  rw[Qgh,Qgh] at this;exact this
 obtain⟨ib,bb⟩:∃ x,x=included (Jx ent) i N l6 c.root:=⟨_,rfl⟩
 rw[←bb] at Z;have k0:w6.cell? ⟨gc,5,none⟩=some (bv c.root[0]):=Qd g.o 5 rfl;have dy:w6.drew.cell? ⟨gc,5,none⟩=some (bv c.root[0]):=k0;have k1:w6.cell? ⟨gc,6,none⟩=some (bv c.root[1]):=Qd g.o 6 rfl;have dt:w6.drew.cell? ⟨gc,6,none⟩=some (bv c.root[1]):=k1;have k2:w6.cell? ⟨gc,7,none⟩=some (bv c.root[2]):=Qd g.o 7 rfl;have dn:w6.drew.cell? ⟨gc,7,none⟩=some (bv c.root[2]):=k2;have k3:w6.cell? ⟨gc,8,none⟩=some (bv c.root[3]):=Qd g.o 8 rfl;have ds:w6.drew.cell? ⟨gc,8,none⟩=some (bv c.root[3]):=k3;have k4:w6.cell? ⟨gc,9,none⟩=some (bv c.root[4]):=Qd g.o 9 rfl;have dq:w6.drew.cell? ⟨gc,9,none⟩=some (bv c.root[4]):=k4;have k5:w6.cell? ⟨gc,10,none⟩=some (bv c.root[5]):=Qd g.o 10 rfl;have d2:w6.drew.cell? ⟨gc,10,none⟩=some (bv c.root[5]):=k5;have k6:w6.cell? ⟨gc,11,none⟩=some (bv c.root[6]):=Qd g.o 11 rfl;have d6:w6.drew.cell? ⟨gc,11,none⟩=some (bv c.root[6]):=k6;have k7:w6.cell? ⟨gc,12,none⟩=some (bv c.root[7]):=Qd g.o 12 rfl;have d3:w6.drew.cell? ⟨gc,12,none⟩=some (bv c.root[7]):=k7;have f:gc<w6.heap.size:=Qc g.o;have d7:=zh bx;have dh:=zh Z;have cc:=zh bb;clear bx Z bb bw b5
 go_upto_region 15 with fail
 go_region_held3 (fun w'=>w'.cell? ⟨gc,5,none⟩=some (bv c.root[0])∧w'.cell? ⟨gc,6,none⟩=some (bv c.root[1])∧w'.cell? ⟨gc,7,none⟩=some (bv c.root[2])∧w'.cell? ⟨gc,8,none⟩=some (bv c.root[3])∧w'.cell? ⟨gc,9,none⟩=some (bv c.root[4])∧w'.cell? ⟨gc,10,none⟩=some (bv c.root[5])∧w'.cell? ⟨gc,11,none⟩=some (bv c.root[6])∧w'.cell? ⟨gc,12,none⟩=some (bv c.root[7])) (first|with_reducible exact⟨k0,k1,k2,k3,k4,k5,k6,k7⟩|with_reducible exact⟨dy,dt,dn,ds,dq,d2,d6,d3⟩|with_reducible exact⟨m0,m1,m2,m3,m4,m5,m6,m7⟩|with_reducible exact⟨e0,e1,e2,e3,e4,e5,e6,e7⟩|fail) (first|(go_at_call 151;refine (d7.o _ (Qn w6)).mono ?_;rintro e w7 ⟨rfl,dc⟩;have j:=zh (show Below w6.heap.size w6 w7 from (Qn w6).trans dc);have m0:=(j.o.cell (p:=⟨gc,5,none⟩) f).trans k0;have m1:=(j.o.cell (p:=⟨gc,6,none⟩) f).trans k1;have m2:=(j.o.cell (p:=⟨gc,7,none⟩) f).trans k2;have m3:=(j.o.cell (p:=⟨gc,8,none⟩) f).trans k3;have m4:=(j.o.cell (p:=⟨gc,9,none⟩) f).trans k4;have m5:=(j.o.cell (p:=⟨gc,10,none⟩) f).trans k5;have m6:=(j.o.cell (p:=⟨gc,11,none⟩) f).trans k6;have m7:=(j.o.cell (p:=⟨gc,12,none⟩) f).trans k7;clear dc)|(go_at_call 150;refine (dh.o w7 j.o).mono ?_;rintro e w8 ⟨rfl,cn⟩;have a:=zh (j.o.trans (cn.mono j.o.size));have e0:=(a.o.cell (p:=⟨gc,5,none⟩) f).trans k0;have e1:=(a.o.cell (p:=⟨gc,6,none⟩) f).trans k1;have e2:=(a.o.cell (p:=⟨gc,7,none⟩) f).trans k2;have e3:=(a.o.cell (p:=⟨gc,8,none⟩) f).trans k3;have e4:=(a.o.cell (p:=⟨gc,9,none⟩) f).trans k4;have e5:=(a.o.cell (p:=⟨gc,10,none⟩) f).trans k5;have e6:=(a.o.cell (p:=⟨gc,11,none⟩) f).trans k6;have e7:=(a.o.cell (p:=⟨gc,12,none⟩) f).trans k7;clear cn)|fail)
 all_goals (
  cases ib with
  | false=>
   have hg:=((ci.o.step ab.o K.o).below a.o).sents.cells.2.2.2.2.1
   have ai:=zh ((a.o.block _ f).trans g.o)
   go_wp2
   go_region
   all_goals (
    go_wp2
    refine Qic (u:=.slice none 0 0) (v:=.slice none 0 0) (y:=.iface 370 (.pointer (some (F 4)))) (Qd (w:=w8.drew) ai.o 0 rfl) (Qs (w:=w8.drew) ai.o 0) rfl rfl rfl ?_
    have E:R=((5,⟨#[]⟩),([],[]),{ c with cache:=s2.cache },s2.net):=by
     rw[HR.o]
     unfold Qcx
     rw[if_neg (by rw[←q.o];omega),Int.toNat_natCast,←C.o,←q.o,af.o,←S.o]
     dsimp only
     rw[←cc.o]
     rfl
    rw[E]
    refine Qkz J.o I.o A.o T t ak (QIs.outB a8.o (a.o.trans (Qn w8 |>.mono a.o.size)) fun z hz=>by cases hz) (ab.o.trans (Fr.ofBelow (a.o.trans (Qn w8 |>.mono a.o.size)))) K.o (.inl ⟨rfl,rfl⟩) (World.ownsRow_nil _ _ _ _) (.inr (.inl ⟨4,by decide,by decide,rfl,rfl⟩)) (.inr rfl))
  | true=>
   have Q:=@QIs.below ⟨⟨(Value.slice ae ne ce).ownBlock⟩⟩ _ w8 _ _ _ _ _ a8.o a.o
   have M:Cost (Qn1 N i).length s0 s2:=by
    have:=Qmi N i s0
    rw[af.o,←S.o] at this
    exact this
   have bl:x6.qs.length+x6.vs.length<1099511627775:=by
    have a1:s2.cache.items.length=x6.qs.length:=by rw[@Z3.items ⟨⟨(Value.slice ae ne ce).ownBlock⟩⟩ _ _ _ _ _ (@QIs.cache ⟨⟨(Value.slice ae ne ce).ownBlock⟩⟩ _ _ _ _ _ _ Q),List.length_map]
    have a2:s2.files.length=x6.vs.length:=by rw[@QIs.files ⟨⟨(Value.slice ae ne ce).ownBlock⟩⟩ _ _ _ _ _ _ Q,List.length_map]
    have a3:=M.files
    have a4:=M.items
    have a5:s0.files.length=0:=by rw[C.o];rfl
    have a6:s0.cache.items.length=c.cache.items.length:=by rw[C.o];rfl
    have:=HL.o
    omega
   have cq:=@Qkm ⟨⟨(Value.slice ae ne ce).ownBlock⟩⟩ w8 _ x6 N s2 d Q bl
   have c2:=@Qbl ⟨⟨(Value.slice ae ne ce).ownBlock⟩⟩ _ _ _ _ _ (@QIs.cache ⟨⟨(Value.slice ae ne ce).ownBlock⟩⟩ _ _ _ _ _ _ Q)
   have d0:=zh cq
   have cw:=zh c2
   clear Q M bl cq c2
   go_wp2_with (first
    | (go_at_call 143;refine d0.o.mono ?_;rintro e w9 ⟨rfl,en,bq,b8,cm⟩;have cl:=zh bq;have a0:=zh b8;have ef:=zh cm;clear bq b8 cm)
    | (go_at_call 152;refine (Q6m w9 w3.heap.size (.slice ae ne ce) ent (Qpf (ap.o.below a.o) a0.o cw.o (by decide))).mono ?_;rintro e dj ⟨u10,rfl,a7,ac,rfl⟩;have de:=zh a7;have dw:=zh ac;clear a7 ac)
    | fail)
   have aq:dj.heap[gc]?=some (.cells (cliC 1 (.iface 48 (.pointer (some ⟨gn,0,none⟩))) c.key c.size c.root gk) 205 (0,0)):=@QIs.cli ⟨⟨(Value.slice ae ne ce).ownBlock⟩⟩ _ _ _ _ _ _ cl.o
   refine Qic (u:=u10) (v:=v6) (y:=.nilIface) (Qd aq 0 rfl) (Qs aq 0) rfl rfl rfl ?_
   have E:R=(Qdk,(ent,l6),{ c with cache:=Je s2.cache s2.files },s2.net):=by
    rw[HR.o]
    unfold Qcx
    rw[if_neg (by rw[←q.o];omega),Int.toNat_natCast,←C.o,←q.o,af.o,←S.o]
    dsimp only
    rw[←cc.o]
    rfl
   rw[E]
   have cx:Fr (QS (cQ gq gc gk mc gn gd mq vl vt v c) ⟨.slice none 0 0,qs,[]⟩) w2 w8:=ab.o.trans (Fr.ofBelow a.o)
   refine Qkz (s:={ s2 with cache:=Je s2.cache s2.files }) J.o I.o A.o T t ak (by rw[dw.o];exact cl.o) (Fr.sub cx (a0.o.weak fun _ _ e=>.inr (.inl e)) K.o) (fun k hk=>?_) (de.o.mono bh.o) (Zs (Zk (Ql cv.o a.o) a0.o cw.o (by decide)) (by have:=D.o.size;have:=G.o.size;have:=bh.o;omega)) (.inl ⟨rfl,rfl⟩) (.inl rfl)
   rcases hk with e|e|e
   ·exact K.o k (.inl e)
   ·rcases Nat.lt_or_ge k w8.heap.size with am|bc
    ·exact K.o k (.inr (.inl (ef.o k am e)))
    ·exact .inr (Nat.le_trans cx.size bc)
   ·exact K.o k (.inr (.inr e)))
end
section
variable {w:World}
theorem Qlv {P:Program} {ops:Array Oper} {rest:List Oper} {o:Oper} {a:Act} {Q:Exit→Act→World→Prop} (hw:Region.wanted o (yielded ops a.tmps)=true) (ty:TypeId) (x y:Operand) (ho:o.op=.store ty x y)
  (g off:Nat) (hx:a.eval x=.pointer (some ⟨g,off,none⟩)) (cs:Array Value) (hy:a.eval y=.agg cs) (hcs:cs.size=8) (h1:∀ u∈cs.toList,u.oneCell'=true) (hi:(P.info? ty).map (·.size)=some 8)
  (cur:Array Value) (t:TypeId) (hg:w.heap[g]?=some (.cells cur t (0,0))) (hl:off+8≤cur.size)
  (hk:∀ cur':Array Value,cur'.size=cur.size→(∀ j,off+8≤j→cur'[j]?=cur[j]?)→wpList P ops Q rest (a.put o.dst undef) (w.setRow g cur')):wpList P ops Q (o :: rest) a w:=by
 refine BigFrame.wpList_want hw fun K' hK'=>?_
 have c:=run_storeCells_at (P:=P) g off t cs.toList 0 cur w hg (by simp[hcs];omega) h1;have hr:(storeVar ty ⟨g,off,none⟩ (.agg cs)).run P w=.ok () (w.setRow g (cur.toList.take (off+0)++cs.toList++cur.toList.drop (off+0+cs.toList.length)).toArray):=by
  cases hq:P.info? ty with
  | none=>simp[hq] at hi
  | some i=>
   have hs:i.size=8:=by simpa [hq] using hi
   have b:=c;simp only[Nat.add_zero] at b;simp[storeVar,sizeOf,typeInfo,hq,Value.cells,hs,hcs,b]
 unfold Oper.wp execOp;simp only[ho,hx,hy,Instr.storeAt,Instr.sureAddr,Sem.run_bind,Sem.run_pure,Result.andThen_ok,hr];refine hK' _ _ (hk _ ?_ ?_)
 ·simp[hcs];omega
 ·intro j hj
  have d:cs.toList.length=8:=by simpa using hcs
  rw[List.getElem?_toArray,Nat.add_zero,List.getElem?_append_right (by simp[hcs];omega)];rw[List.getElem?_drop,←Array.getElem?_toList]
  congr 1
  simp[hcs];omega
def Q7m (w:World) (base:Nat) (v:Value) (hs:List Hsh) (k:Nat):Prop:=
 ∃ (g cap:Nat) (cur:Array Value),v=.slice (some ⟨g,0,none⟩) hs.length cap∧base≤g∧w.heap[g]?=some (.cells cur 143 (0,0))∧hs.length≤cap∧hs.length*8≤cur.size∧
  ∀ (j:Nat) (h:Hsh),k≤j→hs[j]?=some h→∀ (m:Nat) (hm:m<8),cur[j*8+m]?=some (u8 h[m])
theorem Q76 (hs:List Hsh):∀ (j:Nat) (h:Hsh),hs[j]?=some h→∀ (m:Nat) (hm:m<8),(hs.flatMap fun h=>(h8 h).toList)[j*8+m]?=some (u8 h[m]):=by
 induction hs with
 | nil=>intro j h hj;simp at hj
 | cons x hs ih=>
  intro j h hj m hm;have hx:(h8 x).toList.length=8:=by simp
  cases j with
  | zero=>
   simp only[List.getElem?_cons_zero,Option.some.injEq] at hj;subst hj;rw[List.flatMap_cons,List.getElem?_append_left (by omega)];simp[h8,hm]
  | succ j=>
   rw[List.flatMap_cons,List.getElem?_append_right (by omega),hx,show (j+1)*8+m-8=j*8+m by omega];exact ih j h (by simpa using hj) m hm
variable {base:Nat} {v:Value} {hs:List Hsh}
theorem Qcs.tail (h:Qcs w base v hs):(v=.slice none 0 0∧hs = [])∨Q7m w base v hs 0:=by
 obtain⟨h1,h2⟩:=h;rcases h2 with ⟨rfl,h0⟩|⟨g,cap,cur,rfl,hb,hg,hn,hc,a,ht⟩
 ·exact .inl ⟨rfl,List.eq_nil_of_length_eq_zero h0⟩
 ·refine .inr ⟨g,cap,cur,rfl,hb,hg,hn,by omega,fun j h _ hj m hm=>?_⟩
  have:=Q76 hs j h hj m hm
  rw[←ht,List.getElem?_take] at this
  split at this
  ·simpa using this
  ·cases this
variable {g k:Nat} {cur:Array Value}
theorem Quu {x:Hsh} {t:TypeId} (hg:w.heap[g]?=some (.cells cur t (0,0))) (hall:∀ (m:Nat) (hm:m<8),cur[k*8+m]?=some (u8 x[m])):Q8 w (.slice (some ⟨g,k*8,none⟩) 8 8) x.toList:=by
 unfold Q8;refine⟨_,8,by simp,by simp,fun j y hy=>⟨g,k*8,rfl,?_⟩⟩;have hj:j<8:=by have:=(List.getElem?_eq_some_iff.1 hy).1;simpa using this
 have h1:=hall j hj;rw[show (x.toList.map u8)[j]?=some (u8 x[j]) by simp[hj]] at hy;cases hy;simp[World.cell?,hg,h1]
theorem Qg7 {e e':TypeId} {size n:Nat} {xs:List Value} {fz:Nat×Nat} (h:w.ownsRow base e size v n xs) (hg:w.heap[g]?=some (.cells cur e' fz)) (hne:e'≠e) (cs:Array Value):(w.setRow g cs).ownsRow base e size v n xs:=by
 obtain⟨h1,h2⟩:=h;refine⟨h1,?_⟩;rcases h2 with h2|⟨b,cap,cu,hv,hb,hh,r⟩
 ·exact .inl h2
 ·refine .inr ⟨b,cap,cu,hv,hb,?_,r⟩
  rw[setRow_other w g b cs (fun e1=>?_)]
  ·exact hh
  ·subst e1
   rw[hg] at hh;simp only[Option.some.injEq,Obj.cells.injEq] at hh;exact hne hh.2.1
theorem Qpw {h:Hsh} (hh:hs[k]?=some h):((hs.take (k+1)).map HS)=(hs.take k).map HS ++ [HS h]:=by rw[List.take_add_one,hh];simp
end
section
theorem Qvx (v:Value) (hs:List Hsh) (w:World) (h:Qcs w 0 v hs) (hn:hs.length≤1048576) :
  Calls prog 86 #[v] w fun e w'=>∃ v',e=.returned v'∧Q0 w' w.heap.size v' (hs.map HS)∧Fr (fun k=>v.ownBlock=some k) w w':=by
 rcases h.tail with ⟨rfl,rfl⟩|ht
 ·clear h
  go_enter func86,ntmps86
  go_wp2;refine wp_loop_rounds 1 ?_;rw[rounds_succ];go_wp2;go_ret;exact⟨_,rfl,World.ownsRow_nil _ _ _ _,Fr.refl _ _⟩
 ·obtain⟨g,cap,B,rfl,s,t,q,n,f⟩:=ht
  obtain⟨i0,hi,E,H,I⟩:=info_parts Qb5;have HT:=zh (show Q7m w 0 (.slice (some ⟨g,0,none⟩) hs.length cap) hs 0 from ⟨g,cap,B,rfl,s,t,q,n,f⟩);clear h f t n
  go_enter func86,ntmps86
  go_wp2
  go_loopw [3,7] (fun v i wr=>∃ k:Nat,k≤hs.length∧i=.int .i64 k∧Q0 wr w.heap.size v ((hs.take k).map HS)∧Q7m wr 0 (.slice (some ⟨g,0,none⟩) hs.length cap) hs k∧Fr (fun k=>k=g) w wr) (fun _ i _=>hs.length-(intOf i).toNat)
  case atStart=>exact⟨0,by omega,rfl,World.ownsRow_nil _ _ _ _,HT.o,Fr.refl _ _⟩
  case round=>
   obtain⟨k,hk,rfl,a,M,b⟩:=hrel;by_cases hlt:k<hs.length
   ·obtain⟨x,hx⟩:∃ x,hs[k]?=some x:=⟨_,List.getElem?_eq_getElem hlt⟩
    obtain⟨g',cap',cur,hv,Q,hg,P,K,c⟩:=M;simp only[Value.slice.injEq,Option.some.injEq,Addr.mk.injEq,and_true,true_and] at hv;obtain⟨rfl,rfl⟩:=hv;have hbytes:=Quu hg (c k x (Nat.le_refl _) hx);have R:=Qc hg;have N:k*8+8≤cur.size:=by omega
    have HX:=zh hx;unfold Q0 at a;have HR:=zh a;have HB:=zh b;have HG:=zh hg;have D:=zh c;have L:=zh hbytes;have C:w.heap.size≤wr.heap.size:=b.size;have A:((hs.take k).map HS).length≤1048576:=by simp;omega
    clear hx hg c hbytes a b
    go_wp2_with (first|(refine Qnd rfl 147 9 _ rfl _ underlying147 underlying5 underlying9 _ ?_ rfl ?_ ?_;rotate_left;focus exact L.o)|(at_builtin;refine Jd rfl _ _ 22 rfl w.heap.size 9 i0 (.string ⟨#[]⟩) 16 underlying22 hi E H I rfl (by decide) _ _ _ rfl HR.o _ rfl rfl (Nat.le_trans A (by decide)) C ?_;intro v2 w2 y r z;have O:=zh y;have J:=zh r;have l:=(Qi9 HR.o r (by decide) HG.o).trans HG.o;clear y r z)|(refine Qlv rfl 143 _ _ rfl g (k*8) rfl _ rfl rfl (by decide) info8 cur 143 l N ?_;intro cur' p d;have F:=zh p;have G:=zh d;have u:=zh l;clear p d l))
    go_roundw
    case rel=>
     refine⟨k+1,by omega,by go_num,?_,?_,?_⟩
     ·rw[Qpw HX.o]
      unfold Q0;refine Qg7 ?_ u.o (by decide) _;have hr:=O.o;rw[show (⟨x.toList.toArray⟩:ByteArray)=HS x from rfl] at hr;simpa using hr
     ·exact⟨g,cap,cur',rfl,s,setRow_heap _ g cur _ _ _ u.o,q,by rw[F.o];exact K,fun j h hj hh m hm=>(G.o (j*8+m) (by omega)).trans (D.o j h (by omega) hh m hm)⟩
     ·exact (HB.o.step (Fr.ofGrown (S:=fun k=>w.heap.size≤k) J.o fun j _ hj=>(HR.o.lt j hj).1) fun i h1 h2=>absurd h2 (by omega)).trans (Fr.ofGrown (Qkt w2 g cur') fun k _ e=>(Option.some.inj e).symm)
    case measure=>(simp[intOf] <;> omega)
   ·have ht:hs.take k=hs:=List.take_of_length_le (by omega)
    rw[ht] at a;go_wp2;go_ret;exact⟨_,rfl,a,b.weak fun k _ e=>by rw[e];rfl⟩
end
section
def Q6l (data:List UInt8) (w:World) (e:Ending) (w':World):Prop:=
 ∃ v',e=.returned (.tuple #[v',.bool (Qr data).isSome])∧Below w.heap.size w w'∧((Qr data=none∧v'=.slice none 0 0)∨∃ ss,Qr data=some (bss ss)∧Q0 w' w.heap.size v' ss)
theorem Q2g {ls:List (List UInt8)} {l:List UInt8} (h:Yn ls=some l):l=ls.flatMap encE:=by
 unfold Yn at h
 split at h
 ·cases h
 ·split at h
  ·cases h;rfl
  ·cases h
theorem Qhh (s:ByteArray) (i j:Nat):(s.extract i j).data.toList=(s.data.toList.drop i).take (j-i):=by simp[List.extract]
theorem Q6f {s:ByteArray} {x:UInt8} {r:List UInt8} {n:Nat} (h:s.data.toList=x :: r) (hn:n≤r.length):(s.extract 1 (1+n)).data.toList=r.take n∧(s.extract (1+n) s.size).data.toList=r.drop n∧(s.extract (1+n) s.size).size=s.size-(1+n):=by
 have hl:s.data.toList.length=s.size:=rfl;have a:r.length+1=s.size:=by rw[←hl,h];rfl
 refine⟨?_,?_,?_⟩
 ·rw[Qhh,h,show 1+n-1=n from by omega];rfl
 ·rw[Qhh,h,show 1+n=n+1 from by omega,List.drop_succ_cons]
  exact List.take_of_length_le (by simp;omega)
 ·simp
theorem Qfe (s0:ByteArray) (w:World) (hn:s0.size≤1099511627776) :
  Calls prog 59 #[.string s0] w (Q6l s0.data.toList w):=by
 obtain⟨i0,hi,G,I,J⟩:=info_parts Qb5
 go_enter func59,ntmps59
 go_wp2
 go_loopw [0,4] (fun sv lv wr=>∃ (s:ByteArray) (ss:List ByteArray),sv=.string s∧Q0 wr w.heap.size lv ss∧Read s0.data.toList (bss ss) s.data.toList∧ss.length+s.size≤s0.size∧Below w.heap.size w wr) (fun sv _ _=>match sv with | .string s=>s.size|_=>0)
 case atStart=>exact⟨s0,[],rfl,World.ownsRow_nil _ _ _ _,Read.start _,by simp,Below.refl _ _⟩
 case round=>
  obtain⟨s,ss,rfl,d,a,S,q⟩:=hrel;have HR:=zh a;have HB:=zh q;unfold Q0 at d;have HO:=zh d;clear a q d;by_cases h0:0<s.size
  ·have hd:decide (0<(s.size:Int))=true:=by simp;omega
   obtain⟨x,r,c⟩:∃ x r,s.data.toList=x :: r:=by
    cases h:s.data.toList with
    | nil=>
     have hl:s.data.toList.length=s.size:=rfl;rw[h] at hl;simp at hl;omega
    | cons x r=>exact⟨x,r,rfl⟩
   have K:x.toNat<256:=x.toNat_lt;have hx:s[0]'h0=x:=by
    have:s.data.toList[0]'(by rw[c];simp)=x:=by simp[c]
    exact this
   have A:r.length+1=s.size:=by have hl:s.data.toList.length=s.size:=rfl;rw[←hl,c];rfl
   have C:=zh c;have P:r.length+1≤s.size:=by omega
   have Q:s.size≤r.length+1:=by omega
   have R:=zh A;obtain⟨n,g⟩:∃ n,n=x.toNat:=⟨_,rfl⟩
   rw[←g] at K;have T:(s[0]'h0).toNat=n:=by rw[hx,←g]
   have HX:=zh g;clear c A hx g;have a:=HR.o;rw[C.o] at a;have v:=zh a;clear a;by_cases hA:r.length<n
   ·have d1:decide ((s.size:Int)<1+(n:Int))=true:=by simp;omega
    go_wp2;go_ret2;have hu:=Qkl (v.o.bad (by rw[←HX.o];exact hA));exact⟨_,by rw[hu];rfl,HB.o,.inl ⟨hu,rfl⟩⟩
   ·have d1:decide ((s.size:Int)<1+(n:Int))=false:=by simp;omega
    have hcut:=Q6f C.o (show n≤r.length by omega);have D:=zh hcut;have b:=v.o.step (by rw[←HX.o];omega);rw[←HX.o] at b;have O:=zh b;clear hcut b
    go_wp2_with (first|(at_builtin;refine Jd rfl _ _ 22 rfl w.heap.size 9 i0 (.string ⟨#[]⟩) 16 underlying22 hi G I J rfl (by decide) _ _ _ rfl HO.o _ rfl rfl (by omega) HB.o.size ?_;intro v2 w2 u B F;have E:=zh u;have L:=zh B;clear u B F))
    obtain⟨H,N,z⟩:=D.o;go_roundw
    case rel=>
     refine⟨_,ss ++ [s.extract 1 (1+n)],rfl,?_,?_,?_,HB.o.grown L.o HB.o.size (fun j hj=>(HO.o.lt j hj).1)⟩
     ·unfold Q0
      simpa using E.o
     ·rw[N]
      have e:bss (ss ++ [s.extract 1 (1+n)])=bss ss ++ [r.take n]:=by simp only[bss,List.map_append,List.map_cons,List.map_nil,H]
      rw[e];exact O.o
     ·rw[z,List.length_append]
      simp;omega
    case measure=>
     show (s.extract (1+n) s.size).size<s.size;rw[z];omega
  ·have hd:decide (0<(s.size:Int))=false:=decide_eq_false (by omega)
   have k:s.data.toList.length=0:=by have hl:s.data.toList.length=s.size:=rfl;rw[hl];omega
   have t:s.data.toList = []:=List.eq_nil_of_length_eq_zero k;clear k;have HN:=zh t;clear t;have m:rawU s0.data.toList=some (bss ss):=by have:=HR.o;rw[HN.o] at this;exact this.done
   have f:=zh m;clear m;have i:Zn wr u4 ss:=Z4 HO.o;have M:=zh i;clear i
   go_wp2_with fail
   refine (Qme u4 ss _ M.o (by omega)).mono ?_;rintro e w1 ⟨rfl,y⟩;have p:=zh y;clear y;cases hbo:Yn (bss ss) with
   | none=>
    go_wp2;go_ret2;have hu:Qr s0.data.toList=none:=by unfold Qr;rw[f.o,Option.bind_some,hbo];rfl
    exact⟨_,by rw[hu];rfl,HB.o.trans (p.o.mono HB.o.size),.inl ⟨hu,rfl⟩⟩
   | some l=>
    have hl:l=s0.data.toList:=by rw[←Qqt f.o];exact Q2g hbo
    have ht:(⟨((some l).getD []).toArray⟩:ByteArray)=s0:=by rw[Option.getD_some,hl]
    have hu:Qr s0.data.toList=some (bss ss):=by unfold Qr;rw[f.o,Option.bind_some,hbo];rfl
    have HU:=zh hu;rw[ht];clear hl ht hu hbo;go_wp2;go_ret2;exact⟨_,by rw[HU.o];rfl,HB.o.trans (p.o.mono HB.o.size),.inr ⟨ss,HU.o,Ql HO.o p.o⟩⟩
end
section
theorem Qc8 {P:Program} {ops:Array Oper} {rest:List Oper} {o:Oper} {a:Act} {Q:Exit→Act→World→Prop} {w:World} (hgd:o.guard=none) (x:Operand) (t:TypeId)
  (ho:o.op=.call { callee:=.builtin .clear,args:=#[x],argTypes:=#[t] }) (i:TypeInfo) (ht:P.underlying t=some (.slice 5)) (hi:P.info? 5=some i) (hz:i.zero=some (.int .u8 0))
  (base:Nat) (v:Value) (l:List UInt8) (hx:a.eval x=v) (e:Qy w base v l)
  (h:∀ w' n,w.grownBy w' v.ownBlock→(∀ k,k<w.heap.size→(∃ C C' fz,w.heap[k]?=some (.cells C 5 fz)∧w'.heap[k]?=some (.cells C' 5 fz)∧C'.size=C.size)∨w'.heap[k]?=w.heap[k]?)→w'.heap.size=w.heap.size→wpList P ops Q rest (a.put o.dst n) w'):wpList P ops Q (o :: rest) a w:=by
 refine wpList_plain hgd fun K hK=>?_
 have noop:(Builtin.clear_ #[t] o.type #[v]).run P w=.ok (.tuple #[]) w→o.wp P a w K Q:=fun hr=>by unfold Oper.wp execOp;simp only[ho,resolve,invoke,builtin,Sem.run_bind,Sem.run_pure,Result.andThen_ok,List.map_toArray,List.map_cons,List.map_nil,hx,hr];exact hK _ _ (h w _ ⟨rfl,rfl,rfl,Nat.le_refl _,fun _ _ _=>rfl⟩ (fun _ _=>.inr rfl) rfl)
 rcases e with ⟨rfl,rfl⟩|⟨b,off,c,C,fz,rfl,f,hb,hg,hc,g,hf⟩
 ·exact noop (by simp[Builtin.clear_,run_underlying ht])
 ·by_cases h0:l.length=0
  ·obtain rfl:l = []:=List.eq_nil_of_length_eq_zero h0
   exact noop (by simp[Builtin.clear_,run_underlying ht])
  ·obtain⟨cur',d,hs⟩:=Qec (P:=P) b off 5 fz ((Builtin.zeroCells #[Value.int .u8 0] l.length).toList) 0 C w hg (by simp[Builtin.zeroCells];omega) hf (fun u hu=>by
    simp[Builtin.zeroCells] at hu
    obtain⟨k,hk,rfl⟩:=hu
    simp[Nat.mod_one,Value.oneCell'])
   have hr:(Builtin.clear_ #[t] o.type #[.slice (some ⟨b,off,none⟩) l.length c]).run P w=.ok (.tuple #[]) (w.setRow b cur'):=by
    cases hl:l.length with
    | zero=>exact absurd hl h0
    | succ n=>
     rw[hl] at d;simp[Builtin.clear_,run_underlying ht,zeroValue,typeInfo,hi,hz,Value.cells,d]
   unfold Oper.wp execOp;simp only[ho,resolve,invoke,builtin,Sem.run_bind,Sem.run_pure,Result.andThen_ok,List.map_toArray,List.map_cons,List.map_nil,hx,hr];refine hK _ _ (h _ _ (Qkt w b cur') (fun k hk=>?_) (by simp));by_cases hkb:k=b
   ·subst hkb
    exact .inl ⟨C,cur',fz,hg,setRow_heap w k _ _ _ _ hg,hs⟩
   ·exact .inr (setRow_other w b k cur' hkb)
end
section
abbrev PcAt (w:World) (ga gc:Nat):Prop:=w.heap[ga]?=some (.cells #[.pointer (some ⟨gc,0,none⟩)] 130 (0,0))
theorem Qhc (w:World) (vn vf:Value) (hv:(vn=.pointer none∧vf=.nilIface)∨∃ a,vn=.pointer (some a)∧vf=.iface 48 (.pointer (some a))) (key:ByteArray) (i:Int) (hi:i≤9223372036854775807) :
  Calls prog 25 #[vn,.string key,.int .i64 i] w fun e w'=>∃ ga gc gk mc,e=.returned (.pointer (some ⟨ga,0,none⟩))∧PcAt w' ga gc∧ClIs w' gc gk mc vf ⟨key,0,hash [],⟨i.toNat,[]⟩⟩ []∧Below w.heap.size w w'∧w.heap.size≤ga∧w.heap.size≤gc∧w.heap.size≤gk∧w.heap.size≤mc:=by
 have HC:=zh (Qqe w vf (hv.imp (fun h=>h.2) fun ⟨a,h⟩=>⟨a,h.2⟩) key i hi);rcases hv with ⟨rfl,rfl⟩|⟨a,rfl,rfl⟩
 all_goals
  go_enter func25,ntmps25
  go_wp2_with (first
   | (go_at_call 82;refine HC.o.mono ?_;rintro e w1 ⟨gc,gk,mc,rfl,d,c,k,f,j⟩;have g:=zh d;have b:=zh c;clear d c)
   | fail)
  exact bodyPost_ret (results_tmp rfl _ _ _) rfl ⟨w1.heap.size,gc,gk,mc,rfl,heap_alloc_new w1 _,g.o.below (Qa w1 _),b.o.alloc b.o.size _,b.o.size,k,f,j⟩
variable {w:World}
theorem Q2m {g:Nat} {n:Int} {h:Hsh} (ht:TrAt w g n h):Q8 w (.slice (some ⟨g,1,none⟩) 8 8) h.toList:=by
 unfold Q8;refine⟨_,8,by simp,by simp,fun j x hx=>⟨g,1,rfl,?_⟩⟩;have hj:j<8:=by have:=(List.getElem?_eq_some_iff.1 hx).1;simpa using this
 have h1:=Q3k n h j hj;rw[show (h.toList.map u8)[j]?=some (u8 h[j]) by simp[hj]] at hx;cases hx;unfold TrAt at ht;simp only[World.cell?,ht];exact h1
theorem Qr1 (w:World) (ga gc gk mc:Nat) (vf:Value) (c:Cl) (qs:List CEnt) (hga:PcAt w ga gc) (h:ClIs w gc gk mc vf c qs) :
  Calls prog 31 #[.pointer (some ⟨ga,0,none⟩)] w fun e w'=>e=.returned (.tuple #[.int .i64 c.size,.string (HS c.root)])∧ClIs w' gc gk mc vf c qs∧Fr (·=gc) w w':=by
 have c0:w.cell? ⟨ga,0,none⟩=some (.pointer (some ⟨gc,0,none⟩)):=Qd hga 0 rfl;have HC:=zh (Qrm w gc gk mc vf c qs h);obtain⟨n,hn⟩:∃ n:Int,n=c.size:=⟨_,rfl⟩
 obtain⟨k,hk⟩:∃ k,k=c.root:=⟨_,rfl⟩
 rw[←hn,←hk];have HN:=zh hn;have HK:=zh hk;rw[←hn,←hk] at HC;clear hga h hn hk
 go_enter func31,ntmps31
 go_wp2_with fail
 refine HC.o.mono ?_;rintro e w1 ⟨rfl,b,a⟩;have T1:TrAt (w1.alloc (.cells (trC 0 zero8) 145)) w1.heap.size 0 zero8:=heap_alloc_new w1 _;have T2:=T1.set n k;have B2:=below_setRow ((Below.refl w1.heap.size w1).alloc (Nat.le_refl _) (.cells (trC 0 zero8) 145)) (g:=w1.heap.size) (Nat.le_refl _) (trC n k);have f:=zh T1;obtain⟨W,hW⟩:∃ W,W=(w1.alloc (.cells (trC 0 zero8) 145)).setRow w1.heap.size (trC n k):=⟨_,rfl⟩
 rw[←hW] at T2 B2;have HW:=zh hW;have l:=Qeu (Q2m (T2.below (Qn _)));obtain⟨k0,_,_,_,_,_,_,_,_⟩:=(T2.below (Qn _)).cells;have m:=Qc T2;have d:=zh B2;have j:=zh b;have i:=zh a;clear T1 T2 B2 hW b a
 go_wp2_with (refine Z8 rfl _ _ rfl _ n k rfl rfl _ _ f.o ?_)
 rw[show (w1.alloc (.cells #[.int .i64 0,.int .u8 0,.int .u8 0,.int .u8 0,.int .u8 0,.int .u8 0,.int .u8 0,.int .u8 0,.int .u8 0] 145)).setRow w1.heap.size (trC n k)=W from HW.o.symm];go_region
 all_goals (
  go_wp2
  go_ret2
  exact⟨rfl,j.o.below d.o.drew,i.o.trans (Fr.ofBelow d.o.drew)⟩)
def Q1j (w:World) (gc gk mc gn gd:Nat) (vl vt:Value) (qs:List CEnt) (r:Tld×(List UInt8×List Hsh)×Cl×Nt) (e:Ending) (w':World):Prop:=
 ∃ (nn:Bool) (v':Value),e=.returned (.tuple #[.string (sOf r.2.1.1),.bool nn,v',Qaa r.1.1 r.1.2])∧(nn=true→r.2.1.1 = [])∧(r.1=Qdk∨nn=true)∧Q0 w' w.heap.size v' (r.2.1.2.map HS)∧
  ∃ qs',ClIs w' gc gk mc (.iface 48 (.pointer (some ⟨gn,0,none⟩))) r.2.2.1 qs'∧Y1 w' gn gd vl vt r.2.2.2∧Fr (cnS gc gk mc gn vt qs) w w'∧Sub w (cnS gc gk mc gn vt qs) (cnS gc gk mc gn vt qs')
theorem ClM.kept {S:Nat→Prop} {ts:List TypeId} {mu:Int} {w':World} {gc gk mc:Nat} {vf:Value} {c:Cl} {qs:List CEnt} (h:ClM mu w gc gk mc vf c qs) (hf:Fr S w w') (hS:Qa0 w S ts) (hm:∀ k,S k→∃ C t fz,w.heap[k]?=some (.cells C t fz)) (h0:205 ∉ ts) (h1:253 ∉ ts) (h2:251 ∉ ts) (h3:5 ∉ ts):ClM mu w' gc gk mc vf c qs:=
 ⟨Zl h.cells hf hS h0,Qer h.cache hf hS (fun e=>by
  obtain⟨C,t,fz,hC⟩:=hm _ e
  obtain⟨D,⟨es,cl,hb,_⟩,_⟩:=h.cache.km.ex
  rw[hC] at hb;cases hb) h1 h2 h3⟩
theorem Qmg {base:Nat} {a:Option Addr} {n c:Nat} {l:List UInt8} (h:Qy w base (.slice a n c) l):∀ z,(Value.slice a n c).ownBlock=some z→∃ C fz,w.heap[z]?=some (.cells C 5 fz):=fun z hz=>by
 rcases h with ⟨h1,_⟩|⟨b,off,c',C,fz,h1,_,_,h4,_⟩
 ·cases h1;cases hz
 ·cases h1
  have:b=z:=by simpa [Value.ownBlock] using hz
  subst this
  exact⟨C,fz,h4⟩
theorem Q4a (F:Nat→Addr) (w:World) (ga gc gk mc gn gd:Nat) (vl vt:Value) (i:Int) (qs:List CEnt) (r:Tld×(List UInt8×List Hsh)×Cl×Nt) (hga:PcAt w ga gc) (hE:EnvS F (cnS gc gk mc gn vt qs) w) (hlt:∀ k,cnS gc gk mc gn vt qs k→k<w.heap.size) (hlen:r.2.1.2.length≤1048576)
  (hc:Calls prog 93 #[.pointer (some ⟨gc,0,none⟩),.int .i64 i] (w.alloc (.cells #[.int .i64 0,.string ⟨#[]⟩] 63)) (Qlc F (w.alloc (.cells #[.int .i64 0,.string ⟨#[]⟩] 63)) gc gk mc gn gd vl vt qs r)) :
  Calls prog 36 #[.pointer (some ⟨ga,0,none⟩),.int .i64 i] w (Q1j w gc gk mc gn gd vl vt qs r):=by
 obtain⟨⟨tk,tp⟩,⟨bb,hh⟩,c1,n1⟩:=r;obtain⟨W0,c⟩:∃ W0,W0=w.alloc (.cells #[.int .i64 0,.string ⟨#[]⟩] 63):=⟨_,rfl⟩
 have A:Below w.heap.size w W0:=by rw[c];exact Qa w _
 have H:Zr W0 w.heap.size 0 ⟨#[]⟩:=by rw[c];exact Qc6 w
 have ap:W0.heap.size=w.heap.size+1:=by rw[c];simp
 have c0:W0.cell? ⟨ga,0,none⟩=some (.pointer (some ⟨gc,0,none⟩)):=Qd ((A.block _ (Qc hga)).trans hga) 0 rfl;obtain⟨i0,ag,ad,_,_⟩:=info_parts Qjs;rw[←c] at hc;have ao:=zh c;have am:=zh A;have aj:=zh H;have HE:=zh hE;have ai:=zh hlt;have Z:=zh hlen;have HC:=zh hc;clear hga hE hlt hlen hc c A H
 go_enter func36,ntmps36
 go_upto_region 1 with fail
 rw[show w.alloc (.cells #[.int .i64 0,.string ⟨#[]⟩] 63)=W0 from ao.o.symm]
 go_upto_region 2 with (first
  | (go_at_call 93;refine HC.o.mono ?_;rintro e w1 ⟨u,v,y,rfl,hu,hv,hy,ak,T,R,N,M,L⟩;obtain⟨ua,un,uc,rfl⟩:=Qgm hu;have HU:=zh hu;have HV:=zh hv;have HY:=zh hy;have an:=zh T;have ac:=zh R;have B:=zh N;have ae:=zh M;have al:=zh L;clear hu hv hy T R N M L)
  | fail)
 have hu:=HU.o;have aq:=Qeu hu.at;have hq:=Lib.run_eql_slice_nil (P:=prog) w1 147 5 ua un uc 0 0 underlying147;have G:Qa0 w1 (fun k=>(Value.slice ua un uc).ownBlock=some k) [5]:=fun k C t f hs hk=>by obtain⟨C',fz',h'⟩:=Qmg hu k hs;rw[hk] at h';cases h';simp
 have s:=Qo7 hu;have O:Zr w1 w.heap.size 0 ⟨#[]⟩:=B.o.heap aj.o fun e=>by have:=ai.o _ e;omega
 have E:Fr (cnS gc gk mc gn vt qs) w w1:=(Fr.ofBelow am.o).trans B.o;have n:=zh G;have V:=zh s;have ab:=zh O;have Y:=zh E;have q:=zh hu;clear hu G s O E c0
 go_wp2_with (first
  | (refine Qc8 rfl _ 147 rfl i0 underlying147 ag ad W0.heap.size _ bb rfl q.o ?_;intro w3 n3 K X ah;have a:=zh (Fr.ofGrown (S:=fun k=>(Value.slice ua un uc).ownBlock=some k) K fun k _ e=>e);have x:=zh (show Qcs w3 0 v hh from Zs (Zk HV.o a.o n.o (by decide)) (Nat.zero_le _));clear K X ah)
  | (go_at_call 86;refine (Qvx v hh w3 x.o Z.o).mono ?_;rintro e w4 ⟨v4,rfl,Q,J⟩;have af:=zh Q;have d:=zh J;have h:=zh (Qd4 x.o);clear Q J)
  | (go_at_call 87;have g:Fr (cnS gc gk mc gn vt qs) w w4:=(Y.o.step a.o fun i h1 h2=>absurd (V.o i h2).1 (by omega)).step d.o (fun i h1 h2=>absurd (HV.o.lt i h2).1 (by omega));have W:=zh g;have I:=(HY.o.fr a.o (fun k C fz hC=>Yk n.o hC (by decide))).fr d.o (fun k C fz hC=>Yk h.o hC (by decide));have U:=(ab.o.kept a.o n.o (by decide)).kept d.o h.o (by decide);refine (Q61 (HE.o w4 g).2.1 I).mono ?_;rintro e w5 ⟨rfl,z⟩;have j:=zh z;have p:=zh (U.below z);obtain⟨t0,t1,t2,t3,t4⟩:=p.o.facts;clear g I U z)
  | fail)
 have aa:=Qc2 (m:=tk) (t:=tp) p.o;have D:=Q5 p.o;have l:=aa.2;refine bodyPost_ret (v:=.tuple #[.string (sOf bb),.bool ua.isNone,v4,Qaa tk tp]) (by simp[results,results36,go_sem,t0,t1,sOf]) rfl ⟨ua.isNone,v4,rfl,?_,?_,?_,ak,?_,?_,?_,?_⟩
 ·intro hn
  rcases q.o with ⟨_,h1⟩|⟨b,off,cc,C,fz,h1,_⟩
  ·exact h1
  ·cases h1;cases hn
 ·rcases al.o with h1|h1
  ·exact .inl h1
  ·cases h1;exact .inr rfl
 ·exact Zs (Zk (Ql af.o j.o) l D (by decide)) (by have:=a.o.size;have:=B.o.size;omega)
 ·have h3:=ClM.back an.o a.o (Qmg q.o)
  have h4:=h3.kept d.o h.o (fun k hk=>by obtain⟨C,hC⟩:=Qe x.o hk;exact⟨C,_,_,hC⟩) (by decide) (by decide) (by decide) (by decide);exact (h4.below j.o).kept l D (fun k hk=>⟨_,_,_,(show w5.heap[k]?=_ from hk ▸ p.o)⟩) (by decide) (by decide) (by decide) (by decide)
 ·have h3:=J1 ac.o a.o n.o (by decide) (by decide) (by decide)
  have h4:=J1 h3 d.o h.o (by decide) (by decide) (by decide);exact J1 (h4.below j.o) l D (by decide) (by decide) (by decide)
 ·exact (W.o.trans (Fr.ofBelow j.o)).step l fun i h1 h2=>by omega
 ·exact ae.o.mono (by omega)
end
section
theorem Qua (s p:List UInt8):(J0 s p).1.length≤s.length:=by
 unfold J0
 split <;> simp
theorem Qxc:∀ (l:List UInt8) (a n:Nat) (r:List UInt8),Qcv a l=some (n,r)→r.length≤l.length
 | [],a,n,r,h=>by simp only[Qcv,Option.some.injEq,Prod.mk.injEq] at h;rw[←h.2];exact Nat.le_refl _
 | c :: l,a,n,r,h=>by
  simp only[Qcv] at h
  split at h
  ·split at h
   ·cases h
   ·have:=Qxc l _ n r h
    simp only[List.length_cons]
    omega
  ·simp only[Option.some.injEq,Prod.mk.injEq] at h;rw[←h.2];exact Nat.le_refl _
theorem Quq (l:List UInt8):(Y5 l).2.1.length≤l.length:=by
 unfold Y5;cases h:Qcv 0 l with
 | none=>exact Nat.le_refl _
 | some x=>exact Qxc l 0 x.1 x.2 h
end
section
theorem Qrc {c:UInt8} {m:Nat} (h:Qcl c=some m):m<16:=by
 unfold Qcl at h
 split at h
 ·cases h;omega
 ·split at h
  ·cases h;omega
  ·cases h
variable {r:List UInt8}
theorem Qs9 (h:r.length=8):(Yo r).toList=r:=by
 match r,h with
 | [a,b,c,d,e,f,g,i],_=>rfl
theorem Q6t (h:r.length=8):sOf r=HS (Yo r):=by
 conv=>lhs;rw[←Qs9 h]
 rfl
def Qet (q:Qn2) (w:World) (e:Ending) (w':World):Prop:=
 e=.returned (.tuple #[.int .i64 q.1,.string (if q.2.2=true then HS q.2.1 else ⟨#[]⟩),.bool q.2.2])∧Below w.heap.size w w'
theorem Qek {w w':World} (h:Below w.heap.size w w'):Qet J9 w (.returned (.tuple #[.int .i64 0,.string ⟨#[]⟩,.bool false])) w':=⟨rfl,h⟩
theorem Qns (d:UInt8→Option Nat) (a b:UInt8) (l:List UInt8):Qah d (a :: b :: l)=(d a).bind fun x=>(d b).bind fun y=>(Qah d l).map (UInt8.ofNat (16*x+y) :: ·):=by
 conv=>lhs;unfold Qah
 cases d a <;> cases d b <;> rfl
theorem Qpa (s key:ByteArray) (w:World) (hs:s.size≤1048576) (hk:key.size≤1048600) :
  Calls prog 63 #[.string s,.string key] w (Qet (Z6 s.data.toList key.data.toList) w):=by
 obtain⟨l,hl⟩:∃ l,l=s.data.toList:=⟨_,rfl⟩
 have N:s=sOf l:=by rw[hl,Qag]
 have aw:l.length≤1048576:=by rw[hl];simpa using hs
 clear hl hs;subst N;obtain⟨q,hq⟩:∃ q,q=Z6 l key.data.toList:=⟨_,rfl⟩
 show Calls prog 63 #[.string (sOf l),.string key] w (Qet (Z6 l key.data.toList) w);rw[←hq];have HQ:=zh hq;clear hq
 go_enter func63,ntmps63
 go_wp2_with fail
 refine (Qxs (sOf l) (sOf Qa8) _).mono ?_;rintro e w0 ⟨rfl,rfl⟩;rw[show J0 (sOf l).data.toList (sOf Qa8).data.toList=J0 l Qa8 from rfl];have Q:=Qua l Qa8;have f:=HQ.o;unfold Z6 at f;obtain⟨x1,Z⟩:∃ x,x=J0 l Qa8:=⟨_,rfl⟩
 rw[←Z] at Q f ⊢;clear Z HQ;obtain⟨s1,b1⟩:=x1;simp only at Q f ⊢;cases b1 with
 | false=>
  rw[if_neg (by simp)] at f;have B:=zh f;clear f;go_wp2
  go_ret3
  rw[B.o];exact Qek (Below.refl _ _)
 | true=>
  rw[if_pos rfl] at f;have B:=zh f;clear f
  go_wp2_with fail
  refine (Qyp (sOf s1) _ (by rw[Qb0];omega)).mono ?_;rintro e w2 ⟨rfl,M⟩;rw[show Y5 (sOf s1).data.toList=Y5 s1 from rfl];have ag:=Quq s1;have L:=Qm8 s1;have i:=B.o;obtain⟨x3,ac⟩:∃ x,x=Y5 s1:=⟨_,rfl⟩
  rw[←ac] at ag L i ⊢;have C:=zh M;clear ac B M;obtain⟨n,s3,b3⟩:=x3;simp only at ag L i ⊢;by_cases hgood:b3=true∧17≤s3.length
  ·rw[if_pos hgood] at i
   obtain⟨rfl,ak⟩:=hgood;have d1:decide ((s3.length:Int)<17)=false:=decide_eq_false (by omega);obtain⟨S,hS⟩:∃ S,S=sOf s3:=⟨_,rfl⟩
   have ab:S.size=s3.length:=by rw[hS,Qb0]
   obtain⟨D,hD⟩:∃ D,D=(s3.drop 1).take 16:=⟨_,rfl⟩
   rw[←hD] at i;have af:D.length=16:=by rw[hD];simp;omega
   have W:∀ j,j<16→∃ (h:j+1<S.size) (h2:j<D.length),S[j+1]=D[j]:=by intro j hj;refine⟨by omega,by omega,?_⟩;subst hS;subst hD;simp[ByteArray.getElem_eq_getElem_data,Nat.add_comm 1 j]
   have p:=zh i;have V:=zh W;have an:=zh af;have HU:=zh (show Qah Qcl D=(Qah Qcl (D.drop 0)).map ([] ++ ·) by simp);rw[←hS];clear i W af hD hS;rw[←ab] at d1 ak;clear ab
   go_wp2_with fail
   go_loopw [10,11] (fun vr vi wr=>∃ (k j:Nat) (r:List UInt8),Hid (k=2*j+1)∧k≤17∧vi=.int .i64 k∧vr=.string (sOf r)∧r.length=j∧Hid (Qah Qcl D=(Qah Qcl (D.drop (2*j))).map (r ++ ·))∧Below w.heap.size w wr) (fun _ vi _=>18-(intOf vi).toNat)
   case atStart=>exact⟨1,0,[],zh rfl,by omega,rfl,rfl,rfl,HU,C.o⟩
   case round=>
    obtain⟨k,j,r,d,au,rfl,rfl,hr,u,G⟩:=hrel;have HB:=zh G;have ay:r.length≤8:=by have:=d.o;omega
    have HR:=zh hr;clear G C HU hr;by_cases hlt:k<17
    ·obtain⟨am,X,ha⟩:=V.o (2*j) (by have:=d.o;omega)
     obtain⟨aj,T,hb⟩:=V.o (2*j+1) (by have:=d.o;omega);have hcut:D.drop (2*j)=D[2*j] :: D[2*j+1] :: D.drop (2*(j+1)):=by rw[List.drop_eq_getElem_cons X,List.drop_eq_getElem_cons T];rfl
     have a:=u.o;rw[hcut,Qns] at a;obtain⟨ca,ae⟩:∃ c,c=D[2*j]:=⟨_,rfl⟩
     obtain⟨cb,P⟩:∃ c,c=D[2*j+1]:=⟨_,rfl⟩
     rw[←ae] at ha a;rw[←P] at hb a;have k1:k<S.size:=by omega
     have k2:k+1<S.size:=by have:=d.o;omega
     have I:S[k]=ca:=by rw[←ha];congr 1 <;> exact d.o
     have K:S[k+1]=cb:=by rw[←hb];congr 1 <;> (have:=d.o;omega)
     have ao:=zh a;clear hcut a ha hb ae P am aj X T u;have aq:k≤15:=by have:=d.o;omega
     go_wp2_with fail
     refine (Qr3 ca _).mono ?_;rintro e w3 ⟨rfl,rfl⟩
     go_wp2_with fail
     refine (Qr3 cb _).mono ?_;rintro e w3 ⟨rfl,rfl⟩;have a:=ao.o;cases hua:Qcl ca with
     | none=>
      have m:Qf4 ca = -1:=by unfold Qf4;rw[hua]
      rw[hua] at a;have b:=p.o;rw[a] at b;have F:=zh b;rw[m];clear a b hua m I K;go_wp2
      go_ret3
      rw[F.o];exact Qek HB.o
     | some x=>
      have av:=Qrc hua;have m:Qf4 ca=(x:Int):=by unfold Qf4;rw[hua]
      rw[hua] at a;rw[m];have dx:decide ((x:Int)<0)=false:=decide_eq_false (by omega);cases hub:Qcl cb with
      | none=>
       have v:Qf4 cb = -1:=by unfold Qf4;rw[hub]
       rw[hub] at a;have b:=p.o;rw[a] at b;have F:=zh b;rw[v];clear a b hua m hub v I K;go_wp2
       go_ret3
       rw[F.o];exact Qek HB.o
      | some y=>
       have ar:=Qrc hub;have v:Qf4 cb=(y:Int):=by unfold Qf4;rw[hub]
       rw[hub] at a;rw[v];have dy:decide ((y:Int)<0)=false:=decide_eq_false (by omega);obtain⟨z,hz⟩:∃ z,z=UInt8.ofNat (16*x+y):=⟨_,rfl⟩
       have ad:Q8 (wr.alloc (.cells #[.int .u8 (16*(x:Int)+(y:Int))] 5)) (.slice (some ⟨wr.heap.size,0,none⟩) 1 1) [z]:=by rw[show (16*(x:Int)+(y:Int))=((16*x+y:Nat):Int) by omega,Qip _ (by omega),←hz];exact bytes1 (fz:=(0,0)) (Zz _ _ _ rfl)
       have ax:=Qeu ad;have E:Qah Qcl D=(Qah Qcl (D.drop (2*(j+1)))).map ((r ++ [z]) ++ ·):=by rw[a,hz];cases Qah Qcl (D.drop (2*(j+1))) <;> simp
       have ai:=zh E;clear a hua m hub v I K ad hz E;go_wp2;exact⟨⟨k+2,j+1,r ++ [z],zh (by have:=d.o;omega),by omega,by go_num,by rw[Qez r [z]],by simp;exact HR.o,ai,HB.o.alloc HB.o.size _⟩,by simp[intOf];omega⟩
    ·have U:j=8:=by have:=d.o;omega
     have A:=u.o;rw[List.drop_of_length_le (by rw[an.o];omega)] at A;have b:=p.o;rw[A] at b;have al:r.length=8:=by rw[HR.o];exact U
     obtain⟨hh,H⟩:∃ h,h=Yo r:=⟨_,rfl⟩
     have aa:q=Qbi l key.data.toList n hh:=by rw[b,H];simp[Qah]
     have O:sOf r=HS hh:=by rw[H];exact Q6t al
     rw[O];have ah:=zh aa;clear A b u U d H O aa
     go_wp2_with fail
     refine (Qre n hh key _ L hk).mono ?_;rintro e w4 ⟨rfl,R⟩;have Y:=zh (HB.o.trans (R.mono HB.o.size));have g:=ah.o;unfold Qbi at g;rw[Int.toNat_natCast] at g;obtain⟨t,ht⟩:∃ t,t=Qao n hh key.data.toList:=⟨_,rfl⟩
     rw[←ht] at g ⊢;clear ht R ah;by_cases he:t=l
     ·rw[if_pos he] at g
      have J:=zh g;subst he;clear g;go_wp2
      go_ret3
      rw[J.o];exact⟨rfl,Y.o⟩
     ·rw[if_neg he] at g
      have J:=zh g;have c6:(t == l)=false:=beq_eq_false_iff_ne.2 he;clear g;go_wp2
      go_ret3
      rw[J.o];exact Qek Y.o
  ·rw[if_neg hgood] at i
   have p:=zh i;clear i;by_cases hb:b3=true
   ·have d1:decide ((s3.length:Int)<17)=true:=decide_eq_true (by
     have:¬ 17≤s3.length:=fun h=>hgood ⟨hb,h⟩
     omega)
    subst hb;clear hgood;go_wp2
    go_ret3
    rw[p.o];exact Qek C.o
   ·have ap:b3=false:=by simpa using hb
    subst ap;clear hgood hb;go_wp2
    go_ret3
    rw[p.o];exact Qek C.o
end
end Go.Proofs.YtefccfakhgdfbaaGreatDoor
