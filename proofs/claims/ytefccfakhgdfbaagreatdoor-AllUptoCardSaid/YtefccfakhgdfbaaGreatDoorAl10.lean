/- Lemmas of the proof of All; their conditions stand in them. -/
import Derived.Test.YtefccfakhgdfbaaGreatDoorAl09
import Derived.LaidSub
import Derived.Lay
import Derived.ShutString
import Derived.Deep.Fields
import Derived.LaidMore
set_option linter.unusedVariables false
set_option linter.unusedSimpArgs false
open Go.RowKit Go.Proofs.Tryz
set_option maxRecDepth 100000
set_option maxHeartbeats 4000000
namespace Go.Proofs.YtefccfakhgdfbaaGreatDoor
section
variable {w w':G} {gn:Nat} {vl vt:J} {c1:Cl} {n1:Nt}
theorem Qny.row{b gk d i:Nat}{g:List CEnt}{k:Nat}{m:O}{j:List Hsh}{e:Ua}(h:Qny w b gk d gn i vl vt g ((k,m),j,c1,n1) e w'){f:List O}(l:f=j.map HS):∃ (a:Y Addr) (c:Nat),e=.returned (.tuple #[.slice a f.length c,Jh k m])/\Qq w' w.heap.size (.slice a f.length c) f/\
   ∃ qs',ClIs w' b gk d (.iface 48 (.pointer (some ⟨gn,0,none⟩))) c1 qs'/\Yr w' gn i vl vt n1/\Fr (cnS b gk d gn vt g) w w'/\Sub w (cnS b gk d gn vt g) (cnS b gk d gn vt qs'):=by
 obtain⟨v',rfl,h3,h4⟩:=h;dsimp only at h3;rw[<-l] at h3;obtain⟨a,c,rfl⟩:=Zo h3;exact⟨a,c,rfl,h3,h4⟩
theorem Q54{F:Nat->Addr}{w1 W:G}{p:Pl}{m:Wm}{L:Lg}{P:Nat}{n:Nt}{x:Rdr}{a:List CEnt}(h:Qc0 F w p m L P gn vl vt n x)(b:Fr (cnS x.gc x.gk x.mc gn vt x.qs) w w1)(d:Sub w (cnS x.gc x.gk x.mc gn vt x.qs) (cnS x.gc x.gk x.mc gn vt a))(i:Fr (·=x.ra) w1 W)(j:Fr (·=x.gc) W w')(r:Qa6 w' p m)(o:Yr w' gn p.gd vl vt n1)(q:Qef w' gn { x with c:=c1,qs:=a,size:=c1.size })(g:RdC m P c1)(f:Qcm n n1)(l:c1.cache.most=x.c.cache.most)(s:n1.fetches<=n.fetches+900000)(k:c1.cache.items.length<=x.c.cache.items.length+450000):Qnl w p m P gn vl vt n x (.returned (.bool true)) w':=
 ⟨rfl,c1,n1,a,q,o,r,((b.weak λ_ _=>.inl).t (i.weak λ_ _=>.inr)).t (j.weak λ_ _ e=>.inl (.inl (.inl e))),d,g,f,l,s,k⟩
set_option maxHeartbeats 8000000 in
theorem Qul(F:Nat->Addr)(w:G)(p:Pl)(m:Wm)(L:Lg)(P:Nat)(gn:Nat)(vl vt:J)(n:Nt)(x:Rdr)(h:Qc0 F w p m L P gn vl vt n x)(hs:x.size=x.c.size)(b6:∀ i,WdS p m i->¬ i=x.ra)(b7:∀ i,cnS x.gc x.gk x.mc gn vt x.qs i->¬ i=x.ra)(bw:n.fetches+1000000<1000000000000)(bz:x.c.cache.items.length+1000000<100000000000)(bt:m.d.files.length<=1000000000000):Calls prog 67 #[.pointer (some ⟨x.ra,0,none⟩),.pointer (some ⟨p.gw,0,none⟩)] w (Qnl w p m P gn vl vt n x):=by
 have df:=h.csize;have dc:=h.few;have c4:m.es.length<=1048576:=by omega
 have bk:=h.rdw.le;rw[Qx] at bk;have k0:w.cell? ⟨x.ra,0,none⟩=some (.pointer (some ⟨x.pa,0,none⟩)):=Qd h.rd.cells 0 rfl;have hc:=Q91 h;obtain⟨r1,b3⟩:=zzx (Z1 x.c n)
 obtain⟨q1,q2,q3,q4⟩:=Qt9 h.rdw c4 h.rdc h.nf h.nl;obtain⟨z1,z2⟩:=Qm2 (c:=x.c) (n:=n);rw[<-b3] at hc q1 q2 q3 q4 z1 z2;obtain⟨⟨tk,tp⟩,hh,c1,n1⟩:=r1;dsimp only at q1 q2 q3 q4 z1 z2;obtain⟨pl,b2⟩:=zzx (hh.map HS)
 obtain⟨H,HC,ad,ac,bg,N,M,ae,af⟩:=zh9 h hc hs q1 q2 q3 b2 z1 z2;obtain⟨bc,be,cu,cv,ab,v⟩:=zh6 bw bz b6 b7 bt bk;clear h hc hs q1 q2 q3 b2 z1 z2 bw bz b6 b7 bt b3;rcases q4 with⟨rfl,b1,hq,rfl,bn⟩|⟨bq,hq,bx,bo⟩
 .have a5:tk=3/\tp=⟨#[]⟩:=by simpa using hq
  obtain⟨rfl,rfl⟩:=a5;obtain⟨cp,cm⟩:=zh2 b1 bn;clear hq b1 bn;have av:=M.o;simp only[vS] at av;subst av
  go_enter func67,ntmps67
  go_upto_region 2 with (first|go_at_call 29;refine HC.o.m ?_;intro e w1 h1;obtain⟨a1,k1,rfl,ak,V,Q,S,R,U⟩:=h1.row M.o;obtain⟨ap,au,K,D⟩:=zh4 Q S R U;clear h1 Q S R U ak|fail)
  have E:=H.o.next K.o D.o ap.o au.o N.o ac.o (by have:=ae.o;have:=bc.o;omega) (by have:=af.o;have:=be.o;omega);obtain⟨W1,f⟩:=zzx (w1.alloc (.cells #[.int .i64 3,.string ⟨#[]⟩] 63))
  have s:Bz w1 W1:=by rw[f];exact Qa w1 _
  have y:Zq W1 w1.heap.size 3 ⟨#[]⟩:=by rw[f];exact zy w1 _
  rw[<-f];have hE:=E.j s;obtain⟨E1,T1,B1,da⟩:=zh4 hE y s (λk (hk:WdS p m k)=>E.wd.lt hk);have p4:=hE.wd.heads.1.2.2.2.2.1;rw[hE.rdw.pub] at p4;obtain⟨t0,t1,al,am,tlt⟩:=y.facts;have a4:=Qj p4;have cd:=J4 W1 p m hE.wd ab.o;have ay:=zh cd;clear f s y hE E cd k0
  go_upto_region 4 with (first|go_at_call 26;refine ay.o.m ?_;rintro e w2⟨v2,l2,rfl,T,t,I⟩;obtain⟨q,bf⟩:=zh2 I t;have l:=Ym w2 v2 l2 (sOf kCp) (Ye T) (by rw[t.length_eq];exact zi ab.o (by decide));obtain⟨fk,B⟩:=zzx (J1 l2 (sOf kCp));rw[<-B] at l;rw[show sOf kCp=⟨#[99,104,101,99,107,112,111,105,110,116]⟩ from rfl] at l;obtain⟨ar,co⟩:=zh2 l B;clear T t l I B|go_at_call 27;refine ar.o.m ?_;rintro e w3⟨rfl,rfl⟩|fail)
  have db:fk<0:=by
   rcases J5 l2 (sOf kCp) with⟨e,_⟩|⟨k,b,_,_,_,e⟩
   .rw[co.o,e];decide
   rw[Qcn E1.o.rdw.sound.fresh.once bf.o,cp.o] at e;cases e
  have u0:=(q.o.cell (p:=⟨w1.heap.size,0,none⟩) tlt).t t0;clear t0 t1 al am p4;go_wp2;go_ret;have hF:=E1.o.j q.o;have ch:Bz w1 w2:=B1.o.t (q.o.m B1.o.size);have c6:x.size=0:=by
   have:=E1.o.rdw.le
   have h2:=H.o.rdc.le
   have:=ad.o
   omega
  refine⟨rfl,c1,n1,V,?_,hF.net,hF.wd,(K.o.t (Fr.ofBelow ch)).weak λ_ _=>.inl,D.o,N.o,ac.o,bg.o,by have:=ae.o;omega,by have:=af.o;omega⟩;rw[cm.o,<-c6];exact hF.rd
 have a5:tk=0/\tp=⟨#[]⟩:=by simpa [Qbs] using hq
 obtain⟨rfl,rfl⟩:=a5;obtain⟨cn,bd,aq⟩:=zh3 bq bx bo;clear hq bq bx bo
 go_enter func67,ntmps67
 go_upto_region 2 with (first|go_at_call 29;refine HC.o.m ?_;intro e w1 h1;obtain⟨a1,k1,rfl,ak,V,Q,S,R,U⟩:=h1.row M.o;obtain⟨ap,au,K,D,cy⟩:=zh5 Q S R U ak;clear h1 Q S R U ak|fail)
 have E:=H.o.next K.o D.o ap.o au.o N.o ac.o (by have:=ae.o;have:=bc.o;omega) (by have:=af.o;have:=be.o;omega);obtain⟨W1,f⟩:=zzx (w1.alloc (.cells #[.int .i64 0,.string ⟨#[]⟩] 63))
 have s:Bz w1 W1:=by rw[f];exact Qa w1 _
 have y:Zq W1 w1.heap.size 0 ⟨#[]⟩:=by rw[f];exact zy w1 _
 rw[<-f];have hE:=E.j s;obtain⟨E1,T1,B1,V1⟩:=zh4 hE y s (Qn cy.o s);have p4:=hE.wd.heads.1.2.2.2.2.1;rw[hE.rdw.pub] at p4;obtain⟨t0,t1,al,am,tlt⟩:=y.facts;have a4:=Qj p4;have ay:=zh (J4 W1 p m hE.wd ab.o);have a6:∀ i,cnS x.gc x.gk x.mc gn vt V i->¬ i=x.ra:=λi hi=>by
  rcases D.o i hi with e|e
  .exact cv.o i e
  have:=Qb H.o.rd.cells
  omega
 have cg:=zh a6;clear f s y hE E k0 a6;rcases vg P with ai|c2
 have a0:((P:Int) == 0)=true:=by rw[ai];rfl
 go_upto_region 9 with (first
  | (
    go_at_call 26;refine ay.o.m ?_;rintro e w2⟨v2,l2,rfl,T,t,I⟩;obtain⟨q,bf⟩:=zh2 I t;have l:=Ym w2 v2 l2 (sOf kCp) (Ye T) (by rw[t.length_eq];exact zi ab.o (by decide));obtain⟨fk,B⟩:=zzx (J1 l2 (sOf kCp));rw[<-B] at l;rw[show sOf kCp=⟨#[99,104,101,99,107,112,111,105,110,116]⟩ from rfl] at l;have ar:=zh l;have ck:¬ fk<0:=by
          rcases J5 l2 (sOf kCp) with⟨_,e⟩|⟨k,b,_,e,_,_⟩
          .exact absurd (by rw[<-Qcn E1.o.rdw.sound.fresh.once t];exact e) (cn.o ai)
          rw[B,e];omega
    obtain⟨u0,u1,_,_,_⟩:=(T1.o.j I).facts;clear T t l I B)
  | (go_at_call 27;refine ar.o.m ?_;rintro e w3⟨rfl,rfl⟩)
  | fail)
 obtain⟨W2,z⟩:=zzx w2
 obtain⟨V2,T2,E2,B2⟩:=zh4 (Qn V1.o q.o) (T1.o.j q.o) (E1.o.j q.o) (show Bz W1 W2 by rw[z];exact q.o);rw[<-z] at E2 V2 T2 ⊢;have cs:=zh (show ¬ (0<x.size/\x.size<P) from λh=>by rw[ai] at h;omega);clear z t0 t1 al am tlt p4 a4 u0 u1 a0 ck ai;rotate_left;have a0:((P:Int) == 0)=false:=by rw[zl];omega
 obtain⟨W2,z⟩:=zzx W1
 go_upto_region 9 with fail
 have E2:=E1;have V2:=V1;have T2:=T1;have B2:=zh (show Bz W1 W2 by rw[z];exact zu _ _);rw[<-z] at E2 V2 T2 ⊢;clear z t0 t1 al am tlt p4 a4 a0 c2
 all_goals
  have s2:W2.cell? ⟨x.ra,1,none⟩=some (.int .i64 x.size):=Qd E2.o.rd.cells 1 rfl;have p2:W2.cell? ⟨p.gw,4,none⟩=some (.int .i64 P):=by have:=E2.o.wd.heads.1.2.2.2.2.1;rw[E2.o.rdw.pub] at this;exact this
  by_cases h1:0<x.size/\x.size<P;rotate_left;have X:pl = []:=by rw[M.o,bd.o,zw (by rw[<-ad.o];exact h1)];rfl
  obtain⟨aw,cq⟩:=zh2 (show pl.length<=1048576 by rw[X];simp) X;clear X;by_cases h0:0<x.size;have br:decide ((0:Int)<(x.size:Int))=true:=zF (by omega);have h2:¬ x.size<P:=λh=>h1 ⟨h0,h⟩
  have c3:decide ((x.size:Int)<(P:Int))=false:=zo (by omega);rotate_left;have br:decide ((0:Int)<(x.size:Int))=false:=zo (by omega);rotate_left
  first
   | exact absurd h1 cs.o
   | focus
    obtain⟨h0,h1⟩:=h1;have Z:pl=(Y5 x.size (lists (m.es.take P)) true).map HS:=by rw[M.o,bd.o,zD (by rw[<-ad.o];exact⟨h0,h1⟩),Qmp,ad.o]
    have br:decide ((0:Int)<(x.size:Int))=true:=zF (by omega);have c3:decide ((x.size:Int)<(P:Int))=true:=zF (by omega)
    go_quiet (fail)
    obtain⟨W3,a2⟩:=zzx (W2.drewN nq)
    have az:Bz W2 W3:=by rw[a2];exact Q8 (zu _ _) _
    rw[<-a2];have a:=E2.o.j az;have s3:W3.cell? ⟨x.ra,1,none⟩=some (.int .i64 x.size):=Qd a.rd.cells 1 rfl;have p3:W3.cell? ⟨p.gw,4,none⟩=some (.int .i64 P):=by have:=a.wd.heads.1.2.2.2.2.1;rw[a.rdw.pub] at this;exact this
    have g3:=a.wd.heads.1.2.2.2.1;have c7:x.ra<W3.heap.size:=Qb a.rd.cells;have bi:p.gw<W3.heap.size:=Qj g3;have a7:=Qq.at a.wd.ents;have b9:∀ u∈m.es,u.size<=1048576:=λu hu=>by
     have:=a.rdw.short u.data.toList (zU.2 ⟨u,hu,rfl⟩)
     simp at this;omega
    have aj:∀ (b c:Nat),p.en=.slice (some ⟨b,0,none⟩) m.es.length c->∀ W,Bz W3 W->Calls prog 46 #[.int .i64 x.size,.slice (some ⟨b,0,none⟩) P c,.bool true] W λe w'=>∃ v',e=.returned v'/\Qq w' W.heap.size v' pl/\Bz W w':=λb c he W hW=>by
     have h1:=a7.j hW;rw[he] at h1;have dd:(m.es.take P).length=P:=by rw[zm];have:=v.o;omega
     have:=Qp2 P (m.es.take P) (.slice (some ⟨b,0,none⟩) P c) x.size true W (by omega) (Qf4 h1 v.o) (by omega) (λu hu=>b9 u (zQ hu)) h0 (by omega)
     rw[<-Z] at this;exact this
    rcases Qy9 a.wd.ents with⟨he,cj⟩|⟨b,cb,he,bp⟩
    .exfalso
     have:=v.o
     rw[cj] at this;simp at this;omega
    have cr:=zh (aj b cb he);rw[he] at g3;obtain⟨ln,b0⟩:=zzx m.es.length
    have de:P<=cb:=zi v.o bp;rw[<-b0] at g3 bp;have cf:W3.drew.cell? ⟨x.ra,1,none⟩=some (.int .i64 x.size):=s3;have ce:W3.drew.cell? ⟨p.gw,4,none⟩=some (.int .i64 P):=p3;have bh:W3.drew.cell? ⟨p.gw,3,none⟩=some (.slice (some ⟨b,0,none⟩) ln cb):=g3;have B3:=zh az;have aw:=zh (show pl.length<=1048576 by
     rw[Z,zA]
     have:=Qak x.size (lists (m.es.take P)) true
     rw[Qx,zm] at this
     omega)
    clear a2 az a a7 b9 aj he b0 s2 p2 Z
    go_upto_region 10 with fail
    go_region_held3 (λw'=>w'.cell? ⟨x.ra,1,none⟩=some (.int .i64 x.size)/\w'.cell? ⟨p.gw,4,none⟩=some (.int .i64 P)/\w'.cell? ⟨p.gw,3,none⟩=some (.slice (some ⟨b,0,none⟩) ln cb)) (first|with_reducible exact⟨s3,p3,g3⟩|with_reducible exact⟨cf,ce,bh⟩|with_reducible exact⟨m1,m4,m3⟩|fail) (first|go_at_call 46;refine (cr.o _ (Ql W3)).m ?_;rintro e w4⟨v4,rfl,a8,bl⟩;have aa:=zh (show Bz W3 w4 from (Ql W3).t bl);obtain⟨a9,c9,rfl⟩:=Zo a8;have V9:=zh a8;have m1:=(aa.o.cell (p:=⟨x.ra,1,none⟩) c7).t s3;have m4:=(aa.o.cell (p:=⟨p.gw,4,none⟩) bi).t p3;have m3:=(aa.o.cell (p:=⟨p.gw,3,none⟩) bi).t g3;clear bl a8|fail)
  all_goals
   first
    | (
     rename_i hh9
     clear hh9 s3 p3 g3 cf ce bh m1 m4 m3
     obtain⟨WS,A⟩:=zzx w4
     have BS:=zh (show Bz W2 WS by rw[A];exact B3.o.t (aa.o.m B3.o.size))
     have VW:=zh V9.o
     rw[<-A] at VW ⊢
     clear A
     have ax:=zh (λ(W4:G) (g:Fr (·=x.ra) WS W4) (C:Qas WS (·=x.ra) [107])=>(by
      have:=Qdl (.slice a1 pl.length k1) (.slice a9 pl.length c9) pl pl W4 (Qq.at (Zm (Qn V2.o BS.o) g C (by decide))) (Qq.at (Zm VW.o g C (by decide))) aw.o
      simpa using this:Calls prog 35 #[.slice a1 pl.length k1,.slice a9 pl.length c9] W4 λe w'=>e=.returned (.bool true)/\Bz W4 w')))
    | (
     clear h1
     go_quiet (fail)
     obtain⟨WS,A⟩:=zzx (W2.drewN nq)
     have BS:=zh (show Bz W2 WS by rw[A];exact Q8 (zu _ _) _)
     rw[<-A]
     clear A s2 p2
     have ax:=zh (λ(W4:G) (g:Fr (·=x.ra) WS W4) (C:Qas WS (·=x.ra) [107])=>(by
      have:=Qdl (.slice a1 pl.length k1) (.slice none 0 0) pl pl W4 (Qq.at (Zm (Qn V2.o BS.o) g C (by decide))) (by rw[cq.o];exact⟨none,0,rfl,zg _,λj u hj=>by simp at hj⟩) aw.o
      simpa using this:Calls prog 35 #[.slice a1 pl.length k1,.slice none 0 0] W4 λe w'=>e=.returned (.bool true)/\Bz W4 w')))
   have E3:=zh (E2.o.j BS.o);have s3:WS.cell? ⟨x.ra,1,none⟩=some (.int .i64 x.size):=Qd E3.o.rd.cells 1 rfl;have sf:WS.frozen? ⟨x.ra,1,none⟩=false:=Qu E3.o.rd.cells 1;have sl:x.ra<WS.heap.size:=Qb E3.o.rd.cells;have p3:WS.cell? ⟨p.gw,4,none⟩=some (.int .i64 P):=by have:=E3.o.wd.heads.1.2.2.2.2.1;rw[E3.o.rdw.pub] at this;exact this
   have ag:=E3.o.sized P cu.o cg.o;have g:=Fr.set1 WS x.ra 1 (.int .i64 P);have C:=Q1 E3.o.rd.cells;obtain⟨W4,a3⟩:=zzx (WS.setCell ⟨x.ra,1,none⟩ (.int .i64 P))
   rw[<-a3] at ag g;have b8:=ax.o W4 g C;have ca:∀ W,Bz W4 W->Calls prog 69 #[.pointer (some ⟨x.ra,0,none⟩),.pointer (some ⟨p.gw,0,none⟩)] W λe w'=>e=.returned (.bool true)/\Qa6 w' p m/\Qef w' gn { x with c:=c1,qs:=V,size:=P }/\Fr (·=x.gc) W w':=λW hW=>by
    have ah:=ag.j hW;exact Qsg W p m gn { x with c:=c1,qs:=V,size:=P } ah.wd ah.rd (λk hk e=>H.o.apart k hk (.inl (.inl e))) aq.o.symm v.o (by have:=ah.few;omega) (λu hu=>by
     have:=ah.rdw.short u.data.toList (zU.2 ⟨u,hu,rfl⟩)
     simp at this
     omega) N.o.tr.root
   obtain⟨E4,F4,cw,cx,cz⟩:=zh5 ag g b8 ca a3;clear ag g C b8 ca a3
   go_upto_region 12 with fail
   rw[show WS.setCell ⟨x.ra,1,none⟩ (.int .i64 P)=W4 from cz.o.symm]
   go_wp2_with (first|go_at_call 35;refine cw.o.m ?_;rintro e w5⟨rfl,bm⟩;have ao:=zh bm;clear bm|go_at_call 69;refine (cx.o w5 ao.o).m ?_;rintro e w6⟨rfl,cc,b4,bu⟩;obtain⟨c0,ct,bb⟩:=zh3 cc b4 bu;clear cc b4 bu|fail)
   go_ret;have bj:=E4.o.j ao.o;have ci:Bz w1 WS:=B1.o.t ((B2.o.t (BS.o.m B2.o.size)).m B1.o.size);have b5:=ct.o;rw[<-aq.o] at b5;exact Q54 H.o K.o D.o ((((Fr.ofBelow ci).t F4.o)).t (Fr.ofBelow ao.o)) bb.o c0.o (Jc bj.net bb.o (Q1 bj.rd.cl.cells) (by decide) (by decide) (by decide)) b5 N.o ac.o bg.o (by have:=ae.o;omega) (by have:=af.o;omega)
theorem Qe8.j{Q:Wm->Prop}{w w1:G}{p:Pl}{m:Wm}{U:List Nat}{K:Nat}{e:Ua}{w':G}(h:Qe8 Q w1 p m U K e w')(f:Bz w w1):Qe8 Q w p m U K e w':=by obtain⟨he,p',m',a,b,c,d,hf,hs,x,y⟩:=h;exact⟨he,p',m',a,b,c,d,(Fr.ofBelow f).t hf,hs.m f.size,x,y⟩
theorem Qva(f:Nat->Addr)(w:G)(p:Pl)(m:Wm)(L:Lg)(U:List Nat)(K:Nat)(a:Int)(i:Bool)(s:O)(h:Qa6 w p m)(j:Qe4 m U K)(d:m.l=some L)(c:m.foreign=false)(n:Qbj f (WdS p m) w)(t:U.length<=16000):Calls prog 66 #[.pointer (some ⟨p.gw,0,none⟩),.agg #[.int .i64 2,.int .i64 a,.bool i,.string s]] w (Qe8 (AppQ m L s) w p m (L.entries.length / 4 :: U) K):=by
 have hb:=Qa w (.cells #[.int .i64 2,.int .i64 a,.bool i,.string s] 103);obtain⟨⟨c0,_,c2,_,_,_,c6⟩,_⟩:=h.heads;have r:p.gw<w.heap.size:=Qj c0;have b:=j.run L d;have k:L.entries.length=m.es.length:=by rw[b.2.2.1];simp[lists]
 have g:m.es.length<1048576:=by have:=b.1.len;omega
 have HA:=zh (Qml f _ p m L s U K (h.j hb) j d c (n.j hb) (by omega) g);rw[c] at c6;rw[d] at c2;have q:w.cell? ⟨p.gw,2,none⟩=some (.pointer (some ⟨p.gl,0,none⟩)):=c2;have HB:=zh hb;clear h j d c n c0 c2 hb b k g
 go_enter func66,ntmps66
 go_wp2_with (first|go_at_call 23;refine HA.o.m ?_;intro e w1 h1;obtain⟨he,h1⟩:=h1;subst he;have H1:=zh h1;clear h1|fail)
 go_ret;exact Qe8.j ⟨rfl,H1.o⟩ HB.o
theorem Qtr(f:Nat->Addr)(w:G)(p:Pl)(m:Wm)(L:Lg)(U:List Nat)(K:Nat)(a:Int)(c:Bool)(s:O)(h:Qa6 w p m)(j:Qe4 m U K)(d:m.l=some L)(k:L.failed=false)(b:m.foreign=false)(i:Qbj f (WdS p m) w)(t:U.length<=16000)(r:K<=700000000000)(g:m.key.size<=1048600):Calls prog 66 #[.pointer (some ⟨p.gw,0,none⟩),.agg #[.int .i64 3,.int .i64 a,.bool c,.string s]] w (Qe8 (PubQ m L) w p m U (K+1048576)):=by
 have hb:=Qa w (.cells #[.int .i64 3,.int .i64 a,.bool c,.string s] 103);obtain⟨⟨c0,_,c2,_,_,_,c6⟩,_⟩:=h.heads;have q:p.gw<w.heap.size:=Qj c0;have HA:=zh (Qkb f _ p m L U K (h.j hb) j d b k (i.j hb) (by omega) (by omega) g);rw[b] at c6;rw[d] at c2;have n:w.cell? ⟨p.gw,2,none⟩=some (.pointer (some ⟨p.gl,0,none⟩)):=c2;have HB:=zh hb;clear h j d b i c0 c2 hb
 go_enter func66,ntmps66
 go_wp2_with (first|go_at_call 22;refine HA.o.m ?_;intro e w1 h1;obtain⟨he,h1⟩:=h1;subst he;have H1:=zh h1;clear h1|fail)
 go_ret;exact Qe8.j ⟨rfl,H1.o⟩ HB.o
section
open Go.RowKit Go.MuLone
def Qdc(w:G):Prop:=∃ a,w.cell? ⟨7,0,none⟩=some (.iface 370 (.pointer (some a)))
theorem Qdc.j{B:Nat}{w w':G}(h:Qdc w)(c:Below B w w')(b:7<B):Qdc w':=by obtain⟨a,ha⟩:=h;exact⟨a,(c.cell (p:=⟨7,0,none⟩) b).t ha⟩
theorem Qw8(w:G)(b:Nat)(p:O)(d:w.cell? ⟨b,2,none⟩=some .nilIface)(c:Qdc w):Calls prog 136 #[.pointer (some ⟨b,0,none⟩),.string p] w λe w'=>∃ a,e=.returned (.tuple #[.slice none 0 0,.iface 370 (.pointer (some a))])/\Bz w w':=by
 obtain⟨a,ha⟩:=c
 go_enter func136,ntmps136
 go_wp2_with fail
 go_region
 all_goals (
  go_wp2
  go_ret2
  exact⟨a,rfl,Ql w⟩)
def Zbc(F:Nat->Addr)(w:G)(gc gk mc:Nat)(c:Cl)(qs:List CEnt)(e:Ua)(w':G):Prop:=
 e=.returned (.tuple #[.slice none 0 0,.iface 370 (.pointer (some (F 2)))])/\ClIs w' gc gk mc .nilIface c qs/\Fr (·=gc) w w'
theorem Qyb(F:Nat->Addr)(w:G)(b gk n:Nat)(c:Cl)(p:List CEnt)(h:ClIs w b gk n .nilIface c p)(l:∀ w',Fr (·=b) w w'->Yp w' F/\Qdc w'):Calls prog 85 #[.pointer (some ⟨b,0,none⟩)] w (Zbc F w b gk n c p):=by
 have q:=h.lt;obtain⟨H,HS⟩:=zh2 h l;clear h l
 go_enter_defers func85,ntmps85
 go_upto_region 3 with (first|go_at_call 134;refine (Qo9 H.o).m ?_;rintro e w1⟨rfl,h1,j,m⟩;obtain⟨H1,f⟩:=zh2 h1 j;clear h1 j m|fail)
 have g:=Qw8 w1 b (sOf kCp) (Qd H1.o.cells 2 rfl) (HS.o _ f.o).2;rw[show sOf kCp=⟨#[99,104,101,99,107,112,111,105,110,116]⟩ from rfl] at g;have k:=zh g;clear g
 go_upto_region 4 with (first|go_at_call 136;refine k.o.m ?_;rintro e w2⟨a,rfl,i⟩;have d:=zh i;clear i|fail)
 have H2:=zh (H1.o.j d.o);have hg:=(HS.o _ (f.o.t (Fr.ofBelow d.o))).1.cells.2.2.1;go_wp2;go_region
 all_goals (
  go_wp2
  refine Qdo (v:=.slice none 0 0) (y:=.iface 370 (.pointer (some (F 2)))) (Qd (w:=w2.drew) H2.o.cells 0 rfl) (Qu (w:=w2.drew) H2.o.cells 0) rfl rfl ?_
  have h3:=H2.o.j (Ql w2)
  exact⟨rfl,h3.turn 0,((f.o.t (Fr.ofBelow d.o)).drew).t (Fr.set1 _ b 0 _)⟩)
theorem Quk(F:Nat->Addr)(w:G)(B b gk M:Nat)(c:Cl)(N:List CEnt)(l:PcAt w B b)(h:ClIs w b gk M .nilIface c N)(C:∀ w',Fr (·=b) w w'->Yp w' F/\Qdc w'):Calls prog 29 #[.pointer (some ⟨B,0,none⟩)] w λe w'=>∃ a k,e=.returned (.tuple #[.slice a 0 k,Jh 3 ⟨#[]⟩])/\Fr (·=b) w w':=by
 obtain⟨W0,g⟩:=zzx (w.alloc (.cells #[.int .i64 0,.string ⟨#[]⟩] 63))
 have d:Bz w W0:=by rw[g];exact Qa w _
 have x:Zq W0 w.heap.size 0 ⟨#[]⟩:=by rw[g];exact Qb5 w
 have c0:W0.cell? ⟨B,0,none⟩=some (.pointer (some ⟨b,0,none⟩)):=Qd ((d.block _ (Qb l)).t l) 0 rfl;have hu:=Qyb F W0 b gk M c N (h.j d) λw' hf=>C w' ((Fr.ofBelow d).step hf λ_ _ e=>e)
 have Q:=h.lt;obtain⟨HS,HC,K,D,H⟩:=zh5 C hu g d x;clear l h C hu g d x
 go_enter func29,ntmps29
 go_upto_region 1 with fail
 rw[show w.alloc (.cells #[.int .i64 0,.string ⟨#[]⟩] 63)=W0 from K.o.symm]
 go_upto_region 2 with (first|go_at_call 85;refine HC.o.m ?_;rintro e w3⟨rfl,_,s⟩;have p:=zh s;clear s|fail)
 obtain⟨I,z⟩:=zh2 (show Zq w3 w.heap.size 0 ⟨#[]⟩ from p.o.heap H.o λe=>by omega) (show Fr (·=b) w w3 from (Fr.ofBelow D.o).step p.o λ_ _ e=>e);clear c0
 go_wp2_with (first|go_at_call 86;refine (Qoc (.slice none 0 0) [] w3 (zv _ _ _ _) (by simp)).m ?_;rintro e w4⟨v4,rfl,n,u⟩;obtain⟨va,vc,rfl⟩:=Zo n;obtain⟨P,q⟩:=zh2 n u;clear n u|go_at_call 87;have f:Fr (·=b) w w4:=z.o.step q.o (λi h1 h2=>by cases h2);have A:=zh f;have y:Zq w4 w.heap.size 0 ⟨#[]⟩:=q.o.heap I.o (λh2=>by cases h2);refine (Q7s (base:=0) (HS.o w4 f).1 (.inr (.inl ⟨2,by decide,by decide,rfl,rfl⟩))).m ?_;rintro e w5⟨rfl,j⟩;obtain⟨E,r⟩:=zh2 j (y.j j);obtain⟨t0,t1,t2,t3,t4⟩:=r.o.facts;clear f y j|fail)
 have L:=Qdi (m:=3) (t:=⟨#[]⟩) r.o;exact zI (v:=.tuple #[.slice va 0 vc,Jh 3 ⟨#[]⟩]) (by simp[results,results29,go_sem,t0,t1,Qc2]) rfl ⟨va,vc,rfl,(A.o.t (Fr.ofBelow E.o)).step L.2 λi h1 h2=>by omega⟩
end
structure Zdk(k:Nat)(x:Rdr):Prop where
 size:x.size=x.c.size
 cap:x.c.cache.most=x.cap.toNat
 items:x.c.cache.items.length<=k*450000
structure RdSt(w0 w:G)(gw gn:Nat)(vl vt:J)(k:Nat)(key:O)(p:Pl)(m:Wm)(L:Lg)(P:Nat)(n:Nt)(x y:Rdr):Prop where
 wd:Qa6 w p m
 net:Yr w gn p.gd vl vt n
 rx:Qef w gn x
 ry:Qef w gn y
 gw:p.gw=gw
 mkey:m.key=key
 rdw:RdW m L P
 cx:RdC m P x.c
 cy:RdC m P y.c
 nf:n.files=m.d.files
 nl:n.lies = []
 nol:vl=.slice none 0 0
 fx:Zdk k x
 fy:Zdk k y
 good:∃ U,U.length<=k/\Qe4 m U ((k+1)*2097152)
 few:m.es.length<=k
 fetches:n.fetches<=k*900000
 j:Bz w0 w
 newW:∀ i,WdS p m i->w0.heap.size<=i
 newN:∀ i,netS gn vt i->w0.heap.size<=i
 newX:∀ i,rdrS x i->w0.heap.size<=i
 newY:∀ i,rdrS y i->w0.heap.size<=i
 apWN:∀ i,WdS p m i->¬ netS gn vt i
 apWX:∀ i,WdS p m i->¬ rdrS x i
 apWY:∀ i,WdS p m i->¬ rdrS y i
 apXY:∀ i,rdrS x i->¬ rdrS y i
section
variable {F:Nat->Addr} {w0 w:G} {gw gn:Nat} {vl vt:J} {k:Nat} {key:O} {p:Pl} {m:Wm} {L:Lg} {P:Nat} {n:Nt} {x y:Rdr}
theorem Qef.lt(h:Qef w gn x):∀ i,rdrS x i->i<w.heap.size:=λi hi=>by
 rcases hi with e|e|e
 .exact e ▸ Qb h.cells
 .exact e ▸ Qb h.pc
 exact h.cl.ltS e
variable {w':G}
theorem Qef.fr{S:Nat->Prop}(h:Qef w gn x)(b:Fr S w w')(a:∀ i,rdrS x i->¬ S i)(c:Qc4 w S):Qef w' gn x:=
 ⟨b.heap h.cells (a _ (.inl rfl)),b.heap h.pc (a _ (.inr (.inl rfl))),h.cl.fr b (λi hi=>a i (.inr (.inr hi))) c⟩
theorem Qef.net{b:Nat}(h:Qef w gn x)(a:Yr w gn b vl vt n):∀ i,rdrS x i->¬ netS gn vt i:=λi hi hs=>by
 have hk:=Qbw a
 rcases hi with e|e|e|e|e|e
 .exact Z3 hk h.cells (by decide) (e ▸ hs)
 .exact Z3 hk h.pc (by decide) (e ▸ hs)
 .exact Z3 hk h.cl.cells (by decide) (e ▸ hs)
 .obtain⟨l,r,h2⟩:=h.cl.cache.ring.ends
  exact Z3 hk h2 (by decide) (e ▸ hs)
 .obtain⟨D,⟨es,cl,hb,_⟩,_⟩:=h.cl.cache.km.ex
  rcases hs with e2|e2
  .rw[<-e,e2,a.cells] at hb;cases hb
  obtain⟨C,hC⟩:=Qk a.told e2
  rw[<-e,hC] at hb;cases hb
 obtain⟨k',v,_,l,r,h2⟩:=h.cl.cache.ring.node (by rw[Qc8];exact e)
 exact Z3 hk h2 (by decide) hs
theorem RdSt.env(h:RdSt w0 w gw gn vl vt k key p m L P n x y)(g:k<=4096)(d:Z5 w0)(b:Yp w0 F)(c:Qio w0)(a:key.size<=1048600):Qc0 F w p m L P gn vl vt n x where
 wd:=h.wd
 net:=h.net
 rd:=h.rx
 envR:=Qjo h.j d b c λi hi=>by
  rcases hi with (e|e)|e
  .exact h.newX i (.inr (.inr e))
  .exact h.newN i e
  exact h.newX i (.inl e)
 apart i hi hj:=by
  rcases hj with e|e
  .exact h.apWX i hi (.inr (.inr e))
  exact h.apWN i hi e
 rdw:=h.rdw
 rdc:=h.cx
 nf:=h.nf
 nl:=h.nl
 few:=by have:=h.few;omega
 small f hf:=by obtain⟨U,_,hG⟩:=h.good;exact hG.sane.size f hf
 key:=by rw[h.mkey];exact zi a (by decide)
 fetches:=by have:=h.fetches;omega
 items:=by have:=h.fx.items;omega
variable {e:Ua}
theorem RdSt.step(h:RdSt w0 w gw gn vl vt k key p m L P n x y)(q:Qnl w p m P gn vl vt n x e w'):e=.returned (.bool true)/\∃ n' x',RdSt w0 w' gw gn vl vt (k+1) key p m L P n' x' y/\x'.ra=x.ra:=by
 obtain⟨he,c',n',qs',hr,j,l,hf,f,hc,d,hm,r,s⟩:=q;have hz:=h.j.size;have g:Qas w (λi=>cnS x.gc x.gk x.mc gn vt x.qs i∨i=x.ra) ((([205] ++ [253,251]) ++ [126,3]) ++ [107]):=(((Q1 h.rx.cl.cells).or (Qar h.rx.cl.cache)).or (Qbw h.net)).or (Q1 h.rx.cells);have a:∀ i,(cnS x.gc x.gk x.mc gn vt x.qs i∨i=x.ra)->rdrS x i∨netS gn vt i:=λi hi=>by
  rcases hi with (e1|e1)|e1
  .exact .inl (.inr (.inr e1))
  .exact .inr e1
  exact .inl (.inl e1)
 have b:∀ i,rdrS { x with c:=c',qs:=qs',size:=c'.size } i->(rdrS x i∨netS gn vt i)∨w.heap.size<=i:=λi hi=>by
  rcases hi with e1|e1|e1
  .exact .inl (.inl (.inl e1))
  .exact .inl (.inl (.inr (.inl e1)))
  rcases f i (.inl e1) with e2|e2
  .exact .inl (a i (.inl e2))
  exact .inr e2
 have o:∀ i,rdrS y i->¬ (cnS x.gc x.gk x.mc gn vt x.qs i∨i=x.ra):=λi hi hj=>by
  rcases a i hj with e1|e1
  .exact h.apXY i e1 hi
  exact h.ry.net h.net i hi e1
 obtain⟨U,hU,hG⟩:=h.good;refine⟨he,n',{ x with c:=c',qs:=qs',size:=c'.size },⟨l,j,hr,h.ry.fr hf o λi C fz hk=>Z3 g hk (by decide),h.gw,h.mkey,h.rdw,hc,h.cy,d.2.t h.nf,d.1.t h.nl,h.nol,⟨rfl,hm.t h.fx.cap,?_⟩,⟨h.fy.size,h.fy.cap,?_⟩,⟨U,by omega,hG.bound (by omega)⟩,?_,?_,?_,h.newW,h.newN,?_,h.newY,h.apWN,?_,h.apWY,?_⟩,rfl⟩
 .have:=h.fx.items
  have h2:c'.cache.items.length<=(k+1)*450000:=by omega
  exact h2
 .exact zi h.fy.items (ZA _ (Va k))
 .have:=h.few;omega
 .have:=h.fetches;omega
 .refine h.j.t (hf.j hz λi hi hj=>?_)
  rcases a i hj with e1|e1
  .have:=h.newX i e1;omega
  have:=h.newN i e1;omega
 .intro i hi
  rcases b i hi with (e1|e1)|e1
  .exact h.newX i e1
  .exact h.newN i e1
  omega
 .intro i hi hj
  rcases b i hj with (e1|e1)|e1
  .exact h.apWX i hi e1
  .exact h.apWN i hi e1
  have:=h.wd.lt hi;omega
 intro i hi hj;rcases b i hi with (e1|e1)|e1
 .exact h.apXY i e1 hj
 .exact h.ry.net h.net i hj e1
 have:=h.ry.lt i hj;omega
theorem RdSt.swap(h:RdSt w0 w gw gn vl vt k key p m L P n x y):RdSt w0 w gw gn vl vt k key p m L P n y x:=
 ⟨h.wd,h.net,h.ry,h.rx,h.gw,h.mkey,h.rdw,h.cy,h.cx,h.nf,h.nl,h.nol,h.fy,h.fx,h.good,h.few,h.fetches,h.j,h.newW,h.newN,h.newY,h.newX,h.apWN,h.apWY,h.apWX,λi hi hj=>h.apXY i hj hi⟩
theorem RdSt.turn(h:RdSt w0 w gw gn vl vt k key p m L P n x y){p':Pl}{m':Wm}{l:Lg}{b:Nat}{U:List Nat}(q:p'.gw=p.gw)(o:p'.gd=p.gd)(j:m'.key=m.key)(r:Qa6 w' p' m')(t:U.length<=k+1)(s:Qe4 m' U ((k+1+1)*2097152))(f:Fr (WdS p m) w w')(z:Sub w (WdS p m) (WdS p' m'))(v:RdW m' l b)(A:RdC m' b x.c)(B:RdC m' b y.c)(u:m'.es.length<=k+1):RdSt w0 w' gw gn vl vt (k+1) key p' m' l b { n with files:=m'.d.files } x y:=by
 have hz:=h.j.size;have g:=h.wd.noBytes;have hn:Yr w' gn p'.gd vl vt n:=by rw[o];exact h.net.fr f (λe=>h.apWN _ e (.inl rfl)) (λi hi e=>by rw[h.nol] at hi;cases hi) (λi hi e=>h.apWN _ e (.inr hi))
 have a:∀ i,WdS p' m' i->WdS p m i∨w.heap.size<=i:=z;refine⟨r,⟨hn.cells,hn.lies,hn.told,hn.len,hn.le⟩,h.rx.fr f (λi hi hj=>h.apWX i hj hi) g,h.ry.fr f (λi hi hj=>h.apWY i hj hi) g,q.t h.gw,j.t h.mkey,v,A,B,rfl,h.nl,h.nol,⟨h.fx.size,h.fx.cap,zi h.fx.items (ZA _ (Va k))⟩,⟨h.fy.size,h.fy.cap,zi h.fy.items (ZA _ (Va k))⟩,⟨U,t,s⟩,u,zi h.fetches (ZA _ (Va k)),h.j.t (f.j hz λi hi hj=>by have:=h.newW i hj;omega),?_,h.newN,h.newX,h.newY,?_,?_,?_,h.apXY⟩
 .intro i hi
  rcases a i hi with e1|e1
  .exact h.newW i e1
  omega
 .intro i hi hj
  rcases a i hi with e1|e1
  .exact h.apWN i e1 hj
  rcases hj with e2|e2
  .have:=h.net.lt;omega
  obtain⟨C,hC⟩:=Qk h.net.told e2
  have:=Qb hC
  omega
 .intro i hi hj
  rcases a i hi with e1|e1
  .exact h.apWX i e1 hj
  have:=h.rx.lt i hj;omega
 intro i hi hj;rcases a i hi with e1|e1
 .exact h.apWY i e1 hj
 have:=h.ry.lt i hj;omega
def Zau(w0:G)(gw gn:Nat)(vl vt:J)(k:Nat)(key:O)(x y:Rdr)(e:Ua)(w':G):Prop:=
 e=.returned (.bool true)/\∃ p m L P n,RdSt w0 w' gw gn vl vt k key p m L P n x y
theorem RdSt.envW(h:RdSt w0 w gw gn vl vt k key p m L P n x y)(c:Z5 w0)(a:Yp w0 F)(b:Qio w0):Qbj F (WdS p m) w:=Qjo h.j c a b h.newW
theorem RdSt.append(h:RdSt w0 w gw gn vl vt k key p m L P n x y)(q:k<=4096)(o:Z5 w0)(j:Yp w0 F)(l:Qio w0)(a:Int)(f:Bool)(s:O):Calls prog 66 #[.pointer (some ⟨gw,0,none⟩),.agg #[.int .i64 2,.int .i64 a,.bool f,.string s]] w (Zau w0 gw gn vl vt (k+1) key x y):=by
 obtain⟨U,hU,hG⟩:=h.good;have d:=Qva F w p m L U ((k+1)*2097152) a f s h.wd hG h.rdw.log h.rdw.foreign (h.envW o j l) (by omega);rw[h.gw] at d;refine d.m λe w' hs=>?_
 obtain⟨he,p',m',x1,x2,x3,x4,x5,x6,x7,x8⟩:=hs;have i:m'.foreign=false:=by rcases x8 with⟨_,e1⟩|⟨_,e1⟩|⟨_,e1⟩ <;> rw[e1] <;> exact h.rdw.foreign
 have b:Qe4 m' (L.entries.length / 4 :: U) ((k+1+1)*2097152):=by
  rcases x4 with e1|⟨_,e1⟩
  .rw[i] at e1;cases e1
  exact e1.bound (by omega)
 have c:(L.entries.length / 4 :: U).length<=k+1:=by rw[zx];omega
 refine⟨he,?_⟩;have same:m'=m->∃ p m L P n,RdSt w0 w' gw gn vl vt (k+1) key p m L P n x y:=λem=>by subst em;exact⟨p',m',L,P,_,h.turn x1 x7 x2 x3 c b x5 x6 h.rdw h.cx h.cy (by have:=h.few;omega)⟩
 rcases x8 with⟨_,e1⟩|⟨_,e1⟩|⟨g,e1⟩
 .exact same e1
 .exact same e1
 subst e1;exact⟨p',_,_,P,_,h.turn x1 x7 x2 x3 c b x5 x6 (Qzu h.rdw g) (Qzo h.rdw h.cx s) (Qzo h.rdw h.cy s) (by
  show (m.es ++ [s]).length<=k+1
  have:=h.few
  rw[zn]
  simp
  omega)⟩
theorem RdSt.publish(h:RdSt w0 w gw gn vl vt k key p m L P n x y)(o:k<=4096)(l:Z5 w0)(i:Yp w0 F)(j:Qio w0)(f:key.size<=1048600)(a:Int)(d:Bool)(s:O):Calls prog 66 #[.pointer (some ⟨gw,0,none⟩),.agg #[.int .i64 3,.int .i64 a,.bool d,.string s]] w (Zau w0 gw gn vl vt (k+1) key x y):=by
 obtain⟨U,hU,hG⟩:=h.good;have b:m.es.length<=1048576:=by have:=h.few;omega
 have c:=Qtr F w p m L U ((k+1)*2097152) a d s h.wd hG h.rdw.log h.rdw.live h.rdw.foreign (h.envW l i j) (by omega) (by omega) (by rw[h.mkey];exact f);rw[h.gw] at c;refine c.m λe w' hs=>?_
 obtain⟨he,p',m',x1,x2,x3,x4,x5,x6,x7,x8⟩:=hs;have em:m'=pubW m L:=x8 (Qoy h.rdw.toRdW0 b) (Q0w h.rdw.toRdW0 b).1;subst em;have g:Qe4 (pubW m L) U ((k+1+1)*2097152):=by
  rcases x4 with e1|⟨_,e1⟩
  .cases e1
  exact e1.bound (by omega)
 exact⟨he,p',_,_,_,_,h.turn x1 x7 x2 x3 (by omega) g x5 x6 (Q6t h.rdw.toRdW0 b) (Q5n h.rdw b h.cx) (Q5n h.rdw b h.cy) (by
  show m.es.length<=k+1
  have:=h.few
  omega)⟩
def Qz8(w0:G)(gw gn:Nat)(vl vt:J)(k:Nat)(key:O)(ra:Nat)(y:Rdr)(e:Ua)(w':G):Prop:=
 e=.returned (.bool true)/\∃ p m L P n x',RdSt w0 w' gw gn vl vt k key p m L P n x' y/\x'.ra=ra
theorem RdSt.turned(h:RdSt w0 w gw gn vl vt k key p m L P n x y)(a:Qnl w p m P gn vl vt n x e w'):Qz8 w0 gw gn vl vt (k+1) key x.ra y e w':=by obtain⟨he,n',x',h1,h2⟩:=h.step a;exact⟨he,p,m,L,P,n',x',h1,h2⟩
theorem RdSt.read(h:RdSt w0 w gw gn vl vt k key p m L P n x y)(g:k<=4096)(j:Z5 w0)(d:Yp w0 F)(f:Qio w0)(c:key.size<=1048600)(i:Int)(a : -9223372036854775808<=i)(b:i<=9223372036854775807):Calls prog 68 #[.pointer (some ⟨x.ra,0,none⟩),.pointer (some ⟨gw,0,none⟩),.pointer (some ⟨gn,0,none⟩),.int .i64 i] w (Qz8 w0 gw gn vl vt (k+1) key x.ra y):=by
 have hE:=h.env (F:=F) g j d f c;have l:=Qlj i (n:=x.size+3) (by omega);rw[<-h.gw];rcases zK 0 (Qhc i (x.size+3)) with h0|h0
 .rcases zK (Qhc i (x.size+3)) (x.size+1) with h1|h1
  .obtain⟨t,ht⟩:∃ t,Qhc i (x.size+3)=t+1:=⟨Qhc i (x.size+3)-1,by omega⟩
   have hc:=Q5o F w p m L P gn vl vt n x hE h.fx.size h.fx.cap (by have:=h.fetches;omega) (by have:=h.fx.items;omega) i a b t ht (by omega);rw[h.gw] at hc ⊢;exact hc.m λe w' hs=>h.turned hs
  have hc:=Qnc F w p m L P gn vl vt n x hE h.fx.size i a b (.inr h1);rw[h.gw] at hc ⊢;exact hc.m λe w' hs=>h.turned hs
 have hc:=Qnc F w p m L P gn vl vt n x hE h.fx.size i a b (.inl (by omega));rw[h.gw] at hc ⊢;exact hc.m λe w' hs=>h.turned hs
theorem RdSt.update(h:RdSt w0 w gw gn vl vt k key p m L P n x y)(d:k<=4096)(f:Z5 w0)(b:Yp w0 F)(c:Qio w0)(a:key.size<=1048600):Calls prog 67 #[.pointer (some ⟨x.ra,0,none⟩),.pointer (some ⟨gw,0,none⟩)] w (Qz8 w0 gw gn vl vt (k+1) key x.ra y):=by
 have hE:=h.env (F:=F) d f b c a;obtain⟨U,hU,hG⟩:=h.good;have hc:=Qul F w p m L P gn vl vt n x hE h.fx.size (λi hi e=>h.apWX i hi (.inl e)) (λi hi e=>Z3 hE.kinds h.rx.cells (by decide) (e ▸ hi)) (by have:=h.fetches;omega) (by have:=h.fx.items;omega) (by have:=hG.sane.len;omega);rw[h.gw] at hc;exact hc.m λe w' hs=>h.turned hs
theorem RdSt.trusts(h:RdSt w0 w gw gn vl vt k key p m L P n x y)(g:k<=4096):Calls prog 69 #[.pointer (some ⟨x.ra,0,none⟩),.pointer (some ⟨gw,0,none⟩)] w (Qz8 w0 gw gn vl vt (k+1) key x.ra y):=by
 have a:=h.rdw.le;have f:=h.cx.le;rw[Qx] at a;have d:=h.few;have hc:=Qsg w p m gn x h.wd h.rx (λi hi e=>h.apWX i hi (.inr (.inr (.inl e)))) h.fx.size (by rw[h.fx.size];omega) (by omega) (λu hu=>by
  have:=h.rdw.short u.data.toList (zU.2 ⟨u,hu,rfl⟩)
  simpa using this) h.cx.tr.root
 rw[h.gw] at hc;refine hc.m λe w' hs=>?_
 obtain⟨he,b,hr,hf⟩:=hs;refine h.turned ⟨he,x.c,n,x.qs,?_,Jc h.net hf (Q1 h.rx.cl.cells) (by decide) (by decide) (by decide),b,hf.weak λ_ _ e=>.inl (.inl (.inl e)),Sub.refl _ _,h.cx,Qcm.refl n,rfl,by omega,by omega⟩;rw[<-h.fx.size];exact hr
end
theorem Q2r(d:Dk):Qbm (Qk5 d):=⟨rfl,rfl,rfl⟩
theorem Qbm.calm{d d':Dk}{j:Nat}(h:Qbm d)(c:Calm j d d'):Qbm d':=⟨c.failAt.t h.failAt,c.dead.t h.dead,c.hit.t h.hit⟩
theorem Qsc(key:O):Yu [] key (.good [] 0):=
 Q56 (es:=[]) (n:=0) (by simp) (λe he=>by simp at he) (Qb1.nil _) (λj hj=>by simp at hj) (zg _) (λj hj=>by simp at hj) (Q6f rfl)
theorem Qzk{m m':Wm}(h:Zbd m m')(b:m.d.files = [])(f:m.d.turned=false)(c:m.foreign=false):∃ L,RdW m' L 0/\m'.es = []/\m'.key=m.key:=by
 obtain⟨d',k,hc,hq⟩:=h;rw[b] at hq;rcases hq with⟨ss,n,ho,rfl⟩|⟨⟨kn,q,ho⟩,_⟩
 .have e:=ho.one (Qsc m.key)
  simp only[Opn.good.injEq] at e;obtain⟨e1,rfl⟩:=e;have e2:ss = []:=by
   cases ss with
   | nil=>rfl
   | cons a l=>simp[lists] at e1
  subst e2;exact⟨_,Zbf m.key rfl rfl rfl rfl rfl rfl rfl rfl c rfl ((Q2r m.d).calm hc) (hc.turned.t f) (by show d'.files = [];rw[hc.files];exact b),rfl,rfl⟩
 exact absurd (ho.one (Qsc m.key)) (by simp)
variable {w0:G} {gw:Nat} {key:O} {p:Pl} {m:Wm} {L:Lg} {x y:Rdr}
theorem Zap{R C:Nat}{K:Nat}(v:Qa6 w p m)(u:Yr w gn p.gd (.slice none 0 0) (.slice none 0 0) ⟨m.d.files,[],[],0⟩)(z:Qef w gn x)(A:Qef w gn y)(q:x.size=0)(a:x.c=⟨key,0,hash [],⟨x.cap.toNat,[]⟩⟩)(r:y.size=0)(b:y.c=⟨key,0,hash [],⟨y.cap.toNat,[]⟩⟩)(n:p.gw=gw)(k:m.key=key)(o:RdW m L 0)(l:m.es = [])(s:Qjd m [] K)(F:K<=2097152)(t:Bz w0 w)(f:∀ i,WdS p m i->w0.heap.size<=i/\i<gn)(D:w0.heap.size<=gn)(B:gn<R)(g:∀ i,rdrS x i->i=R∨(R+2<=i/\i<C))(j:∀ i,rdrS y i->i=R+1∨C<=i)(E:R+2<=C):RdSt w0 w gw gn (.slice none 0 0) (.slice none 0 0) 0 key p m L 0 ⟨m.d.files,[],[],0⟩ x y where
 wd:=v
 net:=u
 rx:=z
 ry:=A
 gw:=n
 mkey:=k
 rdw:=o
 cx:=by rw[a];exact Q6g key k 0 _
 cy:=by rw[b];exact Q6g key k 0 _
 nf:=rfl
 nl:=rfl
 nol:=rfl
 fx:=⟨by rw[q,a],by rw[a],by rw[a];simp⟩
 fy:=⟨by rw[r,b],by rw[b],by rw[b];simp⟩
 good:=⟨[],zg _,by
  rcases s with h|⟨_,h⟩
  .rw[o.foreign] at h;cases h
  exact h.bound (by omega)⟩
 few:=by rw[l];simp
 fetches:=zg _
 j:=t
 newW:=λi hi=>(f i hi).1
 newN:=λi hi=>by
  rcases hi with e|e
  .omega
  cases e
 newX:=λi hi=>by have:=g i hi;omega
 newY:=λi hi=>by have:=j i hi;omega
 apWN:=λi hi hj=>by
  have:=(f i hi).2
  rcases hj with e|e
  .omega
  cases e
 apWX:=λi hi hj=>by
  have:=(f i hi).2
  have:=g i hj
  omega
 apWY:=λi hi hj=>by
  have:=(f i hi).2
  have:=j i hj
  omega
 apXY:=λi hi hj=>by
  have:=g i hi
  have:=j i hj
  omega
theorem Qtt(b:x.qs = []){i:Nat}(a:rdrS x i):i=x.ra∨i=x.pa∨i=x.gc∨i=x.gk∨i=x.mc:=by
 rcases a with e|e|e|e|e|e
 .exact .inl e
 .exact .inr (.inl e)
 .exact .inr (.inr (.inl e))
 .exact .inr (.inr (.inr (.inl e)))
 .exact .inr (.inr (.inr (.inr e)))
 rw[b] at e;simp at e
theorem RdSt.grow{b c:J}{k:Nat}{P:Nat}{n:Nt}(h:RdSt w0 w gw gn b c k key p m L P n x y)(a:Bz w w'):RdSt w0 w' gw gn b c k key p m L P n x y:=
 { h with wd:=h.wd.j a,net:=h.net.j a,rx:=h.rx.j a,ry:=h.ry.j a,j:=h.j.t (a.m h.j.size) }
def Qeg(w0 w:G)(gw gn ra rb k:Nat)(key:O):Prop:=∃ p m L P n x y,RdSt w0 w gw gn (.slice none 0 0) (.slice none 0 0) k key p m L P n x y/\x.ra=ra/\y.ra=rb
def RdGo(w0:G)(gw gn ra rb k:Nat)(key:O)(e:Ua)(w':G):Prop:=e=.returned (.bool true)/\Qeg w0 w' gw gn ra rb k key
section
variable {F:Nat->Addr} {w0 w:G} {gw gn ra rb k:Nat} {key:O}
theorem Qeg.grow(h:Qeg w0 w gw gn ra rb k key)(a:Bz w w'):Qeg w0 w' gw gn ra rb k key:=by obtain⟨p,m,L,P,n,x,y,h1,h2,h3⟩:=h;exact⟨p,m,L,P,n,x,y,h1.grow a,h2,h3⟩
theorem Qeg.j(h:Qeg w0 w gw gn ra rb k key):Bz w0 w:=by obtain⟨p,m,L,P,n,x,y,h1,h2,h3⟩:=h;exact h1.j
theorem Qeg.skip(h:Qeg w0 w gw gn ra rb k key):Qeg w0 w gw gn ra rb (k+1) key:=by obtain⟨p,m,L,P,n,x,y,h1,h2,h3⟩:=h;obtain⟨U,hU,hG⟩:=h1.good;have hl:=h1.few;exact⟨p,m,L,P,_,x,y,h1.turn rfl rfl rfl h1.wd (U:=U) (by omega) (hG.bound (by omega)) (Fr.refl _ _) (Sub.refl _ _) h1.rdw h1.cx h1.cy (by omega),h2,h3⟩
theorem Qeg.append(h:Qeg w0 w gw gn ra rb k key)(f:k<=4096)(g:Z5 w0)(c:Yp w0 F)(d:Qio w0)(a:Int)(b:Bool)(s:O):Calls prog 66 #[.pointer (some ⟨gw,0,none⟩),.agg #[.int .i64 2,.int .i64 a,.bool b,.string s]] w (RdGo w0 gw gn ra rb (k+1) key):=by
 obtain⟨p,m,L,P,n,x,y,h1,h2,h3⟩:=h;refine (h1.append f g c d a b s).m λe w' hq=>?_
 obtain⟨he,p',m',L',P',n',h4⟩:=hq;exact⟨he,p',m',L',P',n',x,y,h4,h2,h3⟩
theorem Qeg.publish(h:Qeg w0 w gw gn ra rb k key)(g:k<=4096)(i:Z5 w0)(d:Yp w0 F)(f:Qio w0)(c:key.size<=1048600)(a:Int)(b:Bool)(s:O):Calls prog 66 #[.pointer (some ⟨gw,0,none⟩),.agg #[.int .i64 3,.int .i64 a,.bool b,.string s]] w (RdGo w0 gw gn ra rb (k+1) key):=by
 obtain⟨p,m,L,P,n,x,y,h1,h2,h3⟩:=h;refine (h1.publish g i d f c a b s).m λe w' hq=>?_
 obtain⟨he,p',m',L',P',n',h4⟩:=hq;exact⟨he,p',m',L',P',n',x,y,h4,h2,h3⟩
theorem Qeg.swap(h:Qeg w0 w gw gn ra rb k key):Qeg w0 w gw gn rb ra k key:=by obtain⟨p,m,L,P,n,x,y,h1,h2,h3⟩:=h;exact⟨p,m,L,P,n,y,x,h1.swap,h3,h2⟩
theorem Qeg.read(h:Qeg w0 w gw gn ra rb k key)(g:k<=4096)(j:Z5 w0)(d:Yp w0 F)(f:Qio w0)(a:key.size<=1048600)(i:Int)(b : -9223372036854775808<=i)(c:i<=9223372036854775807):Calls prog 68 #[.pointer (some ⟨ra,0,none⟩),.pointer (some ⟨gw,0,none⟩),.pointer (some ⟨gn,0,none⟩),.int .i64 i] w (RdGo w0 gw gn ra rb (k+1) key):=by
 obtain⟨p,m,L,P,n,x,y,h1,rfl,h3⟩:=h;refine (h1.read g j d f a i b c).m λe w' hq=>?_
 obtain⟨he,p',m',L',P',n',x',h4,h5⟩:=hq;exact⟨he,p',m',L',P',n',x',y,h4,h5,h3⟩
theorem Qeg.update(h:Qeg w0 w gw gn ra rb k key)(d:k<=4096)(f:Z5 w0)(b:Yp w0 F)(c:Qio w0)(a:key.size<=1048600):Calls prog 67 #[.pointer (some ⟨ra,0,none⟩),.pointer (some ⟨gw,0,none⟩)] w (RdGo w0 gw gn ra rb (k+1) key):=by
 obtain⟨p,m,L,P,n,x,y,h1,rfl,h3⟩:=h;refine (h1.update d f b c a).m λe w' hq=>?_
 obtain⟨he,p',m',L',P',n',x',h4,h5⟩:=hq;exact⟨he,p',m',L',P',n',x',y,h4,h5,h3⟩
theorem Qeg.trusts(h:Qeg w0 w gw gn ra rb k key)(a:k<=4096):Calls prog 69 #[.pointer (some ⟨ra,0,none⟩),.pointer (some ⟨gw,0,none⟩)] w (RdGo w0 gw gn ra rb (k+1) key):=by
 obtain⟨p,m,L,P,n,x,y,h1,rfl,h3⟩:=h;refine (h1.trusts a).m λe w' hq=>?_
 obtain⟨he,p',m',L',P',n',x',h4,h5⟩:=hq;exact⟨he,p',m',L',P',n',x',y,h4,h5,h3⟩
end
theorem Q3q(f:Nat->Addr)(w:G)(vo:J)(key:O)(g:Int)(h:List Op1)(ho:Qvd w vo h)(hm:h.length<=9223372036854775807)(hn:Z5 w)(hS:Yp w f)(hT:Qio w)(hN:Qdc w)(al:g<=9223372036854775807)(bc:∀ o∈h,-9223372036854775808<=o.a/\o.a<=9223372036854775807):Calls prog 19 #[.string key,.int .i64 g,vo] w (Ql4 w):=by
 have au:Y6 w (.slice none 0 0) []:=⟨none,0,rfl,zg _,λj x hx=>by simp at hx⟩
 obtain⟨HO,ci⟩:=zh2 ho (Qpm w (.slice none 0 0) vo [] h au ho (by decide) hm);obtain⟨ao,co,rfl,_,_⟩:=ho;obtain⟨HN,HS,HT,HE,cg,a3⟩:=zh6 hn hS hT hN bc al;clear hn hS hT hN bc au al
 go_enter func19,ntmps19
 go_upto_region 2 with (first|go_at_call 64;refine ci.o.m ?_;rintro e w1⟨b,rfl,rfl,hb⟩;have ch:=zh hb;clear hb|fail)
 cases b with
 | false=>
  go_wp2;go_ret;exact⟨rfl,zu _ _⟩
 | true=>
  by_cases hky:1048576<key.size
  .have ar:(1048576:Int)<(key.size:Int):=by omega
   go_wp2;go_ret;exact⟨rfl,zu _ _⟩
  have ar:¬ (1048576:Int)<(key.size:Int):=by omega
  obtain⟨_,c9,_⟩:=ch.o rfl;have bq:=Qbx w (.pointer none) .nilIface (.inl ⟨rfl,rfl⟩) key g a3.o;have cn:=zh bq;clear bq
  go_upto_region 5 with (first|go_at_call 25;refine cn.o.m ?_;rintro e w1⟨la,lc,lk,lm,rfl,bw,bh,bd,c5,c6,c7,c8⟩;obtain⟨a5,ad,t⟩:=zh3 bw bh bd;clear bw bh bd|fail)
  have bz:=Qlf w1 (.slice none 0 0) [] key ⟨none,0,rfl,zg _,λj x hx=>by simp at hx⟩ (by decide);have cs:=zh bz;clear bz
  go_upto_region 6 with (first|go_at_call 20;refine cs.o.m ?_;rintro e w2⟨p0,rfl,bj⟩;have c:=zh bj;clear bj|fail)
  have af:Bz w w2:=t.o.t (c.o.2.1.m t.o.size);have ba:Qe4 ⟨key,dk0 (firsts []),none,[],0,false,false⟩ [] 0:=⟨Qn8 (l:=[]) (zg _) (λf hf=>by simp at hf),λL hL=>by cases hL⟩
  have bu:=Qsi f w2 p0 _ [] 0 c.o.1 ba rfl (Qjo af HN.o HS.o HT.o λi hi=>zi t.o.size (c.o.2.2 i hi)) (by simp) (by omega) (by show key.size<=_;omega);obtain⟨cq,c2⟩:=zh2 bu af;clear bu ba af
  go_upto_region 7 with (first|go_at_call 21;refine cq.o.m ?_;intro e w3 h3;obtain⟨he,p1,m1,x1,x2,x3,x4,x5,x6,x7,x8⟩:=h3;subst he;obtain⟨X1,X2,X3,X4,X5,X6,X7,X8⟩:=zh8 x1 x2 x3 x4 x5 x6 x7 x8;clear x1 x2 x3 x4 x5 x6 x7 x8|fail)
  have n:Bz w1 w3:=c.o.2.1.t (X5.o.j c.o.2.1.size λi hi hj=>by have:=c.o.2.2 i hj;omega);have U:Bz w w3:=t.o.t (n.m t.o.size);have br:∀ w',Bz w w'->Yp w' f/\Qdc w':=λw' hb=>⟨HS.o.j hb,HE.o.j hb (by obtain⟨a,ha⟩:=HE.o;exact Qj ha)⟩
  have bl:=Quk f w3 la lc lk lm _ _ ((n.block _ (Qb a5.o)).t a5.o) (ad.o.j n) λw' hf=>br w' (U.t (hf.j U.size λi hi e=>by omega))
  obtain⟨ck,Z⟩:=zh2 bl U;clear n U br bl
  go_upto_region 10 with (first|go_at_call 29;refine ck.o.m ?_;rintro e w4⟨da,db,rfl,bk⟩;have ac:=zh bk;clear bk|fail)
  obtain⟨W4,S⟩:=zzx (w4.alloc (.cells #[.int .i64 3,.string ⟨#[]⟩] 63))
  have ag:Bz w4 W4:=by rw[S];exact Qa w4 _
  have bb:Zq W4 w4.heap.size 3 ⟨#[]⟩:=by rw[S];exact zy w4 _
  rw[<-S];have cd:lc<w1.heap.size:=ad.o.lt;have K:∀ i,WdS p1 m1 i->w1.heap.size<=i:=λi hi=>by
   rcases X6.o i hi with e|e
   .exact c.o.2.2 i e
   have:=c.o.2.1.size;omega
  have M:Qa6 W4 p1 m1:=(X3.o.fr ac.o (λi hi e=>by have:=K i hi;omega) (λi C fz hk e=>by
   have n:Bz w1 w3:=c.o.2.1.t (X5.o.j c.o.2.1.size λi hi hj=>by have:=c.o.2.2 i hj;omega)
   exact Zz hk (ad.o.j n).cells (by decide) e)).j ag
  have ak:Bz w W4:=(Z.o.t (ac.o.j Z.o.size λi hi e=>by omega)).t (ag.m (zi Z.o.size ac.o.size));obtain⟨t0,t1,cz,c0,tlt⟩:=bb.facts;have d0:=M.heads.1.1;rw[X1.o] at d0;obtain⟨WD4,BW4,ca⟩:=zh3 M ak K;clear S ag bb M ak K cd;have bt:=Ql7 W4 p1.gd m1.d.files;have cp:=zh bt;clear bt
  go_upto_region 13 with (first|go_at_call 24;refine cp.o.m ?_;rintro e w5⟨gn,rfl,bn,be,c3⟩;obtain⟨N5,B5⟩:=zh2 bn be;clear bn be|fail)
  have bo:=λW=>Qbx W (.pointer (some ⟨gn,0,none⟩)) (.iface 48 (.pointer (some ⟨gn,0,none⟩))) (.inr ⟨_,rfl,rfl⟩) key 16 (by decide)
  have bp:=λW=>Qbx W (.pointer (some ⟨gn,0,none⟩)) (.iface 48 (.pointer (some ⟨gn,0,none⟩))) (.inr ⟨_,rfl,rfl⟩) key g a3.o
  obtain⟨cl,cm⟩:=zh2 bo bp;clear bo bp t0 t1 cz c0 tlt d0
  go_upto_region 15 with fail
  obtain⟨ra,y⟩:=zzx w5.heap.size
  obtain⟨W6,u⟩:=zzx ((w5.alloc (.cells #[.pointer none,.int .i64 0,.int .i64 16] 107)).alloc (.cells #[.pointer none,.int .i64 0,.int .i64 g] 107))
  have z6:W6.heap.size=ra+2:=by rw[u,y];simp
  have a6:W6.heap[ra]?=some (.cells #[.pointer none,.int .i64 0,.int .i64 16] 107 (0,0)):=by rw[u,y];exact ((Qa _ _).block _ (by simp)).t (zy w5 _)
  have b6:W6.heap[ra+1]?=some (.cells #[.pointer none,.int .i64 0,.int .i64 g] 107 (0,0)):=by
   rw[u,y]
   have:=zy (w5.alloc (.cells #[.pointer none,.int .i64 0,.int .i64 16] 107)) (.cells #[.pointer none,.int .i64 0,.int .i64 g] 107)
   simpa using this
  have bf:Bz w5 W6:=by rw[u];exact (Qa w5 _).alloc (by simp) _
  obtain⟨A6,B6,a1,Z6,ae⟩:=zh5 a6 b6 bf z6 y;rw[<-u,<-y];clear u a6 b6 bf z6 y
  go_upto_region 16 with (first|go_at_call 25;refine (cl.o W6).m ?_;rintro e w7⟨I,ay,az,a0,rfl,aw,am,ai,A,B,D,E⟩;have a7:=(ai.block _ (Qb A6.o)).t A6.o;have A7:=zh a7;have x0:=Qd a7 0 rfl;have xf:=Qu a7 0;have xl:=Qb a7;obtain⟨cb,b7,ab,a4⟩:=zh4 aw am ai (show W6.heap.size<=I/\W6.heap.size<=ay/\W6.heap.size<=az/\W6.heap.size<=a0 from ⟨A,B,D,E⟩);clear a7 aw am ai A B D E|fail)
  have V:=Fr.set1 w7 ra 0 (.pointer (some ⟨I,0,none⟩));have ap:=Q1 A7.o;obtain⟨W8,v⟩:=zzx (w7.setCell ⟨ra,0,none⟩ (.pointer (some ⟨I,0,none⟩)))
  have b0:Qef W8 gn ⟨ra,I,ay,az,a0,16,0,⟨key,0,hash [],⟨(16:Int).toNat,[]⟩⟩,[]⟩:=by rw[v];exact⟨(heap_setCell A7.o _).t (by simp),Ze cb.o V ap (by decide),b7.o.kept V ap (λk hk=>⟨_,_,_,hk ▸ A7.o⟩) (by decide) (by decide) (by decide) (by decide)⟩
  have ah:Bz w5 W8:=by rw[v];exact (a1.o.t (ab.o.m a1.o.size)).setCell (by rw[<-ae.o];exact zg _) _
  have b8:W8.heap[ra+1]?=some (.cells #[.pointer none,.int .i64 0,.int .i64 g] 107 (0,0)):=by rw[v];exact V.heap ((ab.o.block _ (Qb B6.o)).t B6.o) (by omega)
  have b5:w7.heap.size=W8.heap.size:=by rw[v];simp
  obtain⟨a8,aa,B8,Z78⟩:=zh4 b0 ah b8 b5;rw[<-v];clear v V ap b0 ah b8 b5 x0 xf xl
  go_upto_region 17 with (first|go_at_call 25;refine (cm.o W8).m ?_;rintro e w9⟨X,b2,b3,b4,rfl,ax,an,aj,A,B,D,E⟩;have a9:=(aj.block _ (Qb B8.o)).t B8.o;have A9:=zh a9;have x0:=Qd a9 0 rfl;have xf:=Qu a9 0;have xl:=Qb a9;obtain⟨cc,b9,a2,cj⟩:=zh4 ax an aj (show W8.heap.size<=X/\W8.heap.size<=b2/\W8.heap.size<=b3/\W8.heap.size<=b4 from ⟨A,B,D,E⟩);clear a9 ax an aj A B D E|fail)
  have z:=Fr.set1 w9 (ra+1) 0 (.pointer (some ⟨X,0,none⟩));have aq:=Q1 A9.o;obtain⟨Q,q⟩:=zzx (w9.setCell ⟨ra+1,0,none⟩ (.pointer (some ⟨X,0,none⟩)))
  have N:Qef Q gn ⟨ra,I,ay,az,a0,16,0,⟨key,0,hash [],⟨(16:Int).toNat,[]⟩⟩,[]⟩:=by
   rw[q];refine (a8.o.j a2.o).fr z (λi hi e=>?_) λi C fz hk e=>Zz hk A9.o (by decide) e
   have h1:=Qtt rfl hi;have h2:=a4.o;have h3:=Z6.o;dsimp only at h1;omega
  have P:Qef Q gn ⟨ra+1,X,b2,b3,b4,g,0,⟨key,0,hash [],⟨g.toNat,[]⟩⟩,[]⟩:=by rw[q];exact⟨(heap_setCell A9.o _).t (by simp),Ze cc.o z aq (by decide),b9.o.kept z aq (λk hk=>⟨_,_,_,hk ▸ A9.o⟩) (by decide) (by decide) (by decide) (by decide)⟩
  have p:Bz w5 Q:=by rw[q];exact (aa.o.t (a2.o.m aa.o.size)).setCell (by have:=ae.o;show w5.heap.size<=ra+1;omega) _
  obtain⟨L,bx,bi,bm⟩:=Qzk X8.o rfl rfl rfl;have cr:=zh (show Qeg w Q p0.gw gn ra (ra+1) 0 key from ⟨p1,m1,L,0,_,_,_,Zap (R:=ra) (C:=W8.heap.size) ((WD4.o.j B5.o).j p) (N5.o.j p) N P rfl rfl rfl rfl X1.o bm bx bi X4.o (by omega) ((BW4.o.t (B5.o.m BW4.o.size)).t (p.m (zi BW4.o.size B5.o.size))) (λi hi=>by
   have h1:=ca.o i hi
   have h2:=WD4.o.lt hi
   have h3:=t.o.size
   omega) (by have:=BW4.o.size;omega) (by have:=N5.o.lt;have:=ae.o;omega) (λi hi=>by
   have h0:=a8.o.lt i hi
   have h1:=Qtt rfl hi
   have h2:=a4.o
   have h3:=Z6.o
   dsimp only at h1
   omega) (λi hi=>by
   have h1:=Qtt rfl hi
   have h2:=cj.o
   dsimp only at h1
   omega) (by have:=ab.o.size;have:=Z6.o;have:=Z78.o;omega),rfl,rfl⟩)
  have x0:=Qd N.cells 0 rfl;have y0:=Qd P.cells 0 rfl;rw[<-q];clear q z aq N P p bx bi bm xf xl
  go_wp2_with fail
  go_loopw [7,16] (λs7 s16 wr=>∃ k:Nat,k<=h.length/\s16=.int .i64 k/\s7=.bool true/\Aside (Qeg w wr p0.gw gn ra (ra+1) k key)) (λ_ s16 _=>h.length-(intOf s16).toNat)
  case atStart=>exact⟨0,zE _,rfl,rfl,cr.o⟩
  case round=>
   obtain⟨k,hk,rfl,rfl,HP⟩:=hrel;clear x0 y0;by_cases hlt:k<h.length
   .obtain⟨o,av⟩:∃ o,h[k]?=some o:=⟨_,ze hlt⟩
    obtain⟨ao',co',cw,_,b1⟩:=HO.o.j HP.o.j;obtain⟨b,off,cx,d0,d1,d2,d3⟩:=b1 k o av;cases cw;subst cx;have ar:(k:Int)<(h.length:Int):=by omega
    have c4:(0:Int)<=(k:Int):=by omega
    have H:=cg.o o (zr av);obtain⟨kd,oa,ow,os⟩:=o;dsimp only at d0 d1 d2 d3 H;clear b1 av
    go_upto_region 23 with fail
    obtain⟨WA,T⟩:=zzx (wr.alloc (.cells #[.int .i64 kd,.int .i64 oa,.bool ow,.string os] 103))
    have bg:Bz wr WA:=by rw[T];exact Qa wr _
    have s:WA.heap[wr.heap.size]?=some (.cells #[.int .i64 kd,.int .i64 oa,.bool ow,.string os] 103 (0,0)):=by rw[T];exact zy wr _
    have HA:=zh (HP.o.grow bg);have o0:=Qd s 0 rfl;have o1:=Qd s 1 rfl;have o2:=Qd s 2 rfl;have o3:=Qd s 3 rfl;rw[<-T];clear T bg s d0 d1 d2 d3;cases ow with
    | true=>
     by_cases k2:kd=2
     .subst k2
      have HC:=zh (HA.o.append (F:=f) (by omega) HN.o HS.o HT.o oa true os)
      go_wp2_with (first|go_at_call 66;refine HC.o.m ?_;rintro e m⟨rfl,hq⟩;have HQ:=zh hq;clear hq|fail)
      go_roundw
      case rel=>exact⟨k+1,by omega,by go_num,rfl,HQ.o⟩
      case measure=>simp[intOf];omega
     have t2:(kd == 2)=false:=by rw[zl];exact k2
     by_cases k3:kd=3
     .subst k3
      have HC:=zh (HA.o.publish (F:=f) (by omega) HN.o HS.o HT.o (by omega) oa true os)
      go_wp2_with (first|go_at_call 66;refine HC.o.m ?_;rintro e m⟨rfl,hq⟩;have HQ:=zh hq;clear hq|fail)
      go_roundw
      case rel=>exact⟨k+1,by omega,by go_num,rfl,HQ.o⟩
      case measure=>simp[intOf];omega
     have t3:(kd == 3)=false:=by rw[zl];exact k3
     by_cases k6:kd=6
     .subst k6
      have HC:=zh (HA.o.swap.update (F:=f) (by omega) HN.o HS.o HT.o (by omega))
      go_wp2_with (first|go_at_call 67;refine HC.o.m ?_;rintro e m⟨rfl,hq⟩;have HQ:=zh hq;clear hq|fail)
      go_roundw
      case rel=>exact⟨k+1,by omega,by go_num,rfl,HQ.o.swap⟩
      case measure=>simp[intOf];omega
     have t6:(kd == 6)=false:=by rw[zl];exact k6
     by_cases k7:kd=7
     .subst k7
      have HC:=zh (HA.o.swap.read (F:=f) (by omega) HN.o HS.o HT.o (by omega) oa H.1 H.2)
      go_wp2_with (first|go_at_call 68;refine HC.o.m ?_;rintro e m⟨rfl,hq⟩;have HQ:=zh hq;clear hq|fail)
      go_roundw
      case rel=>exact⟨k+1,by omega,by go_num,rfl,HQ.o.swap⟩
      case measure=>simp[intOf];omega
     have t7:(kd == 7)=false:=by rw[zl];exact k7
     by_cases k8:kd=8
     .subst k8
      have HC:=zh (HA.o.swap.trusts (by omega))
      go_wp2_with (first|go_at_call 69;refine HC.o.m ?_;rintro e m⟨rfl,hq⟩;have HQ:=zh hq;clear hq|fail)
      go_roundw
      case rel=>exact⟨k+1,by omega,by go_num,rfl,HQ.o.swap⟩
      case measure=>simp[intOf];omega
     have t8:(kd == 8)=false:=by rw[zl];exact k8
     have HQ:=zh HA.o.skip
     go_wp2
     go_roundw
     case rel=>exact⟨k+1,by omega,by go_num,rfl,HQ.o⟩
     case measure=>simp[intOf];omega
    | false=>
     by_cases k2:kd=2
     .subst k2
      have HC:=zh (HA.o.append (F:=f) (by omega) HN.o HS.o HT.o oa false os)
      go_wp2_with (first|go_at_call 66;refine HC.o.m ?_;rintro e m⟨rfl,hq⟩;have HQ:=zh hq;clear hq|fail)
      go_roundw
      case rel=>exact⟨k+1,by omega,by go_num,rfl,HQ.o⟩
      case measure=>simp[intOf];omega
     have t2:(kd == 2)=false:=by rw[zl];exact k2
     by_cases k3:kd=3
     .subst k3
      have HC:=zh (HA.o.publish (F:=f) (by omega) HN.o HS.o HT.o (by omega) oa false os)
      go_wp2_with (first|go_at_call 66;refine HC.o.m ?_;rintro e m⟨rfl,hq⟩;have HQ:=zh hq;clear hq|fail)
      go_roundw
      case rel=>exact⟨k+1,by omega,by go_num,rfl,HQ.o⟩
      case measure=>simp[intOf];omega
     have t3:(kd == 3)=false:=by rw[zl];exact k3
     by_cases k6:kd=6
     .subst k6
      have HC:=zh (HA.o.update (F:=f) (by omega) HN.o HS.o HT.o (by omega))
      go_wp2_with (first|go_at_call 67;refine HC.o.m ?_;rintro e m⟨rfl,hq⟩;have HQ:=zh hq;clear hq|fail)
      go_roundw
      case rel=>exact⟨k+1,by omega,by go_num,rfl,HQ.o⟩
      case measure=>simp[intOf];omega
     have t6:(kd == 6)=false:=by rw[zl];exact k6
     by_cases k7:kd=7
     .subst k7
      have HC:=zh (HA.o.read (F:=f) (by omega) HN.o HS.o HT.o (by omega) oa H.1 H.2)
      go_wp2_with (first|go_at_call 68;refine HC.o.m ?_;rintro e m⟨rfl,hq⟩;have HQ:=zh hq;clear hq|fail)
      go_roundw
      case rel=>exact⟨k+1,by omega,by go_num,rfl,HQ.o⟩
      case measure=>simp[intOf];omega
     have t7:(kd == 7)=false:=by rw[zl];exact k7
     by_cases k8:kd=8
     .subst k8
      have HC:=zh (HA.o.trusts (by omega))
      go_wp2_with (first|go_at_call 69;refine HC.o.m ?_;rintro e m⟨rfl,hq⟩;have HQ:=zh hq;clear hq|fail)
      go_roundw
      case rel=>exact⟨k+1,by omega,by go_num,rfl,HQ.o⟩
      case measure=>simp[intOf];omega
     have t8:(kd == 8)=false:=by rw[zl];exact k8
     have HQ:=zh HA.o.skip
     go_wp2
     go_roundw
     case rel=>exact⟨k+1,by omega,by go_num,rfl,HQ.o⟩
     case measure=>simp[intOf];omega
   have ar:¬ (k:Int)<(h.length:Int):=by omega
   go_wp2;go_ret;exact⟨rfl,HP.o.j⟩
structure WSt(w0 w:G)(k:Nat)(key:O)(p:Pl)(m:Wm)(L:Lg)(P:Nat):Prop where
 wd:Qa6 w p m
 mkey:m.key=key
 rdw:RdW m L P
 good:∃ U,U.length<=k/\Qe4 m U ((k+1)*2097152)
 few:m.es.length<=k
 j:Bz w0 w
 new:∀ i,WdS p m i->w0.heap.size<=i
def WGo(w0:G)(k:Nat)(key:O)(gw:Nat)(es:List O)(e:Ua)(w':G):Prop:=
 e=.returned (.bool true)/\∃ p m L P,p.gw=gw/\m.es=es/\WSt w0 w' k key p m L P
def WPub(w0:G)(k:Nat)(key:O)(gw:Nat)(es:List O)(e:Ua)(w':G):Prop:=
 e=.returned (.bool true)/\∃ p m L,p.gw=gw/\m.es=es/\WSt w0 w' k key p m L es.length
section
variable {F:Nat->Addr} {w0 w:G} {k:Nat} {key:O} {p:Pl} {m:Wm} {L:Lg} {P:Nat}
theorem WSt.more(h:WSt w0 w k key p m L P){j:Nat}(a:k<=j):WSt w0 w j key p m L P:=by obtain⟨U,hU,hG⟩:=h.good;exact { h with good:=⟨U,by omega,hG.bound (ZA _ (by omega))⟩,few:=by have:=h.few;omega }
theorem WSt.env(h:WSt w0 w k key p m L P)(c:Z5 w0)(a:Yp w0 F)(b:Qio w0):Qbj F (WdS p m) w:=Qjo h.j c a b h.new
variable {w':G}
theorem WSt.turn(h:WSt w0 w k key p m L P){p':Pl}{m':Wm}{b:Lg}{c:Nat}{U:List Nat}(a:m'.key=m.key)(d:Qa6 w' p' m')(f:U.length<=k+1)(e:Qe4 m' U ((k+1+1)*2097152))(g:Fr (WdS p m) w w')(n:Sub w (WdS p m) (WdS p' m'))(l:RdW m' b c)(j:m'.es.length<=k+1):WSt w0 w' (k+1) key p' m' b c:=by
 have hz:=h.j.size;refine⟨d,a.t h.mkey,l,⟨U,f,e⟩,j,h.j.t (g.j hz λi hi hj=>by have:=h.new i hj;omega),λi hi=>?_⟩;rcases n i hi with e1|e1
 .exact h.new i e1
 omega
theorem WSt.append(h:WSt w0 w k key p m L P)(i:k<=4096)(g:Z5 w0)(c:Yp w0 F)(d:Qio w0)(s:O)(a:s.size<=20):Calls prog 23 #[.pointer (some ⟨p.gw,0,none⟩),.string s] w (WGo w0 (k+1) key p.gw (m.es ++ [s])):=by
 obtain⟨U,hU,hG⟩:=h.good;have f:=h.few;refine (Qml F w p m L s U ((k+1)*2097152) h.wd hG h.rdw.log h.rdw.foreign (h.env g c d) (by omega) (by omega)).m λe w' hst=>?_
 obtain⟨he,p',m',x1,x2,x3,x4,x5,x6,x7,x8⟩:=hst;have em:m'=Q3f m L s:=by
  rcases x8 with⟨h1,_⟩|⟨h1,_⟩|⟨_,h1⟩
  .omega
  .rw[h.rdw.live] at h1;cases h1
  exact h1
 subst em;have b:Qe4 (Q3f m L s) (L.entries.length / 4 :: U) ((k+1+1)*2097152):=by
  rcases x4 with e1|⟨_,e1⟩
  .have:=h.rdw.foreign
   have e2:m.foreign=true:=e1;rw[this] at e2;cases e2
  exact e1.bound (by omega)
 exact⟨he,p',_,_,P,x1,rfl,h.turn x2 x3 (by rw[zx];omega) b x5 x6 (Qzu h.rdw a) (by
  show (m.es ++ [s]).length<=k+1
  rw[zn]
  simp
  omega)⟩
theorem WSt.publish(h:WSt w0 w k key p m L P)(j:k<=4096)(i:Z5 w0)(d:Yp w0 F)(f:Qio w0)(b:key.size<=1048600):Calls prog 22 #[.pointer (some ⟨p.gw,0,none⟩)] w (WPub w0 (k+1) key p.gw m.es):=by
 obtain⟨U,hU,hG⟩:=h.good;have g:=h.few;have a:m.es.length<=1048576:=by omega
 refine (Qkb F w p m L U ((k+1)*2097152) h.wd hG h.rdw.log h.rdw.foreign h.rdw.live (h.env i d f) (by omega) (by omega) (by rw[h.mkey];exact b)).m λe w' hst=>?_
 obtain⟨he,p',m',x1,x2,x3,x4,x5,x6,x7,x8⟩:=hst;have em:m'=pubW m L:=x8 (Qoy h.rdw.toRdW0 a) (Q0w h.rdw.toRdW0 a).1;subst em;have c:Qe4 (pubW m L) U ((k+1+1)*2097152):=by
  rcases x4 with e1|⟨_,e1⟩
  .cases e1
  exact e1.bound (by omega)
 exact⟨he,p',pubW m L,_,x1,rfl,h.turn x2 x3 (by omega) c x5 x6 (Q6t h.rdw.toRdW0 a) (by
  show m.es.length<=k+1
  omega)⟩
end
def Q4x(w:G)(key:O)(l:List O)(e:Ua)(w':G):Prop:=
 ∃ p m L,e=.returned (.pointer (some ⟨p.gw,0,none⟩))/\m.es=l/\WSt w w' (2*l.length+2) key p m L l.length
theorem Q8y{w0 w:G}{key:O}{p:Pl}{e:Ua}(h:Za1 w0 [] key p w)(d:Qe8 (Zbd ⟨key,dk0 (firsts []),none,[],0,false,false⟩) w p ⟨key,dk0 (firsts []),none,[],0,false,false⟩ [] (0+1048576) e w'):e=.returned (.bool true)/\∃ p' m' L,p'.gw=p.gw/\m'.es = []/\WSt w0 w' 0 key p' m' L 0:=by
 obtain⟨he,p',m',x1,x2,x3,x4,x5,x6,x7,x8⟩:=d;obtain⟨L,b,a,c⟩:=Qzk x8 rfl rfl rfl;have hG:Qe4 m' [] (0+1048576):=by
  rcases x4 with e1|⟨_,e1⟩
  .rw[b.foreign] at e1;cases e1
  exact e1
 refine⟨he,p',m',L,x1,a,x3,c,b,⟨[],zg _,hG.bound (by omega)⟩,by rw[a];exact zg _,h.2.1.t (x5.j h.2.1.size λi hi hj=>by have:=h.2.2 i hj;omega),λi hi=>?_⟩;rcases x6 i hi with e1|e1
 .exact h.2.2 i e1
 have:=h.2.1.size;omega
structure LiSt(w0 w:G)(k gd ga gc gk mc gn:Nat)(vl vt:J)(n:Nt)(c:Cl)(qs:List CEnt):Prop where
 net:Yr w gn gd vl vt n
 pc:PcAt w ga gc
 cl:ClIs w gc gk mc (.iface 48 (.pointer (some ⟨gn,0,none⟩))) c qs
 j:Bz w0 w
 new:∀ i,cnS gc gk mc gn vt qs i->w0.heap.size<=i
 fetches:n.fetches<=k*900000
structure Qtu(n:Nt):Prop where
 steady:Qg7 n
 files:∀ f∈n.files,f.2.size<=1048576
 lies:∀ l∈n.lies,l.data.size<=1048576
variable {n:Nt}
theorem Qtu.small(h:Qtu n):Qa8 n:=⟨λf hf=>by have:=h.files f hf;omega,λl hl=>by have:=h.lies l hl;omega⟩
theorem Qtu.fetch(h:Qtu n){p:O}{d:Ud}(a:Yx n p=some d):d.length<=1048576:=by
 unfold Yx at a
 split at a
 .obtain⟨l,hl,h2⟩:=xR.1 a
  split at h2
  .cases h2
  rw[<-zR h2]
  have:=h.lies l (zr hl)
  simpa using this
 obtain⟨b,hb,rfl⟩:=zP.1 a
 have:=h.files _ (Jw hb)
 simpa using this
section
variable {F:Nat->Addr} {w0 w:G} {k gd ga gc gk mc gn:Nat} {vl vt v:J} {n:Nt} {c:Cl} {qs:List CEnt} {d:Dk}
theorem LiSt.lt(h:LiSt w0 w k gd ga gc gk mc gn vl vt n c qs):∀ i,cnS gc gk mc gn vt qs i->i<w.heap.size:=λi hi=>by
 rcases hi with hk|hk|hk
 .exact h.cl.ltS hk
 .exact hk ▸ h.net.lt
 obtain⟨C,hC⟩:=Qk h.net.told hk
 exact Qb hC
theorem LiSt.kinds(h:LiSt w0 w k gd ga gc gk mc gn vl vt n c qs):Qas w (cnS gc gk mc gn vt qs) (([205] ++ [253,251]) ++ [126,3]):=((Q1 h.cl.cells).or (Qar h.cl.cache)).or (Qbw h.net)
theorem LiSt.env(h:LiSt w0 w k gd ga gc gk mc gn vl vt n c qs)(d:Z5 w0)(a:Yp w0 F)(b:Qio w0):Qbj F (cnS gc gk mc gn vt qs) w:=Qjo h.j d a b h.new
variable {w':G}
theorem LiSt.grow(h:LiSt w0 w k gd ga gc gk mc gn vl vt n c qs)(a:Bz w w'):LiSt w0 w' k gd ga gc gk mc gn vl vt n c qs:=
 { h with net:=h.net.j a,pc:=(a.block _ (Qb h.pc)).t h.pc,cl:=h.cl.j a,j:=h.j.t (a.m h.j.size) }
theorem LiSt.told(h:LiSt w0 w k gd ga gc gk mc gn vl vt n c qs){b:Nat}{x:Int}{s:O}(d:Zq w b x s)(f:w0.heap.size<=b)(a:Fr (·=b) w w'):LiSt w0 w' k gd ga gc gk mc gn vl vt n c qs:=by have hk:=Q1 d;exact { h with net:=Jc h.net a hk (by decide) (by decide) (by decide),pc:=Ze h.pc a hk (by decide),cl:=h.cl.kept a hk (λi hi=>⟨_,_,_,hi ▸ d⟩) (by decide) (by decide) (by decide) (by decide),j:=h.j.t (a.j h.j.size λi hi e=>by omega) }
theorem LiSt.next(h:LiSt w0 w k gd ga gc gk mc gn vl vt n c qs){f:Cl}{d:Nt}{a:List CEnt}(b:Fr (cnS gc gk mc gn vt qs) w w')(l:Sub w (cnS gc gk mc gn vt qs) (cnS gc gk mc gn vt a))(g:ClIs w' gc gk mc (.iface 48 (.pointer (some ⟨gn,0,none⟩))) f a)(j:Yr w' gn gd vl vt d)(m:d.fetches<=n.fetches+900000):LiSt w0 w' (k+1) gd ga gc gk mc gn vl vt d f a/\∀ tb x u,Zq w tb x u->Zq w' tb x u:=by
 have hz:=h.j.size;refine⟨⟨j,Ze h.pc b h.kinds (by decide),g,h.j.t (b.j hz λi hi e=>by have:=h.new i e;omega),λi hi=>?_,?_⟩,λtb x u ht=>ht.kept b h.kinds (by decide)⟩
 .rcases l i hi with e|e
  .exact h.new i e
  omega
 have:=h.fetches
 omega
theorem LiSt.lied(h:LiSt w0 w k gd ga gc gk mc gn vl vt n c qs){d a:J}{l:List Lie1}{ts:List Nat}(f:Yr w' gn gd d a { n with lies:=l,told:=ts })(b:Fr (netS gn vt) w w')(g:Sub w (netS gn vt) (netS gn a)):LiSt w0 w' k gd ga gc gk mc gn d a { n with lies:=l,told:=ts } c qs/\∀ tb x u,Zq w tb x u->Zq w' tb x u:=by
 have hk:=Qbw h.net;have hz:=h.j.size;refine⟨{ h with net:=f,pc:=Ze h.pc b hk (by decide),cl:=h.cl.kept b hk (λi hi=>?_) (by decide) (by decide) (by decide) (by decide),j:=h.j.t (b.j hz λi hi e=>by have:=h.new i (.inr e);omega),new:=λi hi=>?_ },λtb x u ht=>ht.kept b hk (by decide)⟩
 .rcases hi with e|e
  .exact⟨_,_,_,e ▸ h.net.cells⟩
  obtain⟨C,hC⟩:=Qk h.net.told e;exact⟨C,_,_,hC⟩
 rcases hi with e|e
 .exact h.new i (.inl e)
 rcases g i e with e1|e1
 .exact h.new i (.inr e1)
 omega
def Q90(w0 w:G)(k gd ga gc gk mc gn:Nat)(vl vt:J)(r:Tld×List Hsh×Cl×Nt)(e:Ua)(w':G):Prop:=
 ∃ (v':J) (qs':List CEnt),e=.returned (.tuple #[v',Jh r.1.1 r.1.2])/\Qq w' w.heap.size v' (r.2.1.map HS)/\LiSt w0 w' k gd ga gc gk mc gn vl vt r.2.2.2 r.2.2.1 qs'/\∀ tb x u,Zq w tb x u->Zq w' tb x u
def LiRd(w0 w:G)(k gd ga gc gk mc gn:Nat)(vl vt:J)(r:Tld×(Ud×List Hsh)×Cl×Nt)(e:Ua)(w':G):Prop:=
 ∃ (nn:Bool) (v':J) (qs':List CEnt),e=.returned (.tuple #[.string (sOf r.2.1.1),.bool nn,v',Jh r.1.1 r.1.2])/\(r.1=Qbs∨nn=true)/\Qq w' w.heap.size v' (r.2.1.2.map HS)/\LiSt w0 w' k gd ga gc gk mc gn vl vt r.2.2.2 r.2.2.1 qs'/\∀ tb x u,Zq w tb x u->Zq w' tb x u
theorem LiSt.trusted(h:LiSt w0 w k gd ga gc gk mc gn vl vt n c qs):Calls prog 31 #[.pointer (some ⟨ga,0,none⟩)] w λe w'=>e=.returned (.tuple #[.int .i64 c.size,.string (HS c.root)])/\LiSt w0 w' k gd ga gc gk mc gn vl vt n c qs/\(∀ tb x u,Zq w tb x u->Zq w' tb x u)/\Fr (·=gc) w w':=by
 refine (Qnj w ga gc gk mc _ c qs h.pc h.cl).m λe w' hq=>?_
 obtain⟨he,a,hf⟩:=hq;have hk:=Q1 h.cl.cells;exact⟨he,{ h with net:=Jc h.net hf hk (by decide) (by decide) (by decide),pc:=Ze h.pc hf hk (by decide),cl:=a,j:=h.j.t (hf.j h.j.size λi hi e=>by have:=h.new i (.inl (.inl e));omega) },λtb x u ht=>ht.kept hf hk (by decide),hf⟩
theorem Qzv{w1 a w3:G}{key:O}{d:Int}{g:List Fil}(b:Bz w0 w1)(k:Yr a gn gd (.slice none 0 0) (.slice none 0 0) ⟨g,[],[],0⟩)(c:Bz w1 a)(o:w1.heap.size<=gn)(j:PcAt w3 ga gc)(h:ClIs w3 gc gk mc (.iface 48 (.pointer (some ⟨gn,0,none⟩))) ⟨key,0,hash [],⟨d.toNat,[]⟩⟩ [])(f:Bz a w3)(l:a.heap.size<=gc)(m:a.heap.size<=gk)(n:a.heap.size<=mc):LiSt w0 w3 0 gd ga gc gk mc gn (.slice none 0 0) (.slice none 0 0) ⟨g,[],[],0⟩ ⟨key,0,hash [],⟨d.toNat,[]⟩⟩ [] where
 net:=k.j f
 pc:=j
 cl:=h
 j:=(b.t (c.m b.size)).t (f.m (zi b.size c.size))
 new i hi:=by
  have z1:=b.size
  have z2:=c.size
  rcases hi with (e|e|e|e)|e|e
  .omega
  .omega
  .omega
  .simp at e
  .omega
  cases e
 fetches:=zg _
end
theorem Qnk{n:Nt}{c:Cl}{es:Uc}{key:O}(b:Yx n (sOf kCp)=some (cpOf es key).data.toList)(a:c.size=0)(d:c.key=key)(f:1<=es.length)(g:es.length<=1048576):Z1 c n=(Qbs,[],{ c with size:=es.length,root:=rootOf es },Zt n (sOf kCp)):=by
 have e:(cpOf es key).data.toList=Jt es.length (rootOf es) key.data.toList:=rfl;unfold Z1;rw[b];dsimp only;rw[e,d,Qci _ _ _ (by omega),zO,zw (by simp),zw (by omega),zw (by omega),zD a]
theorem Q4c{a:List Fil}{ts:List Nat}{k:Nat}{d:O}:Yx ⟨a,[⟨sOf kCp,d,false,0⟩],ts,k⟩ (sOf kCp)=some d.data.toList:=by
 unfold Yx
 have:Qdu ⟨a,[⟨sOf kCp,d,false,0⟩],ts,k⟩ (sOf kCp)=some 0:=by unfold Qdu;rw[show ([⟨sOf kCp,d,false,0⟩]:List Lie1).length=0+1 from rfl,Qcb,zD];simp[Qem]
 rw[this];rfl
section
variable {w0 w w':G} {nb qb N:Nat} {v0 v1 v2 vm vm':J} {n:Nt} {ms ms':List O}
end
theorem Q2v(l:Ud)(h:8<=l.length):(Zi l).toArray.toList=l.take 8:=by
 rcases l with _|⟨x0,_|⟨x1,_|⟨x2,_|⟨x3,_|⟨x4,_|⟨x5,_|⟨x6,_|⟨x7,r⟩⟩⟩⟩⟩⟩⟩⟩
 all_goals first|rfl|(simp at h)
theorem Zdg{s:O}{q:Nat}(h:8*q+8<=s.size):s.extract (8*q) (8*q+8)=HS (Zi (s.data.toList.drop (8*q))):=by
 apply vF;apply zb8;show _=(Zi (s.data.toList.drop (8*q))).toArray.toList;have hl:s.data.toList.length=s.size:=by simp
 rw[Q2v _ (by rw[zM,hl];omega)];have e:(s.extract (8*q) (8*q+8)).data.toList=(s.data.toList.drop (8*q)).take (8*q+8-8*q):=by simp[xv]
 rw[e,show 8*q+8-8*q=8 by omega]
structure Qek(w:G)(p:Pl)(m:Wm)(es:List O)(key:O):Prop where
 wd:Qa6 w p m
 ents:m.es=es
 mkey:m.key=key
 cp:getF m.d.files (sOf kCp)=some (cpOf (lists es) key)
 once:Once m.d.files
 small:∀ f∈m.d.files,f.2.size<=1048576
 few:m.d.files.length<=1000000000
 rdw:∃ L,RdW m L es.length
variable {es:List O}
theorem Qek.j(h:Qek w p m es key)(a:Bz w w'):Qek w' p m es key:={ h with wd:=h.wd.j a }
variable {k:Nat}
theorem Qq6{L:Lg}(h:WSt w w' k key p m L es.length)(a:m.es=es)(b:1<=es.length)(c:k<=400):Qek w' p m es key:=by
 obtain⟨U,hU,hG⟩:=h.good;refine⟨h.wd,a,h.mkey,?_,h.rdw.sound.fresh.once,hG.sane.size,by have:=hG.sane.len;omega,L,h.rdw⟩;rcases h.rdw.cp with⟨h0,_⟩|h2
 .omega
 rw[h2,zk (by rw[Qx,a];exact zg _),a,h.mkey]
theorem Q58{a:List Fil}{d:O}{ts:List Nat}(c:∀ f∈a,f.2.size<=1048576)(b:d.size<=1048576):Qtu ⟨a,[⟨sOf kCp,d,false,0⟩],ts,k⟩:=
 ⟨λl hl=>by rw[zS.1 hl];exact Int.le_refl 0,c,λl hl=>by rw[zS.1 hl];exact b⟩
def Zc9(es:Uc)(l:List Fil):Prop:=∀ (m j:Nat) (r:Uc),(Zc es)[m]?=some r->4*j<r.length->getF l (Qt ((m:Int)-1) j (Zr j r.length))=some (sOf (cutR r j (Zr j r.length)))
structure NetT(w:G)(nb:Nat)(v0 v2:J)(l:List Fil)(es:Uc):Prop where
 net:w.heap[nb]?=some (.cells #[v0,.slice none 0 0,v2] 150 (0,0))
 files:Y6 w v0 l
 few:l.length<=1099511627776
 small:∀ f∈l,f.2.size<=1048576
 has:Zc9 es l
 len:es.length<=100
structure NlW(w:G)(qb nb:Nat)(v0 v2:J)(l:List Fil)(es:Uc):Prop extends NetT w nb v0 v2 l es where
 cells:w.heap[qb]?=some (.cells #[.pointer (some ⟨nb,0,none⟩),.int .i64 es.length,.slice none 0 0] 78 (0,0))
def NlH(h:Hsh)(w:G)(e:Ua)(w':G):Prop:=e=.returned (.string (HS h))/\Bz w w'
section
variable {w w':G} {qb nb:Nat} {v0 v2:J} {l:List Fil} {es:Uc}
theorem NetT.j(h:NetT w nb v0 v2 l es)(a:Bz w w'):NetT w' nb v0 v2 l es:=
 { h with net:=(a.block _ (Qb h.net)).t h.net,files:=h.files.j a }
theorem NlW.j(h:NlW w qb nb v0 v2 l es)(a:Bz w w'):NlW w' qb nb v0 v2 l es:=
 ⟨h.toNetT.j a,(a.block _ (Qb h.cells)).t h.cells⟩
theorem Qpl(h:NetT w nb v0 v2 l es){p d:O}(g:getF l p=some d):Calls prog 94 #[.pointer (some ⟨nb,0,none⟩),.string p] w λe w'=>e=.returned (.tuple #[.string d,.bool true])/\w=w':=by
 have c0:w.cell? ⟨nb,0,none⟩=some v0:=Qd h.net 0 rfl;have c1:w.cell? ⟨nb,1,none⟩=some (.slice none 0 0):=Qd h.net 1 rfl;have r:nb<w.heap.size:=Qb h.net;obtain⟨k,i⟩:=zh2 (Ym w (.slice none 0 0) [] p ⟨none,0,rfl,zg _,λj x hx=>by simp at hx⟩ (by decide)) (Ym w v0 l p h.files h.few);rcases J5 l p with⟨_,g2⟩|⟨j,b,hj,g1,g2,g3⟩
 .rw[g] at g2;cases g2
 obtain rfl:d=b:=by rw[g] at g3;exact zR g3
 obtain⟨a,c,ev,hc,f⟩:=h.files;obtain⟨bb,off,rfl,_,d2⟩:=f j _ g2;subst ev;have m:bb<w.heap.size:=Qj d2;have n:(0:Int)<=(j:Int):=by omega
 have q:(j:Int)<(l.length:Int):=by omega
 dsimp only at d2;have HG:=zh g1;clear h g1 g2 g3 g f hj
 go_enter func94,ntmps94
 go_wp2_with (first|(go_at_call 27;first|(with_reducible refine k.o.m ?_;rintro e w3⟨rfl,rfl⟩;rw[show J1 [] p = -1 from rfl])|(with_reducible refine i.o.m ?_;rintro e w3⟨rfl,rfl⟩;rw[HG.o]))|fail)
 go_ret2;exact⟨rfl,rfl⟩
theorem Q3j(h:NlW w qb nb v0 v2 l es)(k j c:Nat){s:O}(v:4*j<c)(u:c<=100)(x:k<=100)(m:getF l (Qt (k:Int) j (Zr j c))=some s)(q:s.size=8*Zr j c):Calls prog 195 #[.pointer (some ⟨qb,0,none⟩),.int .i64 k,.int .i64 j,.int .i64 c] w λe w'=>e=.returned (.tuple #[.string s,.bool true])/\Bz w w':=by
 obtain⟨wz,d⟩:=zzx (Zr j c)
 have c0:w.cell? ⟨qb,0,none⟩=some (.pointer (some ⟨nb,0,none⟩)):=Qd h.cells 0 rfl;have n:qb<w.heap.size:=Qb h.cells;rw[<-d] at m q;obtain⟨g,HF⟩:=zh2 (λw=>Qdy (k:Int) (j:Int) (wz:Int) w (by omega)) (λw' (hb:Bz w w')=>Qpl (h.toNetT.j hb) m);obtain⟨t1,b⟩:=zzx (Qt (k:Int) j wz)
 rw[show sOf (Yb (k:Int) (j:Int) (wz:Int))=t1 from b.symm] at g;rw[<-b] at HF;have i:wz=min 4 (c-4*j):=d;have hd:((s.size:Int) == 8*(wz:Int))=true:=by simp;omega
 have HW:=zh i;clear h m b d q i
 go_enter func195,ntmps195
 go_upto_if 20 with fail
 go_cut [10] from 19 to 20 (λs10 wx=>w=wx/\s10=.int .i64 (wz:Int))
 case first=>
  by_cases h4:(4:Int)<(c:Int)-(j:Int)*4
  .have HE:=zh (show (4:Int)=(wz:Int) by have:=HW.o;omega)
   go_wp2
   go_meet;exact⟨rfl,by rw[HE.o]⟩
  have HE:=zh (show (c:Int)-(j:Int)*4=(wz:Int) by have:=HW.o;omega)
  go_wp2
  go_meet;exact⟨rfl,by rw[HE.o]⟩
 case rest=>
  obtain⟨rfl,rfl⟩:=hcut;have r:(wz:Int)<=4:=by have:=HW.o;omega
  go_wp2_with (first|go_at_call 53;refine (g.o _).m ?_;rintro e w2⟨rfl,a⟩;have f:=zh a;have d0:=(a.cell (p:=⟨qb,0,none⟩) n).t c0;clear a|go_at_call 94;refine (HF.o _ f.o).m ?_;rintro e w3⟨rfl,rfl⟩|fail)
  go_ret2;exact⟨rfl,f.o⟩
variable {j:Nat}
theorem Q08(h:Zc9 es l){k:Nat}(b:(j+1)*4 ^ k<=es.length):∃ s:O,getF l (Qt (k:Int) (j / 4) (Zr (j / 4) (es.length / 4 ^ k)))=some s/\s.size=8*Zr (j / 4) (es.length / 4 ^ k)/\s.extract (8*(j%4)) (8*(j%4)+8)=HS (Zw es (2*k) j):=by
 have hp:0<4 ^ k:=VG (by decide);have c:j<es.length / 4 ^ k:=(vG hp).2 b;have hk:k<nLev es.length:=by rw[Qaq];exact zi (VX _ (by omega)) b
 have a:((Z4 es k).map λ(x:Hsh)=>x.toList).length=es.length / 4 ^ k:=by rw[zA,Jr]
 have h8:∀ x∈(Z4 es k).map (λ(x:Hsh)=>x.toList),x.length=8:=λx hx=>by obtain⟨y,_,rfl⟩:=zU.1 hx;simp
 have hg:=h (k+1) (j / 4) _ (Qdd es k hk) (by rw[a];omega);rw[a,show (((k+1:Nat):Int)-1)=((k:Nat):Int) by omega] at hg;have hw:Zr (j / 4) (es.length / 4 ^ k)=min 4 (es.length / 4 ^ k-4*(j / 4)):=rfl;have hl:=Qi2 (j:=j / 4) (w:=Zr (j / 4) (es.length / 4 ^ k)) (by rw[a,hw];omega) h8;refine⟨_,hg,by rw[Y1,hl],?_⟩;rw[Zdg (by rw[Y1,hl,hw];omega),Q92];have e:=Qrc (r:=Z4 es k) (j:=j / 4) (q:=j%4) (w:=Zr (j / 4) (es.length / 4 ^ k)) (by rw[hw];omega) (by rw[Jr,hw];omega);unfold Qsb at e;rw[e,Qch _ _ _ (by omega)]
 congr 2
 omega
theorem Qq0(h:NlW w qb nb v0 v2 l es)(o k j:Nat)(ho:o<=1)(D:(j+1)*((o+1)*4 ^ k)<=es.length)(Z:1<=o->∀ (j:Nat) (w:G),NlW w qb nb v0 v2 l es->(j+1)*((0+1)*4 ^ k)<=es.length->
   Calls prog 153 #[.pointer (some ⟨qb,0,none⟩),.int .i64 (((0+1)*4 ^ k:Nat):Int),.int .i64 j] w (NlH (Zw es (2*k) j) w)):Calls prog 153 #[.pointer (some ⟨qb,0,none⟩),.int .i64 (((o+1)*4 ^ k:Nat):Int),.int .i64 j] w (NlH (Zw es (2*k+o) j) w):=by
 have E:=h.len;have hp:0<4 ^ k:=VG (by decide);have U:k<4 ^ k:=Nat.lt_pow_self (by decide);have c1:w.cell? ⟨qb,1,none⟩=some (.int .i64 es.length):=Qd h.cells 1 rfl;have ao:qb<w.heap.size:=Qb h.cells;have S:(j+1)*1<=(j+1)*((o+1)*4 ^ k):=Vu _ (Nat.mul_pos (by omega) hp);have W:1*((o+1)*4 ^ k)<=(j+1)*((o+1)*4 ^ k):=ZA _ (by omega);obtain⟨u,hu⟩:=zzx (4 ^ k)
 obtain⟨uu,f⟩:=zzx ((o+1)*4 ^ k)
 have X:u<=uu/\uu<=2*u/\0<u/\uu<=100/\k<=100:=by rcases (by omega:o=0∨o=1) with rfl|rfl <;> omega
 have ac:j<100:=by omega
 obtain⟨N,hN⟩:=zzx es.length
 rw[<-hN] at c1;rw[<-f];rw[<-f] at D;obtain⟨HU,g⟩:=zh2 hu f;obtain⟨ae,af,ag,ah,ai⟩:=X;obtain⟨HJ,H,IH,HN⟩:=zh4 D h Z hN;clear h D Z E hp U S W hu f hN
 go_enter func153,ntmps153
 go_wp2_with fail
 go_loopg [7,8] k (λgg s7 s8 wr=>∃ i x:Nat,i<=k/\k-i<=gg/\s7=.int .i64 i/\s8=.int .i64 x/\x=4 ^ i/\w=wr)
 case atStart=>exact⟨0,1,zE _,by omega,rfl,rfl,rfl,rfl⟩
 case round=>
  obtain⟨i,x,hi,hg,rfl,rfl,hx,rfl⟩:=hrel;by_cases hlt:i<k
  .have h4:4*x<=u:=by rw[hx,HU.o,vE,<-ZD];exact ZI (by decide) hlt
   have V:(x:Int)<=(uu:Int) / 4:=by omega
   have ar:(x:Int)*4<=(u:Int):=by omega
   have HX:=zh (show x*4=4 ^ (i+1) by rw[hx,ZD]);clear hx
   go_wp2
   go_roundg (k-(i+1))
   case measure=>omega
   case rel=>exact⟨i+1,x*4,by omega,by omega,by go_num,by go_num,HX.o,rfl⟩
  obtain rfl:i=k:=by omega
  obtain rfl:x=u:=by rw[hx,HU.o]
  have V:¬ (x:Int)<=(uu:Int) / 4:=by omega
  clear hx hlt;rcases (by omega:o=0∨o=1) with rfl|rfl
  .obtain rfl:x=uu:=by rw[g.o,HU.o];omega
   have R:¬ (x:Int)<(x:Int):=by omega
   have a:=HJ.o;rw[HU.o] at a;obtain⟨s,v,hz,hcut⟩:=Q08 H.o.has a;rw[<-HU.o,<-HN.o] at v hz;have hw:Zr (j / 4) (N / x)=min 4 (N / x-4*(j / 4)):=rfl;have T:j<N / x:=(vG (by omega)).2 (by rw[HN.o];exact HJ.o);have Q:N / x<=N:=xm _ _;have hl:=H.o.len;rw[<-HN.o] at hl;have t:=Q3j H.o i (j / 4) (N / x) (by omega) (by omega) (by omega) v hz;obtain⟨q,hq⟩:=zzx (j / 4)
   obtain⟨m,hm⟩:=zzx (j%4)
   obtain⟨c,hc⟩:=zzx (N / x)
   have ak:(N:Int) / (x:Int)=(c:Int):=by rw[hc];exact (Int.natCast_ediv N x).symm
   have am:(j:Int) / 4=(q:Int):=by omega
   have al:(j:Int)%4=(m:Int):=by omega
   have ap:8*(m:Int)+8<=(s.size:Int):=by rw[hz,hw];omega
   have an:m<4:=by omega
   have aq:(0:Int)<(x:Int):=by omega
   have ad:(x:Int)<=100:=by omega
   have aa:(N:Int)<=100:=by omega
   have ab:(c:Int)<=100:=by omega
   rw[<-hq,<-hc] at t;rw[<-hm] at hcut;obtain⟨HC,L⟩:=zh2 t hcut;clear a v hz hcut hw T Q hl t hq hm hc
   go_wp2_with (first|go_at_call 195;refine HC.o.m ?_;rintro e w2⟨rfl,d⟩;have b:=zh d;clear d|fail)
   go_ret;exact⟨zB (λs=>Ending.returned (.string s)) L.o,b.o⟩
  have R:(x:Int)<(uu:Int):=by have:=g.o;have:=HU.o;omega
  have a:=HJ.o;have e2:uu=2*x:=by rw[g.o,HU.o]
  have y:(2*j+1+1)*x<=es.length:=zi (VN (by rw[e2,<-Vk];congr 1;omega)) a;have C:(2*j+1)*x<=es.length:=zi (ZA _ (by omega)) y;have p:=IH.o (by omega) (2*j) w H.o (by rw[V4,vP,<-HU.o];exact C);have r:=λ(w2:G) (hb:Bz w w2)=>IH.o (by omega) (2*j+1) w2 (H.o.j hb) (by rw[V4,vP,<-HU.o];exact y)
  rw[V4,vP,<-HU.o] at p r;obtain⟨I,K⟩:=zh2 p r;have aj:(uu:Int) / 2=(x:Int):=by omega
  have M:=zh (show (2:Int)*(j:Int)=((2*j:Nat):Int) by omega);have P:=zh (show (2:Int)*(j:Int)+1=((2*j+1:Nat):Int) by omega);clear a e2 y C p r
  go_wp2_with (first
   | (go_at_call 153;first
     | (rw[P.o];refine (K.o w2 b.o).m ?_;rintro e w3⟨rfl,A⟩;have z:=zh (b.o.t (A.m b.o.size));clear A)
     | (rw[M.o];refine I.o.m ?_;rintro e w2⟨rfl,d⟩;have b:=zh d;clear d))
   | (go_at_call 90;refine (Qd2 _ _ _ (by rw[Jj];decide) (by rw[Jj];decide)).m ?_;rintro e w4⟨rfl,B⟩;have F:=zh (z.o.t (B.m z.o.size));clear B)
   | fail)
  go_ret;exact⟨rfl,F.o⟩
theorem Q2g(h:NlW w qb nb v0 v2 l es){e:Nat}(a:(j+1)*2 ^ e<=es.length):Calls prog 153 #[.pointer (some ⟨qb,0,none⟩),.int .i64 ((2 ^ e:Nat):Int),.int .i64 j] w (NlH (rootOf (part es (j*2 ^ e) (j*2 ^ e+2 ^ e))) w):=by
 have c:1*2 ^ e<=(j+1)*2 ^ e:=ZA _ (by omega);have hl:=h.len;have d:2 ^ e<=100:=zi (VN (vP _).symm) (zi c (zi a hl));have b:e<=62:=by
  rcases zK 62 e with h|h
  .have:=ZI (n:=2) (by decide) h
   omega
  exact h
 have hv:Zw es e j=rootOf (part es (j*2 ^ e) (j*2 ^ e+2 ^ e)):=by rw[Qc6 _ _ _ b a];unfold part;rw[xS]
 rw[<-hv];have E:=λ(k j:Nat) (w:G) (h:NlW w qb nb v0 v2 l es) (a:(j+1)*((0+1)*4 ^ k)<=es.length)=>Qq0 h 0 k j (by omega) a (λh=>by omega)
 obtain⟨k,rfl|rfl⟩:∃ k,e=2*k∨e=2*k+1:=⟨e / 2,by omega⟩
 .rw[Qg4,<-vP (4 ^ k)] at a ⊢
  exact E k j w h a
 rw[ZD,Qg4,vE (4 ^ k) 2] at a ⊢;exact Qq0 h 1 k j (by omega) a λ_ j w h a=>E k j w h a
end
def NlP(hs:List Hsh)(w:G)(e:Ua)(w':G):Prop:=∃ v,e=.returned v/\Qq w' w.heap.size v (hs.map HS)/\Bz w w'
section
variable {qb nb:Nat} {v0 v2:J} {l:List Fil} {es:Uc}
theorem Qb8:∀ (f i m:Nat),m<=f->1<=m->i+m<=es.length->∀ (w:G),NlW w qb nb v0 v2 l es->
  Calls prog 95 #[.pointer (some ⟨qb,0,none⟩),.int .i64 i,.int .i64 m] w (NlH (rootOf (part es i (i+m))) w)
 | 0,i,m,h0,h1,_=>by omega
 | f+1,i,m,h0,h1,h2=>λw h=>by
  have V:=h.len
  obtain⟨r,hr⟩:=zzx (i%m)
  obtain⟨d,hd⟩:=zzx (i / m)
  have g:(i:Int)%(m:Int)=(r:Int):=by rw[hr];exact (Int.natCast_emod i m).symm
  have t:(i:Int) / (m:Int)=(d:Int):=by rw[hd];exact (Int.natCast_ediv i m).symm
  have q:d*m+r=i:=by rw[hd,hr,vE];exact xN i m
  obtain⟨o,ho⟩:=zzx (rootOf (part es i (i+m)))
  rw[<-ho]
  have HO:=zh ho
  have H:=zh h
  have M:=zh q
  have Q:=zh g
  have N:=zh t
  have P:=zh (show m=1->r=0 from λh=>by subst h;rw[hr];exact Vv i)
  have Z:(0:Int)<(m:Int):=by omega
  have T:d<=100:=by have:=xm i m;omega
  clear ho h q hr hd g t
  go_enter func95,ntmps95
  go_wp2_with fail
  go_loopg [7] m (λgg s7 wr=>∃ e x:Nat,x=2 ^ e/\x<=m/\1<=x/\m-x<=gg/\s7=.int .i64 x/\w=wr)
  case atStart=>exact⟨0,1,rfl,by omega,by omega,by omega,rfl,rfl⟩
  case round=>
   obtain⟨e,x,hx,ab,aa,hg,rfl,rfl⟩:=hrel
   by_cases hlt:x<=m-x
   .have R:(x:Int)<=(m:Int)-(x:Int):=by omega
    have HX:=zh (show 2*x=2 ^ (e+1) by rw[hx,ZD,vE])
    clear hx
    go_wp2
    go_roundg (m-2*x)
    case measure=>omega
    case rel=>exact⟨e+1,2*x,HX.o,by omega,by omega,by omega,by go_num,rfl⟩
   have R:¬ (x:Int)<=(m:Int)-(x:Int):=by omega
   have HX:=zh hx
   have g:=Q.o
   clear hx
   go_upto_region 4 with fail
   go_cut [26] from 18 to 26 (λs26 wx=>w=wx/\s26=.bool (decide (x=m) && decide (r=0)))
   case first=>
    have hd:((x:Int) == (m:Int))=decide (x=m):=by rw[Vf];simp;omega
    have W:((r:Int) == 0)=decide (r=0):=by rw[Vf];simp
    generalize decide (x=m)=b1 at *
    generalize decide (r=0)=b2 at *
    cases b1 <;> cases b2
    all_goals
     go_wp2
     go_meet
     exact⟨rfl,rfl⟩
   case rest=>
    obtain⟨rfl,rfl⟩:=hcut
    rw[<-Bool.decide_and]
    by_cases hco:x=m/\r=0
    .have s:=zh (zF hco)
     obtain⟨rfl,rfl⟩:=hco
     have q:=M.o
     have hp:=HX.o
     have hc:=Q2g (e:=e) (j:=d) H.o (by rw[<-hp,vC,vP];omega)
     rw[<-hp,show d*x=i by omega,<-HO.o] at hc
     have HC:=zh hc
     have t:=N.o
     clear hp hc g q
     rw[s.o]
     go_wp2_with (first|go_at_call 153;refine HC.o.m ?_;rintro e2 w2⟨rfl,c⟩;have b:=zh c;clear c|fail)
     go_ret
     exact⟨rfl,b.o⟩
    have s:=zh (zo hco)
    have S:2<=m:=by
     have:=P.o
     rcases zK m 2 with h9|h9
     .exact absurd ⟨by omega,this (by omega)⟩ hco
     exact h9
    have A:=Yh S
    have p:=J3 (m:Int) w (by omega) (by omega)
    rw[zO] at p
    have D:(part es i (i+m)).length=m:=by rw[Qdk (by omega)];omega
    have hv:=Qbi (l:=part es i (i+m)) (by omega)
    rw[D,Qd5 (by omega),Qdr,<-HO.o] at hv
    have n:=Qb8 f i (below m) (by omega) (by omega) (by omega) _ H.o
    have a:=λw2 (hb:Bz w w2)=>Qb8 f (i+below m) (m-below m) (by omega) (by omega) (by omega) _ (H.o.j hb)
    rw[show i+below m+(m-below m)=i+m by omega] at a
    obtain⟨k,hk⟩:=zzx (below m)
    rw[<-hk] at A p n a hv
    have E:(m:Int)-(k:Int)=((m-k:Nat):Int):=by omega
    have u:(i:Int)+(k:Int)=((i+k:Nat):Int):=by omega
    obtain⟨mk,C⟩:=zzx (m-k)
    obtain⟨ik,B⟩:=zzx (i+k)
    rw[<-C] at E a
    rw[<-B] at u n a hv
    have U:ik<=100:=by omega
    have X:k<=100:=by omega
    have L:=zh p
    have I:=zh n
    have K:=zh a
    have HV:=zh hv
    clear p n a hk hco g C B A hv D
    rw[s.o]
    go_wp2_with (first
     | (go_at_call 89;refine L.o.m ?_;rintro e2 w2⟨rfl,rfl⟩)
     | (go_at_call 95;first
       | (refine (K.o w2 b.o).m ?_;rintro e3 w3⟨rfl,y⟩;have v:=zh (b.o.t (y.m b.o.size));clear y)
       | (refine I.o.m ?_;rintro e2 w2⟨rfl,c⟩;have b:=zh c;clear c))
     | (go_at_call 90;refine (Qd2 _ _ _ (by rw[Jj];decide) (by rw[Jj];decide)).m ?_;rintro e4 w4⟨rfl,z⟩;have F:=zh (v.o.t (z.m v.o.size));clear z)
     | fail)
    go_ret
    exact⟨by rw[HV.o];rfl,F.o⟩
theorem Qj8:∀ (f i a n:Nat),n<=f->i<n->a+n<=es.length->∀ (w:G),NlW w qb nb v0 v2 l es->
  Calls prog 38 #[.pointer (some ⟨qb,0,none⟩),.int .i64 i,.int .i64 a,.int .i64 n] w (NlP (Y8 (part es a (a+n)) i) w)
 | 0,i,a,n,h0,h1,_=>by omega
 | f+1,i,a,n,h0,h1,h2=>λw h=>by
  have q:=h.len
  obtain⟨i0,I,M,N,S⟩:=ZZ Qb3
  have r:(part es a (a+n)).length=n:=by rw[Qdk (by omega)];omega
  obtain⟨P,hP⟩:=zzx (Y8 (part es a (a+n)) i)
  rw[<-hP]
  by_cases hn1:n=1
  .rw[Qlz (by omega)] at hP
   subst hP hn1
   clear h r q h2
   go_enter func38,ntmps38
   go_wp2
   go_ret
   exact⟨_,rfl,zv _ _ _ _,zu _ _⟩
  have ab:((n:Int) == 1)=false:=by simp;omega
  have u:=Yh (n:=n) (by omega)
  have d:=J3 (n:Int) w (by omega) (by omega)
  rw[zO] at d
  rw[Qgj (by omega),r,Qd5 (by omega),Qdr] at hP
  obtain⟨k,hk⟩:=zzx (below n)
  rw[<-hk] at u d hP
  have H:=zh h
  have C:=zh d
  obtain⟨nk,L⟩:=zzx (n-k)
  obtain⟨ak,b⟩:=zzx (a+k)
  have U:(n:Int)-(k:Int)=(nk:Int):=by omega
  have T:(a:Int)+(k:Int)=(ak:Int):=by omega
  have p:(ak:Int)<=100:=by omega
  have c:(n:Int)<=100:=by omega
  have W:(nk:Int)<=100:=by omega
  have X:(k:Int)<=100:=by omega
  have t:ak+nk=a+n:=by omega
  rw[<-b,<-t] at hP
  obtain⟨ik,y⟩:=zzx (i-k)
  rw[<-y] at hP
  have Z:(ik:Int)<=100:=by omega
  have aa:(i:Int)<=100:=by omega
  obtain⟨Q,R,V,s,g,m⟩:∃ Q R,Q.length<=100/\P=Q ++ [R]/\RowKit.Hid (Calls prog 38 #[.pointer (some ⟨qb,0,none⟩),.int .i64 (if i<k then i else ik:Nat),.int .i64 (if i<k then a else ak:Nat),.int .i64 (if i<k then k else nk:Nat)] w (NlP Q w))/\RowKit.Hid (∀ w2,Bz w w2->Calls prog 95 #[.pointer (some ⟨qb,0,none⟩),.int .i64 (if i<k then ak else a:Nat),.int .i64 (if i<k then nk else k:Nat)] w2 (NlH R w2)):=by
   by_cases hlt:i<k
   .simp only[zD hlt] at hP ⊢
    exact⟨_,_,zi (Qa0 _ _) (by rw[Qdk (by omega)];omega),hP,zh (by have:=Qj8 f i a k (by omega) hlt (by omega) _ h;rw[<-b] at this;exact this),zh λw2 hb=>Qb8 nk ak nk (zg _) (by omega) (by omega) _ (h.j hb)⟩
   simp only[zw hlt] at hP ⊢
   exact⟨_,_,zi (Qa0 _ _) (by rw[Qdk (by omega)];omega),hP,zh (Qj8 f ik ak nk (by omega) (by omega) (by omega) _ h),zh λw2 hb=>by have:=Qb8 k a k (zg _) (by omega) (by omega) _ (h.j hb);rw[<-b] at this;exact this⟩
  have HP:=zh s
  by_cases hlt:i<k
  simp only[zD hlt] at g m
  have K:(i:Int)<(k:Int):=by omega
  rotate_left
  simp only[zw hlt] at g m
  have K:¬ (i:Int)<(k:Int):=by omega
  have ac:(i:Int)-(k:Int)=(ik:Int):=by omega
  all_goals
   clear hP s h q d r hn1 hk u h0 h1 h2 L b t y hlt
   go_enter func38,ntmps38
   go_wp2_with (first|go_at_call 89;refine C.o.m ?_;rintro e2 w2⟨rfl,rfl⟩|go_at_call 38;refine g.o.m ?_;rintro e2 w2⟨vp,rfl,z,p⟩;obtain⟨E,e⟩:=zh2 z p;clear z p|go_at_call 95;refine (m.o w2 e.o).m ?_;rintro e3 w3⟨rfl,c⟩;obtain⟨HO,HB⟩:=zh2 (Qn E.o c) (e.o.t (c.m e.o.size));clear c|at_builtin;refine Yo rfl _ _ 22 rfl w.heap.size 9 i0 (.string ⟨#[]⟩) 16 underlying22 I M N S rfl (by decide) _ _ _ rfl HO.o _ rfl rfl (by rw[zA];omega) HB.o.size ?_;intro v2 w3 A v B;obtain⟨F,D⟩:=zh2 A v;clear A v B|fail)
   go_ret
   refine⟨_,rfl,?_,HB.o.grown D.o HB.o.size (λj hj=>(HO.o.lt j hj).1)⟩
   rw[HP.o,zL]
   unfold Qq
   simpa using F.o
theorem Qj5:∀ (f i a n:Nat) (b:Bool),n<=f->1<=i->i<=n->a+n<=es.length->∀ (w:G),NlW w qb nb v0 v2 l es->
  Calls prog 92 #[.pointer (some ⟨qb,0,none⟩),.int .i64 i,.int .i64 a,.int .i64 n,.bool b] w (NlP (Y5 i (part es a (a+n)) b) w)
 | 0,i,a,n,_,h0,h1,h2,_=>by omega
 | f+1,i,a,n,b,h0,h01,h1,h2=>λw h=>by
  have t:=h.len
  obtain⟨i0,L,S,T,U⟩:=ZZ Qb3
  have p:(part es a (a+n)).length=n:=by rw[Qdk (by omega)];omega
  obtain⟨P,hP⟩:=zzx (Y5 i (part es a (a+n)) b)
  rw[<-hP]
  by_cases hn1:i=n
  .have e:=Qi7 (part es a (a+n)) b (by omega)
   rw[p,<-hn1] at e
   rw[<-hn1,e] at hP
   have d:=zh (Qb8 n a n (zg _) (by omega) h2 _ h)
   subst hP hn1
   clear h p t h2 h0 h01 h1 e
   cases b
   .go_enter func92,ntmps92
    go_wp2_with (first|go_at_call 95;refine d.o.m ?_;rintro e3 w3⟨rfl,c⟩;have HB:=zh c;clear c|fail)
    go_ret
    exact⟨_,rfl,XL _ _ _ HB.o.size (by decide) rfl,HB.o.alloc HB.o.size _⟩
   go_enter func92,ntmps92
   go_wp2
   go_ret
   exact⟨_,rfl,zv _ _ _ _,zu _ _⟩
  have ad:((i:Int) == (n:Int))=false:=by simp;omega
  have y:=Yh (n:=n) (by omega)
  have m:=J3 (n:Int) w (by omega) (by omega)
  rw[zO] at m
  rw[Qgb h01 (by omega),p,Qd5 (by omega),Qdr] at hP
  obtain⟨k,hk⟩:=zzx (below n)
  rw[<-hk] at y m hP
  have H:=zh h
  have E:=zh m
  obtain⟨nk,N⟩:=zzx (n-k)
  obtain⟨ak,g⟩:=zzx (a+k)
  have W:(n:Int)-(k:Int)=(nk:Int):=by omega
  have V:(a:Int)+(k:Int)=(ak:Int):=by omega
  have s:(ak:Int)<=100:=by omega
  have c:(n:Int)<=100:=by omega
  have Z:(nk:Int)<=100:=by omega
  have aa:(k:Int)<=100:=by omega
  have v:ak+nk=a+n:=by omega
  rw[<-g,<-v] at hP
  obtain⟨ik,A⟩:=zzx (i-k)
  rw[<-A] at hP
  have ab:(ik:Int)<=100:=by omega
  have ac:(i:Int)<=100:=by omega
  obtain⟨Q,R,X,u,r,d⟩:∃ Q R,Q.length<=100/\P=Q ++ [R]/\RowKit.Hid (Calls prog 92 #[.pointer (some ⟨qb,0,none⟩),.int .i64 (if i<=k then i else ik:Nat),.int .i64 (if i<=k then a else ak:Nat),.int .i64 (if i<=k then k else nk:Nat),.bool (if i<=k then b else false)] w (NlP Q w))/\RowKit.Hid (∀ w2,Bz w w2->Calls prog 95 #[.pointer (some ⟨qb,0,none⟩),.int .i64 (if i<=k then ak else a:Nat),.int .i64 (if i<=k then nk else k:Nat)] w2 (NlH R w2)):=by
   by_cases hlt:i<=k
   .simp only[zD hlt] at hP ⊢
    exact⟨_,_,zi (Qak _ _ _) (by rw[Qdk (by omega)];omega),hP,zh (by have:=Qj5 f i a k b (by omega) h01 hlt (by omega) _ h;rw[<-g] at this;exact this),zh λw2 hb=>Qb8 nk ak nk (zg _) (by omega) (by omega) _ (h.j hb)⟩
   simp only[zw hlt] at hP ⊢
   exact⟨_,_,zi (Qak _ _ _) (by rw[Qdk (by omega)];omega),hP,zh (Qj5 f ik ak nk false (by omega) (by omega) (by omega) (by omega) _ h),zh λw2 hb=>by have:=Qb8 k a k (zg _) (by omega) (by omega) _ (h.j hb);rw[<-g] at this;exact this⟩
  have HP:=zh u
  by_cases hlt:i<=k
  simp only[zD hlt] at r d
  have M:(i:Int)<=(k:Int):=by omega
  rotate_left
  simp only[zw hlt] at r d
  have M:¬ (i:Int)<=(k:Int):=by omega
  have ae:(i:Int)-(k:Int)=(ik:Int):=by omega
  all_goals
   clear hP u h h01 t m p hn1 hk y h0 h1 h2 N g v A hlt
   go_enter func92,ntmps92
   go_wp2_with (first|go_at_call 89;refine E.o.m ?_;rintro e2 w2⟨rfl,rfl⟩|go_at_call 92;refine r.o.m ?_;rintro e2 w2⟨vp,rfl,B,s⟩;obtain⟨I,q⟩:=zh2 B s;clear B s|go_at_call 95;refine (d.o w2 q.o).m ?_;rintro e3 w3⟨rfl,c⟩;obtain⟨HO,HB⟩:=zh2 (Qn I.o c) (q.o.t (c.m q.o.size));clear c|at_builtin;refine Yo rfl _ _ 22 rfl w.heap.size 9 i0 (.string ⟨#[]⟩) 16 underlying22 L S T U rfl (by decide) _ _ _ rfl HO.o _ rfl rfl (by rw[zA];omega) HB.o.size ?_;intro v2 w3 C z D;obtain⟨K,F⟩:=zh2 C z;clear C z D|fail)
   go_ret
   refine⟨_,rfl,?_,HB.o.grown F.o HB.o.size (λj hj=>(HO.o.lt j hj).1)⟩
   rw[HP.o,zL]
   unfold Qq
   simpa using K.o
end
def NlU(N:Nat)(R:Hsh)(D:List Hsh)(w:G)(e:Ua)(w':G):Prop:=∃ v,e=.returned (.tuple #[.int .i64 0,v,.int .i64 N,.string (HS R)])/\Zj w' v (D.map HS)/\Bz w w'
theorem Q6o(w:G)(i:Nat)(Z v2:J)(l:List Fil)(es:Uc)(key:O)(m:Nat)(h:NetT w i Z v2 l es)(q:getF l (sOf kCp)=some (cpOf es key))(hk:key.size<=1048600)(hm:1<=m)(C:m<=es.length):Calls prog 33 #[.pointer (some ⟨i,0,none⟩),.string key,.int .i64 m,.string (HS (rootOf (es.take m)))] w (NlU es.length (rootOf es) (if m<es.length then Y5 m es true else []) w):=by
 have X:=h.len;have c0:w.cell? ⟨i,0,none⟩=some Z:=Qd h.net 0 rfl;have c1:w.cell? ⟨i,1,none⟩=some (.slice none 0 0):=Qd h.net 1 rfl;have aw:i<w.heap.size:=Qb h.net;have ekc:sOf kCp=⟨#[99,104,101,99,107,112,111,105,110,116]⟩:=rfl;have y:=Ym w (.slice none 0 0) [] (sOf kCp) ⟨none,0,rfl,zg _,λj x hx=>by simp at hx⟩ (by decide);have p:=Ym w Z l (sOf kCp) h.files h.few;have f:=Qmo (cpOf es key) key w (h.small _ (Jw q)) hk;rw[show (cpOf es key).data.toList=Jt es.length (rootOf es) key.data.toList from rfl,Qkg _ _ _ (by omega)] at f;unfold Qft at f;simp only[zac] at f;rcases J5 l (sOf kCp) with⟨_,g2⟩|⟨j,b,hj,g1,g2,g3⟩
 .rw[q] at g2;cases g2
 obtain rfl:cpOf es key=b:=by rw[q] at g3;exact zR g3
 obtain⟨a,c,ev,hc,U⟩:=h.files;obtain⟨bb,off,rfl,_,d2⟩:=U j _ g2;have ar:bb<w.heap.size:=Qj d2;have au:(0:Int)<=(j:Int):=by omega
 have av:(j:Int)<(l.length:Int):=by omega
 dsimp only at d2;rw[g1] at p;rw[ekc] at p y;obtain⟨R,hR⟩:=zzx (rootOf es)
 obtain⟨N,hN⟩:=zzx es.length
 obtain⟨root,d⟩:=zzx (rootOf (es.take m))
 obtain⟨s,hs⟩:=zzx (cpOf es key)
 have g:=Qhk es m hm C (by omega);rw[<-hR,<-hN] at f;rw[<-hR,<-d,<-hN] at g;rw[<-hs] at f d2;obtain⟨D,hD⟩:=zzx (if m<es.length then Y5 m es true else [])
 rw[<-hD,<-hR,<-hN,<-d];rw[<-hN] at hD;rw[<-hN] at X C;have T:part es 0 (0+N)=es:=by unfold part;rw[Vm,zk (by omega)]
 have E:=Qak m es true;rw[<-hN] at E;obtain⟨ab,aa,ae,H,V,HR,HN,aj,ah⟩:=zh9 y p f h g hR hN d T;obtain⟨ai,HD⟩:=zh2 E hD;clear y p f h g hR hN d hs q g1 g2 g3 U T E hD;subst ev
 go_enter func33,ntmps33
 go_upto_region 12 with (first|(go_at_call 27;first|(with_reducible refine ab.o.m ?_;rintro e w3⟨rfl,rfl⟩;rw[show J1 [] (⟨#[99,104,101,99,107,112,111,105,110,116]⟩:O) = -1 from rfl])|(with_reducible refine aa.o.m ?_;rintro e w3⟨rfl,rfl⟩))|go_at_call 63;refine ae.o.m ?_;rintro e w2⟨rfl,M⟩;have k:=zh M;clear M|fail)
 rcases Nat.lt_or_eq_of_le C with Q|am
 .have k1:¬ (N:Int)<(m:Int):=by omega
  have k2:((N:Int) == (m:Int))=false:=by simp;omega
  obtain⟨Wb,n⟩:=zzx (w2.alloc (.cells #[.pointer (some ⟨i,0,none⟩),.int .i64 N,.slice none 0 0] 78))
  have v:Bz w2 Wb:=by rw[n];exact Qa w2 _
  have B:NlW Wb w2.heap.size i _ v2 l es:=⟨(H.o.j k.o).j v,by rw[n,HN.o];exact zy w2 _⟩
  have hc:=Qj5 N m 0 N true (zg _) hm (by omega) (by rw[<-HN.o];omega) _ B;rw[ah.o] at hc;obtain⟨ac,al,ag,K,af⟩:=zh5 hc n B (k.o.t (v.m k.o.size)) Q;clear hc n B v Q
  go_upto_region 19 with fail
  rw[<-al.o]
  go_upto_region 20 with (first|go_at_call 92;refine ac.o.m ?_;rintro e w3⟨vp,rfl,S,t⟩;have A:=(ag.o.j t).cells;have aq:=Qd A 2 rfl;have ax:=Qb A;obtain⟨L,F⟩:=zh2 S (K.o.t (t.m K.o.size));clear S t A|fail)
  have z:=Qh7 (Y5 m es true) root R (m:Int) (N:Int) vp w3 (Qq.at L.o) (by omega) (by omega) (by have:=ai.o;omega);rw[V.o] at z;obtain⟨ad,ak⟩:=zh2 z (Qq.at L.o);clear z
  go_wp2_with (first|go_at_call 51;refine ad.o.m ?_;rintro e w4⟨rfl,P⟩;have I:=zh P;clear P|fail)
  refine zI (Qcf rfl _ _ _) rfl ?_;exact⟨vp,rfl,by rw[HD.o,zD af.o];exact Zj.j ak.o I.o,F.o.t (I.o.m F.o.size)⟩
 subst am;have k1:¬ (m:Int)<(m:Int):=by omega
 have k2:((m:Int) == (m:Int))=true:=by simp
 have e:((HS R).toList == (HS root).toList)=true:=Yy (by rw[HR.o,aj.o,zk (by rw[<-HN.o];exact zg _)])
 go_wp2_with fail
 refine zI (Qcf rfl _ _ _) rfl ?_;exact⟨.slice none 0 0,rfl,by rw[HD.o,zw (by omega)];exact⟨none,0,rfl,zg _,λj u hu=>by simp at hu⟩,k.o⟩
structure Q6b(es:Uc)(key:O)(n:Nt):Prop where
 nt:Qeu es n
 nh:Qnm es es.length n
 cp:Yx n (sOf kCp)=some (cpOf es key).data.toList
 len:es.length<=100
 short:∀ e∈es,e.length<=20
section
variable {F:Nat->Addr} {w0 w:G} {k gd ga gc gk mc gn:Nat} {vl vt v:J} {n:Nt} {c:Cl} {qs:List CEnt} {d:Dk} {es:Uc} {p:Pl} {m:Wm} {key:O} {ess:List O}
theorem LiSt.updateT(h:LiSt w0 w k gd ga gc gk mc gn vl vt n c qs)(z:k<=100)(r:Q5 w0 gd v d)(l:n.files=d.files)(t:Z5 w0)(s:Yp w0 F)(i:Qio w0)(g:Qtu n)(b:c.key.size<=9223372036854775807)(o:c.cache.items = [])(a:c.size=0∨∃ es,Q6b es c.key n/\Qnu es c):Calls prog 29 #[.pointer (some ⟨ga,0,none⟩)] w (Q90 w0 w (k+1) gd ga gc gk mc gn vl vt (Z1 c n)):=by
 have hb:=Qa w (.cells #[.int .i64 0,.string ⟨#[]⟩] 63);have hE:=h.env (F:=F) t s i;have q:=Qm2 (c:=c) (n:=n);have u:=h.fetches;have p:c.size<=100/\(Z1 c n).2.1.length<=1048576:=by
  rcases a with h0|⟨es,T,C⟩
  .refine⟨by omega,?_⟩
   have:(Z1 c n).2.1 = []:=by
    unfold Z1
    repeat' split
    all_goals first|rfl|contradiction
   rw[this];exact zE _
  have hl:=T.len;refine⟨zi C.size hl,?_⟩;rw[(Qim (by omega) T.short C T.nt (zg _) C.size (by rw[vz];exact T.cp) T.nh).2.1]
  split
  .exact zi (Qak _ _ _) (by rw[vz];omega)
  exact zE _
 refine (Qsf F w ga gc gk mc gn gd vl vt qs (Z1 c n) h.pc hE h.lt p.2 ?_).m λe w' hq=>?_
 .refine Qr2 F _ gc gk mc gn gd vl vt v c qs n d (h.cl.j hb) (h.net.j hb) ((r.j h.j).j hb) l.symm (hE.j hb) (by omega) b (λdata hd=>g.fetch hd) (by omega) λdata N hd hok hNe hlt hpos=>?_
  rcases a with h0|⟨es,T,C⟩
  .omega
  have x:=T.len;rw[T.cp] at hd;rw[<-zR hd,show (cpOf es c.key).data.toList=Jt es.length (rootOf es) c.key.data.toList from rfl,Qci _ _ _ (by omega)] at hNe;obtain rfl:es.length=N:=Int.ofNat.inj hNe;have i:=Ql9 (N:=es.length) (m:=c.size) (by omega) hpos (by omega);have e1:(Zt n (sOf kCp)).fetches=n.fetches+1:=(Yc n (sOf kCp)).2.2;refine⟨⟨?_,?_,Qfk g.small _⟩,λhp=>?_,?_⟩
  .show (Zt n (sOf kCp)).fetches+_<_
   omega
  .show 0+_<_
   omega
  .have:=(Qjz (by omega) (zg _) (av:=true) hpos (VD hlt) (askQ (Zt n (sOf kCp)) c.cache) ⟨λy hy=>by simp[askQ] at hy,C.cache,T.nt.next _,λ_=>Qjq T.nh T.nt.steady (Qau n _)⟩).2.2 _ hp
   cases this.1
  rw[o];show 0+_<_;omega
 obtain⟨v',he,ho,qs',j,f,hf,hs⟩:=hq;obtain⟨h1,h2⟩:=h.next hf hs j f (by omega);exact⟨v',qs',he,ho,h1,h2⟩
theorem LiSt.readT(h:LiSt w0 w k gd ga gc gk mc gn vl vt n c qs)(I:k<=100)(r:Q5 w0 gd v d)(o:n.files=d.files)(x:Z5 w0)(t:Yp w0 F)(u:Qio w0)(s:Qtu n)(p:c.cache.items = [])(T:Q6b es key n)(C:Qnu es c)(f:c.size=es.length)(j:Nat)(H:j<es.length):Calls prog 36 #[.pointer (some ⟨ga,0,none⟩),.int .i64 j] w λe w'=>∃ n' c',LiRd w0 w (k+1) gd ga gc gk mc gn vl vt (Qbs,(es.getD j [],Y8 es j),c',n') e w':=by
 have hb:=Qa w (.cells #[.int .i64 0,.string ⟨#[]⟩] 63);have hE:=h.env (F:=F) x t u;have B:=T.len;have q:=Qmn (c:=c) (n:=n) (i:=(j:Int)) (by omega);have A:=h.fetches;have a:j<c.size:=by omega
 have z:=Qjx (N:=c.size) (by omega) a;have hQ:Qgr es c.size true (askQ n c.cache):=⟨λy hy=>by simp[askQ] at hy,C.cache,T.nt,λ_=>by rw[f];exact T.nh⟩
 obtain⟨_,_,_,_,_,_,hu⟩:=Qrl (by omega) T.short C T.nt a (av:=true) (λ_=>by rw[f];exact T.nh);obtain⟨v1,v2⟩|⟨v1,_⟩:=hu
 rotate_left
 .cases v1
 rw[f,vz] at v2;have E:=Qa0 es j;refine (Qsl F w ga gc gk mc gn gd vl vt j qs (Y3 c n j) h.pc hE h.lt (by rw[v2];dsimp only;omega) ?_).m λe w' hq=>?_
 .refine Q0q F _ gc gk mc gn gd vl vt v c qs n d (h.cl.j hb) (h.net.j hb) ((r.j h.j).j hb) o.symm (hE.j hb) j a (by omega) ⟨?_,?_,s.small⟩ ?_ (λhp=>?_) ?_
  .show n.fetches+_<_
   omega
  .show 0+_<_
   omega
  .intro b s1 l
   have:=Qwa (by omega) T.short C.size a hQ l
   omega
  .have:=(Qmc (by omega) C.size T.short a (askQ n c.cache) hQ).2.2 _ hp
   cases this.1
  rw[p];show 0+_<_;omega
 obtain⟨nn,v',he,_,D,ho,qs',m,g,hf,hs⟩:=hq;obtain⟨h1,h2⟩:=h.next hf hs m g (by omega);refine⟨_,_,nn,v',qs',?_,.inl rfl,?_,h1,h2⟩
 .rw[he,v1,v2]
 rw[v2] at ho;exact ho
theorem Qek.true(h:Qek w p m ess key)(e:ess.length<=100){n:Nt}(b:n.files=m.d.files)(a:n.lies = []):Q6b (lists ess) key n:=by
 obtain⟨L,hL⟩:=h.rdw;have c:m.es.length<=1048576:=by rw[h.ents];omega
 have h1:=Qgi hL c b a;have h2:=Qcg (n:=n) (by rw[b];exact hL.has) a;have h3:=hL.short;rw[h.ents] at h1 h2 h3;exact⟨h1,by rw[Qx];exact h2,Qkz (by rw[b];exact h.cp) a,by rw[Qx];exact e,h3⟩
theorem Qek.net(h:Qek w p m ess key)(k:ess.length<=100){l:List Fil}(b:l.Perm m.d.files){w':G}{e:Nat}{c g:J}(i:w'.heap[e]?=some (.cells #[c,.slice none 0 0,g] 150 (0,0)))(a:Y6 w' c l):NetT w' e c g l (lists ess)/\getF l (sOf kCp)=some (cpOf (lists ess) key):=by obtain⟨L,hL⟩:=h.rdw;have hg:=Qcn h.once b;have hh:=hL.has;rw[h.ents] at hh;refine⟨⟨i,a,by rw[b.length_eq];have:=h.few;omega,λf a=>h.small f (b.mem_iff.1 a),λm j r h1 h2=>?_,by rw[Qx];exact k⟩,by rw[hg,h.cp]⟩;rw[hg];exact hh _ (by rw[<-Qx,vz];exact Qus h1 h2)
end
theorem Q6h(w:G):Calls prog 8 #[.slice none 0 0] w λe w'=>e=.returned (.slice none 0 0)/\w=w':=by
 go_enter func8,ntmps8
 go_wp2_with fail
 go_loopg [3,4,5] 0 (λgg s3 s4 _ wr=>s3=.slice none 0 0/\s4=.int .i64 0/\w=wr)
 case atStart=>exact⟨rfl,rfl,rfl⟩
 case round=>
  obtain⟨rfl,rfl,rfl⟩:=hrel;go_wp2;go_ret;exact⟨rfl,rfl⟩
theorem Q0p(w:G)(p:Pl)(m:Wm)(h:Qa6 w p m)(k:m.d.files.length<=1000000000000):Calls prog 32 #[.pointer (some ⟨p.gw,0,none⟩),.slice none 0 0] w λe w'=>∃ nb v0 l',e=.returned (.pointer (some ⟨nb,0,none⟩))/\l'.Perm m.d.files/\w'.heap[nb]?=some (.cells #[v0,.slice none 0 0,.slice none 0 0] 150 (0,0))/\Y6 w' v0 l'/\Bz w w':=by
 have HC:=zh (J4 w p m h k);clear h
 go_enter func32,ntmps32
 go_upto_region 2 with (first|go_at_call 26;refine HC.o.m ?_;rintro e w1⟨v1,l1,rfl,a,g,f⟩;obtain⟨a1,c,rfl⟩:=Zo a;obtain⟨i,j,b⟩:=zh3 (Ye a) g f;clear a g f|fail)
 obtain⟨W,hW⟩:=zzx (w1.alloc (.cells #[.slice a1 l1.length c,.slice none 0 0,.slice none 0 0] 150))
 have hb:Bz w1 W:=by rw[hW];exact Qa w1 _
 have HW:=zh (show W.heap[w1.heap.size]?=some (.cells #[.slice a1 l1.length c,.slice none 0 0,.slice none 0 0] 150 (0,0)) by rw[hW];exact zy w1 _);obtain⟨HF,HB⟩:=zh2 (i.o.j hb) (b.o.t (hb.m b.o.size));rw[<-hW];clear hW hb
 go_wp2_with fail
 go_loopg [6] 0 (λgg s6 wr=>s6=.int .i64 0/\W=wr)
 case atStart=>exact⟨rfl,rfl⟩
 case round=>
  obtain⟨rfl,rfl⟩:=hrel;go_wp2;go_ret;exact⟨_,_,l1,rfl,j.o,HW.o,HF.o,HB.o⟩
theorem Qyk(F:Nat->Addr)(w:G)(p pv:Pl)(m mv:Wm)(es:List O)(M:Nat)(key:O)(ve:J)(hp:Qek w p m es key)(hv:Qek w pv mv (es.take M) key)(bi:1<=M)(V:M<=es.length)(z:es.length<=100)(bh:∀ s∈es,s.size<=20)(he:Zj w ve es)(de:key.size<=1048600)(hn:Z5 w)(hS:Yp w F)(hT:Qio w):Calls prog 9 #[.pointer (some ⟨p.gw,0,none⟩),.pointer (some ⟨pv.gw,0,none⟩),ve,.int .i64 M,.slice none 0 0] w (Ql4 w):=by
 obtain⟨⟨c0,c1,_⟩,_⟩:=hp.wd.heads;rw[hp.mkey] at c1;have ah:p.gw<w.heap.size:=Qj c0;have ekc:sOf kCp=⟨#[99,104,101,99,107,112,111,105,110,116]⟩:=rfl;obtain⟨dw,du⟩:=zh2 (Ql7 w p.gd m.d.files) (λ(W:G) (g:Nat)=>Qbx W (.pointer (some ⟨g,0,none⟩)) (.iface 48 (.pointer (some ⟨g,0,none⟩))) (.inr ⟨_,rfl,rfl⟩) key 16 (by decide));obtain⟨ae,ce,ep,ej,bk⟩:=id he;obtain⟨x0,cn⟩:∃ x,es[0]?=some x:=⟨_,ze (by omega)⟩
 obtain⟨be,oe,rfl,_⟩:=bk 0 (.string x0) (by rw[zN,cn];rfl);subst ep;clear bk cn;obtain⟨HP,HV,dg,HE,HN,bc,HT⟩:=zh7 hp hv bh he hn hS hT;obtain⟨ne,am⟩:=zzx es.length
 rw[<-am] at V z ej ⊢;have c:=zh am;clear hp hv bh he hn hS hT am
 go_enter func9,ntmps9
 go_upto_region 2 with (first|go_at_call 24;refine dw.o.m ?_;rintro e w1⟨gn,rfl,i,ab,bu⟩;have d1:=(ab.cell (p:=⟨p.gw,1,none⟩) ah).t c1;have dd:=Qj d1;obtain⟨dt,dh,dl⟩:=zh3 i ab bu;clear i ab bu|fail)
 go_upto_region 5 with (first|go_at_call 25;refine (du.o w1 gn).m ?_;rintro e w2⟨ga,gc,gk,mc,rfl,cf,bo,bl,_,bw,bx,bz⟩;have a4:=zh (Qzv (w0:=w) (w1:=w) (zu _ _) dt.o dh.o dl.o cf bo bl bw bx bz);clear cf bo bl bw bx bz|fail)
 clear d1 dd c0 c1;have ec:=zh (J4 w2 pv mv (HV.o.wd.j a4.o.j) (by have:=HV.o.few;omega))
 go_upto_region 6 with (first|go_at_call 26;refine ec.o.m ?_;rintro e w3⟨v3,l3,rfl,cb,cd,bm⟩;obtain⟨dx,ba,dm⟩:=zh3 cb cd (a4.o.grow bm);clear cb cd bm|fail)
 obtain⟨d,hd⟩:=zzx (cpOf (lists (es.take M)) key)
 have ag:getF l3 (sOf kCp)=some d:=by rw[Qcn HV.o.once ba.o,HV.o.cp,hd]
 have bp:d.size<=1048576:=by have h1:=HV.o.cp;rw[<-hd] at h1;exact HV.o.small _ (Jw h1)
 have dj:=zh bp;have bt:=Ye dx.o;have em:l3.length<=1000000000:=by rw[ba.o.length_eq];exact HV.o.few
 rcases J5 l3 (sOf kCp) with⟨_,g2⟩|⟨j,b,hj,g1,g2,g3⟩
 .rw[ag] at g2;cases g2
 obtain rfl:d=b:=by rw[ag] at g3;exact zR g3
 have I:=Ym w3 v3 l3 (sOf kCp) bt (by omega);rw[g1,ekc] at I;obtain⟨a3,c3,rfl,ei,co⟩:=bt;obtain⟨b3,o3,rfl,_,q2⟩:=co j _ g2;have db:b3<w3.heap.size:=Qj q2;have el:(0:Int)<=(j:Int):=by omega
 have b1:(j:Int)<(l3.length:Int):=by omega
 dsimp only at q2;obtain⟨n3,b7⟩:=zzx l3.length
 rw[<-b7] at b1 ei I ⊢;obtain⟨dk,HD⟩:=zh2 I hd;obtain⟨W3,B⟩:=zzx (w3.alloc (.cells #[.string ⟨#[99,104,101,99,107,112,111,105,110,116]⟩,.string d,.bool false,.int .i64 0] 47))
 have aj:=dm.o.grow (w':=W3) (by rw[B];exact Qa w3 _);have b6:=Qmi W3 gn p.gd _ _ (.slice (some ⟨w3.heap.size,0,none⟩) 1 1) _ [⟨sOf kCp,d,false,0⟩] aj.net (by
  rw[B,ekc]
  exact XL w3 _ 1 (zE _) (by unfold maxLen;omega) rfl) (by simp)
 obtain⟨ct,ds,ed⟩:=zh3 aj b6 B;clear ag bp I co g1 g2 g3 hj hd b7 aj b6 B em
 go_upto_region 8 with (first|go_at_call 27;(with_reducible refine dk.o.m ?_;rintro e w5⟨rfl,rfl⟩)|go_at_call 28;rw[<-ed.o];refine ds.o.m ?_;rintro e w4⟨ex,ez,rfl,b8,bq,ch⟩;have dn:=zh (ct.o.lied b8 bq ch).1;clear b8 bq ch|fail)
 obtain⟨R0,X⟩:=zzx (rootOf (lists (es.take M)))
 have b5:(lists (es.take M)).length=M:=by rw[Qx,zm];have:=c.o;omega
 have a:=dn.o.updateT (F:=F) (by omega) HP.o.wd.disk rfl HN.o bc.o HT.o (Q58 HP.o.small dj.o) (by show key.size<=_;omega) rfl (.inl rfl);rw[Qnk (es:=lists (es.take M)) (key:=key) (by rw[<-HD.o];exact Q4c) rfl rfl (by omega) (by omega),b5,<-X] at a;obtain⟨n1,i⟩:=zzx (Zt ⟨m.d.files,[⟨sOf kCp,d,false,0⟩],List.replicate ([⟨sOf kCp,d,false,0⟩]:List Lie1).length 0,0⟩ (sOf kCp))
 rw[<-i] at a;unfold Q90 at a;dsimp only[Qbs] at a;have u:n1.files=m.d.files:=by rw[i];exact (Yc _ _).2.1
 obtain⟨eb,bb,dv⟩:=zh3 a X u;clear a b5 i X u q2 db el b1
 go_upto_region 9 with (first|go_at_call 29;refine eb.o.m ?_;rintro e w5⟨v5,ev,rfl,_,f,_⟩;have a5:=zh f;clear f|fail)
 obtain⟨W5,C⟩:=zzx (w5.alloc (.cells #[.int .i64 0,.string ⟨#[]⟩] 63))
 obtain⟨tb,Q⟩:=zzx w5.heap.size
 have bn:Bz w5 W5:=by rw[C];exact Qa w5 _
 have cm:Zq W5 tb 0 ⟨#[]⟩:=by rw[C,Q];exact zy w5 _
 rw[<-Q,<-C];have f:=a5.o.grow bn;obtain⟨d8,cu,d6⟩:=zh3 (show w.heap.size<=tb by rw[Q];exact a5.o.j.size) f cm;have ef:(es.take M).length=M:=by rw[zm];have:=c.o;omega
 have an:=Qaz M (es.take M) (.slice (some ⟨be,oe,none⟩) M ce) W5 (by omega) (Qf4 (n:=ne) (by have:=HE.o.j f.j;rw[<-c.o] at this;exact this) (by have:=c.o;omega)) (by omega) (λs hs=>zi (dg.o s (zQ hs)) (by decide));rw[<-bb.o] at an;have d3:=zh an;have et:M<=ce:=by omega
 clear C Q bn cm f ef an
 go_upto_region 10 with (first|go_at_call 30;refine d3.o.m ?_;rintro e w6⟨rfl,ac⟩;obtain⟨dp,bf⟩:=zh2 (cu.o.grow ac) (d6.o.j ac);clear ac|fail)
 have c7:=zh dp.o.trusted
 go_upto_region 11 with (first|go_at_call 31;refine c7.o.m ?_;rintro e w7⟨rfl,b2,au,_⟩;obtain⟨a6,d7⟩:=zh2 b2 (au _ _ _ bf.o);obtain⟨t0,t1,_,_,tlt⟩:=(au _ _ _ bf.o).facts;clear b2 au|fail)
 have ek:((HS R0).toList == (HS R0).toList)=true:=by simp
 have al:=Qmi w7 gn p.gd _ _ (.slice none 0 0) _ [] a6.o.net (zv _ _ _ _) (by decide);have cv:=zh al;clear al
 go_upto_region 14 with (first|go_at_call 28;refine cv.o.m ?_;rintro e w8⟨ey,e0,rfl,b9,br,ci⟩;have q:=a6.o.lied b9 br ci;obtain⟨dq,bg⟩:=zh2 q.1 (q.2 _ _ _ d7.o);clear b9 br ci q|fail)
 obtain⟨n2,P⟩:=zzx ({ n1 with lies:=[],told:=List.replicate ([]:List Lie1).length 0 }:Nt)
 have ak:=dq.o;rw[<-P] at ak;have H:n2.files=m.d.files:=by rw[P];exact dv.o
 have L:n2.lies = []:=by rw[P]
 have bj:Qtu n2:=⟨by unfold Qg7;rw[L];intro l hl;simp at hl,by rw[H];exact HP.o.small,by rw[L];intro l hl;simp at hl⟩
 have T2:=HP.o.true (by rw[<-c.o];exact z) H L;have Z:R0=rootOf ((lists es).take M):=by rw[bb.o];unfold lists;rw[vJ]
 have N:(lists es).length=ne:=by rw[Qx,c.o]
 have C2:Qnu (lists es) ⟨key,M,R0,⟨(16:Int).toNat,[]⟩⟩:=⟨by rw[N];exact V,Z,λx hx=>by simp at hx,⟨VU,zE _⟩⟩
 have a:=ak.updateT (F:=F) (by omega) HP.o.wd.disk H HN.o bc.o HT.o bj (by show key.size<=_;omega) rfl (.inr ⟨_,T2,C2⟩);have ax:=Qim (by omega) T2.short C2 T2.nt (zg _) C2.size (by rw[vz];exact T2.cp) T2.nh;obtain⟨D,hD⟩:=zzx (if M<(lists es).length then Y5 M (lists es) true else [])
 obtain⟨r,hr⟩:=zzx (Z1 ⟨key,M,R0,⟨(16:Int).toNat,[]⟩⟩ n2)
 rw[<-hr] at a ax;obtain⟨⟨tk,tp⟩,hh,c2,n3⟩:=r;unfold Q90 at a;dsimp only at a ax;obtain⟨q1,q2,q3,q4,_⟩:=ax;cases q1;obtain rfl:hh=D:=by
  rw[q2,hD,vz];by_cases hlt:M<(lists es).length
  .rw[zD ⟨bi,hlt⟩,zD hlt]
  rw[zw (λh=>hlt h.2),zw hlt]
 have q5:=q3.root;rw[q4,vz] at q5;rw[N] at q4;have eu:hh.length<=100:=by
  rw[hD]
  split
  .exact zi (Qak _ _ _) (by omega)
  exact zE _
 obtain⟨da,d2,di,dz,d0,a7⟩:=zh6 a Z hD q4 q5 N;clear P ak H L bj a hr t0 t1 tlt ek T2 C2 Z hD q2 q3 q4 q5 N
 go_upto_region 15 with (first|go_at_call 29;refine da.o.m ?_;rintro e w9⟨v9,ew,rfl,cc,b4,av⟩;obtain⟨dy,dr,U⟩:=zh3 cc b4 (av _ _ _ bg.o);obtain⟨t0,t1,ay,az,tlt⟩:=(av _ _ _ bg.o).facts;clear cc b4 av|fail)
 obtain⟨aw,K⟩:=Qdi (m:=(0:Nat)) (t:=⟨#[]⟩) U.o;obtain⟨W9,aa⟩:=zzx ((w9.setCell ⟨tb,0,none⟩ (.int .i64 (0:Nat))).setCell ⟨tb,1,none⟩ (.string ⟨#[]⟩))
 rw[<-aa] at aw K;obtain⟨S,c4,ea⟩:=zh3 (dr.o.told U.o d8.o K) (show Qq W9 w8.heap.size v9 (hh.map HS) from Zm dy.o K (Q1 U.o) (by decide)) aw;obtain⟨c8,ee⟩:=zh2 S.o.trusted aa;clear aa aw K t0 t1 ay az tlt
 go_upto_region 15 with fail
 try rw[show (w9.setCell ⟨tb,0,none⟩ (.int .i64 0)).setCell ⟨tb,1,none⟩ (.string ⟨#[]⟩)=W9 from ee.o.symm]
 go_upto_region 16 with (first|go_at_call 31;refine c8.o.m ?_;rintro e cq⟨rfl,ai,ar,af⟩;obtain⟨cx,v,c5⟩:=zh3 (show Qq cq w8.heap.size v9 (hh.map HS) from Zm c4.o af (Q1 S.o.cl.cells) (by decide)) ai (ar _ _ _ ea.o);clear ai ar af|fail)
 have cw:=zh (Q0p cq p m (HP.o.wd.j v.o.j) (by have:=HP.o.few;omega))
 go_upto_region 17 with (first|go_at_call 32;refine cw.o.m ?_;rintro e cr⟨nb,z0,l',rfl,cg,ca,u,E⟩;obtain⟨a8,c6,cy⟩:=zh3 (HP.o.net (by rw[<-c.o];exact z) cg ca u) (c5.o.j E) (show Qq cr w8.heap.size v9 (hh.map HS) from Qn cx.o E);have ad:=v.o.j.t (E.m v.o.j.size);have a2:=zh ad;have d1:=(HP.o.wd.j ad).heads.1.2.1;rw[HP.o.mkey] at d1;have ah:=Qj d1;clear cg ca u E ad|fail)
 have ao:=Q6o cr nb z0 _ l' (lists es) key M a8.o.1 a8.o.2 de bi (by rw[a7.o];exact V);rw[<-d2.o,<-di.o,a7.o,<-d0.o] at ao;have d4:=zh ao;clear ao
 go_upto_region 18 with (first|go_at_call 33;refine d4.o.m ?_;rintro e cs⟨vw,rfl,ck,k⟩;obtain⟨bd,T,cz,A⟩:=zh4 ck (c6.o.j k) (show Qq cs w8.heap.size v9 (hh.map HS) from Qn cy.o k) (a2.o.t (k.m a2.o.size));clear ck k|fail)
 obtain⟨t0,t1,ay,az,tlt⟩:=T.o.facts;clear d1 ah;have ho:=cz.o;obtain⟨ss,aq⟩:=zzx (hh.map HS)
 have cj:ss.length<=1048576:=by rw[aq,zA];omega
 rw[<-aq] at ho bd;obtain⟨a9,c9,rfl⟩:=Zo ho;have ap:=Qdl _ vw ss ss cs (Qq.at ho) bd.o cj;rw[zF rfl] at ap;obtain⟨d5,d9⟩:=zh2 ap T.o;clear ap t0 t1 ay az tlt ho aq cj
 go_upto_region 22 with (first|go_at_call 35;refine d5.o.m ?_;rintro e e1⟨rfl,y⟩;have a0:=zh (A.o.t (y.m A.o.size));obtain⟨t0,_,_,_,tlt⟩:=(d9.o.j y).facts;clear y|fail)
 rw[dz.o];obtain⟨hz,b0⟩:=zzx (HS c2.root)
 rw[<-b0];have k1:(hz.toList == hz.toList)=true:=by simp
 have k2:(((ne:Int)) == (ne:Int))=true:=by simp
 clear b0
 go_wp2
 go_ret;exact⟨rfl,a0.o⟩
theorem Q7r(s:O)(w:G)(d:s.size<=1048576){ls:Uc}(b:Qs s.data.toList=some ls):Calls prog 59 #[.string s] w λe w'=>∃ a c ss,e=.returned (.tuple #[.slice a ss.length c,.bool true])/\bss ss=ls/\Zj w' (.slice a ss.length c) ss/\Bz w w':=
 (Qec s w (by omega)).m λe w' hp=>by
  obtain⟨v',h1,h2,⟨h3,_⟩|⟨ss,h3,h4⟩⟩:=hp
  .rw[b] at h3;cases h3
  obtain⟨a,c,rfl⟩:=Zo h4
  rw[b] at h1 h3
  exact⟨a,c,ss,h1,(zR h3).symm,h4.at,h2⟩
variable {i:Nat} {ss:List O}
theorem Zei{a:Y Addr}{c:Nat}{x:O}(h:Zj w (.slice a ss.length c) ss)(d:ss[i]?=some x):∃ b off,a=some ⟨b,off,none⟩/\w.cell? ⟨b,off+i,none⟩=some (.string x):=by obtain⟨a',c',h1,_,h3⟩:=h;cases h1;exact h3 i (.string x) (by rw[zN,d];rfl)
variable {es:Uc}
theorem Q8n(b:i<es.length)(a:bss ss=(es.drop (4*(i / 4))).take (Zr (i / 4) es.length)):ss.length=Zr (i / 4) es.length/\ss[i%4]?=some (sOf (es.getD i [])):=by have hw:Zr (i / 4) es.length=min 4 (es.length-4*(i / 4)):=rfl;have hl:=zB List.length a;unfold bss at hl a;rw[zA,zm,zM] at hl;have e:=zB (λl=>l[i%4]?) a;rw[zN,zH (by rw[hw];omega),ZU,show 4*(i / 4)+i%4=i by omega,ze b] at e;obtain⟨x,hx,he⟩:=zP.1 e;refine⟨by omega,?_⟩;rw[hx,zz,ze b,xz,<-he,J9]
theorem Qxr{c I:Nat}{K L:J}{l:List Fil}(h:NlW w c I K L l es)(v:∀ e∈es,e.length<=20)(i:Nat)(D:i<es.length):Calls prog 37 #[.pointer (some ⟨c,0,none⟩),.int .i64 i] w λe w'=>e=.returned (.tuple #[.string (sOf (es.getD i [])),.bool true])/\Bz w w':=by
 have B:=h.len;have hg:=h.has 0 (i / 4) _ (Qbe es) (by rw[zA];omega);rw[zA,show (((0:Nat):Int)-1) = -1 by omega] at hg;have hw:Zr (i / 4) es.length=min 4 (es.length-4*(i / 4)):=rfl;have n:=Qfb v (j:=i / 4) (w:=Zr (i / 4) es.length) (by omega) (by omega) (by omega);have b:=h.small _ (Jw hg);have a:=zh (λss hb=>Q8n (ss:=ss) D hb);obtain⟨x,hx⟩:=zzx (sOf (es.getD i []))
 rw[<-hx] at a ⊢;obtain⟨q,hq⟩:=zzx (i / 4)
 obtain⟨m,hm⟩:=zzx (i%4)
 obtain⟨N,hN⟩:=zzx es.length
 obtain⟨wz,A⟩:=zzx (Zr q N)
 rw[<-hq,<-hN,<-A] at hg hw n b a;rw[<-hm] at a;obtain⟨s,hs⟩:=zzx (sOf (cutR (es.map encE) q wz))
 rw[<-hs] at hg b;have r:Qs s.data.toList=some ((es.drop (4*q)).take wz):=by rw[hs];exact n
 have c0:w.cell? ⟨c,0,none⟩=some (.pointer (some ⟨I,0,none⟩)):=Qd h.cells 0 rfl;have c1:w.cell? ⟨c,1,none⟩=some (.int .i64 N):=by rw[hN];exact Qd h.cells 1 rfl
 have F:c<w.heap.size:=Qb h.cells;obtain⟨u,HF⟩:=zh2 (λw=>Qdy (-1) (q:Int) (wz:Int) w (by omega)) (λw' (hb:Bz w w')=>Qpl (h.toNetT.j hb) hg);obtain⟨t1,k⟩:=zzx (Qt (-1) q wz)
 rw[show sOf (Yb (-1) (q:Int) (wz:Int))=t1 from k.symm] at u;rw[<-k] at HF;have HU:=zh (λw=>Q7r s w b r);have R:(i:Int) / 4=(q:Int):=by omega
 have Q:(i:Int)%4=(m:Int):=by omega
 have S:i<100:=by omega
 have V:4*q<N:=by omega
 have U:m<wz:=by omega
 have M:N<=100:=by omega
 have HW:=zh hw;clear h hg k A hw hx hq hm D hN hs n r b B v
 go_enter func37,ntmps37
 go_upto_if 24 with fail
 go_cut [7] from 23 to 24 (λs7 wx=>w=wx/\s7=.int .i64 (wz:Int))
 case first=>
  by_cases h4:(4:Int)<(N:Int)-(q:Int)*4
  .have HE:=zh (show (4:Int)=(wz:Int) by have:=HW.o;omega)
   go_wp2
   go_meet;exact⟨rfl,by rw[HE.o]⟩
  have HE:=zh (show (N:Int)-(q:Int)*4=(wz:Int) by have:=HW.o;omega)
  go_wp2
  go_meet;exact⟨rfl,by rw[HE.o]⟩
 case rest=>
  obtain⟨rfl,rfl⟩:=hcut
  go_wp2_with (first|go_at_call 53;refine (u.o _).m ?_;rintro e w2⟨rfl,f⟩;have d:=zh f;have d0:=(f.cell (p:=⟨c,0,none⟩) F).t c0;clear f|go_at_call 94;refine (HF.o _ d.o).m ?_;rintro e w3⟨rfl,rfl⟩|go_at_call 59;refine (HU.o _).m ?_;rintro e w4⟨al,cl,ss,rfl,g,z,y⟩;have E:=(a.o ss g).1;have hd:((ss.length:Int) == (wz:Int))=true:=(by simp;omega);obtain⟨bl,ol,rfl,H⟩:=Zei z (a.o ss g).2;have T:(m:Int)<(ss.length:Int):=(by omega);have P:=Qj H;have C:=zh (d.o.t (y.m d.o.size));clear g z y E|fail)
  go_ret2;exact⟨rfl,C.o⟩
theorem Q66(F:Nat->Addr)(w:G)(p:Pl)(m:Wm)(es:List O)(i:Nat)(key:O)(ve:J)(hp:Qek w p m es key)(T:i<es.length)(C:es.length<=100)(bg:∀ s∈es,s.size<=20)(he:Zj w ve es)(dt:key.size<=1048600)(hn:Z5 w)(hS:Yp w F)(hT:Qio w):Calls prog 10 #[.pointer (some ⟨p.gw,0,none⟩),ve,.int .i64 i,.slice none 0 0] w (Ql4 w):=by
 obtain⟨⟨c0,c1,_⟩,_⟩:=hp.wd.heads;rw[hp.mkey] at c1;have di:p.gw<w.heap.size:=Qj c0;obtain⟨cz,cx⟩:=zh2 (Ql7 w p.gd m.d.files) (λ(W:G) (g:Nat)=>Qbx W (.pointer (some ⟨g,0,none⟩)) (.iface 48 (.pointer (some ⟨g,0,none⟩))) (.inr ⟨_,rfl,rfl⟩) key 16 (by decide));obtain⟨ae,ce,dk,dg,bi⟩:=id he;obtain⟨x0,a1⟩:∃ x,es[i]?=some x:=⟨_,ze T⟩
 obtain⟨be,oe,rfl,bm⟩:=bi i (.string x0) (by rw[zN,a1];rfl);subst dk;obtain⟨bd,du⟩:=zh2 a1 bm;clear bi a1 bm;obtain⟨HP,a4,HE,HN,ba,HT⟩:=zh6 hp bg he hn hS hT;obtain⟨ne,av⟩:=zzx es.length
 rw[<-av] at T C dg ⊢;have a:=zh av;clear hp bg he hn hS hT av
 go_enter func10,ntmps10
 go_upto_region 2 with (first|go_at_call 24;refine cz.o.m ?_;rintro e w1⟨gn,rfl,h,ai,bp⟩;have d1:=(ai.cell (p:=⟨p.gw,1,none⟩) di).t c1;have cl:=Qj d1;obtain⟨cw,cm,co⟩:=zh3 h ai bp;clear h ai bp|fail)
 go_upto_region 5 with (first|go_at_call 25;refine (cx.o w1 gn).m ?_;rintro e w2⟨ga,gc,gk,mc,rfl,b4,bn,bj,_,bq,br,bt⟩;have cr:=zh (Qzv (w0:=w) (w1:=w) (zu _ _) cw.o cm.o co.o b4 bn bj bq br bt);clear b4 bn bj bq br bt|fail)
 clear d1 cl c0 c1;obtain⟨R0,ag⟩:=zzx (rootOf (lists es))
 have bx:(lists es).length=ne:=by rw[Qx,a.o]
 have k:=cr.o.updateT (F:=F) (by omega) HP.o.wd.disk rfl HN.o ba.o HT.o ⟨λl hl=>(by simp at hl),HP.o.small,λl hl=>(by simp at hl)⟩ (by show key.size<=_;omega) rfl (.inl rfl);rw[Qnk (es:=lists es) (key:=key) (Qkz HP.o.cp rfl) rfl rfl (by omega) (by omega),bx,<-ag] at k;obtain⟨n1,h⟩:=zzx (Zt ⟨m.d.files,[],[],0⟩ (sOf kCp))
 rw[<-h] at k;unfold Q90 at k;dsimp only[Qbs] at k;have v:n1.files=m.d.files:=by rw[h];exact (Yc _ _).2.1
 obtain⟨db,ab,cy⟩:=zh3 k ag v;clear k bx h ag v
 go_upto_region 6 with (first|go_at_call 29;refine db.o.m ?_;rintro e w5⟨v5,dw,rfl,_,bu,_⟩;have a7:=zh bu;clear bu|fail)
 obtain⟨W5,H⟩:=zzx (w5.alloc (.cells #[.int .i64 0,.string ⟨#[]⟩] 63))
 obtain⟨tb,S⟩:=zzx w5.heap.size
 have bl:Bz w5 W5:=by rw[H];exact Qa w5 _
 have ay:Zq W5 tb 0 ⟨#[]⟩:=by rw[H,S];exact zy w5 _
 rw[<-S,<-H];obtain⟨da,a8,c8⟩:=zh3 (show w.heap.size<=tb by rw[S];exact a7.o.j.size) (a7.o.grow bl) ay;obtain⟨t0,t1,_,_,tlt⟩:=ay.facts;have au:=Qmi W5 gn p.gd _ _ (.slice none 0 0) _ [] a8.o.net (zv _ _ _ _) (by decide);have cb:=zh au;clear H S bl ay au
 go_upto_region 9 with (first|go_at_call 28;refine cb.o.m ?_;rintro e w8⟨dy,dz,rfl,b0,bo,b7⟩;have u:=a8.o.lied b0 bo b7;obtain⟨cs,bc⟩:=zh2 u.1 (u.2 _ _ _ c8.o);clear b0 bo b7 u|fail)
 obtain⟨n2,Q⟩:=zzx ({ n1 with lies:=[],told:=List.replicate ([]:List Lie1).length 0 }:Nt)
 have ar:=cs.o;rw[<-Q] at ar;have L:n2.files=m.d.files:=by rw[Q];exact cy.o
 have N:n2.lies = []:=by rw[Q]
 have bh:Qtu n2:=⟨by unfold Qg7;rw[N];intro l hl;simp at hl,by rw[L];exact HP.o.small,by rw[N];intro l hl;simp at hl⟩
 have T2:=HP.o.true (by rw[<-a.o];exact C) L N;have b:(lists es).length=ne:=by rw[Qx,a.o]
 have C2:Qnu (lists es) ⟨key,ne,R0,⟨(16:Int).toNat,[]⟩⟩:=⟨by rw[b];exact zg _,by rw[ab.o,zk (by rw[b];exact zg _)],λx hx=>by simp at hx,⟨VU,zE _⟩⟩
 have j:=ar.readT (F:=F) (by omega) HP.o.wd.disk L HN.o ba.o HT.o bh rfl T2 C2 b.symm i (by rw[b];exact T);have a2:sOf ((lists es).getD i [])=x0:=by unfold lists;rw[zz,zN,bd.o];exact J9 x0
 obtain⟨D,hD⟩:=zzx (Y8 (lists es) i)
 have af:=Qa0 (lists es) i;have r:=Qk8 (lists es) i (by rw[b];exact T);have ad:=T2.short;rw[<-hD] at j af r;rw[<-ab.o,b] at r;unfold LiRd at j;dsimp only[Qbs] at j;rw[a2] at j;obtain⟨c5,bf,HD,E,a6,b9,c7⟩:=zh7 j a2 hD b af r ad;clear Q ar L N bh j t0 t1 tlt T2 C2 b a2 hD af r ad
 go_upto_region 10 with (first|go_at_call 36;refine c5.o.m ?_;rintro e w9⟨n9,c9,nn,v9,dx,rfl,_,b3,bw,az⟩;obtain⟨c3,ct,ac⟩:=zh3 b3 bw (az _ _ _ bc.o);obtain⟨t0,t1,dl,dm,tlt⟩:=(az _ _ _ bc.o).facts;clear b3 bw az|fail)
 obtain⟨a0,M⟩:=Qdi (m:=(0:Nat)) (t:=⟨#[]⟩) ac.o;obtain⟨W9,ah⟩:=zzx ((w9.setCell ⟨tb,0,none⟩ (.int .i64 (0:Nat))).setCell ⟨tb,1,none⟩ (.string ⟨#[]⟩))
 rw[<-ah] at a0 M;obtain⟨X,cd,ch⟩:=zh3 (ct.o.told ac.o da.o M) (show Qq W9 w8.heap.size v9 (D.map HS) from Zm c3.o M (Q1 ac.o) (by decide)) a0;obtain⟨cc,dc⟩:=zh2 (Q0p W9 p m (HP.o.wd.j X.o.j) (by have:=HP.o.few;omega)) ah;clear ah a0 M t0 t1 dl dm tlt
 go_upto_region 10 with fail
 try rw[show (w9.setCell ⟨tb,0,none⟩ (.int .i64 0)).setCell ⟨tb,1,none⟩ (.string ⟨#[]⟩)=W9 from dc.o.symm]
 go_upto_region 11 with (first|go_at_call 32;refine cc.o.m ?_;rintro e c⟨nb,z0,l',rfl,b5,b1,v,K⟩;obtain⟨c2,ci,ca,cf⟩:=zh4 ((HP.o.net (by rw[<-a.o];exact C) b5 b1 v).1) (ch.o.j K) (X.o.grow K) (show Qq c w8.heap.size v9 (D.map HS) from Qn cd.o K);clear b5 b1 v K|fail)
 obtain⟨Wb,I⟩:=zzx (c.alloc (.cells #[.pointer (some ⟨nb,0,none⟩),.int .i64 ne,.slice none 0 0] 78))
 have ao:Bz c Wb:=by rw[I];exact Qa c _
 have P:NlW Wb c.heap.size nb z0 _ l' (lists es):=⟨c2.o.j ao,by rw[I,E.o];exact zy c _⟩
 have ap:=Qxr P c7.o i (by rw[E.o];exact T);rw[bf.o] at ap;have aw:=λW (hb:Bz Wb W)=>Qj8 ne i 0 ne (zg _) T (by rw[E.o];omega) _ (P.j hb)
 have b6:part (lists es) 0 (0+ne)=lists es:=by unfold part;rw[Vm,zk (by rw[E.o];omega)]
 rw[b6,<-HD.o] at aw;obtain⟨dd,cv,cn,c4,a5⟩:=zh5 I P ap aw ao;clear I P ap aw b6 ao
 go_upto_region 12 with fail
 rw[<-dd.o]
 go_upto_region 13 with (first|go_at_call 37;refine cn.o.m ?_;rintro e dp⟨rfl,aj⟩;have y:=zh aj;clear aj|fail)
 go_upto_region 14 with (first|go_at_call 38;refine (c4.o dp y.o).m ?_;rintro e b8⟨vp,rfl,b2,bk⟩;obtain⟨a9,U⟩:=zh2 b2 (y.o.t (bk.m y.o.size));clear b2 bk|fail)
 have q:=a5.o.t (U.o.m a5.o.size);obtain⟨aa,cj,Z,cg,cu⟩:=zh5 ((cv.o.j U.o).cells) (ci.o.j q) (ca.o.grow q) (show Qq b8 w8.heap.size v9 (D.map HS) from Qn cf.o q) (Qow x0 b8 (by have:=a4.o x0 (zr bd.o);omega));have ax:=λW (hW:Bz w W)=>Qaz ne es (.slice (some ⟨be,oe,none⟩) ne ce) W (by rw[a.o];exact zg _) (by have:=HE.o.j hW;rw[<-a.o] at this;exact this) (by have:=a.o;omega) (λs hs=>zi (a4.o s hs) (by decide))
 rw[<-ab.o] at ax;have c6:=zh ax;clear q ax
 go_upto_region 16 with (first|go_at_call 39;refine cu.o.m ?_;rintro e dq⟨rfl,ak⟩;have z:=zh ak;clear ak|go_at_call 30;refine (c6.o dq (Z.o.grow z.o).j).m ?_;rintro e dr⟨rfl,al⟩;have A:=zh (z.o.t (al.m z.o.size));clear al|fail)
 have aq:=Qk6 D (Jz x0.data.toList) R0 i ne vp dr (Zj.j (Qq.at a9.o) A.o) (by omega) (by omega) (by have:=a6.o;rw[Qx] at this;have:=a.o;omega);have bz:Jz ((lists es).getD i [])=Jz x0.data.toList:=by rw[<-bf.o]
 have B:=b9.o;rw[bz] at B;rw[B] at aq;have cq:=zh aq;clear aq bz B
 go_upto_block 0 with (first|go_at_call 40;refine cq.o.m ?_;rintro e ds⟨rfl,am⟩;have f:=zh (A.o.t (am.m A.o.size));clear am|fail)
 have dh:=(f.o.cell (p:=⟨c.heap.size,2,none⟩) (Qb aa.o)).t (Qd aa.o 2 rfl);have dv:=Qj dh;have bb:=zh (Qdl v9 vp (D.map HS) (D.map HS) ds (Zj.j (Qq.at cg.o) f.o) (Zj.j (Qq.at a9.o) f.o) (by rw[zA];have:=a6.o;rw[Qx] at this;have:=a.o;omega));rw[zF rfl] at bb
 go_upto_region 18 with (first|go_at_call 35;refine bb.o.m ?_;rintro e d0⟨rfl,an⟩;have V:=zh (f.o.t (an.m f.o.size));clear an|fail)
 obtain⟨t0,_,_,_,tlt⟩:=(cj.o.j V.o).facts
 go_wp2
 go_ret;exact⟨rfl,(Z.o.grow V.o).j⟩
def Q9u(w0 w:G)(gw i:Nat)(key:O)(l:List O):Prop:=∃ p m L P,p.gw=gw/\m.es=l.take i/\WSt w0 w (2*i) key p m L P
theorem Qvh(F:Nat->Addr)(w:G)(vl:J)(l:List O)(S:Int)(key:O)(hl:Zj w vl l)(au:l.length<=100)(Z:∀ s∈l,s.size<=20)(Q:key.size<=1048600)(hn:Z5 w)(hS:Yp w F)(hT:Qio w):Calls prog 7 #[vl,.int .i64 S,.string key] w (Q4x w key l):=by
 have HL:=zh hl;obtain⟨al,cl,rfl,_,_⟩:=hl;obtain⟨af,HN,HS,HT,ah⟩:=zh5 Z hn hS hT (Qlf w (.slice none 0 0) [] key ⟨none,0,rfl,zg _,λj x hx=>by simp at hx⟩ (by decide));clear Z hn hS hT
 go_enter func7,ntmps7
 go_upto_region 2 with (first|go_at_call 20;refine ah.o.m ?_;rintro e w2⟨p0,rfl,ab⟩;have z:=zh ab;clear ab|fail)
 have aa:Qe4 ⟨key,dk0 (firsts []),none,[],0,false,false⟩ [] 0:=⟨Qn8 (l:=[]) (zg _) (λf hf=>by simp at hf),λL hL=>by cases hL⟩
 have U:=zh (Qsi F w2 p0 _ [] 0 z.o.1 aa rfl (Qjo z.o.2.1 HN.o HS.o HT.o z.o.2.2) (by simp) (by omega) (by show key.size<=_;omega));clear aa;obtain⟨gw,N⟩:=zzx p0.gw
 rw[<-N] at U ⊢;have ag:=zh N;clear N
 go_upto_region 3 with (first|go_at_call 21;refine U.o.m ?_;intro e w3 h3;obtain⟨he,p1,m1,L1,q1,q2,q3⟩:=Q8y z.o h3;subst he;have HA:=zh (show Q9u w w3 gw 0 key l from ⟨p1,m1,L1,0,q1.t ag.o.symm,q2,q3⟩);clear q1 q2 q3 h3|fail)
 go_wp2_with fail
 go_loopw [8,9] (λs8 s9 wr=>∃ i:Nat,i<=l.length/\s9=.int .i64 i/\s8=.bool true/\Aside (Q9u w wr gw i key l)) (λ_ s9 _=>l.length-(intOf s9).toNat)
 case atStart=>exact⟨0,zE _,rfl,rfl,HA.o⟩
 case round=>
  obtain⟨i,hi,rfl,rfl,HR⟩:=hrel;by_cases hlt:i<l.length
  .have ae:decide ((i:Int)<(l.length:Int))=true:=zF (by omega)
   have av:(0:Int)<=(i:Int):=by omega
   have ar:(i:Int)<(l.length:Int):=by omega
   obtain⟨p,m,L,P,r,d,v⟩:=HR.o;obtain⟨x,hx⟩:∃ x,l[i]?=some x:=⟨_,ze hlt⟩
   have R:=af.o x (zr hx);have ad:l.take (i+1)=l.take i ++ [x]:=by rw[zY,hx];rfl
   obtain⟨X,HX,T,K,V⟩:=zh5 ad hx d v r;clear ad hx d v r;have B:∀ W,Bz w W->∃ b off,al=some ⟨b,off,none⟩/\W.cell? ⟨b,off+i,none⟩=some (.string x):=λW hW=>by obtain⟨_,_,hv,_,hc⟩:=HL.o.j hW;cases hv;exact hc i (.string x) (by rw[zN,HX.o];rfl)
   have y:=zh B;clear B;by_cases hmi:(i:Int)=S
   .have ao:((i:Int) == S)=true:=by simp[hmi]
    have c:=K.o.publish (by omega) HN.o HS.o HT.o Q;rw[V.o] at c;have I:=zh c;clear c hmi
    go_upto_region 9 with (first|go_at_call 22;refine I.o.m ?_;rintro e w4⟨rfl,p4,m4,L4,n,h,t⟩;obtain⟨H,E,A⟩:=zh3 n (h.t T.o) t;clear n h t|fail)
    have a:=A.o.append (by omega) HN.o HS.o HT.o x R;rw[H.o,E.o] at a;have D:=zh a;obtain⟨b,off,rfl,M⟩:=y.o w4 A.o.j;have ak:=Qj M;clear a
    go_wp2_with (first|go_at_call 23;refine D.o.m ?_;rintro e w5⟨rfl,p5,m5,L5,P5,q,k,u⟩;have C:=zh (show Q9u w w5 gw (i+1) key l from ⟨p5,m5,L5,P5,q,k.t X.o.symm,u⟩);clear q k u|fail)
    go_roundw
    case rel=>exact⟨i+1,by omega,by go_num,rfl,C.o⟩
    case measure=>simp[intOf];omega
   have ao:((i:Int) == S)=false:=by simp[hmi]
   have a:=K.o.append (by omega) HN.o HS.o HT.o x R;rw[V.o,T.o] at a;have D:=zh a;obtain⟨b,off,rfl,M⟩:=y.o wr K.o.j;have ak:=Qj M;clear a hmi
   go_wp2_with (first|go_at_call 23;refine D.o.m ?_;rintro e w5⟨rfl,p5,m5,L5,P5,q,k,u⟩;have C:=zh (show Q9u w w5 gw (i+1) key l from ⟨p5,m5,L5,P5,q,k.t X.o.symm,u.more (by omega)⟩);clear q k u|fail)
   go_roundw
   case rel=>exact⟨i+1,by omega,by go_num,rfl,C.o⟩
   case measure=>simp[intOf];omega
  have ae:decide ((i:Int)<(l.length:Int))=false:=zo (by omega);obtain⟨p,m,L,P,r,d,v⟩:=HR.o;have ac:l.take i=l:=zk (by omega);rw[ac] at d;have c:=v.publish (by omega) HN.o HS.o HT.o Q;rw[r,d] at c;have I:=zh c;have am:2*i+1<=2*l.length+2:=by omega
  clear c d v r ac
  go_wp2_with (first|go_at_call 22;refine I.o.m ?_;rintro e w4⟨rfl,p4,m4,L4,n,h,t⟩;obtain⟨H,E,A⟩:=zh3 n h t;clear n h t|fail)
  go_ret;exact⟨p4,m4,L4,by rw[H.o];rfl,E.o,A.o.more am⟩
def fitL(l:List O):List O:=l.filter λs=>decide (s.size<=20)
variable {l:List O}
theorem Q70{k:Nat}{s:O}(h:l[k]?=some s):fitL (l.take (k+1))=fitL (l.take k)++(if s.size<=20 then [s] else []):=by
 unfold fitL;rw[zY,h,xQ]
 congr 1
 by_cases h2:s.size<=20 <;> simp[h2]
theorem Q4n(l:List O)(k:Nat):(fitL (l.take k)).length<=k:=by unfold fitL;exact zi (xn _ _) (by rw[zm];omega)
theorem Zdn(M:Nat)(h:M<=1000000):wrap64 ((M:Nat):Int)=(M:Int):=by unfold wrap64;omega
theorem Zdv:∀ s∈fitL l,s.size<=20:=λs hs=>by
 have:=(ZJ.1 hs).2
 simpa using this
theorem Q8u(F:Nat->Addr)(w:G)(va:J)(l:List O)(I H:Int)(key:O)(t:Zj w va l)(bp : -9223372036854775808<=I)(bq:I<=9223372036854775807)(bm : -9223372036854775808<=H)(bn:H<=9223372036854775807)(d:key.size<=1048600)(hN:Z5 w)(hS:Yp w F)(hT:Qio w):Calls prog 3 #[va,.int .i64 I,.string key,.slice none 0 0,.int .i64 H] w (Ql4 w):=by
 obtain⟨f,bd⟩:=zh2 (Qmj va l w t) t;obtain⟨a0,c0,rfl,_,_⟩:=t;obtain⟨i0,hi,bx,bz,b0⟩:=ZZ Qb3;obtain⟨HN,HS,HT⟩:=zh3 hN hS hT;clear hN hS hT;cases hfb:fewB l with
 | false=>
  rw[hfb] at f;clear hfb
  go_enter func3,ntmps3
  go_wp2_with (first|go_at_call 5;refine f.o.m ?_;rintro e w1⟨rfl,rfl⟩|fail)
  go_ret;exact⟨rfl,zu _ _⟩
 | true=>
  rw[hfb] at f;clear hfb;by_cases hbig:100<l.length
  .have hz:decide ((100:Int)<(l.length:Int))=true:=zF (by omega)
   go_enter func3,ntmps3
   go_wp2_with (first|go_at_call 5;refine f.o.m ?_;rintro e w1⟨rfl,rfl⟩|fail)
   go_ret;exact⟨rfl,zu _ _⟩
  have hz:decide ((100:Int)<(l.length:Int))=false:=zo (by omega)
  go_enter func3,ntmps3
  go_upto_region 6 with (first|go_at_call 5;refine f.o.m ?_;rintro e w1⟨rfl,rfl⟩|fail)
  go_wp2_with fail
  go_loopw [12,13] (λv i wr=>∃ k:Nat,k<=l.length/\i=.int .i64 k/\Aside (Qq wr w.heap.size v (fitL (l.take k))/\Bz w wr)) (λ_ i _=>l.length-(intOf i).toNat)
  case atStart=>exact⟨0,by omega,rfl,zv _ _ _ _,zu _ _⟩
  case round=>
   obtain⟨k,hk,rfl,HR⟩:=hrel;by_cases hlt:k<l.length
   .obtain⟨s,T⟩:∃ s,l[k]?=some s:=⟨_,ze hlt⟩
    obtain⟨_,_,bu,_,ar⟩:=bd.o.j HR.o.2;cases bu;obtain⟨b,off,rfl,U⟩:=ar k (.string s) (by rw[zN,T];rfl);have b3:=Qj U;have b6:(0:Int)<=(k:Int):=by omega
    have bo:(k:Int)<(l.length:Int):=by omega
    have ah:=Q70 T;have b5:=Q4n l k;have y:=HR.o.1;unfold Qq at y;obtain⟨a7,C⟩:=zh2 y ah;clear ar T ah y;by_cases m:s.size<=20
    .have au:(s.size:Int)<=20:=by omega
     rw[zD m] at C
     go_wp2_with (at_builtin;refine Yo rfl _ _ 22 rfl w.heap.size 9 i0 (.string ⟨#[]⟩) 16 underlying22 hi bx bz b0 rfl (by decide) _ _ _ rfl a7.o _ rfl rfl (by omega) HR.o.2.size ?_;intro v2 w2 am ai av;obtain⟨ba,a3⟩:=zh2 am ai;clear am ai av)
     go_roundw
     case rel=>
      refine⟨k+1,by omega,by go_num,?_,?_⟩
      .rw[C.o]
       unfold Qq;simpa using ba.o
      exact HR.o.2.grown a3.o HR.o.2.size (λj hj=>(HR.o.1.lt j hj).1)
     case measure=>simp[intOf];omega
    have au:¬ (s.size:Int)<=20:=by omega
    rw[zw m,ZW] at C
    go_wp2
    go_roundw
    case rel=>
     refine⟨k+1,by omega,by go_num,?_,HR.o.2⟩;rw[C.o];exact HR.o.1
    case measure=>simp[intOf];omega
   have bo:¬ (k:Int)<(l.length:Int):=by omega
   obtain⟨es,E⟩:=zzx (fitL (l.take k))
   have m:∀ s∈es,s.size<=20:=λs t=>by rw[E] at t;exact Zdv s t
   have u:es.length<=100:=by rw[E];have:=Q4n l k;omega
   have hR:=HR.o;rw[<-E] at hR;obtain⟨ho,hb⟩:=hR;obtain⟨ae,ce,rfl⟩:=Zo ho;have ap:=Qq.at ho;obtain⟨h,HB,B⟩:=zh3 ap hb m;clear E m ho hb ap HR hbig hz;obtain⟨ne,r⟩:=zzx es.length
   rw[<-r];rcases vg ne with h0|h0
   .subst h0
    go_wp2
    go_ret;exact⟨rfl,HB.o⟩
   have b1:((ne:Int) == 0)=false:=by rw[zl];omega
   have Q:=λW=>Qlk I ne W bp bq h0 (by omega)
   have bt:=Qlj I (n:=ne) h0;obtain⟨q,hq⟩:=zzx (Qhc I ne)
   rw[<-hq] at Q bt;have N:=λW=>Qlk H ne W bm bn h0 (by omega)
   have P:=Qlj H (n:=ne) h0;obtain⟨qi,al⟩:=zzx (Qhc H ne)
   rw[<-al] at N P;obtain⟨a9,a8,a⟩:=zh3 Q N r;obtain⟨M,hM⟩:=zzx (1+q)
   have bh:(1:Int)+(q:Int)=(M:Int):=by omega
   have aa:1<=M:=by omega
   have bg:M<=ne:=by omega
   have a6:=zh (Zdn M (by omega));have R:=Qvh F wr (.slice ae ne ce) es (M:Int) key (by rw[r];exact h.o) u B.o d (HN.o.j HB.o) (HS.o.j HB.o) (HT.o.j HB.o);have bb:=zh R;have b4:ne<=ce:=by obtain⟨_,_,hv,hc,_⟩:=h.o;cases hv;rw[r];exact hc
   have bl:∃ b o,ae=some ⟨b,o,none⟩:=by
    obtain⟨_,_,hv,_,hx⟩:=h.o;cases hv;obtain⟨x,bw⟩:∃ x,es[0]?=some x:=⟨_,ze (by omega)⟩
    obtain⟨b,o,e,_⟩:=hx 0 (.string x) (by rw[zN,bw];rfl);exact⟨b,o,e⟩
   obtain⟨be,oe,rfl⟩:=bl;clear Q N r hq al hM R
   go_upto_region 13 with (first|go_at_call 6;refine (a9.o _).m ?_;rintro e wx⟨rfl,rfl⟩|fail)
   rw[a6.o];clear bh
   go_upto_region 14 with (first|go_at_call 7;refine bb.o.m ?_;rintro e w4⟨p4,m4,L4,rfl,af,an⟩;obtain⟨a1,D⟩:=zh2 af an;clear af an|fail)
   have br:ne<=100:=by have:=a.o;omega
   have p:Bz w w4:=HB.o.t (D.o.j.m HB.o.size);have aj:=Qq6 D.o a1.o (by rw[<-a.o];exact h0) (by have:=a.o;omega);have z:=h.o.j D.o.j;rw[<-a.o] at z;have aq:(es.take M).length=M:=by rw[zm];have:=a.o;omega
   have S:=Qvh F w4 (.slice (some ⟨be,oe,none⟩) M ce) (es.take M) (M:Int) key (by have:=Qf4 (k:=M) z (by have:=a.o;omega);exact this) (by omega) (λs t=>B.o s (zQ t)) d (HN.o.j p) (HS.o.j p) (HT.o.j p);obtain⟨bc,V,X,Z⟩:=zh4 S p aj aq;have b2:M<=ce:=by omega
   clear z p aj aq S
   go_upto_region 15 with (first|go_at_call 7;refine bc.o.m ?_;rintro e w5⟨p5,m5,L5,rfl,ag,ao⟩;obtain⟨a2,g⟩:=zh2 ag ao;clear ag ao|fail)
   have ab:Bz w w5:=V.o.t (g.o.j.m V.o.size);have ak:=Qq6 g.o a2.o (by rw[Z.o];exact aa) (by rw[Z.o];omega);obtain⟨a5,ay,a4⟩:=zh3 (Q6h w5) ab ak;clear ab ak
   go_upto_region 18 with (first|go_at_call 8;refine a5.o.m ?_;rintro e w6⟨rfl,rfl⟩|fail)
   have A:=(h.o.j D.o.j).j g.o.j;have c:=ay.o;obtain⟨bf,ax,L⟩:=zh3 (Qyk F w5 p4 p5 m4 m5 es M key (.slice (some ⟨be,oe,none⟩) ne ce) (X.o.j g.o.j) a4.o aa (by rw[<-a.o];exact bg) u B.o (by rw[a.o];exact A) d (HN.o.j c) (HS.o.j c) (HT.o.j c)) (λW (hW:Bz w5 W)=>Q66 F W p4 m4 es qi key (.slice (some ⟨be,oe,none⟩) ne ce) ((X.o.j g.o.j).j hW) (by rw[<-a.o];exact P) u B.o (by rw[a.o];exact A.j hW) d ((HN.o.j c).j hW) ((HS.o.j c).j hW) ((HT.o.j c).j hW)) c;clear c A
   go_upto_region 19 with (first|go_at_call 9;refine bf.o.m ?_;rintro e w7⟨rfl,ac⟩;have K:=zh ac;clear ac|fail)
   go_wp2_with (first|go_at_call 6;refine (a8.o _).m ?_;rintro e wx⟨rfl,rfl⟩|go_at_call 10;refine (ax.o w7 K.o).m ?_;rintro e w8⟨rfl,ad⟩;have az:=zh ad;clear ad|fail)
   go_ret;exact⟨rfl,L.o.t ((K.o.t (az.o.m K.o.size)).m L.o.size)⟩
theorem Qsk{w w':G}(h:Qdc w)(b:Bz w w'):Qdc w':=h.j b (by obtain⟨a,ha⟩:=h;exact Qj ha)
theorem Zaf(F:Nat->Addr)(w:G)(h u C v:J)(l t:List O)(i m d:Int)(b data key:O)(z:List Fil)(c:List Op1)(p:Zj w h l)(A:Zj w u t)(I:Y6 w C z)(B:Qvd w v c)(f : -9223372036854775808<=i)(x:i<=9223372036854775807)(L : -9223372036854775808<=m)(q:m<=9223372036854775807)(H:d<=9223372036854775807)(h8:∀ s∈t,s.size<=9223372036854775807)(M:b.size<=1048576)(aa:data.size<=1048576)(ab:key.size<=1048576)(K:z.length<=9223372036854775807)(y:c.length<=9223372036854775807)(n:∀ o∈c,-9223372036854775808<=o.a/\o.a<=9223372036854775807)(g:Z5 w)(j:Yp w F)(r:Qio w)(E:Qdc w):Calls prog 4 #[h,.int .i64 i,.int .i64 m,u,.string b,.string data,C,.string key,.int .i64 d,v] w (Ql4 w):=by
 obtain⟨H1,H2,H3,H4,H5,H6,H7,H8,H9⟩:=zh9 (λW (hW:Bz w W)=>Q1q h l W (p.j hW)) (λW (hW:Bz w W)=>Q2t F h l i m W (p.j hW) (j.j hW)) (λW (hW:Bz w W)=>Qs7 t key data i m u W (A.j hW) f q h8 (by omega) (by omega)) (λW (hW:Bz w W)=>Qsz t key data i m u W (A.j hW) f q h8 (by omega) (by omega)) (λW (hW:Bz w W)=>Q3t i m d b W (by omega) M (g.j hW)) (λW (hW:Bz w W)=>Qvv h l data W (p.j hW)) (λW (hW:Bz w W)=>Q25 i data key b W f x (by omega) (g.j hW)) (λW (hW:Bz w W)=>Qqq F W C v z key c (I.j hW) (B.j hW) K y (g.j hW) (j.j hW) (r.j hW) n) (λW (hW:Bz w W)=>Q3q F W v key d c (B.j hW) y (g.j hW) (j.j hW) (r.j hW) (Qsk E hW) H n);have D:=zh (λW (hW:Bz w W)=>Q8u F W h l m i key (p.j hW) L q f x (by omega) (g.j hW) (j.j hW) (r.j hW));clear p A I B h8 n g j r E
 go_enter func4,ntmps4
 go_wp2_with fail
 go_loopw [21] (λs21 wr=>∃ k:Nat,k<=2/\s21=.int .i64 k/\Aside (Bz w wr)) (λs21 _=>2-(intOf s21).toNat)
 case atStart=>exact⟨0,by omega,rfl,zu _ _⟩
 case round=>
  obtain⟨k,hk,rfl,HB⟩:=hrel;by_cases hlt:k<2
  .have hz:(k:Int)<2:=by omega
   go_wp2_with (first|go_at_call 11;refine (H1.o wr HB.o).m ?_;rintro e N⟨rfl,hb⟩;have B1:=zh (HB.o.t (hb.m HB.o.size));clear hb|go_at_call 12;refine (H2.o N B1.o).m ?_;rintro e P⟨rfl,hb⟩;have B2:=zh (B1.o.t (hb.m B1.o.size));clear hb|go_at_call 13;refine (H3.o P B2.o).m ?_;rintro e Q⟨rfl,hb⟩;have B3:=zh (B2.o.t (hb.m B2.o.size));clear hb|go_at_call 14;refine (H4.o Q B3.o).m ?_;rintro e R⟨rfl,hb⟩;have B4:=zh (B3.o.t (hb.m B3.o.size));clear hb|go_at_call 15;refine (H5.o R B4.o).m ?_;rintro e S⟨rfl,hb⟩;have B5:=zh (B4.o.t (hb.m B4.o.size));clear hb|go_at_call 16;refine (H6.o S B5.o).m ?_;rintro e T⟨rfl,hb⟩;have B6:=zh (B5.o.t (hb.m B5.o.size));clear hb|go_at_call 17;refine (H7.o T B6.o).m ?_;rintro e U⟨rfl,hb⟩;have B7:=zh (B6.o.t (hb.m B6.o.size));clear hb|go_at_call 18;refine (H8.o U B7.o).m ?_;rintro e V⟨rfl,hb⟩;have B8:=zh (B7.o.t (hb.m B7.o.size));clear hb|go_at_call 19;refine (H9.o V B8.o).m ?_;rintro e X⟨rfl,hb⟩;have B9:=zh (B8.o.t (hb.m B8.o.size));clear hb|go_at_call 3;refine (D.o X B9.o).m ?_;rintro e Z⟨rfl,hb⟩;have B10:=zh (B9.o.t (hb.m B9.o.size));clear hb|fail)
   go_roundw
   case rel=>exact⟨k+1,by omega,by go_num,B10.o⟩
   case measure=>simp[intOf];omega
  have hz:¬ (k:Int)<2:=by omega
  go_wp2;go_ret;exact⟨rfl,HB.o⟩
theorem Zda{W:G}{r c:List (String×DataW Unit)}(b:laidMet prog (("internal/strconv.uint64pow10",Rows.laid_internal_strconv_uint64pow10) :: r) W)(h2:laidMet prog (("strconv.ErrRange",Rows.laid_strconv_ErrRange) :: ("strconv.ErrSyntax",Rows.laid_strconv_ErrSyntax) :: c) W)(hsh:W.ShapedOpen prog):Z5 W:=by
 have a:Lib.TabIs prog W "internal/strconv.uint64pow10" .u64 Lib.pow10Tab:=Lib.tabIs_of_head (g:=12) (t:=374) (by kernel_rfl) (by kernel_rfl) underlying374 underlying225 (by kernel_rfl) (by kernel_rfl) b;obtain⟨a2,s2⟩:=Qb0 (g:=10) h2 (by kernel_rfl) (by kernel_rfl);obtain⟨a1,s1⟩:=Qb0 (g:=9) h2.tail (by kernel_rfl) (by kernel_rfl);have hm:=cell_of_shapedOpen_int (P:=prog) (g:=11) (t:=3) (zero:=#[.int .i64 0]) hsh (vv (by kernel_rfl)) (by kernel_rfl) rfl (by kernel_rfl) (by kernel_rfl) underlying3;exact⟨a,hm,⟨_,s1.1,.inr ⟨_,_,rfl⟩⟩,⟨_,s2.1,.inr ⟨_,_,rfl⟩⟩⟩
variable {W:G}
theorem Q9h{r:List (String×DataW Unit)}(h:laidMet prog (("tiles/api.ErrEntry",Rows.laid_tiles_api_ErrEntry) :: ("tiles/api.ErrRange",Rows.laid_tiles_api_ErrRange) :: ("tiles/api.ErrCheckpoint",Rows.laid_tiles_api_ErrCheckpoint) :: ("tiles/api.ErrOld",Rows.laid_tiles_api_ErrOld) ::
  ("tiles/api.ErrProof",Rows.laid_tiles_api_ErrProof) :: ("tiles/api.ErrTile",Rows.laid_tiles_api_ErrTile) :: ("tiles/api.ErrFailed",Rows.laid_tiles_api_ErrFailed) :: r) W):∃ f,Yp W f:=by
 obtain⟨a0,h0⟩:=Qb0 (text:=Qjg.getD 0 []) (g:=3) h (by kernel_rfl) (by kernel_rfl);have h:=h.tail;obtain⟨a1,h1⟩:=Qb0 (text:=Qjg.getD 1 []) (g:=4) h (by kernel_rfl) (by kernel_rfl);have h:=h.tail;obtain⟨a2,h2⟩:=Qb0 (text:=Qjg.getD 2 []) (g:=0) h (by kernel_rfl) (by kernel_rfl);have h:=h.tail;obtain⟨a3,h3⟩:=Qb0 (text:=Qjg.getD 3 []) (g:=1) h (by kernel_rfl) (by kernel_rfl);have h:=h.tail;obtain⟨a4,h4⟩:=Qb0 (text:=Qjg.getD 4 []) (g:=2) h (by kernel_rfl) (by kernel_rfl);have h:=h.tail;obtain⟨a5,h5⟩:=Qb0 (text:=Qjg.getD 5 []) (g:=6) h (by kernel_rfl) (by kernel_rfl);have h:=h.tail;obtain⟨a6,h6⟩:=Qb0 (text:=Qjg.getD 6 []) (g:=5) h (by kernel_rfl) (by kernel_rfl);refine⟨λi=>[a0,a1,a2,a3,a4,a5,a6].getD i a0,λi hi=>?_⟩
 have:i=0∨i=1∨i=2∨i=3∨i=4∨i=5∨i=6:=by omega
 rcases this with rfl|rfl|rfl|rfl|rfl|rfl|rfl <;> assumption
theorem Q6d:prog.globalNamed "errors.errorType"=some 8:=by kernel_rfl
theorem Zb5:(prog.cutTypes.find? (·.1 == "internal/reflectlite.rtype")).map (·.2)=some 321:=by kernel_rfl
theorem Q8x:((List.range prog.types.size).filter λt=>prog.rowNamed t [101,114,114,111,114]) = [135]:=by kernel_rfl
theorem Qxc:typeHandle prog 135=.pointer (some ⟨17,135,none⟩):=by kernel_rfl
theorem Zbq(h:handlesMet prog [("errors.errorType",Rows.laid_errors_errorType)] W):Qio W:=by
 obtain⟨name,u,ty,e1,e2,e3,e4,e5⟩:=h _ (zS.2 rfl);have en:name = [101,114,114,111,114]:=(zR e1).symm;subst en;obtain rfl:=zR (Zb5.symm.t e2);have hm:ty∈(List.range prog.types.size).filter λt=>prog.rowNamed t [101,114,114,111,114]:=ZJ.2 ⟨ZQ.2 e3,e4⟩
 rw[Q8x] at hm;obtain rfl:=zS.1 hm;rw[Qxc] at e5
 have:=zaf Q6d e5 0
 simpa [Qio] using this
noncomputable def Qgk (os:Os):G:=
 let w0:=World.holding prog os ⟨#[],#[],[]⟩
 { w0 with heap:=w0.heap.modify 8 fun
   | .cells _ t frozen=>.cells #[.iface 321 (.agg #[.pointer (some ⟨17,135,none⟩)])] t frozen
   | o=>o }
noncomputable def Quc (os:Os) (laid:List (String×DataW Unit)):G:=(Qgk os).layVars prog (laid.filter λx=>x.2.handleName?.isNone)
theorem Q9l(os:Os)(a:List (String×DataW Unit)):(Quc os a).os=os:=World.layVars_os _ _ _
theorem Qqp{os:Os}{a:List (String×DataW Unit)}(args:Array J)(b:(Qgk os).layFits prog (a.filter λx=>x.2.handleName?.isNone) []=true)(c:(Qgk os).layIfaces prog (a.filter λx=>x.2.handleName?.isNone) (Quc os a)=true)(d:(a.filter λx=>x.2.handleName?.isSome).all (handleAtB prog ((Quc os a).forCall (λ_ _=>0) ⟨#[],args,[]⟩).memory)=true):laidMetH prog a ((Quc os a).forCall (λ_ _=>0) ⟨#[],args,[]⟩).memory:=by
 refine laidMetH_of_parts ?_ d;generalize hl:(a.filter λx=>x.2.handleName?.isNone)=l at b c;have e1:(l.filter λx=>(l.map (·.1)).contains x.1)=l:=xF.2 λx hx=>zap.2 (zU.2 ⟨x,hx,rfl⟩)
 have e2:(l.filter λx=>!(l.map (·.1)).contains x.1) = []:=List.filter_eq_nil_iff.2 λx hx=>by rw[zap.2 (zU.2 ⟨x,hx,rfl⟩)];simp
 have h:laidMet prog l (Quc os a):=laidMet_layVars (w0:=Qgk os) (l.map (·.1)) [] (by rw[e1];unfold Quc;rw[hl]) (by rw[e1];exact b) (by rw[e1];exact c) (by rw[e2];exact LaidIn.none);exact h.of_heap (by simp[World.memory,World.forCall,Input.heap])
theorem Q3p{W:G}{r:List (String×DataW Unit)}(h:laidMet prog (("tiles/tiles.errNone",Rows.laid_tiles_tiles_errNone) :: r) W):Qdc W:=by obtain⟨a,ha⟩:=Qb0 (g:=7) h (by kernel_rfl) (by kernel_rfl);exact⟨a,ha.1⟩
section
open Go.ChangeShapes Go.WideShapes Go.ChangeAt Go.RowKit
open Go.ChangeMaps (open_string shut_string)
theorem own:ownKnob prog.godebug=none:=by kernel_rfl
theorem Qsu:laidOutB prog=true:=by kernel_rfl
theorem Zav{n:Nat}(h:n<=maxLen):n<=9223372036854775807:=h
theorem Qz9{n:Int}(h:(Lit.int .i64 n).wf=true):-9223372036854775808<=n/\n<=9223372036854775807:=by have h1:IntKind.i64.min = -9223372036854775808:=rfl;have h2:IntKind.i64.max=9223372036854775807:=rfl;simp only[Lit.wf,XY,xp,h1,h2] at h;exact h
theorem Qt6{H:Type}{i:TypeId×J->H}{W:G}{v:J}{d:DataW H}{p:List MemPlace}(n:∃ a l c,v=.slice a l c)(h:DataW.Trod i prog W 0 (λ_=>true) true 22 v d p):∃ ss,Zj W v ss/\∀ s∈ss,s.size<=9223372036854775807:=by
 obtain⟨a,l,c,rfl⟩:=n;obtain⟨fuel,hf⟩:=h;rcases open_strings underlying22 underlying9 (by kernel_rfl) hf with⟨e,_⟩|⟨x,len,cap,ss,e,_,hl,hm,hz,_,f,k⟩
 .simp[Value.cells] at e
  obtain⟨rfl,rfl,rfl⟩:=e;exact⟨[],⟨none,0,rfl,zg _,λj x hx=>by simp at hx⟩,by simp⟩
 simp[Value.cells] at e;obtain⟨rfl,rfl,rfl⟩:=e;have m:ss.length=c:=by simpa using hz
 refine⟨ss.take l,⟨some x,c,by simp[m,hl],by simp;omega,λj u hu=>?_⟩,λs hs=>k s (zQ hs)⟩;have hj:j<l:=by
  have:=(zj.1 hu).1
  simp at this;omega
 have hc:=f j (by omega);obtain⟨b,off,spot⟩:=x;have g:spot=none:=by have h0:=f 0 (by omega);simpa [Addr.add] using za2 h0
 subst g;rw[ZX] at hc;refine⟨b,off,rfl,hc.t ?_⟩;rw[zN,zH hj] at hu;rw[zz];cases hx:ss[j]? with
 | none=>simp[hx] at hu
 | some y=>simp[hx] at hu;subst hu;rfl
end
section
open Go.ChangeShapes Go.WideShapes Go.Deep Go.RowKit
theorem Qxz{α:Type}(Q:Nat->α->Prop):∀ (n:Nat),(∀ i,i<n->∃ x,Q i x)->∃ l:List α,l.length=n/\∀ i x,l[i]?=some x->Q i x
 | 0,_=>⟨[],rfl,λi x hx=>by simp at hx⟩
 | n+1,h=>by
   obtain⟨l,hl,hq⟩:=Qxz Q n λi hi=>h i (by omega)
   obtain⟨x,hx⟩:=h n (by omega)
   refine⟨l ++ [x],by simp[hl],λi y hy=>?_⟩
   rcases zK i n with hi|hi
   .rw[zV (by omega)] at hy
    exact hq i y hy
   rw[ZC (by omega),hl] at hy
   have:i=n:=by
    rcases Nat.eq_or_lt_of_le hi with e|e
    .exact e.symm
    rw[vq (by simp;omega)] at hy;cases hy
   subst this
   simp at hy
   subst hy
   exact hx
theorem take_one{a:List J}{k:Nat}{v:J}(h:(a.drop k).take 1 = [v]):a[k]?=some v:=by
 have:=zB (λl:List J=>l[0]?) h
 simpa using this
variable {H:Type} {enc:TypeId×J->H} {W:G} {v:J} {d:DataW H} {p:List MemPlace}
theorem Q2i(A:∃ a l c,v=.slice a l c)(h:DataW.Trod enc prog W 0 (λ_=>true) true 32 v d p):∃ l:List Fil,Y6 W v l/\l.length<=maxLen:=by
 obtain⟨a,l,c,rfl⟩:=A;obtain⟨fuel,hf⟩:=h;have hC:prog.cellsOf 132=2:=by kernel_rfl
 have hS:prog.cellsOf 9=1:=by kernel_rfl
 rcases open_slice underlying32 hf with⟨e,_⟩|⟨x,len,cap,m,n,D,Pl,e,_,hl,hm,r,_,hi⟩
 .simp[Value.cells] at e
  obtain⟨rfl,rfl,rfl⟩:=e;exact⟨[],⟨none,0,rfl,zg _,λj x hx=>by simp at hx⟩,zE _⟩
 simp[Value.cells] at e;obtain⟨rfl,rfl,rfl⟩:=e;have key:∀ i,i<l->∃ f:Fil,W.cell? ((x.add (i*2)).add 0)=some (.string f.1)/\W.cell? ((x.add (i*2)).add 1)=some (.string f.2):=λi hil=>by
  obtain⟨cs',hc,s⟩:=hi i (by rw[r];simp;omega);obtain⟨xs,n',_,_,_,g,hg⟩:=DataW.trod_struct underlying132 s;rw[hC] at hc;obtain⟨_,B,o⟩:=World.cells?_some hc;have g0:=(show DataW.trod enc prog W 0 (λ_=>true) true n' 9 ((cs'.drop 0).take (prog.cellsOf 9))=xs[0]? from hg 0 _ rfl)
  have g1:=(show DataW.trod enc prog W 0 (λ_=>true) true n' 9 ((cs'.drop 1).take (prog.cellsOf 9))=xs[1]? from hg 1 _ rfl)
  have t:∃ y,xs[0]?=some y:=⟨_,ze (by rw[g];decide)⟩
  have u:∃ y,xs[1]?=some y:=⟨_,ze (by rw[g];decide)⟩
  obtain⟨y0,w⟩:=t;obtain⟨y1,z⟩:=u;rw[w] at g0;rw[z] at g1;rw[hS] at g0 g1;obtain⟨s0,e0,_,_⟩:=XS underlying9 g0;obtain⟨s1,e1,_,_⟩:=XS underlying9 g1;have c0:=(o 0 (by decide)).t (take_one e0);have c1:=(o 1 (by decide)).t (take_one e1);exact⟨(s0,s1),c0,c1⟩
 obtain⟨ls,q,hq⟩:=Qxz _ l key;subst q;refine⟨ls,⟨some x,c,rfl,hl,λj f hj=>?_⟩,zi hl hm⟩;obtain⟨k1,k2⟩:=hq j f hj;obtain⟨f0,z0,_⟩:=key 0 (by have:=(zj.1 hj).1;omega);obtain⟨b,off,spot⟩:=x;have k:spot=none:=by simpa [Addr.add] using za2 z0
 subst k;rw[ZX,ZX] at k1 k2;exact⟨b,off,rfl,by simpa using k1,k2⟩
theorem Q81(I:∃ a l c,v=.slice a l c)(h:DataW.Trod enc prog W 0 (λ_=>true) true 33 v d p):∃ l:List Op1,Qvd W v l/\l.length<=maxLen/\∀ o∈l,-9223372036854775808<=o.a/\o.a<=9223372036854775807:=by
 obtain⟨a,l,c,rfl⟩:=I;obtain⟨fuel,hf⟩:=h;have hC:prog.cellsOf 103=4:=by kernel_rfl
 have hS:prog.cellsOf 9=1:=by kernel_rfl
 have hI:prog.cellsOf 3=1:=by kernel_rfl
 have hB:prog.cellsOf 4=1:=by kernel_rfl
 rcases open_slice underlying33 hf with⟨g,_⟩|⟨x,len,cap,m,n,D,Pl,g,_,hl,hm,t,_,hi⟩
 .simp[Value.cells] at g
  obtain⟨rfl,rfl,rfl⟩:=g;exact⟨[],⟨none,0,rfl,zg _,λj x hx=>by simp at hx⟩,zE _,λo ho=>by cases ho⟩
 simp[Value.cells] at g;obtain⟨rfl,rfl,rfl⟩:=g;have key:∀ i,i<l->∃ o:Op1,(-9223372036854775808<=o.a/\o.a<=9223372036854775807)/\W.cell? ((x.add (i*4)).add 0)=some (.int .i64 o.kind)/\W.cell? ((x.add (i*4)).add 1)=some (.int .i64 o.a)/\W.cell? ((x.add (i*4)).add 2)=some (.bool o.two)/\W.cell? ((x.add (i*4)).add 3)=some (.string o.s):=λi hil=>by
  obtain⟨cs',hc,u⟩:=hi i (by rw[t];simp;omega);obtain⟨xs,n',_,_,_,e,hg⟩:=DataW.trod_struct underlying103 u;rw[hC] at hc;obtain⟨_,K,k⟩:=World.cells?_some hc;have g0:=(show DataW.trod enc prog W 0 (λ_=>true) true n' 3 ((cs'.drop 0).take (prog.cellsOf 3))=xs[0]? from hg 0 _ rfl)
  have g1:=(show DataW.trod enc prog W 0 (λ_=>true) true n' 3 ((cs'.drop 1).take (prog.cellsOf 3))=xs[1]? from hg 1 _ rfl)
  have g2:=(show DataW.trod enc prog W 0 (λ_=>true) true n' 4 ((cs'.drop 2).take (prog.cellsOf 4))=xs[2]? from hg 2 _ rfl)
  have g3:=(show DataW.trod enc prog W 0 (λ_=>true) true n' 9 ((cs'.drop 3).take (prog.cellsOf 9))=xs[3]? from hg 3 _ rfl)
  have w:∃ y,xs[0]?=some y:=⟨_,ze (by rw[e];decide)⟩
  have z:∃ y,xs[1]?=some y:=⟨_,ze (by rw[e];decide)⟩
  have A:∃ y,xs[2]?=some y:=⟨_,ze (by rw[e];decide)⟩
  have B:∃ y,xs[3]?=some y:=⟨_,ze (by rw[e];decide)⟩
  obtain⟨y0,C⟩:=w;obtain⟨y1,E⟩:=z;obtain⟨y2,F⟩:=A;obtain⟨y3,H⟩:=B;rw[C] at g0;rw[E] at g1;rw[F] at g2;rw[H] at g3;rw[hI] at g0 g1;rw[hB] at g2;rw[hS] at g3;obtain⟨s0,e0,_,_⟩:=DataW.trod_int underlying3 g0;obtain⟨s1,e1,_,w1⟩:=DataW.trod_int underlying3 g1;obtain⟨s2,e2,_⟩:=DataW.trod_bool underlying4 g2;obtain⟨s3,e3,_,_⟩:=XS underlying9 g3;have c0:=(k 0 (by decide)).t (take_one e0);have c1:=(k 1 (by decide)).t (take_one e1);have c2:=(k 2 (by decide)).t (take_one e2);have c3:=(k 3 (by decide)).t (take_one e3);exact⟨⟨s0,s1,s2,s3⟩,Qz9 w1,c0,c1,c2,c3⟩
 obtain⟨ls,r,hq⟩:=Qxz _ l key;subst r;refine⟨ls,⟨some x,c,rfl,hl,λj f hj=>?_⟩,zi hl hm,λo ho=>?_⟩
 .obtain⟨_,k1,k2,k3,k4⟩:=hq j f hj
  obtain⟨f0,_,z0,_⟩:=key 0 (by have:=(zj.1 hj).1;omega);obtain⟨b,off,spot⟩:=x;have q:spot=none:=by simpa [Addr.add] using za2 z0
  subst q;rw[ZX,ZX] at k1 k2 k3 k4;exact⟨b,off,rfl,by simpa using k1,k2,k3,k4⟩
 obtain⟨j,hj⟩:=Vc.1 ho;exact (hq j o hj).1
end
section
open Go.ChangeShapes Go.RowKit
variable {H:Type} {enc:TypeId×J->H}
variable {C:Checked} {os:Os} {f:FuncId} {fn:Func} {s:OpenSpec} {k:(H:Type)->List (DataW H)->Bool} {conds:List PathCond} {apart:Bool} {X:G->Array J->Prop}
theorem Qo6{a:Assume}(z:s.cond=some k){F:Stop.Interp}{d b again:Bool}(y:∀ (w w':G) (args:Array J),w.heap=w'.heap->X w args->X w' args)(own:ownKnob C.prog.godebug=none)(g:os.Started)(l:C.prog.inits.idxOf? f=none)(p:C.prog.funcs[f]?=some fn)(h:∃ (w:G) (tape:Tape) (i:Input),w.os=os/\(w.forCall tape i).Shaped C.prog/\i.vars = []/\Input.okWide C.prog (w.forCall tape i) .any w.heap.size f i/\
   ((s.pre enc C.prog fn conds apart (w.forCall tape i).memory i.args/\X (w.forCall tape i).memory i.args)/\sizedMet enc C.prog fn s apart (w.forCall tape i).memory i.args)/\a.holds C.prog (lone (Frame.enter C.prog f i.args .normal) [] (w.forCall tape i)))(c:∀ (W:G) (base:Nat) (args:Array J) (ds gs:List (DataW H)) (before:List MemPlace),
   (∀ (j:Nat) t v,fn.params[j]?=some t->args[j]?=some v->Value.okWide C.prog W .any base t v)->
   DataW.Whole enc C.prog fn.params.toList s.vars apart W args.toList ds gs before->
   k H (ds++gs)=true->W.ShapedOpen C.prog->X W args->
   Calls C.prog f args W λe W'=>∃ v,e=.returned v/\(s.at F).post enc C.prog fn apart d b again W args v W'):ReturnsInHanded a C os f .any (λw args=>(s.pre enc C.prog fn conds apart w args/\X w args)/\sizedMet enc C.prog fn s apart w args) ((s.at F).post enc C.prog fn apart d b again):=by
 refine returnsInHanded_of_calls own g l h ?_;intro w tape i _ u _ r n _;obtain⟨_,_,_,fn',m,_,_,_,_,o⟩:=r;have e:fn'=fn:=zR (m.symm.t p);subst e;obtain⟨⟨hp,hx⟩,_⟩:=n;obtain⟨ds,gs,before,hw,_,q⟩:=(OpenSpec.pre_some z conds apart _ _).1 hp;have x:=DataW.Whole.of_heap (w':=w.forCall tape i) (by rfl) hw;refine (c (w.forCall tape i) w.heap.size i.args ds gs before o x q u (y _ _ _ (by rfl) hx)).m λe W' ⟨v,he,hp⟩=>?_
 subst he;exact ChangeSpec.post_blind hp
theorem Qwd(l:s.cond=some k)(modest:Bool)(w0:G)(args:Array J)(a:Nat)(e:w0.os=os)(g:(w0.forCall (λ_ _=>0) ⟨#[],args,[]⟩).Shaped C.prog)(c:Input.okWideB C.prog (w0.forCall (λ_ _=>0) ⟨#[],args,[]⟩) f ⟨#[],args,[]⟩=true){x:List (DataW H)×List (DataW H)×List MemPlace}(m:DataW.whole enc C.prog (w0.forCall (λ_ _=>0) ⟨#[],args,[]⟩).memory fn.params.toList s.vars apart args.toList a=some x)(b:conds.all (PathCond.test C.prog ⟨fn.params.toList,x.1,s.bare.plain.varTypes C.prog,x.2.1⟩)=true)(d:k H (x.1++x.2.1)=true)(h:s.bare.sizedB enc C.prog fn apart (w0.forCall (λ_ _=>0) ⟨#[],args,[]⟩).memory args a=true)(j:X (w0.forCall (λ_ _=>0) ⟨#[],args,[]⟩).memory args):∃ (w:G) (tape:Tape) (i:Input),w.os=os/\(w.forCall tape i).Shaped C.prog/\i.vars = []/\Input.okWide C.prog (w.forCall tape i) .any w.heap.size f i/\
   ((s.pre enc C.prog fn conds apart (w.forCall tape i).memory i.args/\X (w.forCall tape i).memory i.args)/\sizedMet enc C.prog fn s apart (w.forCall tape i).memory i.args)/\({ modest:=modest }:Assume).holds C.prog (lone (Frame.enter C.prog f i.args .normal) [] (w.forCall tape i)):=
 ⟨w0,λ_ _=>0,⟨#[],args,[]⟩,e,g,(XW (base:=0) c).1,(XW c).2,
  ⟨⟨(OpenSpec.pre_some l conds apart _ _).2 ⟨x.1,x.2.1,x.2.2,DataW.Whole_of_whole m,b,d⟩,j⟩,sizedMet_of_sizedB h⟩,by
  simp only[Assume.holds]
  exact⟨by simp,by simp,λ_=>Modest.zero,by simp,by simp⟩⟩
end
end
end Go.Proofs.YtefccfakhgdfbaaGreatDoor
