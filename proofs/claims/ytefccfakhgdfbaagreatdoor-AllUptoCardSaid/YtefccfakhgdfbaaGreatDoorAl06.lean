/- Lemmas of the proof of All; their conditions stand in them. -/
import Derived.Test.YtefccfakhgdfbaaGreatDoorAl05
import Derived.Shelf.SlSortCmp.WholeK
set_option linter.unusedVariables false
set_option linter.unusedSimpArgs false
open Go.RowKit Go.Proofs.Tryz
set_option maxRecDepth 100000
set_option maxHeartbeats 4000000
namespace Go.Proofs.YtefccfakhgdfbaaGreatDoor
section
theorem Q0c(v:J)(w:G):(Instr.typeAssert (.iface 219 v) 135 219 true).run prog w=.ok (.tuple #[v,.bool true]) w:=by kernel_rfl
theorem Q4t(f:Nat->Addr)(w:G)(h:Yp w f)(r:Nat)(p:O)(i:w.heap[r]?=some (.cells #[.string p,.iface 370 (.pointer (some (f 5)))] 221 (0,0))):Calls prog 87 #[.iface 219 (.pointer (some ⟨r,0,none⟩))] w λe w'=>e=.returned (Jh 6 p)/\Bz w w':=by
 obtain⟨c0,c1,c2,c3,c4,c5,c6⟩:=h.cells;have b0:3<w.heap.size:=Qj c0;have b1:4<w.heap.size:=Qj c1;have b2:0<w.heap.size:=Qj c2;have b3:1<w.heap.size:=Qj c3;have b4:2<w.heap.size:=Qj c4;have b5:6<w.heap.size:=Qj c5;have b6:5<w.heap.size:=Qj c6;have m:=Q0c (.pointer (some ⟨r,0,none⟩));have hq:=λw=>Ql0 w 219 (.pointer (some ⟨r,0,none⟩))
 have he:=λw=>Qs4 w (f 5)
 obtain⟨W1,c⟩:=zzx (((w.alloc (.cells #[.int .i64 0,.string ⟨#[]⟩] 63)).alloc (.cells #[.nilIface,.iface 370 (.pointer (some (f 0))),.iface 370 (.pointer (some (f 1))),.iface 370 (.pointer (some (f 2))),.iface 370 (.pointer (some (f 3))),.iface 370 (.pointer (some (f 4))),.nilIface,.iface 370 (.pointer (some (f 6)))] 135)).alloc (.cells #[.pointer none] 218))
 have b:Bz w W1:=by rw[c];exact ((Qa w _).alloc (by simp) _).alloc (by simp;omega) _
 have a:W1.heap[w.heap.size]?=some (.cells #[.int .i64 0,.string ⟨#[]⟩] 63 (0,0)):=by rw[c,vW _ _ (by simp;omega),vW _ _ (by simp),zy]
 have d:=(b.block _ (Qb i)).t i;have k0:W1.cell? ⟨r,0,none⟩=some (.string p):=Qd d 0 rfl;have k1:W1.cell? ⟨r,1,none⟩=some (.iface 370 (.pointer (some (f 5)))):=Qd d 1 rfl;have k5:=(b.cell b5).t c5;have d0:=Qd a 0 rfl;have d1:=Qd a 1 rfl;have g0:=Qu a 0;have g1:=Qu a 1;obtain⟨k,j⟩:=zh2 (λn=>Zb4 (f 5) r (W1.drewN n) k1) b;have l:w.heap.size<W1.heap.size:=Qb a;have g:=zh c;clear h b a d c i
 go_enter func87,ntmps87
 go_upto_region 9 with fail
 rw[<-g.o];clear g c0 c1 c2 c3 c4 c5 c6 b0 b1 b2 b3 b4 b5 b6
 go_quiet ((go_at_call 144;exact Calls.quiet_of_same ((k.o _).m λ_ _ ⟨he,hm⟩=>⟨he,hm⟩)))
 go_wp2;refine zI (v:=Jh 6 p) (by simp[results,results87,go_sem,d0,d1]) rfl ⟨rfl,?_⟩;exact ((Q8 j.o _).setCell (zg _) _).setCell (zg _) _
theorem Zbm:(prog.info? 218).map (·.comparable)=some true:=by kernel_rfl
theorem Zbj:(prog.info? 398).map (·.size)=some 1:=by kernel_rfl
theorem Za6(f:Nat->Addr)(w:G)(h:Yp w f)(z:Qio w)(r q:Nat)(p:O)(l:w.heap[r]?=some (.cells #[.string p,.iface 218 (.pointer (some ⟨q,0,none⟩))] 221 (0,0))):Calls prog 87 #[.iface 219 (.pointer (some ⟨r,0,none⟩))] w λe w'=>e=.returned (Jh 8 p)/\Bz w w':=by
 obtain⟨ic,F,y⟩:=zP.1 Zbm;obtain⟨jc,H,K⟩:=zP.1 Zbj;obtain⟨c0,c1,c2,c3,c4,c5,c6⟩:=h.cells;have b0:3<w.heap.size:=Qj c0;have b1:4<w.heap.size:=Qj c1;have b2:0<w.heap.size:=Qj c2;have b3:1<w.heap.size:=Qj c3;have b4:2<w.heap.size:=Qj c4;have b5:6<w.heap.size:=Qj c5;have b6:5<w.heap.size:=Qj c6;have M:=Q0c (.pointer (some ⟨r,0,none⟩));have hq:=λw=>Ql0 w 219 (.pointer (some ⟨r,0,none⟩))
 have N:=λw=>Xt (P:=prog) 218 370 (.pointer (some ⟨q,0,none⟩)) (.pointer (some (f 5))) underlying135 (by decide) w
 have he:=λw=>VV (P:=prog) w ⟨q,0,none⟩ underlying135 underlying218 F y H
 obtain⟨W1,d⟩:=zzx (((w.alloc (.cells #[.int .i64 0,.string ⟨#[]⟩] 63)).alloc (.cells #[.nilIface,.iface 370 (.pointer (some (f 0))),.iface 370 (.pointer (some (f 1))),.iface 370 (.pointer (some (f 2))),.iface 370 (.pointer (some (f 3))),.iface 370 (.pointer (some (f 4))),.nilIface,.iface 370 (.pointer (some (f 6)))] 135)).alloc (.cells #[.pointer none] 218))
 have b:Bz w W1:=by rw[d];exact ((Qa w _).alloc (by simp) _).alloc (by simp;omega) _
 have g:W1.heap[w.heap.size]?=some (.cells #[.int .i64 0,.string ⟨#[]⟩] 63 (0,0)):=by rw[d,vW _ _ (by simp;omega),vW _ _ (by simp),zy]
 have t:W1.heap[w.heap.size+1+1]?=some (.cells #[.pointer none] 218 (0,0)):=by have e:=zy ((w.alloc (.cells #[.int .i64 0,.string ⟨#[]⟩] 63)).alloc (.cells #[.nilIface,.iface 370 (.pointer (some (f 0))),.iface 370 (.pointer (some (f 1))),.iface 370 (.pointer (some (f 2))),.iface 370 (.pointer (some (f 3))),.iface 370 (.pointer (some (f 4))),.nilIface,.iface 370 (.pointer (some (f 6)))] 135)) (.cells #[.pointer none] 218);rw[<-d] at e;rw[show w.heap.size+1+1=((w.alloc (.cells #[.int .i64 0,.string ⟨#[]⟩] 63)).alloc (.cells #[.nilIface,.iface 370 (.pointer (some (f 0))),.iface 370 (.pointer (some (f 1))),.iface 370 (.pointer (some (f 2))),.iface 370 (.pointer (some (f 3))),.iface 370 (.pointer (some (f 4))),.nilIface,.iface 370 (.pointer (some (f 6)))] 135)).heap.size by simp];exact e
 have j:=(b.block _ (Qb l)).t l;have L:=Qb l;have k1:W1.cell? ⟨r,1,none⟩=some (.iface 218 (.pointer (some ⟨q,0,none⟩))):=Qd j 1 rfl;have k5:=(b.cell b5).t c5;have kg:Qio W1:=(b.cell (Qj z)).t z;obtain⟨m,C,D,n,B⟩:=zh5 b j g t kg;have I:w.heap.size<W1.heap.size:=Qb g;have s:=zh d;clear h b g j d l t kg z
 go_enter func87,ntmps87
 go_upto_region 9 with fail
 rw[<-s.o];clear s c0 c1 c2 c3 c4 c5 c6 b0 b1 b2 b3 b4 b5 b6
 go_quiet (fail)
 go_upto_region 11 with fail
 obtain⟨W2,a⟩:=zzx (W1.drewN nq)
 have E:=zh a;rw[<-a];have k2:W2.cell? ⟨r,1,none⟩=some (.iface 218 (.pointer (some ⟨q,0,none⟩))):=by rw[a];exact k1
 have AS:=zh (Zcb q r (w.heap.size+1+1) W2.drew (.pointer none) (show W2.cell? _=_ by rw[a];exact B.o) k2 (show W2.cell? _=_ by rw[a];exact Qd n.o 0 rfl) (show W2.frozen? _=_ by rw[a];exact Qu n.o 0));clear a k1 k5
 go_cut [39] from 39 to 51 (λs39 wx=>s39=.bool true/\Aside (Fr (·=w.heap.size+1+1) W2 wx))
 case first=>
  go_region_law (go_simp;go_at_call 145;go_must (refine (AS.o).m ?_;rintro e w3⟨rfl,Q,x⟩;have i:=(Fr.refl (·=w.heap.size+1+1) W2).drew.t x;have K32:=zh i;have R:=i.cell k2 (show ¬ r=w.heap.size+1+1 by omega);clear x i))
  all_goals (
   go_wp2
   go_meet
   exact⟨rfl,K32.o⟩)
 case rest=>
  obtain⟨rfl,HF⟩:=hcut;have hb:Fr (·=w.heap.size+1+1) W1 wc:=by
   have:=HF.o
   rw[E.o] at this;exact ((Fr.refl _ W1).drewN nq).t this
  have c:=hb.heap D.o (show ¬ w.heap.size=w.heap.size+1+1 by omega);have u:=hb.heap C.o (show ¬ r=w.heap.size+1+1 by omega);have A:=zh (m.o.t (hb.j m.o.size λk hk e=>by omega));have d0:=Qd c 0 rfl;have d1:=Qd c 1 rfl;have g0:=Qu c 0;have g1:=Qu c 1;have m0:=Qd u 0 rfl;clear c u hb k2;go_wp2;refine zI (v:=Jh 8 p) (by simp[results,results87,go_sem,d0,d1]) rfl ⟨rfl,?_⟩;exact (A.o.setCell (zg _) _).setCell (zg _) _
def Qas(w:G)(S:Nat->Prop)(ts:List TypeId):Prop:=∀ k C t f,S k->w.heap[k]?=some (.cells C t f)->t∈ts
variable {w:G} {S:Nat->Prop} {ts:List TypeId} {C:Array J} {t:TypeId} {f:Nat×Nat}
theorem Z3(h:Qas w S ts){k:Nat}(a:w.heap[k]?=some (.cells C t f))(b:t ∉ ts):¬ S k:=λhs=>b (h k C t f hs a)
variable {g:Nat}
theorem Q1(h:w.heap[g]?=some (.cells C t f)):Qas w (·=g) [t]:=λk C' t' f' hk hc=>by
 subst hk
 rw[h] at hc
 cases hc
 exact zS.2 rfl
variable {base size:Nat} {e:TypeId} {v:J} {xs:List J}
theorem Qeo{n:Nat}(h:w.ownsRow base e size v n xs):Qas w (λk=>v.ownBlock=some k) [e]:=λk C' t' f' hk hc=>by
 obtain⟨C,hC⟩:=Qk h hk
 rw[hC] at hc
 cases hc
 exact zS.2 rfl
variable {d:Dk}
theorem Qdf(h:Q5 w g v d):Qas w (dkS g v) [116,132]:=λk C' t' f' hk hc=>by
 rcases hk with hk|hk
 .have:=Q1 h.1 k C' t' f' hk hc
  simp at this ⊢
  exact .inl this
 have:=Qeo h.2 k C' t' f' hk hc
 simp at this ⊢
 exact .inr this
def Q4f:List TypeId:=[237,147,133,3,143]
variable {gd:Nat} {ve vl vp:J} {vs:List J} {L:Lg}
theorem Qhq(h:Z2 w g gd ve vl vp vs L):Qas w (LogS g ve vl vp vs) Q4f:=λk C' t' f' hk hc=>by
 obtain⟨C,t,h1,h2⟩:=h.kinds hk
 rw[h1] at hc
 cases hc
 unfold Q4f
 simpa using h2
theorem Qas.or{T:Nat->Prop}{a b:List TypeId}(h:Qas w S a)(i:Qas w T b):Qas w (λk=>S k∨T k) (a++b):=λk C t f hk hc=>by
 rcases hk with hk|hk
 .exact ZT _ (h k C t f hk hc)
 exact VE _ (i k C t f hk hc)
variable {w':G}
theorem Q5.kept(h:Q5 w g v d)(e:Fr S w w')(a:Qas w S ts)(b:116 ∉ ts)(c:132 ∉ ts):Q5 w' g v d:=
 h.fr e λk hk=>by
  rcases hk with rfl|hk
  .exact Z3 a h.1 b
  obtain⟨C,hC⟩:=Qk h.2 hk
  exact Z3 a hC c
theorem Zm{n:Nat}(h:w.ownsRow base e size v n xs)(c:Fr S w w')(b:Qas w S ts)(a:e ∉ ts):w'.ownsRow base e size v n xs:=
 Zf h c λk hk=>by
  obtain⟨C,hC⟩:=Qk h hk
  exact Z3 b hC a
theorem Z2.kept(h:Z2 w g gd ve vl vp vs L)(d:Fr S w w')(a:Qas w S ts)(b:∀ t∈Q4f,t ∉ ts)(c:5 ∉ ts):Z2 w' g gd ve vl vp vs L:=
 h.fr d (λk hk=>by
  obtain⟨C,t,hC,ht⟩:=h.kinds hk
  exact Z3 a hC (b t (by unfold Q4f;simpa using ht))) (λk C fz hk=>Z3 a hk c)
theorem Ze(h:w.heap[g]?=some (.cells C t f))(c:Fr S w w')(b:Qas w S ts)(a:t ∉ ts):w'.heap[g]?=some (.cells C t f):=
 c.heap h (Z3 b h a)
def Zq(w:G)(g:Nat)(n:Int)(s:O):Prop:=w.heap[g]?=some (.cells #[.int .i64 n,.string s] 63 (0,0))
theorem Qb5(w:G):Zq (w.alloc (.cells #[.int .i64 0,.string ⟨#[]⟩] 63)) w.heap.size 0 ⟨#[]⟩:=zy w _
variable {n:Int} {s:O}
theorem Zq.facts(h:Zq w g n s):w.cell? ⟨g,0,none⟩=some (.int .i64 n)/\w.cell? ⟨g,1,none⟩=some (.string s)/\w.frozen? ⟨g,0,none⟩=false/\w.frozen? ⟨g,1,none⟩=false/\g<w.heap.size:=
 ⟨Qd h 0 rfl,Qd h 1 rfl,Qu h 0,Qu h 1,Qb h⟩
theorem Zq.j(h:Zq w g n s)(a:Bz w w'):Zq w' g n s:=(a.block g (Qb h)).t h
theorem Zq.kept(h:Zq w g n s)(c:Fr S w w')(b:Qas w S ts)(a:63 ∉ ts):Zq w' g n s:=Ze h c b a
theorem Qdi{m:Int}{t:O}(h:Zq w g n s):Zq ((w.setCell ⟨g,0,none⟩ (.int .i64 m)).setCell ⟨g,1,none⟩ (.string t)) g m t/\Fr (·=g) w ((w.setCell ⟨g,0,none⟩ (.int .i64 m)).setCell ⟨g,1,none⟩ (.string t)):=
 ⟨(heap_setCell (heap_setCell h _) _).t (by simp),(Fr.set1 w g 0 _).set 1 _⟩
def PlIs(w:G)(gl g:Nat):Prop:=w.heap[gl]?=some (.cells #[.pointer (some ⟨g,0,none⟩)] 187 (0,0))
def Qsm(w:G)(gd:Nat)(v:J)(d:Dk)(key:O)(B:Nat)(e:Ua)(w':G):Prop:=
 ∃ d',Q5 w' gd v d'/\Fr (·=gd) w w'/\
  ((∃ p,Hurt B d d'/\e=.returned (.tuple #[.pointer none,Jh 8 p]))∨
     (∃ (k:Nat) (p:O),Calm B d d'/\Yu d.files key (.bad k p)/\e=.returned (.tuple #[.pointer none,Jh k p]))∨
     (∃ es n gl g,Calm B d d'/\Yu d.files key (.good es n)/\e=.returned (.tuple #[.pointer (some ⟨gl,0,none⟩),Jh 0 ⟨#[]⟩])/\PlIs w' gl g/\w.heap.size<=gl/\Qji w gd key es g w'))
variable {w1 w2:G} {key:O} {es:Uc}
theorem Qji.kept{S:Nat->Prop}{ts:List TypeId}(h:Qji w gd key es g w1)(i:Fr S w1 w2)(f:Qas w1 S ts)(d:∀ t∈Q4f,t ∉ ts)(e:5 ∉ ts):Qji w gd key es g w2:=by obtain⟨ve,vl,vs,a,b,c⟩:=h;exact⟨ve,vl,vs,a.kept i f d e,b,c⟩
theorem Qji.j(h:Qji w gd key es g w1)(d:Bz w1 w2):Qji w gd key es g w2:=by obtain⟨ve,vl,vs,a,b,c⟩:=h;exact⟨ve,vl,vs,a.j d,b,c⟩
theorem Qlm{w0 w3:G}{v:J}{d':Dk}(b:w0=w.alloc (.cells #[.int .i64 0,.string ⟨#[]⟩] 63))(h:Q5 w1 gd v d')(d:Fr (·=gd) w0 w1)(i:gd<w.heap.size)(g:Qas w0 (·=gd) [116])(c:Bz w1 w2):Zq w2 w.heap.size 0 ⟨#[]⟩/\∀ n s,w3=(w2.setCell ⟨w.heap.size,0,none⟩ (.int .i64 n)).setCell ⟨w.heap.size,1,none⟩ (.string s)->Q5 w3 gd v d'/\Fr (·=gd) w w3/\Fr (·=w.heap.size) w2 w3/\Qas w2 (·=w.heap.size) [63]:=by
 have t0:Zq w0 w.heap.size 0 ⟨#[]⟩:=by rw[b];exact Qb5 w
 have t1:Zq w1 w.heap.size 0 ⟨#[]⟩:=t0.kept d g (by decide);have t2:=t1.j c;refine⟨t2,λn s e=>?_⟩;have ts:=Qdi (m:=n) (t:=s) t2;rw[<-e] at ts;have a:=Q1 t2;refine⟨(h.j c).kept ts.2 a (by decide) (by decide),?_,ts.2,a⟩;have f:Fr (·=gd) w w0:=by rw[b];exact Fr.ofBelow (Qa w _)
 exact (f.t (d.t (Fr.ofBelow c))).step ts.2 λk g e=>by subst e;omega
theorem Qwo(f:Nat->Addr)(w:G)(C:Nat)(v:J)(d:Dk)(key:O)(M:Q5 w C v d)(N:Nat)(Q:Qbj f (·=C) w)(R:FewB d.files N)(S:N<=262144)(U:d.calls<900000000000)(L:∀ b∈d.files,b.2.size<=1048576)(P:key.size<=9223372036854775807):Calls prog 73 #[.pointer (some ⟨C,0,none⟩),.string key] w (Qsm w C v d key (8*N+16)):=by
 obtain⟨w0,B⟩:=zzx (w.alloc (.cells #[.int .i64 0,.string ⟨#[]⟩] 63))
 have A:Bz w w0:=by rw[B];exact Qa w _
 have E:=Q.j A;have D:=M.j A;have hg:=M.lt;have F:w.heap.size<=w0.heap.size:=A.size;obtain⟨HK,HE,HC,y⟩:=zh4 (Q1 D.1) E (Q6z f w0 C v d key D N E R S U L P) B;clear M Q E D R L A
 go_enter func73,ntmps73
 go_wp2_with fail
 rw[<-B];clear B
 go_at_call 119
 refine HC.o.m ?_;rintro e w1⟨d',I,z,h⟩;obtain⟨HD,HF⟩:=zh2 I z;have K:=HE.o.fr z;have x:=zh K;have T:=z.size;clear I z K;rcases h with⟨q,m,r,p,h1,rfl,_,_,h2,h3⟩|⟨h1,h2,rfl⟩|⟨h1,h2,rfl⟩|⟨p,r,h1,h2,rfl,_,h3⟩|⟨es,n,g,h1,h2,rfl,h3⟩
 .have HX:=zh (Za6 f w1 x.o.sents x.o.errT r q p h3)
  have H1:=zh h1;clear h1 h2 h3
  go_wp2_with (go_at_call 87;refine HX.o.m ?_;rintro e w2⟨rfl,j⟩;have t:=zh j;clear j;obtain⟨s,l⟩:=Qlm (w3:=(w2.setCell ⟨w.heap.size,0,none⟩ (.int .i64 8)).setCell ⟨w.heap.size,1,none⟩ (.string p)) y.o HD.o HF.o hg HK.o t.o;have i:=zh (l 8 p rfl);obtain⟨t0,t1,t2,t3,t4⟩:=s.facts;clear s l)
  refine zI (v:=.tuple #[.pointer none,Jh 8 p]) (by simp[results,results73,go_sem,t0,t1]) rfl ⟨d',i.o.1,i.o.2.1,.inl ⟨p,H1.o,rfl⟩⟩
 .have u:=Qhg f w1 x.o.sents 2 (by decide) (by decide)
  rw[show ((Qc2 2:Nat):Int)=3 from rfl] at u;have HX:=zh u;clear u;obtain⟨H1,H2⟩:=zh2 h1 h2;clear h1 h2
  go_wp2_with (go_at_call 87;refine HX.o.m ?_;rintro e w2⟨rfl,j⟩;have t:=zh j;clear j;obtain⟨s,l⟩:=Qlm (w3:=(w2.setCell ⟨w.heap.size,0,none⟩ (.int .i64 3)).setCell ⟨w.heap.size,1,none⟩ (.string ⟨#[]⟩)) y.o HD.o HF.o hg HK.o t.o;have i:=zh (l 3 _ rfl);obtain⟨t0,t1,t2,t3,t4⟩:=s.facts;clear s l)
  refine zI (v:=.tuple #[.pointer none,Jh 3 ⟨#[]⟩]) (by simp[results,results73,go_sem,t0,t1]) rfl ⟨d',i.o.1,i.o.2.1,.inr (.inl ⟨3,_,H1.o,H2.o,rfl⟩)⟩
 .have u:=Qhg f w1 x.o.sents 4 (by decide) (by decide)
  rw[show ((Qc2 4:Nat):Int)=5 from rfl] at u;have HX:=zh u;clear u;obtain⟨H1,H2⟩:=zh2 h1 h2;clear h1 h2
  go_wp2_with (go_at_call 87;refine HX.o.m ?_;rintro e w2⟨rfl,j⟩;have t:=zh j;clear j;obtain⟨s,l⟩:=Qlm (w3:=(w2.setCell ⟨w.heap.size,0,none⟩ (.int .i64 5)).setCell ⟨w.heap.size,1,none⟩ (.string ⟨#[]⟩)) y.o HD.o HF.o hg HK.o t.o;have i:=zh (l 5 _ rfl);obtain⟨t0,t1,t2,t3,t4⟩:=s.facts;clear s l)
  refine zI (v:=.tuple #[.pointer none,Jh 5 ⟨#[]⟩]) (by simp[results,results73,go_sem,t0,t1]) rfl ⟨d',i.o.1,i.o.2.1,.inr (.inl ⟨5,_,H1.o,H2.o,rfl⟩)⟩
 .have HX:=zh (Q4t f w1 x.o.sents r p h3)
  obtain⟨H1,H2⟩:=zh2 h1 h2;clear h1 h2 h3
  go_wp2_with (go_at_call 87;refine HX.o.m ?_;rintro e w2⟨rfl,j⟩;have t:=zh j;clear j;obtain⟨s,l⟩:=Qlm (w3:=(w2.setCell ⟨w.heap.size,0,none⟩ (.int .i64 6)).setCell ⟨w.heap.size,1,none⟩ (.string p)) y.o HD.o HF.o hg HK.o t.o;have i:=zh (l 6 p rfl);obtain⟨t0,t1,t2,t3,t4⟩:=s.facts;clear s l)
  refine zI (v:=.tuple #[.pointer none,Jh 6 p]) (by simp[results,results73,go_sem,t0,t1]) rfl ⟨d',i.o.1,i.o.2.1,.inr (.inl ⟨6,_,H1.o,H2.o,rfl⟩)⟩
 have HX:=λw2 (hb:Bz w1 w2)=>Qsa f w2 (x.o.j hb).sents
 obtain⟨HX,H1,H2,H3⟩:=zh4 HX h1 h2 h3;clear h1 h2 h3
 go_wp2_with (go_at_call 87;refine (HX.o _ (Qa w1 _)).m ?_;rintro e w2⟨rfl,j⟩;obtain⟨t,H⟩:=zh2 j ((Qa w1 (.cells #[.pointer (some ⟨g,0,none⟩)] 187)).t (j.m (by simp)));clear j;obtain⟨s,l⟩:=Qlm (w3:=(w2.setCell ⟨w.heap.size,0,none⟩ (.int .i64 0)).setCell ⟨w.heap.size,1,none⟩ (.string ⟨#[]⟩)) y.o HD.o HF.o hg HK.o H.o;have i:=zh (l 0 _ rfl);obtain⟨t0,t1,t2,t3,t4⟩:=s.facts;clear s l)
 refine zI (v:=.tuple #[.pointer (some ⟨w1.heap.size,0,none⟩),Jh 0 ⟨#[]⟩]) (by simp[results,results73,go_sem,t0,t1]) rfl ⟨d',i.o.1,i.o.2.1,.inr (.inr ⟨es,n,w1.heap.size,g,H1.o,H2.o,rfl,?_,zi F T,?_⟩)⟩
 .have hp:PlIs w2 w1.heap.size g:=(t.o.block _ (by simp)).t (zy w1 _)
  exact Ze hp i.o.2.2.1 i.o.2.2.2 (by decide)
 obtain⟨ve,vl,vs,a,b,c⟩:=(H3.o.j H.o).kept i.o.2.2.1 i.o.2.2.2 (by decide) (by decide);exact⟨ve,vl,vs,a,zi F b,λk hk=>zi F (c k hk)⟩
theorem Quy(w:G)(b g a:Nat)(d f i:J)(j:List J)(L:Lg)(c:PlIs w b g)(h:Z2 w g a d f i j L):Calls prog 74 #[.pointer (some ⟨b,0,none⟩)] w λe w'=>e=.returned (.int .i64 L.entries.length)/\w=w':=by
 have c0:=Qd c 0 rfl;have HC:=zh (Q2w w g a d f i j L h);clear c h
 go_enter func74,ntmps74
 go_wp2_with (go_at_call 125;refine HC.o.m ?_;rintro e w'⟨rfl,rfl⟩)
 go_ret;exact⟨rfl,rfl⟩
theorem J5(l:List Fil)(p:O):(J1 l p = -1/\getF l p=none)∨∃ (k:Nat) (b:O),k<l.length/\J1 l p=(k:Int)/\l[k]?=some (p,b)/\getF l p=some b:=by
 by_cases h:Yk l p<l.length
 .refine .inr ⟨Yk l p,(l[Yk l p]'h).2,h,by unfold J1;rw[zD h],?_,Qlr h⟩
  have h2:(l[Yk l p]'h).1=p:=by
   have:=zas (w:=h)
   exact vv this
  rw[ze h];exact zB some (Prod.ext h2 rfl)
 exact .inl ⟨by unfold J1;rw[zw h],Qei h⟩
variable {l l' W:List Fil} {c:O} {f:Fil}
theorem Q76(h:Qwh l l' W c)(d:Once l)(a:f∈l):∃ b,getF l' f.1=some b/\(b=f.2∨(f.1=sOf kCp/\b=c)):=by
 have hg:=Qn5 d a;rcases h f.1 with e|⟨e,_⟩|⟨e,e2⟩
 .exact⟨f.2,e.t hg,.inl rfl⟩
 .rw[hg] at e;cases e
 exact⟨c,e2,.inr ⟨e,rfl⟩⟩
theorem Q80(h:Qwh l l' W c)(g:Once l')(a:Qyz W)(d:f∈l'):getF l f.1≠none∨getF W f.1=some f.2∨(f.1=sOf kCp/\f.2=c):=by
 have hg:=Qn5 g d;rcases h f.1 with e|⟨_,b,e1,e2⟩|⟨e,e2⟩
 .exact .inl (by rw[<-e,hg];simp)
 .rw[hg] at e2
  cases e2;refine .inr (.inl ?_);cases hx:getF W f.1 with
  | none=>exact absurd rfl (Qey.1 hx _ e1)
  | some b=>rw[a _ _ _ e1 (Jw hx)]
 rw[hg] at e2;cases e2;exact .inr (.inr ⟨e,rfl⟩)
theorem Q9m{k a:List Fil}(h:Qwh l l' W c)(e:getF k=getF l)(b:getF a=getF l'):Qwh k a W c:=λp=>by
 rw[e,b]
 exact h p
structure Wm where
 key:O
 d:Dk
 l:Y Lg
 es:List O
 pub:Int
 failed:Bool
 foreign:Bool
structure Qe4(m:Wm)(U:List Nat)(K:Nat):Prop where
 sane:Sane m.d U K
 run:∀ L,m.l=some L->Runs m.d L.entries L.put m.failed U/\Qe7 (Zc L.entries) L.put/\L.entries=lists m.es/\L.levels=levels L.entries/\L.failed=m.failed/\L.key=m.key
variable {m:Wm} {U:List Nat} {K K':Nat}
theorem Qe4.more(h:Qe4 m U K)(x:Nat)(a:K<=K'):Qe4 m (x :: U) K':=
 ⟨h.sane.grow x a,λL hL=>⟨(h.run L hL).1.more x,(h.run L hL).2⟩⟩
theorem Qe4.bound(h:Qe4 m U K)(a:K<=K'):Qe4 m U K':=⟨h.sane.more a,h.run⟩
variable {d':Dk} {k:Nat}
theorem Qt1{d:Dk}(h:Hurt k (Qk5 d) d'):False:=by
 have:=h.why
 simp[Qk5] at this
theorem Q7x{n:Nat}{ss:List O}(h:Qe4 m U K)(f:U.length<1048576)(c:Calm k (Qk5 m.d) d')(g:Yu m.d.files m.key (.good (lists ss) n))(e:Bool):Qe4 ⟨m.key,d',some ⟨m.key,lists ss,levels (lists ss),[],false⟩,ss,n,false,e⟩ U (K+k):=by
 have hs:Sane d' U (K+k):=h.sane.mend.calm c;refine⟨hs,λL hL=>?_⟩;cases hL;have hf:d'.files=m.d.files:=c.files;exact⟨Q47 hs c.dead c.hit f (by rw[hf];exact g),⟨zE _,λa b r ha=>by simp at ha⟩,rfl,rfl,rfl,rfl⟩
theorem Q4o(h:Qe4 m U K)(c:Calm k (Qk5 m.d) d')(a:Bool):Qe4 ⟨m.key,d',none,m.es,m.pub,false,a⟩ U (K+k):=
 ⟨h.sane.mend.calm c,λL hL=>by cases hL⟩
theorem Q2e(h:Qe4 m U K)(a:Nat)(x y:Bool):Qe4 { m with d:=Qg9 m.d a x y } U K:=
 ⟨h.sane.fault a x y,λL hL=>⟨(h.run L hL).1.fault a x y,(h.run L hL).2⟩⟩
theorem Qvo(h:Qe4 m U K)(a:m.l=none)(c:Calm k m.d d'):Qe4 { m with d:=d' } U (K+k):=
 ⟨h.sane.calm c,λL hL=>by rw[show m.l=some L from hL] at a;cases a⟩
theorem Q34(h:Qe4 m U K)(a:m.l=none)(c:Hurt k m.d d'):Qe4 { m with d:=d' } U (K+k):=
 ⟨h.sane.hurt c,λL hL=>by rw[show m.l=some L from hL] at a;cases a⟩
theorem Qy3{s:O}(h:Qe4 m U K)(b:m.l=some L)(a:m.failed=false)(c:s.size<=20):Qe4 { m with l:=some { L with entries:=L.entries ++ [s.data.toList],levels:=levels (L.entries ++ [s.data.toList]) },es:=m.es ++ [s] } (L.entries.length / 4 :: U) K:=by
 obtain⟨h1,h2,h3,h4,h5,h6⟩:=h.run L b;refine⟨h.sane.grow _ (zg _),λL2 hL2=>?_⟩;cases hL2;rw[a] at h1;have hr:=Qyg s.data.toList h1 (by simpa using c);refine⟨by show Runs m.d _ _ m.failed _;rw[a];exact hr,(hr.live rfl).2.mark,?_,rfl,h5,h6⟩;show L.entries ++ [s.data.toList]=lists (m.es ++ [s]);rw[h3];simp[lists]
theorem Qvr(R:List Uc):∀ (k n:Nat) (put:List Nat) (d:Dk),k+n=R.length->Qe7 R put->Qe7 R (pubJ n (R.drop n) put d).2.1
 | 0,n,put,d,hn,h=>by
   rw[Vx (by omega)]
   exact h
 | k+1,n,put,d,hn,h=>by
   have a:n<R.length:=by omega
   rw[zZ a,pubJ]
   have hr:R[n]?=some R[n]:=ze a
   have hx:=h.next hr (Qpp ((n:Int)-1) R[n] ((put++List.replicate (n+1-put.length) 0).getD n 0 / 4) d)
   split
   .exact hx
   exact Qvr R k (n+1) _ _ (by omega) hx
theorem Q7q{es:Uc}{a:List Nat}(key:O)(d:Dk)(h:Qe7 (Zc es) a):Qe7 (Zc es) (pubD es key a d).2.1:=by
 have:=Qvr (Zc es) (Zc es).length 0 a d (by omega) h
 rw[Vm] at this;unfold pubD
 split <;> exact this
theorem Quu(h:Qe4 m U K)(e:U.length<=16384)(c:m.l=some L)(f:m.failed=false)(g:Qbr (Y9 L.entries) m.d.files)(a:Int)(b:Bool):Qe4 ⟨m.key,(pubD L.entries L.key L.put m.d).1,some { L with put:=(pubD L.entries L.key L.put m.d).2.1,failed:=(pubD L.entries L.key L.put m.d).2.2.isSome },m.es,a,(pubD L.entries L.key L.put m.d).2.2.isSome,b⟩ U (K+1048576):=by
 obtain⟨h1,h2,h3,h4,h5,h6⟩:=h.run L c;rw[f] at h1;obtain⟨r1,r2⟩:=Qvy L.key h.sane h1 e g;refine⟨r1,λL2 hL2=>?_⟩;cases hL2;exact⟨r2,Q7q _ _ h2,h3,h4,rfl,h6⟩
def Qjd(m:Wm)(U:List Nat)(K:Nat):Prop:=m.foreign=true∨(m.foreign=false/\Qe4 m U K)
abbrev Q3f(m:Wm)(L:Lg)(s:O):Wm:={ m with l:=some { L with entries:=L.entries ++ [s.data.toList],levels:=levels (L.entries ++ [s.data.toList]) },es:=m.es ++ [s] }
abbrev pubW(m:Wm)(L:Lg):Wm:=⟨m.key,(pubD L.entries L.key L.put m.d).1,some { L with put:=(pubD L.entries L.key L.put m.d).2.1,failed:=(pubD L.entries L.key L.put m.d).2.2.isSome },m.es,m.es.length,m.failed,false⟩
def AppQ(m:Wm)(L:Lg)(s:O)(m':Wm):Prop:=(20<s.size/\m'=m)∨(L.failed=true/\m'=m)∨(s.size<=20/\m'=Q3f m L s)
def PubQ(m:Wm)(L:Lg)(m':Wm):Prop:=Qbr (Y9 L.entries) m.d.files->(pubD L.entries L.key L.put m.d).2.2=none->m'=pubW m L
def Zbd(m m':Wm):Prop:=∃ d' k,Calm k (Qk5 m.d) d'/\((∃ ss n,Yu m.d.files m.key (.good (lists ss) n)/\m'=⟨m.key,d',some ⟨m.key,lists ss,levels (lists ss),[],false⟩,ss,n,false,m.foreign⟩)∨((∃ kn q,Yu m.d.files m.key (.bad kn q))/\m'=⟨m.key,d',none,m.es,m.pub,false,m.foreign⟩))
structure Pl where
 gw:Nat
 gd:Nat
 v:J
 en:J
 gl:Nat
 g:Nat
 ve:J
 vl:J
 vp:J
 vs:List J
def plV(p:Pl):Y Lg->J
 | none=>.pointer none
 | some _=>.pointer (some ⟨p.gl,0,none⟩)
def Qez(p:Pl)(m:Wm):Array J:=#[.pointer (some ⟨p.gd,0,none⟩),.string m.key,plV p m.l,p.en,.int .i64 m.pub,.bool m.failed,.bool m.foreign]
structure Qa6(w:G)(p:Pl)(m:Wm):Prop where
 cells:w.heap[p.gw]?=some (.cells (Qez p m) 53 (0,0))
 disk:Q5 w p.gd p.v m.d
 ents:Qq w 0 p.en m.es
 log:∀ L,m.l=some L->PlIs w p.gl p.g/\Z2 w p.g p.gd p.ve p.vl p.vp p.vs L
def WdS(p:Pl)(m:Wm)(k:Nat):Prop:=k=p.gw∨dkS p.gd p.v k∨p.en.ownBlock=some k∨(m.l.isSome=true/\(k=p.gl∨LogS p.g p.ve p.vl p.vp p.vs k))
variable {p:Pl}
theorem Qa6.j(h:Qa6 w p m)(a:Bz w w'):Qa6 w' p m where
 cells:=(a.block _ (Qb h.cells)).t h.cells
 disk:=h.disk.j a
 ents:=Qn h.ents a
 log L hL:=⟨(a.block _ (Qb (h.log L hL).1)).t (h.log L hL).1,(h.log L hL).2.j a⟩
theorem Qa6.fr{S:Nat->Prop}(h:Qa6 w p m)(b:Fr S w w')(a:∀ k,WdS p m k->¬ S k)(c:Qc4 w S):Qa6 w' p m where
 cells:=b.heap h.cells (a _ (.inl rfl))
 disk:=h.disk.fr b λk hk=>a k (.inr (.inl hk))
 ents:=Zf h.ents b λk hk=>a k (.inr (.inr (.inl hk)))
 log L hL:=⟨b.heap (h.log L hL).1 (a _ (.inr (.inr (.inr ⟨by rw[hL];rfl,.inl rfl⟩)))),
  (h.log L hL).2.fr b (λk hk=>a k (.inr (.inr (.inr ⟨by rw[hL];rfl,.inr hk⟩)))) c⟩
theorem Qa6.noBytes(h:Qa6 w p m):Qc4 w (WdS p m):=by
 intro k C fz hk hs;rcases hs with rfl|hs|hs|⟨hl,rfl|hs⟩
 .exact Zz hk h.cells (by decide) rfl
 .exact h.disk.noBytes k C fz hk hs
 .obtain⟨C',hC⟩:=Qk h.ents hs
  exact Zz hk hC (by decide) rfl
 .obtain⟨L,hL⟩:=VJ.1 hl
  exact Zz hk (h.log L hL).1 (by decide) rfl
 obtain⟨L,hL⟩:=VJ.1 hl;exact (h.log L hL).2.noBytes k C fz hk hs
theorem Qa6.heads(h:Qa6 w p m):(w.cell? ⟨p.gw,0,none⟩=some (.pointer (some ⟨p.gd,0,none⟩))/\w.cell? ⟨p.gw,1,none⟩=some (.string m.key)/\w.cell? ⟨p.gw,2,none⟩=some (plV p m.l)/\w.cell? ⟨p.gw,3,none⟩=some p.en/\w.cell? ⟨p.gw,4,none⟩=some (.int .i64 m.pub)/\
   w.cell? ⟨p.gw,5,none⟩=some (.bool m.failed)/\w.cell? ⟨p.gw,6,none⟩=some (.bool m.foreign))/\∀ i,w.frozen? ⟨p.gw,i,none⟩=false:=
 ⟨⟨Qd h.cells 0 rfl,Qd h.cells 1 rfl,Qd h.cells 2 rfl,Qd h.cells 3 rfl,Qd h.cells 4 rfl,Qd h.cells 5 rfl,Qd h.cells 6 rfl⟩,λi=>Qu h.cells i⟩
variable {v':J}
theorem Qa6.diskStep(h:Qa6 w p m)(b:Q5 w' p.gd v' d')(a:Fr (dkS p.gd p.v) w w'):Qa6 w' { p with v:=v' } { m with d:=d' } where
 cells:=Ze h.cells a (Qdf h.disk) (by decide)
 disk:=b
 ents:=Zm h.ents a (Qdf h.disk) (by decide)
 log L hL:=⟨Ze (h.log L hL).1 a (Qdf h.disk) (by decide),(h.log L hL).2.kept a (Qdf h.disk) (by decide) (by decide)⟩
theorem Q9k{g:Nat}{v:J}(h:Fr (·=g) w w'):Fr (dkS g v) w w':=h.weak λ_ _ e=>.inl e
variable {m':Wm}
theorem Qa6.ownStep{p':Pl}(h:Qa6 w p m)(a:Fr (·=p.gw) w w')(e:w'.heap[p.gw]?=some (.cells (Qez p' m') 53 (0,0)))(b:p'.gw=p.gw/\p'.gd=p.gd/\p'.v=p.v/\m'.d=m.d)(f:Qq w 0 p'.en m'.es)(c:∀ L,m'.l=some L->PlIs w p'.gl p'.g/\Z2 w p'.g p'.gd p'.ve p'.vl p'.vp p'.vs L):Qa6 w' p' m' where
 cells:=by rw[b.1];exact e
 disk:=by rw[b.2.1,b.2.2.1,b.2.2.2];exact h.disk.kept a (Q1 h.cells) (by decide) (by decide)
 ents:=Zm f a (Q1 h.cells) (by decide)
 log L hL:=⟨Ze (c L hL).1 a (Q1 h.cells) (by decide),(c L hL).2.kept a (Q1 h.cells) (by decide) (by decide)⟩
variable {ve' vl' vp':J} {vs':List J}
theorem Qa6.bothStep{L c:Lg}(h:Qa6 w p m)(a:m.l=some L)(e:Q5 w' p.gd v' d')(f:Z2 w' p.g p.gd ve' vl' vp' vs' c)(b:Fr (Qaf p.g p.gd p.v p.ve p.vl p.vp p.vs) w w'):Qa6 w' { p with v:=v',ve:=ve',vl:=vl',vp:=vp',vs:=vs' } { m with d:=d',l:=some c }:=by
 have hk:Qas w (Qaf p.g p.gd p.v p.ve p.vl p.vp p.vs) _:=(Qdf h.disk).or (Qhq (h.log L a).2);refine⟨?_,e,Zm h.ents b hk (by decide),λL2 hL2=>?_⟩
 .have h1:=Ze h.cells b hk (by decide)
  rw[h1];unfold Qez;rw[a];rfl
 cases hL2;exact⟨Ze (h.log L a).1 b hk (by decide),f⟩
theorem Q9a(h:Sub w (Qaf p.g p.gd p.v p.ve p.vl p.vp p.vs) (Qaf p.g p.gd v' ve' vl' vp' vs'))(a:m.l.isSome=true):Sub w (WdS p m) (WdS { p with v:=v',ve:=ve',vl:=vl',vp:=vp',vs:=vs' } m'):=λk hk=>by
 rcases hk with hk|hk|hk|⟨_,hk|hk⟩
 .exact .inl (.inl hk)
 .rcases h k (.inl hk) with (h1|h1)|h1
  .exact .inl (.inr (.inl h1))
  .exact .inl (.inr (.inr (.inr ⟨a,.inr h1⟩)))
  exact .inr h1
 .exact .inl (.inr (.inr (.inl hk)))
 .exact .inl (.inr (.inr (.inr ⟨a,.inl hk⟩)))
 rcases h k (.inr hk) with (h1|h1)|h1
 .exact .inl (.inr (.inl h1))
 .exact .inl (.inr (.inr (.inr ⟨a,.inr h1⟩)))
 exact .inr h1
theorem Qyn(b:m.l.isSome=true){k:Nat}(a:Qaf p.g p.gd p.v p.ve p.vl p.vp p.vs k):WdS p m k:=by
 rcases a with a|a
 .exact .inr (.inl a)
 exact .inr (.inr (.inr ⟨b,.inr a⟩))
section
open Go.RowKit Go.Sort
def cfF(x y:O×O):Int:=if Op.bytesLess x.1.toList y.1.toList=true then -1 else if Op.bytesLess y.1.toList x.1.toList=true then 1 else 0
theorem Q39(x y:O×O):ltOf cfF x y=ltStr x.1.toList y.1.toList:=by
 unfold ltOf cfF ltStr;rw[bytesLess_eq,bytesLess_eq];by_cases h:x.1.toList<y.1.toList
 .simp[h]
 by_cases h2:y.1.toList<x.1.toList
 .simp[h,h2]
 simp[h,h2]
theorem Zcg:SWO (ltOf cfF) where
 irrefl x:=by rw[Q39];exact swo_ltStr.irrefl _
 trans x y z h1 h2:=by rw[Q39] at *;exact swo_ltStr.trans _ _ _ h1 h2
 ntrans x y z h1 h2:=by rw[Q39] at *;exact swo_ltStr.ntrans _ _ _ h1 h2
theorem Qzb{a:Array J}{t:Nat}{v:J}(h:a[t]?=some v):a[t]! = v:=by obtain⟨h1,h2⟩:=V0.1 h;rw[getElem!_pos a t h1,h2]
theorem Qq9(l:List (O×O)):flatK Qah 2 l.toArray=(Zs l).toArray:=by
 refine ext_get! (by simp[Jq]) λt ht=>?_
 have b:t<l.length*2:=by simpa using ht
 have hj:t / 2<l.length:=by omega
 obtain⟨f,hf⟩:∃ f,l[t / 2]?=some f:=⟨_,ze hj⟩
 obtain⟨h1,h2⟩:=Qa1 l (t / 2) f hf;rw[get_flatK _ _ _ _ (by simpa using b)];have e:l.toArray[t / 2]! = f:=by
  rw[getElem!_pos l.toArray (t / 2) (by simpa using hj)]
  have:=(zj.1 hf).2
  simpa using this
 rw[e];rcases Xv t with hm|hm
 .rw[hm]
  have a:t / 2*2=t:=by omega
  rw[a] at h1;rw[Qzb (v:=.string f.1) (by simpa using h1)];rfl
 rw[hm];have a:t / 2*2+1=t:=by omega
 rw[a] at h2;rw[Qzb (v:=.string f.2) (by simpa using h2)];rfl
variable {w:G} {blk:Nat} {cur:Array J} {e:TypeId} {l:List (O×O)}
theorem Qy0(b:w.heap[blk]?=some (.cells cur e (0,0)))(c:cur.toList.take (l.length*2)=Zs l):HoldsK Qah 2 w blk 0 l.toArray:=by
 unfold HoldsK;rw[Qq9];intro j hj;have a:j<l.length*2:=by simpa [Jq] using hj
 refine⟨?_,by simp[World.frozen?,b]⟩;have h1:(cur.toList.take (l.length*2))[j]?=(Zs l)[j]?:=by rw[c]
 rw[zH a] at h1;rw[V4,Vw w blk j cur e (0,0) b,<-Xd,h1];have h2:(Zs l)[j]?=some ((Zs l)[j]'(by rw[Jq];exact a)):=ze _;rw[h2];have h3:(Zs l).toArray[j]?=some ((Zs l)[j]'(by rw[Jq];exact a)):=by rw[zae];exact h2
 rw[Qzb h3];rfl
variable {m:Nat} {os:Array Obj}
theorem Qwi{a:Nat×Nat}(d:Array (O×O))(b:w.heap[blk]?=some (.cells cur e a)):(sortWorldK Qah 2 w blk 0 m d os).heap[blk]?=some (.cells (putCells id 0 (flatK Qah 2 d) cur) e a):=by
 have hg:blk<w.heap.size:=(V0.1 b).1;unfold sortWorldK putRowK;rw[zao _ _ (by simpa [putRow,mapBlock,Sort.ahead] using hg)];simp[putRow,mapBlock,Sort.ahead,xi,b,onCells]
theorem Q4l(d:Array (O×O)):Fr (·=blk) w (sortWorldK Qah 2 w blk 0 m d os):=by
 refine⟨rfl,rfl,rfl,by simp[sortWorldK,putRowK,putRow,mapBlock,Sort.ahead,grow],λk hk hne=>?_⟩;unfold sortWorldK putRowK;rw[zao _ _ (by simpa [putRow,mapBlock,Sort.ahead] using hk)]
 have:blk≠k:=λe=>hne e.symm
 simp[putRow,mapBlock,Sort.ahead,xi,this]
theorem Q3v(a:Array J)(xs:List J)(h:xs.length<=a.size):(putCells id 0 xs.toArray a).toList.take xs.length=xs:=by
 apply XP;intro j;by_cases hj:j<xs.length
 .rw[zH hj,Xd]
  simp[putCells,hj,show j<a.size by omega]
 rw[List.getElem?_take_eq_none (by omega),vq (by omega)]
theorem Qoi{base c n:Nat}{l':List (O×O)}{t:TypeId}(h:w.ownsRow base t 2 (.slice (some ⟨blk,0,none⟩) n c) n (Zs l))(f:n=l.length)(d:l'.length=l.length):(sortWorldK Qah 2 w blk 0 m l'.toArray os).ownsRow base t 2 (.slice (some ⟨blk,0,none⟩) n c) n (Zs l'):=by
 rcases h.2 with⟨e,_⟩|⟨b,cp,cur,e,a,hb,r1,r2,r3,r4⟩
 .cases e
 cases e;refine⟨by rw[Jq,d,f],.inr ⟨_,_,_,rfl,a,Qwi _ hb,r1,r2,by simp[putCells,r3],?_⟩⟩;rw[Qq9];have h1:n*2=(Zs l').length:=by rw[Jq,d,f]
 rw[h1];refine Q3v cur (Zs l') ?_;rw[<-h1,r3];exact ZA _ r1
theorem Qy6{d d':Array (O×O)}(h:PermIn 0 d.size d d'):d'.toList.Perm d.toList:=by obtain⟨h1,_,h2⟩:=h;rw[show d'.extract 0 d.size=d' by rw[<-h1];simp] at h2;simpa using h2
end
end
end Go.Proofs.YtefccfakhgdfbaaGreatDoor
namespace Go.Proofs
open Go.Shelf
def Tryz.sortFile_ren:Go.Shelf.Ren:=⟨fun|6=>132|15=>172|14=>171|28=>212|29=>213|20=>204|21=>205|22=>206|23=>207|24=>208|25=>209|26=>210|27=>211|46=>233|47=>234|48=>235|49=>236|50=>237|57=>258|n=>n,fun|22=>32|24=>132|25=>208|3=>3|39=>226|0=>0|53=>199|55=>225|4=>4|46=>302|45=>301|50=>306|5=>5|9=>9|66=>335|70=>299|76=>356|77=>357|n=>n,fun|n=>n⟩
theorem Tryz.sortFile:Go.Proofs.SlLaysF0.n6 prog sortFile_ren:={
 mixed:=by kernel_rfl
 f6:=⟨f132.name,by decide,func132.t (congrArg some (by kernel_rfl))⟩
 f14:=⟨f171.name,by decide,func171.t (congrArg some (by kernel_rfl))⟩
 f15:=func172.t (congrArg some (by kernel_rfl))
 f20:=⟨f204.name,by decide,func204.t (congrArg some (by kernel_rfl))⟩
 f21:=⟨f205.name,by decide,func205.t (congrArg some (by kernel_rfl))⟩
 f22:=⟨f206.name,by decide,func206.t (congrArg some (by kernel_rfl))⟩
 f23:=⟨f207.name,by decide,func207.t (congrArg some (by kernel_rfl))⟩
 f24:=⟨f208.name,by decide,func208.t (congrArg some (by kernel_rfl))⟩
 f25:=⟨f209.name,by decide,func209.t (congrArg some (by kernel_rfl))⟩
 f26:=⟨f210.name,by decide,func210.t (congrArg some (by kernel_rfl))⟩
 f27:=⟨f211.name,by decide,func211.t (congrArg some (by kernel_rfl))⟩
 f28:=func212.t (congrArg some (by kernel_rfl))
 f29:=func213.t (congrArg some (by kernel_rfl))
 f46:=⟨f233.name,by decide,func233.t (congrArg some (by kernel_rfl))⟩
 f47:=func234.t (congrArg some (by kernel_rfl))
 f48:=func235.t (congrArg some (by kernel_rfl))
 f49:=⟨f236.name,by decide,func236.t (congrArg some (by kernel_rfl))⟩
 f50:=⟨f237.name,by decide,func237.t (congrArg some (by kernel_rfl))⟩
 f57:=⟨f258.name,by decide,func258.t (congrArg some (by kernel_rfl))⟩
 t0:=underlying0
 a0:=isAgg0
 z0:=sizeOf0
 v0:=zeroValue0
 t3:=underlying3
 a3:=isAgg3
 z3:=sizeOf3
 v3:=zeroValue3
 t4:=underlying4
 a4:=isAgg4
 z4:=sizeOf4
 v4:=zeroValue4
 t5:=underlying5
 a5:=isAgg5
 z5:=sizeOf5
 v5:=zeroValue5
 t9:=underlying9
 a9:=isAgg9
 z9:=sizeOf9
 v9:=zeroValue9
 t22:=underlying32
 a22:=isAgg32
 z22:=sizeOf32
 v22:=zeroValue32
 t25:=underlying208
 a25:=isAgg208
 z25:=sizeOf208
 v25:=zeroValue208
 t39:=underlying226
 a39:=isAgg226
 z39:=sizeOf226
 v39:=zeroValue226
 t45:=underlying301
 a45:=isAgg301
 z45:=sizeOf301
 v45:=zeroValue301
 t46:=underlying302
 a46:=isAgg302
 z46:=sizeOf302
 v46:=zeroValue302
 t50:=underlying306
 a50:=isAgg306
 z50:=sizeOf306
 v50:=zeroValue306
 t53:=underlying199
 a53:=isAgg199
 z53:=sizeOf199
 v53:=zeroValue199
 t55:=underlying225
 a55:=isAgg225
 z55:=sizeOf225
 v55:=zeroValue225
 t66:=underlying335
 a66:=isAgg335
 z66:=sizeOf335
 v66:=zeroValue335
 t70:=underlying299
 a70:=isAgg299
 z70:=sizeOf299
 v70:=zeroValue299
 t76:=underlying356
 a76:=isAgg356
 z76:=sizeOf356
 v76:=zeroValue356
 t77:=underlying357
 a77:=isAgg357
 z77:=sizeOf357
 v77:=zeroValue357 }
end Go.Proofs
namespace Go.Proofs.YtefccfakhgdfbaaGreatDoor
section
section
open Go.RowKit Go.Sort
variable {w:G} {base:Nat} {t:TypeId} {l:List (O×O)}
theorem Ye{v:J}(h:w.ownsRow base t 2 v l.length (Zs l)):Y6 w v l:=by
 rcases h.2 with⟨rfl,h0⟩|⟨b,cap,cur,rfl,_,hb,r1,_,_,r4⟩
 .exact⟨none,0,by rw[h0],by omega,λj x hj=>by have:=(zj.1 hj).1;omega⟩
 refine⟨_,_,rfl,r1,λj x hj=>⟨b,0,rfl,?_,?_⟩⟩
 .have h1:=(Qa1 l j x hj).1
  rw[<-r4] at h1;rw[Vw w b _ cur _ _ hb];have h2:=zH (l:=cur.toList) (i:=j*2) (j:=l.length*2) (by have:=(zj.1 hj).1;omega);rw[h2] at h1;simpa using h1
 have h1:=(Qa1 l j x hj).2;rw[<-r4] at h1;rw[Vw w b _ cur _ _ hb];have h2:=zH (l:=cur.toList) (i:=j*2+1) (j:=l.length*2) (by have:=(zj.1 hj).1;omega);rw[h2] at h1;simpa using h1
theorem Qxi:∀ u∈Zs l,u.oneCell'=true:=by intro u hu;unfold Zs at hu;obtain⟨f,_,hf⟩:=VR.1 hu;simp[Qah] at hf;rcases hf with rfl|rfl <;> rfl
theorem Qqh{b n c:Nat}{xs:List J}(h:w.ownsRow base t 2 (.slice (some ⟨b,0,none⟩) n c) n xs):∀ j u,xs[j]?=some u->w.cell? ((⟨b,0,none⟩:Addr).add j)=some u:=h.cells (g:=b) rfl
theorem Qwq(w:G)(a:Y Addr)(n c:Nat):(binOp .eql 32 (.slice a n c) (.slice none 0 0)).run prog w=.ok (.bool a.isNone) w:=vV w _ _ a n c 0 0 underlying32
theorem Qt4(w:G)(t:TypeId)(a:Nat):(w.alloc (.cells #[] t)).ownsRow w.heap.size t a (.slice (some ⟨w.heap.size,0,none⟩) 0 0) 0 []:=
 ⟨by simp,.inr ⟨w.heap.size,0,#[],rfl,zg _,zy w _,zg _,by decide,by simp,by simp⟩⟩
theorem Q22(w:G)(v:J)(l:List (O×O))(a:w.ownsRow 0 132 2 v l.length (Zs l))(d:l.length<=1099511627776):Calls prog 131 #[v] w λe w'=>∃ v',e=.returned v'/\w'.ownsRow w.heap.size 132 2 v' l.length (Zs l)/\Bz w w':=by
 obtain⟨i,hi,hz,hs,c⟩:=Qly;rcases a.2 with⟨rfl,h0⟩|⟨b,cap,cur,rfl,_,hb,_⟩
 .have hq:=Qwq w none 0 0
  have hl:l = []:=zG h0;subst hl;clear a h0
  go_enter func131,ntmps131
  go_wp2;go_ret;exact⟨_,rfl,zv _ _ _ _,zu _ _⟩
 have hq:=Qwq w (some ⟨b,0,none⟩) l.length cap;have HV:=zh a;have f:=Qb hb;obtain⟨HI,HN⟩:=zh2 (⟨hi,hz,hs,c⟩:_/\_/\_/\_) d;clear a hb hi hz hs c d
 go_enter func131,ntmps131
 go_wp2_with (at_builtin;refine Vt _ rfl _ _ 32 rfl w.heap.size 132 i _ 2 32 underlying32 HI.o.1 HI.o.2.1 HI.o.2.2.1 HI.o.2.2.2 rfl (by decide) (.slice (some ⟨w.heap.size,0,none⟩) 0 0) 0 [] rfl (Qt4 w 132 2) ⟨b,0,none⟩ l.length cap (Zs l) rfl (Jq l) (Qqh (Qn HV.o (Qa w _))) Qxi (by have:=HN.o;unfold maxLen;omega) (by have:=HN.o;omega) (by simp) ?_;intro v' w' h2 h3 _)
 go_ret;refine⟨v',rfl,by simpa using h2,((Qa w _).grown h3 (by simp) λk hk=>?_)⟩;simp[Value.ownBlock] at hk;omega
theorem Q3m{a b:Ud}(h:Op.bytesLess a b=false)(c:a≠b):Op.bytesLess b a=true:=by
 rw[bytesLess_eq] at h ⊢;have h1:¬ a<b:=by simpa using h
 have h2:b<=a:=List.not_lt.1 h1;have h3:b<a:=by
  rcases List.le_iff_lt_or_eq.1 h2 with h4|h4
  .exact h4
  exact absurd h4.symm c
 simpa using h3
theorem Q9q(x y:O×O)(W:G):Calls prog 133 #[.agg #[.string x.1,.string x.2],.agg #[.string y.1,.string y.2]] W λe w'=>e=.returned (.int .i64 (cfF x y))/\∃ q os',w'=grow (W.drewN q) os':=by
 obtain⟨r,hr⟩:=zzx (cfF x y)
 have HR:=zh hr;rw[<-hr];cases h1:Op.bytesLess x.1.toList y.1.toList with
 | true=>
  have hc:r = -1:=by rw[hr];unfold cfF;rw[h1];rfl
  clear hr;subst hc
  go_enter func133,ntmps133
  go_wp2;go_ret;exact⟨rfl,0,_,by rw[alloc_eq_grow,alloc_eq_grow,grow_grow];rfl⟩
 | false=>
  by_cases he:x.1.toList=y.1.toList
  .have hc:r=0:=by rw[hr];unfold cfF;rw[<-he,zw (by rw[he] at h1 ⊢;simp[h1]),zw (by rw[he] at h1 ⊢;simp[h1])]
   have hb:(x.1.toList == y.1.toList)=true:=by simp[he]
   clear hr he;subst hc
   go_enter func133,ntmps133
   go_wp2;go_ret;exact⟨rfl,0,_,by rw[alloc_eq_grow,alloc_eq_grow,grow_grow];rfl⟩
  have h2:Op.bytesLess y.1.toList x.1.toList=true:=Q3m h1 he;have hc:r=1:=by rw[hr];unfold cfF;rw[h1,h2];rfl
  have hb:(x.1.toList == y.1.toList)=false:=by rw[zl];exact he
  clear hr he h2;subst hc
  go_enter func133,ntmps133
  go_wp2;go_ret;exact⟨rfl,0,_,by rw[alloc_eq_grow,alloc_eq_grow,grow_grow];rfl⟩
theorem Q94(b c a:Nat)(w:G):Go.Proofs.CmpLays prog 133 #[] Qah 2 cfF b c a w:=λ_ _ _ _ x y=>Q9q x y _
theorem Qxl(a:Y Addr)(c:Nat)(u:J)(w:G):Calls prog 204 #[.slice a 0 c,.int .i64 0,.int .i64 0,u] w λe w'=>e=.returned (.tuple #[])/\w=w':=by
 go_enter func204,ntmps204
 go_wp2
 go_loop [8] (λi=>i=.int .i64 1) (λ_=>0)
 case atStart=>rfl
 case round=>
  subst hrel;go_wp2;go_end0;exact⟨rfl,rfl⟩
theorem Q9n(a:Y Addr)(c:Nat)(k:Int)(u:J)(w:G):Calls prog 171 #[.slice a 0 c,.int .i64 0,.int .i64 0,.int .i64 k,u] w λe w'=>e=.returned (.tuple #[])/\w=w':=by
 go_enter func171,ntmps171
 go_wp2;refine xt 1 ?_;rw[VZ]
 go_wp2_with (go_at_call 204;refine (Qxl a c u _).m ?_;rintro e w'⟨rfl,rfl⟩)
 (try simp only[Exit.inBlock,Exit.then,Exit.inLoop])
 refine zI (VF rfl _ _ _) rfl ?_;exact⟨rfl,rfl⟩
theorem Q7h(a:Y Addr)(c:Nat)(u:J)(w:G):Calls prog 132 #[.slice a 0 c,u] w λe w'=>e=.returned (.tuple #[])/\w=w':=by
 have b:=λ(w:G)=>bits_Len 0 w (by omega) (by omega)
 go_enter func132,ntmps132
 go_wp2_with (first|go_at_call 172;refine (b _).m ?_;rintro e w'⟨rfl,rfl⟩|go_at_call 171;refine (Q9n a c _ u _).m ?_;rintro e w'⟨rfl,rfl⟩)
 go_end0;exact⟨rfl,rfl⟩
theorem Zac(w:G)(base a n c:Nat)(l:List (O×O))(h:w.ownsRow base 132 2 (.slice (some ⟨a,0,none⟩) n c) n (Zs l))(g:n=l.length)(k:n<4611686018427387904):Calls prog 132 #[.slice (some ⟨a,0,none⟩) n c,.func (.func 133) #[] #[]] w λe w'=>e=.returned (.tuple #[])/\
   ∃ l':List (O×O),l'.Perm l/\w'.ownsRow base 132 2 (.slice (some ⟨a,0,none⟩) n c) n (Zs l')/\Fr (·=a) w w':=by
 rcases h.2 with⟨e,_⟩|⟨b,cp,cur,e,o,hb,r1,r2,r3,r4⟩
 .cases e
 cases e;have eg:∀ args w,(callFunc 133 args).run prog w=.ok (.enter 133 args) w:=zaj func133 (by kernel_rfl) rfl;have f:=Go.Proofs.AnyQ.slices_SortFunc sortFile 2 isAgg132 sizeOf132 Qah (λ_=>rfl) (λx v hv=>by simp[Qah] at hv;rcases hv with rfl|rfl <;> rfl) cfF Zcg 133 #[] a 0 c l.toArray w eg (Q94 a 0 _ w) (Qy0 hb (by rw[<-g];exact r4)) (Qb hb) (by simpa [<-g] using k);have j:l.toArray.size=n:=by simp[g]
 rw[j] at f;refine zb9 f ?_;rintro e w'⟨rfl,d',m,os,hp,_,rfl⟩;have i:d'.toList.Perm l:=by
  have:=Qy6 (d:=l.toArray) (d':=d') (by rw[j];exact hp)
  simpa using this
 refine⟨rfl,d'.toList,i,?_,Q4l _⟩
 have:=Qoi (m:=m) (os:=os) (l':=d'.toList) h g i.length_eq
 simpa using this
theorem Q1e(w:G)(g:Nat)(v:J)(d:Dk)(h:Q5 w g v d)(i:d.files.length<=1099511627776):Calls prog 83 #[.pointer (some ⟨g,0,none⟩)] w λe w'=>∃ v' l',e=.returned v'/\w'.ownsRow w.heap.size 132 2 v' l'.length (Zs l')/\l'.Perm d.files/\Bz w w':=by
 obtain⟨⟨c0,_⟩,_⟩:=h.cells;have HC:=zh (Q22 w v d.files h.2 i);clear h
 go_enter func83,ntmps83
 go_wp2_with fail
 go_at_call 131
 refine HC.o.m ?_;rintro e w1⟨v1,rfl,ho,hb⟩;have HB:=zh hb;rcases ho.2 with⟨rfl,h0⟩|⟨blk,cap,cur,rfl,f,a,_⟩
 .have hl:d.files = []:=zG h0
  have HL:=zh hl;clear ho hb hl h0
  go_wp2_with (go_at_call 132;refine (Q7h _ _ _ _).m ?_;rintro e w2⟨rfl,rfl⟩)
  go_ret;exact⟨_,[],rfl,zv _ _ _ _,by rw[HL.o],HB.o⟩
 have HS:=zh (Zac w1 _ blk _ cap d.files ho rfl (by omega));have j:=Qb a;clear ho hb a
 go_wp2_with (go_at_call 132;refine HS.o.m ?_;rintro e w2⟨rfl,l',hp,c,b⟩;obtain⟨HP,HO,HF⟩:=zh3 hp c b;clear hp c b)
 go_ret;exact⟨.slice (some ⟨blk,0,none⟩) d.files.length cap,l',rfl,by have:=HO.o;rw[<-HP.o.length_eq] at this ⊢;exact this,HP.o,HB.o.t (HF.o.j HB.o.size λk hk e=>by omega)⟩
end
theorem Ym(w:G)(k:J)(l:List (O×O))(p:O)(h:Y6 w k l)(q:l.length<=1099511627776):Calls prog 27 #[k,.string p] w λe w'=>e=.returned (.int .i64 (J1 l p))/\w=w':=by
 obtain⟨a,c,rfl,hc,hx⟩:=h;have HX:=zh hx;clear hx
 go_enter func27,ntmps27
 go_wp2
 go_loopg [5] l.length (λgg s5 wr=>∃ kk:Nat,kk<=l.length/\l.length-kk<=gg/\s5=.int .i64 kk/\w=wr/\Aside (∀ j,j<kk->∀ y,l[j]?=some y->¬ y.1=p))
 case atStart=>
  refine⟨0,zE _,by omega,rfl,rfl,?_⟩;show ∀ j,j<0->_;intro j hj;omega
 case round=>
  obtain⟨kk,n,hg,rfl,rfl,HM⟩:=hrel;by_cases hlt:kk<l.length
  .obtain⟨x,hx⟩:=zzx (l[kk])
   have d:l[kk]?=some x:=by rw[hx,ze hlt]
   obtain⟨b,off,rfl,c1,_⟩:=HX.o kk x d;have hb:b<w.heap.size:=Qj c1;have i:(kk:Int)<(l.length:Int):=by omega
   have m:(0:Int)<=(kk:Int):=by omega
   have f:=zh d;clear hx d;by_cases he:x.1=p
   .have e:(x.1.toList == p.toList)=true:=Yy he
    have HE:=zh he;clear he;go_wp2;go_ret;exact⟨Qcc (by rw[Qvu f.o HE.o HM.o];rfl),rfl⟩
   have e:(x.1.toList == p.toList)=false:=Qaa he;have HE:=zh he;clear he;go_wp2
   go_roundg (l.length-(kk+1))
   case measure=>omega
   case rel=>
    refine⟨kk+1,by omega,by omega,by go_num,rfl,?_⟩;show ∀ j,j<kk+1->_;intro j hj y hy;by_cases hjk:j=kk
    .subst hjk
     rw[f.o] at hy;cases hy;exact HE.o
    exact HM.o j (by omega) y hy
  have i:¬ (kk:Int)<(l.length:Int):=by omega
  have g:kk=l.length:=by omega
  have HK:=zh g;clear g;go_wp2;go_ret;exact⟨Qcc (by rw[Qre λj hj y hy=>HM.o j (by have:=HK.o;omega) y hy];rfl),rfl⟩
def Qdp(w:G)(v:J)(l:List Fil):Prop:=w.ownsRow 0 61 2 v l.length (Zs l)
theorem Zeh:(prog.info? 61).map (λi=>(i.zero,i.size,i.bytes))=some (some (.agg #[.string ⟨#[]⟩,.string ⟨#[]⟩]),2,32):=by kernel_rfl
theorem Qse:∃ i,prog.info? 61=some i/\i.zero=some (.agg #[.string ⟨#[]⟩,.string ⟨#[]⟩])/\i.size=2/\i.bytes=32:=by
 have h:=Zeh;cases hi:prog.info? 61 with
 | none=>rw[hi] at h;simp at h
 | some i=>rw[hi] at h;simp at h;exact⟨i,rfl,h.1,h.2.1,h.2.2⟩
theorem Qx(ds:List O):(lists ds).length=ds.length:=by simp[lists]
theorem Qr8(ds:List O)(k:Nat):(lists ds)[k]?=(ds[k]?).map (·.data.toList):=by simp[lists]
theorem Q43{α:Type}(ls:List (List α))(i k:Nat)(x:List α)(a:i<=k)(h:ls[k]?=some x):((ls.drop i).take (k+1-i)).flatten=((ls.drop i).take (k-i)).flatten++x:=by
 have e:k+1-i=k-i+1:=by omega
 rw[e,zY,ZU,show i+(k-i)=k by omega,h];simp
theorem Q8t(a:Ud)(s:O):sOf a++s=sOf (a++s.data.toList):=by
 conv=>lhs;rw[<-J9 s]
 exact Qf7 a _
theorem Q73{ds:List O}(h:∀ s∈ds,s.size<=1048576)(a i:Nat)(b:i<=4):(sOf (((lists ds).drop a).take i).flatten).size<=4194304:=by
 rw[Y1];have h1:=Qfu (((lists ds).drop a).take i) 1048576 λx hx=>by obtain⟨s,hs,rfl⟩:=zU.1 (ZF (zQ hx));exact h s hs
 have h2:(((lists ds).drop a).take i).length<=4:=by rw[zm];omega
 have:=ZA 1048576 h2
 omega
variable {len j m wd:Nat}
theorem Zd6(a:wd=min 4 (len-4*j))(b:m=len-4*j)(h:4<m):(4:Int)<(m:Int)/\wd=4:=by omega
theorem Zd5(a:wd=min 4 (len-4*j))(b:m=len-4*j)(h:¬ 4<m):¬ (4:Int)<(m:Int)/\m=wd:=by omega
theorem Qr6(n:Nat)(h:n<=1073741824):wrap64 (n:Int)=(n:Int):=by unfold wrap64;omega
theorem Qrz(w:G)(v:J)(l:List Fil)(h:Qdp w v l)(t:Int)(vd:J)(ds:List O)(U:Qq w 0 vd ds)(hn:l.length+ds.length<=1073741824)(K:∀ s∈ds,s.size<=1048576):Calls prog 127 #[v,.int .i64 t,vd] w λe w'=>∃ v',e=.returned v'/\Qdp w' v' (l++Jk t (lists ds))/\Fr (λk=>v.ownBlock=some k) w w'/\Qba w v v':=by
 obtain⟨ad,cd,rfl⟩:=Zo U;obtain⟨a0,c0,hv⟩:=Zo h;obtain⟨HH,HD,HZ,HN,HV⟩:=zh5 h U K hn hv;clear h U K hn hv;obtain⟨i0,hi,hz,hs,F⟩:=Qse;have HI:=zh (⟨hi,hz,hs,F⟩:_/\_/\_/\_);clear hi hz hs F
 go_enter func127,ntmps127
 go_wp2
 go_loopg [0,7] (ds.length+4) (λgg s0 s7 wr=>∃ j:Nat,4*j<ds.length+4/\ds.length+4-4*j<=gg/\s7=.int .i64 (4*(j:Int))/\∃ v1,s0=v1/\Aside (Qdp wr v1 (l++(Jk t (lists ds)).take j))/\Aside (Fr (λk=>v.ownBlock=some k) w wr)/\Aside (Qba w v v1))
 case atStart=>
  refine⟨0,by omega,by omega,rfl,v,rfl,?_,Fr.refl _ _,Qba.refl _ _⟩;show Qdp _ _ _;rw[xZ,ZW];exact HH.o
 case round=>
  obtain⟨j,hj,ak,rfl,v1,rfl,B,f,HM⟩:=hrel;by_cases hlt:4*j<ds.length
  .have W:4*(j:Int)<(ds.length:Int):=by omega
   obtain⟨wd,M⟩:=zzx (min 4 (ds.length-4*j))
   have A:wd<=4:=by omega
   have ai:0<wd:=by omega
   have ap:4*j+wd<=ds.length:=by omega
   have hq:4*(j:Int) / 4=(j:Int):=by omega
   have a:=Qdy t (j:Int) (wd:Int) wr (by have:=HN.o;omega);obtain⟨p,hp⟩:=zzx ((Yv t (lists ds) j).1)
   have I:sOf (Yb t (j:Int) (wd:Int))=p:=by rw[hp,M,<-Qx ds];rfl
   rw[I] at a;have L:((lists ds).drop (4*j)).take wd=((lists ds).drop (4*j)).take 4:=by
    have hl:((lists ds).drop (4*j)).length=ds.length-4*j:=by rw[zM,Qx]
    rcases zK (ds.length-4*j) 4 with h|h
    .rw[zk (i:=wd) (by omega),zk (i:=4) (by omega)]
    rw[show wd=4 by omega]
   obtain⟨HP,P,ab⟩:=zh3 hp a L;obtain⟨m,hm⟩:=zzx (ds.length-4*j)
   have r:(ds.length:Int)-4*(j:Int)=(m:Int):=by omega
   have aj:ds.length<=1073741824:=zi (Nat.le_add_left _ _) HN.o;have ag:=Qr6 j (by clear hq a r;omega);have N:=Qr6 m (by clear hq a r;omega);have H:(4<m/\wd=4)∨(¬ 4<m/\m=wd):=by clear hq a ag N r;omega
   clear hp I a hm M L
   go_upto_if 23 with fail
   go_cut [8] from 22 to 23 (λs8 wx=>wr=wx/\s8=.int .i64 (wd:Int))
   case first=>
    rcases H with⟨h4,z⟩|⟨h4,z⟩
    .have ac:(4:Int)<(m:Int):=by omega
     subst z
     go_wp2
     go_meet;exact⟨rfl,rfl⟩
    have ac:¬ (4:Int)<(m:Int):=by omega
    subst z
    go_wp2
    go_meet;exact⟨rfl,rfl⟩
   case rest=>
    obtain⟨rfl,rfl⟩:=hcut;clear H r N
    go_wp2_with (go_at_call 53;refine P.o.m ?_;rintro e w2⟨rfl,E⟩;have d:=zh E;clear E)
    have T:=zh A;clear A
    go_loopg [10,11] wd (λgg s10 s11 wx=>∃ i:Nat,i<=wd/\wd-i<=gg/\s11=.int .i64 (4*(j:Int)+(i:Int))/\s10=.string (sOf (((lists ds).drop (4*j)).take i).flatten)/\w2=wx)
    case atStart=>exact⟨0,by omega,by omega,by simp,by simp,rfl⟩
    case round=>
     obtain⟨i,hi,al,rfl,rfl,rfl⟩:=hrel;by_cases hil:i<wd
     .have V:4*(j:Int)+(i:Int)<4*(j:Int)+(wd:Int):=by omega
      have u:Qq w2 0 (.slice ad ds.length cd) ds:=Qn (Zf HD.o f.o λk hk e=>by
       obtain⟨C,hC⟩:=Qk HD.o hk
       obtain⟨C',D⟩:=Qk HH.o e
       rw[hC] at D
       simp at D) d.o
      obtain⟨s,hs⟩:∃ s,ds[4*j+i]?=some s:=⟨_,ze (by omega)⟩
      obtain⟨bd,rfl⟩:∃ bd,ad=some ⟨bd,0,none⟩:=by
       rcases u.2 with⟨_,h0⟩|⟨b,cap,cur,e,_⟩
       .omega
       simp at e;exact⟨b,e.1⟩
      have kc:w2.cell? ⟨bd,4*j+i,none⟩=some (.string s):=by have h1:=u.cells (g:=bd) rfl (4*j+i) (.string s) (by rw[zN,hs];rfl);rw[ZX] at h1;simpa using h1
      have am:(0:Int)<=4*(j:Int)+(i:Int):=by omega
      have an:4*(j:Int)+(i:Int)<(ds.length:Int):=by omega
      have ao:(4*(j:Int)+(i:Int)).toNat=4*j+i:=by omega
      have y:=Q43 (lists ds) (4*j) (4*j+i) s.data.toList (by omega) (by rw[Qr8,hs];rfl);rw[show 4*j+i+1-4*j=i+1 by omega,show 4*j+i-4*j=i by omega] at y;have Z:=zh y;have ar:s.size<=1048576:=HZ.o s (zr hs);have aq:=Q73 HZ.o (4*j) i (zi hi T.o);clear u hs y
      go_wp2
      go_roundg (wd-(i+1))
      case measure=>omega
      case rel=>exact⟨i+1,by omega,by omega,by go_num,by rw[Z.o,Q8t],rfl⟩
     have V:¬ 4*(j:Int)+(i:Int)<4*(j:Int)+(wd:Int):=by omega
     have ae:i=wd:=by omega
     subst ae;have x:sOf (((lists ds).drop (4*j)).take i).flatten=(Yv t (lists ds) j).2:=by have e:(((lists ds).drop (4*j)).take i)=(((lists ds).drop (4*j)).take 4):=ab.o;rw[e];rfl
     have q:=Qn B.o d.o;obtain⟨n1,n⟩:=zzx ((l++(Jk t (lists ds)).take j).length)
     have c:w2.ownsRow 0 61 2 u0 n1 (Zs (l++(Jk t (lists ds)).take j)):=by rw[n];exact q
     have X:n1+1<=1099511627776:=by rw[n,zn,zm];have:=HN.o;omega
     obtain⟨Q,R,aa⟩:=zh3 x c n;clear x q c n
     go_wp2_with (at_builtin;refine Qde rfl _ _ _ rfl 0 61 i0 _ 2 32 underlying56 HI.o.1 HI.o.2.1 HI.o.2.2.1 HI.o.2.2.2 rfl (by decide) (by decide) u0 n1 _ (by rfl) (Qn R.o (Qa _ _)) ⟨w2.heap.size,0,none⟩ 1 1 [.string p,.string (sOf (((lists ds).drop (4*j)).take i).flatten)] rfl rfl (Qit _ _ _ _ _ rfl) (by simp[Value.oneCell']) (by decide) X (zE _) ?_;intro v' w' h2 h3 h4 h5;obtain⟨H2,H3,H4⟩:=zh3 h2 ((Fr.ofBelow (S:=λk=>u0.ownBlock=some k) (Qa w2 _)).t (Fr.ofGrown h3 λk _ e=>e)) ((Qba.refl w2 u0).t h4 (by simp));clear h2 h3 h4)
     go_roundg (ds.length+4-4*(j+1))
     case measure=>omega
     case rel=>
      refine⟨j+1,by omega,zg _,by go_num,v',rfl,?_,?_,?_⟩
      .have h1:=H2.o
       have e:(Jk t (lists ds)).take (j+1)=(Jk t (lists ds)).take j ++ [Yv t (lists ds) j]:=by rw[zY,Qfm t (lists ds) j (by rw[Qx];omega)];rfl
       show w'.ownsRow _ _ _ _ _ _;rw[e,<-ZS,Qe9,zn,<-aa.o,<-HP.o,<-Q.o];exact h1
      .show Fr _ _ _
       exact (f.o.t (Fr.ofBelow d.o)).step H3.o λk hk hS=>by
        rcases HM.o k hS with h1|h1
        .exact h1
        omega
      show Qba _ _ _;intro k hk;rcases H4.o k hk with h1|h1
      .exact HM.o k h1
      exact .inr (by have:=f.o.size;have:=d.o.size;omega)
  have W:¬ 4*(j:Int)<(ds.length:Int):=by omega
  go_wp2;go_ret;refine⟨_,rfl,?_,f.o,HM.o⟩
  have:=B.o
  rw[zk (by rw[Qcd,Qx];omega)] at this;exact this
variable {l:List Fil} {p:O}
theorem Ql6(h:getF l p=none):J1 l p = -1:=by unfold J1;rw[zw];intro hl;rw[Qlr hl] at h;cases h
theorem Ql5{b:O}(h:getF l p=some b):∃ k x,J1 l p=((k:Nat):Int)/\k<l.length/\l[k]?=some x/\x.2=b:=by
 by_cases hl:Yk l p<l.length
 .rw[Qlr hl] at h
  exact⟨Yk l p,_,by unfold J1;rw[zD hl],hl,ze hl,zR h⟩
 rw[Qei hl] at h;cases h
variable {s:O} {w:G}
theorem Q3y(b:s.size<=1099511627776)(a:Qs s.data.toList=none):Calls prog 59 #[.string s] w λe w'=>e=.returned (.tuple #[.slice none 0 0,.bool false])/\Bz w w':=
 (Qec s w b).m λe w' hp=>by
  obtain⟨v',h1,h2,⟨_,h4⟩|⟨ls,h3,_⟩⟩:=hp
  .rw[a] at h1
   subst h4
   exact⟨h1,h2⟩
  rw[a] at h3;cases h3
theorem Qwj{ls:Uc}(d:s.size<=1099511627776)(a:Qs s.data.toList=some ls):Calls prog 59 #[.string s] w λe w'=>∃ b c ss,e=.returned (.tuple #[.slice (some ⟨b,0,none⟩) ss.length c,.bool true])/\Qq w' w.heap.size (.slice (some ⟨b,0,none⟩) ss.length c) ss/\bss ss=ls/\Bz w w':=
 (Qec s w d).m λe w' hp=>by
  obtain⟨v',h1,h2,⟨h3,_⟩|⟨ss,h3,h4⟩⟩:=hp
  .rw[a] at h3;cases h3
  rw[a] at h1 h3
  have h3:=zR h3
  have hl:=(Qbb a).1
  have f:ls.length=ss.length:=by rw[h3];simp[bss]
  have h5:=h4
  rcases h4.2 with⟨_,h0⟩|⟨b,cap,cur,rfl,_⟩
  .omega
  exact⟨b,cap,ss,h1,h5,h3.symm,h2⟩
def Q8e(l:List Fil)(i k:Nat)(w:G)(e:Ua)(w':G):Prop:=
 Bz w w'/\((Yl l i k=none/\∃ u,e=.returned (.tuple #[u,.bool false]))∨∃ ls b c ss,Yl l i k=some ls/\e=.returned (.tuple #[.slice (some ⟨b,0,none⟩) ss.length c,.bool true])/\Qq w' w.heap.size (.slice (some ⟨b,0,none⟩) ss.length c) ss/\bss ss=ls)
theorem Qm9(w:G)(Q:J)(l:List Fil)(h:Y6 w Q l)(E:l.length<=1099511627776)(K:∀ f∈l,f.2.size<=1048576)(i k:Nat)(V:i<9223372036854775808)(W:k<9223372036854775808):Calls prog 123 #[Q,.int .i64 i,.int .i64 k] w (Q8e l i k w):=by
 have HH:=zh h;obtain⟨a,c,rfl,hc,hx⟩:=h;have HX:=zh hx;clear hx;obtain⟨p,hp⟩:=zzx (Y0 i k)
 have q:=Qdy (-1) (i:Int) (k:Int) w (by omega);rw[show sOf (Yb (-1) (i:Int) (k:Int))=p from hp.symm] at q;have HP:=zh hp;cases hg:getF l p with
 | none=>
  have hf:=Ql6 hg;have HF:=zh hf;have u:Yl l i k=none:=Qhx (by rw[<-hp];exact hg);have z:=zh u;clear hf hg hp u
  go_enter func123,ntmps123
  go_wp2_with (first|go_at_call 53;refine q.m ?_;rintro e w2⟨rfl,d⟩;obtain⟨n,g⟩:=zh2 (HH.o.j d) d;clear d|go_at_call 27;refine (Ym w2 _ l p n.o E).m ?_;rintro e w3⟨rfl,rfl⟩;rw[HF.o])
  go_ret2;exact⟨g.o,.inl ⟨z.o,_,rfl⟩⟩
 | some b=>
  obtain⟨j,x,hf,N,C,D⟩:=Ql5 hg;obtain⟨bb,off,rfl,_,d2⟩:=HX.o j x C;have A:b.size<=1099511627776:=by have:=K x (zr C);rw[D] at this;omega
  have B:bb<w.heap.size:=Qj d2;rw[D] at d2;have v:getF l (Y0 i k)=some b:=by rw[<-hp];exact hg
  have S:(0:Int)<=(j:Int):=by omega
  have T:(j:Int)<(l.length:Int):=by omega
  have U:¬ (j:Int)<0:=by omega
  have HF:=zh hf;clear hf hg hp C D N K;cases hu:Qs b.data.toList with
  | none=>
   have u:Yl l i k=none:=Qph v hu;obtain⟨z,HU⟩:=zh2 u hu;clear u hu v
   go_enter func123,ntmps123
   go_wp2_with (first|go_at_call 53;refine q.m ?_;rintro e w2⟨rfl,d⟩;obtain⟨n,g⟩:=zh2 (HH.o.j d) d;have d3:=(d.cell (p:=⟨bb,off+j*2+1,none⟩) B).t d2;clear d|go_at_call 27;refine (Ym w2 _ l p n.o E).m ?_;rintro e w3⟨rfl,rfl⟩;rw[HF.o]|go_at_call 59;refine (Q3y A HU.o).m ?_;rintro e w4⟨rfl,m⟩;have s:=zh m;clear m)
   go_ret2;exact⟨g.o.t (s.o.m g.o.size),.inl ⟨z.o,_,rfl⟩⟩
  | some ls=>
   have H:=Qmy v hu;obtain⟨F,HU⟩:=zh2 H hu;have I:((ls.length:Int) == (k:Int))=decide (ls.length=k):=by rw[Vf];simp;omega
   have R:=zh I;clear H hu v I;by_cases hlk:ls.length=k
   .have t:=zh hlk
    clear hlk
    go_enter func123,ntmps123
    go_wp2_with (first|go_at_call 53;refine q.m ?_;rintro e w2⟨rfl,d⟩;obtain⟨n,g⟩:=zh2 (HH.o.j d) d;have d3:=(d.cell (p:=⟨bb,off+j*2+1,none⟩) B).t d2;clear d|go_at_call 27;refine (Ym w2 _ l p n.o E).m ?_;rintro e w3⟨rfl,rfl⟩;rw[HF.o]|go_at_call 59;refine (Qwj A HU.o).m ?_;rintro e w4⟨b5,c5,ss,rfl,y,r,m⟩;have P:=(show ((ss.length:Int) == (k:Int))=true by rw[<-t.o,<-r];simp[bss]);obtain⟨L,M,s⟩:=zh3 y r m;clear m y r)
    go_ret2;refine⟨g.o.t (s.o.m g.o.size),.inr ⟨ls,b5,c5,ss,?_,rfl,?_,M.o⟩⟩
    .rw[F.o,zD t.o]
    exact Zg L.o g.o.size
   have t:=zh hlk;clear hlk
   go_enter func123,ntmps123
   go_wp2_with (first|go_at_call 53;refine q.m ?_;rintro e w2⟨rfl,d⟩;obtain⟨n,g⟩:=zh2 (HH.o.j d) d;have d3:=(d.cell (p:=⟨bb,off+j*2+1,none⟩) B).t d2;clear d|go_at_call 27;refine (Ym w2 _ l p n.o E).m ?_;rintro e w3⟨rfl,rfl⟩;rw[HF.o]|go_at_call 59;refine (Qwj A HU.o).m ?_;rintro e w4⟨b5,c5,ss,rfl,y,r,m⟩;have P:=(show ((ss.length:Int) == (k:Int))=false by rw[zl];intro e;apply t.o;rw[<-r];simp[bss];omega);have s:=zh m;clear m y r)
   go_ret2;exact⟨g.o.t (s.o.m g.o.size),.inl ⟨by rw[F.o,zw t.o],_,rfl⟩⟩
variable {va:J} {i k:Nat}
theorem Qu4(h:Y6 w va l)(g:l.length<=1099511627776)(a:∀ f∈l,f.2.size<=1048576)(c:i<9223372036854775808)(d:k<9223372036854775808)(b:Yl l i k=none):Calls prog 123 #[va,.int .i64 i,.int .i64 k] w λe w'=>(∃ u,e=.returned (.tuple #[u,.bool false]))/\Bz w w':=
 (Qm9 w va l h g a i k c d).m λe w' hp=>by
  obtain⟨h1,⟨_,h2⟩|⟨ls,_,_,_,h2,_⟩⟩:=hp
  .exact⟨h2,h1⟩
  rw[b] at h2;cases h2
theorem Qwg(h:Y6 w va l)(m:l.length<=1099511627776)(d:∀ f∈l,f.2.size<=1048576){ls:Uc}(g:i<9223372036854775808)(j:k<9223372036854775808)(a:Yl l i k=some ls):Calls prog 123 #[va,.int .i64 i,.int .i64 k] w λe w'=>∃ b c ss,e=.returned (.tuple #[.slice (some ⟨b,0,none⟩) ss.length c,.bool true])/\Qq w' w.heap.size (.slice (some ⟨b,0,none⟩) ss.length c) ss/\lists ss=ls/\Bz w w':=
 (Qm9 w va l h m d i k g j).m λe w' hp=>by
  obtain⟨h1,⟨h2,_⟩|⟨ls',b,c,ss,h2,h3,h4,h5⟩⟩:=hp
  .rw[a] at h2;cases h2
  rw[a] at h2
  cases h2
  exact⟨b,c,ss,h3,h4,h5,h1⟩
def Qtl(l:List Fil)(d:Uc)(w:G)(e:Ua)(w':G):Prop:=
 Bz w w'/\∃ v' ss,e=.returned (.tuple #[v',.bool (Zx l d).2])/\lists ss=(Zx l d).1/\Zj w' v' ss
theorem Qpc{d:Uc}{w':G}(b:Bz w w')(a:Zx l d=([],false)):Qtl l d w (.returned (.tuple #[.slice none 0 0,.bool false])) w':=
 ⟨b,_,[],by rw[a];rfl,by rw[a];rfl,none,0,rfl,zg _,λj x hx=>by simp at hx⟩
theorem Qvz(w:G)(va:J)(l:List Fil)(h:Y6 w va l)(hn:l.length<=1099511627776)(an:∀ f∈l,f.2.size<=1048576)(vd:J)(ds:List O)(hd:Zj w vd ds)(a1:ds.length<=1073741824):Calls prog 124 #[va,vd] w (Qtl l (lists ds) w):=by
 obtain⟨HH,HZ,HN⟩:=zh3 h an hn;obtain⟨av,cv,rfl⟩:∃ a c,va=.slice a l.length c:=by obtain⟨a,c,h1,_⟩:=h;exact⟨a,c,h1⟩
 obtain⟨ad,cd,rfl,ao,hx⟩:=hd;have HX:=zh hx;obtain⟨ln,t⟩:=zzx ds.length
 rw[<-t] at a1 ao;obtain⟨q,hq⟩:=zzx (ln / 4)
 obtain⟨m,hm⟩:=zzx (ln%4)
 have a4:(ln:Int) / 4=(q:Int):=by omega
 have a5:(ln:Int)-(q:Int)*4=(m:Int):=by omega
 have ak:q<9223372036854775808:=by omega
 have bm:m<4:=by omega
 have U:(lists ds).length%4=m:=by rw[Qx,<-t];exact hm.symm
 have hdiv:(lists ds).length / 4=q:=by rw[Qx,<-t];exact hq.symm
 obtain⟨M,B,v,HQ,HM⟩:=zh5 t U hdiv hq hm;rw[<-t];clear h an hn hx hq hm U hdiv t
 go_enter func124,ntmps124
 go_wp2_with fail
 clear a4 a5
 go_loopg [8] 4 (λgg s8 wr=>∃ k:Nat,k<=4/\k<=gg/\s8=.int .i64 k/\m<=k/\Aside (Bz w wr)/\Aside (Zx l (lists ds)=Ya l (lists ds) k))
 case atStart=>exact⟨4,by omega,by omega,rfl,by omega,zu _ _,rfl⟩
 case round=>
  obtain⟨k,bl,bc,rfl,bn,HB,HP⟩:=hrel;by_cases hlt:m<k
  .have aq:(m:Int)<(k:Int):=by omega
   have C:=Qdy (-1) (q:Int) (k:Int) wr (by omega);obtain⟨p,hp⟩:=zzx (Y0 q k)
   rw[show sOf (Yb (-1) (q:Int) (k:Int))=p from hp.symm] at C;have aj:p=Y0 ((lists ds).length / 4) k:=by rw[hp,v.o]
   have T:(lists ds).length%4<k:=by rw[B.o];exact hlt
   have ae:k<9223372036854775808:=by omega
   obtain⟨X,N,A⟩:=zh3 aj T C;clear hp aj T C;cases hg:getF l p with
   | none=>
    obtain⟨HF,HG⟩:=zh2 (Ql6 hg) hg;clear hg
    go_wp2_with (first|go_at_call 53;refine A.o.m ?_;rintro e w2⟨rfl,n⟩;have d:=zh (HB.o.t (n.m HB.o.size));have r:=zh (HH.o.j d.o);clear n|go_at_call 27;refine (Ym w2 _ l p r.o HN.o).m ?_;rintro e w3⟨rfl,rfl⟩;rw[HF.o])
    go_roundg (k-1)
    case measure=>omega
    case rel=>
     refine⟨k-1,by omega,by omega,by go_num,by omega,d.o,?_⟩;show Zx _ _=_;rw[HP.o,Qla N.o (by rw[<-X.o];exact HG.o)]
   | some b=>
    obtain⟨j,x,hf,a2,_,_⟩:=Ql5 hg;have bj:¬ (j:Int)<0:=by omega
    have HF:=zh hf;have HG:=zh (show getF l (Y0 ((lists ds).length / 4) k)=some b by rw[<-X.o];exact hg);clear hf hg a2;cases hbn:Yl l q k with
    | none=>
     have g:Zx l (lists ds)=([],false):=by rw[HP.o,Qnb N.o HG.o (by rw[v.o];exact hbn)]
     obtain⟨F,L⟩:=zh2 g hbn;clear g hbn
     go_wp2_with (first|go_at_call 53;refine A.o.m ?_;rintro e w2⟨rfl,n⟩;have d:=zh (HB.o.t (n.m HB.o.size));have r:=zh (HH.o.j d.o);clear n|go_at_call 27;refine (Ym w2 _ l p r.o HN.o).m ?_;rintro e w3⟨rfl,rfl⟩;rw[HF.o]|go_at_call 123;refine (Qu4 r.o HN.o HZ.o ak ae L.o).m ?_;rintro e w4⟨⟨u,rfl⟩,z⟩;have D:=zh (d.o.t (z.m d.o.size));clear z)
     go_ret2;exact Qpc D.o F.o
    | some ls=>
     have ag:=(Qbd hbn).1;have g:Zx l (lists ds)=if ls.take ((lists ds).length%4)=(lists ds).drop (4*((lists ds).length / 4)) then (ls.drop ((lists ds).length%4),decide (k=4)) else ([],false):=by rw[HP.o,Qlq N.o HG.o (by rw[v.o];exact hbn)]
     rw[B.o,v.o] at g;obtain⟨F,L,ay⟩:=zh3 g hbn ag;clear g hbn ag
     go_wp2_with (first|go_at_call 53;refine A.o.m ?_;rintro e w2⟨rfl,n⟩;have d:=zh (HB.o.t (n.m HB.o.size));have r:=zh (HH.o.j d.o);clear n|go_at_call 27;refine (Ym w2 _ l p r.o HN.o).m ?_;rintro e w3⟨rfl,rfl⟩;rw[HF.o]|go_at_call 123;refine (Qwg r.o HN.o HZ.o ak ae L.o).m ?_;rintro e w4⟨b5,c5,ss,rfl,ai,i,z⟩;obtain⟨D,P,I⟩:=zh3 (d.o.t (z.m d.o.size)) ai i;clear z ai i)
     have al:ss.length=k:=by have:=I.o;have h2:=ay.o;rw[<-this,Qx] at h2;exact h2
     have H:=zh al;clear al
     go_loopg [13] m (λgg s13 wx=>∃ jj:Nat,jj<=m/\m-jj<=gg/\s13=.int .i64 jj/\Aside (Bz w4 wx)/\Aside (∀ j,j<jj->ss[j]?=ds[4*q+j]?))
     case atStart=>
      refine⟨0,by omega,by omega,rfl,zu _ _,?_⟩;show ∀ j,j<0->_;intro j hj;omega
     case round=>
      obtain⟨jj,bk,bb,rfl,y,HJ⟩:=hrel;have E:=zh (D.o.t (y.o.m D.o.size));by_cases hlt2:jj<m
      .have W:(jj:Int)<(m:Int):=by omega
       have af:4*q+jj<ds.length:=by have:=HQ.o;have:=HM.o;have:=M.o;omega
       have ah:jj<ss.length:=by have:=H.o;omega
       obtain⟨s1,K⟩:∃ s,ds[4*q+jj]?=some s:=⟨_,ze af⟩
       obtain⟨s2,V⟩:∃ s,ss[jj]?=some s:=⟨_,ze ah⟩
       obtain⟨bd,od,a0,R⟩:=HX.o (4*q+jj) (.string s1) (by rw[zN,K];rfl);subst a0;have k1:wr.cell? ⟨bd,od+(q*4+jj),none⟩=some (.string s1):=by
        have:=(E.o.cell (Qj R)).t R
        rwa [vE 4 q] at this
       have k2:wr.cell? ⟨b5,jj,none⟩=some (.string s2):=by obtain⟨a',c',he,_,hc⟩:=P.o.at;cases he;obtain⟨b',o',he,ab⟩:=hc jj (.string s2) (by rw[zN,V];rfl);cases he;have h2:=(y.o.cell (Qj ab)).t ab;simpa using h2
       have be:(0:Int)<=(jj:Int):=by omega
       have bf:(jj:Int)<(ss.length:Int):=by omega
       have bg:(0:Int)<=(q:Int)*4+(jj:Int):=by omega
       have bh:(q:Int)*4+(jj:Int)<(ln:Int):=by have:=M.o;omega
       have bi:((q:Int)*4+(jj:Int)).toNat=q*4+jj:=by omega
       obtain⟨Z,aa⟩:=zh2 K V;clear af ah K V R;by_cases i:s2=s1
       .have a6:=Yy i
        have Q:=zh i;clear i
        go_wp2_with fail
        go_region
        go_wp2
        go_roundg (m-(jj+1))
        case measure=>omega
        case rel=>
         refine⟨jj+1,by omega,by omega,by go_num,y.o.t ((Ql _).m y.o.size),?_⟩;show ∀ j,j<jj+1->_;intro j hj;by_cases hjk:j=jj
         .subst hjk
          rw[Z.o,aa.o,Q.o]
         exact HJ.o j (by omega)
       have a6:=Qaa i;have Q:=zh i;clear i
       go_wp2_with fail
       go_region
       go_wp2
       go_ret2;refine Qpc (E.o.t ((Ql _).m E.o.size)) ?_;rw[F.o,zw];intro e;have h1:(ls.take m)[jj]?=((lists ds).drop (4*q))[jj]?:=by rw[e]
       have e1:ls[jj]?=some s2.data.toList:=by rw[<-I.o];unfold lists;rw[zN,aa.o];rfl
       have e2:(lists ds)[4*q+jj]?=some s1.data.toList:=by unfold lists;rw[zN,Z.o];rfl
       rw[zH hlt2,ZU,e1,e2] at h1;exact Q.o (VP (zR h1))
      have W:¬ (jj:Int)<(m:Int):=by omega
      have ac:jj=m:=by omega
      have ax:=zh ac;clear ac;have a9:ss.length<=c5:=by obtain⟨a',c',he,hc,_⟩:=P.o.at;cases he;exact hc
      have K:(m:Int)<=(ss.length:Int):=by have:=H.o;omega
      have bo:(0:Int)<=(m:Int):=by omega
      have bp:¬ c5=m:=by have:=H.o;omega
      obtain⟨ck,ba,S⟩:∃ ck,((k:Int) == 4)=ck/\ck=decide (k=4):=⟨_,rfl,by rw[Vf];simp;omega⟩
      have aw:=zh S;clear S
      go_wp2
      go_ret2;have g:Zx l (lists ds)=(lists (ss.drop m),ck):=by
       rw[F.o,zD,aw.o]
       .rw[<-I.o];unfold lists;rw[Vl]
       apply XP;intro j;by_cases hj:j<m
       .rw[zH hj,ZU,<-I.o]
        unfold lists;rw[zN,zN,HJ.o j (by rw[ax.o];exact hj)]
       rw[vq (by rw[zm];omega),vq (by rw[zM,Qx];have:=M.o;have:=HM.o;have:=HQ.o;omega)]
      have ar:=P.o;have ap:m<ss.length:=by rw[H.o];exact hlt
      refine⟨E.o,.slice (some ⟨b5,m,none⟩) (ss.length-m) (c5-m),ss.drop m,?_,?_,?_⟩
      .rw[g];rfl
      .rw[g]
      have h1:=Qhw (ar.at.j y.o) (VD ap);simpa using h1
  have aq:¬ (m:Int)<(k:Int):=by omega
  have am:k<=(lists ds).length%4:=by rw[B.o];omega
  have az:=zh am;clear am
  go_wp2
  go_ret2;exact Qpc HB.o (by rw[HP.o];exact Qlg az.o)
theorem Qjy{P:Program}{r:Array Oper}{e:List Oper}{o:Oper}{a:Act}{Q:Exit->Act->G->Prop}{w:G}(p:o.guard=none)(s x:Operand)(t:TypeId)(I:o.op=.call { callee:=.builtin .append,args:=#[s,x],argTypes:=#[t,t] })(base:Nat)(i:TypeInfo)(B:P.underlying t=some (.slice 9))(A:P.info? 9=some i)(S:i.zero=some (.string ⟨#[]⟩))(m:i.size=1)(D:i.bytes=16)(v:J)(n:Nat)(xs:List O)(L:a.eval s=v)(H:n=xs.length)(d:Qq w base v xs)(u:J)(l:List O)(C:a.eval x=u)(N:Zj w u l)(X:n<=1099511627776)(W:l.length<=1099511627776)(f:base<=w.heap.size)(h:∀ v' w',Qq w' base v' (xs++l)->w.grownBy w' v.ownBlock->wpList P r Q e (a.put o.dst v') w'):wpList P r Q (o :: e) a w:=by
 subst H;obtain⟨ad,c,rfl,R,hc⟩:=N;unfold Qq at d;cases l with
 | nil=>
  refine VM p λK hK=>?_
  have hr:(Builtin.append_ #[t,t] o.type #[v,.slice ad 0 c]).run P w=.ok v w:=by
   rcases d.2 with⟨rfl,h0⟩|⟨g,cap,cur,rfl,T,hg,F,U,V,M⟩
   .cases ad <;> simp[Builtin.append_,ZV B,sizeOf,typeInfo,A,Builtin.lenOf,Builtin.firstCells,loadCells,loadCellsFrom]
   cases ad <;> simp[Builtin.append_,ZV B,sizeOf,typeInfo,A,Builtin.lenOf,Builtin.firstCells,loadCells,loadCellsFrom,storeCells,F]
  unfold Oper.wp execOp;simp only[vL] at C;simp only[I,resolve,invoke,builtin,vx,vI,ZR,vD,zT,vS,L,C,hr];exact hK _ _ (h v w (by unfold Qq;simpa using d) ⟨rfl,rfl,rfl,zg _,λ_ _ _=>rfl⟩)
 | cons y l=>
  obtain⟨b,off,rfl,_⟩:=hc 0 (.string y) (by simp);refine Vt _ p s x t I base 9 i _ 1 16 B A S m D (by simp[Value.cells]) (by decide) v xs.length (xs.map Value.string) L d ⟨b,off,none⟩ (y :: l).length c ((y :: l).map Value.string) C (by simp) (λj q hq=>?_) (λq hq=>?_) (by unfold maxLen;omega) (by omega) f λv' w' h2 h3 h4=>h v' w' ?_ h3
  .obtain⟨b',off',E,k⟩:=hc j q hq
   cases E;rw[ZX];exact k
  .obtain⟨z,_,rfl⟩:=zU.1 hq
   rfl
  unfold Qq;simpa using h2
theorem Qcf{b:Func}{t u v x:Tmp}(h:b.results=#[.tmp t,.tmp u,.tmp v,.tmp x])(a:Array J)(P:Program)(w:G):(results b a).run P w=.ok (.tuple #[a.getD t undef,a.getD u undef,a.getD v undef,a.getD x undef]) w:=by
 simp[results,h]
theorem Qap(a b:List O):lists (a++b)=lists a++lists b:=by unfold lists;rw[zL]
theorem Zdq{a b:Hsh}(h:HS a=HS b):a=b:=by unfold HS at h;have h1:=zB ByteArray.data h;exact Vector.toArray_inj.1 h1
theorem Qx5{ss:List O}{l:List Fil}(h:Qbt l (lists ss)):∀ s∈ss,s.size<=1048576:=λs hs=>by
 have h1:=h.short s.data.toList (by unfold lists;exact zU.2 ⟨s,hs,rfl⟩)
 simp at h1
 omega
def Qx2(l:List Fil)(key:O)(w:G)(e:Ua)(w':G):Prop:=
 Bz w w'/\((∃ k p,Yu l key (.bad k p)/\e=.returned (.tuple #[.slice none 0 0,.int .i64 0,.int .i64 k,.string p]))∨
  ∃ n v ss,n<9223372036854775808/\Yu l key (.good (lists ss) n)/\e=.returned (.tuple #[v,.int .i64 n,.int .i64 0,.string ⟨#[]⟩])/\Qq w' w.heap.size v ss)
theorem Qxw(w:G)(va:J)(l:List Fil)(key:O)(h:Y6 w va l)(hn:l.length<=1099511627776)(bx:∀ f∈l,f.2.size<=1048576)(b0:key.size<=1048600)(N:Nat)(hN:FewB l N)(cl:N<=262144):Calls prog 72 #[va,.string key] w (Qx2 l key w):=by
 obtain⟨HH,HZ,V,HN⟩:=zh4 h bx hn hN;obtain⟨av,cv,rfl,_,hx⟩:=h;have HX:=zh hx;clear bx hn hN hx;obtain⟨fi,H⟩:=zzx (J1 l (sOf kCp))
 have ah:=zh H;clear H
 go_enter func72,ntmps72
 go_upto_region 3 with (first|go_at_call 88;refine (Qid ⟨#[]⟩ _ (by decide)).m ?_;rintro e w1⟨rfl,ap⟩;obtain⟨B,b3⟩:=zh2 ap (HH.o.j ap);clear ap)
 go_upto_if 25 with (first|go_at_call 27;refine (Ym w1 _ l (sOf kCp) b3.o V.o).m ?_;rintro e w2⟨rfl,rfl⟩;rw[<-ah.o])
 go_cut [8,9,11] from 26 to 38 (λs8 s9 s11 wx=>∃ (n:Nat) (root:Hsh),Aside (Y4 l key=some (n,root))/\n<9223372036854775808/\s8=.int .i64 n/\s9=.string (HS root)/\Aside (Bz w wx))
 case first=>
  cases hg:getF l (sOf kCp) with
  | none=>
   have hf:=Ql6 hg;have H:fi = -1:=by rw[ah.o,hf]
   subst H;have HG:=zh hg;clear hg hf
   go_wp2
   go_meet;exact⟨0,hash [],by show Y4 _ _=_;unfold Y4;rw[HG.o],by decide,rfl,rfl,B.o⟩
  | some b=>
   obtain⟨j,x,hf,cb,az,a6⟩:=Ql5 hg;obtain⟨bb,off,rfl,_,d2⟩:=HX.o j x az;have bi:b.size<=1048576:=by have:=HZ.o x (zr az);rw[a6] at this;exact this
   have Q:bb<w.heap.size:=Qj d2;rw[a6] at d2;have d3:=(B.o.cell (p:=⟨bb,off+j*2+1,none⟩) Q).t d2;have cm:(0:Int)<=(j:Int):=by omega
   have cn:(j:Int)<(l.length:Int):=by omega
   have g:=Qmo b key w1 bi b0;rw[<-Qrs] at g;obtain⟨q,hq⟩:=zzx (Zy b.data.toList key.data.toList)
   rw[<-hq] at g;have U:=Qbl b.data.toList key.data.toList;rw[<-hq] at U;have bq:Y4 l key=if q.2.2=true then some (q.1.toNat,q.2.1) else none:=by unfold Y4;rw[hg,hq]
   obtain⟨qn,qh,qb⟩:=q;have H:fi=(j:Int):=by rw[ah.o,hf]
   subst H;obtain⟨bz,E⟩:=zh2 U bq;clear U bq hq hg hf az a6 bi d2 cb;unfold Qft at g;cases qb with
   | false=>
    go_wp2_with (first|go_at_call 63;refine g.m ?_;rintro e w5⟨rfl,m⟩;have s:=zh m;clear m)
    (try simp only[Exit.inBlock,Exit.then])
    refine zI (Qcf rfl _ _ _) rfl ?_;exact⟨B.o.t (s.o.m B.o.size),.inl ⟨3,⟨#[]⟩,.checkpoint E.o,rfl⟩⟩
   | true=>
    go_wp2_with (first|go_at_call 63;refine g.m ?_;rintro e w5⟨rfl,m⟩;have s:=zh m;clear m)
    go_meet;obtain⟨p1,p2,_⟩:=bz.o.1 rfl;have ch:qn=(qn.toNat:Int):=by omega
    refine⟨qn.toNat,qh,?_,by omega,?_,rfl,B.o.t (s.o.m B.o.size)⟩
    .show Y4 _ _=_
     rw[E.o];rfl
    rw[<-ch]
 case rest=>
  obtain⟨n,root,E,cf,rfl,rfl,b2⟩:=hcut;obtain⟨i0,ar,a7,a0,T⟩:=ZZ Qb3
  go_wp2_with fail
  go_loopg [12,13] (N+1) (λgg s12 s13 wr=>∃ i:Nat,i<=N/\N+1-i<=gg/\s13=.int .i64 i/\∃ a,Aside (Qq wr w.heap.size s12 a)/\Aside (Bz w wr)/\Aside (Qct l n ((n+3) / 4) 0 []=Qct l n ((n+3) / 4-i) i (lists a))/\Aside (a.length=min n (4*i))/\Aside (Qbt l (lists a)))
  case atStart=>exact⟨0,zE _,by omega,rfl,[],zv _ _ _ _,b2.o,rfl,by show [].length=_;simp,Qbt.nil _⟩
  case round=>
   obtain⟨i,hi,ca,rfl,a,HO,y,HP,L,HT⟩:=hrel;obtain⟨a1,an,rfl⟩:=Zo HO.o;obtain⟨ln,ax⟩:=zzx a.length
   have t:=zh ax;have aw:ln=min n (4*i):=by rw[ax];exact L.o
   have ck:=zh aw;clear ax;rw[<-t.o];by_cases hlt:ln<n
   .have ay:(ln:Int)<(n:Int):=by omega
    have P:4*i<n:=by omega
    obtain⟨k,hk⟩:=zzx (min 4 (n-4*i))
    have cg:n-ln=n-4*i:=by omega
    have cc:(n:Int)-(ln:Int)=((n-4*i:Nat):Int):=by omega
    have bk:i<9223372036854775808:=by omega
    have bl:k<9223372036854775808:=by omega
    obtain⟨A,HK,bc⟩:=zh3 P hk (HH.o.j y.o);obtain⟨dz,b9⟩:∃ dz,(n:Int)-(ln:Int)=dz:=⟨_,rfl⟩
    have bm:k<=4/\(4<dz->k=4)/\(¬ 4<dz->dz=(k:Int)):=by omega
    have bd:=zh bm;clear aw P cg bm hk cc
    go_upto_if 50 with fail
    clear b9
    go_cut [14] from 50 to 51 (λs14 wx=>s14=.int .i64 k/\wr=wx)
    case first=>
     by_cases hgt:4<dz
     .have ai:=zh (bd.o.2.1 hgt)
      go_wp2
      go_meet;exact⟨by rw[ai.o];rfl,rfl⟩
     have ai:=zh (bd.o.2.2 hgt)
     go_wp2
     go_meet;exact⟨by rw[ai.o],rfl⟩
    case rest=>
     obtain⟨rfl,rfl⟩:=hcut;have g:=λw'=>Qdy (-1) (i:Int) (k:Int) w' (by omega)
     cases hb:Yl l i k with
     | none=>
      have HB:=zh hb;clear hb
      go_wp2_with (first|go_at_call 123;refine (Qu4 bc.o V.o HZ.o bk bl HB.o).m ?_;rintro e w4⟨⟨u,rfl⟩,F⟩;have C:=zh (y.o.t (F.m y.o.size));clear F|go_at_call 53;refine (g _).m ?_;rintro e w5⟨rfl,m⟩;have s:=zh (C.o.t (m.m C.o.size));clear m)
      (try simp only[Exit.inBlock,Exit.then])
      refine zI (Qcf rfl _ _ _) rfl ?_;refine⟨s.o,.inl ⟨6,Y0 i (min 4 (n-4*i)),.tile (d:=lists a) E.o ?_,?_⟩⟩
      .rw[HP.o,Qf8 A.o,<-HK.o,HB.o]
      rw[<-HK.o];rfl
     | some ls=>
      have ab:=Qbd hb;have a5:=HT.o.step (w:=k) (e:=ls) (i:=i) (by rw[Qx,L.o];have:=A.o;omega) hb;have v:=a5.few HN.o;rw[zn,Qx] at v;have cd:ls.length<=1099511627776:=by omega
      have b1:ln<=1099511627776:=by have:=t.o;omega
      obtain⟨bg,ae,ag,be⟩:=zh4 a5 hb v ab.1;clear hb ab a5 v
      go_wp2_with fail
      refine (Qwg bc.o V.o HZ.o bk bl ae.o).m ?_;rintro e w4⟨b5,c5,ss,rfl,bo,a3,F⟩;obtain⟨C,b4,W,al⟩:=zh4 (y.o.t (F.m y.o.size)) bo (show Qq w4 w.heap.size (.slice a1 a.length an) a from Qn HO.o F) a3;have ci:=(show ss.length<=1099511627776 by rw[<-Qx,a3];exact cd)
      clear F bo a3
      go_wp2_with (first|at_builtin;refine Qjy rfl _ _ 22 rfl w.heap.size i0 underlying22 ar a7 a0 T _ ln a rfl t.o (by rw[t.o];exact W.o) _ ss rfl b4.o.at b1 ci C.o.size ?_;intro v2 w5 bp bj;obtain⟨s,b6⟩:=zh2 (C.o.grown bj C.o.size (λj hj=>(W.o.lt j (by rw[t.o] at hj;exact hj)).1)) bp;clear bp bj)
      go_roundg (N+1-(i+1))
      case measure=>omega
      case rel=>
       refine⟨i+1,?_,by omega,by go_num,a++ss,b6.o,s.o,?_,?_,?_⟩
       .have:=ag.o;have:=HN.o (i+1) λj hj=>bg.o.has j (by rw[zn,Qx,L.o,be.o,HK.o];have:=A.o;omega);exact this
       .show Qct _ _ _ _ _=_
        rw[HP.o,Qf8 A.o,<-HK.o,ae.o];show Qct _ _ _ _ (lists a++ls)=_;rw[<-al.o,<-Qap]
       .show (a++ss).length=_
        have h1:ss.length=k:=by rw[<-Qx,al.o];exact be.o
        rw[zn,L.o,h1,HK.o]
        have:=A.o
        omega
       show Qbt l (lists (a++ss));rw[Qap,al.o];exact bg.o
   have ay:¬ (ln:Int)<(n:Int):=by omega
   have P:n<=4*i:=by omega
   have A:=zh P;clear P aw;have br:Qct l n ((n+3) / 4) 0 []=(lists a,none):=by rw[HP.o,Qvm A.o]
   have v:=HT.o.few HN.o;rw[Qx] at v;have bf:=zh br;have g:=Qaz a.length a (.slice a1 ln an) wr (zg _) (by rw[t.o];exact Zn HO.o) (by omega) (Qx5 HT.o);obtain⟨K,ag⟩:=zh2 g v;clear br g v;by_cases hr:rootOf (lists a)=root
   .have bt:=Yy (show HS (rootOf (lists a))=HS root by rw[hr])
    have HR:=zh hr;clear hr
    go_wp2_with fail
    refine K.o.m ?_;rintro e w5⟨rfl,m⟩;obtain⟨s,W⟩:=zh2 (y.o.t (m.m y.o.size)) (show Qq w5 w.heap.size (.slice a1 ln an) a by rw[t.o];exact Qn HO.o m);clear m
    go_wp2_with fail
    clear ay bt
    go_loopg [12] (N+2) (λgg s12 wr=>∃ c,Aside (Qq wr w.heap.size s12 c)/\Aside (Bz w wr)/\Aside (∀ r,Goes l (lists c) r->Goes l (lists a) r)/\Aside (Qbt l (lists c))/\N+1-c.length / 4<=gg)
    case atStart=>exact⟨a,W.o,s.o,λr h=>h,HT.o,by omega⟩
    case round=>
     obtain⟨c,aj,ac,ba,aa,ca⟩:=hrel;obtain⟨a2,bh,rfl⟩:=Zo aj.o;have M:=aa.o.few HN.o;rw[Qx] at M;obtain⟨bw,Q⟩:=zzx ((Zx l (lists c)).2)
     have g:=Qvz wr _ l (HH.o.j ac.o) V.o HZ.o (.slice a2 c.length bh) c (Zn aj.o) (by omega);unfold Qtl at g;rw[<-Q] at g;obtain⟨K,af,a9⟩:=zh3 g Q M;have au:c.length<=1099511627776:=by omega
     clear g Q M
     go_wp2_with fail
     refine K.o.m ?_;rintro e w8⟨aq,v8,I,rfl,bu,a4⟩;obtain⟨D,X,am,Z⟩:=zh4 (ac.o.t (aq.m ac.o.size)) (show Qq w8 w.heap.size (.slice a2 c.length bh) c from Qn aj.o aq) a4 bu;obtain⟨a8,c8,rfl,_⟩:=a4;have bn:I.length<=1099511627776:=by have h1:=(aa.o.further 4 (by omega)).1.few HN.o;rw[show Ya l (lists c) 4=Zx l (lists c) from rfl,<-Z.o,<-Qap,Qx,zn] at h1;omega
     clear aq bu;cases bw with
     | true=>
      go_wp2_with (first|at_builtin;refine Qjy rfl _ _ 22 rfl w.heap.size i0 underlying22 ar a7 a0 T _ c.length c rfl rfl X.o _ I rfl am.o au bn D.o.size ?_;intro v2 w9 S R;obtain⟨ad,ak⟩:=zh2 (D.o.grown R D.o.size (λj hj=>(X.o.lt j hj).1)) S;clear S R)
      have z:=(aa.o.further 4 (by omega)).2 af.o.symm;have ao:=(aa.o.further 4 (by omega)).1;rw[show Ya l (lists c) 4=Zx l (lists c) from rfl,<-Z.o,<-Qap] at z ao;rw[Qx,Qx] at z;obtain⟨HW,b7⟩:=zh2 z ao;clear z ao
      go_roundg (N+1-(c.length / 4+1))
      case measure=>have:=a9.o;omega
      case rel=>
       refine⟨c++I,ak.o,ad.o,?_,b7.o,?_⟩
       .show ∀ r,Goes l (lists (c++I)) r->Goes l (lists a) r
        intro r h;rw[Qap,Z.o] at h;exact ba.o r (.more af.o.symm h)
       rw[HW.o];omega
     | false=>
      go_wp2_with (first|at_builtin;refine Qjy rfl _ _ 22 rfl w.heap.size i0 underlying22 ar a7 a0 T _ c.length c rfl rfl X.o _ I rfl am.o au bn D.o.size ?_;intro v2 w9 S R;obtain⟨ad,ak⟩:=zh2 (D.o.grown R D.o.size (λj hj=>(X.o.lt j hj).1)) S;clear S R)
      (try simp only[Exit.inBlock,Exit.then])
      refine zI (Qcf rfl _ _ _) rfl ?_;refine⟨ad.o,.inr ⟨n,v2,c++I,cf,.fine E.o bf.o HR.o (ba.o _ ?_),rfl,ak.o⟩⟩;rw[Qap,Z.o];exact .stop af.o.symm
   have bt:=Qaa (λe=>hr (Zdq e):¬ HS (rootOf (lists a))=HS root);have HR:=zh hr;clear hr
   go_wp2_with fail
   refine K.o.m ?_;rintro e w5⟨rfl,m⟩;have s:=zh (y.o.t (m.m y.o.size));clear m
   go_wp2_with fail
   (try simp only[Exit.inBlock,Exit.then])
   refine zI (Qcf rfl _ _ _) rfl ?_;exact⟨s.o,.inl ⟨5,⟨#[]⟩,.proof E.o bf.o HR.o,rfl⟩⟩
theorem Qqb(r:Uc):∀ (rs:List Uc) (t:Int),Qae t (rs ++ [r])=Qae t rs++Jk (t+(rs.length:Int)) r
 | [],t=>by simp[Qae]
 | x :: rs,t=>by
  rw[vM,Qae,Qqb r rs (t+1),Qae,ZS,zx,show t+1+(rs.length:Int)=t+((rs.length+1:Nat):Int) by omega]
theorem Q4r(t:Int)(r:Uc):(Jk t r).length<=r.length:=by rw[Qcd];omega
theorem Qpg:∀ (rs:List Uc) (t:Int),(∀ r∈rs,r.length<=k)->(Qae t rs).length<=rs.length*k
 | [],t,_=>by simp[Qae]
 | r :: rs,t,h=>by
  rw[Qae,zn,zx,vC,vP]
  have h1:=Q4r t r
  have h2:=h r (by simp)
  have h3:=Qpg rs (t+1) λx hx=>h x (zX _ hx)
  omega
theorem Qz3{w:G}{b a n c i j:Nat}{ss:List O}(h:Zj w (.slice (some ⟨b,a,none⟩) n c) ss)(d:i<=j)(e:j<=ss.length):Zj w (.slice (some ⟨b,a+i,none⟩) (j-i) (c-i)) ((ss.drop i).take (j-i)):=
 Qkv (Qhw h (zi d e)) (by rw[zM];omega)
theorem Qjr{ds:List O}(h:∀ x∈lists ds,x.length<=k):∀ s∈ds,s.size<=k:=λs hs=>by
 have h1:=h s.data.toList (by unfold lists;exact zU.2 ⟨s,hs,rfl⟩)
 simpa using h1
theorem Q1a(w:G)(v:J)(ss:List O)(h:Zj w v ss)(hn:ss.length<=1048576)(m:∀ s∈ss,s.size<=20):Calls prog 77 #[v] w λe w'=>∃ v',e=.returned v'/\Qdp w' v' (Y9 (lists ss))/\Bz w w'/\∀ k,v'.ownBlock=some k->w.heap.size<=k:=by
 obtain⟨HH,HZ⟩:=zh2 h m;obtain⟨av,cv,rfl,bg,hx⟩:=h;have HX:=zh hx;obtain⟨n,V⟩:=zzx ss.length
 rw[<-V];rw[<-V] at hn bg;have b:=zh V;clear m hx V;obtain⟨i0,am,a1,ay,ab⟩:=ZZ Qb3
 go_enter func77,ntmps77
 go_wp2_with fail
 go_loopg [4,5] n (λgg s4 s5 wr=>∃ i:Nat,i<=n/\n-i<=gg/\s5=.int .i64 i/\∃ ds,Aside (Qq wr w.heap.size s4 ds)/\Aside (lists ds=((lists ss).take i).map encE)/\Aside (Bz w wr))
 case atStart=>exact⟨0,zE _,by omega,rfl,[],zv _ _ _ _,by show lists []=_;simp[lists],zu _ _⟩
 case round=>
  obtain⟨i,hi,bz,rfl,ds,HO,Z,HB⟩:=hrel;have S:ds.length=i:=by rw[<-Qx,Z.o,zA,zm,Qx,<-b.o];omega
  have af:=zh S;clear S;by_cases hlt:i<n
  .have z:(i:Int)<(n:Int):=by omega
   obtain⟨s,hs⟩:∃ s,ss[i]?=some s:=⟨_,ze (by rw[<-b.o];exact hlt)⟩
   obtain⟨bv,ov,rfl,_⟩:=HX.o i (.string s) (by rw[zN,hs];rfl);have g:=Qz3 (i:=i) (j:=i+1) (by rw[b.o];exact HH.o.j HB.o:Zj wr (.slice (some ⟨bv,ov,none⟩) n cv) ss) (by omega) (by rw[<-b.o];omega);have ac:(ss.drop i).take (i+1-i) = [s]:=by rw[show i+1-i=1 by omega,List.take_one,List.head?_drop,hs];rfl
   rw[ac] at g;have a:=Qjp _ [s] wr g (by simp);have ah:=Q1z (l:=s.data.toList) (by have:=HZ.o s (zr hs);simpa using this);unfold Qr9 at a;rw[show bss [s] = [s.data.toList] from rfl,ah] at a;have bw:¬ cv=i:=by omega
   have h1:i+1-i=1:=by omega
   rw[h1] at a;obtain⟨f,HS⟩:=zh2 a hs;clear g ac a ah hs h1
   go_wp2_with fail
   refine f.o.m ?_;rintro e w2⟨rfl,t⟩;obtain⟨A,P⟩:=zh2 (HB.o.t (t.m HB.o.size)) (show Qq w2 w.heap.size u4 ds from Qn HO.o t);have L:ds.length<=1099511627776:=by have:=af.o;omega
   clear t
   go_wp2_with (first|at_builtin;refine Yo rfl _ _ 22 rfl w.heap.size 9 i0 (.string ⟨#[]⟩) 16 underlying22 am a1 ay ab rfl (by decide) u4 ds.length (ds.map Value.string) rfl P.o _ rfl rfl L A.o.size ?_;intro v3 w3 aw ak a6;obtain⟨be,q⟩:=zh2 aw (A.o.grown ak A.o.size (λj hj=>(P.o.lt j hj).1));clear aw ak a6)
   go_roundg (n-(i+1))
   case measure=>omega
   case rel=>
    refine⟨i+1,by omega,by omega,by go_num,ds ++ [⟨(encE s.data.toList).toArray⟩],?_,?_,q.o⟩
    .show Qq _ _ _ _
     unfold Qq;simpa using be.o
    show lists _=_;rw[Qap,Z.o,zY,Qr8,HS.o,zL];rfl
  have z:¬ (i:Int)<(n:Int):=by omega
  have bi:i=n:=by omega
  have p:lists ds=(lists ss).map encE:=by rw[Z.o,bi,zk (by rw[Qx,<-b.o];omega)]
  have m:∀ s∈ds,s.size<=1048576:=Qjr λx hx=>by
   rw[p] at hx;obtain⟨e,he,rfl⟩:=zU.1 hx;obtain⟨s,hs,rfl⟩:=zU.1 he
   have:=HZ.o s hs
   simp[encE];omega
  have a:=Qrz wr (.slice none 0 0) [] (zv _ _ _ _) (-1) u4 ds (Zg HO.o (zE _)) (by have:=af.o;show 0+_<=_;omega) m;obtain⟨f,a2⟩:=zh2 a p;have bq:nLev n<=11:=Qbp hn;clear a p m z
  go_wp2_with fail
  refine f.o.m ?_;rintro e w2⟨v2,rfl,ar,ai,ap⟩;have t:Bz w w2:=HB.o.t (ai.j HB.o.size λk _ e=>by simp[Value.ownBlock] at e);have U:∀ k,v2.ownBlock=some k->w.heap.size<=k:=λk hk=>by
   rcases ap k hk with h|h
   .simp[Value.ownBlock] at h
   exact zi HB.o.size h
  have A:=zh t;have P:=zh (show Qdp w2 v2 (Qae (-1) ((Zc (lists ss)).take 1)) by
   rw[show (Zc (lists ss)).take 1 = [(lists ss).map encE] from rfl,Qae,Qae,ZW,<-a2.o]
   exact ar)
  have ae:=zh U;clear ar ai ap t U
  go_wp2_with fail
  go_loopg [3,8,9] (nLev n) (λgg s3 s8 s9 wr=>∃ lv u:Nat,lv<=nLev n/\nLev n-lv<=gg/\s9=.int .i64 lv/\s8=.int .i64 u/\Aside (u=4 ^ lv)/\u<=4194304/\0<u/\Aside (Qdp wr s3 (Qae (-1) ((Zc (lists ss)).take (lv+1))))/\Aside (Bz w wr)/\Aside (∀ k,s3.ownBlock=some k->w.heap.size<=k))
  case atStart=>exact⟨0,1,by omega,by omega,rfl,rfl,rfl,by omega,by omega,P.o,A.o,ae.o⟩
  case round=>
   obtain⟨lv,u,b4,bm,rfl,rfl,HU,b5,X,HF,D,I⟩:=hrel;by_cases hun:u<=n
   .have a8:(u:Int)<=(n:Int):=by omega
    go_wp2_with fail
    obtain⟨B,hB⟩:=zzx wr.heap.size
    have C:=zh hB;clear hB
    go_loopg [4,10] n (λgg s4 s10 wx=>∃ j:Nat,j*u<=n/\n-j<=gg/\s10=.int .i64 j/\∃ ds,Aside (Qq wx B s4 ds)/\Aside (lists ds=((Z4 (lists ss) lv).take j).map λ(x:Hsh)=>x.toList)/\Aside (Below B wr wx))
    case atStart=>exact⟨0,by omega,by omega,rfl,[],zv _ _ _ _,by show lists []=_;simp[lists],zu _ _⟩
    case round=>
     obtain⟨j,bj,bn,rfl,c,ag,H,q⟩:=hrel;obtain⟨hi,T⟩:=zzx ((j+1)*u)
     obtain⟨lo,F⟩:=zzx (j*u)
     have b3:hi=lo+u:=by rw[T,F,vC,vP]
     have bt:(j:Int)*(u:Int)=(lo:Int):=by rw[F];push_cast;rfl
     have br:((j:Int)+1)*(u:Int)=(hi:Int):=by rw[T];push_cast;rfl
     rw[<-F] at bj;have b2:j<=n:=by
      have:=Vq j X
      omega
     have b0:hi<=8388608:=by omega
     obtain⟨E,bc⟩:=zh2 T F;clear T F;by_cases hlt:hi<=n
     .have z:(hi:Int)<=(n:Int):=by omega
      obtain⟨s,hs⟩:∃ s,ss[lo]?=some s:=⟨_,ze (by rw[<-b.o];omega)⟩
      obtain⟨bv,ov,rfl,_⟩:=HX.o lo (.string s) (by rw[zN,hs];rfl);have d:=q.o;rw[C.o] at d;have K:=D.o.t (d.m D.o.size);have g:=Qz3 (i:=lo) (j:=hi) (by rw[b.o];exact HH.o.j K:Zj wr (.slice (some ⟨bv,ov,none⟩) n cv) ss) (by omega) (by rw[<-b.o];omega);rw[show hi-lo=u by omega] at g;have bl:lv<=11:=by omega
      have W:=Qyu (lists ss) lv j (by omega) (by rw[Qx,<-b.o,<-HU.o,<-E.o];exact hlt);have ao:lists ((ss.drop lo).take u)=((lists ss).drop (j*4 ^ lv)).take (4 ^ lv):=by rw[<-HU.o,<-bc.o];unfold lists;rw[vJ,Vl]
      have a:=Qaz ((ss.drop lo).take u).length _ _ wr (zg _) g (by rw[zm];omega) (λs hs=>by have:=HZ.o s (ZF (zQ hs));omega);rw[ao,W] at a;have ad:(Z4 (lists ss) lv)[j]?=some (Zw (lists ss) (2*lv) j):=by
       unfold Z4;rw[zN,xE]
       .rfl
       rw[Qx,<-b.o,<-HU.o];exact (vG X).2 (by have:=E.o;show (j+1)*u<=n;omega)
      obtain⟨f,a5,bu⟩:=zh3 a ad K;have bx:¬ cv=lo:=by omega
      have b1:j+1<=n:=by
       have:=Vq (j+1) X
       have:=E.o
       omega
      have L:c.length<=1099511627776:=by have h1:=H.o;have h2:=zB List.length h1;rw[Qx,zA,zm] at h2;omega
      clear hs g W ao a ad K
      go_wp2_with fail
      refine f.o.m ?_;rintro e w5⟨rfl,R⟩;obtain⟨a9,Q⟩:=zh2 (q.o.t (R.m (by rw[C.o];exact d.size))) (show Qq w5 B u4 c from Qn ag.o R);have a0:B<=w5.heap.size:=by rw[C.o];exact zi d.size R.size
      clear R
      go_wp2_with (first|at_builtin;refine Yo rfl _ _ 22 rfl B 9 i0 (.string ⟨#[]⟩) 16 underlying22 am a1 ay ab rfl (by decide) u4 c.length (c.map Value.string) rfl Q.o _ rfl rfl L a0 ?_;intro v6 w6 ax al a7;obtain⟨bf,ba⟩:=zh2 ax (a9.o.grown al a0 (λj hj=>(Q.o.lt j hj).1));clear ax al a7)
      go_roundg (n-(j+1))
      case measure=>omega
      case rel=>
       refine⟨j+1,by rw[<-E.o];exact hlt,by omega,by go_num,c ++ [HS (Zw (lists ss) (2*lv) j)],?_,?_,?_⟩
       .show Qq _ _ _ _
        unfold Qq;simpa using bf.o
       .show lists _=_
        rw[Qap,H.o,zY,a5.o,zL];rfl
       exact ba.o
     have z:¬ (hi:Int)<=(n:Int):=by omega
     have an:n / u<=j:=by have h1:n / u<j+1:=(Nat.div_lt_iff_lt_mul X).2 (by have:=E.o;omega);omega
     have p:lists c=(Z4 (lists ss) lv).map λ(x:Hsh)=>x.toList:=by rw[H.o,zk];unfold Z4;rw[zA,List.length_range,Qx,<-b.o,<-HU.o];exact an
     have N:lv<nLev (lists ss).length:=(Qaq _ _).2 (by rw[Qx,<-b.o,<-HU.o];exact hun);have M:(Zc (lists ss))[lv+1]?=some (lists c):=by rw[p];exact Qdd _ _ N
     have m:∀ s∈c,s.size<=1048576:=Qjr λx hx=>by rw[p] at hx;obtain⟨y,_,rfl⟩:=zU.1 hx;simp
     have bh:(Qae (-1) ((Zc (lists ss)).take (lv+1))).length<=12*n:=by
      have h1:=Qpg (k:=n) ((Zc (lists ss)).take (lv+1)) (-1) λr hr=>by
       have:=Qbg (zQ hr)
       rw[Qx,<-b.o] at this;exact this
      have h2:((Zc (lists ss)).take (lv+1)).length*n<=12*n:=ZA n (by rw[zm];omega);omega
     have S:c.length<=n:=by have h2:=Qbg (zr M);rw[Qx,Qx,<-b.o] at h2;exact h2
     have az:Qdp wr u3 (Qae (-1) ((Zc (lists ss)).take (lv+1))):=by have d:=q.o;rw[C.o] at d;exact Qn HF.o d
     have a:=Qrz wr u3 _ az (lv:Int) u4 c (Zg ag.o (zE _)) (by omega) m;obtain⟨f,a3,a4⟩:=zh3 a M N;clear p N M m bh S az a an
     go_wp2_with fail
     refine f.o.m ?_;rintro e w5⟨v5,rfl,au,aj,aq⟩;obtain⟨Q,bb,bd⟩:=zh3 au aj aq;clear au aj aq
     go_wp2_with fail
     have d:=q.o;rw[C.o] at d;have bp:lv<nLev n:=by have:=a4.o;rw[Qx,<-b.o] at this;exact this
     go_roundg (nLev n-(lv+1))
     case measure=>omega
     case rel=>
      have aa:=D.o.t (d.m D.o.size);refine⟨lv+1,u*4,by omega,by omega,by go_num,by go_num,?_,by omega,by omega,?_,?_,?_⟩
      .show u*4=4 ^ (lv+1)
       rw[HU.o,ZD]
      .show Qdp _ _ _
       have hl:((Zc (lists ss)).take (lv+1)).length=lv+1:=by rw[zm,Qaj,Qx,<-b.o];omega
       rw[zY,a3.o];show Qdp _ _ (Qae (-1) (_ ++ [lists c]));rw[Qqb,hl,show (-1:Int)+((lv+1:Nat):Int)=(lv:Int) by omega];exact Q.o
      .exact aa.t (bb.o.j aa.size λk hk e=>by have:=I.o k e;omega)
      show ∀ k,_->_;intro k hk;rcases bd.o k hk with h|h
      .exact I.o k h
      exact zi aa.size h
   have a8:¬ (u:Int)<=(n:Int):=by omega
   go_wp2
   go_ret;have bo:lv=nLev n:=by
    rcases zK lv (nLev n) with h|h
    .have:=(Qaq n lv).1 h
     have:=HU.o
     omega
    omega
   refine⟨_,rfl,?_,D.o,I.o⟩;have h1:=HF.o;rw[zk (by rw[Qaj,Qx,<-b.o];omega)] at h1;exact h1
theorem J4(w:G)(p:Pl)(m:Wm)(h:Qa6 w p m)(K:m.d.files.length<=1000000000000):Calls prog 26 #[.pointer (some ⟨p.gw,0,none⟩)] w λe w'=>∃ v' l',e=.returned v'/\w'.ownsRow w.heap.size 61 2 v' l'.length (Zs l')/\l'.Perm m.d.files/\Bz w w':=by
 obtain⟨⟨c0,_⟩,_⟩:=h.heads;have HC:=zh (Q1e w p.gd p.v m.d h.disk (by omega));obtain⟨i0,r,u,t,f⟩:=Qse;have HI:=zh (⟨r,u,t,f⟩:_/\_/\_/\_);clear h r u t f
 go_enter func26,ntmps26
 go_wp2_with (go_at_call 83;refine HC.o.m ?_;rintro e w1⟨v1,l1,rfl,l,n,a⟩;obtain⟨B,D,z⟩:=zh3 l n a;obtain⟨a1,E,rfl⟩:=Zo l;have M:l1.length<=1000000000000:=(by rw[n.length_eq];exact K);clear l n a)
 go_loopw [3,5] (λs3 s5 wr=>∃ k:Nat,k<=l1.length/\s5=.int .i64 k/\Aside (wr.ownsRow w.heap.size 61 2 s3 (l1.take k).length (Zs (l1.take k)))/\Aside (wr.ownsRow w.heap.size 132 2 (.slice a1 l1.length E) l1.length (Zs l1))/\Aside (Bz w wr)) (λ_ s5 _=>l1.length-(intOf s5).toNat)
 case atStart=>exact⟨0,zE _,rfl,zv _ _ _ _,B.o,z.o⟩
 case round=>
  obtain⟨k,hk,rfl,HR,HO,HB⟩:=hrel;by_cases hlt:k<l1.length
  .obtain⟨x,hx⟩:∃ x,l1[k]?=some x:=⟨_,ze hlt⟩
   obtain⟨b1,rfl⟩:∃ b1,a1=some ⟨b1,0,none⟩:=by
    rcases HO.o.2 with⟨_,h0⟩|⟨b,cap,cur,e,_⟩
    .omega
    simp at e;exact⟨b,e.1⟩
   obtain⟨f1,f2⟩:=Qa1 l1 k x hx;have k1:=Qqh HO.o (k*2) _ f1;have k2:=Qqh HO.o (k*2+1) _ f2;rw[ZX] at k1 k2;simp only[V4] at k1 k2;have I:=Qj k1;obtain⟨ln,i⟩:=zzx ((l1.take k).length)
   have s:ln=k:=by rw[i,zm];omega
   have q:wr.ownsRow w.heap.size 61 2 u3 ln (Zs (l1.take k)):=by rw[i];exact HR.o
   obtain⟨c,HX,A⟩:=zh3 q hx s;have y:ln+1<=1099511627776:=by omega
   have L:(0:Int)<=(k:Int):=by omega
   have g:(k:Int)<(l1.length:Int):=by omega
   have hz:=HB.o.size;clear i hx s q f1 f2
   go_wp2_with fail
   go_region_law (refine Qf5 rfl _ _ _ rfl w.heap.size 61 i0 _ 2 32 underlying56 HI.o.1 HI.o.2.1 HI.o.2.2.1 HI.o.2.2.2 rfl (by decide) (by decide) u3 ln _ rfl (Qn c.o ((Ql wr).alloc (zg _) _)) ⟨wr.heap.size,0,none⟩ 1 1 [.string x.1,.string x.2] rfl rfl (Qit _ _ _ _ _ rfl) (by simp[Value.oneCell']) (by decide) y (by simp;omega) ?_;intro v' w' h2 h3 h4 h5;obtain⟨H2,H3⟩:=zh2 h2 h3;clear h2 h3 h4 h5)
   all_goals (
    go_wp2
    go_roundw
    case rel=>
     refine⟨k+1,by omega,by go_num,?_,?_,?_⟩
     .have h1:=H2.o
      have e:l1.take (k+1)=l1.take k ++ [x]:=by rw[zY,HX.o];rfl
      have h0:(l1.take k).length=k:=by rw[zm];omega
      show w'.ownsRow _ _ _ v' _ _
      rw[e,Qe9,zn,Vd,h0]
      have h2:=A.o
      rw[h2] at h1
      exact h1
     .exact Zf (Qn HO.o ((Ql wr).alloc (zg _) _)) (Fr.ofGrown (S:=λk=>u3.ownBlock=some k) H3.o λk _ e=>e) λk hk e=>by
       obtain⟨C,hC⟩:=Qk HO.o hk
       obtain⟨C',F⟩:=Qk c.o e
       exact Zz hC F (by decide) rfl
     have a:Bz w (wr.drew.alloc (.cells #[.string x.1,.string x.2] 61)):=(HB.o.drew).alloc hz _
     exact a.grown H3.o a.size λj hj=>(c.o.lt j hj).1
    case measure=>simp[intOf];omega)
  have H:¬ (k:Int)<(l1.length:Int):=by omega
  have g:k=l1.length:=by omega
  have HK:=zh g;clear g;go_wp2;go_ret;refine⟨u3,rfl,l1,?_,D.o,HB.o⟩;have h1:=HR.o;rw[HK.o,vz] at h1;exact h1
variable {t:Nat} {v:J}
theorem Qic{g i:Nat}{x y:J}(h:w.cell? ⟨g,i,none⟩=some v)(a:g≠t):((w.setCell ⟨t,0,none⟩ x).setCell ⟨t,1,none⟩ y).cell? ⟨g,i,none⟩=some v:=
 ((Fr.set1 w t 0 x).set 1 y).cell h a
variable {gd B:Nat} {d:Dk} {key:O} {e:Ua} {w':G}
theorem Q55(h:Qsm w gd v d key B e w'):∃ (lv:J) (k:Int) (p:O),e=.returned (.tuple #[lv,Jh k p]):=by
 obtain⟨d',_,_,⟨p,_,rfl⟩|⟨k,p,_,_,rfl⟩|⟨es,n,gl,g,_,_,rfl,_⟩⟩:=h
 .exact⟨_,_,_,rfl⟩
 .exact⟨_,_,_,rfl⟩
 exact⟨_,_,_,rfl⟩
theorem Za2(h:Qsm w gd v d key B e w'):Fr (·=gd) w w':=by obtain⟨d',_,h2,_⟩:=h;exact h2
def Zbe(w:G)(gd:Nat)(v:J)(d:Dk)(key:O)(B:Nat)(lv:J)(t:Nat)(w':G):Prop:=
 ∃ (d':Dk) (k:Int) (p:O),Q5 w' gd v d'/\Fr (·=gd) w w'/\Zq w' t k p/\w.heap.size<=t/\
  ((Hurt B d d'/\lv=.pointer none/\k=8)∨
     (∃ kn:Nat,Calm B d d'/\Yu d.files key (.bad kn p)/\lv=.pointer none/\k=kn)∨
     (∃ es n gl g,Calm B d d'/\Yu d.files key (.good es n)/\lv=.pointer (some ⟨gl,0,none⟩)/\k=0/\PlIs w' gl g/\w.heap.size<=gl/\Qji w gd key es g w'))
variable {k:Int}
theorem Qqa{c:Int}{p p':O}{a b:J}(h:Ending.returned (.tuple #[a,Jh k p])=.returned (.tuple #[b,Jh c p'])):a=b/\k=c/\p=p':=by simp at h;exact⟨h.1,h.2.1,h.2.2⟩
variable {w7:G}
theorem Qz4{W j:G}{q:J}{p:O}(f:Bz w W)(r:gd<w.heap.size)(h:Qsm W gd v d key B (.returned (.tuple #[q,Jh k p])) w7)(h8:Bz w7 j)(l:Zq j t 0 ⟨#[]⟩)(o:w.heap.size<=t):Zbe w gd v d key B q t ((j.setCell ⟨t,0,none⟩ (.int .i64 k)).setCell ⟨t,1,none⟩ (.string p)):=by
 obtain⟨d',hD,hF,hR⟩:=h;have ts:=Qdi (m:=k) (t:=p) l;have hk:=Q1 l;refine⟨d',k,p,(hD.j h8).kept ts.2 hk (by decide) (by decide),?_,ts.1,o,?_⟩
 .exact ((Fr.ofBelow f).t (hF.t (Fr.ofBelow h8))).step ts.2 λi hi e=>by subst e;omega
 rcases hR with⟨p',h1,he⟩|⟨kn,p',h1,h2,he⟩|⟨es,n,gl,g,h1,h2,he,h3,h4,h5⟩
 .obtain⟨e1,e2,e3⟩:=Qqa he
  exact .inl ⟨h1,e1,e2⟩
 .obtain⟨e1,e2,e3⟩:=Qqa he
  exact .inr (.inl ⟨kn,h1,by rw[e3];exact h2,e1,e2⟩)
 obtain⟨e1,e2,e3⟩:=Qqa he;refine .inr (.inr ⟨es,n,gl,g,h1,h2,e1,e2,?_,zi f.size h4,?_⟩)
 .exact Ze ((h8.block _ (Qb h3)).t h3) ts.2 hk (by decide)
 obtain⟨ve,vl,vs,a,b,c⟩:=(h5.j h8).kept ts.2 hk (by decide) (by decide);exact⟨ve,vl,vs,a,zi f.size b,λi hi=>zi f.size (c i hi)⟩
theorem Qr3(w:G)(k:Int)(p:O):w.alloc (.cells #[.int .i64 k,.string p] 63)=((w.alloc (.cells #[.int .i64 0,.string ⟨#[]⟩] 63)).setCell ⟨w.heap.size,0,none⟩ (.int .i64 k)).setCell ⟨w.heap.size,1,none⟩ (.string p):=by rw[za6 _ _ _ _ _ rfl,za6 _ _ _ _ _ rfl];simp
theorem Qnx{w1:G}(a:Q5 w1 gd v d)(b:Fr (·=gd) (w1.alloc (.cells #[.int .i64 0,.string ⟨#[]⟩] 63)).drew w7):Zq w7 w1.heap.size 0 ⟨#[]⟩:=
 Ze (w:=(w1.alloc (.cells #[.int .i64 0,.string ⟨#[]⟩] 63)).drew) (Qb5 w1) b (Q1 (a.j ((Qa w1 _).drew)).1) (by decide)
def Qc1(w:G)(p:Pl)(m:Wm)(U:List Nat)(K:Nat)(e:Ua)(w':G):Prop:=
 e=.returned (.bool true)/\∃ p' m',p'.gw=p.gw/\m'.key=m.key/\Qa6 w' p' m'/\Qjd m' U K/\Fr (WdS p m) w w'/\Sub w (WdS p m) (WdS p' m')
def Qe8(Q:Wm->Prop)(w:G)(p:Pl)(m:Wm)(U:List Nat)(K:Nat)(e:Ua)(w':G):Prop:=
 e=.returned (.bool true)/\∃ p' m',p'.gw=p.gw/\m'.key=m.key/\Qa6 w' p' m'/\Qjd m' U K/\Fr (WdS p m) w w'/\Sub w (WdS p m) (WdS p' m')/\p'.gd=p.gd/\Q m'
variable {p:Pl} {m:Wm}
theorem Qe8.ok{Q:Wm->Prop}{U:List Nat}{K:Nat}(h:Qe8 Q w p m U K e w'):Qc1 w p m U K e w':=by obtain⟨a,p',m',b,c,d,e,f,g,_⟩:=h;exact⟨a,p',m',b,c,d,e,f,g⟩
theorem Qvi{k:Nat}(h:k=p.gd):WdS p m k:=.inr (.inl (.inl h))
theorem Qa6.gg(h:Qa6 w p m):¬ p.gw=p.gd:=λe=>Zz h.cells h.disk.1 (by decide) e
theorem Q1j(f:Nat->Addr)(w:G)(p:Pl)(m:Wm)(U:List Nat)(K:Nat)(h:Qa6 w p m)(S:Qe4 m U K)(hl:m.l=none)(M:m.foreign=false)(hh:m.d.hit=false)(hE:Qbj f (WdS p m) w)(hU:U.length<=16384)(hK:K<=800000000000)(T:m.key.size<=1048600):Calls prog 121 #[.pointer (some ⟨p.gw,0,none⟩)] w (Qc1 w p m U (K+1048576)):=by
 have N:=h.gg;have am:=h.disk.lt;have L:m.d.files.length<=1000000000000:=by have:=S.sane.len;omega
 obtain⟨ae,HH,HG,HE,HL,Z,x⟩:=zh7 (J4 w p m h L) h S hE hl M hh;clear h S hE hl M hh
 go_enter func121,ntmps121
 go_wp2_with (go_at_call 26;refine ae.o.m ?_;rintro e w1⟨v1,l1,rfl,A,Q,H⟩;obtain⟨aj,ad,n⟩:=zh3 A Q H;obtain⟨a1,al,rfl⟩:=Zo A;clear A Q H)
 have h1:=HH.o.j n.o;obtain⟨⟨p0,p1,_⟩,pf⟩:=h1.heads;have ap:=n.o.size;have P:=λ(W:G) (hb:Bz w1 W)=>Qwo f W p.gd p.v m.d m.key (h1.disk.j hb) U.length (((HE.o.j n.o).j hb).less λk e=>Qvi e) (HG.o.sane.few (by omega)) (by omega) (by have:=HG.o.sane.calls;omega) HG.o.sane.size (zi T (by decide))
 obtain⟨ac,H1,q⟩:=zh3 P h1 h1.disk;have pb:=Qj p0;have B:(w1.alloc (.cells #[.int .i64 0,.string ⟨#[]⟩] 63)).drew.cell? ⟨p.gw,0,none⟩=some (.pointer (some ⟨p.gd,0,none⟩)):=((Qa w1 _).cell (p:=⟨p.gw,0,none⟩) pb).t p0;have C:(w1.alloc (.cells #[.int .i64 0,.string ⟨#[]⟩] 63)).drew.cell? ⟨p.gw,1,none⟩=some (.string m.key):=((Qa w1 _).cell (p:=⟨p.gw,1,none⟩) pb).t p1;have D:w1.drew.cell? ⟨p.gw,0,none⟩=some (.pointer (some ⟨p.gd,0,none⟩)):=p0;have E:w1.drew.cell? ⟨p.gw,1,none⟩=some (.string m.key):=p1;have mne:p.gw≠w1.heap.size:=xH pb;clear h1 P
 go_upto_region 2 with fail
 go_cut [4,5] from 11 to 21 (λs4 s5 wx=>∃ (lv:J) (t:Nat),s4=lv/\s5=.pointer (some ⟨t,0,none⟩)/\Aside (Zbe w1 p.gd p.v m.d m.key (8*U.length+16) lv t wx))
 case first=>
  go_region_held3 (λw'=>w'.cell? ⟨p.gw,0,none⟩=some (.pointer (some ⟨p.gd,0,none⟩))/\w'.cell? ⟨p.gw,1,none⟩=some (.string m.key)) (first|with_reducible exact⟨p0,p1⟩|with_reducible exact⟨D,E⟩|with_reducible exact⟨B,C⟩|with_reducible exact⟨m0,m1⟩|exact⟨Qic m0 mne,Qic m1 mne⟩|exact⟨((Qa w7 _).cell (p:=⟨p.gw,0,none⟩) mb).t m0,((Qa w7 _).cell (p:=⟨p.gw,1,none⟩) mb).t m1⟩|exact⟨Qic (((Qa w7 _).cell (p:=⟨p.gw,0,none⟩) mb).t m0) (xH mb),Qic (((Qa w7 _).cell (p:=⟨p.gw,1,none⟩) mb).t m1) (xH mb)⟩|fail) (first|go_at_call 73;refine zb9 (ac.o _ (by first|exact Ql _|exact (Qa _ _).drew)) ?_;intro e w7 h7;obtain⟨lv,kk,pth,rfl⟩:=Q55 h7;obtain⟨H7,i⟩:=zh2 h7 (Za2 h7);have m0:=i.o.cell (by first|(with_reducible first|exact D|exact B)) (show ¬ p.gw=p.gd from N);have m1:=i.o.cell (by first|(with_reducible first|exact E|exact C)) (show ¬ p.gw=p.gd from N);have mb:=Qj m0;(first|have I:Fr (·=p.gd) (w1.alloc (.cells #[.int .i64 0,.string ⟨#[]⟩] 63)).drew w7:=(by with_reducible exact i.o);obtain⟨t0,t1,t2,t3,t4⟩:=(Qnx q.o I).facts;clear I|skip);clear h7|fail)
  all_goals (
   go_wp2
   go_meet
   first
    | exact⟨lv,w1.heap.size,rfl,rfl,Qz4 ((Qa _ _).drew) q.o.lt H7.o (zu _ _) (Qnx q.o i.o) (zg _)⟩
    | exact⟨lv,w7.heap.size,rfl,rfl,by rw[Qr3];exact Qz4 (Ql _) q.o.lt H7.o (Qa _ _) (Qb5 w7) i.o.size⟩)
 case rest=>
  obtain⟨lv,t,rfl,rfl,d',k,pth,hD,hF,hT,ao,hR⟩:=hcut;have h2:Qa6 wc p { m with d:=d' }:=H1.o.diskStep hD (Q9k hF);have y:d'.files=m.d.files:=by
   rcases hR with⟨c,_⟩|⟨_,c,_⟩|⟨_,_,_,_,c,_⟩
   .exact c.files
   .exact c.files
   exact c.files
  obtain⟨F,u⟩:=zh2 (J4 wc p { m with d:=d' } h2 (by show d'.files.length<=_;rw[y];exact L)) (Qyc wc p.gd p.v d' hD);obtain⟨⟨q0,q1,_⟩,qf⟩:=h2.heads;obtain⟨HT,HF,HR,H2,X⟩:=zh5 hT hF hR h2 y;obtain⟨b,hb⟩:=zzx d'.hit
  have HB:=zh hb;rw[<-hb] at u;clear hD hF hT hR h2 y hb p0 p1 pf D E B C;have r:Qjd { m with d:=d' } U (K+1048576):=by
   refine .inr ⟨Z.o,?_⟩;rcases HR.o with⟨c,_⟩|⟨_,c,_⟩|⟨_,_,_,_,c,_⟩
   .exact (Q34 HG.o HL.o c).bound (by omega)
   .exact (Qvo HG.o HL.o c).bound (by omega)
   exact (Qvo HG.o HL.o c).bound (by omega)
  have aa:=zh r;clear r;have fin:∀ w4,Bz wc w4->Qc1 w p m U (K+1048576) (.returned (.bool true)) w4:=λw4 a=>
   ⟨rfl,p,{ m with d:=d' },rfl,rfl,H2.o.j a,aa.o,(Fr.ofBelow n.o).t ((HF.o.weak λ_ _ e=>Qvi e).t (Fr.ofBelow a)),Sub.refl _ _⟩
  have FIN:=zh fin;clear fin;cases b with
  | false=>
   go_wp2_with (first|go_at_call 76;refine u.o.m ?_;rintro e w3⟨rfl,rfl⟩|go_at_call 26;refine F.o.m ?_;rintro e w4⟨v4,l4,rfl,g,j,a⟩;obtain⟨ab,ak,s⟩:=zh3 g j a;obtain⟨a4,af,rfl⟩:=Zo g;obtain⟨t0,t1,_,_,_⟩:=(HT.o.j a).facts;clear g j a|fail)
   go_ret;exact FIN.o _ s.o
  | true=>
   have V:u4=.pointer none/\k=8:=by
    rcases HR.o with⟨_,e1,e2⟩|⟨_,c,_⟩|⟨_,_,_,_,c,_⟩
    .exact⟨e1,e2⟩
    .exact absurd (HB.o.t (c.hit.t x.o)) (by decide)
    exact absurd (HB.o.t (c.hit.t x.o)) (by decide)
   obtain⟨rfl,rfl⟩:=V;have z:∀ l4:List Fil,l4.Perm d'.files->((l1.length:Int) == (l4.length:Int))=true:=λl4 hp=>by rw[hp.length_eq,ad.o.length_eq,X.o];exact Xi _
   have R:=zh z;clear z
   go_wp2_with (first|go_at_call 76;refine u.o.m ?_;rintro e w3⟨rfl,rfl⟩|go_at_call 26;refine F.o.m ?_;rintro e w4⟨v4,l4,rfl,g,j,a⟩;have ab:=zh g;have an:=R.o l4 j;have s:=zh a;obtain⟨a4,af,rfl⟩:=Zo g;obtain⟨t0,t1,_,_,_⟩:=(HT.o.j a).facts;clear g j a|fail)
   go_ret;exact FIN.o _ s.o
theorem Zcz{e:Ua}(h:Qx2 l key w e w'):∃ (ve:J) (n k:Int) (p:O),e=.returned (.tuple #[ve,.int .i64 n,.int .i64 k,.string p]):=by
 rcases h.2 with⟨k,p,_,rfl⟩|⟨n,v,ss,_,_,rfl,_⟩
 .exact⟨_,_,_,_,rfl⟩
 exact⟨_,_,_,_,rfl⟩
variable {p:O}
theorem Q7m{a:J}{n k:Int}(h:Qx2 l key w (.returned (.tuple #[a,.int .i64 n,.int .i64 k,.string p])) w'):(∃ kn:Nat,Yu l key (.bad kn p)/\k=kn)∨∃ (nn:Nat) (ss:List O),Yu l key (.good (lists ss) nn)/\n=nn/\k=0/\Qq w' w.heap.size a ss:=by
 rcases h.2 with⟨kn,p',h1,he⟩|⟨nn,v,ss,_,h1,he,h2⟩
 .simp at he
  obtain⟨_,_,rfl,rfl⟩:=he;exact .inl ⟨kn,h1,rfl⟩
 simp at he;obtain⟨rfl,rfl,rfl,rfl⟩:=he;exact .inr ⟨nn,ss,h1,rfl,rfl,h2⟩
theorem Q5f{k:Nat}(h:Yu l key (.bad k p)):0<k:=by cases h <;> decide
set_option maxHeartbeats 8000000 in
theorem Qsi(f:Nat->Addr)(w:G)(p:Pl)(m:Wm)(U:List Nat)(K:Nat)(h:Qa6 w p m)(hG:Qe4 m U K)(az:m.foreign=false)(hE:Qbj f (WdS p m) w)(hU:U.length<=16384)(hK:K<=800000000000)(Z:m.key.size<=1048600):Calls prog 21 #[.pointer (some ⟨p.gw,0,none⟩)] w (Qe8 (Zbd m) w p m U (K+1048576)):=by
 have X:=h.gg;have S:m.d.files.length<=1000000000000:=by have:=hG.sane.len;omega
 obtain⟨⟨c0,c1,_⟩,cf⟩:=h.heads;obtain⟨HM,HH,HG,HE,ao⟩:=zh5 (Q99 w p.gd p.v m.d h.disk) h hG hE az;clear h hG hE az
 go_enter func21,ntmps21
 go_wp2_with (go_at_call 71;refine HM.o.m ?_;rintro e w1⟨rfl,aw,ax⟩;obtain⟨bb,B⟩:=zh2 aw ax;clear aw ax)
 have h1:Qa6 w1 p { m with d:=Qk5 m.d }:=HH.o.diskStep bb.o (Q9k B.o);obtain⟨bl,H1⟩:=zh2 (J4 w1 p { m with d:=Qk5 m.d } h1 S) h1;obtain⟨⟨d0,d1,_⟩,df⟩:=h1.heads;clear h1
 go_upto_region 3 with (first|go_at_call 26;refine bl.o.m ?_;rintro e w2⟨v2,l2,rfl,a,a5,au⟩;obtain⟨bd,E,q⟩:=zh3 a a5 au;obtain⟨a2,bn,rfl⟩:=Zo a;clear a a5 au|fail)
 have h2:=H1.o.j q.o;obtain⟨⟨e0,e1,_⟩,ef⟩:=h2.heads;have V:getF l2=getF m.d.files:=Qcn HG.o.sane.once E.o;have H:FewB l2 U.length:=Zbh V (HG.o.sane.few (by omega));obtain⟨bi,H2,aq⟩:=zh3 (Qxw w2 (.slice a2 l2.length bn) l2 m.key (Ye bd.o) (by rw[E.o.length_eq];exact zi S (by decide)) (λx hx=>HG.o.sane.size x (E.o.mem_iff.1 hx)) Z U.length H (by omega)) h2 V;clear h2 V H d0 d1 df
 go_upto_region 4 with (first|go_at_call 72;refine bi.o.m ?_;intro e w3 h3;obtain⟨ve,nn,rk,rp,rfl⟩:=Zcz h3;have D:=zh h3;clear h3|fail)
 have h3:=H2.o.j D.o.1;obtain⟨⟨p0,p1,_⟩,pf⟩:=h3.heads;have a3:=λ(W:G) (hb:Bz w3 W)=>Qwo f W p.gd p.v (Qk5 m.d) m.key (h3.disk.j hb) U.length
  (((((HE.o.fr (B.o.weak λ_ _ e=>Qvi e)).j q.o).j D.o.1).j hb).less λk e=>Qvi e) (HG.o.sane.few (by omega)) (by omega) (by have:=HG.o.sane.calls;show m.d.calls<_;omega) HG.o.sane.size (zi Z (by decide))
 obtain⟨be,H3,A⟩:=zh3 a3 h3 h3.disk;have pb:=Qj p0;have pbn:p.gw<w3.heap.size:=pb;have aj:(w3.alloc (.cells #[.int .i64 0,.string ⟨#[]⟩] 63)).drew.cell? ⟨p.gw,0,none⟩=some (.pointer (some ⟨p.gd,0,none⟩)):=((Qa w3 _).cell (p:=⟨p.gw,0,none⟩) pb).t p0;have ak:(w3.alloc (.cells #[.int .i64 0,.string ⟨#[]⟩] 63)).drew.cell? ⟨p.gw,1,none⟩=some (.string m.key):=((Qa w3 _).cell (p:=⟨p.gw,1,none⟩) pb).t p1;have al:w3.drew.cell? ⟨p.gw,0,none⟩=some (.pointer (some ⟨p.gd,0,none⟩)):=p0;have am:w3.drew.cell? ⟨p.gw,1,none⟩=some (.string m.key):=p1;have mne:p.gw≠w3.heap.size:=xH pb;clear h3 a3
 go_cut [8,9] from 31 to 41 (λs8 s9 wx=>∃ (lv:J) (t:Nat),s8=lv/\s9=.pointer (some ⟨t,0,none⟩)/\Aside (Zbe w3 p.gd p.v (Qk5 m.d) m.key (8*U.length+16) lv t wx))
 case first=>
  go_region_held3 (λw'=>w'.cell? ⟨p.gw,0,none⟩=some (.pointer (some ⟨p.gd,0,none⟩))/\w'.cell? ⟨p.gw,1,none⟩=some (.string m.key)) (first|with_reducible exact⟨p0,p1⟩|with_reducible exact⟨al,am⟩|with_reducible exact⟨aj,ak⟩|with_reducible exact⟨m0,m1⟩|exact⟨Qic m0 mne,Qic m1 mne⟩|exact⟨((Qa w7 _).cell (p:=⟨p.gw,0,none⟩) mb).t m0,((Qa w7 _).cell (p:=⟨p.gw,1,none⟩) mb).t m1⟩|exact⟨Qic (((Qa w7 _).cell (p:=⟨p.gw,0,none⟩) mb).t m0) (xH mb),Qic (((Qa w7 _).cell (p:=⟨p.gw,1,none⟩) mb).t m1) (xH mb)⟩|fail) (first|go_at_call 73;refine zb9 (be.o _ (by first|exact Ql _|exact (Qa _ _).drew)) ?_;intro e w7 h7;obtain⟨lv,kk,pth,rfl⟩:=Q55 h7;obtain⟨H7,C⟩:=zh2 h7 (Za2 h7);have m0:=C.o.cell (by first|(with_reducible first|exact al|exact aj)) (show ¬ p.gw=p.gd from X);have m1:=C.o.cell (by first|(with_reducible first|exact am|exact ak)) (show ¬ p.gw=p.gd from X);have mb:=Qj m0;(first|have ay:Fr (·=p.gd) (w3.alloc (.cells #[.int .i64 0,.string ⟨#[]⟩] 63)).drew w7:=(by with_reducible exact C.o);obtain⟨t0,t1,t2,t3,t4⟩:=(Qnx A.o ay).facts;clear ay|skip);clear h7|fail)
  all_goals (
   go_wp2
   go_meet
   first
    | exact⟨lv,w3.heap.size,rfl,rfl,Qz4 ((Qa _ _).drew) A.o.lt H7.o (zu _ _) (Qnx A.o C.o) (zg _)⟩
    | exact⟨lv,w7.heap.size,rfl,rfl,by rw[Qr3];exact Qz4 (Ql _) A.o.lt H7.o (Qa _ _) (Qb5 w7) C.o.size⟩)
 case rest=>
  obtain⟨lv,t,rfl,rfl,d',k,pth,hD,hF,hT,b6,hR⟩:=hcut;have bp:Calm (8*U.length+16) (Qk5 m.d) d'/\((∃ kn:Nat,Yu m.d.files m.key (.bad kn pth)/\u8=.pointer none/\k=kn)∨
    ∃ es n gl g,Yu m.d.files m.key (.good es n)/\u8=.pointer (some ⟨gl,0,none⟩)/\k=0/\PlIs wc gl g/\w3.heap.size<=gl/\Qji w3 p.gd m.key es g wc):=by
   rcases hR with⟨c,_⟩|⟨kn,c,h1,h2,h3⟩|⟨es,n,gl,g,c,h1,h2,h3,h4,h5,h6⟩
   .exact (Qt1 c).elim
   .exact⟨c,.inl ⟨kn,h1,h2,h3⟩⟩
   exact⟨c,.inr ⟨es,n,gl,g,h1,h2,h3,h4,h5,h6⟩⟩
  obtain⟨s,ar⟩:=bp;have h4:Qa6 wc p { m with d:=d' }:=H3.o.diskStep hD (Q9k hF);have R:d'.files=m.d.files:=s.files;obtain⟨bm,HT,HF,b,H4,bc⟩:=zh6 (J4 wc p { m with d:=d' } h4 (by show d'.files.length<=_;rw[R];exact S)) hT hF s h4 R;have br:¬ p.gw=t:=by omega
  have bz:¬ t=p.gw:=λe=>br e.symm
  have bx:¬ p.gd=p.gw:=λe=>X e.symm
  clear hD hF hT hR s h4 R p0 p1 pf al am aj ak mne
  go_upto_region 6 with (first|go_at_call 26;refine bm.o.m ?_;rintro e w4⟨v4,l4,rfl,ac,a6,av⟩;obtain⟨b2,bg,r⟩:=zh3 ac a6 av;obtain⟨a4,b3,rfl⟩:=Zo ac;clear ac a6 av|fail)
  have h5:=H4.o.j r.o;obtain⟨⟨q0,q1,q2,q3,q4,q5,q6⟩,qf⟩:=h5.heads;obtain⟨⟨_,_,_,_,_,_,_,s7⟩,_⟩:=h5.disk.cells;obtain⟨t0,t1,_,_,_⟩:=(HT.o.j r.o).facts;have a1:((l2.length:Int) == (l4.length:Int))=true:=by rw[bg.o.length_eq,E.o.length_eq,bc.o];exact Xi _
  have b1:(!((l2.length:Int) == (l4.length:Int)))=false:=by rw[a1];rfl
  have H5:=zh h5;have b4:=Qj q0;have P:d'.turned=false:=b.o.turned.t HG.o.sane.turned;rw[P] at s7;have a0:Fr (WdS p m) w w4:=(B.o.weak λ_ _ e=>Qvi e).t ((Fr.ofBelow (q.o.t (D.o.1.m q.o.size))).t ((HF.o.weak λ_ _ e=>Qvi e).t (Fr.ofBelow r.o)));have ap:=zh a0;have a8:w.heap.size<=w3.heap.size:=zi B.o.size (zi q.o.size D.o.1.size);have bu:w.heap.size<=w2.heap.size:=zi B.o.size q.o.size;obtain⟨HC,F⟩:=zh2 (Q7m D.o) ar;clear h5 P a0 ar;rcases HC.o with⟨kn,ho,ag⟩|⟨nn',ss,ho,bt,ag,u⟩
  .have a:=Qqi aq.o ho
   have ba:=Q5f a;rcases F.o with⟨ai,j,M,hk⟩|⟨es,n,gl,g,j,_⟩
   .have l:=j.one a
    simp only[Opn.bad.injEq] at l;obtain⟨rfl,rfl⟩:=l;subst M;subst hk;subst ag;have b5:((ai:Int) == 0)=false:=by rw[zl];omega
    have b0:¬ (ai:Int)=0:=by omega
    have bf:=zh a;clear ho a j ba HC F;go_wp2;go_ret;have u:=H5.o.ownStep (p':=p) (m':=⟨m.key,d',none,m.es,m.pub,false,m.foreign⟩) ((Fr.set1 w4 p.gw 2 (.pointer none)).set 5 (.bool false)) ((heap_setCell (heap_setCell H5.o.cells _) _).t (by simp[Qez,plV])) ⟨rfl,rfl,rfl,rfl⟩ H5.o.ents (λL hL=>by cases hL);refine⟨rfl,p,⟨m.key,d',none,m.es,m.pub,false,m.foreign⟩,rfl,rfl,u,.inr ⟨ao.o,(Q4o HG.o b.o m.foreign).bound (by omega)⟩,?_,?_,rfl,d',_,b.o,.inr ⟨⟨_,_,bf.o⟩,rfl⟩⟩
    .exact ap.o.t (((Fr.set1 w4 p.gw 2 (.pointer none)).set 5 (.bool false)).weak λ_ _ e=>.inl e)
    intro i hi;rcases hi with hi|hi|hi|⟨hi,_⟩
    .exact .inl (.inl hi)
    .exact .inl (.inr (.inl hi))
    .exact .inl (.inr (.inr (.inl hi)))
    cases hi
   have:=j.one a
   cases this
  have a:=Qqi aq.o ho;rcases F.o with⟨ai,j,M,hk⟩|⟨es,n,gl,g,j,M,hk,ad,bq,T⟩
  .have:=j.one a
   cases this
  have l:=j.one a;simp only[Opn.good.injEq] at l;obtain⟨rfl,rfl⟩:=l;subst M;subst hk;subst ag;subst bt;obtain⟨qve,qvl,qvs,ab,bw,a7⟩:=T;have z:Qq wc w2.heap.size ve ss:=Zm u HF.o (Q1 A.o.1) (by decide);have y:Qq w4 0 ve ss:=Zg (Qn z r.o) (zE _);have I:=ab.j r.o;have af:PlIs w4 gl g:=(r.o.block _ (Qb ad)).t ad;have ah:∀ i,ve.ownBlock=some i->w.heap.size<=i:=λi hi=>zi bu (z.lt i hi).1
  obtain⟨ae,ce,rfl⟩:=Zo y;have hstep:=H5.o.ownStep (p':={ p with en:=.slice ae ss.length ce,gl:=gl,g:=g,ve:=qve,vl:=qvl,vp:=.slice none 0 0,vs:=qvs }) (m':=⟨m.key,d',some ⟨m.key,lists ss,levels (lists ss),[],false⟩,ss,n,false,m.foreign⟩)
   ((((Fr.set1 w4 p.gw 2 (.pointer (some ⟨gl,0,none⟩))).set 5 (.bool false)).set 3 (.slice ae ss.length ce)).set 4 (.int .i64 n))
   ((heap_setCell (heap_setCell (heap_setCell (heap_setCell H5.o.cells _) _) _) _).t (by simp[Qez,plV])) ⟨rfl,rfl,rfl,rfl⟩ y (λL hL=>by cases hL;exact⟨af,I⟩)
  have an:=zh hstep;have N:=Quy _ gl g p.gd _ _ _ _ _ (hstep.log _ rfl).1 (hstep.log _ rfl).2;have aa:((lists ss).length:Int)=(ss.length:Int):=by simp[lists]
  dsimp only at N;rw[aa] at N;obtain⟨bh,bk,bj,Q⟩:=zh4 N ah a7 a;clear u z y ab I ad af hstep N aa ah ho a j HC F a7
  go_wp2_with (first|go_at_call 74;refine bh.o.m ?_;rintro e w9⟨rfl,rfl⟩|fail)
  all_goals (first|exact absurd (eq_of_beq a1) (by assumption)|skip)
  go_ret;refine⟨rfl,{ p with en:=.slice ae ss.length ce,gl:=gl,g:=g,ve:=qve,vl:=qvl,vp:=.slice none 0 0,vs:=qvs },⟨m.key,d',some ⟨m.key,lists ss,levels (lists ss),[],false⟩,ss,n,false,m.foreign⟩,rfl,rfl,an.o,.inr ⟨ao.o,(Q7x HG.o (by omega) b.o Q.o m.foreign).bound (by omega)⟩,?_,?_,rfl,d',_,b.o,.inl ⟨ss,n,Q.o,rfl⟩⟩
  .exact ap.o.t (((((Fr.set1 w4 p.gw 2 (.pointer (some ⟨gl,0,none⟩))).set 5 (.bool false)).set 3 (.slice ae ss.length ce)).set 4 (.int .i64 n)).weak λ_ _ e=>.inl e)
  intro i hi;rcases hi with hi|hi|hi|⟨_,hi|hi⟩
  .exact .inl (.inl hi)
  .exact .inl (.inr (.inl hi))
  .exact .inr (bk.o i hi)
  .exact .inr (by subst hi;exact zi a8 bq)
  exact .inr (zi a8 (bj.o i hi))
theorem Q60(f:Nat->Addr)(w:G)(p:Pl)(m:Wm)(U:List Nat)(K:Nat)(h:Qa6 w p m)(d:Qe4 m U K)(b:m.foreign=false)(c:Qbj f (WdS p m) w)(g:U.length<=16384)(e:K<=800000000000)(a:m.key.size<=1048600):Calls prog 21 #[.pointer (some ⟨p.gw,0,none⟩)] w (Qc1 w p m U (K+1048576)):=
 (Qsi f w p m U K h d b c g e a).m λ_ _ h=>h.ok
theorem Qs9(f:Nat->Addr)(w:G)(a:Yp w f):Calls prog 119 #[.nilIface,.string ⟨#[]⟩] w λe w'=>e=.returned (.tuple #[.pointer none,.iface 370 (.pointer (some (f 6)))])/\Bz w w':=by
 have hn:(binOp .eql 234 .nilIface .nilIface).run prog w=.ok (.bool true) w:=by
  have h:∀ d:Nat,(Op.equalIn (d+1) 234 .nilIface .nilIface).run prog w=.ok true w:=λd=>by simp[Op.equalIn,ZV underlying234]
  simp only[binOp];simp[Op.equal,Op.maxDepth,h 9999]
 obtain⟨_,_,_,_,_,_,s6⟩:=a.cells;clear a
 go_enter func119,ntmps119
 go_wp2;go_region
 all_goals (
  go_wp2
  go_ret2
  exact⟨rfl,Ql w⟩)
theorem Qu9(f:Nat->Addr)(w:G)(m:Yp w f):Calls prog 65 #[] w λe w'=>e=.returned (.tuple #[.bool false,Jh 7 ⟨#[]⟩])/\Bz w w':=by
 obtain⟨w0,b⟩:=zzx (w.alloc (.cells #[.int .i64 0,.string ⟨#[]⟩] 63))
 have d:Bz w w0:=by rw[b];exact Qa w _
 obtain⟨HT,c,HS⟩:=zh3 (show Zq w0 w.heap.size 0 ⟨#[]⟩ by rw[b];exact Qb5 w) d (m.j d);have g:=λ(w1:G) (hb:Bz w0 w1)=>Qhg f w1 (HS.o.j hb) 6 (by decide) (by decide)
 rw[show ((Qc2 6:Nat):Int)=7 from rfl] at g;have HX:=zh g;clear g;obtain⟨k,l⟩:=zh2 (Qs9 f w0 HS.o) b;clear m d b
 go_enter func65,ntmps65
 go_wp2_with fail
 rw[<-l.o]
 go_wp2_with (first|go_at_call 119;refine k.o.m ?_;rintro e w1⟨rfl,i⟩;have a:=zh i;clear i|go_at_call 87;refine (HX.o w1 a.o).m ?_;rintro e w2⟨rfl,j⟩;have h:=zh j;clear j;obtain⟨t0,t1,t2,t3,t4⟩:=((HT.o.j a.o).j h.o).facts)
 refine zI (v:=.tuple #[.bool false,Jh 7 ⟨#[]⟩]) (by simp[results,results65,go_sem,t0,t1]) rfl ⟨rfl,?_⟩;have hz:w.heap.size<=w1.heap.size:=zi c.o.size a.o.size;exact (((c.o.t (a.o.m c.o.size)).t (h.o.m hz)).setCell (zg _) _).setCell (zg _) _
def Qgc(w:G)(g gd:Nat)(v ve vl vp:J)(vs:List J)(d:Dk)(L:Lg)(e:Ua)(w':G):Prop:=
 if L.failed=true then e=.returned (.tuple #[.int .i64 0,Jh 7 ⟨#[]⟩])/\Bz w w'
 else ∃ v' vp' Q,Q=pubD L.entries L.key L.put d/\Q5 w' gd v' Q.1/\Z2 w' g gd ve vl vp' vs { L with put:=Q.2.1,failed:=Q.2.2.isSome }/\Fr (Qaf g gd v ve vl vp vs) w w'/\Sub w (Qaf g gd v ve vl vp vs) (Qaf g gd v' ve vl vp' vs)/\
  ((Q.2.2=none/\e=.returned (.tuple #[.int .i64 L.entries.length,Jh 0 ⟨#[]⟩]))∨∃ p,Q.2.2=some p/\e=.returned (.tuple #[.int .i64 0,Jh 8 p]))
theorem Q0f{w w0 w1 q w3:G}{g a:Nat}{v b c h j vp':J}{f:List J}{L r:Lg}{d d':Dk}(p:w0=w.alloc (.cells #[.int .i64 0,.string ⟨#[]⟩] 63))(B:Z2 w0 g a b c h f L)(A:Q5 w0 a v d)(C:∀ k,Qaf g a v b c h f k->k<w.heap.size)(x:Q5 w1 a j d')(y:Z2 w1 g a b c vp' f r)(u:Fr (Qaf g a v b c h f) w0 w1)(z:Sub w0 (Qaf g a v b c h f) (Qaf g a j b c vp' f))(i:Bz w1 q):Zq q w.heap.size 0 ⟨#[]⟩/\∀ n s,w3=(q.setCell ⟨w.heap.size,0,none⟩ (.int .i64 n)).setCell ⟨w.heap.size,1,none⟩ (.string s)->
   Q5 w3 a j d'/\Z2 w3 g a b c vp' f r/\Fr (Qaf g a v b c h f) w w3/\Sub w (Qaf g a v b c h f) (Qaf g a j b c vp' f):=by
 have t0:Zq w0 w.heap.size 0 ⟨#[]⟩:=by rw[p];exact Qb5 w
 have t1:Zq w1 w.heap.size 0 ⟨#[]⟩:=t0.kept u ((Qdf A).or (Qhq B)) (by decide);have t2:=t1.j i;have l:Bz w w0:=by rw[p];exact Qa w _
 refine⟨t2,λn s e=>?_⟩;have ts:=Qdi (m:=n) (t:=s) t2;rw[<-e] at ts;have o:=Q1 t2;refine⟨(x.j i).kept ts.2 o (by decide) (by decide),(y.j i).kept ts.2 o (by decide) (by decide),?_,z.m l.size⟩;exact ((Fr.ofBelow l).t (u.t (Fr.ofBelow i))).step ts.2 λk hk e=>by subst e;omega
theorem Qni(f:Nat->Addr)(w:G)(M g q:Nat)(v B C D:J)(E:List J)(d:Dk)(L:Lg)(z:PlIs w M g)(h:Z2 w g q B C D E L)(N:Q5 w q v d)(P:Qbj f (Qaf g q v B C D E) w)(K:L.levels=levels L.entries)(X:L.entries.length<=1048576)(V:∀ e∈L.entries,e.length<=20)(T:Qe7 (Zc L.entries) L.put)(W:d.calls<900000000000)(S:d.files.length<900000000000)(R:L.key.size<=9223372036854775807):Calls prog 75 #[.pointer (some ⟨M,0,none⟩)] w (Qgc w g q v B C D E d L):=by
 obtain⟨w0,n⟩:=zzx (w.alloc (.cells #[.int .i64 0,.string ⟨#[]⟩] 63))
 have c:Bz w w0:=by rw[n];exact Qa w _
 have I:∀ k,Qaf g q v B C D E k->k<w.heap.size:=λk hk=>Qn1 h N hk
 have h0:=h.j c;have y:=N.j c;have U:PlIs w0 M g:=(c.block _ (Qb z)).t z;have c0:=Qd z 0 rfl;have Z:=Qb z;obtain⟨s,HE,HL,HD,F,HC,HT,x⟩:=zh8 c (P.j c) h0 y I (Qyr f w0 g q v B C D E d L h0 y (P.j c) K X V T W S R) (show Zq w0 w.heap.size 0 ⟨#[]⟩ by rw[n];exact Qb5 w) n;clear z h N P K V T c I h0 y U n
 go_enter func75,ntmps75
 go_wp2_with fail
 rw[<-x.o]
 go_at_call 126
 refine HC.o.m ?_;intro e w1 h1;unfold Qhv at h1;by_cases hf:L.failed=true
 .rw[zD hf] at h1
  obtain⟨rfl,hb⟩:=h1;have A:=Qhg f w1 (HE.o.j hb).sents 6 (by decide) (by decide);rw[show ((Qc2 6:Nat):Int)=7 from rfl] at A;have HX:=zh A;clear A;obtain⟨HB,HF⟩:=zh2 hb hf;clear hb hf
  go_wp2_with (go_at_call 87;refine HX.o.m ?_;rintro e w2⟨rfl,b⟩;have i:=zh b;clear b;obtain⟨t0,t1,t2,t3,t4⟩:=((HT.o.j HB.o).j i.o).facts)
  refine zI (v:=.tuple #[.int .i64 0,Jh 7 ⟨#[]⟩]) (by simp[results,results75,go_sem,t0,t1]) rfl ?_;unfold Qgc;rw[zD HF.o];have hz:w.heap.size<=w1.heap.size:=zi s.o.size HB.o.size;exact⟨rfl,(((s.o.t (HB.o.m s.o.size)).t (i.o.m hz)).setCell (zg _) _).setCell (zg _) _⟩
 rw[zw hf] at h1;obtain⟨v',vp',Q,hQ,h2,h3,h4,h5,h6⟩:=h1;obtain⟨HQ,H2,H3,H4,H5,HF⟩:=zh6 hQ h2 h3 h4 h5 hf;have H:=HE.o.step h4 h5;have t:=zh H;clear hQ h2 h3 h4 h5 hf H;rcases h6 with⟨h7,rfl⟩|⟨p,r,u,m,h7,rfl,_,_,h8,h9⟩
 .have H7:=zh h7
  have HX:=zh (Qsa f w1 t.o.sents);clear h7
  go_wp2_with (go_at_call 87;refine HX.o.m ?_;rintro e w2⟨rfl,b⟩;have i:=zh b;clear b;obtain⟨l,j⟩:=Q0f (w3:=(w2.setCell ⟨w.heap.size,0,none⟩ (.int .i64 0)).setCell ⟨w.heap.size,1,none⟩ (.string ⟨#[]⟩)) x.o HL.o HD.o F.o H2.o H3.o H4.o H5.o i.o;have a:=zh (j 0 _ rfl);obtain⟨t0,t1,t2,t3,t4⟩:=l.facts;clear l j)
  refine zI (v:=.tuple #[.int .i64 L.entries.length,Jh 0 ⟨#[]⟩]) (by simp[results,results75,go_sem,t0,t1]) rfl ?_;unfold Qgc;rw[zw HF.o];exact⟨v',vp',Q,HQ.o,a.o.1,a.o.2.1,a.o.2.2.1,a.o.2.2.2,.inl ⟨H7.o,rfl⟩⟩
 obtain⟨H7,HX⟩:=zh2 h7 (Za6 f w1 t.o.sents t.o.errT r u p h9);clear h7 h8 h9
 go_wp2_with (go_at_call 87;refine HX.o.m ?_;rintro e w2⟨rfl,b⟩;have i:=zh b;clear b;obtain⟨l,j⟩:=Q0f (w3:=(w2.setCell ⟨w.heap.size,0,none⟩ (.int .i64 8)).setCell ⟨w.heap.size,1,none⟩ (.string p)) x.o HL.o HD.o F.o H2.o H3.o H4.o H5.o i.o;have a:=zh (j 8 p rfl);obtain⟨t0,t1,t2,t3,t4⟩:=l.facts;clear l j)
 refine zI (v:=.tuple #[.int .i64 0,Jh 8 p]) (by simp[results,results75,go_sem,t0,t1]) rfl ?_;unfold Qgc;rw[zw HF.o];exact⟨v',vp',Q,HQ.o,a.o.1,a.o.2.1,a.o.2.2.1,a.o.2.2.2,.inr ⟨p,H7.o,rfl⟩⟩
theorem Q3.same2{w':G}{base:Nat}{l:Ud}(h:Q3 w base v l)(e:∀ (k:Nat) (C:Array J) (fz:Nat×Nat),base<=k->w.heap[k]?=some (Obj.cells C 5 fz)->w'.heap[k]?=w.heap[k]?)(a:Nat)(d:a<=base):Q3 w' a v l:=by
 rcases h with h|⟨b,off,c,C,fz,h1,h0,h2,h3,h4⟩
 .exact .inl h
 exact .inr ⟨b,off,c,C,fz,h1,h0,zi d h2,(e b C fz h2 h3).t h3,h4⟩
theorem Qxu{b i:Nat}{e:TypeId}{a:Nat}{n:Nat}{xs d:List J}(h:w.ownsRow b e a v n xs)(k:w.ownsRow i e a v n d):xs=d:=by
 rcases h.2 with⟨rfl,h0⟩|⟨g,cap,cur,rfl,_,hg,_,_,_,ht⟩
 .have h1:=h.1
  have k1:=k.1;subst h0;have e1:xs = []:=zG (by simpa using h1);have e2:d = []:=zG (by simpa using k1);rw[e1,e2]
 rcases k.2 with⟨e,_⟩|⟨g',cap',cur',e,_,c,_,_,_,f⟩
 .cases e
 cases e;rw[hg] at c;cases c;exact ht.symm.t f
theorem Q3u{w1 B w3:G}{g z q:Nat}{r t c:J}{v:List J}{L:Lg}{b:Ud}(h:Z2 w g z r t c v L)(d:Bz w w1)(R:Took w1 g z r t c v L b B)(m:Fr (·=q) B w3)(T:w.heap.size<=q)(S:q<w1.heap.size)(F:Qas B (·=q) [5]):∃ ve' vl' vs',Z2 w3 g z ve' vl' c vs' { L with entries:=L.entries ++ [b],levels:=levels (L.entries ++ [b]) }/\Fr (LogS g r t c v) w w3/\Sub w (LogS g r t c v) (LogS g ve' vl' c vs'):=by
 obtain⟨ve',vl',vs',P,u,p,n,M,I,K,hu⟩:=R;have h1:=h.j d;obtain⟨vsw,y,D⟩:=h.ents;have N:vsw=P:=Qxu (Qn y d) I;subst N;have a:=p.rest m 5 (λk C s f hk' hc=>zS.1 (F k C s f hk' hc));refine⟨ve',vl',vs',⟨(a.1 (by decide)).t p.cells,?_,a.2.2.1 (by decide),a.2.2.2.1 (by decide),p.apart,a.2.2.2.2 (by decide)⟩,?_,M.m d.size⟩
 .have A:w3.ownsRow 0 147 1 ve' (L.entries ++ [b]).length (vsw ++ [u]):=by rw[zn,Vd];exact Zm K m F (by decide)
  refine⟨_,A,λj x l hx hlj=>?_⟩;have Q:vsw.length=L.entries.length:=by simpa using y.1
  rcases zK j vsw.length with hj|hj
  .rw[zV hj] at hx
   rw[zV (by omega)] at hlj;exact (D j x l hx hlj).same λk C fz hkC=>by
    have H:=Qb hkC;have e1:=d.block k H;have o:w1.heap[k]?=some (.cells C 5 fz):=e1.t hkC;have e2:=n.block k (Qb o) λhS=>h1.noBytes k C fz o hS
    have e3:=m.block k (zJ (Qb o) n.size) (λe=>by subst e;omega);exact e3.t (e2.t e1)
  rw[ZC hj] at hx;rw[ZC (by omega)] at hlj;have E:j-vsw.length=0:=by
   rcases vg (j-vsw.length) with h0|h0
   .exact h0
   rw[vq (by simp;omega)] at hx;cases hx
  rw[E] at hx;rw[show j-L.entries.length=0 by omega] at hlj;cases hx;cases hlj;exact hu.same2 (λk C fz hbk hkC=>m.block k (Qb hkC) λe=>by subst e;omega) 0 (zE _)
 exact ((Fr.ofBelow d).t n).step m λi hi e=>by subst e;omega
def Qky(w:G)(g gd:Nat)(ve vl vp:J)(vs:List J)(L:Lg)(b:Ud)(e:Ua)(w':G):Prop:=
 if 20<b.length then e=.returned (.tuple #[.int .i64 0,Jh 1 ⟨#[]⟩])/\Bz w w'
 else if L.failed=true then e=.returned (.tuple #[.int .i64 0,Jh 7 ⟨#[]⟩])/\Bz w w'
 else e=.returned (.tuple #[.int .i64 L.entries.length,Jh 0 ⟨#[]⟩])/\∃ ve' vl' vs',Z2 w' g gd ve' vl' vp vs' { L with entries:=L.entries ++ [b],levels:=levels (L.entries ++ [b]) }/\Fr (LogS g ve vl vp vs) w w'/\Sub w (LogS g ve vl vp vs) (LogS g ve' vl' vp vs')
theorem Qy7(f:Nat->Addr)(w:G)(gl g gd:Nat)(T U V:J)(W:List J)(L:Lg)(s:O)(hp:PlIs w gl g)(h:Z2 w g gd T U V W L)(hE:Qbj f (LogS g T U V W) w)(au:L.levels=levels L.entries)(hn:L.entries.length<1048576):Calls prog 81 #[.pointer (some ⟨gl,0,none⟩),.string s] w (Qky w g gd T U V W L s.data.toList):=by
 obtain⟨i0,hi,aj,_,_⟩:=ZZ Qgn;have c0:=Qd hp 0 rfl;have a4:=Qb hp;obtain⟨HE,HL,HP,az⟩:=zh4 hE h hp au;have hg:=Qb h.cells;obtain⟨w0,Q⟩:=zzx (w.alloc (.cells #[.int .i64 0,.string ⟨#[]⟩] 63))
 obtain⟨a2,H,a0⟩:=zh3 Q (show Bz w w0 by rw[Q];exact Qa w _) (show Zq w0 w.heap.size 0 ⟨#[]⟩ by rw[Q];exact Qb5 w);have bc:w0.heap.size=w.heap.size+1:=by rw[Q];simp
 have aq:=(H.o.cell (p:=⟨gl,0,none⟩) a4).t c0;clear h hE hp au Q
 go_enter func81,ntmps81
 go_upto_region 1 with fail
 rw[<-a2.o]
 go_upto_region 2 with (first|refine Qcs rfl 9 147 5 _ rfl underlying9 underlying147 underlying5 rfl s rfl ?_;intro u w1 hu ap a6 a5;obtain⟨b1,c1,rfl⟩:=a5;obtain⟨HU,I⟩:=zh2 hu ap;clear hu ap a6|fail)
 have ag:=(HL.o.j H.o).j I.o;have ac:=(HE.o.j H.o).j I.o;have ad:w0.heap.size<=b1/\b1<w1.heap.size/\∃ C fz,w1.heap[b1]?=some (.cells C 5 fz):=by
  rcases HU.o with⟨e,_⟩|⟨b,off,c,C,fz,e,_,h2,h3,_⟩
  .cases e
  cases e;exact⟨h2,Qb h3,C,fz,h3⟩
 obtain⟨n,ax,bd,Z,y⟩:=zh5 ad (Q1t f w1 g gd T U V W L ag _ s.data.toList (HU.o.m (zE _)) hn az.o ac.sents) ac ag (H.o.t (I.o.m H.o.size));have be:=(I.o.cell (p:=⟨gl,0,none⟩) (Qj aq)).t aq;have aa:=zh (a0.o.j I.o);clear ag ac ad
 go_wp2_with fail
 go_at_call 128
 refine ax.o.m ?_;intro e w2 h2;unfold Qfo at h2;have q:w.heap.size<=w1.heap.size:=y.o.size;by_cases hlong:20<s.data.toList.length
 .rw[zD hlong] at h2
  obtain⟨rfl,d⟩:=h2;obtain⟨K,P,N⟩:=zh3 d ((HU.o.m (zE _)).j d) (aa.o.j d);have E:=zh (show Qas w2 (·=b1) [5] from by obtain⟨_,_,C,fz,hC⟩:=n.o;exact Q1 ((d.block _ (Qb hC)).t hC));have B:w.heap.size<=w2.heap.size:=zi q d.size;have r:=zh hlong;have l:=λ(w3:G) (hf:Fr (LogS g T U V W) w w3)=>Qhg f w3 (HE.o w3 hf).2.1 0 (by decide) (by decide)
  rw[show ((Qc2 0:Nat):Int)=1 from rfl] at l;have M:=zh l;have af:w.heap.size<=b1:=zi (by omega) n.o.1;clear d hlong l
  go_wp2_with (first|refine Qcu rfl _ 147 rfl i0 underlying147 hi aj 0 _ s.data.toList rfl P.o ?_;intro w3 n3 x A R;have a:=zh (Fr.ofGrown (S:=(·=b1)) x λk _ e=>(zR e).symm);have F:w.heap.size<=w3.heap.size:=zi B a.o.size;clear x A R|go_at_call 87;refine (M.o _ (((Fr.ofBelow (y.o.t (K.o.m q)))).step a.o λi hi e=>by subst e;omega)).m ?_;rintro e w4⟨rfl,j⟩;have D:=zh j;obtain⟨t0,t1,t2,t3,t4⟩:=((N.o.kept a.o E.o (by decide)).j j).facts;clear j|fail)
  refine zI (v:=.tuple #[.int .i64 0,Jh 1 ⟨#[]⟩]) (by simp[results,results81,go_sem,t0,t1]) rfl ?_;unfold Qky;rw[zD r.o];have ae:Bz w w3:=(y.o.t (K.o.m q)).t (a.o.j B λk hk e=>by omega);exact⟨rfl,((ae.t (D.o.m F)).setCell (zg _) _).setCell (zg _) _⟩
 rw[zw hlong] at h2;by_cases hfd:L.failed=true
 .rw[zD hfd] at h2
  obtain⟨rfl,d⟩:=h2;obtain⟨K,P,N⟩:=zh3 d ((HU.o.m (zE _)).j d) (aa.o.j d);have E:=zh (show Qas w2 (·=b1) [5] from by obtain⟨_,_,C,fz,hC⟩:=n.o;exact Q1 ((d.block _ (Qb hC)).t hC));have B:w.heap.size<=w2.heap.size:=zi q d.size;obtain⟨r,X⟩:=zh2 hlong hfd;have l:=λ(w3:G) (hf:Fr (LogS g T U V W) w w3)=>Qhg f w3 (HE.o w3 hf).2.1 6 (by decide) (by decide)
  rw[show ((Qc2 6:Nat):Int)=7 from rfl] at l;have M:=zh l;have af:w.heap.size<=b1:=zi (by omega) n.o.1;clear d hlong l hfd
  go_wp2_with (first|refine Qcu rfl _ 147 rfl i0 underlying147 hi aj 0 _ s.data.toList rfl P.o ?_;intro w3 n3 x A R;have a:=zh (Fr.ofGrown (S:=(·=b1)) x λk _ e=>(zR e).symm);have F:w.heap.size<=w3.heap.size:=zi B a.o.size;clear x A R|go_at_call 87;refine (M.o _ (((Fr.ofBelow (y.o.t (K.o.m q)))).step a.o λi hi e=>by subst e;omega)).m ?_;rintro e w4⟨rfl,j⟩;have D:=zh j;obtain⟨t0,t1,t2,t3,t4⟩:=((N.o.kept a.o E.o (by decide)).j j).facts;clear j|fail)
  refine zI (v:=.tuple #[.int .i64 0,Jh 7 ⟨#[]⟩]) (by simp[results,results81,go_sem,t0,t1]) rfl ?_;unfold Qky;rw[zw r.o,zD X.o];have ae:Bz w w3:=(y.o.t (K.o.m q)).t (a.o.j B λk hk e=>by omega);exact⟨rfl,((ae.t (D.o.m F)).setCell (zg _) _).setCell (zg _) _⟩
 rw[zw hfd] at h2;obtain⟨rfl,ao⟩:=h2;obtain⟨a7,a8,ba,a9,u2,ar,z,av,ah,ai,aw⟩:=ao;obtain⟨a1,ay,P,N⟩:=zh4 (show Took w1 g gd T U V W L s.data.toList w2 from ⟨a7,a8,ba,a9,u2,ar,z,av,ah,ai,aw⟩) z ((HU.o.m (zE _)).same λk C fz hk=>z.block k (Qb hk) λhS=>Z.o.noBytes k C fz hk hS) (aa.o.kept z (Qhq Z.o) (by decide));have E:=zh (show Qas w2 (·=b1) [5] from by obtain⟨_,_,C,fz,hC⟩:=n.o;exact Q1 (z.heap hC (λhS=>Z.o.noBytes _ C fz hC hS)));have B:w.heap.size<=w2.heap.size:=zi q z.size;obtain⟨r,X⟩:=zh2 hlong hfd;have l:=λ(w3:G) (hf:Fr (LogS g T U V W) w w3)=>Qsa f w3 (HE.o w3 hf).2.1
 have M:=zh l;have af:w.heap.size<=b1:=zi (by omega) n.o.1;have am:=n.o.2.1;clear ar z av ah ai aw hlong l hfd
 go_wp2_with (first|refine Qcu rfl _ 147 rfl i0 underlying147 hi aj 0 _ s.data.toList rfl P.o ?_;intro w3 n3 x A R;have a:=zh (Fr.ofGrown (S:=(·=b1)) x λk _ e=>(zR e).symm);have F:w.heap.size<=w3.heap.size:=zi B a.o.size;clear x A R|go_at_call 87;refine (M.o _ (((Fr.ofBelow y.o).t ay.o).step a.o λi hi e=>by subst e;omega)).m ?_;rintro e w4⟨rfl,j⟩;obtain⟨D,ab⟩:=zh2 j ((N.o.kept a.o E.o (by decide)).j j);obtain⟨t0,t1,t2,t3,t4⟩:=ab.o.facts;clear j|fail)
 refine zI (v:=.tuple #[.int .i64 L.entries.length,Jh 0 ⟨#[]⟩]) (by simp[results,results81,go_sem,t0,t1]) rfl ?_;unfold Qky;rw[zw r.o,zw X.o];obtain⟨ve',vl',vs',k1,k2,k3⟩:=Q3u HL.o y.o a1.o a.o af am E.o;have ts:=Qdi (m:=0) (t:=⟨#[]⟩) ab.o;refine⟨rfl,ve',vl',vs',(k1.j D.o).kept ts.2 (Q1 ab.o) (by decide) (by decide),?_,k3⟩;exact (k2.t (Fr.ofBelow D.o)).step ts.2 λi hi e=>by subst e;omega
variable {p:Pl}
theorem Q5l(a:m.l.isSome=true){k:Nat}(h:LogS p.g p.ve p.vl p.vp p.vs k):WdS p m k:=.inr (.inr (.inr ⟨a,.inr h⟩))
theorem Qa6.logStep{w':G}{L f:Lg}(h:Qa6 w p m)(e:m.l=some L){b c vp':J}{d:List J}(i:Z2 w' p.g p.gd b c vp' d f)(a:Fr (LogS p.g p.ve p.vl p.vp p.vs) w w'):Qa6 w' { p with ve:=b,vl:=c,vp:=vp',vs:=d } { m with l:=some f }:=by
 have hk:=Qhq (h.log L e).2;refine⟨?_,h.disk.kept a hk (by decide) (by decide),Zm h.ents a hk (by decide),λL2 hL2=>?_⟩
 .have h1:=Ze h.cells a hk (by decide)
  rw[h1];unfold Qez;rw[e];rfl
 cases hL2;exact⟨Ze (h.log L e).1 a hk (by decide),i⟩
theorem Qa6.entStep{d:G}(h:Qa6 w p m)(b:Fr (λk=>p.en.ownBlock=some k) w d){c:J}{e:List O}(f:Qq d 0 c e):Qa6 (d.setCell ⟨p.gw,3,none⟩ c) { p with en:=c } { m with es:=e }:=by
 have hk:=Qeo h.ents;have hc:=Ze h.cells b hk (by decide);have hs:=Fr.set1 d p.gw 3 c;have a:=Q1 hc;exact⟨(heap_setCell hc _).t (by simp[Qez,plV]),(h.disk.kept b hk (by decide) (by decide)).kept hs a (by decide) (by decide),Zm f hs a (by decide),
  λL hL=>⟨Ze (Ze (h.log L hL).1 b hk (by decide)) hs a (by decide),((h.log L hL).2.kept b hk (by decide) (by decide)).kept hs a (by decide) (by decide)⟩⟩
theorem Qml(f:Nat->Addr)(w:G)(p:Pl)(m:Wm)(L:Lg)(s:O)(U:List Nat)(K:Nat)(h:Qa6 w p m)(hG:Qe4 m U K)(u:m.l=some L)(T:m.foreign=false)(hE:Qbj f (WdS p m) w)(hU:U.length<=16384)(ao:m.es.length<1048576):Calls prog 23 #[.pointer (some ⟨p.gw,0,none⟩),.string s] w (Qe8 (AppQ m L s) w p m (L.entries.length / 4 :: U) K):=by
 have b:m.l.isSome=true:=by rw[u];rfl
 obtain⟨hr,aq,c,W,Q,ap⟩:=hG.run L u;obtain⟨aa,E⟩:=h.log L u;have P:L.entries.length=m.es.length:=by rw[c];simp[lists]
 obtain⟨⟨c0,c1,c2,c3,c4,c5,c6⟩,cf⟩:=h.heads;rw[u] at c2;have z:w.cell? ⟨p.gw,2,none⟩=some (.pointer (some ⟨p.gl,0,none⟩)):=c2;obtain⟨HA,HH,HG,HL,y,aj,M⟩:=zh7 (Qy7 f w p.gl p.g p.gd p.ve p.vl p.vp p.vs L s aa E (hE.less λk hk=>Q5l b hk) W (by omega)) h hG u T P Q;have ai:=Qj c0;have ay:p.gw<w.heap.size:=ai;clear h hG hE u T hr aq c W ap aa E P c2 Q
 go_enter func23,ntmps23
 go_wp2_with fail
 go_at_call 81
 refine HA.o.m ?_;intro e w1 h1;unfold Qky at h1;have F:s.data.toList.length=s.size:=by simp
 by_cases hlong:20<s.data.toList.length
 .rw[zD hlong] at h1
  obtain⟨rfl,a⟩:=h1;have v:=zh a;have hz:(20:Int)<(s.size:Int):=by omega
  have H1:=zh (HH.o.j a);have H:=a.size;clear a F hlong c0 c1 z c3 c4 c5 c6 cf;go_wp2;go_ret;exact⟨rfl,p,m,rfl,rfl,H1.o.j (Qa w1 _),.inr ⟨y.o,HG.o.more _ (zg _)⟩,Fr.ofBelow (v.o.t ((Qa w1 _).m H)),Sub.refl _ _,rfl,.inl ⟨by omega,rfl⟩⟩
 rw[zw hlong] at h1;have hz:¬ (20:Int)<(s.size:Int):=by omega
 by_cases hfail:L.failed=true
 .rw[zD hfail] at h1
  obtain⟨rfl,a⟩:=h1;obtain⟨v,H1⟩:=zh2 a (HH.o.j a);have H:=a.size;obtain⟨⟨_,_,_,_,_,q5,_⟩,_⟩:=H1.o.heads;have d:m.failed=true:=by rw[<-M.o];exact hfail
  have ak:=zh hfail;rw[d] at q5;have ag:=Qj q5;clear a F hlong c0 c1 z c3 c4 c5 c6 cf hfail d;go_wp2;go_ret;exact⟨rfl,p,m,rfl,rfl,H1.o.j (Qa w1 _),.inr ⟨y.o,HG.o.more _ (zg _)⟩,Fr.ofBelow (v.o.t ((Qa w1 _).m H)),Sub.refl _ _,rfl,.inr (.inl ⟨ak.o,rfl⟩)⟩
 rw[zw hfail] at h1;obtain⟨rfl,ve',vl',vs',k1,k2,k3⟩:=h1;have R:L.failed=false:=by simpa using hfail
 have d:m.failed=false:=by rw[<-M.o];exact R
 have h1:=HH.o.logStep HL.o k1 k2;have h2:=h1.j (Qa w1 (.cells #[.int .i64 0,.string ⟨#[]⟩] 63));obtain⟨⟨_,_,_,q3,_,q5,_⟩,qf⟩:=h1.heads;dsimp only at q3 q5;rw[d] at q5;have ag:p.gw<w1.heap.size:=Qj q5;obtain⟨ea,ec,c⟩:=Zo HH.o.ents;have j:=h2.ents;dsimp only at j;obtain⟨i0,V,ac,ab,A⟩:=ZZ Qb3;obtain⟨HI,H1,H2,K1,K2,K3,al⟩:=zh7 (⟨V,ac,ab,A⟩:_/\_/\_/\_) h1 h2 k1 k2 k3 d;obtain⟨ln,n⟩:=zzx m.es.length
 have q:=zh n;rw[c] at q3 j;rw[<-n] at q3;have r:(w1.alloc (.cells #[.int .i64 0,.string ⟨#[]⟩] 63)).ownsRow 0 9 1 (.slice ea ln ec) ln (m.es.map Value.string):=by rw[n];exact j
 obtain⟨ad,x⟩:=zh2 r c;have D:L.entries.length=ln:=by rw[n];exact aj.o
 have ax:((L.entries.length:Int) == (ln:Int))=true:=by rw[D];exact Xi _
 have ah:ln+1<=1099511627776:=by omega
 have av:=zh D;have ar:w.heap.size<=w1.heap.size:=k2.size;have X:¬ p.en.ownBlock=some p.gw:=λe=>by obtain⟨C,hC⟩:=Qk HH.o.ents e;exact Zz hC HH.o.cells (by decide) rfl
 have Z:¬ p.en.ownBlock=some w1.heap.size:=λe=>by
  obtain⟨C,hC⟩:=Qk HH.o.ents e
  have:=Qb hC
  omega
 obtain⟨N,am⟩:=zh2 X Z;have t:=h2.heads.1.2.2.2.1;have qfa:=h2.heads.2;dsimp only at t;rw[x.o,<-q.o] at t;have B:=Qj t;clear F hlong hfail h1 h2 k1 k2 k3 d R c j r n V ac ab A D c0 c1 z c3 c4 c5 c6 cf ao X Z
 go_wp2_with (at_builtin;go_must (refine Qde rfl _ _ _ rfl 0 9 i0 _ 1 16 underlying22 HI.o.1 HI.o.2.1 HI.o.2.2.1 HI.o.2.2.2 rfl (by decide) (by decide) (.slice ea ln ec) ln _ rfl (Qn ad.o (Qa _ _)) ⟨w1.heap.size+1,0,none⟩ 1 1 [.string s] rfl rfl (by have:=Xb (w1.alloc (.cells #[.int .i64 0,.string ⟨#[]⟩] 63)) (.string s) 9;simpa using this) (by simp[Value.oneCell']) (by decide) ah (zE _) ?_;intro v' w' g2 g3 g4 g5;obtain⟨G2,G3,G4⟩:=zh3 g2 (Fr.ofGrown (S:=λk=>p.en.ownBlock=some k) g3 λk _ e=>by rw[x.o,<-q.o];exact e) g4;obtain⟨gb,cpb,rfl,aw⟩:=Qbz g2 g5;have m0:=G3.o.cell (p:=⟨p.gw,3,none⟩) (((Qa (w1.alloc (.cells #[.int .i64 0,.string ⟨#[]⟩] 63)) _).cell (p:=⟨p.gw,3,none⟩) B).t t) N.o;have m1:=(G3.o.frozen (p:=⟨p.gw,3,none⟩) (by simp;omega) N.o).t (((Qa (w1.alloc (.cells #[.int .i64 0,.string ⟨#[]⟩] 63)) _).frozen (p:=⟨p.gw,3,none⟩) B).t (qfa 3));have mt:=G3.o.cell (p:=⟨w1.heap.size,0,none⟩) (((Qa (w1.alloc (.cells #[.int .i64 0,.string ⟨#[]⟩] 63)) _).cell (p:=⟨w1.heap.size,0,none⟩) (by simp)).t (Qd (Qb5 w1) 0 rfl)) am.o;have au:¬ w1.heap.size=p.gw:=(by omega);clear g2 g3 g4 g5))
 go_ret;have hstep:=H2.o.j (Qa _ (.cells #[.string s] 9));have I:Qq w' 0 (.slice (some ⟨gb,0,none⟩) (ln+1) cpb) (m.es ++ [s]):=by
  have:=G2.o
  unfold Qq;rw[zn,Vd,zL,<-q.o];exact this
 have af:=hstep.entStep G3.o I;refine⟨rfl,{ p with en:=.slice (some ⟨gb,0,none⟩) (ln+1) cpb,ve:=ve',vl:=vl',vs:=vs' },{ m with l:=some { L with entries:=L.entries ++ [s.data.toList],levels:=levels (L.entries ++ [s.data.toList]) },es:=m.es ++ [s] },rfl,rfl,af,.inr ⟨y.o,Qy3 HG.o HL.o al.o (by omega)⟩,?_,?_,rfl,.inr (.inr ⟨by omega,rfl⟩)⟩
 .have hb:Bz w1 ((w1.alloc (.cells #[.int .i64 0,.string ⟨#[]⟩] 63)).alloc (.cells #[.string s] 9)):=(Qa w1 _).alloc (by simp) _
  exact (K2.o.weak λ_ _ e=>Q5l b e).t ((Fr.ofBelow hb).t ((G3.o.weak λ_ _ e=>.inr (.inr (.inl e))).t ((Fr.set1 w' p.gw 3 _).weak λ_ _ e=>.inl e)))
 intro i hi;rcases hi with hi|hi|hi|⟨_,hi|hi⟩
 .exact .inl (.inl hi)
 .exact .inl (.inr (.inl hi))
 .rcases G4.o i hi with e|e
  .exact .inl (.inr (.inr (.inl (by rw[x.o,<-q.o];exact e))))
  exact .inr (by simp at e;omega)
 .exact .inl (.inr (.inr (.inr ⟨b,.inl hi⟩)))
 rcases K3.o i hi with e|e
 .exact .inl (Q5l b e)
 exact .inr e
theorem Qxt(f:Nat->Addr)(w:G)(p:Pl)(m:Wm)(L:Lg)(s:O)(U:List Nat)(K:Nat)(h:Qa6 w p m)(d:Qe4 m U K)(e:m.l=some L)(b:m.foreign=false)(c:Qbj f (WdS p m) w)(g:U.length<=16384)(a:m.es.length<1048576):Calls prog 23 #[.pointer (some ⟨p.gw,0,none⟩),.string s] w (Qc1 w p m (L.entries.length / 4 :: U) K):=
 (Qml f w p m L s U K h d e b c g a).m λ_ _ h=>h.ok
variable {a b:O}
theorem Qhn(h:a≠b):(!a.toList == b.toList)=true:=by rw[Qaa h];rfl
theorem J6(h:a=b):(!a.toList == b.toList)=false:=by rw[Yy h];rfl
theorem Zc1:(⟨#[99,104,101,99,107,112,111,105,110,116]⟩:O)=sOf kCp:=by decide
theorem Qz1(h:a=sOf kCp):(!a.toList == (⟨#[99,104,101,99,107,112,111,105,110,116]⟩:O).toList)=false:=J6 (by rw[Zc1];exact h)
theorem Qs0(h:a=sOf kCp):(!a.toList == [99,104,101,99,107,112,111,105,110,116])=false:=by
 have:=Qz1 h
 rw[show (⟨#[99,104,101,99,107,112,111,105,110,116]⟩:O).toList = [99,104,101,99,107,112,111,105,110,116] by rw[Vj]] at this;exact this
theorem Q4s(w:G)(q r:J)(l k:List Fil)(m:Y6 w q l)(n:Y6 w r k)(s:l.length<=1099511627776)(B:k.length<=1099511627776):Calls prog 78 #[q,r] w λe w'=>e=.returned (.bool (Qhe l k))/\Bz w w':=by
 obtain⟨HA,HB⟩:=zh2 m n;obtain⟨a1,c1,rfl,_,hx⟩:=m;obtain⟨a2,c2,rfl,_,hy⟩:=n;obtain⟨HX,HY⟩:=zh2 hx hy;clear hx hy
 go_enter func78,ntmps78
 go_wp2
 go_loopg [5] k.length (λgg s5 wr=>∃ kk:Nat,kk<=k.length/\k.length-kk<=gg/\s5=.int .i64 kk/\Aside (Bz w wr)/\Aside (∀ j,j<kk->∀ y,k[j]?=some y->Qco l y.1 y.2=false))
 case atStart=>
  refine⟨0,zE _,by omega,rfl,zu _ _,?_⟩;show ∀ j,j<0->_;intro j hj;omega
 case round=>
  obtain⟨kk,A,hg,rfl,HW,HM⟩:=hrel;by_cases hlt:kk<k.length
  .obtain⟨x,hx⟩:=zzx (k[kk])
   have d:k[kk]?=some x:=by rw[hx,ze hlt]
   obtain⟨b2,u,rfl,q1,q2⟩:=HY.o kk x d;have q1:=(HW.o.cell (Qj q1)).t q1;have q2:=(HW.o.cell (Qj q2)).t q2;have h:(kk:Int)<(k.length:Int):=by omega
   have z:(0:Int)<=(kk:Int):=by omega
   have g:=zh d;have a:=Ym wr _ l x.1 (HA.o.j HW.o) s;rcases J5 l x.1 with⟨h1,h2⟩|⟨i,b,hi,h1,h2,h3⟩
   .rw[h1] at a
    obtain⟨c,HG⟩:=zh2 a h2;clear hx d a h1 h2
    go_wp2_with (go_at_call 27;refine c.o.m ?_;rintro e w2⟨rfl,rfl⟩)
    have hd:decide ((-1:Int)>=0)=false:=rfl
    go_quiet (fail)
    go_wp2
    go_roundg (k.length-(kk+1))
    case measure=>omega
    case rel=>
     refine⟨kk+1,by omega,by omega,by go_num,Q8 HW.o _,?_⟩;show ∀ j,j<kk+1->_;intro j hj y hy;by_cases hjk:j=kk
     .subst hjk
      rw[g.o] at hy;cases hy;unfold Qco;rw[HG.o]
     exact HM.o j (by omega) y hy
   rw[h1] at a;obtain⟨b1,t,rfl,p1,p2⟩:=HX.o i _ h2;have p2:=(HW.o.cell (Qj p2)).t p2;obtain⟨c,HG⟩:=zh2 a h3;have p:(0:Int)<=(i:Int):=by omega
   have v:(i:Int)<(l.length:Int):=by omega
   have hd:decide ((i:Int)>=0)=true:=zF p;clear hx d a h1 h2 h3 p1;by_cases he:b=x.2
   .have e:=J6 he
    have HE:=zh he;clear he
    go_wp2_with (go_at_call 27;refine c.o.m ?_;rintro e w2⟨rfl,rfl⟩)
    go_quiet (fail)
    go_wp2
    go_roundg (k.length-(kk+1))
    case measure=>omega
    case rel=>
     refine⟨kk+1,by omega,by omega,by go_num,Q8 HW.o _,?_⟩;show ∀ j,j<kk+1->_;intro j hj y hy;by_cases hjk:j=kk
     .subst hjk
      rw[g.o] at hy;cases hy;unfold Qco;rw[HG.o,HE.o];simp
     exact HM.o j (by omega) y hy
   have e:=Qhn he;have HE:=zh he;clear he
   go_wp2_with (go_at_call 27;refine c.o.m ?_;rintro e w2⟨rfl,rfl⟩)
   go_quiet (fail)
   go_wp2;go_ret;refine⟨Qcc ?_,Q8 HW.o _⟩
   have:Qhe l k=true:=List.any_eq_true.2 ⟨x,zr g.o,by unfold Qco;rw[HG.o];simpa using HE.o⟩
   rw[this];rfl
  have h:¬ (kk:Int)<(k.length:Int):=by omega
  go_wp2;go_ret;refine⟨Qcc ?_,HW.o⟩
  have:Qhe l k=false:=XO.2 λf hf=>by
   obtain⟨j,hj⟩:=Vc.1 hf
   have:=HM.o j (by have:=(zj.1 hj).1;omega) f hj
   simp[this]
  rw[this];rfl
theorem Q31(w:G)(q r:J)(l k:List Fil)(n:Y6 w q l)(p:Y6 w r k)(s:l.length<=1099511627776)(B:k.length<=1099511627776)(d:∀ f∈k,getF l f.1=some f.2):Calls prog 80 #[q,r] w λe w'=>e=.returned (.bool true)/\Bz w w':=by
 obtain⟨HA,HB,h⟩:=zh3 n p d;obtain⟨a1,c1,rfl,_,hx⟩:=n;obtain⟨a2,c2,rfl,_,hy⟩:=p;obtain⟨HX,HY⟩:=zh2 hx hy;clear hx hy d
 go_enter func80,ntmps80
 go_wp2
 go_loopg [5] k.length (λgg s5 wr=>∃ kk:Nat,kk<=k.length/\k.length-kk<=gg/\s5=.int .i64 kk/\Aside (Bz w wr))
 case atStart=>exact⟨0,zE _,by omega,rfl,zu _ _⟩
 case round=>
  obtain⟨kk,A,hg,rfl,HW⟩:=hrel;by_cases hlt:kk<k.length
  .obtain⟨x,hx⟩:=zzx (k[kk])
   have g:k[kk]?=some x:=by rw[hx,ze hlt]
   obtain⟨b2,u,rfl,q1,q2⟩:=HY.o kk x g;have q1:=(HW.o.cell (Qj q1)).t q1;have q2:=(HW.o.cell (Qj q2)).t q2;have m:(kk:Int)<(k.length:Int):=by omega
   have z:(0:Int)<=(kk:Int):=by omega
   have c:=h.o x (zr g);have a:=Ym wr _ l x.1 (HA.o.j HW.o) s;rcases J5 l x.1 with⟨h1,h2⟩|⟨i,b,hi,h1,h2,h3⟩
   .rw[h2] at c;cases c
   rw[h3] at c;cases c;rw[h1] at a;obtain⟨b1,t,rfl,p1,p2⟩:=HX.o i _ h2;have p2:=(HW.o.cell (Qj p2)).t p2;have j:=zh a;have v:(0:Int)<=(i:Int):=by omega
   have y:(i:Int)<(l.length:Int):=by omega
   have hd:decide ((i:Int)<0)=false:=zo (by omega);have e:=J6 (rfl:x.2=x.2);clear hx g a h1 h2 h3 p1
   go_wp2_with (go_at_call 27;refine j.o.m ?_;rintro e w2⟨rfl,rfl⟩)
   go_quiet (fail)
   go_wp2
   go_roundg (k.length-(kk+1))
   case measure=>omega
   case rel=>exact⟨kk+1,by omega,by omega,by go_num,Q8 HW.o _⟩
  have m:¬ (kk:Int)<(k.length:Int):=by omega
  go_wp2;go_ret;exact⟨rfl,HW.o⟩
theorem Qzd(w:G)(K L M:J)(l k W:List Fil)(c:O)(C:Y6 w K l)(D:Y6 w L k)(E:Y6 w M W)(P:l.length<=1099511627776)(N:k.length<=1099511627776)(Q:W.length<=1099511627776)(y:Qwh l k W c)(v:Once l)(u:Once k)(t:Qyz W):Calls prog 79 #[K,L,M,.string c] w λe w'=>e=.returned (.bool true)/\Bz w w':=by
 obtain⟨HA,HB,HC,A,B⟩:=zh5 C D E (λf hf=>Q76 y v (f:=f) hf) (λf hf=>Q80 y u t (f:=f) hf);obtain⟨a1,c1,rfl,_,hx⟩:=C;obtain⟨a2,c2,rfl,_,hy⟩:=D;obtain⟨a3,c3,rfl,_,hz⟩:=E;obtain⟨HX,HY,HZ⟩:=zh3 hx hy hz;clear hx hy hz y v u t
 go_enter func79,ntmps79
 go_wp2
 go_loopg [9] l.length (λgg s9 wr=>∃ kk:Nat,kk<=l.length/\l.length-kk<=gg/\s9=.int .i64 kk/\Aside (Bz w wr))
 case atStart=>exact⟨0,zE _,by omega,rfl,zu _ _⟩
 case round=>
  obtain⟨kk,Z,hg,rfl,HW⟩:=hrel;by_cases hlt:kk<l.length
  .obtain⟨x,hx⟩:=zzx (l[kk])
   have n:l[kk]?=some x:=by rw[hx,ze hlt]
   obtain⟨b1,R,rfl,q1,q2⟩:=HX.o kk x n;have q1:=(HW.o.cell (Qj q1)).t q1;have q2:=(HW.o.cell (Qj q2)).t q2;have r:(kk:Int)<(l.length:Int):=by omega
   have I:(0:Int)<=(kk:Int):=by omega
   obtain⟨b,s,j⟩:=A.o x (zr n);have a:=Ym wr _ k x.1 (HB.o.j HW.o) N;rcases J5 k x.1 with⟨h1,h2⟩|⟨i,b',hi,h1,h2,h3⟩
   .rw[h2] at s;cases s
   rw[h3] at s;cases s;rw[h1] at a;obtain⟨b2,z,rfl,p1,p2⟩:=HY.o i _ h2;have p2:=(HW.o.cell (Qj p2)).t p2;have d:=zh a;have F:(0:Int)<=(i:Int):=by omega
   have H:(i:Int)<(k.length:Int):=by omega
   have hd:decide ((i:Int)<0)=false:=zo (by omega);clear hx n a h1 h2 h3 p1;by_cases he:b=x.2
   .have e:=J6 he
    clear he j
    go_wp2_with (go_at_call 27;refine d.o.m ?_;rintro e w2⟨rfl,rfl⟩)
    go_quiet (fail)
    go_wp2
    go_roundg (l.length-(kk+1))
    case measure=>omega
    case rel=>exact⟨kk+1,by omega,by omega,by go_num,Q8 HW.o _⟩
   have e:=Qhn he;obtain⟨m,q⟩:x.1=sOf kCp/\b=c:=by
    rcases j with h|h
    .exact absurd h he
    exact h
   have e2:=J6 q;have e3:=Qz1 m;have e4:=Qs0 m;clear he j m q
   go_wp2_with (go_at_call 27;refine d.o.m ?_;rintro e w2⟨rfl,rfl⟩)
   go_quiet (fail)
   go_wp2
   go_roundg (l.length-(kk+1))
   case measure=>omega
   case rel=>exact⟨kk+1,by omega,by omega,by go_num,Q8 HW.o _⟩
  have r:¬ (kk:Int)<(l.length:Int):=by omega
  go_wp2
  go_loopg [11] k.length (λgg s11 wx=>∃ kk:Nat,kk<=k.length/\k.length-kk<=gg/\s11=.int .i64 kk/\Aside (Bz w wx))
  case atStart=>exact⟨0,zE _,by omega,rfl,HW.o⟩
  case round=>
   obtain⟨kx,aa,V,rfl,HV⟩:=hrel;by_cases hlt:kx<k.length
   .obtain⟨x,hx⟩:=zzx (k[kx])
    have n:k[kx]?=some x:=by rw[hx,ze hlt]
    obtain⟨b2,z,rfl,q1,q2⟩:=HY.o kx x n;have q1:=(HV.o.cell (Qj q1)).t q1;have q2:=(HV.o.cell (Qj q2)).t q2;have r:(kx:Int)<(k.length:Int):=by omega
    have I:(0:Int)<=(kx:Int):=by omega
    have j:=B.o x (zr n);have a:=Ym wr _ l x.1 (HA.o.j HV.o) P;have g:=Ym wr _ W x.1 (HC.o.j HV.o) Q;rcases J5 l x.1 with⟨h1,h2⟩|⟨i,b',hi,h1,h2,h3⟩
    .have j:getF W x.1=some x.2∨(x.1=sOf kCp/\x.2=c):=by
      rcases j with h|h
      .exact absurd h2 h
      exact h
     have hd:decide ((-1:Int)<0)=true:=rfl;rw[h1] at a;rcases J5 W x.1 with⟨j1,j2⟩|⟨i2,b3,X,j1,j2,j3⟩
     .obtain⟨m,q⟩:x.1=sOf kCp/\x.2=c:=by
       rcases j with h|h
       .rw[j2] at h;cases h
       exact h
      rw[j1] at g;obtain⟨d,p⟩:=zh2 a g;have e2:=J6 q;have e3:=Qz1 m;have e4:=Qs0 m;clear hx n a g h1 h2 j1 j2 j m q
      go_upto_region 11 with (go_at_call 27;refine d.o.m ?_;rintro e w2⟨rfl,rfl⟩)
      go_upto_region 12 with (go_at_call 27;refine p.o.m ?_;rintro e w2⟨rfl,rfl⟩)
      go_quiet (fail)
      go_wp2
      go_roundg (k.length-(kx+1))
      case measure=>omega
      case rel=>exact⟨kx+1,by omega,by omega,by go_num,Q8 HV.o _⟩
     rw[j1] at g;obtain⟨T,S,rfl,r1,r2⟩:=HZ.o i2 _ j2;have r2:=(HV.o.cell (Qj r2)).t r2;obtain⟨d,p⟩:=zh2 a g;have F:(0:Int)<=(i2:Int):=by omega
     have H:(i2:Int)<(W.length:Int):=by omega
     have U:decide ((i2:Int)<0)=false:=zo (by omega);by_cases he:x.2=b3
     .have e:=J6 he
      clear hx n a g h1 h2 j1 j2 j3 j he r1
      go_upto_region 11 with (go_at_call 27;refine d.o.m ?_;rintro e w2⟨rfl,rfl⟩)
      go_upto_region 12 with (go_at_call 27;refine p.o.m ?_;rintro e w2⟨rfl,rfl⟩)
      go_quiet (fail)
      go_wp2
      go_roundg (k.length-(kx+1))
      case measure=>omega
      case rel=>exact⟨kx+1,by omega,by omega,by go_num,Q8 HV.o _⟩
     obtain⟨m,q⟩:x.1=sOf kCp/\x.2=c:=by
      rcases j with h|h
      .rw[j3] at h
       cases h;exact absurd rfl he
      exact h
     have e:=Qhn he;have e2:=J6 q;have e3:=Qz1 m;have e4:=Qs0 m;clear hx n a g h1 h2 j1 j2 j3 j he r1 m q
     go_upto_region 11 with (go_at_call 27;refine d.o.m ?_;rintro e w2⟨rfl,rfl⟩)
     go_upto_region 12 with (go_at_call 27;refine p.o.m ?_;rintro e w2⟨rfl,rfl⟩)
     go_quiet (fail)
     go_wp2
     go_roundg (k.length-(kx+1))
     case measure=>omega
     case rel=>exact⟨kx+1,by omega,by omega,by go_num,Q8 HV.o _⟩
    rw[h1] at a;obtain⟨d,p⟩:=zh2 a g;have hd:decide ((i:Int)<0)=false:=zo (by omega);clear hx n a g h1 h2 h3 j
    go_upto_region 11 with (go_at_call 27;refine d.o.m ?_;rintro e w2⟨rfl,rfl⟩)
    go_upto_region 12 with (go_at_call 27;refine p.o.m ?_;rintro e w2⟨rfl,rfl⟩)
    go_quiet (fail)
    go_wp2
    go_roundg (k.length-(kx+1))
    case measure=>omega
    case rel=>exact⟨kx+1,by omega,by omega,by go_num,Q8 HV.o _⟩
   have r:¬ (kx:Int)<(k.length:Int):=by omega
   go_wp2;go_ret;exact⟨rfl,HV.o⟩
theorem Qsy(f:Nat->Addr)(w:G)(p:Pl)(m:Wm)(L:Lg)(U:List Nat)(K:Nat)(h:Qa6 w p m)(i:Qe4 m U K)(a:m.l=some L)(F:m.foreign=false)(q:L.failed=true)(hE:Qbj f (WdS p m) w)(hU:U.length<=16384)(hK:K<=800000000000)(S:m.key.size<=1048600):Calls prog 22 #[.pointer (some ⟨p.gw,0,none⟩)] w (Qc1 w p m U (K+1048576)):=by
 have t:m.l.isSome=true:=by rw[a];rfl
 obtain⟨hr,N,ad,I,D,H⟩:=i.run L a;have C:L.entries.length<=1048576:=by have:=hr.len;omega
 have E:m.d.files.length<=1000000000000:=by have:=i.sane.len;omega
 have ab:=zh (J4 w p m h E);have HP:=zh λ(w1:G) (hb:Bz w w1)=>Qni f w1 p.gl p.g p.gd p.v p.ve p.vl p.vp p.vs m.d L ((hb.block _ (Qb (h.log L a).1)).t (h.log L a).1) ((h.log L a).2.j hb) (h.disk.j hb) ((hE.j hb).less λk hk=>Qyn t hk) I C hr.short N (by have:=i.sane.calls;omega) (by have:=i.sane.len;omega) (by rw[H];exact zi S (by decide))
 have M:m.failed=true:=by rw[<-D];exact q
 obtain⟨HH,HG,W,V,X,Z⟩:=zh6 h i F q a M;clear h i a F q hE hr N ad I D H C M
 go_enter func22,ntmps22
 go_upto_region 2 with (first|go_at_call 26;refine ab.o.m ?_;rintro e w1⟨v1,l1,rfl,r,Q,z⟩;obtain⟨ag,aa,b⟩:=zh3 r Q z;obtain⟨a1,ah,rfl⟩:=Zo r;clear r Q z|fail)
 have h1:=HH.o.j b.o;have q2:=h1.heads.1.2.2.1;rw[X.o] at q2;have ae:w1.cell? ⟨p.gw,2,none⟩=some (.pointer (some ⟨p.gl,0,none⟩)):=q2;clear q2;have af:=Qj ae;have H1:=zh h1;clear h1
 go_upto_region 3 with (first|go_at_call 75;refine (HP.o w1 b.o).m ?_;intro e w2 h2;unfold Qgc at h2;rw[zD V.o] at h2;obtain⟨rfl,A⟩:=h2;have u:=zh A;clear A|fail)
 have n:Bz w1 (w2.alloc (.cells #[.int .i64 7,.string ⟨#[]⟩] 63)):=u.o.alloc u.o.size _;have h3:=H1.o.j n;obtain⟨HT,j,y,x⟩:=zh4 (show Zq (w2.alloc (.cells #[.int .i64 7,.string ⟨#[]⟩] 63)) w2.heap.size 7 ⟨#[]⟩ from zy w2 _) n (J4 _ p m h3 E) (Qyc _ p.gd p.v m.d h3.disk);have r0:=h3.heads.1.1;have H3:=zh h3;obtain⟨w3,s⟩:=zzx (w2.alloc (.cells #[.int .i64 7,.string ⟨#[]⟩] 63))
 rw[<-s] at HT j y x r0 H3;rw[<-s];clear n h3 s
 go_wp2_with (first|go_at_call 76;refine x.o.m ?_;rintro e w4⟨rfl,rfl⟩|go_at_call 26;refine y.o.m ?_;rintro e w4⟨v4,l4,rfl,P,R,c⟩;have T:=zh c;obtain⟨a4,ai,rfl⟩:=Zo P;obtain⟨t0,t1,_,_,_⟩:=(HT.o.j c).facts;have s5:=(H3.o.j c).heads.1.2.2.2.2.2.1;rw[Z.o] at s5;have aj:((l1.length:Int) == (l4.length:Int))=true:=(by rw[R.length_eq,aa.o.length_eq];exact Xi _);clear P R c|fail)
 go_ret;have B:Bz w w4:=b.o.t ((j.o.t (T.o.m j.o.size)).m b.o.size);exact⟨rfl,p,m,rfl,rfl,HH.o.j B,.inr ⟨W.o,HG.o.bound (by omega)⟩,Fr.ofBelow B,Sub.refl _ _⟩
theorem Q96{g a:Nat}{v b c i:J}{f:List J}{d:Dk}{L:Lg}{e:Ua}{w':G}(j:L.failed=false)(h:Qgc w g a v b c i f d L e w'):∃ (v' vp':J) (n k:Int) (pth:O),e=.returned (.tuple #[.int .i64 n,Jh k pth])/\Q5 w' a v' (pubD L.entries L.key L.put d).1/\
   Z2 w' g a b c vp' f { L with put:=(pubD L.entries L.key L.put d).2.1,failed:=(pubD L.entries L.key L.put d).2.2.isSome }/\Fr (Qaf g a v b c i f) w w'/\Sub w (Qaf g a v b c i f) (Qaf g a v' b c vp' f)/\
   (((pubD L.entries L.key L.put d).2.2=none/\n=L.entries.length/\k=0)∨((pubD L.entries L.key L.put d).2.2=some pth/\n=0/\k=8)):=by
 unfold Qgc at h;rw[zw (by rw[j];decide)] at h;obtain⟨v',vp',Q,rfl,h1,h2,h3,h4,h5⟩:=h;rcases h5 with⟨h6,rfl⟩|⟨p,h6,rfl⟩
 .exact⟨v',vp',_,_,_,rfl,h1,h2,h3,h4,.inl ⟨h6,rfl,rfl⟩⟩
 exact⟨v',vp',_,_,_,rfl,h1,h2,h3,h4,.inr ⟨h6,rfl,rfl⟩⟩
theorem Zak{l:List Fil}{p b:O}(h:(p,b)∈l):∃ k:Nat,J1 l p=(k:Int):=by
 rcases J5 l p with⟨_,h1⟩|⟨k,b',_,h1,_⟩
 .exact absurd rfl (Qey.1 h1 _ h)
 exact⟨k,h1⟩
theorem Q2n(es:Uc)(h:es.length<=1048576):(Y9 es).length<=1099511627776:=by
 have h1:=Qpg (k:=es.length) (Zc es) (-1) λr hr=>Qbg hr
 have h2:=(Qdx h).2.1;have h3:(Zc es).length*es.length<=22*es.length:=ZA _ (by omega);unfold Y9;omega
theorem Q68:∀ (rs:List Uc) (n:Nat) (put:List Nat) (d:Dk),(∀ r∈rs,r.length<=1048576)->(pubJ n rs put d).1.files.length<=d.files.length+rs.length*1048576
 | [],n,put,d,_=>by simp[pubJ]
 | r :: rs,n,put,d,h=>by
   have h1:=(Quv ((n:Int)-1) r ((put++List.replicate (n+1-put.length) 0).getD n 0 / 4) d).2
   have h2:=h r ZE
   rw[pubJ,zx,vC,vP]
   split
   .dsimp only
    omega
   have h3:=Q68 rs (n+1) ((put++List.replicate (n+1-put.length) 0).set n (Qan ((n:Int)-1) r ((put++List.replicate (n+1-put.length) 0).getD n 0 / 4) d).2.1) (Qan ((n:Int)-1) r ((put++List.replicate (n+1-put.length) 0).getD n 0 / 4) d).1 λr hr=>h r (zX _ hr)
   omega
theorem Zbu{es:Uc}(h:es.length<=1048576)(key:O)(a:List Nat)(d:Dk):(pubD es key a d).1.files.length<=d.files.length+23068673:=by
 have h1:=Q68 (Zc es) 0 a d λr hr=>zi (Qbg hr) h
 have h2:=(Qdx h).2.1;have h3:(Zc es).length*1048576<=22*1048576:=ZA _ (by omega);unfold pubD
 split
 .show (pubJ 0 (Zc es) a d).1.files.length<=_
  omega
 show (Qcz (pubJ 0 (Zc es) a d).1 _ _).files.length<=_;rw[Qgf]
 split
 .have:=(Qn9 (pubJ 0 (Zc es) a d).1.files (sOf kCp) (cpOf es key)).2
  omega
 omega
theorem Qa6.forStep(h:Qa6 w p m)(b:Bool):Qa6 (w.setCell ⟨p.gw,6,none⟩ (.bool b)) p { m with foreign:=b }:=
 h.ownStep (Fr.set1 w p.gw 6 _) ((heap_setCell h.cells _).t (by simp[Qez,plV])) ⟨rfl,rfl,rfl,rfl⟩ h.ents h.log
theorem Qa6.failStep(h:Qa6 w p m)(b:Bool):Qa6 (w.setCell ⟨p.gw,5,none⟩ (.bool b)) p { m with failed:=b }:=
 h.ownStep (Fr.set1 w p.gw 5 _) ((heap_setCell h.cells _).t (by simp[Qez,plV])) ⟨rfl,rfl,rfl,rfl⟩ h.ents h.log
theorem Qa6.pubStep(h:Qa6 w p m)(n:Int):Qa6 (w.setCell ⟨p.gw,4,none⟩ (.int .i64 n)) p { m with pub:=n }:=
 h.ownStep (Fr.set1 w p.gw 4 _) ((heap_setCell h.cells _).t (by simp[Qez,plV])) ⟨rfl,rfl,rfl,rfl⟩ h.ents h.log
set_option maxHeartbeats 8000000 in
theorem Qkb(f:Nat->Addr)(w:G)(p:Pl)(m:Wm)(L:Lg)(U:List Nat)(K:Nat)(h:Qa6 w p m)(hG:Qe4 m U K)(hL:m.l=some L)(dj:m.foreign=false)(cg:L.failed=false)(hE:Qbj f (WdS p m) w)(hU:U.length<=16384)(hK:K<=800000000000)(co:m.key.size<=1048600):Calls prog 22 #[.pointer (some ⟨p.gw,0,none⟩)] w (Qe8 (PubQ m L) w p m U (K+1048576)):=by
 have aj:m.l.isSome=true:=by rw[hL];rfl
 obtain⟨hr,dr,bc,dp,dh,cp⟩:=hG.run L hL;have de:L.entries.length<=1048576:=by have:=hr.len;omega
 have di:m.d.files.length<=1000000000000:=by have:=hG.sane.len;omega
 have ax:(pubD L.entries L.key L.put m.d).1.files.length<=1000000000000:=by
  have h1:=Zbu de L.key L.put m.d
  have:=hG.sane.len
  omega
 have et:=zh (J4 w p m h di);have HP:=zh λ(w1:G) (hb:Bz w w1)=>Qni f w1 p.gl p.g p.gd p.v p.ve p.vl p.vp p.vs m.d L ((hb.block _ (Qb (h.log L hL).1)).t (h.log L hL).1) ((h.log L hL).2.j hb) (h.disk.j hb) ((hE.j hb).less λk hk=>Qyn aj hk) dp de hr.short dr (by have:=hG.sane.calls;omega) (by have:=hG.sane.len;omega) (by rw[cp];exact zi co (by decide))
 have dq:m.failed=false:=by rw[<-dh];exact cg
 have cd:L.entries.length=m.es.length:=by rw[bc];simp[lists]
 have bi:∀ s∈m.es,s.size<=20:=by
  have:=Qjr (k:=20) (ds:=m.es) (by rw[<-bc];exact hr.short)
  exact this
 obtain⟨HH,HG,e8,ef,a5,a6,V,eh,c9⟩:=zh9 h hG dj cg hL dq bc cp bi;obtain⟨N,HR⟩:=zh2 cd hr;clear h hG hL dj cg hE hr dr bc dp dh cp dq cd bi
 go_enter func22,ntmps22
 go_upto_region 2 with (first|go_at_call 26;refine et.o.m ?_;rintro e w1⟨v1,l1,rfl,cr,dv,da⟩;obtain⟨ej,a7,a0⟩:=zh3 cr dv da;obtain⟨a1,a9,rfl⟩:=Zo cr;clear cr dv da|fail)
 have h1:=HH.o.j a0.o;have q2:=h1.heads.1.2.2.1;rw[a5.o] at q2;have e1:w1.cell? ⟨p.gw,2,none⟩=some (.pointer (some ⟨p.gl,0,none⟩)):=q2;clear q2;have d7:=Qj e1;have H1:=zh h1;clear h1;obtain⟨Q,hQ⟩:=zzx (pubD L.entries L.key L.put m.d)
 have HQ:=zh hQ;clear hQ
 go_upto_region 3 with (first|go_at_call 75;refine (HP.o w1 a0.o).m ?_;intro e w2 h2;obtain⟨v',vp',n2,code,pth,rfl,b9,cq,df,dy,cx⟩:=Q96 ef.o h2;rw[<-HQ.o] at b9 cq cx;obtain⟨ed,ei,a3,eq,em⟩:=zh5 b9 cq df dy cx;clear h2 b9 cq df dy cx|fail)
 have h2:=H1.o.bothStep a5.o ed.o ei.o a3.o;have b1:Bz w2 (w2.alloc (.cells #[.int .i64 code,.string pth] 63)):=Qa w2 _;have h3:=h2.j b1;obtain⟨HT,bl⟩:=zh2 (show Zq (w2.alloc (.cells #[.int .i64 code,.string pth] 63)) w2.heap.size code pth from zy w2 _) b1;rw[<-HQ.o] at ax;obtain⟨bz,c5⟩:=zh2 (J4 _ _ _ h3 ax) (Qyc _ p.gd v' Q.1 h3.disk);have r0:=h3.heads.1.1;dsimp only at r0;have H3:=zh h3;obtain⟨w3,cz⟩:=zzx (w2.alloc (.cells #[.int .i64 code,.string pth] 63))
 rw[<-cz] at HT bl bz c5 r0 H3;rw[<-cz];have d8:w.heap.size<=w1.heap.size:=a0.o.size;have ch:Fr (WdS p m) w w3:=(Fr.ofBelow a0.o).t ((a3.o.weak λk _ hk=>Qyn aj hk).t (Fr.ofBelow bl.o));obtain⟨d4,aq⟩:=zh2 ch (λ(m':Wm)=>Q9a (m:=m) (m':=m') (eq.o.m d8) aj);clear b1 h3 cz h2 ch;dsimp only at bz
 go_upto_region 8 with (first|go_at_call 76;refine c5.o.m ?_;rintro e w4⟨rfl,rfl⟩|go_at_call 26;refine bz.o.m ?_;rintro e w4⟨v4,l4,rfl,cs,dw,b2⟩;obtain⟨a2,ek,a8⟩:=zh3 b2 cs dw;obtain⟨a4,ba,rfl⟩:=Zo cs;have H4:=zh (H3.o.j b2);have s5:=H4.o.heads.1.2.2.2.2.2.1;have s3:=H4.o.heads.1.2.2.2.1;dsimp only at s5 s3;rw[a6.o] at s5;clear cs dw b2|go_at_call 77;refine (Q1a w4 p.en m.es H4.o.ents.at (by have:=N.o;omega) c9.o).m ?_;rintro e w5⟨v5,rfl,dt,db,_⟩;obtain⟨c7,R⟩:=zh2 dt db;clear dt db|fail)
 have bg:w2.ownsRow w.heap.size 61 2 (.slice a1 l1.length a9) l1.length (Zs l1):=Zm ej.o a3.o ((Qdf H1.o.disk).or (Qhq (H1.o.log L a5.o).2)) (by decide);have ah:=Qn (Qn (Qn bg bl.o) a2.o) R.o;have an:=Qn ek.o R.o;have am:(Y9 (lists m.es)).length<=1099511627776:=Q2n _ (by simp[lists];have:=N.o;omega);have ay:l1.length<=1099511627776:=by rw[a7.o.length_eq];exact zi di (by decide)
 have ag:l4.length<=1099511627776:=by rw[a8.o.length_eq];exact zi ax (by decide)
 obtain⟨eo,ep⟩:=zh2 ah an;obtain⟨bb,b5⟩:=zzx (Qhe l1 (Y9 (lists m.es)))
 have b8:=Q4s w5 (.slice a1 l1.length a9) v5 l1 (Y9 (lists m.es)) (Ye ah) (Ye c7.o) ay am;rw[<-b5] at b8;have eb:=zh b8;have b6:bb=Qhe m.d.files (Y9 (lists m.es)):=by rw[b5];exact Q1h (Qcn HG.o.sane.once a7.o) _
 have c3:=zh b6;clear bg ah an b5 b8 b6 s3 s5
 go_upto_region 9 with (first|go_at_call 78;refine eb.o.m ?_;rintro e w6⟨rfl,b3⟩;obtain⟨bm,H6⟩:=zh2 b3 ((H4.o.j R.o).j b3);have cl:=H6.o.heads;have s6:=cl.1.2.2.2.2.2.2;have sf:=cl.2 6;dsimp only at s6 sf;clear b3 cl|fail)
 have h7:=H6.o.forStep bb;have H7:=zh h7;obtain⟨w7,bj⟩:=zzx (w6.setCell ⟨p.gw,6,none⟩ (.bool bb))
 have dg:Fr (·=p.gw) w6 w7:=by rw[bj];exact Fr.set1 w6 p.gw 6 _
 have bo:=zh dg;rw[<-bj] at H7;rw[<-bj];have ey:=H7.o.heads.1;obtain⟨z0,z1,z2,z3,z4,z5,z6⟩:=ey;dsimp only at z0 z1 z2 z3 z4 z5 z6;have ci:Fr (WdS p m) w w7:=d4.o.t ((Fr.ofBelow (a2.o.t ((R.o.t (bm.o.m R.o.size)).m a2.o.size))).t (bo.o.weak λ_ _ e=>.inl e));have bp:=zh ci;clear h7 bj dg s6 sf ci z2 z4;cases bb with
 | true=>
  go_wp2;go_ret;exact⟨rfl,{ p with v:=v',vp:=vp' },⟨m.key,Q.1,some { L with put:=Q.2.1,failed:=Q.2.2.isSome },m.es,m.pub,m.failed,true⟩,rfl,rfl,H7.o,.inl rfl,bp.o,aq.o _,rfl,λX _=>absurd (Q7z (by rw[V.o] at X;exact X)) (by rw[<-c3.o];decide)⟩
 | false=>
  have X:Qbr (Y9 L.entries) m.d.files:=by rw[V.o];exact Q1v c3.o.symm
  have ai:Runs m.d L.entries L.put false U:=by have:=HR.o;rw[a6.o] at this;exact this
  have cb:L.entries.length<=1048576:=by have:=ai.len;omega
  have ce:m.es.length<=1048576:=by have:=N.o;omega
  have C:=zh (Qjs L.key cb (ai.live rfl).1 X (ai.live rfl).2);rw[<-HQ.o] at C;have ab:=zh λ(pub:Int)=>Quu HG.o hU a5.o a6.o X pub false
  rw[<-HQ.o] at ab;obtain⟨cc,b7⟩:=zzx (sOf (Jt m.es.length (rootOf (lists m.es)) m.key.data.toList))
  have aw:cpOf L.entries L.key=cc:=by rw[show cpOf L.entries L.key=sOf (Jt L.entries.length (rootOf L.entries) L.key.data.toList) from rfl,N.o,V.o,eh.o,b7]
  have cy:=λ(W:G)=>Qoh m.es.length (rootOf (lists m.es)) m.key W (by omega) co
  rw[<-b7] at cy;have er:=zh cy;have dm:Qwh l1 l4 (Y9 (lists m.es)) cc:=by
   have:=C.o.1
   rw[aw,V.o] at this;exact Q9m this (Qcn HG.o.sane.once a7.o) (Qcn C.o.2.1 a8.o)
  have c6:=zh dm;have ct:=Qp0 HG.o.sane.once a7.o;have cu:=Qp0 C.o.2.1 a8.o;have du:Qyz (Y9 (lists m.es)):=Qrk (by simp[lists];exact ce);obtain⟨bt,bu,c8,d9⟩:=zh4 ct cu du aw;obtain⟨ea,ec,af⟩:=Zo HH.o.ents;rw[af] at z3;have bh:=H7.o.ents.at;dsimp only at bh;rw[af] at bh;have bf:=Qaz m.es.length m.es (.slice ea m.es.length ec) w7 (zg _) bh ce λs hs=>zi (c9.o s hs) (by decide)
  obtain⟨c0,bn⟩:=zh2 bf af;clear X ai cb b7 aw cy dm ct cu du bh bf af
  go_upto_region 12 with (first|go_at_call 30;refine c0.o.m ?_;rintro e w8⟨rfl,dc⟩;have M:=zh dc;clear dc|fail)
  have n3:=(M.o.cell (p:=⟨p.gw,3,none⟩) (Qj z3)).t z3;have n1:=(M.o.cell (p:=⟨p.gw,1,none⟩) (Qj z1)).t z1;have d2:w8.drew.cell? ⟨p.gw,3,none⟩=some (.slice ea m.es.length ec):=n3;have d1:w8.drew.cell? ⟨p.gw,1,none⟩=some (.string m.key):=n1;have nb:=Qj n3
  go_region_held3 (λw'=>w'.cell? ⟨p.gw,3,none⟩=some (.slice ea m.es.length ec)/\w'.cell? ⟨p.gw,1,none⟩=some (.string m.key)) (first|with_reducible exact⟨n3,n1⟩|with_reducible exact⟨d2,d1⟩|with_reducible exact⟨m3,m1⟩|fail) (first|go_at_call 61;refine (er.o _).m ?_;rintro e w9⟨rfl,dd⟩;have S:=zh (show Bz w8 w9 from (Ql w8).t dd);have m3:=(S.o.cell (p:=⟨p.gw,3,none⟩) nb).t n3;have m1:=(S.o.cell (p:=⟨p.gw,1,none⟩) nb).t n1;clear dd|fail)
  have H9:=zh ((H7.o.j M.o).j S.o);have carry:∀ (b:Nat) (v:J) (n:Nat) (xs:List J),w5.ownsRow b 61 2 v n xs->w9.ownsRow b 61 2 v n xs:=λb v n xs hx=>
   Qn (Qn (Zm (Qn hx bm.o) bo.o (Q1 H6.o.cells) (by decide)) M.o) S.o
  obtain⟨c1,c2,az⟩:=zh3 (carry _ _ _ _ eo.o) (carry _ _ _ _ ep.o) (carry _ _ _ _ c7.o);have dz:Zq w7 w2.heap.size code pth:=(((HT.o.j a2.o).j R.o).j bm.o).kept bo.o (Q1 H6.o.cells) (by decide);have bw:=zh ((dz.j M.o).j S.o);have cj:Fr (WdS p m) w w9:=bp.o.t (Fr.ofBelow (M.o.t (S.o.m M.o.size)));have bq:=zh cj;obtain⟨hh,cn⟩:=zzx Q.1.hit
  have c4:=zh cn;rw[<-cn];clear z0 z1 z3 z5 z6 carry dz cj n3 n1 d2 d1 nb m3 m1 cn r0;obtain⟨_,_,kturn,_,_,_,kend⟩:=C.o;obtain⟨KEND,ac⟩:=zh2 kend kturn;have E:=H9.o.heads;have e4:p.gw<w9.heap.size:=Qj E.1.1;have e7:p.gw<w2.heap.size:=zJ d7 a3.o.size;have ex:¬ p.gw=w2.heap.size:=by omega
  have e6:¬ w2.heap.size=p.gw:=λe=>ex e.symm
  have ew:¬ p.gw=p.gd:=HH.o.gg;have e5:¬ p.gd=p.gw:=λe=>ew e.symm
  clear kend kturn;rcases em.o with⟨hq,be,ae⟩|⟨hq,be,ae⟩
  .have cm:hh=false:=by
    rcases KEND.o with⟨_,h1,_⟩|⟨q,h1,_⟩
    .rw[c4.o];exact h1.hit
    rw[hq] at h1;cases h1
   have ad:(∀ x∈Y9 (lists m.es),getF l4 x.1=some x.2)/\getF l4 (sOf kCp)=some cc:=by
    rcases KEND.o with⟨_,_,_,h1,h2⟩|⟨q,h1,_⟩
    .rw[Qcn C.o.2.1 a8.o]
     rw[V.o] at h1;rw[d9.o] at h2;exact⟨h1,h2⟩
    rw[hq] at h1;cases h1
   obtain⟨kk,b,dl,bd,dn,ck⟩:∃ (kk:Nat) (b:O),kk<l4.length/\J1 l4 (sOf kCp)=(kk:Int)/\l4[kk]?=some (sOf kCp,b)/\getF l4 (sOf kCp)=some b:=by
    rcases J5 l4 (sOf kCp) with⟨_,h1⟩|h1
    .rw[ad.2] at h1;cases h1
    exact h1
   obtain rfl:b=cc:=by rw[ad.2] at ck;exact (zR ck).symm
   have ez:n2=(m.es.length:Int):=by rw[be,N.o]
   have A:Qe4 ⟨m.key,Q.1,some { L with put:=Q.2.1,failed:=Q.2.2.isSome },m.es,m.es.length,m.failed,false⟩ U (K+1048576):=by
    have:=ab.o m.es.length
    rw[show m.failed=Q.2.2.isSome by rw[a6.o,hq];rfl];exact this
   obtain⟨br,d3⟩:=zh2 A ad;subst cm;subst ae;subst ez;have a:=Fr.set1 w9 p.gw 4 (.int .i64 (m.es.length:Int));have al:=H9.o.pubStep (m.es.length:Int);have t:=Q1 H9.o.cells;obtain⟨I,r,T,D,P,H⟩:=zh6 (Zm c1.o a t (by decide)) (Zm c2.o a t (by decide)) (Zm az.o a t (by decide)) (bw.o.kept a t (by decide)) a al;have g4:=E.1.2.2.2.2.1;have g3:=E.1.2.2.2.1;have gf:=E.2;dsimp only at g3 g4;rw[bn.o] at g3;have eg:=zh (⟨dl,dn⟩:_/\_);clear hq be A ad ck al a t E dn
   go_upto_region 19 with fail
   obtain⟨i,z⟩:=zzx (w9.setCell ⟨p.gw,4,none⟩ (.int .i64 (m.es.length:Int)))
   rw[<-z] at I r T D P H;rw[<-z];have B:=Qzd i (.slice a1 l1.length a9) (.slice a4 l4.length ba) v5 l1 l4 (Y9 (lists m.es)) b (Ye I.o) (Ye r.o) (Ye T.o) ay ag am c6.o bt.o bu.o c8.o;have F:=zh B;have y:=Ym i (.slice a4 l4.length ba) l4 (sOf kCp) (Ye r.o) ag;rw[bd] at y;have ap:=zh y;have ao:=λ(j:G) (hb:Bz i j)=>Q31 j (.slice a4 l4.length ba) v5 l4 (Y9 (lists m.es)) ((Ye r.o).j hb) ((Ye T.o).j hb) ag am d3.o.1
   have bx:=zh ao;have dk:(0:Int)<=(kk:Int):=by omega
   have e9:(kk:Int)<(l4.length:Int):=by omega
   clear z B y ao bd g3 g4 gf dl
   go_wp2_with (first|go_at_call 27;refine ap.o.m ?_;rintro e j⟨rfl,rfl⟩|go_at_call 79;refine F.o.m ?_;rintro e j⟨rfl,c⟩;have u:=zh c;clear c|go_at_call 80;refine (bx.o j u.o).m ?_;rintro e fa⟨rfl,b0⟩;have Z:=zh (u.o.t (b0.m u.o.size));clear b0;have bk:=zh (H.o.j Z.o);have ha:=bk.o.heads.1;have g0:=ha.1;have g3:=ha.2.2.2.1;have gt:=bk.o.disk.cells.1.2.2.2.2.2.2.2;dsimp only at g0 g3 gt;rw[bn.o] at g3;rw[ac.o] at gt;obtain⟨t0,t1,_,_,_⟩:=(D.o.j Z.o).facts;obtain⟨aa,ca,e0,_,d0⟩:=(Ye r.o).j Z.o;obtain⟨b4,o4,d6,_,kx⟩:=d0 kk _ eg.o.2;cases e0;subst d6;clear ha d0|fail)
   go_ret;exact⟨rfl,{ p with v:=v',vp:=vp' },⟨m.key,Q.1,some { L with put:=Q.2.1,failed:=Q.2.2.isSome },m.es,m.es.length,m.failed,false⟩,rfl,rfl,bk.o,.inr ⟨rfl,br.o⟩,
    bq.o.t ((P.o.weak λ_ _ e=>.inl e).t (Fr.ofBelow Z.o)),aq.o _,rfl,λ_ _=>by rw[HQ.o]⟩
  have cm:hh=true/\((∃ b,(pth,b)∈Y9 (lists m.es))∨pth=sOf kCp):=by
   rcases KEND.o with⟨h1,_⟩|⟨q,h1,h2,h3⟩
   .rw[hq] at h1;cases h1
   rw[hq] at h1;cases h1;rw[c4.o];rw[V.o] at h3;exact⟨h2,h3⟩
  obtain⟨rfl,cw⟩:=cm;have A:Qe4 ⟨m.key,Q.1,some { L with put:=Q.2.1,failed:=Q.2.2.isSome },m.es,m.pub,true,false⟩ U (K+1048576):=by
   have:=ab.o m.pub
   rw[show (true:Bool)=Q.2.2.isSome by rw[hq];rfl];exact this
  have br:=zh A;subst be;subst ae;have a:=Fr.set1 w9 p.gw 5 (.bool true);have al:=H9.o.failStep true;have t:=Q1 H9.o.cells;obtain⟨I,r,T,D,P,H⟩:=zh6 (Zm c1.o a t (by decide)) (Zm c2.o a t (by decide)) (Zm az.o a t (by decide)) (bw.o.kept a t (by decide)) a al;have g5:=E.1.2.2.2.2.2.1;have gf:=E.2;dsimp only at g5;obtain⟨av,cv,ev⟩:=Zo az.o;have y:=Ym w9 v5 (Y9 (lists m.es)) pth (Ye az.o) am;have d5:=zh cw;obtain⟨fk,cf⟩:=zzx (J1 (Y9 (lists m.es)) pth)
  rw[<-cf] at y;obtain⟨ee,ap⟩:=zh2 cf y;obtain⟨u0,u1,_,_,_⟩:=bw.o.facts;have el:=zh hq;clear hq A al a t E cw y cf ev
  go_upto_region 16 with (first|go_at_call 27;refine ap.o.m ?_;rintro e j⟨rfl,rfl⟩|fail)
  obtain⟨i,z⟩:=zzx (w9.setCell ⟨p.gw,5,none⟩ (.bool true))
  rw[<-z] at I r T D P H;rw[<-z];have B:=Qzd i (.slice a1 l1.length a9) (.slice a4 l4.length ba) v5 l1 l4 (Y9 (lists m.es)) cc (Ye I.o) (Ye r.o) (Ye T.o) ay ag am c6.o bt.o bu.o c8.o;have F:=zh B;clear z B g5 gf u0 u1;have fin:∀ j,Bz i j->Qe8 (PubQ m L) w p m U (K+1048576) (.returned (.bool true)) j:=λj hb=>
   ⟨rfl,{ p with v:=v',vp:=vp' },⟨m.key,Q.1,some { L with put:=Q.2.1,failed:=Q.2.2.isSome },m.es,m.pub,true,false⟩,rfl,rfl,H.o.j hb,.inr ⟨rfl,br.o⟩,
    bq.o.t ((P.o.weak λ_ _ e=>.inl e).t (Fr.ofBelow hb)),aq.o _,rfl,λ_ hno=>absurd (HQ.o ▸ hno) (by rw[el.o];exact λe=>by cases e)⟩
  have FIN:=zh fin;clear fin;by_cases dk:(0:Int)<=fk
  .go_wp2_with (first|go_at_call 79;refine F.o.m ?_;rintro e j⟨rfl,c⟩;obtain⟨u,ak⟩:=zh2 c (H.o.j c);have ha:=ak.o.heads.1;have g0:=ha.1;have gt:=ak.o.disk.cells.1.2.2.2.2.2.2.2;dsimp only at g0 gt;rw[ac.o] at gt;obtain⟨t0,t1,_,_,_⟩:=(D.o.j c).facts;clear c ha|fail)
   go_ret;exact FIN.o _ u.o
  have dx:pth=sOf kCp:=by
   rcases d5.o with⟨b,hb⟩|hb
   .obtain⟨k,hk⟩:=Zak hb
    exact absurd (by rw[ee.o,hk];exact Int.natCast_nonneg k) dk
   exact hb
  have e3:(pth.toList == [99,104,101,99,107,112,111,105,110,116])=true:=by
   have h0:=Qs0 dx;cases hq:(pth.toList == [99,104,101,99,107,112,111,105,110,116]) with
   | true=>rfl
   | false=>rw[hq] at h0;cases h0
  clear dx
  go_wp2_with (first|go_at_call 79;refine F.o.m ?_;rintro e j⟨rfl,c⟩;obtain⟨u,ak⟩:=zh2 c (H.o.j c);have ha:=ak.o.heads.1;have g0:=ha.1;have gt:=ak.o.disk.cells.1.2.2.2.2.2.2.2;dsimp only at g0 gt;rw[ac.o] at gt;obtain⟨t0,t1,_,_,_⟩:=(D.o.j c).facts;clear c ha|fail)
  go_ret;exact FIN.o _ u.o
theorem Qtb(f:Nat->Addr)(w:G)(p:Pl)(m:Wm)(L:Lg)(U:List Nat)(K:Nat)(h:Qa6 w p m)(e:Qe4 m U K)(i:m.l=some L)(c:m.foreign=false)(b:L.failed=false)(d:Qbj f (WdS p m) w)(j:U.length<=16384)(g:K<=800000000000)(a:m.key.size<=1048600):Calls prog 22 #[.pointer (some ⟨p.gw,0,none⟩)] w (Qc1 w p m U (K+1048576)):=
 (Qkb f w p m L U K h e i c b d j g a).m λ_ _ h=>h.ok
end
section
theorem Qc1.j{w w1:G}{p:Pl}{m:Wm}{U:List Nat}{K:Nat}{e:Ua}{w':G}(h:Qc1 w1 p m U K e w')(f:Bz w w1):Qc1 w p m U K e w':=by obtain⟨he,p',m',a,b,c,d,hf,hs⟩:=h;exact⟨he,p',m',a,b,c,d,(Fr.ofBelow f).t hf,hs.m f.size⟩
def Qxs(w:G)(p:Pl)(m:Wm)(U:List Nat)(K:Nat)(e:Ua)(w':G):Prop:=∃ U',U'.length<=U.length+1/\Qc1 w p m U' K e w'
def Qhc(c:Int)(n:Nat):Nat:=(if c<0 then -(c+1) else c).toNat%n
theorem Qlk(c:Int)(n:Nat)(w:G)(g : -9223372036854775808<=c)(h:c<=9223372036854775807)(j:0<n)(i:n<=1073741824):Calls prog 6 #[.int .i64 c,.int .i64 n] w λe w'=>e=.returned (.int .i64 (Qhc c n))/\w=w':=by
 by_cases h0:c<0
 .have hv:(-(c+1))%(n:Int)=((Qhc c n:Nat):Int):=by
   unfold Qhc;rw[zD h0];obtain⟨k,hk⟩:∃ k:Nat,-(c+1)=(k:Int):=⟨(-(c+1)).toNat,by omega⟩
   rw[hk,zO];rfl
  have b:0<=-(c+1):=by omega
  have d:((n:Int) == 0)=false:=by rw[zl];omega
  have a:¬ (n:Int)=0:=by omega
  have HV:=zh hv;clear hv
  go_enter func6,ntmps6
  go_wp2;go_ret;refine⟨?_,rfl⟩;rw[<-HV.o];show Ending.returned (.int .i64 (-((c+1).tmod (n:Int))))=_;rw[<-Int.neg_tmod,Xw b]
 have hv:c%(n:Int)=((Qhc c n:Nat):Int):=by
  unfold Qhc;rw[zw h0];obtain⟨k,hk⟩:∃ k:Nat,c=(k:Int):=⟨c.toNat,by omega⟩
  rw[hk,zO];rfl
 have d:((n:Int) == 0)=false:=by rw[zl];omega
 have a:¬ (n:Int)=0:=by omega
 have f:0<=c:=by omega
 have HV:=zh hv;clear hv
 go_enter func6,ntmps6
 go_wp2;go_ret;refine⟨?_,rfl⟩;rw[<-HV.o]
 first|rfl|(congr 2;omega)|(simp;omega)
theorem Qlj(c:Int){n:Nat}(a:0<n):Qhc c n<n:=Nat.mod_lt _ a
theorem Q4i(w:G)(g:Nat)(v:J)(d:Dk)(h:Q5 w g v d)(a:Nat)(f:Int)(i:f=(a:Int))(b c:Bool)(k:d.calls<1099511627776)(j:a<1099511627776):Calls prog 120 #[.pointer (some ⟨g,0,none⟩),.int .i64 f,.bool b,.bool c] w λe w'=>e=.returned (.tuple #[])/\Q5 w' g v (Qg9 d a b c)/\Fr (·=g) w w':=by
 subst i;exact Q6c w g v d h a b c k j
theorem Q5g(f:Nat->Addr)(w:G)(p:Pl)(m:Wm)(U:List Nat)(K:Nat)(b a:Int)(q:Bool)(s:O)(h:Qa6 w p m)(P:Qjd m U K)(X:Qbj f (WdS p m) w)(hU:U.length<=16000)(hK:K<=700000000000)(t:m.key.size<=1048600)(af : -9223372036854775808<=a)(ag:a<=9223372036854775807):Calls prog 66 #[.pointer (some ⟨p.gw,0,none⟩),.agg #[.int .i64 b,.int .i64 a,.bool q,.string s]] w (Qxs w p m U (K+2097152)):=by
 have hb:=Qa w (.cells #[.int .i64 b,.int .i64 a,.bool q,.string s] 103);have h0:=h.j hb;obtain⟨⟨c0,_,c2,c3,_,_,c6⟩,_⟩:=h.heads;have ak:p.gw<w.heap.size:=Qj c0;obtain⟨HB,H0,r⟩:=zh3 hb h0 (X.j hb);rcases P with j|⟨j,P⟩
 .rw[j] at c6
  have c:=zh j;clear h hb h0 X j c0 c2 c3
  go_enter func66,ntmps66
  go_wp2;go_ret;exact⟨U,Va _,rfl,p,m,rfl,rfl,H0.o,.inl c.o,Fr.ofBelow HB.o,Sub.refl _ _⟩
 rw[j] at c6;obtain⟨c,HG⟩:=zh2 j P;have nothing:Qxs w p m U (K+2097152) (.returned (.bool true)) (w.alloc (.cells #[.int .i64 b,.int .i64 a,.bool q,.string s] 103)):=
  ⟨U,Va _,rfl,p,m,rfl,rfl,H0.o,.inr ⟨c.o,HG.o.bound (by omega)⟩,Fr.ofBelow HB.o,Sub.refl _ _⟩
 have NOTHING:=zh nothing;clear h hb h0 X j P nothing;by_cases k1:b=1
 .subst k1
  have HO:=zh (Q60 f _ p m U K H0.o HG.o c.o r.o (by omega) (by omega) t);clear c0 c2 c3
  go_enter func66,ntmps66
  go_wp2_with (first|go_at_call 21;refine HO.o.m ?_;intro e w1 h1;obtain⟨he,h1⟩:=h1;subst he;have H1:=zh h1;clear h1|fail)
  go_ret;have hs:Qc1 w p m U (K+1048576) (.returned (.bool true)) w1:=Qc1.j ⟨rfl,H1.o⟩ HB.o;obtain⟨_,p',m',x1,x2,x3,x4,x5,x6⟩:=hs;refine⟨U,Va _,rfl,p',m',x1,x2,x3,x4.imp id λx=>⟨x.1,x.2.bound (by omega)⟩,x5,x6⟩
 have t1:(b == 1)=false:=by rw[zl];exact k1
 by_cases k5:b=5
 .subst k5
  have aj:=Qlj a (n:=30) (by decide);obtain⟨pk,H⟩:=zzx (Qhc a 30)
  have u:=λ(W:G)=>Qlk a 30 W af ag (by decide) (by decide)
  rw[<-H] at aj u;have N:=zh u;have al:IntKind.i64.wrap (1+(pk:Int))=1+(pk:Int):=VT _ (by omega);obtain⟨wb,D⟩:=zzx (w.alloc (.cells #[.int .i64 5,.int .i64 a,.bool q,.string s] 103))
  have z:wb.heap[w.heap.size]?=some (.cells #[.int .i64 5,.int .i64 a,.bool q,.string s] 103 (0,0)):=by rw[D];exact zy w _
  have o0:=Qd z 0 rfl;have o1:=Qd z 1 rfl;have o3:=Qd z 3 rfl;rw[<-D] at H0 r HB;obtain⟨Q,R⟩:=zh2 z D;have b0:=H0.o.heads.1.1;have b6:=H0.o.heads.1.2.2.2.2.2.2;rw[c.o] at b6;clear u H z D c0 c2 c3 c6 NOTHING
  go_enter func66,ntmps66
  go_upto_region 1 with fail
  rw[<-R.o];clear R
  go_upto_region 7 with fail
  go_cut [] from 18 to 33 (λwx=>∃ hf on,Aside (Q5 wx p.gd p.v (Qg9 m.d (1+pk) hf on))/\Aside (Fr (·=p.gd) wb wx))
  case first=>
   go_region_held3 (λw'=>w'.cell? ⟨p.gw,0,none⟩=some (.pointer (some ⟨p.gd,0,none⟩))/\w'.cell? ⟨w.heap.size,1,none⟩=some (.int .i64 a)/\w'.cell? ⟨w.heap.size,3,none⟩=some (.string s)) (first|with_reducible exact⟨b0,o1,o3⟩|with_reducible exact⟨bd0,od1,od3⟩|with_reducible exact⟨m0,m1,m3⟩|exact⟨m0,m1,m3⟩|exact⟨b0,o1,o3⟩|fail) (first|go_at_call 6;refine (N.o _).m ?_;rintro e w1⟨rfl,rfl⟩|go_at_call 120;refine (Q4i _ p.gd p.v m.d (H0.o.disk.j (Ql _)) (1+pk) _ (by simp) _ _ (by have:=HG.o.sane.calls;omega) (by omega)).m ?_;rintro e w1⟨rfl,S,V⟩;obtain⟨Z,B⟩:=zh2 S (show Fr (·=p.gd) wb w1 from (Fr.ofBelow (Ql wb)).t V);have m0:=B.o.cell b0 (show ¬ p.gw=p.gd from H0.o.gg);have m1:=B.o.cell o1 (show ¬ w.heap.size=p.gd from λe=>Zz Q.o H0.o.disk.1 (by decide) e);have m3:=B.o.cell o3 (show ¬ w.heap.size=p.gd from λe=>Zz Q.o H0.o.disk.1 (by decide) e);clear S V|fail)
   all_goals (
    go_wp2
    go_meet
    exact⟨_,_,Z.o,B.o⟩)
  case rest=>
   obtain⟨hf,on,HD,HF⟩:=hcut;have h1:Qa6 wc p { m with d:=Qg9 m.d (1+pk) hf on }:=H0.o.diskStep HD.o (Q9k HF.o);have C:Qe4 { m with d:=Qg9 m.d (1+pk) hf on } U K:=Q2e HG.o (1+pk) hf on;have F:Qbj f (WdS p { m with d:=Qg9 m.d (1+pk) hf on }) wc:=r.o.fr (HF.o.weak λ_ _ e=>Qvi e);have A:Fr (WdS p m) w wc:=(Fr.ofBelow HB.o).t (HF.o.weak λ_ _ e=>Qvi e);obtain⟨H1,aa,E⟩:=zh3 h1 C A;have d2:=h1.heads.1.2.2.1;dsimp only at d2;have ah:=HB.o.size;have ai:=HF.o.size;clear o0 o1 o3 b0 b6;cases hl:m.l with
   | none=>
    rw[hl] at d2;have ae:wc.cell? ⟨p.gw,2,none⟩=some (.pointer none):=d2;obtain⟨ab,HL⟩:=zh2 (Q1j f wc p { m with d:=Qg9 m.d (1+pk) hf on } U K h1 C hl c.o rfl F (by omega) (by omega) t) hl;clear h1 C F A d2 hl
    go_wp2_with (first|go_at_call 121;refine ab.o.m ?_;intro e w3 h3;obtain⟨he,h3⟩:=h3;subst he;have H3:=zh h3;clear h3|fail)
    go_ret;obtain⟨p',m',x1,x2,x3,x4,x5,x6⟩:=H3.o;refine⟨U,Va _,rfl,p',m',x1,x2,x3,x4.imp id λx=>⟨x.1,x.2.bound (by omega)⟩,E.o.t x5,x6.m (zi ah ai)⟩
   | some L=>
    rw[hl] at d2;have ae:wc.cell? ⟨p.gw,2,none⟩=some (.pointer (some ⟨p.gl,0,none⟩)):=d2;clear h1 C F A d2 hl;go_wp2;go_ret;exact⟨U,Va _,rfl,p,{ m with d:=Qg9 m.d (1+pk) hf on },rfl,rfl,H1.o,.inr ⟨c.o,aa.o.bound (by omega)⟩,E.o,Sub.refl _ _⟩
 have t5:(b == 5)=false:=by rw[zl];exact k5
 cases hl:m.l with
 | none=>
  rw[hl] at c2;have ad:w.cell? ⟨p.gw,2,none⟩=some (.pointer none):=c2;clear c2 hl
  go_enter func66,ntmps66
  go_wp2;go_ret;exact NOTHING.o
 | some L=>
  rw[hl] at c2;have ad:w.cell? ⟨p.gw,2,none⟩=some (.pointer (some ⟨p.gl,0,none⟩)):=c2;have HL:=zh hl;have i:=HG.o.run L hl;have k:L.entries.length=m.es.length:=by rw[i.2.2.1];simp[lists]
  have y:m.es.length<1048576:=by have:=i.1.len;omega
  clear c2 hl;by_cases k2:b=2
  .subst k2
   have HA:=zh (Qxt f _ p m L s U K H0.o HG.o HL.o c.o r.o (by omega) y);clear i k y c0 c3
   go_enter func66,ntmps66
   go_wp2_with (first|go_at_call 23;refine HA.o.m ?_;intro e w1 h1;obtain⟨he,h1⟩:=h1;subst he;have H1:=zh h1;clear h1|fail)
   go_ret;have hs:Qc1 w p m (L.entries.length / 4 :: U) K (.returned (.bool true)) w1:=Qc1.j ⟨rfl,H1.o⟩ HB.o;obtain⟨_,p',m',x1,x2,x3,x4,x5,x6⟩:=hs;exact⟨L.entries.length / 4 :: U,by simp,rfl,p',m',x1,x2,x3,x4.imp id λx=>⟨x.1,x.2.bound (by omega)⟩,x5,x6⟩
  have t2:(b == 2)=false:=by rw[zl];exact k2
  by_cases k3:b=3
  .subst k3
   have M:Calls prog 22 #[.pointer (some ⟨p.gw,0,none⟩)] (w.alloc (.cells #[.int .i64 3,.int .i64 a,.bool q,.string s] 103)) (Qc1 (w.alloc (.cells #[.int .i64 3,.int .i64 a,.bool q,.string s] 103)) p m U (K+1048576)):=by
    cases hf:L.failed with
    | true=>exact Qsy f _ p m L U K H0.o HG.o HL.o c.o hf r.o (by omega) (by omega) t
    | false=>exact Qtb f _ p m L U K H0.o HG.o HL.o c.o hf r.o (by omega) (by omega) t
   have HA:=zh M;clear i k y c0 c3 M
   go_enter func66,ntmps66
   go_wp2_with (first|go_at_call 22;refine HA.o.m ?_;intro e w1 h1;obtain⟨he,h1⟩:=h1;subst he;have H1:=zh h1;clear h1|fail)
   go_ret;have hs:Qc1 w p m U (K+1048576) (.returned (.bool true)) w1:=Qc1.j ⟨rfl,H1.o⟩ HB.o;obtain⟨_,p',m',x1,x2,x3,x4,x5,x6⟩:=hs;exact⟨U,Va _,rfl,p',m',x1,x2,x3,x4.imp id λx=>⟨x.1,x.2.bound (by omega)⟩,x5,x6⟩
  have t3:(b == 3)=false:=by rw[zl];exact k3
  by_cases k4:b=4
  .subst k4
   have I:=Quy _ p.gl p.g p.gd p.ve p.vl p.vp p.vs L (H0.o.log L HL.o).1 (H0.o.log L HL.o).2;rw[k] at I;have ac:=zh I;obtain⟨ea,ec,T⟩:=Zo H0.o.ents;rw[T] at c3;clear i k y c0 I T
   go_enter func66,ntmps66
   go_wp2_with (first|go_at_call 74;refine ac.o.m ?_;rintro e w9⟨rfl,rfl⟩|fail)
   go_ret;exact NOTHING.o
  have t4:(b == 4)=false:=by rw[zl];exact k4
  clear i k y c0 c3
  go_enter func66,ntmps66
  go_wp2;go_ret;exact NOTHING.o
end
end Go.Proofs.YtefccfakhgdfbaaGreatDoor
