/- Lemmas of the proof of All; their conditions stand in them. -/
import Derived.Test.YtefccfakhgdfbaaGreatDoorAl07
set_option linter.unusedVariables false
set_option linter.unusedSimpArgs false
open Go.RowKit Go.Proofs.Tryz
set_option maxRecDepth 100000
set_option maxHeartbeats 4000000
namespace Go.Proofs.YtefccfakhgdfbaaGreatDoor
section
section
variable [Inhabited OutT]
theorem Q5b:(prog.info? 9).map (λi=>(i.zero,i.size,i.bytes))=some (some (.string ⟨#[]⟩),1,16):=by have:=(inferInstance:Inhabited OutT);show _=_;kernel_rfl
theorem Qzg(w:G)(q:Qf)(x:Qv)(N:Nat)(s:Cs)(d:Dk)(h:QIs w q x N s d)(key:O)(a:Y Addr)(n c:Nat)(data:Ud)(hv:OwnB w 0 (.slice a n c) data)(hn:Qls x.vs key=none)(hs:key.size<=maxLen)(ah:x.vs.length<1099511627775):Calls prog 193 #[.pointer (some ⟨q.gq,0,none⟩),.string key,.slice a n c] w λe w'=>e=.returned (.tuple #[])/\Jl w q x N d w' (Qjc key data s):=by
 obtain⟨c0,c1,c2,c3,_,_,c6⟩:=h.heads;obtain⟨i0,z,L,I,p⟩:=ZZ Q5b;have HI:=zh (⟨z,L,I,p⟩:_/\_/\_/\_);have aj:q.gq<w.heap.size:=Qb h.look;obtain⟨ao,co,b⟩:=Zo h.ord;rw[b] at c3;have X:fget x.vs key=none:=by unfold fget;rw[hn];rfl
 obtain⟨H,HV,W⟩:=zh3 h hv b;have B:q.gq≠q.mq:=λe=>by obtain⟨es,c,hb⟩:=Qjn h.km;rw[<-e,h.look] at hb;cases hb
 have r:(x.vs.map (·.key)).length=x.vs.length:=zA _;clear h hv b z L I p
 go_enter func193,ntmps193
 go_upto_region 1 with (first|at_mapUpdate;refine Qfg _ rfl _ _ _ 261 rfl 9 147 underlying9 underlying261 q.mq _ _ rfl H.o.km (by unfold maxLen;omega) key (.slice a n c) rfl hs rfl ?_;intro w1 A v K;obtain⟨P,l,V⟩:=zh3 A v K;clear A v K|fail)
 have f:=l.o.heap H.o.look B;have D:Qq w1 0 x.vo (x.vs.map (·.key)):=Zf H.o.ord l.o λk hk e=>by obtain⟨es,cc,hb⟩:=Qjn H.o.km;obtain⟨C,hC⟩:=Qk H.o.ord hk;rw[e] at hC;rw[hb] at hC;cases hC
 obtain⟨ln,j⟩:=zzx x.vs.length
 have b:x.vo=.slice ao ln co:=by rw[j,<-r];exact W.o
 have d3:w1.cell? ⟨q.gq,3,none⟩=some (.slice ao ln co):=by rw[<-b];exact Qd f 3 rfl
 have dz:w1.frozen? ⟨q.gq,3,none⟩=false:=Qu f 3;have ag:q.gq<w1.heap.size:=Qb f;have E:w1.ownsRow 0 9 1 (.slice ao ln co) ln ((x.vs.map (·.key)).map Value.string):=by
  have:=D
  unfold Qq at this;rw[r,<-j,b] at this;exact this
 have M:ln+1<=1099511627776:=by omega
 have F:∀ k,x.vo.ownBlock=some k->k≠q.gq:=λk hk e=>by obtain⟨C,hC⟩:=Qk H.o.ord hk;exact Zz hC H.o.look (by decide) e
 obtain⟨U,T,Q,m,R⟩:=zh5 F E f b j;clear D E f c0 c1 c2 c3 c6 b j F r
 go_wp2_with (at_builtin;refine Qde rfl _ _ _ rfl 0 9 i0 _ 1 16 underlying22 HI.o.1 HI.o.2.1 HI.o.2.2.1 HI.o.2.2.2 rfl (by decide) (by decide) (.slice ao ln co) ln _ rfl (Qn T.o (Qa _ _)) ⟨w1.heap.size,0,none⟩ 1 1 [.string key] rfl rfl (by have:=Xb w1 (.string key) 9;simpa using this) (by simp[Value.oneCell']) (by decide) M (zE _) ?_;intro v' w2 g2 g3 g4 g5;obtain⟨G2,G3,G4⟩:=zh3 g2 (Fr.ofGrown (S:=λk=>x.vo.ownBlock=some k) g3 λk _ e=>by rw[m.o];exact e.symm ▸ rfl) g4;obtain⟨gb,cpb,af,ai⟩:=Qbz g2 g5;have i:=G3.o.heap (Qxx Q.o _) (λe=>U.o _ e rfl);have e3:=Qd i 3 rfl;have ez:=Qu i 3;have t:=zh i;subst af;clear g2 g3 g4 g5 i)
 have hF:Fr (Q37 q x) w (w2.setCell ⟨q.gq,3,none⟩ (.slice (some ⟨gb,0,none⟩) (ln+1) cpb)):=
  (((l.o.weak λ_ _ e=>.inr (.inl e)).t (Fr.ofBelow (Qa w1 (.cells #[.string key] 9)))).t (G3.o.weak λ_ _ e=>.inr (.inr e))).t ((Fr.set1 w2 q.gq 3 _).weak λ_ _ e=>.inl e)
 have aa:∀ k,x.vo.ownBlock=some k->q.mq≠k:=λk hk e=>by obtain⟨es,cc,hb⟩:=Qjn H.o.km;obtain⟨C,hC⟩:=Qk H.o.ord hk;rw[<-e,hb] at hC;cases hC
 have Z:KmAt (w2.setCell ⟨q.gq,3,none⟩ (.slice (some ⟨gb,0,none⟩) (ln+1) cpb)) 9 q.mq (λu=>if u=key then some (.slice a n c) else fget x.vs u) (x.vs.length+1):=by have k1:=P.o;rw[X] at k1;exact ((k1.j (Qa w1 (.cells #[.string key] 9)) k1.lt).fr G3.o λe=>aa _ e rfl).fr (Fr.set1 w2 q.gq 3 _) λe=>B e.symm
 have ac:Qq (w2.setCell ⟨q.gq,3,none⟩ (.slice (some ⟨gb,0,none⟩) (ln+1) cpb)) 0 (.slice (some ⟨gb,0,none⟩) (ln+1) cpb) (x.vs.map (·.key) ++ [key]):=by
  have g:=G2.o;have hg:gb≠q.gq:=λe=>by obtain⟨C,hC⟩:=Qk g (k:=gb) rfl;exact Zz hC t.o (by decide) e
  have g':=Zf g (Fr.set1 w2 q.gq 3 (.slice (some ⟨gb,0,none⟩) (ln+1) cpb)) λk hk e=>hg (by simp[Value.ownBlock] at hk;exact hk.t e)
  unfold Qq;rw[zn,Vd,zA,<-R.o,zL];exact g'
 have hq:=H.o.lookStep hF (y:=⟨key,.slice a n c,data⟩) ((heap_setCell t.o _).t (by simp[Qxo])) Z ac (Qes HV.o hF H.o.kindsLook (by decide)) hn hs;refine xI (VF rfl _ _ _) rfl ⟨rfl,_,hq,hF.weak λ_ _ e=>.inl e,?_⟩;intro k hk;rcases hk with (e|e|e)|e|e
 .exact .inl (.inl (.inl e))
 .exact .inl (.inl (.inr (.inl e)))
 .rcases G4.o k e with e|e
  .exact .inl (.inl (.inr (.inr (by rw[m.o];exact e))))
  have hz:w.heap.size=w1.heap.size:=V.o.symm;exact .inr (by rw[hz];exact zi (Va _) (by simpa using e))
 .exact .inl (.inr (.inl e))
 exact .inl (.inr (.inr e))
end
section
variable [Inhabited OutT]
theorem Qx7(n:Nat)(v:J)(w:G):(Go.method (n+1) 48 v "Fetch").run prog w=.ok (298,v) w:=by have:=(inferInstance:Inhabited OutT);show _=_;kernel_rfl
theorem cfetch0(w:G)(q g a:Nat)(i j v:J)(n:Nt)(d:Dk)(p:O)(x:w.cell? ⟨q,2,none⟩=some (.iface 48 (.pointer (some ⟨g,0,none⟩))))(h:Yr w g a i j n)(r:Q5 w a v d)(s:d.files=n.files)(t:n.fetches<1152921504606846976):Calls prog 136 #[.pointer (some ⟨q,0,none⟩),.string p] w (Qpq w g a i j n p):=by
 have HF:=zh (Q7a w g a i j v n d p h r s t);clear h r s;have hm:=λn W=>Qx7 n (.pointer (some ⟨g,0,none⟩)) W
 go_enter func136,ntmps136
 go_wp2_with (go_at_call 298;refine HF.o.m ?_;intro e w1 h1;obtain⟨c,b,u,y,rfl,f⟩:=h1;obtain⟨l,k,m⟩:=zh3 c b f;clear c b f)
 go_ret2;exact⟨l.o,k.o,_,_,rfl,m.o⟩
def Qgt(w:G)(q:Qf)(x:Qv)(N:Nat)(s:Cs)(d:Dk)(p:O)(e:Ua)(w':G):Prop:=
 (QIs w' q x N (Zk p s) d/\Fr (netS q.gn q.vt) w w')/\∃ u y,e=.returned (.tuple #[u,y])/\((∃ data,Yx s.net p=some data/\y=.nilIface/\Q3 w' w.heap.size u data/\∃ a k c,u=.slice a k c)∨(Yx s.net p=none/\(∃ t,y=.iface 218 (.pointer (some t)))/\∃ a k c,u=.slice a k c))
theorem Q2b(w:G)(q:Qf)(x:Qv)(N:Nat)(s:Cs)(d:Dk)(h:QIs w q x N s d)(p:O)(a:s.net.fetches<1152921504606846976):Calls prog 136 #[.pointer (some ⟨q.gc,0,none⟩),.string p] w (Qgt w q x N s d p):=
 (cfetch0 w q.gc q.gn q.gd q.vl q.vt q.v s.net d p h.heads.2.2.2.2.1 h.net h.disk h.dfiles a).m λe w' hp=>by
  obtain⟨h1,h2,h3⟩:=hp
  exact⟨⟨h.netStep h1 h2 (Yc s.net p).2.1,h2⟩,h3⟩
end
section
variable [Inhabited OutT]
structure Rnd(fits:Qj1)(level:Int)(index w:Nat)(s:Cs)(kk:Nat)(sk:Cs)(nm:O)(wd:Nat):Prop where
 name:nm=Qt level index wd
 wide:w<=wd/\wd<=4
 fit:∀ b,tryQ fits nm wd w sk=some b->Qdt fits level index w s=(.ok b,Qjc (Qt level index w) b (Zk nm sk))
 last:tryQ fits nm wd w sk=none->w=4∨kk=1->Qdt fits level index w s=(.error (.miss (Qt level index w)),Zk nm sk)
theorem rnd0(fits:Qj1)(c:Int)(a w:Nat)(s:Cs)(d:w<=4):Rnd fits c a w s 0 s (Qt c a w) w:=have:=(inferInstance:Inhabited OutT);⟨rfl,⟨zg _,d⟩,λb hb=>by unfold Qdt;rw[hb],λhn h=>by
  unfold Qdt
  rw[hn]
  dsimp only
  rw[zD (by omega)]⟩
variable {fits:Qj1} {level:Int} {index wd:Nat} {s:Cs} {nm:O}
theorem rnd1{w:Nat}(h:nm=Qt level index w)(d:wd=w)(c:tryQ fits nm wd w s=none)(a:w≠4)(e:w<=4):Rnd fits level index w s 1 (Zk nm s) (Qt level index 4) 4:=by
 have:=(inferInstance:Inhabited OutT)
 subst h d;refine⟨rfl,⟨e,zg _⟩,λb hb=>?_,λhm _=>?_⟩
 .unfold Qdt
  rw[c];dsimp only;rw[zw a,hb]
 unfold Qdt;rw[c];dsimp only;rw[zw a,hm]
def Jo(f:Nat->Addr)(w:G)(base:Nat)(p:O)(u:J):Prop:=Q3z w base p (.iface 370 (.pointer (some (f 5)))) u
def Qku(f:Nat->Addr)(w:G)(q:Qf)(x:Qv)(N:Nat)(d:Dk)(r:Except QErr Ud×Cs)(e:Ua)(w':G):Prop:=
 Jl w q x N d w' r.2/\((∃ b a n c,r.1=.ok b/\e=.returned (.tuple #[.slice a n c,.nilIface])/\Q3 w' 0 (.slice a n c) b)∨∃ p u,r.1=.error (.miss p)/\e=.returned (.tuple #[.slice none 0 0,u])/\Jo f w' w.heap.size p u)
def Qa8(n:Nt):Prop:=(∀ x∈n.files,x.2.size<=1099511627776)/\∀ l∈n.lies,l.data.size<=1099511627776
variable {n:Nt} {p:O} {data:Ud}
theorem Qj4(h:Qa8 n)(a:Yx n p=some data):data.length<=1099511627776:=by
 have:=(inferInstance:Inhabited OutT)
 unfold Yx at a;cases hl:Qdu n p with
 | none=>
  rw[hl] at a;obtain⟨b,hb,rfl⟩:=zP.1 a
  have:=h.1 _ (Jw hb)
  simpa using this
 | some i=>
  rw[hl] at a;dsimp only at a;cases hx:n.lies[i]? with
  | none=>rw[hx] at a;cases a
  | some x=>
   rw[hx,ZP] at a
   split at a
   .cases a
   have:=h.2 x (zr hx)
   rw[<-zR a];simpa using this
theorem Qfk(h:Qa8 n)(q:O):Qa8 (Zt n q):=by
 have:=(inferInstance:Inhabited OutT)
 unfold Qa8;rw[(Yc n q).1,(Yc n q).2.1];exact h
theorem Q6y(l:Int)(i w:Nat)(a:i<9223372036854775808):(Qt l i w).size<=maxLen:=by
 have:=(inferInstance:Inhabited OutT)
 unfold Qt;rw[Y1];unfold Yb
 split
 .rename_i h
  unfold Ja at h;unfold Yq;have h1:=Jf (n:=l.toNat) (by omega);have h2:=Jf (n:=(i:Int).toNat) (by omega);have h3:=Jf (n:=(w:Int).toNat) (by omega);unfold maxLen;simp only[zn]
  split <;> split <;> simp only[zn,zx,vL,kT,kE,kP] <;> omega
 exact zE _
variable {w:G} {q:Qf} {x:Qv} {N:Nat} {d:Dk}
theorem Zdw(h:QIs w q x N s d){y:FEnt}(b:y∈x.vs):∃ a n c,y.val=.slice a n c:=Qi1 (h.vals y b).1
variable {g m:Nat} {c:Cch} {qs:List CEnt}
theorem Zde(h:Yd w g m c qs){y:CEnt}(b:y∈qs):∃ a n c,y.val=.slice a n c:=Qi1 (h.vals y b).1
variable {count:Nat} {b:Ud}
theorem Qui(h:Yj s.files (Qt level index (Zr index count))=some b):Qby fits level index count s=(.ok b,s):=by have:=(inferInstance:Inhabited OutT);unfold Qby;rw[h]
theorem Qyd(h:Yj s.files (Qt level index (Zr index count))=none)(a:Yj s.cache.items (Qt level index (Zr index count))=some b):Qby fits level index count s=(.ok b,Qjc (Qt level index (Zr index count)) b { s with cache:=Yz s.cache (Qt level index (Zr index count)) }):=by have:=(inferInstance:Inhabited OutT);unfold Qby;rw[h];dsimp only;rw[a]
theorem Qw0(h:Yj s.files (Qt level index (Zr index count))=none)(a:Yj s.cache.items (Qt level index (Zr index count))=none):Qby fits level index count s=Qdt fits level index (Zr index count) s:=by have:=(inferInstance:Inhabited OutT);unfold Qby;rw[h];dsimp only;rw[a]
variable {k:O} {e:Ua} {w':G}
theorem Zaj{z:CEnt}(a:cfind qs k=some z)(h:Qpe w g m c qs k e w'):e=.returned (.tuple #[z.val,.bool true])/\∃ qs',Yd w' g m (Yz c k) qs'/\Fr (Yw g m qs) w w'/\w'.heap.size=w.heap.size/\(∀ i,Yw g m qs' i↔Yw g m qs i)/\OwnB w' 0 z.val z.data:=by
 rcases h with⟨h,_⟩|⟨z',qs',h1,h2,h3,h4,h5,h6,h7⟩
 .rw[a] at h;cases h
 rw[a] at h1;cases h1;exact⟨h2,qs',h3,h5,h6,h7,h3.vals z h4⟩
theorem Q7p(a:cfind qs k=none)(h:Qpe w g m c qs k e w'):e=.returned (.tuple #[.slice none 0 0,.bool false])/\w'=w:=by
 rcases h with⟨_,h1,h2⟩|⟨z',qs',h1,_⟩
 .exact⟨h1,h2⟩
 rw[a] at h1;cases h1
theorem Q2d(h:QIs w q x N s d):Qc4 w (QS q x):=λk C fz hk hs=>by
 rcases hs with hs|hs|hs
 .exact Z3 h.kindsLook hk (by decide) hs
 .exact Z3 (Qar h.cache) hk (by decide) hs
 exact Z3 (Qbw h.net) hk (by decide) hs
theorem Qtm{w w':G}{q:Qf}{x:Qv}{N:Nat}{s:Cs}{d:Dk}{base:Nat}{v:J}{l:Ud}(a:Q3 w base v l)(b:Fr (QS q x) w w')(h:QIs w q x N s d):Q3 w' base v l:=
 a.same λk C fz hk=>b.block k (Qb hk) (Q2d h k C fz hk)
theorem Q1i(b:Yx s.net p=none)(h:Qgt w q x N s d p e w'):QIs w' q x N (Zk p s) d/\Fr (netS q.gn q.vt) w w'/\∃ a n c t,e=.returned (.tuple #[.slice a n c,.iface 218 (.pointer (some t))]):=by
 obtain⟨⟨h1,h2⟩,u,y,rfl,⟨data,h3,_⟩|⟨_,⟨t,rfl⟩,a,n,c,rfl⟩⟩:=h
 .rw[b] at h3;cases h3
 exact⟨h1,h2,a,n,c,t,rfl⟩
theorem Qxd(b:Yx s.net p=some data)(h:Qgt w q x N s d p e w'):QIs w' q x N (Zk p s) d/\Fr (netS q.gn q.vt) w w'/\∃ a n c,∃ _:Q3 w' w.heap.size (.slice a n c) data,e=.returned (.tuple #[.slice a n c,.nilIface]):=by
 obtain⟨⟨h1,h2⟩,u,y,rfl,⟨data',h3,rfl,h4,a,n,c,rfl⟩|⟨h3,_⟩⟩:=h
 .rw[b] at h3
  cases h3;exact⟨h1,h2,a,n,c,h4,rfl⟩
 rw[b] at h3;cases h3
variable {o:Y Ud}
theorem Zaz(d:o=none)(h:Qon o w e w'):Bz w w'/\∃ a n c,e=.returned (.tuple #[.slice a n c,.bool false]):=by
 have:=(inferInstance:Inhabited OutT)
 obtain⟨h1,⟨_,a,n,c,h2⟩|⟨b,a,n,c,h2,_⟩⟩:=h
 .exact⟨h1,a,n,c,h2⟩
 rw[d] at h2;cases h2
theorem Zc5(d:o=some b)(h:Qon o w e w'):Bz w w'/\∃ a n c,∃ _:Q3 w' w.heap.size (.slice a n c) b,e=.returned (.tuple #[.slice a n c,.bool true]):=by
 have:=(inferInstance:Inhabited OutT)
 obtain⟨h1,⟨h2,_⟩|⟨b',a,n,c,h2,h3,h4⟩⟩:=h
 .rw[d] at h2;cases h2
 rw[d] at h2;cases h2;exact⟨h1,a,n,c,h4,h3⟩
theorem Qt3{w1:Nat}{a g:Nat}{b:Cs}{m:O}{n c:G}{s63:J}(j:Rnd fits level index w1 s a b nm wd)(i:QIs c q x N (Zk nm b) d)(t:Qa8 b.net)(w:b.net.fetches<=s.net.fetches+a)(f:wd=(if a=0 then w1 else 4))(k:a=0->b=s)(l:m=Qt level index w1)(e:tryQ fits nm wd w1 b=none)(o:¬ w1=4)(v:w1<=4)(y:a<2)(p:Fr (netS q.gn q.vt) n c)(r:2-(a+1)<=g)(u:s63=.int .i64 ((a+1:Nat):Int)):∃ a:Nat,a<=2/\2-a<=g/\s63=.int .i64 a/\Aside (Fr (netS q.gn q.vt) n c)/\Aside ((∃ b nm wd,a<2/\Rnd fits level index w1 s a b nm wd/\QIs c q x N b d/\b.net.fetches<=s.net.fetches+a/\Qa8 b.net/\wd=(if a=0 then w1 else 4)/\(a=0->b=s))∨(a=2/\∃ b,Qdt fits level index w1 s=(.error (.miss m),b)/\QIs c q x N b d)):=by
 refine⟨a+1,by omega,r,u,p,?_⟩;rcases zK a 1 with h0|h0
 .obtain rfl:a=0:=by omega
  obtain rfl:=k rfl;refine .inl ⟨Zk nm b,Qt level index 4,4,by omega,rnd1 (by rw[j.name,f,zD rfl]) (by rw[f,zD rfl]) e o v,i,?_,Qfk t nm,by rw[zw (by decide)],λh=>by cases h⟩;show (Zt b.net nm).fetches<=_;rw[(Yc b.net nm).2.2];omega
 obtain rfl:a=1:=by omega
 exact .inr ⟨rfl,Zk nm b,by rw[l];exact j.last e (.inr rfl),i⟩
theorem Q0y(fits:Qj1)(g:Nat)(cn:∀ args w,(callFunc g args).run prog w=.ok (.enter g args) w)(ak:∀ (W:G) (v:J) (data:Ud) (wd w1:Nat),Q7 W v data->data.length<=1099511627776->1<=w1->w1<=wd->wd<=4->Calls prog g #[v,.int .i64 wd,.int .i64 w1] W (Qon (fits data wd w1) W))(f:Nat->Addr)(w:G)(q:Qf)(x:Qv)(N:Nat)(s:Cs)(d:Dk)(h:QIs w q x N s d)(hE:Qbj f (QS q x) w)(c:Int)(a i:Nat)(hi:4*a<i)(hc:i<9223372036854775808)(co:s.net.fetches<1152921504606846000)(a0:x.vs.length<1099511627775)(bz:Qa8 s.net):Calls prog 146 #[.pointer (some ⟨q.gq,0,none⟩),.int .i64 c,.int .i64 a,.int .i64 i,.func (.func g) #[] #[]] w (Qku f w q x N d (Qby fits c a i s)):=by
 obtain⟨w1,an⟩:=zzx (Zr a i)
 have m:1<=w1/\w1<=4:=by unfold Zr at an;omega
 obtain⟨t0,am⟩:=zzx (Qt c a w1)
 have ai:=Qyi c a i w hi hc hE.num;rw[show min 4 (i-4*a)=w1 from an.symm] at ai;have e0:sOf (Yb c (a:Int) ((w1:Nat):Int))=t0:=am.symm;rw[e0] at ai;have t:t0.size<=maxLen:=by rw[am];exact Q6y c a w1 (by omega)
 obtain⟨ad,ap,S,r,H,HE⟩:=zh6 ak ai an am h hE;have cp:q.gq<w.heap.size:=Qb h.look;clear ak ai an e0 h hE am;obtain⟨k0,k1,k2,k3,k4,k5,k6⟩:=H.o.heads;cases hff:Qls x.vs t0 with
 | some y=>
  obtain⟨a3,cg⟩:=Qum hff;obtain⟨ya,yn,yc,U⟩:=Zdw H.o a3;have aj:fget x.vs t0=some (.slice ya yn yc):=by unfold fget;rw[hff,<-U];rfl
  have hq:Qby fits c a i s=(.ok y.data,s):=Qui (by rw[<-S.o,<-r.o,H.o.files,Q0h,hff];rfl);have a1:=(H.o.vals y a3).1;rw[U] at a1;obtain⟨HQ,b9⟩:=zh2 hq a1;clear hq a1 U a3 cg hff
  go_enter func146,ntmps146
  go_wp2_with (first|go_at_call 191;refine ap.o.m ?_;rintro e w2⟨rfl,l⟩;obtain⟨H2,F⟩:=zh2 (H.o.j l) l;obtain⟨j0,j1,j2,j3,j4,j5,j6⟩:=H2.o.heads;clear l|at_lookup;refine J7 _ rfl _ _ 261 rfl 9 147 underlying9 underlying261 (z:=.slice none 0 0) rfl q.mq x.vs.length (fget x.vs) rfl H2.o.km t0 rfl t ?_;rw[aj];simp only[Option.getD,Option.isSome]|fail)
  go_ret2;rw[HQ.o];exact⟨(Jl.here H.o).j F.o,.inl ⟨_,_,_,_,rfl,rfl,b9.o.same λk C fz hk=>F.o.block k (Qb hk)⟩⟩
 | none=>
  have aj:fget x.vs t0=none:=by unfold fget;rw[hff];rfl
  have V:Yj s.files (Qt c a (Zr a i))=none:=by rw[<-S.o,<-r.o,H.o.files,Q0h,hff];rfl
  have a7:=zh hff;cases hcf:cfind x.qs t0 with
  | some z=>
   obtain⟨ch,lz,rz,b3,_⟩:=Qel hcf;have b2:z∈x.qs:=by rw[b3];simp
   obtain⟨ya,yn,yc,U⟩:=Zde H.o.cache b2;have hq:Qby fits c a i s=(.ok z.data,Qjc t0 z.data { s with cache:=Yz s.cache t0 }):=by
    have:=Qyd (fits:=fits) V (b:=z.data) (by rw[<-S.o,<-r.o,H.o.cache.items,Qix,hcf];rfl)
    rw[<-S.o,<-r.o] at this;exact this
   obtain⟨HQ,cd,aq⟩:=zh3 hq U hcf;clear hq U ch b3 b2 V hff hcf
   go_enter func146,ntmps146
   go_wp2_with (first|go_at_call 191;refine ap.o.m ?_;rintro e w2⟨rfl,l⟩;obtain⟨H2,F⟩:=zh2 (H.o.j l) l;obtain⟨j0,j1,j2,j3,j4,j5,j6⟩:=H2.o.heads;clear l|at_lookup;refine J7 _ rfl _ _ 261 rfl 9 147 underlying9 underlying261 (z:=.slice none 0 0) rfl q.mq x.vs.length (fget x.vs) rfl H2.o.km t0 rfl t ?_;rw[aj];simp only[Option.getD,Option.isSome]|go_at_call 192;refine (Qzz _ q.gk q.mc s.cache x.qs t0 H2.o.cache t).m ?_;intro e w3 h3;have bf:=Zaj aq.o h3;rw[cd.o] at bf;obtain⟨rfl,qs',bh,ax,b1,az,b0⟩:=bf;have bt:=H2.o.cacheStep bh ax;obtain⟨H3,b5,cm,b7,bc⟩:=zh5 bt ax b1 az b0;clear h3 bh ax b1 az b0 bt|go_at_call 193;refine (Qzg _ q _ N _ d H3.o t0 ya yn yc z.data bc.o a7.o t a0).m ?_;rintro e w4⟨rfl,bu⟩;have ca:=zh bu;clear bu|fail)
   go_ret2;rw[HQ.o];have Q:=ca.o;obtain⟨x4,h4,bi,ce⟩:=Q;refine⟨Jl.t ((Fr.ofBelow F.o).t (b5.o.weak λ_ _ e=>.inr (.inl e))) ?_ ⟨x4,h4,bi,ce⟩,.inl ⟨_,_,_,_,rfl,rfl,?_⟩⟩
   .intro k hk
    rcases hk with e|e|e
    .exact .inl (.inl e)
    .exact .inl (.inr (.inl ((b7.o k).1 e)))
    exact .inl (.inr (.inr e))
   exact Qtm bc.o.1 bi H3.o
  | none=>
   have hq:Qby fits c a i s=Qdt fits c a w1 s:=by
    have:=Qw0 (fits:=fits) V (by rw[<-S.o,<-r.o,H.o.cache.items,Qix,hcf];rfl)
    rw[<-S.o] at this;exact this
   obtain⟨HQ,aq,b8⟩:=zh3 hq hcf bz;clear hq V hff hcf bz
   go_enter func146,ntmps146
   go_upto_region 9 with (first|go_at_call 191;refine ap.o.m ?_;rintro e w2⟨rfl,l⟩;obtain⟨H2,F⟩:=zh2 (H.o.j l) l;obtain⟨j0,j1,j2,j3,j4,j5,j6⟩:=H2.o.heads;clear l|at_lookup;refine J7 _ rfl _ _ 261 rfl 9 147 underlying9 underlying261 (z:=.slice none 0 0) rfl q.mq x.vs.length (fget x.vs) rfl H2.o.km t0 rfl t ?_;rw[aj];simp only[Option.getD,Option.isSome]|go_at_call 192;refine (Qzz _ q.gk q.mc s.cache x.qs t0 H2.o.cache t).m ?_;intro e w3 h3;obtain⟨rfl,rfl⟩:=Q7p aq.o h3;clear h3|fail)
   go_wp2;obtain⟨wb,m⟩:=zzx (w3.alloc (.cells #[.int .i64 w1,.int .i64 4] 3))
   rw[<-m];have aw:Bz w wb:=by rw[m];exact F.o.t ((Qa w3 _).m F.o.size)
   have bl:wb.heap[w3.heap.size]?=some (.cells #[.int .i64 w1,.int .i64 4] 3 (0,0)):=by rw[m];exact zy w3 _
   have bg:QIs wb q x N s d:=H.o.j aw;have bm:¬ netS q.gn q.vt w3.heap.size:=λe=>by
    have hz:=F.o.size;rcases e with e|e
    .have:=H.o.net.lt;omega
    obtain⟨C,hC⟩:=Qk H.o.net.told e
    have:=Qb hC;omega
   obtain⟨I,a8,b6,cc⟩:=zh4 aw bl bm bg;clear m aw bl bg bm j0 j1 j2 j3 j4 j5 j6 k0 k1 k2 k3 k4 k5 k6
   go_loopg [63] 2 (λgg s63 wr=>∃ kk:Nat,kk<=2/\2-kk<=gg/\s63=.int .i64 kk/\Aside (Fr (netS q.gn q.vt) wb wr)/\Aside ((∃ sk nm wd,kk<2/\Rnd fits c a w1 s kk sk nm wd/\QIs wr q x N sk d/\sk.net.fetches<=s.net.fetches+kk/\Qa8 sk.net/\wd=(if kk=0 then w1 else 4)/\(kk=0->sk=s))∨(kk=2/\∃ sk,Qdt fits c a w1 s=(.error (.miss t0),sk)/\QIs wr q x N sk d)))
   case atStart=>exact⟨0,by omega,by omega,rfl,Fr.refl _ _,.inl ⟨s,Qt c a w1,w1,by omega,rnd0 _ _ _ _ _ m.2,cc.o,zg _,b8.o,rfl,λ_=>rfl⟩⟩
   case round=>
    obtain⟨kk,cr,hg,rfl,j,HR⟩:=hrel;have ae:=zh ((HE.o.j I.o).fr (j.o.weak λ_ _ e=>.inr (.inr e)));obtain⟨_,_,_,_,_,g5,_⟩:=ae.o.sents.cells;rcases HR.o with⟨sk,nm,wd,bo,hR,hQ,bk,bq,ao,bx⟩|⟨bo,sk,T,hQ⟩
    .have ci:wr.cell? ⟨w3.heap.size,kk,none⟩=some (.int .i64 wd):=by
      refine j.o.cell (p:=⟨w3.heap.size,kk,none⟩) ?_ b6.o;rcases zK kk 1 with h0|h0
      .obtain rfl:kk=0:=by omega
       rw[ao,zD rfl];exact Qd a8.o 0 rfl
      obtain rfl:kk=1:=by omega
      rw[ao,zw (by decide)];exact Qd a8.o 1 rfl
     have cs:(kk:Int)<2:=by omega
     have cq:(0:Int)<=(kk:Int):=by omega
     have E:=hR.wide;have c0:=hQ.heads.1;have ah:wr.drew.cell? ⟨q.gq,0,none⟩=some (.pointer (some ⟨q.gc,0,none⟩)):=c0;have bn:q.gq<wr.heap.size:=Qj c0;have bp:=hR.name;have al:∀ W,Bz wr W->Calls prog 156 #[.int .i64 c,.int .i64 a,.int .i64 wd] W λe w'=>e=.returned (.string nm)/\Bz W w':=λW hW=>by rw[bp];exact Qf0 c a wd W (by omega) ((ae.o.j hW).num)
     have ay:∀ W,Bz wr W->Calls prog 136 #[.pointer (some ⟨q.gc,0,none⟩),.string nm] W (Qgt W q x N sk d nm):=λW hW=>Q2b W q x N sk d (hQ.j hW) nm (by omega)
     obtain⟨ag,ar,Z,M,a4,bd,bb,cl⟩:=zh8 al ay hR bq bk ao bx hQ;clear HR hR bq bk ao bx hQ bp al ay
     go_upto_region 12 with fail
     cases hfa:Yx sk.net nm with
     | none=>
      have A:=zh hfa;clear hfa
      go_region_held3 (λw'=>w'.cell? ⟨q.gq,0,none⟩=some (.pointer (some ⟨q.gc,0,none⟩))) (first|(with_reducible first|exact c0|exact ah|exact m0|exact n0)|exact ah|fail) (first|go_at_call 156;refine (ag.o _ (Ql wr)).m ?_;rintro e w4⟨rfl,Q⟩;have L:=zh (show Bz wr w4 from (Ql wr).t Q);have m0:=(L.o.cell (p:=⟨q.gq,0,none⟩) bn).t c0;clear Q|go_at_call 136;refine (ar.o w4 L.o).m ?_;intro e w5 h5;obtain⟨R,ac,a2⟩:=Q1i A.o h5;obtain⟨P,n⟩:=zh2 R ((Fr.ofBelow L.o).t ac);have n0:=R.heads.1;obtain⟨a5,n5,c5,q5,rfl⟩:=a2;clear h5 R ac|fail)
      all_goals (
       have K:tryQ fits nm wd w1 sk=none:=by unfold tryQ;rw[A.o];rfl
       have aa:=zh K
       clear K
       by_cases h4:w1=4
       .have av:(w1:Int)=4:=by omega
        have B:=zh (Z.o.last aa.o (.inl h4))
        rw[<-r.o] at B
        have X:=zh P.o
        obtain⟨_,_,_,_,_,g5,_⟩:=(ae.o.fr (n.o.weak λ_ _ e=>.inr (.inr e))).sents.cells
        clear h4
        have be:w5.drew.cell? ⟨6,0,none⟩=some (.iface 370 (.pointer (some (f 5)))):=g5
        go_wp2_with fail
        go_region
        all_goals (
         go_wp2
         go_ret2
         have ab:Bz w5 (w5.alloc (.cells #[.string t0,.iface 370 (.pointer (some (f 5)))] 221)).drew:=(Qa w5 _).drew
         rw[HQ.o,B.o]
         exact⟨(Jl.t ((Fr.ofBelow I.o).t ((j.o.t n.o).weak λ_ _ e=>.inr (.inr e))) (Sub.refl _ _) (Jl.here X.o)).j ab,.inr ⟨t0,_,rfl,rfl,w5.heap.size,rfl,zi I.o.size (j.o.t n.o).size,zy w5 _⟩⟩)
       have av:¬ (w1:Int)=4:=by omega
       have H4:=zh h4
       clear h4
       go_wp2
       go_roundg (2-(kk+1))
       case measure=>omega
       case rel=>exact Qt3 Z.o P.o M.o a4.o bd.o bb.o r.o aa.o H4.o m.2 (by omega) (j.o.t n.o) (zg _) (by go_num))
     | some data=>
      have A:=zh hfa;clear hfa
      go_region_held3 (λw'=>w'.cell? ⟨q.gq,0,none⟩=some (.pointer (some ⟨q.gc,0,none⟩))) (first|(with_reducible first|exact c0|exact ah|exact m0|exact n0)|exact ah|fail) (first|go_at_call 156;refine (ag.o _ (Ql wr)).m ?_;rintro e w4⟨rfl,Q⟩;have L:=zh (show Bz wr w4 from (Ql wr).t Q);have m0:=(L.o.cell (p:=⟨q.gq,0,none⟩) bn).t c0;clear Q|go_at_call 136;refine (ar.o w4 L.o).m ?_;intro e w5 h5;obtain⟨R,ac,a2⟩:=Qxd A.o h5;obtain⟨P,n⟩:=zh2 R ((Fr.ofBelow L.o).t ac);have n0:=R.heads.1;obtain⟨a5,n5,c5,q5,rfl⟩:=a2;clear h5 R ac|fail)
      all_goals (
       have au:=zh q5
       clear q5
       cases hfv:fits data wd w1 with
       | none=>
        have K:tryQ fits nm wd w1 sk=none:=by unfold tryQ;rw[A.o];exact hfv
        have aa:=zh K
        have af:=zh hfv
        clear K hfv
        by_cases h4:w1=4
        .have B:=zh (Z.o.last aa.o (.inl h4))
         rw[<-r.o] at B
         have H4:=zh h4
         clear h4
         go_upto_region 15 with (first|refine (ad.o _ _ data wd w1 au.o.at (Qj4 M.o A.o) m.1 E.1 E.2).m ?_;intro e w6 h6;obtain⟨D,a6,n6,c6,rfl⟩:=Zaz af.o h6;have u:=zh D;clear h6 D|fail)
         have X:=zh (P.o.j u.o)
         have av:(w1:Int)=4:=by have:=H4.o;omega
         obtain⟨_,_,_,_,_,g5,_⟩:=((ae.o.fr (n.o.weak λ_ _ e=>.inr (.inr e))).j u.o).sents.cells
         have be:w6.drew.cell? ⟨6,0,none⟩=some (.iface 370 (.pointer (some (f 5)))):=g5
         go_wp2_with fail
         go_region
         all_goals (
          go_wp2
          go_ret2
          have ab:Bz w6 (w6.alloc (.cells #[.string t0,.iface 370 (.pointer (some (f 5)))] 221)).drew:=(Qa w6 _).drew
          rw[HQ.o,B.o]
          exact⟨(Jl.t ((Fr.ofBelow I.o).t (((j.o.t n.o).t (Fr.ofBelow u.o)).weak λ_ _ e=>.inr (.inr e))) (Sub.refl _ _) (Jl.here X.o)).j ab,.inr ⟨t0,_,rfl,rfl,w6.heap.size,rfl,zi I.o.size ((j.o.t n.o).t (Fr.ofBelow u.o)).size,zy w6 _⟩⟩)
        have av:¬ (w1:Int)=4:=by omega
        have H4:=zh h4
        clear h4
        go_wp2_with (first|refine (ad.o _ _ data wd w1 au.o.at (Qj4 M.o A.o) m.1 E.1 E.2).m ?_;intro e w6 h6;obtain⟨D,a6,n6,c6,rfl⟩:=Zaz af.o h6;have u:=zh D;clear h6 D|fail)
        go_roundg (2-(kk+1))
        case measure=>omega
        case rel=>exact Qt3 Z.o (P.o.j u.o) M.o a4.o bd.o bb.o r.o aa.o H4.o m.2 (by omega) ((j.o.t n.o).t (Fr.ofBelow u.o)) (zg _) (by go_num)
       | some b=>
        have K:tryQ fits nm wd w1 sk=some b:=by unfold tryQ;rw[A.o];exact hfv
        have T:=Z.o.fit b K
        rw[<-r.o] at T
        have B:=zh T
        have af:=zh hfv
        clear K hfv T
        go_wp2_with (first|refine (ad.o _ _ data wd w1 au.o.at (Qj4 M.o A.o) m.1 E.1 E.2).m ?_;intro e w6 h6;obtain⟨D,a6,n6,c6,br,rfl⟩:=Zc5 af.o h6;obtain⟨u,a9,ba⟩:=zh3 D br (P.o.j D);clear h6 D br|go_at_call 193;refine (Qzg _ q x N _ d ba.o t0 a6 n6 c6 b (OwnB.new a9.o P.o.o) a7.o t a0).m ?_;rintro e w7⟨rfl,bw⟩;have cb:=zh bw;clear bw|fail)
        go_ret2
        rw[HQ.o,B.o]
        obtain⟨x7,h7,bj,cf⟩:=cb.o
        exact⟨Jl.t ((Fr.ofBelow I.o).t (((j.o.t n.o).t (Fr.ofBelow u.o)).weak λ_ _ e=>.inr (.inr e))) (Sub.refl _ _) ⟨x7,h7,bj,cf⟩,.inl ⟨_,_,_,_,rfl,rfl,Qtm (a9.o.m (zE _)) bj ba.o⟩⟩)
    subst bo;obtain⟨X,B⟩:=zh2 hQ T;clear hQ T HR;have be:wr.drew.cell? ⟨6,0,none⟩=some (.iface 370 (.pointer (some (f 5)))):=g5
    go_wp2_with fail
    go_region
    all_goals (
     go_wp2
     go_ret2
     have ab:Bz wr (wr.alloc (.cells #[.string t0,.iface 370 (.pointer (some (f 5)))] 221)).drew:=(Qa wr _).drew
     rw[HQ.o,B.o]
     exact⟨(Jl.t ((Fr.ofBelow I.o).t (j.o.weak λ_ _ e=>.inr (.inr e))) (Sub.refl _ _) (Jl.here X.o)).j ab,.inr ⟨t0,_,rfl,rfl,wr.heap.size,rfl,zi I.o.size j.o.size,zy wr _⟩⟩)
section
variable (f:Nat->Addr) (w:G) (q:Qf) (x:Qv) (N:Nat) (s:Cs) (d:Dk) (h:QIs w q x N s d) (hE:Qbj f (QS q x) w) (level:Int) (index count:Nat) (hi:4*index<count) (hc:count<9223372036854775808) (hft:s.net.fetches<1152921504606846000) (hlen:x.vs.length<1099511627775) (hsm:Qa8 s.net)
include h hE hi hc hft hlen hsm
theorem Q3w:Calls prog 146 #[.pointer (some ⟨q.gq,0,none⟩),.int .i64 level,.int .i64 index,.int .i64 count,.func (.func 182) #[] #[]] w (Qku f w q x N d (Qby Qat level index count s)):=
 Q0y Qat _ (zaj func182 (by kernel_rfl) rfl) (λW v data wd w1 hb hl _ _ _=>Zar W _ data wd w1 hb (by omega) (by omega) (by omega)) f w q x N s d h hE level index count hi hc hft hlen hsm
theorem Q93:Calls prog 146 #[.pointer (some ⟨q.gq,0,none⟩),.int .i64 level,.int .i64 index,.int .i64 count,.func (.func 147) #[] #[]] w (Qku f w q x N d (Qby Jg level index count s)):=
 Q0y Jg _ (zaj func147 (by kernel_rfl) rfl) (λW v data wd w1 hb hl _ _ _=>Q8k W _ data wd w1 hb hl (by omega) (by omega) (by omega)) f w q x N s d h hE level index count hi hc hft hlen hsm
end
end
section
variable [Inhabited OutT]
variable {w:G}
theorem Qld{P:Program}{q:Array Oper}{i:List Oper}{o:Oper}{a:Act}{Q:Exit->Act->G->Prop}(m:o.guard=none)(x y:Operand)(t ts:TypeId)(D:o.op=.call { callee:=.builtin .copy,args:=#[x,y],argTypes:=#[t,ts] })(e:TypeId)(E:P.underlying t=some (.slice e))(p:(P.info? e).map (·.size)=some 1)(g:Nat)(F:a.eval x=.slice (some ⟨g,0,none⟩) 8 8)(r:Y Addr)(n c:Nat)(l:Ud)(H:a.eval y=.slice r n c)(I:Q7 w (.slice r n c) l)(s:Qz w g Zb)(h:∀ k w',Qz w' g (Zi l)->Fr (·=g) w w'->w'.heap.size=w.heap.size->wpList P q Q i (a.put o.dst k) w'):wpList P q Q (o :: i) a w:=by
 have:=(inferInstance:Inhabited OutT)
 obtain⟨ad',c',hv,hc,d⟩:=I;simp only[ZN] at hv;obtain⟨rfl,rfl,rfl⟩:=hv;cases l with
 | nil=>
  refine wpList_copy_nothing m x y t ts D e E p (some ⟨g,0,none⟩) r 8 8 0 c F H rfl ?_;exact h _ w (by rw[show Zi []=Zb from rfl];exact s) (Fr.refl _ _) rfl
 | cons b l=>
  obtain⟨bk,off,rfl,_⟩:=d 0 (u8 b) (by simp);obtain⟨cs,f⟩:=zzx (((b :: l).take 8).map u8)
  have B:w.heap[g]?=some (.cells (h8 Zb) 143 (0,0)):=s;refine wpList_copy_own m x y t ts D e E p g 0 8 8 ⟨bk,off,none⟩ _ c F H (h8 Zb) 143 B cs (by rw[f,zA,zm,zbg]) (λj v hj=>?_) (by rw[f,zA,zm,h8_size];omega) (λv hv=>by
   rw[f] at hv
   obtain⟨z,_,rfl⟩:=zU.1 hv
   rfl) ?_
  .rw[f,vJ] at hj
   have C:=(zj.1 hj).1;rw[zm] at C;rw[zH (by omega)] at hj;obtain⟨bk',off',A,h1⟩:=d j v hj;cases A;rw[ZX];exact h1
  have u:((h8 Zb).toList.take 0++(cs++(h8 Zb).toList.drop (0+cs.length))).toArray=h8 (Zi (b :: l)):=by
   apply zb8;have hz:(h8 Zb).toList=List.replicate 8 (Value.int .u8 0):=by rw[Q44];rfl
   rw[<-Qrh,f,hz];simp[zbg];rw[show min (l.length+1) 8=min l.length 7+1 by omega];rfl
  rw[u];refine h _ _ (Q0 s _) ⟨rfl,rfl,rfl,by simp[World.setRow],λk hk hs=>VY w g k _ (λe=>hs e)⟩ (by simp[World.setRow])
variable {n c k:Nat} {l:Ud}
theorem Q5h{b a:Nat}(h:Q7 w (.slice (some ⟨b,a,none⟩) n c) l)(i:k<=l.length)(g:n=l.length)(f:n<=c):Q7 w (.slice (if c=k then some ⟨b,a,none⟩ else some ⟨b,a+k,none⟩) (n-k) (c-k)) (l.drop k):=by
 have:=(inferInstance:Inhabited OutT)
 by_cases e:c=k
 .rw[zD e]
  refine⟨some ⟨b,a,none⟩,c-k,by rw[zM,g],by rw[zM];omega,λj u hu=>?_⟩
  have:=(zj.1 hu).1
  rw[zA,zM] at this;omega
 rw[zw e];obtain⟨a0,c0,hv,f,hx⟩:=h;simp only[ZN] at hv;obtain⟨rfl,rfl,rfl⟩:=hv;refine⟨some ⟨b,a+k,none⟩,c-k,by rw[zM],by rw[zM];omega,λj u hu=>?_⟩;rw[Vl,ZU] at hu;obtain⟨b',off',d,h1⟩:=hx (k+j) u hu;cases d;exact⟨b,a+k,rfl,by rw[Xn];exact h1⟩
theorem Q00:(prog.info? 5).map (·.size)=some 1:=by have:=(inferInstance:Inhabited OutT);show _=_;kernel_rfl
theorem Q5w{a:Y Addr}(h:Q7 w (.slice a n c) l):n=l.length/\n<=c:=by
 have:=(inferInstance:Inhabited OutT)
 obtain⟨a0,c0,hv,hc,hx⟩:=h;simp only[ZN] at hv;obtain⟨rfl,rfl,rfl⟩:=hv;exact⟨rfl,hc⟩
variable {q:Qf} {x:Qv} {N:Nat} {s:Cs} {d:Dk}
theorem QIs.lt(h:QIs w q x N s d)(a:QS q x k):k<w.heap.size:=by
 rcases a with (e|e|e)|(e|e|e)|(e|e)
 .rw[e];exact Qb h.look
 .rw[e];exact h.km.lt
 .obtain⟨C,hC⟩:=Qk h.ord e
  exact Qb hC
 .obtain⟨l,r,h2⟩:=h.cache.ring.ends
  rw[e];exact Qb h2
 .rw[e];exact h.cache.km.lt
 .exact h.cache.ring.lt (by rw[Qc8];exact e)
 .rw[e];exact h.net.lt
 obtain⟨C,hC⟩:=Qk h.net.told e;exact Qb hC
variable {g:Nat}
theorem Qt5{k:Hsh}(h:Qz w g k):Qz w.drew g k:=have:=(inferInstance:Inhabited OutT);h
variable {S:Nat->Prop} {w':G}
theorem Qgd{k:Hsh}(h:Qz w g k)(a:Fr S w w')(b:¬ S g):Qz w' g k:=have:=(inferInstance:Inhabited OutT);a.heap h b
def qTs:List TypeId:=[263,9,5,205,253,251,126,47,3,116,132]
variable {ts:List TypeId}
theorem QIs.kept(h:QIs w q x N s d)(b:Fr S w w')(e:Qas w S ts)(a:∀ t∈qTs,t ∉ ts)(f:∀ k es c,w.heap[k]?=some (.map es c)->¬ S k):QIs w' q x N s d where
 look:=Ze h.look b e (a _ (by decide))
 km:=by obtain⟨es,c,hb⟩:=Qjn h.km;exact h.km.fr b (f _ _ _ hb)
 ord:=Zm h.ord b e (a _ (by decide))
 vals y hy:=Qes (h.vals y hy) b e (a _ (by decide))
 keys:=h.keys
 small:=h.small
 files:=h.files
 cli:=Ze h.cli b e (a _ (by decide))
 c2:=h.c2
 c13:=h.c13
 cache:=by obtain⟨es,c,hb⟩:=Qjn h.cache.km;exact Qfw h.cache b e (f _ _ _ hb) (a _ (by decide)) (a _ (by decide)) (a _ (by decide))
 net:=Jc h.net b e (a _ (by decide)) (a _ (by decide)) (a _ (by decide))
 disk:=h.disk.kept b e (a _ (by decide)) (a _ (by decide))
 dfiles:=h.dfiles
 maps:=h.maps
 o z hz:=zJ (h.o z hz) b.size
theorem Jl.own{a b c:G}{C:Array J}{t:TypeId}(h:Jl a q x N d b s)(f:Fr (·=g) b c)(j:b.heap[g]?=some (.cells C t (0,0)))(l:t ∉ qTs)(m:a.heap.size<=g):Jl a q x N d c s:=by obtain⟨y,h1,h2,h3⟩:=h;exact⟨y,h1.kept f (Q1 j) (λt' h' e=>l (by rw[zS] at e;rw[<-e];exact h')) (λk es c' hk e=>by subst e;rw[j] at hk;cases hk),h2.step f λi hi e=>by omega,h3⟩
theorem Qal(w:G)(g:Nat)(a:Array J):Fr (·=g) w (w.setRow g a):=have:=(inferInstance:Inhabited OutT);⟨rfl,rfl,rfl,by simp[World.setRow],λk _ hs=>VY w g k a (λe=>hs e)⟩
variable {f:Nat->Addr} {base:Nat} {p:O} {u:J}
theorem Jo.fr(h:Jo f w base p u)(b:Fr S w w')(a:Qas w S ts)(c:221 ∉ ts):Jo f w' base p u:=by
 have:=(inferInstance:Inhabited OutT)
 obtain⟨q,rfl,h1,h2⟩:=h;exact⟨q,rfl,h1,Ze h2 b a c⟩
theorem Jo.low{a:Nat}(h:Jo f w base p u)(b:a<=base):Jo f w a p u:=by
 have:=(inferInstance:Inhabited OutT)
 obtain⟨q,rfl,h1,h2⟩:=h;exact⟨q,rfl,zi b h1,h2⟩
def Qb6(f:Nat->Addr)(w:G)(q:Qf)(x:Qv)(N:Nat)(d:Dk)(r:Except QErr Hsh×Cs)(e:Ua)(w':G):Prop:=
 Jl w q x N d w' r.2/\((∃ h,r.1=.ok h/\e=.returned (.tuple #[.agg (h8 h),.nilIface]))∨∃ p u h,r.1=.error (.miss p)/\e=.returned (.tuple #[.agg (h8 h),u])/\Jo f w' w.heap.size p u)
theorem Q63(f:Nat->Addr)(w:G)(q:Qf)(x:Qv)(N:Nat)(s:Cs)(d:Dk)(h:QIs w q x N s d)(hE:Qbj f (QS q x) w)(g i:Nat)(az:g%2=0)(a0:g<=62)(hi:(i+1)*2 ^ g<=N)(hN:N<9223372036854775808)(av:s.net.fetches<1152921504606846000)(ak:x.vs.length<1099511627775)(ax:Qa8 s.net)(Z:(Qdg N g i s).1≠.error .panic):Calls prog 141 #[.pointer (some ⟨q.gq,0,none⟩),.int .i64 g,.int .i64 i] w (Qb6 f w q x N d (Qdg N g i s)):=by
 obtain⟨R,L⟩:=zzx (Qdg N g i s)
 rw[<-L] at Z ⊢;have ab:=zh L;clear L;have v:=Qa w (.cells zc 143);have W:=vR g;have P:i<N / 2 ^ g:=(vG W).2 hi;have ac:N / 2 ^ g<=N:=xm _ _;obtain⟨HF,HQ⟩:=zh2 (Q3w f _ q x N s d (h.j v) (hE.j v) ((g / 2:Nat):Int) (i / 4) (N / 2 ^ g) (by omega) (by omega) av ak ax) (h.j v);have l0:(0:Int)<=(g:Int):=by omega
 have l1:(g:Int)<=62:=by omega
 have i0:(0:Int)<=(i:Int):=by omega
 have i1:(i:Int)<9223372036854775807:=by omega
 have M:((g:Int)%2 == 1)=false:=by rw[zl];omega
 have k1:=HQ.o.heads.2.1;have af:q.gq<(w.alloc (.cells zc 143)).heap.size:=Qj k1;have h0:=h;clear h hE v W
 go_enter func141,ntmps141
 have ai:w.heap.size<(w.alloc (.cells zc 143)).heap.size:=by simp
 have aj:¬ QS q x w.heap.size:=λe=>V7 _ (h0.lt e)
 have e1:(g:Int) / 2=((g / 2:Nat):Int):=rfl;have e2:(i:Int) / 4=((i / 4:Nat):Int):=rfl;have e3:(N:Int) / 2 ^ g=((N / 2 ^ g:Nat):Int):=by simp
 obtain⟨y,an⟩:=zh2 (vB e1 (vB e2 e3)) aj;clear e1 e2 e3 aj h0
 go_wp2_with fail
 rw[y.o.1,y.o.2.1,y.o.2.2];refine HF.o.m ?_;intro e w1 h1;obtain⟨F,h1⟩:=h1;have l:Qz w1 w.heap.size Zb:=by obtain⟨_,_,au,_⟩:=F;exact Qgd (Qe rfl) au an.o
 obtain⟨r,hr⟩:=zzx (Qby Qat ((g / 2:Nat):Int) (i / 4) (N / 2 ^ g) s)
 rw[<-hr] at F h1;obtain⟨o,s1⟩:=r;obtain⟨ap,HR⟩:=zh2 F hr;clear F hr;have al:w.heap.size<=(w.alloc (.cells zc 143)).heap.size:=by simp
 have fin:∀ (wx:G) (k:Hsh),Fr (·=w.heap.size) w1 wx->Jl w q x N d (wx.setRow w.heap.size (h8 k)) s1:=λwx k hf=>
  (Jl.t (Fr.ofBelow (Qa w _)) (Sub.refl _ _) ap.o).own (hf.t (Qal wx w.heap.size (h8 k))) l (by decide) (zg _)
 have FIN:=zh fin;clear fin;rcases h1 with⟨b,a,n,c,rfl,rfl,U⟩|⟨p,u,rfl,rfl,ag⟩
 .have m:R=Qnr b (i%4) s1:=by rw[ab.o];unfold Qdg Qm.bind;rw[<-HR.o]
  rw[m] at Z;have V:¬ b.length<8*(i%4):=λhlt=>Z (by unfold Qnr;rw[zD hlt])
  have E:R=(.ok (Qsb b (i%4)),s1):=by rw[m];unfold Qnr;rw[zw V]
  clear m;obtain⟨ah,D⟩:=Q5w U.at;obtain⟨ao,HP⟩:=zh2 U E;obtain⟨kk,T⟩:=zzx (8*(i%4))
  have Q:IntKind.i64.wrap (8*(i:Int).tmod 4)=(kk:Int):=by rw[Xw i0,VT _ (by omega)];omega
  have B:kk<=n:=by omega
  have S:n<=c:=D;have aa:=zh T;rw[<-T] at V;clear Z V E T;rcases U with⟨hv,v⟩|⟨bk,off,c',C,fz,hv,_⟩
  .simp only[ZN] at hv
   obtain⟨rfl,rfl,rfl⟩:=hv;obtain rfl:kk=0:=by omega
   have ae:Q7 w1 (.slice none 0 0) (b.drop 0):=by rw[v];exact⟨none,0,rfl,zg _,λj u hu=>by simp at hu⟩
   have H:=zh ae;clear ae ah
   go_upto_region 10 with fail
   go_still_tail 6,(by kernel_rfl)
   change wpList _ _ _ _ _ w1.drew
   refine Qld rfl _ _ 147 147 rfl 5 underlying147 Q00 w.heap.size rfl _ _ _ _ rfl (H.o.j (Ql w1)) (Qt5 l) ?_;intro kx wx z A X;have I:=zh A;obtain⟨y8,t⟩:=zzx (Zi (b.drop 0))
   rw[<-t] at z;obtain⟨K,aq⟩:=zh2 t l;clear A X t l Q B S i0 i1 l0 l1 M k1 af ai D P ac
   go_wp2_with (first|((first|refine Qw rfl 143 _ rfl _ rfl _ underlying143 Zd ?_ ?_ ?_|refine Qr rfl 143 _ _ rfl _ _ rfl rfl Zd ?_ ?_ ?_);rotate_left;focus((repeat(first|(with_reducible first|assumption|exact Qg ⟨_,by assumption⟩ _)|((with_reducible first|refine Qe ?_|refine Q2 ?_|refine Qg (Q6 ?_) _);first|rfl|(simp<;>omega))|with_reducible refine Qp ?_ _|((with_reducible refine Qi ?_ _ ?_);rotate_left;focus first|(simp<;>omega)|omega)|with_reducible first|refine Qo ?_|refine Qh ?_ (by assumption)));done)))
   all_goals (
    refine Qf9 w.heap.size y8 .nilIface rfl rfl rfl _ underlying143 Zd (Q0 z _) rfl ?_
    rw[HP.o,K.o]
    exact⟨FIN.o wx _ ((Fr.ofBelow (Ql w1)).t I.o),.inl ⟨_,by unfold Qsb;rw[<-aa.o],rfl⟩⟩)
  simp only[ZN] at hv;obtain⟨rfl,rfl,rfl⟩:=hv;have ad:=Q5h ao.o.at (k:=kk) B rfl D;have H:=zh ad;clear ad ah
  go_upto_region 10 with fail
  go_still_tail 6,(by kernel_rfl)
  change wpList _ _ _ _ _ w1.drew
  refine Qld rfl _ _ 147 147 rfl 5 underlying147 Q00 w.heap.size rfl _ _ _ _ rfl (H.o.j (Ql w1)) (Qt5 l) ?_;intro kx wx z A X;have I:=zh A;obtain⟨y8,t⟩:=zzx (Zi (b.drop kk))
  rw[<-t] at z;obtain⟨K,aq⟩:=zh2 t l;clear A X t l Q B S i0 i1 l0 l1 M k1 af ai D P ac
  go_wp2_with (first|((first|refine Qw rfl 143 _ rfl _ rfl _ underlying143 Zd ?_ ?_ ?_|refine Qr rfl 143 _ _ rfl _ _ rfl rfl Zd ?_ ?_ ?_);rotate_left;focus((repeat(first|(with_reducible first|assumption|exact Qg ⟨_,by assumption⟩ _)|((with_reducible first|refine Qe ?_|refine Q2 ?_|refine Qg (Q6 ?_) _);first|rfl|(simp<;>omega))|with_reducible refine Qp ?_ _|((with_reducible refine Qi ?_ _ ?_);rotate_left;focus first|(simp<;>omega)|omega)|with_reducible first|refine Qo ?_|refine Qh ?_ (by assumption)));done)))
  all_goals (
   refine Qf9 w.heap.size y8 .nilIface rfl rfl rfl _ underlying143 Zd (Q0 z _) rfl ?_
   rw[HP.o,K.o,aa.o]
   exact⟨FIN.o wx _ ((Fr.ofBelow (Ql w1)).t I.o),.inl ⟨_,rfl,rfl⟩⟩)
 have am:=zh ag;obtain⟨q9,rfl,a1,aw⟩:=ag;clear aw
 go_wp2_with (first|((first|refine Qw rfl 143 _ rfl _ rfl _ underlying143 Zd ?_ ?_ ?_|refine Qr rfl 143 _ _ rfl _ _ rfl rfl Zd ?_ ?_ ?_);rotate_left;focus((repeat(first|(with_reducible first|assumption|exact Qg ⟨_,by assumption⟩ _)|((with_reducible first|refine Qe ?_|refine Q2 ?_|refine Qg (Q6 ?_) _);first|rfl|(simp<;>omega))|with_reducible refine Qp ?_ _|((with_reducible refine Qi ?_ _ ?_);rotate_left;focus first|(simp<;>omega)|omega)|with_reducible first|refine Qo ?_|refine Qh ?_ (by assumption)));done)))
 refine Qf9 w.heap.size Zb _ rfl rfl rfl _ underlying143 Zd (Q0 l _) rfl ?_;have m:R=(.error (.miss p),s1):=by rw[ab.o];unfold Qdg Qm.bind;rw[<-HR.o]
 rw[m];refine⟨FIN.o w1 _ (Fr.refl _ _),.inr ⟨p,_,Zb,rfl,rfl,?_⟩⟩;exact ((am.o.fr (Qal w1 w.heap.size _) (Q1 l) (by decide)).low al)
end
section
open Go.RowKit Go.MuLone
abbrev cliC(mu:Int)(vf:J)(key:O)(n:Int)(h:Hsh)(gk:Nat):Array J:=#[.int .i32 mu,.int .u32 0,vf,.string key,.int .i64 n,bv h[0],bv h[1],bv h[2],bv h[3],bv h[4],bv h[5],bv h[6],bv h[7],.pointer (some ⟨gk,0,none⟩)]
section
variable [Inhabited OutT]
structure ClM(mu:Int)(w:G)(gc gk mc:Nat)(vf:J)(c:Cl)(qs:List CEnt):Prop where
 cells:w.heap[gc]?=some (.cells (cliC mu vf c.key c.size c.root gk) 205 (0,0))
 cache:Yd w gk mc c.cache qs
abbrev ClIs(w:G)(gc gk mc:Nat)(vf:J)(c:Cl)(qs:List CEnt):Prop:=ClM 0 w gc gk mc vf c qs
def clS(gc gk mc:Nat)(qs:List CEnt)(k:Nat):Prop:=k=gc∨Yw gk mc qs k
section
variable {mu:Int} {w w':G} {gc gk mc:Nat} {vf:J} {c:Cl} {qs:List CEnt}
theorem ClM.j(h:ClM mu w gc gk mc vf c qs)(a:Bz w w'):ClM mu w' gc gk mc vf c qs:=
 ⟨(a.block _ (Qb h.cells)).t h.cells,h.cache.fr (S:=λ_=>False) (Fr.ofBelow a) (λ_ _=>id) (λ_ _ _ _=>id)⟩
theorem ClM.fr{S:Nat->Prop}(h:ClM mu w gc gk mc vf c qs)(a:Fr S w w')(b:∀ k,clS gc gk mc qs k->¬ S k)(d:Qc4 w S):ClM mu w' gc gk mc vf c qs:=
 ⟨a.heap h.cells (b _ (.inl rfl)),h.cache.fr a (λi hi=>b i (.inr hi)) d⟩
theorem ClM.lt(h:ClM mu w gc gk mc vf c qs):gc<w.heap.size:=Qb h.cells
theorem ClM.noBytes(h:ClM mu w gc gk mc vf c qs):Qc4 w (·=gc):=λk C fz hk e=>Zz hk h.cells (by decide) e
theorem ClM.apart(h:ClM mu w gc gk mc vf c qs):∀ k,Yw gk mc qs k->¬ k=gc:=λk hk e=>by
 rcases hk with e1|e1|e1
 .obtain⟨l,r,h2⟩:=h.cache.ring.ends
  rw[<-e1,e,h.cells] at h2;cases h2
 .obtain⟨D,⟨es,cl,hb,_⟩,_⟩:=h.cache.km.ex
  rw[<-e1,e,h.cells] at hb;cases hb
 obtain⟨k',v,_,l,r,h2⟩:=h.cache.ring.node (by rw[Qc8];exact e1)
 rw[e,h.cells] at h2;cases h2
theorem ClM.ltS(h:ClM mu w gc gk mc vf c qs){k:Nat}(a:clS gc gk mc qs k):k<w.heap.size:=by
 rcases a with rfl|rfl|rfl|a
 .exact h.lt
 .obtain⟨l,r,h2⟩:=h.cache.ring.ends
  exact Qb h2
 .exact h.cache.km.lt
 obtain⟨k',v,_,l,r,h2⟩:=h.cache.ring.node (by rw[Qc8];exact a);exact Qb h2
theorem ClM.turn(h:ClM mu w gc gk mc vf c qs)(a:Int):ClM a (w.setCell ⟨gc,0,none⟩ (.int .i32 a)) gc gk mc vf c qs:=
 ⟨(heap_setCell h.cells _).t (by simp),h.cache.fr (Fr.set1 w gc 0 _) (λi hi e=>h.apart i hi e) h.noBytes⟩
theorem Qo9(h:ClM 0 w gc gk mc vf c qs):Calls prog 134 #[.pointer (some ⟨gc,0,none⟩)] w λe w'=>e=.returned (.tuple #[])/\ClM 1 w' gc gk mc vf c qs/\Fr (·=gc) w w'/\w'.heap.size=w.heap.size:=
 (lock_free Zal ⟨gc,0,none⟩ w (Qd h.cells 0 rfl) (Qu h.cells 0)).mono λe w' hp=>by
  obtain⟨rfl,rfl⟩:=hp
  exact⟨rfl,h.turn 1,Fr.set1 w gc 0 _,by simp⟩
theorem Q6p(u:FrameMode)(h:ClM 1 w gc gk mc vf c qs):CallsD prog 135 #[.pointer (some ⟨gc,0,none⟩)] u w λe u' w'=>u'=u/\e=.returned (.tuple #[])/\ClM 0 w' gc gk mc vf c qs/\Fr (·=gc) w w':=
 (unlock_deferred Zal ⟨gc,0,none⟩ u w (Qd h.cells 0 rfl) (Qu h.cells 0)).mono λe u' w' hp=>by
  obtain⟨rfl,rfl,rfl⟩:=hp
  exact⟨rfl,rfl,h.turn 0,Fr.set1 w gc 0 _⟩
end
theorem Zbz(w:G):Calls prog 129 #[.slice none 0 0] w λe w'=>e=.returned (.agg #[bv (hash [])[0],bv (hash [])[1],bv (hash [])[2],bv (hash [])[3],bv (hash [])[4],bv (hash [])[5],bv (hash [])[6],bv (hash [])[7]])/\Bz w w':=by
 have:=(inferInstance:Inhabited OutT)
 have h:=Qmv (.slice none 0 0) [] w ⟨[],rfl,⟨none,0,rfl,zg _,λj u h=>by cases h⟩,λj u l h1 h2=>by cases h1⟩ (by simp) (λl hl=>by cases hl);rw[Qg5] at h;exact h
theorem Qt0(w:G)(d:J)(m:d=.nilIface∨∃ a,d=.iface 48 (.pointer (some a)))(key:O)(i:Int)(p:i<=9223372036854775807):Calls prog 82 #[d,.string key,.int .i64 i] w λe w'=>∃ gc gk mc,e=.returned (.pointer (some ⟨gc,0,none⟩))/\ClIs w' gc gk mc d ⟨key,0,(hash []),⟨i.toNat,[]⟩⟩ []/\Bz w w'/\w.heap.size<=gc/\w.heap.size<=gk/\w.heap.size<=mc:=by
 rcases m with rfl|⟨a,rfl⟩
 all_goals
  go_enter func82,ntmps82
  go_wp2_with (first|go_at_call 129;refine (Zbz w).mono ?_;rintro e w1⟨rfl,f⟩;have b:=zh f;clear f|go_at_call 130;refine (Zai w1 i p).mono ?_;rintro e w2⟨gk,mc,rfl,h,g,k,l⟩;obtain⟨j,c⟩:=zh2 h g;clear h g|fail)
  refine zI (xX rfl _ _ _) rfl ⟨w2.heap.size,gk,mc,rfl,⟨zy w2 _,?_⟩,?_,?_,?_,?_⟩
  .exact j.o.fr (S:=λ_=>False) (Fr.ofBelow (Qa w2 _)) (λ_ _=>id) (λ_ _ _ _=>id)
  .have n:=b.o.size
   have q:=c.o.size;exact (b.o.t (c.o.mono n)).alloc (by omega) _
  .exact zi b.o.size c.o.size
  .exact zi b.o.size k
  exact zi b.o.size l
theorem Qv5(w:G)(b gk n:Nat)(q:J)(c:Cl)(p:List CEnt)(h:ClIs w b gk n q c p):Calls prog 91 #[.pointer (some ⟨b,0,none⟩)] w λe w'=>e=.returned (trV c.size c.root)/\ClIs w' b gk n q c p/\Fr (·=b) w w':=by
 have m:=h.lt;obtain⟨W0,a⟩:=zzx (w.alloc (.cells (trC 0 Zb) 145))
 have T0:Qcl W0 w.heap.size 0 Zb:=by rw[a];exact zy w _
 have b0:Bz w W0:=by rw[a];exact Qa w _
 obtain⟨H,H0,HT,HB,HW⟩:=zh5 (h.j b0) h T0 b0 a;clear h a T0 b0
 go_enter_defers func91,ntmps91
 go_upto_region 1 with fail
 rw[show w.alloc (.cells #[.int .i64 0,.int .u8 0,.int .u8 0,.int .u8 0,.int .u8 0,.int .u8 0,.int .u8 0,.int .u8 0,.int .u8 0] 145)=W0 from HW.o.symm]
 go_wp2_with (first|go_at_call 134;refine (Qo9 H.o).mono ?_;rintro e w1⟨rfl,h1,g,A⟩;obtain⟨H1,r⟩:=zh2 h1 g;have d4:=Qd h1.cells 4 rfl;have d5:=Qd h1.cells 5 rfl;have d6:=Qd h1.cells 6 rfl;have d7:=Qd h1.cells 7 rfl;have d8:=Qd h1.cells 8 rfl;have d9:=Qd h1.cells 9 rfl;have v:=Qd h1.cells 10 rfl;have y:=Qd h1.cells 11 rfl;have z:=Qd h1.cells 12 rfl;have u:=h1.lt;have T1:Qcl w1 w.heap.size 0 Zb:=g.heap HT.o (Nat.ne_of_gt m);have d:=zh T1;clear h1 g T1|refine Z8 rfl _ _ rfl _ c.size c.root rfl rfl _ _ d.o ?_|fail)
 have s:Qcl (w1.setRow w.heap.size (trC c.size c.root)) w.heap.size c.size c.root:=d.o.set _ _;have j:Fr (·=w.heap.size) w1 (w1.setRow w.heap.size (trC c.size c.root)):=Qal w1 w.heap.size _;have h2:ClM 1 (w1.setRow w.heap.size (trC c.size c.root)) b gk n q c p:=H1.o.fr j (λk hk e=>by
  have:=H0.o.ltS hk
  have e:k=w.heap.size:=e
  omega) (λk C fz hk e=>Zz hk d.o (by decide) e)
 refine XV (f:=135) (args:=#[.pointer (some ⟨b,0,none⟩)]) (by simp) (by simp[go_sem]) ?_;refine (Q6p .returning h2).mono ?_;rintro e u' w3⟨rfl,rfl,h3,l⟩;simp only[Leaves,settle];have t:Qcl w3 w.heap.size c.size c.root:=l.heap s (Nat.ne_of_gt m);have hl:=xM (P:=prog) w3 w.heap.size _ 145 (trC c.size c.root) _ _ t underlying145 rfl (by rw[Q9i];rfl);refine⟨trV c.size c.root,?_,rfl,h3,?_⟩
 .simp[results,results91,go_sem,asAddr,hl] at *
  try exact hl
 refine (((Fr.ofBelow HB.o).t r.o).step j λi hi e=>?_).t l;have e:i=w.heap.size:=e;omega
end
end
structure Cost(k:Nat)(s s':Cs):Prop where
 files:s'.files.length<=s.files.length+k
 fetches:s'.net.fetches<=s.net.fetches+2*k
 items:s'.cache.items.length<=s.cache.items.length
theorem Cost.refl(s:Cs):Cost 0 s s:=⟨zg _,zg _,zg _⟩
variable {j k:Nat} {a b:Cs}
theorem Cost.t{c:Cs}(h:Cost j a b)(i:Cost k b c):Cost (j+k) a c:=
 ⟨by have:=h.files;have:=i.files;omega,by have:=h.fetches;have:=i.fetches;omega,zi i.items h.items⟩
theorem Cost.more(h:Cost j a b)(c:j<=k):Cost k a b:=
 ⟨by have:=h.files;omega,by have:=h.fetches;omega,h.items⟩
def Qhb{α:Type}(m:Qm α)(k:Nat):Prop:=∀ s,Cost k s (m s).2
variable {α:Type}
theorem Qhb.pure(a:α):Qhb (Qm.pure a) 0:=λs=>Cost.refl s
theorem Qhb.bind{β:Type}{m:Qm α}{f:α->Qm β}(h:Qhb m j)(g:∀ a,Qhb (f a) k):Qhb (Qm.bind m f) (j+k):=λs=>by
 have h1:=h s
 unfold Qm.bind
 cases hm:m s with
 | mk o s1=>
  rw[hm] at h1
  cases o with
  | ok a=>exact h1.t (g a s1)
  | error e=>exact h1.more (xA _ _)
theorem Q75(l:List Kv)(p:O)(v:Ud)(h:Yj l p=some v):(Ju l p).length+1<=l.length:=by
 have hm:=Qif h
 have:∀ (l:List Kv) (x:Kv),x∈l->x.1=p->(Ju l p).length+1<=l.length:=by
  intro l x hx he
  induction l with
  | nil=>cases hx
  | cons a l ih=>
   unfold Ju at ih ⊢;rw[List.filter_cons];by_cases ha:a.1=p
   .rw[zw (by simp[ha]),zx]
    exact Nat.succ_le_succ (xn _ _)
   rw[zD (by simp[ha]),zx,zx];rcases ZH.1 hx with h1|h1
   .rw[h1] at he;exact absurd he ha
   exact Nat.succ_le_succ (ih h1)
 exact this l _ hm rfl
theorem Qsh(c:Cch)(p:O):(Yz c p).items.length<=c.items.length:=by
 unfold Yz
 split
 .rename_i v hv
  have:=Q75 _ _ _ hv
  simp only[zx];exact this
 exact zg _
theorem Qeq(q:O)(s:Cs):(Zk q s).net.fetches=s.net.fetches+1:=(Yc s.net q).2.2
theorem Qjt(fits:Qj1)(c:Int)(b a:Nat):Qhb (Qby fits c b a) 1:=λs=>by
 unfold Qby
 split
 .exact (Cost.refl s).more (by decide)
 split
 .exact⟨by simp[Qjc],xA _ _,Qsh _ _⟩
 unfold Qdt
 have h1:∀ q,(Zk q s).net.fetches=s.net.fetches+1:=λq=>Qeq q s
 have h2:∀ q q',(Zk q' (Zk q s)).net.fetches=s.net.fetches+1+1:=λq q'=>by rw[Qeq,Qeq]
 split
 .exact⟨by simp[Qjc,Zk],by show (Zk _ s).net.fetches<=_;rw[h1];omega,zg _⟩
 split
 .exact⟨by simp[Zk],by rw[h1];omega,zg _⟩
 split
 .exact⟨by simp[Qjc,Zk],by show (Zk _ (Zk _ s)).net.fetches<=_;rw[h2];omega,zg _⟩
 exact⟨by simp[Zk],by rw[h2];omega,zg _⟩
theorem Qx3(b:Ud)(k:Nat):Qhb (Qnr b k) 0:=λs=>by
 unfold Qnr
 split <;> exact Cost.refl s
theorem Qgz(n c a:Nat):Qhb (Qdg n c a) 1:=(Qjt _ _ _ _).bind (k:=0) λb=>Qx3 b _
theorem Qxg(n d c:Nat):Qhb (Qe2 n d c) (Qih n d c).length:=by
 unfold Qe2 Qih
 split
 .exact (Qgz _ _ _).bind (k:=1) λa=>(Qgz _ _ _).bind (k:=0) λb=>Qhb.pure _
 exact Qgz _ _ _
theorem Qen(N:Nat):∀ (f i n:Nat),Qhb (rootQ N f i n) (Qa4 N f i n).length
 | 0,_,_=>λs=>Cost.refl s
 | f+1,i,n=>by
  rw[rootQ,Qa4]
  split
  .exact Qxg _ _ _
  rw[zn]
  exact (Qen N f _ _).bind λa=>(Qen N f _ _).bind (k:=0) λb=>Qhb.pure _
theorem Qee(N:Nat):∀ rs,Qhb (Zp N rs) (Z0 N rs).length
 | []=>λs=>Cost.refl s
 | x :: xs=>by
  rw[Zp]
  have e:(Z0 N (x :: xs)).length=(Qa4 N (x.2-x.1) x.1 (x.2-x.1)).length+(Z0 N xs).length:=by simp[Z0]
  rw[e]
  exact (Qen N _ _ _).bind λa=>(Qee N xs).bind (k:=0) λb=>Qhb.pure _
theorem Qpr(N i:Nat):Qhb (Qcy N i) (readT N i).length:=by
 unfold Qcy readT;rw[zx,zah];refine (Qjt _ _ _ _).bind λb=>?_
 split
 .exact λs=>(Cost.refl s).more (zE _)
 exact (Qee N _).bind (k:=0) λp=>Qhb.pure _
theorem Qos(n b a:Nat):(Qih n b a).length<=2:=by
 unfold Qih
 split <;> simp[Qk4]
theorem Qo3(N:Nat):∀ (f i n:Nat),1<=n->(Qa4 N f i n).length<=2*n
 | 0,_,_,_=>by simp[Qa4]
 | f+1,i,n,h=>by
  rw[Qa4]
  split
  .have:=Qos N (Lib.bitLen n-1) (i / n)
   omega
  rename_i hn
  have h2:2<=n:=by
   rcases zK n 2 with b|a
   .obtain rfl:n=1:=by omega
    exact absurd ⟨by decide,Vv i⟩ hn
   exact a
  have hb:=Yh h2
  have h3:=Qo3 N f i (below n) (by omega)
  have h4:=Qo3 N f (i+below n) (n-below n) (by omega)
  rw[zn]
  omega
theorem Qps(N K:Nat):∀ rs:List (Nat×Nat),(∀ x∈rs,x.1<x.2/\x.2<=K)->(Z0 N rs).length<=rs.length*(2*K)
 | [],_=>by simp[Z0]
 | x :: xs,h=>by
  have h1:=h x ZE
  have h2:=Qps N K xs λy hy=>h y (zX _ hy)
  have h3:=Qo3 N (x.2-x.1) x.1 (x.2-x.1) (by omega)
  have e:(Z0 N (x :: xs)).length=(Qa4 N (x.2-x.1) x.1 (x.2-x.1)).length+(Z0 N xs).length:=by simp[Z0]
  rw[e,zx,vC]
  omega
theorem Zct(c:Cch)(p:O)(v:Ud):(Yg c p v).items.length<=c.items.length+1:=by
 unfold Yg
 split
 .omega
 split
 .simp only[zx]
  have:(Ju c.items p).length<=c.items.length:=xn _ _
  omega
 split
 .simp only[zx,Xm]
  omega
 simp
theorem Qh9:∀ (xs:List Kv) (c:Cch),(Zl c xs).items.length<=c.items.length+xs.length
 | [],c=>zg _
 | x :: xs,c=>by
  have h1:=Qh9 xs (Yg c x.1 x.2)
  have h2:=Zct c x.1 x.2
  rw[Zl,zx]
  omega
theorem Qi4{n m:Nat}(c:2<=n)(f:n<=2 ^ m)(g:m<=63):∃ m2,m=m2+1/\below n<=2 ^ m2/\n-below n<=2 ^ m2:=by
 have p:m≠0:=λe=>by subst e;simp at f;omega
 obtain⟨m2,rfl⟩:∃ m2,m=m2+1:=⟨m-1,by omega⟩
 have i:(2:Nat) ^ (m2+1)<=2 ^ 63:=ZI (by decide) g;have hp:2 ^ (m2+1)=2*2 ^ m2:=by rw[ZD];omega
 rcases zK n 9223372036854775808 with d|l
 .obtain⟨e,he,j,h4,h5⟩:=Q3c c d
  have hb:below n=2 ^ e:=by unfold below;rw[he];rfl
  have k:e<m2+1:=(VL (a:=2) (by decide)).1 (zJ h4 f);have o:2 ^ e<=2 ^ m2:=ZI (by decide) (by omega);exact⟨m2,rfl,by omega,by omega⟩
 have he:n=2 ^ 63:=by omega
 have b:m2=62:=by
  rcases zK m2 62 with h|h
  .have:(2:Nat) ^ (m2+1)<=2 ^ 62:=ZI (by decide) (by omega)
   omega
  omega
 subst b;have hb:=Yh c;refine⟨62,rfl,?_,?_⟩
 .subst he
  decide
 subst he;decide
theorem Qle:∀ (f mm a b i:Nat),b-a<=2 ^ mm->mm<=63->(Y7 f a b i).length<=mm
 | 0,_,_,_,_,_,_=>zE _
 | f+1,mm,a,b,i,h,hm=>by
  unfold Y7
  by_cases h1:b-a<=1
  .rw[zD h1];exact zE _
  rw[zw h1]
  obtain⟨m2,rfl,h2,h3⟩:=Qi4 (n:=b-a) (by omega) h hm
  split
  .have:=Qle f m2 a (a+below (b-a)) i (by rw[xS];exact h2) (by omega)
   rw[zx];omega
  have:=Qle f m2 (a+below (b-a)) b i (by rw[<-Nat.sub_sub];exact h3) (by omega)
  rw[zx];omega
theorem Qko:∀ (f mm a b m:Nat),b-a<=2 ^ mm->mm<=63->a<m->(Js f a b m).length<=mm+1
 | 0,_,_,_,_,_,_,_=>zE _
 | f+1,mm,a,b,m,h,hm,ha=>by
  unfold Js
  by_cases h1:b<=m
  .rw[zD h1];split <;> simp
  rw[zw h1]
  obtain⟨m2,rfl,h3,h4⟩:=Qi4 (n:=b-a) (by omega) h hm
  split
  .have:=Qko f m2 a (a+below (b-a)) m (by rw[xS];exact h3) (by omega) ha
   rw[zx];omega
  have:=Qko f m2 (a+below (b-a)) b m (by rw[<-Nat.sub_sub];exact h4) (by omega) (by omega)
  rw[zx];omega
theorem Qju(N:Nat):∀ (rs:List (Nat×Nat)) (s s':Cs) (l:List Hsh),Zp N rs s=(.ok l,s')->l.length=rs.length
 | [],s,s',l,h=>by
  simp only[Zp,Qm.pure,V6,Except.ok.injEq] at h
  rw[<-h.1];rfl
 | x :: xs,s,s',l,h=>by
  unfold Zp Qm.bind at h
  cases hr:rootQ N (x.2-x.1) x.1 (x.2-x.1) s with
  | mk o s1=>
   rw[hr] at h
   cases o with
   | error e=>simp at h
   | ok a=>
    dsimp only at h
    cases hg:Zp N xs s1 with
    | mk o2 s2=>
     rw[hg] at h
     cases o2 with
     | error e=>simp at h
     | ok l2=>
      simp only[Qm.pure,V6,Except.ok.injEq] at h
      rw[<-h.1,zx,zx,Qju N xs s1 s2 l2 hg]
theorem Qjx{N i:Nat}(b:N<=8192)(a:i<N):(readT N i).length<=220000:=by
 have h1:=Qle N 13 0 N i (by omega) (by decide);have h2:=Qps N N (Y7 N 0 N i).reverse λx hx=>by
  have:=Qeh N 0 N i (by omega) (by omega) a x (VA.1 hx)
  omega
 rw[xG] at h2;have h3:(Y7 N 0 N i).length*(2*N)<=13*(2*8192):=Nat.mul_le_mul h1 (by omega);unfold readT;rw[zx];omega
section
variable [Inhabited OutT]
structure Bnd(s:Cs)(k:Nat):Prop where
 fetches:s.net.fetches+2*k<1152921504606840000
 files:s.files.length+k<1099511627000
 small:Qa8 s.net
variable {j k:Nat} {s:Cs}
theorem Bnd.next{α:Type}{m:Qm α}(h:Bnd s (j+k))(a:Qhb m j)(b:Qcm s.net (m s).2.net):Bnd (m s).2 k:=by
 have:=(inferInstance:Inhabited OutT)
 have h1:=(a s).fetches;have h2:=(a s).files
 have:=h.fetches
 have:=h.files
 exact⟨by omega,by omega,by unfold Qa8;rw[b.1,b.2];exact h.small⟩
theorem Bnd.less(h:Bnd s k)(a:j<=k):Bnd s j:=have:=(inferInstance:Inhabited OutT);⟨by have:=h.fetches;omega,by have:=h.files;omega,h.small⟩
variable {w:G} {q:Qf} {x:Qv} {N:Nat} {d:Dk}
theorem QIs.vsLen(h:QIs w q x N s d):x.vs.length=s.files.length:=by rw[h.files,zA]
theorem Jl.env{w':G}{f:Nat->Addr}(h:Jl w q x N d w' s)(a:Qbj f (QS q x) w):∃ y,QIs w' q y N s d/\Qbj f (QS q y) w'/\Fr (QS q x) w w'/\Sub w (QS q x) (QS q y):=by obtain⟨y,h1,h2,h3⟩:=h;exact⟨y,h1,a.step h2 h3,h2,h3⟩
theorem Qmt(f:Nat->Addr)(w:G)(q:Qf)(x:Qv)(N:Nat)(s:Cs)(d:Dk)(h:QIs w q x N s d)(i:Qbj f (QS q x) w)(a b:Nat)(e:a%2=0)(g:a<=62)(k:(b+1)*2 ^ a<=N)(j:N<9223372036854775808)(c:Bnd s 1)(l:(Qdg N a b s).1≠.error .panic):Calls prog 141 #[.pointer (some ⟨q.gq,0,none⟩),.int .i64 a,.int .i64 b] w (Qb6 f w q x N d (Qdg N a b s)):=
 Q63 f w q x N s d h i a b e g k j (by have:=c.fetches;omega) (by have:=c.files;rw[h.vsLen];omega) c.small l
theorem Q8i(f:Nat->Addr)(w:G)(q:Qf)(x:Qv)(N:Nat)(s:Cs)(d:Dk)(h:QIs w q x N s d)(hE:Qbj f (QS q x) w)(c a:Nat)(bi:c%2=1)(br:c<=62)(hi:(a+1)*2 ^ c<=N)(hN:N<9223372036854775808)(hb:Bnd s 2)(hp:(Qe2 N c a s).1≠.error .panic):Calls prog 141 #[.pointer (some ⟨q.gq,0,none⟩),.int .i64 c,.int .i64 a] w (Qb6 f w q x N d (Qe2 N c a s)):=by
 obtain⟨R,i⟩:=zzx (Qe2 N c a s)
 rw[<-i] at hp ⊢;unfold Qe2 at i;rw[zD bi] at i;unfold Qm.bind at i;obtain⟨lv,ac⟩:∃ lv,c=lv+1:=⟨c-1,by omega⟩
 rw[show c-1=lv by omega] at i;have ah:2 ^ c=2*2 ^ lv:=by rw[ac,ZD];omega
 have ag:=vR lv;have bg:(2*a+1)*2 ^ lv<=N:=by refine zi ?_ hi;rw[ah,<-Vk];exact ZA _ (by omega)
 have bh:(2*a+1+1)*2 ^ lv<=N:=by refine zi ?_ hi;rw[ah,<-Vk];exact ZA _ (by omega)
 have bq:a+1<=N:=zi (Vq _ (vR _)) hi;have I:=Qa w (.cells zc 143);have a0:(Qdg N lv (2*a) s).1≠.error .panic:=λe=>by
  apply hp;rw[i];cases hq:Qdg N lv (2*a) s with
  | mk o s1=>
   rw[hq] at e;dsimp only at e;subst e;rfl
 have M:=zh (Qmt f _ q x N s d (h.j I) (hE.j I) lv (2*a) (by omega) (by omega) bg hN (hb.less (by decide)) a0);have ai:Bnd (Qdg N lv (2*a) s).2 1:=hb.next (j:=1) (Qgz N lv (2*a)) (Qis (Qc7 s.net) N lv (2*a) s (Qcm.refl _));obtain⟨r1,ak⟩:=zzx (Qdg N lv (2*a) s)
 rw[<-ak] at M ai;rw[<-ak] at i;have l0:(0:Int)<=(lv:Int):=by omega
 have l1:(lv:Int)<=62:=by omega
 have i0:(0:Int)<=(a:Int):=by omega
 have i1:2*(a:Int)+1<9223372036854775807:=by
  have:2*a+1+1<=(2*a+1+1)*2 ^ lv:=Vq _ ag
  omega
 have bm:((c:Int)%2 == 1)=true:=by rw[zba];omega
 have l2:(0:Int)<=(c:Int):=by omega
 have l3:(c:Int)<=62:=by omega
 have e1:(c:Int)-1=(lv:Int):=by omega
 have e2:2*(a:Int)=((2*a:Nat):Int):=by omega
 have e3:2*(a:Int)+1=((2*a+1:Nat):Int):=by omega
 have ad:lv%2=0:=by omega
 have ae:lv<=62:=by omega
 obtain⟨aq,C,H,HE,D,HP⟩:=zh6 (vB ad ae) (vB e1 (vB e2 e3)) h (hE.j I) i hp;have bp:q.gq<w.heap.size:=Qb h.look;have az:¬ QS q x w.heap.size:=λe=>V7 _ (h.lt e)
 have ar:=zh az;clear h hE i I ak a0 ah ag hp az ac ad ae e1 e2 e3 l0 l1
 go_enter func141,ntmps141
 go_wp2_with fail
 rw[C.o.1,C.o.2.1];refine M.o.m ?_;intro e w1 h1;obtain⟨K,h1⟩:=h1;have am:w.heap.size<=(w.alloc (.cells zc 143)).heap.size:=by simp
 have ap:(w.alloc (.cells zc 143)).heap.size=w.heap.size+1:=by simp
 have bo:w.heap.size<w1.heap.size:=by
  obtain⟨_,_,hf,_⟩:=K
  have:=hf.size
  simp at this;omega
 have an:Qz w1 w.heap.size Zb:=by obtain⟨_,_,hf,_⟩:=K;exact Qgd (Qe rfl) hf ar.o
 obtain⟨x1,z,aw,ax,n⟩:=K.env HE.o;have W:Fr (QS q x) w w1:=(Fr.ofBelow (Qa w _)).t ax;have F:Sub w (QS q x) (QS q x1):=n.m am;obtain⟨Q,E,a4,U,a9,a8⟩:=zh6 W F (show ¬ QS q x1 w.heap.size from λe=>(n _ e).elim (λe=>ar.o e) (λhle=>by rw[ap] at hle;omega)) z aw ai;have bl:q.gq<w1.heap.size:=Qb z.look;clear K z aw ax n W F ai M HE;obtain⟨o1,s1⟩:=r1;rcases h1 with⟨ha,hr,rfl⟩|⟨p,u,hh,hr,rfl,v⟩
 .try dsimp only at hr
  subst hr;obtain⟨W2,r⟩:=zzx ((w1.alloc (.cells zc 143)).setRow w1.heap.size (h8 ha))
  have l:Bz w1 W2:=by rw[r];exact zC (Qa w1 _) (zg _) _
  have k1:Qz W2 w1.heap.size ha:=by rw[r];exact Q0 (Qe rfl) _
  have k0:Qz W2 w.heap.size Zb:=Qh an l;have kz:w1.heap.size<W2.heap.size:=by rw[r];simp
  have a2:(Qdg N lv (2*a+1) s1).1≠.error .panic:=λe=>by
   apply HP.o;rw[D.o];dsimp only;cases hq:Qdg N lv (2*a+1) s1 with
   | mk o s2=>
    rw[hq] at e;dsimp only at e;subst e;rfl
  obtain⟨ba,B,K1,K0,bc⟩:=zh5 (Qmt f W2 q x1 N s1 d (U.o.j l) (a9.o.j l) lv (2*a+1) aq.o.1 aq.o.2 bh hN a8.o a2) l k1 k0 r;have a1:Qz ((w1.alloc (.cells zc 143)).setRow w1.heap.size (h8 ha)) w1.heap.size ha:=Q0 (Qe rfl) _;clear l k1 k0 a2 an r
  go_wp2_with (first|((first|refine Qw rfl 143 _ rfl _ rfl _ underlying143 Zd ?_ ?_ ?_|refine Qr rfl 143 _ _ rfl _ _ rfl rfl Zd ?_ ?_ ?_);rotate_left;focus((repeat(first|(with_reducible first|assumption|exact Qg ⟨_,by assumption⟩ _)|((with_reducible first|refine Qe ?_|refine Q2 ?_|refine Qg (Q6 ?_) _);first|rfl|(simp<;>omega))|with_reducible refine Qp ?_ _|((with_reducible refine Qi ?_ _ ?_);rotate_left;focus first|(simp<;>omega)|omega)|with_reducible first|refine Qo ?_|refine Qh ?_ (by assumption)));done)))
  rw[C.o.1,C.o.2.2,<-bc.o];clear a1;refine ba.o.m ?_;intro e w2 h2;obtain⟨bk,h2⟩:=h2;have ay:¬ QS q x1 w1.heap.size:=λe=>V7 _ (U.o.lt e)
  obtain⟨x2,aj,t,L⟩:=bk;have av:Qz w2 w1.heap.size ha:=Qgd K1.o t ay;have X:Qz w2 w.heap.size Zb:=Qgd K0.o t a4.o;have A:Jl w q x N d w2 (Qdg N lv (2*a+1) s1).2:=Jl.t (b:=W2) (y:=x1) (Q.o.t (Fr.ofBelow B.o)) E.o ⟨x2,aj,t,L⟩;have bn:w1.heap.size<w2.heap.size:=zJ kz t.size;obtain⟨r2,al⟩:=zzx (Qdg N lv (2*a+1) s1)
  rw[<-al] at h2 A;obtain⟨au,a5⟩:=zh2 al A;clear aj t L A al ay;obtain⟨o2,s2⟩:=r2;have aa:∀ (k bb:Hsh) (w3:G),Below w2.heap.size ((w2.alloc (.cells zc 143)).setRow w2.heap.size (h8 bb)) w3->Jl w q x N d (w3.setRow w.heap.size (h8 k)) s2/\Qz w3 w.heap.size Zb/\Bz w2 w3:=λk bb w3 hb3=>by have bf:Bz w2 ((w2.alloc (.cells zc 143)).setRow w2.heap.size (h8 bb)):=zC (Qa w2 _) (zg _) _;have Z:=bf.t hb3;have a3:=Qh X Z;exact⟨(a5.o.j Z).own (Qal w3 w.heap.size _) a3 (by decide) (zg _),a3,Z⟩
  have P:=zh aa;clear aa;rcases h2 with⟨g,hr,rfl⟩|⟨p,u,g,hr,rfl,v⟩
  .try dsimp only at hr
   subst hr;have q1:Qz ((w2.alloc (.cells zc 143)).setRow w2.heap.size (h8 g)) w1.heap.size ha:=Qi (Qp av _) _ (by omega);have q2:Qz ((w2.alloc (.cells zc 143)).setRow w2.heap.size (h8 g)) w2.heap.size g:=Q0 (Qe rfl) _;have q3:Qz ((w2.alloc (.cells zc 143)).setRow w2.heap.size (h8 g)) w.heap.size Zb:=Qi (Qp X _) _ (by omega)
   go_wp2_with (first|((first|refine Qw rfl 143 _ rfl _ rfl _ underlying143 Zd ?_ ?_ ?_|refine Qr rfl 143 _ _ rfl _ _ rfl rfl Zd ?_ ?_ ?_);rotate_left;focus((repeat(first|(with_reducible first|assumption|exact Qg ⟨_,by assumption⟩ _)|((with_reducible first|refine Qe ?_|refine Q2 ?_|refine Qg (Q6 ?_) _);first|rfl|(simp<;>omega))|with_reducible refine Qp ?_ _|((with_reducible refine Qi ?_ _ ?_);rotate_left;focus first|(simp<;>omega)|omega)|with_reducible first|refine Qo ?_|refine Qh ?_ (by assumption)));done)))
   refine (Qcv ha g _).m ?_;rintro e w3⟨rfl,m⟩;have r1:=Qh q3 m;have V:=zh (m.m (show w2.heap.size<=((w2.alloc (.cells zc 143)).setRow w2.heap.size (h8 g)).heap.size by simp));clear q1 q2 q3 m
   go_wp2_with (first|((first|refine Qw rfl 143 _ rfl _ rfl _ underlying143 Zd ?_ ?_ ?_|refine Qr rfl 143 _ _ rfl _ _ rfl rfl Zd ?_ ?_ ?_);rotate_left;focus((repeat(first|(with_reducible first|assumption|exact Qg ⟨_,by assumption⟩ _)|((with_reducible first|refine Qe ?_|refine Q2 ?_|refine Qg (Q6 ?_) _);first|rfl|(simp<;>omega))|with_reducible refine Qp ?_ _|((with_reducible refine Qi ?_ _ ?_);rotate_left;focus first|(simp<;>omega)|omega)|with_reducible first|refine Qo ?_|refine Qh ?_ (by assumption)));done)))
   refine Qf9 w.heap.size (Z9 ha g) .nilIface rfl rfl rfl _ underlying143 Zd (Q0 r1 _) rfl ?_;rw[D.o,<-au.o];exact⟨(P.o _ g w3 V.o).1,.inl ⟨_,rfl,rfl⟩⟩
  try dsimp only at hr
  subst hr;have T:=zh v;obtain⟨q9,rfl,bj,ab⟩:=v;clear ab;have q1:Qz ((w2.alloc (.cells zc 143)).setRow w2.heap.size (h8 g)) w1.heap.size ha:=Qi (Qp av _) _ (by omega);have q2:Qz ((w2.alloc (.cells zc 143)).setRow w2.heap.size (h8 g)) w2.heap.size g:=Q0 (Qe rfl) _;have q3:Qz ((w2.alloc (.cells zc 143)).setRow w2.heap.size (h8 g)) w.heap.size Zb:=Qi (Qp X _) _ (by omega)
  go_wp2_with (first|((first|refine Qw rfl 143 _ rfl _ rfl _ underlying143 Zd ?_ ?_ ?_|refine Qr rfl 143 _ _ rfl _ _ rfl rfl Zd ?_ ?_ ?_);rotate_left;focus((repeat(first|(with_reducible first|assumption|exact Qg ⟨_,by assumption⟩ _)|((with_reducible first|refine Qe ?_|refine Q2 ?_|refine Qg (Q6 ?_) _);first|rfl|(simp<;>omega))|with_reducible refine Qp ?_ _|((with_reducible refine Qi ?_ _ ?_);rotate_left;focus first|(simp<;>omega)|omega)|with_reducible first|refine Qo ?_|refine Qh ?_ (by assumption)));done)))
  refine (Qcv ha g _).m ?_;rintro e w3⟨rfl,m⟩;have r1:=Qh q3 m;have V:=zh (m.m (show w2.heap.size<=((w2.alloc (.cells zc 143)).setRow w2.heap.size (h8 g)).heap.size by simp));clear q1 q2 q3 m
  go_wp2_with (first|((first|refine Qw rfl 143 _ rfl _ rfl _ underlying143 Zd ?_ ?_ ?_|refine Qr rfl 143 _ _ rfl _ _ rfl rfl Zd ?_ ?_ ?_);rotate_left;focus((repeat(first|(with_reducible first|assumption|exact Qg ⟨_,by assumption⟩ _)|((with_reducible first|refine Qe ?_|refine Q2 ?_|refine Qg (Q6 ?_) _);first|rfl|(simp<;>omega))|with_reducible refine Qp ?_ _|((with_reducible refine Qi ?_ _ ?_);rotate_left;focus first|(simp<;>omega)|omega)|with_reducible first|refine Qo ?_|refine Qh ?_ (by assumption)));done)))
  refine Qf9 w.heap.size (Z9 ha g) _ rfl rfl rfl _ underlying143 Zd (Q0 r1 _) rfl ?_;rw[D.o,<-au.o];obtain⟨f1,f2,f3⟩:=P.o (Z9 ha g) g w3 V.o;refine⟨f1,.inr ⟨p,_,_,rfl,rfl,?_⟩⟩;have af:Jo f w3 W2.heap.size p _:=T.o.fr (S:=λ_=>False) (ts:=[]) (Fr.ofBelow f3) (λ_ _ _ _ h=>h.elim) (by decide);exact (af.fr (Qal w3 w.heap.size _) (Q1 f2) (by decide)).low (by omega)
 try dsimp only at hr
 subst hr;have T:=zh v;obtain⟨q9,rfl,bj,ab⟩:=v;have k1:Qz ((w1.alloc (.cells zc 143)).setRow w1.heap.size (h8 hh)) w1.heap.size hh:=Q0 (Qe rfl) _;have l:Bz w1 ((w1.alloc (.cells zc 143)).setRow w1.heap.size (h8 hh)):=zC (Qa w1 _) (zg _) _;have k0:Qz ((w1.alloc (.cells zc 143)).setRow w1.heap.size (h8 hh)) w.heap.size Zb:=Qh an l;have B:=zh l;clear ab l
 go_wp2_with (first|((first|refine Qw rfl 143 _ rfl _ rfl _ underlying143 Zd ?_ ?_ ?_|refine Qr rfl 143 _ _ rfl _ _ rfl rfl Zd ?_ ?_ ?_);rotate_left;focus((repeat(first|(with_reducible first|assumption|exact Qg ⟨_,by assumption⟩ _)|((with_reducible first|refine Qe ?_|refine Q2 ?_|refine Qg (Q6 ?_) _);first|rfl|(simp<;>omega))|with_reducible refine Qp ?_ _|((with_reducible refine Qi ?_ _ ?_);rotate_left;focus first|(simp<;>omega)|omega)|with_reducible first|refine Qo ?_|refine Qh ?_ (by assumption)));done)))
 refine Qf9 w.heap.size Zb _ rfl rfl rfl _ underlying143 Zd (Q0 k0 _) rfl ?_;rw[D.o];dsimp only;refine⟨((Jl.t Q.o E.o (Jl.here U.o)).j B.o).own (Qal _ w.heap.size _) k0 (by decide) (zg _),.inr ⟨p,_,Zb,rfl,rfl,?_⟩⟩;have af:Jo f _ _ p _:=T.o.fr (S:=λ_=>False) (ts:=[]) (Fr.ofBelow B.o) (λ_ _ _ _ h=>h.elim) (by decide);exact (af.fr (Qal _ w.heap.size _) (Q1 k0) (by decide)).low am
theorem Q5x(N a b:Nat):1<=(Qih N a b).length/\(a%2=1->(Qih N a b).length=2):=by
 have:=(inferInstance:Inhabited OutT)
 unfold Qih
 split
 .exact⟨by simp[Qk4],λ_=>by simp[Qk4]⟩
 exact⟨by simp[Qk4],λh=>by contradiction⟩
theorem Q9c(f:Nat->Addr)(w:G)(q:Qf)(x:Qv)(N:Nat)(s:Cs)(d:Dk)(h:QIs w q x N s d)(j:Qbj f (QS q x) w)(a b:Nat)(c:a<=62)(l:(b+1)*2 ^ a<=N)(k:N<9223372036854775808)(g:Bnd s (Qih N a b).length)(i:(Qe2 N a b s).1≠.error .panic):Calls prog 141 #[.pointer (some ⟨q.gq,0,none⟩),.int .i64 a,.int .i64 b] w (Qb6 f w q x N d (Qe2 N a b s)):=by
 obtain⟨h1,h2⟩:=Q5x N a b;by_cases ho:a%2=1
 .rw[h2 ho] at g
  exact Q8i f w q x N s d h j a b ho c l k g i
 have e:Qe2 N a b=Qdg N a b:=by unfold Qe2;rw[zw ho]
 rw[e] at i ⊢;exact Qmt f w q x N s d h j a b (by omega) c l k (g.less h1) i
end
end
section
section
variable [Inhabited OutT]
structure ClAt(w:G)(q:Qf)(x:Qv)(g1 g3:Nat):Prop where
 c1:w.cell? ⟨g1,0,none⟩=some (.func (.func 141) #[.pointer (some ⟨q.gq,0,none⟩)] #[])
 c3:w.cell? ⟨g3,0,none⟩=some (.func (.func 180) #[] #[.pointer (some ⟨g1,0,none⟩),.pointer (some ⟨g3,0,none⟩)])
 n1:¬ QS q x g1
 n3:¬ QS q x g3
variable {w w':G} {q:Qf} {x:Qv} {g1 g3:Nat}
theorem ClAt.j(h:ClAt w q x g1 g3)(a:Bz w w'):ClAt w' q x g1 g3:=have:=(inferInstance:Inhabited OutT);⟨(a.cell (p:=⟨g1,0,none⟩) (Qj h.c1)).t h.c1,(a.cell (p:=⟨g3,0,none⟩) (Qj h.c3)).t h.c3,h.n1,h.n3⟩
variable {y:Qv}
theorem ClAt.step(h:ClAt w q x g1 g3)(a:Fr (QS q x) w w')(b:Sub w (QS q x) (QS q y)):ClAt w' q y g1 g3:=have:=(inferInstance:Inhabited OutT);⟨a.cell h.c1 h.n1,a.cell h.c3 h.n3,λe=>(b _ e).elim h.n1 (λhle=>by have:=Qj h.c1;dsimp only at this;omega),λe=>(b _ e).elim h.n3 (λhle=>by have:=Qj h.c3;dsimp only at this;omega)⟩
variable {F:Nat->Addr} {N:Nat} {d:Dk} {r:Except QErr Hsh×Cs}
theorem Qdz{e:Ua}(h:Qb6 F w q x N d r e w'):∃ k u,e=.returned (.tuple #[.agg (h8 k),u])/\Jl w q x N d w' r.2/\((r.1=.ok k/\u=.nilIface)∨∃ p,r.1=.error (.miss p)/\Jo F w' w.heap.size p u):=by
 obtain⟨h1,⟨k,h2,h3⟩|⟨p,u,k,h2,h3,h4⟩⟩:=h
 .exact⟨k,.nilIface,h3,h1,.inl ⟨h2,rfl⟩⟩
 exact⟨k,u,h3,h1,.inr ⟨p,h2,h4⟩⟩
variable {w2 wf:G} {k k0:Hsh} {u:J} {g:Nat}
theorem Q9o{w0:G}(i:Jl w0 q y N d w2 r.2)(j:(r.1=.ok k/\u=.nilIface)∨∃ p,r.1=.error (.miss p)/\Jo F w2 w0.heap.size p u)(e:Qz w2 g k0)(f:Fr (QS q x) w w0)(a:Sub w (QS q x) (QS q y))(h:w.heap.size<=g)(b:w.heap.size<=w0.heap.size)(c:Fr (·=g) w2 wf):Qb6 F w q x N d r (.returned (.tuple #[.agg (h8 k),u])) wf:=by
 refine⟨(Jl.t f a i).own c e (by decide) h,?_⟩;rcases j with⟨h1,rfl⟩|⟨p,h1,h2⟩
 .exact .inl ⟨k,h1,rfl⟩
 exact .inr ⟨p,u,k,h1,rfl,(h2.fr c (Q1 e) (by decide)).low b⟩
section
attribute [local go_sem] h8_0 h8_1 h8_2 h8_3 h8_4 h8_5 h8_6 h8_7 Qbu h8_size Qa2
theorem Q42(F:Nat->Addr)(w:G)(q:Qf)(x:Qv)(N:Nat)(s:Cs)(d:Dk)(h:QIs w q x N s d)(Q:Qbj F (QS q x) w)(t P i n:Nat)(a b:Int)(D:ClAt w q x t P)(m:a=i)(T:b=i+n)(W:1<=n)(ab:i+n<=N)(X:N<9223372036854775808)(V:n &&& (n-1)=0/\i%n=0)(v:Bnd s (Qih N (Lib.bitLen n-1) (i / n)).length)(f:(Qe2 N (Lib.bitLen n-1) (i / n) s).1≠.error .panic):Calls prog 180 #[.int .i64 a,.int .i64 b,.pointer (some ⟨t,0,none⟩),.pointer (some ⟨P,0,none⟩)] w (Qb6 F w q x N d (Qe2 N (Lib.bitLen n-1) (i / n) s)):=by
 have hA:=Qx1 n (n-1) (by omega) (by omega);have A:((n-1:Nat):Int)=b-a-1:=by omega
 have j:(n:Int)=b-a:=by omega
 rw[A,j] at hA;have hm:a%(b-a)=((i%n:Nat):Int):=by rw[<-j,m];rfl
 have l0:0<=a:=by omega
 have l1:a<b:=by omega
 have l2:b<=9223372036854775807:=by omega
 obtain⟨hp,hr⟩:=V;rw[hp] at hA;have tm:(a%(b-a) == 0)=true:=by rw[hm,hr];rfl
 have ta:(bits .and .i64 (b-a) (b-a-1) == 0)=true:=by rw[hA];rfl
 have g:=Qf3 W (by omega) hp;obtain⟨e,he⟩:∃ e,Lib.bitLen n=e+1:=by
  refine⟨Lib.bitLen n-1,?_⟩
  have:=(Vo 64 n (by omega) (by omega)).1
  have v:Lib.bitLen n=Lib.bitLenAux 64 n:=rfl;omega
 rw[he,Ve] at g v f ⊢;have E:e<=62:=by
  rcases zK 62 e with U|S
  .have:=ZI (n:=2) (by decide) U
   omega
  exact S
 have HE:=zh he;have ac:decide (b-a=0)=false:=zo (by omega);have hdiv:i / n*n=i:=by have:=xN i n;rw[hr] at this;rw[vE];omega
 have hq:(i / n+1)*2 ^ e<=N:=by rw[<-g,vC,hdiv];omega
 have b0:Bz w (w.alloc (.cells zc 143)).drew:=(Qa w _).drew;have c:=zh (Q9c F _ q x N s d (h.j b0) (Q.j b0) e (i / n) E hq X v f);have B:a / 2 ^ e=((i / n:Nat):Int):=by rw[m,g];simp
 obtain⟨L,I⟩:=zh2 B j;have gl:=Qj D.c1;have d1:=D.c1;have Z:(w.alloc (.cells zc 143)).drew.cell? ⟨t,0,none⟩=some (.func (.func 141) #[.pointer (some ⟨q.gq,0,none⟩)] #[]):=(b0.cell (p:=⟨t,0,none⟩) gl).t d1;have z:¬ QS q x w.heap.size:=λe=>V7 _ (h.lt e)
 have H:=zh z;obtain⟨R,hR⟩:=zzx (Qe2 N e (i / n) s)
 rw[<-hR] at c f ⊢;clear h Q D g hp hr hdiv he j A hA hm m T B hq v z b0 f
 go_enter func180,ntmps180
 go_wp2_with fail
 refine (bits_Len _ _ (by omega) (by omega)).m ?_;rintro e' w1⟨rfl,rfl⟩;have ht:Lib.bitLen (b-a).toNat=e+1:=by rw[<-HE.o,<-I.o];rfl
 rw[ht];clear ht
 go_wp2_with fail
 go_region_with (go_at_call 141;rw[L.o];refine c.o.m ?_;intro e' w2 h2;obtain⟨k,u,rfl,r,C⟩:=Qdz h2;obtain⟨K,M⟩:=zh2 r C;have l:Qz w2 w.heap.size Zb:=(by obtain⟨_,_,hf,_⟩:=r;exact Qgd (Qo (Qe rfl)) hf H.o);have hz:w.heap.size<w2.heap.size:=Qb l;have aa:Is8 w2 w.heap.size:=⟨Zb,l⟩;have y:=zh l;clear h2 r C l)
 go_wp2;refine Qf9 w.heap.size k u rfl rfl rfl _ underlying143 Zd (Q0 y.o _) rfl ?_;exact Q9o K.o M.o y.o (Fr.ofBelow ((Qa w _).drew)) (Sub.refl _ _) (zg _) (by simp) (Qal w2 w.heap.size _)
theorem Q83{c w3:G}{f i n:Nat}{s1:Cs}{R:Except QErr Hsh×Cs}{m:Hsh}(e:R=match rootQ N f i n s1 with
   | (.ok b,s2)=>Qm.pure (Z9 m b) s2
   | (.error p,s2)=>(.error p,s2))(C:Jl c q y N d w2 (rootQ N f i n s1).2)(l:((rootQ N f i n s1).1=.ok k/\u=.nilIface)∨∃ p,(rootQ N f i n s1).1=.error (.miss p)/\Jo F w2 c.heap.size p u)(r:Bz w2 w3)(z:Qz w3 g k0)(A:Fr (QS q x) w c)(j:Sub w (QS q x) (QS q y))(B:w.heap.size<=g)(t:w.heap.size<=c.heap.size)(v:Fr (·=g) w3 wf):Qb6 F w q x N d R (.returned (.tuple #[.agg (h8 (Z9 m k)),u])) wf:=by
 have a:Jl w q x N d wf (rootQ N f i n s1).2:=((Jl.t A j C).j r).own v z (by decide) B
 cases hq:rootQ N f i n s1 with
 | mk o s2=>
  rw[hq] at e l a
  dsimp only at l a
  rcases l with⟨h1,rfl⟩|⟨p,h1,h2⟩
  .subst h1
   rw[e]
   exact⟨a,.inl ⟨_,rfl,rfl⟩⟩
  subst h1
  rw[e]
  have s:Jo F w3 c.heap.size p u:=h2.fr (S:=λ_=>False) (ts:=[]) (Fr.ofBelow r) (λ_ _ _ _ h=>h.elim) (by decide)
  exact⟨a,.inr ⟨p,u,_,rfl,rfl,(s.fr v (Q1 z) (by decide)).low t⟩⟩
theorem Q4m(F:Nat->Addr)(q:Qf)(N:Nat)(d:Dk)(g1 V:Nat)(hN:N<9223372036854775808)(f:Nat):∀ (i n:Nat) (lo hi:Int) (w:G) (x:Qv) (s:Cs),QIs w q x N s d->Qbj F (QS q x) w->ClAt w q x g1 V->lo=i->hi=i+n->n<=f->1<=n->i+n<=N->
  Bnd s (Qa4 N f i n).length->(rootQ N f i n s).1≠.error .panic->
  Calls prog 180 #[.int .i64 lo,.int .i64 hi,.pointer (some ⟨g1,0,none⟩),.pointer (some ⟨V,0,none⟩)] w (Qb6 F w q x N d (rootQ N f i n s)):=by
 induction f with
 | zero=>intros;omega
 | succ f ih=>
  intro i n lo hi w x s h hE hc v ae hf h1 af hb hp;by_cases hpr:n &&& (n-1)=0/\i%n=0
  .rw[Qa4,zD hpr] at hb
   rw[rootQ,zD hpr] at hp ⊢;exact Q42 F w q x N s d h hE g1 V i n lo hi hc v ae h1 af hN hpr hb hp
  rw[Qa4,zw hpr,zn] at hb;obtain⟨R,b⟩:=zzx (rootQ N (f+1) i n s)
  rw[<-b] at hp ⊢;rw[rootQ,zw hpr] at b;have hA:=Qx1 n (n-1) (by omega) (by omega);have j:((n-1:Nat):Int)=hi-lo-1:=by omega
  have y:(n:Int)=hi-lo:=by omega
  rw[j,y] at hA;have hm:lo%(hi-lo)=((i%n:Nat):Int):=by rw[<-y,v];rfl
  have l0:0<=lo:=by omega
  have l1:lo<hi:=by omega
  have l2:hi<=9223372036854775807:=by omega
  have W:((bits .and .i64 (hi-lo) (hi-lo-1) == 0)=true/\(lo%(hi-lo) == 0)=false)∨(bits .and .i64 (hi-lo) (hi-lo-1) == 0)=false:=by
   by_cases hp:n &&& (n-1)=0
   .refine .inl ⟨by rw[hA,hp];rfl,?_⟩
    have hr:¬ i%n=0:=λe=>hpr ⟨hp,e⟩
    rw[hm,zl];omega
   refine .inr ?_;rw[hA,zl];omega
  have ai:2<=n:=by
   rcases zK n 2 with bm|a8
   .obtain rfl:n=1:=by omega
    exact absurd ⟨rfl,Vv i⟩ hpr
   exact a8
  have bo:decide (hi-lo=0)=false:=zo (by omega);have ad:=Yh ai;obtain⟨k,hk⟩:=zzx (below n)
  rw[<-hk] at ad b hb;unfold Qm.bind at b;have ak:(rootQ N f i k s).1≠.error .panic:=λe=>by
   apply hp;rw[b];cases hq:rootQ N f i k s with
   | mk o s1=>
    rw[hq] at e;dsimp only at e;subst e;rfl
  have m:=Qa w (.cells zc 143);have X:=zh (λlo hi e1' e2'=>ih i k lo hi _ x s (h.j m) (hE.j m) (hc.j m) e1' e2' (by omega) (by omega) (by omega) (hb.less (xA _ _)) ak);have L:Bnd (rootQ N f i k s).2 (Qa4 N f (i+k) (n-k)).length:=hb.next (Qen N f i k) (Qf6 (Qc7 s.net) N f i k s (Qcm.refl _));have aw:=zh (λlo hi w x s h hE hc e1' e2' hb hp=>ih (i+k) (n-k) lo hi w x s h hE hc e1' e2' (by omega) (by omega) (by omega) hb hp);obtain⟨r1,Q⟩:=zzx (rootQ N f i k s)
  rw[<-Q] at X L;rw[<-Q] at b;have bk:(k:Int)<hi-lo:=by omega
  have bj:(1:Int)<=k:=by omega
  have HK:=zh (show (below (hi-lo).toNat:Int)=k by rw[<-y,zO,hk]);have Z:=zh v;have ax:=zh (show hi=((i+k:Nat):Int)+((n-k:Nat):Int) by omega);have ay:=zh (show lo+k=((i+k:Nat):Int) by omega);have bl:2<=hi-lo:=by omega
  obtain⟨H,HE,HC,E,HP,aq⟩:=zh6 h (hE.j m) (hc.j m) b hp L;have aj:¬ QS q x w.heap.size:=λe=>V7 _ (h.lt e)
  have aa:=zh aj;have d3:=hc.c3;have bi:=Qj d3;clear ih h hE hc hb hp b Q ak hpr hA hm y j v ae hf h1 af hk ad ai m aj L;rcases W with⟨ta,tm⟩|ta
  all_goals (
   go_enter func180,ntmps180
   go_wp2_with fail
   refine (Qaw _ _ (by omega) (by omega)).m ?_
   rintro e w0⟨rfl,rfl⟩
   rw[HK.o]
   go_wp2_with fail
   refine (X.o lo (lo+k) Z.o (by rw[Z.o])).m ?_
   intro e w1 h1
   obtain⟨ha,u1,rfl,j,am⟩:=Qdz h1
   have bc:(w.alloc (.cells zc 143)).heap.size=w.heap.size+1:=by simp
   have bh:w.heap.size<w1.heap.size:=by
    obtain⟨_,_,hf,_⟩:=j
    have:=hf.size
    omega
   have U:Qz w1 w.heap.size Zb:=by
    obtain⟨_,_,hf,_⟩:=j
    exact Qgd (Qe rfl) hf aa.o
   obtain⟨x1,M,ac,K,c⟩:=j.env HE.o
   have I:=HC.o.step K c
   have C:=zh (show Fr (QS q x) w w1 from (Fr.ofBelow (Qa w _)).t K)
   have u:=zh (show Sub w (QS q x) (QS q x1) from c.m (by omega))
   have ao:=zh (show ¬ QS q x1 w.heap.size from λe=>(c _ e).elim (λe=>aa.o e) (λhle=>by omega))
   have D:=zh M
   have av:=zh ac
   have ar:=zh I
   have bf:V<w1.heap.size:=Qj I.c3
   have bd:=zh am
   clear j M ac K c h1 I
   obtain⟨o1,s1⟩:=r1
   rcases am with⟨hr,rfl⟩|⟨p,hr,ag⟩
   .try dsimp only at hr
    subst hr
    obtain⟨W2,l⟩:=zzx ((w1.alloc (.cells zc 143)).setRow w1.heap.size (h8 ha))
    have a:Bz w1 W2:=by rw[l];exact zC (Qa w1 _) (zg _) _
    have k1:Qz W2 w1.heap.size ha:=by rw[l];exact Q0 (Qe rfl) _
    have k0:Qz W2 w.heap.size Zb:=Qh U a
    have kz:w1.heap.size<W2.heap.size:=by rw[l];simp
    have al:(rootQ N f (i+k) (n-k) s1).1≠.error .panic:=λe=>by
     apply HP.o
     rw[E.o]
     dsimp only
     cases hq:rootQ N f (i+k) (n-k) s1 with
     | mk o s2=>
      rw[hq] at e
      dsimp only at e
      subst e
      rfl
    have B:=ar.o.j a
    have au:=zh (aw.o (lo+k) hi W2 x1 s1 (D.o.j a) (av.o.j a) B ay.o ax.o aq.o al)
    have ab:=B.c3
    have t:=zh a
    have K1:=zh k1
    have K0:=zh k0
    have a3:=zh l
    have a1:Qz ((w1.alloc (.cells zc 143)).setRow w1.heap.size (h8 ha)) w1.heap.size ha:=Q0 (Qe rfl) _
    rw[l] at ab
    clear a k1 k0 al U l B
    go_wp2_with (first|((first|refine Qw rfl 143 _ rfl _ rfl _ underlying143 Zd ?_ ?_ ?_|refine Qr rfl 143 _ _ rfl _ _ rfl rfl Zd ?_ ?_ ?_);rotate_left;focus((repeat(first|(with_reducible first|assumption|exact Qg ⟨_,by assumption⟩ _)|((with_reducible first|refine Qe ?_|refine Q2 ?_|refine Qg (Q6 ?_) _);first|rfl|(simp<;>omega))|with_reducible refine Qp ?_ _|((with_reducible refine Qi ?_ _ ?_);rotate_left;focus first|(simp<;>omega)|omega)|with_reducible first|refine Qo ?_|refine Qh ?_ (by assumption)));done)))
    rw[<-a3.o]
    clear a1 ab
    refine au.o.m ?_
    intro e w2 h2
    obtain⟨g,u2,rfl,bb,an⟩:=Qdz h2
    have ah:¬ QS q x1 w1.heap.size:=λe=>V7 _ (D.o.lt e)
    obtain⟨x2,P,r,A⟩:=bb
    have a5:Qz w2 w1.heap.size ha:=Qgd K1.o r ah
    have a6:Qz w2 w.heap.size Zb:=Qgd K0.o r ao.o
    have bg:w1.heap.size<w2.heap.size:=zJ kz r.size
    have a0:=zh (show Jl W2 q x1 N d w2 (rootQ N f (i+k) (n-k) s1).2 from ⟨x2,P,r,A⟩)
    have a2:=zh an
    clear P r A ah h2 an
    have q1:Qz ((w2.alloc (.cells zc 143)).setRow w2.heap.size (h8 g)) w1.heap.size ha:=Qi (Qp a5 _) _ (by omega)
    have q2:Qz ((w2.alloc (.cells zc 143)).setRow w2.heap.size (h8 g)) w2.heap.size g:=Q0 (Qe rfl) _
    have q3:Qz ((w2.alloc (.cells zc 143)).setRow w2.heap.size (h8 g)) w.heap.size Zb:=Qi (Qp a6 _) _ (by omega)
    go_wp2_with (first|((first|refine Qw rfl 143 _ rfl _ rfl _ underlying143 Zd ?_ ?_ ?_|refine Qr rfl 143 _ _ rfl _ _ rfl rfl Zd ?_ ?_ ?_);rotate_left;focus((repeat(first|(with_reducible first|assumption|exact Qg ⟨_,by assumption⟩ _)|((with_reducible first|refine Qe ?_|refine Q2 ?_|refine Qg (Q6 ?_) _);first|rfl|(simp<;>omega))|with_reducible refine Qp ?_ _|((with_reducible refine Qi ?_ _ ?_);rotate_left;focus first|(simp<;>omega)|omega)|with_reducible first|refine Qo ?_|refine Qh ?_ (by assumption)));done)))
    refine (Qcv ha g _).m ?_
    rintro e w3⟨rfl,T⟩
    have r1:=Qh q3 T
    have a4:=zh (T.m (show w2.heap.size<=((w2.alloc (.cells zc 143)).setRow w2.heap.size (h8 g)).heap.size by simp))
    clear q1 q2 q3 T
    go_wp2_with (first|((first|refine Qw rfl 143 _ rfl _ rfl _ underlying143 Zd ?_ ?_ ?_|refine Qr rfl 143 _ _ rfl _ _ rfl rfl Zd ?_ ?_ ?_);rotate_left;focus((repeat(first|(with_reducible first|assumption|exact Qg ⟨_,by assumption⟩ _)|((with_reducible first|refine Qe ?_|refine Q2 ?_|refine Qg (Q6 ?_) _);first|rfl|(simp<;>omega))|with_reducible refine Qp ?_ _|((with_reducible refine Qi ?_ _ ?_);rotate_left;focus first|(simp<;>omega)|omega)|with_reducible first|refine Qo ?_|refine Qh ?_ (by assumption)));done)))
    refine Qf9 w.heap.size (Z9 ha g) u2 rfl rfl rfl _ underlying143 Zd (Q0 r1 _) rfl ?_
    have a7:Bz w2 w3:=(zC (Qa w2 _) (zg _) _).t a4.o
    refine Q83 (f:=f) (i:=i+k) (n:=n-k) (s1:=s1) (by rw[E.o];generalize rootQ N f (i+k) (n-k) s1=z;obtain⟨o,s2⟩:=z;cases o <;> rfl) a0.o a2.o a7 r1 (C.o.t (Fr.ofBelow t.o)) u.o (zg _) (by omega) (Qal w3 w.heap.size _)
   try dsimp only at hr
   subst hr
   have az:=zh ag
   obtain⟨q9,rfl,bn,a9⟩:=ag
   have k1:Qz ((w1.alloc (.cells zc 143)).setRow w1.heap.size (h8 ha)) w1.heap.size ha:=Q0 (Qe rfl) _
   have a:Bz w1 ((w1.alloc (.cells zc 143)).setRow w1.heap.size (h8 ha)):=zC (Qa w1 _) (zg _) _
   have k0:Qz ((w1.alloc (.cells zc 143)).setRow w1.heap.size (h8 ha)) w.heap.size Zb:=Qh U a
   have t:=zh a
   clear a9 a
   go_wp2_with (first|((first|refine Qw rfl 143 _ rfl _ rfl _ underlying143 Zd ?_ ?_ ?_|refine Qr rfl 143 _ _ rfl _ _ rfl rfl Zd ?_ ?_ ?_);rotate_left;focus((repeat(first|(with_reducible first|assumption|exact Qg ⟨_,by assumption⟩ _)|((with_reducible first|refine Qe ?_|refine Q2 ?_|refine Qg (Q6 ?_) _);first|rfl|(simp<;>omega))|with_reducible refine Qp ?_ _|((with_reducible refine Qi ?_ _ ?_);rotate_left;focus first|(simp<;>omega)|omega)|with_reducible first|refine Qo ?_|refine Qh ?_ (by assumption)));done))|refine Qr rfl 143 _ _ rfl _ Zb rfl (by rw[Qj9];rfl) Zd ?_ ?_ ?_;rotate_left;focus ((repeat(first|(with_reducible first|assumption|exact Qg ⟨_,by assumption⟩ _)|((with_reducible first|refine Qe ?_|refine Q2 ?_|refine Qg (Q6 ?_) _);first|rfl|(simp<;>omega))|with_reducible refine Qp ?_ _|((with_reducible refine Qi ?_ _ ?_);rotate_left;focus first|(simp<;>omega)|omega)|with_reducible first|refine Qo ?_|refine Qh ?_ (by assumption)));done))
   refine Qf9 w.heap.size Zb _ rfl rfl rfl _ underlying143 Zd (Q0 k0 _) rfl ?_
   rw[E.o]
   dsimp only
   refine⟨((Jl.t C.o u.o (Jl.here D.o)).j t.o).own (Qal _ w.heap.size _) k0 (by decide) (zg _),.inr ⟨p,_,Zb,rfl,rfl,?_⟩⟩
   have ba:Jo F _ _ p _:=az.o.fr (S:=λ_=>False) (ts:=[]) (Fr.ofBelow t.o) (λ_ _ _ _ h=>h.elim) (by decide)
   exact (ba.fr (Qal _ w.heap.size _) (Q1 k0) (by decide)).low (by omega))
end
end
section
theorem Qhy(N:Nat)(x:Nat×Nat):∀ (xs:List (Nat×Nat)) (s s1:Cs) (l:List Hsh),Zp N xs s=(.ok l,s1)->Zp N (xs ++ [x]) s=match rootQ N (x.2-x.1) x.1 (x.2-x.1) s1 with
  | (.ok h,s2)=>(.ok (l ++ [h]),s2)
  | (.error e,s2)=>(.error e,s2)
 | [],s,s1,l,h=>by
  have h':((.ok [],s):Except QErr (List Hsh)×Cs)=(.ok l,s1):=h
  cases h'
  show Zp N [x] s=_
  rw[Zp]
  unfold Qm.bind
  cases rootQ N (x.2-x.1) x.1 (x.2-x.1) s with
  | mk o s2=>cases o <;> rfl
 | y :: xs,s,s1,l,h=>by
  rw[Zp] at h
  unfold Qm.bind at h
  rw[vM,Zp]
  unfold Qm.bind
  cases hr:rootQ N (y.2-y.1) y.1 (y.2-y.1) s with
  | mk o s2=>
   rw[hr] at h
   cases o with
   | error e=>cases h
   | ok a=>
    dsimp only at h ⊢
    cases hg:Zp N xs s2 with
    | mk o3 s3=>
     rw[hg] at h
     cases o3 with
     | error e=>cases h
     | ok l3=>
      dsimp only at h
      cases h
      have:=Qhy N x xs s2 _ l3 hg
      rw[this]
      cases rootQ N (x.2-x.1) x.1 (x.2-x.1) s1 with
      | mk o4 s4=>cases o4 <;> rfl
theorem Qh4(N:Nat)(b:List (Nat×Nat)):∀ (xs:List (Nat×Nat)) (s s1:Cs) (e:QErr),Zp N xs s=(.error e,s1)->Zp N (xs++b) s=(.error e,s1)
 | [],s,s1,e,h=>by cases h
 | y :: xs,s,s1,e,h=>by
  rw[Zp] at h
  unfold Qm.bind at h
  rw[vM,Zp]
  unfold Qm.bind
  cases hr:rootQ N (y.2-y.1) y.1 (y.2-y.1) s with
  | mk o s2=>
   rw[hr] at h
   cases o with
   | error e2=>cases h;rfl
   | ok a=>
    dsimp only at h ⊢
    cases hg:Zp N xs s2 with
    | mk o3 s3=>
     rw[hg] at h
     cases o3 with
     | error e2=>
      dsimp only at h
      cases h
      rw[Qh4 N b xs s2 _ _ hg]
     | ok l3=>cases h
variable [Inhabited OutT]
theorem Qo7(w:G)(q:Qf)(x:Qv)(N:Nat)(s:Cs)(d:Dk)(h:QIs w q x N s d):Calls prog 140 #[.func (.func 141) #[.pointer (some ⟨q.gq,0,none⟩)] #[]] w λe w'=>∃ g1 g3,e=.returned (.func (.func 180) #[] #[.pointer (some ⟨g1,0,none⟩),.pointer (some ⟨g3,0,none⟩)])/\ClAt w' q x g1 g3/\Bz w w':=by
 have H:=zh h;clear h
 go_enter func140,ntmps140
 go_wp2
 go_ret;refine⟨_,_,rfl,⟨?_,?_,λe=>?_,λe=>?_⟩,(Qa w _).alloc (by simp) _⟩
 .rw[World.cell?_alloc_old]
  .exact zW _ _ _ _ rfl
  simp
 .exact zW _ _ _ _ (by simp)
 .exact V7 _ (H.o.lt e)
 have:=H.o.lt e
 first|omega|(simp at this;omega)|(simp at this)
variable {q:Qf} {x:Qv} {N:Nat} {s:Cs} {d:Dk}
theorem Qsw{w:G}(h:QIs w q x N s d):Qas w (QS q x) ([263,9]++([253,251] ++ [126,3])):=
 h.kindsLook.or ((Qar h.cache).or (Qbw h.net))
theorem Qye(N:Nat)(xs a:List (Nat×Nat)):Z0 N (xs++a)=Z0 N xs++Z0 N a:=by have:=(inferInstance:Inhabited OutT);simp[Z0]
structure Aft(F:Nat->Addr)(wr wf:G)(q:Qf)(x:Qv)(N:Nat)(d:Dk)(r:Except QErr Hsh×Cs)(k:Hsh)(u:J)(g:Nat):Prop where
 st:Jl wr q x N d wf r.2
 val:(r.1=.ok k/\u=.nilIface)∨∃ p,r.1=.error (.miss p)/\Jo F wf wr.heap.size p u
 hash:Qz wf g k
variable {F:Nat->Addr} {wr w1:G} {r:Except QErr Hsh×Cs} {e:Ua}
theorem aft1{w0:G}(b:Bz wr w0)(h:Qb6 F w0 q x N d r e w1):∃ k u,e=.returned (.tuple #[.agg (h8 k),u])/\Aft F wr ((w1.alloc (.cells zc 143)).setRow w1.heap.size (h8 k)) q x N d r k u w1.heap.size:=by
 obtain⟨k,u,he,hs,hv⟩:=Qdz h;have a:Bz w1 ((w1.alloc (.cells zc 143)).setRow w1.heap.size (h8 k)):=zC (Qa w1 _) (zg _) _;refine⟨k,u,he,(Jl.t (Fr.ofBelow b) (Sub.refl _ _) hs).j a,?_,Q0 (Qe rfl) _⟩;rcases hv with hv|⟨p,h1,h2⟩
 .exact .inl hv
 exact .inr ⟨p,h1,(h2.fr (S:=λ_=>False) (ts:=[]) (Fr.ofBelow a) (λ_ _ _ _ h=>h.elim) (by decide)).low b.size⟩
theorem aft2(a:QIs wr q x N s d)(h:Qb6 F (wr.alloc (.cells zc 143)).drew q x N d r e w1):∃ k u,e=.returned (.tuple #[.agg (h8 k),u])/\Is8 w1 wr.heap.size/\Aft F wr (w1.setRow wr.heap.size (h8 k)) q x N d r k u wr.heap.size:=by
 obtain⟨k,u,he,hs,hv⟩:=Qdz h;have hz:Qz w1 wr.heap.size Zb:=by obtain⟨_,_,hf,_⟩:=hs;exact Qgd (Qo (Qe rfl)) hf λe=>V7 _ (a.lt e)
 have hb:Bz wr (wr.alloc (.cells zc 143)).drew:=(Qa wr _).drew;refine⟨k,u,he,⟨Zb,hz⟩,(Jl.t (Fr.ofBelow hb) (Sub.refl _ _) hs).own (Qal w1 wr.heap.size _) hz (by decide) (zg _),?_,Q0 hz _⟩;rcases hv with hv|⟨p,h1,h2⟩
 .exact .inl hv
 exact .inr ⟨p,h1,(h2.fr (Qal w1 wr.heap.size _) (Q1 hz) (by decide)).low hb.size⟩
end
section
variable [Inhabited OutT]
def Qgp(F:Nat->Addr)(w:G)(q:Qf)(x:Qv)(N:Nat)(d:Dk)(r:Except QErr (List Hsh)×Cs)(e:Ua)(w':G):Prop:=
 Jl w q x N d w' r.2/\((∃ l v,r.1=.ok l/\e=.returned (.tuple #[v,.nilIface])/\Qa5 w' w.heap.size v l)∨∃ p u,r.1=.error (.miss p)/\e=.returned (.tuple #[.slice none 0 0,u])/\Jo F w' w.heap.size p u)
structure GSt(F:Nat->Addr)(w wr:G)(q:Qf)(x:Qv)(N:Nat)(s:Cs)(d:Dk)(g1 g3:Nat)(rs:List (Nat×Nat))(rv:J)(j:Nat)(v:J)(y:Qv)(sj:Cs)(l:List Hsh):Prop where
 run:Zp N (rs.drop j).reverse s=(.ok l,sj)
 is:QIs wr q y N sj d
 env:Qbj F (QS q y) wr
 cl:ClAt wr q y g1 g3
 fr:Fr (QS q x) w wr
 sub:Sub w (QS q x) (QS q y)
 o:Qa5 wr w.heap.size v l
 row:wr.ownsRow 0 265 2 rv rs.length (Qca rs)
 bnd:Bnd sj (Z0 N (rs.take j).reverse).length
 len:l.length+j=rs.length
section
attribute [local go_sem] h8_0 h8_1 h8_2 h8_3 h8_4 h8_5 h8_6 h8_7 Qbu h8_size Qa2
variable {F:Nat->Addr} {w wf:G} {q:Qf} {x y:Qv} {N g1 g3 k:Nat} {s:Cs} {d:Dk} {rs:List (Nat×Nat)} {rv v:J} {l:List Hsh} {hh:Hsh}
theorem Q8s{r:G}{b:Cs}{z:Nat×Nat}{u:J}{g:Nat}(h:GSt F w r q x N s d g1 g3 rs rv (k+1) v y b l)(i:rs[k]?=some z)(m:Aft F r wf q y N d (rootQ N (z.2-z.1) z.1 (z.2-z.1) b) hh u g):(∃ y' s',(rootQ N (z.2-z.1) z.1 (z.2-z.1) b).1=.ok hh/\u=.nilIface/\Zp N (rs.drop k).reverse s=(.ok (l ++ [hh]),s')/\QIs wf q y' N s' d/\Qbj F (QS q y') wf/\ClAt wf q y' g1 g3/\Fr (QS q x) w wf/\Sub w (QS q x) (QS q y')/\Qa5 wf w.heap.size v l/\wf.ownsRow 0 265 2 rv rs.length (Qca rs)/\Bnd s' (Z0 N (rs.take k).reverse).length)∨
  (∃ p s',u≠.nilIface/\Zp N rs.reverse s=(.error (.miss p),s')/\Jl w q x N d wf s'/\Jo F wf w.heap.size p u):=by
 have hk:=(zj.1 i).1;have hd:(rs.drop k).reverse=(rs.drop (k+1)).reverse ++ [z]:=by
  rw[zZ hk,vY]
  have:rs[k]=z:=by rw[ze hk] at i;exact zR i
  rw[this]
 have a:=Qhy N z (rs.drop (k+1)).reverse s b l h.run;rw[<-hd] at a;have n:(rs.take (k+1)).reverse=z :: (rs.take k).reverse:=by rw[zY,i,XD,V8];rfl
 obtain⟨y',h1,h2,h3⟩:=m.st;have f:=Qen N (z.2-z.1) z.1 (z.2-z.1);have hb:=h.bnd;rw[n,show Z0 N (z :: (rs.take k).reverse)=Qa4 N (z.2-z.1) z.1 (z.2-z.1)++Z0 N (rs.take k).reverse by simp[Z0],zn] at hb;have c:=hb.next f (Qf6 (Qc7 b.net) N (z.2-z.1) z.1 (z.2-z.1) b (Qcm.refl _));rcases m.val with⟨h4,h5⟩|⟨p,h4,h5⟩
 .left
  cases hr:rootQ N (z.2-z.1) z.1 (z.2-z.1) b with
  | mk o s'=>
   rw[hr] at h1 h4 a c;dsimp only at h1 h4 c;subst h4;exact⟨y',s',rfl,h5,a,h1,h.env.step h2 h3,h.cl.step h2 h3,h.fr.sub h2 h.sub,h.sub.t h3 h.fr.size,Zm h.o h2 (Qsw h.is) (by decide),Zm h.row h2 (Qsw h.is) (by decide),c⟩
 right;cases hr:rootQ N (z.2-z.1) z.1 (z.2-z.1) b with
 | mk o s'=>
  rw[hr] at h1 h4 a;dsimp only at h1 h4;subst h4;have j:rs.reverse=(rs.drop k).reverse++(rs.take k).reverse:=by rw[<-V8,xo]
  refine⟨p,s',?_,by rw[j];exact Qh4 N _ _ s s' _ a,Jl.t h.fr h.sub ⟨y',h1,h2,h3⟩,h5.low h.fr.size⟩;obtain⟨q9,rfl,_⟩:=h5;exact λe=>by cases e
theorem Zbl{f:G}{g:Cs}{o:J}(r:Qbj F (QS q x) w)(z:ClAt w q x g1 g3)(m:Zp N (rs.drop k).reverse s=(.ok (l ++ [hh]),g))(D:QIs wf q y N g d)(t:Fr (QS q x) w wf)(j:Sub w (QS q x) (QS q y))(h:Qa5 wf w.heap.size v l)(u:wf.ownsRow 0 265 2 rv rs.length (Qca rs))(p:Bnd g (Z0 N (rs.take k).reverse).length)(B:l.length+(k+1)=rs.length)(A:wf.grownBy f v.ownBlock)(n:Qa5 f w.heap.size o (l ++ [hh])):GSt F w f q x N s d g1 g3 rs rv k o y g (l ++ [hh]):=by
 have b:Fr (λi=>v.ownBlock=some i) wf f:=Fr.ofGrown A λi _ e=>e
 have hk:=Qeo h;have a:Fr (QS q x) w f:=t.step b λi hi e=>by
  have:=(Qn h (zu _ _)).lt i e
  omega
 refine⟨m,D.kept b hk (by decide) (λi es c hi e=>?_),r.step a j,z.step a j,a,j,n,Zm u b hk (by decide),p,by rw[zn,Vd];omega⟩;obtain⟨C,hC⟩:=Qk h e;rw[hC] at hi;cases hi
theorem Qqe(F:Nat->Addr)(w:G)(q:Qf)(x:Qv)(N:Nat)(s:Cs)(d:Dk)(h:QIs w q x N s d)(hE:Qbj F (QS q x) w)(B C:Nat)(hc:ClAt w q x B C)(hN:N<9223372036854775808)(v:J)(f:List (Nat×Nat))(P:w.ownsRow 0 265 2 v f.length (Qca f))(aj:∀ x∈f,x.1<x.2/\x.2<=N)(hn:f.length<=1048576)(hb:Bnd s (Z0 N f.reverse).length)(hp:(Zp N f.reverse s).1≠.error .panic):Calls prog 179 #[.func (.func 180) #[] #[.pointer (some ⟨B,0,none⟩),.pointer (some ⟨C,0,none⟩)],v] w (Qgp F w q x N d (Zp N f.reverse s)):=by
 obtain⟨R,K⟩:=zzx (Zp N f.reverse s)
 rw[<-K] at hp ⊢;obtain⟨a,c,hv⟩:=Zo P;subst hv;obtain⟨E,HP,a0⟩:=zh3 K hp aj;have r:GSt F w w q x N s d B C f (.slice a f.length c) f.length (.slice none 0 0) x s []:=
  ⟨by rw[List.drop_length];rfl,h,hE,hc,Fr.refl _ _,Sub.refl _ _,zv _ _ _ _,P,by rw[vz];exact hb,by simp⟩
 have a9:=zh r;obtain⟨i0,hi,Q,al,bf⟩:=ZZ Qqd;rw[<-Qj9] at Q;obtain⟨HZ,HE,HC⟩:=zh3 Q hE hc;clear K hp h hE hc P aj hb r Q
 go_enter func179,ntmps179
 go_wp2
 go_loopw [6,7] (λv i wr=>∃ (j:Int) (y:Qv) (sj:Cs) (l:List Hsh),-1<=j/\j<f.length/\i=.int .i64 j/\Hid (GSt F w wr q x N s d B C f (.slice a f.length c) (j+1).toNat v y sj l)) (λ_ i _=>(intOf i+1).toNat)
 case atStart=>
  refine⟨(f.length:Int)-1,x,s,[],by omega,by omega,rfl,zh ?_⟩;rw[show ((f.length:Int)-1+1).toNat=f.length by omega];exact a9.o
 case round=>
  obtain⟨j,y,sj,l,bj,bk,rfl,HG⟩:=hrel;by_cases hge:0<=j
  .obtain⟨k,rfl⟩:∃ k:Nat,j=k:=⟨j.toNat,by omega⟩
   have hk:k<f.length:=by omega
   rw[show ((k:Int)+1).toNat=k+1 by omega] at HG;obtain⟨z,hz⟩:∃ z,f[k]?=some z:=⟨_,ze hk⟩
   obtain⟨T,U⟩:=Qpz f k z hz;obtain⟨_,_,A,_,m⟩:=Zn HG.o.row;simp only[ZN] at A;obtain⟨b,off,ad,d1⟩:=m _ _ T;obtain⟨b',off',M,d2⟩:=m _ _ U;have ac:=A.1.t ad;have L:=A.1.t M;rw[ac] at L;cases L;clear A ad M m;subst ac;rw[<-Xn] at d2;have bg:=a0.o z (zr hz);have ah:(rootQ N (z.2-z.1) z.1 (z.2-z.1) sj).1≠.error .panic:=λe=>by
    apply HP.o;rw[E.o];have ak:=Qhy N z (f.drop (k+1)).reverse s sj l HG.o.run;have hd:f.reverse=((f.drop (k+1)).reverse ++ [z])++(f.take k).reverse:=by
     have:(f.drop k).reverse=(f.drop (k+1)).reverse ++ [z]:=by
      rw[zZ hk,vY]
      have:f[k]=z:=by rw[ze hk] at hz;exact zR hz
      rw[this]
     rw[<-this,<-V8,xo]
    cases P:rootQ N (z.2-z.1) z.1 (z.2-z.1) sj with
    | mk o s2=>
     rw[P] at e ak;dsimp only at e;subst e;rw[hd,Qh4 N _ _ s s2 _ ak]
   have ae:Bnd sj (Qa4 N (z.2-z.1) z.1 (z.2-z.1)).length:=HG.o.bnd.less (by
    rw[zY,hz,XD,V8,Qye,zn]
    simp[Z0])
   have t:∀ W,Bz wr W->Calls prog 180 #[.int .i64 z.1,.int .i64 z.2,.pointer (some ⟨B,0,none⟩),.pointer (some ⟨C,0,none⟩)] W (Qb6 F W q y N d (rootQ N (z.2-z.1) z.1 (z.2-z.1) sj)):=λW hW=>
    Q4m F q N d B C hN (z.2-z.1) z.1 (z.2-z.1) z.1 z.2 W y sj (HG.o.is.j hW) (HG.o.env.j hW) (HG.o.cl.j hW) rfl (by omega) (zg _) (by omega) (by omega) ae ah
   obtain⟨CALL,ay,ba⟩:=zh3 t HG.o.is hz;have bi:=Qj d1;have aq:l.length<=1048576:=by have:=HG.o.len;omega
   clear hz T U bg ah ae t;obtain⟨zp,zq⟩:=z;dsimp only at d1 d2 CALL
   go_wp2_with fail
   go_region_with (go_at_call 180;(first|refine (CALL.o _ (Ql wr)).m ?_;intro e w1 h1;obtain⟨hh,u,rfl,hA⟩:=aft1 (Ql wr) h1;have i1:Is8 (w1.alloc (.cells zc 143)) w1.heap.size:=Q6 rfl;have HA:=zh hA;clear h1 hA|refine (CALL.o _ ((Qa _ _).drew)).m ?_;intro e w1 h1;obtain⟨hh,u,rfl,i1,hA⟩:=aft2 ay.o h1;have HA:=zh hA;clear h1 hA))
   all_goals
    rcases Q8s HG.o ba.o HA.o with⟨y',s',be,rfl,g,ai,Z,X,H,aa,I,ab,V⟩|⟨p,s',bd,g,r,ag⟩
    .have e1:=HA.o.hash
     obtain⟨HO,ax,am⟩:=zh3 (Qn I (zu _ _)) I (vB g (vB ai (vB Z (vB X (vB H (vB aa (vB ab V)))))));have S:=H.size;clear i1 be g ai Z X H aa I ab V
     go_wp2_with (first|refine Qw rfl 143 _ rfl _ rfl _ underlying143 Zd ?_ ?_ ?_;rotate_left;focus ((repeat(first|(with_reducible first|assumption|exact Qg ⟨_,by assumption⟩ _)|((with_reducible first|refine Qe ?_|refine Q2 ?_|refine Qg (Q6 ?_) _);first|rfl|(simp<;>omega))|with_reducible refine Qp ?_ _|((with_reducible refine Qi ?_ _ ?_);rotate_left;focus first|(simp<;>omega)|omega)|with_reducible first|refine Qo ?_|refine Qh ?_ (by assumption)));done)|refine Qlw rfl 133 _ rfl i0 underlying133 hi HZ.o al _ rfl ?_|at_builtin;(refine Qj6 rfl _ _ 133 rfl w.heap.size i0 underlying133 hi HZ.o al bf _ _ rfl HO.o _ rfl (zi aq (by decide)) S ?_);intro v2 w2 n af ar;obtain⟨D,av⟩:=zh2 n af;clear n af ar)
     go_roundw
     case rel=>
      obtain⟨a1,a2,a3,a4,a5,a6,a7,a8⟩:=am.o;refine⟨(k:Int)-1,y',s',l ++ [hh],by omega,by omega,rfl,zh ?_⟩;rw[show ((k:Int)-1+1).toNat=k by omega];exact Zbl HE.o HC.o a1 a2 a5 a6 ax.o a7 a8 HG.o.len av.o D.o
     case measure=>(simp[intOf] <;> omega)
    obtain⟨aw,an⟩:=zh2 ag r;have n:R=(.error (.miss p),s'):=by rw[E.o];exact g
    have D:=zh n;obtain⟨q9,rfl,bl,bc⟩:=ag;clear bc bd g r n i1;go_wp2;go_ret2;rw[D.o];exact⟨an.o,.inr ⟨p,_,rfl,rfl,aw.o⟩⟩
  obtain rfl:j = -1:=by omega
  have g:=HG.o.run;rw[show ((-1:Int)+1).toNat=0 by rfl,Vm,<-E.o] at g;have az:=zh g;clear g;go_wp2;go_ret2;rw[az.o];exact⟨⟨y,HG.o.is,HG.o.fr,HG.o.sub⟩,.inl ⟨l,_,rfl,rfl,HG.o.o⟩⟩
end
end
section
variable [Inhabited OutT]
variable {F:Nat->Addr} {w w':G} {q:Qf} {x:Qv} {N:Nat} {d:Dk} {r:Except QErr (List Hsh)×Cs} {e:Ua}
theorem Qtx(h:Qgp F w q x N d r e w'):∃ v u,e=.returned (.tuple #[v,u]):=by
 obtain⟨_,⟨_,v,_,h,_⟩|⟨_,u,_,h,_⟩⟩:=h
 .exact⟨_,_,h⟩
 exact⟨_,_,h⟩
theorem Qtv{W:G}(a:Bz w W)(h:Qgp F W q x N d r e w'):Qgp F w q x N d r e w':=by
 obtain⟨h1,h2⟩:=h;refine⟨Jl.t (Fr.ofBelow a) (Sub.refl _ _) h1,?_⟩;rcases h2 with⟨l,v,h3,h4,h5⟩|⟨p,u,h3,h4,h5⟩
 .exact .inl ⟨l,v,h3,h4,Zg h5 a.size⟩
 exact .inr ⟨p,u,h3,h4,h5.low a.size⟩
theorem Q57(F:Nat->Addr)(w:G)(q:Qf)(P:Qv)(N:Nat)(s:Cs)(d:Dk)(h:QIs w q P N s d)(hE:Qbj F (QS q P) w)(g1 g3:Nat)(hc:ClAt w q P g1 g3)(i n:Nat)(U:i<n)(an:n<=N)(hN:N<9223372036854775808)(hb:Bnd s (Z0 N (Y7 n 0 n i).reverse).length)(H:(Zp N (Y7 n 0 n i).reverse s).1≠.error .panic):Calls prog 149 #[.func (.func 180) #[] #[.pointer (some ⟨g1,0,none⟩),.pointer (some ⟨g3,0,none⟩)],.int .i64 i,.int .i64 n] w (Qgp F w q P N d (Zp N (Y7 n 0 n i).reverse s)):=by
 have ae:=zh (λ(W:G) (hW:Bz w W) (v:J) (rs:List (Nat×Nat)) (hr:W.ownsRow 0 265 2 v rs.length (Qca rs)) (hrs:∀ x∈rs,x.1<x.2/\x.2<=N) (hn:rs.length<=1048576) (he:rs=Y7 n 0 n i)=>
  Qqe F W q P N s d (h.j hW) (hE.j hW) g1 g3 (hc.j hW) hN v rs hr hrs hn (by rw[he];exact hb) (by rw[he];exact H))
 obtain⟨i0,hi,X,Z,aa⟩:=ZZ Qn2;clear h hE hc hb H
 go_enter func149,ntmps149
 go_wp2
 go_loopw [8,9,10] (λv a b wr=>∃ (x y f mm:Nat) (done:List (Nat×Nat)),a=.int .i64 x/\b=.int .i64 y/\x<=i/\i<y/\y<=n/\y-x<=f/\Hid (done++Y7 f x y i=Y7 n 0 n i)/\Hid (y-x<=2 ^ mm/\done.length+mm<=63)/\Qd6 wr w.heap.size v done/\Bz w wr) (λ_ a b _=>(intOf b-intOf a).toNat)
 case atStart=>exact⟨0,n,n,63,[],rfl,rfl,by omega,U,zg _,by omega,zh rfl,zh ⟨by omega,by simp⟩,zv _ _ _ _,zu _ _⟩
 case round=>
  obtain⟨x,y,f,mm,done,rfl,rfl,hx,hy,ai,hf,HD,l,c,p⟩:=hrel;have r:done.length<=63:=by have:=l.o.2;omega
  by_cases B:1<y-x
  .obtain⟨f,rfl⟩:∃ g,f=g+1:=⟨f-1,by omega⟩
   have t:=Yh (n:=y-x) (by omega);obtain⟨m2,V,S,T⟩:=Qi4 (n:=y-x) (m:=mm) (by omega) l.o.1 (by have:=l.o.2;omega);have u:=zh (vB V (vB S T));clear V S T;have H:Y7 (f+1) x y i=if i<x+below (y-x) then (x+below (y-x),y) :: Y7 f x (x+below (y-x)) i else (x,x+below (y-x)) :: Y7 f (x+below (y-x)) y i:=by simp only[Y7];rw[zw (by omega)]
   obtain⟨k,hk⟩:=zzx (below (y-x))
   rw[<-hk] at t H u;have HK:=zh (show ((below ((y:Int)-x).toNat:Nat):Int)=k by rw[show ((y:Int)-x).toNat=y-x by omega,hk]);have HP:=zh H;unfold Qd6 at c;obtain⟨HO,HB⟩:=zh2 c p;have ap:(x:Int)+2<=y:=by omega
   have aq:(y:Int)<=9223372036854775807:=by omega
   have E:=p.size;have R:done.length<=1048576:=by omega
   have ak:(1:Int)<y-x:=by omega
   have HL:=zh (vB r (vB hf (vB t B)));have al:(1:Int)<=k:=by omega
   have am:(x:Int)+k<=y:=by omega
   clear hk H c p r hf t B;by_cases hik:i<x+k
   .have ad:(i:Int)<x+k:=by omega
    go_wp2_with fail
    refine (Qaw _ _ (by omega) (by omega)).m ?_;rintro e w0⟨rfl,rfl⟩;rw[HK.o]
    go_wp2_with (at_builtin;refine Qad rfl _ _ 264 rfl w.heap.size 265 i0 (.agg #[.int .i64 0,.int .i64 0]) 2 16 underlying264 hi X Z aa rfl (by decide) (by decide) _ _ _ rfl HO.o #[.int .i64 _,.int .i64 _] rfl (Qfi _ _) rfl (zi R (by decide)) E ?_;intro v2 w2 C A D;obtain⟨K,I⟩:=zh2 C A;clear C A D)
    go_roundw
    case rel=>
     obtain⟨r,hf,t,B⟩:=HL.o;exact⟨x,x+k,f,m2,done ++ [(x+k,y)],rfl,by go_num,hx,hik,by omega,by omega,zh (by rw[<-HD.o,HP.o,zD hik,ZS];rfl),zh ⟨by have:=u.o;omega,by have:=l.o.2;have:=u.o.1;simp;omega⟩,Qd6.snoc K.o (by simp) (by simp),HB.o.grown I.o HB.o.size (λj hj=>(HO.o.lt j hj).1)⟩
    case measure=>(obtain⟨r,hf,t,B⟩:=HL.o;simp[intOf] <;> omega)
   have ad:(x:Int)+k<=i:=by omega
   go_wp2_with fail
   refine (Qaw _ _ (by omega) (by omega)).m ?_;rintro e w0⟨rfl,rfl⟩;rw[HK.o]
   go_wp2_with (at_builtin;refine Qad rfl _ _ 264 rfl w.heap.size 265 i0 (.agg #[.int .i64 0,.int .i64 0]) 2 16 underlying264 hi X Z aa rfl (by decide) (by decide) _ _ _ rfl HO.o #[.int .i64 _,.int .i64 _] rfl (Qfi _ _) rfl (zi R (by decide)) E ?_;intro v2 w2 C A D;obtain⟨K,I⟩:=zh2 C A;clear C A D)
   go_roundw
   case rel=>
    obtain⟨r,hf,t,B⟩:=HL.o;exact⟨x+k,y,f,m2,done ++ [(x,x+k)],by go_num,rfl,by omega,hy,ai,by omega,zh (by rw[<-HD.o,HP.o,zw hik,ZS];rfl),zh ⟨by have:=u.o;omega,by have:=l.o.2;have:=u.o.1;simp;omega⟩,Qd6.snoc K.o (by simp) (by simp),HB.o.grown I.o HB.o.size (λj hj=>(HO.o.lt j hj).1)⟩
   case measure=>(simp[intOf] <;> omega)
  have L:done=Y7 n 0 n i:=by
   rw[<-HD.o];cases f with
   | zero=>omega
   | succ f=>simp only[Y7];rw[zD (by omega),ZW]
  have M:∀ z∈done,z.1<z.2/\z.2<=N:=by
   intro z hz;rw[L] at hz
   have:=Qeh n 0 n i (by omega) (by omega) U z hz
   omega
  obtain⟨HM,Q⟩:=zh2 M L;unfold Qd6 at c;obtain⟨HO,HB⟩:=zh2 c p;have ao:¬ ((1:Int)<y-x):=by omega
  clear L M c p HD
  go_wp2_with fail
  refine (ae.o _ HB.o _ done (Zg HO.o (zE _)) HM.o (by omega) Q.o).m ?_;intro e w2 h2;obtain⟨v2,u2,rfl⟩:=Qtx h2;have HX:=zh (Qtv HB.o h2);rw[Q.o] at HX;clear h2;go_wp2;go_ret2;exact HX.o
theorem Q05(F:Nat->Addr)(w:G)(q:Qf)(X:Qv)(N:Nat)(s:Cs)(d:Dk)(h:QIs w q X N s d)(hE:Qbj F (QS q X) w)(g1 g3:Nat)(hc:ClAt w q X g1 g3)(m n:Nat)(av:1<=m)(ad:m<=n)(aw:n<=N)(hN:N<9223372036854775808)(hb:Bnd s (Z0 N (Js n 0 n m).reverse).length)(P:(Zp N (Js n 0 n m).reverse s).1≠.error .panic):Calls prog 139 #[.func (.func 180) #[] #[.pointer (some ⟨g1,0,none⟩),.pointer (some ⟨g3,0,none⟩)],.int .i64 m,.int .i64 n] w (Qgp F w q X N d (Zp N (Js n 0 n m).reverse s)):=by
 have aa:=zh (λ(W:G) (hW:Bz w W) (v:J) (rs:List (Nat×Nat)) (hr:W.ownsRow 0 265 2 v rs.length (Qca rs)) (hrs:∀ x∈rs,x.1<x.2/\x.2<=N) (hn:rs.length<=1048576) (he:rs=Js n 0 n m)=>
  Qqe F W q X N s d (h.j hW) (hE.j hW) g1 g3 (hc.j hW) hN v rs hr hrs hn (by rw[he];exact hb) (by rw[he];exact P))
 obtain⟨i0,hi,T,U,V⟩:=ZZ Qn2;clear h hE hc hb P
 go_enter func139,ntmps139
 go_wp2
 go_loopw [8,9,10] (λv a b wr=>∃ (x y f mm:Nat) (done:List (Nat×Nat)),a=.int .i64 x/\b=.int .i64 y/\x<m/\m<=y/\y<=n/\y-x<=f/\Hid (done++Js f x y m=Js n 0 n m)/\Hid (y-x<=2 ^ mm/\done.length+mm<=63)/\Qd6 wr w.heap.size v done/\Bz w wr) (λ_ a b _=>(intOf b-intOf a).toNat)
 case atStart=>exact⟨0,n,n,63,[],rfl,rfl,by omega,ad,zg _,by omega,zh rfl,zh ⟨by omega,by simp⟩,zv _ _ _ _,zu _ _⟩
 case round=>
  obtain⟨x,y,f,mm,done,rfl,rfl,hx,hy,an,hf,HD,A,l,c⟩:=hrel;have i:done.length<=63:=by have:=A.o.2;omega
  by_cases C:m<y
  .obtain⟨f,rfl⟩:∃ g,f=g+1:=⟨f-1,by omega⟩
   have E:=Yh (n:=y-x) (by omega);obtain⟨m2,ae,ab,ac⟩:=Qi4 (n:=y-x) (m:=mm) (by omega) A.o.1 (by have:=A.o.2;omega);have I:=zh (vB ae (vB ab ac));clear ae ab ac;have P:Js (f+1) x y m=if m<=x+below (y-x) then (x+below (y-x),y) :: Js f x (x+below (y-x)) m else (x,x+below (y-x)) :: Js f (x+below (y-x)) y m:=by simp only[Js];rw[zw (by omega)]
   obtain⟨k,hk⟩:=zzx (below (y-x))
   rw[<-hk] at E P I;have HK:=zh (show ((below ((y:Int)-x).toNat:Nat):Int)=k by rw[show ((y:Int)-x).toNat=y-x by omega,hk]);have HP:=zh P;unfold Qd6 at l;obtain⟨HO,HB⟩:=zh2 l c;have ay:(x:Int)+2<=y:=by omega
   have am:(y:Int)<=9223372036854775807:=by omega
   have u:=c.size;have M:done.length<=1048576:=by omega
   have ap:(m:Int)<y:=by omega
   have HL:=zh (vB i (vB hf (vB E C)));have ar:(1:Int)<=k:=by omega
   have au:(x:Int)+k<=y:=by omega
   clear hk P l c i hf E C;by_cases hik:m<=x+k
   .have ah:(m:Int)<=x+k:=by omega
    go_wp2_with fail
    refine (Qaw _ _ (by omega) (by omega)).m ?_;rintro e w0⟨rfl,rfl⟩;rw[HK.o]
    go_wp2_with (at_builtin;refine Qad rfl _ _ 264 rfl w.heap.size 265 i0 (.agg #[.int .i64 0,.int .i64 0]) 2 16 underlying264 hi T U V rfl (by decide) (by decide) _ _ _ rfl HO.o #[.int .i64 _,.int .i64 _] rfl (Qfi _ _) rfl (zi M (by decide)) u ?_;intro v2 w2 t r D;obtain⟨K,R⟩:=zh2 t r;clear t r D)
    go_roundw
    case rel=>
     obtain⟨i,hf,E,C⟩:=HL.o;exact⟨x,x+k,f,m2,done ++ [(x+k,y)],rfl,by go_num,hx,hik,by omega,by omega,zh (by rw[<-HD.o,HP.o,zD hik,ZS];rfl),zh ⟨by have:=I.o;omega,by have:=A.o.2;have:=I.o.1;simp;omega⟩,Qd6.snoc K.o (by simp) (by simp),HB.o.grown R.o HB.o.size (λj hj=>(HO.o.lt j hj).1)⟩
    case measure=>(obtain⟨i,hf,E,C⟩:=HL.o;simp[intOf] <;> omega)
   have ah:¬ (m:Int)<=x+k:=by omega
   go_wp2_with fail
   refine (Qaw _ _ (by omega) (by omega)).m ?_;rintro e w0⟨rfl,rfl⟩;rw[HK.o]
   go_wp2_with (at_builtin;refine Qad rfl _ _ 264 rfl w.heap.size 265 i0 (.agg #[.int .i64 0,.int .i64 0]) 2 16 underlying264 hi T U V rfl (by decide) (by decide) _ _ _ rfl HO.o #[.int .i64 _,.int .i64 _] rfl (Qfi _ _) rfl (zi M (by decide)) u ?_;intro v2 w2 t r D;obtain⟨K,R⟩:=zh2 t r;clear t r D)
   go_roundw
   case rel=>
    obtain⟨i,hf,E,C⟩:=HL.o;exact⟨x+k,y,f,m2,done ++ [(x,x+k)],by go_num,rfl,by omega,hy,an,by omega,zh (by rw[<-HD.o,HP.o,zw hik,ZS];rfl),zh ⟨by have:=I.o;omega,by have:=A.o.2;have:=I.o.1;simp;omega⟩,Qd6.snoc K.o (by simp) (by simp),HB.o.grown R.o HB.o.size (λj hj=>(HO.o.lt j hj).1)⟩
   case measure=>(simp[intOf] <;> omega)
  obtain⟨f,rfl⟩:∃ g,f=g+1:=⟨f-1,by omega⟩
  obtain⟨fin,B⟩:=zzx (Js n 0 n m)
  have p:done++(if 0<x then [(x,y)] else [])=fin:=by
   have al:y<=m:=by omega
   rw[B,<-HD.o];simp only[Js,zD al]
  have L:∀ z∈fin,z.1<z.2/\z.2<=N:=by
   intro z hz;rw[B] at hz
   have:=Qie n 0 n m (by omega) (by omega) ad z hz
   omega
  obtain⟨HM,H⟩:=zh2 L B;unfold Qd6 at l;obtain⟨HO,HB⟩:=zh2 l c;have u:=c.size;have M:done.length<=1048576:=by omega
  have ax:¬ ((m:Int)<y):=by omega
  have am:(y:Int)<=9223372036854775807:=by omega
  by_cases hx0:0<x
  .rw[zD hx0] at p
   have aq:(0:Int)<x:=by omega
   have Q:=zh p;have S:fin.length<=1048576:=by rw[<-p];simp;omega
   clear p L l c HD B i hf C hx hy
   go_wp2_with (at_builtin;refine Qad rfl _ _ 264 rfl w.heap.size 265 i0 (.agg #[.int .i64 0,.int .i64 0]) 2 16 underlying264 hi T U V rfl (by decide) (by decide) _ _ _ rfl HO.o #[.int .i64 _,.int .i64 _] rfl (Qfi _ _) rfl (zi M (by decide)) u ?_;intro v2 w2 t r D;obtain⟨K,Z⟩:=zh2 (Qd6.snoc (x:=(x,y)) t rfl rfl) (HB.o.grown r HB.o.size (λj hj=>(HO.o.lt j hj).1));clear t r D)
   have ho:=K.o;rw[Q.o] at ho;refine (aa.o _ Z.o _ fin (Zg ho (zE _)) HM.o S H.o).m ?_;intro e w3 h3;obtain⟨v3,u3,rfl⟩:=Qtx h3;have HX:=zh (Qtv Z.o h3);rw[H.o] at HX;clear h3;go_wp2;go_ret2;exact HX.o
  rw[zw hx0,ZW] at p;obtain rfl:x=0:=by omega
  have Q:=zh p;have S:fin.length<=1048576:=by rw[<-p];omega
  clear p L l c HD B i hf C hx hy hx0
  go_wp2_with fail
  refine (aa.o _ HB.o _ fin (by rw[<-Q.o];exact Zg HO.o (zE _)) HM.o S H.o).m ?_;intro e w2 h2;obtain⟨v2,u2,rfl⟩:=Qtx h2;have HX:=zh (Qtv HB.o h2);rw[H.o] at HX;clear h2;go_wp2;go_ret2;exact HX.o
end
section
variable [Inhabited OutT]
theorem Qzj(w:G)(a:Nat)(n:Int):Calls prog 138 #[.pointer (some ⟨a,0,none⟩),.int .i64 n] w λe w'=>∃ gq mq,e=.returned (.pointer (some ⟨gq,0,none⟩))/\w'.heap[gq]?=some (.cells #[.pointer (some ⟨a,0,none⟩),.int .i64 n,.map (some mq),.slice none 0 0] 263 (0,0))/\w'.heap[mq]?=some (.map #[] 0)/\Bz w w'/\w.heap.size<=gq/\w.heap.size<=mq:=by
 have b:=@run_makeMap prog
 go_enter func138,ntmps138
 go_wp2;refine zI (xX rfl _ _ _) rfl ⟨w.heap.size+1,w.heap.size,rfl,?_,(vW _ _ (by rw[Qfq];exact za1 _)).t (zy _ _),(Qa w _).alloc (by rw[Qfq];exact Va _) _,Va _,zg _⟩;rw[<-Qfq w (.map #[] 0)];exact zy _ _
def cnS(gc gk mc gn:Nat)(vt:J)(qs:List CEnt)(k:Nat):Prop:=clS gc gk mc qs k∨netS gn vt k
variable {w w':G} {mu:Int} {gc gk mc gn gd gq mq N:Nat} {vl vt v:J} {c:Cl} {qs:List CEnt} {d:Dk}
theorem Za9{n:Nt}(h:ClM mu w gc gk mc (.iface 48 (.pointer (some ⟨gn,0,none⟩))) c qs)(i:Yr w gn gd vl vt n)(f:Q5 w gd v d)(b:d.files=n.files)(j:∀ z,Out.blk=some z->z<w.heap.size)(a:Bz w w')(k:w'.heap[gq]?=some (.cells #[.pointer (some ⟨gc,0,none⟩),.int .i64 N,.map (some mq),.slice none 0 0] 263 (0,0)))(g:w'.heap[mq]?=some (.map #[] 0))(l:w.heap.size<=mq):QIs w' ⟨gq,gc,gk,mc,gn,gd,mq,vl,vt,v,cliC mu (.iface 48 (.pointer (some ⟨gn,0,none⟩))) c.key c.size c.root gk⟩ ⟨.slice none 0 0,qs,[]⟩ N (askQ n c.cache) d where
 look:=k
 km:=KmAt.made_at w' 9 g
 ord:=zv _ _ _ _
 vals y hy:=by cases hy
 keys:=VU
 small y hy:=by cases hy
 files:=rfl
 cli:=(h.j a).cells
 c2:=rfl
 c13:=rfl
 cache:=(h.j a).cache
 net:=i.j a
 disk:=f.j a
 dfiles:=b
 maps e:=by
  have:=h.cache.km.lt
  dsimp only at e
  omega
 o z hz:=zJ (j z hz) a.size
theorem Qs3{C:Array J}(c:w.heap.size<=gq)(b:w.heap.size<=mq){i:Nat}(a:i<w.heap.size)(h:QS ⟨gq,gc,gk,mc,gn,gd,mq,vl,vt,v,C⟩ ⟨.slice none 0 0,qs,[]⟩ i):cnS gc gk mc gn vt qs i:=by
 have:=(inferInstance:Inhabited OutT)
 rcases h with (e|e|e)|e|e
 .exact absurd a (by rw[show i=gq from e];omega)
 .exact absurd a (by rw[show i=mq from e];omega)
 .cases e
 .exact .inl (.inr e)
 exact .inr e
theorem Q6u{w w1 w':G}{o:Int}{a gk f b l m n N:Nat}{q g v p:J}{c:Cl}{r j:List CEnt}{B:List FEnt}{A:J}{s:Cs}{d:Dk}(z:w.heap.size<=m)(y:w.heap.size<=n)(t:Bz w w1)(h:QIs w' ⟨m,a,gk,f,b,l,n,q,g,v,cliC o p c.key c.size c.root gk⟩ ⟨A,j,B⟩ N s d)(C:Fr (QS ⟨m,a,gk,f,b,l,n,q,g,v,cliC o p c.key c.size c.root gk⟩ ⟨.slice none 0 0,r,[]⟩) w1 w')(D:Sub w1 (QS ⟨m,a,gk,f,b,l,n,q,g,v,cliC o p c.key c.size c.root gk⟩ ⟨.slice none 0 0,r,[]⟩) (QS ⟨m,a,gk,f,b,l,n,q,g,v,cliC o p c.key c.size c.root gk⟩ ⟨A,j,B⟩)):ClM o w' a gk f p { c with cache:=s.cache } j/\Yr w' b l q g s.net/\Fr (cnS a gk f b g r) w w'/\Sub w (cnS a gk f b g r) (cnS a gk f b g j):=by
 refine⟨⟨h.cli,h.cache⟩,h.net,(Fr.ofBelow t).step C λi hi e=>Qs3 z y hi e,λk hk=>?_⟩;rcases hk with (e|e)|e
 .exact .inl (.inl (.inl e))
 .rcases D k (.inr (.inl e)) with e2|e2
  .rcases zK k w.heap.size with x|u
   .exact .inl (Qs3 z y x e2)
   exact .inr u
  exact .inr (zi t.size e2)
 exact .inl (.inr e)
end
section
open Go.RowKit Go.MuLone
def Qqr(F:Nat->Addr)(w:G)(base:Nat)(t:Tld)(u:J):Prop:=
 (t=Qbs/\u=.nilIface)∨(∃ i,i<7/\i≠5/\t=(Qc2 i,⟨#[]⟩)/\u=.iface 370 (.pointer (some (F i))))∨∃ p,t=(6,p)/\Jo F w base p u
variable {F:Nat->Addr} {w:G} {base:Nat} {t:Tld} {u:J}
theorem Q7s(a:Yp w F)(h:Qqr F w base t u):Calls prog 87 #[u] w λe w'=>e=.returned (Jh t.1 t.2)/\Bz w w':=by
 rcases h with⟨rfl,rfl⟩|⟨i,hi,h5,rfl,rfl⟩|⟨p,rfl,q,rfl,_,hq⟩
 .exact Qsa F w a
 .exact Qhg F w a i hi h5
 exact Q4t F w a q p hq
variable {w':G}
theorem Qqr.fr{S:Nat->Prop}(h:Qqr F w base t u)(a:Fr S w w')(b:∀ k C fz,w.heap[k]?=some (.cells C 221 fz)->¬ S k):Qqr F w' base t u:=by
 rcases h with h|h|⟨p,h1,q,h2,h3,h4⟩
 .exact .inl h
 .exact .inr (.inl h)
 exact .inr (.inr ⟨p,h1,q,h2,h3,a.heap h4 (b _ _ _ h4)⟩)
theorem Q8h(w:G)(base:Nat)(v:J)(l:Ud)(h:Q3 w base v l):Calls prog 152 #[v] w λe w'=>∃ v',e=.returned v'/\Q3 w base v' l/\v'.ownBlock=v.ownBlock/\w'=w:=by
 rcases h with⟨rfl,rfl⟩|⟨b,off,c,C,fz,rfl,h1,h2,h3,h4,h5,h6⟩
 .go_enter func152,ntmps152
  go_wp2;refine zI (xX rfl _ _ _) rfl ⟨.slice none 0 0,rfl,.inl ⟨rfl,rfl⟩,rfl,rfl⟩
 obtain⟨n,hn⟩:=zzx l.length
 rw[<-hn] at h1 h5 ⊢;have e1:(n:Int)<=c:=by omega
 have HN:=zh hn;clear hn
 go_enter func152,ntmps152
 go_wp2;refine zI (xX rfl _ _ _) rfl ⟨.slice (some ⟨b,off,none⟩) n n,rfl,.inr ⟨b,off,n,C,fz,by rw[HN.o],by rw[HN.o];exact zg _,h2,h3,h4,by rw[<-HN.o];exact h5,h6⟩,rfl,rfl⟩
section
variable {o1 o2:OutT}
theorem OwnB.o{v:J}{l:Ud}(h : @OwnB ⟨o1⟩ w 0 v l)(a:Bz w w')(d:∀ z,o2.blk=some z->w.heap.size<=z):@OwnB ⟨o2⟩ w' 0 v l:=by
 refine⟨h.1.j a,λz hz e=>?_⟩;have f:=d z hz;rcases h.1 with⟨rfl,_⟩|⟨b,off,c,C,fz,rfl,_,h2,h3,_⟩
 .cases e
 simp[Value.ownBlock] at e
 have:=Qb h3
 omega
variable {qs:List CEnt}
theorem Yd.o{g m:Nat}{c:Cch}(h : @Yd ⟨o1⟩ w g m c qs)(a:Bz w w')(b:∀ z,o2.blk=some z->w.heap.size<=z):@Yd ⟨o2⟩ w' g m c qs:=by obtain⟨r1,r2,r3,r4,r5,r6,r7,r8⟩:=@Yd.fr ⟨o1⟩ w w' g m c qs h (λ_=>False) (Fr.ofBelow a) (λ_ _=>id) (λ_ _ _ _=>id);obtain⟨_,_,v3,_⟩:=h;exact @Yd.mk ⟨o2⟩ _ _ _ _ _ r1 r2 (λq hq=>OwnB.o (v3 q hq) a b) r4 r5 r6 r7 r8
theorem QIs.outB{q:Qf}{x:Qv}{N:Nat}{s:Cs}{d:Dk}(h : @QIs ⟨o1⟩ w q x N s d)(a:Bz w w')(b:∀ z,o2.blk=some z->w.heap.size<=z/\z<w'.heap.size):@QIs ⟨o2⟩ w' q x N s d:=by obtain⟨b1,b2,b3,b4,b5,b6,b7,b8,b9,e,k,f,g,i,j,l⟩:=@QIs.j ⟨o1⟩ w w' q x N s d h a;obtain⟨_,_,_,a4,_,_,_,_,_,_,c,_⟩:=h;exact @QIs.mk ⟨o2⟩ _ _ _ _ _ _ b1 b2 b3 (λy hy=>OwnB.o (a4 y hy) a λz hz=>(b z hz).1) b5 b6 b7 b8 b9 e (Yd.o c a λz hz=>(b z hz).1) f g i j λz hz=>(b z hz).2
theorem ClM.back{l:Int}{i gk g:Nat}{m:J}{c:Cl}(h : @ClM ⟨o1⟩ l w i gk g m c qs)(f:Fr (λk=>o1.blk=some k) w w')(n:∀ z,o1.blk=some z->∃ C fz,w.heap[z]?=some (.cells C 5 fz)):ClM l w' i gk g m c qs:=by
 obtain⟨d,a⟩:=h;have j:=@Qar ⟨o1⟩ _ _ _ _ _ a;have hk:∀ k,clS i gk g qs k->¬ o1.blk=some k:=λk hk e=>by
  obtain⟨C,fz,hC⟩:=n k e;rcases hk with rfl|hk
  .rw[d] at hC;cases hC
  exact Z3 j hC (by decide) hk
 obtain⟨r1,r2,r3,r4,r5,r6,r7,r8⟩:=a;refine⟨f.heap d (hk _ (.inl rfl)),?_⟩;have hr:J0 w' gk g c.cache.most (qs.map CEnt.tri):=r1.fr f (hk _ (.inr (.inl rfl))) λb hb=>hk _ (.inr (.inr (.inr (by rw[Qc8] at hb;exact hb))))
 refine⟨hr,r2,λq hq=>⟨?_,λz hz=>by cases hz⟩,r4.fr f (hk _ (.inr (.inr (.inl rfl)))),r5,r6,r7,r8⟩;have h1:=r3 q hq;rcases h1.1 with⟨e1,e2⟩|⟨b,off,cc,C,fz,e,a1,a2,a3,a4,a5,a6⟩
 .exact .inl ⟨e1,e2⟩
 refine .inr ⟨b,off,cc,C,fz,e,a1,a2,f.heap a3 λhz=>?_,a4,a5,a6⟩;exact h1.2 b hz (by rw[e];rfl)
end
end
section
open Go.RowKit Go.MuLone
def Qiy(F:Nat->Addr)(w:G)(gc gk mc gn gd:Nat)(vl vt:J)(qs:List CEnt)(r:Tld×(Ud×List Hsh)×Cl×Nt)(e:Ua)(w':G):Prop:=
 ∃ u v y,e=.returned (.tuple #[u,v,y])/\Q3 w' w.heap.size u r.2.1.1/\Qa5 w' w.heap.size v r.2.1.2/\Qqr F w' w.heap.size r.1 y/\
  ∃ qs',@ClM ⟨⟨u.ownBlock⟩⟩ 0 w' gc gk mc (.iface 48 (.pointer (some ⟨gn,0,none⟩))) r.2.2.1 qs'/\Yr w' gn gd vl vt r.2.2.2/\Fr (cnS gc gk mc gn vt qs) w w'/\Sub w (cnS gc gk mc gn vt qs) (cnS gc gk mc gn vt qs')/\(r.1=Qbs∨u=.slice none 0 0)
variable {W:G} {gc:Nat} {u v y:J}
theorem Qhh{R:Ua->G->Prop}{T:Array J}(d:W.cell? ⟨gc,0,none⟩=some (.int .i32 1))(g:W.frozen? ⟨gc,0,none⟩=false)(a:T.getD 4 undef=u)(b:T.getD 5 undef=v)(c:T.getD 6 undef=y)(h:R (.returned (.tuple #[u,v,y])) (W.setCell ⟨gc,0,none⟩ (.int .i32 0))):bodyPostD prog f93 R Exit.ret { tmps:=T,defers:=[{ target:=.fn (.func 135) #[],args:=#[.pointer (some ⟨gc,0,none⟩)] }] } W:=by
 refine XV (f:=135) (args:=#[.pointer (some ⟨gc,0,none⟩)]) (by simp) (by simp[go_sem]) ?_;refine (unlock_deferred Zal ⟨gc,0,none⟩ .returning W d g).mono ?_;rintro e u' w''⟨rfl,rfl,rfl⟩;simp only[Leaves,settle];refine⟨.tuple #[u,v,y],?_,h⟩;have a4:T[4]?.getD undef=u:=by simpa [ZK] using a
 have a5:T[5]?.getD undef=v:=by simpa [ZK] using b
 have a6:T[6]?.getD undef=y:=by simpa [ZK] using c
 simp[results,results93,go_sem,a4,a5,a6]
variable {F:Nat->Addr} {w:G} {gk mc gn gd:Nat} {vl vt:J} {qs:List CEnt} {t:Tld}
theorem Qz2{c:List CEnt}{b:Ud}{l:List Hsh}{d:Cl}{g:Nt}(f : @ClM ⟨⟨u.ownBlock⟩⟩ 1 W gc gk mc (.iface 48 (.pointer (some ⟨gn,0,none⟩))) d c)(m:Yr W gn gd vl vt g)(j:Fr (cnS gc gk mc gn vt qs) w W)(n:Sub w (cnS gc gk mc gn vt qs) (cnS gc gk mc gn vt c))(r:gc<w.heap.size)(o:Q3 W w.heap.size u b)(p:Qa5 W w.heap.size v l)(h:Qqr F W w.heap.size t y)(q:t=Qbs∨u=.slice none 0 0):Qiy F w gc gk mc gn gd vl vt qs (t,(b,l),d,g) (.returned (.tuple #[u,v,y])) (W.setCell ⟨gc,0,none⟩ (.int .i32 0)):=by
 have a:=@ClM.cells ⟨⟨u.ownBlock⟩⟩ _ _ _ _ _ _ _ _ f;have hF:=Fr.set1 W gc 0 (.int .i32 0);have hk:=Q1 a;refine⟨u,v,y,rfl,o.same λk C fz hC=>hF.block k (Qb hC) (Z3 hk hC (by decide)),Zm p hF hk (by decide),h.fr hF λk C fz hC=>Z3 hk hC (by decide),c,@ClM.turn ⟨⟨u.ownBlock⟩⟩ _ _ _ _ _ _ _ _ f 0,?_,j.step hF λi hi e=>.inl (.inl e),n,q⟩;exact Jc m hF hk (by decide) (by decide) (by decide)
theorem Q4q{c:Cl}{n:Nt}(h:ClIs w gc gk mc (.iface 48 (.pointer (some ⟨gn,0,none⟩))) c qs)(b:ClM 1 W gc gk mc (.iface 48 (.pointer (some ⟨gn,0,none⟩))) c qs)(f:Yr w gn gd vl vt n)(a:Fr (·=gc) w W)(d:Qqr F W w.heap.size t y):Qiy F w gc gk mc gn gd vl vt qs (t,([],[]),c,n) (.returned (.tuple #[.slice none 0 0,.slice none 0 0,y])) (W.setCell ⟨gc,0,none⟩ (.int .i32 0)):=
 Qz2 b (Jc f a (Q1 h.cells) (by decide) (by decide) (by decide)) (a.weak λk _ e=>.inl (.inl e)) (Sub.refl _ _) h.lt (.inl ⟨rfl,rfl⟩) (zv _ _ _ _) d (.inr rfl)
theorem Q01(F:Nat->Addr)(w:G)(b gk g d m:Nat)(x k:J)(c:Cl)(j:List CEnt)(n:Nt)(h:ClIs w b gk g (.iface 48 (.pointer (some ⟨d,0,none⟩))) c j)(s:Yr w d m x k n)(p:Qbj F (cnS b gk g d k j) w)(i:Int)(q:i<0∨(c.size:Int)<=i)(B : -9223372036854775808<=i)(C:i<=9223372036854775807):Calls prog 93 #[.pointer (some ⟨b,0,none⟩),.int .i64 i] w (Qiy F w b gk g d m x k j (Y3 c n i)):=by
 have hr:Y3 c n i=((2,⟨#[]⟩),([],[]),c,n):=by unfold Y3;rw[zD q]
 obtain⟨H,HN,HE,HR⟩:=zh4 h s p hr;clear h s p hr;have t:i<0∨(0<=i/\(c.size:Int)<=i):=by omega
 clear q;rcases t with r|⟨r,A⟩
 all_goals
  go_enter_defers func93,ntmps93
  go_upto_region 4 with (first|go_at_call 134;refine (Qo9 H.o).m ?_;rintro e w1⟨rfl,h1,a,f⟩;obtain⟨H1,l⟩:=zh2 h1 a;have d4:=Qd h1.cells 4 rfl;have z:=zh f;have hg:=((HE.o.fr (a.weak λ_ _ e=>.inl (.inl e))).sents.cells).2.1;clear h1 a f|fail)
  go_wp2;go_region
  all_goals (
   go_wp2
   refine Qhh (u:=.slice none 0 0) (v:=.slice none 0 0) (y:=.iface 370 (.pointer (some (F 1)))) (Qd H1.o.cells 0 rfl) (Qu H1.o.cells 0) rfl rfl rfl ?_
   rw[HR.o]
   exact Q4q H.o (H1.o.j (Ql w1)) HN.o l.o.drew (.inr (.inl ⟨1,by decide,by decide,rfl,rfl⟩)))
end
section
open Go.RowKit Go.MuLone
section
variable [Inhabited OutT]
variable {F:Nat->Addr} {w w':G} {q:Qf} {x:Qv} {N:Nat} {d:Dk} {e:Ua}
theorem Q79{r:Except QErr Ud×Cs}(h:Qku F w q x N d r e w'):∃ u y,e=.returned (.tuple #[u,y])/\Jl w q x N d w' r.2/\((∃ b a n c,r.1=.ok b/\y=.nilIface/\u=.slice a n c/\Q3 w' 0 (.slice a n c) b)∨∃ p,r.1=.error (.miss p)/\u=.slice none 0 0/\(∃ g,y=.iface 219 (.pointer (some ⟨g,0,none⟩)))/\Jo F w' w.heap.size p y):=by
 obtain⟨h1,⟨b,a,n,c,h2,rfl,h3⟩|⟨p,u,h2,rfl,h3⟩⟩:=h
 .exact⟨_,_,rfl,h1,.inl ⟨b,a,n,c,h2,rfl,rfl,h3⟩⟩
 exact⟨_,_,rfl,h1,.inr ⟨p,h2,rfl,⟨h3.choose,h3.choose_spec.1⟩,h3⟩⟩
theorem Q0l{F:Nat->Addr}{w:G}{q:Qf}{x:Qv}{N:Nat}{d:Dk}{r:Except QErr (List Hsh)×Cs}{e:Ua}{w':G}(h:Qgp F w q x N d r e w'):∃ v y,e=.returned (.tuple #[v,y])/\Jl w q x N d w' r.2/\((∃ l,r.1=.ok l/\y=.nilIface/\Qa5 w' w.heap.size v l)∨∃ p,r.1=.error (.miss p)/\v=.slice none 0 0/\(∃ g,y=.iface 219 (.pointer (some ⟨g,0,none⟩)))/\Jo F w' w.heap.size p y):=by
 obtain⟨h1,⟨l,v,h2,rfl,h3⟩|⟨p,u,h2,rfl,h3⟩⟩:=h
 .exact⟨_,_,rfl,h1,.inl ⟨l,h2,rfl,h3⟩⟩
 exact⟨_,_,rfl,h1,.inr ⟨p,h2,rfl,⟨h3.choose,h3.choose_spec.1⟩,h3⟩⟩
end
variable {w':G}
theorem Qr0{a:Y Addr}{n c base:Nat}{l:Ud}(h:Q3 w' base (.slice a n c) l):∀ z,(Value.slice a n c).ownBlock=some z->base<=z/\z<w'.heap.size:=λz hz=>by
 rcases h with⟨e,_⟩|⟨b,off,c,C,fz,e,_,h2,h3,_⟩
 .rw[e] at hz;cases hz
 rw[e] at hz
 simp[Value.ownBlock] at hz
 subst hz
 exact⟨h2,Qb h3⟩
variable {w:G} {e:Ua}
theorem Zb9{data:Ud}{ls:Uc}(a:Qs data=some ls)(h:Qw5 data w e w'):∃ v' b,e=.returned (.tuple #[v',.bool b])/\Bz w w'/\Yn w' w.heap.size v' ls:=by
 obtain⟨v',h1,h2,⟨h3,_⟩|⟨ls',h3,h4⟩⟩:=h
 .rw[a] at h3;cases h3
 rw[a] at h3;cases h3;exact⟨v',_,h1,h2,h4⟩
abbrev cQ(gq gc gk mc gn gd mq:Nat)(vl vt v:J)(c:Cl):Qf:=⟨gq,gc,gk,mc,gn,gd,mq,vl,vt,v,cliC 1 (.iface 48 (.pointer (some ⟨gn,0,none⟩))) c.key c.size c.root gk⟩
variable {F:Nat->Addr} {N:Nat} {x:Qv} {d:Dk}
theorem Qnv{w1 q W:G}{a gk j g f i m:Nat}{n o v u D y:J}{p:List CEnt}{t:Tld}{b:Ud}{l:List Hsh}{c:Cl}{s:Cs}(r:Fr (·=a) w w1)(C:w1.heap.size=w.heap.size)(z:Bz w1 q)(A:w1.heap.size<=i)(B:w1.heap.size<=m)(I:a<w.heap.size)(h : @QIs ⟨⟨u.ownBlock⟩⟩ W (cQ i a gk j g f m n o v c) x N s d)(H:Fr (QS (cQ i a gk j g f m n o v c) ⟨.slice none 0 0,p,[]⟩) q W)(K:Sub q (QS (cQ i a gk j g f m n o v c) ⟨.slice none 0 0,p,[]⟩) (QS (cQ i a gk j g f m n o v c) x))(L:Q3 W w.heap.size u b)(M:Qa5 W w.heap.size D l)(E:Qqr F W w.heap.size t y)(C:t=Qbs∨u=.slice none 0 0):Qiy F w a gk j g f n o p (t,(b,l),{ c with cache:=s.cache },s.net) (.returned (.tuple #[u,D,y])) (W.setCell ⟨a,0,none⟩ (.int .i32 0)):=by
 obtain⟨vo,qs',vs⟩:=x;obtain⟨e1,e2,e3,e4⟩:=@Q6u ⟨⟨u.ownBlock⟩⟩ w1 q W 1 a gk j g f i m N n o v _ c p qs' vs vo s d A B z h H K;exact Qz2 e1 e2 ((r.weak λ_ _ e=>.inl (.inl e)).t e3) (λk hk=>(e4 k hk).imp id λe=>by omega) I L M E C
theorem Q0q(F:Nat->Addr)(w:G)(a gk E q D:Nat)(V I v:J)(c:Cl)(qs:List CEnt)(n:Nt)(d:Dk)(h:ClIs w a gk E (.iface 48 (.pointer (some ⟨q,0,none⟩))) c qs)(hn:Yr w q D V I n)(hd:Q5 w D v d)(cw:d.files=n.files)(hE:Qbj F (cnS a gk E q I qs) w)(i:Nat)(hi:i<c.size)(bu:c.size<9223372036854775808)(hb:Bnd (askQ n c.cache) (readT c.size i).length)(au:∀ b s1,Qby Jg (-1) (i / 4) c.size (askQ n c.cache)=(.ok b,s1)->b.length<=1099511627776)(hp:(Qcy c.size i (askQ n c.cache)).1≠.error .panic)(hL:c.cache.items.length+(readT c.size i).length<1099511627775):Calls prog 93 #[.pointer (some ⟨a,0,none⟩),.int .i64 i] w (Qiy F w a gk E q D V I qs (Y3 c n i)):=by
 obtain⟨R,hR⟩:=zzx (Y3 c n i)
 have aw:=h.lt;obtain⟨s0,bt⟩:=zzx (askQ n c.cache)
 obtain⟨N,hN⟩:=zzx c.size
 rw[<-bt] at hb au hp;rw[<-hN] at hb au hp hi bu hL;rw[<-hR];obtain⟨H,HN,HD,d3,HE,HR,HB,d1,HP⟩:=zh9 h hn hd cw hE hR hb au hp;obtain⟨HL,Q,t⟩:=zh3 hL bt hN;clear h hn hd cw hE hR hb au hp hL bt hN;have fg:(i:Int)<(N:Int):=by omega
 have ff:(0:Int)<=(i:Int):=by omega
 go_enter_defers func93,ntmps93
 go_upto_region 4 with (first|go_at_call 134;refine (Qo9 H.o).m ?_;rintro e w1⟨rfl,h1,cx,ds⟩;obtain⟨H1,P⟩:=zh2 h1 cx;have d4:=Qd h1.cells 4 rfl;rw[<-t.o] at d4;have T:=zh ds;clear h1 cx ds|fail)
 go_upto_region 7 with (first|go_at_call 138;refine (Qzj w1 a N).m ?_;rintro e w2⟨gq,mq,rfl,dc,c7,cp,af,B⟩;obtain⟨ea,d7,C⟩:=zh3 dc c7 cp;clear dc c7 cp|fail)
 have ay:=Za9 (N:=N) H1.o (Jc HN.o P.o (Q1 H.o.cells) (by decide) (by decide) (by decide)) (HD.o.kept P.o (Q1 H.o.cells) (by decide) (by decide)) d3.o (λz hz=>by cases hz) C.o ea.o d7.o B;rw[<-Q.o] at ay;have bc:Qbj F (QS ⟨gq,a,gk,E,q,D,mq,V,I,v,cliC 1 (.iface 48 (.pointer (some ⟨q,0,none⟩))) c.key c.size c.root gk⟩ ⟨.slice none 0 0,qs,[]⟩) w2:=
  HE.o.step ((P.o.weak λ_ _ e=>.inl (.inl e)).t (Fr.ofBelow C.o)) λk hk=>by
   rcases zK k w1.heap.size with bj|bg
   .exact .inl (Qs3 af B bj hk)
   exact .inr (zi (VN T.o.symm) bg)
 have dh:(readT N i).length=1+(Z0 N (Y7 N 0 N i).reverse).length:=by unfold readT;simp;omega
 have c0:Calls prog 146 #[.pointer (some ⟨gq,0,none⟩),.int .i64 (-1),.int .i64 (i / 4:Nat),.int .i64 N,.func (.func 147) #[] #[]] w2 (Qku F w2 _ _ N d (Qby Jg (-1) (i / 4) N s0)):=
  Q93 F w2 _ _ N s0 d ay bc (-1) (i / 4) N (by omega) bu (by have:=HB.o.fetches;omega) (by simp) HB.o.small
 obtain⟨fe,b2,d5,ec⟩:=zh4 ay bc c0 dh;clear ay bc c0 dh
 go_upto_region 8 with (first|go_at_call 146;refine d5.o.m ?_;intro e w3 h3;obtain⟨u3,y3,rfl,dd,dq⟩:=Q79 h3;obtain⟨b8,cc⟩:=zh2 dd dq;clear h3 dd dq|fail)
 obtain⟨r1,bp⟩:=zzx (Qby Jg (-1) (i / 4) N s0)
 have ci:=b8.o;have cl:=cc.o;rw[<-bp] at ci cl;obtain⟨o1,s1⟩:=r1;obtain⟨x3,dp,cy,di⟩:=ci;obtain⟨ad,aa,aq,ab⟩:=zh4 dp cy di bp;clear dp cy di bp b8 cc;rcases cl with⟨b,a3,n3,c3,bk,rfl,rfl,cq⟩|⟨p,ah,rfl,⟨ge,rfl⟩,ag⟩
 rotate_left
 .have ba:=zh ah
  have a8:=zh ag;clear ah ag;go_wp2;refine Qhh (u:=.slice none 0 0) (v:=.slice none 0 0) (y:=.iface 219 (.pointer (some ⟨ge,0,none⟩))) (Qd ad.o.cli 0 rfl) (Qu ad.o.cli 0) rfl rfl rfl ?_;have U:R=((6,p),([],[]),{ c with cache:=s1.cache },s1.net):=by rw[HR.o];unfold Y3;rw[zw (by rw[<-t.o];omega),zO,<-Q.o,<-t.o];unfold Qcy Qm.bind;rw[<-ab.o];have ak:o1=.error (.miss p):=ba.o;rw[ak]
  rw[U];exact Qnv P.o T.o C.o af B aw ad.o aa.o aq.o (.inl ⟨rfl,rfl⟩) (zv _ _ _ _) (.inr (.inr ⟨p,rfl,Jo.low a8.o (by have:=C.o.size;have:=T.o;omega)⟩)) (.inr rfl)
 have bk:o1=.ok b:=bk;subst bk;have ep:∃ ls e,Qs b=some ls/\ls[i%4]?=some e:=by
  have A:=HP.o;unfold Qcy Qm.bind at A;rw[<-ab.o] at A;dsimp only at A;cases hu:Qs b with
  | none=>rw[hu] at A;exact absurd rfl A
  | some ls=>
   rw[hu] at A;dsimp only[Option.getD] at A;cases he:ls[i%4]? with
   | none=>rw[he] at A;exact absurd rfl A
   | some e=>exact⟨ls,e,rfl,he⟩
 obtain⟨ls,ent,c6,be⟩:=ep;have dl:=Qeb (.slice a3 n3 c3) b w3 cq.at (d1.o b s1 ab.o.symm);obtain⟨ee,a7,X⟩:=zh3 dl c6 be;clear dl c6 be cq;have em:((i%4:Nat):Int)<(ls.length:Int):=by have:=(zj.1 X.o).1;omega
 have dy:(0:Int)<=((i%4:Nat):Int):=by omega
 go_upto_region 11 with (first|go_at_call 148;refine ee.o.m ?_;intro e w4 h4;obtain⟨v4,b4,rfl,cr,c8⟩:=Zb9 a7.o h4;obtain⟨L,b6⟩:=zh2 cr c8;clear h4 cr c8|fail)
 obtain⟨e9,K,ar⟩:=b6.o;have es:=K;obtain⟨ve,bx⟩:∃ ve,e9[i%4]?=some ve:=by have hl:=K.1;exact⟨_,ze (by omega)⟩
 have bl:=ar _ _ _ bx X.o;obtain⟨ae,ne,ce,er⟩:=Qi1 bl;subst er;obtain⟨a4,c4,eq,_,av⟩:=Zn K;obtain⟨eg,d0,ei,ej⟩:=av _ _ bx;subst ei;subst eq;have b7:=zh bl;have fc:w4.cell? ⟨eg,d0+(((i:Int)%4)).toNat,none⟩=some (.slice ae ne ce):=by rw[show ((i:Int)%4).toNat=i%4 by omega];exact ej
 have fd:(i:Int)%4<(ls.length:Int):=by omega
 have fb:(0:Int)<=(i:Int)%4:=by omega
 clear K ar es bx bl av em dy b6
 go_upto_region 12 with fail
 have al:∀ z,(Value.slice ae ne ce).ownBlock=some z->w3.heap.size<=z/\z<w4.heap.size:=Qr0 b7.o;have bo : @QIs ⟨⟨(Value.slice ae ne ce).ownBlock⟩⟩ w4 (cQ gq a gk E q D mq V I v c) x3 N s1 d:=QIs.outB (o2:=⟨(Value.slice ae ne ce).ownBlock⟩) ad.o L.o al;have cf:Qbj F (QS (cQ gq a gk E q D mq V I v c) x3) w4:=(b2.o.step aa.o aq.o).j L.o;have co:Bnd s1 (Z0 N (Y7 N 0 N i).reverse).length:=by
  have:=HB.o
  rw[ec.o] at this;have h2:=this.next (Qjt Jg (-1) (i / 4) N) (Qlv (Qc7 s0.net) Jg (-1) (i / 4) N s0 (Qcm.refl _));rw[<-ab.o] at h2;exact h2
 have br:Qcy N i s0=(match Zp N (Y7 N 0 N i).reverse s1 with|(.ok l,s2)=>(.ok (ent,l),s2)|(.error e,s2)=>(.error e,s2)):=by
  unfold Qcy Qm.bind;rw[<-ab.o];dsimp only;rw[a7.o];dsimp only[Option.getD];rw[X.o];dsimp only;cases hg:Zp N (Y7 N 0 N i).reverse s1 with
  | mk o s2=>cases o <;> rfl
 have c9:(Zp N (Y7 N 0 N i).reverse s1).1≠.error .panic:=λe=>by
  apply HP.o;rw[br];cases hg:Zp N (Y7 N 0 N i).reverse s1 with
  | mk o s2=>rw[hg] at e;dsimp only at e;subst e;rfl
 have dn:=λW hW=>@Qo7 ⟨⟨(Value.slice ae ne ce).ownBlock⟩⟩ W (cQ gq a gk E q D mq V I v c) x3 N s1 d (@QIs.j ⟨⟨(Value.slice ae ne ce).ownBlock⟩⟩ _ W _ _ _ _ _ bo hW)
 have da:=λW hW g1 g3 hc=>@Q57 ⟨⟨(Value.slice ae ne ce).ownBlock⟩⟩ F W (cQ gq a gk E q D mq V I v c) x3 N s1 d (@QIs.j ⟨⟨(Value.slice ae ne ce).ownBlock⟩⟩ _ W _ _ _ _ _ bo hW) (cf.j hW) g1 g3 hc i N hi (zg _) bu co c9
 obtain⟨ef,d9,ap,dv⟩:=zh4 dn da br al;clear al bo cf co br c9 dn da
 go_upto_region 13 with (first|go_at_call 140;refine (ef.o w4 (zu _ _)).m ?_;rintro e w5⟨g1,g3,rfl,cv,cs⟩;obtain⟨d2,M⟩:=zh2 cv cs;clear cv cs|go_at_call 149;refine (d9.o w5 M.o g1 g3 d2.o).m ?_;intro e w6 h6;obtain⟨v6,y6,rfl,de,dr⟩:=@Q0l ⟨⟨(Value.slice ae ne ce).ownBlock⟩⟩ _ _ _ _ _ _ _ _ _ h6;obtain⟨b9,cd⟩:=zh2 de dr;clear h6 de dr|fail)
 obtain⟨r2,bq⟩:=zzx (Zp N (Y7 N 0 N i).reverse s1)
 have cj:=b9.o;have cm:=cd.o;rw[<-bq] at cj cm;obtain⟨o2,s2⟩:=r2;obtain⟨x6,bz,bf,dj⟩:=cj;have dt:w2.heap.size<=w5.heap.size:=zi aa.o.size (zi L.o.size M.o.size);have cg:Fr (QS (cQ gq a gk E q D mq V I v c) ⟨.slice none 0 0,qs,[]⟩) w2 w6:=Fr.sub ((aa.o.t (Fr.ofBelow L.o)).t (Fr.ofBelow M.o)) bf aq.o;have ck:Sub w2 (QS (cQ gq a gk E q D mq V I v c) ⟨.slice none 0 0,qs,[]⟩) (QS (cQ gq a gk E q D mq V I v c) x6):=aq.o.t dj dt;have bm:Q3 w6 w3.heap.size (.slice ae ne ce) ent:=by have h5:Q3 w5 w3.heap.size (.slice ae ne ce) ent:=b7.o.j M.o;have eo:=@QIs.j ⟨⟨(Value.slice ae ne ce).ownBlock⟩⟩ _ w5 _ _ _ _ _ (QIs.outB (o2:=⟨(Value.slice ae ne ce).ownBlock⟩) ad.o L.o dv.o) M.o;exact @Qtm ⟨⟨(Value.slice ae ne ce).ownBlock⟩⟩ _ _ _ _ _ _ _ _ _ _ h5 bf eo
 obtain⟨bb,ao,S,ac,a9⟩:=zh5 bz cg ck bq bm;have bd:w6.heap[a]?=some (.cells (cliC 1 (.iface 48 (.pointer (some ⟨q,0,none⟩))) c.key c.size c.root gk) 205 (0,0)):=@QIs.cli ⟨⟨(Value.slice ae ne ce).ownBlock⟩⟩ _ _ _ _ _ _ bz;have j:=zh bd;have cn:w.heap.size<=w3.heap.size:=by have:=C.o.size;have:=T.o;have:=aa.o.size;omega
 have az:=zh cn;clear bz bf dj bq cg ck bm b9 cd bd cn dt;rcases cm with⟨l6,bn,rfl,dm⟩|⟨p,ah,rfl,⟨ge,rfl⟩,ag⟩
 rotate_left
 .have ba:=zh ah
  have a8:=zh ag;clear ah ag;go_wp2;refine Qhh (u:=.slice none 0 0) (v:=.slice none 0 0) (y:=.iface 219 (.pointer (some ⟨ge,0,none⟩))) (Qd j.o 0 rfl) (Qu j.o 0) rfl rfl rfl ?_;have U:R=((6,p),([],[]),{ c with cache:=s2.cache },s2.net):=by rw[HR.o];unfold Y3;rw[zw (by rw[<-t.o];omega),zO,<-Q.o,<-t.o,ap.o,<-ac.o];have ak:o2=.error (.miss p):=ba.o;rw[ak]
  rw[U];refine Qnv P.o T.o C.o af B aw (QIs.outB bb.o (zu _ _) λz hz=>by cases hz) ao.o S.o (.inl ⟨rfl,rfl⟩) (zv _ _ _ _) (.inr (.inr ⟨p,rfl,Jo.low a8.o (by have:=M.o.size;have:=L.o.size;have:=az.o;omega)⟩)) (.inr rfl)
 have bn:o2=.ok l6:=bn;subst bn;have cb:=zh dm;have c2:∀ W,Bz w6 W->Calls prog 151 #[.slice ae ne ce] W λe w'=>e=.returned (.agg #[bv (Jz ent)[0],bv (Jz ent)[1],bv (Jz ent)[2],bv (Jz ent)[3],bv (Jz ent)[4],bv (Jz ent)[5],bv (Jz ent)[6],bv (Jz ent)[7]])/\Bz W w':=λW hW=>by
  have dz:ent.length<=9223372036854775807:=by
   have:=(Qbb a7.o).2.2 ent (zr X.o)
   omega
  have:=Qln (.slice ae ne ce) ent W (a9.o.j hW).at dz
  rw[Qg5] at this;exact this
 have db:l6.length<=1048576:=by
  have e:=Qju N (Y7 N 0 N i).reverse s1 s2 l6 ac.o.symm
  have:=Qle N 63 0 N i (by omega) (zg _)
  rw[e,xG];omega
 have aj:∀ W,Bz w6 W->Calls prog 150 #[.agg #[bv (Jz ent)[0],bv (Jz ent)[1],bv (Jz ent)[2],bv (Jz ent)[3],bv (Jz ent)[4],bv (Jz ent)[5],bv (Jz ent)[6],bv (Jz ent)[7]],.int .i64 i,.int .i64 N,v6,.agg #[bv c.root[0],bv c.root[1],bv c.root[2],bv c.root[3],bv c.root[4],bv c.root[5],bv c.root[6],bv c.root[7]]] W λe w'=>e=.returned (.bool (Qab (Jz ent) i N l6 c.root))/\Bz W w':=λW hW=>by
  have:=Qk2 l6 (Jz ent) c.root i N v6 W (Qa5.at (Qn cb.o hW)) (by omega) (by omega) db
  rw[Qg5,Qg5] at this;exact this
 obtain⟨ib,bh⟩:=zzx (Qab (Jz ent) i N l6 c.root)
 rw[<-bh] at aj;have k0:w6.cell? ⟨a,5,none⟩=some (bv c.root[0]):=Qd j.o 5 rfl;have et:w6.drew.cell? ⟨a,5,none⟩=some (bv c.root[0]):=k0;have k1:w6.cell? ⟨a,6,none⟩=some (bv c.root[1]):=Qd j.o 6 rfl;have eu:w6.drew.cell? ⟨a,6,none⟩=some (bv c.root[1]):=k1;have k2:w6.cell? ⟨a,7,none⟩=some (bv c.root[2]):=Qd j.o 7 rfl;have ev:w6.drew.cell? ⟨a,7,none⟩=some (bv c.root[2]):=k2;have k3:w6.cell? ⟨a,8,none⟩=some (bv c.root[3]):=Qd j.o 8 rfl;have ew:w6.drew.cell? ⟨a,8,none⟩=some (bv c.root[3]):=k3;have k4:w6.cell? ⟨a,9,none⟩=some (bv c.root[4]):=Qd j.o 9 rfl;have ex:w6.drew.cell? ⟨a,9,none⟩=some (bv c.root[4]):=k4;have k5:w6.cell? ⟨a,10,none⟩=some (bv c.root[5]):=Qd j.o 10 rfl;have ey:w6.drew.cell? ⟨a,10,none⟩=some (bv c.root[5]):=k5;have k6:w6.cell? ⟨a,11,none⟩=some (bv c.root[6]):=Qd j.o 11 rfl;have ez:w6.drew.cell? ⟨a,11,none⟩=some (bv c.root[6]):=k6;have k7:w6.cell? ⟨a,12,none⟩=some (bv c.root[7]):=Qd j.o 12 rfl;have e8:w6.drew.cell? ⟨a,12,none⟩=some (bv c.root[7]):=k7;have g:a<w6.heap.size:=Qb j.o;obtain⟨d6,du,b3⟩:=zh3 c2 aj bh;clear c2 aj bh db dm
 go_upto_region 15 with fail
 go_region_held3 (λw'=>w'.cell? ⟨a,5,none⟩=some (bv c.root[0])/\w'.cell? ⟨a,6,none⟩=some (bv c.root[1])/\w'.cell? ⟨a,7,none⟩=some (bv c.root[2])/\w'.cell? ⟨a,8,none⟩=some (bv c.root[3])/\w'.cell? ⟨a,9,none⟩=some (bv c.root[4])/\w'.cell? ⟨a,10,none⟩=some (bv c.root[5])/\w'.cell? ⟨a,11,none⟩=some (bv c.root[6])/\w'.cell? ⟨a,12,none⟩=some (bv c.root[7])) (first|with_reducible exact⟨k0,k1,k2,k3,k4,k5,k6,k7⟩|with_reducible exact⟨et,eu,ev,ew,ex,ey,ez,e8⟩|with_reducible exact⟨m0,m1,m2,m3,m4,m5,m6,m7⟩|with_reducible exact⟨e0,e1,e2,e3,e4,e5,e6,e7⟩|fail) (first|go_at_call 151;refine (d6.o _ (Ql w6)).m ?_;rintro e w7⟨rfl,ct⟩;have m:=zh (show Bz w6 w7 from (Ql w6).t ct);have m0:=(m.o.cell (p:=⟨a,5,none⟩) g).t k0;have m1:=(m.o.cell (p:=⟨a,6,none⟩) g).t k1;have m2:=(m.o.cell (p:=⟨a,7,none⟩) g).t k2;have m3:=(m.o.cell (p:=⟨a,8,none⟩) g).t k3;have m4:=(m.o.cell (p:=⟨a,9,none⟩) g).t k4;have m5:=(m.o.cell (p:=⟨a,10,none⟩) g).t k5;have m6:=(m.o.cell (p:=⟨a,11,none⟩) g).t k6;have m7:=(m.o.cell (p:=⟨a,12,none⟩) g).t k7;clear ct|go_at_call 150;refine (du.o w7 m.o).m ?_;rintro e w8⟨rfl,cu⟩;have f:=zh (m.o.t (cu.m m.o.size));have e0:=(f.o.cell (p:=⟨a,5,none⟩) g).t k0;have e1:=(f.o.cell (p:=⟨a,6,none⟩) g).t k1;have e2:=(f.o.cell (p:=⟨a,7,none⟩) g).t k2;have e3:=(f.o.cell (p:=⟨a,8,none⟩) g).t k3;have e4:=(f.o.cell (p:=⟨a,9,none⟩) g).t k4;have e5:=(f.o.cell (p:=⟨a,10,none⟩) g).t k5;have e6:=(f.o.cell (p:=⟨a,11,none⟩) g).t k6;have e7:=(f.o.cell (p:=⟨a,12,none⟩) g).t k7;clear cu|fail)
 all_goals (
  cases ib with
  | false=>
   have hg:=((b2.o.step ao.o S.o).j f.o).sents.cells.2.2.2.2.1
   have an:=zh ((f.o.block _ g).t j.o)
   go_wp2
   go_region
   all_goals (
    go_wp2
    refine Qhh (u:=.slice none 0 0) (v:=.slice none 0 0) (y:=.iface 370 (.pointer (some (F 4)))) (Qd (w:=w8.drew) an.o 0 rfl) (Qu (w:=w8.drew) an.o 0) rfl rfl rfl ?_
    have U:R=((5,⟨#[]⟩),([],[]),{ c with cache:=s2.cache },s2.net):=by
     rw[HR.o]
     unfold Y3
     rw[zw (by rw[<-t.o];omega),zO,<-Q.o,<-t.o,ap.o,<-ac.o]
     dsimp only
     rw[<-b3.o]
     rfl
    rw[U]
    refine Qnv P.o T.o C.o af B aw (QIs.outB bb.o (f.o.t (Ql w8 |>.m f.o.size)) λz hz=>by cases hz) (ao.o.t (Fr.ofBelow (f.o.t (Ql w8 |>.m f.o.size)))) S.o (.inl ⟨rfl,rfl⟩) (zv _ _ _ _) (.inr (.inl ⟨4,by decide,by decide,rfl,rfl⟩)) (.inr rfl))
  | true=>
   have ai:=@QIs.j ⟨⟨(Value.slice ae ne ce).ownBlock⟩⟩ _ w8 _ _ _ _ _ bb.o f.o
   have Z:Cost (readT N i).length s0 s2:=by
    have:=Qpr N i s0
    rw[ap.o,<-ac.o] at this
    exact this
   have c5:x6.qs.length+x6.vs.length<1099511627775:=by
    have a1:s2.cache.items.length=x6.qs.length:=by rw[@Yd.items ⟨⟨(Value.slice ae ne ce).ownBlock⟩⟩ _ _ _ _ _ (@QIs.cache ⟨⟨(Value.slice ae ne ce).ownBlock⟩⟩ _ _ _ _ _ _ ai),zA]
    have a2:s2.files.length=x6.vs.length:=by rw[@QIs.files ⟨⟨(Value.slice ae ne ce).ownBlock⟩⟩ _ _ _ _ _ _ ai,zA]
    have a3:=Z.files
    have a4:=Z.items
    have a5:s0.files.length=0:=by rw[Q.o];rfl
    have a6:s0.cache.items.length=c.cache.items.length:=by rw[Q.o];rfl
    have:=HL.o
    omega
   have dg:=@Qnp ⟨⟨(Value.slice ae ne ce).ownBlock⟩⟩ w8 _ x6 N s2 d ai c5
   have c1:=@Qar ⟨⟨(Value.slice ae ne ce).ownBlock⟩⟩ _ _ _ _ _ (@QIs.cache ⟨⟨(Value.slice ae ne ce).ownBlock⟩⟩ _ _ _ _ _ _ ai)
   have eb:=zh dg
   have b5:=zh c1
   clear ai Z c5 dg c1
   go_wp2_with (first|go_at_call 143;refine eb.o.m ?_;rintro e w9⟨rfl,fh,df,cz,dk⟩;obtain⟨ca,a0,ed⟩:=zh3 df cz dk;clear df cz dk|go_at_call 152;refine (Q8h w9 w3.heap.size (.slice ae ne ce) ent (Qrm (a9.o.j f.o) a0.o b5.o (by decide))).m ?_;rintro e fa⟨u10,rfl,bw,ax,rfl⟩;obtain⟨dw,d8⟩:=zh2 bw ax;clear bw ax|fail)
   have bi:fa.heap[a]?=some (.cells (cliC 1 (.iface 48 (.pointer (some ⟨q,0,none⟩))) c.key c.size c.root gk) 205 (0,0)):=@QIs.cli ⟨⟨(Value.slice ae ne ce).ownBlock⟩⟩ _ _ _ _ _ _ ca.o
   refine Qhh (u:=u10) (v:=v6) (y:=.nilIface) (Qd bi 0 rfl) (Qu bi 0) rfl rfl rfl ?_
   have U:R=(Qbs,(ent,l6),{ c with cache:=Zl s2.cache s2.files },s2.net):=by
    rw[HR.o]
    unfold Y3
    rw[zw (by rw[<-t.o];omega),zO,<-Q.o,<-t.o,ap.o,<-ac.o]
    dsimp only
    rw[<-b3.o]
    rfl
   rw[U]
   have ch:Fr (QS (cQ gq a gk E q D mq V I v c) ⟨.slice none 0 0,qs,[]⟩) w2 w8:=ao.o.t (Fr.ofBelow f.o)
   refine Qnv (s:={ s2 with cache:=Zl s2.cache s2.files }) P.o T.o C.o af B aw (by rw[d8.o];exact ca.o) (Fr.sub ch (a0.o.weak λ_ _ e=>.inr (.inl e)) S.o) (λk hk=>?_) (dw.o.m az.o) (Zg (Zm (Qn cb.o f.o) a0.o b5.o (by decide)) (by have:=M.o.size;have:=L.o.size;have:=az.o;omega)) (.inl ⟨rfl,rfl⟩) (.inl rfl)
   rcases hk with e|e|e
   .exact S.o k (.inl e)
   .rcases zK k w8.heap.size with bj|bg
    .exact S.o k (.inr (.inl (ed.o k bj e)))
    exact .inr (zi ch.size bg)
   exact S.o k (.inr (.inr e)))
end
end
end Go.Proofs.YtefccfakhgdfbaaGreatDoor
