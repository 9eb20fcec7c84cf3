/- Lemmas of the proof of All; their conditions stand in them. -/
import Derived.Test.YtefccfakhgdfbaaGreatDoorAl06
import Derived.Maps.OwnIn
import Derived.Conc.MuLone
import Derived.Conc.RwLib
import Derived.Conc.MuData
set_option linter.unusedVariables false
set_option linter.unusedSimpArgs false
open Go.RowKit Go.Proofs.Tryz
set_option maxRecDepth 100000
set_option maxHeartbeats 4000000
namespace Go.Proofs.YtefccfakhgdfbaaGreatDoor
section
def Za1(w:G)(l:List Fil)(key:O)(p:Pl)(w':G):Prop:=
 Qa6 w' p ⟨key,dk0 (firsts l),none,[],0,false,false⟩/\Bz w w'/\∀ k,WdS p ⟨key,dk0 (firsts l),none,[],0,false,false⟩ k->w.heap.size<=k
theorem Qlf(w:G)(m:J)(l:List Fil)(key:O)(h:Y6 w m l)(t:l.length<=1073741824):Calls prog 20 #[m,.string key] w λe w'=>∃ p,e=.returned (.pointer (some ⟨p.gw,0,none⟩))/\Za1 w l key p w':=by
 obtain⟨wb,b⟩:=zzx (w.alloc (.cells #[.pointer none,.string key,.pointer none,.slice none 0 0,.int .i64 0,.bool false,.bool false] 53))
 have hb:Bz w wb:=by rw[b];exact Qa w _
 have j:wb.heap[w.heap.size]?=some (.cells #[.pointer none,.string key,.pointer none,.slice none 0 0,.int .i64 0,.bool false,.bool false] 53 (0,0)):=by rw[b];exact zy w _
 obtain⟨HN,HB,f,i⟩:=zh4 (Qyp wb m l (h.j hb) t) hb j b;clear h hb j b
 go_enter func20,ntmps20
 go_upto_region 2 with fail
 rw[<-i.o];clear i
 go_wp2_with (first|go_at_call 70;refine HN.o.m ?_;rintro e w1⟨g,v,rfl,hd,d,hg,hv⟩;obtain⟨HD,n,HV⟩:=zh3 hd d hv;have a:=(d.block _ (Qb f.o)).t f.o;have c:=zh a;have o0:=Qd a 0 rfl;have of:=Qu a 0;clear hd d hv a|fail)
 go_ret;have s:=HB.o.size;have r:=Q1 c.o;have q:=Fr.set1 w1 w.heap.size 0 (.pointer (some ⟨g,0,none⟩));refine⟨⟨w.heap.size,g,v,.slice none 0 0,0,0,.slice none 0 0,.slice none 0 0,.slice none 0 0,[]⟩,rfl,⟨(heap_setCell c.o _).t (by simp[Qez,plV]),HD.o.kept q r (by decide) (by decide),zv _ _ _ _,λL hL=>by cases hL⟩,?_,?_⟩
 .exact (HB.o.t (n.o.m HB.o.size)).setCell (zg _) _
 intro k hk;rcases hk with hk|(hk|hk)|hk|⟨hk,_⟩
 .exact VN hk.symm
 .have:k=g:=hk
  omega
 .exact zi s (HV.o k hk)
 .cases hk
 cases hk
structure Op1 where
 kind:Int
 a:Int
 two:Bool
 s:O
def Qvd(w:G)(v:J)(l:List Op1):Prop:=
 ∃ a c,v=.slice a l.length c/\l.length<=c/\∀ j x,l[j]?=some x->∃ b off,a=some ⟨b,off,none⟩/\w.cell? ⟨b,off+j*4,none⟩=some (.int .i64 x.kind)/\w.cell? ⟨b,off+j*4+1,none⟩=some (.int .i64 x.a)/\w.cell? ⟨b,off+j*4+2,none⟩=some (.bool x.two)/\w.cell? ⟨b,off+j*4+3,none⟩=some (.string x.s)
theorem Qvd.j{w w':G}{v:J}{l:List Op1}(h:Qvd w v l)(d:Bz w w'):Qvd w' v l:=by obtain⟨a,c,hv,hc,hx⟩:=h;refine⟨a,c,hv,hc,λj x hj=>?_⟩;obtain⟨b,off,ha,h1,h2,h3,h4⟩:=hx j x hj;exact⟨b,off,ha,(d.cell (Qj h1)).t h1,(d.cell (Qj h2)).t h2,(d.cell (Qj h3)).t h3,(d.cell (Qj h4)).t h4⟩
def Zab(l:List Fil)(ops:List Op1)(w:G)(e:Ua)(w':G):Prop:=∃ b,e=.returned (.bool b)/\w=w'/\(b=true->l.length<=4096/\ops.length<=4096/\∀ f∈l,f.1.size<=1048576/\f.2.size<=1048576)
theorem Qpm(w:G)(p q:J)(l:List Fil)(d:List Op1)(h:Y6 w p l)(r:Qvd w q d)(v:l.length<=9223372036854775807)(u:d.length<=9223372036854775807):Calls prog 64 #[p,q] w (Zab l d w):=by
 obtain⟨a,c,rfl,hc,hx⟩:=h;obtain⟨ao,co,rfl,s,_⟩:=r;have HX:=zh hx;clear hx;by_cases h1:4096<l.length
 .have hz:(4096:Int)<(l.length:Int):=by omega
  go_enter func64,ntmps64
  go_wp2;go_ret;exact⟨false,rfl,rfl,λh=>by cases h⟩
 have hz:¬ (4096:Int)<(l.length:Int):=by omega
 by_cases h2:4096<d.length
 .have n:(4096:Int)<(d.length:Int):=by omega
  go_enter func64,ntmps64
  go_wp2;go_ret;exact⟨false,rfl,rfl,λh=>by cases h⟩
 have n:¬ (4096:Int)<(d.length:Int):=by omega
 go_enter func64,ntmps64
 go_wp2
 go_loop [5] (λs5=>∃ k:Nat,k<=l.length/\s5=.int .i64 k/\Aside (∀ j f,j<k->l[j]?=some f->f.1.size<=1048576/\f.2.size<=1048576)) (λs5=>l.length-(intOf s5).toNat)
 case atStart=>exact⟨0,zE _,rfl,λj f hj=>by omega⟩
 case round=>
  obtain⟨k,hk,rfl,HM⟩:=hrel;by_cases hlt:k<l.length
  .obtain⟨x,hx⟩:∃ x,l[k]?=some x:=⟨_,ze hlt⟩
   obtain⟨b,off,rfl,d1,d2⟩:=HX.o k x hx;have m:(k:Int)<(l.length:Int):=by omega
   have t:(0:Int)<=(k:Int):=by omega
   have g:=zh hx;clear hx;by_cases g2:1048576<x.2.size
   .have gz:(1048576:Int)<(x.2.size:Int):=by omega
    go_wp2;go_ret;exact⟨false,rfl,rfl,λh=>by cases h⟩
   have gz:¬ (1048576:Int)<(x.2.size:Int):=by omega
   by_cases g1:1048576<x.1.size
   .have i:(1048576:Int)<(x.1.size:Int):=by omega
    go_wp2;go_ret;exact⟨false,rfl,rfl,λh=>by cases h⟩
   have i:¬ (1048576:Int)<(x.1.size:Int):=by omega
   go_wp2
   go_round
   case rel=>
    refine⟨k+1,by omega,by go_num,λj f hj hf=>?_⟩;by_cases hjk:j=k
    .subst hjk
     rw[g.o] at hf;cases hf;exact⟨by omega,by omega⟩
    exact HM.o j f (by omega) hf
   case measure=>simp[intOf];omega
  have m:¬ (k:Int)<(l.length:Int):=by omega
  have e:k=l.length:=by omega
  have HK:=zh e;clear e;go_wp2;go_ret;refine⟨true,rfl,rfl,λ_=>⟨by omega,by omega,λf hf=>?_⟩⟩;obtain⟨j,hj⟩:=Vc.1 hf;exact HM.o j f (by rw[HK.o];exact (zj.1 hj).1) hj
variable {w:G} {m:Wm} {k:Nat}
theorem Qa6.lt{p:Pl}(h:Qa6 w p m)(a:WdS p m k):k<w.heap.size:=by
 rcases a with a|(a|a)|a|⟨hl,a|a⟩
 .exact a ▸ Qb h.cells
 .exact a ▸ h.disk.lt
 .obtain⟨C,hC⟩:=Qk h.disk.2 a
  exact Qb hC
 .obtain⟨C,hC⟩:=Qk h.ents a
  exact Qb hC
 .obtain⟨L,hL⟩:=VJ.1 hl
  exact a ▸ Qb (h.log L hL).1
 obtain⟨L,hL⟩:=VJ.1 hl;obtain⟨C,t,hC,_⟩:=(h.log L hL).2.kinds a;exact Qb hC
structure Pair(w0:G)(g1 g2:Nat)(key1 key2:O)(k:Nat)(w:G)(p1:Pl)(m1:Wm)(p2:Pl)(m2:Wm):Prop where
 one:Qa6 w p1 m1
 two:Qa6 w p2 m2
 g1:p1.gw=g1
 g2:p2.gw=g2
 k1:m1.key=key1
 k2:m2.key=key2
 good1:∃ U,U.length<=4096+k/\Qjd m1 U (4096+k*2097152)
 good2:∃ U,U.length<=4096+k/\Qjd m2 U (4096+k*2097152)
 new1:∀ i,WdS p1 m1 i->w0.heap.size<=i
 new2:∀ i,WdS p2 m2 i->w0.heap.size<=i
 apart:∀ i,WdS p1 m1 i->¬ WdS p2 m2 i
 j:Bz w0 w
variable {w0:G} {g1 g2:Nat} {key1 key2:O} {p1 p2:Pl} {m1 m2:Wm}
theorem Pair.swap(h:Pair w0 g1 g2 key1 key2 k w p1 m1 p2 m2):Pair w0 g2 g1 key2 key1 k w p2 m2 p1 m1:=
 ⟨h.two,h.one,h.g2,h.g1,h.k2,h.k1,h.good2,h.good1,h.new2,h.new1,λi hi hj=>h.apart i hj hi,h.j⟩
variable {U:List Nat}
theorem Qjd.bound{K a:Nat}(h:Qjd m U K)(b:K<=a):Qjd m U a:=h.imp id λh=>⟨h.1,h.2.bound b⟩
theorem Pair.step(h:Pair w0 g1 g2 key1 key2 k w p1 m1 p2 m2)(c:U.length<=4096+k){e:Ua}{w':G}(a:Qxs w p1 m1 U (4096+k*2097152+2097152) e w'):e=.returned (.bool true)/\∃ p' m',Pair w0 g1 g2 key1 key2 (k+1) w' p' m' p2 m2:=by
 obtain⟨U',b,he,p',m',x1,x2,x3,x4,x5,x6⟩:=a;have hz:=h.j.size;refine⟨he,p',m',x3,h.two.fr x5 (λi hi hj=>h.apart i hj hi) h.one.noBytes,x1.t h.g1,h.g2,x2.t h.k1,h.k2,⟨U',by omega,x4.bound (by omega)⟩,?_,?_,h.new2,?_,?_⟩
 .obtain⟨V,hV,hG⟩:=h.good2
  exact⟨V,by omega,hG.bound (by omega)⟩
 .intro i hi
  rcases x6 i hi with h1|h1
  .exact h.new1 i h1
  omega
 .intro i hi hj
  rcases x6 i hi with h1|h1
  .exact h.apart i h1 hj
  have:=h.two.lt hj
  omega
 exact h.j.t (x5.j hz λi hi hj=>by have:=h.new1 i hj;omega)
theorem Pair.call{f:Nat->Addr}(h:Pair w0 g1 g2 key1 key2 k w p1 m1 p2 m2)(m:k<=5000)(l:Z5 w0)(i:Yp w0 f)(j:Qio w0)(c:key1.size<=1048600)(o:Op1)(d : -9223372036854775808<=o.a)(g:o.a<=9223372036854775807):Calls prog 66 #[.pointer (some ⟨g1,0,none⟩),.agg #[.int .i64 o.kind,.int .i64 o.a,.bool o.two,.string o.s]] w λe w'=>e=.returned (.bool true)/\∃ p' m',Pair w0 g1 g2 key1 key2 (k+1) w' p' m' p2 m2:=by
 obtain⟨U,hU,hG⟩:=h.good1;have b:=Q5g f w p1 m1 U (4096+k*2097152) o.kind o.a o.two o.s h.one hG (Qjo h.j l i j h.new1) (by omega) (by omega) (by rw[h.k1];exact c) d g;rw[h.g1] at b;exact b.m λe w' hs=>h.step hU hs
def Ql4(w:G)(e:Ua)(w':G):Prop:=e=.returned (.bool true)/\Bz w w'
theorem Qqq(f:Nat->Addr)(w:G)(F V:J)(l:List Fil)(key:O)(c:List Op1)(h:Y6 w F l)(U:Qvd w V c)(hl:l.length<=9223372036854775807)(hm:c.length<=9223372036854775807)(hn:Z5 w)(T:Yp w f)(hT:Qio w)(K:∀ o∈c,-9223372036854775808<=o.a/\o.a<=9223372036854775807):Calls prog 18 #[F,.string key,V] w (Ql4 w):=by
 obtain⟨HF,HO,aa⟩:=zh3 h U (Qpm w F V l c h U hl hm);obtain⟨ao,co,rfl,_,_⟩:=U;obtain⟨ab,HN,HS,HT,X⟩:=zh5 (Qu9 f w T) hn T hT K;clear h hn T hT K
 go_enter func18,ntmps18
 go_upto_region 2 with (first|go_at_call 64;refine aa.o.m ?_;rintro e w1⟨b,rfl,rfl,hb⟩;have Z:=zh hb;clear hb|fail)
 cases b with
 | false=>
  go_wp2;go_ret;exact⟨rfl,zu _ _⟩
 | true=>
  by_cases hky:1048576<key.size
  .have C:(1048576:Int)<(key.size:Int):=by omega
   go_wp2;go_ret;exact⟨rfl,zu _ _⟩
  have C:¬ (1048576:Int)<(key.size:Int):=by omega
  obtain⟨ar,au,Q⟩:=Z.o rfl;have af:=zh Q;clear Q
  go_upto_region 7 with (first|go_at_call 65;refine ab.o.m ?_;rintro e w1⟨rfl,M⟩;have H:=zh M;clear M|fail)
  have y:Bz w (w1.alloc (.cells #[.int .i64 7,.string ⟨#[]⟩] 63)):=H.o.alloc H.o.size _;obtain⟨r,I⟩:=zh2 y (Qlf _ F l key (HF.o.j y) (by omega));have B:(key++(⟨#[50]⟩:O)).size<=1048600:=by
   rw[x9]
   have:(⟨#[50]⟩:O).size=1:=rfl
   omega
  obtain⟨k2,q⟩:=zzx (key++(⟨#[50]⟩:O))
  rw[<-q] at B;have S:=zh q;have ag:=zh λ(W:G)=>Qlf W (.slice none 0 0) [] k2 ⟨none,0,rfl,zg _,λj x hx=>by simp at hx⟩ (by decide)
  obtain⟨w2,E⟩:=zzx (w1.alloc (.cells #[.int .i64 7,.string ⟨#[]⟩] 63))
  rw[<-E] at r I;rw[<-E];clear y E q
  go_upto_region 8 with (first|go_at_call 20;refine I.o.m ?_;rintro e w3⟨p1,rfl,N⟩;have s:=zh N;clear N|fail)
  go_wp2_with fail
  rw[<-S.o]
  go_at_call 20
  refine (ag.o _).m ?_;rintro e w4⟨p2,rfl,n⟩;have an:=zh n;have t:=s.o.2.1;have A:=n.2.1;have z:Bz w w4:=r.o.t ((t.t (A.m t.size)).m r.o.size);have av:=r.o.size;have aw:=t.size;have u:Pair w p1.gw p2.gw key k2 0 w4 p1 ⟨key,dk0 (firsts l),none,[],0,false,false⟩ p2 ⟨k2,dk0 (firsts []),none,[],0,false,false⟩:=by
   refine⟨s.o.1.j A,n.1,rfl,rfl,rfl,rfl,⟨Q4g l,by simp[Q4g];omega,.inr ⟨rfl,Qn8 (by omega) λf hf=>(af.o f hf).2,λL hL=>by cases hL⟩⟩,⟨Q4g [],by simp[Q4g],.inr ⟨rfl,Qn8 (by simp) λf hf=>by simp at hf,λL hL=>by cases hL⟩⟩,?_,?_,?_,z⟩
   .intro i hi
    have:=s.o.2.2 i hi
    omega
   .intro i hi
    have:=n.2.2 i hi
    omega
   intro i hi hj;have h1:=s.o.1.lt hi;have h2:=n.2.2 i hj;omega
  have ac:=zh u;clear n t A z u
  go_wp2_with fail
  go_loopw [7,12] (λs7 s12 wr=>∃ k:Nat,k<=c.length/\s12=.int .i64 k/\∃ q1 n1 q2 n2,Aside (Pair w p1.gw p2.gw key k2 k wr q1 n1 q2 n2)) (λ_ s12 _=>c.length-(intOf s12).toNat)
  case atStart=>exact⟨0,zE _,rfl,_,_,_,_,ac.o⟩
  case round=>
   obtain⟨k,hk,rfl,q1,n1,q2,n2,HP⟩:=hrel;by_cases hlt:k<c.length
   .obtain⟨o,D⟩:∃ o,c[k]?=some o:=⟨_,ze hlt⟩
    obtain⟨ao',co',ai,_,R⟩:=HO.o.j HP.o.j;obtain⟨b,off,aj,d0,d1,d2,d3⟩:=R k o D;cases ai;subst aj;have C:(k:Int)<(c.length:Int):=by omega
    have ap:(0:Int)<=(k:Int):=by omega
    have p:=X.o o (zr D);obtain⟨g,m⟩:=zh2 (HP.o.call (f:=f) (by omega) HN.o HS.o HT.o (by omega) o p.1 p.2) (HP.o.swap.call (f:=f) (by omega) HN.o HS.o HT.o B o p.1 p.2);clear R D p;cases htw:o.two with
    | true=>
     rw[htw] at d2 m;clear g htw
     go_wp2_with (first|go_at_call 66;refine m.o.m ?_;rintro e w5⟨rfl,p',m',d⟩;have v:=zh d.swap;clear d|fail)
     go_roundw
     case rel=>exact⟨k+1,by omega,by go_num,_,_,_,_,v.o⟩
     case measure=>simp[intOf];omega
    | false=>
     rw[htw] at d2 g;clear m htw
     go_wp2_with (first|go_at_call 66;refine g.o.m ?_;rintro e w5⟨rfl,p',m',d⟩;have v:=zh d;clear d|fail)
     go_roundw
     case rel=>exact⟨k+1,by omega,by go_num,_,_,_,_,v.o⟩
     case measure=>simp[intOf];omega
   have C:¬ (k:Int)<(c.length:Int):=by omega
   have aq:k<=4096:=by omega
   have m:=zh (HP.o.swap.call (f:=f) (by omega) HN.o HS.o HT.o B ⟨1,0,false,⟨#[]⟩⟩ (by decide) (by decide));have g:=zh λ(w5:G) (p':Pl) (m':Wm) (hp:Pair w p1.gw p2.gw key k2 (k+1) w5 q1 n1 p' m')=>hp.call (f:=f) (by omega) HN.o HS.o HT.o (by omega) ⟨1,0,false,⟨#[]⟩⟩ (by decide) (by decide)
   dsimp only at g m
   go_upto_region 18 with (first|go_at_call 66;refine m.o.m ?_;rintro e w5⟨rfl,p',m',d⟩;have ad:=zh d.swap;clear d|fail)
   go_wp2_with (first|go_at_call 66;refine (g.o w5 p' m' ad.o).m ?_;rintro e w6⟨rfl,p6,m6,P⟩;have ae:=zh P;clear P|fail)
   go_ret;exact⟨rfl,ae.o.j⟩
structure Lie1 where
 path:O
 data:O
 fails:Bool
 times:Int
structure Nt where
 files:List Fil
 lies:List Lie1
 told:List Nat
 fetches:Nat
def Qem(n:Nt)(p:O)(i:Nat):Bool:=match n.lies[i]? with
 | some l=>decide (l.path=p) && !(decide (0<l.times) && decide (l.times<=((n.told.getD i 0:Nat):Int)))
 | none=>false
def Qcb(n:Nt)(p:O):Nat->Nat->Y Nat
 | 0,_=>none
 | k+1,i=>if Qem n p i=true then some i else Qcb n p k (i+1)
def Qdu(n:Nt)(p:O):Y Nat:=Qcb n p n.lies.length 0
def Yx(n:Nt)(p:O):Y Ud:=match Qdu n p with
 | some i=>(n.lies[i]?).bind λl=>if l.fails=true then none else some l.data.data.toList
 | none=>(getF n.files p).map (·.data.toList)
def Zt(n:Nt)(p:O):Nt:=match Qdu n p with
 | some i=>{ n with fetches:=n.fetches+1,told:=n.told.set i (n.told.getD i 0+1) }
 | none=>{ n with fetches:=n.fetches+1 }
abbrev Kv:=O×Ud
structure Cch where
 most:Nat
 items:List Kv
def Yj(l:List Kv)(p:O):Y Ud:=(l.find? λx=>decide (x.1=p)).map (·.2)
def Ju(l:List Kv)(p:O):List Kv:=l.filter λx=>!decide (x.1=p)
def Yz(c:Cch)(p:O):Cch:=match Yj c.items p with
 | some v=>{ c with items:=(p,v) :: Ju c.items p }
 | none=>c
def Yg(c:Cch)(p:O)(v:Ud):Cch:=
 if c.most=0 then c else
 if (Yj c.items p).isSome=true then { c with items:=(p,v) :: Ju c.items p } else
 if c.items.length=c.most then { c with items:=(p,v) :: c.items.dropLast } else { c with items:=(p,v) :: c.items }
structure Cs where
 net:Nt
 cache:Cch
 files:List Kv
inductive QErr where
 | miss (p:O)
 | panic
abbrev Qm(α:Type):=Cs->Except QErr α×Cs
def Qm.pure{α:Type}(a:α):Qm α:=λs=>(.ok a,s)
def Qm.bind{α β:Type}(m:Qm α)(f:α->Qm β):Qm β:=λs=>match m s with
 | (.ok a,s1)=>f a s1
 | (.error p,s1)=>(.error p,s1)
def Qjc(p:O)(b:Ud)(s:Cs):Cs:={ s with files:=s.files ++ [(p,b)] }
abbrev Qj1:=Ud->Nat->Nat->Y Ud
def tryQ(fits:Qj1)(q:O)(have' want:Nat)(s:Cs):Y Ud:=(Yx s.net q).bind λdata=>fits data have' want
def Zk(q:O)(s:Cs):Cs:={ s with net:=Zt s.net q }
def Qt(level:Int)(index w:Nat):O:=sOf (Yb level index w)
def Zr(index count:Nat):Nat:=min 4 (count-4*index)
def Qdt(fits:Qj1)(level:Int)(index w:Nat):Qm Ud:=λs=>
 match tryQ fits (Qt level index w) w w s with
 | some b=>(.ok b,Qjc (Qt level index w) b (Zk (Qt level index w) s))
 | none=>if w=4 then (.error (.miss (Qt level index w)),Zk (Qt level index w) s) else
  match tryQ fits (Qt level index 4) 4 w (Zk (Qt level index w) s) with
  | some b=>(.ok b,Qjc (Qt level index w) b (Zk (Qt level index 4) (Zk (Qt level index w) s)))
  | none=>(.error (.miss (Qt level index w)),Zk (Qt level index 4) (Zk (Qt level index w) s))
def Qby(fits:Qj1)(level:Int)(index count:Nat):Qm Ud:=λs=>
 match Yj s.files (Qt level index (Zr index count)) with
 | some b=>(.ok b,s)
 | none=>match Yj s.cache.items (Qt level index (Zr index count)) with
  | some b=>(.ok b,Qjc (Qt level index (Zr index count)) b { s with cache:=Yz s.cache (Qt level index (Zr index count)) })
  | none=>Qdt fits level index (Zr index count) s
def Qat:Qj1:=λdata have' want=>if data.length=8*have' then some (data.take (8*want)) else none
def Jg:Qj1:=λdata have' want=>(Qs data).bind λl=>if l.length=have' then Yf (l.take want) else none
def Qsb(b:Ud)(k:Nat):Hsh:=Zi (b.drop (8*k))
def Qnr(b:Ud)(k:Nat):Qm Hsh:=λs=>if b.length<8*k then (.error .panic,s) else (.ok (Qsb b k),s)
def Qdg(n level index:Nat):Qm Hsh:=Qm.bind (Qby Qat ((level / 2:Nat):Int) (index / 4) (n / 2 ^ level)) λb=>Qnr b (index%4)
def Qe2(n level index:Nat):Qm Hsh:=
 if level%2=1 then Qm.bind (Qdg n (level-1) (2*index)) λa=>Qm.bind (Qdg n (level-1) (2*index+1)) λb=>Qm.pure (Z9 a b)
 else Qdg n level index
def rootQ(N:Nat):Nat->Nat->Nat->Qm Hsh
 | 0,_,_=>λs=>(.error .panic,s)
 | f+1,i,n=>if n &&& (n-1)=0/\i%n=0 then Qe2 N (Lib.bitLen n-1) (i / n)
  else Qm.bind (rootQ N f i (below n)) λa=>Qm.bind (rootQ N f (i+below n) (n-below n)) λb=>Qm.pure (Z9 a b)
def Zp(N:Nat):List (Nat×Nat)->Qm (List Hsh)
 | []=>Qm.pure []
 | x :: xs=>Qm.bind (rootQ N (x.2-x.1) x.1 (x.2-x.1)) λh=>Qm.bind (Zp N xs) λl=>Qm.pure (h :: l)
def askQ(net:Nt)(cache:Cch):Cs:=⟨net,cache,[]⟩
def Zl(c:Cch):List Kv->Cch
 | []=>c
 | x :: xs=>Zl (Yg c x.1 x.2) xs
def Qcy(N i:Nat):Qm (Ud×List Hsh):=
 Qm.bind (Qby Jg (-1) (i / 4) N) λb=>match ((Qs b).getD [])[i%4]? with
  | none=>λs=>(.error .panic,s)
  | some e=>Qm.bind (Zp N (Y7 N 0 N i).reverse) λp=>Qm.pure (e,p)
def Qhl(m N:Nat):Qm (List Hsh):=Zp N (Js N 0 N m).reverse
def Qon(o:Y Ud)(w:G)(e:Ua)(w':G):Prop:=
 Bz w w'/\((o=none/\∃ a n c,e=.returned (.tuple #[.slice a n c,.bool false]))∨∃ b a n c,o=some b/\e=.returned (.tuple #[.slice a n c,.bool true])/\Q3 w' w.heap.size (.slice a n c) b)
variable {a:Y Addr} {c:Nat} {l:Ud}
theorem Qyw(h:Q7 w (.slice a l.length c) l)(b:k<=l.length):Q7 w (.slice a k c) (l.take k):=by
 obtain⟨a',c',hv,hc,hx⟩:=h;simp only[ZN,zbv] at hv;obtain⟨rfl,rfl⟩:=hv;refine⟨a,c,?_,by rw[zm];omega,λj u hu=>?_⟩
 .rw[zm,ZB b]
 refine hx j u ?_;rw[vJ] at hu;have hj:=(zj.1 hu).1;rw[zm] at hj
 rwa [zH (by omega)] at hu
variable {v:J}
theorem Qi1{base:Nat}(h:Q3 w base v l):∃ a n c,v=.slice a n c:=by
 rcases h with⟨rfl,rfl⟩|⟨b,off,c,C,fz,rfl,_⟩
 .exact⟨none,0,0,rfl⟩
 exact⟨_,_,c,rfl⟩
theorem Zar(w:G)(v:J)(data:Ud)(d b:Nat)(h:Q7 w v data)(p:1<=b)(y:b<=d)(z:d<=4):Calls prog 182 #[v,.int .i64 d,.int .i64 b] w (Qon (Qat data d b) w):=by
 obtain⟨a,c,rfl⟩:∃ a c,v=.slice a data.length c:=by obtain⟨a,c,p,_,_⟩:=h;exact⟨a,c,p⟩
 by_cases hf:data.length=8*d
 .have f:Qat data d b=some (data.take (8*b)):=by unfold Qat;rw[zD hf]
  have hb:=Qyw h (k:=8*b) (by omega);have j:=λ(W:G) (hW:Bz w W)=>Qil (.slice a (8*b) c) (data.take (8*b)) W (hb.j hW) (by rw[zm];omega)
  have t:(8*b:Nat)<=c:=by obtain⟨_,_,q,hc,_⟩:=h;simp only[ZN,zbv] at q;omega
  have r:wrap64 (8*(d:Int))=8*(d:Int):=by unfold wrap64;omega
  have x:wrap64 (8*(b:Int))=8*(b:Int):=by unfold wrap64;omega
  have hz:((data.length:Int) == 8*(d:Int))=true:=by rw[zba];omega
  have he:(data.length:Int)=8*(d:Int):=by omega
  have u:(8*(b:Int)).toNat=8*b:=by omega
  have h0:(0:Int)<=8*(b:Int):=by omega
  have s:8*(b:Int)<=(c:Int):=by omega
  obtain⟨HF,m⟩:=zh2 f j;clear f j hb h hf
  go_enter func182,ntmps182
  go_wp2_with (go_at_call 170;refine (m.o _ (zu _ _)).m ?_;rintro e w1⟨v1,rfl,g,i⟩;obtain⟨n,l⟩:=zh2 g i;obtain⟨a1,n1,c1,rfl⟩:=Qi1 g;clear g i)
  go_ret2;exact⟨l.o,.inr ⟨_,_,_,_,HF.o,rfl,n.o⟩⟩
 have f:Qat data d b=none:=by unfold Qat;rw[zw hf]
 have r:wrap64 (8*(d:Int))=8*(d:Int):=by unfold wrap64;omega
 have hz:((data.length:Int) == 8*(d:Int))=false:=by rw[zl];omega
 have he:¬ (data.length:Int)=8*(d:Int):=by omega
 have HF:=zh f;clear f h hf
 go_enter func182,ntmps182
 go_wp2;go_ret2;exact⟨zu _ _,.inl ⟨HF.o,_,_,_,rfl⟩⟩
variable {ls:Uc}
theorem Q64(h:Qdb w (.slice a ls.length c) ls)(d:k<=ls.length):Qdb w (.slice a k c) (ls.take k):=by
 obtain⟨vs,hl,⟨a',c',hv,hc,hx⟩,b⟩:=h;simp only[ZN] at hv;obtain⟨rfl,e,rfl⟩:=hv;refine⟨vs.take k,by rw[zm,zm,hl],⟨a,c,?_,by rw[zm];omega,λj u hu=>?_⟩,λj u l hu hl'=>?_⟩
 .rw[zm,ZB d]
 .have hj:=(zj.1 hu).1
  rw[zm] at hj;rw[zH (by omega)] at hu;exact hx j u hu
 have hj:=(zj.1 hu).1;rw[zm] at hj;rw[zH (by omega)] at hu hl';exact b j u l hu hl'
theorem Zcr{n:Nat}(h:Qdb w (.slice a n c) ls):ls.length<=c:=by obtain⟨vs,hl,⟨a',c',hv,hc,hx⟩,b⟩:=h;simp only[ZN] at hv;omega
theorem Zce{w':G}(b:Yf ls=some l)(h:(Yf ls=none/\v=.slice none 0 0)∨∃ l,Yf ls=some l/\Q3 w' w.heap.size v l/\∃ a n c,v=.slice (some a) n c):Q3 w' w.heap.size v l/\∃ a n c,v=.slice a n c:=by
 rcases h with⟨h,_⟩|⟨l',h1,h2,a,n,c,h3⟩
 .rw[b] at h;cases h
 rw[b] at h1;cases h1;exact⟨h2,_,n,c,h3⟩
theorem Q8k(w:G)(v:J)(data:Ud)(d a:Nat)(h:Q7 w v data)(C:data.length<=1099511627776)(F:1<=a)(n:a<=d)(H:d<=4):Calls prog 147 #[v,.int .i64 d,.int .i64 a] w (Qon (Jg data d a) w):=by
 cases hu:Qs data with
 | none=>
  have b:Jg data d a=none:=by unfold Jg;rw[hu];rfl
  have c:=Qtz h C hu;obtain⟨HF,HC⟩:=zh2 b c;clear b c h hu
  go_enter func147,ntmps147
  go_wp2_with (go_at_call 148;refine HC.o.m ?_;rintro e w1⟨rfl,f⟩;have g:=zh f;clear f)
  go_ret2;exact⟨g.o,.inl ⟨HF.o,_,_,_,rfl⟩⟩
 | some ls=>
  have c:=Qti h C hu;have i:=Qbb hu;by_cases hlen:ls.length=d
  .have hz:((ls.length:Int) == (d:Int))=true:=by rw[zba];omega
   have he:(ls.length:Int)=(d:Int):=by omega
   have s:(ls.take a).length=a:=by rw[zm];omega
   have p:Yf (ls.take a)=some ((ls.take a).map encE).flatten:=by rw[Qb9 (by omega) (by omega) λj l hj=>i.2.2 l (zQ (zr hj)),Vz]
   have b:Jg data d a=some ((ls.take a).map encE).flatten:=by unfold Jg;rw[hu,ZP,zD hlen];exact p
   have E:(a:Int)<=(d:Int):=by omega
   have h0:(0:Int)<=(a:Int):=by omega
   obtain⟨HF,HC,y,A⟩:=zh4 b c p s;clear b c h hu i p s
   go_enter func147,ntmps147
   go_wp2_with (first|go_at_call 148;refine HC.o.m ?_;rintro e w1⟨b1,c1,rfl,m,f⟩;have g:=zh f;have r:=Q64 (k:=a) m.at (by omega);have u:=Zcr m.at;have D:(a:Int)<=(c1:Int):=(by omega);have z:=zh r;clear m f r u|go_at_call 158;refine (Qjv _ (ls.take a) _ z.o (by rw[A.o];omega)).m ?_;intro e w2 n;obtain⟨v2,rfl,q,n⟩:=n;have hy:=Zce y.o n;obtain⟨t,a2,n2,c2,rfl⟩:=hy;obtain⟨B,x⟩:=zh2 t q;clear n q t|fail)
   go_ret2;exact⟨g.o.t (x.o.m g.o.size),.inr ⟨_,_,_,_,HF.o,rfl,B.o.m g.o.size⟩⟩
  have b:Jg data d a=none:=by unfold Jg;rw[hu,ZP,zw hlen]
  have he:¬ (ls.length:Int)=(d:Int):=by omega
  have hz:((ls.length:Int) == (d:Int))=false:=by rw[zl];omega
  obtain⟨HF,HC⟩:=zh2 b c;clear b c h hu i
  go_enter func147,ntmps147
  go_wp2_with (go_at_call 148;refine HC.o.m ?_;rintro e w1⟨b1,c1,rfl,m,f⟩;have g:=zh f;clear m f)
  go_ret2;exact⟨g.o,.inl ⟨HF.o,_,_,_,rfl⟩⟩
def Qtk(l:Lie1):List J:=[.string l.path,.string l.data,.bool l.fails,.int .i64 l.times]
def Qer(ls:List Lie1):List J:=ls.flatMap Qtk
theorem Q3g(ls:List Lie1):(Qer ls).length=ls.length*4:=by
 induction ls with
 | nil=>rfl
 | cons a l ih=>simp only[Qer,vZ,zn,zx] at ih ⊢;rw[ih];simp[Qtk];omega
theorem Qwl:∀ (l:List Lie1) (j:Nat) (x:Lie1),l[j]?=some x->(Qer l)[j*4]?=some (.string x.path)/\(Qer l)[j*4+1]?=some (.string x.data)/\(Qer l)[j*4+2]?=some (.bool x.fails)/\(Qer l)[j*4+3]?=some (.int .i64 x.times)
 | [],j,x,h=>by simp at h
 | a :: l,0,x,h=>by simp at h;subst h;exact⟨rfl,rfl,rfl,rfl⟩
 | a :: l,j+1,x,h=>by
   have:=Qwl l j x (by simpa using h)
   have e:Qer (a :: l)=.string a.path :: .string a.data :: .bool a.fails :: .int .i64 a.times :: Qer l:=rfl
   rw[e,show (j+1)*4=j*4+1+1+1+1 by omega]
   simpa using this
def Qhr(l:List Nat):List J:=l.map λ(k:Nat)=>.int .i64 (k:Int)
def Qpu(gd:Nat)(vl vt:J)(n:Nt):Array J:=#[.pointer (some ⟨gd,0,none⟩),vl,vt,.int .i64 n.fetches]
structure Yr(w:G)(g gd:Nat)(vl vt:J)(n:Nt):Prop where
 cells:w.heap[g]?=some (.cells (Qpu gd vl vt n) 126 (0,0))
 lies:w.ownsRow 0 47 4 vl n.lies.length (Qer n.lies)
 told:w.ownsRow 0 3 1 vt n.told.length (Qhr n.told)
 len:n.told.length=n.lies.length
 le:∀ k∈n.told,k<=n.fetches
def netS(g:Nat)(vt:J)(k:Nat):Prop:=k=g∨vt.ownBlock=some k
variable {w':G} {g gd:Nat} {vl vt:J} {n:Nt}
theorem Yr.fr{S:Nat->Prop}(h:Yr w g gd vl vt n)(a:Fr S w w')(b:¬ S g)(c:∀ k,vl.ownBlock=some k->¬ S k)(d:∀ k,vt.ownBlock=some k->¬ S k):Yr w' g gd vl vt n:=
 ⟨a.heap h.cells b,Zf h.lies a c,Zf h.told a d,h.len,h.le⟩
theorem Yr.j(h:Yr w g gd vl vt n)(a:Bz w w'):Yr w' g gd vl vt n:=
 h.fr (S:=λ_=>False) (Fr.ofBelow a) id (λ_ _=>id) (λ_ _=>id)
theorem Yr.lt(h:Yr w g gd vl vt n):g<w.heap.size:=Qb h.cells
theorem Yr.parts(h:Yr w g gd vl vt n):(∀ k,vl.ownBlock=some k->k≠g)/\(∀ k,vt.ownBlock=some k->k≠g)/\∀ k,vl.ownBlock=some k->¬ vt.ownBlock=some k:=by
 refine⟨λk hk e=>?_,λk hk e=>?_,λk hk ht=>?_⟩
 .obtain⟨C,hC⟩:=Qk h.lies hk
  exact Zz hC h.cells (by decide) e
 .obtain⟨C,hC⟩:=Qk h.told hk
  exact Zz hC h.cells (by decide) e
 obtain⟨C,hC⟩:=Qk h.lies hk;obtain⟨C',a⟩:=Qk h.told ht;exact Zz hC a (by decide) rfl
theorem Yr.heads(h:Yr w g gd vl vt n):(w.cell? ⟨g,0,none⟩=some (.pointer (some ⟨gd,0,none⟩))/\w.cell? ⟨g,1,none⟩=some vl/\w.cell? ⟨g,2,none⟩=some vt/\w.cell? ⟨g,3,none⟩=some (.int .i64 n.fetches))/\∀ i,w.frozen? ⟨g,i,none⟩=false:=
 ⟨⟨Qd h.cells 0 rfl,Qd h.cells 1 rfl,Qd h.cells 2 rfl,Qd h.cells 3 rfl⟩,λi=>Qu h.cells i⟩
theorem Yr.count(h:Yr w g gd vl vt n):Yr (w.setCell ⟨g,3,none⟩ (.int .i64 ((n.fetches:Int)+1))) g gd vl vt { n with fetches:=n.fetches+1 }:=by have hf:=Fr.set1 w g 3 (.int .i64 ((n.fetches:Int)+1));obtain⟨p1,p2,_⟩:=h.parts;exact⟨(heap_setCell h.cells _).t (by simp[Qpu]),Zf h.lies hf λk hk e=>p1 k hk e,Zf h.told hf λk hk e=>p2 k hk e,h.len,λk hk=>xq (h.le k hk)⟩
theorem Yr.apartDisk{a:Nat}{d:Dk}(h:Yr w g gd vl vt n)(b:Q5 w a v d):∀ k,netS g vt k->¬ dkS a v k:=by
 intro k hk hs;have h1:∃ C t,w.heap[k]?=some (.cells C t (0,0))/\(t=126∨t=3):=by
  rcases hk with rfl|hk
  .exact⟨_,_,h.cells,.inl rfl⟩
  obtain⟨C,hC⟩:=Qk h.told hk;exact⟨C,_,hC,.inr rfl⟩
 obtain⟨C,t,h1,h2⟩:=h1;rcases hs with rfl|hs
 .rw[b.1] at h1
  cases h1
  revert h2
  decide
 obtain⟨C',h3⟩:=Qk b.2 hs;rw[h3] at h1;cases h1
 revert h2
 decide
theorem Qxj(l:List Nat)(i k:Nat):(Qhr l).set i (.int .i64 (k:Int))=Qhr (l.set i k):=by unfold Qhr;rw[zbh]
variable {i:Nat}
theorem Q11{l:List Nat}(h:l[i]?=some k):(Qhr l)[i]?=some (.int .i64 (k:Int)):=by unfold Qhr;rw[zN,h];rfl
def Qpq(w:G)(g gd:Nat)(vl vt:J)(n:Nt)(p:O)(e:Ua)(w':G):Prop:=
 Yr w' g gd vl vt (Zt n p)/\Fr (netS g vt) w w'/\∃ u x,e=.returned (.tuple #[u,x])/\
  ((∃ data,Yx n p=some data/\x=.nilIface/\Q3 w' w.heap.size u data/\∃ a k c,u=.slice a k c)∨(Yx n p=none/\(∃ q,x=.iface 218 (.pointer (some q)))/\∃ a k c,u=.slice a k c))
variable {p:O}
theorem Qxh(h:Qem n p i=true):Qcb n p (k+1) i=some i:=by rw[Qcb,zD h]
theorem Q1x(h:Qem n p i=false):Qcb n p (k+1) i=Qcb n p k (i+1):=by rw[Qcb,zw (by simp[h])]
variable {x:Lie1}
theorem Q5r(a:n.lies[i]?=some x)(h:¬ x.path=p):Qem n p i=false:=by unfold Qem;rw[a];simp[h]
variable {t:Nat}
theorem Q69(d:n.lies[i]?=some x)(c:n.told[i]?=some t)(a:0<x.times)(b:x.times<=(t:Int)):Qem n p i=false:=by unfold Qem;rw[d,zz,c];simp[a,b]
theorem Q9w(c:n.lies[i]?=some x)(b:n.told[i]?=some t)(h:x.path=p)(a:¬ 0<x.times∨¬ x.times<=(t:Int)):Qem n p i=true:=by unfold Qem;rw[c,zz,b];rcases a with a|a <;> simp[h,a]
variable {gt ln cp:Nat}
theorem Q9t(h:Yr w g gd vl (.slice (some ⟨gt,0,none⟩) ln cp) n)(b:ln=n.told.length)(a:k<=n.fetches):Yr (w.setCell ⟨gt,i,none⟩ (.int .i64 (k:Int))) g gd vl (.slice (some ⟨gt,0,none⟩) ln cp) { n with told:=n.told.set i k }/\Fr (netS g (.slice (some ⟨gt,0,none⟩) ln cp)) w (w.setCell ⟨gt,i,none⟩ (.int .i64 (k:Int))):=by
 subst b;obtain⟨p1,p2,p3⟩:=h.parts;have hf:=Fr.setCell1 w ⟨gt,i,none⟩ (.int .i64 (k:Int));have hs:=(h.told.stored i (.int .i64 (k:Int))).1;rw[Qxj] at hs;refine⟨⟨hf.heap h.cells (λe=>p2 gt rfl e.symm),Zf h.lies hf λj hj e=>p3 j hj (zB some e.symm),?_,by rw[Vn];exact h.len,λx hx=>?_⟩,hf.weak λj _ e=>.inr (zB some e.symm)⟩
 .rw[Vn];exact hs
 rcases xx hx with hx|rfl
 .exact h.le x hx
 exact a
variable {kk:Nat}
theorem Qup(h:Yr w g gd vl (.slice (some ⟨gt,0,none⟩) ln cp) n)(c:n.told[kk]?=some t):w.cell? ⟨gt,kk,none⟩=some (.int .i64 t):=by
 obtain⟨a,k,hv,_,hc⟩:=Zn h.told;simp only[ZN] at hv;obtain⟨b,off,hb,h1⟩:=hc kk _ (Q11 c);have e:=hv.1.t hb;cases e
 rwa [V4] at h1
theorem Q0o(w:G)(s:O):Bz w (Lib.bytesWorld w 5 s):=
 ⟨by simp[Lib.bytesWorld,World.freeze,World.alloc,World.drew,-World.alloc_eq,-World.drew_eq],by simp[Lib.bytesWorld,World.freeze,World.alloc,World.drew,-World.alloc_eq,-World.drew_eq],by simp[Lib.bytesWorld,World.freeze,World.alloc,World.drew,-World.alloc_eq,-World.drew_eq],by rw[xB];omega,λk hk=>Xa w _ s k hk⟩
theorem Q33{base:Nat}{e:TypeId}{a:Nat}{n:Nat}{xs:List J}(h:w.ownsRow base e a v n xs):n<=9223372036854775807:=by
 rcases h.2 with⟨_,h0⟩|⟨_,_,_,_,_,_,c,b,_⟩
 .omega
 unfold maxLen at b;omega
structure Live(w1:G)(g gd gt:Nat)(vl vt:J)(n:Nt)(kk t:Nat)(x:Lie1)(bx:Nat)(wt:G):Prop where
 net:Yr wt g gd vl vt { n with fetches:=n.fetches+1,told:=n.told.set kk t }
 fr:Fr (netS g vt) w1 wt
 data:wt.cell? ⟨bx,1,none⟩=some (.string x.data)
 flag:wt.cell? ⟨bx,2,none⟩=some (.bool x.fails)
 size:w1.heap.size<=bx/\bx<wt.heap.size
theorem Zb2{w1 a:G}(h:Yr a g gd vl (.slice (some ⟨gt,0,none⟩) ln cp) { n with fetches:=n.fetches+1 })(c:Bz w1 a)(d:ln=n.told.length)(f:t<=n.fetches)(e:gt<a.heap.size)(j:Nat):Live w1 g gd gt vl (.slice (some ⟨gt,0,none⟩) ln cp) n kk (t+1) x a.heap.size (((a.alloc (.cells #[.string x.path,.string x.data,.bool x.fails,.int .i64 x.times] 47)).drewN j).setCell ⟨gt,kk,none⟩ (.int .i64 ((t:Int)+1))):=by
 have b:=Q8 (Qa a (.cells #[.string x.path,.string x.data,.bool x.fails,.int .i64 x.times] 47)) j;obtain⟨h1,h2⟩:=Q9t (i:=kk) (k:=t+1) (h.j b) d (by dsimp only;omega);refine⟨h1,(Fr.ofBelow (c.t (b.m c.size))).t h2,?_,?_,c.size,?_⟩
 .rw[ZG _ _ _ _ (by simp)]
  exact Qd (zy a _) 1 rfl
 .rw[ZG _ _ _ _ (by simp)]
  exact Qd (zy a _) 2 rfl
 simp[World.setCell]
theorem Q6q(b:n.lies[kk]?=some x)(h:Qcb n p (n.lies.length-kk) kk=Qdu n p)(a:Qem n p kk=true):Qdu n p=some kk:=by have c:=(zj.1 b).1;rw[<-h,show n.lies.length-kk=(n.lies.length-kk-1)+1 by omega,Qxh a]
theorem Qqy(h:Qdu n p=some kk)(a:n.told[kk]?=some t):Zt n p={ n with fetches:=n.fetches+1,told:=n.told.set kk (t+1) }:=by unfold Zt;rw[h];dsimp only;rw[zz,a];rfl
theorem Qxe(h:Qdu n p=none):Zt n p={ n with fetches:=n.fetches+1 }:=by unfold Zt;rw[h]
theorem Qqn(h:Qdu n p=none):Yx n p=(getF n.files p).map (·.data.toList):=by unfold Yx;rw[h]
theorem Qrb(h:Qdu n p=some kk)(a:n.lies[kk]?=some x):Yx n p=if x.fails=true then none else some x.data.data.toList:=by unfold Yx;rw[h];dsimp only;rw[a];rfl
theorem Qvb{b i:G}{a:Y Addr}{c:Nat}{q:Addr}(h:Yr b g gd vl vt { n with fetches:=n.fetches+1,told:=n.told.set kk (t+1) })(j:Fr (netS g vt) w b)(f:Qdu n p=some kk)(l:n.told[kk]?=some t)(m:n.lies[kk]?=some x)(e:x.fails=true)(d:Bz b i):Qpq w g gd vl vt n p (.returned (.tuple #[.slice a k c,.iface 218 (.pointer (some q))])) i:=
 ⟨by rw[Qqy f l];exact h.j d,j.t (Fr.ofBelow d),_,_,rfl,.inr ⟨by rw[Qrb f m,zD e],⟨_,rfl⟩,_,_,_,rfl⟩⟩
theorem Q7a(w:G)(g F:Nat)(vl vt v:J)(n:Nt)(d:Dk)(p:O)(h:Yr w g F vl vt n)(hd:Q5 w F v d)(q:d.files=n.files)(hc:n.fetches<1152921504606846976):Calls prog 298 #[.pointer (some ⟨g,0,none⟩),.string p] w (Qpq w g F vl vt n p):=by
 obtain⟨⟨c0,c1,c2,c3⟩,f0⟩:=h.heads;have h1:=h.count;obtain⟨al,cl,rfl,_,an⟩:=Zn h.lies;obtain⟨at',ct,rfl⟩:=Zo h.told;obtain⟨w1,R⟩:=zzx (w.setCell ⟨g,3,none⟩ (.int .i64 ((n.fetches:Int)+1)))
 rw[<-R] at h1;have V:Fr (netS g (.slice at' n.told.length ct)) w w1:=by rw[R];exact (Fr.set1 w g 3 _).weak λ_ _ e=>.inl e
 have M:Q5 w1 F v d:=hd.fr V λk hk hs=>h.apartDisk hd k hs hk
 have hw:wrap64 ((n.fetches:Int)+1)=(n.fetches:Int)+1:=by unfold wrap64;omega
 obtain⟨H1,s,a3,HD,af,HH,I,T,a0⟩:=zh9 h1 V R M q h an h.len h.le;have a7:=Q33 h.lies;clear h h1 hd M q R V an
 go_enter func298,ntmps298
 go_wp2;rw[<-a3.o]
 go_loopg [21] n.lies.length (λgg s21 wr=>∃ kk:Nat,kk<=n.lies.length/\n.lies.length-kk<=gg/\s21=.int .i64 kk/\Aside (Bz w1 wr)/\Aside (Qcb n p (n.lies.length-kk) kk=Qdu n p))
 case atStart=>exact⟨0,zE _,by omega,rfl,zu _ _,rfl⟩
 case round=>
  obtain⟨kk,bj,hg,rfl,BW,HL⟩:=hrel;have f:=BW.o;have HN:=zh (H1.o.j f);obtain⟨⟨r0,r1,r2,r3⟩,rf⟩:=HN.o.heads;by_cases hlt:kk<n.lies.length
  .obtain⟨x,hx⟩:∃ x,n.lies[kk]?=some x:=⟨_,ze hlt⟩
   obtain⟨t,ht⟩:∃ t,n.told[kk]?=some t:=⟨_,ze (by rw[T.o];exact hlt)⟩
   obtain⟨g1,g2,g3,g4⟩:=Qwl n.lies kk x hx;obtain⟨b,off,rfl,e1⟩:=I.o _ _ g1;obtain⟨_,_,B,e2⟩:=I.o _ _ g2;cases B;obtain⟨_,_,B,e3⟩:=I.o _ _ g3;cases B;obtain⟨_,_,B,e4⟩:=I.o _ _ g4;cases B;have hb:b<w.heap.size:=Qj e1;have am:¬ netS g (.slice at' n.told.length ct) b:=by
    obtain⟨q1,_,q3⟩:=HH.o.parts;rintro (e|e)
    .exact q1 b rfl e
    exact q3 b rfl e
   have cv:∀ i u,w.cell? ⟨b,i,none⟩=some u->wr.cell? ⟨b,i,none⟩=some u:=λi u hu=>(f.cell (p:=⟨b,i,none⟩) (zJ hb s.o.size)).t (s.o.cell hu am)
   have d1:wr.cell? ⟨b,off+kk*4,none⟩=some (.string x.path):=cv _ _ e1;have d2:wr.cell? ⟨b,off+kk*4+1,none⟩=some (.string x.data):=cv _ _ e2;have d3:wr.cell? ⟨b,off+kk*4+2,none⟩=some (.bool x.fails):=cv _ _ e3;have d4:wr.cell? ⟨b,off+kk*4+3,none⟩=some (.int .i64 x.times):=cv _ _ e4;have bi:(0:Int)<=(kk:Int):=by omega
   have aw:(kk:Int)<(n.lies.length:Int):=by omega
   have bb:(kk:Int)<(n.told.length:Int):=by have:=T.o;omega
   obtain⟨HX,HT⟩:=zh2 hx ht;have a4:b<wr.heap.size:=Qj d1;clear e1 e2 e3 e4 g1 g2 g3 g4 cv hx;have ar:Qem n p kk=false->Qcb n p (n.lies.length-(kk+1)) (kk+1)=Qdu n p:=λhl=>by
    have:=HL.o
    rw[show n.lies.length-kk=(n.lies.length-(kk+1))+1 by omega,Q1x hl] at this;exact this
   have ai:=zh ar;clear ar;have a6:g<wr.heap.size:=Qj r0;obtain⟨gt,rfl⟩:∃ gt,at'=some ⟨gt,0,none⟩:=by
    rcases HN.o.told.2 with⟨_,h0⟩|⟨gt,_,_,hv,_⟩
    .have be:n.told.length=0:=h0
     omega
    simp only[ZN] at hv;exact⟨gt,hv.1⟩
   have t1:=Qup HN.o (t:=t) ht;have ab:gt<wr.heap.size:=Qj t1;have a5:wr.frozen? ⟨gt,kk,none⟩=false:=HN.o.told.frozenAt kk;have ac:t<=n.fetches:=a0.o t (zr ht);have bl:wrap64 ((t:Int)+1)=(t:Int)+1:=by unfold wrap64;omega
   have av:¬ g=gt:=λe=>HN.o.parts.2.1 gt rfl e.symm
   obtain⟨wy,S⟩:=zzx (wr.alloc (.cells #[.string x.path,.string x.data,.bool x.fails,.int .i64 x.times] 47))
   have aa:Bz w1 wy:=by rw[S];exact f.t ((Qa wr _).m f.size)
   have z:=H1.o.j aa;obtain⟨⟨y0,y1,y2,y3⟩,yf⟩:=z.heads;have E:wy.heap[wr.heap.size]?=some (.cells #[.string x.path,.string x.data,.bool x.fails,.int .i64 x.times] 47 (0,0)):=by rw[S];exact zy wr _
   have x0:=Qd E 0 rfl;have x1:=Qd E 1 rfl;have x2:=Qd E 2 rfl;have x3:=Qd E 3 rfl;have ty:=Qup z (t:=t) ht;have ap:wy.frozen? ⟨gt,kk,none⟩=false:=z.told.frozenAt kk;obtain⟨L,ae,bd⟩:=zh3 S aa z;clear t1 a5;have a8:wr.heap.size<wy.heap.size:=Qj x0;clear S aa z E;by_cases he:x.path=p
   .have e:(x.path.toList == p.toList)=true:=Yy he
    have HE:=zh he;clear he;by_cases hlv:0<x.times/\x.times<=(t:Int)
    .have ao:decide (0<x.times)=true:=zF hlv.1
     have M:decide (x.times<=(t:Int))=true:=zF hlv.2;have U:=zh (Q69 (p:=p) HX.o HT.o hlv.1 hlv.2);clear hlv
     go_upto_region 5 with fail
     rw[<-L.o];clear r0 r1 r2 r3 rf d1 d2 d3 d4
     go_quiet (fail)
     go_wp2
     go_roundg (n.lies.length-(kk+1))
     case measure=>omega
     case rel=>exact⟨kk+1,by omega,by omega,by go_num,Q8 ae.o _,ai.o U.o⟩
    have U:=zh (Q9w HX.o HT.o HE.o (Decidable.not_and_iff_or_not.1 hlv));by_cases h0:0<x.times;have ao:decide (0<x.times)=true:=zF h0;have M:decide (x.times<=(t:Int))=false:=zo λh=>hlv ⟨h0,h⟩
    rotate_left;have ao:decide (0<x.times)=false:=zo h0
    all_goals
     clear h0 hlv
     go_upto_region 5 with fail
     rw[<-L.o];clear r0 r1 r2 r3 rf d1 d2 d3 d4
     go_quiet (fail)
     obtain⟨wz,l⟩:=zzx (wy.drewN nq)
     rw[<-l];have z0:wz.cell? ⟨g,0,none⟩=some (.pointer (some ⟨F,0,none⟩)):=by rw[l];exact y0
     have z2:wz.cell? ⟨g,2,none⟩=some (.slice (some ⟨gt,0,none⟩) n.told.length ct):=by rw[l];exact y2
     have z3:wz.cell? ⟨g,3,none⟩=some (.int .i64 ((n.fetches:Int)+1)):=by rw[l];exact y3
     have zt:wz.cell? ⟨gt,kk,none⟩=some (.int .i64 t):=by rw[l];exact ty
     have zf:wz.frozen? ⟨gt,kk,none⟩=false:=by rw[l];exact ap
     have X:Live w1 g F gt (.slice (some ⟨b,off,none⟩) n.lies.length cl) (.slice (some ⟨gt,0,none⟩) n.told.length ct) n kk (t+1) x wr.heap.size (wz.setCell ⟨gt,kk,none⟩ (.int .i64 ((t:Int)+1))):=by rw[l,L.o];exact Zb2 HN.o f rfl ac ab nq
     obtain⟨a,y⟩:=zh2 X (s.o.t X.fr);have ax:w.heap.size<=w1.heap.size:=s.o.size;clear l X y0 y1 y2 y3 yf ty ap x0 x1 x2 x3 ab a6 av a8 ac a4
     go_upto_region 7 with fail
     obtain⟨wt,H⟩:=zzx (wz.setCell ⟨gt,kk,none⟩ (.int .i64 ((t:Int)+1)))
     rw[<-H] at a y;rw[<-H];clear H;have s1:=a.o.data;have s2:=a.o.flag;have sg:=a.o.net.heads.1.2.2.2;have Z:wr.heap.size<wt.heap.size:=Qj s1;have aq:g<wt.heap.size:=Qj sg;have K:=zh (Q6q HX.o HL.o U.o);cases hfl:x.fails with
     | true=>
      rw[hfl] at s2;have m:=zh hfl;clear hfl;have bf:=λW=>Vp (P:=prog) W 9 147 5 x.data underlying9 underlying147 underlying5
      go_wp2_with fail
      have a1:wt.drew.cell? ⟨g,3,none⟩=some (.int .i64 ((n.fetches:Int)+1)):=sg;have a2:(Lib.bytesWorld wt.drew 5 x.data).cell? ⟨g,3,none⟩=some (.int .i64 ((n.fetches:Int)+1)):=(Lib.bytesWorld_old _ _ _ _ aq).t sg;have b1:wt.drew.cell? ⟨wr.heap.size,1,none⟩=some (.string x.data):=s1;have b2:(wt.alloc (.cells #[.int .i64 ((n.fetches:Int)+1)] 398)).drew.cell? ⟨wr.heap.size,1,none⟩=some (.string x.data):=((Qa wt _).cell (p:=⟨wr.heap.size,1,none⟩) Z).t s1;clear sg s1 s2 Z aq z0 z2 z3 zt zf;go_region
      all_goals (
       go_wp2
       go_ret2
       have aj:Bz wt (Lib.bytesWorld wt.drew 5 x.data):=(Ql wt).t (Q0o wt.drew _)
       have ak:Bz wt (wt.alloc (.cells #[.int .i64 ((n.fetches:Int)+1)] 398)).drew:=(Qa wt _).drew
       first
        | exact Qvb a.o.net y.o K.o HT.o HX.o m.o (aj.alloc aj.size _)
        | exact Qvb a.o.net y.o K.o HT.o HX.o m.o (ak.t ((Q0o _ _).m ak.size)))
     | false=>
      rw[hfl] at s2;have m:=zh hfl;clear hfl
      go_wp2_with (refine Qcs rfl _ _ _ _ rfl underlying9 underlying147 underlying5 rfl _ rfl ?_;rintro v' w3 h1 h2 h3⟨b',c',h4⟩;obtain⟨H1,H2⟩:=zh2 h1 h2;subst h4;clear h1 h2 h3)
      go_ret2;exact⟨by rw[Qqy K.o HT.o];exact a.o.net.j H2.o,y.o.t (Fr.ofBelow H2.o),_,_,rfl,.inl ⟨_,by rw[Qrb K.o HX.o,m.o];rfl,rfl,H1.o.m (zi ax a.o.fr.size),_,_,_,rfl⟩⟩
   have e:(x.path.toList == p.toList)=false:=Qaa he;have HE:=zh he;clear he
   go_upto_region 5 with fail
   rw[<-L.o];clear r0 r1 r2 r3 rf d1 d2 d3 d4
   go_quiet (fail)
   go_wp2
   go_roundg (n.lies.length-(kk+1))
   case measure=>omega
   case rel=>exact⟨kk+1,by omega,by omega,by go_num,Q8 ae.o _,ai.o (Q5r HX.o HE.o)⟩
  have aw:¬ (kk:Int)<(n.lies.length:Int):=by omega
  have hz:Qdu n p=none:=by rw[<-HL.o,show n.lies.length-kk=0 by omega];rfl
  have HZ:=zh hz;clear hz;have Q:=HD.o.j f;have az:=zh Q;have C:=Qkt wr F v d Q p;obtain⟨ah,ag⟩:=zh2 (Qxe HZ.o) (s.o.t (Fr.ofBelow f));have ay:w.heap.size<=wr.heap.size:=zi s.o.size f.size;by_cases q:Yk d.files p<d.files.length
  .have hF:J1 d.files p=Yk d.files p:=by unfold J1;rw[zD q]
   rw[hF] at C;obtain⟨x,hx⟩:=zzx (d.files[Yk d.files p]'q)
   have ad:d.files[Yk d.files p]?=some x:=by rw[hx,ze q]
   have D:getF d.files p=some x.2:=by rw[Qlr q,hx]
   obtain⟨j,hj⟩:=zzx (Yk d.files p)
   rw[<-hj] at C q ad;have bh:(0:Int)<=(j:Int):=by omega
   have bg:(j:Int)<(d.files.length:Int):=by omega
   obtain⟨HX,HG⟩:=zh2 ad D;clear hj hF hx ad D Q
   go_wp2_with (first|go_at_call 122;refine C.m ?_;rintro e w2⟨rfl,c⟩;have r:=zh c;have N:=az.o.j c;have bc:=zh N;have q0:=(c.cell (p:=⟨g,0,none⟩) (Qj r0)).t r0;have c0:=N.cells.1.1;obtain⟨bk,cap,rfl,Z,am,_,c1⟩:=N.data (j:=j) (x:=x) HX.o;clear c N|refine Qcs rfl _ _ _ _ rfl underlying9 underlying147 underlying5 rfl _ rfl ?_;rintro v' w3 h1 h2 h3⟨b',c',h4⟩;obtain⟨H1,H2⟩:=zh2 h1 h2;subst h4;clear h1 h2 h3)
   go_ret2;have A:=r.o.t (H2.o.m r.o.size);exact⟨by rw[ah.o];exact HN.o.j A,ag.o.t (Fr.ofBelow A),_,_,rfl,.inl ⟨_,by rw[Qqn HZ.o,<-af.o,HG.o];rfl,rfl,H1.o.m (zi ay r.o.size),_,_,_,rfl⟩⟩
  have hF:J1 d.files p = -1:=by unfold J1;rw[zw q]
  have D:=Qei q;rw[hF] at C;have HG:=zh D;clear hF D q Q
  go_wp2_with (go_at_call 122;refine C.m ?_;rintro e w2⟨rfl,c⟩;have r:=zh c;have q3:=(c.cell (p:=⟨g,3,none⟩) (Qj r3)).t r3;clear c)
  go_region
  all_goals (
   go_wp2
   go_ret2
   have A:=r.o.t (((Qa w2 (.cells #[.int .i64 ((n.fetches:Int)+1)] 398)).drew).m r.o.size)
   exact⟨by rw[ah.o];exact HN.o.j A,ag.o.t (Fr.ofBelow A),_,_,rfl,.inr ⟨by rw[Qqn HZ.o,<-af.o,HG.o];rfl,⟨_,rfl⟩,_,_,_,rfl⟩⟩)
def rA(g:Nat):Y Nat->Addr
 | none=>⟨g,2,none⟩
 | some b=>⟨b,0,none⟩
def rE(g:Nat):Y Nat->Addr
 | none=>⟨g,5,none⟩
 | some b=>⟨b,3,none⟩
def rL(g:Nat):Y Nat->Addr
 | none=>⟨g,4,none⟩
 | some b=>⟨b,2,none⟩
abbrev rP(g:Nat)(x:Y Nat):J:=.pointer (some (rA g x))
variable {x y:Y Nat}
theorem Q0e(h:rE g x=rE g y):x=y:=by
 cases x <;> cases y <;> simp[rE] at h ⊢
 exact h
theorem Qz0(h:rL g x=rL g y):x=y:=by
 cases x <;> cases y <;> simp[rL] at h ⊢
 exact h
theorem Qcq(g:Nat)(x y:Y Nat):rE g x≠rL g y:=by cases x <;> cases y <;> simp[rE,rL]
structure Lk(w:G)(g:Nat)(x y:Y Nat):Prop where
 e:w.cell? (rE g x)=some (rP g y)
 l:w.cell? (rL g y)=some (rP g x)
def Chn(w:G)(g:Nat):Y Nat->List Nat->Prop
 | x,[]=>Lk w g x none
 | x,b :: bs=>Lk w g x (some b)/\Chn w g (some b) bs
def lst:Y Nat->List Nat->Y Nat
 | x,[]=>x
 | _,b :: bs=>lst (some b) bs
theorem Q3r(x:Y Nat)(l:List Nat)(b:Nat):lst x (l ++ [b])=some b:=by
 induction l generalizing x with
 | nil=>rfl
 | cons a l ih=>exact ih (some a)
variable {l:List Nat}
theorem Qst:lst x l=x∨∃ b∈l,lst x l=some b:=by
 induction l generalizing x with
 | nil=>exact .inl rfl
 | cons a l ih=>
  rcases ih (x:=some a) with h|⟨b,hb,h⟩
  .exact .inr ⟨a,.head _,h⟩
  exact .inr ⟨b,.tail _ hb,h⟩
theorem Chn.agree(h:Chn w g x l)(a:∀ y,(y=x∨∃ b∈l,y=some b)->w'.cell? (rE g y)=w.cell? (rE g y))(d:∀ y,(y=none∨∃ b∈l,y=some b)->w'.cell? (rL g y)=w.cell? (rL g y)):Chn w' g x l:=by
 induction l generalizing x with
 | nil=>exact⟨(a _ (.inl rfl)).t h.e,(d _ (.inl rfl)).t h.l⟩
 | cons b l ih=>
  refine⟨⟨(a _ (.inl rfl)).t h.1.e,(d _ (.inr ⟨b,.head _,rfl⟩)).t h.1.l⟩,ih h.2 ?_ ?_⟩
  .rintro y (rfl|⟨c,hc,rfl⟩)
   .exact a _ (.inr ⟨b,.head _,rfl⟩)
   exact a _ (.inr ⟨c,.tail _ hc,rfl⟩)
  rintro y (rfl|⟨c,hc,rfl⟩)
  .exact d _ (.inl rfl)
  exact d _ (.inr ⟨c,.tail _ hc,rfl⟩)
variable {m:List Nat} {b:Nat}
theorem Chn.before(h:Chn w g x (l++b :: m)):Lk w g (lst x l) (some b)/\Chn w g (some b) m:=by
 induction l generalizing x with
 | nil=>exact h
 | cons a l ih=>exact ih h.2
theorem Chn.first(h:Chn w g x l):Lk w g x l.head?:=by
 cases l with
 | nil=>exact h
 | cons b l=>exact h.1
theorem Chn.last(h:Chn w g x l):Lk w g (lst x l) none:=by
 induction l generalizing x with
 | nil=>exact h
 | cons b l ih=>exact ih h.2
structure Q7g(w w':G)(g:Nat)(x y:Y Nat):Prop where
 lk:Lk w' g x y
 rest:∀ a,a≠rE g x->a≠rL g y->w'.cell? a=w.cell? a
theorem Chn.take(h:Chn w g x (l++b :: m))(k:∀ c∈l++b :: m,x≠some c)(n:(l++b :: m).Nodup)(f:Q7g w w' g (lst x l) m.head?):Chn w' g x (l++m):=by
 induction l generalizing x with
 | nil=>
  simp only[xd,lst] at *;cases m with
  | nil=>exact f.lk
  | cons c m=>
   refine⟨f.lk,Chn.agree h.2.2 (λy hy=>?_) (λy hy=>?_)⟩
   .refine f.rest _ (λe=>?_) (Qcq _ _ _)
    have e:=Q0e e;subst e;rcases hy with hy|⟨d,hd,hy⟩
    .exact k c (by simp) hy
    exact k d (by simp[hd]) hy
   refine f.rest _ (λe=>Qcq _ _ _ e.symm) (λe=>?_);have e:=Qz0 e;subst e;rcases hy with hy|⟨d,hd,hy⟩
   .simp at hy
   simp only[Xq,ZM] at hy;subst hy
   have:=(ZY.1 (ZY.1 n).2).1
   exact this hd
 | cons a l ih=>
  have i:=ZY.1 n;have o:∀ d,lst (some a) l=some d->d∈a :: l:=by
   intro d hd;rcases Qst (x:=some a) (l:=l) with e|⟨c,hc,e⟩
   .rw[e] at hd;cases hd;exact .head _
   rw[e] at hd;cases hd;exact .tail _ hc
  have j:∃ d,lst (some a) l=some d:=by
   rcases Qst (x:=some a) (l:=l) with e|⟨c,_,e⟩
   .exact⟨a,e⟩
   exact⟨c,e⟩
  refine⟨⟨(f.rest _ (λe=>?_) (Qcq _ _ _)).t h.1.e,(f.rest _ (λe=>Qcq _ _ _ e.symm) (λe=>?_)).t h.1.l⟩,ih h.2 ?_ i.2 f⟩
  .obtain⟨d,hd⟩:=j
   have e:=Q0e e;have e:x=some d:=e.t hd;refine k d ?_ e
   have:=o d hd
   simp only[vM,ZH,ZL] at this ⊢;rcases this with h|h
   .exact .inl h
   exact .inr (.inl h)
  .have e:=Qz0 e
   cases m with
   | nil=>simp at e
   | cons c m=>
    simp only[Xq,ZM] at e;subst e;exact i.1 (by simp)
  intro c hc e;cases e;exact i.1 hc
structure Q6v(w w':G)(g b:Nat)(y:Y Nat):Prop where
 top:Lk w' g none (some b)
 two:Lk w' g (some b) y
 rest:∀ p,p≠rE g none->p≠rL g (some b)->p≠rE g (some b)->p≠rL g y->w'.cell? p=w.cell? p
theorem Chn.front(h:Chn w g none l)(f:b ∉ l)(j:l.Nodup)(a:Q6v w w' g b l.head?):Chn w' g none (b :: l):=by
 refine⟨a.top,?_⟩;cases l with
 | nil=>exact a.two
 | cons c l=>
  refine⟨a.two,Chn.agree h.2 (λy hy=>?_) (λy hy=>?_)⟩
  .have i:∃ d∈c :: l,y=some d:=by
    rcases hy with hy|⟨d,hd,hy⟩
    .exact⟨c,.head _,hy⟩
    exact⟨d,.tail _ hd,hy⟩
   obtain⟨d,hd,rfl⟩:=i;refine a.rest _ (λe=>by have:=Q0e e;cases this) (Qcq _ _ _) (λe=>?_) (Qcq _ _ _);have e:=Q0e e;cases e;exact f hd
  refine a.rest _ (λe=>Qcq _ _ _ e.symm) (λe=>?_) (λe=>Qcq _ _ _ e.symm) (λe=>?_)
  .have e:=Qz0 e
   subst e;rcases hy with hy|⟨d,hd,hy⟩
   .cases hy
   cases hy;exact f (.tail _ hd)
  have e:=Qz0 e;subst e;rcases hy with hy|⟨d,hd,hy⟩
  .simp at hy
  simp only[Xq,ZM] at hy;subst hy;exact (ZY.1 j).1 hd
def Two(w w':G)(p:Addr)(u:J)(q:Addr)(v:J):Prop:=w'=(w.drew.setCell p u).setCell q v∨w'=(w.drew.setCell q v).setCell p u
variable {p q:Addr} {u:J}
theorem Two.swap(h:Two w w' p u q v):Two w w' q v p u:=h.symm
variable {x:J}
theorem Two.left(h:Two w w' p u q v)(b:w.cell? p=some x)(a:p≠q):w'.cell? p=some u:=by
 rcases h with rfl|rfl
 .rw[ZG _ _ _ _ a.symm]
  exact XQ _ _ _ (u:=x) b
 exact XQ _ _ _ (u:=x) ((ZG _ _ _ _ a.symm).t b)
theorem Two.right(h:Two w w' p u q v)(b:w.cell? q=some x)(a:p≠q):w'.cell? q=some v:=h.swap.left b a.symm
theorem Two.other(h:Two w w' p u q v){a:Addr}(b:a≠p)(c:a≠q):w'.cell? a=w.cell? a:=by
 rcases h with rfl|rfl
 .rw[ZG _ _ _ _ c.symm,ZG _ _ _ _ b.symm];rfl
 rw[ZG _ _ _ _ b.symm,ZG _ _ _ _ c.symm];rfl
theorem Two.frozen(h:Two w w' p u q v)(a:Addr):w'.frozen? a=w.frozen? a:=by
 rcases h with rfl|rfl
 .rw[vy,vy];rfl
 rw[vy,vy];rfl
theorem Two.fr(h:Two w w' p u q v):Fr (λk=>k=p.block∨k=q.block) w w':=by
 rcases h with rfl|rfl
 .exact ((Fr.ofBelow (Ql w)).setCell (λ_=>.inl rfl) u).setCell (λ_=>.inr rfl) v
 exact ((Fr.ofBelow (Ql w)).setCell (λ_=>.inr rfl) v).setCell (λ_=>.inl rfl) u
theorem Q9b(w:G)(c:J)(b a f d g:Nat)(j k:J)(q:w.cell? ⟨b,2,none⟩=some (.pointer (some ⟨a,f,none⟩)))(r:w.cell? ⟨b,3,none⟩=some (.pointer (some ⟨d,g,none⟩)))(o:w.cell? ⟨a,f+3,none⟩=some j)(p:w.cell? ⟨d,g+2,none⟩=some k)(l:w.frozen? ⟨a,f+3,none⟩=false)(m:w.frozen? ⟨d,g+2,none⟩=false)(s:b≠a)(t:b≠d)(n:a≠d∨f+3≠g+2):Calls prog 226 #[c,.pointer (some ⟨b,0,none⟩)] w (λe w'=>e=.returned (.tuple #[])/\Two w w' ⟨d,g+2,none⟩ (.pointer (some ⟨a,f,none⟩)) ⟨a,f+3,none⟩ (.pointer (some ⟨d,g,none⟩))):=by
 have d2:w.drew.cell? ⟨b,2,none⟩=some (.pointer (some ⟨a,f,none⟩)):=q;have d3:w.drew.cell? ⟨b,3,none⟩=some (.pointer (some ⟨d,g,none⟩)):=r;have dx:w.drew.cell? ⟨a,f+3,none⟩=some j:=o;have dy:w.drew.cell? ⟨d,g+2,none⟩=some k:=p;have dfx:w.drew.frozen? ⟨a,f+3,none⟩=false:=l;have dfy:w.drew.frozen? ⟨d,g+2,none⟩=false:=m;have i:(⟨d,g+2,none⟩:Addr)≠⟨a,f+3,none⟩:=by
  intro e
  injection e with e1 e2
  rcases n with h|h
  .exact h e1.symm
  exact h e2.symm
 have ex:(w.setCell ⟨d,g+2,none⟩ (.pointer (some ⟨a,f,none⟩))).drew.cell? ⟨a,f+3,none⟩=some j:=(ZG _ _ _ _ i).t o;have ey:(w.setCell ⟨a,f+3,none⟩ (.pointer (some ⟨d,g,none⟩))).drew.cell? ⟨d,g+2,none⟩=some k:=(ZG _ _ _ _ i.symm).t p;have gx:(w.setCell ⟨d,g+2,none⟩ (.pointer (some ⟨a,f,none⟩))).drew.frozen? ⟨a,f+3,none⟩=false:=(vy _ _ _ _).t l;have gy:(w.setCell ⟨a,f+3,none⟩ (.pointer (some ⟨d,g,none⟩))).drew.frozen? ⟨d,g+2,none⟩=false:=(vy _ _ _ _).t m
 go_enter func226,ntmps226
 go_region
 all_goals (
  go_wp2
  refine xI (VF rfl _ _ _) rfl ⟨rfl,?_⟩
  first
   | exact .inl rfl
   | exact .inr rfl)
theorem Q5m(w:G)(g b a c:Nat)(u2 u3 m:J)(j:w.cell? ⟨b,2,none⟩=some u2)(k:w.cell? ⟨b,3,none⟩=some u3)(l:w.cell? ⟨g,5,none⟩=some (.pointer (some ⟨a,c,none⟩)))(v:w.cell? ⟨a,c+2,none⟩=some m)(o:w.frozen? ⟨b,2,none⟩=false)(p:w.frozen? ⟨b,3,none⟩=false)(s:w.frozen? ⟨g,5,none⟩=false)(t:w.frozen? ⟨a,c+2,none⟩=false)(f:b≠g)(n:b≠a)(u:a≠g∨c+2≠5):Calls prog 227 #[.pointer (some ⟨g,0,none⟩),.pointer (some ⟨b,0,none⟩)] w (λe w'=>e=.returned (.tuple #[])/\
   ∃ w1,Two w w1 ⟨b,2,none⟩ (.pointer (some ⟨g,2,none⟩)) ⟨b,3,none⟩ (.pointer (some ⟨a,c,none⟩))/\Two w1 w' ⟨a,c+2,none⟩ (.pointer (some ⟨b,0,none⟩)) ⟨g,5,none⟩ (.pointer (some ⟨b,0,none⟩))):=by
 have d5:w.drew.cell? ⟨g,5,none⟩=some (.pointer (some ⟨a,c,none⟩)):=l;have d2:w.drew.cell? ⟨b,2,none⟩=some u2:=j;have d3:w.drew.cell? ⟨b,3,none⟩=some u3:=k;have q:w.drew.frozen? ⟨b,2,none⟩=false:=o;have r:w.drew.frozen? ⟨b,3,none⟩=false:=p;have d:(⟨b,2,none⟩:Addr)≠⟨b,3,none⟩:=by simp
 have a1:(w.setCell ⟨b,2,none⟩ (.pointer (some ⟨g,2,none⟩))).drew.cell? ⟨b,3,none⟩=some u3:=(ZG _ _ _ _ d).t k;have a2:(w.setCell ⟨b,3,none⟩ (.pointer (some ⟨a,c,none⟩))).drew.cell? ⟨b,2,none⟩=some u2:=(ZG _ _ _ _ d.symm).t j;have a3:(w.setCell ⟨b,2,none⟩ (.pointer (some ⟨g,2,none⟩))).drew.frozen? ⟨b,3,none⟩=false:=(vy _ _ _ _).t p;have a4:(w.setCell ⟨b,3,none⟩ (.pointer (some ⟨a,c,none⟩))).drew.frozen? ⟨b,2,none⟩=false:=(vy _ _ _ _).t o;have a5:(w.setCell ⟨b,2,none⟩ (.pointer (some ⟨g,2,none⟩))).drew.cell? ⟨g,5,none⟩=some (.pointer (some ⟨a,c,none⟩)):=(ZG _ _ _ _ (by simp[f])).t l
 go_enter func227,ntmps227
 go_wp2;go_region;obtain⟨w1,i⟩:=zzx (((w.setCell ⟨b,2,none⟩ (.pointer (some ⟨g,2,none⟩))).setCell ⟨b,3,none⟩ (.pointer (some ⟨a,c,none⟩))).drew)
 rw[<-i];have HT:Two w w1 ⟨b,2,none⟩ (.pointer (some ⟨g,2,none⟩)) ⟨b,3,none⟩ (.pointer (some ⟨a,c,none⟩)):=.inl i;clear i a1 a2 a3 a4 a5 d2 d3 d5 q r;have b2:w1.drew.cell? ⟨b,2,none⟩=some (.pointer (some ⟨g,2,none⟩)):=HT.left j d;have b3:w1.drew.cell? ⟨b,3,none⟩=some (.pointer (some ⟨a,c,none⟩)):=HT.right k d;have by':w1.cell? ⟨a,c+2,none⟩=some m:=(HT.other (λe=>n (by injection e with e;exact e.symm)) (λe=>n (by injection e with e;exact e.symm))).t v
 have b5:w1.cell? ⟨g,5,none⟩=some (.pointer (some ⟨a,c,none⟩)):=(HT.other (λe=>f (by injection e with e;exact e.symm)) (λe=>f (by injection e with e;exact e.symm))).t l;have gy:w1.frozen? ⟨a,c+2,none⟩=false:=(HT.frozen _).t t;have g5:w1.frozen? ⟨g,5,none⟩=false:=(HT.frozen _).t s;have ey:w1.drew.cell? ⟨a,c+2,none⟩=some m:=by'
 have e5:w1.drew.cell? ⟨g,5,none⟩=some (.pointer (some ⟨a,c,none⟩)):=b5;have x:w1.drew.frozen? ⟨a,c+2,none⟩=false:=gy;have f51:w1.drew.frozen? ⟨g,5,none⟩=false:=g5;have ny:(⟨a,c+2,none⟩:Addr)≠⟨g,5,none⟩:=by
  intro e
  injection e with e1 e2
  rcases u with h|h
  .exact h e1
  exact h e2
 have k5:(w1.setCell ⟨a,c+2,none⟩ (.pointer (some ⟨b,0,none⟩))).drew.cell? ⟨g,5,none⟩=some (.pointer (some ⟨a,c,none⟩)):=(ZG _ _ _ _ ny).t b5;have k6:(w1.setCell ⟨a,c+2,none⟩ (.pointer (some ⟨b,0,none⟩))).drew.frozen? ⟨g,5,none⟩=false:=(vy _ _ _ _).t g5;have k7:(w1.setCell ⟨g,5,none⟩ (.pointer (some ⟨b,0,none⟩))).drew.cell? ⟨a,c+2,none⟩=some m:=(ZG _ _ _ _ ny.symm).t by'
 have k8:(w1.setCell ⟨g,5,none⟩ (.pointer (some ⟨b,0,none⟩))).drew.frozen? ⟨a,c+2,none⟩=false:=(vy _ _ _ _).t gy;clear j k l v o p s t d;go_wp2;go_region
 all_goals (
  refine xI (VF rfl _ _ _) rfl ⟨rfl,w1,HT,?_⟩
  first
   | exact .inl rfl
   | exact .inr rfl)
section
open Go.RowKit Go.Maps Go.ChangeMaps Go.WideMaps
def Qoz(v:J):Y (DataW J×List MemPlace):=some (.held v,[])
def klit(s:O):Lit:=.string s.data.toList
variable {s:O}
theorem Qn6{u:O}(h:klit s=klit u):s=u:=by
 have h1:s.data.toList=u.data.toList:=by injection h
 cases s;cases u;simp only[ByteArray.mk.injEq];exact za0.1 h1
structure KmAt(w:G)(k:TypeId)(b:Nat)(get:O->Y J)(n:Nat):Prop where
 ex:∃ D:DataW J,w.ownsMap prog k Qoz b n D/\Maps.size D=n/\(∀ s,Maps.has D (klit s)=(get s).isSome)/\∀ s v z,get s=some v->D.atKey (klit s) z=.held v
section
variable {w:G} {k:TypeId} {b n:Nat} {get:O->Y J}
variable {m:Nat}
theorem Qki{H:Type}{P:Program}{R:J->Y (DataW H×List MemPlace)}{D:DataW H}(h:w.ownsMap P k R b m D):w.ownsMap P k R b (Maps.size D) D:=by
 obtain⟨es,clock,hb,F,hs,rfl⟩:=h;refine⟨es,clock,hb,F,?_,rfl⟩;have e1:Maps.size (DataW.map ((es.toList.map (Go.WideElems.rg P k R)).foldr DataW.insert []))=es.size:=by simp[Maps.size,length_sorted]
 rw[e1];exact zg _
theorem KmAt.made_at(w:G)(k:TypeId){b:Nat}(a:w.heap[b]?=some (.map #[] 0)):KmAt w k b (λ_=>none) 0:=by refine⟨.map [],⟨#[],0,a,?_,zg _,rfl⟩,rfl,λ_=>rfl,λ_ _ _ h=>by cases h⟩;obtain⟨es,c,h1,F,_,_⟩:=World.ownsMap_made (H:=J) w prog k Qoz;have h2:(w.alloc (.map #[] 0)).heap[w.heap.size]?=some (.map #[] 0):=VK;rw[h2] at h1;cases h1;exact F
theorem KmAt.lt(h:KmAt w k b get n):b<w.heap.size:=by obtain⟨D,hD,_⟩:=h.ex;exact hD.lt
variable {w':G}
theorem KmAt.same(h:KmAt w k b get n)(e:w'.heap[b]?=w.heap[b]?):KmAt w' k b get n:=by obtain⟨D,⟨es,c,hb,r⟩,q⟩:=h.ex;exact⟨D,⟨es,c,by rw[e];exact hb,r⟩,q⟩
theorem KmAt.fr{S:Nat->Prop}(h:KmAt w k b get n)(a:Fr S w w')(c:¬ S b):KmAt w' k b get n:=h.same (a.block b h.lt c)
theorem KmAt.j{B:Nat}(h:KmAt w k b get n)(c:Below B w w')(a:b<B):KmAt w' k b get n:=h.same (c.block b a)
theorem Fr.ofTurned(h:w.mapTurned w' b):Fr (·=b) w w':=by obtain⟨es,c,es',c',_,rfl⟩:=h;refine⟨rfl,rfl,rfl,by simp[setBlock],λi _ hs=>?_⟩;simp only[setBlock];exact Array.getElem?_setIfInBounds_ne (λe=>hs e.symm)
theorem Qpj(h:w.mapTurned w' b):w'.heap.size=w.heap.size:=by obtain⟨es,c,es',c',_,rfl⟩:=h;simp[setBlock]
variable {D:DataW J}
theorem KmAt.put{v:J}(h:prog.underlying k=some .string)(a:w.ownsMap prog k Qoz b m D)(d:∀ s,Maps.has D (klit s)=(get s).isSome)(g:∀ s v z,get s=some v->D.atKey (klit s) z=.held v)(f:w'.ownsMap prog k Qoz b (m+1) (D.put (klit s) (.held v))):KmAt w' k b (λu=>if u=s then some v else get u) (if (get s).isSome then Maps.size D else Maps.size D+1):=by
 have K:=string_keyed h;have hT:=a.tidy K;have c:=size_put (k:=klit s) hT (DataW.held v);rw[d s] at c;have ht:=Qki f;rw[c] at ht;refine⟨_,ht,c,λu=>?_,λu x z hu=>?_⟩
 .by_cases e:u=s
  .subst e;simp[has_put_same a.isMap (show WideAt.IsKeyLit (klit u) from trivial)]
  simp only[zw e];rw[has_put_other (λq=>e (Qn6 q)),d u]
 by_cases e:u=s
 .subst e
  simp only[zac,ZM] at hu;rw[atKey_put_same a.isMap (show WideAt.IsKeyLit (klit u) from trivial),hu]
 simp only[zw e] at hu;rw[atKey_put_other (λq=>e (Qn6 q)),g u x z hu]
theorem KmAt.del(h:prog.underlying k=some .string)(a:w.ownsMap prog k Qoz b m D)(c:∀ s,Maps.has D (klit s)=(get s).isSome)(g:∀ s v z,get s=some v->D.atKey (klit s) z=.held v)(f:w'.ownsMap prog k Qoz b m (D.del (klit s))):KmAt w' k b (λu=>if u=s then none else get u) (Maps.size D-(if (get s).isSome then 1 else 0)):=by
 have K:=string_keyed h;have hT:=a.tidy K;have d:=size_del (k:=klit s) hT;rw[c s] at d;have ht:=Qki f;have e1:Maps.size (D.del (klit s))=Maps.size D-(if (get s).isSome then 1 else 0):=by omega
 rw[e1] at ht;refine⟨_,ht,e1,λu=>?_,λu x z hu=>?_⟩
 .by_cases e:u=s
  .subst e;simp[has_del_same]
  simp only[zw e];rw[has_del_other (λq=>e (Qn6 q)),c u]
 by_cases e:u=s
 .subst e;simp at hu
 simp only[zw e] at hu;rw[atKey_del_other (λq=>e (Qn6 q)),g u x z hu]
end
section
variable (w:G) {ops:Array Oper} {rest:List Oper} {o:Oper} {a:Act} {Q:Exit->Act->G->Prop}
theorem J7(j:o.guard=none)(m x:Operand)(t:TypeId)(i:o.op=Op.lookup t m x true)(k e:TypeId)(g:prog.underlying k=some .string)(q:prog.underlying t=some (.map k e)){z:J}(u:(zeroValue e).run prog w=.ok z w)(b n:Nat)(c:O->Y J)(l:a.eval m=.map (some b))(h:KmAt w k b c n)(s:O)(r:a.eval x=.string s)(p:s.size<=maxLen)(f:wpList prog ops Q rest (a.put o.dst (.tuple #[(c s).getD z,.bool (c s).isSome])) w):wpList prog ops Q (o :: rest) a w:=by
 obtain⟨D,d,hn,hh,ha⟩:=h.ex;refine wpList_lookup_own_ok w j m x t i k e (string_keyed g) q Qoz u (.held z) [] rfl b n D l d (.string s) (klit s) r (keyOf_string_mk g p) λv ps hv=>?_
 have e1:DataW.held v=D.atKey (klit s) (.held z):=by
  have:=zB (Option.map Prod.fst) hv
  simpa [Qoz] using this
 cases hg':c s with
 | none=>
  rw[atKey_of_not_has (by rw[hh s,hg'];rfl)] at e1
  injection e1 with e1
  subst e1;rw[hh s];simpa [hg'] using f
 | some y=>
  rw[ha s y _ hg'] at e1
  injection e1 with e1
  subst e1;rw[hh s];simpa [hg'] using f
theorem Qfg(l:o.guard=none)(m x v:Operand)(t:TypeId)(i:o.op=Op.mapUpdate t m x v)(k e:TypeId)(f:prog.underlying k=some .string)(z:prog.underlying t=some (.map k e))(b n:Nat)(c:O->Y J)(p:a.eval m=.map (some b))(h:KmAt w k b c n)(q:n<maxLen)(s:O)(y:J)(B:a.eval x=.string s)(r:s.size<=maxLen)(A:a.eval v=y)(j:∀ w',KmAt w' k b (λu=>if u=s then some y else c u) (if (c s).isSome then n else n+1)->Fr (·=b) w w'->w'.heap.size=w.heap.size->wpList prog ops Q rest (a.put o.dst undef) w'):wpList prog ops Q (o :: rest) a w:=by
 obtain⟨D,d,g,hh,ha⟩:=h.ex;refine wpList_mapUpdate_in w l m x v t i k e (string_keyed f) z Qoz b n D p d q (.string s) y (klit s) B A (keyOf_string_mk f r) (.held y) [] rfl λw' h1 h2=>?_
 have h3:=KmAt.put f d hh ha h1;rw[g] at h3;exact j w' h3 (Fr.ofTurned h2) (Qpj h2)
theorem Qwb(l:o.guard=none)(m x:Operand)(t k:TypeId)(i:o.op=Op.call { callee:=Callee.builtin Builtin.delete,args:=#[m,x],argTypes:=#[t,k] })(e:TypeId)(f:prog.underlying k=some .string)(r:prog.underlying t=some (.map k e))(b n:Nat)(c:O->Y J)(p:a.eval m=.map (some b))(h:KmAt w k b c n)(s:O)(v:a.eval x=.string s)(q:s.size<=maxLen)(j:∀ w',KmAt w' k b (λu=>if u=s then none else c u) (n-(if (c s).isSome then 1 else 0))->Fr (·=b) w w'->w'.heap.size=w.heap.size->wpList prog ops Q rest (a.put o.dst (.tuple #[])) w'):wpList prog ops Q (o :: rest) a w:=by
 obtain⟨D,d,g,hh,ha⟩:=h.ex;refine wpList_delete_own w l m x t k i e (string_keyed f) r Qoz b n D p d (.string s) (klit s) v (keyOf_string_mk f q) λw' h1 h2=>?_
 have h3:=KmAt.del f d hh ha h1;rw[g] at h3;exact j w' h3 (Fr.ofTurned h2) (Qpj h2)
end
end
def Node(w:G)(b:Nat)(k:O)(v:J):Prop:=∃ l e,w.heap[b]?=some (.cells #[.string k,v,.pointer l,.pointer e] 251 (0,0))
def Ends(w:G)(g m n:Nat):Prop:=∃ l e,w.heap[g]?=some (.cells #[.int .i64 n,.map (some m),.string ⟨#[]⟩,.slice none 0 0,.pointer l,.pointer e] 253 (0,0))
variable {k:O} {a:Addr} {p:Y Addr}
theorem Node.set(h:Node w b k v)(c:a.block=b->a=⟨b,2,none⟩∨a=⟨b,3,none⟩):Node (w.setCell a (.pointer p)) b k v:=by
 obtain⟨l,e,h⟩:=h;by_cases hb:a.block=b
 .rcases c hb with rfl|rfl
  .exact⟨p,e,by rw[heap_setCell h];rfl⟩
  exact⟨l,p,by rw[heap_setCell h];rfl⟩
 exact⟨l,e,J8 h (λe=>hb e.symm) _⟩
variable {m n:Nat}
theorem Ends.set(h:Ends w g m n)(b:a.block=g->a=⟨g,4,none⟩∨a=⟨g,5,none⟩):Ends (w.setCell a (.pointer p)) g m n:=by
 obtain⟨l,e,h⟩:=h;by_cases hb:a.block=g
 .rcases b hb with rfl|rfl
  .exact⟨p,e,by rw[heap_setCell h];rfl⟩
  exact⟨l,p,by rw[heap_setCell h];rfl⟩
 exact⟨l,e,J8 h (λe=>hb e.symm) _⟩
variable {y:Y Addr}
theorem Node.two{p:Addr}{x:Y Addr}(h:Node w b k v)(d:Two w w' p (.pointer x) q (.pointer y))(a:p.block=b->p=⟨b,2,none⟩∨p=⟨b,3,none⟩)(c:q.block=b->q=⟨b,2,none⟩∨q=⟨b,3,none⟩):Node w' b k v:=by
 have hd:Node w.drew b k v:=h;rcases d with rfl|rfl
 .exact (hd.set a).set c
 exact (hd.set c).set a
theorem Ends.two{p:Addr}{x:Y Addr}(h:Ends w g m n)(c:Two w w' p (.pointer x) q (.pointer y))(a:p.block=g->p=⟨g,4,none⟩∨p=⟨g,5,none⟩)(b:q.block=g->q=⟨g,4,none⟩∨q=⟨g,5,none⟩):Ends w' g m n:=by
 have hd:Ends w.drew g m n:=h;rcases c with rfl|rfl
 .exact (hd.set a).set b
 exact (hd.set b).set a
theorem Node.j(h:Node w b k v)(e:w'.heap[b]?=w.heap[b]?):Node w' b k v:=by obtain⟨l,r,h⟩:=h;exact⟨l,r,e.t h⟩
theorem Ends.j(h:Ends w g m n)(e:w'.heap[g]?=w.heap[g]?):Ends w' g m n:=by obtain⟨l,r,h⟩:=h;exact⟨l,r,e.t h⟩
theorem Node.free(h:Node w b k v)(i:Nat):w.frozen? ⟨b,i,none⟩=false:=by obtain⟨l,e,h⟩:=h;exact Qu h i
theorem Ends.free(h:Ends w g m n)(i:Nat):w.frozen? ⟨g,i,none⟩=false:=by obtain⟨l,e,h⟩:=h;exact Qu h i
theorem Node.key(h:Node w b k v):w.cell? ⟨b,0,none⟩=some (.string k):=by obtain⟨l,e,h⟩:=h;exact Qd h 0 rfl
theorem Node.val(h:Node w b k v):w.cell? ⟨b,1,none⟩=some v:=by obtain⟨l,e,h⟩:=h;exact Qd h 1 rfl
theorem Ends.most(h:Ends w g m n):w.cell? ⟨g,0,none⟩=some (.int .i64 n):=by obtain⟨l,e,h⟩:=h;exact Qd h 0 rfl
theorem Ends.all(h:Ends w g m n):w.cell? ⟨g,1,none⟩=some (.map (some m)):=by obtain⟨l,e,h⟩:=h;exact Qd h 1 rfl
theorem Node.ne(h:Node w b k v)(a:Ends w g m n):b≠g:=by rintro rfl;obtain⟨l,e,h⟩:=h;obtain⟨l',e',a⟩:=a;rw[h] at a;cases a
structure J0(w:G)(g m n:Nat)(ps:List (Nat×O×J)):Prop where
 ends:Ends w g m n
 nodes:∀ p∈ps,Node w p.1 p.2.1 p.2.2
 chn:Chn w g none (ps.map (·.1))
 nd:(ps.map (·.1)).Nodup
variable {x:Y Nat}
theorem Qsx(a:b≠g)(h:(rL g x).block=b):rL g x=⟨b,2,none⟩∨rL g x=⟨b,3,none⟩:=by
 cases x with
 | none=>exact absurd h.symm a
 | some c=>exact .inl (by cases h;rfl)
theorem Qze(a:b≠g)(h:(rE g x).block=b):rE g x=⟨b,2,none⟩∨rE g x=⟨b,3,none⟩:=by
 cases x with
 | none=>exact absurd h.symm a
 | some c=>exact .inr (by cases h;rfl)
theorem Q6w(a:x≠some g)(h:(rL g x).block=g):rL g x=⟨g,4,none⟩∨rL g x=⟨g,5,none⟩:=by
 cases x with
 | none=>exact .inl rfl
 | some c=>exact absurd (zB some h) a
theorem Zcy(a:x≠some g)(h:(rE g x).block=g):rE g x=⟨g,4,none⟩∨rE g x=⟨g,5,none⟩:=by
 cases x with
 | none=>exact .inr rfl
 | some c=>exact absurd (zB some h) a
theorem Q4u{y:Y Nat}{u:J}(h:Two w w' (rL g y) (rP g x) (rE g x) (rP g y))(b:w.cell? (rL g y)=some u)(a:w.cell? (rE g x)=some v):Q7g w w' g x y:=
 ⟨⟨h.right a (Qcq g x y).symm,h.left b (Qcq g x y).symm⟩,λ_ h1 h2=>h.other h2 h1⟩
def aB(g:Nat):Y Nat->Nat
 | none=>g
 | some c=>c
def aO:Y Nat->Nat
 | none=>2
 | some _=>0
theorem Q03(g:Nat)(x:Y Nat):rA g x=⟨aB g x,aO x,none⟩:=by cases x <;> rfl
theorem Zbs(g:Nat)(x:Y Nat):rE g x=⟨aB g x,aO x+3,none⟩:=by cases x <;> rfl
theorem Quj(g:Nat)(x:Y Nat):rL g x=⟨aB g x,aO x+2,none⟩:=by cases x <;> rfl
theorem Zeb(x y:Y Nat):aO x+3≠aO y+2:=by cases x <;> cases y <;> simp[aO]
theorem Zc6(y:Y Nat):aO y+2≠5:=by cases y <;> simp[aO]
section
variable {w:G} {g m n:Nat} {ps:List (Nat×O×J)}
variable {b:Nat}
theorem J0.node(h:J0 w g m n ps)(a:b∈ps.map (·.1)):∃ k v,(b,k,v)∈ps/\Node w b k v:=by obtain⟨p,hp,rfl⟩:=zU.1 a;exact⟨p.2.1,p.2.2,hp,h.nodes p hp⟩
theorem J0.ne(h:J0 w g m n ps)(a:b∈ps.map (·.1)):b≠g:=by obtain⟨k,v,_,hN⟩:=h.node a;exact hN.ne h.ends
theorem J0.free(h:J0 w g m n ps){x:Y Nat}(a:x=none∨∃ b∈ps.map (·.1),x=some b)(i:Nat):w.frozen? ⟨aB g x,i,none⟩=false:=by
 rcases a with rfl|⟨b,hb,rfl⟩
 .exact h.ends.free i
 obtain⟨k,v,_,hN⟩:=h.node hb;exact hN.free i
variable {w':G} {p q:Addr}
theorem J0.turn(h:J0 w g m n ps){x y:Y Addr}(j:Two w w' p (.pointer x) q (.pointer y)){a:List (Nat×O×J)}(c:∀ z∈a,z∈ps)(d:∀ b,b≠g->p.block=b->p=⟨b,2,none⟩∨p=⟨b,3,none⟩)(f:∀ b,b≠g->q.block=b->q=⟨b,2,none⟩∨q=⟨b,3,none⟩)(e:p.block=g->p=⟨g,4,none⟩∨p=⟨g,5,none⟩)(i:q.block=g->q=⟨g,4,none⟩∨q=⟨g,5,none⟩)(k:Chn w' g none (a.map (·.1)))(l:(a.map (·.1)).Nodup):J0 w' g m n a:=
 ⟨h.ends.two j e i,λz hz=>(h.nodes z (c z hz)).two j (d _ (h.ne (vK (c z hz)))) (f _ (h.ne (vK (c z hz)))),k,l⟩
end
theorem Qpo(w:G)(g m n:Nat)(l r:List (Nat×O×J))(b:Nat)(k:O)(v:J)(h:J0 w g m n (l++(b,k,v) :: r))(c:J):Calls prog 226 #[c,.pointer (some ⟨b,0,none⟩)] w (λe w'=>e=.returned (.tuple #[])/\J0 w' g m n (l++r)/\Node w' b k v/\Fr (λi=>i=g∨i∈(l++(b,k,v) :: r).map (·.1)) w w'/\w'.heap.size=w.heap.size):=by
 have hm:(l++(b,k,v) :: r).map (·.1)=l.map (·.1)++b :: r.map (·.1):=by simp
 have hC:=h.chn;rw[hm] at hC;have hN:=h.nd;rw[hm] at hN;obtain⟨K1,K2⟩:=hC.before;have K3:=K2.first;obtain⟨x,hx⟩:=zzx (lst none (l.map (·.1)))
 obtain⟨y,hy⟩:=zzx ((r.map (·.1)).head?)
 rw[<-hx] at K1;rw[<-hy] at K3;have a:x=none∨∃ d∈(l++(b,k,v) :: r).map (·.1),x=some d:=by
  rcases Qst (x:=none) (l:=l.map (·.1)) with e|⟨d,hd,e⟩
  .exact .inl (hx.t e)
  exact .inr ⟨d,by rw[hm];exact ZT _ hd,hx.t e⟩
 have f:y=none∨∃ d∈(l++(b,k,v) :: r).map (·.1),y=some d:=by
  cases r with
  | nil=>exact .inl hy
  | cons z r=>exact .inr ⟨z.1,by simp,hy⟩
 have o:b∈(l++(b,k,v) :: r).map (·.1):=by simp
 have j:=h.ne o;have s:b≠aB g x:=by
  rcases Qst (x:=none) (l:=l.map (·.1)) with e|⟨d,hd,e⟩
  .rw[hx,e];exact j
  rw[hx,e];rintro rfl
  have:=(VI.1 hN).2.2 _ hd _ (.head _)
  exact this rfl
 have u:b≠aB g y:=by
  cases r with
  | nil=>rw[hy];exact j
  | cons z r=>
   rw[hy];rintro rfl;exact (ZY.1 (VI.1 hN).2.1).1 (.head _)
 have t:x≠some g:=by
  rcases a with e|⟨d,hd,e⟩
  .rw[e];simp
  rw[e];intro q;cases q;exact h.ne hd rfl
 have A:y≠some g:=by
  rcases f with e|⟨d,hd,e⟩
  .rw[e];simp
  rw[e];intro q;cases q;exact h.ne hd rfl
 have c2:w.cell? ⟨b,2,none⟩=some (.pointer (some ⟨aB g x,aO x,none⟩)):=by have:=K1.l;rwa [rP,Q03] at this
 have c3:w.cell? ⟨b,3,none⟩=some (.pointer (some ⟨aB g y,aO y,none⟩)):=by have:=K3.e;rwa [rP,Q03] at this
 have cx:w.cell? ⟨aB g x,aO x+3,none⟩=some (rP g (some b)):=by have:=K1.e;rwa [Zbs] at this
 have cy:w.cell? ⟨aB g y,aO y+2,none⟩=some (rP g (some b)):=by have:=K3.l;rwa [Quj] at this
 refine (Q9b w c b _ _ _ _ _ _ c2 c3 cx cy (h.free a _) (h.free f _) s u (.inr (Zeb x y))).m ?_;rintro e w'⟨rfl,ht⟩;rw[<-Quj,<-Zbs,<-Q03,<-Q03] at ht;have hj:Q7g w w' g x y:=Q4u ht (by rw[Quj];exact cy) (by rw[Zbs];exact cx);have p:∀ z∈l++r,z∈l++(b,k,v) :: r:=by
  intro z hz;rcases ZL.1 hz with hz|hz
  .exact ZT _ hz
  exact VE _ (.tail _ hz)
 refine⟨rfl,h.turn ht p (λd hd=>Qsx hd) (λd hd=>Qze hd) (Q6w A) (Zcy t) ?_ ?_,(h.nodes (b,k,v) (by simp)).two ht (Qsx j) (Qze j),?_,?_⟩
 .rw[zL]
  refine Chn.take hC (λc _=>by simp) hN ?_;rw[<-hx,<-hy];exact hj
 .rw[zL]
  exact hN.sublist (List.Sublist.append_left (List.sublist_cons_self _ _) _)
 .refine ht.fr.weak λi _ hi=>?_
  rcases hi with rfl|rfl
  .rcases f with e|⟨d,hd,e⟩
   .rw[e];exact .inl rfl
   rw[e];exact .inr hd
  rcases a with e|⟨d,hd,e⟩
  .rw[e];exact .inl rfl
  rw[e];exact .inr hd
 rcases ht with rfl|rfl <;> (simp only[World.setCell,Array.size_modify];rfl)
variable {p:Addr}
theorem Two.size{w:G}{u v:J}(h:Two w w' p u q v):w'.heap.size=w.heap.size:=by rcases h with rfl|rfl <;> (simp only[World.setCell,Array.size_modify];rfl)
theorem Qi9(w:G)(g m n:Nat)(ps:List (Nat×O×J))(b:Nat)(k:O)(v:J)(h:J0 w g m n ps)(C:b ∉ ps.map (·.1))(f:Node w b k v):Calls prog 227 #[.pointer (some ⟨g,0,none⟩),.pointer (some ⟨b,0,none⟩)] w (λe w'=>e=.returned (.tuple #[])/\J0 w' g m n ((b,k,v) :: ps)/\Fr (λi=>i=g∨i=b∨i∈ps.map (·.1)) w w'/\w'.heap.size=w.heap.size):=by
 have a:=f.ne h.ends;obtain⟨y,hy⟩:=zzx ((ps.map (·.1)).head?)
 have K:=h.chn.first;rw[<-hy] at K;have c:y=none∨∃ d∈ps.map (·.1),y=some d:=by
  cases ps with
  | nil=>exact .inl hy
  | cons z r=>exact .inr ⟨z.1,by simp,hy⟩
 have j:b≠aB g y:=by
  rcases c with e|⟨d,hd,e⟩
  .rw[e];exact a
  rw[e];rintro rfl;exact C hd
 have D:y≠some g:=by
  rcases c with e|⟨d,hd,e⟩
  .rw[e];simp
  rw[e];intro q;cases q;exact h.ne hd rfl
 obtain⟨l0,e0,t⟩:=id f;have c2:w.cell? ⟨b,2,none⟩=some (.pointer l0):=Qd t 2 rfl;have c3:w.cell? ⟨b,3,none⟩=some (.pointer e0):=Qd t 3 rfl;have c5:w.cell? ⟨g,5,none⟩=some (.pointer (some ⟨aB g y,aO y,none⟩)):=by have:=K.e;rwa [rP,Q03] at this
 have cy:w.cell? ⟨aB g y,aO y+2,none⟩=some (rP g none):=by have:=K.l;rwa [Quj] at this
 refine (Q5m w g b _ _ _ _ _ c2 c3 c5 cy (f.free _) (f.free _) (h.ends.free _) (h.free c _) a j (.inr (Zc6 y))).m ?_;rintro e w'⟨rfl,w1,h1,h2⟩;rw[<-Q03] at h1;rw[<-Quj] at h2;have B:(⟨b,2,none⟩:Addr)≠⟨b,3,none⟩:=by simp
 have o:rL g y≠⟨b,2,none⟩:=by rw[Quj];intro q;injection q with q;exact j q.symm
 have s:rL g y≠⟨b,3,none⟩:=by rw[Quj];intro q;injection q with q;exact j q.symm
 have u:(⟨g,5,none⟩:Addr)≠⟨b,2,none⟩:=by intro q;injection q with q;exact a q.symm
 have x:(⟨g,5,none⟩:Addr)≠⟨b,3,none⟩:=by intro q;injection q with q;exact a q.symm
 have A:rL g y≠⟨g,5,none⟩:=(Qcq g none y).symm;have q2:=h1.left c2 B;have q3:=h1.right c3 B;have q5:=(h1.other u x).t c5;have qy:w1.cell? (rL g y)=some (rP g none):=(h1.other o s).t (by rw[Quj];exact cy);have hf:Q6v w w' g b y:=by refine⟨⟨h2.right q5 A,(h2.other o.symm u.symm).t q2⟩,⟨(h2.other s.symm x.symm).t q3,h2.left qy A⟩,λp p1 p2 p3 p4=>?_⟩;exact (h2.other p4 p1).t (h1.other p2 p3)
 have N1:∀ d k v,d≠g->Node w d k v->Node w' d k v:=by intro d k v hd hN;refine (hN.two h1 (λe=>.inl (by cases e;rfl)) (λe=>.inr (by cases e;rfl))).two h2 (Qsx hd) (λe=>absurd e.symm hd)
 have E1:Ends w' g m n:=(h.ends.two h1 (λe=>absurd e a) (λe=>absurd e a)).two h2 (Q6w D) (λ_=>.inr rfl);refine⟨rfl,⟨E1,?_,?_,?_⟩,?_,h2.size.t h1.size⟩
 .intro p hp
  rcases ZH.1 hp with rfl|hp
  .exact N1 _ _ _ a f
  exact N1 _ _ _ (h.ne (vK hp)) (h.nodes p hp)
 .refine Chn.front h.chn C h.nd ?_
  rw[<-hy];exact hf
 .exact ZY.2 ⟨C,h.nd⟩
 refine Fr.t (h1.fr.weak λi _ hi=>?_) (h2.fr.weak λi _ hi=>?_)
 .rcases hi with rfl|rfl <;> exact .inr (.inl rfl)
 rcases hi with rfl|rfl
 .rcases c with e|⟨d,hd,e⟩
  .rw[e];exact .inl rfl
  rw[e];exact .inr (.inr hd)
 exact .inl rfl
structure OutT where
 blk:Y Nat
instance Zej:Inhabited OutT:=⟨⟨none⟩⟩
section
variable [Inhabited OutT]
def Out.blk:Y Nat:=(default:OutT).blk
def OwnB(w:G)(base:Nat)(v:J)(l:Ud):Prop:=Q3 w base v l/\∀ z,Out.blk=some z->v.ownBlock≠some z
variable {w w':G} {base:Nat} {v:J} {l:Ud}
theorem OwnB.same(h:OwnB w base v l)(a:∀ (k:Nat) (C:Array J) (fz:Nat×Nat),w.heap[k]?=some (Obj.cells C 5 fz)->w'.heap[k]?=w.heap[k]?):OwnB w' base v l:=⟨h.1.same a,h.2⟩
theorem OwnB.j(h:OwnB w base v l)(a:Bz w w'):OwnB w' base v l:=⟨h.1.j a,h.2⟩
theorem OwnB.new(h:Q3 w base v l)(a:∀ z,Out.blk=some z->z<base):OwnB w 0 v l:=by
 refine⟨h.m (zE _),λz hz e=>?_⟩;have d:=a z hz;rcases h with⟨rfl,_⟩|⟨b,off,c,C,fz,rfl,_,h2,_⟩
 .cases e
 simp[Value.ownBlock] at e;omega
structure CEnt where
 b:Nat
 key:O
 val:J
 data:Ud
def CEnt.tri(q:CEnt):Nat×O×J:=(q.b,q.key,q.val)
def CEnt.kv(q:CEnt):Kv:=(q.key,q.data)
def cfind(qs:List CEnt)(s:O):Y CEnt:=qs.find? λq=>decide (q.key=s)
def Qkf(qs:List CEnt)(s:O):Y J:=(cfind qs s).map λq=>.pointer (some ⟨q.b,0,none⟩)
structure Yd(w:G)(g m:Nat)(c:Cch)(qs:List CEnt):Prop where
 ring:J0 w g m c.most (qs.map CEnt.tri)
 items:c.items=qs.map CEnt.kv
 vals:∀ q∈qs,OwnB w 0 q.val q.data
 km:KmAt w 9 m (Qkf qs) qs.length
 keys:(qs.map (·.key)).Nodup
 small:∀ q∈qs,q.key.size<=maxLen
 fits:qs.length<=c.most
 most:c.most<=maxLen
def Yw(g m:Nat)(qs:List CEnt)(k:Nat):Prop:=k=g∨k=m∨k∈qs.map (·.b)
theorem Qc8(a:List CEnt):(a.map CEnt.tri).map (·.1)=a.map (·.b):=by have:=(inferInstance:Inhabited OutT);simp[CEnt.tri]
theorem Qix(a:List CEnt)(s:O):Yj (a.map CEnt.kv) s=(cfind a s).map (·.data):=by
 have:=(inferInstance:Inhabited OutT)
 unfold Yj cfind;rw[List.find?_map];simp only[zax];rfl
variable {qs:List CEnt} {s:O} {q:CEnt}
theorem Qel(h:cfind qs s=some q):q.key=s/\∃ l r,qs=l++q :: r/\∀ x∈l,x.key≠s:=by
 have:=(inferInstance:Inhabited OutT)
 unfold cfind at h;obtain⟨h1,l,r,h2,h3⟩:=List.find?_eq_some_iff_append.1 h;exact⟨by simpa using h1,l,r,h2,λx hx=>by simpa using h3 x hx⟩
theorem Qi8(h:cfind qs s=none):∀ x∈qs,x.key≠s:=by
 have:=(inferInstance:Inhabited OutT)
 unfold cfind at h;intro x hx
 have:=XC.1 h x hx
 simpa using this
theorem Qvc(a:List CEnt)(s:O):Ju (a.map CEnt.kv) s=(a.filter λq=>!decide (q.key=s)).map CEnt.kv:=by
 have:=(inferInstance:Inhabited OutT)
 unfold Ju;rw[List.filter_map];rfl
theorem Qr5{l r:List CEnt}(c:q.key=s)(d:((l++q :: r).map (·.key)).Nodup):(l++q :: r).filter (λx=>!decide (x.key=s))=l++r:=by
 have:=(inferInstance:Inhabited OutT)
 have h1:∀ x∈l++r,(!decide (x.key=s))=true:=by
  intro x hx;have b:x.key≠s:=by intro e;have a:((q :: (l++r)).map (·.key)).Nodup:=(VQ (List.Perm.map _ Xj)).1 d;rw[zT,ZY] at a;exact a.1 (by rw[c,<-e];exact vK hx)
  simp[b]
 rw[xQ,List.filter_cons,zw (by simp[c]),<-xQ];exact xF.2 h1
end
section
variable [Inhabited OutT]
variable {w:G} {m n g:Nat} {ps:List (Nat×O×J)}
theorem Qn7{k:TypeId}{a:O->Y J}{d:Nat}(h:KmAt w k m a n)(b:J0 w g m d ps):m≠g/\m ∉ ps.map (·.1):=by
 have:=(inferInstance:Inhabited OutT)
 obtain⟨D,⟨es,c,hb,_⟩,_⟩:=h.ex;refine⟨?_,λhm=>?_⟩
 .rintro rfl
  obtain⟨l,e,h2⟩:=b.ends;rw[hb] at h2;cases h2
 obtain⟨k',v,_,l,e,h2⟩:=b.node hm;rw[hb] at h2;cases h2
theorem Qhp(h:J0 w g m n ps):Qc4 w (λi=>i=g∨i∈ps.map (·.1)):=by
 have:=(inferInstance:Inhabited OutT)
 intro k C fz hk hs;rcases hs with rfl|hs
 .obtain⟨l,e,h2⟩:=h.ends
  rw[hk] at h2;cases h2
 obtain⟨k',v,_,l,e,h2⟩:=h.node hs;rw[hk] at h2;cases h2
def Qpe(w:G)(g m:Nat)(c:Cch)(qs:List CEnt)(k:O)(e:Ua)(w':G):Prop:=
 (cfind qs k=none/\e=.returned (.tuple #[.slice none 0 0,.bool false])/\w'=w)∨
 ∃ q qs',cfind qs k=some q/\e=.returned (.tuple #[q.val,.bool true])/\Yd w' g m (Yz c k) qs'/\q∈qs'/\Fr (Yw g m qs) w w'/\w'.heap.size=w.heap.size/\∀ i,Yw g m qs' i↔Yw g m qs i
theorem Q9e(w:G)(g m:Nat)(c:Cch)(a:List CEnt)(k:O)(h:Yd w g m c a)(e:k.size<=maxLen)(d:cfind a k=none):Calls prog 192 #[.pointer (some ⟨g,0,none⟩),.string k] w (Qpe w g m c a k):=by
 have f:=h.ring.ends.all;have b:Qkf a k=none:=by simp[Qkf,d]
 have KM:=zh h.km
 go_enter func192,ntmps192
 go_wp2_with (first|at_lookup;refine J7 _ rfl _ _ 248 rfl 9 249 underlying9 underlying248 (z:=.pointer none) rfl m a.length (Qkf a) rfl KM.o k rfl e ?_;rw[b];simp only[Option.getD,Option.isSome]|fail)
 refine zI (results_tmp2 rfl _ _ _) rfl ?_;exact .inl ⟨d,rfl,rfl⟩
variable {qs:List CEnt}
theorem Zcs(b:(qs.map (·.key)).Nodup){x y:CEnt}(c:x∈qs)(d:y∈qs)(e:x.key=y.key):x=y:=by
 have:=(inferInstance:Inhabited OutT)
 induction qs with
 | nil=>cases c
 | cons a qs ih=>
  rw[zT,ZY] at b;rcases ZH.1 c with h1|h1
  .rcases ZH.1 d with h2|h2
   .rw[h1,h2]
   subst h1;exact absurd (zU.2 ⟨y,h2,e.symm⟩) b.1
  rcases ZH.1 d with h2|h2
  .subst h2
   exact absurd (zU.2 ⟨x,h1,e⟩) b.1
  exact ih b.2 h1 h2
variable {q:CEnt}
theorem Qcr(a:(qs.map (·.key)).Nodup){s:O}:cfind qs s=some q↔q∈qs/\q.key=s:=by
 constructor
 .intro h
  obtain⟨h1,l,r,rfl,_⟩:=Qel h;exact⟨by simp,h1⟩
 rintro ⟨h1,h2⟩;cases h:cfind qs s with
 | none=>exact absurd h2 (Qi8 h q h1)
 | some x=>
  obtain⟨h3,l,r,h4,_⟩:=Qel h;rw[Zcs a (x:=x) (y:=q) (by rw[h4];simp) h1 (h3.t h2.symm)]
variable {rs:List CEnt}
theorem Qx0(a:(qs.map (·.key)).Nodup)(b:(rs.map (·.key)).Nodup)(h:∀ x,x∈qs↔x∈rs)(s:O):cfind qs s=cfind rs s:=by
 cases h1:cfind rs s with
 | none=>
  cases h2:cfind qs s with
  | none=>rfl
  | some x=>exact absurd ((Qcr a).1 h2).2 (Qi8 h1 x ((h x).1 ((Qcr a).1 h2).1))
 | some x=>exact (Qcr a).2 ⟨(h x).2 ((Qcr b).1 h1).1,((Qcr b).1 h1).2⟩
theorem Q16(b:(qs.map (·.key)).Nodup)(a:(rs.map (·.key)).Nodup)(h:∀ x,x∈qs↔x∈rs):Qkf qs=Qkf rs:=by
 funext s
 unfold Qkf;rw[Qx0 b a h]
theorem Yd.got{w':G}{c:Cch}{l r:List CEnt}(h:Yd w g m c (l++q :: r))(n:J0 w' g m c.most ((q :: (l++r)).map CEnt.tri))(j:Fr (λi=>i=g∨i∈((l++q :: r).map CEnt.tri).map (·.1)) w w'):Yd w' g m (Yz c q.key) (q :: (l++r)):=by
 have hp:(l++q :: r).Perm (q :: (l++r)):=Xj;have hk:((q :: (l++r)).map (·.key)).Nodup:=(VQ (hp.map _)).1 h.keys;have a:∀ x,x∈q :: (l++r)↔x∈l++q :: r:=λx=>hp.symm.mem_iff
 have hg:Yj c.items q.key=some q.data:=by rw[h.items,Qix,(Qcr h.keys).2 ⟨by simp,rfl⟩];rfl
 have b:(q :: (l++r)).length=(l++q :: r).length:=hp.symm.length_eq;have ec:Yz c q.key={ c with items:=(q.key,q.data) :: Ju c.items q.key }:=by unfold Yz;rw[hg]
 have d:=h.km;rw[<-Q16 hk h.keys a,<-b] at d;have f:=Qn7 h.km h.ring;refine⟨by rw[ec];exact n,?_,λx hx=>?_,d.fr j (by rintro (e|e);exact f.1 e;exact f.2 e),hk,λx hx=>h.small x ((a x).1 hx),?_,by rw[ec];exact h.most⟩
 .rw[ec]
  show (q.key,q.data) :: Ju c.items q.key=_;rw[h.items,Qvc,Qr5 rfl h.keys];rfl
 .exact (h.vals x ((a x).1 hx)).same λk C fz hk=>j.block k (Qb hk) (Qhp h.ring k C fz hk)
 rw[ec,b];exact h.fits
theorem Q9p(w:G)(g m:Nat)(c:Cch)(l r:List CEnt)(q:CEnt)(h:Yd w g m c (l++q :: r))(I:q.key.size<=maxLen):Calls prog 192 #[.pointer (some ⟨g,0,none⟩),.string q.key] w (Qpe w g m c (l++q :: r) q.key):=by
 have K:=h.ring.ends.all;have hf:cfind (l++q :: r) q.key=some q:=(Qcr h.keys).2 ⟨by simp,rfl⟩;have H:Qkf (l++q :: r) q.key=some (.pointer (some ⟨q.b,0,none⟩)):=by simp[Qkf,hf]
 have hr:J0 w g m c.most (l.map CEnt.tri++(q.b,q.key,q.val) :: r.map CEnt.tri):=by have:=h.ring;rwa [zL,zT] at this
 have KM:=zh h.km;have s:q.b ∉ (l.map CEnt.tri++r.map CEnt.tri).map (·.1):=by
  have h1:=hr.nd;have h2:((l.map CEnt.tri++(q.b,q.key,q.val) :: r.map CEnt.tri).map (·.1)).Perm (q.b :: (l.map CEnt.tri++r.map CEnt.tri).map (·.1)):=by
   have:=(Xj (a:=(q.b,q.key,q.val)) (l₁:=l.map CEnt.tri) (l₂:=r.map CEnt.tri)).map (·.1)
   exact this
  exact (ZY.1 ((VQ h2).1 h1)).1
 obtain⟨HR,B⟩:=zh2 hr s;clear s
 go_enter func192,ntmps192
 go_wp2_with (first|at_lookup;refine J7 _ rfl _ _ 248 rfl 9 249 underlying9 underlying248 (z:=.pointer none) rfl m (l++q :: r).length (Qkf (l++q :: r)) rfl KM.o q.key rfl I ?_;rw[H];simp only[Option.getD,Option.isSome]|go_at_call 226;refine (Qpo w g m c.most _ _ q.b q.key q.val HR.o _).m ?_;rintro e w1⟨rfl,t,p,f,u⟩;obtain⟨C,A,x,E⟩:=zh4 t p f u;clear t p f u|go_at_call 227;refine (Qi9 _ g m c.most _ q.b q.key q.val C.o B.o A.o).m ?_;rintro e w2⟨rfl,d,j,v⟩;have HV:=(d.nodes _ (.head _)).val;obtain⟨D,y,F⟩:=zh3 d j v;clear d j v|fail)
 refine zI (results_tmp2 rfl _ _ _) rfl ?_;have n:∀ i,(i=g∨i∈((l.map CEnt.tri++(q.b,q.key,q.val) :: r.map CEnt.tri)).map (·.1))↔(i=g∨i∈((l++q :: r).map CEnt.tri).map (·.1)):=λi=>by simp[CEnt.tri]
 have f:Fr (λi=>i=g∨i∈((l++q :: r).map CEnt.tri).map (·.1)) w w1:=x.o.weak λi _ hi=>(n i).1 hi
 have j:Fr (λi=>i=g∨i∈((l++q :: r).map CEnt.tri).map (·.1)) w1 w2:=y.o.weak λi _ hi=>by
  rw[<-n];rcases hi with rfl|rfl|hi
  .exact .inl rfl
  .exact .inr (by simp)
  refine .inr ?_;simp only[zL,zT,ZL,ZH] at hi ⊢;rcases hi with hi|hi
  .exact .inl hi
  exact .inr (.inr hi)
 have k:=f.t j;have d:J0 w2 g m c.most ((q :: (l++r)).map CEnt.tri):=by have:=D.o;rwa [zT,zL]
 refine .inr ⟨q,q :: (l++r),hf,rfl,h.got d k,.head _,k.weak λi _ hi=>?_,F.o.t E.o,λi=>?_⟩
 .rw[Qc8] at hi
  rcases hi with hi|hi
  .exact .inl hi
  exact .inr (.inr hi)
 have hp:((q :: (l++r)).map (·.b)).Perm ((l++q :: r).map (·.b)):=Xj.symm.map _;unfold Yw;rw[hp.mem_iff]
theorem Qzz(w:G)(g m:Nat)(c:Cch)(a:List CEnt)(k:O)(h:Yd w g m c a)(b:k.size<=maxLen):Calls prog 192 #[.pointer (some ⟨g,0,none⟩),.string k] w (Qpe w g m c a k):=by
 cases hf:cfind a k with
 | none=>exact Q9e w g m c a k h b hf
 | some q=>
  obtain⟨rfl,l,r,rfl,_⟩:=Qel hf;exact Q9p w g m c l r q h b
end
section
variable [Inhabited OutT]
theorem Qfq(w:G)(o:Obj):(w.alloc o).heap.size=w.heap.size+1:=have:=(inferInstance:Inhabited OutT);Array.size_push _
theorem Zai(w:G)(i:Int)(j:i<=9223372036854775807):Calls prog 130 #[.int .i64 i] w (λe w'=>∃ g m,e=.returned (.pointer (some ⟨g,0,none⟩))/\Yd w' g m ⟨i.toNat,[]⟩ []/\Bz w w'/\w.heap.size<=g/\w.heap.size<=m):=by
 have h:=@run_makeMap prog
 go_enter func130,ntmps130
 go_upto_region 2 with fail
 first|rw[show (if i<0 then 0 else i)=(i.toNat:Int) by split <;> omega]|rw[show max i 0=(i.toNat:Int) by omega]
 obtain⟨W,hW⟩:=zzx ((w.alloc (.map #[] 0)).alloc (.cells #[.int .i64 i.toNat,.map (some w.heap.size),.string ⟨#[]⟩,.slice none 0 0,.pointer none,.pointer none] 253))
 rw[<-hW];obtain⟨g,hg⟩:=zzx (w.heap.size+1)
 rw[<-hg];have hb:Bz w W:=by rw[hW];exact (Qa w _).t ((Qa (w.alloc (.map #[] 0)) _).m (by rw[Qfq];exact Va _))
 have a:W.heap[g]?=some (.cells #[.int .i64 i.toNat,.map (some w.heap.size),.string ⟨#[]⟩,.slice none 0 0,.pointer none,.pointer none] 253 (0,0)):=by rw[hW,hg,<-Qfq w (.map #[] 0)];exact VK
 have c:W.heap[w.heap.size]?=some (.map #[] 0):=by rw[hW];refine (vW _ _ (by rw[Qfq];exact za1 _)).t ?_;exact VK
 have c4:W.drew.cell? ⟨g,4,none⟩=some (.pointer none):=Qd a 4 rfl;have c5:W.drew.cell? ⟨g,5,none⟩=some (.pointer none):=Qd a 5 rfl;have f4:W.drew.frozen? ⟨g,4,none⟩=false:=Qu a 4;have f5:W.drew.frozen? ⟨g,5,none⟩=false:=Qu a 5;have k4:(W.setCell ⟨g,5,none⟩ (.pointer (some ⟨g,2,none⟩))).drew.cell? ⟨g,4,none⟩=some (.pointer none):=(ZG _ _ _ _ (by simp)).t c4;have k5:(W.setCell ⟨g,5,none⟩ (.pointer (some ⟨g,2,none⟩))).drew.frozen? ⟨g,4,none⟩=false:=(vy _ _ _ _).t f4;obtain⟨HW,HB,HE,HM,HG⟩:=zh5 hW hb a c hg;clear hW hb a c hg;go_region;obtain⟨W2,b⟩:=zzx (((W.setCell ⟨g,5,none⟩ (.pointer (some ⟨g,2,none⟩))).setCell ⟨g,4,none⟩ (.pointer (some ⟨g,2,none⟩))).drew)
 rw[<-b];have hT:Two W W2 ⟨g,5,none⟩ (.pointer (some ⟨g,2,none⟩)) ⟨g,4,none⟩ (.pointer (some ⟨g,2,none⟩)):=.inl b;have HT:=zh hT;clear b hT;go_wp2;refine zI (xX rfl _ _ _) rfl ?_;have d:(⟨g,5,none⟩:Addr)≠⟨g,4,none⟩:=by simp
 have f:w.heap.size≠g:=by rw[HG.o];exact xH (za1 _)
 have hE:Ends W g w.heap.size i.toNat:=⟨none,none,HE.o⟩
 refine⟨g,w.heap.size,rfl,⟨⟨hE.two HT.o (λ_=>.inr rfl) (λ_=>.inl rfl),λp hp=>(by cases hp),⟨HT.o.left c5 d,HT.o.right c4 d⟩,VU⟩,rfl,λq hq=>(by cases hq),?_,VU,λq hq=>(by cases hq),zE _,?_⟩,?_,by rw[HG.o];exact Va _,zg _⟩
 .have h1:=(KmAt.made_at W 9 HM.o).fr HT.o.fr (by rintro (e|e) <;> exact f e)
  exact h1
 .show i.toNat<=maxLen
  have:maxLen=9223372036854775807:=rfl
  omega
 refine⟨HT.o.fr.os.t HB.o.os,HT.o.fr.tape.t HB.o.tape,HT.o.fr.output.t HB.o.output,zi HB.o.size HT.o.fr.size,λk hk=>?_⟩;refine (HT.o.fr.block k (zJ hk HB.o.size) ?_).t (HB.o.block k hk);rintro (e|e) <;> (have e:k=g:=e;have:=HG.o;omega)
end
section
variable [Inhabited OutT]
def Qpk(w:G)(g m:Nat)(c:Cch)(qs:List CEnt)(k:O)(dat:Ud)(e:Ua)(w':G):Prop:=
 e=.returned (.tuple #[])/\∃ qs',Yd w' g m (Yg c k dat) qs'/\qs'.length<=qs.length+1/\Fr (Yw g m qs) w w'/\∀ i,i<w.heap.size->Yw g m qs' i->Yw g m qs i
theorem Yd.fr{w w':G}{g m:Nat}{c:Cch}{d:List CEnt}(h:Yd w g m c d){S:Nat->Prop}(f:Fr S w w')(j:∀ i,Yw g m d i->¬ S i)(n:Qc4 w S):Yd w' g m c d:=by
 have hb:∀ q∈d,¬ S q.b:=λq hq=>j _ (.inr (.inr (vK hq)))
 have hg:¬ S g:=j _ (.inl rfl);have hE:w'.heap[g]?=w.heap[g]?:=by obtain⟨l,e,h2⟩:=h.ring.ends;exact f.block g (Qb h2) hg
 have hN:∀ b∈(d.map CEnt.tri).map (·.1),w'.heap[b]?=w.heap[b]?:=by intro b a;obtain⟨k,v,_,l,e,h2⟩:=h.ring.node a;rw[Qc8] at a;exact f.block b (Qb h2) (j _ (.inr (.inr a)))
 refine⟨⟨h.ring.ends.j hE,λp hp=>(h.ring.nodes p hp).j (hN _ (vK hp)),?_,h.ring.nd⟩,h.items,λq hq=>?_,h.km.fr f (j _ (.inr (.inl rfl))),h.keys,h.small,h.fits,h.most⟩
 .refine h.ring.chn.agree (λy hy=>?_) (λy hy=>?_)
  .rcases hy with rfl|⟨b,a,rfl⟩
   .exact vH (w:=w) hE
   exact vH (w:=w) (hN b a)
  rcases hy with rfl|⟨b,a,rfl⟩
  .exact vH (w:=w) hE
  exact vH (w:=w) (hN b a)
 exact (h.vals q hq).same λk C fz hk=>f.block k (Qb hk) (n k C fz hk)
theorem Q7d(w:G)(g m:Nat)(c:Cch)(a:List CEnt)(k:O)(v:J)(b:Ud)(h:Yd w g m c a)(d:c.most=0):Calls prog 184 #[.pointer (some ⟨g,0,none⟩),.string k,v] w (Qpk w g m c a k b):=by
 have hm:=h.ring.ends.most;rw[d] at hm;have H:=zh h;clear h
 go_enter func184,ntmps184
 go_wp2;refine zI (VF rfl _ _ _) rfl ⟨rfl,a,?_,Va _,Fr.refl _ _,λ_ _ hi=>hi⟩;unfold Yg;rw[zD d];exact H.o
variable {w w':G} {g m n:Nat} {ps:List (Nat×O×J)} {S:Nat->Prop}
theorem J0.fr(h:J0 w g m n ps)(c:Fr S w w')(d:¬ S g)(f:∀ b∈ps.map (·.1),¬ S b):J0 w' g m n ps:=by
 have:=(inferInstance:Inhabited OutT)
 have hE:w'.heap[g]?=w.heap[g]?:=by obtain⟨l,e,h2⟩:=h.ends;exact c.block g (Qb h2) d
 have hN:∀ b∈ps.map (·.1),w'.heap[b]?=w.heap[b]?:=by intro b a;obtain⟨k,v,_,l,e,h2⟩:=h.node a;exact c.block b (Qb h2) (f b a)
 refine⟨h.ends.j hE,λp hp=>(h.nodes p hp).j (hN _ (vK hp)),h.chn.agree (λy hy=>?_) (λy hy=>?_),h.nd⟩
 .rcases hy with rfl|⟨b,a,rfl⟩
  .exact vH (w:=w) hE
  exact vH (w:=w) (hN b a)
 rcases hy with rfl|⟨b,a,rfl⟩
 .exact vH (w:=w) hE
 exact vH (w:=w) (hN b a)
variable {b:Nat}
theorem J0.lt(h:J0 w g m n ps)(a:b∈ps.map (·.1)):b<w.heap.size:=by
 have:=(inferInstance:Inhabited OutT)
 obtain⟨k,v,_,l,e,h2⟩:=h.node a;exact Qb h2
theorem Qt2(w:G)(k:O)(v:J):Node (w.alloc (.cells #[.string k,v,.pointer none,.pointer none] 251)) w.heap.size k v:=have:=(inferInstance:Inhabited OutT);⟨none,none,VK⟩
variable {w1 w2:G} {k:O} {v:J}
theorem Qrj(h:w2=w1.alloc (.cells #[.string k,v,.pointer none,.pointer none] 251)):Fr (λ_=>False) w1 w2/\Node w2 w1.heap.size k v:=by subst h;exact⟨Fr.ofBelow (Qa _ _),Qt2 _ _ _⟩
variable {c:Cch} {qs:List CEnt} {get:O->Y J}
theorem Yd.newer{a:List CEnt}{d:Ud}(h:Yd w g m c qs)(j:∀ x∈a,x∈qs)(r:(a.map (·.key)).Nodup)(o:∀ x∈a,x.key≠k)(l:k.size<=maxLen)(p:a.length+1<=c.most)(s:J0 w' g m c.most ((b,k,v) :: a.map CEnt.tri))(t:OwnB w' 0 v d)(n:∀ x∈a,OwnB w' 0 x.val x.data)(f:KmAt w' 9 m get (a.length+1))(i:∀ u,get u=if u=k then some (.pointer (some ⟨b,0,none⟩)) else Qkf a u):Yd w' g m { c with items:=(k,d) :: a.map CEnt.kv } (⟨b,k,v,d⟩ :: a):=by
 have he:get=Qkf (⟨b,k,v,d⟩ :: a):=by
  funext u
  rw[i u];unfold Qkf cfind;by_cases e:u=k
  .rw[zD e,List.find?_cons_of_pos (by simp[e])];rfl
  rw[zw e,za7 (by simp;exact λq=>e q.symm)]
 rw[he] at f;refine⟨s,rfl,λq hq=>?_,f,?_,λq hq=>?_,p,h.most⟩
 .rcases ZH.1 hq with rfl|hq
  .exact t
  exact n q hq
 .rw[zT,ZY]
  refine⟨λhm=>?_,r⟩;obtain⟨x,hx,e⟩:=zU.1 hm;exact o x hx e
 rcases ZH.1 hq with rfl|hq
 .exact l
 exact h.small q (j q hq)
theorem Qg1(h:Yd w g m c qs):Qc4 w (Yw g m qs):=by
 intro k C fz hk hs;rcases hs with rfl|rfl|hs
 .exact Qhp h.ring _ C fz hk (.inl rfl)
 .obtain⟨D,⟨es,cl,hb,_⟩,_⟩:=h.km.ex
  rw[hk] at hb;cases hb
 exact Qhp h.ring _ C fz hk (.inr (by rw[Qc8];exact hs))
theorem Qug{l r:List CEnt}{q:CEnt}{u:O}(h:u≠q.key):Qkf (l++q :: r) u=Qkf (l++r) u:=by
 have:=(inferInstance:Inhabited OutT)
 unfold Qkf cfind;rw[xY,xY,za7 (by simp;exact λe=>h e.symm)]
theorem Q7c(w:G)(g m:Nat)(c:Cch)(l r:List CEnt)(q:CEnt)(a:Y Addr)(n A:Nat)(d:Ud)(h:Yd w g m c (l++q :: r))(hv:OwnB w 0 (.slice a n A) d)(h0:c.most≠0)(v:q.key.size<=maxLen)(ac:(l++q :: r).length<maxLen):Calls prog 184 #[.pointer (some ⟨g,0,none⟩),.string q.key,.slice a n A] w (Qpk w g m c (l++q :: r) q.key d):=by
 have hm:=h.ring.ends.most;have ax:=h.ring.ends.all;have hz:((c.most:Int)=0)=False:=by simp[h0]
 have hf:cfind (l++q :: r) q.key=some q:=(Qcr h.keys).2 ⟨by simp,rfl⟩;have N:Qkf (l++q :: r) q.key=some (.pointer (some ⟨q.b,0,none⟩)):=by simp[Qkf,hf]
 have hr:J0 w g m c.most (l.map CEnt.tri++(q.b,q.key,q.val) :: r.map CEnt.tri):=by have:=h.ring;rwa [zL,zT] at this
 have s:=Qn7 h.km h.ring;have U:m≠g:=s.1;have V:∀ b∈(l.map CEnt.tri++r.map CEnt.tri).map (·.1),¬ b=m:=by
  rintro b hb rfl;refine s.2 ?_;simp only[zL,zT,ZL,ZH] at hb ⊢;rcases hb with hb|hb
  .exact .inl hb
  exact .inr (.inr hb)
 have ay:=h.km.lt;obtain⟨KM,HR,M,H,HV⟩:=zh5 h.km hr s h hv;clear hr s h hv
 go_enter func184,ntmps184
 go_wp2_with (first|at_lookup;refine J7 _ rfl _ _ 248 rfl 9 249 underlying9 underlying248 (z:=.pointer none) rfl m (l++q :: r).length (Qkf (l++q :: r)) rfl KM.o q.key rfl v ?_;rw[N];simp only[Option.getD,Option.isSome]|go_at_call 226;refine (Qpo w g m c.most _ _ q.b q.key q.val HR.o _).m ?_;rintro e w1⟨rfl,F,ar,B,Z⟩;obtain⟨w2,t⟩:=zzx (w1.alloc (.cells #[.string q.key,.slice a n A,.pointer none,.pointer none] 251));obtain⟨j,W⟩:=Qrj t;have I:=F.fr j id (λ_ _=>id);have R:=(KM.o.fr B (by rintro (e|e);exact M.o.1 e;exact M.o.2 (by simpa [CEnt.tri] using e))).fr j id;have ah:=I.ends.all;rw[t] at ah;obtain⟨al,aj,L,af,ad,f,ae,ai⟩:=zh8 t I W R B Z j (λhb=>V7 _ (F.lt hb):w1.heap.size ∉ (l.map CEnt.tri++r.map CEnt.tri).map (·.1));clear F ar B Z t j I W R|at_mapUpdate;rw[<-al.o];refine Qfg _ rfl _ _ _ 248 rfl 9 249 underlying9 underlying248 m _ _ rfl af.o ac q.key (.pointer (some ⟨w1.heap.size,0,none⟩)) rfl v rfl ?_;intro w3 S P aa;obtain⟨ag,y,av⟩:=zh3 S P aa;clear S P aa|go_at_call 227;refine (Qi9 w3 g m c.most _ w1.heap.size q.key (.slice a n A) (aj.o.fr y.o (λe=>U e.symm) V) ai.o (L.o.j (y.o.block _ (by obtain⟨_,_,hh⟩:=L.o;exact Qb hh) (by have:=f.o;omega)))).m ?_;rintro e w4⟨rfl,X,Q,ab⟩;obtain⟨ak,K,aw⟩:=zh3 X Q ab;clear X Q ab|fail)
 have aq:∀ i,(i=g∨i∈((l.map CEnt.tri++(q.b,q.key,q.val) :: r.map CEnt.tri)).map (·.1))->Yw g m (l++q :: r) i:=by
  intro i hi;rcases hi with hi|hi
  .exact .inl hi
  exact .inr (.inr (by simpa [CEnt.tri] using hi))
 have an:Fr (Yw g m (l++q :: r)) w w1:=ad.o.weak λi _ hi=>aq i hi
 have ao:Fr (Yw g m (l++q :: r)) w w2:=an.step ae.o λ_ _ hi=>hi.elim
 have ap:Fr (Yw g m (l++q :: r)) w w3:=ao.step y.o λ_ _ hi=>.inr (.inl hi)
 have hF:Fr (Yw g m (l++q :: r)) w w4:=ap.step K.o λi hi hs=>by
  rcases hs with e|e|e
  .exact .inl e
  .have:=f.o;omega
  refine .inr (.inr ?_);simp only[zL,zT,ZL,ZH,List.map_map] at e ⊢;rcases e with e|e
  .exact .inl e
  exact .inr (.inr e)
 refine xI (VF rfl _ _ _) rfl ⟨rfl,⟨w1.heap.size,q.key,.slice a n A,d⟩ :: (l++r),?_,by simp,hF,?_⟩
 .have hB:∀ (k:Nat) (C:Array J) (fz:Nat×Nat),w.heap[k]?=some (Obj.cells C 5 fz)->w4.heap[k]?=w.heap[k]?:=λk C fz v=>hF.block k (Qb v) (Qg1 H.o k C fz v)
  have hp:(l++q :: r).Perm (q :: (l++r)):=Xj;have D:((q :: (l++r)).map (·.key)).Nodup:=(VQ (hp.map _)).1 H.o.keys;rw[zT,ZY] at D;have T:(l++r).length+1=(l++q :: r).length:=by simp;omega
  have E:∀ x∈l++r,x∈l++q :: r:=λx hx=>hp.mem_iff.2 (.tail _ hx)
  have hg:(Yj c.items q.key).isSome=true:=by rw[H.o.items,Qix,hf];rfl
  have ec:Yg c q.key d={ c with items:=(q.key,d) :: (l++r).map CEnt.kv }:=by unfold Yg;rw[zw h0,zD hg,H.o.items,Qvc,Qr5 rfl H.o.keys]
  rw[ec];have p:=ag.o.fr K.o (by
   rintro (e|e|e)
   .exact U e
   .have:=f.o;omega
   exact V _ e rfl)
  rw[N] at p;simp only[Option.isSome,zac] at p;rw[<-T] at p;refine H.o.newer E D.2 (λx hx e=>D.1 (zU.2 ⟨x,hx,e⟩)) v (by rw[T];exact H.o.fits) ?_ (HV.o.same hB) (λx hx=>(H.o.vals x (E x hx)).same hB) p (λu=>?_)
  .rw[zL];exact ak.o
  by_cases e:u=q.key
  .rw[zD e,zD e]
  rw[zw e,zw e,Qug e]
 intro i hi hS;rcases hS with rfl|rfl|hS
 .exact .inl rfl
 .exact .inr (.inl rfl)
 rw[zT,ZH] at hS;rcases hS with e|hS
 .have:=f.o
  have e:i=w1.heap.size:=e;omega
 refine .inr (.inr ?_);simp only[zL,zT,ZL,ZH] at hS ⊢;rcases hS with h|h
 .exact .inl h
 exact .inr (.inr h)
theorem Qyv(h:w2=(w1.alloc (.cells #[.string k,v,.pointer none,.pointer none] 251)).drew):Fr (λ_=>False) w1 w2/\Node w2 w1.heap.size k v:=by subst h;exact⟨(Fr.ofBelow (Qa _ _)).drew,Qt2 _ _ _⟩
theorem KmAt.run_len{k:TypeId}(h:KmAt w k b get n){t e:TypeId}(f:prog.underlying t=some (.map k e))(d:TypeId):(Builtin.len_ #[t] d #[.map (some b)]).run prog w=.ok (.int .i64 n) w:=by
 have:=(inferInstance:Inhabited OutT)
 obtain⟨D,a,c,_⟩:=h.ex
 have:=a.len f d
 rwa [c] at this
theorem Q4v(w:G)(g m:Nat)(c:Cch)(d:List CEnt)(k:O)(a:Y Addr)(n s:Nat)(j:Ud)(h:Yd w g m c d)(hv:OwnB w 0 (.slice a n s) j)(q:k.size<=maxLen)(v:d.length<c.most)(U:cfind d k=none):Calls prog 184 #[.pointer (some ⟨g,0,none⟩),.string k,.slice a n s] w (Qpk w g m c d k j):=by
 have hm:=h.ring.ends.most;have af:=h.ring.ends.all;have h0:c.most≠0:=by omega
 have hz:((c.most:Int)=0)=False:=by simp[h0]
 have an:((d.length:Int)=(c.most:Int))=False:=by simp;omega
 have E:Qkf d k=none:=by simp[Qkf,U]
 have l:=Qn7 h.km h.ring;have am:=h.km.lt;have dm:w.drew.cell? ⟨g,0,none⟩=some (.int .i64 c.most):=hm;have dc:w.drew.cell? ⟨g,1,none⟩=some (.map (some m)):=af;obtain⟨KM,ai,HR,H,HV⟩:=zh5 h.km l h.ring h hv;have dl:=λty=>(h.km.same (w':=w.drew) rfl).run_len underlying248 ty
 have al:((d.length:Int) == (c.most:Int))=false:=by simp;omega
 obtain⟨w2,p⟩:=zzx ((w.alloc (.cells #[.string k,.slice a n s,.pointer none,.pointer none] 251)).drew)
 obtain⟨f,P⟩:=Qyv p;have y:=h.ring.fr f id (λ_ _=>id);have K:=h.km.fr f id;have D:=y.ends.all;have Z:=D;rw[p] at Z;have N:∀ b∈(d.map CEnt.tri).map (·.1),¬ b=m:=by rintro b hb rfl;exact l.2 hb
 have M:=l.1;have Q:w.heap.size ∉ (d.map CEnt.tri).map (·.1):=λhb=>V7 _ (h.ring.lt hb)
 have ag:d.length<maxLen:=zJ v h.most;obtain⟨ab,W,B,V,ad,aa⟩:=zh6 y K P f p Q;clear l h hv p P f y K D Q
 go_enter func184,ntmps184
 go_upto_region 4 with (first|at_lookup;refine J7 _ rfl _ _ 248 rfl 9 249 underlying9 underlying248 (z:=.pointer none) rfl m d.length (Qkf d) rfl KM.o k rfl q ?_;rw[E];simp only[Option.getD,Option.isSome]|fail)
 go_region
 go_wp2_with (first|at_mapUpdate;rw[<-ad.o];refine Qfg _ rfl _ _ _ 248 rfl 9 249 underlying9 underlying248 m _ _ rfl W.o ag k (.pointer (some ⟨w.heap.size,0,none⟩)) rfl q rfl ?_;intro w3 L F S;obtain⟨X,r,aj⟩:=zh3 L F S;clear L F S|go_at_call 227;refine (Qi9 w3 g m c.most _ w.heap.size k (.slice a n s) (ab.o.fr r.o (λe=>M e.symm) N) aa.o (B.o.j (r.o.block _ (by obtain⟨_,_,hh⟩:=B.o;exact Qb hh) (by omega)))).m ?_;rintro e w4⟨rfl,R,I,T⟩;obtain⟨ac,A,ak⟩:=zh3 R I T;clear R I T|fail)
 have f:Fr (Yw g m d) w w2:=V.o.weak λ_ _ hi=>hi.elim
 have ae:Fr (Yw g m d) w w3:=f.step r.o λ_ _ hi=>.inr (.inl hi)
 have hF:Fr (Yw g m d) w w4:=ae.step A.o λi hi hs=>by
  rcases hs with e|e|e
  .exact .inl e
  .omega
  exact .inr (.inr (by rw[Qc8] at e;exact e))
 have hB:∀ (k:Nat) (C:Array J) (fz:Nat×Nat),w.heap[k]?=some (Obj.cells C 5 fz)->w4.heap[k]?=w.heap[k]?:=λk C fz q=>hF.block k (Qb q) (Qg1 H.o k C fz q)
 refine xI (VF rfl _ _ _) rfl ⟨rfl,⟨w.heap.size,k,.slice a n s,j⟩ :: d,?_,by simp,hF,?_⟩
 .have hg:¬ (Yj c.items k).isSome=true:=by rw[H.o.items,Qix,U];simp
  have hl:¬ c.items.length=c.most:=by rw[H.o.items,zA];omega
  have ec:Yg c k j={ c with items:=(k,j) :: d.map CEnt.kv }:=by unfold Yg;rw[zw h0,zw hg,zw hl,H.o.items]
  rw[ec];have t:=X.o.fr A.o (by
   rintro (e|e|e)
   .exact M e
   .omega
   exact N _ e rfl)
  rw[E] at t;simp only[Option.isSome] at t;exact H.o.newer (λ_ hx=>hx) H.o.keys (Qi8 U) q v ac.o (HV.o.same hB) (λx hx=>(H.o.vals x hx).same hB) t (λu=>rfl)
 intro i hi hS;rcases hS with rfl|rfl|hS
 .exact .inl rfl
 .exact .inr (.inl rfl)
 rw[zT,ZH] at hS;rcases hS with e|hS
 .have e:i=w.heap.size:=e
  omega
 exact .inr (.inr hS)
end
end
section
section
variable [Inhabited OutT]
structure FEnt where
 key:O
 val:J
 data:Ud
def FEnt.kv(x:FEnt):Kv:=(x.key,x.data)
def Qls(vs:List FEnt)(p:O):Y FEnt:=vs.find? λx=>decide (x.key=p)
def fget(vs:List FEnt)(p:O):Y J:=(Qls vs p).map (·.val)
theorem Q0h(a:List FEnt)(p:O):Yj (a.map FEnt.kv) p=(Qls a p).map (·.data):=by
 have:=(inferInstance:Inhabited OutT)
 unfold Yj Qls;rw[List.find?_map];simp only[zax];rfl
variable {vs:List FEnt} {p:O}
theorem Qum{x:FEnt}(h:Qls vs p=some x):x∈vs/\x.key=p:=by
 have:=(inferInstance:Inhabited OutT)
 unfold Qls at h;exact⟨XG h,by have:=List.find?_some h;simpa using this⟩
theorem Qru(h:Qls vs p=none):∀ x∈vs,x.key≠p:=have:=(inferInstance:Inhabited OutT);λx hx=>by
 unfold Qls at h
 have:=XC.1 h x hx
 simpa using this
theorem Q2s(a:List FEnt)(x:FEnt)(p:O):Qls (a ++ [x]) p=(Qls a p).or (if x.key=p then some x else none):=by
 have:=(inferInstance:Inhabited OutT)
 unfold Qls;rw[xY,List.find?_cons];by_cases h:x.key=p
 .simp[h]
 simp[h]
structure Qf where
 gq:Nat
 gc:Nat
 gk:Nat
 mc:Nat
 gn:Nat
 gd:Nat
 mq:Nat
 vl:J
 vt:J
 v:J
 C:Array J
structure Qv where
 vo:J
 qs:List CEnt
 vs:List FEnt
def Qxo(q:Qf)(N:Nat)(vo:J):Array J:=#[.pointer (some ⟨q.gc,0,none⟩),.int .i64 N,.map (some q.mq),vo]
structure QIs(w:G)(q:Qf)(x:Qv)(N:Nat)(s:Cs)(d:Dk):Prop where
 look:w.heap[q.gq]?=some (.cells (Qxo q N x.vo) 263 (0,0))
 km:KmAt w 9 q.mq (fget x.vs) x.vs.length
 ord:Qq w 0 x.vo (x.vs.map (·.key))
 vals:∀ y∈x.vs,OwnB w 0 y.val y.data
 keys:(x.vs.map (·.key)).Nodup
 small:∀ y∈x.vs,y.key.size<=maxLen
 files:s.files=x.vs.map FEnt.kv
 cli:w.heap[q.gc]?=some (.cells q.C 205 (0,0))
 c2:q.C[2]?=some (.iface 48 (.pointer (some ⟨q.gn,0,none⟩)))
 c13:q.C[13]?=some (.pointer (some ⟨q.gk,0,none⟩))
 cache:Yd w q.gk q.mc s.cache x.qs
 net:Yr w q.gn q.gd q.vl q.vt s.net
 disk:Q5 w q.gd q.v d
 dfiles:d.files=s.net.files
 maps:q.mq≠q.mc
 o:∀ z,Out.blk=some z->z<w.heap.size
def Q37(q:Qf)(x:Qv)(k:Nat):Prop:=k=q.gq∨k=q.mq∨x.vo.ownBlock=some k
def QS(q:Qf)(x:Qv)(k:Nat):Prop:=Q37 q x k∨Yw q.gk q.mc x.qs k∨netS q.gn q.vt k
variable {w:G} {m:Nat}
theorem Qjn{k:TypeId}{n:Nat}{a:O->Y J}(h:KmAt w k m a n):∃ es c,w.heap[m]?=some (.map es c):=by
 have:=(inferInstance:Inhabited OutT)
 obtain⟨D,⟨es,c,hb,_⟩,_⟩:=h.ex;exact⟨es,c,hb⟩
theorem Qar{w:G}{g m:Nat}{c:Cch}{a:List CEnt}(h:Yd w g m c a):Qas w (Yw g m a) [253,251]:=λk C t f hk hc=>by
 rcases hk with rfl|rfl|hk
 .obtain⟨l,e,h2⟩:=h.ring.ends
  rw[h2] at hc
  cases hc
  exact ZE
 .obtain⟨es,c,hb⟩:=Qjn h.km
  rw[hb] at hc
  cases hc
 obtain⟨k',v,_,l,e,h2⟩:=h.ring.node (by rw[Qc8];exact hk)
 rw[h2] at hc
 cases hc
 exact zX _ ZE
variable {g gd:Nat} {vl vt:J} {n:Nt}
theorem Qbw(h:Yr w g gd vl vt n):Qas w (netS g vt) [126,3]:=have:=(inferInstance:Inhabited OutT);λk C t f hk hc=>by
 rcases hk with hk|hk
 .have:=Q1 h.cells k C t f hk hc
  simp at this ⊢
  exact .inl this
 have:=Qeo h.told k C t f hk hc
 simp at this ⊢
 exact .inr this
variable {q:Qf} {x:Qv} {N:Nat} {s:Cs} {d:Dk}
theorem QIs.kindsLook(h:QIs w q x N s d):Qas w (Q37 q x) [263,9]:=λk C t f hk hc=>by
 rcases hk with hk|rfl|hk
 .have:=Q1 h.look k C t f hk hc
  simp at this ⊢
  exact .inl this
 .obtain⟨es,c,hb⟩:=Qjn h.km
  rw[hb] at hc
  cases hc
 have:=Qeo h.ord k C t f hk hc
 simp at this ⊢
 exact .inr this
variable {w':G} {S:Nat->Prop} {ts:List TypeId} {base:Nat} {v:J} {l:Ud}
theorem Qrm(h:Q3 w base v l)(c:Fr S w w')(b:Qas w S ts)(a:5 ∉ ts):Q3 w' base v l:=have:=(inferInstance:Inhabited OutT);h.same λk C fz hk=>c.block k (Qb hk) (Z3 b hk a)
theorem Qes(h:OwnB w base v l)(c:Fr S w w')(b:Qas w S ts)(a:5 ∉ ts):OwnB w' base v l:=⟨Qrm h.1 c b a,h.2⟩
theorem Jc(h:Yr w g gd vl vt n)(b:Fr S w w')(a:Qas w S ts)(c:126 ∉ ts)(d:47 ∉ ts)(e:3 ∉ ts):Yr w' g gd vl vt n:=have:=(inferInstance:Inhabited OutT);⟨Ze h.cells b a c,Zm h.lies b a d,Zm h.told b a e,h.len,h.le⟩
variable {c:Cch} {qs:List CEnt}
theorem Qfw(h:Yd w g m c qs)(j:Fr S w w')(a:Qas w S ts)(n:¬ S m)(b:253 ∉ ts)(d:251 ∉ ts)(f:5 ∉ ts):Yd w' g m c qs:=
 h.fr j (λi hi=>by
  rcases hi with rfl|rfl|hi
  .obtain⟨l,e,h4⟩:=h.ring.ends
   exact Z3 a h4 b
  .exact n
  obtain⟨k',v,_,l,e,h4⟩:=h.ring.node (by rw[Qc8];exact hi)
  exact Z3 a h4 d) λk C fz hk=>Z3 a hk f
theorem QIs.mapOut(h:QIs w q x N s d):(¬ Yw q.gk q.mc x.qs q.mq/\¬ netS q.gn q.vt q.mq)/\¬ Q37 q x q.mc:=by
 obtain⟨es,c,hb⟩:=Qjn h.km;obtain⟨b,c2,a⟩:=Qjn h.cache.km;refine⟨⟨λhs=>?_,λhs=>?_⟩,λhs=>?_⟩
 .rcases hs with e|e|e
  .obtain⟨l,r,h2⟩:=h.cache.ring.ends
   rw[e,h2] at hb;cases hb
  .exact h.maps e
  obtain⟨k',v,_,l,r,h2⟩:=h.cache.ring.node (by rw[Qc8];exact e);rw[h2] at hb;cases hb
 .rcases hs with e|e
  .rw[e,h.net.cells] at hb;cases hb
  obtain⟨C,hC⟩:=Qk h.net.told e;rw[hC] at hb;cases hb
 rcases hs with e|e|e
 .rw[e,h.look] at a;cases a
 .exact h.maps e.symm
 obtain⟨C,hC⟩:=Qk h.ord e;rw[hC] at a;cases a
theorem QIs.j{w w':G}{q:Qf}{x:Qv}{N:Nat}{s:Cs}{d:Dk}(h:QIs w q x N s d)(a:Bz w w'):QIs w' q x N s d where
 look:=(a.block _ (Qb h.look)).t h.look
 km:=h.km.j a h.km.lt
 ord:=Qn h.ord a
 vals y hy:=(h.vals y hy).same λk C fz hk=>a.block k (Qb hk)
 keys:=h.keys
 small:=h.small
 files:=h.files
 cli:=(a.block _ (Qb h.cli)).t h.cli
 c2:=h.c2
 c13:=h.c13
 cache:=h.cache.fr (S:=λ_=>False) (Fr.ofBelow a) (λ_ _=>id) (λ_ _ _ _=>id)
 net:=h.net.j a
 disk:=h.disk.j a
 dfiles:=h.dfiles
 maps:=h.maps
 o z hz:=zJ (h.o z hz) a.size
theorem QIs.cacheStep(h:QIs w q x N s d){c:Cch}{b:List CEnt}(e:Yd w' q.gk q.mc c b)(a:Fr (Yw q.gk q.mc x.qs) w w'):QIs w' q { x with qs:=b } N { s with cache:=c } d:=
 have hk:=Qar h.cache
 {
  look:=Ze h.look a hk (by decide)
  km:=h.km.fr a h.mapOut.1.1
  ord:=Zm h.ord a hk (by decide)
  vals:=λy hy=>Qes (h.vals y hy) a hk (by decide)
  keys:=h.keys
  small:=h.small
  files:=h.files
  cli:=Ze h.cli a hk (by decide)
  c2:=h.c2
  c13:=h.c13
  cache:=e
  net:=Jc h.net a hk (by decide) (by decide) (by decide)
  disk:=h.disk.kept a hk (by decide) (by decide)
  dfiles:=h.dfiles
  maps:=h.maps
  o:=λz hz=>zJ (h.o z hz) a.size }
theorem QIs.netStep(h:QIs w q x N s d){c:Nt}(g:Yr w' q.gn q.gd q.vl q.vt c)(a:Fr (netS q.gn q.vt) w w')(f:c.files=s.net.files):QIs w' q x N { s with net:=c } d:=
 have hk:=Qbw h.net
 have hm:¬ netS q.gn q.vt q.mc:=by
  obtain⟨i,c2,b⟩:=Qjn h.cache.km
  rintro (e|e)
  .rw[e,h.net.cells] at b;cases b
  obtain⟨C,hC⟩:=Qk h.net.told e
  rw[hC] at b;cases b
 {
  look:=Ze h.look a hk (by decide)
  km:=h.km.fr a h.mapOut.1.2
  ord:=Zm h.ord a hk (by decide)
  vals:=λy hy=>Qes (h.vals y hy) a hk (by decide)
  keys:=h.keys
  small:=h.small
  files:=h.files
  cli:=Ze h.cli a hk (by decide)
  c2:=h.c2
  c13:=h.c13
  cache:=Qfw h.cache a hk hm (by decide) (by decide) (by decide)
  net:=g
  disk:=h.disk.kept a hk (by decide) (by decide)
  dfiles:=h.dfiles.t f.symm
  maps:=h.maps
  o:=λz hz=>zJ (h.o z hz) a.size }
theorem QIs.lookStep(h:QIs w q x N s d)(c:Fr (Q37 q x) w w'){f:J}{y:FEnt}(j:w'.heap[q.gq]?=some (.cells (Qxo q N f) 263 (0,0)))(i:KmAt w' 9 q.mq (λu=>if u=y.key then some y.val else fget x.vs u) (x.vs.length+1))(k:Qq w' 0 f (x.vs.map (·.key) ++ [y.key]))(m:OwnB w' 0 y.val y.data)(g:Qls x.vs y.key=none)(l:y.key.size<=maxLen):QIs w' q { x with vo:=f,vs:=x.vs ++ [y] } N (Qjc y.key y.data s) d:=
 have hK:=h.kindsLook
 {
  look:=j
  km:=by
   have e:fget (x.vs ++ [y])=λu=>if u=y.key then some y.val else fget x.vs u:=by
    funext u
    unfold fget
    rw[Q2s]
    by_cases hu:u=y.key
    .subst hu
     rw[g,zD rfl,zD rfl]
     rfl
    rw[zw hu,zw (λe=>hu e.symm),Option.or_none]
   rw[zn,Vd,e]
   exact i
  ord:=by rw[zL];exact k
  vals:=λz hz=>by
   rcases ZL.1 hz with hz|hz
   .exact Qes (h.vals z hz) c hK (by decide)
   rw[zS.1 hz];exact m
  keys:=by
   rw[zL,VI]
   refine⟨h.keys,by simp,λa ha b hb e=>?_⟩
   simp at hb
   obtain⟨z,hz,rfl⟩:=zU.1 ha
   exact Qru g z hz (e.t hb)
  small:=λz hz=>by
   rcases ZL.1 hz with hz|hz
   .exact h.small z hz
   rw[zS.1 hz];exact l
  files:=by
   show s.files ++ [(y.key,y.data)]=_
   rw[h.files,zL]
   rfl
  cli:=Ze h.cli c hK (by decide)
  c2:=h.c2
  c13:=h.c13
  cache:=Qfw h.cache c hK h.mapOut.2 (by decide) (by decide) (by decide)
  net:=Jc h.net c hK (by decide) (by decide) (by decide)
  disk:=h.disk.kept c hK (by decide) (by decide)
  dfiles:=h.dfiles
  maps:=h.maps
  o:=λz hz=>zJ (h.o z hz) c.size }
def Jl(w:G)(q:Qf)(x:Qv)(N:Nat)(d:Dk)(w':G)(s':Cs):Prop:=∃ x',QIs w' q x' N s' d/\Fr (QS q x) w w'/\Sub w (QS q x) (QS q x')
variable {a b:G}
theorem Jl.t{c:G}{y:Qv}(e:Fr (QS q x) a b)(f:Sub a (QS q x) (QS q y))(h:Jl b q y N d c s):Jl a q x N d c s:=by obtain⟨z,h1,h2,h3⟩:=h;exact⟨z,h1,e.sub h2 f,f.t h3 e.size⟩
theorem Jl.j{c:G}(h:Jl a q x N d b s)(e:Bz b c):Jl a q x N d c s:=by obtain⟨z,h1,h2,h3⟩:=h;exact⟨z,h1.j e,h2.t (Fr.ofBelow e),h3⟩
theorem Jl.here(h:QIs w q x N s d):Jl w q x N d w s:=⟨x,h,Fr.refl _ _,Sub.refl _ _⟩
theorem QIs.heads(h:QIs w q x N s d):w.cell? ⟨q.gq,0,none⟩=some (.pointer (some ⟨q.gc,0,none⟩))/\w.cell? ⟨q.gq,1,none⟩=some (.int .i64 N)/\w.cell? ⟨q.gq,2,none⟩=some (.map (some q.mq))/\w.cell? ⟨q.gq,3,none⟩=some x.vo/\
  w.cell? ⟨q.gc,2,none⟩=some (.iface 48 (.pointer (some ⟨q.gn,0,none⟩)))/\w.cell? ⟨q.gc,13,none⟩=some (.pointer (some ⟨q.gk,0,none⟩))/\w.frozen? ⟨q.gq,3,none⟩=false:=
 ⟨Qd h.look 0 rfl,Qd h.look 1 rfl,Qd h.look 2 rfl,Qd h.look 3 rfl,Qd h.cli 2 h.c2,Qd h.cli 13 h.c13,Qu h.look 3⟩
end
section
variable [Inhabited OutT]
theorem Qx8{w1 a:G}{k:O}{v:J}(h:a=w1.alloc (.cells #[.string k,v,.pointer none,.pointer none] 251)):Fr (λ_=>False) w1 a/\Node a w1.heap.size k v:=Qrj h
theorem Q4e(w:G)(g m:Nat)(c:Cch)(l:List CEnt)(q:CEnt)(k:O)(a:Y Addr)(n F:Nat)(j:Ud)(h:Yd w g m c (l ++ [q]))(hv:OwnB w 0 (.slice a n F) j)(D:k.size<=maxLen)(a4:(l ++ [q]).length=c.most)(hf:cfind (l ++ [q]) k=none):Calls prog 184 #[.pointer (some ⟨g,0,none⟩),.string k,.slice a n F] w (Qpk w g m c (l ++ [q]) k j):=by
 obtain⟨ln,M⟩:=zzx ((l ++ [q]).length)
 have hm:=h.ring.ends.most;have ab:=h.ring.ends.all;have b3:ln=l.length+1:=by rw[M];simp
 have h0:c.most≠0:=by omega
 have hz:((c.most:Int)=0)=False:=by simp[h0]
 have br:((ln:Int) == (c.most:Int))=true:=by rw[zba];omega
 have ac:Qkf (l ++ [q]) k=none:=by simp[Qkf,hf]
 have A:=Qn7 h.km h.ring;have bq:=h.km.lt;have hr:J0 w g m c.most (l.map CEnt.tri++(q.b,q.key,q.val) :: []):=by have:=h.ring;rwa [zL,zT] at this
 have y:w.cell? ⟨g,4,none⟩=some (.pointer (some ⟨q.b,0,none⟩)):=by have h1:=hr.chn.last.l;rw[zL] at h1;have e:lst none (l.map CEnt.tri |>.map (·.1) |>.append [q.b])=some q.b:=Q3r none _ q.b;have e2:lst none ((l.map CEnt.tri).map (·.1)++((q.b,q.key,q.val) :: []).map (·.1))=some q.b:=e;rw[e2] at h1;exact h1
 have dm:w.drew.cell? ⟨g,0,none⟩=some (.int .i64 c.most):=hm;have dc:w.drew.cell? ⟨g,1,none⟩=some (.map (some m)):=ab;have dl:=λty=>(h.km.same (w':=w.drew) rfl).run_len underlying248 ty
 rw[<-M] at dl;have N:m≠g:=A.1;have bo:q.key.size<=maxLen:=h.small q (by simp);have b1:q.b∈(l.map CEnt.tri++(q.b,q.key,q.val) :: []).map (·.1):=by simp
 have P:∀ b∈(l.map CEnt.tri).map (·.1),¬ b=m:=by rintro b hb rfl;refine A.2 ?_;rw[zL,zL];exact ZT _ hb
 have b2:ln<=maxLen:=by have:=h.most;omega
 obtain⟨KM,HR,W,H,HV,bb⟩:=zh6 h.km hr A h hv M;clear hr A h hv
 go_enter func184,ntmps184
 go_upto_region 4 with (first|at_lookup;refine J7 _ rfl _ _ 248 rfl 9 249 underlying9 underlying248 (z:=.pointer none) rfl m _ (Qkf (l ++ [q])) rfl KM.o k rfl D ?_;rw[ac];simp only[Option.getD,Option.isSome]|fail)
 go_region;have L:w.drew.cell? ⟨g,4,none⟩=some (.pointer (some ⟨q.b,0,none⟩)):=y;have ar:J0 w.drew g m c.most (l.map CEnt.tri++(q.b,q.key,q.val) :: []):=HR.o.fr (S:=λ_=>False) (Fr.ofBelow (Ql w)) id (λ_ _=>id);have bg:=zh ar;clear ar
 go_upto_region 7 with (first|go_at_call 226;refine (Qpo w.drew g m c.most _ _ q.b q.key q.val bg.o _).m ?_;rintro e w1⟨rfl,ap,am,ad,au⟩;obtain⟨X,bc,T,Z⟩:=zh4 ap am ad au;clear ap am ad au|fail)
 have a1:=X.o.ends.all;have a2:=bc.o.key;have aj:KmAt w1 9 m (Qkf (l ++ [q])) ln:=by
  have:=(KM.o.same (w':=w.drew) rfl).fr T.o (by
   rintro (e|e)
   .exact W.o.1 e
   exact W.o.2 (by rw[zL,zT];exact e))
  rw[<-bb.o] at this;exact this
 have a8:=zh aj;clear aj dm dc dl y L br hm ab
 go_still_tail 8,(by kernel_rfl)
 change wpList _ _ _ _ _ w1.drew
 refine Qwb _ rfl _ _ 248 9 rfl 249 underlying9 underlying248 m ln (Qkf (l ++ [q])) rfl (a8.o.same (w':=w1.drew) rfl) q.key rfl bo ?_;intro w2 K ae av;have ai:(Qkf (l ++ [q]) q.key).isSome=true:=by
  have:cfind (l ++ [q]) q.key=some q:=(Qcr H.o.keys).2 ⟨by simp,rfl⟩
  unfold Qkf;rw[this];rfl
 rw[zD ai] at K;obtain⟨w3,B⟩:=zzx (w2.alloc (.cells #[.string k,.slice a n F,.pointer none,.pointer none] 251))
 obtain⟨t,an⟩:=Qx8 B;have p:Fr (·=m) w1 w2:=(Fr.ofBelow (Ql w1)).t ae;have s:J0 w1 g m c.most (l.map CEnt.tri):=by have:=X.o;rwa [ZW] at this
 have Q:=s.fr p (λe=>N e.symm) P;have R:=Q.fr t id (λ_ _=>id);have ak:=K.fr t id;have aa:=R.ends.all;have I:=aa;have bm:=Q.ends.all;rw[B] at I;have d:w2.heap.size=w.heap.size:=av.t Z.o;have ao:w2.heap.size ∉ (l.map CEnt.tri).map (·.1):=λhb=>by
  have:=s.lt hb
  rw[Z.o] at this;rw[d] at this;exact V7 _ this
 have ah:(if k=q.key then none else Qkf (l ++ [q]) k)=none:=by
  split
  .rfl
  exact ac
 obtain⟨be,a9,V,a6,bh,bd,ay,a7⟩:=zh8 R ak an t B ao p ah;have a3:ln-1<maxLen:=by omega
 have bx:m<w2.heap.size:=by rw[d];exact bq
 have bw:g<w2.heap.size:=Qj bm;have az:=zh d;clear ai K ae av t an p s Q R ak aa ao ah B I a2 d a1
 go_wp2_with (first|at_mapUpdate;rw[<-bh.o];refine Qfg _ rfl _ _ _ 248 rfl 9 249 underlying9 underlying248 m _ _ rfl a9.o a3 k (.pointer (some ⟨w2.heap.size,0,none⟩)) rfl D rfl ?_;intro w4 al af aw;obtain⟨ba,E,bz⟩:=zh3 al af aw;clear al af aw|go_at_call 227;refine (Qi9 w4 g m c.most _ w2.heap.size k (.slice a n F) (be.o.fr E.o (λe=>N e.symm) P) bd.o (V.o.j (E.o.block _ (by obtain⟨_,_,hh⟩:=V.o;exact Qb hh) (by omega)))).m ?_;rintro e w5⟨rfl,aq,ag,ax⟩;obtain⟨bf,U,b0⟩:=zh3 aq ag ax;clear aq ag ax|fail)
 have d:=az.o;have bn:∀ i,(i=g∨i∈((l.map CEnt.tri++(q.b,q.key,q.val) :: [])).map (·.1))->Yw g m (l ++ [q]) i:=by
  intro i hi;rcases hi with hi|hi
  .exact .inl hi
  exact .inr (.inr (by simpa [CEnt.tri] using hi))
 have bi:Fr (Yw g m (l ++ [q])) w w1:=((Fr.ofBelow (Ql w)).t T.o).weak λi _ hi=>bn i hi
 have bj:Fr (Yw g m (l ++ [q])) w w2:=bi.step ay.o λ_ _ hi=>.inr (.inl hi)
 have bk:Fr (Yw g m (l ++ [q])) w w3:=bj.step a6.o λ_ _ hi=>hi.elim
 have bl:Fr (Yw g m (l ++ [q])) w w4:=bk.step E.o λ_ _ hi=>.inr (.inl hi)
 have a5:∀ i,i∈(l.map CEnt.tri).map (·.1)->i∈(l ++ [q]).map (·.b):=λi hi=>by rw[Qc8] at hi;rw[zL];exact ZT _ hi
 have hF:Fr (Yw g m (l ++ [q])) w w5:=bl.step U.o λi hi hs=>by
  rcases hs with e|e|e
  .exact .inl e
  .omega
  exact .inr (.inr (a5 i e))
 have hB:∀ (k:Nat) (C:Array J) (fz:Nat×Nat),w.heap[k]?=some (Obj.cells C 5 fz)->w5.heap[k]?=w.heap[k]?:=λk C fz D=>hF.block k (Qb D) (Qg1 H.o k C fz D)
 refine xI (VF rfl _ _ _) rfl ⟨rfl,⟨w2.heap.size,k,.slice a n F,j⟩ :: l,?_,by simp,hF,?_⟩
 .have hg:¬ (Yj c.items k).isSome=true:=by rw[H.o.items,Qix,hf];simp
  have hl:c.items.length=c.most:=by rw[H.o.items,zA];exact a4
  have ec:Yg c k j={ c with items:=(k,j) :: l.map CEnt.kv }:=by unfold Yg;rw[zw h0,zw hg,zD hl,H.o.items,zL];simp
  rw[ec];have v:=ba.o.fr U.o (by
   rintro (e|e|e)
   .exact N e
   .omega
   exact P _ e rfl)
  rw[a7.o] at v;simp only[Option.isSome] at v;have f:=H.o.keys;rw[zL,VI] at f;have bt:∀ x∈l,x.key≠q.key:=λx hx=>f.2.2 x.key (vK hx) q.key (by simp)
  have bp:l.length+1<=c.most:=by omega
  rw[show ln-1=l.length by omega] at v;refine H.o.newer (λx hx=>ZT _ hx) f.1 (λx hx=>Qi8 hf x (ZT _ hx)) D bp bf.o (HV.o.same hB) (λx hx=>(H.o.vals x (ZT _ hx)).same hB) v (λu=>?_);by_cases e:u=k
  .rw[zD e,zD e]
  rw[zw e,zw e];by_cases e2:u=q.key
  .rw[zD e2]
   have:cfind l u=none:=by unfold cfind;rw[XC];intro x hx;simp;rw[e2];exact bt x hx
   unfold Qkf;rw[this];rfl
  rw[zw e2]
  have:=Qug (l:=l) (r:=[]) e2
  rw[ZW] at this;exact this
 intro i hi hS;rcases hS with rfl|rfl|hS
 .exact .inl rfl
 .exact .inr (.inl rfl)
 rw[zT,ZH] at hS;rcases hS with e|hS
 .have e:i=w2.heap.size:=e
  omega
 exact .inr (.inr (by rw[zL];exact ZT _ hS))
theorem Zao(w:G)(g m:Nat)(c:Cch)(d:List CEnt)(k:O)(a:Y Addr)(n f:Nat)(b:Ud)(h:Yd w g m c d)(o:OwnB w 0 (.slice a n f) b)(i:k.size<=maxLen)(j:d.length<maxLen):Calls prog 184 #[.pointer (some ⟨g,0,none⟩),.string k,.slice a n f] w (Qpk w g m c d k b):=by
 by_cases h0:c.most=0
 .exact Q7d w g m c d k _ b h h0
 cases hf:cfind d k with
 | some q=>
  obtain⟨rfl,l,r,rfl,_⟩:=Qel hf;exact Q7c w g m c l r q a n f b h o h0 i j
 | none=>
  rcases zK d.length c.most with s|p
  .exact Q4v w g m c d k a n f b h o i s hf
  have he:d.length=c.most:=Nat.le_antisymm h.fits p;have t:d≠[]:=λe=>by rw[e] at he;exact h0 he.symm
  rw[<-vQ t] at h hf he ⊢;exact Q4e w g m c _ _ k a n f b h o i he hf
end
section
open Go.RowKit Go.Maps Go.ChangeMaps Go.WideMaps
section
theorem Qjj:∀ (xs:List Kv) (c:Cch) (x:Kv),Zl c (xs ++ [x])=Yg (Zl c xs) x.1 x.2
 | [],_,_=>rfl
 | _ :: ys,c,x=>Qjj ys _ x
variable [Inhabited OutT]
variable {w:G}
theorem KmAt.run_look{k:TypeId}{b n:Nat}{a:O->Y J}(h:KmAt w k b a n)(d:prog.underlying k=some .string){t e:TypeId}(g:prog.underlying t=some (.map k e)){z:J}(j:(zeroValue e).run prog w=.ok z w)(s:O)(f:s.size<=maxLen){v:J}(i:a s=some v):(Instr.lookup t (.map (some b)) (.string s) false).run prog w=.ok v w:=by
 have:=(inferInstance:Inhabited OutT)
 obtain⟨D,c,hn,hh,ha⟩:=h.ex;obtain⟨v',ps,h1,h2⟩:=c.lookup (string_keyed d) g j (zd:=.held z) (zp:=[]) rfl (keyOf_string_mk d f);have e1:DataW.held v'=D.atKey (klit s) (.held z):=by
  have:=zB (Option.map Prod.fst) h2
  simp only[Qoz,xk] at this;exact zR this
 rw[ha s v _ i] at e1;cases e1;exact h1
variable {j:Nat} {y:FEnt}
theorem Zcf{a:List FEnt}(e:(a.map (·.key)).Nodup)(d:a[j]?=some y):fget a y.key=some y.val:=by
 obtain⟨b,he⟩:=zj.1 d;cases hf:Qls a y.key with
 | none=>exact absurd rfl (Qru hf y (zr d))
 | some z=>
  obtain⟨hz,f⟩:=Qum hf
  have:z=y:=by
   obtain⟨i,hi,rfl⟩:=zar.1 hz;have e1:(a.map (·.key))[i]'(by rw[zA];exact hi)=(a.map (·.key))[j]'(by rw[zA];exact b):=by rw[XZ,XZ,f,he]
   have c:i=j:=by
    rcases XJ i j with h|h|h
    .exact absurd e1 (XH.1 e i j (by rw[zA];exact hi) (by rw[zA];exact b) h)
    .exact h
    exact absurd e1.symm (XH.1 e j i (by rw[zA];exact b) (by rw[zA];exact hi) h)
   subst c;exact he
  unfold fget;rw[hf,this];rfl
structure RSt(w wr:G)(q:Qf)(x:Qv)(N:Nat)(s:Cs)(d:Dk)(j:Nat)(qs:List CEnt):Prop where
 is:QIs wr q { x with qs:=qs } N { s with cache:=Zl s.cache (s.files.take j) } d
 fr:Fr (Yw q.gk q.mc x.qs) w wr
 sub:∀ i,i<w.heap.size->Yw q.gk q.mc qs i->Yw q.gk q.mc x.qs i
 len:qs.length<=x.qs.length+j
theorem Q8g{f c:G}{q:Qf}{x:Qv}{N:Nat}{s:Cs}{d:Dk}{b a:List CEnt}(h:RSt w f q x N s d j b)(m:x.vs[j]?=some y)(k:Yd c q.gk q.mc (Yg (Zl s.cache (s.files.take j)) y.key y.data) a)(n:a.length<=b.length+1)(g:Fr (Yw q.gk q.mc b) f c)(l:∀ i,i<f.heap.size->Yw q.gk q.mc a i->Yw q.gk q.mc b i):RSt w c q x N s d (j+1) a:=by
 have hk:s.files[j]?=some (y.key,y.data):=by
  have:=h.is.files
  dsimp only at this;rw[this,zN,m];rfl
 refine⟨?_,h.fr.step g h.sub,λi hi e=>h.sub i hi (l i (zJ hi h.fr.size) e),by have:=h.len;omega⟩
 have:=h.is.cacheStep k g
 rw[zY,hk,XD,Qjj];exact this
theorem Qnp(w:G)(q:Qf)(x:Qv)(N:Nat)(s:Cs)(d:Dk)(h:QIs w q x N s d)(p:x.qs.length+x.vs.length<1099511627775):Calls prog 143 #[.pointer (some ⟨q.gq,0,none⟩)] w λe w'=>e=.returned (.tuple #[])/\∃ qs',QIs w' q { x with qs:=qs' } N { s with cache:=Zl s.cache s.files } d/\Fr (Yw q.gk q.mc x.qs) w w'/\∀ i,i<w.heap.size->Yw q.gk q.mc qs' i->Yw q.gk q.mc x.qs i:=by
 obtain⟨ao,co,k⟩:=Zo h.ord;have I:RSt w w q x N s d 0 x.qs:=⟨h,Fr.refl _ _,λ_ _ e=>e,zg _⟩
 obtain⟨ln,g⟩:=zzx x.vs.length
 rw[zA,<-g] at k;obtain⟨_,_,_,c3,_⟩:=h.heads;rw[k] at c3;obtain⟨U,V,v,Q,P⟩:=zh5 I k g h.keys h.files;have ab:x.qs.length+ln<1099511627775:=by rw[g];exact p
 clear h I k g p
 go_enter func143,ntmps143
 go_wp2
 go_loopw [9] (λi wr=>∃ (j:Nat) (qs:List CEnt),j<=ln/\i=.int .i64 j/\Hid (RSt w wr q x N s d j qs)) (λi _=>ln-(intOf i).toNat)
 case atStart=>exact⟨0,x.qs,zE _,rfl,U⟩
 case round=>
  obtain⟨j,qs,hj,rfl,HR⟩:=hrel;by_cases hlt:j<ln
  .have X:(j:Int)<(ln:Int):=by omega
   have ac:(0:Int)<=(j:Int):=by omega
   obtain⟨y,hy⟩:∃ y,x.vs[j]?=some y:=⟨_,ze (by rw[<-v.o];exact hlt)⟩
   obtain⟨_,_,a,_,f⟩:=Zn HR.o.is.ord;have hg:((x.vs.map (·.key)).map Value.string)[j]?=some (.string y.key):=by rw[zN,zN,hy];rfl
   obtain⟨b,off,A,d1⟩:=f _ _ hg;dsimp only at a;rw[V.o] at a;simp only[ZN] at a;have W:=a.1.t A;clear a A f hg;subst W;have u:=zr hy;have l:=HR.o.is.small y u;have m:=HR.o.is.vals y u;obtain⟨av,nv,cv,r⟩:=Qi1 m.1;have n:=Zcf Q.o hy;obtain⟨e0,e1,e2,e3,e4,e5,_⟩:=HR.o.is.heads;have Z:=HR.o.is.km.run_look (t:=261) (e:=147) underlying9 underlying261 (z:=.slice none 0 0) rfl y.key l n;have K:=(HR.o.is.km.same (w':=wr.drew) rfl).run_look (t:=261) (e:=147) underlying9 underlying261 (z:=.slice none 0 0) rfl y.key l n;rw[r] at Z K m;have F:qs.length<maxLen:=by have:=HR.o.len;unfold maxLen;omega
   have c:=Zao wr.drew q.gk q.mc _ qs y.key av nv cv y.data (HR.o.is.cache.fr (S:=λ_=>False) (Fr.ofBelow (Ql wr)) (λ_ _=>id) (λ_ _ _ _=>id)) (OwnB.j m (Ql wr)) l F;obtain⟨CALL,HY⟩:=zh2 c hy;clear c hy u l m r n F
   go_upto_region 3 with fail
   go_still_tail 14,(by kernel_rfl)
   change wpList _ _ _ _ _ wr.drew
   go_wp2_with (go_at_call 184;refine CALL.o.m ?_;rintro e w1⟨rfl,aa,B,E,C,H⟩;obtain⟨L,R,M,T⟩:=zh4 B E C H;clear B E C H)
   go_roundw
   case rel=>exact⟨j+1,aa,by omega,by go_num,zh (Q8g HR.o HY.o L.o R.o ((Fr.ofBelow (Ql wr)).t M.o) T.o)⟩
   case measure=>simp[intOf];omega
  have X:¬ (j:Int)<(ln:Int):=by omega
  have D:j=ln:=by omega
  have HJ:=zh D;clear D;go_wp2;refine xI (VF rfl _ _ _) rfl ⟨rfl,qs,?_,HR.o.fr,HR.o.sub⟩
  have:=HR.o.is
  rw[zk (by rw[P.o,zA,<-v.o,HJ.o];exact zg _)] at this;exact this
end
end
abbrev Zd3:Go.Conc.Locks.MuLink:={ lock:=134,unlock:=135,ilock:=173,iunlock:=174,lockSlow:=218,unlockSlow:=221,disable:=214,enable:=216,acquire:=217,relMerge:=219,cas32:=215,add32:=220,tMutex:=203,tIMutex:=201,tPMutex:=256,tPIMutex:=310,tPI32:=312,tUP:=276,tNoCopy:=198,tU32:=199 }
theorem Zal:Go.Conc.Locks.MuLib prog Zd3:=
 ⟨func134,func135,func173,func174,func214,func216,func217,func219,func215,func220,
 underlying201,runUnderlying201,sizeOf201,isAgg201,zeroValue201,underlying203,runUnderlying203,sizeOf203,isAgg203,zeroValue203,underlying256,runUnderlying256,sizeOf256,isAgg256,zeroValue256,underlying310,runUnderlying310,sizeOf310,isAgg310,zeroValue310,underlying312,runUnderlying312,sizeOf312,isAgg312,zeroValue312,underlying276,runUnderlying276,sizeOf276,isAgg276,zeroValue276,underlying198,runUnderlying198,sizeOf198,isAgg198,zeroValue198,underlying21,runUnderlying21,sizeOf21,isAgg21,zeroValue21,(by kernel_rfl)⟩
def cutR(r:Uc)(j w:Nat):Ud:=((r.drop (4*j)).take w).flatten
def Qd0(es:Uc)(p:O)(b:Ud):Prop:=
 ∃ (m j w:Nat) (r:Uc),(Zc es)[m]?=some r/\1<=w/\w<=4/\4*j+w<=r.length/\p=Qt ((m:Int)-1) j w/\b=cutR r j w
variable {es r:Uc} {w:Nat}
theorem Qp6(b:es.length<=1048576){m j:Nat}(a:(Zc es)[m]?=some r)(d:1<=w)(e:w<=4)(f:4*j+w<=r.length):Ja ((m:Int)-1) j w/\(j:Int)<9223372036854775808:=by obtain⟨a1,a2,a3⟩:=Qdx b;have hn:=(zj.1 a).1;have c:=a3 r (zr a);unfold Ja;omega
variable {b:Ud}
theorem Qth(d:es.length<=1048576){m j:Nat}(f:(Zc es)[m]?=some r)(g:1<=w)(i:w<=4)(k:4*j+w<=r.length)(h:Qd0 es (Qt ((m:Int)-1) j w) b):b=cutR r j w:=by
 obtain⟨m',j',w',r',k1,k2,k3,k4,k5,rfl⟩:=h;have a:=Qp6 d f g i k;have c:=Qp6 d k1 k2 k3 k4;have e:=Qfp a.1 c.1 a.2 c.2 (Qda k5);obtain rfl:m=m':=by omega
 obtain rfl:j=j':=by omega
 obtain rfl:w=w':=by omega
 rw[f] at k1;cases k1;rfl
def Qg7(n:Nt):Prop:=∀ l∈n.lies,l.times<=0
variable {n n':Nt}
theorem Qta(h:Qg7 n)(a:n'.lies=n.lies)(p:O)(i:Nat):Qem n' p i=Qem n p i:=by
 unfold Qem;rw[a];cases hi:n.lies[i]? with
 | none=>rfl
 | some l=>
  have h0:=h l (zr hi)
  have:¬ 0<l.times:=by omega
  simp[this]
theorem Qje(h:Qg7 n)(a:n'.lies=n.lies)(p:O):∀ (k i:Nat),Qcb n' p k i=Qcb n p k i
 | 0,_=>rfl
 | k+1,i=>by rw[Qcb,Qcb,Qta h a,Qje h a p k (i+1)]
theorem Qg3(h:Qg7 n)(a:n'.lies=n.lies)(b:n'.files=n.files)(p:O):Yx n' p=Yx n p:=by unfold Yx Qdu;rw[a,b,Qje h a]
theorem Yc(n:Nt)(q:O):(Zt n q).lies=n.lies/\(Zt n q).files=n.files/\(Zt n q).fetches=n.fetches+1:=by
 unfold Zt
 split <;> exact⟨rfl,rfl,rfl⟩
theorem Q0i(h:Qg7 n)(q p:O):Yx (Zt n q) p=Yx n p:=Qg3 h (Yc n q).1 (Yc n q).2.1 p
def Qc3(m:Nat):Qj1:=if m=0 then Jg else Qat
structure Qeu(es:Uc)(n:Nt):Prop where
 steady:Qg7 n
 fits:∀ (m j w0 w:Nat) (r:Uc) (data b:Ud),(Zc es)[m]?=some r->1<=w->w<=w0->w0<=4->4*j+w<=r.length->(w0=w∨w0=4)->Yx n (Qt ((m:Int)-1) j w0)=some data->Qc3 m data w0 w=some b->b=cutR r j w
theorem Qeu.next(h:Qeu es n)(q:O):Qeu es (Zt n q) where
 steady:=by rw[Qg7,(Yc n q).1];exact h.steady
 fits m j w0 w r data b h1 h2 h3 h4 h5 h6 h7 h8:=h.fits m j w0 w r data b h1 h2 h3 h4 h5 h6 (by rw[<-Q0i h.steady q];exact h7) h8
def Qnm(es:Uc)(N:Nat)(n:Nt):Prop:=
 ∀ (m j:Nat) (r:Uc),(Zc (es.take N))[m]?=some r->4*j<r.length->Yx n (Qt ((m:Int)-1) j (min 4 (r.length-4*j)))=some (cutR r j (min 4 (r.length-4*j)))
structure Qgr(es:Uc)(N:Nat)(av:Bool)(s:Cs):Prop where
 files:∀ x∈s.files,Qd0 es x.1 x.2
 cache:∀ x∈s.cache.items,Qd0 es x.1 x.2
 net:Qeu es s.net
 has:av=true->Qnm es N s.net
variable {N:Nat} {av:Bool} {s:Cs} {p:O}
theorem Qgr.keep(h:Qgr es N av s)(a:Qd0 es p b):Qgr es N av (Qjc p b s):=
 ⟨λx hx=>by
  rcases ZL.1 hx with h1|h1
  .exact h.files x h1
  rw[zS.1 h1];exact a,h.cache,h.net,h.has⟩
theorem Qgr.fetched(h:Qgr es N av s)(q:O):Qgr es N av (Zk q s):=
 ⟨h.files,h.cache,h.net.next q,λha m j r h1 h2=>by
  show Yx (Zt s.net q) _=_
  rw[Q0i h.net.steady]
  exact h.has ha m j r h1 h2⟩
theorem Qif{l:List Kv}(h:Yj l p=some b):(p,b)∈l:=by
 unfold Yj at h;obtain⟨x,hx,rfl⟩:=zP.1 h;have h1:=List.find?_some hx;have h2:=XG hx;obtain rfl:x.1=p:=by simpa using h1
 exact h2
theorem Qvj{c:Cch}{x:Kv}(h:x∈(Yz c p).items):x∈c.items:=by
 unfold Yz at h
 split at h
 .rename_i v hv
  rcases ZH.1 h with h1|h1
  .rw[h1];exact Qif hv
  exact (ZJ.1 h1).1
 exact h
def Qe1{α:Type}(I:Cs->Prop)(m:Qm α)(Q:α->Prop)(E:QErr->Prop):Prop:=∀ s,I s->I (m s).2/\(∀ a,(m s).1=.ok a->Q a)/\∀ e,(m s).1=.error e->E e
variable {α:Type} {I:Cs->Prop} {Q:α->Prop} {E:QErr->Prop}
theorem Qe1.pure{a:α}(h:Q a):Qe1 I (Qm.pure a) Q E:=λs hs=>⟨hs,λb hb=>by cases hb;exact h,λe he=>by cases he⟩
theorem Qe1.bind{β:Type}{m:Qm α}{f:α->Qm β}{R:β->Prop}(h:Qe1 I m Q E)(k:∀ a,Q a->Qe1 I (f a) R E):Qe1 I (Qm.bind m f) R E:=λs hs=>by
 obtain⟨h1,h2,h3⟩:=h s hs
 unfold Qm.bind
 cases hm:m s with
 | mk o s1=>
  rw[hm] at h1 h2 h3
  cases o with
  | ok a=>exact k a (h2 a rfl) s1 h1
  | error e=>exact⟨h1,λa ha=>(by cases ha),λe' he=>by cases he;exact h3 e rfl⟩
theorem Qe1.m{m:Qm α}{R:α->Prop}(h:Qe1 I m Q E)(k:∀ a,Q a->R a):Qe1 I m R E:=λs hs=>⟨(h s hs).1,λa ha=>k a ((h s hs).2.1 a ha),(h s hs).2.2⟩
def Qv6(av:Bool)(e:QErr):Prop:=av=false/\∃ p,e=.miss p
theorem Qi2{j k:Nat}(h:4*j+w<=r.length)(b:∀ x∈r,x.length=k):(cutR r j w).length=k*w:=by
 unfold cutR
 have:∀ (l:Uc),(∀ x∈l,x.length=k)->l.flatten.length=k*l.length:=by
  intro l hl
  induction l with
  | nil=>simp
  | cons a l ih=>
   rw[xW,zn,ih (λx hx=>hl x (zX _ hx)),hl a ZE,zx,Nat.mul_add,zay];omega
 rw[this _ λx hx=>b x (ZF (zQ hx)),zm,zM,ZB (by omega)]
theorem Qpi(es:Uc)(N:Nat){m:Nat}(h:(Zc (es.take N))[m]?=some r):∃ r0 s,(Zc es)[m]?=some r0/\r0=r++s:=by
 have key:∀ (k:Nat),(∃ r0 s,(Zc (es.take (N+k)))[m]?=some r0/\r0=r++s):=by
  intro k
  induction k with
  | zero=>exact⟨r,[],h,by simp⟩
  | succ k ih=>
   obtain⟨r0,s,h1,h2⟩:=ih;rcases zK (N+k) es.length with b|c
   .have e:es.take (N+(k+1))=es.take (N+k) ++ [es[N+k]]:=by rw[<-Xn,List.take_succ_eq_append_getElem b]
    have hm:m<(Zc (es.take (N+k))).length:=(zj.1 h1).1;have a:m<(Zc (es.take (N+k) ++ [es[N+k]])).length:=by
     rw[Qaj] at hm ⊢
     have:=Qu6 (es.take (N+k)).length
     rw[zn,Vd];omega
    obtain⟨r1,s1,h3,h4⟩:=Qo5 es[N+k] (ze a) hm;rw[h1] at h3;cases h3;rw[e];exact⟨_,s++s1,ze a,by rw[h4,h2,ZS]⟩
   have e:es.take (N+(k+1))=es.take (N+k):=by rw[zk (by omega),zk (by omega)]
   rw[e];exact⟨r0,s,h1,h2⟩
 obtain⟨r0,s,h1,h2⟩:=key es.length;rw[zk (by omega)] at h1;exact⟨r0,s,h1,h2⟩
theorem Qkc{s:Uc}{j:Nat}(h:4*j+w<=r.length):cutR (r++s) j w=cutR r j w:=by unfold cutR;rw[VS (by omega),vN (by simp;omega)]
theorem Qwz(n:es.length<=1048576){m j:Nat}(k:(Zc (es.take N))[m]?=some r)(l:4*j<r.length)(i:∀ w,1<=w->w<=4->4*j+w<=r.length->Qc3 m (cutR r j w) w w=some (cutR r j w)):Qe1 (Qgr es N av) (Qdt (Qc3 m) ((m:Int)-1) j (Zr j r.length)) (λb=>b=cutR r j (Zr j r.length)) (Qv6 av):=by
 intro s hs;obtain⟨r0,s0,g,h⟩:=Qpi es N k;obtain⟨w,hw⟩:=zzx (Zr j r.length)
 rw[<-hw];have c:1<=w/\w<=4/\4*j+w<=r.length:=by unfold Zr at hw;omega
 have f:4*j+w<=r0.length:=by rw[h,zn];omega
 have hcut:cutR r0 j w=cutR r j w:=by rw[h];exact Qkc c.2.2
 have tok:Qd0 es (Qt ((m:Int)-1) j w) (cutR r j w):=⟨m,j,w,r0,g,c.1,c.2.1,f,rfl,hcut.symm⟩
 unfold Qdt;cases ht:tryQ (Qc3 m) (Qt ((m:Int)-1) j w) w w s with
 | some b=>
  have hb:b=cutR r j w:=by unfold tryQ at ht;obtain⟨data,hd,hf⟩:=xR.1 ht;rw[<-hcut];exact hs.net.fits m j w w r0 data b g c.1 (zg _) c.2.1 f (.inl rfl) hd hf
  subst hb;exact⟨(hs.fetched _).keep tok,λa ha=>by cases ha;rfl,λe he=>by cases he⟩
 | none=>
  have d:av=false:=by
   cases d:av with
   | false=>rfl
   | true=>
    exfalso;have h1:=hs.has d m j r k l;rw[show min 4 (r.length-4*j)=w by rw[hw];rfl] at h1;unfold tryQ at ht;rw[h1,ZP,i w c.1 c.2.1 c.2.2] at ht;cases ht
  by_cases h4:w=4
  .dsimp only
   rw[zD h4];exact⟨hs.fetched _,λa ha=>(by cases ha),λe he=>by cases he;exact⟨d,_,rfl⟩⟩
  dsimp only;rw[zw h4];cases ht2:tryQ (Qc3 m) (Qt ((m:Int)-1) j 4) 4 w (Zk (Qt ((m:Int)-1) j w) s) with
  | some b=>
   have hb:b=cutR r j w:=by unfold tryQ at ht2;obtain⟨data,hd,hf⟩:=xR.1 ht2;rw[<-hcut];exact (hs.fetched _).net.fits m j 4 w r0 data b g c.1 c.2.1 (zg _) f (.inr rfl) hd hf
   subst hb;exact⟨((hs.fetched _).fetched _).keep tok,λa ha=>by cases ha;rfl,λe he=>by cases he⟩
  | none=>exact⟨(hs.fetched _).fetched _,λa ha=>(by cases ha),λe he=>by cases he;exact⟨d,_,rfl⟩⟩
theorem Ql3(i:es.length<=1048576){m j:Nat}(k:(Zc (es.take N))[m]?=some r)(n:4*j<r.length)(h:∀ w,1<=w->w<=4->4*j+w<=r.length->Qc3 m (cutR r j w) w w=some (cutR r j w)):Qe1 (Qgr es N av) (Qby (Qc3 m) ((m:Int)-1) j r.length) (λb=>b=cutR r j (Zr j r.length)) (Qv6 av):=by
 intro s hs;obtain⟨r0,s0,f,g⟩:=Qpi es N k;obtain⟨w,hw⟩:=zzx (Zr j r.length)
 have c:1<=w/\w<=4/\4*j+w<=r.length:=by unfold Zr at hw;omega
 have d:4*j+w<=r0.length:=by rw[g,zn];omega
 have hcut:cutR r0 j w=cutR r j w:=by rw[g];exact Qkc c.2.2
 have tok:Qd0 es (Qt ((m:Int)-1) j w) (cutR r j w):=⟨m,j,w,r0,f,c.1,c.2.1,d,rfl,hcut.symm⟩
 have hF:=Qwz i (av:=av) k n h s hs;unfold Qby;rw[<-hw] at hF ⊢;cases h1:Yj s.files (Qt ((m:Int)-1) j w) with
 | some b=>
  have hb:b=cutR r j w:=by rw[<-hcut];exact Qth i f c.1 c.2.1 d (hs.files _ (Qif h1))
  exact⟨hs,λa ha=>by cases ha;exact hb,λe he=>by cases he⟩
 | none=>
  dsimp only;cases h2:Yj s.cache.items (Qt ((m:Int)-1) j w) with
  | some b=>
   have hb:b=cutR r j w:=by rw[<-hcut];exact Qth i f c.1 c.2.1 d (hs.cache _ (Qif h2))
   subst hb;have l:Qgr es N av { s with cache:=Yz s.cache (Qt ((m:Int)-1) j w) }:=⟨hs.files,λx hx=>hs.cache x (Qvj hx),hs.net,hs.has⟩
   exact⟨l.keep tok,λa ha=>by cases ha;rfl,λe he=>by cases he⟩
  | none=>exact hF
theorem Q61(h:Hsh)(t:Ud):Zi (h.toList++t)=h:=by
 have hl:h.toList.length=8:=by simp
 have hg:∀ i,i<8->(h.toList++t).getD i 0=h.toList.getD i 0:=λi hi=>by rw[zz,zz,zV (by omega)]
 unfold Zi;rw[hg 0 (by decide),hg 1 (by decide),hg 2 (by decide),hg 3 (by decide),hg 4 (by decide),hg 5 (by decide),hg 6 (by decide),hg 7 (by decide)];apply Vector.ext;intro i hi
 match i,hi with
 | 0,_=>simp[zz]
 | 1,_=>simp[zz]
 | 2,_=>simp[zz]
 | 3,_=>simp[zz]
 | 4,_=>simp[zz]
 | 5,_=>simp[zz]
 | 6,_=>simp[zz]
 | 7,_=>simp[zz]
variable {k:Nat}
theorem Qpx:∀ (l:Uc) (q:Nat),(∀ x∈l,x.length=k)->l.flatten.drop (k*q)=(l.drop q).flatten
 | l,0,_=>by simp
 | [],q+1,_=>by simp
 | a :: l,q+1,h=>by
   rw[xW,Xr,<-Qpx l q λx hx=>h x (zX _ hx),Nat.mul_add,zay,zah,<-XF,VS (by rw[h a ZE];exact zg _)]
   rw[show List.drop k a = [] from V5 (by rw[h a ZE];exact zg _),xd]
theorem Qrc{r:List Hsh}{j w q:Nat}(a:q<w)(b:4*j+w<=r.length):Qsb (cutR (r.map λ(h:Hsh)=>h.toList) j w) q=r.getD (4*j+q) Zb:=by
 unfold Qsb cutR;have h8:∀ x∈((r.map λ(h:Hsh)=>h.toList).drop (4*j)).take w,x.length=8:=λx hx=>by obtain⟨h,_,rfl⟩:=zU.1 (ZF (zQ hx));simp
 rw[Qpx _ q h8];have hl:q<(((r.map λ(h:Hsh)=>h.toList).drop (4*j)).take w).length:=by simp;omega
 rw[zZ hl,xW];have hr:4*j+q<r.length:=by omega
 have e:(((r.map λ(h:Hsh)=>h.toList).drop (4*j)).take w)[q]=(r[4*j+q]).toList:=by simp
 rw[e,Q61,zz,ze hr];rfl
section
variable {es:Uc} {N:Nat} {av:Bool} (hl:es.length<=1048576) (hN:N<=es.length)
include hl hN
variable {index:Nat}
theorem Qmm(h:(index+1)*4 ^ k<=N):Qe1 (Qgr es N av) (Qdg N (2*k) index) (λa=>a=Zw (es.take N) (2*k) index) (Qv6 av):=by
 have d:(es.take N).length=N:=by rw[zm,ZB hN]
 have hp:0<4 ^ k:=VG (by decide);have i:index<N / 4 ^ k:=(vG hp).2 h;have hk:k<nLev (es.take N).length:=by rw[Qaq,d];exact zi (VX _ (by omega)) h
 have hr:=Qdd (es.take N) k hk;have f:((Z4 (es.take N) k).map λ(x:Hsh)=>x.toList).length=N / 4 ^ k:=by rw[zA,Jr,d]
 have h8:∀ x∈(Z4 (es.take N) k).map (λ(x:Hsh)=>x.toList),x.length=8:=λx hx=>by obtain⟨y,_,rfl⟩:=zU.1 hx;simp
 have c:=Ql3 hl (av:=av) hr (j:=index / 4) (by rw[f];omega) (λw h1 h4 hw=>by
  have e:=Qi2 hw h8
  unfold Qc3
  rw[zw (by omega)]
  unfold Qat
  rw[zD e,zk (by omega)])
 rw[f] at c;unfold Qdg;rw[show 2*k / 2=k by omega,Qg4];have hf:Qc3 (k+1)=Qat:=by unfold Qc3;rw[zw (by omega)]
 rw[hf,show (((k+1:Nat):Int)-1)=((k:Nat):Int) by omega] at c;refine c.bind λb hb=>?_
 have hw:Zr (index / 4) (N / 4 ^ k)=min 4 (N / 4 ^ k-4*(index / 4)):=rfl;have g:b.length=8*Zr (index / 4) (N / 4 ^ k):=by rw[hb];exact Qi2 (by rw[f,hw];omega) h8
 intro s hs;unfold Qnr;rw[zw (by rw[g,hw];omega)];refine⟨hs,λa ha=>?_,λe he=>by cases he⟩;cases ha;rw[hb,Qrc (by rw[hw];omega) (by rw[Jr,d,hw];omega),Qch _ _ _ (by rw[d];omega)]
 congr 1
 omega
theorem Q29{c:Nat}(h:(index+1)*2 ^ c<=N):Qe1 (Qgr es N av) (Qe2 N c index) (λa=>a=Zw (es.take N) c index) (Qv6 av):=by
 unfold Qe2;by_cases ho:c%2=1
 .rw[zD ho]
  obtain⟨k,rfl⟩:∃ k,c=2*k+1:=⟨c / 2,by omega⟩
  have hp:(index+1)*2 ^ (2*k+1)=(2*index+1+1)*4 ^ k:=by
   rw[ZD,Qg4,vE (4 ^ k) 2,<-Vk]
   congr 1
   omega
  rw[hp] at h;have h2:(2*index+1)*4 ^ k<=N:=zi (ZA _ (by omega)) h;rw[show 2*k+1-1=2*k by omega];refine (Qmm hl hN h2).bind λa ha=>(Qmm hl hN h).bind λb hb=>Qe1.pure ?_
  rw[ha,hb];rfl
 rw[zw ho];obtain⟨k,rfl⟩:∃ k,c=2*k:=⟨c / 2,by omega⟩
 rw[Qg4] at h;exact Qmm hl hN h
theorem Qlu:∀ (f i n:Nat),n<=f->1<=n->i+n<=N->Qe1 (Qgr es N av) (rootQ N f i n) (λa=>a=rootOf (part (es.take N) i (i+n))) (Qv6 av)
 | 0,i,n,h0,h1,_=>by omega
 | f+1,i,n,h0,h1,h2=>by
  have j:(es.take N).length=N:=by rw[zm,ZB hN]
  rw[rootQ]
  by_cases hp:n &&& (n-1)=0/\i%n=0
  .rw[zD hp]
   have d:=Qf3 h1 (by omega) hp.1
   obtain⟨e,he⟩:=zzx (Lib.bitLen n-1)
   rw[<-he] at d ⊢
   have h:e<=62:=by
    rcases zK 62 e with g|c
    .have:=ZI (n:=2) (by decide) g
     omega
    exact c
   have hdiv:i / n*n=i:=by have:=xN i n;rw[hp.2] at this;rw[vE];omega
   have hq:(i / n+1)*2 ^ e<=N:=by rw[<-d,vC,hdiv];omega
   refine (Q29 hl hN hq).m λa ha=>?_
   rw[ha,Qc6 _ _ _ h (by rw[j];exact hq),<-d,hdiv]
   unfold part
   rw[show i+n-i=n by omega]
  rw[zw hp]
  have k:2<=n:=by
   rcases zK n 2 with g|c
   .obtain rfl:n=1:=by omega
    exact absurd ⟨by decide,Vv i⟩ hp
   exact c
  have hb:=Yh k
  refine (Qlu f i (below n) (by omega) (by omega) (by omega)).bind λa ha=>(Qlu f (i+below n) (n-below n) (by omega) (by omega) (by omega)).bind λb hb'=>Qe1.pure ?_
  have l:(part (es.take N) i (i+n)).length=n:=by rw[Qdk (by omega)];omega
  rw[Qbi (by omega),l,Qd5 (by omega),Qdr,ha,hb',show i+below n+(n-below n)=i+n by omega]
theorem Qig:∀ (rs:List (Nat×Nat)),(∀ x∈rs,x.1<x.2/\x.2<=N)->Qe1 (Qgr es N av) (Zp N rs) (λl=>l=rs.map λx=>rootOf (part (es.take N) x.1 x.2)) (Qv6 av)
 | [],_=>Qe1.pure rfl
 | x :: rs,h=>by
  obtain⟨h1,h2⟩:=h x ZE
  rw[Zp]
  refine (Qlu hl hN (x.2-x.1) x.1 (x.2-x.1) (zg _) (by omega) (by omega)).bind λa ha=>(Qig rs λy hy=>h y (zX _ hy)).bind λl hl'=>Qe1.pure ?_
  rw[ha,hl',show x.1+(x.2-x.1)=x.2 by omega]
  rfl
theorem Qzy:part (es.take N) 0 N=es.take N:=by
 have:=hl
 unfold part;rw[Vm,zk (by simp;omega)]
theorem Qjz{m:Nat}(c:1<=m)(a:m<=N):Qe1 (Qgr es N av) (Qhl m N) (λl=>l=Y5 m (es.take N) true) (Qv6 av):=by
 have b:(es.take N).length=N:=by rw[zm,ZB hN]
 refine (Qig hl hN _ λx hx=>Qie N 0 N m (by omega) (by omega) a x (VA.1 hx)).m λl hl'=>?_
 rw[hl',Qnw (es.take N) N 0 N m (by omega) (by omega) a (by omega),Qzy hl hN];rfl
theorem Qmc(n:∀ e∈es,e.length<=20){i:Nat}(s:i<N):Qe1 (Qgr es N av) (Qcy N i) (λr=>r=((es.take N).getD i [],Y8 (es.take N) i)) (Qv6 av):=by
 have d:(es.take N).length=N:=by rw[zm,ZB hN]
 have hr:=Qbe (es.take N);have f:((es.take N).map encE).length=N:=by rw[zA,d]
 have g:∀ e∈es.take N,e.length<=20:=λe he=>n e (zQ he)
 have hcut:∀ w,cutR ((es.take N).map encE) (i / 4) w=(((es.take N).drop (4*(i / 4))).take w).flatMap encE:=λw=>by unfold cutR;rw[<-Vl,<-vJ,Vz]
 have m:∀ w,1<=w->w<=4->4*(i / 4)+w<=N->Qs (cutR ((es.take N).map encE) (i / 4) w)=some (((es.take N).drop (4*(i / 4))).take w):=λw h1 h4 hw=>by
  rw[hcut];have k:(((es.take N).drop (4*(i / 4))).take w).length=w:=by rw[zm,zM,d];omega
  refine Qjw ?_ (by omega) (by omega) λx hx=>g x (ZF (zQ hx))
  have key:∀ l:Uc,(∀ x∈l,x.length<=20)->rawU (l.flatMap encE)=some l:=by
   intro l
   induction l with
   | nil=>intro _;rfl
   | cons a l ih=>
    intro h;have ha:=h a ZE;have o:(UInt8.ofNat a.length).toNat=a.length:=by rw[V3];omega
    rw[vZ];show rawU (UInt8.ofNat a.length :: (a++l.flatMap encE))=_;rw[Qkx,o,zD (by simp),xw,X0,ih λx hx=>h x (zX _ hx)];rfl
  exact key _ λx hx=>g x (ZF (zQ hx))
 have c:=Ql3 hl (av:=av) hr (j:=i / 4) (by rw[f];omega) (λw h1 h4 hw=>by
  rw[f] at hw
  have k:(((es.take N).drop (4*(i / 4))).take w).length=w:=by rw[zm,zM,d];omega
  unfold Qc3
  rw[zD rfl]
  unfold Jg
  rw[m w h1 h4 hw,ZP,zD k,zk (by omega),Qb9 (by omega) (by omega) λj l hjl=>g l (ZF (zQ (zr hjl))),hcut])
 rw[f] at c;unfold Qcy;have hf:Qc3 0=Jg:=by unfold Qc3;rw[zD rfl]
 rw[hf,show (((0:Nat):Int)-1) = -1 by omega] at c;refine c.bind λb hb=>?_
 have hw:Zr (i / 4) N=min 4 (N-4*(i / 4)):=rfl;rw[hb,m _ (by rw[hw];omega) (by rw[hw];omega) (by rw[hw];omega),xz];have q:(((es.take N).drop (4*(i / 4))).take (Zr (i / 4) N))[i%4]?=some ((es.take N).getD i []):=by rw[zH (by rw[hw];omega),ZU,show 4*(i / 4)+i%4=i by omega,zz,ze (by omega:i<(es.take N).length)];rfl
 rw[q];refine (Qig hl hN _ λx hx=>Qeh N 0 N i (by omega) (by omega) s x (VA.1 hx)).bind λp hp=>Qe1.pure ?_
 rw[hp,Qoe (es.take N) N 0 N i (by omega) (by omega) s (by omega),Qzy hl hN];rfl
end
def Qk4(n level index:Nat):List O:=[Qt ((level / 2:Nat):Int) (index / 4) (Zr (index / 4) (n / 2 ^ level))]
def Qih(n level index:Nat):List O:=if level%2=1 then Qk4 n (level-1) (2*index)++Qk4 n (level-1) (2*index+1) else Qk4 n level index
def Qa4(N:Nat):Nat->Nat->Nat->List O
 | 0,_,_=>[]
 | f+1,i,n=>if n &&& (n-1)=0/\i%n=0 then Qih N (Lib.bitLen n-1) (i / n) else Qa4 N f i (below n)++Qa4 N f (i+below n) (n-below n)
def Z0(N:Nat)(rs:List (Nat×Nat)):List O:=rs.flatMap λx=>Qa4 N (x.2-x.1) x.1 (x.2-x.1)
def bunT(N i:Nat):O:=Qt (-1) (i / 4) (Zr (i / 4) N)
def readT(N i:Nat):List O:=bunT N i :: Z0 N (Y7 N 0 N i).reverse
def Has1(s:Cs)(p:O):Prop:=(Yj s.files p).isSome=true∨(Yj s.cache.items p).isSome=true
theorem Qht(l k:List Kv)(p:O):Yj (l++k) p=(Yj l p).or (Yj k p):=by unfold Yj;rw[xY];cases l.find? λx=>decide (x.1=p) <;> rfl
theorem Qlo(p q:O)(b:Ud):Yj [(p,b)] q=if p=q then some b else none:=by
 unfold Yj;rw[List.find?_cons];by_cases h:p=q
 .simp[h]
 simp[h]
theorem Q1p(p q:O)(b:Ud)(l:List Kv):Yj ((p,b) :: l) q=if p=q then some b else Yj l q:=by
 have:=Qht [(p,b)] l q
 rw[Xc] at this;rw[this,Qlo]
 split <;> rfl
theorem Q27(l:List Kv)(p q:O)(h:q≠p):Yj (Ju l p) q=Yj l q:=by
 unfold Yj Ju;rw[List.find?_filter]
 congr 1
 congr 1
 funext x
 by_cases hx:x.1=q
 .simp[hx,h]
 simp[hx]
theorem Qao{l:List Kv}:(Yj l p).isSome=true↔p∈l.map (·.1):=by
 unfold Yj;rw[Vb,List.find?_isSome,zU];constructor
 .rintro ⟨x,hx,he⟩;exact⟨x,hx,by simpa using he⟩
 rintro ⟨x,hx,he⟩;exact⟨x,hx,by simpa using he⟩
theorem Qkk(c:Cch)(p q:O):(Yj (Yz c p).items q).isSome=(Yj c.items q).isSome:=by
 unfold Yz
 split
 .rename_i v hv
  show (Yj ((p,v) :: Ju c.items p) q).isSome=_;rw[Q1p];by_cases h:p=q
  .subst h;rw[zD rfl,hv]
  rw[zw h,Q27 _ _ _ λe=>h e.symm]
 rfl
def Qcw{α:Type}(m:Qm α)(T:List O):Prop:=∀ s,(∀ p∈T,Has1 s p)->(m s).2.net=s.net/\∀ q,Has1 s q->Has1 (m s).2 q
theorem Qcw.pure(a:α):Qcw (Qm.pure a) []:=λs _=>⟨rfl,λ_ h=>h⟩
variable {β:Type} {m:Qm α} {f:α->Qm β} {T U:List O}
theorem Qcw.bind(h:Qcw m T)(k:∀ a,Qcw (f a) U):Qcw (Qm.bind m f) (T++U):=λs hs=>by
 obtain⟨h1,h2⟩:=h s λp hp=>hs p (ZT _ hp)
 unfold Qm.bind
 cases hm:m s with
 | mk o s1=>
  rw[hm] at h1 h2
  cases o with
  | ok a=>
   obtain⟨k1,k2⟩:=k a s1 λp hp=>h2 p (hs p (VE _ hp))
   exact⟨k1.t h1,λq hq=>k2 q (h2 q hq)⟩
  | error e=>exact⟨h1,h2⟩
theorem Qng(fits:Qj1)(d:Int)(a c:Nat):Qcw (Qby fits d a c) [Qt d a (Zr a c)]:=λs hs=>by
 have h:=hs _ (zS.2 rfl)
 unfold Qby
 cases h1:Yj s.files (Qt d a (Zr a c)) with
 | some b=>exact⟨rfl,λq hq=>hq⟩
 | none=>
  dsimp only
  cases h2:Yj s.cache.items (Qt d a (Zr a c)) with
  | some b=>
   refine⟨rfl,λq hq=>?_⟩
   rcases hq with hq|hq
   .left
    show (Yj (s.files++_) q).isSome=true
    rw[Qht,Xk,hq]
    rfl
   right
   show (Yj (Yz s.cache _).items q).isSome=true
   rw[Qkk]
   exact hq
  | none=>
   rcases h with h|h
   .rw[h1] at h;cases h
   rw[h2] at h;cases h
theorem Qvp(b:Ud)(k:Nat):Qcw (Qnr b k) []:=λs _=>by
 unfold Qnr
 split <;> exact⟨rfl,λ_ h=>h⟩
theorem Qik(n c a:Nat):Qcw (Qdg n c a) (Qk4 n c a):=by
 have:=(Qng Qat ((c / 2:Nat):Int) (a / 4) (n / 2 ^ c)).bind λb=>Qvp b (a%4)
 simpa [Qdg,Qk4] using this
theorem Qua(n d c:Nat):Qcw (Qe2 n d c) (Qih n d c):=by
 unfold Qe2 Qih
 split
 .have:=(Qik n (d-1) (2*c)).bind λa=>(Qik n (d-1) (2*c+1)).bind λb=>Qcw.pure (Z9 a b)
  simpa using this
 exact Qik n d c
theorem Qh6(N:Nat):∀ (f i n:Nat),Qcw (rootQ N f i n) (Qa4 N f i n)
 | 0,_,_=>λs _=>⟨rfl,λ_ h=>h⟩
 | f+1,i,n=>by
   rw[rootQ,Qa4]
   split
   .exact Qua _ _ _
   have:=(Qh6 N f i (below n)).bind λa=>(Qh6 N f (i+below n) (n-below n)).bind λb=>Qcw.pure (Z9 a b)
   simpa using this
theorem Qjf(N:Nat):∀ (rs:List (Nat×Nat)),Qcw (Zp N rs) (Z0 N rs)
 | []=>Qcw.pure _
 | x :: rs=>by
   have:=(Qh6 N (x.2-x.1) x.1 (x.2-x.1)).bind λh=>(Qjf N rs).bind λl=>Qcw.pure (h :: l)
   rw[Zp]
   simpa [Z0] using this
theorem Qu1(N i:Nat):Qcw (Qcy N i) (readT N i):=by
 have h2:∀ b,Qcw (match ((Qs b).getD [])[i%4]? with
  | none=>λs=>(.error .panic,s)
  | some e=>Qm.bind (Zp N (Y7 N 0 N i).reverse) λp=>Qm.pure (e,p)) (Z0 N (Y7 N 0 N i).reverse):=λb=>by
  cases ((Qs b).getD [])[i%4]? with
  | none=>exact λs _=>⟨rfl,λ_ h=>h⟩
  | some e=>
   have:=(Qjf N (Y7 N 0 N i).reverse).bind λp=>Qcw.pure (e,p)
   simpa using this
 exact (Qng Jg (-1) (i / 4) N).bind h2
structure Grew(T:List O)(s s':Cs):Prop where
 keep:∀ p,(Yj s.files p).isSome=true->(Yj s'.files p).isSome=true
 only:∀ p,(Yj s'.files p).isSome=true->(Yj s.files p).isSome=true∨p∈T
 once:(s.files.map (·.1)).Nodup->(s'.files.map (·.1)).Nodup
 pre:∃ k,s'.files=s.files++k
 most:s'.cache.most=s.cache.most
 cache:∀ p,(Yj s'.cache.items p).isSome=(Yj s.cache.items p).isSome
 len:(s.cache.items.map (·.1)).Nodup->(s'.cache.items.map (·.1)).Nodup/\s'.cache.items.length=s.cache.items.length
 count:s.net.fetches<=s'.net.fetches
theorem Grew.refl(T:List O)(s:Cs):Grew T s s:=⟨λ_ h=>h,λ_ h=>.inl h,λh=>h,⟨[],by simp⟩,rfl,λ_=>rfl,λh=>⟨h,rfl⟩,zg _⟩
theorem Grew.t{a b c:Cs}(h:Grew T a b)(k:Grew U b c):Grew (T++U) a c where
 keep p hp:=k.keep p (h.keep p hp)
 only p hp:=by
  rcases k.only p hp with h1|h1
  .exact (h.only p h1).imp id λh2=>ZT _ h2
  exact .inr (VE _ h1)
 once hn:=k.once (h.once hn)
 pre:=by
  obtain⟨x,hx⟩:=h.pre
  obtain⟨y,hy⟩:=k.pre
  exact⟨x++y,by rw[hy,hx,ZS]⟩
 most:=k.most.t h.most
 cache p:=(k.cache p).t (h.cache p)
 len hn:=⟨(k.len (h.len hn).1).1,(k.len (h.len hn).1).2.t (h.len hn).2⟩
 count:=zi h.count k.count
theorem Grew.more{a:List O}{b:Cs}(h:Grew T s b)(c:∀ p∈T,p∈a):Grew a s b:=⟨h.keep,λp hp=>(h.only p hp).imp id (c p),h.once,h.pre,h.most,h.cache,h.len,h.count⟩
def Asks{α:Type}(m:Qm α)(T:List O):Prop:=∀ s,Grew T s (m s).2/\∀ a,(m s).1=.ok a->∀ p∈T,(Yj (m s).2.files p).isSome=true
theorem Asks.pure(a:α):Asks (Qm.pure a) []:=λs=>⟨Grew.refl _ s,λ_ _ p hp=>by cases hp⟩
theorem Asks.bind(h:Asks m T)(k:∀ a,Asks (f a) U):Asks (Qm.bind m f) (T++U):=λs=>by
 obtain⟨h1,h2⟩:=h s
 unfold Qm.bind
 cases hm:m s with
 | mk o s1=>
  rw[hm] at h1 h2
  cases o with
  | ok a=>
   obtain⟨k1,k2⟩:=k a s1
   refine⟨h1.t k1,λb hb p hp=>?_⟩
   rcases ZL.1 hp with hp|hp
   .exact k1.keep p (h2 a rfl p hp)
   exact k2 b hb p hp
  | error e=>exact⟨h1.more λp hp=>ZT _ hp,λa ha=>by cases ha⟩
theorem Qp4{s1:Cs}{b:Ud}(k:p∈T)(j:Yj s.files p=none)(d:s1.files=s.files)(i:s1.cache.most=s.cache.most)(c:∀ q,(Yj s1.cache.items q).isSome=(Yj s.cache.items q).isSome)(g:(s.cache.items.map (·.1)).Nodup->(s1.cache.items.map (·.1)).Nodup/\s1.cache.items.length=s.cache.items.length)(f:s.net.fetches<=s1.net.fetches):Grew T s (Qjc p b s1)/\(Yj (Qjc p b s1).files p).isSome=true:=by
 have e:(Qjc p b s1).files=s.files ++ [(p,b)]:=by show s1.files++_=_;rw[d]
 refine⟨⟨λq hq=>?_,λq hq=>?_,λhd=>?_,⟨_,e⟩,i,c,g,f⟩,?_⟩
 .rw[e,Qht,Xk,hq];rfl
 .rw[e,Qht,Xk,Bool.or_eq_true] at hq
  rcases hq with hq|hq
  .exact .inl hq
  rw[Qlo] at hq
  split at hq
  .rename_i h;exact .inr (h ▸ k)
  cases hq
 .rw[e,zL,VI]
  refine⟨hd,by simp,λa ha b' hb' e2=>?_⟩;simp at hb';subst hb';subst e2
  have:=Qao.2 ha
  rw[j] at this;cases this
 rw[e,Qht,Qlo,zD rfl,Xk];simp
theorem Qvn{c:Cch}(h:(c.items.map (·.1)).Nodup):((Yz c p).items.map (·.1)).Nodup/\(Yz c p).items.length=c.items.length:=by
 unfold Yz
 split
 .rename_i v hv
  have hm:=Qif hv;have key:∀ l:List Kv,(l.map (·.1)).Nodup->(p,v)∈l->((Ju l p).map (·.1)).Nodup/\(Ju l p).length+1=l.length/\p ∉ (Ju l p).map (·.1):=by
   intro l hl b;refine⟨?_,?_,?_⟩
   .unfold Ju
    exact List.Nodup.sublist (List.Sublist.map _ List.filter_sublist) hl
   .induction l with
    | nil=>cases b
    | cons a l ih=>
     rw[zT,ZY] at hl;unfold Ju;by_cases ha:a.1=p
     .rw[List.filter_cons_of_neg (by simp[ha]),zx]
      have:l.filter (λx=>!decide (x.1=p))=l:=by
       apply xF.2;intro x hx;have d:x.1≠p:=λe=>hl.1 (by rw[ha,<-e];exact vK hx)
       simp[d]
      rw[this]
     rw[List.filter_cons_of_pos (by simp[ha]),zx,zx]
     have:=ih hl.2 (by rcases ZH.1 b with e|e;exact absurd (by rw[<-e]) ha;exact e)
     unfold Ju at this;omega
   intro hx;obtain⟨x,hx,he⟩:=zU.1 hx;unfold Ju at hx
   have:=(ZJ.1 hx).2
   simp[he] at this
  obtain⟨k1,k2,k3⟩:=key c.items h hm;refine⟨?_,?_⟩
  .show (((p,v) :: Ju c.items p).map (·.1)).Nodup
   rw[zT,ZY];exact⟨k3,k1⟩
  show ((p,v) :: Ju c.items p).length=_;rw[zx];exact k2
 exact⟨h,rfl⟩
theorem Qds(T:List O)(q:O)(s:Cs):Grew T s (Zk q s):=⟨λ_ h=>h,λ_ h=>.inl h,λh=>h,⟨[],by simp[Zk]⟩,rfl,λ_=>rfl,λh=>⟨h,rfl⟩,by show _<=(Zt s.net q).fetches;rw[(Yc _ _).2.2];omega⟩
theorem Qmq(fits:Qj1)(e:Int)(c d:Nat):Asks (Qby fits e c d) [Qt e c (Zr c d)]:=λs=>by
 unfold Qby
 obtain⟨p,hp⟩:=zzx (Qt e c (Zr c d))
 rw[<-hp]
 have f:p ∈ [p]:=zS.2 rfl
 cases h1:Yj s.files p with
 | some b=>
  refine⟨Grew.refl _ s,λa ha q hq=>?_⟩
  rw[zS.1 hq]
  show (Yj s.files p).isSome=true
  rw[h1]
  rfl
 | none=>
  dsimp only
  cases h2:Yj s.cache.items p with
  | some b=>
   obtain⟨g1,g2⟩:=Qp4 (T:=[p]) (s:=s) (s1:={ s with cache:=Yz s.cache p }) (p:=p) (b:=b) f h1 rfl (by show (Yz s.cache p).most=_;unfold Yz;split <;> rfl) (λq=>Qkk s.cache p q) Qvn (zg _)
   exact⟨g1,λa ha q hq=>by rw[zS.1 hq];exact g2⟩
  | none=>
   dsimp only
   unfold Qdt
   rw[<-hp]
   have g:s.net.fetches<=(Zk p s).net.fetches:=(Qds [] p s).count
   cases h3:tryQ fits p (Zr c d) (Zr c d) s with
   | some b=>
    obtain⟨g1,g2⟩:=Qp4 (T:=[p]) (s:=s) (s1:=Zk p s) (p:=p) (b:=b) f h1 rfl rfl (λ_=>rfl) (λh=>⟨h,rfl⟩) g
    exact⟨g1,λa ha q hq=>by rw[zS.1 hq];exact g2⟩
   | none=>
    dsimp only
    split
    .exact⟨Qds _ _ _,λa ha=>by cases ha⟩
    cases h4:tryQ fits (Qt e c 4) 4 (Zr c d) (Zk p s) with
    | some b=>
     obtain⟨g1,g2⟩:=Qp4 (T:=[p]) (s:=s) (s1:=Zk (Qt e c 4) (Zk p s)) (p:=p) (b:=b) f h1 rfl rfl (λ_=>rfl) (λh=>⟨h,rfl⟩) (zi g (Qds [] _ _).count)
     exact⟨g1,λa ha q hq=>by rw[zS.1 hq];exact g2⟩
    | none=>exact⟨((Qds [p] p s).t (Qds [] _ _)).more (by simp),λa ha=>by cases ha⟩
theorem Q3k(b:Ud)(k:Nat):Asks (Qnr b k) []:=λs=>by
 unfold Qnr
 split <;> exact⟨Grew.refl _ s,λ_ _ p hp=>by cases hp⟩
theorem Qms(n c a:Nat):Asks (Qdg n c a) (Qk4 n c a):=by
 have:=(Qmq Qat ((c / 2:Nat):Int) (a / 4) (n / 2 ^ c)).bind λb=>Q3k b (a%4)
 simpa [Qdg,Qk4] using this
theorem Q09(n d c:Nat):Asks (Qe2 n d c) (Qih n d c):=by
 unfold Qe2 Qih
 split
 .have:=(Qms n (d-1) (2*c)).bind λa=>(Qms n (d-1) (2*c+1)).bind λb=>Asks.pure (Z9 a b)
  simpa using this
 exact Qms n d c
theorem Qme(N:Nat):∀ (f i n:Nat),Asks (rootQ N f i n) (Qa4 N f i n)
 | 0,_,_=>λs=>⟨Grew.refl _ s,λa ha=>by cases ha⟩
 | f+1,i,n=>by
   rw[rootQ,Qa4]
   split
   .exact Q09 _ _ _
   have:=(Qme N f i (below n)).bind λa=>(Qme N f (i+below n) (n-below n)).bind λb=>Asks.pure (Z9 a b)
   simpa using this
theorem Qff(N:Nat):∀ (rs:List (Nat×Nat)),Asks (Zp N rs) (Z0 N rs)
 | []=>Asks.pure _
 | x :: rs=>by
   have:=(Qme N (x.2-x.1) x.1 (x.2-x.1)).bind λh=>(Qff N rs).bind λl=>Asks.pure (h :: l)
   rw[Zp]
   simpa [Z0] using this
theorem Qmk(N i:Nat):Asks (Qcy N i) (readT N i):=by
 have h2:∀ b,Asks (match ((Qs b).getD [])[i%4]? with
  | none=>λs=>(.error .panic,s)
  | some e=>Qm.bind (Zp N (Y7 N 0 N i).reverse) λp=>Qm.pure (e,p)) (Z0 N (Y7 N 0 N i).reverse):=λb=>by
  cases ((Qs b).getD [])[i%4]? with
  | none=>exact λs=>⟨Grew.refl _ s,λa ha=>by cases ha⟩
  | some e=>
   have:=(Qff N (Y7 N 0 N i).reverse).bind λp=>Asks.pure (e,p)
   simpa using this
 exact (Qmq Jg (-1) (i / 4) N).bind h2
structure Qd8(c:Cch):Prop where
 once:(c.items.map (·.1)).Nodup
 len:c.items.length<=c.most
theorem Qsr(c:Cch)(p:O)(v:Ud):(Yg c p v).most=c.most:=by
 unfold Yg
 split
 .rfl
 split
 .rfl
 split <;> rfl
theorem Qgy:∀ (xs:List Kv) (c:Cch),(Zl c xs).most=c.most
 | [],_=>rfl
 | x :: xs,c=>by rw[Zl,Qgy xs,Qsr]
theorem Qwr(l:List Kv)(p:O):(Ju l p).map (·.1)=(l.map (·.1)).filter λq=>!decide (q=p):=by unfold Ju;rw[List.filter_map];rfl
variable {c:Cch}
theorem Zb6{v:Ud}{x:Kv}(h:x∈(Yg c p v).items):x∈c.items∨x=(p,v):=by
 unfold Yg at h
 split at h
 .exact .inl h
 split at h
 .rcases ZH.1 h with h|h
  .exact .inr h
  exact .inl (ZJ.1 h).1
 split at h
 .rcases ZH.1 h with h|h
  .exact .inr h
  exact .inl ((Xf _).mem h)
 rcases ZH.1 h with h|h
 .exact .inr h
 exact .inl h
theorem Qij:∀ (xs:List Kv) (c:Cch) (x:Kv),x∈(Zl c xs).items->x∈c.items∨x∈xs
 | [],_,_,h=>.inl h
 | y :: xs,c,x,h=>by
   rw[Zl] at h
   rcases Qij xs _ x h with h|h
   .rcases Zb6 h with h|h
    .exact .inl h
    exact .inr (by rw[h];exact ZE)
   exact .inr (zX _ h)
theorem Za7(h:Qd8 c)(p:O)(v:Ud):Qd8 (Yg c p v):=by
 unfold Yg
 split
 .exact h
 rename_i h0
 split
 .rename_i hs
  have hm:=Qao.1 hs;have a:(Ju c.items p).length<c.items.length:=by
   unfold Ju;obtain⟨x,hx,he⟩:=zU.1 hm;refine Nat.lt_of_le_of_ne (xn _ _) ?_;intro e
   have:=List.length_filter_eq_length_iff.1 e x hx
   simp[he] at this
  refine⟨?_,?_⟩
  .show (((p,v) :: Ju c.items p).map (·.1)).Nodup
   rw[zT,ZY,Qwr];refine⟨λhx=>?_,h.once.filter _⟩
   have:=(ZJ.1 hx).2
   simp at this
  show ((p,v) :: Ju c.items p).length<=c.most
  have:=h.len
  rw[zx];omega
 rename_i hs;have hm:p ∉ c.items.map (·.1):=λhm=>hs (Qao.2 hm)
 split
 .rename_i hl
  refine⟨?_,?_⟩
  .show (((p,v) :: c.items.dropLast).map (·.1)).Nodup
   rw[zT,ZY];refine⟨λhx=>?_,?_⟩
   .obtain⟨x,hx,he⟩:=zU.1 hx
    exact hm (zU.2 ⟨x,(Xf _).mem hx,he⟩)
   exact List.Nodup.sublist (List.Sublist.map _ (Xf _)) h.once
  show ((p,v) :: c.items.dropLast).length<=c.most;rw[zx,Xm];omega
 rename_i hl;refine⟨?_,?_⟩
 .show (((p,v) :: c.items).map (·.1)).Nodup
  rw[zT,ZY];exact⟨hm,h.once⟩
 show ((p,v) :: c.items).length<=c.most
 have:=h.len
 rw[zx];omega
theorem Qgm:∀ (xs:List Kv) (c:Cch),Qd8 c->Qd8 (Zl c xs)
 | [],_,h=>h
 | x :: xs,c,h=>Qgm xs _ (Za7 h x.1 x.2)
theorem Q67{a:List O}(v:Ud)(h:a <+: c.items.map (·.1))(f:p ∉ a)(g:a.length+1<=c.most):p :: a <+: (Yg c p v).items.map (·.1):=by
 unfold Yg;rw[zw (by omega)]
 split
 .show _ <+: ((p,v) :: Ju c.items p).map (·.1)
  rw[zT,Qwr];obtain⟨t,ht⟩:=h;rw[<-ht,xQ]
  have:a.filter (λq=>!decide (q=p))=a:=xF.2 λq hq=>by
   have:q≠p:=λe=>f (e ▸ hq)
   simp[this]
  rw[this];exact⟨_,rfl⟩
 split
 .rename_i hl2
  show _ <+: ((p,v) :: c.items.dropLast).map (·.1);rw[zT,List.map_dropLast];obtain⟨t,ht⟩:=h;rw[<-ht];have b:a.length+t.length=c.most:=by
   have:=zB List.length ht
   rw[zn,zA,hl2] at this;exact this
  have d:t≠[]:=λe=>by rw[e] at b;simp at b;omega
  rw[List.dropLast_append_of_ne_nil d];exact⟨_,rfl⟩
 show _ <+: ((p,v) :: c.items).map (·.1);rw[zT];obtain⟨t,ht⟩:=h;rw[<-ht];exact⟨_,rfl⟩
theorem Qjm:∀ (xs:List Kv) (c:Cch) (front:List O),front <+: c.items.map (·.1)->(xs.map (·.1)).Nodup->(∀ x∈xs,x.1 ∉ front)->front.length+xs.length<=c.most->(xs.map (·.1)).reverse++front <+: (Zl c xs).items.map (·.1)
 | [],c,front,h,_,_,_=>by simpa [Zl] using h
 | x :: xs,c,front,h,hn,hd,hl=>by
   rw[zT,ZY] at hn
   rw[zx] at hl
   have h1:=Q67 x.2 h (hd x ZE) (by omega)
   have:=Qjm xs (Yg c x.1 x.2) (x.1 :: front) h1 hn.2 (λy hy hm=>by
    rcases ZH.1 hm with e|e
    .exact hn.1 (by rw[<-e];exact vK hy)
    exact hd y (zX _ hy) e) (by rw[Qsr,zx];omega)
   rw[Zl,zT,vY,ZS]
   exact this
theorem Qv2{xs:List Kv}(d:(xs.map (·.1)).Nodup)(b:xs.length<=c.most)(a:(Yj xs p).isSome=true):(Yj (Zl c xs).items p).isSome=true:=by have h:=Qjm xs c [] ⟨_,rfl⟩ d (λ_ _ h=>by cases h) (by simpa using b);rw[Qao] at a ⊢;exact h.subset (ZT _ (VA.2 a))
theorem Qkn:∀ (xs:List Kv) (c:Cch),c.most=0->Zl c xs=c
 | [],_,_=>rfl
 | x :: xs,c,h=>by
   have e:Yg c x.1 x.2=c:=by unfold Yg;rw[zD h]
   rw[Zl,e,Qkn xs c h]
theorem Zbt(h:Qd8 c)(a:c.most=1)(p:O)(v:Ud):(Yg c p v).items = [(p,v)]:=by
 have hl:=h.len;unfold Yg;rw[zw (by omega)]
 split
 .rename_i hs
  show (p,v) :: Ju c.items p=_;have hk:=Qao.1 hs
  match hi:c.items,hl,hk with
  | [],_,hk=>simp at hk
  | [x],_,hk=>
   simp at hk;unfold Ju;simp[<-hk]
  | _ :: _ :: _,hl,_=>simp at hl;omega
 split
 .show (p,v) :: c.items.dropLast=_
  rename_i h1;rw[a] at h1
  have:=Xm (xs:=c.items)
  rw[h1] at this;rw[zG this]
 rename_i h1;show (p,v) :: c.items=_;rw[zG (by omega:c.items.length=0)]
theorem Qm7:∀ (xs:List Kv) (c:Cch) (x:Kv),Qd8 c->c.most=1->(Zl c (xs ++ [x])).items = [x]
 | [],c,x,h,hm=>by
   show (Yg c x.1 x.2).items=_
   rw[Zbt h hm]
 | y :: xs,c,x,h,hm=>by
   rw[vM,Zl]
   exact Qm7 xs _ x (Za7 h _ _) (by rw[Qsr,hm])
variable {index:Nat}
theorem Qvf{fits:Qj1}{a:Int}{b:Nat}(c:Yj s.files (Qt a index (Zr index b))=none)(d:Yj s.cache.items (Qt a index (Zr index b))=none):s.net.fetches<(Qby fits a index b s).2.net.fetches:=by
 have hk:∀ q s,s.net.fetches+1=(Zk q s).net.fetches:=λq s=>(Yc s.net q).2.2.symm
 unfold Qby;rw[c,d];dsimp only;unfold Qdt
 split
 .have:=hk (Qt a index (Zr index b)) s
  show _<(Zk _ s).net.fetches;omega
 split
 .have:=hk (Qt a index (Zr index b)) s
  show _<(Zk _ s).net.fetches;omega
 have h3:=hk (Qt a index (Zr index b)) s;have h4:=hk (Qt a index 4) (Zk (Qt a index (Zr index b)) s)
 split
 .show _<(Zk _ (Zk _ s)).net.fetches
  omega
 show _<(Zk _ (Zk _ s)).net.fetches;omega
theorem Qyx{α β:Type}{m:Qm α}{f:α->Qm β}{T:List O}(h:s.net.fetches<(m s).2.net.fetches)(k:∀ a,Asks (f a) T):s.net.fetches<(Qm.bind m f s).2.net.fetches:=by
 unfold Qm.bind;cases hm:m s with
 | mk o s1=>
  rw[hm] at h;cases o with
  | ok a=>exact zJ h (k a s1).1.count
  | error e=>exact h
theorem Qrd(N i:Nat)(b:Ud):Asks (match ((Qs b).getD [])[i%4]? with
  | none=>λs=>(.error .panic,s)
  | some e=>Qm.bind (Zp N (Y7 N 0 N i).reverse) λp=>Qm.pure (e,p)) (Z0 N (Y7 N 0 N i).reverse):=by
 cases ((Qs b).getD [])[i%4]? with
 | none=>exact λs=>⟨Grew.refl _ s,λa ha=>by cases ha⟩
 | some e=>
  have:=(Qff N (Y7 N 0 N i).reverse).bind λp=>Asks.pure (e,p)
  simpa using this
variable {i:Nat}
theorem Qm8(a:Yj s.files (bunT N i)=none)(c:Yj s.cache.items (bunT N i)=none):s.net.fetches<(Qcy N i s).2.net.fetches:=
 Qyx (Qvf a c) λb=>Qrd N i b
variable {r:Ud×List Hsh}
theorem Qxy(f:s.files = [])(h:(Qcy N i s).1=.ok r):∃ b k,(Qcy N i s).2.files=(bunT N i,b) :: k:=by
 obtain⟨g,ga⟩:=Qmq Jg (-1) (i / 4) N s;unfold Qcy at h ⊢;unfold Qm.bind at h ⊢;cases hm:Qby Jg (-1) (i / 4) N s with
 | mk o s1=>
  rw[hm] at h g ga;cases o with
  | error e=>cases h
  | ok a=>
   have h1:=ga a rfl _ (zS.2 rfl);obtain⟨k1,c⟩:=g.pre;rw[f,xd] at c;have d:∀ p,(Yj k1 p).isSome=true->p=bunT N i:=λp hp=>by
    rcases g.only p (by show (Yj s1.files p).isSome=true;rw[c];exact hp) with h3|h3
    .rw[f] at h3;cases h3
    exact zS.1 h3
   obtain⟨k2,j⟩:=(Qrd N i a s1).1.pre;show ∃ b k,(_:Except QErr _×Cs).2.files=_;have e2:∀ o:Except QErr (Ud×List Hsh)×Cs,o.2.files=s1.files++k2->∃ b k,o.2.files=(bunT N i,b) :: k:=λo ho=>by
    rw[ho,c];cases k1 with
    | nil=>rw[show (_:Cs).files=_ from c] at h1;cases h1
    | cons x k1=>
     have hx:=d x.1 (by rw[Qao];simp);exact⟨x.2,k1++k2,by rw[vM,<-hx]⟩
   exact e2 _ j
theorem Quh{k w j w':Nat}(h:Ja (-1) j w'):Qt ((k:Nat):Int) index w≠Qt (-1) j w':=λe=>by
 have e2:Yb ((k:Nat):Int) index w=Yb (-1) j w':=Qda e
 rw[Qav h] at e2
 unfold Yb at e2
 split at e2
 .have e3:Yq ((k:Nat):Int) index w=kT++(dec k ++ [47]++dec index++(if (w:Int)<4 then kP++dec w else [])):=by
   unfold Yq
   rw[zD (Int.natCast_nonneg k)]
   simp
  have e4:Yq (-1) (j:Int) (w':Int)=kE++(dec j++(if (w':Int)<4 then kP++dec w' else [])):=by
   unfold Yq
   rw[zw (by decide)]
   simp
  rw[e3,e4] at e2
  simp[kT,kE] at e2
 unfold Yq at e2
 rw[zw (by decide)] at e2
 simp[kE] at e2
theorem Qrp(N:Nat):∀ (f i n:Nat),n<=f->1<=n->∃ (k j w:Nat),Qt ((k:Nat):Int) j w∈Qa4 N f i n
 | 0,i,n,h,h1=>by omega
 | f+1,i,n,h,h1=>by
   rw[Qa4]
   split
   .unfold Qih
    split
    .exact⟨_,_,_,ZT _ (zS.2 rfl)⟩
    exact⟨_,_,_,zS.2 rfl⟩
   rename_i hp
   have b:2<=n:=by
    rcases zK n 2 with c|a
    .obtain rfl:n=1:=by omega
     exact absurd ⟨by decide,Vv i⟩ hp
    exact a
   have hb:=Yh b
   obtain⟨k,j,w,hm⟩:=Qrp N f i (below n) (by omega) (by omega)
   exact⟨k,j,w,ZT _ hm⟩
theorem Quz(b:2<=N)(a:i<N):∃ (k j w:Nat),Qt ((k:Nat):Int) j w∈Z0 N (Y7 N 0 N i).reverse:=by
 obtain⟨x,hx⟩:∃ x,x∈Y7 N 0 N i:=by
  obtain⟨M,rfl⟩:∃ M,N=M+1:=⟨N-1,by omega⟩
  rw[Y7,zw (by omega)]
  split
  .exact⟨_,ZE⟩
  exact⟨_,ZE⟩
 have h1:=Qeh N 0 N i (by omega) (by omega) a x hx;obtain⟨k,j,w,hm⟩:=Qrp N (x.2-x.1) x.1 (x.2-x.1) (zg _) (by omega);exact⟨k,j,w,VR.2 ⟨x,VA.2 hx,hm⟩⟩
theorem again{f:Nt}(n:Qd8 c)(w:N<=1048576)(v:i<N)(h:(Qcy N i (askQ f c)).1=.ok r):let s1:=(Qcy N i (askQ f c)).2
  let s2:=(Qcy N i (askQ s1.net (Zl s1.cache s1.files))).2
  Qd8 (Zl s1.cache s1.files)/\(s1.files.length<=c.most->s2.net=s1.net)/\(c.most=0->s1.net.fetches<s2.net.fetches)/\(c.most<=1->2<=N->s1.net.fetches<s2.net.fetches):=by
 intro s1 s2
 obtain⟨g,ga⟩:=Qmk N i (askQ f c)
 have l:Qd8 s1.cache:=⟨(g.len n.once).1,by
  show s1.cache.items.length<=s1.cache.most
  rw[(g.len n.once).2,g.most]
  exact n.len⟩
 have hm:s1.cache.most=c.most:=g.most
 have hb:Ja (-1) ((i / 4:Nat):Int) ((Zr (i / 4) N:Nat):Int):=by unfold Ja Zr;omega
 have zero:c.most=0->s1.net.fetches<s2.net.fetches:=λh0=>by
  refine Qm8 (s:=askQ s1.net (Zl s1.cache s1.files)) rfl ?_
  show Yj (Zl s1.cache s1.files).items _=none
  rw[Qkn _ _ (by rw[hm,h0])]
  have:=l.len
  rw[hm,h0] at this
  rw[zG (by omega:s1.cache.items.length=0)]
  rfl
 refine⟨Qgm _ _ l,λhl=>?_,zero,λh1 h2=>?_⟩
 .refine (Qu1 N i (askQ s1.net (Zl s1.cache s1.files)) λp hp=>.inr ?_).1
  exact Qv2 (g.once (by simp[askQ])) (by rw[hm];exact hl) (ga r h p hp)
 rcases vg c.most with h0|h0
 .exact zero h0
 have t:s1.cache.most=1:=by omega
 refine Qm8 (s:=askQ s1.net (Zl s1.cache s1.files)) rfl ?_
 show Yj (Zl s1.cache s1.files).items _=none
 obtain⟨b,k,hk⟩:=Qxy (s:=askQ f c) rfl h
 have m:s1.files=(bunT N i,b) :: k:=hk
 have j:(s1.files.map (·.1)).Nodup:=g.once (by simp[askQ])
 obtain⟨tk,tj,tw,u⟩:=Quz h2 v
 have o:=Qao.1 (ga r h _ (zX _ u))
 have a:Qt ((tk:Nat):Int) tj tw∈s1.files.map (·.1):=o
 have d:k≠[]:=λe=>by
  rw[m,e] at a
  simp at a
  exact Quh hb a
 rw[m] at j ⊢
 rw[show (bunT N i,b) :: k=((bunT N i,b) :: k.dropLast) ++ [k.getLast d] by rw[vM,vQ d],Qm7 _ _ _ l t,kvGet_one_none]
 rw[zT,ZY] at j
 intro e
 have e':(k.getLast d).1=bunT N i:=e
 exact j.1 (zU.2 ⟨_,List.getLast_mem d,e'⟩)
where
 kvGet_one_none {x:Kv} {q:O}:Yj [x] q=none↔x.1≠q:=by
  have:=Qlo x.1 q x.2
  rw[show (x.1,x.2)=x from rfl] at this
  rw[this]
  split <;> simp_all
theorem Q4a{a b:O}(h:a.data.toList=b.data.toList):a=b:=vF (za0.1 h)
theorem Q92(l:Ud):(sOf l).data.toList=l:=rfl
def Qb1(es:Uc)(l:List Fil):Prop:=∀ f∈l,f.1=sOf kCp∨Qd0 es f.1 f.2.data.toList
def Jn(es:Uc)(N:Nat)(l:List Fil):Prop:=∀ f∈Y9 (es.take N),getF l f.1=some f.2
def Q30(es:Uc)(l:List Fil):Prop:=∀ j,4*j<es.length->getF l (Y0 j (min 4 (es.length-4*j)))=some (sOf (cutR (es.map encE) j (min 4 (es.length-4*j))))
theorem Qqz(t:Int)(r:Uc)(j:Nat):Yv t r j=(Qt t j (min 4 (r.length-4*j)),sOf (cutR r j (min 4 (r.length-4*j)))):=by
 unfold Yv Qt cutR
 congr 3
 rw[<-zM];rcases Nat.le_total 4 (r.drop (4*j)).length with h|h
 .rw[ZB h]
 rw[Xg h,zk h,zk (zg _)]
variable {f:Fil}
theorem Qwv(h:f∈Y9 es):∃ (m j:Nat) (r:Uc),(Zc es)[m]?=some r/\4*j<r.length/\f=(Qt ((m:Int)-1) j (min 4 (r.length-4*j)),sOf (cutR r j (min 4 (r.length-4*j)))):=by obtain⟨m,r,j,h1,h2,rfl⟩:=(Qce (Zc es) (-1)).1 h;refine⟨m,j,r,h1,h2,?_⟩;rw[Qqz,show (-1:Int)+(m:Int)=(m:Int)-1 by omega]
variable {m j:Nat} {r:Uc}
theorem Qus(a:(Zc es)[m]?=some r)(b:4*j<r.length):(Qt ((m:Int)-1) j (min 4 (r.length-4*j)),sOf (cutR r j (min 4 (r.length-4*j))))∈Y9 es:=
 (Qce (Zc es) (-1)).2 ⟨m,r,j,a,b,by rw[Qqz,show (-1:Int)+(m:Int)=(m:Int)-1 by omega]⟩
theorem Qgh(h:f∈Y9 es):Qd0 es f.1 f.2.data.toList:=by obtain⟨m,j,r,h1,h2,rfl⟩:=Qwv h;exact⟨m,j,min 4 (r.length-4*j),r,h1,by omega,by omega,by omega,rfl,rfl⟩
theorem Qd0.more(h:Qd0 es p b)(xs:Uc):Qd0 (es++xs) p b:=by obtain⟨m,j,w,r,h1,h2,h3,h4,h5,rfl⟩:=h;obtain⟨r0,s,k1,rfl⟩:=Qpi (es++xs) es.length (m:=m) (r:=r) (by rw[X0];exact h1);exact⟨m,j,w,_,k1,h2,h3,by rw[zn];omega,h5,(Qkc h4).symm⟩
theorem Qd0.not_cp(h:Qd0 es p b):p≠sOf kCp:=by obtain⟨m,j,w,r,_,_,_,_,rfl,_⟩:=h;exact λe=>Qfx _ _ _ (Qda e)
theorem Qxq(c:es.length<=1048576){a:Ud}(h:Qd0 es p a)(k:Qd0 es p b):a=b:=by obtain⟨m,j,w,r,h1,h2,h3,h4,rfl,rfl⟩:=h;exact (Qth c h1 h2 h3 h4 k).symm
variable {l:List Fil}
theorem Qb1.more(h:Qb1 es l)(xs:Uc):Qb1 (es++xs) l:=λf hf=>(h f hf).imp id λk=>k.more xs
theorem Qb1.nil(es:Uc):Qb1 es []:=λf hf=>by simp at hf
theorem Qb1.noClash(h:Qb1 es l)(c:es.length<=1048576):Qbr (Y9 es) l:=λf hf=>by
 rw[Qfa]
 cases hg:getF l f.1 with
 | none=>exact .inl rfl
 | some b=>
  right
  rcases h _ (Jw hg) with h1|h1
  .exact absurd h1 (Qgh hf).not_cp
  exact zB some (Q4a (Qxq (p:=f.1) (a:=b.data.toList) (b:=f.2.data.toList) c h1 (Qgh hf)))
variable {c:O}
theorem Jn.kept{l' W:List Fil}(h:Jn es N l)(k:Qwh l l' W c):Jn es N l':=λf hf=>by
 rcases k f.1 with h1|⟨h1,_⟩|⟨h1,_⟩
 .rw[h1];exact h f hf
 .rw[h f hf] at h1;cases h1
 exact absurd h1 (Qgh hf).not_cp
theorem Jn.more(h:Jn es N l)(a:N<=es.length)(xs:Uc):Jn (es++xs) N l:=by unfold Jn at *;rw[vN a];exact h
theorem Jn.zero(es:Uc)(l:List Fil):Jn es 0 l:=λf hf=>by
 obtain⟨m,j,r,h1,h2,_⟩:=Qwv hf
 have:=Qbg (zr h1)
 simp at this
 subst this
 simp at h2
theorem Qfb(d:∀ e∈es,e.length<=20)(g:1<=w)(i:w<=4)(k:4*j+w<=es.length):Qs (cutR (es.map encE) j w)=some ((es.drop (4*j)).take w):=by
 have hcut:cutR (es.map encE) j w=((es.drop (4*j)).take w).flatMap encE:=by unfold cutR;rw[<-Vl,<-vJ,Vz]
 rw[hcut];have f:((es.drop (4*j)).take w).length=w:=by rw[zm,zM];omega
 have b:∀ x∈(es.drop (4*j)).take w,x.length<=20:=λx hx=>d x (ZF (zQ hx))
 refine Qjw ?_ (by omega) (by omega) b;have key:∀ l:Uc,(∀ x∈l,x.length<=20)->rawU (l.flatMap encE)=some l:=by
  intro l
  induction l with
  | nil=>intro _;rfl
  | cons a l ih=>
   intro h;have ha:=h a ZE;have c:(UInt8.ofNat a.length).toNat=a.length:=by rw[V3];omega
   rw[vZ];show rawU (UInt8.ofNat a.length :: (a++l.flatMap encE))=_;rw[Qkx,c,zD (by simp),xw,X0,ih λx hx=>h x (zX _ hx)];rfl
 exact key _ b
theorem Qr4(a:∀ e∈es,e.length<=20)(c:1<=w)(d:w<=4)(f:4*j+w<=es.length):Yf ((es.drop (4*j)).take w)=some (cutR (es.map encE) j w):=by
 have b:((es.drop (4*j)).take w).length=w:=by rw[zm,zM];omega
 rw[Qb9 (by omega) (by omega) λk l hjl=>a l (ZF (zQ (zr hjl)))];unfold cutR;rw[<-Vl,<-vJ,Vz]
theorem Qp9(d:∀ e∈es,e.length<=20)(a:1<=w)(b:w<=4)(f:4*j+w<=es.length)(c:getF l (Y0 j w)=some (sOf (cutR (es.map encE) j w))):Yl l j w=some ((es.drop (4*j)).take w):=by rw[Qmy c (Qfb d a b f),zD (by rw[zm,zM];omega)]
theorem Q6j{k:Nat}(l:Uc)(q:Nat)(h:∀ x∈l,x.length=k):l.flatten.take (k*q)=(l.take q).flatten:=by
 have e:=Qpx l q h;have e2:l.flatten=(l.take q).flatten++(l.drop q).flatten:=by rw[<-List.flatten_append,xo]
 rcases Nat.le_total q l.length with hq|hq
 .have hl:(l.take q).flatten.length=k*q:=by
   have:=Qi2 (r:=l) (j:=0) (w:=q) (k:=k) (by omega) h
   unfold cutR at this;simpa using this
  rw[e2,vN (by omega),zk (by omega)]
 rw[zk hq,zk]
 have:=Qi2 (r:=l) (j:=0) (w:=l.length) (k:=k) (by omega) h
 unfold cutR at this;simp at this;rw[List.length_flatten];rw[this];exact Vu _ hq
variable {w0:Nat}
theorem Q8b(c:∀ e∈es,e.length<=20)(i:(Zc es)[m]?=some r)(f:1<=w)(d:w<=w0)(g:w0<=4)(a:4*j+w0<=r.length)(h:Qc3 m (cutR r j w0) w0 w=some b):b=cutR r j w:=by
 rcases Qfy i with⟨rfl,rfl⟩|⟨k,rfl,hk,rfl⟩
 .rw[zA] at a
  unfold Qc3 at h;rw[zD rfl] at h;unfold Jg at h;rw[Qfb c (by omega) g a,ZP,zD (by rw[zm,zM];omega),vX,ZB d,Qr4 c f (by omega) (by omega)] at h;exact (zR h).symm
 unfold Qc3 at h;rw[zw (by omega)] at h;unfold Qat at h;have h8:∀ x∈(Z4 es k).map (λ(x:Hsh)=>x.toList),x.length=8:=λx hx=>by obtain⟨y,_,rfl⟩:=zU.1 hx;simp
 rw[zD (Qi2 a h8)] at h;rw[<-zR h];unfold cutR;rw[Q6j _ _ λx hx=>h8 x (ZF (zQ hx)),vX,ZB d]
theorem Zc0(d:es.length<=1048576)(f:(Zc es)[m]?=some r)(g:1<=w0)(i:w0<=4)(k:4*j<r.length)(h:Qd0 es (Qt ((m:Int)-1) j w0) b):b=cutR r j w0/\4*j+w0<=r.length:=by
 obtain⟨m',j',w',r',k1,k2,k3,k4,k5,rfl⟩:=h;have a:=Qp6 d f (zg 1) (by decide) (show 4*j+1<=r.length by omega);have c:=Qp6 d k1 k2 k3 k4;have a':Ja ((m:Int)-1) j w0:=by
  have:=a.1
  unfold Ja at this ⊢;omega
 have e:=Qfp a' c.1 a.2 c.2 (Qda k5);obtain rfl:m=m':=by omega
 obtain rfl:j=j':=by omega
 obtain rfl:w0=w':=by omega
 rw[f] at k1;cases k1;exact⟨rfl,k4⟩
theorem Qss(a:es.length<=1048576)(f:∀ e∈es,e.length<=20)(h:Qb1 es n.files)(d:n.lies = []):Qeu es n where
 steady:=by unfold Qg7;rw[d];intro l a;simp at a
 fits m j w0 w r data b h1 h2 h3 h4 h5 h6 h7 h8:=by
  have c:Qdu n (Qt ((m:Int)-1) j w0)=none:=by unfold Qdu;rw[d];rfl
  unfold Yx at h7
  rw[c] at h7
  obtain⟨x,hx,rfl⟩:=zP.1 h7
  rcases h _ (Jw hx) with k|k
  .exact absurd k λe=>Qfx _ _ _ (Qda e)
  obtain⟨e,hj⟩:=Zc0 a h1 (by omega) h4 (by omega) k
  dsimp only at e h8
  rw[e] at h8
  exact Q8b f h1 h2 h3 h4 hj h8
theorem Qcg(h:Jn es N n.files)(b:n.lies = []):Qnm es N n:=λm j r h1 h2=>by
 have a:Qdu n (Qt ((m:Int)-1) j (min 4 (r.length-4*j)))=none:=by unfold Qdu;rw[b];rfl
 unfold Yx
 rw[a]
 have:=h _ (Qus h1 h2)
 dsimp only at this ⊢
 rw[this]
 rfl
theorem Qkz(h:getF n.files (sOf kCp)=some c)(a:n.lies = []):Yx n (sOf kCp)=some c.data.toList:=by unfold Yx;rw[show Qdu n (sOf kCp)=none by unfold Qdu;rw[a];rfl,h];rfl
theorem Qk8(ls:Uc)(i:Nat)(a:i<ls.length):Qab (Jz (ls.getD i [])) i ls.length (Y8 ls i) (rootOf ls)=true:=by unfold Qab;rw[zO,zO,Qhi ls.length ls i (zg _) a];simp;omega
theorem Qhk(ls:Uc)(m:Nat)(a:1<=m)(c:m<=ls.length)(b:ls.length<9223372036854775808):Yt m ls.length (rootOf (ls.take m)) (rootOf ls) (Y5 m ls true)=true:=by unfold Yt;have h:=Ql2 ls.length ls m true (zg _) b a c;rw[zD rfl] at h;rw[zO,zO,h];simp;omega
structure Cl where
 key:O
 size:Nat
 root:Hsh
 cache:Cch
abbrev Tld:=Nat×O
def Qbs:Tld:=(0,⟨#[]⟩)
def Z1(c:Cl)(n:Nt):Tld×List Hsh×Cl×Nt:=
 match Yx n (sOf kCp) with
 | none=>((3,⟨#[]⟩),[],c,Zt n (sOf kCp))
 | some data=>
  if (Zy data c.key.data.toList).2.2=false then ((3,⟨#[]⟩),[],c,Zt n (sOf kCp)) else
  if (Zy data c.key.data.toList).1.toNat<c.size then ((4,⟨#[]⟩),[],c,Zt n (sOf kCp)) else
  if (Zy data c.key.data.toList).1.toNat=c.size then (if (Zy data c.key.data.toList).2.1=c.root then (Qbs,[],c,Zt n (sOf kCp)) else ((5,⟨#[]⟩),[],c,Zt n (sOf kCp))) else
  if c.size=0 then (Qbs,[],{ c with size:=(Zy data c.key.data.toList).1.toNat,root:=(Zy data c.key.data.toList).2.1 },Zt n (sOf kCp)) else
  match Qhl c.size (Zy data c.key.data.toList).1.toNat (askQ (Zt n (sOf kCp)) c.cache) with
  | (.error (.miss p),s)=>((6,p),[],{ c with cache:=s.cache },s.net)
  | (.error .panic,s)=>((99,⟨#[]⟩),[],{ c with cache:=s.cache },s.net)
  | (.ok l,s)=>
   if Yt c.size (Zy data c.key.data.toList).1.toNat c.root (Zy data c.key.data.toList).2.1 l=true then (Qbs,l,{ c with size:=(Zy data c.key.data.toList).1.toNat,root:=(Zy data c.key.data.toList).2.1,cache:=Zl s.cache s.files },s.net)
   else ((5,⟨#[]⟩),[],{ c with cache:=s.cache },s.net)
def Y3(c:Cl)(n:Nt)(i:Int):Tld×(Ud×List Hsh)×Cl×Nt:=
 if i<0∨(c.size:Int)<=i then ((2,⟨#[]⟩),([],[]),c,n) else
 match Qcy c.size i.toNat (askQ n c.cache) with
 | (.error (.miss p),s)=>((6,p),([],[]),{ c with cache:=s.cache },s.net)
 | (.error .panic,s)=>((99,⟨#[]⟩),([],[]),{ c with cache:=s.cache },s.net)
 | (.ok r,s)=>
  if Qab (Jz r.1) i c.size r.2 c.root=true then (Qbs,r,{ c with cache:=Zl s.cache s.files },s.net)
  else ((5,⟨#[]⟩),([],[]),{ c with cache:=s.cache },s.net)
structure Za8(I:Cs->Prop):Prop where
 keep:∀ s p b,I s->I (Qjc p b s)
 get:∀ s p,I s->I { s with cache:=Yz s.cache p }
 fetched:∀ s q,I s->I (Zk q s)
def Kept{α:Type}(I:Cs->Prop)(m:Qm α):Prop:=∀ s,I s->I (m s).2
variable {m:Qm α}
theorem Kept.bind{β:Type}{I:Cs->Prop}{f:α->Qm β}(h:Kept I m)(k:∀ a,Kept I (f a)):Kept I (Qm.bind m f):=λs hs=>by
 have h1:=h s hs
 unfold Qm.bind
 cases hm:m s with
 | mk o s1=>
  rw[hm] at h1
  cases o with
  | ok a=>exact k a s1 h1
  | error e=>exact h1
section
variable {I:Cs->Prop} (hI:Za8 I)
include hI
theorem Qlv(fits:Qj1)(c:Int)(b a:Nat):Kept I (Qby fits c b a):=λs hs=>by
 unfold Qby
 split
 .exact hs
 split
 .exact hI.keep _ _ _ (hI.get _ _ hs)
 unfold Qdt
 split
 .exact hI.keep _ _ _ (hI.fetched _ _ hs)
 split
 .exact hI.fetched _ _ hs
 split
 .exact hI.keep _ _ _ (hI.fetched _ _ (hI.fetched _ _ hs))
 exact hI.fetched _ _ (hI.fetched _ _ hs)
theorem Qis(n c a:Nat):Kept I (Qdg n c a):=(Qlv hI _ _ _ _).bind λb s hs=>by
 unfold Qnr
 split <;> exact hs
theorem Q2x(n d c:Nat):Kept I (Qe2 n d c):=by
 unfold Qe2
 split
 .exact (Qis hI _ _ _).bind λa=>(Qis hI _ _ _).bind λb s hs=>hs
 exact Qis hI _ _ _
theorem Qf6(N:Nat):∀ (f i n:Nat),Kept I (rootQ N f i n)
 | 0,_,_=>λs hs=>hs
 | f+1,i,n=>by
  rw[rootQ]
  split
  .exact Q2x hI _ _ _
  exact (Qf6 N f _ _).bind λa=>(Qf6 N f _ _).bind λb s hs=>hs
theorem Qhz(N:Nat):∀ rs,Kept I (Zp N rs)
 | []=>λs hs=>hs
 | x :: xs=>by
  rw[Zp]
  exact (Qf6 hI _ _ _ _).bind λa=>(Qhz N xs).bind λb s hs=>hs
theorem Q14(N i:Nat):Kept I (Qcy N i):=by
 unfold Qcy;refine (Qlv hI _ _ _ _).bind λb=>?_
 split
 .exact λs hs=>hs
 exact (Qhz hI _ _).bind λp s hs=>hs
end
def Qcm(n n':Nt):Prop:=n'.lies=n.lies/\n'.files=n.files
theorem Qcm.refl(n:Nt):Qcm n n:=⟨rfl,rfl⟩
theorem Qcm.t{a b c:Nt}(h:Qcm a b)(k:Qcm b c):Qcm a c:=⟨k.1.t h.1,k.2.t h.2⟩
theorem Qau(n:Nt)(q:O):Qcm n (Zt n q):=⟨(Yc n q).1,(Yc n q).2.1⟩
theorem Qc7(n:Nt):Za8 λs=>Qcm n s.net:=⟨λ_ _ _ h=>h,λ_ _ h=>h,λs q h=>h.t (Qau s.net q)⟩
theorem Qv3(h:Qeu es n)(k:Qcm n n'):Qeu es n' where
 steady:=by rw[Qg7,k.1];exact h.steady
 fits m j w0 w r data b h1 h2 h3 h4 h5 h6 h7 h8:=h.fits m j w0 w r data b h1 h2 h3 h4 h5 h6 (by rw[<-Qg3 h.steady k.1 k.2];exact h7) h8
theorem Qjq{N:Nat}(h:Qnm es N n)(a:Qg7 n)(k:Qcm n n'):Qnm es N n':=λm j r h1 h2=>by rw[Qg3 a k.1 k.2];exact h m j r h1 h2
structure Qnu(es:Uc)(c:Cl):Prop where
 size:c.size<=es.length
 root:c.root=rootOf (es.take c.size)
 cache:∀ x∈c.cache.items,Qd0 es x.1 x.2
 ok:Qd8 c.cache
theorem Qnu.more{c:Cl}(h:Qnu es c)(xs:Uc):Qnu (es++xs) c:=
 ⟨by have:=h.size;rw[zn];omega,by rw[vN h.size];exact h.root,λx hx=>(h.cache x hx).more xs,h.ok⟩
theorem Qno{T:List O}(h:Asks m T){s:Cs}(a:Qd8 s.cache):Qd8 (m s).2.cache/\(m s).2.cache.most=s.cache.most:=by obtain⟨g,_⟩:=h s;refine⟨⟨(g.len a.once).1,?_⟩,g.most⟩;rw[(g.len a.once).2,g.most];exact a.len
section
variable {es:Uc} (hl:es.length<=1048576) (hs:∀ e∈es,e.length<=20) {c:Cl} (hc:Qnu es c) {n:Nt} (hn:Qeu es n)
include hl hs hc hn
theorem Qrl{i:Nat}(g:i<c.size){av:Bool}(f:av=true->Qnm es c.size n):Qnu es (Y3 c n i).2.2.1/\Qcm n (Y3 c n i).2.2.2/\(Y3 c n i).2.2.1.key=c.key/\(Y3 c n i).2.2.1.size=c.size/\(Y3 c n i).2.2.1.root=c.root/\(Y3 c n i).2.2.1.cache.most=c.cache.most/\
   (((Y3 c n i).1=Qbs/\(Y3 c n i).2.1=((es.take c.size).getD i [],Y8 (es.take c.size) i))∨(av=false/\∃ p,(Y3 c n i).1=(6,p)/\(Y3 c n i).2.1=([],[]))):=by
 have hT:Qgr es c.size av (askQ n c.cache):=⟨λx hx=>by simp[askQ] at hx,hc.cache,hn,f⟩
 obtain⟨h1,h2,h3⟩:=Qmc hl hc.size hs (av:=av) g (askQ n c.cache) hT;have h4:=Q14 (Qc7 n) c.size i (askQ n c.cache) (Qcm.refl n);obtain⟨h5,h6⟩:=Qno (Qmk c.size i) (s:=askQ n c.cache) hc.ok;have b:(es.take c.size).length=c.size:=by rw[zm,ZB hc.size]
 unfold Y3;rw[zw (by omega),zO];cases hq:Qcy c.size i (askQ n c.cache) with
 | mk o s=>
  rw[hq] at h1 h2 h3 h4 h5 h6;dsimp only at h1 h2 h3 h4 h5 h6;cases o with
  | error e=>
   obtain⟨d,p,rfl⟩:=h3 e rfl;exact⟨⟨hc.size,hc.root,h1.cache,h5⟩,h4,rfl,rfl,rfl,h6,.inr ⟨d,p,rfl,rfl⟩⟩
  | ok r=>
   have hr:=h2 r rfl;subst hr;dsimp only;have a:=Qk8 (es.take c.size) i (by omega);rw[b,<-hc.root] at a;rw[zD a];refine⟨⟨hc.size,hc.root,λx hx=>?_,Qgm _ _ h5⟩,h4,rfl,rfl,rfl,(Qgy _ _).t h6,.inl ⟨rfl,rfl⟩⟩;rcases Qij _ _ _ hx with h7|h7
   .exact h1.cache x h7
   exact h1.files x h7
theorem Qim{M:Nat}(d:M<=es.length)(f:c.size<=M)(i:Yx n (sOf kCp)=some (cpOf (es.take M) c.key).data.toList)(j:Qnm es M n):(Z1 c n).1=Qbs/\(Z1 c n).2.1=(if 0<c.size/\c.size<M then Y5 c.size (es.take M) true else [])/\Qnu es (Z1 c n).2.2.1/\(Z1 c n).2.2.1.size=M/\(Z1 c n).2.2.1.key=c.key/\(Z1 c n).2.2.1.cache.most=c.cache.most/\Qcm n (Z1 c n).2.2.2:=by
 have:=hs
 have b:(es.take M).length=M:=by rw[zm,ZB d]
 have h:Zy (cpOf (es.take M) c.key).data.toList c.key.data.toList=((M:Int),rootOf (es.take M),true):=by have e:(cpOf (es.take M) c.key).data.toList=Jt (es.take M).length (rootOf (es.take M)) c.key.data.toList:=rfl;rw[e,Qci _ _ _ (by omega),b]
 unfold Z1;rw[i];dsimp only;rw[h];dsimp only;rw[zw (by simp),zO,zw (by omega)];by_cases h0:M=c.size
 .rw[zD h0,zD (by rw[hc.root,h0]),zw (by omega)]
  exact⟨rfl,rfl,hc,h0.symm,rfl,rfl,Qau n _⟩
 rw[zw h0];by_cases hz:c.size=0
 .rw[zD hz,zw (by omega)]
  exact⟨rfl,rfl,⟨d,rfl,hc.cache,hc.ok⟩,rfl,rfl,rfl,Qau n _⟩
 rw[zw hz,zD (by omega)];have hT:Qgr es M true (askQ (Zt n (sOf kCp)) c.cache):=⟨λx hx=>by simp[askQ] at hx,hc.cache,hn.next _,λ_=>Qjq j hn.steady (Qau n _)⟩
 obtain⟨h1,h2,h3⟩:=Qjz hl d (av:=true) (m:=c.size) (by omega) f (askQ (Zt n (sOf kCp)) c.cache) hT;have h4:Qcm n (Qhl c.size M (askQ (Zt n (sOf kCp)) c.cache)).2.net:=Qhz (Qc7 n) M _ (askQ (Zt n (sOf kCp)) c.cache) (Qau n _);obtain⟨h5,h6⟩:=Qno (m:=Qhl c.size M) (Qff M (Js M 0 M c.size).reverse) (s:=askQ (Zt n (sOf kCp)) c.cache) hc.ok;cases hq:Qhl c.size M (askQ (Zt n (sOf kCp)) c.cache) with
 | mk o s=>
  rw[hq] at h1 h2 h3 h4 h5 h6;dsimp only at h1 h2 h3 h4 h5 h6;cases o with
  | error e=>
   obtain⟨g,_⟩:=h3 e rfl;cases g
  | ok r=>
   have hr:=h2 r rfl;subst hr;dsimp only;have a:=Qhk (es.take M) c.size (by omega) (by omega) (by omega);rw[b,vX,ZB f,<-hc.root] at a;rw[zD a];refine⟨rfl,rfl,⟨d,rfl,λx hx=>?_,Qgm _ _ h5⟩,rfl,rfl,(Qgy _ _).t h6,h4⟩;rcases Qij _ _ _ hx with h7|h7
   .exact h1.cache x h7
   exact h1.files x h7
end
end
end Go.Proofs.YtefccfakhgdfbaaGreatDoor
