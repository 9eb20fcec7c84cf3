/- Lemmas of the proof of All; their conditions stand in them. -/
import Derived.Test.YtefccfakhgdfbaaGreatDoorAl02
import Derived.Deep.AppendLies
import Derived.StillTailTactics
set_option linter.unusedVariables false
set_option linter.unusedSimpArgs false
open Go.RowKit Go.Proofs.Tryz
set_option maxRecDepth 100000
set_option maxHeartbeats 4000000
namespace Go.Proofs.YtefccfakhgdfbaaGreatDoor
theorem fill1(u:J)(c:u.cells=#[u])(a:Nat)(d:a=1)(Z:Array J)(b:Z.size=1):Instr.fill (λi=>some (i*a,a)) Z [(0,u)]=some #[u]:=by
 subst d;obtain⟨l⟩:=Z
 match l,b with
 | [a0],_=>simp[Instr.fill,c]
variable {w:G}
theorem Q2h{P:Program}{d:Array Oper}{c:List Oper}{o:Oper}{a:Act}{Q:Exit->Act->G->Prop}(g:o.guard=none)(t e:TypeId)(x:Operand)(k:o.op=.buildSlice t 1 #[(0,x)])(i:TypeInfo)(z:J)(l:P.underlying t=some (.slice e))(h:P.info? e=some i)(n:i.zero=some z)(b:i.size=1)(u:J)(m:a.eval x=u)(f:u.cells=#[u])(j:wpList P d Q c (a.put o.dst (.slice (some ⟨w.heap.size,0,none⟩) 1 1)) (w.alloc (.cells #[u] e))):wpList P d Q (o :: c) a w:=
 VM g λ_ hK=>wp_buildSlice t e 1 _ k #[u] i _ l h n (by omega) (by omega) (by
  simp only[vD,zT,vS,m]
  exact fill1 u f _ b _ (by simp[b])) (hK _ _ j)
variable {v:J} {l:Ud}
theorem Q3.cells{base:Nat}(h:Q3 w base v l):v.cells=#[v]:=by rcases h with⟨rfl,_⟩|⟨b,off,c,C,fz,rfl,_⟩ <;> rfl
theorem Q7.below2{w':G}(h:Q7 w v l)(a:Bz w w'):Q7 w' v l:=h.j a
variable {b off c n:Nat} {x:Ub} {r:Ud}
theorem Que(h:Q7 w (.slice (some ⟨b,off,none⟩) (r.length+1) c) (x :: r))(f:n<=r.length):Q7 w (.slice (some ⟨b,off+1,none⟩) n (c-1)) (r.take n):=by
 obtain⟨a,c',h1,h2,h3⟩:=h;simp only[ZN] at h1;obtain⟨rfl,_,rfl⟩:=h1;simp only[zx] at h2;have hl:(r.take n).length=n:=by simp;omega
 refine⟨_,c-1,by rw[hl],by rw[hl];omega,λj y hy=>⟨b,off+1,rfl,?_⟩⟩;have hj:j<n:=by have:=(zj.1 hy).1;simp at this;omega
 obtain⟨b',off',e,d⟩:=h3 (j+1) y (by rw[zT,xO];rw[vJ,zH hj] at hy;exact hy);cases e;rw[show off+1+j=off+(j+1) from by omega];exact d
theorem Q3o(h:Q7 w (.slice (some ⟨b,off,none⟩) (r.length+1) c) (x :: r))(f:n<=r.length):Q7 w (.slice (some ⟨b,off+(1+n),none⟩) (r.length+1-(1+n)) (c-(1+n))) (r.drop n):=by
 obtain⟨a,c',h1,h2,h3⟩:=h;simp only[ZN] at h1;obtain⟨rfl,_,rfl⟩:=h1;simp only[zx] at h2;have hl:(r.drop n).length=r.length+1-(1+n):=by simp;omega
 refine⟨_,c-(1+n),by rw[hl],by rw[hl];omega,λj y hy=>⟨b,off+(1+n),rfl,?_⟩⟩;obtain⟨b',off',e,d⟩:=h3 (1+n+j) y (by
  rw[show 1+n+j=(n+j)+1 from by omega,zT,xO]
  rw[Vl,ZU] at hy
  exact hy)
 cases e;rw[show off+(1+n)+j=off+(1+n+j) from by omega];exact d
variable {a:Y Addr}
theorem Qrf{k:Nat}(b:k=0)(h:r.length<=n):Q7 w (.slice a k c) (r.drop n):=by have e:r.drop n = []:=Vx h;rw[e];subst b;exact⟨a,c,rfl,zE _,λj x hx=>by simp at hx⟩
theorem Qya(b:n=0):Q7 w (.slice a n 0) (r.take n):=by subst b;exact⟨a,0,rfl,zg _,λj x hx=>by simp at hx⟩
def Qw5(data:Ud)(w:G)(e:Ua)(w':G):Prop:=
 ∃ v',e=.returned (.tuple #[v',.bool (Qs data).isSome])/\Bz w w'/\((Qs data=none/\v'=.slice none 0 0)∨∃ ls,Qs data=some ls/\Yn w' w.heap.size v' ls)
theorem Qeb(v:J)(data:Ud)(w:G)(h:Q7 w v data)(hn:data.length<=1099511627776):Calls prog 148 #[v] w (Qw5 data w):=by
 obtain⟨i0,hi,T,U,ae⟩:=ZZ Qw2;obtain⟨a,c,rfl⟩:∃ a c,v=.slice a data.length c:=by obtain⟨a,c,h1,_,_⟩:=h;exact⟨a,c,h1⟩
 have HH:=zh h;clear h
 go_enter func148,ntmps148
 go_wp2
 go_loopw [0,4] (λdv lv wr=>∃ (rest:Ud) (ls:Uc),Q7 wr dv rest/\Yn wr w.heap.size lv ls/\Read data ls rest/\rest.length<=data.length/\ls.length<=4/\(∀ l∈ls,l.length<=20)/\Bz w wr/\(Q7 w dv rest)/\(ls = []->lv=.slice none 0 0)) (λdv _ _=>match dv with | .slice _ n _=>n|_=>0)
 case atStart=>exact⟨data,[],HH.o,⟨[],zv _ _ _ _,by simp⟩,Read.start _,zg _,by decide,by simp,zu _ _,HH.o,λ_=>rfl⟩
 case round=>
  obtain⟨rest,ls,hb,k,s,ac,h4,F,A,L,D⟩:=hrel;obtain⟨al,cl,rfl⟩:∃ a c,u4=.slice a ls.length c:=by obtain⟨vs,f,_⟩:=k;obtain⟨a,c,h1,_⟩:=Zn f;exact⟨a,c,h1⟩
  obtain⟨HB,HO,HR,HS,HN,t⟩:=zh6 A k s F D L;clear A k s F L D;cases rest with
  | nil=>
   obtain⟨a2,c2,rfl,_,_⟩:=hb;simp only[vL];by_cases h0:ls.length=0
   .obtain rfl:ls = []:=zG h0
    have E:=HN.o rfl;simp only[vL] at E ⊢;simp only[ZN] at E;obtain⟨rfl,_,rfl⟩:=E;go_wp2;go_ret2;have hu:Qs data=none:=by unfold Qs;rw[HR.o.done];rfl
    exact⟨_,by rw[hu];rfl,HB.o,.inl ⟨hu,rfl⟩⟩
   have hd:decide (0<ls.length)=true:=by simp;omega
   go_wp2;go_ret2;have hu:=Qjw HR.o.done h0 h4 HS.o;exact⟨_,by rw[hu];rfl,HB.o,.inr ⟨ls,hu,HO.o⟩⟩
  | cons x r=>
   obtain⟨a2,c2,rfl,I,C⟩:=hb;have ad:x.toNat<256:=x.toNat_lt;obtain⟨b,off,rfl,q⟩:=C 0 (.int .u8 x.toNat) (by simp);simp only[VC] at q;have af:=zh C;clear C;simp only[zx] at I ac ⊢;obtain⟨n,H⟩:=zzx x.toNat
   rw[<-H] at ad q;have HX:=zh H;clear H;by_cases hA:r.length<n
   .have d1:decide ((r.length:Int)+1<1+(n:Int))=true:=by simp;omega
    go_wp2;go_ret2;have hu:=Qm0 (HR.o.bad (by rw[<-HX.o];exact hA));exact⟨_,by rw[hu];rfl,HB.o,.inl ⟨hu,rfl⟩⟩
   have d1:decide ((r.length:Int)+1<1+(n:Int))=false:=by simp;omega
   by_cases hB:20<n
   .have d2:decide ((21:Int)<1+(n:Int))=true:=by simp;omega
    go_wp2;go_ret2;have hu:=HR.o.long (by rw[<-HX.o];exact hB);exact⟨_,by rw[hu];rfl,HB.o,.inl ⟨hu,rfl⟩⟩
   have d2:decide ((21:Int)<1+(n:Int))=false:=by simp;omega
   by_cases hC:ls.length=4
   .have d3:((ls.length:Int) == 4)=true:=by simp;omega
    go_wp2;go_ret2;have hu:=HR.o.many (by omega);exact⟨_,by rw[hu];rfl,HB.o,.inl ⟨hu,rfl⟩⟩
   have d3:((ls.length:Int) == 4)=false:=by rw[zl];omega
   have d:=HR.o.step (by rw[<-HX.o];omega);rw[<-HX.o] at d;have aa:=zh d;clear d;have S:(r.take n).length=n:=by simp;omega
   have p:=zh S;clear S;obtain⟨vs,f,z⟩:=HO.o;obtain⟨i,V⟩:=zh2 f z;clear f z;by_cases hc1:c2=1;subst hc1;have X:((1:Int) == ((1:Nat):Int))=true:=by decide
   obtain rfl:n=0:=by omega
   obtain rfl:r = []:=zG (by omega);have m:=zh (show Q7 w (.slice (some ⟨b,off,none⟩) 0 0) (([]:Ud).drop 0) from Qrf rfl (by simp))
   go_wp2_with fail
   refine (Qil _ (([]:Ud).take 0) _ ?_ (by rw[p.o];omega)).m ?_
   .exact Qya rfl
   rotate_left;have X:((1:Int) == (c2:Int))=false:=by rw[zl];omega
   by_cases hcn:c2=1+n;subst hcn;have m:=zh (show Q7 w (.slice (some ⟨b,off,none⟩) (r.length+1-(1+n)) (1+n-(1+n))) (r.drop n) from Qrf (by omega) (by omega))
   go_wp2_with fail
   refine (Qil _ (r.take n) _ ?_ (by rw[p.o];omega)).m ?_
   .have ab:=(Que t.o (show n<=r.length by omega)).below2 HB.o
    simpa using ab
   rotate_left;have m:=zh (show Q7 w (.slice (some ⟨b,off+(1+n),none⟩) (r.length+1-(1+n)) (c2-(1+n))) (r.drop n) from Q3o t.o (by omega))
   go_wp2_with fail
   refine (Qil _ (r.take n) _ ?_ (by rw[p.o];omega)).m ?_
   .exact (Que t.o (by omega)).below2 HB.o
   all_goals
    rintro e w1⟨v1,rfl,Q,M⟩;obtain⟨y,g⟩:=zh2 Q M;clear Q M
    go_wp2_with (first|refine Q2h rfl 157 147 _ rfl i0 _ underlying157 hi T U _ rfl (Q3.cells y.o) ?_|at_builtin;refine Yo rfl _ _ 157 rfl w.heap.size 147 i0 (.slice none 0 0) 24 underlying157 hi T U ae rfl (by decide) _ _ vs rfl (Qn i.o g.o) _ rfl (Q3.one y.o) (by omega) (zi HB.o.size g.o.size) ?_;intro v2 w2 R P Z;obtain⟨W,K⟩:=zh2 R P;clear R P Z)
    have N:Bz w w1:=HB.o.t (g.o.m HB.o.size);have B:Bz w w2:=N.grown K.o N.size (λj hj=>(i.o.lt j hj).1);go_roundw
    case rel=>
     refine⟨_,ls ++ [_],m.o.below2 B,Yn.grow (Qn i.o g.o) (λj u l h1 h2=>(V.o j u l h1 h2).j g.o) (y.o.m HB.o.size) W.o K.o,aa.o,by simp <;> omega,by simp;omega,?_,B,m.o,λh=>by simp at h⟩;intro l hl;rcases ZL.1 hl with h|h
     .exact HS.o l h
     simp at h;subst h
     first
      | (rw[p.o];omega)
      | simp
    case measure=>simp <;> omega
def Q9z(data:Ud)(w:G)(e:Ua)(w':G):Prop:=
 ∃ v',e=.returned (.tuple #[v',.bool (Qs data).isSome])/\Bz w w'/\((Qs data=none/\v'=.slice none 0 0)∨∃ ss,Qs data=some (bss ss)/\Qq w' w.heap.size v' ss)
theorem Q7j{ls:Uc}{l:Ud}(h:Yf ls=some l):l=ls.flatMap encE:=by
 unfold Yf at h
 split at h
 .cases h
 split at h
 .cases h;rfl
 cases h
theorem Qjk(s:O)(i j:Nat):(s.extract i j).data.toList=(s.data.toList.drop i).take (j-i):=by simp[List.extract]
theorem Q85{s:O}{x:Ub}{r:Ud}{n:Nat}(h:s.data.toList=x :: r)(b:n<=r.length):(s.extract 1 (1+n)).data.toList=r.take n/\(s.extract (1+n) s.size).data.toList=r.drop n/\(s.extract (1+n) s.size).size=s.size-(1+n):=by
 have hl:s.data.toList.length=s.size:=rfl;have a:r.length+1=s.size:=by rw[<-hl,h];rfl
 refine⟨?_,?_,?_⟩
 .rw[Qjk,h,show 1+n-1=n from by omega];rfl
 .rw[Qjk,h,show 1+n=n+1 from by omega,Xr]
  exact zk (by simp;omega)
 simp
theorem Qec(s0:O)(w:G)(X:s0.size<=1099511627776):Calls prog 59 #[.string s0] w (Q9z s0.data.toList w):=by
 obtain⟨i0,hi,P,Q,R⟩:=ZZ Qb3
 go_enter func59,ntmps59
 go_wp2
 go_loopw [0,4] (λsv lv wr=>∃ (s:O) (ss:List O),sv=.string s/\Qq wr w.heap.size lv ss/\Read s0.data.toList (bss ss) s.data.toList/\ss.length+s.size<=s0.size/\Bz w wr) (λsv _ _=>match sv with | .string s=>s.size|_=>0)
 case atStart=>exact⟨s0,[],rfl,zv _ _ _ _,Read.start _,by simp,zu _ _⟩
 case round=>
  obtain⟨s,ss,rfl,f,a,V,k⟩:=hrel;obtain⟨HR,HB⟩:=zh2 a k;unfold Qq at f;have HO:=zh f;clear a k f;by_cases h0:0<s.size
  .have hd:decide (0<(s.size:Int))=true:=by simp;omega
   obtain⟨x,r,c⟩:∃ x r,s.data.toList=x :: r:=by
    cases h:s.data.toList with
    | nil=>
     have hl:s.data.toList.length=s.size:=rfl;rw[h] at hl;simp at hl;omega
    | cons x r=>exact⟨x,r,rfl⟩
   have N:x.toNat<256:=x.toNat_lt;have hx:s[0]'h0=x:=by
    have:s.data.toList[0]'(by rw[c];simp)=x:=by simp[c]
    exact this
   have C:r.length+1=s.size:=by have hl:s.data.toList.length=s.size:=rfl;rw[<-hl,c];rfl
   have v:=zh c;have S:r.length+1<=s.size:=by omega
   have T:s.size<=r.length+1:=by omega
   have U:=zh C;obtain⟨n,g⟩:=zzx x.toNat
   rw[<-g] at N;have W:(s[0]'h0).toNat=n:=by rw[hx,<-g]
   have HX:=zh g;clear c C hx g;have a:=HR.o;rw[v.o] at a;have u:=zh a;clear a;by_cases hA:r.length<n
   .have d1:decide ((s.size:Int)<1+(n:Int))=true:=by simp;omega
    go_wp2;go_ret2;have hu:=Qm0 (u.o.bad (by rw[<-HX.o];exact hA));exact⟨_,by rw[hu];rfl,HB.o,.inl ⟨hu,rfl⟩⟩
   have d1:decide ((s.size:Int)<1+(n:Int))=false:=by simp;omega
   have hcut:=Q85 v.o (show n<=r.length by omega);have D:=zh hcut;have b:=u.o.step (by rw[<-HX.o];omega);rw[<-HX.o] at b;have I:=zh b;clear hcut b
   go_wp2_with (first|at_builtin;refine Yo rfl _ _ 22 rfl w.heap.size 9 i0 (.string ⟨#[]⟩) 16 underlying22 hi P Q R rfl (by decide) _ _ _ rfl HO.o _ rfl rfl (by omega) HB.o.size ?_;intro v2 w2 B A F;obtain⟨E,H⟩:=zh2 B A;clear B A F)
   obtain⟨L,M,z⟩:=D.o;go_roundw
   case rel=>
    refine⟨_,ss ++ [s.extract 1 (1+n)],rfl,?_,?_,?_,HB.o.grown H.o HB.o.size (λj hj=>(HO.o.lt j hj).1)⟩
    .unfold Qq
     simpa using E.o
    .rw[M]
     have e:bss (ss ++ [s.extract 1 (1+n)])=bss ss ++ [r.take n]:=by simp only[bss,zL,zT,vS,L]
     rw[e];exact I.o
    rw[z,zn];simp;omega
   case measure=>
    show (s.extract (1+n) s.size).size<s.size;rw[z];omega
  have hd:decide (0<(s.size:Int))=false:=zo (by omega);have t:s.data.toList.length=0:=by have hl:s.data.toList.length=s.size:=rfl;rw[hl];omega
  have m:s.data.toList = []:=zG t;clear t;have HN:=zh m;clear m;have p:rawU s0.data.toList=some (bss ss):=by have:=HR.o;rw[HN.o] at this;exact this.done
  have d:=zh p;clear p;have q:Zj wr u4 ss:=Zn HO.o;have K:=zh q;clear q
  go_wp2_with fail
  refine (Qjp u4 ss _ K.o (by omega)).m ?_;rintro e w1⟨rfl,y⟩;have i:=zh y;clear y;cases hbo:Yf (bss ss) with
  | none=>
   go_wp2;go_ret2;have hu:Qs s0.data.toList=none:=by unfold Qs;rw[d.o,ZP,hbo];rfl
   exact⟨_,by rw[hu];rfl,HB.o.t (i.o.m HB.o.size),.inl ⟨hu,rfl⟩⟩
  | some l=>
   have hl:l=s0.data.toList:=by rw[<-Qtf d.o];exact Q7j hbo
   have ht:(⟨((some l).getD []).toArray⟩:O)=s0:=by rw[xz,hl]
   have hu:Qs s0.data.toList=some (bss ss):=by unfold Qs;rw[d.o,ZP,hbo];rfl
   have HU:=zh hu;rw[ht];clear hl ht hu hbo;go_wp2;go_ret2;exact⟨_,by rw[HU.o];rfl,HB.o.t (i.o.m HB.o.size),.inr ⟨ss,HU.o,Qn HO.o i.o⟩⟩
theorem Qcu{P:Program}{f:Array Oper}{e:List Oper}{o:Oper}{a:Act}{Q:Exit->Act->G->Prop}(m:o.guard=none)(x:Operand)(t:TypeId)(p:o.op=.call { callee:=.builtin .clear,args:=#[x],argTypes:=#[t] })(i:TypeInfo)(j:P.underlying t=some (.slice 5))(s:P.info? 5=some i)(y:i.zero=some (.int .u8 0))(base:Nat)(v:J)(l:Ud)(q:a.eval x=v)(g:Q3 w base v l)(h:∀ w' n,w.grownBy w' v.ownBlock->(∀ k,k<w.heap.size->(∃ C C' fz,w.heap[k]?=some (.cells C 5 fz)/\w'.heap[k]?=some (.cells C' 5 fz)/\C'.size=C.size)∨w'.heap[k]?=w.heap[k]?)->w'.heap.size=w.heap.size->wpList P f Q e (a.put o.dst n) w'):wpList P f Q (o :: e) a w:=by
 refine VM m λK hK=>?_
 have noop:(Builtin.clear_ #[t] o.type #[v]).run P w=.ok (.tuple #[]) w->o.wp P a w K Q:=λhr=>by unfold Oper.wp execOp;simp only[p,resolve,invoke,builtin,vx,vI,ZR,vD,zT,vS,q,hr];exact hK _ _ (h w _ ⟨rfl,rfl,rfl,zg _,λ_ _ _=>rfl⟩ (λ_ _=>.inr rfl) rfl)
 rcases g with⟨rfl,rfl⟩|⟨b,off,c,C,fz,rfl,r,hb,hg,hc,z,hf⟩
 .exact noop (by simp[Builtin.clear_,ZV j])
 by_cases h0:l.length=0
 .obtain rfl:l = []:=zG h0
  exact noop (by simp[Builtin.clear_,ZV j])
 obtain⟨cur',d,hs⟩:=Qa7 (P:=P) b off 5 fz ((Builtin.zeroCells #[Value.int .u8 0] l.length).toList) 0 C w hg (by simp[Builtin.zeroCells];omega) hf (λu hu=>by
  simp[Builtin.zeroCells] at hu
  obtain⟨k,hk,rfl⟩:=hu
  simp[Vv,Value.oneCell'])
 have hr:(Builtin.clear_ #[t] o.type #[.slice (some ⟨b,off,none⟩) l.length c]).run P w=.ok (.tuple #[]) (w.setRow b cur'):=by
  cases hl:l.length with
  | zero=>exact absurd hl h0
  | succ n=>
   rw[hl] at d;simp[Builtin.clear_,ZV j,zeroValue,typeInfo,s,y,Value.cells,d]
 unfold Oper.wp execOp;simp only[p,resolve,invoke,builtin,vx,vI,ZR,vD,zT,vS,q,hr];refine hK _ _ (h _ _ (Qho w b cur') (λk hk=>?_) (by simp));by_cases hkb:k=b
 .subst hkb
  exact .inl ⟨C,cur',fz,hg,xV w k _ _ _ _ hg,hs⟩
 exact .inr (VY w b k cur' hkb)
theorem Yn.grownAway{w':G}{base a:Nat}{v u:J}{ls:Uc}(h:Yn w base v ls)(n:w.grownBy w' u.ownBlock)(o:∀ k,u.ownBlock=some k->k<base)(m:a<=base):Yn w' a v ls:=by
 obtain⟨vs,d,i⟩:=h;have hk:∀ k,base<=k->k<w.heap.size->w'.heap[k]?=w.heap[k]?:=λk h1 h2=>n.block k h2 (λe=>by have:=o k e.symm;omega)
 refine⟨vs,?_,λj x l hx hl=>?_⟩
 .refine⟨d.1,?_⟩
  rcases d.2 with h2|⟨g,cap,cur,hv,f,hh,r⟩
  .exact .inl h2
  exact .inr ⟨g,cap,cur,hv,zi m f,(hk g f (Qb hh)).t hh,r⟩
 rcases i j x l hx hl with h1|⟨b,off,c,C,fz,h1,h0,h2,h3,h4⟩
 .exact .inl h1
 exact .inr ⟨b,off,c,C,fz,h1,h0,zi m h2,(hk b h2 (Qb h3)).t h3,h4⟩
theorem Qsn(v:J)(data:Ud)(w:G)(h:Q7 w v data)(a:data.length<=1099511627776):Calls prog 114 #[v] w (Qw5 data w):=by
 have HH:=zh h;clear h
 go_enter func114,ntmps114
 go_wp2_with fail
 refine (Qeb v data _ HH.o a).m ?_;rintro e w1⟨v1,rfl,hb,hr⟩;have HR:=zh hr;clear hr;go_wp2;go_ret2;exact⟨_,rfl,hb,HR.o⟩
theorem Qxf(v:J)(ls:Uc)(w:G)(h:Qdb w v ls)(a:ls.length<=1099511627776):Calls prog 113 #[v] w (Za0 ls w):=by
 have HH:=zh h;clear h
 go_enter func113,ntmps113
 go_wp2_with fail
 refine (Qjv v ls _ HH.o a).m ?_;rintro e w1⟨v1,rfl,hb,hr⟩;have HR:=zh hr;clear hr;go_wp2;go_ret;exact⟨_,rfl,hb,HR.o⟩
def Zdl(ls:Uc)(w:G)(e:Ua)(w':G):Prop:=
 e=.returned (.tuple #[.string ⟨((Yf ls).getD []).toArray⟩,.bool (!(Yf ls).isSome)])/\Bz w w'
theorem Qy5(v:J)(ss:List O)(w:G)(h:Zj w v ss)(r:ss.length<=1048576):Calls prog 56 #[v] w (Zdl (bss ss) w):=by
 have HH:=zh h;clear h
 go_enter func56,ntmps56
 go_wp2_with fail
 refine (Qgv v ss _ HH.o r).m ?_;rintro e w1⟨v1,rfl,i,d⟩;obtain⟨b,p⟩:=zh2 d i;clear d i
 go_wp2_with fail
 refine (Qxf v1 (bss ss) _ p.o.at (by simp[bss];omega)).m ?_;rintro e w2⟨v2,rfl,f,hr⟩;have m:=zh f;clear f;have g:Bz w w2:=b.o.t (m.o.m b.o.size);rcases hr with⟨hu,rfl⟩|⟨l,hu,k,a,n,c,rfl⟩
 .have hq:=λw=>vV (P:=prog) w 147 5 none 0 0 0 0 underlying147
  have HU:=zh hu;have q:=Qdq (w:=w2) (v:=.slice none 0 0) (l:=[]) ⟨none,0,rfl,zg _,λj x hx=>by simp at hx⟩;clear hu;go_wp2;go_ret2;refine⟨?_,g⟩;rw[HU.o];rfl
 have hq:=λw=>vV (P:=prog) w 147 5 (some a) n c 0 0 underlying147
 have HU:=zh hu;have q:=Qdq k.at;clear hu k;go_wp2;go_ret2;refine⟨?_,g⟩;rw[HU.o];rfl
def Zad(data:Ud)(w:G)(e:Ua)(w':G):Prop:=
 ∃ v ss,e=.returned (.tuple #[v,.bool (Qs data).isSome])/\Qq w' w.heap.size v ss/\bss ss=(Qs data).getD []/\Bz w w'
def Qqk(l:Ud):O:=⟨l.toArray⟩
theorem Q9s(ls:Uc):bss (ls.map Qqk)=ls:=by simp[bss,Qqk,Function.comp_def]
theorem Zbk{a b:List O}(h:bss a=bss b):a=b:=by
 have hi:∀ x y:O,x.data.toList=y.data.toList->x=y:=λx y h=>VP h
 induction a generalizing b with
 | nil=>cases b with
  | nil=>rfl
  | cons y b=>simp[bss] at h
 | cons x a ih=>cases b with
  | nil=>simp[bss] at h
  | cons y b=>
   simp only[bss,zT,List.cons.injEq] at h;rw[hi x y h.1,ih h.2]
theorem Qtp(s:O)(w:G)(hn:s.size<=1048576):Calls prog 58 #[.string s] w (Zad s.data.toList w):=by
 obtain⟨i0,hi,ae,aj,ak⟩:=ZZ Qgn;obtain⟨j0,hj,ab,ac,ad⟩:=ZZ Qb3
 go_enter func58,ntmps58
 go_wp2_with (first|refine Qcs rfl 9 147 5 _ rfl underlying9 underlying147 underlying5 rfl s rfl ?_;intro u w1 hu D aa Z;obtain⟨b1,c1,rfl⟩:=Z;obtain⟨HU,r⟩:=zh2 hu D;clear hu D aa)
 have ag:s.data.toList.length=s.size:=rfl;refine (Qsn _ s.data.toList _ HU.o.at (by omega)).m ?_;rintro e w2⟨v2,rfl,E,hr⟩;obtain⟨t,HR⟩:=zh2 E hr;clear E hr;have P:b1<w1.heap.size:=by
  rcases HU.o with⟨h1,_⟩|⟨b,off,c,C,fz,h1,_,_,h2,_⟩
  .cases h1
  simp only[ZN,ZM,zb2] at h1;obtain⟨⟨rfl,_⟩,_⟩:=h1;exact Qb h2
 have A:w.heap.size<=b1:=by
  rcases HU.o with⟨h1,_⟩|⟨b,off,c,C,fz,h1,_,h3,h2,_⟩
  .cases h1
  simp only[ZN,ZM,zb2] at h1;obtain⟨⟨rfl,_⟩,_⟩:=h1;exact h3
 obtain⟨ls,m,h⟩:∃ ls,Yn w2 w1.heap.size v2 ls/\(Qs s.data.toList).getD []=ls:=by
  rcases HR.o with⟨h1,rfl⟩|⟨ls,h1,ho⟩
  .exact⟨[],⟨[],zv _ _ _ _,by simp⟩,by rw[h1];rfl⟩
  exact⟨ls,ho,by rw[h1];rfl⟩
 obtain⟨a2,c2,rfl⟩:∃ a c,v2=.slice a ls.length c:=by obtain⟨vs,R,_⟩:=m;obtain⟨a,c,h1,_⟩:=Zn R;exact⟨a,c,h1⟩
 have ai:ls.length<=4:=by
  rcases HR.o with⟨h1,_⟩|⟨ls',h1,_⟩
  .rw[h1] at h;subst h;simp
  rw[h1] at h;obtain rfl:ls'=ls:=h;unfold Qs at h1;cases hq:rawU s.data.toList with
  | none=>rw[hq] at h1;cases h1
  | some q=>
   rw[hq,ZP] at h1
   split at h1
   .rename_i hb
    cases h1;unfold Yf at hb
    split at hb
    .cases hb
    omega
   cases h1
 obtain⟨U,V⟩:=zh2 h m;clear h m
 go_wp2_with (first|refine Qcu rfl _ 147 rfl i0 underlying147 hi ae w.heap.size _ s.data.toList rfl (HU.o.j t.o) ?_;intro w3 n I S al;have B:=zh I;clear I S)
 have d:Yn w3 w.heap.size (.slice a2 ls.length c2) ls:=V.o.grownAway B.o (λk hk=>by cases hk;exact P) r.o.size;have F:Bz w w3:=(r.o.t (t.o.m r.o.size)).grown B.o (zi r.o.size t.o.size) (λk hk=>by cases hk;exact A);obtain⟨vs,N,⟨a',c',M,_,hc⟩,z⟩:=d.at;simp only[ZN] at M;obtain⟨rfl,_,rfl⟩:=M;obtain⟨x,HC,HA,X⟩:=zh4 F hc z N;clear d F hc z N
 go_loopw [7,20] (λv i wr=>∃ k:Nat,k<=ls.length/\i=.int .i64 k/\Qq wr w3.heap.size v ((ls.take k).map Qqk)/\Bz w3 wr) (λ_ i _=>ls.length-(intOf i).toNat)
 case atStart=>exact⟨0,by omega,rfl,zv _ _ _ _,zu _ _⟩
 case round=>
  obtain⟨k,hk,rfl,d,f⟩:=hrel;by_cases hlt:k<ls.length
  .obtain⟨l,hl⟩:∃ s,ls[k]?=some s:=⟨_,ze hlt⟩
   obtain⟨u,hu⟩:∃ s,vs[k]?=some s:=⟨_,ze (by rw[X.o];exact hlt)⟩
   obtain⟨b,off,rfl,g⟩:=HC.o k u hu;have ah:=Qdq ((HA.o k u l hu hl).j f);have H:=HA.o k u l hu hl;have af:wr.cell? ⟨b,off+k,none⟩=some u:=(f.cell (p:=⟨b,off+k,none⟩) (Qj g)).t g;obtain⟨au,cu,rfl⟩:∃ a c,u=.slice a l.length c:=by obtain⟨a,c,h1,_,_⟩:=H;exact⟨a,c,h1⟩
   unfold Qq at d;obtain⟨HO,y,HK⟩:=zh3 d f hl;clear hu g H f d hl
   go_wp2_with (first|at_builtin;refine Yo rfl _ _ 22 rfl w3.heap.size 9 j0 (.string ⟨#[]⟩) 16 underlying22 hj ab ac ad rfl (by decide) _ _ _ rfl HO.o _ rfl rfl (by simp;omega) y.o.size ?_;intro v5 w5 L K Q;obtain⟨W,T⟩:=zh2 L K;clear L K Q)
   go_roundw
   case rel=>
    refine⟨k+1,by omega,by go_num,?_,y.o.grown T.o y.o.size (λj hj=>(HO.o.lt j hj).1)⟩;have e:(ls.take (k+1)).map Qqk=(ls.take k).map Qqk ++ [Qqk l]:=by rw[zY,HK.o];simp
    rw[e];unfold Qq;rw[zn,zL];simpa [Qqk,ZB hk] using W.o
   case measure=>simp[intOf];omega
  have ht:ls.take k=ls:=zk (by omega);rw[ht] at d;go_wp2;go_ret2;exact⟨_,_,rfl,Zg d (by have:=x.o.size;exact this),by rw[Q9s,U.o],x.o.t (f.m x.o.size)⟩
theorem Zbn(ss:List O):(bss ss).length=ss.length:=by simp[bss]
theorem Qvv(v:J)(ss:List O)(d:O)(w:G)(h:Zj w v ss):Calls prog 16 #[v,.string d] w λe w'=>e=.returned (.bool true)/\Bz w w':=by
 have HH:=zh h;clear h
 go_enter func16,ntmps16
 go_wp2_with fail
 refine (Qmj v ss _ HH.o).m ?_;rintro e w0⟨rfl,rfl⟩;cases hf:fewB ss with
 | false=>
  go_wp2;go_ret;exact⟨rfl,zu _ _⟩
 | true=>
  obtain⟨hl,_⟩:=Qoj hf;clear hf;by_cases hd:1048576<d.size
  .have C:decide ((1048576:Int)<(d.size:Int))=true:=zF (by omega)
   go_wp2;go_ret;exact⟨rfl,zu _ _⟩
  have C:decide ((1048576:Int)<(d.size:Int))=false:=zo (by omega)
  go_wp2_with fail
  refine (Qy5 v ss _ HH.o (by omega)).m ?_;rintro e w1⟨rfl,l⟩;have a:=zh l;clear l
  go_wp2_with fail
  refine (Qjp v ss _ (HH.o.j a.o) (by omega)).m ?_;rintro e w2⟨rfl,m⟩;have g:=zh (a.o.t (m.m a.o.size));clear m
  go_wp2_with fail
  refine (Qtp d _ (by omega)).m ?_;rintro e w3⟨v3,s3,rfl,p,t,n⟩;obtain⟨i,y,A⟩:=zh3 (g.o.t (n.m g.o.size)) p.at t;clear n p t
  go_wp2_with fail
  refine (Qec d _ (by omega)).m ?_;rintro e w4⟨v4,rfl,b,s⟩;obtain⟨k,u⟩:=zh2 (i.o.t (b.m i.o.size)) b;obtain⟨s4,r,c⟩:∃ s4,Zj w4 v4 s4/\bss s4=(Qs d.data.toList).getD []:=by
   rcases s with⟨h1,rfl⟩|⟨s4,h1,ho⟩
   .exact⟨[],⟨none,0,rfl,zg _,λj x hx=>by simp at hx⟩,by rw[h1];rfl⟩
   exact⟨s4,ho.at,by rw[h1];rfl⟩
  have D:s3=s4:=Zbk (by rw[A.o,c]);subst D;have f:s3.length<=1048576:=by
   rw[<-Zbn,c];cases hu:Qs d.data.toList with
   | none=>simp
   | some q=>
    unfold Qs at hu;cases hq:rawU d.data.toList with
    | none=>rw[hq] at hu;cases hu
    | some q'=>
     rw[hq,ZP] at hu
     split at hu
     .rename_i hb
      cases hu;unfold Yf at hb
      split at hb
      .cases hb
      simp only[xz];omega
     cases hu
  have z:=zh r;clear b s r c
  go_wp2_with fail
  refine (Qdl v3 v4 s3 s3 _ (y.o.j u.o) z.o f).m ?_;rintro e w5⟨rfl,B⟩;obtain⟨x,hx⟩:=zzx (Yf (bss ss))
  rw[<-hx];clear hx;go_wp2;go_ret;exact⟨Yi (by cases x <;> cases Qs d.data.toList <;> simp),k.o.t (B.m k.o.size)⟩
def hexD(n:Nat):Ub:=if n<10 then UInt8.ofNat (48+n) else UInt8.ofNat (87+n)
def Qag(l:Ud):Ud:=l.flatMap λc=>[hexD (c.toNat / 16),hexD (c.toNat%16)]
theorem Qq3(c:Ub)(l:Ud):Qag (c :: l)=hexD (c.toNat / 16) :: hexD (c.toNat%16) :: Qag l:=rfl
theorem Qbc(l:Ud):(Qag l).length=2*l.length:=by
 induction l with
 | nil=>rfl
 | cons c l ih=>rw[Qq3];simp only[zx,ih];omega
def Qbq:Ud:=[116,105,108,101,115,10]
def Qa9(n:Nat)(h:Hsh):Ud:=Qbq++dec n ++ [10]++Qag h.toList ++ [10]
def Jt(n:Nat)(h:Hsh)(key:Ud):Ud:=Qa9 n h++Qag (hash (key++0 :: Qa9 n h)).toList ++ [10]
def Qd3(c:Ub):Y Nat:=if 48<=c.toNat/\c.toNat<=57 then some (c.toNat-48) else if 97<=c.toNat/\c.toNat<=102 then some (c.toNat-87) else none
def Jx(c:Ub):Y Nat:=if 48<=c.toNat/\c.toNat<=57 then some (c.toNat-48) else if 97<=c.toNat/\c.toNat<=102 then some (c.toNat-87) else if 65<=c.toNat/\c.toNat<=70 then some (c.toNat-55) else none
def Qay(d:Ub->Y Nat):Ud->Y Ud
 | a :: b :: r=>match d a,d b with
  | some x,some y=>(Qay d r).map (UInt8.ofNat (16*x+y) :: ·)
  | _,_=>none
 | _=>some []
theorem Zdf(n:Nat)(h:n<16):Qd3 (hexD n)=some n:=by
 have:∀ m:Fin 16,Qd3 (hexD m.1)=some m.1:=by decide
 exact this ⟨n,h⟩
theorem Zdy(n:Nat)(h:n<16):Jx (hexD n)=some n:=by
 have:∀ m:Fin 16,Jx (hexD m.1)=some m.1:=by decide
 exact this ⟨n,h⟩
theorem Q5a(n:Nat)(h:n<16):hexD n≠10:=by
 have:∀ m:Fin 16,hexD m.1≠10:=by decide
 exact this ⟨n,h⟩
theorem Qh2(d:Ub->Y Nat)(a:∀ n,n<16->d (hexD n)=some n):∀ l:Ud,Qay d (Qag l)=some l
 | []=>rfl
 | c :: l=>by
  have hc:=c.toNat_lt
  rw[Qq3]
  unfold Qay
  rw[a _ (by omega),a _ (by omega),Qh2 d a l]
  have:UInt8.ofNat (16*(c.toNat / 16)+c.toNat%16)=c:=by rw[xN];simp
  simp[this]
theorem Q0d(l:Ud):∀ c∈Qag l,c≠10:=by
 intro c hc;unfold Qag at hc;rw[VR] at hc;obtain⟨x,_,hx⟩:=hc;have hb:=x.toNat_lt;simp only[ZH,List.not_mem_nil,or_false] at hx;rcases hx with rfl|rfl
 .exact Q5a _ (by omega)
 exact Q5a _ (by omega)
theorem Zan(n:Nat):∀ c∈dec n,c≠10:=by
 intro c hc e
 have:=Qj3 n c hc
 subst e;unfold Qa3 at this
 revert this
 decide
theorem Qrq:∀ (a t:Ud),(∀ c∈a,c≠10)->Lib.index (a++10 :: t) [10]=a.length
 | [],t,_=>by simp[Lib.index,List.isPrefixOf]
 | c :: a,t,h=>by
  have ih:=Qrq a t (λc hc=>h c (by simp[hc]))
  have b:(10:Ub)≠c:=λe=>h c (by simp) e.symm
  simp only[vM,Lib.index]
  rw[Qd7 b,ih]
  have:((a.length:Int) == -1)=false:=by rw[zl];omega
  simp[this]
def linesOf(s:Ud):Uc:=Lib.splitK [10] 0 (Lib.count s [10]) s
theorem Qfc(a t:Ud)(h:∀ c∈a,c≠10):linesOf (a++10 :: t)=a :: linesOf t:=by
 have hi:=Qrq a t h;unfold linesOf;have hd:(a++10 :: t).drop (a.length + [(10:Ub)].length)=t:=by rw[show a++10 :: t=(a ++ [10])++t by simp,show a.length + [(10:Ub)].length=(a ++ [10]).length by simp,xw]
 rw[Lib.count_hit (by simp) hi,hd,zah,Lib.splitK,hi];rw[zw (by simp)];simp only[zO,VC];rw[hd];simp
theorem Qw4:linesOf [] = [[]]:=rfl
abbrev Qox:=Int×Hsh×Bool
def J2:Qox:=(0,Zb,false)
def Qb4(text key:Ud)(n:Int)(h:Hsh):Qox:=if Jt n.toNat h key=text then (n,h,true) else J2
def Qiu(text key:Ud):Uc->Qox
 | [_,l1,l2,_,_]=>if l2.length≠16 then J2 else match Qfl l1 with
  | none=>J2
  | some n=>if n<0 then J2 else match Qay Jx l2 with
   | none=>J2
   | some b=>Qb4 text key n (Zi b)
 | _=>J2
def Zy(text key:Ud):Qox:=Qiu text key (linesOf text)
def Qdj(text key:Ud):Qox:=
 if (Za text Qbq).2=true then
  (if (Zh (Za text Qbq).1).2.2=true/\17<=(Zh (Za text Qbq).1).2.1.length then
   match Qay Qd3 (((Zh (Za text Qbq).1).2.1.drop 1).take 16) with
   | none=>J2
   | some b=>Qb4 text key (Zh (Za text Qbq).1).1 (Zi b)
     else J2)
 else J2
def Qrn(text key:Ud)(q:Qox):Prop:=(q.2.2=true->0<=q.1/\q.1<9223372036854775808/\Jt q.1.toNat q.2.1 key=text)/\(q.2.2=false->q=J2)
theorem Qcp(text key:Ud):Qrn text key J2:=⟨λh=>by simp[J2] at h,λ_=>rfl⟩
theorem Qjl(text key:Ud)(n:Int)(h:Hsh)(a:0<=n)(b:n<9223372036854775808):Qrn text key (Qb4 text key n h):=by
 unfold Qb4
 split
 .rename_i e;exact⟨λ_=>⟨a,b,e⟩,λh=>by simp at h⟩
 exact Qcp _ _
theorem Qbl(text key:Ud):Qrn text key (Zy text key):=by
 unfold Zy;generalize linesOf text=L;unfold Qiu
 split
 .split
  .exact Qcp _ _
  split
  .exact Qcp _ _
  rename_i n hn
  split
  .exact Qcp _ _
  split
  .exact Qcp _ _
  exact Qjl _ _ _ _ (by omega) (Qn4 hn)
 exact Qcp _ _
theorem Qqt(text key:Ud):Qrn text key (Qdj text key):=by
 unfold Qdj
 split
 .split
  .split
   .exact Qcp _ _
   have:=Qga (Za text Qbq).1
   exact Qjl _ _ _ _ (by omega) (by omega)
  exact Qcp _ _
 exact Qcp _ _
theorem Qfh(h:Hsh):Zi h.toList=h:=by
 apply Vector.ext;intro i hi
 have:i=0∨i=1∨i=2∨i=3∨i=4∨i=5∨i=6∨i=7:=by omega
 rcases this with rfl|rfl|rfl|rfl|rfl|rfl|rfl|rfl <;> simp[Zi,List.getD]
theorem Qdh(h:Hsh):h.toList.length=8:=by simp
theorem Qu2(n:Nat)(h:Hsh)(key:Ud):linesOf (Jt n h key) = [[116,105,108,101,115],dec n,Qag h.toList,Qag (hash (key++0 :: Qa9 n h)).toList,[]]:=by
 unfold Jt;generalize (hash (key++0 :: Qa9 n h))=m;have e:Qa9 n h++Qag m.toList ++ [10] = [116,105,108,101,115]++10 :: (dec n++10 :: (Qag h.toList++10 :: (Qag m.toList++10 :: []))):=by simp[Qa9,Qbq]
 rw[e,Qfc _ _ (by decide),Qfc _ _ (Zan n),Qfc _ _ (Q0d _),Qfc _ _ (Q0d _),Qw4]
theorem Qci(n:Nat)(h:Hsh)(key:Ud)(b:n<9223372036854775808):Zy (Jt n h key) key=((n:Int),h,true):=by
 unfold Zy;rw[Qu2];have a:(Qag h.toList).length=16:=by rw[Qbc,Qdh]
 unfold Qiu;simp only[a,Qkm n b,Qh2 Jx Zdy,Qfh];rw[zw (by simp),zw (by omega)];unfold Qb4;rw[zD (by simp)]
theorem Qkg(n:Nat)(h:Hsh)(key:Ud)(e:n<9223372036854775808):Qdj (Jt n h key) key=((n:Int),h,true):=by
 obtain⟨t,ht⟩:∃ t,Jt n h key=Qbq++(dec n++10 :: (Qag h.toList++t)):=⟨10 :: (Qag (hash (key++0 :: Qa9 n h)).toList ++ [10]),by simp[Jt,Qa9]⟩
 have hb:=Qbf Qbq (dec n++10 :: (Qag h.toList++t));have b:=Qfe n (10 :: (Qag h.toList++t)) e (by intro c hc;simp at hc;subst hc;unfold Qa3;decide);have a:(Qag h.toList).length=16:=by rw[Qbc,Qdh]
 have d:((10 :: (Qag h.toList++t)).drop 1).take 16=Qag h.toList:=by rw[Xr,Vm,<-a,X0]
 have hc:Qdj (Qbq++(dec n++10 :: (Qag h.toList++t))) key=Qb4 (Qbq++(dec n++10 :: (Qag h.toList++t))) key n h:=by unfold Qdj;rw[hb];simp only[zac,b,d,Qh2 Qd3 Zdf,Qfh];rw[zD ⟨trivial,by simp[a]⟩]
 rw[ht,hc,<-ht];unfold Qb4;rw[zD (by simp)]
theorem Qx4{text key:Ud}{q a:Qox}(h:Qrn text key q)(d:Qrn text key a)(c:∀ (n:Nat) (r:Hsh),n<9223372036854775808->Jt n r key=text->q=((n:Int),r,true))(e:∀ (n:Nat) (r:Hsh),n<9223372036854775808->Jt n r key=text->a=((n:Int),r,true)):q=a:=by
 obtain⟨n,r,b⟩:=q;obtain⟨n',r',b'⟩:=a;cases b
 .cases b'
  .exact (h.2 rfl).t (d.2 rfl).symm
  obtain⟨x,y,z⟩:=d.1 rfl
  have:=c n'.toNat r' (by simp only at y;omega) z
  simp at this
 obtain⟨x,y,z⟩:=h.1 rfl;exact (c n.toNat r (by simp only at y;omega) z).t (e n.toNat r (by simp only at y;omega) z).symm
theorem Qrs(text key:Ud):Zy text key=Qdj text key:=
 Qx4 (Qbl text key) (Qqt text key) (λn r hn e=>by rw[<-e];exact Qci n r key hn) (λn r hn e=>by rw[<-e];exact Qkg n r key hn)
abbrev bv(x:Ub):J:=.int .u8 x.toNat
def Qg8(w:G)(base:Nat)(v:J)(l:Ud):Prop:=w.ownsRow base 5 1 v l.length (l.map bv)
theorem Qg8.bytes{w:G}{base:Nat}{v:J}{l:Ud}(h:Qg8 w base v l):Q7 w v l:=Zn h
theorem Q72(h:Hsh)(k:Nat)(a:k<8)(w:G):(Instr.index 143 (.agg (h8 h)) (.int .i64 k)).run prog w=.ok (bv (h.toList.getD k 0)) w:=by
 have hu:=underlying143;have hs:(sizeOf 5).run prog w=.ok 1 w:=by kernel_rfl
 have hg:(isAgg 5).run prog w=.ok false w:=by kernel_rfl
 have hx:(h8 h)[k]?=some (bv (h.toList.getD k 0)):=by simp[h8,a,List.getD]
 simp[Instr.index,asIntOf,ZV hu,Go.part,hs,hg,a,hx];simp[h8]
def kHex:O:=⟨#[48,49,50,51,52,53,54,55,56,57,97,98,99,100,101,102]⟩
theorem Q89(n:Nat)(h:n<16):kHex[n]?=some (hexD n):=by
 have:∀ m:Fin 16,kHex[m.1]?=some (hexD m.1):=by decide
 exact this ⟨n,h⟩
theorem Qud(n:Nat)(h:n<16)(w:G):(Instr.index 9 (.string kHex) (.int .u8 n)).run prog w=.ok (bv (hexD n)) w:=by have hu:=underlying9;have hx:=Q89 n h;simp[Instr.index,asIntOf,ZV hu,hx]
theorem Zby(x:Ub)(w:G):(binOp .shr 5 (bv x) (.int .u64 4)).run prog w=.ok (.int .u8 ((x.toNat / 16:Nat):Int)) w:=by go_simp
theorem Zcl(x:Ub)(w:G):(binOp .and 5 (bv x) (.int .u8 15)).run prog w=.ok (.int .u8 ((x.toNat%16:Nat):Int)) w:=by
 go_simp;have h:∀ n:Fin 256,bits BinOp.and IntKind.u8 ((n.1:Nat):Int) 15=(n.1:Int)%16:=by decide +kernel
 exact h ⟨x.toNat,x.toNat_lt⟩
theorem build2(p q:Ub)(w:G):(Instr.buildSlice 147 2 #[(0,bv p),(1,bv q)]).run prog w=.ok (.slice (some ⟨w.heap.size,0,none⟩) 2 2) (w.alloc (.cells #[bv p,bv q] 5)):=by
 kernel_rfl
variable {P:Program} {o:Oper} {K:Act->G->Prop} {Q:Exit->Act->G->Prop} {a:Act}
theorem Qzl(b:J)(c:(execOp a.eval o).run P w=.ok (.value b) w)(h:K (a.put o.dst b) w):o.wp P a w K Q:=by unfold Oper.wp;rw[c];exact h
theorem Zbw(b:J)(w':G)(c:(execOp a.eval o).run P w=.ok (.value b) w')(h:K (a.put o.dst b) w'):o.wp P a w K Q:=by unfold Oper.wp;rw[c];exact h
structure Q2f(base:Array J)(v:J)(x p q:Ub)(l:Ud)(B:Nat)(W:G)(b:Nat->Bool)(a:Act)(w:G):Prop where
 d:a.defers = []
 s:a.tmps.size=22
 t5:a.tmps.getD 5 undef=bv x
 keep:∀ k,k≠3->(k<10∨18<k)->a.tmps.getD k undef=base.getD k undef
 t3:b 9=false->a.tmps.getD 3 undef=v
 r0:b 0=true->a.tmps.getD 10 undef=v
 r1:b 1=true->a.tmps.getD 11 undef=bv x
 r2:b 2=true->a.tmps.getD 12 undef=.int .u8 ((x.toNat / 16:Nat):Int)
 r3:b 3=true->a.tmps.getD 13 undef=bv p
 r4:b 4=true->a.tmps.getD 14 undef=bv x
 r5:b 5=true->a.tmps.getD 15 undef=.int .u8 ((x.toNat%16:Nat):Int)
 r6:b 6=true->a.tmps.getD 16 undef=bv q
 r7:b 7=true->a.tmps.getD 17 undef=.slice (some ⟨W.heap.size,0,none⟩) 2 2
 w0:b 7=false->w=W
 w1:b 7=true->b 8=false->w=W.alloc (.cells #[bv p,bv q] 5)
 r8:b 8=true->Qg8 w B (a.tmps.getD 18 undef) (l ++ [p,q])/\W.grownBy w v.ownBlock
 e9:b 9=true->b 8=true/\a.tmps.getD 3 undef=a.tmps.getD 18 undef
 c8:b 8=true->b 7=true
 c80:b 8=true->b 0=true
theorem Zb0(s x:Operand)(t:TypeId)(g:o.op=.call { callee:=.builtin .append,args:=#[s,x],argTypes:=#[t,t] })(base:Nat)(i:TypeInfo)(m:P.underlying t=some (.slice 5))(f:P.info? 5=some i)(r:i.zero=some (.int .u8 0))(b:i.size=1)(d:i.bytes=1)(v:J)(l:Ud)(k:a.eval s=v)(c:Qg8 w base v l)(p q:Ub)(n:a.eval x=.slice (some ⟨w.heap.size,0,none⟩) 2 2)(y:l.length<=1099511627776)(e:base<=w.heap.size)(h:∀ v' w',Qg8 w' base v' (l ++ [p,q])->w.grownBy w' v.ownBlock->K (a.put o.dst v') w'):o.wp P a (w.alloc (.cells #[bv p,bv q] 5)) K Q:=by
 refine wp_append_own _ s x t g base _ i _ 1 1 m f r b d rfl (by decide) v _ _ k (World.ownsRow.alloc c _) ⟨w.heap.size,0,none⟩ 2 2 [bv p,bv q] n rfl ?_ (by simp[Value.oneCell']) (by unfold maxLen;omega) (by omega) (by simp;omega) λv' w' h2 h3 _=>?_
 .intro j u hj
  rw[ZX,V4,zW _ _ _ _ rfl];simpa using hj
 refine h v' w' ?_ (Qbn (xC w _ _) h3);unfold Qg8;simpa using h2
variable {base:Array J} {p q:Ub} {B:Nat} {W:G} {ops:Array Oper}
theorem Zcv(r:∀ b:Nat->Bool,∀ i∈Region.ready .any ops (bs b),i<10/\b i=false/\(i=2->b 1=true)/\(i=3->b 2=true)/\(i=5->b 4=true)/\(i=6->b 5=true)/\(i=7->b 3=true/\b 6=true)/\(i=8->b 0=true/\b 7=true)/\(i=9->b 8=true))(r0:∀ b:Nat->Bool,left b=0->Region.ready .any ops (bs b) = [])(r1:∀ (b:Nat->Bool) (f:Nat),f+1=left b->Region.ready .any ops (bs b)≠[])(E:∃ (o:Oper),ops[0]?=some o/\o.guard=none/\o.dst=some 10/\o.op=.move (.tmp 3))(F:∃ (o:Oper),ops[1]?=some o/\o.guard=none/\o.dst=some 11/\o.op=.move (.tmp 5))(o2:∃ (o:Oper) (ty:TypeId),ops[2]?=some o/\o.guard=none/\o.dst=some 12/\o.op=.binOp .shr 5 (.tmp 11) (.const (.int .u64 4)) ty)(H:∃ (o:Oper),ops[3]?=some o/\o.guard=none/\o.dst=some 13/\o.op=.index 9 (.const (.string kHex)) (.tmp 12))(I:∃ (o:Oper),ops[4]?=some o/\o.guard=none/\o.dst=some 14/\o.op=.move (.tmp 5))(K:∃ (o:Oper) (ty:TypeId),ops[5]?=some o/\o.guard=none/\o.dst=some 15/\o.op=.binOp .and 5 (.tmp 14) (.const (.int .u8 15)) ty)(M:∃ (o:Oper),ops[6]?=some o/\o.guard=none/\o.dst=some 16/\o.op=.index 9 (.const (.string kHex)) (.tmp 15))(N:∃ (o:Oper),ops[7]?=some o/\o.guard=none/\o.dst=some 17/\o.op=.buildSlice 147 2 #[(0,.tmp 13),(1,.tmp 16)])(P:∃ (o:Oper),ops[8]?=some o/\o.guard=none/\o.dst=some 18/\o.op=.call { callee:=.builtin .append,args:=#[.tmp 10,.tmp 17],argTypes:=#[147,147] })(R:∃ (o:Oper),ops[9]?=some o/\o.guard=none/\o.dst=some 3/\o.op=.assign (.tmp 18))(C:p=hexD (x.toNat / 16))(D:q=hexD (x.toNat%16))(m:Qg8 W B v l)(S:l.length<=1000)(z:B<=W.heap.size)(A:∀ a w,Q2f base v x p q l B W (λ_=>true) a w->Q .normal a w):∀ a w,Q2f base v x p q l B W (λ_=>false) a w->wpAny prog .any ops Q 10 (Array.replicate 10 false) a w:=by
 obtain⟨i0,n,t,u,y⟩:=ZZ Qgn;have T:=x.toNat_lt;intro a w h;refine Qom (λf L a w=>∃ b,L=bs b/\f=left b/\Q2f base v x p q l B W b a w) ?_ ?_ 10 _ a w ⟨λ_=>false,rfl,rfl,h⟩
 .rintro L a w⟨b,rfl,hf,h⟩
  refine⟨r0 b hf.symm,A a w ?_⟩;have hh:∀ c:Bool,(!c).toNat=0->c=true:=by intro c;cases c <;> simp
  unfold left at hf;have e:∀ k,k<10->b k=true:=by
   intro k hk
   have:k=0∨k=1∨k=2∨k=3∨k=4∨k=5∨k=6∨k=7∨k=8∨k=9:=by omega
   rcases this with rfl|rfl|rfl|rfl|rfl|rfl|rfl|rfl|rfl|rfl <;> exact hh _ (by omega)
  exact { d:=h.d,s:=h.s,t5:=h.t5,keep:=h.keep,t3:=λk=>absurd k (by decide),r0:=λ_=>h.r0 (e 0 (by omega)),r1:=λ_=>h.r1 (e 1 (by omega)),r2:=λ_=>h.r2 (e 2 (by omega)),r3:=λ_=>h.r3 (e 3 (by omega)),r4:=λ_=>h.r4 (e 4 (by omega)),r5:=λ_=>h.r5 (e 5 (by omega)),r6:=λ_=>h.r6 (e 6 (by omega)),r7:=λ_=>h.r7 (e 7 (by omega)),w0:=λk=>absurd k (by decide),w1:=λ_ k=>absurd k (by decide),r8:=λ_=>h.r8 (e 8 (by omega)),e9:=λ_=>⟨rfl,(h.e9 (e 9 (by omega))).2⟩,c8:=λ_=>rfl,c80:=λ_=>rfl }
 rintro f L a w⟨b,rfl,hf,h⟩;refine⟨r1 b f hf,λi hi=>?_⟩;obtain⟨j,g,d2,d3,d5,d6,d7,d8,d9⟩:=r b i hi;have hL:=Zay b i j;have hF:=Q0j b i j g f hf
 have:i=0∨i=1∨i=2∨i=3∨i=4∨i=5∨i=6∨i=7∨i=8∨i=9:=by omega
 rcases this with rfl|rfl|rfl|rfl|rfl|rfl|rfl|rfl|rfl|rfl
 .obtain⟨o,h1,h2,h3,h4⟩:=E
  have n9:b 9=false:=by rcases hh:b 9 with _|_;rfl;exact absurd (h.c80 (h.e9 hh).1) (by rw[g];decide)
  refine Qai h1 h2 (Xh _ h4 ⟨upd b 0,hL,hF,?_⟩);rw[h3,show a.eval (.tmp 3)=v from h.t3 n9];exact { d:=Ys.t h.d,s:=by rw[Jy];exact h.s,t5:=Qc h.t5 (by decide),keep:=λk h3 hk=>Qc (h.keep k h3 hk) (by omega),t3:=λe=>Qc (h.t3 e) (by decide),r0:=λ_=>Q9 (by rw[h.s];decide),r1:=λe=>Qc (h.r1 e) (by decide),r2:=λe=>Qc (h.r2 e) (by decide),r3:=λe=>Qc (h.r3 e) (by decide),r4:=λe=>Qc (h.r4 e) (by decide),r5:=λe=>Qc (h.r5 e) (by decide),r6:=λe=>Qc (h.r6 e) (by decide),r7:=λe=>Qc (h.r7 e) (by decide),w0:=h.w0,w1:=h.w1,c8:=h.c8,c80:=λ_=>rfl,r8:=λe=>(by rw[Qc rfl (by decide)];exact h.r8 e),e9:=λe=>⟨(h.e9 e).1,by rw[Qc rfl (by decide),Qc rfl (by decide)];exact (h.e9 e).2⟩ }
 .obtain⟨o,h1,h2,h3,h4⟩:=F
  refine Qai h1 h2 (Xh _ h4 ⟨upd b 1,hL,hF,?_⟩);rw[h3,show a.eval (.tmp 5)=bv x from h.t5];exact { d:=Ys.t h.d,s:=by rw[Jy];exact h.s,t5:=Qc h.t5 (by decide),keep:=λk h3 hk=>Qc (h.keep k h3 hk) (by omega),t3:=λe=>Qc (h.t3 e) (by decide),r0:=λe=>Qc (h.r0 e) (by decide),r1:=λ_=>Q9 (by rw[h.s];decide),r2:=λe=>Qc (h.r2 e) (by decide),r3:=λe=>Qc (h.r3 e) (by decide),r4:=λe=>Qc (h.r4 e) (by decide),r5:=λe=>Qc (h.r5 e) (by decide),r6:=λe=>Qc (h.r6 e) (by decide),r7:=λe=>Qc (h.r7 e) (by decide),w0:=h.w0,w1:=h.w1,c8:=h.c8,c80:=h.c80,r8:=λe=>(by rw[Qc rfl (by decide)];exact h.r8 e),e9:=λe=>⟨(h.e9 e).1,by rw[Qc rfl (by decide),Qc rfl (by decide)];exact (h.e9 e).2⟩ }
 .obtain⟨o,ty,h1,h2,h3,h4⟩:=o2
  have e1:a.eval (.tmp 11)=bv x:=h.r1 (d2 rfl);refine Qai h1 h2 (Qzl (.int .u8 ((x.toNat / 16:Nat):Int)) ?_ ⟨upd b 2,hL,hF,?_⟩)
  .unfold execOp
   rw[h4];have e2:a.eval (.const (.int .u64 4))=.int .u64 4:=rfl;have hv:=Zby x w;simp only[e1,e2,eqGuard_shr,vx,hv,ZR,vI]
  rw[h3];exact { d:=Ys.t h.d,s:=by rw[Jy];exact h.s,t5:=Qc h.t5 (by decide),keep:=λk h3 hk=>Qc (h.keep k h3 hk) (by omega),t3:=λe=>Qc (h.t3 e) (by decide),r0:=λe=>Qc (h.r0 e) (by decide),r1:=λe=>Qc (h.r1 e) (by decide),r2:=λ_=>Q9 (by rw[h.s];decide),r3:=λe=>Qc (h.r3 e) (by decide),r4:=λe=>Qc (h.r4 e) (by decide),r5:=λe=>Qc (h.r5 e) (by decide),r6:=λe=>Qc (h.r6 e) (by decide),r7:=λe=>Qc (h.r7 e) (by decide),w0:=h.w0,w1:=h.w1,c8:=h.c8,c80:=h.c80,r8:=λe=>(by rw[Qc rfl (by decide)];exact h.r8 e),e9:=λe=>⟨(h.e9 e).1,by rw[Qc rfl (by decide),Qc rfl (by decide)];exact (h.e9 e).2⟩ }
 .obtain⟨o,h1,h2,h3,h4⟩:=H
  have e1:a.eval (.tmp 12)=.int .u8 ((x.toNat / 16:Nat):Int):=h.r2 (d3 rfl);have hv:=Qud (x.toNat / 16) (by omega) w;rw[<-C] at hv;refine Qai h1 h2 (Qzl (bv p) ?_ ⟨upd b 3,hL,hF,?_⟩)
  .unfold execOp
   rw[h4];have e2:a.eval (.const (.string kHex))=.string kHex:=rfl;simp only[e1,e2,vx,hv,ZR,vI]
  rw[h3];exact { d:=Ys.t h.d,s:=by rw[Jy];exact h.s,t5:=Qc h.t5 (by decide),keep:=λk h3 hk=>Qc (h.keep k h3 hk) (by omega),t3:=λe=>Qc (h.t3 e) (by decide),r0:=λe=>Qc (h.r0 e) (by decide),r1:=λe=>Qc (h.r1 e) (by decide),r2:=λe=>Qc (h.r2 e) (by decide),r3:=λ_=>Q9 (by rw[h.s];decide),r4:=λe=>Qc (h.r4 e) (by decide),r5:=λe=>Qc (h.r5 e) (by decide),r6:=λe=>Qc (h.r6 e) (by decide),r7:=λe=>Qc (h.r7 e) (by decide),w0:=h.w0,w1:=h.w1,c8:=h.c8,c80:=h.c80,r8:=λe=>(by rw[Qc rfl (by decide)];exact h.r8 e),e9:=λe=>⟨(h.e9 e).1,by rw[Qc rfl (by decide),Qc rfl (by decide)];exact (h.e9 e).2⟩ }
 .obtain⟨o,h1,h2,h3,h4⟩:=I
  refine Qai h1 h2 (Xh _ h4 ⟨upd b 4,hL,hF,?_⟩);rw[h3,show a.eval (.tmp 5)=bv x from h.t5];exact { d:=Ys.t h.d,s:=by rw[Jy];exact h.s,t5:=Qc h.t5 (by decide),keep:=λk h3 hk=>Qc (h.keep k h3 hk) (by omega),t3:=λe=>Qc (h.t3 e) (by decide),r0:=λe=>Qc (h.r0 e) (by decide),r1:=λe=>Qc (h.r1 e) (by decide),r2:=λe=>Qc (h.r2 e) (by decide),r3:=λe=>Qc (h.r3 e) (by decide),r4:=λ_=>Q9 (by rw[h.s];decide),r5:=λe=>Qc (h.r5 e) (by decide),r6:=λe=>Qc (h.r6 e) (by decide),r7:=λe=>Qc (h.r7 e) (by decide),w0:=h.w0,w1:=h.w1,c8:=h.c8,c80:=h.c80,r8:=λe=>(by rw[Qc rfl (by decide)];exact h.r8 e),e9:=λe=>⟨(h.e9 e).1,by rw[Qc rfl (by decide),Qc rfl (by decide)];exact (h.e9 e).2⟩ }
 .obtain⟨o,ty,h1,h2,h3,h4⟩:=K
  have e1:a.eval (.tmp 14)=bv x:=h.r4 (d5 rfl);have hv:=Zcl x w;refine Qai h1 h2 (Qzl (.int .u8 ((x.toNat%16:Nat):Int)) ?_ ⟨upd b 5,hL,hF,?_⟩)
  .unfold execOp
   rw[h4];have e2:a.eval (.const (.int .u8 15))=.int .u8 15:=rfl;simp only[e1,e2,eqGuard_and,vx,hv,ZR,vI]
  rw[h3];exact { d:=Ys.t h.d,s:=by rw[Jy];exact h.s,t5:=Qc h.t5 (by decide),keep:=λk h3 hk=>Qc (h.keep k h3 hk) (by omega),t3:=λe=>Qc (h.t3 e) (by decide),r0:=λe=>Qc (h.r0 e) (by decide),r1:=λe=>Qc (h.r1 e) (by decide),r2:=λe=>Qc (h.r2 e) (by decide),r3:=λe=>Qc (h.r3 e) (by decide),r4:=λe=>Qc (h.r4 e) (by decide),r5:=λ_=>Q9 (by rw[h.s];decide),r6:=λe=>Qc (h.r6 e) (by decide),r7:=λe=>Qc (h.r7 e) (by decide),w0:=h.w0,w1:=h.w1,c8:=h.c8,c80:=h.c80,r8:=λe=>(by rw[Qc rfl (by decide)];exact h.r8 e),e9:=λe=>⟨(h.e9 e).1,by rw[Qc rfl (by decide),Qc rfl (by decide)];exact (h.e9 e).2⟩ }
 .obtain⟨o,h1,h2,h3,h4⟩:=M
  have e1:a.eval (.tmp 15)=.int .u8 ((x.toNat%16:Nat):Int):=h.r5 (d6 rfl);have hv:=Qud (x.toNat%16) (by omega) w;rw[<-D] at hv;refine Qai h1 h2 (Qzl (bv q) ?_ ⟨upd b 6,hL,hF,?_⟩)
  .unfold execOp
   rw[h4];have e2:a.eval (.const (.string kHex))=.string kHex:=rfl;simp only[e1,e2,vx,hv,ZR,vI]
  rw[h3];exact { d:=Ys.t h.d,s:=by rw[Jy];exact h.s,t5:=Qc h.t5 (by decide),keep:=λk h3 hk=>Qc (h.keep k h3 hk) (by omega),t3:=λe=>Qc (h.t3 e) (by decide),r0:=λe=>Qc (h.r0 e) (by decide),r1:=λe=>Qc (h.r1 e) (by decide),r2:=λe=>Qc (h.r2 e) (by decide),r3:=λe=>Qc (h.r3 e) (by decide),r4:=λe=>Qc (h.r4 e) (by decide),r5:=λe=>Qc (h.r5 e) (by decide),r6:=λ_=>Q9 (by rw[h.s];decide),r7:=λe=>Qc (h.r7 e) (by decide),w0:=h.w0,w1:=h.w1,c8:=h.c8,c80:=h.c80,r8:=λe=>(by rw[Qc rfl (by decide)];exact h.r8 e),e9:=λe=>⟨(h.e9 e).1,by rw[Qc rfl (by decide),Qc rfl (by decide)];exact (h.e9 e).2⟩ }
 .obtain⟨o,h1,h2,h3,h4⟩:=N
  have e1:a.eval (.tmp 13)=bv p:=h.r3 (d7 rfl).1;have e2:a.eval (.tmp 16)=bv q:=h.r6 (d7 rfl).2;obtain rfl:=h.w0 g;refine Qai h1 h2 (Zbw (.slice (some ⟨w.heap.size,0,none⟩) 2 2) (w.alloc (.cells #[bv p,bv q] 5)) ?_ ⟨upd b 7,hL,hF,?_⟩)
  .unfold execOp
   rw[h4];have hv:=build2 p q w;simp only[vD,zT,vS,e1,e2];simp[hv]
  rw[h3];exact { d:=Ys.t h.d,s:=by rw[Jy];exact h.s,t5:=Qc h.t5 (by decide),keep:=λk h3 hk=>Qc (h.keep k h3 hk) (by omega),t3:=λe=>Qc (h.t3 e) (by decide),r0:=λe=>Qc (h.r0 e) (by decide),r1:=λe=>Qc (h.r1 e) (by decide),r2:=λe=>Qc (h.r2 e) (by decide),r3:=λe=>Qc (h.r3 e) (by decide),r4:=λe=>Qc (h.r4 e) (by decide),r5:=λe=>Qc (h.r5 e) (by decide),r6:=λe=>Qc (h.r6 e) (by decide),r7:=λ_=>Q9 (by rw[h.s];decide),w0:=λe=>absurd (show true=false from e) (by decide),w1:=λ_ _=>rfl,c8:=λe=>rfl,c80:=h.c80,r8:=λe=>absurd (h.c8 e) (by rw[g];decide),e9:=λe=>absurd (h.c8 (h.e9 e).1) (by rw[g];decide) }
 .obtain⟨o,h1,h2,h3,h4⟩:=P
  obtain rfl:=h.w1 (d8 rfl).2 g;refine Qai h1 h2 (Zb0 _ _ _ h4 B i0 underlying147 n t u y v l (h.r0 (d8 rfl).1) m p q (h.r7 (d8 rfl).2) (by omega) z λv' w' hr hg=>⟨upd b 8,hL,hF,?_⟩);rw[h3];exact { d:=Ys.t h.d,s:=by rw[Jy];exact h.s,t5:=Qc h.t5 (by decide),keep:=λk h3 hk=>Qc (h.keep k h3 hk) (by omega),t3:=λe=>Qc (h.t3 e) (by decide),r0:=λe=>Qc (h.r0 e) (by decide),r1:=λe=>Qc (h.r1 e) (by decide),r2:=λe=>Qc (h.r2 e) (by decide),r3:=λe=>Qc (h.r3 e) (by decide),r4:=λe=>Qc (h.r4 e) (by decide),r5:=λe=>Qc (h.r5 e) (by decide),r6:=λe=>Qc (h.r6 e) (by decide),r7:=λe=>Qc (h.r7 e) (by decide),w0:=λe=>absurd (show b 7=false from e) (by rw[(d8 rfl).2];decide),w1:=λ_ e=>absurd (show true=false from e) (by decide),c8:=λ_=>(d8 rfl).2,c80:=λ_=>(d8 rfl).1,r8:=λ_=>(by rw[Q9 (by rw[h.s];decide)];exact⟨hr,hg⟩),e9:=λe=>absurd (h.e9 e).1 (by rw[g];decide) }
 obtain⟨o,h1,h2,h3,h4⟩:=R;refine Qai h1 h2 (BigFrame.wp_assign _ h4 ⟨upd b 9,hL,hF,?_⟩);rw[h3,show a.eval (.tmp 18)=a.tmps.getD 18 undef from rfl];exact { d:=Ys.t h.d,s:=by rw[Jy];exact h.s,t5:=Qc h.t5 (by decide),keep:=λk h3 hk=>Qc (h.keep k h3 hk) (Ne.symm h3),t3:=λe=>absurd (show true=false from e) (by decide),r0:=λe=>Qc (h.r0 e) (by decide),r1:=λe=>Qc (h.r1 e) (by decide),r2:=λe=>Qc (h.r2 e) (by decide),r3:=λe=>Qc (h.r3 e) (by decide),r4:=λe=>Qc (h.r4 e) (by decide),r5:=λe=>Qc (h.r5 e) (by decide),r6:=λe=>Qc (h.r6 e) (by decide),r7:=λe=>Qc (h.r7 e) (by decide),w0:=h.w0,w1:=h.w1,c8:=h.c8,c80:=h.c80,r8:=λe=>(by rw[Qc rfl (by decide)];exact h.r8 e),e9:=λ_=>⟨d9 rfl,by rw[Q9 (by rw[h.s];decide),Qc rfl (by decide)]⟩ }
abbrev Qxa(base:Array J)(v:J)(x p q:Ub)(W:G)(v':J):Act:=
 ((((((((((⟨base,[]⟩:Act).put (some 10) v).put (some 11) (bv x)).put (some 12) (.int .u8 ((x.toNat / 16:Nat):Int))).put (some 13) (bv p)).put (some 14) (bv x)).put (some 15) (.int .u8 ((x.toNat%16:Nat):Int))).put (some 16) (bv q)).put (some 17) (.slice (some ⟨W.heap.size,0,none⟩) 2 2)).put (some 18) v').put (some 3) v'
theorem Zdr{c:Act}(b:a.defers=c.defers)(e:a.tmps.size=c.tmps.size)(h:∀ k,k<c.tmps.size->a.tmps.getD k undef=c.tmps.getD k undef):a=c:=by
 obtain⟨t,d⟩:=a;obtain⟨t',d'⟩:=c;simp only at b e h;subst b
 congr 1
 apply Array.ext e;intro i h1 h2
 have:=h i h2
 simpa [ZK,h1,h2] using this
theorem Q2f.act(b:base.size=22)(h:Q2f base v x p q l B W (λ_=>true) a w):a=Qxa base v x p q W (a.tmps.getD 18 undef):=by
 obtain⟨y,hy⟩:=zzx (a.tmps.getD 18 undef)
 rw[<-hy];have c:(Qxa base v x p q W y).tmps.size=22:=by simp[Act.put,b]
 refine Zdr h.d (h.s.t c.symm) λk hk=>?_
 rw[c] at hk;have hc:k=3∨k=10∨k=11∨k=12∨k=13∨k=14∨k=15∨k=16∨k=17∨k=18∨(k≠3/\(k<10∨18<k)):=by omega
 rcases hc with rfl|rfl|rfl|rfl|rfl|rfl|rfl|rfl|rfl|rfl|⟨h3,e⟩
 .rw[(h.e9 rfl).2,<-hy,Q9 (by simp[Act.put,b])]
 .rw[h.r0 rfl]
  refine (?_:_=_).symm;exact Qc (Qc (Qc (Qc (Qc (Qc (Qc (Qc (Qc (Q9 (by simp[Act.put,b])) (by decide)) (by decide)) (by decide)) (by decide)) (by decide)) (by decide)) (by decide)) (by decide)) (by decide)
 .rw[h.r1 rfl]
  refine (?_:_=_).symm;exact Qc (Qc (Qc (Qc (Qc (Qc (Qc (Qc (Q9 (by simp[Act.put,b])) (by decide)) (by decide)) (by decide)) (by decide)) (by decide)) (by decide)) (by decide)) (by decide)
 .rw[h.r2 rfl]
  refine (?_:_=_).symm;exact Qc (Qc (Qc (Qc (Qc (Qc (Qc (Q9 (by simp[Act.put,b])) (by decide)) (by decide)) (by decide)) (by decide)) (by decide)) (by decide)) (by decide)
 .rw[h.r3 rfl]
  refine (?_:_=_).symm;exact Qc (Qc (Qc (Qc (Qc (Qc (Q9 (by simp[Act.put,b])) (by decide)) (by decide)) (by decide)) (by decide)) (by decide)) (by decide)
 .rw[h.r4 rfl]
  refine (?_:_=_).symm;exact Qc (Qc (Qc (Qc (Qc (Q9 (by simp[Act.put,b])) (by decide)) (by decide)) (by decide)) (by decide)) (by decide)
 .rw[h.r5 rfl]
  refine (?_:_=_).symm;exact Qc (Qc (Qc (Qc (Q9 (by simp[Act.put,b])) (by decide)) (by decide)) (by decide)) (by decide)
 .rw[h.r6 rfl]
  refine (?_:_=_).symm;exact Qc (Qc (Qc (Q9 (by simp[Act.put,b])) (by decide)) (by decide)) (by decide)
 .rw[h.r7 rfl]
  refine (?_:_=_).symm;exact Qc (Qc (Q9 (by simp[Act.put,b])) (by decide)) (by decide)
 .rw[<-hy]
  refine (?_:_=_).symm;exact Qc (Q9 (by simp[Act.put,b])) (by decide)
 rw[h.keep k h3 e];refine (?_:_=_).symm;exact Qc (Qc (Qc (Qc (Qc (Qc (Qc (Qc (Qc (Qc (rfl) (by omega)) (by omega)) (by omega)) (by omega)) (by omega)) (by omega)) (by omega)) (by omega)) (by omega)) (by omega)
theorem Q9d(e:base.size=22)(j:base.getD 3 undef=v)(m:base.getD 5 undef=bv x)(r:∀ b:Nat->Bool,∀ i∈Region.ready .any ops (bs b),i<10/\b i=false/\(i=2->b 1=true)/\(i=3->b 2=true)/\(i=5->b 4=true)/\(i=6->b 5=true)/\(i=7->b 3=true/\b 6=true)/\(i=8->b 0=true/\b 7=true)/\(i=9->b 8=true))(r0:∀ b:Nat->Bool,left b=0->Region.ready .any ops (bs b) = [])(r1:∀ (b:Nat->Bool) (f:Nat),f+1=left b->Region.ready .any ops (bs b)≠[])(u:∃ (o:Oper),ops[0]?=some o/\o.guard=none/\o.dst=some 10/\o.op=.move (.tmp 3))(y:∃ (o:Oper),ops[1]?=some o/\o.guard=none/\o.dst=some 11/\o.op=.move (.tmp 5))(o2:∃ (o:Oper) (ty:TypeId),ops[2]?=some o/\o.guard=none/\o.dst=some 12/\o.op=.binOp .shr 5 (.tmp 11) (.const (.int .u64 4)) ty)(z:∃ (o:Oper),ops[3]?=some o/\o.guard=none/\o.dst=some 13/\o.op=.index 9 (.const (.string kHex)) (.tmp 12))(A:∃ (o:Oper),ops[4]?=some o/\o.guard=none/\o.dst=some 14/\o.op=.move (.tmp 5))(C:∃ (o:Oper) (ty:TypeId),ops[5]?=some o/\o.guard=none/\o.dst=some 15/\o.op=.binOp .and 5 (.tmp 14) (.const (.int .u8 15)) ty)(D:∃ (o:Oper),ops[6]?=some o/\o.guard=none/\o.dst=some 16/\o.op=.index 9 (.const (.string kHex)) (.tmp 15))(E:∃ (o:Oper),ops[7]?=some o/\o.guard=none/\o.dst=some 17/\o.op=.buildSlice 147 2 #[(0,.tmp 13),(1,.tmp 16)])(F:∃ (o:Oper),ops[8]?=some o/\o.guard=none/\o.dst=some 18/\o.op=.call { callee:=.builtin .append,args:=#[.tmp 10,.tmp 17],argTypes:=#[147,147] })(H:∃ (o:Oper),ops[9]?=some o/\o.guard=none/\o.dst=some 3/\o.op=.assign (.tmp 18))(c:Qg8 W B v l)(g:l.length<=1000)(n:B<=W.heap.size)(t:∀ v' w',Qg8 w' B v' (l ++ [hexD (x.toNat / 16),hexD (x.toNat%16)])->W.grownBy w' v.ownBlock->Q .normal (Qxa base v x (hexD (x.toNat / 16)) (hexD (x.toNat%16)) W v') w'):wpAny prog .any ops Q 10 (Array.replicate 10 false) ⟨base,[]⟩ W:=by
 refine Zcv (p:=hexD (x.toNat / 16)) (q:=hexD (x.toNat%16)) (v:=v) (x:=x) (l:=l) (B:=B) (base:=base) r r0 r1 u y o2 z A C D E F H rfl rfl c g n (λa w h=>?_) ⟨base,[]⟩ W ?_
 .rw[Q2f.act e h]
  exact t _ _ (h.r8 rfl).1 (h.r8 rfl).2
 exact { d:=rfl,s:=e,t5:=m,keep:=λ_ _ _=>rfl,t3:=λ_=>j,r0:=λk=>absurd k (by decide),r1:=λk=>absurd k (by decide),r2:=λk=>absurd k (by decide),r3:=λk=>absurd k (by decide),r4:=λk=>absurd k (by decide),r5:=λk=>absurd k (by decide),r6:=λk=>absurd k (by decide),r7:=λk=>absurd k (by decide),w0:=λ_=>rfl,w1:=λk=>absurd k (by decide),r8:=λk=>absurd k (by decide),e9:=λk=>absurd k (by decide),c8:=λk=>absurd k (by decide),c80:=λk=>absurd k (by decide) }
theorem Q26{l:Ud}{k:Nat}(a:k<l.length):Qag (l.take (k+1))=Qag (l.take k) ++ [hexD ((l.getD k 0).toNat / 16),hexD ((l.getD k 0).toNat%16)]:=by
 have e:l.take (k+1)=l.take k ++ [l.getD k 0]:=by rw[zY,ze a];simp[List.getD,a]
 rw[e];unfold Qag;rw[vU];rfl
theorem Qvt(h:Hsh)(w:G):Calls prog 201 #[.agg (h8 h)] w λe w'=>e=.returned (.string (sOf (Qag h.toList)))/\Bz w w':=by
 have n:∀ W,Qg8 W w.heap.size (.slice none 0 0) (Qag (h.toList.take 0)):=λW=>zv _ _ _ _
 have C:=zh n;clear n
 go_enter func201,ntmps201
 go_wp2_with (first|refine Qw rfl 143 _ rfl _ rfl _ underlying143 Zd ?_ ?_ ?_;rotate_left;focus ((repeat(first|(with_reducible first|assumption|exact Qg ⟨_,by assumption⟩ _)|((with_reducible first|refine Qe ?_|refine Q2 ?_|refine Qg (Q6 ?_) _);(first|rfl|simp;done|simp;omega))|with_reducible refine Qp ?_ _|((with_reducible refine Qi ?_ _ ?_);rotate_left;(focus(first|simp;done|simp;omega|omega)))|with_reducible first|refine Qo ?_|refine Qh ?_ (by assumption)));done))
 go_loopw [3,7] (λv i wr=>∃ k:Nat,k<=8/\i=.int .i64 k/\Qg8 wr w.heap.size v (Qag (h.toList.take k))/\Bz w wr) (λ_ i _=>8-(intOf i).toNat)
 case atStart=>exact⟨0,by omega,rfl,C.o _,Qa _ _⟩
 case round=>
  obtain⟨k,hk,rfl,q,p⟩:=hrel;obtain⟨m,d⟩:=zh2 q p;clear q p;by_cases hlt:k<8
  .have hx:=Q72 h k hlt wr
   obtain⟨x,r⟩:=zzx (h.toList.getD k 0)
   rw[<-r] at hx;have g:=Q26 (l:=h.toList) (k:=k) (by simpa using hlt);rw[<-r] at g;have D:=zh g;clear r g
   go_wp2_with fail
   refine wp_region_any (by kernel_rfl) ?_;have E:Qg8 wr.drew w.heap.size _ _:=m.o;refine Q9d (x:=x) (B:=w.heap.size) rfl rfl rfl ?_ ?_ ?_ ⟨_,rfl,rfl,rfl,rfl⟩ ⟨_,rfl,rfl,rfl,rfl⟩ ⟨_,_,rfl,rfl,rfl,rfl⟩ ⟨_,rfl,rfl,rfl,rfl⟩ ⟨_,rfl,rfl,rfl,rfl⟩ ⟨_,_,rfl,rfl,rfl,rfl⟩ ⟨_,rfl,rfl,rfl,rfl⟩ ⟨_,rfl,rfl,rfl,rfl⟩ ⟨_,rfl,rfl,rfl,rfl⟩ ⟨_,rfl,rfl,rfl,rfl⟩ E (by rw[Qbc];simp;omega) (Q8 d.o 1).size ?_
   .intro b i hi
    rw[Region.ready,ZJ] at hi;obtain⟨t,u⟩:=hi;have F:i<10:=ZQ.1 t
    have:i=0∨i=1∨i=2∨i=3∨i=4∨i=5∨i=6∨i=7∨i=8∨i=9:=by omega
    clear t;rcases this with rfl|rfl|rfl|rfl|rfl|rfl|rfl|rfl|rfl|rfl <;> simp[bs,Region.binds] at u ⊢ <;> simp[u]
   .intro b hb
    have hh:∀ c:Bool,(!c).toNat=0->c=true:=by intro c;cases c <;> simp
    unfold left at hb;have k0:=hh (b 0) (by omega);have k1:=hh (b 1) (by omega);have k2:=hh (b 2) (by omega);have k3:=hh (b 3) (by omega);have k4:=hh (b 4) (by omega);have k5:=hh (b 5) (by omega);have k6:=hh (b 6) (by omega);have k7:=hh (b 7) (by omega);have k8:=hh (b 8) (by omega);have k9:=hh (b 9) (by omega);rw[show bs b=#[true,true,true,true,true,true,true,true,true,true] by simp only[bs,k0,k1,k2,k3,k4,k5,k6,k7,k8,k9]];rfl
   .intro b f hf he
    rw[Region.ready] at he;have hn:=λa (ha:a<10)=>List.filter_eq_nil_iff.1 he a (ZQ.2 ha)
    have k0:b 0=true:=by simpa [bs,Region.binds] using hn 0 (by decide)
    have k1:b 1=true:=by simpa [bs,Region.binds,k0] using hn 1 (by decide)
    have k2:b 2=true:=by simpa [bs,Region.binds,k0,k1] using hn 2 (by decide)
    have k3:b 3=true:=by simpa [bs,Region.binds,k0,k1,k2] using hn 3 (by decide)
    have k4:b 4=true:=by simpa [bs,Region.binds,k0,k1,k2,k3] using hn 4 (by decide)
    have k5:b 5=true:=by simpa [bs,Region.binds,k0,k1,k2,k3,k4] using hn 5 (by decide)
    have k6:b 6=true:=by simpa [bs,Region.binds,k0,k1,k2,k3,k4,k5] using hn 6 (by decide)
    have k7:b 7=true:=by simpa [bs,Region.binds,k0,k1,k2,k3,k4,k5,k6] using hn 7 (by decide)
    have k8:b 8=true:=by simpa [bs,Region.binds,k0,k1,k2,k3,k4,k5,k6,k7] using hn 8 (by decide)
    have k9:b 9=true:=by simpa [bs,Region.binds,k0,k1,k2,k3,k4,k5,k6,k7,k8] using hn 9 (by decide)
    simp only[left,k0,k1,k2,k3,k4,k5,k6,k7,k8,k9,Bool.not_true,Bool.toNat_false] at hf;omega
   intro v' w' ho hg;have s:Bz w w':=(d.o.drew).grown hg d.o.drew.size (λj hj=>(m.o.lt j hj).1);obtain⟨A,z⟩:=zh2 ho s;clear ho hg s;go_wp2;go_roundw
   case rel=>exact⟨k+1,by omega,by go_num,by rw[D.o];exact A.o,z.o⟩
   case measure=>(simp[intOf] <;> omega)
  have ht:h.toList.take k=h.toList:=zk (by simp;omega);have hb:=m.o.bytes;rw[ht] at hb;have y:=zh hb;clear hb ht
  go_wp2_with (refine Qf2 rfl 147 9 _ rfl _ underlying147 underlying5 underlying9 _ ?_ rfl ?_ ?_;rotate_left;focus exact y.o)
  go_ret;exact⟨rfl,d.o⟩
theorem Q0k(n:Nat)(h:n<16):(ByteArray.mk #[48,49,50,51,52,53,54,55,56,57,97,98,99,100,101,102]).extract n (n+1)=sOf [hexD n]:=by
 have:∀ m:Fin 16,(ByteArray.mk #[48,49,50,51,52,53,54,55,56,57,97,98,99,100,101,102]).extract m.1 (m.1+1)=sOf [hexD m.1]:=by decide
 exact this ⟨n,h⟩
theorem Q2o{l:Ud}{k:Nat}(a:k<l.length):Qag (l.take (k+1))=Qag (l.take k) ++ [hexD ((l.getD k 0).toNat / 16)] ++ [hexD ((l.getD k 0).toNat%16)]:=by
 have e:l.take (k+1)=l.take k ++ [l.getD k 0]:=by rw[zY,ze a];simp[List.getD,a]
 rw[e];unfold Qag;rw[vU,ZS];rfl
theorem Q0b(s:O)(w:G)(h:s.size<=1000):Calls prog 116 #[.string s] w λe w'=>e=.returned (.string (sOf (Qag s.data.toList)))/\Bz w w':=by
 go_enter func116,ntmps116
 go_wp2
 go_loopw [4,5] (λv i wr=>∃ k:Nat,k<=s.size/\i=.int .i64 k/\v=.string (sOf (Qag (s.data.toList.take k)))/\Bz w wr) (λ_ i _=>s.size-(intOf i).toNat)
 case atStart=>exact⟨0,by omega,rfl,rfl,zu _ _⟩
 case round=>
  obtain⟨k,hk,rfl,rfl,b⟩:=hrel;have HB:=zh b;clear b;by_cases hlt:k<s.size
  .have a:=Q2o (l:=s.data.toList) (k:=k) (by simpa using hlt)
   have hg:s.data.toList.getD k 0=s[k]:=by simp[List.getD,hlt];rfl
   rw[hg] at a;obtain⟨hi,c⟩:=zzx (s[k].toNat / 16)
   obtain⟨lo,d⟩:=zzx (s[k].toNat%16)
   have hx:=s[k].toNat_lt;have e1:(s[k].toNat:Int) / 16=(hi:Int):=by omega
   have e2:(s[k].toNat:Int)%16=(lo:Int):=by omega
   rw[<-c,<-d] at a;have b1:hi<16:=by omega
   have b2:lo<16:=by omega
   have c1:=Q0k hi b1;have c2:=Q0k lo b2;have g:(Qag (s.data.toList.take k)).length<=2000:=by rw[Qbc];simp;omega
   have f:=zh a;clear a hg c d hx
   go_wp2_with fail
   go_region;go_wp2;refine⟨⟨k+1,by omega,rfl,?_,HB.o.drew⟩,by simp[intOf];omega⟩;rw[f.o,Qf7,Qf7]
  have ht:s.data.toList.take k=s.data.toList:=zk (by simp;omega);rw[ht];go_wp2;go_ret;exact⟨rfl,HB.o⟩
def Qin(c:Ub):Int:=match Qd3 c with|some n=>n|none=>-1
theorem Qwp(c:Ub)(w:G):Calls prog 118 #[.int .u8 c.toNat] w λe w'=>e=.returned (.int .i64 (Qin c))/\w=w':=by
 have hc:=c.toNat_lt;obtain⟨n,hn⟩:=zzx c.toNat
 have hU:Qin c=if 48<=n/\n<=57 then ((n-48:Nat):Int) else if 97<=n/\n<=102 then ((n-87:Nat):Int) else -1:=by
  rw[hn];unfold Qin Qd3
  split
  .rename_i m h
   split at h
   .rename_i h1;rw[zD h1];cases h;rfl
   rename_i h1;rw[zw h1];split at h
   .rename_i h2;rw[zD h2];cases h;rfl
   cases h
  rename_i h
  split at h
  .cases h
  rename_i h1;rw[zw h1];split at h
  .cases h
  rename_i h2;rw[zw h2]
 rw[hU,<-hn];rw[<-hn] at hc;clear hn hU;by_cases h1:48<=n
 .have d1:decide ((48:Int)<=(n:Int))=true:=zF (by omega)
  by_cases h2:n<=57
  .have d2:decide ((n:Int)<=(57:Int))=true:=zF (by omega)
   rw[zD ⟨h1,h2⟩,show ((n-48:Nat):Int)=(n:Int)-48 by omega]
   go_enter func118,ntmps118
   go_wp2;go_ret;exact⟨rfl,rfl⟩
  have d2:decide ((n:Int)<=(57:Int))=false:=zo (by omega);rw[zw (by omega)];by_cases h3:97<=n
  .have d3:decide ((97:Int)<=(n:Int))=true:=zF (by omega)
   by_cases h4:n<=102
   .have d4:decide ((n:Int)<=(102:Int))=true:=zF (by omega)
    rw[zD ⟨h3,h4⟩,show ((n-87:Nat):Int)=(n:Int)-97+10 by omega]
    go_enter func118,ntmps118
    go_wp2;go_ret;exact⟨rfl,rfl⟩
   have d4:decide ((n:Int)<=(102:Int))=false:=zo (by omega);rw[zw (by omega)]
   go_enter func118,ntmps118
   go_wp2;go_ret;exact⟨rfl,rfl⟩
  have d3:decide ((97:Int)<=(n:Int))=false:=zo (by omega);rw[zw (by omega)]
  go_enter func118,ntmps118
  go_wp2;go_ret;exact⟨rfl,rfl⟩
 have d1:decide ((48:Int)<=(n:Int))=false:=zo (by omega);have d3:decide ((97:Int)<=(n:Int))=false:=zo (by omega);rw[zw (by omega),zw (by omega)]
 go_enter func118,ntmps118
 go_wp2;go_ret;exact⟨rfl,rfl⟩
theorem Qmd(n:Nat)(h:Hsh)(key:Ud)(a:n<9223372036854775808):(Qa9 n h).length<=100/\(Jt n h key).length<=200:=by
 have h1:=Jf a;have h2:(Qa9 n h).length<=100:=by unfold Qa9;simp[Qbq,Qbc];omega
 refine⟨h2,?_⟩;unfold Jt;simp[Qbc];omega
theorem Qoh(n:Nat)(h:Hsh)(key:O)(w:G)(k:n<9223372036854775808)(r:key.size<=1048600):Calls prog 61 #[.int .i64 n,.string (HS h),.string key] w λe w'=>e=.returned (.string (sOf (Jt n h key.data.toList)))/\Bz w w':=by
 have hd:(dec n).length<=19:=Jf k;have hx:(Qag h.toList).length=16:=by rw[Qbc,Qdh]
 have a:(ByteArray.mk #[116,105,108,101,115,10])++sOf (dec n)++(ByteArray.mk #[10])++sOf (Qag h.toList)++(ByteArray.mk #[10])=sOf (Qa9 n h):=by apply vF;simp[Qa9,Qbq]
 have b:key++(ByteArray.mk #[0])++sOf (Qa9 n h)=sOf (key.data.toList++0 :: Qa9 n h):=by apply vF;simp
 have p:=(Qmd n h key.data.toList k).1;obtain⟨HH,HA⟩:=zh2 a b;clear a b
 go_enter func61,ntmps61
 go_wp2_with fail
 refine (Qbk n _ k).m ?_;rintro e w1⟨rfl,c⟩
 go_wp2_with fail
 refine (Q0b (HS h) _ (by rw[Jj];decide)).m ?_;rintro e w2⟨rfl,g⟩;rw[show (HS h).data.toList=h.toList from rfl];have d:=zh (c.t (g.m c.size));clear c g
 go_wp2_with fail
 rw[HH.o,HA.o];refine (Qid _ _ (by rw[Y1];simp;omega)).m ?_;rintro e w3⟨rfl,i⟩;rw[show (sOf (key.data.toList++0 :: Qa9 n h)).data.toList=key.data.toList++0 :: Qa9 n h from rfl];obtain⟨m,hm⟩:=zzx (hash (key.data.toList++0 :: Qa9 n h))
 rw[<-hm];obtain⟨HM,f⟩:=zh2 hm (d.o.t (i.m d.o.size));clear hm i;have q:(Qag m.toList).length=16:=by rw[Qbc,Qdh]
 go_wp2_with fail
 refine (Q0b (HS m) _ (by rw[Jj];decide)).m ?_;rintro e w4⟨rfl,j⟩;rw[show (HS m).data.toList=m.toList from rfl];have l:=zh (f.o.t (j.m f.o.size));clear j;go_wp2;go_ret;refine⟨Qcc (zB Value.string ?_),l.o⟩
 have:=HH.o
 unfold Jt;rw[<-HM.o];apply vF;simp[Qa9,Qbq]
abbrev trC(n:Int)(h:Hsh):Array J:=#[.int .i64 n,bv h[0],bv h[1],bv h[2],bv h[3],bv h[4],bv h[5],bv h[6],bv h[7]]
abbrev trV(n:Int)(h:Hsh):J:=.agg (trC n h)
theorem Qg5(h:Hsh):h8 h=#[bv h[0],bv h[1],bv h[2],bv h[3],bv h[4],bv h[5],bv h[6],bv h[7]]:=by
 apply Array.ext
 .simp
 intro i h1 h2;simp at h2
 have:i=0∨i=1∨i=2∨i=3∨i=4∨i=5∨i=6∨i=7:=by omega
 rcases this with rfl|rfl|rfl|rfl|rfl|rfl|rfl|rfl <;> simp[h8]
theorem Q6x(h:Hsh)(w:G):Calls prog 201 #[.agg #[bv h[0],bv h[1],bv h[2],bv h[3],bv h[4],bv h[5],bv h[6],bv h[7]]] w λe w'=>e=.returned (.string (sOf (Qag h.toList)))/\Bz w w':=by
 have:=Qvt h w
 rw[Qg5] at this;exact this
def Qcl(w:G)(g:Nat)(n:Int)(h:Hsh):Prop:=w.heap[g]?=some (.cells (trC n h) 145 (0,0))
variable {g:Nat} {n:Int} {h:Hsh}
theorem Qcl.j{w':G}(a:Qcl w g n h)(b:Bz w w'):Qcl w' g n h:=(b.block g (Qb a)).t a
theorem Qcl.cells(a:Qcl w g n h):w.cell? ⟨g,0,none⟩=some (.int .i64 n)/\w.cell? ⟨g,1,none⟩=some (bv h[0])/\w.cell? ⟨g,2,none⟩=some (bv h[1])/\w.cell? ⟨g,3,none⟩=some (bv h[2])/\w.cell? ⟨g,4,none⟩=some (bv h[3])/\
  w.cell? ⟨g,5,none⟩=some (bv h[4])/\w.cell? ⟨g,6,none⟩=some (bv h[5])/\w.cell? ⟨g,7,none⟩=some (bv h[6])/\w.cell? ⟨g,8,none⟩=some (bv h[7]):=by
 unfold Qcl at a;refine⟨?_,?_,?_,?_,?_,?_,?_,?_,?_⟩ <;> simp[World.cell?,a]
set_option maxHeartbeats 8000000 in
theorem Qo4(n:Nat)(h:Hsh)(key:O)(w:G)(D:n<9223372036854775808)(U:key.size<=9223372036854775807)(M:Z5 w):Calls prog 159 #[trV n h,.string key] w λe w'=>e=.returned (.string (sOf (Jt n h key.data.toList)))/\Bz w w':=by
 have hd:(dec n).length<=19:=Jf D;have hx:(Qag h.toList).length=16:=by rw[Qbc,Qdh]
 have T0:Qcl (w.alloc (.cells (trC n h) 145)) w.heap.size n h:=zy w _;obtain⟨HE,HT⟩:=zh2 (M.j (Qa w (.cells (trC n h) 145))) T0;clear M T0
 go_enter func159,ntmps159
 have c0:=(HT.o.j (Ql _)).cells;obtain⟨k0,k1,k2,k3,k4,k5,k6,k7,k8⟩:=c0;have b:(ByteArray.mk #[116,105,108,101,115,10])++sOf (dec n)++(ByteArray.mk #[10])++sOf (Qag h.toList)++(ByteArray.mk #[10])=sOf (Qa9 n h):=by apply vF;simp[Qa9,Qbq]
 have HH:=zh b;clear b
 go_wp2_with fail
 go_cut [5] from 6 (λs wx=>s=.string (sOf (Qa9 n h))/\Bz w wx)
 case first=>
  go_region_with (first|go_at_call 197;go_must (refine (Qed n _ D (HE.o.j (Ql _))).m ?_;rintro e w1⟨rfl,d⟩;have l:=zh d;obtain⟨j0,j1,j2,j3,j4,j5,j6,j7,j8⟩:=((HT.o.j (Ql _)).j d).cells;clear d)|go_at_call 201;go_must (refine (Q6x h _).m ?_;rintro e w2⟨rfl,r⟩;have E:=zh r;clear r))
  all_goals
   go_wp2
   go_meet;exact⟨by rw[HH.o],(((Qa w _).drew).t (l.o.m (Qa w (.cells (trC n h) 145)).size)).t (E.o.m (zi (Qa w (.cells (trC n h) 145)).size l.o.size))⟩
 case rest=>
  obtain⟨rfl,v⟩:=hcut;have q:=zh v;have N:=(Qmd n h key.data.toList D).1;clear v k0 k1 k2 k3 k4 k5 k6 k7 k8;obtain⟨a,k⟩:=zzx (Qa9 n h)
  rw[<-k] at N ⊢;have I:=zh k;clear k
  go_wp2_with (first|refine Qcs rfl 9 147 5 _ rfl underlying9 underlying147 underlying5 rfl key rfl ?_;intro uk wk B y R P;obtain⟨bk,ck,rfl⟩:=P;obtain⟨K,H⟩:=zh2 B y;clear B y R|refine Qcs rfl 9 147 5 _ rfl underlying9 underlying147 underlying5 rfl (sOf a) rfl ?_;intro us wsx C z S Q;obtain⟨bs',cs',rfl⟩:=Q;obtain⟨L,c⟩:=zh2 C z;clear C z S)
  refine (Qmv _ [key.data.toList,[0],a] _ (bss3 (fz:=(0,0)) (Zv _ _ _ rfl) ?_ ?_ ?_) (by simp) (by simp;omega)).m ?_
  .exact (((K.o.at.j (Qa _ _)).j c.o).j (Qa _ _))
  .exact (((bytes1 (x:=0) (fz:=(0,0)) (Zv _ _ _ rfl)).j c.o).j (Qa _ _))
  .exact L.o.at.j (Qa _ _)
  rintro e w3⟨rfl,t⟩;have A : [key.data.toList,[0],a].flatten=key.data.toList++0 :: a:=by simp
  rw[A];have g:=q.o.t (H.o.m q.o.size);have i:=g.alloc g.size (.cells #[.int .u8 0] 5);have j:=i.t (c.o.m i.size);have f:=j.alloc j.size (.cells #[.slice (some ⟨bk,0,none⟩) key.size ck,.slice (some ⟨wk.heap.size,0,none⟩) 1 1,.slice (some ⟨bs',0,none⟩) a.length cs'] 147);have p:=zh (f.t (t.m f.size));clear t A g i j f;obtain⟨m,hm⟩:=zzx (hash (key.data.toList++0 :: a))
  rw[<-hm];have HM:=zh hm;have T:(Qag m.toList).length=16:=by rw[Qbc,Qdh]
  clear hm
  go_wp2_with fail
  refine (Qvt m _).m ?_;rintro e w4⟨rfl,u⟩;have F:=zh (p.o.t (u.m p.o.size));clear u;go_wp2;go_ret;refine⟨Qcc (zB Value.string ?_),F.o⟩;unfold Jt;rw[<-I.o,<-HM.o];apply vF;simp
theorem Q10(s:O)(w:G)(c:s.size<=1048576)(h:Z5 w):Calls prog 175 #[.string s,.string (sOf [10])] w λe w'=>∃ (v:J) (Ls:List O),e=.returned v/\Zj w' v Ls/\lists Ls=linesOf s.data.toList/\Bz w w':=by
 obtain⟨m,hm⟩:=h.most;refine (strings_Split s (sOf [10]) m w (by omega) hm (by decide)).m ?_;rintro e w'⟨rfl,rfl⟩;have a:=Lib.splitB_all (sOf [10]) (by decide) 0 (Lib.countB s (sOf [10])) s rfl;obtain⟨Ls,b⟩:=zzx (Lib.splitB (sOf [10]) 0 (Lib.countB s (sOf [10])) s)
 rw[<-b] at a ⊢;refine⟨_,Ls,rfl,?_,?_,Qa _ _⟩
 .rw[<-a]
  unfold Zj;refine⟨_,_,rfl,zg _,λj x hx=>⟨w.heap.size,0,rfl,?_⟩⟩;rw[V4,zW _ _ _ _ rfl];simpa using hx
 rw[b];exact Lib.splitB_data (sOf [10]) 0 _ s
theorem Qpv(w:G)(a:Addr)(v:J):w.grownBy (w.setCell a v) (some a.block):=by refine⟨rfl,rfl,rfl,by simp[World.setCell],λk _ hk=>?_⟩;exact Xz w a v k (λe=>hk (by rw[e]))
theorem Zb1(r:Ud)(i:Nat)(a:i<8):(Zi r)[i]=r.getD i 0:=by
 have:i=0∨i=1∨i=2∨i=3∨i=4∨i=5∨i=6∨i=7:=by omega
 rcases this with rfl|rfl|rfl|rfl|rfl|rfl|rfl|rfl <;> rfl
theorem Qww(n:Int)(h:Hsh)(i:Nat)(a:i<8):(trC n h)[1+i]?=some (bv h[i]):=by
 have:i=0∨i=1∨i=2∨i=3∨i=4∨i=5∨i=6∨i=7:=by omega
 rcases this with rfl|rfl|rfl|rfl|rfl|rfl|rfl|rfl <;> rfl
theorem Q9v(n:Int)(r:Ud)(z:Ub)(h:r.length<8):(trC n (Zi r)).setIfInBounds (1+r.length) (bv z)=trC n (Zi (r ++ [z])):=by
 match r,h with
 | [],_=>rfl
 | [a],_=>rfl
 | [a,b],_=>rfl
 | [a,b,c],_=>rfl
 | [a,b,c,d],_=>rfl
 | [a,b,c,d,e],_=>rfl
 | [a,b,c,d,e,f],_=>rfl
 | [a,b,c,d,e,f,g],_=>rfl
theorem Qcl.step(h:Qcl w g n (Zi r))(z:Ub)(a:r.length<8):Qcl (w.setCell ⟨g,1+r.length,none⟩ (bv z)) g n (Zi (r ++ [z])):=by have b:=Qb h;unfold Qcl at *;rw[<-Q9v n r z a];simp[World.setCell,xi,h]
theorem Qcl.at(h:Qcl w g n (Zi r))(a:r.length<8):(∃ y,w.cell? ⟨g,1+r.length,none⟩=some (bv y))/\w.frozen? ⟨g,1+r.length,none⟩=false:=by
 have:=Qww n (Zi r) r.length a
 unfold Qcl at h;exact⟨⟨_,by simp only[World.cell?,h];exact this⟩,by simp[World.frozen?,h]⟩
theorem Q9i:(prog.info? 145).map (·.size)=some 9:=by kernel_rfl
section
variable {ops:Array Oper} {rest:List Oper} {o:Oper} {a:Act} {Q:Exit->Act->G->Prop} {w:G}
theorem Je(e:Region.wanted o (yielded ops a.tmps)=true)(x:Operand)(d:o.op=.load 145 x)(g:Nat)(f:a.eval x=.pointer (some ⟨g,0,none⟩))(n:Int)(h:Hsh)(b:Qcl w g n h)(c:wpList prog ops Q rest (a.put o.dst (trV n h)) w):wpList prog ops Q (o :: rest) a w:=
 Vh e λ_ hK=>Xo 145 x d g f _ (trC n h) _ _ b underlying145 rfl (by rw[Q9i];rfl) (hK _ _ c)
theorem Z8(e:Region.wanted o (yielded ops a.tmps)=true)(x y:Operand)(d:o.op=.store 145 x y)(g:Nat)(n:Int)(k:Hsh)(f:a.eval x=.pointer (some ⟨g,0,none⟩))(i:a.eval y=trV n k)(j:Int)(h:Hsh)(b:Qcl w g j h)(c:wpList prog ops Q rest (a.put o.dst undef) (w.setRow g (trC n k))):wpList prog ops Q (o :: rest) a w:=
 Vh e λ_ hK=>zaa 145 x y d g (trC n k) f i _ _ b (by rw[Q9i];rfl) rfl (by simp[Value.oneCell']) (hK _ _ c)
theorem retT{b:Func}{R:Ua->G->Prop}{p q:Tmp}(g:Nat)(n:Int)(k:Hsh)(x:J)(h:b.results=#[.cell p 145,.tmp q])(i:a.tmps.getD p undef=.pointer (some ⟨g,0,none⟩))(f:a.tmps.getD q undef=x)(e:Qcl w g n k)(d:a.defers = [])(c:R (.returned (.tuple #[trV n k,x])) w):bodyPost prog b R .ret a w:=by
 refine zI (v:=.tuple #[trV n k,x]) ?_ d c;rw[results_cell_tmp h];have hl:=xM (P:=prog) w g _ 145 (trC n k) _ _ e underlying145 rfl (by rw[Q9i];rfl);simp[i,f,asAddr,hl] at *
end
theorem Qcl.set{b:Int}{a:Hsh}(h:Qcl w g b a)(n:Int)(k:Hsh):Qcl (w.setRow g (trC n k)) g n k:=xV w g _ _ _ _ h
theorem Qux(a:Ud):∀ (k:Nat) (s:Ud),∀ x∈Lib.splitK a 0 k s,x.length<=s.length
 | 0,s,x,hx=>by simp only[Lib.splitK,zS] at hx;rw[hx];exact zg _
 | k+1,s,x,hx=>by
  unfold Lib.splitK at hx
  split at hx
  .simp only[zS] at hx;rw[hx];exact zg _
  rcases ZH.1 hx with rfl|hx
  .simp;omega
  have:=Qux a k _ x hx
  simp at this
  omega
theorem Q1f(l:Ud):∀ x∈linesOf l,x.length<=l.length:=Qux [10] _ l
theorem Qub{c:Ub}{m:Nat}(h:Qd3 c=some m):m<16:=by
 unfold Qd3 at h
 split at h
 .cases h;omega
 split at h
 .cases h;omega
 cases h
theorem Qwu(h:r.length=8):(Zi r).toList=r:=by
 match r,h with
 | [a,b,c,d,e,f,g,i],_=>rfl
theorem Q98(h:r.length=8):sOf r=HS (Zi r):=by
 conv=>lhs;rw[<-Qwu h]
 rfl
def Qft(q:Qox)(w:G)(e:Ua)(w':G):Prop:=
 e=.returned (.tuple #[.int .i64 q.1,.string (if q.2.2=true then HS q.2.1 else ⟨#[]⟩),.bool q.2.2])/\Bz w w'
theorem Qfs{w w':G}(h:Bz w w'):Qft J2 w (.returned (.tuple #[.int .i64 0,.string ⟨#[]⟩,.bool false])) w':=⟨rfl,h⟩
theorem Qp7(d:Ub->Y Nat)(a b:Ub)(l:Ud):Qay d (a :: b :: l)=(d a).bind λx=>(d b).bind λy=>(Qay d l).map (UInt8.ofNat (16*x+y) :: ·):=by
 conv=>lhs;unfold Qay
 cases d a <;> cases d b <;> rfl
theorem Qmo(s key:O)(w:G)(hs:s.size<=1048576)(hk:key.size<=1048600):Calls prog 63 #[.string s,.string key] w (Qft (Qdj s.data.toList key.data.toList) w):=by
 obtain⟨l,hl⟩:=zzx s.data.toList
 have Q:s=sOf l:=by rw[hl,J9]
 have a0:l.length<=1048576:=by rw[hl];simpa using hs
 clear hl hs;subst Q;obtain⟨q,hq⟩:=zzx (Qdj l key.data.toList)
 show Calls prog 63 #[.string (sOf l),.string key] w (Qft (Qdj l key.data.toList) w);rw[<-hq];have HQ:=zh hq;clear hq
 go_enter func63,ntmps63
 go_wp2_with fail
 refine (Qf1 (sOf l) (sOf Qbq) _).m ?_;rintro e w0⟨rfl,rfl⟩;rw[show Za (sOf l).data.toList (sOf Qbq).data.toList=Za l Qbq from rfl];have Z:=Qe0 l Qbq;have f:=HQ.o;unfold Qdj at f;obtain⟨x1,ak⟩:=zzx (Za l Qbq)
 rw[<-ak] at Z f ⊢;clear ak HQ;obtain⟨s1,b1⟩:=x1;simp only at Z f ⊢;cases b1 with
 | false=>
  rw[zw (by simp)] at f;have C:=zh f;clear f;go_wp2
  go_ret3
  rw[C.o];exact Qfs (zu _ _)
 | true=>
  rw[zD rfl] at f;have C:=zh f;clear f
  go_wp2_with fail
  refine (Qi3 (sOf s1) _ (by rw[Y1];omega)).m ?_;rintro e w2⟨rfl,L⟩;rw[show Zh (sOf s1).data.toList=Zh s1 from rfl];have ab:=Qgs s1;have I:=Qga s1;have g:=C.o;obtain⟨x3,al⟩:=zzx (Zh s1)
  rw[<-al] at ab I g ⊢;have B:=zh L;clear al C L;obtain⟨n,s3,b3⟩:=x3;simp only at ab I g ⊢;by_cases hgood:b3=true/\17<=s3.length
  .rw[zD hgood] at g
   obtain⟨rfl,aq⟩:=hgood;have d1:decide ((s3.length:Int)<17)=false:=zo (by omega);obtain⟨S,hS⟩:=zzx (sOf s3)
   have aj:S.size=s3.length:=by rw[hS,Y1]
   obtain⟨D,hD⟩:=zzx ((s3.drop 1).take 16)
   rw[<-hD] at g;have W:D.length=16:=by rw[hD];simp;omega
   have V:∀ j,j<16->∃ (h:j+1<S.size) (h2:j<D.length),S[j+1]=D[j]:=by intro j hj;refine⟨by omega,by omega,?_⟩;subst hS;subst hD;simp[ByteArray.getElem_eq_getElem_data,zah 1 j]
   obtain⟨m,T,ao⟩:=zh3 g V W;have HU:=zh (show Qay Qd3 D=(Qay Qd3 (D.drop 0)).map ([] ++ ·) by simp);rw[<-hS];clear g V W hD hS;rw[<-aj] at d1 aq;clear aj
   go_wp2_with fail
   go_loopw [10,11] (λvr vi wr=>∃ (k j:Nat) (r:Ud),Hid (k=2*j+1)/\k<=17/\vi=.int .i64 k/\vr=.string (sOf r)/\r.length=j/\Hid (Qay Qd3 D=(Qay Qd3 (D.drop (2*j))).map (r ++ ·))/\Bz w wr) (λ_ vi _=>18-(intOf vi).toNat)
   case atStart=>exact⟨1,0,[],zh rfl,by omega,rfl,rfl,rfl,HU,B.o⟩
   case round=>
    obtain⟨k,j,r,d,az,rfl,rfl,hr,u,K⟩:=hrel;have HB:=zh K;have a4:r.length<=8:=by have:=d.o;omega
    have HR:=zh hr;clear K B HU hr;by_cases hlt:k<17
    .obtain⟨ar,X,ha⟩:=T.o (2*j) (by have:=d.o;omega)
     obtain⟨an,aa,hb⟩:=T.o (2*j+1) (by have:=d.o;omega);have hcut:D.drop (2*j)=D[2*j] :: D[2*j+1] :: D.drop (2*(j+1)):=by rw[zZ X,zZ aa];rfl
     have a:=u.o;rw[hcut,Qp7] at a;obtain⟨ca,ae⟩:=zzx (D[2*j])
     obtain⟨cb,af⟩:=zzx (D[2*j+1])
     rw[<-ae] at ha a;rw[<-af] at hb a;have k1:k<S.size:=by omega
     have k2:k+1<S.size:=by have:=d.o;omega
     have H:S[k]=ca:=by rw[<-ha];congr 1 <;> exact d.o
     have M:S[k+1]=cb:=by rw[<-hb];congr 1 <;> (have:=d.o;omega)
     have ap:=zh a;clear hcut a ha hb ae af ar an X aa u;have ay:k<=15:=by have:=d.o;omega
     go_wp2_with fail
     refine (Qwp ca _).m ?_;rintro e w3⟨rfl,rfl⟩
     go_wp2_with fail
     refine (Qwp cb _).m ?_;rintro e w3⟨rfl,rfl⟩;have a:=ap.o;cases hua:Qd3 ca with
     | none=>
      have p:Qin ca = -1:=by unfold Qin;rw[hua]
      rw[hua] at a;have b:=m.o;rw[a] at b;have E:=zh b;rw[p];clear a b hua p H M;go_wp2
      go_ret3
      rw[E.o];exact Qfs HB.o
     | some x=>
      have a1:=Qub hua;have p:Qin ca=(x:Int):=by unfold Qin;rw[hua]
      rw[hua] at a;rw[p];have dx:decide ((x:Int)<0)=false:=zo (by omega);cases hub:Qd3 cb with
      | none=>
       have v:Qin cb = -1:=by unfold Qin;rw[hub]
       rw[hub] at a;have b:=m.o;rw[a] at b;have E:=zh b;rw[v];clear a b hua p hub v H M;go_wp2
       go_ret3
       rw[E.o];exact Qfs HB.o
      | some y=>
       have a2:=Qub hub;have v:Qin cb=(y:Int):=by unfold Qin;rw[hub]
       rw[hub] at a;rw[v];have dy:decide ((y:Int)<0)=false:=zo (by omega);obtain⟨z,hz⟩:=zzx (UInt8.ofNat (16*x+y))
       have ad:Q7 (wr.alloc (.cells #[.int .u8 (16*(x:Int)+(y:Int))] 5)) (.slice (some ⟨wr.heap.size,0,none⟩) 1 1) [z]:=by rw[show (16*(x:Int)+(y:Int))=((16*x+y:Nat):Int) by omega,Qll _ (by omega),<-hz];exact bytes1 (fz:=(0,0)) (Zv _ _ _ rfl)
       have a3:=Qdq ad;have P:Qay Qd3 D=(Qay Qd3 (D.drop (2*(j+1)))).map ((r ++ [z]) ++ ·):=by rw[a,hz];cases Qay Qd3 (D.drop (2*(j+1))) <;> simp
       have am:=zh P;clear a hua p hub v H M ad hz P;go_wp2;exact⟨⟨k+2,j+1,r ++ [z],zh (by have:=d.o;omega),by omega,by go_num,by rw[Qf7 r [z]],by simp;exact HR.o,am,HB.o.alloc HB.o.size _⟩,by simp[intOf];omega⟩
    have ag:j=8:=by have:=d.o;omega
    have A:=u.o;rw[Vx (by rw[ao.o];omega)] at A;have b:=m.o;rw[A] at b;have av:r.length=8:=by rw[HR.o];exact ag
    obtain⟨hh,N⟩:=zzx (Zi r)
    have ah:q=Qb4 l key.data.toList n hh:=by rw[b,N];simp[Qay]
    have ai:sOf r=HS hh:=by rw[N];exact Q98 av
    rw[ai];have U:=zh ah;clear A b u ag d N ai ah
    go_wp2_with fail
    refine (Qoh n hh key _ I hk).m ?_;rintro e w4⟨rfl,ac⟩;have R:=zh (HB.o.t (ac.m HB.o.size));have i:=U.o;unfold Qb4 at i;rw[zO] at i;obtain⟨t,ht⟩:=zzx (Jt n hh key.data.toList)
    rw[<-ht] at i ⊢;clear ht ac U;by_cases he:t=l
    .rw[zD he] at i
     have F:=zh i;subst he;clear i;go_wp2
     go_ret3
     rw[F.o];exact⟨rfl,R.o⟩
    rw[zw he] at i;have F:=zh i;have c6:(t == l)=false:=zl.2 he;clear i;go_wp2
    go_ret3
    rw[F.o];exact Qfs R.o
  rw[zw hgood] at g;have m:=zh g;clear g;by_cases hb:b3=true
  .have d1:decide ((s3.length:Int)<17)=true:=zF (by
    have:¬ 17<=s3.length:=λh=>hgood ⟨hb,h⟩
    omega)
   subst hb;clear hgood;go_wp2
   go_ret3
   rw[m.o];exact Qfs B.o
  have au:b3=false:=by simpa using hb
  subst au;clear hgood hb;go_wp2
  go_ret3
  rw[m.o];exact Qfs B.o
def p16(acc:Nat):Ud->Y Nat
 | []=>some acc
 | c :: r=>match Jx c with
  | none=>none
  | some d=>p16 (acc*16+d) r
def lowV(c:Ub):Int:=bits BinOp.or IntKind.u8 (c.toNat:Int) 32
theorem Q7n(c:Ub):(48<=c.toNat/\c.toNat<=57/\Jx c=some (c.toNat-48))∨
  (¬ (48<=c.toNat/\c.toNat<=57)/\c.toNat≠95/\97<=lowV c/\lowV c<=102/\Jx c=some (lowV c-87).toNat)∨
  (¬ (48<=c.toNat/\c.toNat<=57)/\¬ (97<=lowV c/\lowV c<=102)/\0<=lowV c/\lowV c<=255/\Jx c=none):=by
 have h:∀ n:Fin 256,(48<=(UInt8.ofNat n.1).toNat/\(UInt8.ofNat n.1).toNat<=57/\Jx (UInt8.ofNat n.1)=some ((UInt8.ofNat n.1).toNat-48))∨
  (¬ (48<=(UInt8.ofNat n.1).toNat/\(UInt8.ofNat n.1).toNat<=57)/\(UInt8.ofNat n.1).toNat≠95/\97<=lowV (UInt8.ofNat n.1)/\lowV (UInt8.ofNat n.1)<=102/\Jx (UInt8.ofNat n.1)=some (lowV (UInt8.ofNat n.1)-87).toNat)∨
  (¬ (48<=(UInt8.ofNat n.1).toNat/\(UInt8.ofNat n.1).toNat<=57)/\¬ (97<=lowV (UInt8.ofNat n.1)/\lowV (UInt8.ofNat n.1)<=102)/\0<=lowV (UInt8.ofNat n.1)/\lowV (UInt8.ofNat n.1)<=255/\Jx (UInt8.ofNat n.1)=none):=by decide +kernel
 have:=h ⟨c.toNat,c.toNat_lt⟩
 simpa using this
def Zeg(T:TypeId):Y Nat->J
 | some n=>.tuple #[.int .u64 n,.nilIface]
 | none=>.tuple #[.int .u64 0,.iface T (.int .i64 2)]
set_option maxHeartbeats 8000000 in
theorem Zcm(t:O)(z:t.size=2)(w:G):Calls prog 225 #[.string t,.int .i64 16,.int .i64 8] w λe w'=>e=.returned (Zeg 347 (p16 0 t.data.toList))/\w'=Lib.bytesWorld w 5 t:=by
 have H:t.toList.isEmpty=false:=by rw[<-decide_eq_emptyBytes];exact zo (λh=>by rw[h] at z;exact absurd z (by decide))
 have A:=Vp (P:=prog) w 9 147 5 t (u:=.string) underlying9 underlying147 underlying5;have hB:∀ j,j<t.size->(Lib.bytesWorld w 5 t).cell? ⟨w.heap.size,j,none⟩=some (.int .u8 (t.data.toList.getD j 0).toNat):=λj hj=>Lib.bytesWorld_cell w 5 t j hj
 obtain⟨W1,s⟩:=zzx (Lib.bytesWorld w 5 t)
 rw[<-s] at A hB ⊢;clear s;obtain⟨bs,hL⟩:=zzx t.data.toList
 have L:bs.length=2:=by rw[hL];simpa using z
 rw[<-hL] at hB ⊢;clear hL;have Q:IntKind.u64.wrap (IntKind.u64.wrap 256-1)=255:=by rw[IntKind.wrap_u64,IntKind.wrap_u64];decide
 obtain⟨res,l⟩:=zzx (p16 0 bs)
 rw[<-l];have v:=zh l;clear l
 go_enter func225,ntmps225
 go_wp2
 go_loop [12,13,101] (λvu vn vi=>∃ (k acc:Nat) (a:Int),vu=.bool false/\vn=.int .u64 a/\vi=.int .i64 k/\k<=2/\Hid (a=(acc:Int)/\acc<16 ^ k/\res=p16 acc (bs.drop k)))
  (λ_ _ vi=>2-(intOf vi).toNat)
 case atStart=>exact⟨0,0,0,rfl,rfl,rfl,by omega,zh ⟨rfl,by decide,v.o⟩⟩
 case round=>
  obtain⟨k,acc,a,rfl,rfl,rfl,hk,hh⟩:=hrel;obtain⟨ha,d,b⟩:=hh.o;clear hh;have q:16 ^ k<=256:=by
   have:k=0∨k=1∨k=2:=by omega
   rcases this with rfl|rfl|rfl <;> decide
  have a0:0<=a:=by omega
  have a1:a<=255:=by omega
  by_cases hkn:k<2
  .have hc:=hB k (by omega)
   have m:bs.drop k=bs[k]'(by omega) :: bs.drop (k+1):=zZ (by omega);have n:bs.getD k 0=bs[k]'(by omega):=by simp[List.getD,ze (show k<bs.length by omega)]
   have f:acc<=15:=by
    have:k=0∨k=1:=by omega
    rcases this with rfl|rfl <;> omega
   have g:16 ^ (k+1)=16 ^ k*16:=ZD 16 k;rw[m] at b;rw[n] at hc;generalize bs[k]'(by omega)=c at hc b;have F:c.toNat<256:=c.toNat_lt;unfold p16 at b;have ia:a<=15:=by omega
   clear hB m n q;have i:=Q7n c;obtain⟨lo,p⟩:=zzx (lowV c)
   rw[<-p] at i;have y:bits BinOp.or IntKind.u8 (c.toNat:Int) 32=lo:=p.symm;clear p;rcases i with⟨M,N,hg⟩|⟨E,K,C,D,hg⟩|⟨E,R,C,D,hg⟩
   .rw[hg] at b
    simp only at b;have HN:Hid (a*16+((c.toNat:Int)-48)=((acc*16+(c.toNat-48):Nat):Int)/\acc*16+(c.toNat-48)<16 ^ (k+1)/\res=p16 (acc*16+(c.toNat-48)) (bs.drop (k+1))):=zh ⟨by omega,by omega,b⟩;have j0:(48:Int)<=c.toNat:=by omega
    have j1:(c.toNat:Int)<=57:=by omega
    clear b hg ha d g f y;go_wp2;refine⟨⟨k+1,acc*16+(c.toNat-48),a*16+((c.toNat:Int)-48),rfl,(by first|rfl|(congr 1;omega)),(by first|rfl|(congr 1;omega)),by omega,HN⟩,by simp[intOf];omega⟩
   .rw[hg] at b
    simp only at b;have HN:Hid (a*16+(lo-97+10)=((acc*16+(lo-87).toNat:Nat):Int)/\acc*16+(lo-87).toNat<16 ^ (k+1)/\res=p16 (acc*16+(lo-87).toNat) (bs.drop (k+1))):=zh ⟨by omega,by omega,b⟩;have I:((c.toNat:Int) == 95)=false:=by rw[zl];omega
    clear b hg ha d g f
    go_wp2_with (go_at_call 253;refine (internal_strconv_lower _ _).m ?_;rintro e w'⟨rfl,rfl⟩)
    all_goals exact⟨⟨k+1,acc*16+(lo-87).toNat,a*16+(lo-97+10),rfl,rfl,rfl,by omega,HN⟩,by simp[intOf];omega⟩
   rw[hg] at b;simp only at b;clear hg ha d g f
   go_wp2_with (go_at_call 253;refine (internal_strconv_lower _ _).m ?_;rintro e w'⟨rfl,rfl⟩)
   all_goals go_ret2
   all_goals first|exact⟨rfl,rfl⟩|exact⟨by rw[b];rfl,rfl⟩
  have B:k=2:=by omega
  subst B;rw[V5 (by omega)] at b;unfold p16 at b;subst ha;clear d a0 a1 q;go_wp2;go_ret2
  first|exact⟨rfl,rfl⟩|exact⟨by rw[b];rfl,rfl⟩|exact⟨by subst b;rfl,rfl⟩
theorem Zcj(a b:Ub):p16 0 [a,b]=(Jx a).bind λx=>(Jx b).map λy=>16*x+y:=by
 unfold p16;cases Jx a with
 | none=>rfl
 | some x=>
  simp only[ZP];unfold p16;cases Jx b with
  | none=>rfl
  | some y=>
   simp only[xk];unfold p16
   congr 1
   omega
theorem Q8m(a b:Ub)(w:G)(j:Z5 w):Calls prog 177 #[.string (sOf [a,b]),.int .i64 16,.int .i64 8] w λe w'=>Bz w w'/\match (Jx a).bind λx=>(Jx b).map λy=>16*x+y with
   | some n=>e=.returned (.tuple #[.int .u64 n,.nilIface])
   | none=>∃ T p,e=.returned (.tuple #[.int .u64 0,.iface T p]):=by
 obtain⟨_,_,⟨ev,d,i⟩,_⟩:=j
 have hI:=Zcm (sOf [a,b]) (by rw[Y1];rfl) w
 rw[show (sOf [a,b]).data.toList = [a,b] from rfl,Zcj] at hI
 obtain⟨r,hr⟩:=zzx ((Jx a).bind λx=>(Jx b).map λy=>16*x+y)
 rw[<-hr] at hI ⊢
 clear hr
 cases r with
 | some n=>
  have c:Calls prog 225 #[.string (sOf [a,b]),.int .i64 16,.int .i64 8] w λe w'=>e=.returned (.tuple #[.int .u64 n,.nilIface])/\w'=Lib.bytesWorld w 5 (sOf [a,b]):=hI
  clear hI
  go_enter func177,ntmps177
  go_wp2_with (go_at_call 225;refine c.m ?_;rintro e w1⟨rfl,rfl⟩)
  go_ret2
  exact⟨Xl _ _ _,rfl⟩
 | none=>
  have c:Calls prog 225 #[.string (sOf [a,b]),.int .i64 16,.int .i64 8] w λe w'=>e=.returned (.tuple #[.int .u64 0,.iface 347 (.int .i64 2)])/\w'=Lib.bytesWorld w 5 (sOf [a,b]):=hI
  have hb:=Xl w 5 (sOf [a,b])
  have f:=(hb.cell (Qj d)).t d
  have HB:=zh hb
  have g:=zh f
  clear hI hb f d
  go_enter func177,ntmps177
  go_wp2_with (go_at_call 225;refine c.m ?_;rintro e w1⟨rfl,rfl⟩)
  refine (strconv_toError_syntax ⟨#[80,97,114,115,101,85,105,110,116]⟩ (sOf [a,b]) 16 8 ev _ (by rw[Y1];simp) g.o i).m ?_
  rintro e w2⟨N,rfl,_,_,h⟩
  go_wp2
  go_ret2
  exact⟨HB.o.t (h.m HB.o.size),_,_,rfl⟩
abbrev Zdp(q:Qox):J:=.tuple #[trV q.1 q.2.1,.bool q.2.2]
def Qi6(q:Qox)(w:G)(e:Ua)(w':G):Prop:=e=.returned (Zdp q)/\Bz w w'
theorem Qvs{c:Ub}{m:Nat}(h:Jx c=some m):m<16:=by
 unfold Jx at h
 split at h
 .cases h;omega
 split at h
 .cases h;omega
 split at h
 .cases h;omega
 cases h
set_option maxHeartbeats 8000000 in
theorem Qmf(s key:O)(w:G)(hs:s.size<=1048576)(hk:key.size<=9223372036854775807)(hE:Z5 w):Calls prog 137 #[.string s,.string key] w (Qi6 (Zy s.data.toList key.data.toList) w):=by
 obtain⟨l,hl⟩:=zzx s.data.toList
 have ax:s=sOf l:=by rw[hl,J9]
 have be:l.length<=1048576:=by rw[hl];simpa using hs
 clear hl hs;subst ax;obtain⟨q,hq⟩:=zzx (Zy l key.data.toList)
 show Calls prog 137 #[.string (sOf l),.string key] w (Qi6 (Zy l key.data.toList) w);rw[<-hq];have b0:=Qa w (.cells (trC 0 Zb) 145);have T0:Qcl (w.alloc (.cells (trC 0 Zb) 145)) w.heap.size 0 Zb:=zy w _;obtain⟨HQ,aj,ai,am⟩:=zh4 hq (hE.j b0) b0 T0;clear hq b0 T0
 go_enter func137,ntmps137
 go_wp2_with fail
 refine (Q10 (sOf l) _ (by rw[Y1];exact be) aj.o).m ?_;rintro e w1⟨v,Ls,rfl,hL,ab,R⟩;rw[show (sOf l).data.toList=l from rfl] at ab;have ae:=HQ.o;unfold Zy at ae;rw[<-ab] at ae;obtain⟨a1,n1,k1,rfl,au⟩:∃ a n c,v=.slice a n c/\n=Ls.length:=by obtain⟨a,c,h1,_⟩:=hL;exact⟨a,_,c,h1,rfl⟩
 obtain⟨z0,z1,z2,z3,z4,z5,z6,z7,z8⟩:=(am.o.j R).cells;obtain⟨C,az,Q,HL,bi,bg,L⟩:=zh7 (am.o.j R) (aj.o.j R) (ai.o.t (R.m ai.o.size)) hL ab hE ae;clear HQ ae ab R hL ai aj am hE;by_cases h5:n1=5
 .obtain⟨L0,L1,L2,L3,L4,rfl⟩:∃ a b c d e,Ls = [a,b,c,d,e]:=by
   match Ls,au.symm.t h5 with
   | [a,b,c,d,e],_=>exact⟨a,b,c,d,e,rfl⟩
  subst h5;clear au;obtain⟨bl,ol,rfl,ap⟩:∃ b o,a1=some ⟨b,o,none⟩/\∀ j x,([L0,L1,L2,L3,L4].map Value.string)[j]?=some x->w1.cell? ⟨b,o+j,none⟩=some x:=by obtain⟨a',c',hv,_,hc⟩:=HL.o;cases hv;obtain⟨b,o,hb,_⟩:=hc 0 (.string L0) rfl;refine⟨b,o,hb,λj x hx=>?_⟩;obtain⟨b',o',a4,aw⟩:=hc j x hx;rw[hb] at a4;cases a4;exact aw
  have m1:=ap 1 (.string L1) rfl;have m2:=ap 2 (.string L2) rfl;clear ap HL z0 z1 z2 z3 z4 z5 z6 z7 z8;have b2:=Q.o.size;by_cases h16:L2.size=16
  .have bp:((L2.size:Int) != 16)=false:=by rw[h16];rfl
   have A:q=match Qfl L1.data.toList with
     | none=>J2
     | some n=>if n<0 then J2 else match Qay Jx L2.data.toList with
      | none=>J2
      | some b=>Qb4 l key.data.toList n (Zi b):=by
    rw[L.o];show Qiu l key.data.toList [L0.data.toList,L1.data.toList,L2.data.toList,L3.data.toList,L4.data.toList]=_;show (if L2.data.toList.length≠16 then J2 else _)=_;rw[zw (by simpa using h16)] <;> rfl
   have M:=zh A;have bq:L1.size<=1048576:=by
    have:=Q1f l L1.data.toList (by rw[<-bi.o];simp[lists])
    simp at this;omega
   clear A L
   go_wp2_with fail
   refine (Qod L1 _ bq az.o).m ?_;rintro e w2⟨v,ev,rfl,hv,S⟩;have m:=M.o;obtain⟨z,Z,b1⟩:=zh3 (C.o.j S) (Q.o.t (S.m Q.o.size)) (az.o.j S);have ah:=(S.cell (Qj m2)).t m2;clear S m1 m2 M;rcases hv with⟨hv,rfl⟩|⟨hv,T,p,rfl⟩
   .rw[hv] at m
    simp only at m;have e0:=Y2 w2;have b7:=Qn4 hv;by_cases h0:v<0
    .have hd:decide (v<0)=true:=zF h0
     rw[zD h0] at m;have B:=zh m;clear m hv h0
     go_wp2_with (first|refine Je rfl _ rfl _ rfl _ _ z.o ?_|refine Z8 rfl _ _ rfl _ 0 Zb rfl rfl _ _ z.o ?_)
     refine retT w.heap.size 0 Zb (.bool false) rfl rfl rfl (z.o.set _ _) rfl ⟨?_,zC Z.o (zg _) _⟩;rw[B.o];rfl
    have hd:decide (v<0)=false:=zo h0;rw[zw h0] at m;have B:=zh m;clear m hv;have b3:w.heap.size<w2.heap.size:=Qb z.o;have bw:bl<w2.heap.size:=Qj ah;have bA:=Qa w2 (.cells (trC v Zb) 145);have TA:Qcl (w2.alloc (.cells (trC v Zb) 145)) w2.heap.size v Zb:=zy w2 _;obtain⟨Wb,ac⟩:=zzx (w2.alloc (.cells (trC v Zb) 145))
    have m3:=(bA.cell (Qj ah)).t ah;have T4:=z.o.j bA;have B4:=Z.o.t (bA.m Z.o.size);have b6:w2.heap.size<Wb.heap.size:=by rw[ac];simp
    rw[<-ac] at TA m3 T4 B4;obtain⟨bn,bk,ay,bj,bo⟩:=zh5 TA T4 B4 m3 ac;have bu:L2.data.toList.length=16:=by simpa using h16
    have HU:=zh (show Qay Jx L2.data.toList=(Qay Jx (L2.data.toList.drop 0)).map ([] ++ ·) by simp);clear bA TA m3 T4 B4 ac ah
    go_wp2_with fail
    rw[show w2.alloc (.cells #[.int .i64 v,.int .u8 0,.int .u8 0,.int .u8 0,.int .u8 0,.int .u8 0,.int .u8 0,.int .u8 0,.int .u8 0] 145)=Wb from bo.o.symm]
    go_loopw [42] (λvi wr=>∃ (k:Nat) (r:Ud),k<=8/\vi=.int .i64 k/\r.length=k/\Hid (Qay Jx L2.data.toList=(Qay Jx (L2.data.toList.drop (2*k))).map (r ++ ·))/\Hid (Wb.grownBy wr (some w2.heap.size))/\Hid (Qcl wr w2.heap.size v (Zi r))) (λvi _=>8-(intOf vi).toNat)
    case atStart=>exact⟨0,[],by omega,rfl,rfl,HU,zh (Qha (zu _ _) _),bn⟩
    case round=>
     obtain⟨k,r,b4,rfl,ag,N,U,H⟩:=hrel;have hB:Bz w wr:=ay.o.grown U.o ay.o.size (λj hj=>by have:=zR hj;omega);obtain⟨K,a0⟩:=zh2 hB (bg.o.j hB);have m4:wr.cell? ⟨bl,ol+2,none⟩=some (.string L2):=(vH (a:=⟨bl,ol+2,none⟩) (U.o.block bl (by omega) (λe=>by have:=zR e;omega))).t bj.o;have V:=zh (show Qcl wr w.heap.size 0 Zb from (U.o.block w.heap.size (by omega) (λe=>by have:=zR e;omega)).t bk.o);clear hB;by_cases hlt:k<8
     .obtain⟨a,b,an⟩:∃ a b,L2.data.toList.drop (2*k)=a :: b :: L2.data.toList.drop (2*(k+1)):=by refine⟨L2.data.toList[2*k]'(by omega),L2.data.toList[2*k+1]'(by omega),?_⟩;rw[zZ (by omega),zZ (i:=2*k+1) (by omega)];rfl
      have X:L2.extract (2*k) (2*k+2)=sOf [a,b]:=by
       rw[<-J9 (L2.extract (2*k) (2*k+2))]
       congr 1
       have:(L2.extract (2*k) (2*k+2)).data.toList=(L2.data.toList.drop (2*k)).take 2:=by simp
       rw[this,an];rfl
      have f:=N.o;rw[an,Qp7] at f;have P:=Q8m a b wr a0.o;obtain⟨ao,aq⟩:=H.o.at (by omega);obtain⟨aa,b5⟩:=zh2 f ag;clear N f an
      go_wp2_with fail
      have f:=aa.o;cases hua:Jx a with
      | none=>
       rw[hua] at P f;simp only[Option.bind_none,zai] at P f;refine P.m ?_;rintro e w3⟨g,T,p,rfl⟩;have u:=B.o;rw[f] at u;obtain⟨ak,E,I⟩:=zh3 u (V.o.j g) (K.o.t (g.m K.o.size));have e1:=Qam w3 T p;clear g f u P hua aa ao aq m4 X
       go_wp2_with (first|refine Je rfl _ rfl _ rfl _ _ E.o ?_|refine Z8 rfl _ _ rfl _ 0 Zb rfl rfl _ _ E.o ?_)
       refine retT w.heap.size 0 Zb (.bool false) rfl rfl rfl (E.o.set _ _) rfl ⟨?_,zC I.o (zg _) _⟩;rw[ak.o];rfl
      | some x=>
       cases hub:Jx b with
       | none=>
        rw[hua,hub] at P f;simp only[ZP,zai,Option.bind_none] at P f;refine P.m ?_;rintro e w3⟨g,T,p,rfl⟩;have u:=B.o;rw[f] at u;obtain⟨ak,E,I⟩:=zh3 u (V.o.j g) (K.o.t (g.m K.o.size));have e1:=Qam w3 T p;clear g f u P hua hub aa ao aq m4 X
        go_wp2_with (first|refine Je rfl _ rfl _ rfl _ _ E.o ?_|refine Z8 rfl _ _ rfl _ 0 Zb rfl rfl _ _ E.o ?_)
        refine retT w.heap.size 0 Zb (.bool false) rfl rfl rfl (E.o.set _ _) rfl ⟨?_,zC I.o (zg _) _⟩;rw[ak.o];rfl
       | some y=>
        rw[hua,hub] at P f;simp only[ZP,xk] at P f;obtain⟨zb,a7,a8⟩:∃ zb:Ub,16*x+y=zb.toNat/\UInt8.ofNat (16*x+y)=zb:=by refine⟨UInt8.ofNat (16*x+y),?_,rfl⟩;have h1:=Qvs hua;have h2:=Qvs hub;rw[V3];omega
        rw[a7] at P;rw[a8] at f;have av:Qay Jx L2.data.toList=(Qay Jx (L2.data.toList.drop (2*(k+1)))).map ((r ++ [zb]) ++ ·):=by rw[f];cases Qay Jx (L2.data.toList.drop (2*(k+1))) <;> simp
        have a9:=zh av;have b8:=zb.toNat_lt;refine P.m ?_;rintro e w3⟨g,rfl⟩;have bm:=zh (H.o.j g);obtain⟨⟨y0,bc⟩,bd⟩:=(H.o.j g).at (by omega);rw[ag] at bc bd;have bh:=zh (Qbn U.o (Qha g _));have e1:=Y2 w3;clear g f P hua hub aa ao aq m4 X a7 a8 av H U;go_wp2;refine⟨⟨k+1,r ++ [zb],by omega,rfl,by simp;exact ag,a9,zh (Qbn bh.o (Qpv w3 ⟨w2.heap.size,1+k,none⟩ _)),zh ?_⟩,by simp[intOf];omega⟩
        have:=bm.o.step zb (by omega)
        rw[ag] at this;exact this
     have bz:k=8:=by omega
     have W:=N.o;rw[Vx (by omega)] at W;have u:=B.o;rw[W] at u;obtain⟨vn,bt⟩:∃ n:Nat,v=n:=⟨v.toNat,by omega⟩
     subst bt;obtain⟨hh,ar⟩:=zzx (Zi r)
     have a5:q=Qb4 l key.data.toList vn hh:=by rw[u,ar];simp[Qay]
     rw[<-ar] at H;have a3:=zh H.o;have af:=a5;unfold Qb4 at af;rw[zO] at af;have a2:=zh af;have bf:vn<9223372036854775808:=by omega
     clear W u ar a5 af N H
     go_wp2_with (refine Je rfl _ rfl _ rfl _ _ a3.o ?_)
     refine (Qo4 vn hh key _ bf hk a0.o).m ?_;rintro e w5⟨rfl,ad⟩;obtain⟨ba,D,I⟩:=zh3 (a3.o.j ad) (V.o.j ad) (K.o.t (ad.m K.o.size));have F:=a2.o;obtain⟨tx,a6⟩:=zzx (Jt vn hh key.data.toList)
     rw[<-a6] at F ⊢;clear a6 ad a2 m4;by_cases he:tx=l
     .rw[zD he] at F
      have al:=zh F;subst he;clear F
      go_wp2_with (first|refine Je rfl _ rfl _ rfl _ _ ba.o ?_|refine Z8 rfl _ _ rfl _ vn hh rfl rfl _ _ D.o ?_)
      refine retT w.heap.size vn hh (.bool true) rfl rfl rfl (D.o.set _ _) rfl ⟨?_,zC I.o (zg _) _⟩;rw[al.o]
     rw[zw he] at F;have al:=zh F;have c6:(tx == l)=false:=zl.2 he;clear F
     go_wp2_with (first|refine Je rfl _ rfl _ rfl _ _ D.o ?_|refine Z8 rfl _ _ rfl _ 0 Zb rfl rfl _ _ D.o ?_)
     refine retT w.heap.size 0 Zb (.bool false) rfl rfl rfl (D.o.set _ _) rfl ⟨?_,zC I.o (zg _) _⟩;rw[al.o];rfl
   rw[hv] at m;simp only at m;have e0:=Qam w2 T p;have B:=zh m;clear m hv
   go_wp2_with (first|refine Je rfl _ rfl _ rfl _ _ z.o ?_|refine Z8 rfl _ _ rfl _ 0 Zb rfl rfl _ _ z.o ?_)
   refine retT w.heap.size 0 Zb (.bool false) rfl rfl rfl (z.o.set _ _) rfl ⟨?_,zC Z.o (zg _) _⟩;rw[B.o];rfl
  have bp:((L2.size:Int) != 16)=true:=by simp;omega
  have A:q=J2:=by rw[L.o];show (if L2.data.toList.length≠16 then J2 else _)=_;rw[zD (by simpa using h16)]
  have M:=zh A;clear A L
  go_wp2_with (first|refine Je rfl _ rfl _ rfl _ _ C.o ?_|refine Z8 rfl _ _ rfl _ 0 Zb rfl rfl _ _ C.o ?_)
  refine retT w.heap.size 0 Zb (.bool false) rfl rfl rfl (C.o.set _ _) rfl ⟨?_,zC Q.o (zg _) _⟩;rw[M.o];rfl
 have d5:((n1:Int) != 5)=true:=by simp;omega
 have A:q=J2:=by
  rw[L.o]
  match Ls,au with
  | [],_=>rfl
  | [_],_=>rfl
  | [_,_],_=>rfl
  | [_,_,_],_=>rfl
  | [_,_,_,_],_=>rfl
  | [_,_,_,_,_],h=>exact absurd h h5
  | _ :: _ :: _ :: _ :: _ :: _ :: _,_=>rfl
 have M:=zh A;clear A L z0 z1 z2 z3 z4 z5 z6 z7 z8
 go_wp2_with (first|refine Je rfl _ rfl _ rfl _ _ C.o ?_|refine Z8 rfl _ _ rfl _ 0 Zb rfl rfl _ _ C.o ?_)
 refine retT w.heap.size 0 Zb (.bool false) rfl rfl rfl (C.o.set _ _) rfl ⟨?_,zC Q.o (zg _) _⟩;rw[M.o];rfl
end Go.Proofs.YtefccfakhgdfbaaGreatDoor
