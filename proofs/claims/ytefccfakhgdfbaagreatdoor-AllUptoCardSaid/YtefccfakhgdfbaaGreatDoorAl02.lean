/- Lemmas of the proof of All; their conditions stand in them. -/
import Derived.Test.YtefccfakhgdfbaaGreatDoorAl01
import Derived.Deep.RegionHeld3
import Derived.Deep.DeepCutAuto
set_option linter.unusedVariables false
set_option linter.unusedSimpArgs false
open Go.RowKit Go.Proofs.Tryz
set_option maxRecDepth 100000
set_option maxHeartbeats 4000000
namespace Go.Proofs.YtefccfakhgdfbaaGreatDoor
theorem Qu7(f:Nat):∀ (ss:List O) (v:J) (i:Nat) (w:G),ss.length<=f->Zj w v ss->ss.length<=1048576->(∀ s∈ss,s.size<=1048576)->i<ss.length->
  Calls prog 41 #[v,.int .i64 i] w λe w'=>∃ v',e=.returned v'/\Qq w' w.heap.size v' ((Y8 (lists ss) i).map HS)/\Bz w w':=by
 induction f with
 | zero=>intro ss v i w hf h hl hs hi;omega
 | succ f ih=>
  intro ss v i w hf h hl hs hi;obtain⟨a,c,hv,N,hc⟩:=id h;obtain⟨s0,H⟩:∃ s,ss[0]?=some s:=⟨_,ze (by omega)⟩
  obtain⟨g,off,rfl,_⟩:=hc 0 (.string s0) (by simp[H]);clear hc H;subst hv;obtain⟨n,hn⟩:=zzx ss.length
  obtain⟨i0,K,C,E,F⟩:=ZZ Qb3;by_cases h1:n=1
  .have hp:Y8 (lists ss) i = []:=Qlz (by simp[lists];omega) i
   rw[hp,<-hn,h1];clear hf h hl hs hi hn h1 hp ih
   go_enter func41,ntmps41
   go_wp2
   go_ret;exact⟨_,rfl,zv _ _ _ _,zu _ _⟩
  have P:=Qgg (n:=n) (by omega) (by omega);have Q:=Yh (n:=n) (by omega);have p:=Qgj (l:=lists ss) (by simp[lists];omega) i;have I:(lists ss).length=n:=by simp[lists];omega
  have M:∀ m,(lists ss).take m=lists (ss.take m):=λm=>by simp[lists]
  have L:∀ m,(lists ss).drop m=lists (ss.drop m):=λm=>by simp[lists]
  rw[I,M,L] at p;obtain⟨k,hk⟩:=zzx (below n)
  rw[<-hk] at P Q p;obtain⟨T,D,y,HK,IH⟩:=zh5 (Qkv h (by omega:k<=ss.length)) (Qhw h (by omega:k<=ss.length)) hs hk ih;clear h hs hk ih I M L;rw[<-hn] at D N hi ⊢;have HN:=zh hn;have S:n<=f+1:=by omega
  have U:n<=1048576:=by omega
  clear hf hl;have d1:((n:Int) == 1)=false:=by rw[zl];omega
  by_cases hik:i<k
  .have hd:decide ((i:Int)<(k:Int))=true:=zF (by omega)
   have r:Y8 (lists ss) i=Y8 (lists (ss.take k)) i ++ [rootOf (lists (ss.drop k))]:=by rw[p,zD (by omega)]
   have B:(Y8 (lists (ss.take k)) i).length<=1048576:=zi (Qa0 _ _) (by simp[lists];omega);have HP:=zh r;clear r p hn
   go_enter func41,ntmps41
   go_wp2_with fail
   refine (J3 n _ (by omega) (by omega)).m ?_;rintro e w0⟨rfl,rfl⟩;rw[zO,<-HK.o]
   go_wp2_with fail
   refine (IH.o (ss.take k) _ i _ (by simp;have:=HN.o;omega) T.o (by simp;have:=HN.o;omega) (λs hs=>y.o s (zQ hs)) (by simp;have:=HN.o;omega)).m ?_;rintro e w1⟨v1,rfl,q,b⟩
   go_wp2_with fail
   refine (Qaz _ (ss.drop k) _ _ (zg _) (D.o.j b) (by simp;have:=HN.o;omega) (λs hs=>y.o s (ZF hs))).m ?_;rintro e w2⟨rfl,d⟩;obtain⟨HO,HB⟩:=zh2 (Qn q d) (b.t (d.m b.size));clear q b d
   go_wp2_with (first|at_builtin;refine Yo rfl _ _ 22 rfl w.heap.size 9 i0 (.string ⟨#[]⟩) 16 underlying22 K C E F rfl (by decide) _ _ _ rfl HO.o _ rfl rfl (by rw[zA];omega) HB.o.size ?_;intro v2 w3 t u x;obtain⟨A,z⟩:=zh2 t u;clear t u x|fail)
   go_ret;refine⟨_,rfl,?_,HB.o.grown z.o HB.o.size (λj hj=>(HO.o.lt j hj).1)⟩;rw[HP.o,zL];unfold Qq;simpa using A.o
  have hd:decide ((i:Int)<(k:Int))=false:=zo (by omega);have r:Y8 (lists ss) i=Y8 (lists (ss.drop k)) (i-k) ++ [rootOf (lists (ss.take k))]:=by rw[p,zw (by omega)]
  have B:(Y8 (lists (ss.drop k)) (i-k)).length<=1048576:=zi (Qa0 _ _) (by simp[lists];omega);have HP:=zh r;have R:(i:Int)-(k:Int)=((i-k:Nat):Int):=by omega
  clear r p hn
  go_enter func41,ntmps41
  go_wp2_with fail
  refine (J3 n _ (by omega) (by omega)).m ?_;rintro e w0⟨rfl,rfl⟩;rw[zO,<-HK.o]
  go_wp2_with fail
  refine (IH.o (ss.drop k) _ (i-k) _ (by simp;have:=HN.o;omega) D.o (by simp;have:=HN.o;omega) (λs hs=>y.o s (ZF hs)) (by simp;have:=HN.o;omega)).m ?_;rintro e w1⟨v1,rfl,q,b⟩
  go_wp2_with fail
  refine (Qaz _ (ss.take k) _ _ (zg _) (T.o.j b) (by simp;have:=HN.o;omega) (λs hs=>y.o s (zQ hs))).m ?_;rintro e w2⟨rfl,d⟩;obtain⟨HO,HB⟩:=zh2 (Qn q d) (b.t (d.m b.size));clear q b d
  go_wp2_with (first|at_builtin;refine Yo rfl _ _ 22 rfl w.heap.size 9 i0 (.string ⟨#[]⟩) 16 underlying22 K C E F rfl (by decide) _ _ _ rfl HO.o _ rfl rfl (by rw[zA];omega) HB.o.size ?_;intro v2 w3 t u x;obtain⟨A,z⟩:=zh2 t u;clear t u x|fail)
  go_ret;refine⟨_,rfl,?_,HB.o.grown z.o HB.o.size (λj hj=>(HO.o.lt j hj).1)⟩;rw[HP.o,zL];unfold Qq;simpa using A.o
theorem Qp2(f:Nat):∀ (ss:List O) (v:J) (i:Nat) (b:Bool) (w:G),ss.length<=f->Zj w v ss->ss.length<=1048576->(∀ s∈ss,s.size<=1048576)->1<=i->i<=ss.length->
  Calls prog 46 #[.int .i64 i,v,.bool b] w λe w'=>∃ v',e=.returned v'/\Qq w' w.heap.size v' ((Y5 i (lists ss) b).map HS)/\Bz w w':=by
 induction f with
 | zero=>intro ss v i b w hf h hl hs N hi;omega
 | succ f ih=>
  intro ss v i b w hf h hl hs N hi;obtain⟨a,c,hv,Q,hc⟩:=id h;obtain⟨s0,I⟩:∃ s,ss[0]?=some s:=⟨_,ze (by omega)⟩
  obtain⟨g,off,rfl,_⟩:=hc 0 (.string s0) (by simp[I]);clear hc I;subst hv;obtain⟨n,hn⟩:=zzx ss.length
  obtain⟨i0,L,E,F,H⟩:=ZZ Qb3;by_cases h1:i=n
  .have hp:Y5 i (lists ss) b=if b then [] else [rootOf (lists ss)]:=by
    have:=Qi7 (lists ss) b (by simp[lists];omega)
    rw[show (lists ss).length=i by simp[lists];omega] at this;exact this
   rw[hp];obtain⟨h',q⟩:=zh2 h hs;rw[<-hn] at h';have HN:=zh hn;have hI:(i:Int)=(n:Int):=by omega
   rw[<-hn,hI];cases b
   .clear hf h hs hi hn hp ih
    go_enter func46,ntmps46
    go_wp2_with fail
    refine (Qaz _ ss _ _ (zg _) h'.o hl q.o).m ?_;rintro e w2⟨rfl,d⟩;have HB:=zh d;clear d
    go_wp2
    go_ret;refine⟨_,rfl,?_,HB.o.alloc HB.o.size _⟩;exact XL _ _ _ HB.o.size (by decide) rfl
   clear hf h hs hi hn hp ih
   go_enter func46,ntmps46
   go_wp2
   go_ret;exact⟨_,rfl,zv _ _ _ _,zu _ _⟩
  have R:=Qgg (n:=n) (by omega) (by omega);have S:=Yh (n:=n) (by omega);have r:=Qgb (l:=lists ss) (m:=i) N (by simp[lists];omega) b;have K:(lists ss).length=n:=by simp[lists];omega
  have P:∀ m,(lists ss).take m=lists (ss.take m):=λm=>by simp[lists]
  have M:∀ m,(lists ss).drop m=lists (ss.drop m):=λm=>by simp[lists]
  rw[K,P,M] at r;obtain⟨k,hk⟩:=zzx (below n)
  rw[<-hk] at R S r;obtain⟨T,D,q,HK,IH⟩:=zh5 (Qkv h (by omega:k<=ss.length)) (Qhw h (by omega:k<=ss.length)) hs hk ih;clear h hs hk ih K P M;rw[<-hn] at D Q hi ⊢;have HN:=zh hn;have V:n<=f+1:=by omega
  have W:n<=1048576:=by omega
  clear hf hl;have d1:((i:Int) == (n:Int))=false:=by rw[zl];omega
  by_cases hik:i<=k
  .have hd:decide ((i:Int)<=(k:Int))=true:=zF (by omega)
   have u:Y5 i (lists ss) b=Y5 i (lists (ss.take k)) b ++ [rootOf (lists (ss.drop k))]:=by rw[r,zD (by omega)]
   have C:(Y5 i (lists (ss.take k)) b).length<=1048576:=zi (Qak _ _ _) (by simp[lists];omega);have HP:=zh u;clear u r hn
   go_enter func46,ntmps46
   go_wp2_with fail
   refine (J3 n _ (by omega) (by omega)).m ?_;rintro e w0⟨rfl,rfl⟩;rw[zO,<-HK.o]
   go_wp2_with fail
   refine (IH.o (ss.take k) _ i b _ (by simp;have:=HN.o;omega) T.o (by simp;have:=HN.o;omega) (λs hs=>q.o s (zQ hs)) (by omega) (by simp;have:=HN.o;omega)).m ?_;rintro e w1⟨v1,rfl,t,p⟩
   go_wp2_with fail
   refine (Qaz _ (ss.drop k) _ _ (zg _) (D.o.j p) (by simp;have:=HN.o;omega) (λs hs=>q.o s (ZF hs))).m ?_;rintro e w2⟨rfl,d⟩;obtain⟨HO,HB⟩:=zh2 (Qn t d) (p.t (d.m p.size));clear t p d
   go_wp2_with (first|at_builtin;refine Yo rfl _ _ 22 rfl w.heap.size 9 i0 (.string ⟨#[]⟩) 16 underlying22 L E F H rfl (by decide) _ _ _ rfl HO.o _ rfl rfl (by rw[zA];omega) HB.o.size ?_;intro v2 w3 x y z;obtain⟨B,A⟩:=zh2 x y;clear x y z|fail)
   go_ret;refine⟨_,rfl,?_,HB.o.grown A.o HB.o.size (λj hj=>(HO.o.lt j hj).1)⟩;rw[HP.o,zL];unfold Qq;simpa using B.o
  have hd:decide ((i:Int)<=(k:Int))=false:=zo (by omega);have u:Y5 i (lists ss) b=Y5 (i-k) (lists (ss.drop k)) false ++ [rootOf (lists (ss.take k))]:=by rw[r,zw (by omega)]
  have C:(Y5 (i-k) (lists (ss.drop k)) false).length<=1048576:=zi (Qak _ _ _) (by simp[lists];omega);have HP:=zh u;have U:(i:Int)-(k:Int)=((i-k:Nat):Int):=by omega
  clear u r hn
  go_enter func46,ntmps46
  go_wp2_with fail
  refine (J3 n _ (by omega) (by omega)).m ?_;rintro e w0⟨rfl,rfl⟩;rw[zO,<-HK.o]
  go_wp2_with fail
  refine (IH.o (ss.drop k) _ (i-k) false _ (by simp;have:=HN.o;omega) D.o (by simp;have:=HN.o;omega) (λs hs=>q.o s (ZF hs)) (by omega) (by simp;have:=HN.o;omega)).m ?_;rintro e w1⟨v1,rfl,t,p⟩
  go_wp2_with fail
  refine (Qaz _ (ss.take k) _ _ (zg _) (T.o.j p) (by simp;have:=HN.o;omega) (λs hs=>q.o s (zQ hs))).m ?_;rintro e w2⟨rfl,d⟩;obtain⟨HO,HB⟩:=zh2 (Qn t d) (p.t (d.m p.size));clear t p d
  go_wp2_with (first|at_builtin;refine Yo rfl _ _ 22 rfl w.heap.size 9 i0 (.string ⟨#[]⟩) 16 underlying22 L E F H rfl (by decide) _ _ _ rfl HO.o _ rfl rfl (by rw[zA];omega) HB.o.size ?_;intro v2 w3 x y z;obtain⟨B,A⟩:=zh2 x y;clear x y z|fail)
  go_ret;refine⟨_,rfl,?_,HB.o.grown A.o HB.o.size (λj hj=>(HO.o.lt j hj).1)⟩;rw[HP.o,zL];unfold Qq;simpa using B.o
theorem Qdl(j g:J)(s1 s2:List O)(w:G)(v:Zj w j s1)(u:Zj w g s2)(F:s1.length<=1048576):Calls prog 35 #[j,g] w λe w'=>e=.returned (.bool (decide (s1=s2)))/\Bz w w':=by
 obtain⟨a1,c1,rfl,q,c⟩:=v;obtain⟨a2,c2,rfl,p,b⟩:=u;by_cases hl:s1.length=s2.length
 .have hd:((s1.length:Int) != (s2.length:Int))=false:=by rw[hl];simp
  obtain⟨H1,H2,HL⟩:=zh3 c b hl;have B:s2.length<=1048576:=by omega
  clear c b hl
  go_enter func35,ntmps35
  go_wp2
  go_loopw [5] (λi wr=>∃ (k n:Nat),k<=s1.length/\i=.int .i64 k/\wr=w.drewN n/\s1.take k=s2.take k) (λi _=>s1.length-(intOf i).toNat)
  case atStart=>exact⟨0,0,by omega,rfl,rfl,rfl⟩
  case round=>
   obtain⟨k,nd,hk,rfl,rfl,d⟩:=hrel;have f:=zh d;clear d;by_cases hlt:k<s1.length
   .obtain⟨x,hx⟩:∃ s,s1[k]?=some s:=⟨_,ze hlt⟩
    obtain⟨y,hy⟩:∃ s,s2[k]?=some s:=⟨_,ze (by rw[<-HL.o];exact hlt)⟩
    obtain⟨b1,z,rfl,r⟩:=H1.o k (.string x) (by simp[hx]);obtain⟨b2,t,rfl,m⟩:=H2.o k (.string y) (by simp[hy]);have A:k<s2.length:=by rw[<-HL.o];exact hlt
    obtain⟨HX,HY⟩:=zh2 hx hy;have E:(0:Int)<=(k:Int):=by omega
    have C:(k:Int)<(s1.length:Int):=by omega
    have D:(k:Int)<(s2.length:Int):=by omega
    clear hx hy;go_wp2
    go_quiet (fail)
    go_wp2
    .have a:(!x.toList == y.toList)=true:=by assumption
     go_ret;refine⟨Yi ?_,Q8 (Q8 (zu _ _) _) _⟩;rw[eq_comm,VO];rintro rfl
     have:=HX.o
     rw[HY.o] at this;cases this;simp at a
    have a:(!x.toList == y.toList)=false:=by assumption
    have l:x=y:=by rw[Vj,Vj] at a;exact VP (by simpa using a)
    subst l;go_roundw
    case rel=>exact⟨k+1,_,by omega,by go_num,rfl,by rw[zY,zY,f.o,HX.o,HY.o]⟩
    case measure=>simp[intOf];omega
   go_wp2;go_ret;have e1:s1.take k=s1:=zk (by omega);have e2:s2.take k=s2:=zk (by rw[<-HL.o];omega);exact⟨Yi (by rw[eq_comm,xp,<-e1,<-e2];exact f.o),Q8 (zu _ _) _⟩
 have hd:((s1.length:Int) != (s2.length:Int))=true:=by rw[bne_iff_ne];omega
 clear c b
 go_enter func35,ntmps35
 go_wp2;go_ret;exact⟨Yi (by rw[eq_comm,VO];intro h;exact hl (by rw[h])),zu _ _⟩
theorem Qdq{w:G}{v:J}{l:Ud}(e:Q7 w v l):Sem.run prog (convert 147 9 v) w=.ok (.string ⟨l.toArray⟩) w:=by
 obtain⟨ad,c,rfl,_,hc⟩:=e;cases l with
 | nil=>
  have h:=XI (P:=prog) w 147 9 5 ad 0 c underlying147 underlying5 underlying9;rw[show ([]:Ud).length=0 from rfl,h];cases ad <;> simp[Conv.bytesToString,loadCells,loadCellsFrom] <;> rfl
 | cons x l=>
  obtain⟨b,off,rfl,_⟩:=hc 0 (u8 x) (by simp);refine za3 w 147 9 5 ⟨b,off,none⟩ c (x :: l) underlying147 underlying5 underlying9 λj hj=>?_
  obtain⟨b',off',d,a⟩:=hc j (u8 (x :: l)[j]) (by rw[zN,ze hj];rfl);cases d;rw[ZX];exact a
theorem Qll(n:Nat)(h:n<=255):(Value.int .u8 (n:Int))=u8 (UInt8.ofNat n):=by
 show _=Value.int .u8 _;rw[V3]
 congr 1
 omega
abbrev sOf(l:Ud):O:=⟨l.toArray⟩
theorem Qf7(a b:Ud):sOf a++sOf b=sOf (a++b):=by apply vF;simp
theorem Qzp(x:Ub)(r:Ud):(ByteArray.mk #[x])++sOf r=sOf (x :: r):=Qf7 [x] r
variable {a b:O}
theorem Yy(h:a=b):(a.toList == b.toList)=true:=by subst h;simp
theorem Qaa(h:a≠b):(a.toList == b.toList)=false:=by rw[zl,Vj,Vj];intro e;exact h (VP e)
theorem J9(s:O):sOf s.data.toList=s:=by apply vF;simp
theorem Y1(l:Ud):(sOf l).size=l.length:=by simp[ByteArray.size]
theorem Qda{a b:Ud}(h:sOf a=sOf b):a=b:=by
 have:=zB (λx=>x.data.toList) h
 simpa using this
def Qgu(ss:List O)(i:Int):Int×List Hsh:=if 0<=i/\i<ss.length then (0,Y8 (lists ss) i.toNat) else (2,[])
def Qgl(ss:List O)(m:Int):Int×List Hsh:=if 1<=m/\m<=ss.length then (0,Y5 m.toNat (lists ss) true) else (2,[])
theorem Q4p(f:Nat->Addr)(v:J)(ss:List O)(i:Int)(c:Int)(p:List Hsh)(a:(c,p)=Qgu ss i)(w:G)(h:Zj w v ss)(e:Yp w f)(d:ss.length<=1048576)(b:∀ s∈ss,s.size<=9223372036854775807):Calls prog 44 #[v,.int .i64 i] w (Qdv c p w):=by
 unfold Qgu at a;by_cases hi:0<=i/\i<ss.length
 .rw[zD hi] at a
  cases a;obtain⟨k,rfl⟩:∃ k:Nat,i=k:=⟨i.toNat,by omega⟩
  exact Q5y f v ss k w h e d b (by omega)
 rw[zw hi] at a;cases a;exact Q4d f v ss i w h e d b (by omega)
theorem Q12(f:Nat->Addr)(v:J)(ss:List O)(m:Int)(c:Int)(p:List Hsh)(a:(c,p)=Qgl ss m)(w:G)(h:Zj w v ss)(e:Yp w f)(d:ss.length<=1048576)(b:∀ s∈ss,s.size<=9223372036854775807):Calls prog 45 #[v,.int .i64 m] w (Qdv c p w):=by
 unfold Qgl at a;by_cases hi:1<=m/\m<=ss.length
 .rw[zD hi] at a
  cases a;obtain⟨k,rfl⟩:∃ k:Nat,m=k:=⟨m.toNat,by omega⟩
  exact Q1b f v ss k w h e d b (by omega) (by omega)
 rw[zw hi] at a;cases a;exact Q18 f v ss m w h e d b (by omega)
variable {ss:List O} {c:Int} {p:List Hsh}
theorem Q4w{i:Int}(a:(c,p)=Qgu ss i):(c=2/\p = []/\(decide (i<0)=true∨(decide (i<0)=false/\decide ((ss.length:Int)<=i)=true)))∨(c=0/\decide (i<0)=false/\decide ((ss.length:Int)<=i)=false/\∃ k:Nat,i=k/\k<ss.length/\p=Y8 (lists ss) k):=by
 unfold Qgu at a;by_cases hi:0<=i/\i<ss.length
 .rw[zD hi] at a
  cases a;exact .inr ⟨rfl,zo (by omega),zo (by omega),i.toNat,by omega,by omega,rfl⟩
 rw[zw hi] at a;cases a;refine .inl ⟨rfl,rfl,?_⟩;by_cases h0:i<0
 .exact .inl (zF h0)
 exact .inr ⟨zo h0,zF (by omega)⟩
theorem Q5u{m:Int}(a:(c,p)=Qgl ss m):(c=2/\p = []/\(decide (m<1)=true∨(decide (m<1)=false/\decide ((ss.length:Int)<m)=true)))∨(c=0/\decide (m<1)=false/\decide ((ss.length:Int)<m)=false/\∃ k:Nat,m=k/\1<=k/\k<=ss.length/\p=Y5 k (lists ss) true):=by
 unfold Qgl at a;by_cases hi:1<=m/\m<=ss.length
 .rw[zD hi] at a
  cases a;exact .inr ⟨rfl,zo (by omega),zo (by omega),m.toNat,by omega,by omega,by omega,rfl⟩
 rw[zw hi] at a;cases a;refine .inl ⟨rfl,rfl,?_⟩;by_cases h0:m<1
 .exact .inl (zF h0)
 exact .inr ⟨zo h0,zF (by omega)⟩
variable {w:G} {base:Nat} {v:J}
theorem Qq.j{w':G}(h:Qq w base v ss)(a:Bz w w'):Qq w' base v ss:=Qn h a
theorem Qq.alloc(h:Qq w base v ss)(o:Obj):Qq (w.alloc o) base v ss:=World.ownsRow.alloc h o
theorem Qvw(h:Qq w base v ss):∃ a n c,v=.slice a n c/\n=ss.length:=by obtain⟨a,c,h1,_⟩:=h.at;exact⟨a,_,c,h1,rfl⟩
theorem Q2t(f:Nat->Addr)(v:J)(ss:List O)(i m:Int)(w:G)(h:Zj w v ss)(hS:Yp w f):Calls prog 12 #[v,.int .i64 i,.int .i64 m] w λe w'=>e=.returned (.bool true)/\Bz w w':=by
 obtain⟨a,c,rfl⟩:∃ a c,v=.slice a ss.length c:=by obtain⟨a,c,h1,_⟩:=h;exact⟨a,c,h1⟩
 obtain⟨HH,F⟩:=zh2 h hS;obtain⟨pc,pl,hp⟩:∃ c p,(c,p)=Qgu ss i:=⟨(Qgu ss i).1,(Qgu ss i).2,rfl⟩
 obtain⟨qc,ql,hq⟩:∃ c p,(c,p)=Qgl ss m:=⟨(Qgl ss m).1,(Qgl ss m).2,rfl⟩
 have hi:=Q4w hp;have hm:=Q5u hq;obtain⟨HP,HQ,HI,HM⟩:=zh4 hp hq hi hm;clear h hS hp hq hi hm
 go_enter func12,ntmps12
 go_wp2_with fail
 refine (Qmj _ ss _ HH.o).m ?_;rintro e w0⟨rfl,rfl⟩;cases hf:fewB ss with
 | false=>
  go_wp2;go_ret;exact⟨rfl,zu _ _⟩
 | true=>
  obtain⟨hl,hs⟩:=Qoj hf;obtain⟨H,S⟩:=zh2 hs (show ∀ s∈ss,s.size<=9223372036854775807 from λs h=>zi (hs s h) (by decide));clear hf hs;have r:ss.length<=1048576:=by omega
  go_wp2_with fail
  refine (Q4p f _ ss i pc pl HP.o _ HH.o F.o r S.o).m ?_;rintro e w1⟨v1,rfl,E,B⟩;obtain⟨a1,n1,k1,rfl,U⟩:=Qvw E;have ai:=zh U;have A1:=B.alloc B.size (.cells #[.int .i64 pc,.string ⟨#[]⟩] 63);have T1:Qep (w1.alloc (.cells #[.int .i64 pc,.string ⟨#[]⟩] 63)) w1.heap.size pc ⟨#[]⟩:=zy w1 _;obtain⟨ag,u,ab⟩:=zh3 (E.alloc (.cells #[.int .i64 pc,.string ⟨#[]⟩] 63)) A1 T1;clear E B A1 T1 U
  go_wp2_with fail
  refine (Q12 f _ ss m qc ql HQ.o _ (HH.o.j u.o) (F.o.j u.o) r S.o).m ?_;rintro e w2⟨v2,rfl,D,C⟩;obtain⟨a2,n2,k2,rfl,P⟩:=Qvw D;have N:=zh P;have j:=C.alloc C.size (.cells #[.int .i64 qc,.string ⟨#[]⟩] 63);have T2:Qep (w2.alloc (.cells #[.int .i64 qc,.string ⟨#[]⟩] 63)) w2.heap.size qc ⟨#[]⟩:=zy w2 _;have t1:=(ab.o.j j).facts.1;have t2:=T2.facts.1;obtain⟨HB,V,l⟩:=zh3 (u.o.t (j.m u.o.size)) (ag.o.j j) (D.alloc (.cells #[.int .i64 qc,.string ⟨#[]⟩] 63));clear D C j T2 P;have X:(pl.map HS).length<=1048576:=by
   rcases HI.o with⟨_,rfl,_⟩|⟨_,_,_,k,_,hk,rfl⟩
   .simp
   rw[zA];exact zi (Qa0 _ _) (by simp[lists];omega)
  have T:(ql.map HS).length<=1048576:=by
   rcases HM.o with⟨_,rfl,_⟩|⟨_,_,_,k,_,_,hk,rfl⟩
   .simp
   rw[zA];exact zi (Qak _ _ _) (by simp[lists];omega)
  rcases HI.o with⟨rfl,rfl,hi⟩|⟨rfl,aa,ac,k,rfl,hk,rfl⟩
  .obtain rfl:n1=0:=ai.o
   rcases hi with hi|⟨aa,ac⟩
   all_goals
    rcases HM.o with⟨rfl,rfl,hm⟩|⟨rfl,y,K,k',rfl,z,I,rfl⟩
    .obtain rfl:n2=0:=N.o
     rcases hm with hm|⟨y,K⟩
     all_goals
      go_wp2;go_ret;exact⟨rfl,HB.o⟩
    go_wp2_with fail
    refine (Qp2 _ ss _ k' true _ (zg _) (HH.o.j HB.o) r H.o z I).m ?_;rintro e w5⟨v5,rfl,t,b⟩;have t5:=(b.cell (Qj t2)).t t2;obtain⟨n,x,A⟩:=zh3 (HB.o.t (b.m HB.o.size)) t.at ((l.o.j b).at);clear t2 b t
    go_wp2_with fail
    refine (Qdl _ _ _ _ _ A.o x.o T).m ?_;rintro e w6⟨rfl,d⟩;have t6:=(d.cell (Qj t5)).t t5;have M:=zh (n.o.t (d.m n.o.size));rw[zF (rfl:(Y5 k' (lists ss) true).map HS=_)];clear t5 d;go_wp2;go_ret;exact⟨rfl,M.o⟩
  go_wp2_with fail
  refine (Qu7 _ ss _ k _ (zg _) (HH.o.j HB.o) r H.o hk).m ?_;rintro e w3⟨v3,rfl,R,g⟩;have t3:=(g.cell (Qj t1)).t t1;have L:=(g.cell (Qj t2)).t t2;obtain⟨Q,af,ae,W⟩:=zh4 (HB.o.t (g.m HB.o.size)) R.at ((V.o.j g).at) (l.o.j g);clear t1 t2 g R
  go_wp2_with fail
  refine (Qdl _ _ _ _ _ ae.o af.o X).m ?_;rintro e w4⟨rfl,q⟩;have t1:=(q.cell (Qj t3)).t t3;have t2:=(q.cell (Qj L)).t L;obtain⟨ah,Z⟩:=zh2 (Q.o.t (q.m Q.o.size)) (W.o.j q);rw[zF (rfl:(Y8 (lists ss) k).map HS=_)];clear t3 L q HB l;have HB:=ah;have l:=Z;rcases HM.o with⟨rfl,rfl,hm|⟨y,K⟩⟩|⟨rfl,y,K,k',rfl,z,I,rfl⟩
  .obtain rfl:n2=0:=N.o
   go_wp2;go_ret;exact⟨rfl,HB.o⟩
  .obtain rfl:n2=0:=N.o
   go_wp2;go_ret;exact⟨rfl,HB.o⟩
  go_wp2_with fail
  refine (Qp2 _ ss _ k' true _ (zg _) (HH.o.j HB.o) r H.o z I).m ?_;rintro e w5⟨v5,rfl,t,b⟩;have t5:=(b.cell (Qj t2)).t t2;obtain⟨n,x,A⟩:=zh3 (HB.o.t (b.m HB.o.size)) t.at ((l.o.j b).at);clear t2 b t
  go_wp2_with fail
  refine (Qdl _ _ _ _ _ A.o x.o T).m ?_;rintro e w6⟨rfl,d⟩;have t6:=(d.cell (Qj t5)).t t5;have M:=zh (n.o.t (d.m n.o.size));rw[zF (rfl:(Y5 k' (lists ss) true).map HS=_)];clear t5 d;go_wp2;go_ret;exact⟨rfl,M.o⟩
theorem Qc5(a:Hsh)(i n:Nat):rebuild a i n []=if n=1 then some a else none:=by simp[rebuild,Qn0]
theorem Qe5(b a:Hsh)(i n:Nat)(q:List Hsh):rebuild b i n (q ++ [a])=if n=1 then none else if i<below n then (rebuild b i (below n) q).map (Z9 · a) else (rebuild b (i-below n) (n-below n) q).map (Z9 a ·):=by unfold rebuild below;rw[V8];rfl
def Qy8(leaf:Hsh)(i n:Nat)(p:List Hsh)(w:G)(e:Ua)(w':G):Prop:=
 ∃ s:Hsh,e=.returned (.tuple #[.agg (h8 s),.bool (rebuild leaf i n p).isSome])/\(∀ h,rebuild leaf i n p=some h->s=h)/\Bz w w'
theorem Q8w(q:List Hsh):(q.flatMap λh=>(h8 h).toList).length=q.length*8:=by
 induction q with
 | nil=>rfl
 | cons y q ih=>rw[vZ,zn,ih,zx];simp;omega
theorem Qj2{w:G}{a:Y Addr}{c m:Nat}{q:List Hsh}{x:Hsh}(h:Qbo w (.slice a (m+1) c) (q ++ [x]))(f:q.length=m):∃ b off,a=some ⟨b,off,none⟩/\m+1<=c/\(∀ j (hj:j<8),w.cell? ⟨b,off+m*8+j,none⟩=some (u8 x[j]))/\Qbo w (.slice (some ⟨b,off,none⟩) m c) q:=by
 obtain⟨a',c',hv,d,hc⟩:=h;have hl:(q.flatMap λh=>(h8 h).toList).length=m*8:=by rw[Q8w,f]
 simp only[ZN] at hv;obtain⟨rfl,_,rfl⟩:=hv;have hg:∀ j (hj:j<8),((q ++ [x]).flatMap λh=>(h8 h).toList)[m*8+j]?=some (u8 x[j]):=λj hj=>by
  rw[vU,ZC (by omega),hl]
  have:m*8+j-m*8=j:=by omega
  rw[this];simp[h8,hj]
 obtain⟨b,off,rfl,_⟩:=hc _ _ (hg 0 (by omega));refine⟨b,off,rfl,by simpa [f] using d,λj hj=>?_,⟨_,c,by rw[f],by simp at d;omega,λj y hy=>?_⟩⟩
 .obtain⟨b',off',g,e⟩:=hc _ _ (hg j hj)
  cases g;rw[Xn];exact e
 refine hc j y ?_;rw[vU,zV (zj.1 hy).1];exact hy
section
attribute [local go_sem] h8_0 h8_1 h8_2 h8_3 h8_4 h8_5 h8_6 h8_7 Qbu h8_size
theorem Qw3(m:Nat):∀ (p:List Hsh) (leaf:Hsh) (i n:Int) (v:J) (w:G),p.length=m->Qbo w v p->0<=i->i<n->n<=9223372036854775807->m<=1048576->
  Calls prog 194 #[.agg (h8 leaf),.int .i64 i,.int .i64 n,v] w (Qy8 leaf i.toNat n.toNat p w):=by
 induction m with
 | zero=>
  intro p leaf i n v w hp h h0 hi hn hm;obtain rfl:p = []:=zG hp;obtain⟨a,c,rfl,B,_⟩:=h;clear hp;by_cases h1:n=1
  .subst h1
   go_enter func194,ntmps194
   go_wp2_with (first|((first|refine Qw rfl 143 _ rfl _ rfl _ underlying143 Zd ?_ ?_ ?_|refine Qr rfl 143 _ _ rfl _ _ rfl rfl Zd ?_ ?_ ?_);rotate_left;focus((repeat(first|(with_reducible first|assumption|exact Qg ⟨_,by assumption⟩ _)|((with_reducible first|refine Qe ?_|refine Q2 ?_|refine Qg (Q6 ?_) _);(first|rfl|simp;done|simp;omega))|with_reducible refine Qp ?_ _|((with_reducible refine Qi ?_ _ ?_);rotate_left;(focus(first|simp;done|simp;omega|omega)))|with_reducible first|refine Qo ?_|refine Qh ?_ (by assumption)));done)))
   refine Qf9 (w.heap.size+1) leaf (.bool true) rfl rfl rfl _ underlying143 Zd (Qg (Q6 (by simp)) _) rfl ⟨leaf,by simp[Qc5],?_,zC ((Qa w _).alloc (by simp) _) (by omega) _⟩;intro h hh;simp[Qc5] at hh;exact hh
  have hd:(n == 1)=false:=by simpa using h1
  go_enter func194,ntmps194
  go_wp2_with (first|refine Qw rfl 143 _ rfl _ rfl _ underlying143 Zd ?_ ?_ ?_;rotate_left;focus ((repeat(first|(with_reducible first|assumption|exact Qg ⟨_,by assumption⟩ _)|((with_reducible first|refine Qe ?_|refine Q2 ?_|refine Qg (Q6 ?_) _);(first|rfl|simp;done|simp;omega))|with_reducible refine Qp ?_ _|((with_reducible refine Qi ?_ _ ?_);rotate_left;(focus(first|simp;done|simp;omega|omega)))|with_reducible first|refine Qo ?_|refine Qh ?_ (by assumption)));done)|refine Qr rfl 143 _ _ rfl _ Zb rfl (by rw[Qj9];rfl) Zd ?_ ?_ ?_;rotate_left;focus ((repeat(first|(with_reducible first|assumption|exact Qg ⟨_,by assumption⟩ _)|((with_reducible first|refine Qe ?_|refine Q2 ?_|refine Qg (Q6 ?_) _);(first|rfl|simp;done|simp;omega))|with_reducible refine Qp ?_ _|((with_reducible refine Qi ?_ _ ?_);rotate_left;(focus(first|simp;done|simp;omega|omega)))|with_reducible first|refine Qo ?_|refine Qh ?_ (by assumption)));done))
  have hr:rebuild leaf i.toNat n.toNat []=none:=by rw[Qc5,zw (by omega)]
  refine Qf9 (w.heap.size+1) Zb (.bool false) rfl rfl rfl _ underlying143 Zd (Qg (Q6 (by simp)) _) rfl ⟨Zb,by rw[hr];rfl,(λh hh=>by rw[hr] at hh;cases hh),zC ((Qa w _).alloc (by simp) _) (by omega) _⟩
 | succ m ih=>
  intro p leaf i n v w hp h h0 hi hn hm;obtain⟨q,last,rfl⟩:∃ q last,p=q ++ [last]:=⟨p.dropLast,p.getLast (by intro e;simp[e] at hp),(vQ _).symm⟩
  have hq:q.length=m:=by simpa using hp
  obtain⟨a,c,hv,_⟩:=id h;rw[hp] at hv;subst hv;obtain⟨b,off,rfl,B,d,u⟩:=Qj2 h hq;obtain⟨HQ,IH,HL,HP⟩:=zh4 u ih hq hp;clear ih h u hq hp;by_cases h1:n=1
  .subst h1
   have C:((m:Int)+1 == 0)=false:=by rw[zl];omega
   go_enter func194,ntmps194
   go_wp2_with (first|((first|refine Qw rfl 143 _ rfl _ rfl _ underlying143 Zd ?_ ?_ ?_|refine Qr rfl 143 _ _ rfl _ _ rfl rfl Zd ?_ ?_ ?_);rotate_left;focus((repeat(first|(with_reducible first|assumption|exact Qg ⟨_,by assumption⟩ _)|((with_reducible first|refine Qe ?_|refine Q2 ?_|refine Qg (Q6 ?_) _);(first|rfl|simp;done|simp;omega))|with_reducible refine Qp ?_ _|((with_reducible refine Qi ?_ _ ?_);rotate_left;(focus(first|simp;done|simp;omega|omega)))|with_reducible first|refine Qo ?_|refine Qh ?_ (by assumption)));done)))
   have hr:rebuild leaf i.toNat (1:Int).toNat (q ++ [last])=none:=by rw[Qe5,zD (by decide)]
   refine Qf9 (w.heap.size+1) leaf (.bool false) rfl rfl rfl _ underlying143 Zd (Qg (Q6 (by simp)) _) rfl ⟨leaf,by rw[hr];rfl,(λh hh=>by rw[hr] at hh;cases hh),zC ((Qa w _).alloc (by simp) _) (by omega) _⟩
  have hd:(n == 1)=false:=by simpa using h1
  have A:=Qgg (n:=n.toNat) (by omega) (by omega);have hr:=Qe5 leaf last i.toNat n.toNat q;rw[zw (by omega)] at hr;obtain⟨k,hk⟩:=zzx (below n.toNat)
  rw[<-hk] at A hr;obtain⟨K,x,L⟩:=A;obtain⟨HR,HK⟩:=zh2 hr hk;clear hr hk;have c0:w.cell? ⟨b,off+m*8,none⟩=some (u8 last[0]):=d 0 (by decide);have c1:=d 1 (by decide);have c2:=d 2 (by decide);have c3:=d 3 (by decide);have c4:=d 4 (by decide);have c5:=d 5 (by decide);have c6:=d 6 (by decide);have c7:=d 7 (by decide);have E:=zh d;have D:=Qa2 (P:=prog) (w:=(((w.alloc (.cells (h8 leaf) 143)).alloc (.cells zc 143)).alloc (.cells zc 143)).drew) (g:=w.heap.size+1+1) last ⟨Zb,Qo (Qe (by simp))⟩;have I:b<w.heap.size:=Qj c0;have H:b<w.heap.size+1:=by omega
  have F:b<w.heap.size+1+1:=by omega
  have C:((m:Int)+1 == 0)=false:=by rw[zl];omega
  clear d
  go_enter func194,ntmps194
  go_wp2_with fail
  go_region;have f1:Qz (((((w.alloc (.cells (h8 leaf) 143)).alloc (.cells zc 143)).alloc (.cells zc 143)).drew).setRow (w.heap.size+1+1) (h8 last)) w.heap.size leaf:=Qi (Qo (Qp (Qp (Qiz w leaf) _) _)) _ (by omega);have f2:Qz (((((w.alloc (.cells (h8 leaf) 143)).alloc (.cells zc 143)).alloc (.cells zc 143)).drew).setRow (w.heap.size+1+1) (h8 last)) (w.heap.size+1) Zb:=Qi (Qo (Qp (Qe (by simp)) _)) _ (by omega);have f3:Qz (((((w.alloc (.cells (h8 leaf) 143)).alloc (.cells zc 143)).alloc (.cells zc 143)).drew).setRow (w.heap.size+1+1) (h8 last)) (w.heap.size+1+1) last:=Q0 (Qo (Qe (by simp))) _;have f4:Bz w (((((w.alloc (.cells (h8 leaf) 143)).alloc (.cells zc 143)).alloc (.cells zc 143)).drew).setRow (w.heap.size+1+1) (h8 last)):=zC (((((Qa w _).alloc (by simp) _).alloc (by simp;omega) _).drew)) (by omega) _;have f5:(((((w.alloc (.cells (h8 leaf) 143)).alloc (.cells zc 143)).alloc (.cells zc 143)).drew).setRow (w.heap.size+1+1) (h8 last)).heap.size=w.heap.size+1+1+1:=by simp
  obtain⟨F4,F5⟩:=zh2 f4 f5;clear f4 f5 D;generalize (((((w.alloc (.cells (h8 leaf) 143)).alloc (.cells zc 143)).alloc (.cells zc 143)).drew).setRow (w.heap.size+1+1) (h8 last))=W2 at *
  go_wp2_with fail
  refine (Qaw _ _ (by omega) (by omega)).m ?_;rintro e w0⟨rfl,rfl⟩;rw[<-HK.o];by_cases hik:i<(k:Int)
  .go_wp2_with (refine Qw rfl 143 _ rfl _ rfl _ underlying143 Zd ?_ ?_ ?_;rotate_left;focus ((repeat(first|(with_reducible first|assumption|exact Qg ⟨_,by assumption⟩ _)|((with_reducible first|refine Qe ?_|refine Q2 ?_|refine Qg (Q6 ?_) _);(first|rfl|simp;done|simp;omega))|with_reducible refine Qp ?_ _|((with_reducible refine Qi ?_ _ ?_);rotate_left;(focus(first|simp;done|simp;omega|omega)))|with_reducible first|refine Qo ?_|refine Qh ?_ (by assumption)));done))
   refine (IH.o q leaf i k _ _ HL.o (Qev.j HQ.o F4.o) h0 hik (by omega) (by omega)).m ?_;rintro e w1⟨s,rfl,j,hb⟩;have hz:w.heap.size+3<=w1.heap.size:=by have:=hb.size;rw[F5.o] at this;omega
   have g2:=Qh f2 hb;have g3:=Qh f3 hb;obtain⟨z,F6⟩:=zh2 j (F4.o.t (hb.m F4.o.size));clear j f1 f2 f3 hb;obtain⟨r,f⟩:=zzx (rebuild leaf i.toNat (k:Int).toNat q)
   rw[<-f];have l:=zh f;clear f
   go_wp2_with (first|((first|refine Qw rfl 143 _ rfl _ rfl _ underlying143 Zd ?_ ?_ ?_|refine Qr rfl 143 _ _ rfl _ _ rfl rfl Zd ?_ ?_ ?_);rotate_left;focus((repeat(first|(with_reducible first|assumption|exact Qg ⟨_,by assumption⟩ _)|((with_reducible first|refine Qe ?_|refine Q2 ?_|refine Qg (Q6 ?_) _);(first|rfl|simp;done|simp;omega))|with_reducible refine Qp ?_ _|((with_reducible refine Qi ?_ _ ?_);rotate_left;(focus(first|simp;done|simp;omega|omega)))|with_reducible first|refine Qo ?_|refine Qh ?_ (by assumption)));done)))
   refine (Qcv s last _).m ?_;rintro e w2⟨rfl,x⟩;have k2:Qz w2 (w.heap.size+1) Zb:=by
    (repeat(first|(with_reducible first|assumption|exact Qg ⟨_,by assumption⟩ _)|((with_reducible first|refine Qe ?_|refine Q2 ?_|refine Qg (Q6 ?_) _);(first|rfl|simp;done|simp;omega))|with_reducible refine Qp ?_ _|((with_reducible refine Qi ?_ _ ?_);rotate_left;(focus(first|simp;done|simp;omega|omega)))|with_reducible first|refine Qo ?_|refine Qh ?_ (by assumption)))
   have F7:Bz w w2:=(zC (F6.o.alloc F6.o.size _) F6.o.size _).t (x.m (by simp;omega))
   go_wp2_with (first|refine Qr rfl 143 _ _ rfl _ _ rfl rfl Zd ?_ ?_ ?_;rotate_left;focus ((repeat(first|(with_reducible first|assumption|exact Qg ⟨_,by assumption⟩ _)|((with_reducible first|refine Qe ?_|refine Q2 ?_|refine Qg (Q6 ?_) _);(first|rfl|simp;done|simp;omega))|with_reducible refine Qp ?_ _|((with_reducible refine Qi ?_ _ ?_);rotate_left;(focus(first|simp;done|simp;omega|omega)))|with_reducible first|refine Qo ?_|refine Qh ?_ (by assumption)));done))
   have t:rebuild leaf i.toNat n.toNat (q ++ [last])=r.map (Z9 · last):=by rw[HR.o,zD (by omega),l.o];rfl
   refine Qf9 (w.heap.size+1) (Z9 s last) (.bool r.isSome) rfl rfl rfl _ underlying143 Zd (Q0 k2 _) rfl ⟨_,by rw[t,Vb],λh hh=>?_,zC F7 (by omega) _⟩;rw[t] at hh;obtain⟨h',y,rfl⟩:=zP.1 hh;rw[z.o h' (by rw[<-l.o];exact y)]
  go_wp2_with (refine Qw rfl 143 _ rfl _ rfl _ underlying143 Zd ?_ ?_ ?_;rotate_left;focus ((repeat(first|(with_reducible first|assumption|exact Qg ⟨_,by assumption⟩ _)|((with_reducible first|refine Qe ?_|refine Q2 ?_|refine Qg (Q6 ?_) _);(first|rfl|simp;done|simp;omega))|with_reducible refine Qp ?_ _|((with_reducible refine Qi ?_ _ ?_);rotate_left;(focus(first|simp;done|simp;omega|omega)))|with_reducible first|refine Qo ?_|refine Qh ?_ (by assumption)));done))
  refine (IH.o q leaf (i-k) (n-k) _ _ HL.o (Qev.j HQ.o F4.o) (by omega) (by omega) (by omega) (by omega)).m ?_;rintro e w1⟨s,rfl,j,hb⟩;have hz:w.heap.size+3<=w1.heap.size:=by have:=hb.size;rw[F5.o] at this;omega
  have g2:=Qh f2 hb;have g3:=Qh f3 hb;obtain⟨z,F6⟩:=zh2 j (F4.o.t (hb.m F4.o.size));clear j f1 f2 f3 hb;obtain⟨r,f⟩:=zzx (rebuild leaf (i-k).toNat (n-k).toNat q)
  rw[<-f];have l:=zh f;clear f
  go_wp2_with (first|((first|refine Qw rfl 143 _ rfl _ rfl _ underlying143 Zd ?_ ?_ ?_|refine Qr rfl 143 _ _ rfl _ _ rfl rfl Zd ?_ ?_ ?_);rotate_left;focus((repeat(first|(with_reducible first|assumption|exact Qg ⟨_,by assumption⟩ _)|((with_reducible first|refine Qe ?_|refine Q2 ?_|refine Qg (Q6 ?_) _);(first|rfl|simp;done|simp;omega))|with_reducible refine Qp ?_ _|((with_reducible refine Qi ?_ _ ?_);rotate_left;(focus(first|simp;done|simp;omega|omega)))|with_reducible first|refine Qo ?_|refine Qh ?_ (by assumption)));done)))
  refine (Qcv last s _).m ?_;rintro e w2⟨rfl,x⟩;have k2:Qz w2 (w.heap.size+1) Zb:=by
   (repeat(first|(with_reducible first|assumption|exact Qg ⟨_,by assumption⟩ _)|((with_reducible first|refine Qe ?_|refine Q2 ?_|refine Qg (Q6 ?_) _);(first|rfl|simp;done|simp;omega))|with_reducible refine Qp ?_ _|((with_reducible refine Qi ?_ _ ?_);rotate_left;(focus(first|simp;done|simp;omega|omega)))|with_reducible first|refine Qo ?_|refine Qh ?_ (by assumption)))
  have F7:Bz w w2:=(zC (F6.o.alloc F6.o.size _) F6.o.size _).t (x.m (by simp;omega))
  go_wp2_with (first|refine Qr rfl 143 _ _ rfl _ _ rfl rfl Zd ?_ ?_ ?_;rotate_left;focus ((repeat(first|(with_reducible first|assumption|exact Qg ⟨_,by assumption⟩ _)|((with_reducible first|refine Qe ?_|refine Q2 ?_|refine Qg (Q6 ?_) _);(first|rfl|simp;done|simp;omega))|with_reducible refine Qp ?_ _|((with_reducible refine Qi ?_ _ ?_);rotate_left;(focus(first|simp;done|simp;omega|omega)))|with_reducible first|refine Qo ?_|refine Qh ?_ (by assumption)));done))
  have t:rebuild leaf i.toNat n.toNat (q ++ [last])=r.map (Z9 last ·):=by
   rw[HR.o,zw (by omega),l.o]
   congr 2 <;> omega
  refine Qf9 (w.heap.size+1) (Z9 last s) (.bool r.isSome) rfl rfl rfl _ underlying143 Zd (Q0 k2 _) rfl ⟨_,by rw[t,Vb],λh hh=>?_,zC F7 (by omega) _⟩;rw[t] at hh;obtain⟨h',y,rfl⟩:=zP.1 hh;rw[z.o h' (by rw[<-l.o];exact y)]
end
theorem info8':∃ i,prog.info? 5=some i/\i.size=1:=by obtain⟨i0,hi,c,a,b⟩:=ZZ (show (prog.info? 5).map (λi=>(i.zero,i.size,i.bytes))=some (some (.int .u8 0),1,1) by kernel_rfl);exact⟨i0,hi,a⟩
theorem Qbv(w:G)(xs:Array J)(i:Nat)(v:J)(h:xs[i]?=some v):Sem.run prog (Go.part 5 xs i) w=.ok v w:=by obtain⟨i0,hi,hs⟩:=info8';simp[Go.part,ZV underlying5,isAgg,sizeOf,typeInfo,hi,hs,h]
theorem Zbx(a b:Hsh)(g:a[0]=b[0])(j:a[1]=b[1])(k:a[2]=b[2])(c:a[3]=b[3])(h:a[4]=b[4])(e:a[5]=b[5])(d:a[6]=b[6])(f:a[7]=b[7]):a=b:=by
 apply Vector.ext;intro i hi
 have:i=0∨i=1∨i=2∨i=3∨i=4∨i=5∨i=6∨i=7:=by omega
 rcases this with rfl|rfl|rfl|rfl|rfl|rfl|rfl|rfl <;> assumption
theorem eqn(w:G)(a b:Hsh):Sem.run prog (Op.equalIn 10000 143 (.agg (h8 a)) (.agg (h8 b))) w=.ok (some a == some b) w:=by
 rw[show (10000:Nat)=9998+1+1 from rfl,Op.equalIn];obtain⟨i0,hi,hs⟩:=info8';have hp:=λw=>Qbv w (h8 a) 0 _ (h8_0 a)
 have q:=λw=>Qbv w (h8 a) 1 _ (h8_1 a)
 have n:=λw=>Qbv w (h8 a) 2 _ (h8_2 a)
 have p:=λw=>Qbv w (h8 a) 3 _ (h8_3 a)
 have j:=λw=>Qbv w (h8 a) 4 _ (h8_4 a)
 have k:=λw=>Qbv w (h8 a) 5 _ (h8_5 a)
 have o:=λw=>Qbv w (h8 a) 6 _ (h8_6 a)
 have i:=λw=>Qbv w (h8 a) 7 _ (h8_7 a)
 have hq:=λw=>Qbv w (h8 b) 0 _ (h8_0 b)
 have l:=λw=>Qbv w (h8 b) 1 _ (h8_1 b)
 have g:=λw=>Qbv w (h8 b) 2 _ (h8_2 b)
 have d:=λw=>Qbv w (h8 b) 3 _ (h8_3 b)
 have c:=λw=>Qbv w (h8 b) 4 _ (h8_4 b)
 have m:=λw=>Qbv w (h8 b) 5 _ (h8_5 b)
 have r:=λw=>Qbv w (h8 b) 6 _ (h8_6 b)
 have f:=λw=>Qbv w (h8 b) 7 _ (h8_7 b)
 have he:=λ(w:G) (x y:Ub)=>run_equalIn_int (P:=prog) (w:=w) 9998 5 .u8 .u8 x.toNat y.toNat underlying5
 simp only[vx,ZV underlying143,ZR,sizeOf,typeInfo];simp[hi,hs,Std.Legacy.Range.forIn_eq_forIn_range',List.range',Std.Legacy.Range.size,hp,q,n,p,j,k,o,i,hq,l,g,d,c,m,r,f,he];by_cases e:a=b
 .subst e;simp
 have hI:∀ x y:Ub,((x.toNat:Int)=(y.toNat:Int))=(x=y):=λx y=>by apply propext;exact⟨λh=>UInt8.toNat_inj.1 (by omega),λh=>by rw[h]⟩
 have hf:(a == b)=false:=by rw[zl];exact e
 simp only[hI,hf]
 repeat' split
 all_goals first|rfl|(exfalso;apply e;apply Zbx <;> assumption)
theorem Qoa(w:G)(a b:Hsh):Sem.run prog (binOp .eql 143 (.agg (h8 a)) (.agg (h8 b))) w=.ok (Value.bool (some a == some b)) w:=by rw[run_eql_struct,eqn];rfl
theorem Qk2(p:List Hsh)(d b:Hsh)(i n:Int)(v:J)(w:G)(h:Qbo w v p)(y : -9223372036854775808<=i)(x:n<=9223372036854775807)(u:p.length<=1048576):Calls prog 150 #[.agg (h8 d),.int .i64 i,.int .i64 n,v,.agg (h8 b)] w λe w'=>e=.returned (.bool (Qab d i n p b))/\Bz w w':=by
 obtain⟨a,c,hv,_⟩:=id h;by_cases h0:0<=i
 .have hd:decide (i<0)=false:=by simp;omega
  by_cases hin:i<n
  .have t:decide (n<=i)=false:=by simp;omega
   have g:Qab d i n p b=(rebuild d i.toNat n.toNat p == some b):=by simp[Qab,h0,hin]
   obtain⟨HI,HH,HV⟩:=zh3 g h hv;clear g h hv
   go_enter func150,ntmps150
   go_wp2_with (refine Qw rfl 143 _ rfl _ rfl _ underlying143 Zd ?_ ?_ ?_;rotate_left;focus ((repeat(first|(with_reducible first|assumption|exact Qg ⟨_,by assumption⟩ _)|((with_reducible first|refine Qe ?_|refine Q2 ?_|refine Qg (Q6 ?_) _);(first|rfl|simp;done|simp;omega))|with_reducible refine Qp ?_ _|((with_reducible refine Qi ?_ _ ?_);rotate_left;(focus(first|simp;done|simp;omega|omega)))|with_reducible first|refine Qo ?_|refine Qh ?_ (by assumption)));done))
   refine (Qw3 p.length p d i n v _ rfl (Qev.j HH.o ((Qa w _).alloc (by simp) _)) h0 hin x u).m ?_;rintro e w1⟨s,rfl,l,hb⟩;have m:Bz w w1:=((Qa w _).alloc (by simp) _).t (hb.m (by simp;omega));have f:=zh m;have hz:w.heap.size+2<=w1.heap.size:=by have:=hb.size;simp at this;omega
   have g1:Qz w1 (w.heap.size+1) b:=Qh (Q2 (by simp)) hb;have q:=zh l;clear l m hb;obtain⟨r,k⟩:=zzx (rebuild d i.toNat n.toNat p)
   rw[<-k];have j:=zh k;clear k;have hq:=λw=>Qoa w s b
   cases r with
   | none=>
    go_wp2_with (first|((first|refine Qw rfl 143 _ rfl _ rfl _ underlying143 Zd ?_ ?_ ?_|refine Qr rfl 143 _ _ rfl _ _ rfl rfl Zd ?_ ?_ ?_);rotate_left;focus((repeat(first|(with_reducible first|assumption|exact Qg ⟨_,by assumption⟩ _)|((with_reducible first|refine Qe ?_|refine Q2 ?_|refine Qg (Q6 ?_) _);(first|rfl|simp;done|simp;omega))|with_reducible refine Qp ?_ _|((with_reducible refine Qi ?_ _ ?_);rotate_left;(focus(first|simp;done|simp;omega|omega)))|with_reducible first|refine Qo ?_|refine Qh ?_ (by assumption)));done)))
    go_ret;exact⟨Yi (by rw[HI.o,<-j.o];rfl),zC (f.o.alloc f.o.size _) f.o.size _⟩
   | some h=>
    obtain rfl:s=h:=q.o h j.o.symm
    go_wp2_with (first|((first|refine Qw rfl 143 _ rfl _ rfl _ underlying143 Zd ?_ ?_ ?_|refine Qr rfl 143 _ _ rfl _ _ rfl rfl Zd ?_ ?_ ?_);rotate_left;focus((repeat(first|(with_reducible first|assumption|exact Qg ⟨_,by assumption⟩ _)|((with_reducible first|refine Qe ?_|refine Q2 ?_|refine Qg (Q6 ?_) _);(first|rfl|simp;done|simp;omega))|with_reducible refine Qp ?_ _|((with_reducible refine Qi ?_ _ ?_);rotate_left;(focus(first|simp;done|simp;omega|omega)))|with_reducible first|refine Qo ?_|refine Qh ?_ (by assumption)));done)))
    go_ret;refine⟨Yi ?_,zC (f.o.alloc f.o.size _) f.o.size _⟩;rw[HI.o,<-j.o];rfl
  have t:decide (n<=i)=true:=by simp;omega
  clear h;subst hv
  go_enter func150,ntmps150
  go_wp2;go_ret;exact⟨Yi (by simp[Qab];omega),(Qa w _).alloc (by simp) _⟩
 have hd:decide (i<0)=true:=by simp;omega
 clear h;subst hv
 go_enter func150,ntmps150
 go_wp2;go_ret;exact⟨Yi (by simp[Qab];omega),(Qa w _).alloc (by simp) _⟩
theorem Qs6(p:List Hsh)(b a:Hsh)(i n:Int)(v:J)(w:G)(h:Qbo w v p)(c : -9223372036854775808<=i)(f:n<=9223372036854775807)(d:p.length<=1048576):Calls prog 103 #[.agg (h8 b),.int .i64 i,.int .i64 n,v,.agg (h8 a)] w λe w'=>e=.returned (.bool (Qab b i n p a))/\Bz w w':=by
 have HH:=zh h;clear h
 go_enter func103,ntmps103
 go_wp2_with (refine Qw rfl 143 _ rfl _ rfl _ underlying143 Zd ?_ ?_ ?_;rotate_left;focus ((repeat(first|(with_reducible first|assumption|exact Qg ⟨_,by assumption⟩ _)|((with_reducible first|refine Qe ?_|refine Q2 ?_|refine Qg (Q6 ?_) _);(first|rfl|simp;done|simp;omega))|with_reducible refine Qp ?_ _|((with_reducible refine Qi ?_ _ ?_);rotate_left;(focus(first|simp;done|simp;omega|omega)))|with_reducible first|refine Qo ?_|refine Qh ?_ (by assumption)));done))
 refine (Qk2 p b a i n v _ (Qev.j HH.o ((Qa w _).alloc (by simp) _)) c f d).m ?_;rintro e w1⟨rfl,hb⟩;go_wp2;go_ret;exact⟨rfl,((Qa w _).alloc (by simp) _).t (hb.m (by simp;omega))⟩
theorem Qty(ss:List O)(b a:O)(i n:Int)(v:J)(w:G)(h:Zj w v ss)(q : -9223372036854775808<=i)(r:n<=9223372036854775807)(m:ss.length<=1048576)(k:∀ s∈ss,s.size<=9223372036854775807)(t:b.size<=9223372036854775807)(p:a.size<=9223372036854775807):Calls prog 47 #[.string b,.int .i64 i,.int .i64 n,v,.string a] w λe w'=>e=.returned (.bool (Qab (Zi b.data.toList) i n (Jp ss) (Zi a.data.toList)))/\Bz w w':=by
 obtain⟨HH,l⟩:=zh2 h k;clear h k
 go_enter func47,ntmps47
 go_wp2_with fail
 refine (Qiv b _ t).m ?_;rintro e w1⟨rfl,c⟩
 go_wp2_with fail
 refine (Qrx v ss _ (HH.o.j c) m l.o).m ?_;rintro e w2⟨v2,rfl,g,f⟩
 go_wp2_with fail
 refine (Qiv a _ p).m ?_;rintro e w3⟨rfl,d⟩
 go_wp2_with fail
 refine (Qs6 (Jp ss) (Zi b.data.toList) (Zi a.data.toList) i n v2 _ (Qev.j (Zn g) d) q r (by simpa [Jp] using m)).m ?_;rintro e w4⟨rfl,j⟩;go_wp2;go_ret;exact⟨rfl,((c.t (f.m c.size)).t (d.m (zi c.size f.size))).t (j.m (zi c.size (zi f.size d.size)))⟩
theorem Q5v(a b:Hsh):((HS a).toList == (HS b).toList)=(some a == some b):=by
 rw[Vj,Vj];by_cases e:a=b
 .subst e;simp
 have e':¬ a.toList=b.toList:=λx=>e (Vector.toList_inj.1 x)
 have h1:((HS a).data.toList == (HS b).data.toList)=false:=by rw[zl];exact e'
 rw[h1];simp[e]
def Qx9(leaf:Hsh)(i n:Nat)(p:List Hsh)(w:G)(e:Ua)(w':G):Prop:=
 ∃ s:O,e=.returned (.tuple #[.string s,.bool (rebuild leaf i n p).isSome])/\s.size<=8/\(∀ h,rebuild leaf i n p=some h->s=HS h)/\Bz w w'
theorem Qu5{w:G}{a:Y Addr}{c m:Nat}{xs:List J}{x:J}(h:Qev w (.slice a (m+1) c) (m+1) (xs ++ [x]))(f:xs.length=m):∃ b off,a=some ⟨b,off,none⟩/\m+1<=c/\w.cell? ⟨b,off+m,none⟩=some x/\Qev w (.slice (some ⟨b,off,none⟩) m c) m xs:=by
 obtain⟨a',c',hv,e,hc⟩:=h;cases hv;obtain⟨b,off,rfl,d⟩:=hc m x (by rw[<-f];simp);refine⟨b,off,rfl,e,d,⟨_,c,rfl,by omega,λj y hy=>?_⟩⟩;exact hc j y (by rw[zV (by have:=(zj.1 hy).1;exact this)];exact hy)
theorem Quf(m:Nat):∀ (p:List Hsh) (leaf:Hsh) (i n:Int) (v:J) (w:G),p.length=m->Zj w v (p.map HS)->0<=i->i<n->n<=9223372036854775807->m<=1048576->
  Calls prog 96 #[.string (HS leaf),.int .i64 i,.int .i64 n,v] w (Qx9 leaf i.toNat n.toNat p w):=by
 induction m with
 | zero=>
  intro p leaf i n v w hp h h0 hi hn hm;obtain rfl:p = []:=zG hp;obtain⟨a,c,rfl,D,_⟩:=h;by_cases h1:n=1
  .subst h1
   go_enter func96,ntmps96
   go_wp2;go_ret2;exact⟨HS leaf,by simp[Qc5],by rw[Jj];decide,by intro h hh;simp[Qc5] at hh;rw[hh],zu _ _⟩
  have hd:(n == 1)=false:=by simpa using h1
  go_enter func96,ntmps96
  go_wp2;go_ret2;have hr:rebuild leaf i.toNat n.toNat []=none:=by rw[Qc5,zw (by omega)]
  exact⟨⟨#[]⟩,by rw[hr];rfl,by decide,by intro h;simp[hr],zu _ _⟩
 | succ m ih=>
  intro p leaf i n v w hp h h0 hi hn hm;obtain⟨q,last,rfl⟩:∃ q last,p=q ++ [last]:=⟨p.dropLast,p.getLast (by intro e;simp[e] at hp),(vQ _).symm⟩
  have hq:q.length=m:=by simpa using hp
  obtain⟨a,c,hv,_⟩:=id h;have A:((q ++ [last]).map HS).length=m+1:=by simp[hq]
  unfold Zj at h;rw[A] at h hv;subst hv;obtain⟨b,off,rfl,D,E,t⟩:=Qu5 (xs:=(q.map HS).map Value.string) (x:=.string (HS last)) (by simpa using h) (by simp[hq]);have B:Zj w (.slice (some ⟨b,off,none⟩) m c) (q.map HS):=by unfold Zj;simpa [hq] using t
  obtain⟨HQ,IH,HL,HP⟩:=zh4 B ih hq hp;clear ih h t B A hq hp;by_cases h1:n=1
  .subst h1
   go_enter func96,ntmps96
   go_wp2;go_ret2;have hr:rebuild leaf i.toNat (1:Int).toNat (q ++ [last])=none:=by rw[Qe5,zD (by decide)]
   exact⟨HS leaf,by rw[hr];rfl,by rw[Jj];decide,(λh hh=>by rw[hr] at hh;cases hh),zu _ _⟩
  have hd:(n == 1)=false:=by simpa using h1
  have C:=Qgg (n:=n.toNat) (by omega) (by omega);have hr:=Qe5 leaf last i.toNat n.toNat q;rw[zw (by omega)] at hr;obtain⟨k,hk⟩:=zzx (below n.toNat)
  rw[<-hk] at C hr;obtain⟨H,l,F⟩:=C;obtain⟨HR,HK⟩:=zh2 hr hk;clear hr hk;by_cases hik:i<(k:Int)
  .go_enter func96,ntmps96
   go_wp2_with fail
   refine (J3 _ _ (by omega) (by omega)).m ?_;rintro e w0⟨rfl,rfl⟩;rw[<-HK.o]
   go_wp2_with fail
   refine (IH.o q leaf i k _ _ HL.o HQ.o h0 hik (by omega) (by omega)).m ?_;rintro e w1⟨s,rfl,z,f,hb⟩;have y:=zh f;clear f;obtain⟨r,d⟩:=zzx (rebuild leaf i.toNat (k:Int).toNat q)
   rw[<-d];have g:=zh d;clear d
   go_wp2_with fail
   refine (Qd2 s (HS last) _ z (by rw[Jj];decide)).m ?_;rintro e w2⟨rfl,l⟩;go_wp2;go_ret2;have j:rebuild leaf i.toNat n.toNat (q ++ [last])=r.map (Z9 · last):=by rw[HR.o,zD (by omega),g.o];rfl
   refine⟨_,by rw[j,Vb];rfl,by rw[Jj];decide,λh hh=>?_,hb.t (l.m hb.size)⟩;rw[j] at hh;obtain⟨h',u,rfl⟩:=zP.1 hh;rw[y.o h' (by rw[<-g.o];exact u)];rfl
  go_enter func96,ntmps96
  go_wp2_with fail
  refine (J3 _ _ (by omega) (by omega)).m ?_;rintro e w0⟨rfl,rfl⟩;rw[<-HK.o]
  go_wp2_with fail
  refine (IH.o q leaf (i-k) (n-k) _ _ HL.o HQ.o (by omega) (by omega) (by omega) (by omega)).m ?_;rintro e w1⟨s,rfl,z,f,hb⟩;have y:=zh f;clear f;obtain⟨r,d⟩:=zzx (rebuild leaf (i-k).toNat (n-k).toNat q)
  rw[<-d];have g:=zh d;clear d
  go_wp2_with fail
  refine (Qd2 (HS last) s _ (by rw[Jj];decide) z).m ?_;rintro e w2⟨rfl,l⟩;go_wp2;go_ret2;have j:rebuild leaf i.toNat n.toNat (q ++ [last])=r.map (Z9 last ·):=by
   rw[HR.o,zw (by omega),g.o]
   congr 2 <;> omega
  refine⟨_,by rw[j,Vb];rfl,by rw[Jj];decide,λh hh=>?_,hb.t (l.m hb.size)⟩;rw[j] at hh;obtain⟨h',u,rfl⟩:=zP.1 hh;rw[y.o h' (by rw[<-g.o];exact u)];rfl
theorem Qk6(p:List Hsh)(b d:Hsh)(i n:Int)(v:J)(w:G)(h:Zj w v (p.map HS))(x : -9223372036854775808<=i)(t:n<=9223372036854775807)(q:p.length<=1048576):Calls prog 40 #[.string (HS b),.int .i64 i,.int .i64 n,v,.string (HS d)] w λe w'=>e=.returned (.bool (Qab b i n p d))/\Bz w w':=by
 obtain⟨a,c,hv,_⟩:=id h;by_cases h0:0<=i
 .have hd:decide (i<0)=false:=by simp;omega
  by_cases hin:i<n
  .have m:decide (n<=i)=false:=by simp;omega
   have f:Qab b i n p d=(rebuild b i.toNat n.toNat p == some d):=by simp[Qab,h0,hin]
   obtain⟨HI,HH,HV⟩:=zh3 f h hv;clear f h hv
   go_enter func40,ntmps40
   go_wp2_with fail
   refine (Quf p.length p b i n v w rfl HH.o h0 hin t q).m ?_;rintro e w1⟨s,rfl,u,k,hb⟩;have l:=zh k;clear k;obtain⟨r,j⟩:=zzx (rebuild b i.toNat n.toNat p)
   rw[<-j];have g:=zh j;clear j;cases r with
   | none=>
    go_wp2;go_ret;exact⟨Yi (by rw[HI.o,<-g.o];rfl),hb⟩
   | some h=>
    obtain rfl:s=HS h:=l.o h g.o.symm;go_wp2;go_ret;refine⟨Yi ?_,hb⟩;rw[HI.o,<-g.o];exact Q5v h d
  have m:decide (n<=i)=true:=by simp;omega
  clear h;subst hv
  go_enter func40,ntmps40
  go_wp2;go_ret;exact⟨Yi (by simp[Qab];omega),zu _ _⟩
 have hd:decide (i<0)=true:=by simp;omega
 clear h;subst hv
 go_enter func40,ntmps40
 go_wp2;go_ret;exact⟨Yi (by simp[Qab];omega),zu _ _⟩
theorem Qqx(v:J)(ss:List O)(w:G)(h:Zj w v ss)(F:ss.length<=1048576)(A:∀ s∈ss,s.size<=9223372036854775807):Calls prog 49 #[v] w λe w'=>∃ v',e=.returned v'/\Qq w' w.heap.size v' ((Jp ss).map HS)/\Bz w w':=by
 obtain⟨a,c,rfl,D,hc⟩:=h;obtain⟨HC,HM⟩:=zh2 hc A;clear hc A;obtain⟨i0,hi,t,u,x⟩:=ZZ Qb3
 go_enter func49,ntmps49
 go_wp2
 go_loopw [3,4] (λv i wr=>∃ k:Nat,k<=ss.length/\i=.int .i64 k/\Qq wr w.heap.size v ((Jp (ss.take k)).map HS)/\Bz w wr) (λ_ i _=>ss.length-(intOf i).toNat)
 case atStart=>exact⟨0,by omega,rfl,zv _ _ _ _,zu _ _⟩
 case round=>
  obtain⟨k,hk,rfl,f,g⟩:=hrel;by_cases hlt:k<ss.length
  .obtain⟨s,hs⟩:∃ s,ss[k]?=some s:=⟨_,ze hlt⟩
   obtain⟨b,off,rfl,d⟩:=HC.o k (.string s) (by simp[hs]);have C:wr.cell? ⟨b,off+k,none⟩=some (.string s):=(g.cell (p:=⟨b,off+k,none⟩) (Qj d)).t d;have z:=HM.o s (zr hs);have E:=Qnh ss k;have HK:=zh hs;unfold Qq at f;obtain⟨HR,HB⟩:=zh2 f g;clear hs d f g
   go_wp2_with (first|go_at_call 48;refine (Qet s _ z).m ?_;rintro e w1⟨rfl,m⟩;have l:=zh m;clear m|at_builtin;refine Yo rfl _ _ 22 rfl w.heap.size 9 i0 (.string ⟨#[]⟩) 16 underlying22 hi t u x rfl (by decide) _ _ _ rfl (Qn HR.o l.o) _ rfl rfl (by rw[zA];omega) (zi HB.o.size l.o.size) ?_;intro v2 w2 n q r;obtain⟨B,y⟩:=zh2 n q;clear n q r)
   go_roundw
   case rel=>
    refine⟨k+1,by omega,by go_num,?_,?_⟩
    .rw[Qlb HK.o]
     unfold Qq;simpa using B.o
    exact ((HB.o.t (l.o.m HB.o.size)).grown y.o (zi HB.o.size l.o.size) (λj hj=>(HR.o.lt j hj).1))
   case measure=>simp[intOf];omega
  have ht:ss.take k=ss:=zk (by omega);rw[ht] at f;go_wp2;go_ret;exact⟨_,rfl,f,g⟩
theorem Qs7(ss:List O)(b a:O)(i n:Int)(v:J)(w:G)(h:Zj w v ss)(r : -9223372036854775808<=i)(t:n<=9223372036854775807)(p:∀ s∈ss,s.size<=9223372036854775807)(u:b.size<=9223372036854775807)(k:a.size<=9223372036854775807):Calls prog 13 #[.string b,.int .i64 i,.int .i64 n,v,.string a] w λe w'=>e=.returned (.bool true)/\Bz w w':=by
 obtain⟨HH,g⟩:=zh2 h p;clear h p
 go_enter func13,ntmps13
 go_wp2_with fail
 refine (Qmj v ss _ HH.o).m ?_;rintro e w0⟨rfl,rfl⟩;cases hf:fewB ss with
 | false=>
  go_wp2;go_ret;exact⟨rfl,zu _ _⟩
 | true=>
  obtain⟨hl,_⟩:=Qoj hf
  go_wp2_with fail
  refine (Qty ss b a i n v _ HH.o r t (by omega) g.o u k).m ?_;rintro e w1⟨rfl,c⟩
  go_wp2_with fail
  refine (Qet b _ u).m ?_;rintro e w2⟨rfl,j⟩
  go_wp2_with fail
  refine (Qet a _ k).m ?_;rintro e w3⟨rfl,f⟩;have b2:=c.t (j.m c.size);have b3:=b2.t (f.m b2.size);have d:=zh b3;clear c j f b2 b3
  go_wp2_with fail
  refine (Qqx v ss _ (HH.o.j d.o) (by omega) g.o).m ?_;rintro e w4⟨v4,rfl,q,l⟩
  go_wp2_with fail
  refine (Qk6 (Jp ss) (Zi b.data.toList) (Zi a.data.toList) i n v4 _ (Qq.at q) r t (by simp[Jp];omega)).m ?_;rintro e w5⟨rfl,m⟩;go_wp2;go_ret;refine⟨Yi (by simp),?_⟩;have b4:=d.o.t (l.m d.o.size);exact b4.t (m.m b4.size)
section
variable {P:Program} {md:Region.Mode} {ops:Array Oper} {Q:Exit->Act->G->Prop}
theorem Qom(I:Nat->Array Bool->Act->G->Prop)(c:∀ L a w,I 0 L a w->Region.ready md ops L = []/\Q .normal a w)(b:∀ f L a w,I (f+1) L a w->Region.ready md ops L≠[]/\∀ i∈Region.ready md ops L,wpOp P ops Q i (I f (L.setIfInBounds i true)) a w):∀ (f:Nat) (L:Array Bool) (a:Act) (w:G),I f L a w->wpAny P md ops Q f L a w
 | 0,L,a,w,h=>c L a w h
 | f+1,L,a,w,h=>⟨λhr=>absurd hr (b f L a w h).1,λi hi=>wpOp_mono (λa' w' h'=>Qom I c b f _ a' w' h') ((b f L a w h).2 i hi)⟩
variable {o:Oper} {K:Act->G->Prop} {a:Act} {w:G}
theorem Qai{i:Nat}(c:ops[i]?=some o)(b:o.guard=none)(h:o.wp P a w K Q):wpOp P ops Q i K a w:=by
 have hw:Region.wanted o (yielded ops a.tmps)=true:=by unfold Region.wanted;rw[b]
 unfold wpOp;rw[c];simp only[hw,zac];exact Or.inl h
variable {d:Nat} {v:J}
theorem Qc{k:Nat}{x:J}(c:a.tmps.getD k undef=x)(b:d≠k):(a.put (some d) v).tmps.getD k undef=x:=by unfold Act.put;simp only[ZK,Array.getElem?_setIfInBounds] at *;rw[zw b];exact c
theorem Q9(b:d<a.tmps.size):(a.put (some d) v).tmps.getD d undef=v:=by unfold Act.put;simp[ZK,b]
theorem Jy{d:Y Tmp}:(a.put d v).tmps.size=a.tmps.size:=by cases d <;> simp[Act.put]
theorem Ys{d:Y Tmp}:(a.put d v).defers=a.defers:=by cases d <;> rfl
def bs(b:Nat->Bool):Array Bool:=#[b 0,b 1,b 2,b 3,b 4,b 5,b 6,b 7,b 8,b 9]
def left(b:Nat->Bool):Nat:=(!b 0).toNat+(!b 1).toNat+(!b 2).toNat+(!b 3).toNat+(!b 4).toNat+(!b 5).toNat+(!b 6).toNat+(!b 7).toNat+(!b 8).toNat+(!b 9).toNat
def upd(b:Nat->Bool)(i:Nat):Nat->Bool:=λj=>if j=i then true else b j
theorem Zay(b:Nat->Bool)(i:Nat)(a:i<10):(bs b).setIfInBounds i true=bs (upd b i):=by
 have:i=0∨i=1∨i=2∨i=3∨i=4∨i=5∨i=6∨i=7∨i=8∨i=9:=by omega
 rcases this with rfl|rfl|rfl|rfl|rfl|rfl|rfl|rfl|rfl|rfl <;> rfl
theorem Q0j(b:Nat->Bool)(i:Nat)(c:i<10)(a:b i=false)(f:Nat)(h:f+1=left b):f=left (upd b i):=by
 have:i=0∨i=1∨i=2∨i=3∨i=4∨i=5∨i=6∨i=7∨i=8∨i=9:=by omega
 rcases this with rfl|rfl|rfl|rfl|rfl|rfl|rfl|rfl|rfl|rfl <;> (simp only[left,upd,a,zaw,zag] at *;simp;omega)
theorem Qz5(f:FuncId)(x y:Operand)(ts:Array TypeId)(b:o.op=.call { callee:=.value (.func f),args:=#[x,y],argTypes:=ts })(c:∀ args w,(callFunc f args).run P w=.ok (.enter f args) w)(h:Calls P f #[a.eval x,a.eval y] w λe w'=>∃ v,e=.returned v/\K (a.put o.dst v) w'):o.wp P a w K Q:=by
 have hr:(execOp a.eval o).run P w=.ok (.enter f #[a.eval x,a.eval y]) w:=by unfold execOp;rw[b];go_simp
 unfold Oper.wp;rw[hr,Oper.upon_enter];refine h.m ?_;rintro e w'⟨v,rfl,hk⟩;exact hk
end
theorem Qqj(m n:Nat)(b:Y Hsh):roots m n b []=if m=n then b.map λa=>(a,a) else none:=by simp[roots,Qpb]
theorem Qi0(m n:Nat)(a:Y Hsh)(q:List Hsh)(r:Hsh):roots m n a (q ++ [r])=if m=n then (match a with|some _=>none|none=>if q = [] then some (r,r) else none)
   else if m<=below n then (roots m (below n) a q).map λx=>(x.1,Z9 x.2 r) else (roots (m-below n) (n-below n) none q).map λx=>(Z9 r x.1,Z9 r x.2):=by
 unfold roots below;rw[V8];simp only[vY,List.reverse_nil,xd,Xc,Qpb];cases a <;> simp
def Qpn(w:G)(v:J)(whole:Y Hsh):Prop:=(v=.pointer none/\whole=none)∨∃ g h,v=.pointer (some ⟨g,0,none⟩)/\whole=some h/\Qz w g h
def Qfn(m n:Nat)(whole:Y Hsh)(p:List Hsh)(w:G)(e:Ua)(w':G):Prop:=
 ∃ x y:Hsh,e=.returned (.tuple #[.agg (h8 x),.agg (h8 y),.bool (roots m n whole p).isSome])/\(∀ z,roots m n whole p=some z->(x,y)=z)/\Bz w w'
variable {g:Nat}
theorem Qy{h:Hsh}(a:Qz w g h)(j:Nat)(b:j<8):w.cell? ⟨g,j,none⟩=some (u8 h[j]):=by unfold Qz at a;simp[World.cell?,a,h8,b]
theorem Qdn{a:Array J}{b o:Nat}(h:b≠g):(w.setRow g a).cell? ⟨b,o,none⟩=w.cell? ⟨b,o,none⟩:=cell_setRow_other w g a ⟨b,o,none⟩ h
section
attribute [local go_sem] h8_0 h8_1 h8_2 h8_3 h8_4 h8_5 h8_6 h8_7 Qbu h8_size Qdn Qa2
theorem Qot(m:Nat)(a:Hsh)(p:List Hsh):roots m m (some a) p=if p.length=0 then some (a,a) else none:=by
 rcases xe p with rfl|⟨q,r,rfl⟩
 .simp[Qqj]
 rw[xh] at *;rw[Qi0,zD rfl];simp
theorem Qt7(m:Nat)(r:Hsh):roots m m none [r]=some (r,r):=by
 have:=Qi0 m m none [] r
 simpa using this
theorem Qw9(m:Nat)(p:List Hsh)(h:p.length≠1):roots m m none p=none:=by
 rcases xe p with rfl|⟨q,r,rfl⟩
 .simp[Qqj]
 rw[xh] at *;rw[Qi0,zD rfl]
 have:q≠[]:=by intro e;subst e;simp at h
 simp[this]
theorem Qyq(w:G):Bz w (((w.alloc (.cells zc 143)).alloc (.cells zc 143)).drew):=((Qa w _).alloc (by simp) _).drew
theorem Qs1{v:J}{p:List Hsh}(h:Qbo w v p):∃ a c,v=.slice a p.length c:=by obtain⟨a,c,h1,_⟩:=h;exact⟨a,c,h1⟩
theorem Qnf(m:Int)(g:Nat)(h:Hsh)(v:J)(p:List Hsh)(w:G)(d:Qbo w v p)(b:Qz w g h):Calls prog 183 #[.int .i64 m,.int .i64 m,v,.pointer (some ⟨g,0,none⟩)] w (Qfn m.toNat m.toNat (some h) p w):=by
 obtain⟨a,c,rfl⟩:=Qs1 d;clear d;have c0:=Qy b 0 (by decide);have c1:=Qy b 1 (by decide);have c2:=Qy b 2 (by decide);have c3:=Qy b 3 (by decide);have c4:=Qy b 4 (by decide);have c5:=Qy b 5 (by decide);have c6:=Qy b 6 (by decide);have c7:=Qy b 7 (by decide);have hg:g<w.heap.size:=Qj c0;have i:g<w.heap.size+1:=by omega
 have e:g≠w.heap.size:=by omega
 have f:g≠w.heap.size+1:=by omega
 have i1:Is8 (((w.alloc (.cells zc 143)).alloc (.cells zc 143)).drew) w.heap.size:=⟨Zb,Qo (Qp (Qe rfl) _)⟩
 have i2:Is8 (((w.alloc (.cells zc 143)).alloc (.cells zc 143)).drew) (w.heap.size+1):=⟨Zb,Qo (Qe (by simp))⟩
 have i3:Is8 ((((w.alloc (.cells zc 143)).alloc (.cells zc 143)).drew).setRow w.heap.size (h8 h)) (w.heap.size+1):=⟨Zb,Qi (Qo (Qe (by simp))) _ (by omega)⟩
 have i4:Is8 ((((w.alloc (.cells zc 143)).alloc (.cells zc 143)).drew).setRow (w.heap.size+1) (h8 h)) w.heap.size:=⟨Zb,Qi (Qo (Qp (Qe rfl) _)) _ (by omega)⟩
 have hl:((p.length:Int) == 0)=decide (p.length=0):=by rw[Vf];simp
 have HL:=zh hl;clear hl
 go_enter func183,ntmps183
 go_wp2_with fail
 go_region;go_wp2;refine ret88t w.heap.size (w.heap.size+1) h h (.bool ((p.length:Int) == 0)) rfl rfl rfl rfl _ underlying143 Zd (Qi (Qg i1 _) _ (by omega)) (Qg i3 _) rfl ⟨h,h,?_,?_,zC (zC (Qyq w) (zg _) _) (by omega) _⟩
 .rw[Qot,HL.o]
  by_cases h0:p.length=0 <;> simp[h0]
 intro z hz;rw[Qot] at hz
 split at hz
 .cases hz;rfl
 cases hz
theorem Q3b(m:Int)(r:Hsh)(v:J)(w:G)(d:Qbo w v [r]):Calls prog 183 #[.int .i64 m,.int .i64 m,v,.pointer none] w (Qfn m.toNat m.toNat none [r] w):=by
 obtain⟨a,c,rfl⟩:=Qs1 d;obtain⟨g,off,rfl,e,b,_⟩:=Qj2 (q:=[]) (m:=0) d rfl;simp only[Nat.zero_mul,VC] at b;have c0:w.cell? ⟨g,off,none⟩=some (u8 r[0]):=b 0 (by decide);have c1:=b 1 (by decide);have c2:=b 2 (by decide);have c3:=b 3 (by decide);have c4:=b 4 (by decide);have c5:=b 5 (by decide);have c6:=b 6 (by decide);have c7:=b 7 (by decide);have hg:g<w.heap.size:=Qj c0;have i:g<w.heap.size+1:=by omega
 have f:g≠w.heap.size:=by omega
 have h:g≠w.heap.size+1:=by omega
 have i1:Is8 (((w.alloc (.cells zc 143)).alloc (.cells zc 143)).drew) w.heap.size:=⟨Zb,Qo (Qp (Qe rfl) _)⟩
 have i2:Is8 (((w.alloc (.cells zc 143)).alloc (.cells zc 143)).drew) (w.heap.size+1):=⟨Zb,Qo (Qe (by simp))⟩
 have i3:Is8 ((((w.alloc (.cells zc 143)).alloc (.cells zc 143)).drew).setRow w.heap.size (h8 r)) (w.heap.size+1):=⟨Zb,Qi (Qo (Qe (by simp))) _ (by omega)⟩
 have i4:Is8 ((((w.alloc (.cells zc 143)).alloc (.cells zc 143)).drew).setRow (w.heap.size+1) (h8 r)) w.heap.size:=⟨Zb,Qi (Qo (Qp (Qe rfl) _)) _ (by omega)⟩
 clear b d
 go_enter func183,ntmps183
 go_wp2_with fail
 go_region;go_wp2;refine ret88t w.heap.size (w.heap.size+1) r r (.bool true) rfl rfl rfl rfl _ underlying143 Zd (Qi (Qg i1 _) _ (by omega)) (Qg i3 _) rfl ⟨r,r,by rw[Qt7];rfl,?_,zC (zC (Qyq w) (zg _) _) (by omega) _⟩;intro z hz;rw[Qt7] at hz;cases hz;rfl
theorem Qp3(m n:Int)(f:J)(b:Y Hsh)(v:J)(p:List Hsh)(w:G)(g:Qbo w v p)(i:Qpn w f b)(j:m<=n)(e:(m=n/\b=none/\p.length≠1)∨(m≠n/\p = []))(k:1<=m):Calls prog 183 #[.int .i64 m,.int .i64 n,v,f] w (Qfn m.toNat n.toNat b p w):=by
 obtain⟨a,c,rfl⟩:=Qs1 g;have d:roots m.toNat n.toNat b p=none:=by
  rcases e with⟨rfl,rfl,h⟩|⟨h,rfl⟩
  .exact Qw9 _ _ h
  rw[Qqj,zw (by omega)]
 have HR:=zh d;clear d g;have fin:∀ (a:Act) ,a.tmps.getD 8 undef=.pointer (some ⟨w.heap.size,0,none⟩)->a.tmps.getD 9 undef=.pointer (some ⟨w.heap.size+1,0,none⟩)->a.tmps.getD 10 undef=.bool false->a.defers = []->
   bodyPost prog f183 (Qfn m.toNat n.toNat b p w) .ret a (((w.alloc (.cells zc 143)).alloc (.cells zc 143)).drew):=λa h1 h2 h3 h4=>
  ret88t w.heap.size (w.heap.size+1) Zb Zb (.bool false) rfl h1 h2 h3 _ underlying143 Zd (Qo (Qp (Qe rfl) _)) (Qo (Qe (by simp))) h4
   ⟨Zb,Zb,by rw[HR.o];rfl,λz hz=>(by rw[HR.o] at hz;cases hz),Qyq w⟩
 have FIN:=zh fin;clear fin;rcases e with⟨rfl,rfl,h⟩|⟨h,rfl⟩
 .obtain rfl:f=.pointer none:=by rcases i with⟨rfl,_⟩|⟨_,_,_,h,_⟩ <;> first|rfl|cases h
  have d1:((p.length:Int) == 1)=false:=by rw[zl];omega
  go_enter func183,ntmps183
  go_wp2_with fail
  go_region;go_wp2;exact FIN.o _ rfl rfl rfl rfl
 have d1:(m == n)=false:=by rw[zl];exact h
 clear i
 go_enter func183,ntmps183
 go_wp2_with fail
 go_region;go_wp2;exact FIN.o _ rfl rfl rfl rfl
end
structure In14(last x y n1 n2:Hsh)(g:Nat)(ok:J)(W:G)(b:Nat->Bool)(a:Act)(w:G):Prop where
 d:a.defers = []
 s:103<=a.tmps.size
 t8:a.tmps.getD 8 undef=.pointer (some ⟨g,0,none⟩)
 t9:a.tmps.getD 9 undef=.pointer (some ⟨g+1,0,none⟩)
 t11:a.tmps.getD 11 undef=.pointer (some ⟨g+1+1,0,none⟩)
 t10:a.tmps.getD 10 undef=ok
 r0:b 0=true->a.tmps.getD 96 undef=.agg (h8 last)
 r1:b 1=true->a.tmps.getD 97 undef=.agg (h8 x)
 r2:b 2=true->a.tmps.getD 98 undef=.agg (h8 n1)
 r3:b 3=true->a.tmps.getD 99 undef=.agg (h8 last)
 r4:b 4=true->a.tmps.getD 100 undef=.agg (h8 y)
 r5:b 5=true->a.tmps.getD 101 undef=.agg (h8 n2)
 r6:b 6=true->a.tmps.getD 102 undef=ok
 h11:Qz w (g+1+1) last
 e8:b 7=false->Qz w g x
 f8:b 7=true->Qz w g n1
 e9:b 8=false->Qz w (g+1) y
 f9:b 8=true->Qz w (g+1) n2
 bel:Below g W w
 c7:b 7=true->b 1=true
 c8:b 8=true->b 4=true
theorem draw14(j x y m n:Hsh)(g:Nat)(q:J)(W:G){c:Array Oper}{Q:Exit->Act->G->Prop}(r:∀ b:Nat->Bool,∀ i∈Region.ready .any c (bs b),i<10/\b i=false/\(i=2->b 0=true/\b 1=true)/\(i=5->b 3=true/\b 4=true)/\(i=7->b 1=true/\b 2=true)/\(i=8->b 4=true/\b 5=true)/\(i=9->b 6=true))(r0:∀ b:Nat->Bool,left b=0->Region.ready .any c (bs b) = [])(r1:∀ (b:Nat->Bool) (f:Nat),f+1=left b->Region.ready .any c (bs b)≠[])(H:∃ (o:Oper),c[0]?=some o/\o.guard=none/\o.dst=some 96/\o.op=.load 143 (.tmp 11))(C:∃ (o:Oper),c[1]?=some o/\o.guard=none/\o.dst=some 97/\o.op=.load 143 (.tmp 8))(o2:∃ (o:Oper) (ts:Array TypeId),c[2]?=some o/\o.guard=none/\o.dst=some 98/\o.op=.call { callee:=.value (.func 181),args:=#[.tmp 96,.tmp 97],argTypes:=ts })(I:∃ (o:Oper),c[3]?=some o/\o.guard=none/\o.dst=some 99/\o.op=.load 143 (.tmp 11))(F:∃ (o:Oper),c[4]?=some o/\o.guard=none/\o.dst=some 100/\o.op=.load 143 (.tmp 9))(K:∃ (o:Oper) (ts:Array TypeId),c[5]?=some o/\o.guard=none/\o.dst=some 101/\o.op=.call { callee:=.value (.func 181),args:=#[.tmp 99,.tmp 100],argTypes:=ts })(D:∃ (o:Oper),c[6]?=some o/\o.guard=none/\o.dst=some 102/\o.op=.move (.tmp 10))(B:∃ (o:Oper),c[7]?=some o/\o.guard=none/\o.dst=none/\o.op=.store 143 (.tmp 8) (.tmp 98))(E:∃ (o:Oper),c[8]?=some o/\o.guard=none/\o.dst=none/\o.op=.store 143 (.tmp 9) (.tmp 101))(M:∃ (o:Oper),c[9]?=some o/\o.guard=none/\o.dst=some 10/\o.op=.assign (.tmp 102))(t:g<=W.heap.size)(u:∀ args w,(callFunc 181 args).run prog w=.ok (.enter 181 args) w)(z:∀ w,Calls prog 181 #[.agg (h8 j),.agg (h8 x)] w λe w'=>e=.returned (.agg (h8 m))/\Bz w w')(v:∀ w,Calls prog 181 #[.agg (h8 j),.agg (h8 y)] w λe w'=>e=.returned (.agg (h8 n))/\Bz w w')(A:∀ b a w,In14 j x y m n g q W b a w->b 7=true->b 8=true->Q .normal a w):∀ a w,In14 j x y m n g q W (λ_=>false) a w->wpAny prog .any c Q 10 (Array.replicate 10 false) a w:=by
 intro a w h;refine Qom (λf L a w=>∃ b,L=bs b/\f=left b/\In14 j x y m n g q W b a w) ?_ ?_ 10 _ a w ⟨λ_=>false,rfl,rfl,h⟩
 .rintro L a w⟨b,rfl,hf,h⟩
  refine⟨r0 b hf.symm,A b a w h ?_ ?_⟩
  .rcases hh:b 7 with _|_
   .exfalso;simp only[left,hh,zaw,zag] at hf;omega
   rfl
  rcases hh:b 8 with _|_
  .exfalso;simp only[left,hh,zaw,zag] at hf;omega
  rfl
 rintro f L a w⟨b,rfl,hf,h⟩;refine⟨r1 b f hf,λi hi=>?_⟩;obtain⟨p,l,d2,d5,d7,d8,d9⟩:=r b i hi;have hL:=Zay b i p;have hF:=Q0j b i p l f hf
 have:i=0∨i=1∨i=2∨i=3∨i=4∨i=5∨i=6∨i=7∨i=8∨i=9:=by omega
 rcases this with rfl|rfl|rfl|rfl|rfl|rfl|rfl|rfl|rfl|rfl
 .obtain⟨o,h1,h2,h3,h4⟩:=H
  refine Qai h1 h2 (Xo _ _ h4 _ h.t11 _ (h8 j) _ _ h.h11 underlying143 rfl (by rw[Zd,h8_size]) ⟨upd b 0,hL,hF,?_⟩);rw[h3];exact { h11:=h.h11,e8:=h.e8,f8:=h.f8,e9:=h.e9,f9:=h.f9,bel:=h.bel,c7:=h.c7,c8:=h.c8,d:=Ys.t h.d,s:=by rw[Jy];exact h.s,t8:=Qc h.t8 (by decide),t9:=Qc h.t9 (by decide),t11:=Qc h.t11 (by decide),t10:=Qc h.t10 (by decide),r0:=λ_=>Q9 (by have:=h.s;omega),r1:=λhb=>Qc (h.r1 hb) (by decide),r2:=λhb=>Qc (h.r2 hb) (by decide),r3:=λhb=>Qc (h.r3 hb) (by decide),r4:=λhb=>Qc (h.r4 hb) (by decide),r5:=λhb=>Qc (h.r5 hb) (by decide),r6:=λhb=>Qc (h.r6 hb) (by decide) }
 .obtain⟨o,h1,h2,h3,h4⟩:=C
  have n7:b 7=false:=by rcases hh:b 7 with _|_;rfl;exact absurd (h.c7 hh) (by rw[l];decide)
  refine Qai h1 h2 (Xo _ _ h4 _ h.t8 _ (h8 x) _ _ (h.e8 n7) underlying143 rfl (by rw[Zd,h8_size]) ⟨upd b 1,hL,hF,?_⟩);rw[h3];exact { h11:=h.h11,e8:=h.e8,f8:=h.f8,e9:=h.e9,f9:=h.f9,bel:=h.bel,c7:=λ_=>rfl,c8:=h.c8,d:=Ys.t h.d,s:=by rw[Jy];exact h.s,t8:=Qc h.t8 (by decide),t9:=Qc h.t9 (by decide),t11:=Qc h.t11 (by decide),t10:=Qc h.t10 (by decide),r0:=λhb=>Qc (h.r0 hb) (by decide),r1:=λ_=>Q9 (by have:=h.s;omega),r2:=λhb=>Qc (h.r2 hb) (by decide),r3:=λhb=>Qc (h.r3 hb) (by decide),r4:=λhb=>Qc (h.r4 hb) (by decide),r5:=λhb=>Qc (h.r5 hb) (by decide),r6:=λhb=>Qc (h.r6 hb) (by decide) }
 .obtain⟨o,ts,h1,h2,h3,h4⟩:=o2
  have dd:=d2 rfl;refine Qai h1 h2 (Qz5 _ _ _ _ h4 u ?_);rw[show a.eval (.tmp 96)=.agg (h8 j) from h.r0 dd.1,show a.eval (.tmp 97)=.agg (h8 x) from h.r1 dd.2];refine (z w).m ?_;rintro e w'⟨rfl,hb⟩;refine⟨_,rfl,upd b 2,hL,hF,?_⟩;rw[h3];exact { h11:=Qh h.h11 hb,e8:=λk=>Qh (h.e8 k) hb,f8:=λk=>Qh (h.f8 k) hb,e9:=λk=>Qh (h.e9 k) hb,f9:=λk=>Qh (h.f9 k) hb,bel:=h.bel.t (hb.m (zi t h.bel.size)),c7:=h.c7,c8:=h.c8,d:=Ys.t h.d,s:=by rw[Jy];exact h.s,t8:=Qc h.t8 (by decide),t9:=Qc h.t9 (by decide),t11:=Qc h.t11 (by decide),t10:=Qc h.t10 (by decide),r0:=λhb=>Qc (h.r0 hb) (by decide),r1:=λhb=>Qc (h.r1 hb) (by decide),r2:=λ_=>Q9 (by have:=h.s;omega),r3:=λhb=>Qc (h.r3 hb) (by decide),r4:=λhb=>Qc (h.r4 hb) (by decide),r5:=λhb=>Qc (h.r5 hb) (by decide),r6:=λhb=>Qc (h.r6 hb) (by decide) }
 .obtain⟨o,h1,h2,h3,h4⟩:=I
  refine Qai h1 h2 (Xo _ _ h4 _ h.t11 _ (h8 j) _ _ h.h11 underlying143 rfl (by rw[Zd,h8_size]) ⟨upd b 3,hL,hF,?_⟩);rw[h3];exact { h11:=h.h11,e8:=h.e8,f8:=h.f8,e9:=h.e9,f9:=h.f9,bel:=h.bel,c7:=h.c7,c8:=h.c8,d:=Ys.t h.d,s:=by rw[Jy];exact h.s,t8:=Qc h.t8 (by decide),t9:=Qc h.t9 (by decide),t11:=Qc h.t11 (by decide),t10:=Qc h.t10 (by decide),r0:=λhb=>Qc (h.r0 hb) (by decide),r1:=λhb=>Qc (h.r1 hb) (by decide),r2:=λhb=>Qc (h.r2 hb) (by decide),r3:=λ_=>Q9 (by have:=h.s;omega),r4:=λhb=>Qc (h.r4 hb) (by decide),r5:=λhb=>Qc (h.r5 hb) (by decide),r6:=λhb=>Qc (h.r6 hb) (by decide) }
 .obtain⟨o,h1,h2,h3,h4⟩:=F
  have n8:b 8=false:=by rcases hh:b 8 with _|_;rfl;exact absurd (h.c8 hh) (by rw[l];decide)
  refine Qai h1 h2 (Xo _ _ h4 _ h.t9 _ (h8 y) _ _ (h.e9 n8) underlying143 rfl (by rw[Zd,h8_size]) ⟨upd b 4,hL,hF,?_⟩);rw[h3];exact { h11:=h.h11,e8:=h.e8,f8:=h.f8,e9:=h.e9,f9:=h.f9,bel:=h.bel,c7:=h.c7,c8:=λ_=>rfl,d:=Ys.t h.d,s:=by rw[Jy];exact h.s,t8:=Qc h.t8 (by decide),t9:=Qc h.t9 (by decide),t11:=Qc h.t11 (by decide),t10:=Qc h.t10 (by decide),r0:=λhb=>Qc (h.r0 hb) (by decide),r1:=λhb=>Qc (h.r1 hb) (by decide),r2:=λhb=>Qc (h.r2 hb) (by decide),r3:=λhb=>Qc (h.r3 hb) (by decide),r4:=λ_=>Q9 (by have:=h.s;omega),r5:=λhb=>Qc (h.r5 hb) (by decide),r6:=λhb=>Qc (h.r6 hb) (by decide) }
 .obtain⟨o,ts,h1,h2,h3,h4⟩:=K
  have dd:=d5 rfl;refine Qai h1 h2 (Qz5 _ _ _ _ h4 u ?_);rw[show a.eval (.tmp 99)=.agg (h8 j) from h.r3 dd.1,show a.eval (.tmp 100)=.agg (h8 y) from h.r4 dd.2];refine (v w).m ?_;rintro e w'⟨rfl,hb⟩;refine⟨_,rfl,upd b 5,hL,hF,?_⟩;rw[h3];exact { h11:=Qh h.h11 hb,e8:=λk=>Qh (h.e8 k) hb,f8:=λk=>Qh (h.f8 k) hb,e9:=λk=>Qh (h.e9 k) hb,f9:=λk=>Qh (h.f9 k) hb,bel:=h.bel.t (hb.m (zi t h.bel.size)),c7:=h.c7,c8:=h.c8,d:=Ys.t h.d,s:=by rw[Jy];exact h.s,t8:=Qc h.t8 (by decide),t9:=Qc h.t9 (by decide),t11:=Qc h.t11 (by decide),t10:=Qc h.t10 (by decide),r0:=λhb=>Qc (h.r0 hb) (by decide),r1:=λhb=>Qc (h.r1 hb) (by decide),r2:=λhb=>Qc (h.r2 hb) (by decide),r3:=λhb=>Qc (h.r3 hb) (by decide),r4:=λhb=>Qc (h.r4 hb) (by decide),r5:=λ_=>Q9 (by have:=h.s;omega),r6:=λhb=>Qc (h.r6 hb) (by decide) }
 .obtain⟨o,h1,h2,h3,h4⟩:=D
  refine Qai h1 h2 (Xh _ h4 ⟨upd b 6,hL,hF,?_⟩);rw[h3,show a.eval (.tmp 10)=q from h.t10];exact { h11:=h.h11,e8:=h.e8,f8:=h.f8,e9:=h.e9,f9:=h.f9,bel:=h.bel,c7:=h.c7,c8:=h.c8,d:=Ys.t h.d,s:=by rw[Jy];exact h.s,t8:=Qc h.t8 (by decide),t9:=Qc h.t9 (by decide),t11:=Qc h.t11 (by decide),t10:=Qc h.t10 (by decide),r0:=λhb=>Qc (h.r0 hb) (by decide),r1:=λhb=>Qc (h.r1 hb) (by decide),r2:=λhb=>Qc (h.r2 hb) (by decide),r3:=λhb=>Qc (h.r3 hb) (by decide),r4:=λhb=>Qc (h.r4 hb) (by decide),r5:=λhb=>Qc (h.r5 hb) (by decide),r6:=λ_=>Q9 (by have:=h.s;omega) }
 .obtain⟨o,h1,h2,h3,h4⟩:=B
  have dd:=d7 rfl;refine Qai h1 h2 (zaa _ _ _ h4 _ (h8 m) h.t8 (h.r2 dd.2) _ _ (h.e8 l) (by rw[Zd,h8_size]) (by simp) (Qsd m) ⟨upd b 7,hL,hF,?_⟩);rw[h3];exact { h11:=Qi h.h11 _ (by omega),e8:=λk=>absurd (show true=false from k) (by decide),f8:=λ_=>Q0 (h.e8 l) _,e9:=λk=>Qi (h.e9 k) _ (by omega),f9:=λk=>Qi (h.f9 k) _ (by omega),bel:=zC h.bel (by omega) _,c7:=λ_=>dd.1,c8:=h.c8,d:=h.d,s:=h.s,t8:=h.t8,t9:=h.t9,t11:=h.t11,t10:=h.t10,r0:=h.r0,r1:=h.r1,r2:=h.r2,r3:=h.r3,r4:=h.r4,r5:=h.r5,r6:=h.r6 }
 .obtain⟨o,h1,h2,h3,h4⟩:=E
  have dd:=d8 rfl;refine Qai h1 h2 (zaa _ _ _ h4 _ (h8 n) h.t9 (h.r5 dd.2) _ _ (h.e9 l) (by rw[Zd,h8_size]) (by simp) (Qsd n) ⟨upd b 8,hL,hF,?_⟩);rw[h3];exact { h11:=Qi h.h11 _ (by omega),e8:=λk=>Qi (h.e8 k) _ (by omega),f8:=λk=>Qi (h.f8 k) _ (by omega),e9:=λk=>absurd (show true=false from k) (by decide),f9:=λ_=>Q0 (h.e9 l) _,bel:=zC h.bel (by omega) _,c7:=h.c7,c8:=λ_=>dd.1,d:=h.d,s:=h.s,t8:=h.t8,t9:=h.t9,t11:=h.t11,t10:=h.t10,r0:=h.r0,r1:=h.r1,r2:=h.r2,r3:=h.r3,r4:=h.r4,r5:=h.r5,r6:=h.r6 }
 obtain⟨o,h1,h2,h3,h4⟩:=M;refine Qai h1 h2 (BigFrame.wp_assign _ h4 ⟨upd b 9,hL,hF,?_⟩);rw[h3,show a.eval (.tmp 102)=q from h.r6 (d9 rfl)];exact { h11:=h.h11,e8:=h.e8,f8:=h.f8,e9:=h.e9,f9:=h.f9,bel:=h.bel,c7:=h.c7,c8:=h.c8,d:=Ys.t h.d,s:=by rw[Jy];exact h.s,t8:=Qc h.t8 (by decide),t9:=Qc h.t9 (by decide),t11:=Qc h.t11 (by decide),t10:=Q9 (by have:=h.s;omega),r0:=λhb=>Qc (h.r0 hb) (by decide),r1:=λhb=>Qc (h.r1 hb) (by decide),r2:=λhb=>Qc (h.r2 hb) (by decide),r3:=λhb=>Qc (h.r3 hb) (by decide),r4:=λhb=>Qc (h.r4 hb) (by decide),r5:=λhb=>Qc (h.r5 hb) (by decide),r6:=λhb=>Qc (h.r6 hb) (by decide) }
section
attribute [local go_sem] h8_0 h8_1 h8_2 h8_3 h8_4 h8_5 h8_6 h8_7 Qbu h8_size Qdn Qa2
theorem Qpn.j{w w':G}{v:J}{o:Y Hsh}(h:Qpn w v o)(a:Bz w w'):Qpn w' v o:=by
 rcases h with h|⟨g,x,h1,h2,h3⟩
 .exact .inl h
 exact .inr ⟨g,x,h1,h2,Qh h3 a⟩
set_option maxHeartbeats 16000000 in
theorem Q3n(l:Nat):∀ (p:List Hsh) (m n:Int) (whole:Y Hsh) (v pv:J) (w:G),p.length=l->Qbo w v p->Qpn w pv whole->1<=m->m<=n->n<=9223372036854775807->l<=1048576->
  Calls prog 183 #[.int .i64 m,.int .i64 n,v,pv] w (Qfn m.toNat n.toNat whole p w):=by
 induction l with
 | zero=>
  intro p m n whole v pv w hp h hw h1 H hn hl;obtain rfl:p = []:=zG hp;by_cases he:m=n
  .subst he
   rcases id hw with⟨rfl,rfl⟩|⟨g,x,rfl,rfl,hh⟩
   .exact Qp3 m m _ none v [] w h hw H (.inl ⟨rfl,rfl,by simp⟩) h1
   exact Qnf m g x v [] w h hh
  exact Qp3 m n pv whole v [] w h hw H (.inr ⟨he,rfl⟩) h1
 | succ l ih=>
  intro p m n whole v pv w hp h hw h1 H hn hl;by_cases he:m=n
  .subst he
   rcases id hw with⟨rfl,rfl⟩|⟨g,x,rfl,rfl,hh⟩
   .by_cases hp1:p.length=1
    .match p,hp1 with
     | [r],_=>exact Q3b m r v w h
    exact Qp3 m m _ none v p w h hw H (.inl ⟨rfl,rfl,hp1⟩) h1
   exact Qnf m g x v p w h hh
  obtain⟨q,last,rfl⟩:∃ q last,p=q ++ [last]:=⟨p.dropLast,p.getLast (by intro e;simp[e] at hp),(vQ _).symm⟩
  have hq:q.length=l:=by simpa using hp
  obtain⟨a,c,hv,_⟩:=id h;rw[hp] at hv;subst hv;obtain⟨b,off,rfl,Z,j,F⟩:=Qj2 h hq;have hr:=Qi0 m.toNat n.toNat whole q last;rw[zw (by omega)] at hr;have L:=Qgg (n:=n.toNat) (by omega) (by omega);obtain⟨k,hk⟩:=zzx (below n.toNat)
  rw[<-hk] at L hr;obtain⟨ad,ae,af⟩:=L;obtain⟨HR,HK,HW,HQ,IH,HL⟩:=zh6 hr hk hw F ih hq;clear hr hk hw F ih h hq hp;have c0:w.cell? ⟨b,off+l*8,none⟩=some (u8 last[0]):=j 0 (by decide);have c1:=j 1 (by decide);have c2:=j 2 (by decide);have c3:=j 3 (by decide);have c4:=j 4 (by decide);have c5:=j 5 (by decide);have c6:=j 6 (by decide);have c7:=j 7 (by decide);have ac:b<w.heap.size:=Qj c0;have aa:b<w.heap.size+1:=by omega
  have W:b<w.heap.size+1+1:=by omega
  have ab:((l:Int)+1 == 0)=false:=by rw[zl];omega
  have hd:(m == n)=false:=by rw[zl];exact he
  have hI:Is8 (((w.alloc (.cells zc 143)).alloc (.cells zc 143)).alloc (.cells zc 143)).drew (w.heap.size+1+1):=⟨Zb,Qo (Qe (by simp))⟩
  clear j
  go_enter func183,ntmps183
  go_wp2_with fail
  go_region;have f1:Qz ((((w.alloc (.cells zc 143)).alloc (.cells zc 143)).alloc (.cells zc 143)).drew.setRow (w.heap.size+1+1) (h8 last)) w.heap.size Zb:=Qi (Qo (Qp (Qp (Qe rfl) _) _)) _ (by omega);have f2:Qz ((((w.alloc (.cells zc 143)).alloc (.cells zc 143)).alloc (.cells zc 143)).drew.setRow (w.heap.size+1+1) (h8 last)) (w.heap.size+1) Zb:=Qi (Qo (Qp (Qe (by simp)) _)) _ (by omega);have f3:Qz ((((w.alloc (.cells zc 143)).alloc (.cells zc 143)).alloc (.cells zc 143)).drew.setRow (w.heap.size+1+1) (h8 last)) (w.heap.size+1+1) last:=Q0 (Qo (Qe (by simp))) _;have f4:Bz w ((((w.alloc (.cells zc 143)).alloc (.cells zc 143)).alloc (.cells zc 143)).drew.setRow (w.heap.size+1+1) (h8 last)):=zC (((((Qa w _).alloc (by simp) _).alloc (by simp;omega) _).drew)) (by omega) _;have f5:((((w.alloc (.cells zc 143)).alloc (.cells zc 143)).alloc (.cells zc 143)).drew.setRow (w.heap.size+1+1) (h8 last)).heap.size=w.heap.size+1+1+1:=by simp
  obtain⟨F1,F2,F3,F4,F5⟩:=zh5 f1 f2 f3 f4 f5;clear f1 f2 f3 f4 f5 hI c0 c1 c2 c3 c4 c5 c6 c7;generalize ((((w.alloc (.cells zc 143)).alloc (.cells zc 143)).alloc (.cells zc 143)).drew.setRow (w.heap.size+1+1) (h8 last))=W2 at *
  go_wp2_with fail
  refine (Qaw _ _ (by omega) (by omega)).m ?_;rintro e w0⟨rfl,rfl⟩;rw[<-HK.o];have U:=zh (HW.o.j F4.o);by_cases hmk:m<=(k:Int)
  .go_wp2_with fail
   refine (IH.o q m k whole _ _ _ HL.o (Qev.j HQ.o F4.o) U.o h1 hmk (by omega) (by omega)).m ?_;rintro e w1⟨x,y,rfl,E,hb⟩;have hz:w.heap.size+3<=w1.heap.size:=by have:=hb.size;rw[F5.o] at this;omega
   have g1:=Qh F1.o hb;have g2:=Qh F2.o hb;have g3:=Qh F3.o hb;have j2:Qz (w1.setRow w.heap.size (h8 x)) (w.heap.size+1) Zb:=Qi g2 _ (by omega);obtain⟨I,G3,G1,F6⟩:=zh4 E g3 g1 (F4.o.t (hb.m F4.o.size));clear E hb g3;obtain⟨rt,t⟩:=zzx (roots m.toNat (k:Int).toNat whole q)
   rw[<-t];have A:=zh t;clear t
   go_wp2_with (refine Qr rfl 143 _ _ rfl _ _ rfl rfl Zd ?_ ?_ ?_;rotate_left;focus ((repeat(first|(with_reducible first|assumption|exact Qg ⟨_,by assumption⟩ _)|((with_reducible first|refine Qe ?_|refine Q2 ?_|refine Qg (Q6 ?_) _);(first|rfl|simp;done|simp;omega))|with_reducible refine Qp ?_ _|((with_reducible refine Qi ?_ _ ?_);rotate_left;(focus(first|simp;done|simp;omega|omega)))|with_reducible first|refine Qo ?_|refine Qh ?_ (by assumption)));done))
   have a1:Qz ((w1.setRow w.heap.size (h8 x)).setRow (w.heap.size+1) (h8 y)) w.heap.size x:=Qi (Q0 G1.o _) _ (by omega);have a2:Qz ((w1.setRow w.heap.size (h8 x)).setRow (w.heap.size+1) (h8 y)) (w.heap.size+1) y:=Q0 j2 _;have a3:Qz ((w1.setRow w.heap.size (h8 x)).setRow (w.heap.size+1) (h8 y)) (w.heap.size+1+1) last:=Qi (Qi G3.o _ (by omega)) _ (by omega);have a4:Bz w ((w1.setRow w.heap.size (h8 x)).setRow (w.heap.size+1) (h8 y)):=zC (zC F6.o (zg _) _) (by omega) _;have a5:((w1.setRow w.heap.size (h8 x)).setRow (w.heap.size+1) (h8 y)).heap.size=w1.heap.size:=by simp
   obtain⟨A1,A2,A3,A4,A5⟩:=zh5 a1 a2 a3 a4 a5;clear a1 a2 a3 a4 a5 j2 g1 g2;generalize ((w1.setRow w.heap.size (h8 x)).setRow (w.heap.size+1) (h8 y))=W3 at *;have P:w.heap.size+3<=W3.heap.size:=by rw[A5.o];exact hz
   have S:w.heap.size<W3.heap.size:=by omega
   have Q:w.heap.size+1<W3.heap.size:=by omega
   have R:w.heap.size+1+1<W3.heap.size:=by omega
   have x0:=Qy A1.o 0 (by decide);have x1:=Qy A1.o 1 (by decide);have x2:=Qy A1.o 2 (by decide);have x3:=Qy A1.o 3 (by decide);have x4:=Qy A1.o 4 (by decide);have x5:=Qy A1.o 5 (by decide);have x6:=Qy A1.o 6 (by decide);have x7:=Qy A1.o 7 (by decide);have y0:=Qy A2.o 0 (by decide);have y1:=Qy A2.o 1 (by decide);have y2:=Qy A2.o 2 (by decide);have y3:=Qy A2.o 3 (by decide);have y4:=Qy A2.o 4 (by decide);have y5:=Qy A2.o 5 (by decide);have y6:=Qy A2.o 6 (by decide);have y7:=Qy A2.o 7 (by decide);have z0:=Qy A3.o 0 (by decide);have z1:=Qy A3.o 1 (by decide);have z2:=Qy A3.o 2 (by decide);have z3:=Qy A3.o 3 (by decide);have z4:=Qy A3.o 4 (by decide);have z5:=Qy A3.o 5 (by decide);have z6:=Qy A3.o 6 (by decide);have z7:=Qy A3.o 7 (by decide)
   go_region_with (go_at_call 181;refine (Qcv y last _).m ?_;rintro e w4⟨rfl,C⟩;have k1:=Qh (Qo A1.o) C;have k2:=Qh (Qo A2.o) C;have ag:w.heap.size+3<=w4.heap.size:=zi P C.size;have i1:Is8 w4 w.heap.size:=⟨_,k1⟩;have i2:Is8 w4 (w.heap.size+1):=⟨_,k2⟩;have i3:Is8 (w4.setRow w.heap.size (h8 x)) (w.heap.size+1):=⟨_,Qi k2 _ (by omega)⟩;have i4:Is8 (w4.setRow (w.heap.size+1) (h8 (Z9 y last))) w.heap.size:=⟨_,Qi k1 _ (by omega)⟩;have V:=zh C;have d0:=Qy k1 0 (by decide);have d1:=Qy k1 1 (by decide);have d2:=Qy k1 2 (by decide);have d3:=Qy k1 3 (by decide);have d4:=Qy k1 4 (by decide);have d5:=Qy k1 5 (by decide);have d6:=Qy k1 6 (by decide);have d7:=Qy k1 7 (by decide);clear C k1 k2)
   all_goals
    go_wp2;have D:roots m.toNat n.toNat whole (q ++ [last])=rt.map (λz=>(z.1,Z9 z.2 last)):=by rw[HR.o,zD (by omega),A.o];rfl
    refine ret88t w.heap.size (w.heap.size+1) x (Z9 y last) (.bool rt.isSome) rfl rfl rfl rfl _ underlying143 Zd (Qi (Qg i1 _) _ (by omega)) (Qg i3 _) rfl ⟨x,Z9 y last,by rw[D,Vb],?_,zC (zC ((A4.o.drew).t (V.o.m A4.o.drew.size)) (zg _) _) (by omega) _⟩;intro z B;rw[D] at B;obtain⟨z',K,rfl⟩:=zP.1 B
    have:=I.o z' (by rw[<-A.o];exact K)
    subst this;rfl
  go_wp2_with fail
  refine (IH.o q (m-k) (n-k) none _ _ _ HL.o (Qev.j HQ.o F4.o) (.inl ⟨rfl,rfl⟩) (by omega) (by omega) (by omega) (by omega)).m ?_;rintro e w1⟨x,y,rfl,E,hb⟩;have hz:w.heap.size+3<=w1.heap.size:=by have:=hb.size;rw[F5.o] at this;omega
  have g1:=Qh F1.o hb;have g2:=Qh F2.o hb;have g3:=Qh F3.o hb;have j2:Qz (w1.setRow w.heap.size (h8 x)) (w.heap.size+1) Zb:=Qi g2 _ (by omega);obtain⟨I,G3,G1,F6⟩:=zh4 E g3 g1 (F4.o.t (hb.m F4.o.size));clear E hb g3;obtain⟨rt,t⟩:=zzx (roots (m-k).toNat (n-k).toNat none q)
  rw[<-t];have A:=zh t;clear t
  go_wp2_with (refine Qr rfl 143 _ _ rfl _ _ rfl rfl Zd ?_ ?_ ?_;rotate_left;focus ((repeat(first|(with_reducible first|assumption|exact Qg ⟨_,by assumption⟩ _)|((with_reducible first|refine Qe ?_|refine Q2 ?_|refine Qg (Q6 ?_) _);(first|rfl|simp;done|simp;omega))|with_reducible refine Qp ?_ _|((with_reducible refine Qi ?_ _ ?_);rotate_left;(focus(first|simp;done|simp;omega|omega)))|with_reducible first|refine Qo ?_|refine Qh ?_ (by assumption)));done))
  have a1:Qz ((w1.setRow w.heap.size (h8 x)).setRow (w.heap.size+1) (h8 y)) w.heap.size x:=Qi (Q0 G1.o _) _ (by omega);have a2:Qz ((w1.setRow w.heap.size (h8 x)).setRow (w.heap.size+1) (h8 y)) (w.heap.size+1) y:=Q0 j2 _;have a3:Qz ((w1.setRow w.heap.size (h8 x)).setRow (w.heap.size+1) (h8 y)) (w.heap.size+1+1) last:=Qi (Qi G3.o _ (by omega)) _ (by omega);have a4:Bz w ((w1.setRow w.heap.size (h8 x)).setRow (w.heap.size+1) (h8 y)):=zC (zC F6.o (zg _) _) (by omega) _;have a5:((w1.setRow w.heap.size (h8 x)).setRow (w.heap.size+1) (h8 y)).heap.size=w1.heap.size:=by simp
  obtain⟨A1,A2,A3,A4,A5⟩:=zh5 a1 a2 a3 a4 a5;clear a1 a2 a3 a4 a5 j2 g1 g2;generalize ((w1.setRow w.heap.size (h8 x)).setRow (w.heap.size+1) (h8 y))=W3 at *;have P:w.heap.size+3<=W3.heap.size:=by rw[A5.o];exact hz
  have S:w.heap.size<W3.heap.size:=by omega
  have Q:w.heap.size+1<W3.heap.size:=by omega
  have R:w.heap.size+1+1<W3.heap.size:=by omega
  refine wp_region_any (by kernel_rfl) ?_;refine draw14 last x y (Z9 last x) (Z9 last y) w.heap.size (.bool rt.isSome) w ?_ ?_ ?_ ⟨_,rfl,rfl,rfl,rfl⟩ ⟨_,rfl,rfl,rfl,rfl⟩ ⟨_,_,rfl,rfl,rfl,rfl⟩ ⟨_,rfl,rfl,rfl,rfl⟩ ⟨_,rfl,rfl,rfl,rfl⟩ ⟨_,_,rfl,rfl,rfl,rfl⟩ ⟨_,rfl,rfl,rfl,rfl⟩ ⟨_,rfl,rfl,rfl,rfl⟩ ⟨_,rfl,rfl,rfl,rfl⟩ ⟨_,rfl,rfl,rfl,rfl⟩ (zg _) (λ_ _=>by rfl) (Qcv last x) (Qcv last y) ?_ _ _ ?_
  .intro b i hi
   rw[Region.ready,ZJ] at hi;obtain⟨N,M⟩:=hi;have X:i<10:=ZQ.1 N
   have:i=0∨i=1∨i=2∨i=3∨i=4∨i=5∨i=6∨i=7∨i=8∨i=9:=by omega
   clear N;rcases this with rfl|rfl|rfl|rfl|rfl|rfl|rfl|rfl|rfl|rfl <;> simp[bs,Region.binds] at M ⊢ <;> simp[M]
  .intro b hb
   have hh:∀ c:Bool,(!c).toNat=0->c=true:=by intro c;cases c <;> simp
   unfold left at hb;have k0:=hh (b 0) (by omega);have k1:=hh (b 1) (by omega);have k2:=hh (b 2) (by omega);have k3:=hh (b 3) (by omega);have k4:=hh (b 4) (by omega);have k5:=hh (b 5) (by omega);have k6:=hh (b 6) (by omega);have k7:=hh (b 7) (by omega);have k8:=hh (b 8) (by omega);have k9:=hh (b 9) (by omega);rw[show bs b=#[true,true,true,true,true,true,true,true,true,true] by simp only[bs,k0,k1,k2,k3,k4,k5,k6,k7,k8,k9]];rfl
  .intro b f hf he
   rw[Region.ready] at he;have hn:=λa (ha:a<10)=>List.filter_eq_nil_iff.1 he a (ZQ.2 ha)
   have k0:b 0=true:=by simpa [bs,Region.binds] using hn 0 (by decide)
   have k1:b 1=true:=by simpa [bs,Region.binds,k0] using hn 1 (by decide)
   have k2:b 2=true:=by simpa [bs,Region.binds,k0,k1] using hn 2 (by decide)
   have k3:b 3=true:=by simpa [bs,Region.binds,k0,k1,k2] using hn 3 (by decide)
   have k4:b 4=true:=by simpa [bs,Region.binds,k0,k1,k2,k3] using hn 4 (by decide)
   have k5:b 5=true:=by simpa [bs,Region.binds,k0,k1,k2,k3,k4] using hn 5 (by decide)
   have k6:b 6=true:=by simpa [bs,Region.binds,k0,k1,k2,k3,k4,k5] using hn 6 (by decide)
   have k7:b 7=true:=by simpa [bs,Region.binds,k0,k1,k2,k3,k4,k5,k6] using hn 7 (by decide)
   have k8:b 8=true:=by simpa [bs,Region.binds,k0,k1,k2,k3,k4,k5,k6,k7] using hn 8 (by decide)
   have k9:b 9=true:=by simpa [bs,Region.binds,k0,k1,k2,k3,k4,k5,k6,k7,k8] using hn 9 (by decide)
   simp only[left,k0,k1,k2,k3,k4,k5,k6,k7,k8,k9,Bool.not_true,Bool.toNat_false] at hf;omega
  .rintro c a5 w5 u e7 e8
   go_wp2;have D:roots m.toNat n.toNat whole (q ++ [last])=rt.map (λz=>(Z9 last z.1,Z9 last z.2)):=by
    rw[HR.o,zw (by omega),A.o]
    congr 2 <;> omega
   refine ret88t w.heap.size (w.heap.size+1) (Z9 last x) (Z9 last y) (.bool rt.isSome) rfl u.t8 u.t9 u.t10 _ underlying143 Zd (u.f8 e7) (u.f9 e8) u.d ⟨Z9 last x,Z9 last y,by rw[D,Vb],?_,u.bel⟩;intro z B;rw[D] at B;obtain⟨z',K,rfl⟩:=zP.1 B
   have:=I.o z' (by rw[<-A.o];exact K)
   subst this;rfl
  have T:Bz w W3.drew:=A4.o.drew;exact { d:=rfl,s:=zg 103,t8:=rfl,t9:=rfl,t11:=rfl,t10:=rfl,r0:=λk=>absurd k (by decide),r1:=λk=>absurd k (by decide),r2:=λk=>absurd k (by decide),r3:=λk=>absurd k (by decide),r4:=λk=>absurd k (by decide),r5:=λk=>absurd k (by decide),r6:=λk=>absurd k (by decide),h11:=Qo A3.o,e8:=λ_=>Qo A1.o,f8:=λk=>absurd k (by decide),e9:=λ_=>Qo A2.o,f9:=λk=>absurd k (by decide),bel:=T,c7:=λk=>absurd k (by decide),c8:=λk=>absurd k (by decide) }
end
theorem Qh5(p:List Hsh)(a b:Hsh)(m n:Int)(v:J)(w:G)(h:Qbo w v p)(u : -9223372036854775808<=m)(q:n<=9223372036854775807)(l:p.length<=1048576):Calls prog 142 #[.int .i64 m,.int .i64 n,.agg (h8 a),.agg (h8 b),v] w λe w'=>e=.returned (.bool (Yt m n a b p))/\Bz w w':=by
 obtain⟨ad,c,hv,_⟩:=id h;by_cases h1:1<=m
 .have hd:decide (m<1)=false:=zo (by omega)
  by_cases hmn:m<=n
  .have k:decide (n<m)=false:=zo (by omega)
   have g:Yt m n a b p=(roots m.toNat n.toNat (some a) p == some (a,b)):=by simp[Yt,h1,hmn]
   obtain⟨HI,HH,HV⟩:=zh3 g h hv;clear g h hv
   go_enter func142,ntmps142
   go_wp2_with fail
   have b0:Bz w ((w.alloc (.cells (h8 a) 143)).alloc (.cells (h8 b) 143)):=(Qa w _).alloc (by simp) _;refine (Q3n p.length p m n (some a) v _ _ rfl (Qev.j HH.o b0) (.inr ⟨w.heap.size,a,rfl,rfl,Qp (Q2 rfl) _⟩) h1 hmn q l).m ?_;rintro e w1⟨x,y,rfl,hz,hb⟩;have j:Bz w w1:=b0.t (hb.m b0.size);have t:w.heap.size+2<=w1.heap.size:=by have:=hb.size;simp at this;omega
   have g1:Qz w1 w.heap.size a:=Qh (Qp (Q2 rfl) _) hb;have g2:Qz w1 (w.heap.size+1) b:=Qh (Q2 (by simp)) hb;obtain⟨d,HZ⟩:=zh2 j hz;clear hz hb j b0;obtain⟨r,i⟩:=zzx (roots m.toNat n.toNat (some a) p)
   rw[<-i];have f:=zh i;clear i;have fin:∀ (cs ds:Array J),Bz w ((((w1.alloc (.cells zc 143)).alloc (.cells zc 143)).setRow w1.heap.size cs).setRow (w1.heap.size+1) ds):=λcs ds=>
    zC (zC ((d.o.alloc d.o.size _).alloc (by simp;have:=d.o.size;omega) _) d.o.size _) (by have:=d.o.size;omega) _
   have FIN:=zh fin;clear fin;have i1:Qz ((w1.alloc (.cells zc 143)).alloc (.cells zc 143)) w1.heap.size Zb:=Qp (Qe rfl) _;have i2:Qz (((w1.alloc (.cells zc 143)).alloc (.cells zc 143)).setRow w1.heap.size (h8 x)) (w1.heap.size+1) Zb:=Qi (Qe (by simp)) _ (by omega);have j1:Qz ((((w1.alloc (.cells zc 143)).alloc (.cells zc 143)).setRow w1.heap.size (h8 x)).setRow (w1.heap.size+1) (h8 y)) w1.heap.size x:=Qi (Q0 i1 x) _ (by omega);have j2:Qz ((((w1.alloc (.cells zc 143)).alloc (.cells zc 143)).setRow w1.heap.size (h8 x)).setRow (w1.heap.size+1) (h8 y)) (w1.heap.size+1) y:=Q0 i2 y;have j3:Qz ((((w1.alloc (.cells zc 143)).alloc (.cells zc 143)).setRow w1.heap.size (h8 x)).setRow (w1.heap.size+1) (h8 y)) w.heap.size a:=Qi (Qi (Qp (Qp g1 _) _) _ (by omega)) _ (by omega);have j4:Qz ((((w1.alloc (.cells zc 143)).alloc (.cells zc 143)).setRow w1.heap.size (h8 x)).setRow (w1.heap.size+1) (h8 y)) (w.heap.size+1) b:=Qi (Qi (Qp (Qp g2 _) _) _ (by omega)) _ (by omega);cases r with
   | none=>
    go_wp2_with (first|((first|refine Qw rfl 143 _ rfl _ rfl _ underlying143 Zd ?_ ?_ ?_|refine Qr rfl 143 _ _ rfl _ _ rfl rfl Zd ?_ ?_ ?_);rotate_left;focus((repeat(first|(with_reducible first|assumption|exact Qg ⟨_,by assumption⟩ _)|((with_reducible first|refine Qe ?_|refine Q2 ?_|refine Qg (Q6 ?_) _);(first|rfl|simp;done|simp;omega))|with_reducible refine Qp ?_ _|((with_reducible refine Qi ?_ _ ?_);rotate_left;(focus(first|simp;done|simp;omega|omega)))|with_reducible first|refine Qo ?_|refine Qh ?_ (by assumption)));done)))
    go_ret;exact⟨Yi (by rw[HI.o,<-f.o];rfl),FIN.o _ _⟩
   | some z=>
    obtain rfl:(x,y)=z:=HZ.o z f.o.symm;by_cases hx:x=a
    .subst hx
     have hq:∀ w,Sem.run prog (binOp .eql 143 (.agg (h8 x)) (.agg (h8 x))) w=.ok (Value.bool true) w:=λw=>by rw[Qoa,show (some x == some x)=true from by simp]
     have s:=λw=>Qoa w y b
     go_wp2_with (first|((first|refine Qw rfl 143 _ rfl _ rfl _ underlying143 Zd ?_ ?_ ?_|refine Qr rfl 143 _ _ rfl _ _ rfl rfl Zd ?_ ?_ ?_);rotate_left;focus((repeat(first|(with_reducible first|assumption|exact Qg ⟨_,by assumption⟩ _)|((with_reducible first|refine Qe ?_|refine Q2 ?_|refine Qg (Q6 ?_) _);(first|rfl|simp;done|simp;omega))|with_reducible refine Qp ?_ _|((with_reducible refine Qi ?_ _ ?_);rotate_left;(focus(first|simp;done|simp;omega|omega)))|with_reducible first|refine Qo ?_|refine Qh ?_ (by assumption)));done)))
     go_ret;refine⟨Yi ?_,FIN.o _ _⟩;rw[HI.o,<-f.o];show (some y == some b)=(x == x && y == b);simp
    have hq:∀ w,Sem.run prog (binOp .eql 143 (.agg (h8 x)) (.agg (h8 a))) w=.ok (Value.bool false) w:=λw=>by rw[Qoa,show (some x == some a)=false from by simpa using hx]
    go_wp2_with (first|((first|refine Qw rfl 143 _ rfl _ rfl _ underlying143 Zd ?_ ?_ ?_|refine Qr rfl 143 _ _ rfl _ _ rfl rfl Zd ?_ ?_ ?_);rotate_left;focus((repeat(first|(with_reducible first|assumption|exact Qg ⟨_,by assumption⟩ _)|((with_reducible first|refine Qe ?_|refine Q2 ?_|refine Qg (Q6 ?_) _);(first|rfl|simp;done|simp;omega))|with_reducible refine Qp ?_ _|((with_reducible refine Qi ?_ _ ?_);rotate_left;(focus(first|simp;done|simp;omega|omega)))|with_reducible first|refine Qo ?_|refine Qh ?_ (by assumption)));done)))
    go_ret;refine⟨Yi ?_,FIN.o _ _⟩;rw[HI.o,<-f.o];simp[hx]
  have k:decide (n<m)=true:=zF (by omega);clear h;subst hv
  go_enter func142,ntmps142
  go_wp2;go_ret;exact⟨Yi (by simp[Yt];omega),(Qa w _).alloc (by simp) _⟩
 have hd:decide (m<1)=true:=zF (by omega);clear h;subst hv
 go_enter func142,ntmps142
 go_wp2;go_ret;exact⟨Yi (by simp[Yt];omega),(Qa w _).alloc (by simp) _⟩
theorem Qpa(p:List Hsh)(a b:Hsh)(m n:Int)(v:J)(w:G)(h:Qbo w v p)(f : -9223372036854775808<=m)(d:n<=9223372036854775807)(c:p.length<=1048576):Calls prog 106 #[.int .i64 m,.int .i64 n,.agg (h8 a),.agg (h8 b),v] w λe w'=>e=.returned (.bool (Yt m n a b p))/\Bz w w':=by
 have HH:=zh h;clear h
 go_enter func106,ntmps106
 go_wp2_with (refine Qw rfl 143 _ rfl _ rfl _ underlying143 Zd ?_ ?_ ?_;rotate_left;focus ((repeat(first|(with_reducible first|assumption|exact Qg ⟨_,by assumption⟩ _)|((with_reducible first|refine Qe ?_|refine Q2 ?_|refine Qg (Q6 ?_) _);(first|rfl|simp;done|simp;omega))|with_reducible refine Qp ?_ _|((with_reducible refine Qi ?_ _ ?_);rotate_left;(focus(first|simp;done|simp;omega|omega)))|with_reducible first|refine Qo ?_|refine Qh ?_ (by assumption)));done))
 refine (Qh5 p a b m n v _ (Qev.j HH.o ((Qa w _).alloc (by simp) _)) f d c).m ?_;rintro e w1⟨rfl,hb⟩;go_wp2;go_ret;exact⟨rfl,((Qa w _).alloc (by simp) _).t (hb.m (by simp;omega))⟩
theorem Qpf(ss:List O)(a b:O)(m n:Int)(v:J)(w:G)(h:Zj w v ss)(t : -9223372036854775808<=m)(u:n<=9223372036854775807)(l:ss.length<=1048576)(p:∀ s∈ss,s.size<=9223372036854775807)(x:a.size<=9223372036854775807)(r:b.size<=9223372036854775807):Calls prog 50 #[.int .i64 m,.int .i64 n,.string a,.string b,v] w λe w'=>e=.returned (.bool (Yt m n (Zi a.data.toList) (Zi b.data.toList) (Jp ss)))/\Bz w w':=by
 obtain⟨HH,q⟩:=zh2 h p;clear h p
 go_enter func50,ntmps50
 go_wp2_with fail
 refine (Qiv a _ x).m ?_;rintro e w1⟨rfl,d⟩
 go_wp2_with fail
 refine (Qiv b _ r).m ?_;rintro e w2⟨rfl,i⟩;have c:=zh (d.t (i.m d.size));clear d i
 go_wp2_with fail
 refine (Qrx v ss _ (HH.o.j c.o) l q.o).m ?_;rintro e w3⟨v3,rfl,j,f⟩;have g:=zh (c.o.t (f.m c.o.size));clear f
 go_wp2_with fail
 refine (Qpa (Jp ss) (Zi a.data.toList) (Zi b.data.toList) m n v3 _ (Zn j) t u (by simpa [Jp] using l)).m ?_;rintro e w4⟨rfl,k⟩;go_wp2;go_ret;exact⟨rfl,g.o.t (k.m g.o.size)⟩
def Qbh(b:Bool)(a:Hsh):Y Hsh:=if b then some a else none
def Quo(m n:Nat)(o:Y Hsh)(p:List Hsh)(w:G)(e:Ua)(w':G):Prop:=
 ∃ s1 s2:O,e=.returned (.tuple #[.string s1,.string s2,.bool (roots m n o p).isSome])/\s1.size<=8/\s2.size<=8/\(∀ z,roots m n o p=some z->s1=HS z.1/\s2=HS z.2)/\Bz w w'
theorem Qv9(m:Int)(p:List Hsh)(a:Hsh)(b:Bool)(v:J)(w:G)(h:Zj w v (p.map HS)):Calls prog 107 #[.int .i64 m,.int .i64 m,v,.bool b,.string (HS a)] w (Quo m.toNat m.toNat (Qbh b a) p w):=by
 obtain⟨ad,c,hv,e,hc⟩:=h;rw[zA] at hv;subst hv;cases b with
 | true=>
  have hl:((p.length:Int) == 0)=decide (p.length=0):=by rw[Vf];simp
  have HL:=zh hl;clear hl hc
  go_enter func107,ntmps107
  go_wp2
  go_ret3
  refine⟨HS a,HS a,?_,by rw[Jj];decide,by rw[Jj];decide,?_,zu _ _⟩
  .rw[show Qbh true a=some a from rfl,Qhd]
   have:=HL.o
   by_cases h0:p.length=0
   .rw[zD h0]
    simp[h0]
   rw[zw h0];rw[zo h0] at this;simp[this]
  intro z hz;rw[show Qbh true a=some a from rfl,Qhd] at hz
  split at hz
  .cases hz;exact⟨rfl,rfl⟩
  cases hz
 | false=>
  by_cases h1:p.length=1
  .match p,h1 with
   | [r],_=>
    obtain⟨g,off,rfl,d⟩:=hc 0 (.string (HS r)) (by simp);simp only[VC] at d;simp only[zx,vL,V4];clear hc
    go_enter func107,ntmps107
    go_wp2
    go_quiet (fail)
    go_wp2
    go_ret3
    refine⟨HS r,HS r,by rw[show Qbh false a=none from rfl,Qmh];rfl,by rw[Jj];decide,by rw[Jj];decide,?_,Q8 (zu _ _) _⟩;intro z hz;rw[show Qbh false a=none from rfl,Qmh] at hz;cases hz;exact⟨rfl,rfl⟩
  have d1:((p.length:Int) != 1)=true:=by rw[bne_iff_ne];omega
  clear hc
  go_enter func107,ntmps107
  go_wp2
  go_ret3
  have hr:roots m.toNat m.toNat (Qbh false a) p=none:=Qwk _ _ h1;exact⟨⟨#[]⟩,⟨#[]⟩,by rw[hr];rfl,by decide,by decide,(λz hz=>by rw[hr] at hz;cases hz),zu _ _⟩
theorem Q2p(l:Nat):∀ (p:List Hsh) (m n:Int) (a:Hsh) (b:Bool) (v:J) (w:G),p.length=l->Zj w v (p.map HS)->1<=m->m<=n->n<=9223372036854775807->l<=1048576->
  Calls prog 107 #[.int .i64 m,.int .i64 n,v,.bool b,.string (HS a)] w (Quo m.toNat n.toNat (Qbh b a) p w):=by
 induction l with
 | zero=>
  intro p m n a b v w hp h h1 E hn hl;by_cases he:m=n
  .subst he;exact Qv9 m p a b v w h
  obtain rfl:p = []:=zG hp;obtain⟨ad,c,rfl,_,_⟩:=h;have hd:(m == n)=false:=by rw[zl];exact he
  go_enter func107,ntmps107
  go_wp2
  go_ret3
  have hr:roots m.toNat n.toNat (Qbh b a) []=none:=by rw[Qmu,zw (by omega)]
  exact⟨⟨#[]⟩,⟨#[]⟩,by rw[hr];rfl,by decide,by decide,(λz hz=>by rw[hr] at hz;cases hz),zu _ _⟩
 | succ l ih=>
  intro p m n a b v w hp h h1 E hn hl;by_cases he:m=n
  .subst he;exact Qv9 m p a b v w h
  have hd:(m == n)=false:=by rw[zl];exact he
  obtain⟨q,last,rfl⟩:∃ q last,p=q ++ [last]:=⟨p.dropLast,p.getLast (by intro e;simp[e] at hp),(vQ _).symm⟩
  have hq:q.length=l:=by simpa using hp
  obtain⟨ad,c,hv,_⟩:=id h;have A:((q ++ [last]).map HS).length=l+1:=by simp[hq]
  unfold Zj at h;rw[A] at h hv;subst hv;obtain⟨g,off,rfl,H,F,s⟩:=Qu5 (xs:=(q.map HS).map Value.string) (x:=.string (HS last)) (by simpa using h) (by simp[hq]);have C:Zj w (.slice (some ⟨g,off,none⟩) l c) (q.map HS):=by unfold Zj;simpa [hq] using s
  have hr:=Qc9 m.toNat n.toNat (Qbh b a) q last;rw[zw (by omega)] at hr;have D:=Qgg (n:=n.toNat) (by omega) (by omega);obtain⟨k,hk⟩:=zzx (below n.toNat)
  rw[<-hk] at D hr;obtain⟨K,j,B⟩:=D;obtain⟨HR,HK,HQ,IH,HL⟩:=zh5 hr hk C ih hq;have I:((l:Int)+1 == 0)=false:=by rw[zl];omega
  clear ih h s C A hq hp hr hk;by_cases hmk:m<=(k:Int)
  .go_enter func107,ntmps107
   go_wp2_with fail
   refine (J3 _ _ (by omega) (by omega)).m ?_;rintro e w0⟨rfl,rfl⟩;rw[<-HK.o]
   go_wp2_with fail
   refine (IH.o q m k a b _ _ HL.o HQ.o h1 hmk (by omega) (by omega)).m ?_;rintro e w1⟨s1,s2,rfl,t,u,hz,hb⟩;have HZ:=zh hz;clear hz;obtain⟨rt,d⟩:=zzx (roots m.toNat (k:Int).toNat (Qbh b a) q)
   rw[<-d];have f:=zh d;clear d
   go_wp2_with fail
   refine (Qd2 s2 (HS last) _ u (by rw[Jj];decide)).m ?_;rintro e w2⟨rfl,j⟩;go_wp2
   go_ret3
   have i:roots m.toNat n.toNat (Qbh b a) (q ++ [last])=rt.map (λz=>(z.1,Z9 z.2 last)):=by rw[HR.o,zD (by omega),f.o];rfl
   refine⟨_,_,by rw[i,Vb];rfl,t,by rw[Jj];decide,λz hz=>?_,hb.t (j.m hb.size)⟩;rw[i] at hz;obtain⟨z',y,rfl⟩:=zP.1 hz;obtain⟨e1,e2⟩:=HZ.o z' (by rw[<-f.o];exact y);rw[e1,e2];exact⟨rfl,rfl⟩
  go_enter func107,ntmps107
  go_wp2_with fail
  refine (J3 _ _ (by omega) (by omega)).m ?_;rintro e w0⟨rfl,rfl⟩;rw[<-HK.o]
  go_wp2_with fail
  refine (IH.o q (m-k) (n-k) a false _ _ HL.o HQ.o (by omega) (by omega) (by omega) (by omega)).m ?_;rintro e w1⟨s1,s2,rfl,t,u,hz,hb⟩;have HZ:=zh hz;clear hz;obtain⟨rt,d⟩:=zzx (roots (m-k).toNat (n-k).toNat (Qbh false a) q)
  rw[<-d];have f:=zh d;clear d
  go_wp2_with fail
  refine (Qd2 (HS last) s1 _ (by rw[Jj];decide) t).m ?_;rintro e w2⟨rfl,j⟩
  go_wp2_with fail
  refine (Qd2 (HS last) s2 _ (by rw[Jj];decide) u).m ?_;rintro e w3⟨rfl,B⟩;go_wp2
  go_ret3
  have i:roots m.toNat n.toNat (Qbh b a) (q ++ [last])=rt.map (λz=>(Z9 last z.1,Z9 last z.2)):=by
   rw[HR.o,zw (by omega),f.o]
   congr 2 <;> omega
  have b2:=hb.t (j.m hb.size);refine⟨_,_,by rw[i,Vb];rfl,by rw[Jj];decide,by rw[Jj];decide,λz hz=>?_,b2.t (B.m b2.size)⟩;rw[i] at hz;obtain⟨z',y,rfl⟩:=zP.1 hz;obtain⟨e1,e2⟩:=HZ.o z' (by rw[<-f.o];exact y);rw[e1,e2];exact⟨rfl,rfl⟩
theorem Qh7(p:List Hsh)(a b:Hsh)(m n:Int)(v:J)(w:G)(h:Zj w v (p.map HS))(s : -9223372036854775808<=m)(k:n<=9223372036854775807)(j:p.length<=1048576):Calls prog 51 #[.int .i64 m,.int .i64 n,.string (HS a),.string (HS b),v] w λe w'=>e=.returned (.bool (Yt m n a b p))/\Bz w w':=by
 obtain⟨ad,c,hv,_⟩:=id h;by_cases h1:1<=m
 .have hd:decide (m<1)=false:=zo (by omega)
  by_cases hmn:m<=n
  .have i:decide (n<m)=false:=zo (by omega)
   have f:Yt m n a b p=(roots m.toNat n.toNat (some a) p == some (a,b)):=by simp[Yt,h1,hmn]
   obtain⟨HI,HH,HV⟩:=zh3 f h hv;clear f h hv
   go_enter func51,ntmps51
   go_wp2_with fail
   refine (Q2p p.length p m n a true v w rfl HH.o h1 hmn k j).m ?_;rintro e w1⟨s1,s2,rfl,q,l,hz,hb⟩;have HZ:=zh hz;clear hz;obtain⟨r,g⟩:=zzx (roots m.toNat n.toNat (Qbh true a) p)
   rw[<-g];have d:=zh g;clear g;cases r with
   | none=>
    go_wp2;go_ret;exact⟨Yi (by rw[HI.o,show (some a)=Qbh true a from rfl,<-d.o];rfl),hb⟩
   | some z=>
    obtain⟨rfl,rfl⟩:=HZ.o z d.o.symm;obtain⟨x,y⟩:=z;by_cases hx:x=a
    .subst hx
     have t1:((HS x).toList == (HS x).toList)=true:=by simp
     go_wp2;go_ret;refine⟨Yi ?_,hb⟩;rw[HI.o,show (some x)=Qbh true x from rfl,<-d.o];show ((HS y).toList == (HS b).toList)=_;rw[Q5v];by_cases hy:y=b
     .subst hy;simp
     have e1:(some y == some b)=false:=by simpa using hy
     rw[e1];simp[hy]
    have t1:((HS x).toList == (HS a).toList)=false:=by rw[Q5v];simpa using hx
    go_wp2;go_ret;refine⟨Yi ?_,hb⟩;rw[HI.o,show (some a)=Qbh true a from rfl,<-d.o];simp[hx]
  have i:decide (n<m)=true:=zF (by omega);clear h;subst hv
  go_enter func51,ntmps51
  go_wp2;go_ret;exact⟨Yi (by simp[Yt];omega),zu _ _⟩
 have hd:decide (m<1)=true:=zF (by omega);clear h;subst hv
 go_enter func51,ntmps51
 go_wp2;go_ret;exact⟨Yi (by simp[Yt];omega),zu _ _⟩
theorem Qsz(ss:List O)(a b:O)(m n:Int)(v:J)(w:G)(h:Zj w v ss)(r : -9223372036854775808<=m)(t:n<=9223372036854775807)(p:∀ s∈ss,s.size<=9223372036854775807)(u:a.size<=9223372036854775807)(j:b.size<=9223372036854775807):Calls prog 14 #[.int .i64 m,.int .i64 n,.string a,.string b,v] w λe w'=>e=.returned (.bool true)/\Bz w w':=by
 obtain⟨HH,g⟩:=zh2 h p;clear h p
 go_enter func14,ntmps14
 go_wp2_with fail
 refine (Qmj v ss _ HH.o).m ?_;rintro e w0⟨rfl,rfl⟩;cases hf:fewB ss with
 | false=>
  go_wp2;go_ret;exact⟨rfl,zu _ _⟩
 | true=>
  obtain⟨hl,_⟩:=Qoj hf
  go_wp2_with fail
  refine (Qpf ss a b m n v _ HH.o r t (by omega) g.o u j).m ?_;rintro e w1⟨rfl,c⟩
  go_wp2_with fail
  refine (Qet a _ u).m ?_;rintro e w2⟨rfl,i⟩
  go_wp2_with fail
  refine (Qet b _ j).m ?_;rintro e w3⟨rfl,f⟩;have b2:=c.t (i.m c.size);have b3:=b2.t (f.m b2.size);have d:=zh b3;clear c i f b2 b3
  go_wp2_with fail
  refine (Qqx v ss _ (HH.o.j d.o) (by omega) g.o).m ?_;rintro e w4⟨v4,rfl,q,k⟩
  go_wp2_with fail
  refine (Qh7 (Jp ss) (Zi a.data.toList) (Zi b.data.toList) m n v4 _ (Qq.at q) r t (by simp[Jp];omega)).m ?_;rintro e w5⟨rfl,l⟩;go_wp2;go_ret;refine⟨Yi (by simp),?_⟩;have b4:=d.o.t (k.m d.o.size);exact b4.t (l.m b4.size)
abbrev dec(n:Nat):Ud:=Lib.decDigits n
def kE:Ud:=[101,110,116,114,105,101,115,47]
def kT:Ud:=[116,105,108,101,47]
def kP:Ud:=[46,112,47]
def Ja(level index width:Int):Prop:=-1<=level/\level<=20/\0<=index/\1<=width/\width<=4
instance (level index width:Int):Decidable (Ja level index width):=by unfold Ja;infer_instance
def Yq(level index width:Int):Ud:=
 (if 0<=level then kT++dec level.toNat ++ [47] else kE)++dec index.toNat++(if width<4 then kP++dec width.toNat else [])
def Yb(level index width:Int):Ud:=if Ja level index width then Yq level index width else []
def Qa3(c:Ub):Prop:=48<=c.toNat/\c.toNat<=57
theorem Qj3(n:Nat):∀ c∈dec n,Qa3 c:=by
 induction n using Nat.strongRecOn with
 | _ n ih=>
  intro c hc;unfold dec at hc;rw[Lib.decDigits] at hc
  split at hc
  .simp only[zS] at hc
   subst hc;unfold Qa3;rw[V3];omega
  rw[ZL] at hc;rcases hc with hc|hc
  .exact ih (n / 10) (by omega) c hc
  simp only[zS] at hc;subst hc;unfold Qa3;rw[V3];omega
theorem Q6i(n:Nat):dec n≠[]:=by
 unfold dec;rw[Lib.decDigits]
 split <;> simp
def valD(acc:Nat)(l:Ud):Nat:=l.foldl (λa c=>a*10+(c.toNat-48)) acc
theorem Qyo(c:Nat)(a b:Ud):valD c (a++b)=valD (valD c a) b:=by simp[valD]
theorem Q5j(l:Ud):∀ acc,acc<=valD acc l:=by
 induction l with
 | nil=>intro acc;exact zg _
 | cons c l ih=>
  intro acc
  have:=ih (acc*10+(c.toNat-48))
  show acc<=valD (acc*10+(c.toNat-48)) l;omega
theorem Qnz(n:Nat):valD 0 (dec n)=n:=by
 induction n using Nat.strongRecOn with
 | _ n ih=>
  unfold dec;rw[Lib.decDigits]
  split
  .simp only[valD,List.foldl]
   rw[V3];omega
  rw[Qyo]
  have:=ih (n / 10) (by omega)
  unfold dec at this;rw[this];simp only[valD,List.foldl];rw[V3];omega
theorem Qh8:∀ (l:Ud) (acc:Nat),(∀ c∈l,Qa3 c)->valD acc l<18446744073709551616->Lib.parseUint10 acc l=.ok (valD acc l)
 | [],acc,_,_=>rfl
 | c :: l,acc,hd,hv=>by
  have h1:Qa3 c:=hd c (by simp)
  have h2:=Q5j l (acc*10+(c.toNat-48))
  have h3:valD acc (c :: l)=valD (acc*10+(c.toNat-48)) l:=rfl
  rw[h3] at hv ⊢
  unfold Qa3 at h1
  simp only[Lib.parseUint10]
  rw[zD h1,zw (by omega),zw (by omega)]
  exact Qh8 l _ (λc hc=>hd c (by simp[hc])) hv
theorem Q8c(n:Nat)(h:n<9223372036854775808):Lib.atoiAll (dec n)=.ok (n:Int):=by
 have hp:Lib.parseMag (dec n)=.ok n:=by unfold Lib.parseMag;rw[zw (Q6i n),Qh8 _ _ (Qj3 n) (by rw[Qnz];omega),Qnz]
 obtain⟨c,r,a⟩:∃ c r,dec n=c :: r:=by
  cases hd:dec n with
  | nil=>exact absurd hd (Q6i n)
  | cons c r=>exact⟨c,r,rfl⟩
 have hc:Qa3 c:=Qj3 n c (by rw[a];simp);unfold Qa3 at hc;rw[a] at hp ⊢;unfold Lib.atoiAll;simp only;rw[zw (by omega),hp];simp only;rw[zw (by omega),zw (by omega),zw (by omega)]
def Qd9(n:Nat):Ud->Y (Nat×Ud)
 | []=>some (n,[])
 | c :: r=>if 48<=c.toNat/\c.toNat<=57 then (if (9223372036854775807-(c.toNat-48)) / 10<n then none else Qd9 (10*n+(c.toNat-48)) r) else some (n,c :: r)
def Zh(l:Ud):Nat×Ud×Bool:=match Qd9 0 l with|none=>(0,l,false)|some (n,r)=>(n,r,decide (r.length<l.length))
theorem Qun:∀ (l:Ud) (acc:Nat) (t:Ud),(∀ c∈l,Qa3 c)->(∀ c,t.head?=some c->¬ Qa3 c)->valD acc l<9223372036854775808->Qd9 acc (l++t)=some (valD acc l,t)
 | [],acc,t,_,ht,_=>by
  cases t with
  | nil=>rfl
  | cons c t=>
   have:=ht c rfl
   unfold Qa3 at this
   simp only[xd,Qd9]
   rw[zw this];rfl
 | c :: l,acc,t,hd,ht,hv=>by
  have h1:Qa3 c:=hd c (by simp)
  have h2:=Q5j l (acc*10+(c.toNat-48))
  have h3:valD acc (c :: l)=valD (acc*10+(c.toNat-48)) l:=rfl
  rw[h3] at hv ⊢
  unfold Qa3 at h1
  simp only[vM,Qd9]
  rw[zD h1,zw (by omega),vE 10 acc]
  exact Qun l _ t (λc hc=>hd c (by simp[hc])) ht hv
theorem Qfe(n:Nat)(t:Ud)(h:n<9223372036854775808)(a:∀ c,t.head?=some c->¬ Qa3 c):Zh (dec n++t)=(n,t,true):=by
 unfold Zh;rw[Qun (dec n) 0 t (Qj3 n) a (by rw[Qnz];exact h),Qnz]
 have:0<(dec n).length:=List.length_pos_iff.2 (Q6i n)
 simp[this]
theorem Qzn:∀ (l:Ud) (acc n:Nat) (r:Ud),acc<9223372036854775808->Qd9 acc l=some (n,r)->n<9223372036854775808
 | [],acc,n,r,ha,h=>by simp only[Qd9,ZM,V6] at h;omega
 | c :: l,acc,n,r,ha,h=>by
  simp only[Qd9] at h
  split at h
  .split at h
   .cases h
   exact Qzn l _ n r (by omega) h
  simp only[ZM,V6] at h;omega
theorem Qga(l:Ud):(Zh l).1<9223372036854775808:=by
 unfold Zh;cases h:Qd9 0 l with
 | none=>simp
 | some x=>exact Qzn l 0 x.1 x.2 (by omega) h
def Qp8(path:Ud)(l i w:Int)(ok:Bool):Prop:=
 (ok=true->Ja l i w/\i<9223372036854775808/\Yq l i w=path)/\(ok=false->l=0/\i=0/\w=0)/\
 ∀ l' i' w',Ja l' i' w'->i'<9223372036854775808->Yq l' i' w'=path->l=l'/\i=i'/\w=w'/\ok=true
variable {path:Ud} {l i w:Int}
theorem Q1w{l' g w':Int}{e d:Bool}(h:Qp8 path l i w e)(f:Qp8 path l' g w' d):l=l'/\i=g/\w=w'/\e=d:=by
 cases e
 .cases d
  .obtain⟨rfl,rfl,rfl⟩:=h.2.1 rfl
   obtain⟨rfl,rfl,rfl⟩:=f.2.1 rfl;exact⟨rfl,rfl,rfl,rfl⟩
  obtain⟨a,b,c⟩:=f.1 rfl
  have:=(h.2.2 _ _ _ a b c).2.2.2
  cases this
 obtain⟨a,b,c⟩:=h.1 rfl;obtain⟨rfl,rfl,rfl,rfl⟩:=f.2.2 _ _ _ a b c;exact⟨rfl,rfl,rfl,rfl⟩
theorem Qor(l i w:Int):Yq l i w≠[]:=by
 unfold Yq
 split <;> simp[kT,kE]
theorem Qd7{a b:Ub}{s t:Ud}(h:a≠b):(a :: s).isPrefixOf (b :: t)=false:=by simp[List.isPrefixOf,h]
theorem Qm5(m:Ub)(a:Ud)(f:¬ Qa3 m):∀ (d t:Ud),(∀ c∈d,Qa3 c)->Lib.index (d++(m :: a++t)) (m :: a)=d.length
 | [],t,_=>by
  simp[Lib.index,List.isPrefixOf]
 | c :: d,t,hd=>by
  have ih:=Qm5 m a f d t (λc hc=>hd c (by simp[hc]))
  have b:m≠c:=λe=>f (e ▸ hd c (by simp))
  simp only[vM,Lib.index]
  rw[Qd7 b]
  simp only[vM] at ih
  rw[ih]
  have:((d.length:Int) == -1)=false:=by rw[zl];omega
  simp[this]
theorem Qfr(m:Ub)(a:Ud)(f:¬ Qa3 m):∀ (d:Ud),(∀ c∈d,Qa3 c)->Lib.index d (m :: a) = -1
 | [],_=>by simp[Lib.index]
 | c :: d,hd=>by
  have ih:=Qfr m a f d (λc hc=>hd c (by simp[hc]))
  have b:m≠c:=λe=>f (e ▸ hd c (by simp))
  simp only[Lib.index]
  rw[Qd7 b,ih]
  rfl
theorem Qq5(m:Ub)(a:Ud)(e:¬ Qa3 m)(d t:Ud)(b:∀ c∈d,Qa3 c):Lib.cut (d++(m :: a++t)) (m :: a)=(d,t,true):=by
 unfold Lib.cut;rw[Qm5 m a e d t b,zD (by omega),zO];simp only[V6,and_true];refine⟨X0,?_⟩;rw[<-ZS]
 have:d.length+(m :: a).length=(d++(m :: a)).length:=by simp
 rw[this,xw]
theorem Qol(m:Ub)(a:Ud)(e:¬ Qa3 m)(d:Ud)(b:∀ c∈d,Qa3 c):Lib.cut d (m :: a)=(d,[],false):=by unfold Lib.cut;rw[Qfr m a e d b];rfl
def Qfl(l:Ud):Y Int:=match Lib.atoiAll l with | .ok v=>some v|_=>none
theorem Qkm(n:Nat)(h:n<9223372036854775808):Qfl (dec n)=some (n:Int):=by unfold Qfl;rw[Q8c n h]
abbrev Four:=Int×Int×Int×Bool
def Qax:Four:=(0,0,0,false)
def Fits(path:Ud)(q:Four):Prop:=Qp8 path q.1 q.2.1 q.2.2.1 q.2.2.2
def Qd1(path:Ud)(level:Int)(rest:Ud):Four:=
 match (if (Lib.cut rest kP).2.2=true then Qfl (Lib.cut rest kP).2.1 else some 4) with
 | none=>Qax
 | some width=>match Qfl (Lib.cut rest kP).1 with
  | none=>Qax
  | some index=>if Yb level index width=path then (level,index,width,true) else Qax
def Jm(path:Ud):Four:=
 if Lib.hasPrefix path kE=true then Qd1 path (-1) (Lib.trimPrefix path kE)
 else if Lib.hasPrefix path kT=true/\(Lib.cut (Lib.trimPrefix path kT) [47]).2.2=true then
  match Qfl (Lib.cut (Lib.trimPrefix path kT) [47]).1 with
  | none=>Qax
  | some v=>if v<0 then Qax else Qd1 path v (Lib.cut (Lib.trimPrefix path kT) [47]).2.1
 else Qax
def Za(s w:Ud):Ud×Bool:=if Lib.hasPrefix s w=true then (s.drop w.length,true) else (s,false)
def Qmz(path:Ud)(level:Int)(i:Nat)(q:Int×Ud×Bool):Four:=
 if q.2.2=true/\q.2.1 = []/\Yb level i q.1=path/\Yb level i q.1≠[] then (level,i,q.1,true) else Qax
def Qob(n:Nat×Ud×Bool):Int×Ud×Bool:=
 if n.2.2=true/\(Za n.2.1 kP).2=true then ((Zh (Za n.2.1 kP).1).1,(Zh (Za n.2.1 kP).1).2) else (4,n.2.1,n.2.2)
def Qh3(path:Ud)(level:Int)(s:Ud):Four:=Qmz path level (Zh s).1 (Qob (Zh s))
def Qb7(path:Ud):Four:=
 if (Za path kE).2=true then Qh3 path (-1) (Za path kE).1
 else if (Za path kT).2=true then
  (if (Zh (Za path kT).1).2.2=true then
   (if (Za (Zh (Za path kT).1).2.1 [47]).2=true then Qh3 path (Zh (Za path kT).1).1 (Za (Zh (Za path kT).1).2.1 [47]).1 else Qax)
     else Qax)
 else Qax
def Qyj(path:Ud)(q:Four):Prop:=(q.2.2.2=true->Ja q.1 q.2.1 q.2.2.1/\q.2.1<9223372036854775808/\Yq q.1 q.2.1 q.2.2.1=path)/\(q.2.2.2=false->q.1=0/\q.2.1=0/\q.2.2.1=0)
theorem Qdm(a:Ud):Qyj a Qax:=⟨λh=>by simp[Qax] at h,λ_=>⟨rfl,rfl,rfl⟩⟩
theorem Qn4{l:Ud}{v:Int}(h:Qfl l=some v):v<9223372036854775808:=by
 unfold Qfl at h
 split at h
 .rename_i u hu
  simp only[ZM] at h;subst h;unfold Lib.atoiAll at hu
  split at hu
  .cases hu
  simp only at hu
  split at hu
  .cases hu
  .cases hu
  split at hu
  .cases hu
  split at hu
  .cases hu
  simp only[Lib.NumEnd.ok.injEq] at hu;subst hu
  split <;> omega
 cases h
theorem Qq4(b:i<9223372036854775808)(a:path≠[])(h:Yb l i w=path):Qyj path (l,i,w,true):=by
 refine⟨λ_=>?_,λh=>by simp at h⟩;unfold Yb at h
 split at h
 .rename_i h0;exact⟨h0,b,h⟩
 exact absurd h.symm a
theorem Qia(a:Ud)(c:a≠[])(l:Int)(b:Ud):Qyj a (Qd1 a l b):=by
 unfold Qd1
 split
 .exact Qdm _
 split
 .exact Qdm _
 rename_i i hi
 split
 .rename_i h;exact Qq4 (Qn4 hi) c h
 exact Qdm _
theorem Qnd{p:Ud}(c:p≠[])(h:Lib.hasPrefix path p=true):path≠[]:=by
 rintro rfl;cases p with
 | nil=>exact c rfl
 | cons a b=>simp[Lib.hasPrefix,List.isPrefixOf] at h
theorem Qsq(a:Ud):Qyj a (Jm a):=by
 unfold Jm
 split
 .rename_i h;exact Qia _ (Qnd (by simp[kE]) h) _ _
 split
 .rename_i h
  split
  .exact Qdm _
  split
  .exact Qdm _
  exact Qia _ (Qnd (by simp[kT]) h.1) _ _
 exact Qdm _
theorem Qb2(p s:Ud):Lib.hasPrefix (p++s) p=true:=by unfold Lib.hasPrefix;rw[Xu];exact List.prefix_append p s
theorem Qfz(p s:Ud):Lib.trimPrefix (p++s) p=s:=by unfold Lib.trimPrefix;rw[zD (Qb2 p s),xw]
theorem Qbf(p s:Ud):Za (p++s) p=(s,true):=by unfold Za;rw[zD (Qb2 p s),xw]
theorem noE(s:Ud):Lib.hasPrefix (kT++s) kE=false:=by simp[Lib.hasPrefix,kT,kE,List.isPrefixOf]
def Qck(w:Int):Ud:=if w<4 then kP++dec w.toNat else []
theorem Qmb:¬ Qa3 46:=by unfold Qa3;decide
theorem Qq2:¬ Qa3 47:=by unfold Qa3;decide
theorem Qm3(h:Ja l i w)(a:l<0):Yq l i w=kE++(dec i.toNat++Qck w):=by unfold Yq Qck;rw[zw (by omega),ZS]
theorem Qks(a:0<=l):Yq l i w=kT++(dec l.toNat++(47 :: []++(dec i.toNat++Qck w))):=by unfold Yq Qck;rw[zD a];simp
theorem Qav(h:Ja l i w):Yb l i w=Yq l i w:=by unfold Yb;rw[zD h]
theorem Zah(i:Nat)(a:1<=w)(b:w<=4):Lib.cut (dec i++Qck w) kP=(dec i,(if w<4 then dec w.toNat else []),decide (w<4)):=by
 unfold Qck;by_cases hw:w<4
 .rw[zD hw,zD hw,zF hw]
  exact Qq5 46 [112,47] Qmb (dec i) (dec w.toNat) (Qj3 i)
 rw[zw hw,zw hw,zo hw,ZW];exact Qol 46 [112,47] Qmb (dec i) (Qj3 i)
theorem Qqs(h:Ja l i w)(f:i<9223372036854775808):Qd1 (Yq l i w) l (dec i.toNat++Qck w)=(l,i,w,true):=by
 have hn:=Qav h;obtain⟨a,b,c,d,e⟩:=h;unfold Qd1;rw[Zah _ d e];have ha:Qfl (dec i.toNat)=some i:=by rw[Qkm _ (by omega)];congr 1;omega
 have hw:(if decide (w<4)=true then Qfl (if w<4 then dec w.toNat else []) else some 4)=some w:=by
  by_cases hw:w<4
  .rw[zD (by simpa using hw),zD hw,Qkm _ (by omega)];congr 1;omega
  rw[zw (by simpa using hw)];congr 1;omega
 simp only[hw,ha,hn,zac]
theorem Qd4(h:Ja l i w)(b:i<9223372036854775808):Jm (Yq l i w)=(l,i,w,true):=by
 have ht:=Qqs h b;by_cases hl:l<0
 .obtain rfl:l = -1:=by have:=h.1;omega
  rw[Qm3 h (by omega)] at ht ⊢;unfold Jm;rw[zD (Qb2 _ _),Qfz];exact ht
 have a:0<=l:=by omega
 have c:=h.2.1;rw[Qks a] at ht ⊢;have hc:=Qq5 47 [] Qq2 (dec l.toNat) (dec i.toNat++Qck w) (Qj3 _);unfold Jm;rw[zw (by rw[noE];simp),Qfz,hc,zD ⟨Qb2 _ _,rfl⟩];have ha:Qfl (dec l.toNat)=some l:=by rw[Qkm _ (by omega)];congr 1;omega
 simp only[ha];rw[zw hl];exact ht
theorem Q53{q:Four}(a:Qyj path q)(h:∀ l i w,Ja l i w->i<9223372036854775808->Yq l i w=path->q=(l,i,w,true)):Fits path q:=
 ⟨a.1,a.2,λl i w h1 h2 h3=>by rw[h l i w h1 h2 h3];exact⟨rfl,rfl,rfl,rfl⟩⟩
theorem Qut(a:Ud):Fits a (Jm a):=Q53 (Qsq a) λ_ _ _ h1 h2 h3=>by rw[<-h3];exact Qd4 h1 h2
theorem Qkh(a:Ud)(l:Int)(s:Ud):Qyj a (Qh3 a l s):=by
 unfold Qh3 Qmz
 split
 .rename_i h
  obtain⟨_,_,h3,h4⟩:=h;have hb:=Qga s;exact Qq4 (by omega) (by rw[<-h3];exact h4) h3
 exact Qdm _
theorem Qqw(a:Ud):Qyj a (Qb7 a):=by
 unfold Qb7
 split
 .exact Qkh _ _ _
 split
 .split
  .split
   .exact Qkh _ _ _
   exact Qdm _
  exact Qdm _
 exact Qdm _
theorem Q52(w:Int):∀ c,(Qck w).head?=some c->¬ Qa3 c:=by
 intro c hc;unfold Qck at hc
 split at hc
 .simp only[kP,vM,Xq,ZM] at hc
  subst hc;exact Qmb
 simp at hc
theorem Qwm(h:Ja l i w)(k:i<9223372036854775808):Qh3 (Yq l i w) l (dec i.toNat++Qck w)=(l,i,w,true):=by
 have hn:=Qav h;obtain⟨a,b,c,d,e⟩:=h;unfold Qh3;rw[Qfe _ _ (by omega) (Q52 w)];have j:((i.toNat:Nat):Int)=i:=by omega
 have hq:Qob (i.toNat,Qck w,true)=(w,[],true):=by
  unfold Qob;by_cases hw:w<4
  .have ht:Qck w=kP++dec w.toNat:=by unfold Qck;rw[zD hw]
   have f:=Qfe w.toNat [] (by omega) (by simp);rw[ZW] at f;have g:((w.toNat:Nat):Int)=w:=by omega
   simp only[ht,Qbf,f,g];simp
  have ht:Qck w = []:=by unfold Qck;rw[zw hw]
  have hb:Za [] kP=([],false):=rfl;have g:w=4:=by omega
  subst g;simp only[ht,hb];simp
 unfold Qmz;simp only[hq,j];rw[zD (by simp[hn,Qor])]
theorem Qs8(h:Ja l i w)(f:i<9223372036854775808):Qb7 (Yq l i w)=(l,i,w,true):=by
 have ht:=Qwm h f;by_cases hl:l<0
 .obtain rfl:l = -1:=by have:=h.1;omega
  rw[Qm3 h (by omega)] at ht ⊢;unfold Qb7;rw[Qbf];exact ht
 have b:0<=l:=by omega
 have g:=h.2.1;rw[Qks b] at ht ⊢;have hb:(Za (kT++(dec l.toNat++(47 :: []++(dec i.toNat++Qck w)))) kE).2=false:=by unfold Za;rw[zw (by rw[noE];simp)]
 have a:=Qfe l.toNat (47 :: []++(dec i.toNat++Qck w)) (by omega) (by intro c hc;simp at hc;subst hc;exact Qq2);have d:((l.toNat:Nat):Int)=l:=by omega
 have e:Za (47 :: []++(dec i.toNat++Qck w)) [47]=(dec i.toNat++Qck w,true):=Qbf [47] _;unfold Qb7;rw[hb,Qbf,a,e];simp only[d];exact ht
theorem Qs2(a:Ud):Fits a (Qb7 a):=Q53 (Qqw a) λ_ _ _ h1 h2 h3=>by rw[<-h3];exact Qs8 h1 h2
theorem Q1r(e:Ud):Jm e=Qb7 e:=by obtain⟨a,b,c,d⟩:=Q1w (Qut e) (Qs2 e);exact Prod.ext a (Prod.ext b (Prod.ext c d))
theorem Q1g(l i w:Int)(a:i<9223372036854775808):if Ja l i w then Yb l i w≠[]/\Jm (Yb l i w)=(l,i,w,true) else Yb l i w = []:=by
 split
 .rename_i h
  rw[Qav h];exact⟨Qor _ _ _,Qd4 h a⟩
 rename_i h;unfold Yb;rw[zw h]
theorem Q06:Jm []=Qax:=by rfl
variable {n:Nat}
theorem Qp5(h:n<10):dec n = [UInt8.ofNat (48+n)]:=by unfold dec;rw[Lib.decDigits,dif_pos h]
theorem Qzh(h:¬ n<10):dec n=dec (n / 10) ++ [UInt8.ofNat (48+n%10)]:=by
 unfold dec
 conv=>lhs;rw[Lib.decDigits,dif_neg h]
theorem Q6m:∀ (k n:Nat),n<10 ^ (k+1)->(dec n).length<=k+1
 | 0,n,h=>by rw[Qp5 (by omega)];simp
 | k+1,n,h=>by
  by_cases h9:n<10
  .rw[Qp5 h9];simp
  rw[Qzh h9,zn]
  have:=Q6m k (n / 10) (by rw[ZD] at h;omega)
  simp only[zx,vL]
  omega
theorem Jf(h:n<9223372036854775808):(dec n).length<=19:=Q6m 18 n (by omega)
theorem Qbk(n:Nat)(w:G)(c:n<9223372036854775808):Calls prog 109 #[.int .i64 n] w λe w'=>e=.returned (.string (sOf (dec n)))/\Bz w w':=by
 go_enter func109,ntmps109
 go_wp2
 go_loopw [0,3] (λm s wr=>∃ (k:Nat) (r:Ud),k<=n/\m=.int .i64 k/\s=.string (sOf r)/\dec k++r=dec n/\Bz w wr) (λm _ _=>(intOf m).toNat)
 case atStart=>exact⟨n,[],zg _,rfl,rfl,by simp,zu _ _⟩
 case round=>
  obtain⟨k,r,hk,rfl,rfl,hd,a⟩:=hrel;have d:r.length<=19:=by
   have:=Jf c
   rw[<-hd,zn] at this;omega
  obtain⟨HD,HB⟩:=zh2 hd a;clear hd a;by_cases h9:9<k
  .have e1:((k:Int) / 10)=((k / 10:Nat):Int):=by omega
   have e2:((k:Int)%10)=((k%10:Nat):Int):=by omega
   obtain⟨x,hx⟩:=zzx (UInt8.ofNat (48+k%10))
   have hb:Q7 (wr.alloc (.cells #[.int .u8 (48+(k:Int)%10)] 5)) (.slice (some ⟨wr.heap.size,0,none⟩) 1 1) [x]:=by rw[e2,show (48+((k%10:Nat):Int))=((48+k%10:Nat):Int) by omega,Qll _ (by omega),<-hx];exact bytes1 (fz:=(0,0)) (Zv _ _ _ rfl)
   have b:=Qdq hb;obtain⟨HX,HE⟩:=zh2 hx e1;clear hb e1 e2 hx;go_wp2;refine⟨⟨k / 10,x :: r,by omega,by rw[HE.o],by rw[Qzp],?_,HB.o.alloc HB.o.size _⟩,by simp[intOf];omega⟩;rw[<-HD.o,Qzh (n:=k) (by omega),<-HX.o];simp
  obtain⟨x,hx⟩:=zzx (UInt8.ofNat (48+k))
  have hb:Q7 (wr.alloc (.cells #[.int .u8 (48+(k:Int))] 5)) (.slice (some ⟨wr.heap.size,0,none⟩) 1 1) [x]:=by rw[show (48+(k:Int))=((48+k:Nat):Int) by omega,Qll _ (by omega),<-hx];exact bytes1 (fz:=(0,0)) (Zv _ _ _ rfl)
  have b:=Qdq hb;have HX:=zh hx;clear hb hx;go_wp2;go_ret;refine⟨?_,HB.o.alloc HB.o.size _⟩;rw[Qzp,<-HD.o,Qp5 (n:=k) (by omega),<-HX.o];rfl
theorem Ql1(s p:O):Lib.hasPrefix s.data.toList p.data.toList=true↔p.size<=s.size/\s.extract 0 p.size=p:=by
 unfold Lib.hasPrefix;rw[Xu];have hx:(s.extract 0 p.size).data.toList=s.data.toList.take p.size:=by simp
 constructor
 .intro h
  have hl:=h.length_le;have h2:=XU.1 h;refine⟨by simpa using hl,?_⟩;rw[<-J9 (s.extract 0 p.size),hx,show p.size=p.data.toList.length by simp,<-h2,J9]
 rintro ⟨hl,h⟩;rw[XU,show p.data.toList.length=p.size by simp,<-hx,h]
theorem Qf1(s p:O)(w:G):Calls prog 111 #[.string s,.string p] w λe w'=>e=.returned (.tuple #[.string (sOf (Za s.data.toList p.data.toList).1),.bool (Za s.data.toList p.data.toList).2])/\w=w':=by
 have a:=Ql1 s p;unfold Za;by_cases hl:s.size<p.size
 .have hn:¬ Lib.hasPrefix s.data.toList p.data.toList=true:=λh=>by have:=(a.1 h).1;omega
  have hd:decide ((s.size:Int)<(p.size:Int))=true:=zF (by omega);rw[zw hn];clear a hn
  go_enter func111,ntmps111
  go_wp2;go_ret2;refine⟨?_,rfl⟩;show Ending.returned (.tuple #[.string s,.bool false])=_;rw[J9]
 have hd:decide ((s.size:Int)<(p.size:Int))=false:=zo (by omega);have b:p.size<=s.size:=by omega
 by_cases he:s.extract 0 p.size=p
 .rw[zD (a.2 ⟨b,he⟩)]
  have c:=Yy he;have hx:s.extract p.size s.size=sOf (s.data.toList.drop p.data.toList.length):=by
   rw[<-J9 (s.extract p.size s.size)]
   congr 1
   simp;exact zk (by simp)
  have HX:=zh hx;clear a he hx
  go_enter func111,ntmps111
  go_wp2;go_ret2;refine⟨?_,rfl⟩;rw[<-HX.o];rfl
 have hn:¬ Lib.hasPrefix s.data.toList p.data.toList=true:=λh=>he (a.1 h).2
 have c:=Qaa he;rw[zw hn];clear a hn he
 go_enter func111,ntmps111
 go_wp2;go_ret2;refine⟨?_,rfl⟩;show Ending.returned (.tuple #[.string s,.bool false])=_;rw[J9]
variable {c:Ub} {r:Ud} {a:Nat}
theorem Q2m(h:Qa3 c)(b:¬ (9223372036854775807-(c.toNat-48)) / 10<a):Qd9 a (c :: r)=Qd9 (10*a+(c.toNat-48)) r:=by unfold Qa3 at h;simp only[Qd9];rw[zD h,zw b]
theorem Q3e(h:Qa3 c)(b:(9223372036854775807-(c.toNat-48)) / 10<a):Qd9 a (c :: r)=none:=by unfold Qa3 at h;simp only[Qd9];rw[zD h,zD b]
theorem Q15(h:¬ Qa3 c):Qd9 a (c :: r)=some (a,c :: r):=by unfold Qa3 at h;simp only[Qd9];rw[zw h]
variable {l:Ud}
theorem Qj0{k:Nat}(b:k<=l.length)(h:Qd9 0 l=some (a,l.drop k)):Zh l=(a,l.drop k,decide (0<k)):=by
 unfold Zh;rw[h];simp only[zM,V6,zbv];by_cases h0:0<k
 .rw[zF h0,zF (by omega)]
 rw[zo h0,zo (by omega)]
theorem Qtd(h:Qd9 0 l=none):Zh l=(0,l,false):=by unfold Zh;rw[h]
def Qqm(l:Ud)(w:G)(e:Ua)(w':G):Prop:=
 e=.returned (.tuple #[.int .i64 (Zh l).1,.string (sOf (Zh l).2.1),.bool (Zh l).2.2])/\Bz w w'
theorem Qi3(s:O)(w:G)(t:s.size<=9223372036854775806):Calls prog 112 #[.string s] w (Qqm s.data.toList w):=by
 obtain⟨l,hl⟩:=zzx s.data.toList
 have g:l.length=s.size:=by rw[hl];simp
 have f:∀ (k:Nat) (hk:k<s.size),l.drop k=s[k] :: l.drop (k+1):=by
  intro k hk;rw[zZ (by omega)]
  congr 1
  subst hl;simp;rfl
 have d:∀ k,s.extract k s.size=sOf (l.drop k):=by
  intro k;rw[<-J9 (s.extract k s.size)]
  congr 1
  rw[hl];simp;exact zk (by simp)
 have b:s=sOf l:=by rw[hl,J9]
 rw[<-hl];obtain⟨HG,HE,HL,m⟩:=zh4 f d g b;clear hl f d g b
 go_enter func112,ntmps112
 go_wp2
 go_loop [5,6,7] (λvn vi _=>∃ (k a:Nat),k<=s.size/\vi=.int .i64 k/\vn=.int .i64 a/\a<=9223372036854775807/\Hid (Qd9 0 l=Qd9 a (l.drop k))) (λ_ vi _=>s.size-(intOf vi).toNat)
 case atStart=>exact⟨0,0,by omega,rfl,rfl,by omega,zh rfl⟩
 case round=>
  obtain⟨k,a,hk,rfl,rfl,ha,hh⟩:=hrel;by_cases hlt:k<s.size
  .have hd:=HG.o k hlt
   have hx:∀ (j:Nat) (hj:j<s.size),j=k->s[j].toNat=s[k].toNat:=by intro j hj e;subst e;rfl
   have hr:=hh.o;rw[hd] at hr;have HX:=zh (rfl:s[k]=s[k]);by_cases hdig:Qa3 s[k]
   .obtain⟨n,r⟩:=id hdig
    have h:decide ((48:Int)<=(s[k].toNat:Int))=true:=zF (by omega);have q:decide ((s[k].toNat:Int)<=(57:Int))=true:=zF (by omega);by_cases hov:(9223372036854775807-(s[k].toNat-48)) / 10<a
    .have i:decide ((9223372036854775807-((s[k].toNat:Int)-48)) / 10<(a:Int))=true:=zF (by omega)
     rw[Q3e hdig hov] at hr;have HR:=zh hr;clear hr hd hx hdig hov;go_wp2
     go_ret3
     unfold Qqm;rw[Qtd HR.o,<-m.o];exact⟨rfl,zu _ _⟩
    have i:decide ((9223372036854775807-((s[k].toNat:Int)-48)) / 10<(a:Int))=false:=zo (by omega);rw[Q2m hdig hov] at hr;have hn:10*(a:Int)+((s[k].toNat:Int)-48)=((10*a+(s[k].toNat-48):Nat):Int):=by omega
    have p:10*a+(s[k].toNat-48)<=9223372036854775807:=by omega
    obtain⟨HR,HN⟩:=zh2 hr hn;clear hr hd hx hdig hn;go_wp2;exact⟨⟨k+1,10*a+(s[k].toNat-48),by omega,by go_num,by rw[HN.o],p,HR⟩,by simp[intOf];omega⟩
   rw[Q15 hdig,<-hd] at hr;have HR:=zh hr;by_cases n:48<=s[k].toNat
   .have h:decide ((48:Int)<=(s[k].toNat:Int))=true:=zF (by omega)
    have q:decide ((s[k].toNat:Int)<=(57:Int))=false:=zo (by unfold Qa3 at hdig;omega);clear hr hd hx hdig
    go_wp2_with fail
    go_region;go_wp2
    go_ret3
    unfold Qqm;rw[Qj0 (by rw[HL.o];exact hk) HR.o,HE.o];exact⟨rfl,Q8 (zu _ _) _⟩
   have h:decide ((48:Int)<=(s[k].toNat:Int))=false:=zo (by omega);clear hr hd hx hdig
   go_wp2_with fail
   go_region;go_wp2
   go_ret3
   unfold Qqm;rw[Qj0 (by rw[HL.o];exact hk) HR.o,HE.o];exact⟨rfl,Q8 (zu _ _) _⟩
  have c:Qd9 a (l.drop k)=some (a,l.drop k):=by rw[V5 (by rw[HL.o];omega)];rfl
  have HR:=zh (hh.o.t c);clear c
  go_wp2_with fail
  go_region;go_wp2
  go_ret3
  unfold Qqm;rw[Qj0 (by rw[HL.o];exact hk) HR.o,HE.o];exact⟨rfl,Q8 (zu _ _) _⟩
theorem Qii{a b:O}(h:a=b):Ending.returned (.string a)=.returned (.string b):=by rw[h]
theorem Qdy(l i d:Int)(w:G)(t:i<9223372036854775808):Calls prog 53 #[.int .i64 l,.int .i64 i,.int .i64 d] w λe w'=>e=.returned (.string (sOf (Yb l i d)))/\Bz w w':=by
 by_cases hok:Ja l i d
 .have a:=Qav hok
  obtain⟨h1,h2,h3,h4,h5⟩:=hok;have d1:decide (l < -1)=false:=zo (by omega);have d2:decide (20<l)=false:=zo (by omega);have d3:decide (i<0)=false:=zo (by omega);have d4:decide (d<1)=false:=zo (by omega);have d5:decide (4<d)=false:=zo (by omega);obtain⟨k,rfl⟩:∃ k:Nat,i=k:=⟨i.toNat,by omega⟩
  obtain⟨x,rfl⟩:∃ x:Nat,d=x:=⟨d.toNat,by omega⟩
  have hk:(dec k).length<=19:=Jf (by omega);have hx:(dec x).length<=19:=Jf (by omega);have g:k<9223372036854775808:=by omega
  have p:x<9223372036854775808:=by omega
  unfold Yq at a;rw[zO,zO] at a;by_cases hl:0<=l
  .obtain⟨j,rfl⟩:∃ j:Nat,l=j:=⟨l.toNat,by omega⟩
   have hj:(dec j).length<=19:=Jf (by omega);have q:j<9223372036854775808:=by omega
   rw[zD hl,zO] at a;by_cases h4':(x:Int)<4
   .have d6:decide ((x:Int)<4)=true:=zF h4'
    have d7:decide ((0:Int)<=(j:Int))=true:=zF hl;rw[zD h4'] at a;have b:=zh a;clear a
    go_enter func53,ntmps53
    go_wp2_with fail
    refine (Qbk j _ q).m ?_;rintro e w1⟨rfl,f⟩
    go_wp2_with fail
    refine (Qbk k _ g).m ?_;rintro e w2⟨rfl,c⟩
    go_wp2_with fail
    refine (Qbk x _ p).m ?_;rintro e w3⟨rfl,m⟩;go_wp2;go_ret;refine⟨?_,(f.t (c.m f.size)).t (m.m (zi f.size c.size))⟩;rw[b.o];refine Qii ?_;apply vF;simp[kT,kP]
   have d6:decide ((x:Int)<4)=false:=zo h4';have d7:decide ((0:Int)<=(j:Int))=true:=zF hl;rw[zw h4'] at a;have b:=zh a;clear a
   go_enter func53,ntmps53
   go_wp2_with fail
   refine (Qbk j _ q).m ?_;rintro e w1⟨rfl,f⟩
   go_wp2_with fail
   refine (Qbk k _ g).m ?_;rintro e w2⟨rfl,c⟩;go_wp2;go_ret;refine⟨?_,f.t (c.m f.size)⟩;rw[b.o];refine Qii ?_;apply vF;simp[kT]
  rw[zw hl] at a;have d7:decide ((0:Int)<=l)=false:=zo hl;by_cases h4':(x:Int)<4
  .have d6:decide ((x:Int)<4)=true:=zF h4'
   rw[zD h4'] at a;have b:=zh a;clear a
   go_enter func53,ntmps53
   go_wp2_with fail
   refine (Qbk k _ g).m ?_;rintro e w2⟨rfl,c⟩
   go_wp2_with fail
   refine (Qbk x _ p).m ?_;rintro e w3⟨rfl,m⟩;go_wp2;go_ret;refine⟨?_,c.t (m.m c.size)⟩;rw[b.o];refine Qii ?_;apply vF;simp[kE,kP]
  have d6:decide ((x:Int)<4)=false:=zo h4';rw[zw h4'] at a;have b:=zh a;clear a
  go_enter func53,ntmps53
  go_wp2_with fail
  refine (Qbk k _ g).m ?_;rintro e w2⟨rfl,c⟩;go_wp2;go_ret;refine⟨?_,c⟩;rw[b.o];refine Qii ?_;apply vF;simp[kE]
 have r:Yb l i d = []:=by unfold Yb;rw[zw hok]
 rw[r];have s:(decide (l < -1)=true)∨(decide (l < -1)=false/\decide (20<l)=true)∨(decide (l < -1)=false/\decide (20<l)=false/\decide (i<0)=true)∨
   (decide (l < -1)=false/\decide (20<l)=false/\decide (i<0)=false/\decide (d<1)=true)∨
   (decide (l < -1)=false/\decide (20<l)=false/\decide (i<0)=false/\decide (d<1)=false/\decide (4<d)=true):=by
  unfold Ja at hok;simp only[xp,VO];omega
 clear hok r;rcases s with h|⟨h,h'⟩|⟨h,h',n⟩|⟨h,h',n,h3⟩|⟨h,h',n,h3,h4⟩
 all_goals
  go_enter func53,ntmps53
  go_wp2;go_ret;exact⟨rfl,zu _ _⟩
structure Z5(w:G):Prop where
 tab:Lib.TabIs prog w "internal/strconv.uint64pow10" .u64 Lib.pow10Tab
 most:∃ m,w.cell? ⟨11,0,none⟩=some (.int .i64 m)
 esyn:∃ ev,w.cell? ⟨9,0,none⟩=some ev/\(ev=.nilIface∨∃ te pe,ev=.iface te pe)
 erng:∃ ev,w.cell? ⟨10,0,none⟩=some ev/\(ev=.nilIface∨∃ te pe,ev=.iface te pe)
variable {w w':G}
theorem Q7e{a:String}{k:IntKind}{c:List Int}(h:Lib.TabIs prog w a k c)(d:Bz w w'):Lib.TabIs prog w' a k c:=by
 unfold Lib.TabIs World.var? at *;cases hg:prog.globalNamed a with
 | none=>simp[hg] at h
 | some g=>
  simp only[hg,ZP] at h ⊢;have b:g<w.heap.size:=by
   rcases zK g w.heap.size with h' | h'
   .exact h'
   rw[Array.getElem?_eq_none h'] at h;simp at h
  rw[d.block g b];exact h
theorem Z5.j(h:Z5 w)(a:Bz w w'):Z5 w':=by obtain⟨t,⟨m,hm⟩,⟨e1,h1,b⟩,⟨e2,h2,c⟩⟩:=h;exact⟨Q7e t a,⟨m,(a.cell (Qj hm)).t hm⟩,⟨e1,(a.cell (Qj h1)).t h1,b⟩,⟨e2,(a.cell (Qj h2)).t h2,c⟩⟩
theorem Q2j(os:Array Obj)(k:Nat):Bz w (Go.Sort.grow (w.drewN k) os):=by have h:=Q8 (zu w.heap.size w) k;exact⟨h.os,h.tape,h.output,by simp[Go.Sort.grow],λj hj=>by rw[<-h.block j hj];simp[Go.Sort.grow,X9,hj]⟩
theorem Qed(n:Nat)(w:G)(a:n<9223372036854775808)(h:Z5 w):Calls prog 197 #[.int .i64 n] w λe w'=>e=.returned (.string (sOf (dec n)))/\Bz w w':=by
 refine (strconv_Itoa n (by omega) (by omega) w h.tab).m ?_;rintro e w'⟨rfl,k,os,rfl⟩;refine⟨?_,Q2j os k⟩
 have:Lib.itoa (n:Int)=dec n:=by unfold Lib.itoa;rw[zw (by omega),zO]
 rw[this]
theorem Qf0(l i f:Int)(w:G)(y:i<9223372036854775808)(g:Z5 w):Calls prog 156 #[.int .i64 l,.int .i64 i,.int .i64 f] w λe w'=>e=.returned (.string (sOf (Yb l i f)))/\Bz w w':=by
 by_cases hok:Ja l i f
 .have a:=Qav hok
  obtain⟨h1,h2,h3,h4,h5⟩:=hok;have d1:decide (l < -1)=false:=zo (by omega);have d2:decide (20<l)=false:=zo (by omega);have d3:decide (i<0)=false:=zo (by omega);have d4:decide (f<1)=false:=zo (by omega);have d5:decide (4<f)=false:=zo (by omega);obtain⟨k,rfl⟩:∃ k:Nat,i=k:=⟨i.toNat,by omega⟩
  obtain⟨x,rfl⟩:∃ x:Nat,f=x:=⟨f.toNat,by omega⟩
  have hk:(dec k).length<=19:=Jf (by omega);have hx:(dec x).length<=19:=Jf (by omega);have p:k<9223372036854775808:=by omega
  have s:x<9223372036854775808:=by omega
  unfold Yq at a;rw[zO,zO] at a;by_cases hl:0<=l
  .obtain⟨j,rfl⟩:∃ j:Nat,l=j:=⟨l.toNat,by omega⟩
   have hj:(dec j).length<=19:=Jf (by omega);have t:j<9223372036854775808:=by omega
   rw[zD hl,zO] at a;by_cases h4':(x:Int)<4
   .have d6:decide ((x:Int)<4)=true:=zF h4'
    have d7:decide ((0:Int)<=(j:Int))=true:=zF hl;rw[zD h4'] at a;have c:=zh a;clear a;have HE:=zh g;clear g
    go_enter func156,ntmps156
    go_wp2_with fail
    refine (Qed j _ t HE.o).m ?_;rintro e w1⟨rfl,d⟩;have m:=HE.o.j d
    go_wp2_with fail
    refine (Qed k _ p m).m ?_;rintro e w2⟨rfl,b⟩;have n:=m.j b
    go_wp2_with fail
    refine (Qed x _ s n).m ?_;rintro e w3⟨rfl,q⟩;go_wp2;go_ret;refine⟨?_,(d.t (b.m d.size)).t (q.m (zi d.size b.size))⟩;rw[c.o];refine Qii ?_;apply vF;simp[kT,kP]
   have d6:decide ((x:Int)<4)=false:=zo h4';have d7:decide ((0:Int)<=(j:Int))=true:=zF hl;rw[zw h4'] at a;have c:=zh a;clear a;have HE:=zh g;clear g
   go_enter func156,ntmps156
   go_wp2_with fail
   refine (Qed j _ t HE.o).m ?_;rintro e w1⟨rfl,d⟩;have m:=HE.o.j d
   go_wp2_with fail
   refine (Qed k _ p m).m ?_;rintro e w2⟨rfl,b⟩;have n:=m.j b;go_wp2;go_ret;refine⟨?_,d.t (b.m d.size)⟩;rw[c.o];refine Qii ?_;apply vF;simp[kT]
  rw[zw hl] at a;have d7:decide ((0:Int)<=l)=false:=zo hl;by_cases h4':(x:Int)<4
  .have d6:decide ((x:Int)<4)=true:=zF h4'
   rw[zD h4'] at a;have c:=zh a;clear a;have HE:=zh g;clear g
   go_enter func156,ntmps156
   go_wp2_with fail
   refine (Qed k _ p HE.o).m ?_;rintro e w2⟨rfl,b⟩;have n:=HE.o.j b
   go_wp2_with fail
   refine (Qed x _ s n).m ?_;rintro e w3⟨rfl,q⟩;go_wp2;go_ret;refine⟨?_,b.t (q.m b.size)⟩;rw[c.o];refine Qii ?_;apply vF;simp[kE,kP]
  have d6:decide ((x:Int)<4)=false:=zo h4';rw[zw h4'] at a;have c:=zh a;clear a;have HE:=zh g;clear g
  go_enter func156,ntmps156
  go_wp2_with fail
  refine (Qed k _ p HE.o).m ?_;rintro e w2⟨rfl,b⟩;have n:=HE.o.j b;go_wp2;go_ret;refine⟨?_,b⟩;rw[c.o];refine Qii ?_;apply vF;simp[kE]
 have u:Yb l i f = []:=by unfold Yb;rw[zw hok]
 rw[u];have v:(decide (l < -1)=true)∨(decide (l < -1)=false/\decide (20<l)=true)∨(decide (l < -1)=false/\decide (20<l)=false/\decide (i<0)=true)∨
   (decide (l < -1)=false/\decide (20<l)=false/\decide (i<0)=false/\decide (f<1)=true)∨
   (decide (l < -1)=false/\decide (20<l)=false/\decide (i<0)=false/\decide (f<1)=false/\decide (4<f)=true):=by
  unfold Ja at hok;simp only[xp,VO];omega
 clear hok u g;rcases v with h|⟨h,h'⟩|⟨h,h',r⟩|⟨h,h',r,h3⟩|⟨h,h',r,h3,h4⟩
 all_goals
  go_enter func156,ntmps156
  go_wp2;go_ret;exact⟨rfl,zu _ _⟩
theorem Q36(l i a:Int)(w:G)(c:i<9223372036854775808)(b:Z5 w):Calls prog 108 #[.int .i64 l,.int .i64 i,.int .i64 a] w λe w'=>e=.returned (.string (sOf (Yb l i a)))/\Bz w w':=by
 have HE:=zh b;clear b
 go_enter func108,ntmps108
 go_wp2_with fail
 refine (Qf0 l i a _ c HE.o).m ?_;rintro e w1⟨rfl,hb⟩;go_wp2;go_ret;exact⟨rfl,hb⟩
theorem Q41(l i a:Int)(w:G)(c:i<9223372036854775808)(b:Z5 w):Calls prog 52 #[.int .i64 l,.int .i64 i,.int .i64 a] w λe w'=>e=.returned (.string (sOf (Yb l i a)))/\Bz w w':=by
 have HE:=zh b;clear b
 go_enter func52,ntmps52
 go_wp2_with fail
 refine (Q36 l i a _ c HE.o).m ?_;rintro e w1⟨rfl,hb⟩;go_wp2;go_ret;exact⟨rfl,hb⟩
def Qk3(q:Four)(w:G)(e:Ua)(w':G):Prop:=
 e=.returned (.tuple #[.int .i64 q.1,.int .i64 q.2.1,.int .i64 q.2.2.1,.bool q.2.2.2])/\Bz w w'
theorem Qe0(s p:Ud):(Za s p).1.length<=s.length:=by
 unfold Za
 split <;> simp
theorem Qzt:∀ (l:Ud) (a n:Nat) (r:Ud),Qd9 a l=some (n,r)->r.length<=l.length
 | [],a,n,r,h=>by simp only[Qd9,ZM,V6] at h;rw[<-h.2];exact zg _
 | c :: l,a,n,r,h=>by
  simp only[Qd9] at h
  split at h
  .split at h
   .cases h
   have:=Qzt l _ n r h
   simp only[zx]
   omega
  simp only[ZM,V6] at h;rw[<-h.2];exact zg _
theorem Qgs(l:Ud):(Zh l).2.1.length<=l.length:=by
 unfold Zh;cases h:Qd9 0 l with
 | none=>exact zg _
 | some x=>exact Qzt l 0 x.1 x.2 h
theorem Q1k(s:O)(w:G)(hs:s.size<=9223372036854775806):Calls prog 55 #[.string s] w (Qk3 (Qb7 s.data.toList) w):=by
 obtain⟨l,hl⟩:=zzx s.data.toList
 have Q:s=sOf l:=by rw[hl,J9]
 have ag:l.length<=9223372036854775806:=by rw[hl];simpa using hs
 clear hl hs;subst Q;obtain⟨q,hq⟩:=zzx (Qb7 l)
 show Calls prog 55 #[.string (sOf l)] w (Qk3 (Qb7 l) w);rw[<-hq];have HQ:=zh hq;clear hq
 go_enter func55,ntmps55
 go_wp2_with fail
 refine (Qf1 (sOf l) _ _).m ?_;rintro e w0⟨rfl,rfl⟩;have h1:(Za (sOf l).data.toList (ByteArray.mk #[101,110,116,114,105,101,115,47]).data.toList)=Za l kE:=rfl;rw[h1];clear h1;have F:=Qe0 l kE;obtain⟨x1,K⟩:=zzx (Za l kE)
 rw[<-K] at F ⊢;have I:=zh K;clear K;obtain⟨s1,b1⟩:=x1;simp only at F ⊢
 go_upto_if 20 with fail
 go_cut [6,7] (λvl vs wx=>∃ (lv:Int) (t:Ud),vl=.int .i64 lv/\vs=.string (sOf t)/\q=Qh3 l lv t/\t.length<=l.length/\Bz w wx)
 case first=>
  cases b1 with
  | true=>
   go_wp2
   go_meet;refine⟨-1,s1,rfl,rfl,?_,F,zu _ _⟩;rw[HQ.o];unfold Qb7;rw[<-I.o,zD rfl]
  | false=>
   have R:q=if (Za l kT).2=true then (if (Zh (Za l kT).1).2.2=true then (if (Za (Zh (Za l kT).1).2.1 [47]).2=true then Qh3 l (Zh (Za l kT).1).1 (Za (Zh (Za l kT).1).2.1 [47]).1 else Qax) else Qax) else Qax:=by rw[HQ.o];unfold Qb7;rw[<-I.o,zw (by simp)]
   have V:=zh R;clear R I
   go_wp2_with fail
   refine (Qf1 (sOf l) _ _).m ?_;rintro e w0⟨rfl,rfl⟩;rw[show (Za (sOf l).data.toList (ByteArray.mk #[116,105,108,101,47]).data.toList)=Za l kT from rfl];have X:=Qe0 l kT;obtain⟨x2,M⟩:=zzx (Za l kT)
   rw[<-M] at X ⊢;have f:=V.o;rw[<-M] at f;clear M V;obtain⟨s2,b2⟩:=x2;simp only at X f ⊢;cases b2 with
   | false=>
    rw[zw (by simp)] at f;have C:=zh f;clear f;go_wp2;refine zI (v:=.tuple #[.int .i64 0,.int .i64 0,.int .i64 0,.bool false]) (by simp[results,results55,go_sem]) rfl ⟨?_,zu _ _⟩;rw[C.o];rfl
   | true=>
    rw[zD rfl] at f;have C:=zh f;clear f
    go_wp2_with fail
    refine (Qi3 (sOf s2) _ (by rw[Y1];omega)).m ?_;rintro e w2⟨rfl,k⟩;rw[show Zh (sOf s2).data.toList=Zh s2 from rfl];have u:=Qgs s2;obtain⟨x3,z⟩:=zzx (Zh s2)
    have b:=C.o;rw[<-z] at u b ⊢;have j:=zh k;clear z C k;obtain⟨n3,s3,b3⟩:=x3;simp only at u b ⊢;cases b3 with
    | false=>
     rw[zw (by simp)] at b;have m:=zh b;clear b;go_wp2;refine zI (v:=.tuple #[.int .i64 0,.int .i64 0,.int .i64 0,.bool false]) (by simp[results,results55,go_sem]) rfl ⟨?_,j.o⟩;rw[m.o];rfl
    | true=>
     rw[zD rfl] at b;have m:=zh b;clear b
     go_wp2_with fail
     refine (Qf1 (sOf s3) _ _).m ?_;rintro e w0⟨rfl,rfl⟩;rw[show (Za (sOf s3).data.toList (ByteArray.mk #[47]).data.toList)=Za s3 [47] from rfl];have y:=Qe0 s3 [47];obtain⟨x4,B⟩:=zzx (Za s3 [47])
     have a:=m.o;rw[<-B] at y a ⊢;clear B m;obtain⟨s4,b4⟩:=x4;simp only at y a ⊢;cases b4 with
     | false=>
      rw[zw (by simp)] at a;have g:=zh a;clear a;go_wp2;refine zI (v:=.tuple #[.int .i64 0,.int .i64 0,.int .i64 0,.bool false]) (by simp[results,results55,go_sem]) rfl ⟨?_,j.o⟩;rw[g.o];rfl
     | true=>
      rw[zD rfl] at a;have g:=zh a;clear a
      go_wp2
      go_meet;exact⟨n3,s4,rfl,rfl,g.o,by omega,j.o⟩
 case rest=>
  obtain⟨lv,t,rfl,rfl,Z,ai,U⟩:=hcut;have HB:=zh U;clear HQ I U F;have HQ:=zh Z;clear Z
  go_wp2_with fail
  refine (Qi3 (sOf t) _ (by rw[Y1];omega)).m ?_;rintro e w2⟨rfl,k⟩;rw[show Zh (sOf t).data.toList=Zh t from rfl];have u:=Qgs t;have T:=Qga t;obtain⟨x3,z⟩:=zzx (Zh t)
  have b:q=Qmz l lv (Zh t).1 (Qob (Zh t)):=HQ.o;rw[<-z] at u T b ⊢;have j:=zh (HB.o.t (k.m HB.o.size));clear z HQ k;obtain⟨i,s3,b3⟩:=x3;simp only at u T b ⊢;have m:=zh b;clear b
  go_wp2_with fail
  refine (Qf1 (sOf s3) _ _).m ?_;rintro e w0⟨rfl,rfl⟩;rw[show (Za (sOf s3).data.toList (ByteArray.mk #[46,112,47]).data.toList)=Za s3 kP from rfl];have y:=Qe0 s3 kP;obtain⟨x4,B⟩:=zzx (Za s3 kP)
  have a:q=Qmz l lv i (if b3=true/\(Za s3 kP).2=true then ((Zh (Za s3 kP).1).1,(Zh (Za s3 kP).1).2) else (4,s3,b3)):=m.o;rw[<-B] at y a ⊢;clear B m;obtain⟨s4,b4⟩:=x4;simp only at y a ⊢;obtain⟨c5,P⟩:=zzx (b3 && b4)
  have L:q=Qmz l lv i (if c5=true then ((Zh s4).1,(Zh s4).2) else (4,s3,b3)):=by rw[a,P];simp only[XY]
  obtain⟨g,S⟩:=zh2 L P;clear a L P
  go_upto_region 16 with fail
  go_cut [57] from 54 to 57 (λc wx=>c=.bool c5/\wx=w2)
  case first=>
   cases b3 with
   | false=>
    go_wp2
    go_meet;exact⟨by rw[S.o];rfl,rfl⟩
   | true=>
    go_wp2
    go_meet;exact⟨by rw[S.o];rfl,rfl⟩
  obtain⟨rfl,rfl⟩:=hcut
  go_upto_if 57 with fail
  go_cut [7,8,10] (λvs vb vw wx=>∃ (wd:Int) (r:Ud) (ok:Bool),vw=.int .i64 wd/\vs=.string (sOf r)/\vb=.bool ok/\q=Qmz l lv i (wd,r,ok)/\r.length<=l.length/\Bz w wx)
  case first=>
   cases c5 with
   | false=>
    go_wp2
    go_meet;refine⟨4,s3,b3,rfl,rfl,rfl,?_,by omega,j.o⟩;rw[g.o,zw (by simp)]
   | true=>
     go_wp2_with fail
     refine (Qi3 (sOf s4) _ (by rw[Y1];omega)).m ?_;rintro e w3⟨rfl,n⟩;rw[show Zh (sOf s4).data.toList=Zh s4 from rfl];have ab:=Qgs s4;have H:=g.o;rw[zD trivial] at H;obtain⟨x5,aa⟩:=zzx (Zh s4)
     rw[<-aa] at ab H ⊢;obtain⟨E,D⟩:=zh2 H (j.o.t (n.m j.o.size));clear aa g H n;obtain⟨n5,s5,b5⟩:=x5;simp only at ab ⊢
     go_wp2
     go_meet;exact⟨n5,s5,b5,rfl,rfl,rfl,E.o,by omega,D.o⟩
  case rest=>
   obtain⟨wd,r,ok,rfl,rfl,rfl,W,ah,n⟩:=hcut;obtain⟨D,E⟩:=zh2 n W;clear g n W j
   go_wp2_with fail
   refine (Qdy lv i wd _ (by omega)).m ?_;rintro e w4⟨rfl,N⟩;have A:=zh (D.o.t (N.m D.o.size));clear N;have d:=E.o;unfold Qmz at d;simp only at d;obtain⟨nm,ac⟩:=zzx (Yb lv i wd)
   rw[<-ac] at d ⊢;clear ac E;by_cases hgood:ok=true/\r = []/\nm=l/\nm≠[]
   .rw[zD hgood] at d
    obtain⟨rfl,rfl,rfl,af⟩:=hgood;have c1:((sOf []).toList == (ByteArray.mk #[]).toList)=true:=Yy rfl;have c2:((sOf nm).toList == (sOf nm).toList)=true:=Yy rfl;have c3:nm.isEmpty=false:=by simpa using af
    have p:=zh d;clear d;go_wp2;refine zI (v:=.tuple #[.int .i64 lv,.int .i64 i,.int .i64 wd,.bool true]) (by simp[results,results55,go_sem]) rfl ⟨?_,A.o⟩;rw[p.o]
   rw[zw hgood] at d;have p:=zh d;clear d;have ad:ok=false∨(ok=true/\r≠[])∨(ok=true/\r = []/\nm≠l)∨(ok=true/\r = []/\nm=l/\nm = []):=by
    by_cases h1:ok=true
    .by_cases h2:r = []
     .by_cases h3:nm=l
      .by_cases h4:nm = []
       .exact .inr (.inr (.inr ⟨h1,h2,h3,h4⟩))
       exact absurd ⟨h1,h2,h3,h4⟩ hgood
      exact .inr (.inr (.inl ⟨h1,h2,h3⟩))
     exact .inr (.inl ⟨h1,h2⟩)
    exact .inl (by simpa using h1)
   clear hgood;rcases ad with rfl|⟨rfl,hr⟩|⟨rfl,rfl,hn⟩|⟨rfl,rfl,rfl,rfl⟩
   .go_wp2
    refine zI (v:=.tuple #[.int .i64 0,.int .i64 0,.int .i64 0,.bool false]) (by simp[results,results55,go_sem]) rfl ⟨?_,A.o⟩;rw[p.o];rfl
   .have c1:r.isEmpty=false:=by simpa using hr
    go_wp2;refine zI (v:=.tuple #[.int .i64 0,.int .i64 0,.int .i64 0,.bool false]) (by simp[results,results55,go_sem]) rfl ⟨?_,A.o⟩;rw[p.o];rfl
   .have c1:((sOf []).toList == (ByteArray.mk #[]).toList)=true:=Yy rfl
    have c2:((sOf nm).toList == (sOf l).toList)=false:=Qaa (λh=>hn (Qda h));go_wp2;refine zI (v:=.tuple #[.int .i64 0,.int .i64 0,.int .i64 0,.bool false]) (by simp[results,results55,go_sem]) rfl ⟨?_,A.o⟩;rw[p.o];rfl
   have c1:((sOf []).toList == (ByteArray.mk #[]).toList)=true:=Yy rfl;have c2:((sOf []).toList == (sOf []).toList)=true:=Yy rfl;go_wp2;refine zI (v:=.tuple #[.int .i64 0,.int .i64 0,.int .i64 0,.bool false]) (by simp[results,results55,go_sem]) rfl ⟨?_,A.o⟩;rw[p.o];rfl
theorem Zaw(s p:Ud):(Lib.cut s p).1.length<=s.length/\(Lib.cut s p).2.1.length<=s.length:=by
 unfold Lib.cut
 split
 .simp;omega
 simp
theorem Q78{s p:Ud}(h:(Lib.cut s p).2.2=false):(Lib.cut s p).1=s:=by
 unfold Lib.cut at *
 split at h
 .simp at h
 rename_i hn;rw[zw hn]
theorem Qk0(s p:Ud):(Lib.trimPrefix s p).length<=s.length:=by
 unfold Lib.trimPrefix
 split <;> simp
theorem Qod(s:O)(w:G)(c:s.size<=1048576)(h:Z5 w):Calls prog 176 #[.string s] w λe w'=>∃ v ev,e=.returned (.tuple #[.int .i64 v,ev])/\((Qfl s.data.toList=some v/\ev=.nilIface)∨(Qfl s.data.toList=none/\∃ T p,ev=.iface T p))/\Bz w w':=by
 obtain⟨_,_,⟨e1,h1,a⟩,⟨e2,h2,b⟩⟩:=h;cases hr:Lib.atoiAll s.data.toList with
 | ok v=>
  refine (strconv_Atoi_ok s (by omega) v hr w).m ?_;rintro e w'⟨rfl,hw⟩;refine⟨v,.nilIface,rfl,.inl ⟨by unfold Qfl;rw[hr],rfl⟩,?_⟩;rcases hw with rfl|⟨t,rfl⟩
  .exact zu _ _
  exact Xl _ _ _
 | range=>
  refine (strconv_Atoi_range s (by omega) hr e2 w h2 b).m ?_;rintro e w'⟨N,rfl,_,_,hb⟩;exact⟨_,_,rfl,.inr ⟨by unfold Qfl;rw[hr],_,_,rfl⟩,hb⟩
 | _=>
  refine (strconv_Atoi_syntax s (by omega) hr e1 w h1 a).m ?_;rintro e w'⟨N,rfl,_,_,hb⟩;exact⟨_,_,rfl,.inr ⟨by unfold Qfl;rw[hr],_,_,rfl⟩,hb⟩
theorem Q0a(s a:O)(w:G)(b:s.size<=1048576)(h:Z5 w):Calls prog 200 #[.string s,.string a] w λe w'=>e=.returned (.tuple #[.string (sOf (Lib.cut s.data.toList a.data.toList).1),.string (sOf (Lib.cut s.data.toList a.data.toList).2.1),.bool (Lib.cut s.data.toList a.data.toList).2.2])/\Bz w w':=by
 obtain⟨m,hm⟩:=h.most;refine (strings_Cut s a m w (by omega) hm).m ?_;rintro e w'⟨rfl,n,rfl⟩;exact⟨rfl,Q8 (zu _ _) _⟩
theorem Qr7(l p:Ud)(w:G):Calls prog 198 #[.string (sOf l),.string (sOf p)] w λe w'=>e=.returned (.tuple #[.string (sOf (Lib.trimPrefix l p)),.bool (Lib.hasPrefix l p)])/\w=w':=by
 refine (strings_CutPrefix (sOf l) (sOf p) w).m ?_;rintro e w'⟨rfl,rfl⟩;exact⟨rfl,rfl⟩
theorem Q97(s a:O)(b:Bool)(w:G)(d:s.size<=1048576)(h:Z5 w):Calls prog 199 #[.string s,.string a,.bool b] w λe w'=>e=.returned (.tuple #[.string (sOf (Lib.cut s.data.toList a.data.toList).1),.string (sOf (Lib.cut s.data.toList a.data.toList).2.1),.bool (b && (Lib.cut s.data.toList a.data.toList).2.2)])/\Bz w w':=by
 have HE:=zh h;obtain⟨c,hc⟩:=zzx (Lib.cut s.data.toList a.data.toList)
 rw[<-hc];have HC:=zh hc;clear h hc
 go_enter func199,ntmps199
 go_wp2_with fail
 refine (Q0a s a _ d HE.o).m ?_;rintro e w1⟨rfl,hb⟩;rw[<-HC.o];obtain⟨x,y,z⟩:=c;cases b
 all_goals
  go_wp2
  go_ret3
  exact⟨rfl,hb⟩
theorem Q13(s:O)(w:G)(hs:s.size<=1048576)(h:Z5 w):Calls prog 157 #[.string s] w (Qk3 (Jm s.data.toList) w):=by
 obtain⟨l,hl⟩:=zzx s.data.toList
 have ab:s=sOf l:=by rw[hl,J9]
 have an:l.length<=1048576:=by rw[hl];simpa using hs
 clear hl hs;subst ab;obtain⟨q,hq⟩:=zzx (Jm l)
 show Calls prog 157 #[.string (sOf l)] w (Qk3 (Jm l) w);rw[<-hq];obtain⟨HQ,HE⟩:=zh2 hq h;clear hq h
 go_enter func157,ntmps157
 go_wp2_with fail
 refine (Qr7 l kE _).m ?_;rintro e w0⟨rfl,rfl⟩;have W:=Qk0 l kE;obtain⟨s1,L⟩:=zzx (Lib.trimPrefix l kE)
 obtain⟨b1,F⟩:=zzx (Lib.hasPrefix l kE)
 rw[<-L] at W;rw[<-L,<-F];obtain⟨Z,I⟩:=zh2 L F;clear L F
 go_upto_if 19 with fail
 go_cut [2,4,5,6,8,9] from 13 (λvl vw _ vr _ _ wx=>∃ (lv:Int) (t:Ud),vl=.int .i64 lv/\vw=.int .i64 4/\vr=.string (sOf t)/\q=Qd1 l lv t/\t.length<=l.length/\Bz w wx)
 case first=>
  cases b1 with
  | true=>
   go_wp2
   go_meet;refine⟨-1,s1,rfl,rfl,rfl,?_,W,zu _ _⟩;rw[HQ.o];unfold Jm;rw[<-I.o,<-Z.o,zD rfl]
  | false=>
   have n:=HQ.o;unfold Jm at n;rw[<-I.o,zw (by simp)] at n;have ak:=Qk0 l kT;obtain⟨s2,M⟩:=zzx (Lib.trimPrefix l kT)
   obtain⟨b2,B⟩:=zzx (Lib.hasPrefix l kT)
   rw[<-M] at ak;rw[<-M,<-B] at n;obtain⟨af,aj,m⟩:=zh3 n M B;clear M B n HQ I Z
   go_wp2_with fail
   refine (Qr7 l kT _).m ?_;rintro e w0⟨rfl,rfl⟩;rw[<-aj.o,<-m.o]
   go_wp2_with fail
   refine (Q97 (sOf s2) (sOf [47]) b2 _ (by rw[Y1];omega) HE.o).m ?_;rintro e w1⟨rfl,H⟩;rw[show Lib.cut (sOf s2).data.toList (sOf [47]).data.toList=Lib.cut s2 [47] from rfl];have u:=Zaw s2 [47];obtain⟨c,hc⟩:=zzx (Lib.cut s2 [47])
   have g:=af.o;rw[<-hc] at u g ⊢;obtain⟨c1,c2,c3⟩:=c;simp only at u g ⊢;obtain⟨ok,U⟩:=zzx (b2 && c3)
   have a:q=if ok=true then (match Qfl c1 with|none=>Qax|some v=>if v<0 then Qax else Qd1 l v c2) else Qax:=by rw[g,U];cases b2 <;> cases c3 <;> rfl
   rw[<-U];obtain⟨k,C,y⟩:=zh3 a H (HE.o.j H);clear g a U H hc af;cases ok with
   | false=>
    go_wp2;refine zI (v:=.tuple #[.int .i64 0,.int .i64 0,.int .i64 0,.bool false]) (by simp[results,results157,go_sem]) rfl ⟨?_,C.o⟩;rw[k.o,zw (by simp)];rfl
   | true=>
    go_wp2_with fail
    refine (Qod (sOf c1) _ (by rw[Y1];omega) y.o).m ?_;rintro e w2⟨v,ev,rfl,hv,i⟩;rw[show (sOf c1).data.toList=c1 from rfl] at hv;have d:=k.o;rw[zD trivial] at d;have D:=zh (C.o.t (i.m C.o.size));clear i;rcases hv with⟨hv,rfl⟩|⟨hv,T,p,rfl⟩
    .rw[hv] at d
     simp only at d;have e0:=Y2 w2;by_cases h0:v<0
     .have hd:decide (v<0)=true:=zF h0
      rw[zD h0] at d;have f:=zh d;clear d hv h0;go_wp2;refine zI (v:=.tuple #[.int .i64 0,.int .i64 0,.int .i64 0,.bool false]) (by simp[results,results157,go_sem]) rfl ⟨?_,D.o⟩;rw[f.o];rfl
     have hd:decide (v<0)=false:=zo h0;rw[zw h0] at d;have f:=zh d;clear d hv h0
     go_wp2
     go_meet;exact⟨v,c2,rfl,rfl,rfl,f.o,by omega,D.o⟩
    rw[hv] at d;simp only at d;have e0:=Qam w2 T p;have f:=zh d;clear d hv;go_wp2;refine zI (v:=.tuple #[.int .i64 0,.int .i64 0,.int .i64 0,.bool false]) (by simp[results,results157,go_sem]) rfl ⟨?_,D.o⟩;rw[f.o];rfl
 case rest=>
  obtain⟨lv,t,rfl,rfl,rfl,ag,ap,S⟩:=hcut;obtain⟨HB,y⟩:=zh2 S (HE.o.j S);clear HQ I Z S W HE;have HQ:=zh ag;clear ag
  go_wp2_with fail
  refine (Q0a (sOf t) (sOf kP) _ (by rw[Y1];omega) y.o).m ?_;rintro e w2⟨rfl,i⟩;rw[show Lib.cut (sOf t).data.toList (sOf kP).data.toList=Lib.cut t kP from rfl];have u:=Zaw t kP;have K:=@Q78 t kP;have g:q=(match (if (Lib.cut t kP).2.2=true then Qfl (Lib.cut t kP).2.1 else some 4) with
   | none=>Qax
   | some width=>match Qfl (Lib.cut t kP).1 with
    | none=>Qax
    | some index=>if Yb lv index width=l then (lv,index,width,true) else Qax):=HQ.o
  obtain⟨c,hc⟩:=zzx (Lib.cut t kP)
  rw[<-hc] at u g K ⊢;obtain⟨c1,c2,c3⟩:=c;simp only at u g K ⊢;obtain⟨m,Q,R,ad⟩:=zh4 (HB.o.t (i.m HB.o.size)) (y.o.j i) g K;clear g i hc HQ K y
  go_upto_if 51 with fail
  go_cut [2,4,6,8] from 13 (λvl vw vr _ wx=>∃ (wd:Int) (r:Ud),vl=.int .i64 lv/\vw=.int .i64 wd/\vr=.string (sOf r)/\q=(match Qfl r with|none=>Qax|some index=>if Yb lv index wd=l then (lv,index,wd,true) else Qax)/\r.length<=l.length/\Bz w wx/\Z5 wx)
  case first=>
   cases c3 with
   | false=>
    have HR:=zh (ad.o rfl);have a:=R.o;rw[zw (by simp)] at a;simp only at a;have k:=zh a;clear a
    go_wp2
    go_meet;exact⟨4,c1,rfl,rfl,by rw[HR.o],k.o,by omega,m.o,Q.o⟩
   | true=>
    have a:=R.o;rw[zD rfl] at a;have ai:=zh a;clear a
    go_wp2_with fail
    refine (Qod (sOf c2) _ (by rw[Y1];omega) Q.o).m ?_;rintro e w3⟨v,ev,rfl,hv,j⟩;rw[show (sOf c2).data.toList=c2 from rfl] at hv;obtain⟨z,P⟩:=zh2 (m.o.t (j.m m.o.size)) (Q.o.j j);have a:=ai.o;clear j;rcases hv with⟨hv,rfl⟩|⟨hv,T,p,rfl⟩
    .rw[hv] at a
     simp only at a;have e0:=Y2 w3;have k:=zh a;clear a hv
     go_wp2
     go_meet;exact⟨v,c1,rfl,rfl,rfl,k.o,by omega,z.o,P.o⟩
    rw[hv] at a;simp only at a;have e0:=Qam w3 T p;have k:=zh a;clear a hv;go_wp2;refine zI (v:=.tuple #[.int .i64 0,.int .i64 0,.int .i64 0,.bool false]) (by simp[results,results157,go_sem]) rfl ⟨?_,z.o⟩;rw[k.o];rfl
  case rest=>
   obtain⟨wd,r,rfl,rfl,rfl,b,ao,j,aa⟩:=hcut;obtain⟨z,P,al⟩:=zh3 j aa b;clear R ad m Q j aa b
   go_wp2_with fail
   refine (Qod (sOf r) _ (by rw[Y1];omega) P.o).m ?_;rintro e w4⟨v,ev,rfl,hv,E⟩;rw[show (sOf r).data.toList=r from rfl] at hv;obtain⟨A,ah⟩:=zh2 (z.o.t (E.m z.o.size)) (P.o.j E);have b:=al.o;clear E;rcases hv with⟨hv,rfl⟩|⟨hv,T,p,rfl⟩
   .rw[hv] at b
    simp only at b;have ac:=Qn4 hv;have e0:=Y2 w4;obtain⟨nm,N⟩:=zzx (Yb lv v wd)
    have ae:=zh N;rw[<-N] at b;by_cases he:nm=l
    .rw[zD he] at b
     have f:=zh b;clear b hv N
     go_wp2_with fail
     refine (Qf0 lv v wd _ ac ah.o).m ?_;rintro e w5⟨rfl,X⟩;rw[<-ae.o];have V:=zh (A.o.t (X.m A.o.size));subst he;go_wp2;refine zI (v:=.tuple #[.int .i64 lv,.int .i64 v,.int .i64 wd,.bool true]) (by simp[results,results157,go_sem]) rfl ⟨?_,V.o⟩;rw[f.o]
    rw[zw he] at b;have f:=zh b;clear b hv N
    go_wp2_with fail
    refine (Qf0 lv v wd _ ac ah.o).m ?_;rintro e w5⟨rfl,X⟩;rw[<-ae.o];have V:=zh (A.o.t (X.m A.o.size));have c6:(nm == l)=false:=zl.2 he;go_wp2;refine zI (v:=.tuple #[.int .i64 0,.int .i64 0,.int .i64 0,.bool false]) (by simp[results,results157,go_sem]) rfl ⟨?_,V.o⟩;rw[f.o];rfl
   rw[hv] at b;simp only at b;have e0:=Qam w4 T p;have f:=zh b;clear b hv;go_wp2;refine zI (v:=.tuple #[.int .i64 0,.int .i64 0,.int .i64 0,.bool false]) (by simp[results,results157,go_sem]) rfl ⟨?_,A.o⟩;rw[f.o];rfl
theorem Q02(s:O)(w:G)(f:s.size<=1048576)(h:Z5 w):Calls prog 110 #[.string s] w (Qk3 (Jm s.data.toList) w):=by
 have HE:=zh h;obtain⟨q,hq⟩:=zzx (Jm s.data.toList)
 rw[<-hq];have HQ:=zh hq;clear h hq
 go_enter func110,ntmps110
 go_wp2_with fail
 refine (Q13 s _ f HE.o).m ?_;rintro e w1⟨rfl,hb⟩;rw[<-HQ.o];obtain⟨a,b,c,d⟩:=q;go_wp2;refine zI (v:=.tuple #[.int .i64 a,.int .i64 b,.int .i64 c,.bool d]) (by simp[results,results110,go_sem]) rfl ⟨rfl,hb⟩
abbrev Zdb(q:Four):J:=.agg #[.int .i64 q.1,.int .i64 q.2.1,.int .i64 q.2.2.1,.bool q.2.2.2]
abbrev Qhf(q:Four):Array J:=#[.int .i64 q.1,.int .i64 q.2.1,.int .i64 q.2.2.1,.bool q.2.2.2]
def Qk1(w:G)(g:Nat)(q:Four):Prop:=w.heap[g]?=some (.cells (Qhf q) 89 (0,0))
theorem Qk1.j{w':G}{q:Four}(h:Qk1 w g q)(a:Bz w w'):Qk1 w' g q:=(a.block g (Qb h)).t h
theorem Qk1.facts{a b c:Int}{d:Bool}(h:Qk1 w g (a,b,c,d)):w.cell? ⟨g,0,none⟩=some (.int .i64 a)/\w.cell? ⟨g,1,none⟩=some (.int .i64 b)/\w.cell? ⟨g,2,none⟩=some (.int .i64 c)/\w.cell? ⟨g,3,none⟩=some (.bool d)/\
  w.frozen? ⟨g,0,none⟩=false/\w.frozen? ⟨g,1,none⟩=false/\w.frozen? ⟨g,2,none⟩=false/\w.frozen? ⟨g,3,none⟩=false/\g<w.heap.size:=by
 unfold Qk1 at h;exact⟨by simp[World.cell?,h],by simp[World.cell?,h],by simp[World.cell?,h],by simp[World.cell?,h],by simp[World.frozen?,h],by simp[World.frozen?,h],by simp[World.frozen?,h],by simp[World.frozen?,h],Qb h⟩
theorem Qrt(s:O)(w:G)(f:s.size<=1048576)(h:Z5 w):Calls prog 54 #[.string s] w λe w'=>e=.returned (Zdb (Jm s.data.toList))/\Bz w w':=by
 obtain⟨q,hq⟩:=zzx (Jm s.data.toList)
 rw[<-hq];have HQ:=zh hq;have b0:=Qa w (.cells #[.int .i64 0,.int .i64 0,.int .i64 0,.bool false] 89);obtain⟨HE,B0⟩:=zh2 (h.j b0) b0;clear h hq b0
 go_enter func54,ntmps54
 go_wp2_with fail
 refine (Q02 s _ f HE.o).m ?_;rintro e w1⟨rfl,hb⟩;rw[<-HQ.o];obtain⟨t0,t1,t2,t3,f0,f1,f2,f3,g⟩:=(Qk1.j (q:=(0,0,0,false)) (zy w _) hb).facts;have HB:=zh (B0.o.t (hb.m (by simp)));clear hb;obtain⟨a,b,c,d⟩:=q;go_wp2;refine zI (v:=Zdb (a,b,c,d)) (by simp[results,results54,go_sem,t0,t1,t2,t3]) rfl ⟨rfl,?_⟩;exact (((HB.o.setCell (zg _) _).setCell (zg _) _).setCell (zg _) _).setCell (zg _) _
theorem Q07(l i a:Int)(b:i<9223372036854775808):(Yb l i a).length<=100:=by
 unfold Yb
 split
 .rename_i h
  obtain⟨h1,h2,h3,h4,h5⟩:=h;have e1:=Jf (n:=l.toNat) (by omega);have e2:=Jf (n:=i.toNat) (by omega);have e3:=Jf (n:=a.toNat) (by omega);unfold Yq
  split <;> split <;> simp[kT,kE,kP] <;> omega
 simp
theorem Q3t(l i b:Int)(s:O)(w:G)(n:i<9223372036854775808)(H:s.size<=1048576)(h:Z5 w):Calls prog 15 #[.int .i64 l,.int .i64 i,.int .i64 b,.string s] w λe w'=>e=.returned (.bool true)/\Bz w w':=by
 have c:=Q1g l i b n;obtain⟨nm,f⟩:=zzx (Yb l i b)
 rw[<-f] at c;have I:nm.length<=100:=by rw[f];exact Q07 l i b n
 obtain⟨HW,HN,HE⟩:=zh3 c f h;clear c f h
 go_enter func15,ntmps15
 go_wp2_with fail
 refine (Q41 l i b _ n HE.o).m ?_;rintro e w1⟨rfl,g⟩;rw[<-HN.o];obtain⟨r,A⟩:=zh2 g (HE.o.j g);clear g
 go_wp2_with fail
 refine (Qdy l i b _ n).m ?_;rintro e w2⟨rfl,j⟩;rw[<-HN.o];obtain⟨v,z⟩:=zh2 (r.o.t (j.m r.o.size)) (A.o.j j);clear j
 go_wp2_with fail
 refine (Qrt s _ H z.o).m ?_;rintro e w3⟨rfl,k⟩;obtain⟨p,hp⟩:=zzx (Jm s.data.toList)
 rw[<-hp];have HP:=zh hp;clear hp;obtain⟨pl,pi,pw,pk⟩:=p;have b3:=k.alloc k.size (.cells (Qhf (pl,pi,pw,pk)) 89);have T3:Qk1 (w3.alloc (.cells (Qhf (pl,pi,pw,pk)) 89)) w3.heap.size (pl,pi,pw,pk):=zy w3 _;obtain⟨E,u,F⟩:=zh3 T3 (v.o.t (b3.m v.o.size)) (z.o.j b3);clear k b3 T3
 go_wp2_with fail
 refine (Q1k s _ (by omega)).m ?_;rintro e w4⟨rfl,d⟩;rw[<-Q1r,<-HP.o];obtain⟨C,y,B⟩:=zh3 (E.o.j d) (u.o.t (d.m u.o.size)) (F.o.j d);clear d
 go_wp2_with fail
 refine (Qrt (sOf nm) _ (by rw[Y1];omega) B.o).m ?_;rintro e w5⟨rfl,m⟩;rw[show Jm (sOf nm).data.toList=Jm nm from rfl];obtain⟨q,hq⟩:=zzx (Jm nm)
 rw[<-hq];have HQ:=zh hq;clear hq;obtain⟨ql,qi,qw,qk⟩:=q;have b5:=m.alloc m.size (.cells (Qhf (ql,qi,qw,qk)) 89);have T5:Qk1 (w5.alloc (.cells (Qhf (ql,qi,qw,qk)) 89)) w5.heap.size (ql,qi,qw,qk):=zy w5 _;have t:=zh (y.o.t (b5.m y.o.size));obtain⟨t0,t1,t2,t3,_,_,_,_,_⟩:=(C.o.j b5).facts;obtain⟨s0,s1,s2,s3,_,_,_,_,_⟩:=T5.facts;clear m b5 T5;have n1:(nm == nm)=true:=by simp
 by_cases hok:Ja l i b
 .have hw:=HW.o
  rw[zD hok] at hw;obtain⟨D,a⟩:=hw;rw[<-HQ.o] at a;simp only[V6] at a;obtain⟨rfl,rfl,rfl,rfl⟩:=a;have n2:nm.isEmpty=false:=by simpa using D
  clear hok;go_wp2;go_ret;exact⟨rfl,t.o⟩
 have hw:=HW.o;rw[zw hok] at hw;subst hw;have a:=HQ.o;rw[Q06] at a;simp only[Qax,V6] at a;obtain⟨rfl,rfl,rfl,rfl⟩:=a;clear hok;go_wp2;go_ret;exact⟨rfl,t.o⟩
def encE(l:Ud):Ud:=UInt8.ofNat l.length :: l
def Yf(ls:Uc):Y Ud:=if ls.length=0∨4<ls.length then none else if ls.all (λl=>decide (l.length<=20)) then some (ls.flatMap encE) else none
def bss(ss:List O):Uc:=ss.map (·.data.toList)
variable {ls:Uc}
theorem Qew(h:ls.length=0∨4<ls.length):Yf ls=none:=zD h
theorem Qkd{k:Nat}{l:Ud}(h:ls[k]?=some l)(a:20<l.length):Yf ls=none:=by
 unfold Yf
 split
 .rfl
 rw[zw];intro ha;rw[xy] at ha
 have:=ha l (zr h)
 simp at this;omega
theorem Qb9(a:ls.length≠0)(b:ls.length<=4)(h:∀ (j:Nat) (l:Ud),ls[j]?=some l->l.length<=20):Yf ls=some (ls.flatMap encE):=by unfold Yf;rw[zw (by omega),zD];rw[xy];intro l hl;obtain⟨j,hj,rfl⟩:=Xp hl;simpa using h j _ (ze hj)
def Qr9(ls:Uc)(w:G)(e:Ua)(w':G):Prop:=
 e=.returned (.tuple #[.string ⟨((Yf ls).getD []).toArray⟩,.bool (Yf ls).isSome])/\Bz w w'
theorem Qjp(v:J)(ss:List O)(w:G)(h:Zj w v ss)(D:ss.length<=1099511627776):Calls prog 57 #[v] w (Qr9 (bss ss) w):=by
 obtain⟨a,c,rfl,y,hc⟩:=h;have q:(bss ss).length=ss.length:=by simp[bss]
 by_cases h0:ss.length=0
 .have hd:((ss.length:Int) == 0)=true:=by simp[h0]
  clear hc
  go_enter func57,ntmps57
  go_wp2;go_ret2;rw[Qr9,Qew (.inl (by omega))];exact⟨rfl,zu _ _⟩
 have hd:((ss.length:Int) == 0)=false:=by rw[zl];omega
 by_cases h4:4<ss.length
 .have u:decide (4<(ss.length:Int))=true:=by simp;omega
  clear hc
  go_enter func57,ntmps57
  go_wp2;go_ret2;rw[Qr9,Qew (.inr (by omega))];exact⟨rfl,zu _ _⟩
 have u:decide (4<(ss.length:Int))=false:=by simp;omega
 obtain⟨HC,HB⟩:=zh2 hc q;clear hc q
 go_enter func57,ntmps57
 go_wp2
 go_loopw [4,5] (λs i wr=>∃ (k:Nat) (t:O),k<=ss.length/\i=.int .i64 k/\s=.string t/\t.size<=21*k/\t.data.toList=((bss ss).take k).flatMap encE/\(∀ (j:Nat) (l:Ud),j<k->(bss ss)[j]?=some l->l.length<=20)/\Bz w wr) (λ_ i _=>ss.length-(intOf i).toNat)
 case atStart=>exact⟨0,⟨#[]⟩,by omega,rfl,rfl,by decide,rfl,by omega,zu _ _⟩
 case round=>
  obtain⟨k,t,hk,rfl,rfl,z,ht,n,e⟩:=hrel;obtain⟨HT,HS,f⟩:=zh3 ht n e;clear ht n;by_cases hlt:k<ss.length
  .obtain⟨s,hs⟩:∃ s,ss[k]?=some s:=⟨_,ze hlt⟩
   obtain⟨b,off,rfl,d⟩:=HC.o k (.string s) (by simp[hs]);have r:b<w.heap.size:=Qj d;have g:wr.cell? ⟨b,off+k,none⟩=some (.string s):=(e.cell (p:=⟨b,off+k,none⟩) r).t d;have x:b<wr.heap.size:=Qj g;have m:(bss ss)[k]?=some s.data.toList:=by simp[bss,hs]
   have HK:=zh m;have A:(0:Int)<=(k:Int):=by omega
   have C:(k:Int)<(ss.length:Int):=by omega
   clear hs d e m;by_cases hlong:20<s.size
   .go_wp2
    go_ret2;rw[Qr9,Qkd HK.o hlong];exact⟨rfl,f.o⟩
   have B:Sem.run prog (convert 147 9 (.slice (some ⟨wr.heap.size,0,none⟩) 1 1)) ((wr.alloc (.cells #[.int .u8 (s.size:Int)] 5)).drew)=.ok (.string ⟨[UInt8.ofNat s.size].toArray⟩) ((wr.alloc (.cells #[.int .u8 (s.size:Int)] 5)).drew):=by rw[Qll _ (by omega)];exact Qdq ((bytes1 (fz:=(0,0)) (Zv _ _ _ rfl)).j (Ql _))
   go_wp2;go_region;go_wp2;go_roundw
   case rel=>
    refine⟨k+1,_,by omega,by go_num,rfl,?_,?_,λj l hj hl=>?_,(f.o.alloc f.o.size _).drew⟩
    .simp only[x9]
     have:(ByteArray.mk #[UInt8.ofNat s.size]).size=1:=rfl
     omega
    .rw[zY,HK.o,vU,<-HT.o]
     simp[encE]
    by_cases hjk:j=k
    .subst hjk
     rw[HK.o] at hl;cases hl;exact Nat.le_of_not_lt hlong
    exact HS.o j l (by omega) hl
   case measure=>simp[intOf];omega
  go_wp2;go_ret2;have e1:(bss ss).take k=bss ss:=zk (by rw[HB.o];omega);have hb:=Qb9 (ls:=bss ss) (by rw[HB.o];omega) (by rw[HB.o];omega) (λj l hj=>HS.o j l (by have:=(zj.1 hj).1;rw[HB.o] at this;omega) hj);rw[Qr9,hb];refine⟨?_,f.o⟩;have ht:=HT.o;rw[e1] at ht;simp only[xz,Option.isSome_some,<-ht];rfl
def rawF:Nat->Ud->Y Uc
 | _,[]=>some []
 | 0,_ :: _=>none
 | f+1,x :: r=>if x.toNat<=r.length then (rawF f (r.drop x.toNat)).map (r.take x.toNat :: ·) else none
def rawU(l:Ud):Y Uc:=rawF l.length l
theorem Qu8:∀ (f g:Nat) (l:Ud),l.length<=f->l.length<=g->rawF f l=rawF g l
 | _,_,[],_,_=>by simp[rawF]
 | 0,_,_ :: _,h,_=>by simp at h
 | _,0,_ :: _,_,h=>by simp at h
 | f+1,g+1,x :: r,h1,h2=>by
  simp only[rawF]
  simp only[zx] at h1 h2
  rw[Qu8 f g (r.drop x.toNat) (by simp;omega) (by simp;omega)]
theorem Q0u:rawU []=some []:=rfl
theorem Qkx(x:Ub)(r:Ud):rawU (x :: r)=if x.toNat<=r.length then (rawU (r.drop x.toNat)).map (r.take x.toNat :: ·) else none:=by show rawF (r.length+1) (x :: r)=_;simp only[rawF];rw[show rawU (r.drop x.toNat)=rawF r.length (r.drop x.toNat) from Qu8 _ _ _ (by simp) (by simp)]
def Qs(l:Ud):Y Uc:=(rawU l).bind λls=>if (Yf ls).isSome then some ls else none
theorem Qur:∀ (f:Nat) (l:Ud) (ls:Uc),rawF f l=some ls->ls.flatMap encE=l
 | _,[],ls,h=>by simp[rawF] at h;subst h;rfl
 | 0,_ :: _,ls,h=>by simp[rawF] at h
 | f+1,x :: r,ls,h=>by
  simp only[rawF] at h
  split at h
  .rename_i hx
   obtain⟨ls',h',rfl⟩:=zP.1 h
   have:=Qur f _ _ h'
   rw[vZ,this,encE,zm,ZB hx]
   simp
  cases h
theorem Qtf(h:rawU l=some ls):ls.flatMap encE=l:=Qur _ _ _ h
def Read(data:Ud)(ls:Uc)(rest:Ud):Prop:=rawU data=(rawU rest).map (ls ++ ·)
theorem Read.start(data:Ud):Read data [] data:=by unfold Read;simp
variable {data:Ud} {x:Ub}
theorem Read.step(h:Read data ls (x :: r))(a:x.toNat<=r.length):Read data (ls ++ [r.take x.toNat]) (r.drop x.toNat):=by
 unfold Read at *;rw[h,Qkx,zD a,zax]
 congr 1
 funext q
 simp
theorem Read.bad(h:Read data ls (x :: r))(a:r.length<x.toNat):rawU data=none:=by unfold Read at h;rw[h,Qkx,zw (by omega)];rfl
theorem Read.done(h:Read data ls []):rawU data=some ls:=by unfold Read at h;rw[h,Q0u];simp
theorem Qog(h:l∈ls)(a:20<l.length):Yf ls=none:=by obtain⟨k,hk,rfl⟩:=Xp h;exact Qkd (ze hk) a
theorem Read.long(h:Read data ls (x :: r))(a:20<x.toNat):Qs data=none:=by
 unfold Qs;by_cases hr:x.toNat<=r.length
 .have h2:=h.step hr
  unfold Read at h2;rw[h2];cases rawU (r.drop x.toNat) with
  | none=>rfl
  | some q=>
   simp only[xk,ZP];rw[Qog (l:=r.take x.toNat) (by simp) (by simp;omega)];rfl
 rw[h.bad (by omega)];rfl
theorem Read.many(h:Read data ls (x :: r))(a:4<=ls.length):Qs data=none:=by
 unfold Qs;by_cases hr:x.toNat<=r.length
 .have h2:=h.step hr
  unfold Read at h2;rw[h2];cases rawU (r.drop x.toNat) with
  | none=>rfl
  | some q=>
   simp only[xk,ZP];rw[Qew (.inr (by simp;omega))];rfl
 rw[h.bad (by omega)];rfl
theorem Qm0(h:rawU data=none):Qs data=none:=by unfold Qs;rw[h];rfl
theorem Qjw(h:rawU data=some ls)(a:ls.length≠0)(c:ls.length<=4)(b:∀ l∈ls,l.length<=20):Qs data=some ls:=by unfold Qs;rw[h,ZP,Qb9 a c (λj l hj=>b l (zr hj))];rfl
theorem Qqo:Qs []=none:=by unfold Qs;rw[Q0u];rfl
theorem Qka{P:Program}{p:Array Oper}{e:List Oper}{o:Oper}{a:Act}{Q:Exit->Act->G->Prop}(r:o.guard=none)(s x:Operand)(t:TypeId)(I:o.op=.call { callee:=.builtin .append,args:=#[s,x],argTypes:=#[t,t] })(base:Nat)(i:TypeInfo)(C:P.underlying t=some (.slice 5))(B:P.info? 5=some i)(M:i.zero=some (.int .u8 0))(f:i.size=1)(D:i.bytes=1)(v:J)(n:Nat)(xs:List J)(F:a.eval s=v)(d:w.ownsRow base 5 1 v n xs)(u:J)(l:Ud)(A:a.eval x=u)(N:Q7 w u l)(V:n<=1099511627776)(W:l.length<=1099511627776)(k:base<=w.heap.size)(h:∀ v' w',w'.ownsRow base 5 1 v' (n+l.length) (xs++l.map u8)->w.grownBy w' v.ownBlock->(v'=.slice none 0 0↔v=.slice none 0 0/\l.length=0)->wpList P p Q e (a.put o.dst v') w'):wpList P p Q (o :: e) a w:=by
 obtain⟨ad,c,rfl,R,hc⟩:=N;cases l with
 | nil=>
  refine VM r λK hK=>?_
  have hr:(Builtin.append_ #[t,t] o.type #[v,.slice ad 0 c]).run P w=.ok v w:=by
   rcases d.2 with⟨rfl,rfl⟩|⟨g,cap,cur,rfl,T,hg,H,U,S,L⟩
   .cases ad <;> simp[Builtin.append_,ZV C,sizeOf,typeInfo,B,Builtin.lenOf,Builtin.firstCells,loadCells,loadCellsFrom]
   cases ad <;> simp[Builtin.append_,ZV C,sizeOf,typeInfo,B,Builtin.lenOf,Builtin.firstCells,loadCells,loadCellsFrom,storeCells,H]
  unfold Oper.wp execOp;simp only[vL] at A;simp only[I,resolve,invoke,builtin,vx,vI,ZR,vD,zT,vS,F,A,hr];exact hK _ _ (h v w (by simpa using d) ⟨rfl,rfl,rfl,zg _,λ_ _ _=>rfl⟩ (by simp))
 | cons y l=>
  obtain⟨b,off,rfl,_⟩:=hc 0 (u8 y) (by simp);refine Vt _ r s x t I base 5 i _ 1 1 C B M f D (by simp[Value.cells]) (by decide) v n xs F d ⟨b,off,none⟩ (y :: l).length c ((y :: l).map u8) A (by simp) (λj q hq=>?_) (λq hq=>?_) (by unfold maxLen;omega) (by omega) k λv' w' h2 h3 h4=>h v' w' h2 h3 h4
  .obtain⟨b',off',E,m⟩:=hc j q hq
   cases E;rw[ZX];exact m
  obtain⟨z,_,rfl⟩:=zU.1 hq;rfl
theorem Qgo{l:Ud}(h:w.ownsRow base 5 1 v n (l.map u8)):Q3 w base v l:=by
 have hn:l.length=n:=by simpa using h.1
 subst hn;rcases h.2 with⟨rfl,h0⟩|⟨g,cap,cur,rfl,hb,hg,a,b,c,ht⟩
 .exact .inl ⟨rfl,zG h0⟩
 refine .inr ⟨g,0,cap,cur,(0,0),rfl,a,hb,hg,λj x hx=>?_,by omega,.inl rfl⟩
 have:(l.map u8)[j]?=some (u8 x):=by rw[zN,hx];rfl
 rw[<-ht,xK] at this
 split at this
 .rw[V4];simpa using this
 cases this
theorem Qil(v:J)(l:Ud)(w:G)(h:Q7 w v l)(q:l.length<=1099511627776):Calls prog 170 #[v] w λe w'=>∃ v',e=.returned v'/\Q3 w' w.heap.size v' l/\Bz w w':=by
 obtain⟨i0,hi,i,j,m⟩:=ZZ Qgn;obtain⟨a,c,rfl⟩:∃ a c,v=.slice a l.length c:=by obtain⟨a,c,h1,_,_⟩:=h;exact⟨a,c,h1⟩
 have HH:=zh h;clear h;cases a with
 | none=>
  have h0:l = []:=by
   obtain⟨a,c,h1,_,h2⟩:=HH.o;cases l with
   | nil=>rfl
   | cons x l=>
    obtain⟨b,off,h3,_⟩:=h2 0 (u8 x) (by simp);simp only[ZN] at h1;rw[h3] at h1;exact absurd h1.1 (by simp)
  subst h0;have hq:=λw=>vV (P:=prog) w 147 5 none 0 c 0 0 underlying147
  go_enter func170,ntmps170
  go_wp2;go_ret;exact⟨_,rfl,.inl ⟨rfl,rfl⟩,zu _ _⟩
 | some ad=>
  have hq:=λw=>vV (P:=prog) w 147 5 (some ad) l.length c 0 0 underlying147
  go_enter func170,ntmps170
  go_wp2_with (first|at_builtin;refine Qka rfl _ _ 147 rfl w.heap.size i0 underlying147 hi i j m _ 0 [] rfl ⟨rfl,.inr ⟨w.heap.size,0,#[],rfl,zg _,Zv _ _ _ rfl,zg _,by unfold maxLen;omega,rfl,rfl⟩⟩ _ l rfl (HH.o.j (Qa w _)) (by omega) q (by simp) ?_;intro v2 w2 d f g;obtain⟨n,p⟩:=zh2 d f;clear d f g)
  go_ret;refine⟨_,rfl,Qgo (by simpa using n.o),(Qa w _).grown p.o (by simp) (λk hk=>VN (zR hk))⟩
def Za0(ls:Uc)(w:G)(e:Ua)(w':G):Prop:=
 ∃ v',e=.returned v'/\Bz w w'/\((Yf ls=none/\v'=.slice none 0 0)∨∃ l,Yf ls=some l/\Q3 w' w.heap.size v' l/\∃ a n c,v'=.slice (some a) n c)
theorem Zbi{ls:Uc}{k:Nat}(h:∀ (j:Nat) (l:Ud),j<k->ls[j]?=some l->l.length<=20):((ls.take k).flatMap encE).length<=21*k:=by
 induction k with
 | zero=>simp
 | succ k ih=>
  have h1:=ih (λj l hj hl=>h j l (by omega) hl);rw[zY,vU,zn];cases hk:ls[k]? with
  | none=>
   have e:(List.flatMap encE (none:Y Ud).toList).length=0:=rfl;omega
  | some l=>
   have:=h k l (by omega) hk
   have e:(List.flatMap encE (some l).toList).length=l.length+1:=by simp[encE]
   omega
theorem Quw{e:TypeId}{b:Nat}{xs:List J}(h:w.ownsRow base e b v n xs)(d:v≠.slice none 0 0):∃ a n c,v=.slice (some a) n c:=by
 rcases h.2 with⟨rfl,_⟩|⟨g,cap,cur,rfl,_⟩
 .exact absurd rfl d
 exact⟨_,_,_,rfl⟩
theorem Qjv(v:J)(ls:Uc)(w:G)(h:Qdb w v ls)(X:ls.length<=1099511627776):Calls prog 158 #[v] w (Za0 ls w):=by
 obtain⟨vs,y,⟨a,c,rfl,W,hc⟩,g⟩:=h;obtain⟨i0,hi,z,A,B⟩:=ZZ Qgn;by_cases h0:ls.length=0
 .have hd:((ls.length:Int) == 0)=true:=by simp[h0]
  clear hc g
  go_enter func158,ntmps158
  go_wp2;go_ret;exact⟨_,rfl,zu _ _,.inl ⟨Qew (.inl h0),rfl⟩⟩
 have hd:((ls.length:Int) == 0)=false:=by rw[zl];omega
 by_cases h4:4<ls.length
 .have S:decide (4<(ls.length:Int))=true:=by simp;omega
  clear hc g
  go_enter func158,ntmps158
  go_wp2;go_ret;exact⟨_,rfl,zu _ _,.inl ⟨Qew (.inr h4),rfl⟩⟩
 have S:decide (4<(ls.length:Int))=false:=by simp;omega
 obtain⟨HC,HA,HL⟩:=zh3 hc g y;clear hc g y
 go_enter func158,ntmps158
 go_wp2
 go_loopw [3,16] (λv i wr=>∃ k:Nat,k<=ls.length/\i=.int .i64 k/\wr.ownsRow w.heap.size 5 1 v ((ls.take k).flatMap encE).length (((ls.take k).flatMap encE).map u8)/\(k=0∨v≠.slice none 0 0)/\(∀ (j:Nat) (l:Ud),j<k->ls[j]?=some l->l.length<=20)/\Bz w wr) (λ_ i _=>ls.length-(intOf i).toNat)
 case atStart=>exact⟨0,by omega,rfl,zv _ _ _ _,.inl rfl,by omega,zu _ _⟩
 case round=>
  obtain⟨k,hk,rfl,x,F,q,f⟩:=hrel;have V:=Zbi q;obtain⟨HR,HN,HS,HB⟩:=zh4 x F q f;clear F q x;by_cases hlt:k<ls.length
  .obtain⟨l,hl⟩:∃ s,ls[k]?=some s:=⟨_,ze hlt⟩
   obtain⟨u,hu⟩:∃ s,vs[k]?=some s:=⟨_,ze (by rw[HL.o];exact hlt)⟩
   obtain⟨b,off,rfl,d⟩:=HC.o k u hu;have m:=HA.o k u l hu hl;have P:Bz w wr:=f;have U:wr.cell? ⟨b,off+k,none⟩=some u:=(f.cell (p:=⟨b,off+k,none⟩) (Qj d)).t d;have I:Q7 wr u l:=m.j f;obtain⟨a2,c2,rfl⟩:∃ a c,u=.slice a l.length c:=by obtain⟨a,c,h1,_,_⟩:=I;exact⟨a,c,h1⟩
   obtain⟨N,HK⟩:=zh2 m hl;clear hu d m P f I hl;by_cases hlong:20<l.length
   .go_wp2
    go_ret;exact⟨_,rfl,HB.o,.inl ⟨Qkd HK.o hlong,rfl⟩⟩
   go_wp2_with (first|at_builtin;refine Yo rfl _ _ 147 rfl w.heap.size 5 i0 (.int .u8 0) 1 underlying147 hi z A B rfl (by decide) _ _ _ rfl HR.o _ rfl rfl (by omega) HB.o.size ?_;intro v2 w2 H K r;obtain⟨L,n,R⟩:=zh3 H K r;clear H K r|at_builtin;go_loud (refine Qka rfl _ _ 147 rfl w.heap.size i0 underlying147 hi z A B _ _ _ rfl L.o _ l rfl (N.o.j (HB.o.grown n.o HB.o.size (λj hj=>(HR.o.lt j hj).1))) (by omega) (by omega) (zi HB.o.size n.o.size) ?_);intro v3 w3 E C t;obtain⟨M,Q,T⟩:=zh3 E C t;clear E C t)
   have D:Bz w w2:=HB.o.grown n.o HB.o.size (λj hj=>(HR.o.lt j hj).1);go_roundw
   case rel=>
    refine⟨k+1,by omega,by go_num,?_,.inr ?_,λj l' hj hl'=>?_,D.grown Q.o D.size (λj hj=>(L.o.lt j hj).1)⟩
    .have e:(ls.take (k+1)).flatMap encE=(ls.take k).flatMap encE++encE l:=by rw[zY,HK.o,vU];simp
     have e2:((ls.take k).flatMap encE++encE l).map u8=((ls.take k).flatMap encE).map u8 ++ [Value.int .u8 (l.length:Int)]++l.map u8:=by rw[Qll _ (by omega)];simp[encE]
     rw[e,e2,show ((ls.take k).flatMap encE++encE l).length=((ls.take k).flatMap encE).length+1+l.length from by simp[encE];omega];exact M.o
    .intro h
     exact R.o (T.o.1 h).1
    by_cases hjk:j=k
    .subst hjk
     rw[HK.o] at hl';cases hl';omega
    exact HS.o j l' (by omega) hl'
   case measure=>simp[intOf];omega
  have ht:ls.take k=ls:=zk (by omega);have hb:=Qb9 (ls:=ls) h0 (by omega) (λj l hj=>HS.o j l (by have:=(zj.1 hj).1;omega) hj);have HH:=HR.o;rw[ht] at HH;go_wp2;go_ret;exact⟨_,rfl,HB.o,.inr ⟨_,hb,Qgo HH,Quw HH (HN.o.resolve_left (by omega))⟩⟩
end Go.Proofs.YtefccfakhgdfbaaGreatDoor
