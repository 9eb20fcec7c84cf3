/- Lemmas of the proof of All; their conditions stand in them. -/
import Derived.Test.YtefccfakhgdfbaaGreatDoorAl03
import Derived.Handy
set_option linter.unusedVariables false
set_option linter.unusedSimpArgs false
open Go.RowKit Go.Proofs.Tryz
set_option maxRecDepth 100000
set_option maxHeartbeats 4000000
namespace Go.Proofs.YtefccfakhgdfbaaGreatDoor
section
theorem Q7y(n:Nat)(h:Hsh)(key:O)(w:G)(c:n<9223372036854775808)(b:key.size<=1048600)(a:Z5 w):Calls prog 115 #[trV n h,.string key] w λe w'=>e=.returned (.string (sOf (Jt n h key.data.toList)))/\Bz w w':=by
 have HE:=zh (a.j (Qa w (.cells (trC n h) 145)));have T0:Qcl (w.alloc (.cells (trC n h) 145)) w.heap.size n h:=zy w _;obtain⟨k0,k1,k2,k3,k4,k5,k6,k7,k8⟩:=T0.cells;clear a T0
 go_enter func115,ntmps115
 go_wp2_with fail
 refine (Qo4 n h key _ c (zi b (by decide)) HE.o).m ?_;rintro e w1⟨rfl,hb⟩;go_wp2;go_ret;exact⟨rfl,(Qa w (.cells (trC n h) 145)).t (hb.m (Qa w (.cells (trC n h) 145)).size)⟩
theorem Q5p(n:Nat)(a key:O)(w:G)(j:n<9223372036854775808)(k:a.size<=9223372036854775807)(i:key.size<=1048600)(f:Z5 w):Calls prog 60 #[.int .i64 n,.string a,.string key] w λe w'=>e=.returned (.string (sOf (Jt n (Zi a.data.toList) key.data.toList)))/\Bz w w':=by
 obtain⟨h,hh⟩:=zzx (Zi a.data.toList)
 rw[<-hh];obtain⟨HH,HE⟩:=zh2 hh f;clear hh f
 go_enter func60,ntmps60
 go_wp2_with fail
 refine (Qiv a _ k).m ?_;rintro e w1⟨rfl,b⟩;rw[<-HH.o,Qg5];obtain⟨d,c⟩:=zh2 (HE.o.j b) b;clear b
 go_wp2_with fail
 refine (Q7y n h key _ j i d.o).m ?_;rintro e w2⟨rfl,g⟩;go_wp2;go_ret;exact⟨rfl,c.o.t (g.m c.o.size)⟩
theorem Q21(s key:O)(w:G)(l:s.size<=1048576)(k:key.size<=1048600)(j:Z5 w):Calls prog 117 #[.string s,.string key] w (Qi6 (Zy s.data.toList key.data.toList) w):=by
 obtain⟨q,hq⟩:=zzx (Zy s.data.toList key.data.toList)
 rw[<-hq];have b0:=Qa w (.cells (trC 0 Zb) 145);have T0:Qcl (w.alloc (.cells (trC 0 Zb) 145)) w.heap.size 0 Zb:=zy w _;obtain⟨HQ,g,c,i⟩:=zh4 hq (j.j b0) b0 T0;clear hq j b0 T0
 go_enter func117,ntmps117
 go_wp2_with fail
 refine (Qmf s key _ l (zi k (by decide)) g.o).m ?_;rintro e w1⟨rfl,a⟩;rw[<-HQ.o];obtain⟨n,h,b⟩:=q;obtain⟨d,f⟩:=zh2 (i.o.j a) (c.o.t (a.m c.o.size));clear a
 go_wp2_with (refine Z8 rfl _ _ rfl _ n h rfl rfl _ _ d.o ?_)
 exact retT w.heap.size n h (.bool b) rfl rfl rfl (d.o.set _ _) rfl ⟨rfl,zC f.o (zg _) _⟩
theorem Q8p{w:G}{g:Nat}{n:Int}{h:Hsh}(a:Qcl w g n h):Q7 w (.slice (some ⟨g,1,none⟩) 8 8) h.toList:=by
 unfold Q7;refine⟨_,8,by simp,by simp,λj x hx=>⟨g,1,rfl,?_⟩⟩;have hj:j<8:=by have:=(zj.1 hx).1;simpa using this
 have h1:=Qww n h j hj;rw[show (h.toList.map u8)[j]?=some (u8 h[j]) by simp[hj]] at hx;cases hx;unfold Qcl at a;simp only[World.cell?,a];exact h1
theorem Qq8(s key:O)(w:G)(j:s.size<=1048576)(i:key.size<=1048600)(f:Z5 w):Calls prog 62 #[.string s,.string key] w λe w'=>e=.returned (.tuple #[.int .i64 (Zy s.data.toList key.data.toList).1,.string (HS (Zy s.data.toList key.data.toList).2.1),.bool (Zy s.data.toList key.data.toList).2.2])/\Bz w w':=by
 obtain⟨q,hq⟩:=zzx (Zy s.data.toList key.data.toList)
 rw[<-hq];obtain⟨HQ,HE⟩:=zh2 hq f;clear hq f
 go_enter func62,ntmps62
 go_wp2_with fail
 refine (Q21 s key _ j i HE.o).m ?_;rintro e w1⟨rfl,a⟩;rw[<-HQ.o];obtain⟨n,h,b⟩:=q;have T1:Qcl (w1.alloc (.cells (trC 0 Zb) 145)) w1.heap.size 0 Zb:=zy w1 _;have T2:=T1.set n h;have B2:=zC (a.alloc a.size (.cells (trC 0 Zb) 145)) (g:=w1.heap.size) a.size (trC n h);have d:=zh T1;obtain⟨W,hW⟩:=zzx ((w1.alloc (.cells (trC 0 Zb) 145)).setRow w1.heap.size (trC n h))
 rw[<-hW] at T2 B2;have HW:=zh hW;have k:=Qdq (Q8p (T2.j (Ql _)));obtain⟨k0,_,_,_,_,_,_,_,_⟩:=(T2.j (Ql _)).cells;have l:=Qb T2;have c:=zh B2;clear T1 T2 B2 hW a
 go_wp2_with (refine Z8 rfl _ _ rfl _ n h rfl rfl _ _ d.o ?_)
 rw[show (w1.alloc (.cells #[.int .i64 0,.int .u8 0,.int .u8 0,.int .u8 0,.int .u8 0,.int .u8 0,.int .u8 0,.int .u8 0,.int .u8 0] 145)).setRow w1.heap.size (trC n h)=W from HW.o.symm];go_region;go_wp2
 go_ret3
 exact⟨rfl,c.o.drew⟩
theorem Q2z{l key:Ud}(h:(Zy l key).2.2=false):Zy l key=J2:=(Qbl l key).2 h
theorem Q1m(s key:O)(q:Qox)(c:q=Zy s.data.toList key.data.toList)(w:G)(f:s.size<=1048576)(d:key.size<=1048600):Calls prog 63 #[.string s,.string key] w λe w'=>∃ b:O,e=.returned (.tuple #[.int .i64 q.1,.string b,.bool q.2.2])/\Zi b.data.toList=q.2.1/\b.size<=8/\Bz w w':=by
 have a:q.2.2=false->q=J2:=by rw[c];exact Q2z
 have h:=Qmo s key w f d;rw[<-Qrs,<-c] at h;refine h.m ?_;rintro e w'⟨rfl,hb⟩;refine⟨_,rfl,?_,?_,hb⟩
 .cases hb2:q.2.2 with
  | true=>rw[zD rfl];exact Qfh _
  | false=>rw[zw (by simp),a hb2];rfl
 cases hb2:q.2.2 with
 | true=>rw[zD rfl,Jj];exact zg _
 | false=>rw[zw (by simp)];decide
theorem Q9y(n:Int)(a : -9223372036854775808<=n)(b:n<=9223372036854775807):∃ m:Nat,m<9223372036854775808/\(if n<0 then -(n+1) else n)=m:=by
 split
 .exact⟨(-(n+1)).toNat,by omega,by omega⟩
 exact⟨n.toNat,by omega,by omega⟩
theorem Q25(n:Int)(a key text:O)(w:G)(S : -9223372036854775808<=n)(T:n<=9223372036854775807)(R:a.size<=9223372036854775807)(l:Z5 w):Calls prog 17 #[.int .i64 n,.string a,.string key,.string text] w λe w'=>e=.returned (.bool true)/\Bz w w':=by
 by_cases hbig:1048576<key.size∨1048576<text.size
 .by_cases hk:1048576<key.size
  .have d1:decide ((1048576:Int)<(key.size:Int))=true:=zF (by omega)
   clear l hbig
   go_enter func17,ntmps17
   go_wp2;go_ret;exact⟨rfl,zu _ _⟩
  have d1:decide ((1048576:Int)<(key.size:Int))=false:=zo (by omega);have d2:decide ((1048576:Int)<(text.size:Int))=true:=zF (by omega);clear l hbig
  go_enter func17,ntmps17
  go_wp2;go_ret;exact⟨rfl,zu _ _⟩
 have d1:decide ((1048576:Int)<(key.size:Int))=false:=zo (by omega);have d2:decide ((1048576:Int)<(text.size:Int))=false:=zo (by omega);have hk:key.size<=1048600:=by omega
 have ht:text.size<=1048576:=by omega
 obtain⟨m,hm,E⟩:=Q9y n S T;obtain⟨HE,b⟩:=zh2 l E;clear l hbig E
 go_enter func17,ntmps17
 go_upto_if 30 with fail
 go_cut [0] from 21 (λv0 wx=>v0=.int .i64 m/\wx=w)
 case first=>
  by_cases hn:n<0
  .have hd:decide (n<0)=true:=zF hn
   have e1:=b.o;rw[zD hn] at e1;have E1:=zh e1;clear e1
   go_wp2
   go_meet;refine⟨?_,rfl⟩;rw[<-E1.o]
  have hd:decide (n<0)=false:=zo hn;have e1:=b.o;rw[zw hn] at e1;have E1:=zh e1;clear e1
  go_wp2
  go_meet;refine⟨?_,rfl⟩;rw[<-E1.o]
 case rest=>
  obtain⟨rfl,rfl⟩:=hcut;obtain⟨r,F⟩:=zzx (Zi a.data.toList)
  obtain⟨st,k⟩:=zzx (Jt m r key.data.toList)
  obtain⟨q,hq⟩:=zzx (Zy text.data.toList key.data.toList)
  obtain⟨HR,c,HQ⟩:=zh3 F k hq;have U:st.length<=200:=by rw[k];exact (Qmd m r key.data.toList hm).2
  clear b F k hq d1 d2
  go_wp2_with fail
  refine (Qet a _ R).m ?_;rintro e w1⟨rfl,d⟩;rw[<-HR.o];obtain⟨p,z⟩:=zh2 d (HE.o.j d);clear d
  go_wp2_with fail
  refine (Q5p m a key _ hm R hk z.o).m ?_;rintro e w2⟨rfl,f⟩;rw[<-HR.o,<-c.o];obtain⟨t,L⟩:=zh2 (p.o.t (f.m p.o.size)) (z.o.j f);clear f
  go_wp2_with fail
  refine (Qoh m r key _ hm hk).m ?_;rintro e w3⟨rfl,g⟩;rw[<-c.o];obtain⟨u,A⟩:=zh2 (t.o.t (g.m t.o.size)) (L.o.j g);clear g
  go_wp2_with fail
  refine (Qq8 text key _ ht hk A.o).m ?_;rintro e w4⟨rfl,h⟩;rw[<-HQ.o];obtain⟨v,M⟩:=zh2 (u.o.t (h.m u.o.size)) (A.o.j h);clear h
  go_wp2_with fail
  refine (Q1m text key q HQ.o _ ht hk).m ?_;rintro e w5⟨bs',rfl,C,H,i⟩;obtain⟨x,N⟩:=zh2 (v.o.t (i.m v.o.size)) (M.o.j i);have Q:bs'.size<=9223372036854775807:=by omega
  have K:=zh C;clear i C H;obtain⟨qn,qh,qb⟩:=q
  go_wp2_with fail
  refine (Qet bs' _ Q).m ?_;rintro e w6⟨rfl,j⟩;rw[K.o];obtain⟨y,P⟩:=zh2 (x.o.t (j.m x.o.size)) (N.o.j j);clear j
  go_wp2_with fail
  refine (Qq8 (sOf st) key _ (by rw[Y1];omega) hk P.o).m ?_;rintro e w7⟨rfl,B⟩;have D:Zy (sOf st).data.toList key.data.toList=((m:Int),r,true):=by show Zy st key.data.toList=_;rw[c.o];exact Qci m r key.data.toList hm
  rw[D];have I:=zh (y.o.t (B.m y.o.size));clear B D;have n1:(qb == qb)=true:=by simp
  have n2:((HS qh).toList == (HS qh).toList)=true:=by simp
  have n3:((HS r).toList == (HS r).toList)=true:=by simp
  go_wp2;go_ret;exact⟨rfl,I.o⟩
structure Dk where
 files:List (O×O)
 calls:Nat
 failAt:Int
 dead:Bool
 once:Bool
 half:Bool
 hit:Bool
 turned:Bool
def Qah(f:O×O):List J:=[.string f.1,.string f.2]
def Zs(l:List (O×O)):List J:=l.flatMap Qah
def Qac(v:J)(d:Dk):Array J:=#[v,.int .i64 d.calls,.int .i64 d.failAt,.bool d.dead,.bool d.once,.bool d.half,.bool d.hit,.bool d.turned]
def Q5(w:G)(g:Nat)(v:J)(d:Dk):Prop:=
 w.heap[g]?=some (.cells (Qac v d) 116 (0,0))/\w.ownsRow 0 132 2 v d.files.length (Zs d.files)
def dkS(g:Nat)(v:J)(k:Nat):Prop:=k=g∨v.ownBlock=some k
theorem Jq(l:List (O×O)):(Zs l).length=l.length*2:=by
 induction l with
 | nil=>rfl
 | cons a l ih=>simp only[Zs,vZ,zn,zx] at ih ⊢;rw[ih];simp[Qah];omega
theorem Qa1:∀ (l:List (O×O)) (j:Nat) (f:O×O),l[j]?=some f->(Zs l)[j*2]?=some (.string f.1)/\(Zs l)[j*2+1]?=some (.string f.2)
 | [],j,f,h=>by simp at h
 | a :: l,0,f,h=>by simp at h;subst h;exact⟨rfl,rfl⟩
 | a :: l,j+1,f,h=>by
   have:=Qa1 l j f (by simpa using h)
   have e:(Zs (a :: l))=.string a.1 :: .string a.2 :: Zs l:=rfl
   rw[e,show (j+1)*2=j*2+1+1 by omega]
   simpa using this
variable {w:G} {g:Nat} {v:J} {d:Dk}
theorem Q5.parts(h:Q5 w g v d):v.ownBlock≠some g:=by
 intro e;rcases h.2.2 with⟨rfl,_⟩|⟨b,cap,cur,rfl,_,hb,_⟩
 .simp[Value.ownBlock] at e
 simp[Value.ownBlock] at e;subst e
 have:=h.1
 rw[hb] at this;simp at this
theorem Q5.lt(h:Q5 w g v d):g<w.heap.size:=Qb h.1
variable {w':G}
theorem Q5.j(h:Q5 w g v d)(a:Bz w w'):Q5 w' g v d:=
 ⟨(a.block g h.lt).t h.1,Qn h.2 a⟩
variable {S:Nat->Prop}
theorem Q5.fr(h:Q5 w g v d)(e:Fr S w w')(a:∀ k,dkS g v k->¬ S k):Q5 w' g v d:=by
 refine⟨e.heap h.1 (a g (.inl rfl)),h.2.1,?_⟩;rcases h.2.2 with hn|⟨b,cap,cur,rfl,c,hb,hr⟩
 .exact .inl hn
 exact .inr ⟨b,cap,cur,rfl,c,e.heap hb (a b (.inr rfl)),hr⟩
theorem Q5.cells(h:Q5 w g v d):(w.cell? ⟨g,0,none⟩=some v/\w.cell? ⟨g,1,none⟩=some (.int .i64 d.calls)/\w.cell? ⟨g,2,none⟩=some (.int .i64 d.failAt)/\w.cell? ⟨g,3,none⟩=some (.bool d.dead)/\w.cell? ⟨g,4,none⟩=some (.bool d.once)/\
   w.cell? ⟨g,5,none⟩=some (.bool d.half)/\w.cell? ⟨g,6,none⟩=some (.bool d.hit)/\w.cell? ⟨g,7,none⟩=some (.bool d.turned))/\∀ i,w.frozen? ⟨g,i,none⟩=false:=
 ⟨⟨Qd h.1 0 rfl,Qd h.1 1 rfl,Qd h.1 2 rfl,Qd h.1 3 rfl,Qd h.1 4 rfl,Qd h.1 5 rfl,Qd h.1 6 rfl,Qd h.1 7 rfl⟩,λi=>Qu h.1 i⟩
def Ji(d:Dk):Bool:=!d.dead && (decide (0<d.failAt) && decide ((d.calls:Int)+1=d.failAt))
def Zu(d:Dk):Dk:=if Ji d=true then { d with calls:=d.calls+1,dead:=!d.once,hit:=true } else { d with calls:=d.calls+1 }
def Z7(d:Dk):Nat:=if d.dead=true then 2 else if Ji d=true then (if d.half=true then 1 else 2) else 0
theorem Zf{base:Nat}{e:TypeId}{a:Nat}{n:Nat}{xs:List J}(h:w.ownsRow base e a v n xs)(f:Fr S w w')(d:∀ k,v.ownBlock=some k->¬ S k):w'.ownsRow base e a v n xs:=by
 refine⟨h.1,?_⟩;rcases h.2 with hn|⟨b,cap,cur,rfl,c,hb,hr⟩
 .exact .inl hn
 exact .inr ⟨b,cap,cur,rfl,c,f.heap hb (d b rfl),hr⟩
theorem Q5.set{d':Dk}(h:Q5 w g v d)(c:Fr (·=g) w w')(b:w'.heap[g]?=some (.cells (Qac v d') 116 (0,0)))(a:d'.files=d.files):Q5 w' g v d':=by refine⟨b,?_⟩;rw[a];exact Zf h.2 c λk hk e=>h.parts (by rw[hk,e])
theorem Qwy(h:d.dead=true):Z7 d=2:=by simp[Z7,h]
theorem Qpw(w:G)(g:Nat)(v:J)(d:Dk)(h:Q5 w g v d)(j:d.calls<1099511627776):Calls prog 302 #[.pointer (some ⟨g,0,none⟩)] w λe w'=>e=.returned (.int .i64 (Z7 d))/\Q5 w' g v (Zu d)/\Fr (·=g) w w':=by
 obtain⟨⟨c0,c1,c2,c3,c4,c5,c6,c7⟩,f0⟩:=h.cells;have HH:=zh h;have hw:wrap64 ((d.calls:Int)+1)=(d.calls:Int)+1:=by unfold wrap64;omega
 clear h;have F1:=Fr.setCell1 w ⟨g,1,none⟩ (.int .i64 ((d.calls:Int)+1));have H1:=heap_setCell (i:=1) HH.o.1 (.int .i64 ((d.calls:Int)+1));obtain⟨HF,c⟩:=zh2 F1 H1;clear F1 H1;cases hdead:d.dead with
 | true=>
  rw[hdead] at c3;have HD:=zh hdead;clear hdead
  go_enter func302,ntmps302
  go_wp2;go_ret;exact⟨Qcc (by rw[Qwy HD.o];rfl),HH.o.set HF.o (c.o.t (by simp[Qac,Zu,Ji,HD.o])) (by simp[Zu,Ji,HD.o]),HF.o⟩
 | false=>
  rw[hdead] at c3;have HD:=zh hdead;clear hdead;cases hgt:decide (0<d.failAt) with
  | true=>
   cases heq:((d.calls:Int)+1 == d.failAt) with
   | false=>
    have hb:Ji d=false:=by simp[Ji,HD.o];intro _;simpa using heq
    have a:=zh (show Z7 d=0/\Q5 (w.setCell ⟨g,1,none⟩ (.int .i64 ((d.calls:Int)+1))) g v (Zu d) from
     ⟨by simp[Z7,HD.o,hb],HH.o.set HF.o (c.o.t (by simp[Qac,Zu,hb])) (by simp[Zu,hb])⟩)
    clear hb
    go_enter func302,ntmps302
    go_wp2
    go_quiet (fail)
    go_wp2;go_ret;exact⟨Qcc (by rw[a.o.1];rfl),a.o.2,HF.o.drewN _⟩
   | true=>
    have hb:Ji d=true:=by
     have h1:=vv hgt;have h2:(d.calls:Int)+1=d.failAt:=by simpa using heq
     simp[Ji,HD.o,h1,h2]
    have F2:=((Fr.setCell1 w ⟨g,1,none⟩ (.int .i64 ((d.calls:Int)+1))).setCell (p:=⟨g,3,none⟩) (λ_=>rfl) (.bool (!d.once))).setCell (p:=⟨g,6,none⟩) (λ_=>rfl) (.bool true);have H2:=heap_setCell (i:=6) (heap_setCell (i:=3) c.o (.bool (!d.once))) (.bool true);obtain⟨b,f⟩:=zh2 F2 H2;clear F2 H2;cases hhalf:d.half with
    | false=>
     rw[hhalf] at c5;have a:=zh (show Z7 d=2/\Q5 (((w.setCell ⟨g,1,none⟩ (.int .i64 ((d.calls:Int)+1))).setCell ⟨g,3,none⟩ (.bool (!d.once))).setCell ⟨g,6,none⟩ (.bool true)) g v (Zu d) from
      ⟨by simp[Z7,HD.o,hb,hhalf],HH.o.set b.o (f.o.t (by simp[Qac,Zu,hb])) (by simp[Zu,hb])⟩)
     clear hb hhalf
     go_enter func302,ntmps302
     go_wp2
     go_quiet (fail)
     go_wp2;go_ret;exact⟨Qcc (by rw[a.o.1];rfl),a.o.2,b.o.drewN _⟩
    | true=>
     rw[hhalf] at c5;have a:=zh (show Z7 d=1/\Q5 (((w.setCell ⟨g,1,none⟩ (.int .i64 ((d.calls:Int)+1))).setCell ⟨g,3,none⟩ (.bool (!d.once))).setCell ⟨g,6,none⟩ (.bool true)) g v (Zu d) from
      ⟨by simp[Z7,HD.o,hb,hhalf],HH.o.set b.o (f.o.t (by simp[Qac,Zu,hb])) (by simp[Zu,hb])⟩)
     clear hb hhalf
     go_enter func302,ntmps302
     go_wp2
     go_quiet (fail)
     go_wp2;go_ret;exact⟨Qcc (by rw[a.o.1];rfl),a.o.2,b.o.drewN _⟩
  | false=>
   have hb:Ji d=false:=by simp[Ji,hgt]
   have a:=zh (show Z7 d=0/\Q5 (w.setCell ⟨g,1,none⟩ (.int .i64 ((d.calls:Int)+1))) g v (Zu d) from
    ⟨by simp[Z7,HD.o,hb],HH.o.set HF.o (c.o.t (by simp[Qac,Zu,hb])) (by simp[Zu,hb])⟩)
   clear hb
   go_enter func302,ntmps302
   go_wp2
   go_quiet (fail)
   go_wp2;go_ret;exact⟨Qcc (by rw[a.o.1];rfl),a.o.2,HF.o.drewN _⟩
def Yk(l:List (O×O))(p:O):Nat:=l.findIdx λf=>decide (f.1=p)
def J1(l:List (O×O))(p:O):Int:=if Yk l p<l.length then Yk l p else -1
variable {l:List (O×O)} {p:O}
theorem Qvu{k:Nat}{f:O×O}(c:l[k]?=some f)(b:f.1=p)(h:∀ j,j<k->∀ y,l[j]?=some y->¬ y.1=p):J1 l p=k:=by
 obtain⟨a,rfl⟩:=zj.1 c;have e:Yk l p=k:=by
  unfold Yk;rw[List.findIdx_eq a];exact⟨by simpa using b,λj hj=>by
   have:=h j hj _ (ze (by omega))
   simpa using this⟩
 simp[J1,e,a]
theorem Qre(h:∀ j,j<l.length->∀ y,l[j]?=some y->¬ y.1=p):J1 l p = -1:=by
 have e:Yk l p=l.length:=by unfold Yk;rw[List.findIdx_eq_length];intro x hx;obtain⟨j,hj,rfl⟩:=zar.1 hx;simpa using h j hj _ (ze hj)
 simp[J1,e]
theorem Q7o(a b:O):(a.toList == b.toList)=decide (a=b):=by
 by_cases h:a=b
 .rw[Yy h];simp[h]
 rw[Qaa h];simp[h]
theorem Qx6(w:G)(a:Nat)(p:O)(b:w.cell? ⟨a,0,none⟩=some (.string p))(f:O×O):Calls prog 165 #[.agg #[.string f.1,.string f.2],.pointer (some ⟨a,0,none⟩)] w λe w'=>e=.returned (.bool (decide (f.1=p)))/\Bz w w':=by
 have hb:a<w.heap.size:=Qj b;obtain⟨f1,f2⟩:=f;have e:=Q7o f1 p
 go_enter func165,ntmps165
 go_wp2;go_ret;exact⟨rfl,Qa w _⟩
theorem Qtn(w:G)(v:J)(l:List (O×O))(g:Nat)(p:O)(m:w.ownsRow 0 132 2 v l.length (Zs l))(n:w.cell? ⟨g,0,none⟩=some (.string p)):Calls prog 164 #[v,.func (.func 165) #[] #[.pointer (some ⟨g,0,none⟩)]] w λe w'=>e=.returned (.int .i64 (J1 l p))/\Bz w w':=by
 have eg:∀ args w,(callFunc 165 args).run prog w=.ok (.enter 165 args) w:=zaj func165 (by kernel_rfl) rfl;obtain⟨a,c,rfl,hc⟩:∃ a c,v=.slice a l.length c/\∀ j x,l[j]?=some x->∃ b,a=some ⟨b,0,none⟩/\w.cell? ⟨b,j*2,none⟩=some (.string x.1)/\w.cell? ⟨b,j*2+1,none⟩=some (.string x.2)/\b<w.heap.size:=by
  rcases m.2 with⟨rfl,h0⟩|⟨b,cap,cur,rfl,_,hb,_,_,_,ht⟩
  .exact⟨none,0,by rw[h0],λj x hj=>by have:=(zj.1 hj).1;omega⟩
  refine⟨some ⟨b,0,none⟩,cap,rfl,λj x hj=>⟨b,rfl,?_,?_,Qb hb⟩⟩
  .have h1:=(Qa1 l j x hj).1
   rw[<-ht] at h1;rw[Vw w b _ cur _ _ hb];have h2:=zH (l:=cur.toList) (i:=j*2) (j:=l.length*2) (by have:=(zj.1 hj).1;omega);rw[h2] at h1;simpa using h1
  have h1:=(Qa1 l j x hj).2;rw[<-ht] at h1;rw[Vw w b _ cur _ _ hb];have h2:=zH (l:=cur.toList) (i:=j*2+1) (j:=l.length*2) (by have:=(zj.1 hj).1;omega);rw[h2] at h1;simpa using h1
 have q:l.length<=9223372036854775807:=by
  rcases m.2 with⟨_,h0⟩|⟨_,_,_,_,_,_,h1,h2,_⟩
  .omega
  unfold maxLen at h2;omega
 obtain⟨HC,HP⟩:=zh2 hc n;clear hc m n
 go_enter func164,ntmps164
 go_wp2
 go_loopg [5,8] l.length (λgg _ s8 wr=>∃ kk:Nat,kk<=l.length/\l.length-kk<=gg/\s8=.int .i64 kk/\Aside (Bz w wr)/\Aside (∀ j,j<kk->∀ y,l[j]?=some y->¬ y.1=p))
 case atStart=>exact⟨0,zE _,by omega,rfl,zu _ w,λj hj=>absurd hj (Nat.not_lt_zero _)⟩
 case round=>
  obtain⟨kk,r,hg,rfl,BW,A⟩:=hrel;by_cases hlt:kk<l.length
  .obtain⟨b,rfl,c1,c2,hb⟩:=HC.o kk _ (ze hlt)
   obtain⟨x,hx⟩:=zzx (l[kk])
   rw[<-hx] at c1 c2;have h:l[kk]?=some x:=by rw[hx,ze hlt]
   have d1:wr.cell? ⟨b,kk*2,none⟩=some (.string x.1):=(BW.o.cell (p:=⟨b,kk*2,none⟩) hb).t c1;have d2:wr.cell? ⟨b,kk*2+1,none⟩=some (.string x.2):=(BW.o.cell (p:=⟨b,kk*2+1,none⟩) hb).t c2;have k:(kk:Int)<(l.length:Int):=by omega
   have d:=Qx6 wr g p ((BW.o.cell (p:=⟨g,0,none⟩) (Qj HP.o)).t HP.o) x;have HX:=zh h;clear hx h c1 c2;cases hq:decide (x.1=p) with
   | true=>
    rw[hq] at d;have HQ:=zh hq;clear hq
    go_wp2_with (go_at_fn 165;refine d.m ?_;rintro e w'⟨rfl,f⟩)
    go_ret;exact⟨Qcc (by rw[Qvu HX.o (vv HQ.o) A.o];rfl),BW.o.t (f.m BW.o.size)⟩
   | false=>
    rw[hq] at d;have HQ:=zh hq;clear hq
    go_wp2_with (go_at_fn 165;refine d.m ?_;rintro e w'⟨rfl,f⟩)
    go_roundg (l.length-(kk+1))
    case measure=>omega
    case rel=>
     refine⟨kk+1,by omega,by omega,by go_num,BW.o.t (f.m BW.o.size),(show Aside _ from λj hj y hy=>?_)⟩;by_cases e:j=kk
     .subst e
      rw[HX.o] at hy;cases hy;exact XA HQ.o
     exact A.o j (by omega) y hy
  have k:¬ (kk:Int)<(l.length:Int):=by omega
  have:kk=l.length:=by omega
  go_wp2;go_ret;exact⟨Qcc (by rw[Qre (λj hj=>A.o j (by omega))];rfl),BW.o⟩
theorem Qkt(w:G)(g:Nat)(v:J)(d:Dk)(h:Q5 w g v d)(p:O):Calls prog 122 #[.pointer (some ⟨g,0,none⟩),.string p] w λe w'=>e=.returned (.int .i64 (J1 d.files p))/\Bz w w':=by
 obtain⟨⟨c0,_⟩,_⟩:=h.cells;have hg:=h.lt;have a:=Qtn (w.alloc (.cells #[.string p] 9)) v d.files w.heap.size p ((h.j (Qa w _)).2) (by simp);clear h
 go_enter func122,ntmps122
 go_wp2_with (go_at_call 164;refine a.m ?_;rintro e w'⟨rfl,b⟩)
 go_ret;exact⟨rfl,(Qa w _).t (b.m (by simp))⟩
def Qba(w:G)(v v':J):Prop:=∀ k,v'.ownBlock=some k->v.ownBlock=some k∨w.heap.size<=k
theorem Qba.refl(w:G)(v:J):Qba w v v:=λ_ h=>.inl h
theorem Qba.t{w':G}{a b c:J}(h:Qba w a b)(k:Qba w' b c)(d:w.heap.size<=w'.heap.size):Qba w a c:=λi hi=>by
 rcases k i hi with h1|h1
 .exact h i h1
 exact .inr (zi d h1)
variable {base size n:Nat} {e:TypeId} {xs:List J}
theorem Qbz(h:w.ownsRow base e size v n xs)(a:v≠.slice none 0 0):∃ g cap,v=.slice (some ⟨g,0,none⟩) n cap/\g<w.heap.size:=by
 rcases h.2 with⟨rfl,_⟩|⟨g,cap,cur,rfl,_,hg,_⟩
 .exact absurd rfl a
 exact⟨g,cap,rfl,Qb hg⟩
theorem Zo(h:w.ownsRow base e size v n xs):∃ a cap,v=.slice a n cap:=by
 rcases h.2 with⟨rfl,rfl⟩|⟨g,cap,cur,rfl,_,hg,_⟩
 .exact⟨_,_,rfl⟩
 exact⟨_,_,rfl⟩
variable {P:Program}
theorem Qnn(w:G)(base:Nat)(t s e:TypeId)(i:TypeInfo)(z:J)(l o:Nat)(B:P.underlying t=some (.slice e))(y:P.info? e=some i)(H:i.zero=some z)(r:i.size=l)(D:i.bytes=o)(v:J)(n:Nat)(xs:List J)(h:w.ownsRow base e l v n xs)(a:Addr)(m c:Nat)(b:List J)(p:b.length=m*l)(f:∀ j u,b[j]?=some u->w.cell? (a.add j)=some u)(L:∀ u∈b,u.oneCell'=true)(R:0<m)(C:n+m<=maxLen)(hbytes:(n+m)*o<=140737488355328)(I:J)(w':G)(A:(Builtin.append_ #[t,t] s #[v,.slice (some a) m c]).run P w=.ok I w'):Qba w v I:=by
 subst r;subst D;have F:n+m<=9223372036854775807:=by simp only[maxLen] at C;omega
 rcases h.2 with⟨rfl,rfl⟩|⟨g,cap,cur,rfl,M,hg,Q,N,E,K⟩
 .have d:=run_append_nil (P:=P) w t s e i z B y H a m c b p f (by omega) (by omega) (by have hb:=hbytes;simp only[V4] at hb;omega)
  rw[A] at d;cases d;intro k hk;simp[Value.ownBlock] at hk;exact .inr (by omega)
 by_cases hroom:n+m<=cap
 .have x:n*i.size+b.length<=cur.size:=by rw[p,E,<-vC];exact ZA _ hroom
  have d:=run_append_room (P:=P) w t s e i B y g n cap cur hg a m c b p f L hroom x;rw[A] at d;cases d;intro k hk;exact .inl hk
 have q:∀ j u,xs[j]?=some u->w.cell? ((⟨g,0,none⟩:Addr).add j)=some u:=h.cells (g:=g) rfl;have d:=run_append_grow (P:=P) w t s e i z B y H ⟨g,0,none⟩ n cap xs h.1 q a m c b p f (by omega) (by omega) (growslice_fits (by omega) hbytes);rw[A] at d;cases d;intro k hk;simp[Value.ownBlock] at hk;exact .inr (by omega)
variable {ops:Array Oper} {o:Oper} {a:Act} {Q:Exit->Act->G->Prop}
theorem Qde{q:List Oper}(E:o.guard=none)(s x:Operand)(t:TypeId)(S:o.op=.call { callee:=.builtin .append,args:=#[s,x],argTypes:=#[t,t] })(base:Nat)(e:TypeId)(i:TypeInfo)(z:J)(b d:Nat)(L:P.underlying t=some (.slice e))(F:P.info? e=some i)(M:i.zero=some z)(k:i.size=b)(B:i.bytes=d)(N:z.cells.size=b)(I:0<b)(D:d<=64)(v:J)(n:Nat)(xs:List J)(T:a.eval s=v)(p:w.ownsRow base e b v n xs)(r:Addr)(m c:Nat)(f:List J)(U:a.eval x=.slice (some r) m c)(H:f.length=m*b)(g:∀ j u,f[j]?=some u->w.cell? (r.add j)=some u)(C:∀ u∈f,u.oneCell'=true)(R:0<m)(V:n+m<=1099511627776)(y:base<=w.heap.size)(h:∀ v' w',w'.ownsRow base e b v' (n+m) (xs++f)->w.grownBy w' v.ownBlock->Qba w v v'->v'≠.slice none 0 0->wpList P ops Q q (a.put o.dst v') w'):wpList P ops Q (o :: q) a w:=by
 have l:(n+m)*d<=140737488355328:=by refine zi (Vu _ D) ?_;omega
 have A:n+m<=maxLen:=by unfold maxLen;omega
 obtain⟨v',w',hr,h2,h3,h4⟩:=run_append_own (P:=P) w base t o.type e i z b d L F M k B N I v n xs p r m c f H g C A l y;have hk:=Qnn (P:=P) w base t o.type e i z b d L F M k B v n xs p r m c f H g C R A l v' w' hr;refine VM E λK hK=>?_
 unfold Oper.wp execOp;simp only[S,resolve,invoke,builtin,vx,vI,ZR,vD,zT,vS,T,U,hr];exact hK _ _ (h v' w' h2 h3 hk (λe=>by have:=(h4.1 e).2;omega))
theorem Qf5{K:Act->G->Prop}{E:Prop}(N:o.guard=none)(s x:Operand)(t:TypeId)(S:o.op=.call { callee:=.builtin .append,args:=#[s,x],argTypes:=#[t,t] })(base:Nat)(e:TypeId)(i:TypeInfo)(z:J)(b d:Nat)(I:P.underlying t=some (.slice e))(D:P.info? e=some i)(L:i.zero=some z)(k:i.size=b)(A:i.bytes=d)(M:z.cells.size=b)(H:0<b)(C:d<=64)(v:J)(n:Nat)(xs:List J)(T:a.eval s=v)(p:w.ownsRow base e b v n xs)(q:Addr)(m c:Nat)(f:List J)(U:a.eval x=.slice (some q) m c)(F:f.length=m*b)(g:∀ j u,f[j]?=some u->w.cell? (q.add j)=some u)(B:∀ u∈f,u.oneCell'=true)(R:0<m)(V:n+m<=1099511627776)(r:base<=w.heap.size)(h:∀ v' w',w'.ownsRow base e b v' (n+m) (xs++f)->w.grownBy w' v.ownBlock->Qba w v v'->v'≠.slice none 0 0->K (a.put o.dst v') w'):if Region.wanted o (yielded ops a.tmps)=true then Oper.wp P o a w K Q else E:=by
 have hw:Region.wanted o (yielded ops a.tmps)=true:=by simp[Region.wanted,N]
 rw[zD hw];have l:(n+m)*d<=140737488355328:=by refine zi (Vu _ C) ?_;omega
 have y:n+m<=maxLen:=by unfold maxLen;omega
 obtain⟨v',w',hr,h2,h3,h4⟩:=run_append_own (P:=P) w base t o.type e i z b d I D L k A M H v n xs p q m c f F g B y l r;have hk:=Qnn (P:=P) w base t o.type e i z b d I D L k A v n xs p q m c f F g B R y l v' w' hr;unfold Oper.wp execOp;simp only[S,resolve,invoke,builtin,vx,vI,ZR,vD,zT,vS,T,U,hr];exact h v' w' h2 h3 hk (λe=>by have:=(h4.1 e).2;omega)
def putF(l:List (O×O))(p b:O):List (O×O):=if Yk l p<l.length then l.set (Yk l p) (p,b) else l ++ [(p,b)]
theorem Zea:(prog.info? 132).map (λi=>(i.zero,i.size,i.bytes))=some (some (.agg #[.string ⟨#[]⟩,.string ⟨#[]⟩]),2,32):=by kernel_rfl
theorem Qly:∃ i,prog.info? 132=some i/\i.zero=some (.agg #[.string ⟨#[]⟩,.string ⟨#[]⟩])/\i.size=2/\i.bytes=32:=by
 have h:=Zea;cases hi:prog.info? 132 with
 | none=>rw[hi] at h;simp at h
 | some i=>rw[hi] at h;simp at h;exact⟨i,rfl,h.1,h.2.1,h.2.2⟩
theorem Qe9(l:List (O×O))(f:O×O):Zs (l ++ [f])=Zs l ++ [.string f.1,.string f.2]:=by simp[Zs,Qah]
theorem Qpt:∀ (l:List (O×O)) (j:Nat) (f:O×O) (b:O),l[j]?=some f->(Zs l).set (j*2+1) (.string b)=Zs (l.set j (f.1,b))
 | [],j,f,b,h=>by simp at h
 | a :: l,0,f,b,h=>by simp at h;subst h;rfl
 | a :: l,j+1,f,b,h=>by
   have ih:=Qpt l j f b (by simpa using h)
   have e:∀ a l,(Zs (a :: l))=.string a.1 :: .string a.2 :: Zs l:=λ_ _=>rfl
   rw[List.set_cons_succ,e,e,<-ih,show (j+1)*2+1=j*2+1+1+1 by omega]
   rfl
theorem Qfv{l:List (O×O)}{p:O}(h:Yk l p<l.length):(l[Yk l p]'h).1=p:=by
 have:=zas (xs:=l) (p:=λ(f:O×O)=>decide (f.1=p)) (w:=h)
 exact vv this
theorem Qit(w:G)(x y:J)(t:TypeId)(n:Nat)(a:n=w.heap.size):∀ (j:Nat) (u:J),[x,y][j]?=some u->(w.alloc (.cells #[x,y] t)).cell? ((⟨n,0,none⟩:Addr).add j)=some u:=by intro j u hu;rw[ZX,zW _ _ _ _ a];simpa using hu
theorem Q5z(w:G)(g:Nat)(v:J)(d:Dk)(h:Q5 w g v d)(p:O)(I:J)(b:Ud)(C:Q7 w I b)(W:d.files.length<1099511627776):Calls prog 303 #[.pointer (some ⟨g,0,none⟩),.string p,I] w λe w'=>e=.returned (.tuple #[])/\
   ∃ v',Q5 w' g v' { d with files:=putF d.files p ⟨b.toArray⟩ }/\Fr (dkS g v) w w'/\Qba w v v':=by
 have f:=Qkt w g v d h p;obtain⟨HH,HD⟩:=zh2 h C;have hg:=h.lt;obtain⟨⟨c0,_⟩,f0⟩:=h.cells;clear h C;by_cases hf:Yk d.files p<d.files.length
 .have hF:J1 d.files p=Yk d.files p:=by unfold J1;rw[zD hf]
  rw[hF] at f;obtain⟨j,hj⟩:=zzx (Yk d.files p)
  rw[<-hj] at f hf;obtain⟨bk,cap,cur,rfl,m,B,s⟩:∃ bk cap cur,v=.slice (some ⟨bk,0,none⟩) d.files.length cap/\w.heap[bk]?=some (.cells cur 132 (0,0))/\d.files.length*2<=cur.size/\cur.toList.take (d.files.length*2)=Zs d.files:=by
   rcases HH.o.2.2 with⟨_,h0⟩|⟨bk,cap,cur,rfl,_,hb,r,_,B,ht⟩
   .omega
   exact⟨bk,cap,cur,rfl,hb,by rw[B];exact ZA _ r,ht⟩
  have P:(0:Int)<=(j:Int):=by omega
  have V:(j:Int)<(d.files.length:Int):=by omega
  have K:bk≠g:=λe=>HH.o.parts (by simp[Value.ownBlock,e])
  have q:bk<w.heap.size:=Qb m;obtain⟨u,HJ⟩:=zh2 m hj;obtain⟨x,hx⟩:=zzx (d.files[j]'hf)
  have t:d.files[j]?=some x:=by rw[hx,ze hf]
  have A:w.cell? ⟨bk,j*2+1,none⟩=some (.string x.2):=by have h1:=(Qa1 _ j x t).2;rw[<-s] at h1;rw[Vw w bk _ cur _ _ m];rw[zH (by omega)] at h1;simpa using h1
  obtain⟨E,F,y,H⟩:=zh4 A (Qu m (j*2+1)) t s;clear hj hF m s A hx t
  go_enter func303,ntmps303
  go_wp2_with (go_at_call 122;refine f.m ?_;rintro e w1⟨rfl,a⟩;have c:=zh a;have k0:=(a.cell (p:=⟨g,0,none⟩) hg).t c0;have k1:=(a.cell (p:=⟨bk,j*2+1,none⟩) q).t E.o;have k2:=(a.frozen (p:=⟨bk,j*2+1,none⟩) q).t F.o;have M:=Qdq (w:=w1.drew) (HD.o.j (a.t ((Ql w1).m a.size)));clear a)
  go_region;go_wp2;go_end0;have B1:=c.o;refine⟨rfl,_,⟨J8 (p:=⟨bk,j*2+1,none⟩) ((B1.block g hg).t HH.o.1) (λe=>K e.symm) _,?_⟩,(Fr.ofBelow B1).t ((Fr.setCell1 w1 ⟨bk,j*2+1,none⟩ _).weak λk _ hk=>.inr (by rw[hk];rfl)) |>.drew,Qba.refl _ _⟩;have n:putF d.files p ⟨b.toArray⟩=d.files.set j (p,⟨b.toArray⟩):=by unfold putF;rw[zD (by rw[<-HJ.o];exact hf),<-HJ.o]
  have R:x.1=p:=by have h1:=Qfv (l:=d.files) (p:=p) (by rw[<-HJ.o];exact hf);have h2:=y.o;rw[HJ.o,ze (by rw[<-HJ.o];exact hf)] at h2;rw[<-zR h2];exact h1
  show World.ownsRow _ 0 132 2 _ (putF d.files p ⟨b.toArray⟩).length (Zs (putF d.files p ⟨b.toArray⟩));rw[n,Vn];refine⟨by rw[Jq,Vn],.inr ⟨bk,cap,_,rfl,zE _,heap_setCell ((B1.block bk q).t u.o) _,?_⟩⟩;rcases HH.o.2.2 with⟨e,_⟩|⟨bk',cap',cur',e,_,hb,r,L,N,ht⟩
  .cases e
  cases e;rw[u.o] at hb;cases hb;refine⟨r,L,by simpa using N,?_⟩;rw[xr,zb4,H.o,<-R];exact Qpt _ j x _ y.o
 have hF:J1 d.files p = -1:=by unfold J1;rw[zw hf]
 rw[hF] at f;have P:¬ (0:Int)<=(-1:Int):=by omega
 obtain⟨i,hi,hz,hs,z⟩:=Qly;have HI:=zh (⟨hi,hz,hs,z⟩:_/\_/\_/\_);clear hi hz hs z hF
 go_enter func303,ntmps303
 go_wp2_with (go_at_call 122;refine f.m ?_;rintro e w1⟨rfl,a⟩;have c:=zh a;have k0:=(a.cell (p:=⟨g,0,none⟩) hg).t c0;have T:g<w1.heap.size:=zJ hg a.size;have M:=Qdq (w:=w1.drew) (HD.o.j (a.t ((Ql w1).m a.size)));clear a)
 go_region_law (refine Qf5 rfl _ _ _ rfl 0 132 i _ 2 32 underlying32 HI.o.1 HI.o.2.1 HI.o.2.2.1 HI.o.2.2.2 rfl (by decide) (by decide) v d.files.length (Zs d.files) rfl (Qn HH.o.2 (c.o.t (((Ql w1).alloc (zg _) _).m c.o.size))) ⟨w1.heap.size,0,none⟩ 1 1 [.string p,.string ⟨b.toArray⟩] rfl rfl (Qit _ _ _ _ _ rfl) (by simp[Value.oneCell']) (by decide) (by omega) (zE _) ?_;intro v' w' h2 h3 h4 h5;obtain⟨gb,cp,rfl,U⟩:=Qbz h2 h5;obtain⟨H2,H3,H4⟩:=zh3 h2 ((Fr.ofBelow (S:=λk=>v.ownBlock=some k) (c.o.t (((Ql w1).alloc (zg _) _).m c.o.size))).t (Fr.ofGrown h3 λk _ e=>e)) ((Qba.refl w v).t h4 (zi c.o.size (by simp)));have k3:=H3.o.cell c0 HH.o.parts;have k4:=(H3.o.frozen (p:=⟨g,0,none⟩) hg HH.o.parts).t (f0 0);clear h2 h3 h4 h5)
 all_goals (
  go_wp2
  go_end0
  have n:putF d.files p ⟨b.toArray⟩=d.files ++ [(p,⟨b.toArray⟩)]:=by unfold putF;rw[zw hf]
  have D:=H3.o.heap HH.o.1 HH.o.parts
  have Q:gb≠g:=by
   rintro rfl
   rcases H2.o.2 with⟨e,_⟩|⟨bk,cap',cur',e,_,hb,_⟩
   .cases e
   cases e
   rw[D] at hb
   simp at hb
  refine⟨rfl,_,⟨(heap_setCell D _).t (by simp[Qac]),?_⟩,(H3.o.weak λk _ hk=>.inr hk).t ((Fr.setCell1 w' ⟨g,0,none⟩ _).weak λk _ hk=>.inl hk),H4.o⟩
  show World.ownsRow _ 0 132 2 _ (putF d.files p ⟨b.toArray⟩).length (Zs (putF d.files p ⟨b.toArray⟩))
  rw[n,zn,Qe9]
  exact Zf H2.o (Fr.setCell1 w' ⟨g,0,none⟩ _) λk hk e=>by
   simp[Value.ownBlock] at hk
   exact Q (hk.t e))
def Qop(w:G)(base:Nat)(u:J):Prop:=∃ q n,u=.iface 218 (.pointer (some ⟨q,0,none⟩))/\base<=q/\w.heap[q]?=some (.cells #[.int .i64 n] 398 (0,0))
def getF(l:List (O×O))(p:O):Y O:=(l[Yk l p]?).map (·.2)
theorem Qlr(h:Yk l p<l.length):getF l p=some (l[Yk l p]'h).2:=by simp[getF,ze h]
theorem Qei(h:¬ Yk l p<l.length):getF l p=none:=by simp[getF,vq (Nat.le_of_not_lt h)]
theorem Qp1(d:Dk):Z7 d=0∨Z7 d=1∨Z7 d=2:=by unfold Z7;split <;> (try split) <;> (try split) <;> simp
theorem Jd(d:Dk):(Zu d).files=d.files:=by unfold Zu;split <;> rfl
theorem Qne(d:Dk):(Zu d).calls=d.calls+1:=by unfold Zu;split <;> rfl
theorem Q5.data(h:Q5 w g v d){j:Nat}{x:O×O}(a:d.files[j]?=some x):∃ bk cap,v=.slice (some ⟨bk,0,none⟩) d.files.length cap/\bk<w.heap.size/\bk≠g/\w.cell? ⟨bk,j*2,none⟩=some (.string x.1)/\w.cell? ⟨bk,j*2+1,none⟩=some (.string x.2):=by
 have b:=(zj.1 a).1;have hp:=h.parts;rcases h.2.2 with⟨_,h0⟩|⟨bk,cap,cur,rfl,_,hb,_,_,_,ht⟩
 .omega
 refine⟨bk,cap,rfl,Qb hb,λe=>hp (by simp[Value.ownBlock,e]),?_,?_⟩
 .have h1:=(Qa1 _ j x a).1
  rw[<-ht,zH (by omega)] at h1;rw[Vw w bk _ cur _ _ hb];simpa using h1
 have h1:=(Qa1 _ j x a).2;rw[<-ht,zH (by omega)] at h1;rw[Vw w bk _ cur _ _ hb];simpa using h1
def Zcw(w:G)(g:Nat)(v:J)(d:Dk)(p:O)(e:Ua)(w':G):Prop:=
 Q5 w' g v (Zu d)/\Fr (·=g) w w'/\
 ((0<Z7 d/\∃ u,e=.returned (.tuple #[.slice none 0 0,u])/\Qop w' w.heap.size u)∨
   (Z7 d=0/\∃ s v',getF d.files p=some s/\e=.returned (.tuple #[v',.nilIface])/\Q3 w' w.heap.size v' s.data.toList/\∃ b c,v'=.slice (some ⟨b,0,none⟩) s.size c)∨
   (Z7 d=0/\getF d.files p=none/\e=.returned (.tuple #[.slice none 0 0,.nilIface])))
theorem Qxp(w:G)(g:Nat)(v:J)(d:Dk)(h:Q5 w g v d)(p:O)(A:d.calls<1099511627776):Calls prog 299 #[.pointer (some ⟨g,0,none⟩),.string p] w λe w'=>Zcw w g v d p e w':=by
 have n:=Qpw w g v d h A;have hg:=h.lt;clear h;obtain⟨k,hk⟩:=zzx (Z7 d)
 rw[<-hk] at n;have y:=Qp1 d;rw[<-hk] at y;have HK:=zh hk;clear hk;by_cases h0:0<k
 .have hz:(0:Int)<(k:Int):=by omega
  go_enter func299,ntmps299
  go_wp2_with (go_at_call 302;refine n.m ?_;rintro e w1⟨rfl,a,b⟩;obtain⟨c,f⟩:=zh2 a b;have c1:=a.cells.1.2.1;have D:=a.lt;clear a b)
  go_region;go_wp2;go_ret2;have hb:Bz w1 (w1.alloc (.cells #[.int .i64 ((Zu d).calls:Int)] 398)).drew:=(Qa w1 _).drew;exact⟨c.o.j hb,f.o.t (Fr.ofBelow hb),.inl ⟨by rw[<-HK.o];exact h0,_,rfl,w1.heap.size,_,rfl,f.o.size,zy w1 _⟩⟩
 have hz:¬ (0:Int)<(k:Int):=by omega
 have u:Z7 d=0:=by rw[<-HK.o];omega
 have t:=zh u;have m:=λw1 a=>Qkt w1 g v (Zu d) a p
 rw[Jd] at m;clear u y;by_cases hf:Yk d.files p<d.files.length
 .have hF:J1 d.files p=Yk d.files p:=by unfold J1;rw[zD hf]
  rw[hF] at m;obtain⟨x,hx⟩:=zzx (d.files[Yk d.files p]'hf)
  have s:d.files[Yk d.files p]?=some x:=by rw[hx,ze hf]
  have q:getF d.files p=some x.2:=by rw[Qlr hf,hx]
  obtain⟨j,hj⟩:=zzx (Yk d.files p)
  rw[<-hj] at m hf s;have F:(0:Int)<=(j:Int):=by omega
  have E:(j:Int)<(d.files.length:Int):=by omega
  obtain⟨HX,HG⟩:=zh2 s q;clear hj hF hx s q
  go_enter func299,ntmps299
  go_wp2_with (first|go_at_call 302;refine n.m ?_;rintro e w1⟨rfl,a,b⟩;obtain⟨c,f⟩:=zh2 a b;clear a b|go_at_call 122;refine (m _ c.o).m ?_;rintro e w2⟨rfl,l⟩;have i:=zh l;have r:=c.o.j l;have z:=zh r;have c0:=r.cells.1.1;obtain⟨bk,cap,rfl,C,B,_,c1⟩:=r.data (j:=j) (x:=x) ((by rw[Jd];exact HX.o));rw[Jd] at c0;clear l r|refine Qcs rfl _ _ _ _ rfl underlying9 underlying147 underlying5 rfl _ rfl ?_;rintro v' w3 h1 h2 h3⟨b',c',h4⟩;obtain⟨H1,H2⟩:=zh2 h1 h2;subst h4;clear h1 h2 h3)
  go_ret2;exact⟨z.o.j H2.o,f.o.t (Fr.ofBelow (i.o.t (H2.o.m i.o.size))),.inr (.inl ⟨t.o,x.2,_,HG.o,rfl,H1.o.m (zi f.o.size i.o.size),b',c',rfl⟩)⟩
 have hF:J1 d.files p = -1:=by unfold J1;rw[zw hf]
 have q:=Qei hf;rw[hF] at m;have HG:=zh q;clear hF q hf
 go_enter func299,ntmps299
 go_wp2_with (first|go_at_call 302;refine n.m ?_;rintro e w1⟨rfl,a,b⟩;obtain⟨c,f⟩:=zh2 a b;clear a b|go_at_call 122;refine (m _ c.o).m ?_;rintro e w2⟨rfl,l⟩;have i:=zh l;clear l)
 go_ret2;exact⟨c.o.j i.o,f.o.t (Fr.ofBelow i.o),.inr (.inr ⟨t.o,HG.o,rfl⟩)⟩
def Qcz(d:Dk)(p b:O):Dk:=if Z7 d<2 then { Zu d with files:=putF d.files p b } else Zu d
def Qco(l:List (O×O))(p b:O):Bool:=match getF l p with|some x=>decide (x≠b)|none=>false
def putD(d:Dk)(p b:O):Dk:=if Qco d.files p b=true then { Zu d with turned:=true } else Qcz d p b
def Qdw(w:G)(base:Nat)(bad:Bool)(u:J):Prop:=if bad=true then Qop w base u else u=.nilIface
variable {b:Bool}
theorem Qdw.bad{u:J}(h:Qop w base u)(a:b=true):Qdw w base b u:=by subst a;exact h
theorem Qdw.fine(a:b=false):Qdw w base b .nilIface:=by subst a;rfl
theorem Q5.noByte(h:Q5 w g v d)(i:Nat)(x:Ub):w.cell? ⟨g,i,none⟩≠some (u8 x):=by
 obtain⟨a,c,rfl⟩:=Zo h.2;rw[Vw w g i _ _ _ h.1]
 match i with
 | 0=>simp[Qac,u8]
 | 1=>simp[Qac,u8]
 | 2=>simp[Qac,u8]
 | 3=>simp[Qac,u8]
 | 4=>simp[Qac,u8]
 | 5=>simp[Qac,u8]
 | 6=>simp[Qac,u8]
 | 7=>simp[Qac,u8]
 | i+8=>simp[Qac]
theorem Q5.bytes{w':G}(h:Q5 w g v d)(k:Fr (·=g) w w'){f:J}{b:Ud}(i:Q7 w f b):Q7 w' f b:=by obtain⟨a,c,hv,hl,hc⟩:=i;refine⟨a,c,hv,hl,λj x hx=>?_⟩;obtain⟨q,off,ha,e⟩:=hc j x hx;refine⟨q,off,ha,k.cell e ?_⟩;rintro rfl;obtain⟨y,_,rfl⟩:=zU.1 (zr hx);exact h.noByte _ _ e
theorem Qkr(w:G)(n:Int)(base:Nat)(a:base<=w.heap.size):Qop (w.alloc (.cells #[.int .i64 n] 398)) base (.iface 218 (.pointer (some ⟨w.heap.size,0,none⟩))):=
 ⟨w.heap.size,n,rfl,a,zy w _⟩
theorem Q6l(w:G)(n:Int)(base q:Nat)(a:base<=w.heap.size)(b:q=w.heap.size):Qop (w.alloc (.cells #[.int .i64 n] 398)) base (.iface 218 (.pointer (some ⟨q,0,none⟩))):=by subst b;exact Qkr w n base a
theorem Zae(w:G)(g:Nat)(v:J)(d:Dk)(h:Q5 w g v d)(p:O)(y:J)(b:Ud)(z:Q7 w y b)(B:d.calls<1099511627776)(C:d.files.length<1099511627776):Calls prog 301 #[.pointer (some ⟨g,0,none⟩),.string p,y] w λe w'=>∃ u,e=.returned u/\Qdw w' w.heap.size (decide (0<Z7 d)) u/\∃ v',Q5 w' g v' (Qcz d p ⟨b.toArray⟩)/\Fr (dkS g v) w w'/\Qba w v v':=by
 have a:=Qpw w g v d h B;have hg:=h.lt;obtain⟨HH,HD⟩:=zh2 h z;clear h z;have r:=λw1 (f:Q5 w1 g v (Zu d)) (hb:Q7 w1 y b)=>Q5z w1 g v (Zu d) f p y b hb (by rw[Jd];exact C)
 rw[Jd] at r;rcases Qp1 d with hk|hk|hk
 .rw[hk] at a
  have HK:=zh hk;have j:((0:Nat):Int)=0:=rfl;rw[j] at a;clear hk j
  go_enter func301,ntmps301
  go_wp2_with (first|go_at_call 302;refine a.m ?_;rintro e w1⟨rfl,f,i⟩;obtain⟨m,c⟩:=zh2 f i;clear f i|go_at_call 303;refine (r _ m.o (HH.o.bytes c.o HD.o)).m ?_;rintro e w2⟨rfl,v2,l,n,q⟩;obtain⟨t,s,x⟩:=zh3 l n q;clear l n q)
  go_ret;refine⟨_,rfl,Qdw.fine (by rw[HK.o];rfl),v2,?_,(c.o.weak λk _ hk=>.inl hk).t s.o,λk hk=>(x.o k hk).imp id (zi c.o.size)⟩;rw[Qcz,HK.o];exact t.o
 .rw[hk] at a
  have HK:=zh hk;have j:((1:Nat):Int)=1:=rfl;rw[j] at a;clear hk j
  go_enter func301,ntmps301
  go_wp2_with (first|go_at_call 302;refine a.m ?_;rintro e w1⟨rfl,f,i⟩;obtain⟨m,c⟩:=zh2 f i;clear f i|go_at_call 303;refine (r _ m.o (HH.o.bytes c.o HD.o)).m ?_;rintro e w2⟨rfl,v2,l,n,q⟩;obtain⟨t,s,x⟩:=zh3 l n q;have c1:=l.cells.1.2.1;clear l n q)
  go_ret;have A:w.heap.size<=w2.heap.size:=zi c.o.size s.o.size;refine⟨_,rfl,Qdw.bad (Qkr w2 _ _ A) (by rw[HK.o];rfl),v2,?_,((c.o.weak λk _ hk=>.inl hk).t s.o).alloc _,λk hk=>(x.o k hk).imp id (zi c.o.size)⟩;rw[Qcz,HK.o];exact t.o.j (Qa _ _)
 rw[hk] at a;have HK:=zh hk;have j:((2:Nat):Int)=2:=rfl;rw[j] at a;clear hk j
 go_enter func301,ntmps301
 go_wp2_with (first|go_at_call 302;refine a.m ?_;rintro e w1⟨rfl,f,i⟩;obtain⟨m,c⟩:=zh2 f i;have c1:=f.cells.1.2.1;clear f i)
 go_ret;refine⟨_,rfl,Qdw.bad (Qkr w1 _ _ c.o.size) (by rw[HK.o];rfl),v,?_,(c.o.weak λk _ hk=>.inl hk).alloc _,Qba.refl _ _⟩;rw[Qcz,HK.o];exact m.o.j (Qa _ _)
variable {b:O}
theorem Q1n(h:¬ Yk l p<l.length):Qco l p b=false:=by simp[Qco,Qei h]
theorem Q7t{x:O×O}(h:l[Yk l p]?=some x):Qco l p b=decide (x.2≠b):=by simp[Qco,getF,h]
theorem Zci(w:G)(g:Nat)(v:J)(d:Dk)(h:Q5 w g v d)(p:O)(N:J)(b:Ud)(Q:Q7 w N b)(V:d.calls<1099511627776)(W:d.files.length<1099511627776):Calls prog 300 #[.pointer (some ⟨g,0,none⟩),.string p,N] w λe w'=>∃ u,e=.returned u/\Qdw w' w.heap.size (Qco d.files p ⟨b.toArray⟩ || decide (0<Z7 d)) u/\∃ v',Q5 w' g v' (putD d p ⟨b.toArray⟩)/\Fr (dkS g v) w w'/\Qba w v v':=by
 have t:=Qpw w g v d h V;have hg:=h.lt;obtain⟨HH,HD⟩:=zh2 h Q;clear h Q;have y:=λw1 (l:Q5 w1 g v (Zu d)) (hb:Q7 w1 N b)=>Q5z w1 g v (Zu d) l p N b hb (by rw[Jd];exact W)
 have K:=λw1 l=>Qkt w1 g v (Zu d) l p
 rw[Jd] at y K;obtain⟨k,hk⟩:=zzx (Z7 d)
 have S:=Qp1 d;rw[<-hk] at t S;have HK:=zh hk;clear hk
 go_enter func300,ntmps300
 go_upto_region 3 with (first|go_at_call 302;refine t.m ?_;rintro e w1⟨rfl,l,R⟩;obtain⟨P,T⟩:=zh2 l R;clear l R|go_at_call 122;refine (K _ P.o).m ?_;rintro e w2⟨rfl,B⟩;obtain⟨X,E,H⟩:=zh3 B (P.o.j B) (T.o.t (Fr.ofBelow B));clear B)
 go_cut [8,13,28] from 14 (λ_ _ c wx=>c=.bool (Qco d.files p ⟨b.toArray⟩)/\Q5 wx g v (Zu d)/\Fr (·=g) w wx)
 case first=>
  have D:=E.o;have c0:=D.cells.1.1;have ab:=λn=>Qdq (w:=w2.drewN n) ((HH.o.bytes H.o HD.o).j (Q8 (zu _ w2) n))
  by_cases hf:Yk d.files p<d.files.length
  .have hF:J1 d.files p=Yk d.files p:=by unfold J1;rw[zD hf]
   obtain⟨x,hx⟩:=zzx (d.files[Yk d.files p]'hf)
   have M:d.files[Yk d.files p]?=some x:=by rw[hx,ze hf]
   have i:=Q7t (b:=⟨b.toArray⟩) M;obtain⟨bk,cap,rfl,aa,Z,_,c1⟩:=D.data (x:=x) (by rw[Jd];exact M);rw[Jd] at c0;obtain⟨j,hj⟩:=zzx (Yk d.files p)
   rw[hF];rw[<-hj] at c1 hf ⊢;have U:decide ((0:Int)<=(j:Int))=true:=by simp
   have af:(j:Int)<(d.files.length:Int):=by omega
   have ae:(0:Int)<=(j:Int):=by omega
   have hq:(x.2.toList == b)=decide (x.2=⟨b.toArray⟩):=by have:=Q7o x.2 ⟨b.toArray⟩;simpa using this
   obtain⟨HQ,a⟩:=zh2 hq i;clear hj hF hx M i D
   go_quiet (fail)
   go_wp2
   go_meet;exact⟨by rw[a.o];simp[HQ.o],E.o.j (Q8 (zu _ w2) _),H.o.drewN _⟩
  have hF:J1 d.files p = -1:=by unfold J1;rw[zw hf]
  have a:=zh (Q1n (b:=⟨b.toArray⟩) hf);rw[hF];have U:decide ((0:Int)<=(-1:Int))=false:=by decide
  clear hF hf D
  go_quiet (fail)
  go_wp2
  go_meet;exact⟨by rw[a.o],E.o.j (Q8 (zu _ w2) _),H.o.drewN _⟩
 case rest=>
  obtain⟨rfl,q,L⟩:=hcut;obtain⟨z,f⟩:=zh2 q L;have c1:=q.cells.1.2.1;have ad:=q.lt;have ac:=q.cells.2 7;have c7:=q.cells.1.2.2.2.2.2.2.2;clear q L;cases i:Qco d.files p ⟨b.toArray⟩ with
  | true=>
   have a:=zh i;have ag:(⟨g,7,none⟩:Addr)≠⟨g,1,none⟩:=by simp
   clear i
   go_wp2
   go_ret;refine⟨_,rfl,Qdw.bad (b:=Qco d.files p ⟨b.toArray⟩ || decide (0<Z7 d)) (Q6l (wc.setCell ⟨g,7,none⟩ (.bool true)) _ _ _ (by simpa using f.o.size) (by simp)) (by rw[a.o];rfl),v,?_,((f.o.weak λk _ hk=>.inl hk).setCell (p:=⟨g,7,none⟩) (λ_=>.inl rfl) _).alloc _,Qba.refl _ _⟩;refine Q5.j (w:=wc.setCell ⟨g,7,none⟩ (.bool true)) ?_ (Qa _ _);rw[putD,zD a.o];exact z.o.set (Fr.setCell1 wc ⟨g,7,none⟩ _) ((heap_setCell z.o.1 _).t (by simp[Qac])) rfl
  | false=>
   have a:=zh i;clear i;have hp:putD d p ⟨b.toArray⟩=Qcz d p ⟨b.toArray⟩:=by rw[putD,zw (by rw[a.o];decide)]
   have HP:=zh hp;clear hp;have C:=y wc z.o (HH.o.bytes f.o HD.o);clear y K t;rcases S with rfl|rfl|rfl
   .go_wp2_with (go_at_call 303;refine C.m ?_;rintro e w3⟨rfl,v3,m,r,s⟩;obtain⟨F,A,I⟩:=zh3 m r s;clear m r s)
    go_ret;refine⟨_,rfl,Qdw.fine (by rw[a.o,<-HK.o];rfl),v3,?_,(f.o.weak λk _ hk=>.inl hk).t A.o,λk hk=>(I.o k hk).imp id (zi f.o.size)⟩;rw[HP.o,Qcz,<-HK.o];exact F.o
   .go_wp2_with (go_at_call 303;refine C.m ?_;rintro e w3⟨rfl,v3,m,r,s⟩;obtain⟨F,A,I⟩:=zh3 m r s;have c3:=m.cells.1.2.1;clear m r s)
    go_ret;refine⟨_,rfl,Qdw.bad (Qkr w3 _ _ (zi f.o.size A.o.size)) (by rw[a.o,<-HK.o];rfl),v3,?_,((f.o.weak λk _ hk=>.inl hk).t A.o).alloc _,λk hk=>(I.o k hk).imp id (zi f.o.size)⟩;rw[HP.o,Qcz,<-HK.o];exact F.o.j (Qa _ _)
   go_wp2
   go_ret;refine⟨_,rfl,Qdw.bad (Qkr wc _ _ f.o.size) (by rw[a.o,<-HK.o];rfl),v,?_,(f.o.weak λk _ hk=>.inl hk).alloc _,Qba.refl _ _⟩;rw[HP.o,Qcz,<-HK.o];exact z.o.j (Qa _ _)
def Qg9(d:Dk)(a:Nat)(half once:Bool):Dk:={ d with failAt:=(d.calls:Int)+a,half:=half,once:=once,dead:=false,hit:=false }
def Qk5(d:Dk):Dk:={ d with failAt:=0,dead:=false,hit:=false }
theorem Q6c(w:G)(g:Nat)(v:J)(d:Dk)(h:Q5 w g v d)(a:Nat)(b c:Bool)(j:d.calls<1099511627776)(f:a<1099511627776):Calls prog 120 #[.pointer (some ⟨g,0,none⟩),.int .i64 a,.bool b,.bool c] w λe w'=>e=.returned (.tuple #[])/\Q5 w' g v (Qg9 d a b c)/\Fr (·=g) w w':=by
 obtain⟨⟨c0,c1,c2,c3,c4,c5,c6,c7⟩,f0⟩:=h.cells;have HH:=zh h;have hw:wrap64 ((d.calls:Int)+(a:Int))=(d.calls:Int)+a:=by unfold wrap64;omega
 clear h;obtain⟨HC,HF⟩:=zh2 (heap_setCell (i:=6) (heap_setCell (i:=3) (heap_setCell (i:=4) (heap_setCell (i:=5) (heap_setCell (i:=2) HH.o.1 (.int .i64 ((d.calls:Int)+a))) (.bool b)) (.bool c)) (.bool false)) (.bool false)) (((((Fr.set1 w g 2 (.int .i64 ((d.calls:Int)+a))).set 5 (.bool b)).set 4 (.bool c)).set 3 (.bool false)).set 6 (.bool false))
 go_enter func120,ntmps120
 go_wp2;go_end0;exact⟨rfl,HH.o.set HF.o (HC.o.t (by simp[Qac,Qg9])) rfl,HF.o⟩
theorem Q99(w:G)(g:Nat)(v:J)(d:Dk)(h:Q5 w g v d):Calls prog 71 #[.pointer (some ⟨g,0,none⟩)] w λe w'=>e=.returned (.tuple #[])/\Q5 w' g v (Qk5 d)/\Fr (·=g) w w':=by
 obtain⟨⟨c0,c1,c2,c3,c4,c5,c6,c7⟩,f0⟩:=h.cells;have HH:=zh h;clear h;obtain⟨HC,HF⟩:=zh2 (heap_setCell (i:=6) (heap_setCell (i:=3) (heap_setCell (i:=2) HH.o.1 (.int .i64 0)) (.bool false)) (.bool false)) (((Fr.set1 w g 2 (.int .i64 0)).set 3 (.bool false)).set 6 (.bool false))
 go_enter func71,ntmps71
 go_wp2;go_end0;exact⟨rfl,HH.o.set HF.o (HC.o.t (by simp[Qac,Qk5])) rfl,HF.o⟩
theorem Qyc(w:G)(g:Nat)(v:J)(d:Dk)(h:Q5 w g v d):Calls prog 76 #[.pointer (some ⟨g,0,none⟩)] w λe w'=>e=.returned (.bool d.hit)/\w=w':=by
 obtain⟨⟨c0,c1,c2,c3,c4,c5,c6,c7⟩,f0⟩:=h.cells;clear h
 go_enter func76,ntmps76
 go_wp2;go_ret;exact⟨rfl,rfl⟩
def Y6(w:G)(v:J)(l:List (O×O)):Prop:=
 ∃ a c,v=.slice a l.length c/\l.length<=c/\∀ j x,l[j]?=some x->∃ b off,a=some ⟨b,off,none⟩/\w.cell? ⟨b,off+j*2,none⟩=some (.string x.1)/\w.cell? ⟨b,off+j*2+1,none⟩=some (.string x.2)
theorem Y6.j(h:Y6 w v l)(d:Bz w w'):Y6 w' v l:=by obtain⟨a,c,hv,hc,hx⟩:=h;refine⟨a,c,hv,hc,λj x hj=>?_⟩;obtain⟨b,off,ha,h1,h2⟩:=hx j x hj;exact⟨b,off,ha,(d.cell (Qj h1)).t h1,(d.cell (Qj h2)).t h2⟩
def addF(acc:List (O×O))(f:O×O):List (O×O):=if Yk acc f.1<acc.length then acc else acc ++ [f]
def firsts(l:List (O×O)):List (O×O):=l.foldl addF []
def dk0(l:List (O×O)):Dk:=⟨l,0,0,false,false,false,false,false⟩
theorem Qry(l:List (O×O)):(firsts l).length<=l.length:=by
 have h:∀ (l acc:List (O×O)),(l.foldl addF acc).length<=acc.length+l.length:=by
  intro l
  induction l with
  | nil=>intro acc;simp
  | cons a l ih=>
   intro acc;rw[zak];refine zi (ih _) ?_;unfold addF
   split <;> simp <;> omega
 simpa [firsts] using h l []
theorem Qy1{k:Nat}{x:O×O}(h:l[k]?=some x):firsts (l.take (k+1))=addF (firsts (l.take k)) x:=by
 have e:l.take (k+1)=l.take k ++ [x]:=by rw[zY,h];rfl
 rw[e,firsts,List.foldl_append];rfl
theorem Q5.pushed{g:Nat}{d:Dk}(h:Q5 w g v d)(x:O×O){a cp:Nat}(f:Fr (λk=>v.ownBlock=some k) w w')(c:w'.ownsRow 0 132 2 (.slice (some ⟨a,0,none⟩) (d.files.length+1) cp) (d.files.length+1) (Zs d.files ++ [.string x.1,.string x.2])):Q5 (w'.setCell ⟨g,0,none⟩ (.slice (some ⟨a,0,none⟩) (d.files.length+1) cp)) g (.slice (some ⟨a,0,none⟩) (d.files.length+1) cp) { d with files:=d.files ++ [x] }/\
   Fr (dkS g v) w (w'.setCell ⟨g,0,none⟩ (.slice (some ⟨a,0,none⟩) (d.files.length+1) cp)):=by
 have b:=f.heap h.1 h.parts;have i:a≠g:=by
  rintro rfl;rcases c.2 with⟨e,_⟩|⟨bk,cap',cur',e,_,hb,_⟩
  .cases e
  cases e;rw[b] at hb;simp at hb
 refine⟨⟨(heap_setCell b _).t (by simp[Qac]),?_⟩,(f.weak λk _ hk=>.inr hk).t ((Fr.setCell1 w' ⟨g,0,none⟩ _).weak λk _ hk=>.inl hk)⟩;show World.ownsRow _ 0 132 2 _ (d.files ++ [x]).length (Zs (d.files ++ [x]));rw[zn,Qe9];exact Zf c (Fr.setCell1 w' ⟨g,0,none⟩ _) λk hk e=>by simp[Value.ownBlock] at hk;exact i (hk.t e)
theorem Qyp(w:G)(K:J)(l:List (O×O))(h:Y6 w K l)(Q:l.length<=1073741824):Calls prog 70 #[K] w λe w'=>∃ g v,e=.returned (.pointer (some ⟨g,0,none⟩))/\Q5 w' g v (dk0 (firsts l))/\Bz w w'/\w.heap.size<=g/\(∀ k,v.ownBlock=some k->w.heap.size<=k):=by
 have HH:=zh h;obtain⟨a,c,rfl,hc,hx⟩:=h;have HX:=zh hx;clear hx;obtain⟨i,hi,hz,hs,A⟩:=Qly;have HI:=zh (⟨hi,hz,hs,A⟩:_/\_/\_/\_);clear hi hz hs A
 go_enter func70,ntmps70
 go_wp2
 go_loopg [5,10] l.length (λgg _ s10 wr=>∃ kk:Nat,kk<=l.length/\l.length-kk<=gg/\s10=.int .i64 kk/\Aside (Bz w wr)/\∃ v,Aside (Q5 wr w.heap.size v (dk0 (firsts (l.take kk))))/\Aside (∀ k,v.ownBlock=some k->w.heap.size<=k))
 case atStart=>exact⟨0,zE _,by omega,rfl,Qa _ _,.slice none 0 0,⟨zy w _,zv _ _ _ _⟩,λk hk=>by simp[Value.ownBlock] at hk⟩
 case round=>
  obtain⟨kk,P,hg,rfl,BW,v,t,HV⟩:=hrel;by_cases hlt:kk<l.length
  .obtain⟨x,hx⟩:=zzx (l[kk])
   have y:l[kk]?=some x:=by rw[hx,ze hlt]
   obtain⟨b,off,rfl,c1,c2⟩:=HX.o kk x y;have hb:b<w.heap.size:=Qj c1;have d1:wr.cell? ⟨b,off+kk*2,none⟩=some (.string x.1):=(BW.o.cell (p:=⟨b,off+kk*2,none⟩) hb).t c1;have d2:wr.cell? ⟨b,off+kk*2+1,none⟩=some (.string x.2):=(BW.o.cell (p:=⟨b,off+kk*2+1,none⟩) hb).t c2;have C:(kk:Int)<(l.length:Int):=by omega
   have M:b<wr.heap.size:=zJ hb BW.o.size;have D:=zh y;clear hx y c1 c2;obtain⟨acc,j⟩:=zzx (firsts (l.take kk))
   have L:acc.length<=kk:=by rw[j];refine zi (Qry _) ?_;simp;omega
   have s:firsts (l.take (kk+1))=addF acc x:=by rw[j];exact Qy1 D.o
   rw[<-j] at t;have HS:=zh s;clear j s;have u:=t.o.j (Qa wr (.cells #[.string x.1,.string x.2] 132));have m:=Qkt _ w.heap.size v (dk0 acc) u x.1;have z:=zh u;clear u;by_cases hf:Yk acc x.1<acc.length
   .have hF:J1 acc x.1=Yk acc x.1:=by unfold J1;rw[zD hf]
    have f:addF acc x=acc:=by unfold addF;rw[zD hf]
    rw[show J1 (dk0 acc).files x.1=Yk acc x.1 from hF] at m;have hz:¬ ((Yk acc x.1:Nat):Int)<0:=by omega
    have HA:=zh f;clear hF hf f
    go_wp2_with (go_at_call 122;refine m.m ?_;rintro e w2⟨rfl,d⟩;have q:=zh d;clear d)
    go_roundg (l.length-(kk+1))
    case measure=>omega
    case rel=>
     refine⟨kk+1,by omega,by omega,by go_num,(BW.o.t ((Qa wr _).m BW.o.size)).t (q.o.m (zi BW.o.size (by simp))),v,?_,HV⟩;show Q5 _ _ _ (dk0 (firsts (l.take (kk+1))));rw[HS.o,HA.o];exact z.o.j q.o
   have hF:J1 acc x.1 = -1:=by unfold J1;rw[zw hf]
   have f:addF acc x=acc ++ [x]:=by unfold addF;rw[zw hf]
   rw[show J1 (dk0 acc).files x.1 = -1 from hF] at m;have HA:=zh f;clear hF hf f
   go_wp2_with (go_at_call 122;refine m.m ?_;rintro e w2⟨rfl,d⟩;have q:=zh d;have n:=z.o.j d;have r:=zh n;have c0:=n.cells.1.1;have E:=n.cells.2 0;have H:=n.lt;have e1:=(d.cell (p:=⟨wr.heap.size,0,none⟩) (by simp)).t (zW #[.string x.1,.string x.2] 132 wr.heap.size 0 rfl);have e2:=(d.cell (p:=⟨wr.heap.size,1,none⟩) (by simp)).t (zW #[.string x.1,.string x.2] 132 wr.heap.size 1 rfl);have I:wr.heap.size<w2.heap.size:=zJ (by simp) d.size;clear d n)
   go_region_law (refine Qf5 rfl _ _ _ rfl 0 132 i _ 2 32 underlying32 HI.o.1 HI.o.2.1 HI.o.2.2.1 HI.o.2.2.2 rfl (by decide) (by decide) v acc.length (Zs acc) rfl (Qn r.o.2 ((Ql w2).alloc (zg _) _)) ⟨w2.heap.size,0,none⟩ 1 1 [.string x.1,.string x.2] rfl rfl (Qit _ _ _ _ _ rfl) (by simp[Value.oneCell']) (by decide) (by omega) (zE _) ?_;intro v' w' h2 h3 h4 h5;obtain⟨gb,cp,rfl,N⟩:=Qbz h2 h5;obtain⟨H2,H3,H4⟩:=zh3 h2 ((Fr.ofBelow (S:=λk=>v.ownBlock=some k) ((Ql w2).alloc (zg _) _)).t (Fr.ofGrown h3 λk _ e=>e)) ((Qba.refl w2 v).t h4 (by simp));have k3:=H3.o.cell c0 r.o.parts;have k4:=(H3.o.frozen (p:=⟨w.heap.size,0,none⟩) H r.o.parts).t E;clear h2 h3 h4 h5)
   all_goals (
    go_wp2
    go_roundg (l.length-(kk+1))
    case measure=>omega
    case rel=>
     have hp:=r.o.pushed x H3.o H2.o
     have F:w.heap.size<=w2.heap.size:=zi BW.o.size (VD I)
     refine⟨kk+1,by omega,by omega,by go_num,((BW.o.t ((Qa wr _).m BW.o.size)).t (q.o.m (zi BW.o.size (by simp)))).t (hp.2.j F ?_),.slice (some ⟨gb,0,none⟩) (acc.length+1) cp,?_,?_⟩
     .intro k hk hd
      rcases hd with rfl|hd
      .omega
      have:=HV.o k hd
      omega
     .show Q5 _ _ _ (dk0 (firsts (l.take (kk+1))))
      rw[HS.o,HA.o]
      exact hp.1
     show ∀ k,_->_
     intro k hk
     rcases H4.o k hk with B | B
     .exact HV.o k B
     omega)
  have C:¬ (kk:Int)<(l.length:Int):=by omega
  have:kk=l.length:=by omega
  subst this;go_wp2;go_ret;refine⟨_,rfl,v,?_,BW.o,zg _,HV.o⟩
  have:=t.o
  rw[vz] at this;exact this
def Qlt(gd:Nat)(ve vl vp:J)(L:Lg):Array J:=#[.iface 50 (.pointer (some ⟨gd,0,none⟩)),.string L.key,ve,vl,vp,.bool L.failed]
def LogS(g:Nat)(ve vl vp:J)(vs:List J)(k:Nat):Prop:=k=g∨ve.ownBlock=some k∨vl.ownBlock=some k∨vp.ownBlock=some k∨∃ v∈vs,v.ownBlock=some k
structure Z2(w:G)(g gd:Nat)(ve vl vp:J)(vs:List J)(L:Lg):Prop where
 cells:w.heap[g]?=some (.cells (Qlt gd ve vl vp L) 237 (0,0))
 ents:Yn w 0 ve L.entries
 rows:w.ownsRow 0 133 1 vl L.levels.length vs
 each:∀ (j:Nat) (v:J) (r:List Hsh),vs[j]?=some v->L.levels[j]?=some r->Qa5 w 0 v r
 apart:∀ (i j:Nat) (a b:J) (k:Nat),vs[i]?=some a->vs[j]?=some b->a.ownBlock=some k->b.ownBlock=some k->i=j
 puts:w.ownsRow 0 3 1 vp L.put.length (L.put.map λ(n:Nat)=>.int .i64 (n:Int))
def Qc4(w:G)(T:Nat->Prop):Prop:=∀ k C fz,w.heap[k]?=some (.cells C 5 fz)->¬ T k
variable {k:Nat}
theorem Qk{e:TypeId}{c:Nat}{n:Nat}{xs:List J}(h:w.ownsRow base e c v n xs)(a:v.ownBlock=some k):∃ C,w.heap[k]?=some (.cells C e (0,0)):=by
 rcases h.2 with⟨rfl,_⟩|⟨b,cap,cur,rfl,_,hb,_⟩
 .simp[Value.ownBlock] at a
 simp[Value.ownBlock] at a;subst a;exact⟨cur,hb⟩
variable {T:Nat->Prop}
theorem Yn.fr{ls:Uc}(h:Yn w base v ls)(a:Fr T w w')(b:∀ k,v.ownBlock=some k->¬ T k)(c:Qc4 w T):Yn w' base v ls:=by obtain⟨vs,h1,h2⟩:=h;exact⟨vs,Zf h1 a b,λj u l hu hl=>(h2 j u l hu hl).same λk C fz hk=>a.block k (Qb hk) (c k C fz hk)⟩
variable {gd:Nat} {ve vl vp:J} {vs:List J} {L:Lg}
theorem Z2.fr(h:Z2 w g gd ve vl vp vs L)(b:Fr T w w')(a:∀ k,LogS g ve vl vp vs k->¬ T k)(c:Qc4 w T):Z2 w' g gd ve vl vp vs L where
 cells:=b.heap h.cells (a g (.inl rfl))
 ents:=h.ents.fr b (λk hk=>a k (.inr (.inl hk))) c
 rows:=Zf h.rows b λk hk=>a k (.inr (.inr (.inl hk)))
 each j v r hv hr:=Zf (h.each j v r hv hr) b λk hk=>a k (.inr (.inr (.inr (.inr ⟨v,zr hv,hk⟩))))
 apart:=h.apart
 puts:=Zf h.puts b λk hk=>a k (.inr (.inr (.inr (.inl hk))))
theorem Z2.j(h:Z2 w g gd ve vl vp vs L)(a:Bz w w'):Z2 w' g gd ve vl vp vs L:=
 h.fr (T:=λ_=>False) (Fr.ofBelow a) (λ_ _ h=>h) (λ_ _ _ _ h=>h)
theorem Z2.kinds(h:Z2 w g gd ve vl vp vs L)(a:LogS g ve vl vp vs k):∃ C t,w.heap[k]?=some (.cells C t (0,0))/\(t=237∨t=147∨t=133∨t=3∨t=143):=by
 rcases a with rfl|a|a|a|⟨v,hv,a⟩
 .exact⟨_,_,h.cells,.inl rfl⟩
 .obtain⟨vs',h1,_⟩:=h.ents
  obtain⟨C,hC⟩:=Qk h1 a;exact⟨C,_,hC,.inr (.inl rfl)⟩
 .obtain⟨C,hC⟩:=Qk h.rows a
  exact⟨C,_,hC,.inr (.inr (.inl rfl))⟩
 .obtain⟨C,hC⟩:=Qk h.puts a
  exact⟨C,_,hC,.inr (.inr (.inr (.inl rfl)))⟩
 obtain⟨j,hj⟩:=Vc.1 hv;have hl:vs.length=L.levels.length:=by simpa using h.rows.1
 have b:j<L.levels.length:=by have:=(zj.1 hj).1;omega
 obtain⟨C,hC⟩:=Qk (h.each j v _ hj (ze b)) a;exact⟨C,_,hC,.inr (.inr (.inr (.inr rfl)))⟩
theorem Z2.noBytes(h:Z2 w g gd ve vl vp vs L):Qc4 w (LogS g ve vl vp vs):=by
 intro k C fz hk hs;obtain⟨C',t,h1,h2⟩:=h.kinds hs;rw[hk] at h1;cases h1
 revert h2
 decide
theorem Q5.noBytes(h:Q5 w g v d):Qc4 w (dkS g v):=by
 intro k C fz hk hs;rcases hs with rfl|hs
 .have:=h.1
  rw[hk] at this;simp at this
 obtain⟨C',h1⟩:=Qk h.2 hs;rw[hk] at h1;simp at h1
theorem Z2.apartDisk{a:Nat}(h:Z2 w g gd ve vl vp vs L)(b:Q5 w a v d):∀ k,LogS g ve vl vp vs k->¬ dkS a v k:=by
 intro k hk hs;obtain⟨C',t,h1,h2⟩:=h.kinds hk;rcases hs with rfl|hs
 .rw[b.1] at h1
  cases h1
  revert h2
  decide
 obtain⟨C,h3⟩:=Qk b.2 hs;rw[h3] at h1;cases h1
 revert h2
 decide
theorem Z2.heads(h:Z2 w g gd ve vl vp vs L):(w.cell? ⟨g,0,none⟩=some (.iface 50 (.pointer (some ⟨gd,0,none⟩)))/\w.cell? ⟨g,1,none⟩=some (.string L.key)/\w.cell? ⟨g,2,none⟩=some ve/\w.cell? ⟨g,3,none⟩=some vl/\w.cell? ⟨g,4,none⟩=some vp/\w.cell? ⟨g,5,none⟩=some (.bool L.failed))/\∀ i,w.frozen? ⟨g,i,none⟩=false:=
 ⟨⟨Qd h.cells 0 rfl,Qd h.cells 1 rfl,Qd h.cells 2 rfl,Qd h.cells 3 rfl,Qd h.cells 4 rfl,Qd h.cells 5 rfl⟩,λi=>Qu h.cells i⟩
theorem Q2w(w:G)(g b:Nat)(d f i:J)(j:List J)(L:Lg)(h:Z2 w g b d f i j L):Calls prog 125 #[.pointer (some ⟨g,0,none⟩)] w λe w'=>e=.returned (.int .i64 L.entries.length)/\w=w':=by
 obtain⟨⟨_,_,c2,_⟩,_⟩:=h.heads;obtain⟨vs',h1,_⟩:=h.ents;obtain⟨a,c,rfl⟩:=Zo h1;clear h
 go_enter func125,ntmps125
 go_wp2;go_ret;exact⟨rfl,rfl⟩
def Q3z(w:G)(base:Nat)(p:O)(e u:J):Prop:=∃ q,u=.iface 219 (.pointer (some ⟨q,0,none⟩))/\base<=q/\w.heap[q]?=some (.cells #[.string p,e] 221 (0,0))
theorem Qrg(w:G)(p:O)(t:TypeId)(x:J):Calls prog 160 #[.string p,.iface t x] w λe w'=>∃ u,e=.returned u/\Q3z w' w.heap.size p (.iface t x) u/\Bz w w':=by
 go_enter func160,ntmps160
 go_wp2;go_ret;exact⟨_,rfl,⟨w.heap.size,rfl,zg _,zy w _⟩,Qa w _⟩
def node4(r:List Hsh):Hsh:=Z9 (Z9 (r.getD (r.length-4) Zb) (r.getD (r.length-4+1) Zb)) (Z9 (r.getD (r.length-4+2) Zb) (r.getD (r.length-4+3) Zb))
def Qe3:List (List Hsh)->Hsh->List (List Hsh)
 | [],h=>[[h]]
 | r :: rs,h=>if (r.length+1)%4=0 then (r ++ [h]) :: Qe3 rs (node4 (r ++ [h])) else (r ++ [h]) :: rs
def nLev(n:Nat):Nat:=if h:n=0 then 0 else nLev (n / 4)+1
termination_by n
decreasing_by omega
theorem Qaq(n:Nat):∀ k,k<nLev n↔4 ^ k<=n:=by
 induction n using Nat.strongRecOn with
 | _ n ih=>
  intro k;rw[nLev]
  split
  .rename_i h
   have:=VG (n:=k) (show 0<4 by decide)
   omega
  rename_i h;cases k with
  | zero=>simp;omega
  | succ k=>
   have h1:=ih (n / 4) (by omega) k;rw[Nat.add_lt_add_iff_right,h1,vG (by decide),ZD]
def Z4(ls:Uc)(k:Nat):List Hsh:=(List.range (ls.length / 4 ^ k)).map λj=>Zw ls (2*k) j
def levels(ls:Uc):List (List Hsh):=(List.range (nLev ls.length)).map (Z4 ls)
theorem Qea(ls:Uc)(e:Ud):∀ (L i:Nat),(i+1)*2 ^ L<=ls.length->Zw (ls ++ [e]) L i=Zw ls L i
 | 0,i,h=>by
  have hi:i<ls.length:=by simp at h;omega
  simp only[Zw]
  rw[zz,zz,zV hi]
 | L+1,i,h=>by
  have e1:(i+1)*2 ^ (L+1)=(2*i+1+1)*2 ^ L:=by rw[ZD,vE (2 ^ L) 2,<-Vk];congr 1;omega
  have e2:(2*i+1)*2 ^ L<=(2*i+1+1)*2 ^ L:=ZA _ (by omega)
  simp only[Zw]
  rw[Qea ls e L (2*i) (by omega),Qea ls e L (2*i+1) (by omega)]
theorem Qg4(k:Nat):2 ^ (2*k)=4 ^ k:=by rw[Nat.pow_mul]
theorem Jr(ls:Uc)(k:Nat):(Z4 ls k).length=ls.length / 4 ^ k:=by simp[Z4]
theorem Qch(ls:Uc)(k j:Nat)(h:j<ls.length / 4 ^ k):(Z4 ls k).getD j Zb=Zw ls (2*k) j:=by rw[zz];simp[Z4,h]
theorem Qk7(ls:Uc)(e:Ud)(k:Nat)(h:(ls.length+1) / 4 ^ k=ls.length / 4 ^ k):Z4 (ls ++ [e]) k=Z4 ls k:=by
 unfold Z4;rw[zn,show [e].length=1 from rfl,h];apply Xs;intro j hj;have a:j<ls.length / 4 ^ k:=by simpa using hj
 apply Qea;rw[Qg4]
 have:=(vG (VG (n:=k) (show 0<4 by decide))).1 (show j+1<=ls.length / 4 ^ k by omega)
 exact this
theorem Qg0(ls:Uc)(e:Ud)(k q:Nat)(b:ls.length / 4 ^ k=q)(a:(ls.length+1) / 4 ^ k=q+1):Z4 (ls ++ [e]) k=Z4 ls k ++ [Zw (ls ++ [e]) (2*k) q]:=by
 unfold Z4;rw[zn,show [e].length=1 from rfl,a,b,List.range_succ,zL]
 congr 1
 apply Xs;intro j hj;have c:j<q:=by simpa using hj
 apply Qea;rw[Qg4];exact (vG (VG (n:=k) (show 0<4 by decide))).1 (show j+1<=ls.length / 4 ^ k by omega)
theorem Qq7(ls:Uc)(k:Nat)(h:k<nLev ls.length):(levels ls).drop k=Z4 ls k :: (levels ls).drop (k+1):=by
 have hl:k<(levels ls).length:=by simpa [levels] using h
 rw[zZ hl]
 congr 1
 simp[levels]
theorem Qro(ls:Uc)(k:Nat)(h:nLev ls.length<=k):(levels ls).drop k = []:=by apply V5;simpa [levels] using h
theorem Q7v(ls:Uc)(k q j:Nat)(b:ls.length / 4 ^ k=q)(a:q=4*j+4):node4 (Z4 ls k)=Zw ls (2*(k+1)) j:=by
 have hl:(Z4 ls k).length-4=4*j:=by rw[Jr];omega
 unfold node4;rw[hl,Qch ls k _ (by omega),Qch ls k _ (by omega),Qch ls k _ (by omega),Qch ls k _ (by omega)];show _=Zw ls (2*k+1+1) j;simp only[Zw];have e1:2*(2*j)=4*j:=by omega
 have e2:2*(2*j+1)=4*j+2:=by omega
 rw[e1,e2]
theorem Qyh(ls:Uc)(e:Ud):∀ (m k q:Nat),nLev (ls.length+1)<=k+m->ls.length+1=(q+1)*4 ^ k->
  Qe3 ((levels ls).drop k) (Zw (ls ++ [e]) (2*k) q)=(levels (ls ++ [e])).drop k:=by
 intro m;have d:(ls ++ [e]).length=ls.length+1:=by simp
 induction m with
 | zero=>
  intro k q h1 h2;have h3:4 ^ k<=ls.length+1:=by rw[h2];exact VX _ (by omega)
  have:=(Qaq (ls.length+1) k).2 h3
  omega
 | succ m ih=>
  intro k q h1 h2;have hp:0<4 ^ k:=VG (by decide);have h3:4 ^ k<=ls.length+1:=by rw[h2];exact VX _ (by omega)
  have h4:=(Qaq (ls.length+1) k).2 h3;have f:(ls.length+1) / 4 ^ k=q+1:=by rw[h2];exact XB _ hp
  have hq:ls.length / 4 ^ k=q:=by rw[vC,vP] at h2;exact xD (by omega) (by rw[vC,vP];omega)
  rw[Qq7 (ls ++ [e]) k (by rw[d];exact h4),Qg0 ls e k q hq f];by_cases hk:k<nLev ls.length
  .rw[Qq7 ls k hk]
   rw[Qe3,Jr,hq];by_cases h0:(q+1)%4=0
   .rw[zD h0]
    congr 1
    obtain⟨j,hj⟩:∃ j,q+1=4*j+4:=⟨q / 4,by omega⟩
    have hn:=Q7v (ls ++ [e]) k (q+1) j (by rw[d];exact f) hj;rw[Qg0 ls e k q hq f] at hn;rw[hn];apply ih (k+1) j (by omega);rw[h2,hj,ZD,vE (4 ^ k) 4,<-Vk]
    congr 1
    omega
   rw[zw h0]
   congr 1
   have g:∀ i,k<i->¬ 4 ^ i ∣ ls.length+1:=by intro i hi hd;have h5:4 ^ (k+1) ∣ ls.length+1:=zb5 (zal 4 hi) hd;rw[h2,ZD,vE (4 ^ k) 4] at h5;have h6:=Nat.dvd_of_mul_dvd_mul_right hp h5;omega
   have l:nLev (ls.length+1)=nLev ls.length:=by
    have hi:=Qaq (ls.length+1) (nLev ls.length);have hj:=Qaq ls.length (nLev ls.length);have n:nLev ls.length<=nLev (ls.length+1):=by
     rcases zK (nLev (ls.length+1)) (nLev ls.length) with h|h
     .have a:=(Qaq ls.length _).1 h
      have b:=(Qaq (ls.length+1) (nLev (ls.length+1))).2 (by omega);omega
     exact h
    rcases zK (nLev ls.length) (nLev (ls.length+1)) with h|h
    .have a:=hi.1 h
     have b:¬ 4 ^ nLev ls.length<=ls.length:=λc=>by have:=hj.2 c;omega
     have c:4 ^ nLev ls.length=ls.length+1:=by omega
     exact absurd (by rw[c];exact Nat.dvd_refl _) (g _ hk)
    omega
   apply List.ext_getElem
   .simp[levels,l]
   intro i hi hj;simp only[levels,List.getElem_drop,XZ,List.getElem_range];rw[Qk7];rw[Nat.succ_div_of_not_dvd (g _ (by omega))]
  have o:¬ 4 ^ k<=ls.length:=λh=>hk ((Qaq _ _).2 h)
  have h0:q=0:=by
   have:ls.length / 4 ^ k=0:=Nat.div_eq_of_lt (by omega)
   omega
  subst h0;have hr:Z4 ls k = []:=zG (by rw[Jr,hq]);have hn:nLev (ls.length+1)<=k+1:=by
   rcases zK (k+1) (nLev (ls.length+1)) with h|h
   .have:=(Qaq _ _).1 h
    rw[ZD] at this;omega
   exact h
  rw[Qro ls k (by omega),Qro (ls ++ [e]) (k+1) (by rw[d];exact hn),hr];rfl
theorem Qwf(ls:Uc)(e:Ud):Qe3 (levels ls) (Jz e)=levels (ls ++ [e]):=by
 have h:=Qyh ls e (nLev (ls.length+1)) 0 ls.length (by omega) (by simp);have hf:Zw (ls ++ [e]) (2*0) ls.length=Jz e:=by simp only[Nat.mul_zero,Zw];rw[zz];simp
 rw[hf] at h;simpa using h
def Sub(w:G)(S S':Nat->Prop):Prop:=∀ k,S' k->S k∨w.heap.size<=k
theorem Sub.refl(w:G)(S:Nat->Prop):Sub w S S:=λ_ h=>.inl h
variable {A B:Nat->Prop}
theorem Sub.t{C:Nat->Prop}(h:Sub w A B)(k:Sub w' B C)(a:w.heap.size<=w'.heap.size):Sub w A C:=λi hi=>by
 rcases k i hi with h1|h1
 .exact h i h1
 exact .inr (zi a h1)
theorem Sub.m(h:Sub w' A B)(a:w.heap.size<=w'.heap.size):Sub w A B:=λi hi=>(h i hi).imp id (zi a)
theorem Fr.sub{S d:Nat->Prop}{a b c:G}(h:Fr S a b)(k:Fr d b c)(e:Sub a S d):Fr S a c:=
 h.step k λi hi hS=>by
  rcases e i hS with h1|h1
  .exact h1
  omega
variable {f:Nat×Nat}
theorem Zz{a b:Nat}{x y:Array J}{s t:TypeId}{h:Nat×Nat}(e:w.heap[a]?=some (.cells x s f))(c:w.heap[b]?=some (.cells y t h))(d:s≠t):a≠b:=by rintro rfl;rw[e] at c;cases c;exact d rfl
theorem Z2.rowsNe(h:Z2 w g gd ve vl vp vs L):¬ vl.ownBlock=some g:=λe=>by
 obtain⟨C,hC⟩:=Qk h.rows e
 exact Zz h.cells hC (by decide) rfl
def LvS(g:Nat)(_ve vl _vp:J)(vs:List J)(k:Nat):Prop:=k=g∨vl.ownBlock=some k∨∃ v∈vs,v.ownBlock=some k
theorem LvS.log(h:LvS g ve vl vp vs k):LogS g ve vl vp vs k:=by
 rcases h with h|h|h
 .exact .inl h
 .exact .inr (.inr (.inl h))
 exact .inr (.inr (.inr (.inr h)))
theorem Z2.lvOf(h:Z2 w g gd ve vl vp vs L){C:Array J}(b:w.heap[k]?=some (.cells C 143 f))(a:LogS g ve vl vp vs k):LvS g ve vl vp vs k:=by
 rcases a with rfl|a|a|a|a
 .exact .inl rfl
 .obtain⟨vs',h1,_⟩:=h.ents
  obtain⟨C',h2⟩:=Qk h1 a;exact absurd rfl (Zz b h2 (by decide))
 .exact .inr (.inl a)
 .obtain⟨C',h2⟩:=Qk h.puts a
  exact absurd rfl (Zz b h2 (by decide))
 exact .inr (.inr a)
variable {vl':J}
theorem Zax{a:List J}(h:Sub w (LvS g ve vl vp vs) (LvS g ve vl' vp a)):Sub w (LogS g ve vl vp vs) (LogS g ve vl' vp a):=by
 intro k hk;rcases hk with hk|hk|hk|hk|hk
 .exact .inl (.inl hk)
 .exact .inl (.inr (.inl hk))
 .exact (h k (.inr (.inl hk))).imp LvS.log id
 .exact .inl (.inr (.inr (.inr (.inl hk))))
 exact (h k (.inr (.inr hk))).imp LvS.log id
variable {w1:G}
theorem Z2.pushLevel(h:Z2 w g gd ve vl vp vs L)(l:Fr (λk=>vl.ownBlock=some k) w w1)(n:w1.ownsRow 0 133 1 vl' (L.levels.length+1) (vs ++ [.slice none 0 0]))(q:Qba w vl vl'):Z2 (w1.setCell ⟨g,3,none⟩ vl') g gd ve vl' vp (vs ++ [.slice none 0 0]) { L with levels:=L.levels ++ [[]] }/\Fr (LvS g ve vl vp vs) w (w1.setCell ⟨g,3,none⟩ vl')/\
   Sub w (LvS g ve vl vp vs) (LvS g ve vl' vp (vs ++ [.slice none 0 0])):=by
 have p:∀ k,vl.ownBlock=some k->∃ C,w.heap[k]?=some (.cells C 133 (0,0)):=λk hk=>Qk h.rows hk
 have c:∀ {k:Nat} {C:Array J} {t:TypeId} {f:Nat×Nat},w.heap[k]?=some (.cells C t f)->t≠133->vl.ownBlock≠some k:=λhk ht e=>by obtain⟨C',hC⟩:=p _ e;exact Zz hk hC ht rfl
 have m:=l.heap h.cells (c h.cells (by decide));have d:∀ {k:Nat} {C:Array J} {t:TypeId} {f:Nat×Nat},w1.heap[k]?=some (.cells C t f)->t≠237->¬ k=g:=λhk ht=>Zz hk m ht
 have F2:=Fr.set1 w1 g 3 vl';have hl:vs.length=L.levels.length:=by simpa using h.rows.1
 refine⟨⟨(heap_setCell m _).t (by simp[Qlt]),?_,?_,λj v r hv hr=>?_,λi j a b k hi hj ha hb=>?_,?_⟩,(l.weak λk _ hk=>.inr (.inl hk)).t (F2.weak λk _ hk=>.inl hk),λk hk=>?_⟩
 .have h1:=h.ents.fr l (λk hk e=>by
   obtain⟨vs',h1,_⟩:=h.ents
   obtain⟨C,hC⟩:=Qk h1 hk
   exact c hC (by decide) e) (λk C fz hk e=>c hk (by decide) e)
  exact h1.fr F2 (λk hk e=>by
   obtain⟨vs',h3,_⟩:=h1
   obtain⟨C,hC⟩:=Qk h3 hk
   exact d hC (by decide) e) (λk C fz hk e=>d hk (by decide) e)
 .have:=Zf n F2 λk hk e=>by obtain⟨C,hC⟩:=Qk n hk;exact d hC (by decide) e
  simpa using this
 .by_cases hj:j<vs.length
  .rw[zV hj] at hv
   rw[zV (by omega)] at hr;have h0:=h.each j v r hv hr;have h1:=Zf h0 l λk hk e=>by obtain⟨C,hC⟩:=Qk h0 hk;exact c hC (by decide) e
   exact Zf h1 F2 λk hk e=>by obtain⟨C,hC⟩:=Qk h1 hk;exact d hC (by decide) e
  rw[ZC (by omega)] at hv hr;have o:j-vs.length=0:=by
   rcases vg (j-vs.length) with h|h
   .exact h
   rw[vq (by simp;omega)] at hv;cases hv
  rw[o] at hv;rw[show j-L.levels.length=0 by omega] at hr;cases hv;cases hr;exact zv _ _ _ _
 .have key:∀ (i:Nat) (a:J),(vs ++ [Value.slice none 0 0])[i]?=some a->a.ownBlock=some k->vs[i]?=some a:=by
   intro i a hi ha;by_cases hlt:i<vs.length
   .rwa [zV hlt] at hi
   rw[ZC (by omega)] at hi
   have:=zr hi
   simp at this;subst this;simp[Value.ownBlock] at ha
  exact h.apart i j a b k (key i a hi ha) (key j b hj hb) ha hb
 .have h1:=Zf h.puts l λk hk e=>by obtain⟨C,hC⟩:=Qk h.puts hk;exact c hC (by decide) e
  exact Zf h1 F2 λk hk e=>by obtain⟨C,hC⟩:=Qk h1 hk;exact d hC (by decide) e
 rcases hk with hk|hk|⟨v,hv,hk⟩
 .exact .inl (.inl hk)
 .exact (q k hk).imp (λh=>.inr (.inl h)) id
 rcases ZL.1 hv with hv|hv
 .exact .inl (.inr (.inr ⟨v,hv,hk⟩))
 simp at hv;subst hv;simp[Value.ownBlock] at hk
theorem Z2.pushHash{v d:J}(h:Z2 w g gd ve vl vp vs L){j m cp:Nat}{r:List Hsh}(x:Hsh)(s:vs[j]?=some v)(P:L.levels[j]?=some r)(p:Fr (λk=>v.ownBlock=some k) w w1)(B:Qa5 w1 0 d (r ++ [x]))(F:Qba w v d)(o:vl=.slice (some ⟨m,0,none⟩) L.levels.length cp):Z2 (w1.setCell ⟨m,j,none⟩ d) g gd ve vl vp (vs.set j d) { L with levels:=L.levels.set j (r ++ [x]) }/\Fr (LvS g ve vl vp vs) w (w1.setCell ⟨m,j,none⟩ d)/\
   Sub w (LvS g ve vl vp vs) (LvS g ve vl vp (vs.set j d)):=by
 have h0:=h.each j v r s P;have hl:vs.length=L.levels.length:=by simpa using h.rows.1
 have z:j<vs.length:=(zj.1 s).1;have l:∀ {k:Nat} {C:Array J} {t:TypeId} {f:Nat×Nat},w.heap[k]?=some (.cells C t f)->t≠143->v.ownBlock≠some k:=λhk ht e=>by obtain⟨C',hC⟩:=Qk h0 e;exact Zz hk hC ht rfl
 obtain⟨cur,y,n⟩:∃ cur:Array J,w.heap[m]?=some (.cells cur 133 (0,0))/\(L.levels.length<=cp/\cp<=maxLen/\cur.size=cp*1/\cur.toList.take (L.levels.length*1)=vs):=by
  rcases h.rows.2 with⟨e,_⟩|⟨b,cap,cur,e,_,hb,H,I,K,M⟩
  .rw[o] at e;cases e
  rw[o] at e;cases e;exact⟨cur,hb,H,I,K,M⟩
 have A:=p.heap y (l y (by decide));have c:∀ {k:Nat} {C:Array J} {t:TypeId} {f:Nat×Nat},w1.heap[k]?=some (.cells C t f)->t≠133->¬ k=m:=λhk ht=>Zz hk A ht
 have F2:=Fr.set1 w1 m j d;refine⟨⟨?_,?_,?_,λi a q ha hq=>?_,λi i' a b k hi hi' ha hb=>?_,?_⟩,(p.weak λk _ hk=>.inr (.inr ⟨v,zr s,hk⟩)).t (F2.weak λk _ hk=>.inr (.inl (by rw[o,hk];rfl))),λk hk=>?_⟩
 .have h1:=p.heap h.cells (l h.cells (by decide))
  exact J8 h1 (c h1 (by decide)) _
 .have h1:=h.ents.fr p (λk hk e=>by
   obtain⟨vs',h1,_⟩:=h.ents
   obtain⟨C,hC⟩:=Qk h1 hk
   exact l hC (by decide) e) (λk C fz hk e=>l hk (by decide) e)
  exact h1.fr F2 (λk hk e=>by
   obtain⟨vs',h3,_⟩:=h1
   obtain⟨C,hC⟩:=Qk h3 hk
   exact c hC (by decide) e) (λk C fz hk e=>c hk (by decide) e)
 .refine⟨by simp[hl],.inr ⟨m,cp,_,by simpa using o,zE _,heap_setCell A _,by simpa using n.1,n.2.1,by simpa using n.2.2.1,?_⟩⟩
  rw[xr,zb4];simp only[Vn];rw[n.2.2.2]
 .by_cases hij:i=j
  .subst hij
   rw[vA z] at ha;rw[vA (by omega)] at hq;cases ha;cases hq;exact Zf B F2 λk hk e=>by obtain⟨C,hC⟩:=Qk B hk;exact c hC (by decide) e
  rw[VH (λe=>hij e.symm)] at ha hq;have h3:=h.each i a q ha hq;have h4:=Zf h3 p λk hk e=>hij (h.apart i j a v k ha s hk e)
  exact Zf h4 F2 λk hk e=>by obtain⟨C,hC⟩:=Qk h4 hk;exact c hC (by decide) e
 .have E:∀ (i:Nat) (a:J),vs[i]?=some a->a.ownBlock=some k->k<w.heap.size:=λi a hi ha=>by
   have D:i<L.levels.length:=by have:=(zj.1 hi).1;omega
   obtain⟨C,hC⟩:=Qk (h.each i a _ hi (ze D)) ha;exact Qb hC
  have key:∀ (i:Nat) (a:J),i≠j->(vs.set j d)[i]?=some a->a.ownBlock=some k->d.ownBlock=some k->False:=λi a hij hi ha N=>by
   rw[VH (λe=>hij e.symm)] at hi;rcases F k N with h5|h5
   .exact hij (h.apart i j a v k hi s ha h5)
   have:=E i a hi ha
   omega
  by_cases h1:i=j
  .by_cases h3:i'=j
   .rw[h1,h3]
   subst h1;rw[vA z] at hi;cases hi;exact (key i' b h3 hi' hb ha).elim
  by_cases h3:i'=j
  .subst h3
   rw[vA z] at hi';cases hi';exact (key i a h1 hi ha hb).elim
  rw[VH (λe=>h1 e.symm)] at hi;rw[VH (λe=>h3 e.symm)] at hi';exact h.apart i i' a b k hi hi' ha hb
 .have h1:=Zf h.puts p λk hk e=>by obtain⟨C,hC⟩:=Qk h.puts hk;exact l hC (by decide) e
  exact Zf h1 F2 λk hk e=>by obtain⟨C,hC⟩:=Qk h1 hk;exact c hC (by decide) e
 rcases hk with hk|hk|⟨u,hu,hk⟩
 .exact .inl (.inl hk)
 .exact .inl (.inr (.inl hk))
 rcases xx hu with hu|hu
 .exact .inl (.inr (.inr ⟨u,hu,hk⟩))
 subst hu;exact (F k hk).imp (λh=>.inr (.inr ⟨v,zr s,h⟩)) id
def Qbj(f:Nat->Addr)(S:Nat->Prop)(w:G):Prop:=∀ w',Fr S w w'->Z5 w'/\Yp w' f/\Qio w'
variable {f:Nat->Addr}
theorem Qbj.num(h:Qbj f S w):Z5 w:=(h w (Fr.refl S w)).1
theorem Qbj.sents(h:Qbj f S w):Yp w f:=(h w (Fr.refl S w)).2.1
theorem Qbj.errT(h:Qbj f S w):Qio w:=(h w (Fr.refl S w)).2.2
variable {S':Nat->Prop}
theorem Qbj.step(h:Qbj f S w)(a:Fr S w w1)(b:Sub w S S'):Qbj f S' w1:=λw2 h2=>h w2 (Fr.sub a h2 b)
theorem Qbj.fr(h:Qbj f S w)(a:Fr S w w1):Qbj f S w1:=h.step a (Sub.refl w S)
theorem Qbj.j(h:Qbj f S w)(a:Bz w w1):Qbj f S w1:=h.fr (Fr.ofBelow a)
theorem Qbj.less(h:Qbj f S w)(a:∀ k,S' k->S k):Qbj f S' w:=λw' h'=>h w' (h'.weak λk _ hk=>a k hk)
theorem Qjo{w0:G}(a:Bz w0 w)(d:Z5 w0)(e:Yp w0 f)(c:Qio w0)(b:∀ k,S k->w0.heap.size<=k):Qbj f S w:=λw' h'=>by
 have h1:Bz w0 w':=a.t (h'.j a.size λk hk hd=>by have:=b k hd;omega)
 exact⟨d.j h1,e.j h1,c.j h1⟩
abbrev Fil:=O×O
variable {l:List Fil}
theorem Qto:Yk l p<l.length↔∃ f∈l,f.1=p:=by unfold Yk;rw[List.findIdx_lt_length];simp
theorem Jw(h:getF l p=some b):(p,b)∈l:=by
 unfold getF at h;cases hx:l[Yk l p]? with
 | none=>rw[hx] at h;simp at h
 | some x=>
  rw[hx] at h;simp at h;obtain⟨a,c⟩:=zj.1 hx;have hp:=Qfv a;rw[c] at hp;subst h;rw[<-hp];exact zr hx
theorem Qey:getF l p=none↔∀ f∈l,f.1≠p:=by
 unfold getF;rw[Option.map_eq_none_iff,List.getElem?_eq_none_iff];constructor
 .intro h f hf e
  have:=Qto.2 ⟨f,hf,e⟩
  omega
 intro h;rcases zK (Yk l p) l.length with h1|h1
 .obtain⟨f,hf,e⟩:=Qto.1 h1
  exact absurd e (h f hf)
 exact h1
variable {k:List Fil}
theorem Qqu(h:Yk l p<l.length):Yk (l++k) p=Yk l p:=by unfold Yk at *;rw[zb0,zD h]
theorem Qo0(h:¬ Yk l p<l.length):Yk (l++k) p=Yk k p+l.length:=by unfold Yk at *;rw[zb0,zw h]
theorem Q0t(l k:List Fil)(p:O):getF (l++k) p=(getF l p).or (getF k p):=by
 by_cases h:Yk l p<l.length
 .have e:=Qqu (k:=k) h
  unfold getF;rw[e,zV h,ze h];rfl
 have e:=Qo0 (k:=k) h;have hn:getF l p=none:=Qei h;rw[hn];unfold getF;rw[e,ZC (by omega),Ve];simp
def Once(l:List Fil):Prop:=(l.map (·.1)).Nodup
theorem Qn5(h:Once l)(c:(p,b)∈l):getF l p=some b:=by
 induction l with
 | nil=>simp at c
 | cons a l ih=>
  unfold Once at h;rw[zT,ZY] at h;have e:getF (a :: l) p=(getF [a] p).or (getF l p):=Q0t [a] l p;rw[e];by_cases hp:a.1=p
  .have d:a=(p,b):=by
    rcases ZH.1 c with h1|h1
    .exact h1.symm
    exact absurd (zU.2 ⟨_,h1,hp.symm⟩) h.1
   subst d
   have:getF [(p,b)] p=some b:=by simp[getF,Yk]
   rw[this];rfl
  have hn:getF [a] p=none:=Qey.2 (by simpa using hp);rw[hn];rcases ZH.1 c with h1|h1
  .exact absurd (by rw[<-h1]) hp
  simpa using ih h.2 h1
theorem Q0s(l:List Fil)(p b:O)(h:Yk l p<l.length):(l.set (Yk l p) (p,b)).map (·.1)=l.map (·.1):=by
 rw[zbh];have hp:=Qfv h
 have:(l.map (·.1))[Yk l p]?=some p:=by rw[zN,ze h];simp[hp]
 exact List.set_getElem_self' this
where
 List.set_getElem_self' {α:Type} {l:List α} {i:Nat} {a:α} (h:l[i]?=some a):l.set i a=l:=by
  obtain⟨c,rfl⟩:=zj.1 h
  exact zam c
theorem Q4j(l:List Fil)(p b:O):(putF l p b).map (·.1)=if Yk l p<l.length then l.map (·.1) else l.map (·.1) ++ [p]:=by
 unfold putF
 split
 .exact Q0s l p b (by assumption)
 simp
theorem Qlp(h:Once l)(p b:O):Once (putF l p b):=by
 unfold Once;rw[Q4j]
 split
 .exact h
 rename_i hn;rw[VI];refine⟨h,by simp,?_⟩;intro x hx y hy e;simp at hy;subst hy;subst e;obtain⟨f,hf,a⟩:=zU.1 hx;exact hn (Qto.2 ⟨f,hf,a⟩)
theorem Q1y(h:l.map (·.1)=k.map (·.1))(p:O):Yk l p=Yk k p:=by
 have e:∀ l:List Fil,Yk l p=(l.map (·.1)).findIdx λx=>decide (x=p):=by intro l;unfold Yk;rw[List.findIdx_map];rfl
 rw[e,e,h]
theorem Qja(l:List Fil)(p b q:O):getF (putF l p b) q=if q=p then some b else getF l q:=by
 unfold putF
 split
 .rename_i h
  have hk:=Q1y (Q0s l p b h) q;by_cases hq:q=p
  .subst hq
   rw[zD rfl];unfold getF;rw[hk,vA h];rfl
  rw[zw hq];unfold getF;rw[hk,XM]
  split
  .rename_i he
   have h2:Yk l q<l.length:=by rw[<-he];exact h
   have a:=Qfv h;have c:=Qfv h2;simp only[he] at a;exact absurd (c.symm.t a) hq
  rfl
 rename_i h;rw[Q0t];by_cases hq:q=p
 .subst hq
  rw[zD rfl,Qei h];simp[getF,Yk]
 rw[zw hq]
 have:getF [(p,b)] q=none:=Qey.2 (by simpa using λe=>hq e.symm)
 rw[this,Option.or_none]
theorem Qn9(l:List Fil)(p b:O):l.length<=(putF l p b).length/\(putF l p b).length<=l.length+1:=by
 unfold putF
 split <;> simp
theorem Qyt(l:List Fil):Once (firsts l):=by
 unfold firsts
 have:∀ acc,Once acc->Once (l.foldl addF acc):=by
  induction l with
  | nil=>intro acc h;exact h
  | cons a l ih=>
   intro acc h;rw[zak];apply ih;unfold addF
   split
   .exact h
   rename_i hn
   have:putF acc a.1 a.2=acc ++ [a]:=by unfold putF;rw[zw hn]
   rw[<-this];exact Qlp h _ _
 exact this [] (by simp[Once])
def kCp:Ud:=[99,104,101,99,107,112,111,105,110,116]
theorem Qfp{l i w l' c w':Int}(h:Ja l i w)(d:Ja l' c w')(g:i<9223372036854775808)(f:c<9223372036854775808)(e:Yb l i w=Yb l' c w'):l=l'/\i=c/\w=w':=by rw[Qav h,Qav d] at e;have a:=Qd4 h g;have b:=Qd4 d f;rw[e,b] at a;simp only[V6] at a;exact⟨a.1.symm,a.2.1.symm,a.2.2.1.symm⟩
theorem Qfx(l i w:Int):Yb l i w≠kCp:=by
 unfold Yb
 split
 .unfold Yq
  split
  .intro e;simp[kT,kCp] at e
  intro e;simp[kE,kCp] at e
 simp[kCp]
def Yv(t:Int)(data:Uc)(j:Nat):Fil:=(sOf (Yb t j ((min 4 (data.length-4*j):Nat):Int)),sOf ((data.drop (4*j)).take 4).flatten)
def Jk(t:Int)(data:Uc):List Fil:=(List.range ((data.length+3) / 4)).map (Yv t data)
theorem Qcd(t:Int)(data:Uc):(Jk t data).length=(data.length+3) / 4:=by simp[Jk]
theorem Qfm(t:Int)(data:Uc)(j:Nat)(h:4*j<data.length):(Jk t data)[j]?=some (Yv t data j):=by unfold Jk;rw[zN,xE (by omega)];rfl
theorem Qpy(t:Int)(data:Uc)(j:Nat)(h:4*j<data.length):(Jk t data).drop j=Yv t data j :: (Jk t data).drop (j+1):=by
 have hl:j<(Jk t data).length:=by rw[Qcd];omega
 rw[zZ hl]
 congr 1
 have:=Qfm t data j h
 rw[ze hl] at this;exact zR this
theorem Q3i(t:Int)(data:Uc)(j:Nat)(h:data.length<=4*j):(Jk t data).drop j = []:=by apply V5;rw[Qcd];omega
def Qae:Int->List Uc->List Fil
 | _,[]=>[]
 | t,r :: rs=>Jk t r++Qae (t+1) rs
def Zc(es:Uc):List Uc:=es.map encE :: (levels es).map λr=>r.map λ(h:Hsh)=>h.toList
def Y9(es:Uc):List Fil:=Qae (-1) (Zc es)
variable {f:Fil}
theorem Qce:∀ (rs:List Uc) (t:Int),f∈Qae t rs↔∃ (n:Nat) (r:Uc) (j:Nat),rs[n]?=some r/\4*j<r.length/\f=Yv (t+(n:Int)) r j
 | [],t=>by simp[Qae]
 | r :: rs,t=>by
   rw[Qae,ZL,Qce rs (t+1)]
   constructor
   .rintro (h|⟨n,r',j,h1,h2,h3⟩)
    .unfold Jk at h
     obtain⟨j,hj,rfl⟩:=zU.1 h
     rw[ZQ] at hj
     exact⟨0,r,j,rfl,by omega,by simp⟩
    exact⟨n+1,r',j,by simpa using h1,h2,by rw[h3];congr 1;omega⟩
   rintro ⟨n,r',j,h1,h2,h3⟩
   cases n with
   | zero=>
    simp at h1
    subst h1
    left
    rw[h3]
    unfold Jk
    exact zU.2 ⟨j,by rw[ZQ];omega,by simp⟩
   | succ n=>exact .inr ⟨n,r',j,by simpa using h1,h2,by rw[h3];congr 1;omega⟩
def Q9x(t:Int)(rs:List Uc):Prop:=-1<=t/\t+rs.length<=21/\∀ r∈rs,r.length<1099511627776
variable {t:Int} {rs:List Uc} {j:Nat} {r:Uc}
theorem Qql(h:Q9x t rs)(a:rs[n]?=some r)(b:4*j<r.length):Ja (t+n) j ((min 4 (r.length-4*j):Nat):Int)/\(j:Int)<9223372036854775808:=by
 obtain⟨h1,h2,h3⟩:=h;have hn:=(zj.1 a).1;have hl:=h3 r (zr a);unfold Ja;omega
theorem Q3h(h:Q9x t rs){d:Nat}{f:Uc}{c:Nat}(l:rs[n]?=some r)(k:4*j<r.length)(i:rs[d]?=some f)(g:4*c<f.length)(e:(Yv (t+n) r j).1=(Yv (t+d) f c).1):n=d/\j=c:=by
 have a:=Qql h l k;have b:=Qql h i g
 have:=Qfp a.1 b.1 a.2 b.2 (Qda e)
 omega
theorem Q2a(h:Q9x t rs){p a b:O}(c:(p,a)∈Qae t rs)(d:(p,b)∈Qae t rs):a=b:=by
 obtain⟨n,r,j,h1,h2,h3⟩:=(Qce rs t).1 c;obtain⟨n',r',j',k1,k2,k3⟩:=(Qce rs t).1 d;have e:(Yv (t+n) r j).1=(Yv (t+n') r' j').1:=by rw[<-h3,<-k3]
 obtain⟨rfl,rfl⟩:=Q3h h h1 h2 k1 k2 e;rw[h1] at k1;cases k1;rw[<-h3] at k3
 have:=zB Prod.snd k3
 exact this.symm
theorem Q7i(a:f∈Qae t rs):f.1≠sOf kCp:=by obtain⟨n,r,j,h1,h2,rfl⟩:=(Qce rs t).1 a;exact λe=>Qfx _ _ _ (Qda e)
def Qg6(d:Dk)(f:Fil):Bool:=Qco d.files f.1 f.2 || decide (0<Z7 d)
def putsD:Dk->List Fil->Dk×Nat
 | d,[]=>(d,0)
 | d,f :: fs=>if Qg6 d f=true then (putD d f.1 f.2,0) else ((putsD (putD d f.1 f.2) fs).1,(putsD (putD d f.1 f.2) fs).2+1)
def Qan(t:Int)(row:Uc)(j:Nat)(d:Dk):Dk×Nat×Y O:=
 ((putsD d ((Jk t row).drop j)).1,4*min (j+(putsD d ((Jk t row).drop j)).2) (row.length / 4),((Jk t row)[j+(putsD d ((Jk t row).drop j)).2]?).map (·.1))
theorem Q17(t:Int)(a:Uc)(j:Nat)(d:Dk)(h:a.length<=4*j):Qan t a j d=(d,4*(a.length / 4),none):=by unfold Qan;rw[Q3i t a j h];simp only[putsD,VC];rw[vq (by rw[Qcd];omega),Xg (by omega)];rfl
theorem Q1c(t:Int)(a:Uc)(j:Nat)(d:Dk)(h:4*j<a.length)(b:Qg6 d (Yv t a j)=true):Qan t a j d=(putD d (Yv t a j).1 (Yv t a j).2,4*min j (a.length / 4),some (Yv t a j).1):=by
 unfold Qan;rw[Qpy t a j h];simp only[putsD,zD b,VC];rw[Qfm t a j h];rfl
theorem Qza(t:Int)(a:Uc)(j:Nat)(d:Dk)(h:4*j<a.length)(c:Qg6 d (Yv t a j)=false):Qan t a j d=Qan t a (j+1) (putD d (Yv t a j).1 (Yv t a j).2):=by
 have b:¬ Qg6 d (Yv t a j)=true:=by simp[c]
 unfold Qan;rw[Qpy t a j h];simp only[putsD,zw b];generalize putsD (putD d (Yv t a j).1 (Yv t a j).2) ((Jk t a).drop (j+1))=q;rw[show j+(q.2+1)=j+1+q.2 by omega]
def pubJ:Nat->List Uc->List Nat->Dk->Dk×List Nat×Y O
 | _,[],put,d=>(d,put,none)
 | n,r :: rs,put,d=>
   let p1:=put++List.replicate (n+1-put.length) 0
   let q:=Qan ((n:Int)-1) r (p1.getD n 0 / 4) d
   match q.2.2 with
   | some p=>(q.1,p1.set n q.2.1,some p)
   | none=>pubJ (n+1) rs (p1.set n q.2.1) q.1
end
section
def Ext(W l l':List Fil):Prop:=∀ p,getF l' p=getF l p∨(getF l p=none/\∃ b,(p,b)∈W/\getF l' p=some b)
def Qbr(W l:List Fil):Prop:=∀ f∈W,Qco l f.1 f.2=false
def Qyz(W:List Fil):Prop:=∀ p a b,(p,a)∈W->(p,b)∈W->a=b
theorem Ext.refl(W l:List Fil):Ext W l l:=λ_=>.inl rfl
variable {W a b:List Fil}
theorem Ext.t{c:List Fil}(h:Ext W a b)(k:Ext W b c):Ext W a c:=λp=>by
 rcases k p with h1|⟨h1,x,h2,h3⟩
 .rcases h p with h4|⟨h4,x,h5,h6⟩
  .exact .inl (h1.t h4)
  exact .inr ⟨h4,x,h5,h1.t h6⟩
 rcases h p with h4|⟨h4,x,h5,h6⟩
 .exact .inr ⟨h4.symm.t h1,x,h2,h3⟩
 rw[h6] at h1;cases h1
variable {p:O}
theorem Ext.keeps(h:Ext W a b){x:O}(c:getF a p=some x):getF b p=some x:=by
 rcases h p with h1|⟨h1,_⟩
 .exact h1.t c
 rw[c] at h1;cases h1
variable {l:List Fil}
theorem Qfa{b:O}:Qco l p b=false↔getF l p=none∨getF l p=some b:=by
 unfold Qco;cases getF l p with
 | none=>simp
 | some x=>simp
theorem Qbr.ext{l':List Fil}(h:Qbr W l)(c:Qyz W)(a:Ext W l l'):Qbr W l':=by
 intro f hf;rw[Qfa];rcases a f.1 with h1|⟨h1,b,h2,h3⟩
 .rw[h1];exact Qfa.1 (h f hf)
 right;rw[h3,c f.1 b f.2 h2 hf]
variable {f:Fil}
theorem Zbo(a:f∈W)(b:Qbr W l):Ext W l (putF l f.1 f.2):=by
 intro p;rw[Qja]
 split
 .rename_i h
  subst h;rcases Qfa.1 (b f a) with h1|h1
  .exact .inr ⟨h1,f.2,a,rfl⟩
  exact .inl h1.symm
 exact .inl rfl
theorem Q32{b:O}(h:f∈putF l p b):f∈l∨f=(p,b):=by
 unfold putF at h
 split at h
 .rcases xx h with h1|h1
  .exact .inl h1
  exact .inr h1
 rcases ZL.1 h with h1|h1
 .exact .inl h1
 exact .inr (by simpa using h1)
structure Qma(d:Dk):Prop where
 dead:d.dead=false
 hit:d.hit=false
 turned:d.turned=false
 once:Once d.files
structure Qcx(W:List Fil)(k:Nat)(d d':Dk):Prop where
 ext:Ext W d.files d'.files
 once:Once d'.files
 turned:d'.turned=false
 mem:∀ f∈d'.files,f∈d.files∨f∈W
 len:d'.files.length<=d.files.length+k
 calls:d'.calls<=d.calls+k
variable {d:Dk}
theorem Qcx.refl(W:List Fil)(h:Qma d):Qcx W 0 d d:=⟨Ext.refl W _,h.once,h.turned,λf hf=>.inl hf,zg _,zg _⟩
variable {j k:Nat}
theorem Qcx.t{a b c:Dk}(h:Qcx W j a b)(i:Qcx W k b c):Qcx W (j+k) a c where
 ext:=h.ext.t i.ext
 once:=i.once
 turned:=i.turned
 mem f hf:=by
  rcases i.mem f hf with h1|h1
  .exact h.mem f h1
  exact .inr h1
 len:=by have:=h.len;have:=i.len;omega
 calls:=by have:=h.calls;have:=i.calls;omega
theorem Qcx.more{a b:Dk}(h:Qcx W j a b)(c:j<=k):Qcx W k a b where
 ext:=h.ext
 once:=h.once
 turned:=h.turned
 mem:=h.mem
 len:=zi h.len (by omega)
 calls:=zi h.calls (by omega)
theorem Qiq(h:Qma d)(a:Z7 d=0):(Zu d).hit=false/\(Zu d).dead=false/\(Zu d).turned=false:=by
 unfold Z7 at a;rw[zw (by simp[h.dead])] at a;have hh:¬ Ji d=true:=by
  intro hh;rw[zD hh] at a
  split at a <;> omega
 unfold Zu;rw[zw hh];exact⟨h.hit,h.dead,h.turned⟩
theorem Qkj(h:Qma d)(a:0<Z7 d):(Zu d).hit=true/\(Zu d).turned=false:=by
 unfold Z7 at a;rw[zw (by simp[h.dead])] at a;have hh:Ji d=true:=by
  cases hh:Ji d with
  | true=>rfl
  | false=>rw[hh] at a;simp at a
 unfold Zu;rw[zD hh];exact⟨rfl,h.turned⟩
theorem Qof(d:Dk)(p b:O):(Qcz d p b).hit=(Zu d).hit/\(Qcz d p b).dead=(Zu d).dead/\(Qcz d p b).turned=(Zu d).turned/\(Qcz d p b).calls=d.calls+1:=by
 unfold Qcz
 split <;> exact⟨rfl,rfl,rfl,Qne d⟩
theorem Qgf(d:Dk)(p b:O):(Qcz d p b).files=if Z7 d<2 then putF d.files p b else d.files:=by
 unfold Qcz
 split
 .rfl
 exact Jd d
theorem Qxv(a:Qma d)(e:Qbr W d.files)(c:f∈W):Qcx W 1 d (putD d f.1 f.2)/\(Qg6 d f=false->Qma (putD d f.1 f.2)/\getF (putD d f.1 f.2).files f.1=some f.2)/\(Qg6 d f=true->(putD d f.1 f.2).hit=true):=by
 have hc:=e f c;have hp:putD d f.1 f.2=Qcz d f.1 f.2:=by unfold putD;rw[zw (by simp[hc])]
 obtain⟨s1,s2,s3,s4⟩:=Qof d f.1 f.2;have s5:=Qgf d f.1 f.2;have hb:Qg6 d f=decide (0<Z7 d):=by unfold Qg6;rw[hc];simp
 have ht:(Zu d).turned=false:=by
  rcases vg (Z7 d) with h|h
  .exact (Qiq a h).2.2
  exact (Qkj a h).2
 rw[hp];refine⟨⟨?_,?_,by rw[s3,ht],?_,?_,by omega⟩,?_,?_⟩
 .rw[s5]
  split
  .exact Zbo c e
  exact Ext.refl W _
 .rw[s5]
  split
  .exact Qlp a.once _ _
  exact a.once
 .rw[s5]
  intro g hg
  split at hg
  .rcases Q32 hg with h1|h1
   .exact .inl h1
   exact .inr (by rw[h1];exact c)
  exact .inl hg
 .rw[s5]
  split
  .exact (Qn9 _ _ _).2
  omega
 .intro h
  rw[hb] at h;have h0:Z7 d=0:=by simpa using h
  obtain⟨t1,t2,t3⟩:=Qiq a h0;have b:(Qcz d f.1 f.2).files=putF d.files f.1 f.2:=by rw[s5,zD (by omega)]
  exact⟨⟨by rw[s2,t2],by rw[s1,t1],by rw[s3,t3],by rw[b];exact Qlp a.once _ _⟩,by rw[b,Qja,zD rfl]⟩
 intro h;rw[hb] at h;rw[s1];exact (Qkj a (by simpa using h)).1
theorem Qzf(a:Qyz W):∀ (fs:List Fil) (d:Dk),(∀ f∈fs,f∈W)->Qma d->Qbr W d.files->
  Qcx W fs.length d (putsD d fs).1/\(((putsD d fs).2=fs.length/\Qma (putsD d fs).1/\∀ f∈fs,getF (putsD d fs).1.files f.1=some f.2)∨((putsD d fs).2<fs.length/\(putsD d fs).1.hit=true))
 | [],d,_,hd,_=>⟨Qcx.refl W hd,.inl ⟨rfl,hd,λf hf=>by simp at hf⟩⟩
 | f :: fs,d,hs,hd,hn=>by
   have hf:=hs f ZE
   obtain⟨h1,h2,h3⟩:=Qxv hd hn hf
   cases hb:Qg6 d f with
   | true=>
    simp only[putsD,hb,zac]
    exact⟨h1.more (by simp),.inr ⟨by simp,h3 hb⟩⟩
   | false=>
    obtain⟨h4,h5⟩:=h2 hb
    obtain⟨h6,h7⟩:=Qzf a fs (putD d f.1 f.2) (λg hg=>hs g (zX _ hg)) h4 (hn.ext a h1.ext)
    simp only[putsD,hb,Xy,if_false]
    refine⟨(h1.t h6).more (by simp;omega),?_⟩
    rcases h7 with⟨a1,a2,a3⟩|⟨a1,a2⟩
    .refine .inl ⟨by simp[a1],a2,λg hg=>?_⟩
     rcases ZH.1 hg with rfl|hg
     .exact h6.ext.keeps h5
     exact a3 g hg
    exact .inr ⟨by simp;omega,a2⟩
def Qj7(l:List Fil)(R:List Uc)(put:List Nat):Prop:=
 put.length<=R.length/\∀ (m a:Nat) (r:Uc),put[m]?=some a->R[m]?=some r->a%4=0/\a<=r.length/\∀ j,4*j+4<=a->getF l (Yv ((m:Int)-1) r j).1=some (Yv ((m:Int)-1) r j).2
theorem Qj7.pad{R:List Uc}{b:List Nat}(h:Qj7 l R b){n:Nat}(c:n<R.length):Qj7 l R (b++List.replicate (n+1-b.length) 0):=by
 refine⟨by simp;have:=h.1;omega,λm a r ha hr=>?_⟩;rcases zK m b.length with hm|hm
 .rw[zV hm] at ha
  exact h.2 m a r ha hr
 rw[ZC hm,xP] at ha
 split at ha
 .cases ha
  exact⟨rfl,by omega,λj hj=>by omega⟩
 cases ha
def Qtj(R:List Uc):Nat:=(R.map λr=>(r.length+3) / 4).sum
theorem Zb8(B:Qyz W)(R:List Uc):∀ (m n:Nat) (put:List Nat) (d:Dk),m+n=R.length->(∀ f∈Qae ((n:Int)-1) (R.drop n),f∈W)->Qma d->Qbr W d.files->Qj7 d.files R put->
  Qcx W (Qtj (R.drop n)) d (pubJ n (R.drop n) put d).1/\
  (((pubJ n (R.drop n) put d).2.2=none/\Qma (pubJ n (R.drop n) put d).1/\Qj7 (pubJ n (R.drop n) put d).1.files R (pubJ n (R.drop n) put d).2.1/\∀ f∈Qae ((n:Int)-1) (R.drop n),getF (pubJ n (R.drop n) put d).1.files f.1=some f.2)∨
     (∃ p b,(pubJ n (R.drop n) put d).2.2=some p/\(p,b)∈W/\(pubJ n (R.drop n) put d).1.hit=true)):=by
 intro m
 induction m with
 | zero=>
  intro n put d z hW hd hn hp;rw[V5 (by omega)];simp only[pubJ,Qae,Qtj];exact⟨Qcx.refl W hd,.inl ⟨trivial,hd,hp,λf hf=>by simp at hf⟩⟩
 | succ m ih=>
  intro n put d z hW hd hn hp;have g:n<R.length:=by omega
  rw[zZ g] at hW ⊢;obtain⟨r,hr⟩:=zzx (R[n])
  have s:R[n]?=some r:=by rw[ze g,hr]
  rw[<-hr] at hW ⊢;simp only[pubJ];obtain⟨p1,o⟩:=zzx (put++List.replicate (n+1-put.length) 0)
  have hP:=hp.pad g;rw[<-o] at hP ⊢;have A:n<p1.length:=by rw[o];simp;omega
  obtain⟨a,ha⟩:∃ a,p1[n]?=some a:=⟨_,ze A⟩
  have w:p1.getD n 0=a:=by rw[zz,ha];rfl
  rw[w];obtain⟨b1,b2,b3⟩:=hP.2 n a r ha s;simp only[Qae] at hW;have l:∀ f∈Jk ((n:Int)-1) r,f∈W:=λf hf=>hW f (ZT _ hf)
  obtain⟨c1,c2⟩:=Qzf B ((Jk ((n:Int)-1) r).drop (a / 4)) d (λf hf=>l f (ZF hf)) hd hn;obtain⟨q,hq⟩:=zzx (putsD d ((Jk ((n:Int)-1) r).drop (a / 4)))
  have t:((Jk ((n:Int)-1) r).drop (a / 4)).length=(r.length+3) / 4-a / 4:=by rw[zM,Qcd]
  rw[<-hq,t] at c1 c2;have c:Qtj (r :: R.drop (n+1))=(r.length+3) / 4+Qtj (R.drop (n+1)):=rfl;have hw:Qan ((n:Int)-1) r (a / 4) d=(q.1,4*min (a / 4+q.2) (r.length / 4),((Jk ((n:Int)-1) r)[a / 4+q.2]?).map (·.1)):=by unfold Qan;rw[<-hq]
  rw[hw];have u:∀ j,j<a / 4->getF q.1.files (Yv ((n:Int)-1) r j).1=some (Yv ((n:Int)-1) r j).2:=λj hj=>c1.ext.keeps (b3 j (by omega))
  rcases c2 with⟨d1,d2,d3⟩|⟨d1,d2⟩
  .have e:∀ j,4*j<r.length->getF q.1.files (Yv ((n:Int)-1) r j).1=some (Yv ((n:Int)-1) r j).2:=by
    intro j hj;rcases zK j (a / 4) with h|h
    .exact u j h
    apply d3;apply zr (i:=j-a / 4);rw[ZU,show a / 4+(j-a / 4)=j by omega,Qfm _ _ _ hj]
   have k:(Jk ((n:Int)-1) r)[a / 4+q.2]?=none:=vq (by rw[Qcd];omega);rw[k];simp only[zai];have v:Qj7 q.1.files R (p1.set n (4*min (a / 4+q.2) (r.length / 4))):=by
    refine⟨by rw[Vn];exact hP.1,λi x y hx hy=>?_⟩;rw[XM] at hx
    split at hx
    .rename_i hi
     subst hi;rw[s] at hy;cases hx;cases hy;exact⟨by omega,by omega,λj hj=>e j (by omega)⟩
    exact⟨(hP.2 i x y hx hy).1,(hP.2 i x y hx hy).2.1,λj hj=>c1.ext.keeps ((hP.2 i x y hx hy).2.2 j hj)⟩
   have hI:=ih (n+1) (p1.set n (4*min (a / 4+q.2) (r.length / 4))) q.1 (by omega) (λf hf=>hW f (VE _ (by rw[show ((n:Int)-1+1)=((n+1:Nat):Int)-1 by omega];exact hf))) d2 (hn.ext B c1.ext) v;obtain⟨i1,i2⟩:=hI;refine⟨?_,?_⟩
   .rw[c]
    exact (c1.t i1).more (by omega)
   rcases i2 with⟨e1,e2,e3,e4⟩|h
   .refine .inl ⟨e1,e2,e3,λf hf=>?_⟩
    simp only[Qae] at hf;rcases ZL.1 hf with hf|hf
    .unfold Jk at hf
     obtain⟨j,hj,rfl⟩:=zU.1 hf;rw[ZQ] at hj;exact i1.ext.keeps (e j (by omega))
    exact e4 f (by rw[show (((n+1:Nat):Int)-1)=(n:Int)-1+1 by omega];exact hf)
   exact .inr h
  have C:a / 4+q.2<(r.length+3) / 4:=by omega
  have hg:=Qfm ((n:Int)-1) r (a / 4+q.2) (by omega);rw[hg];simp only[xk];exact⟨by rw[c];exact c1.more (by omega),.inr ⟨_,(Yv ((n:Int)-1) r (a / 4+q.2)).2,rfl,l _ (zr hg),d2⟩⟩
variable {n:Nat}
theorem Qbp(h:n<=1048576):nLev n<=11:=by
 rcases zK 11 (nLev n) with h1|h1
 .have:=(Qaq n 11).1 h1
  have e:4 ^ 11=4194304:=rfl;omega
 exact h1
theorem Qaj(es:Uc):(Zc es).length=nLev es.length+1:=by simp[Zc,levels]
theorem Qbe(es:Uc):(Zc es)[0]?=some (es.map encE):=rfl
theorem Qdd(es:Uc)(k:Nat)(h:k<nLev es.length):(Zc es)[k+1]?=some ((Z4 es k).map λ(x:Hsh)=>x.toList):=by unfold Zc levels;rw[xO,zN,zN,xE h];rfl
variable {es r:Uc} {m:Nat}
theorem Qfy(h:(Zc es)[m]?=some r):(m=0/\r=es.map encE)∨∃ k,m=k+1/\k<nLev es.length/\r=(Z4 es k).map λ(x:Hsh)=>x.toList:=by
 cases m with
 | zero=>rw[Qbe] at h;cases h;exact .inl ⟨rfl,rfl⟩
 | succ k=>
  have hk:k<nLev es.length:=by
   have:=(zj.1 h).1
   rw[Qaj] at this;omega
  rw[Qdd es k hk] at h;cases h;exact .inr ⟨k,rfl,hk,rfl⟩
theorem Qbg(h:r∈Zc es):r.length<=es.length:=by
 obtain⟨m,hm⟩:=Vc.1 h;rcases Qfy hm with⟨_,rfl⟩|⟨k,_,_,rfl⟩
 .simp
 rw[zA,Jr];exact xm _ _
theorem Qdx(h:es.length<=1048576):Q9x (-1) (Zc es):=by
 have:=Qbp h
 refine⟨by omega,by rw[Qaj];omega,λr hr=>by have:=Qbg hr;omega⟩
theorem Qrk(h:es.length<=1048576):Qyz (Y9 es):=λ_ _ _ ha hb=>Q2a (Qdx h) ha hb
def cpOf(es:Uc)(key:O):O:=sOf (Jt es.length (rootOf es) key.data.toList)
def pubD(es:Uc)(key:O)(put:List Nat)(d:Dk):Dk×List Nat×Y O:=
 match (pubJ 0 (Zc es) put d).2.2 with
 | some p=>((pubJ 0 (Zc es) put d).1,(pubJ 0 (Zc es) put d).2.1,some p)
 | none=>(Qcz (pubJ 0 (Zc es) put d).1 (sOf kCp) (cpOf es key),(pubJ 0 (Zc es) put d).2.1,if 0<Z7 (pubJ 0 (Zc es) put d).1 then some (sOf kCp) else none)
def Qwh(l l' W:List Fil)(c:O):Prop:=∀ p,getF l' p=getF l p∨(getF l p=none/\∃ b,(p,b)∈W/\getF l' p=some b)∨(p=sOf kCp/\getF l' p=some c)
theorem Q77(R:List Uc)(k:Nat)(h:∀ r∈R,r.length<=k):Qtj R<=R.length*(k+3):=by
 induction R with
 | nil=>simp[Qtj]
 | cons a R ih=>
  have h1:=ih λr hr=>h r (zX _ hr)
  have h2:=h a ZE;have e:Qtj (a :: R)=(a.length+3) / 4+Qtj R:=rfl;rw[e,zx,vC];omega
theorem Q62(h:es.length<=1048576):Qtj (Zc es)<=12*(es.length+3):=by
 refine zi (Q77 _ es.length λr hr=>Qbg hr) (ZA _ ?_);rw[Qaj]
 have:=Qbp h
 omega
variable {put:List Nat}
theorem Qjs(key:O){d:Dk}(l:es.length<=1048576)(n:Qma d)(o:Qbr (Y9 es) d.files)(s:Qj7 d.files (Zc es) put):Qwh d.files (pubD es key put d).1.files (Y9 es) (cpOf es key)/\Once (pubD es key put d).1.files/\(pubD es key put d).1.turned=false/\
  (∀ f∈(pubD es key put d).1.files,f∈d.files∨f∈Y9 es∨f=(sOf kCp,cpOf es key))/\(pubD es key put d).1.files.length<=d.files.length+12*(es.length+3)+1/\(pubD es key put d).1.calls<=d.calls+12*(es.length+3)+1/\
  (((pubD es key put d).2.2=none/\Qma (pubD es key put d).1/\Qj7 (pubD es key put d).1.files (Zc es) (pubD es key put d).2.1/\(∀ f∈Y9 es,getF (pubD es key put d).1.files f.1=some f.2)/\getF (pubD es key put d).1.files (sOf kCp)=some (cpOf es key))∨
     (∃ p,(pubD es key put d).2.2=some p/\(pubD es key put d).1.hit=true/\((∃ b,(p,b)∈Y9 es)∨p=sOf kCp))):=by
 have ho:=Qrk l;have hr:=Q62 l;have h:=Zb8 ho (Zc es) (Zc es).length 0 put d (by omega) (λf hf=>hf) n o s;rw[Vm] at h;unfold pubD;generalize pubJ 0 (Zc es) put d=q at h ⊢;obtain⟨h1,h2⟩:=h;have g:∀ p,getF q.1.files p=getF d.files p∨(getF d.files p=none/\∃ b,(p,b)∈Y9 es/\getF q.1.files p=some b):=h1.ext;rcases h2 with⟨e1,e2,e3,e4⟩|⟨p,b,e1,e2,e3⟩
 .rw[e1]
  simp only[];obtain⟨s1,s2,s3,s4⟩:=Qof q.1 (sOf kCp) (cpOf es key);have s5:=Qgf q.1 (sOf kCp) (cpOf es key);have i:∀ p,getF (Qcz q.1 (sOf kCp) (cpOf es key)).files p=getF q.1.files p∨(p=sOf kCp/\getF (Qcz q.1 (sOf kCp) (cpOf es key)).files p=some (cpOf es key)):=by
   intro p;rw[s5]
   split
   .rw[Qja]
    split
    .rename_i h;exact .inr ⟨h,rfl⟩
    exact .inl rfl
   exact .inl rfl
  refine⟨λp=>?_,?_,?_,?_,?_,?_,?_⟩
  .rcases i p with h3|h3
   .rw[h3]
    rcases g p with h4|h4
    .exact .inl h4
    exact .inr (.inl h4)
   exact .inr (.inr h3)
  .rw[s5]
   split
   .exact Qlp h1.once _ _
   exact h1.once
  .rw[s3]
   rcases vg (Z7 q.1) with h|h
   .exact (Qiq e2 h).2.2
   exact (Qkj e2 h).2
  .intro f hf
   rw[s5] at hf
   split at hf
   .rcases Q32 hf with h3|h3
    .rcases h1.mem f h3 with h4|h4
     .exact .inl h4
     exact .inr (.inl h4)
    exact .inr (.inr h3)
   rcases h1.mem f hf with h4|h4
   .exact .inl h4
   exact .inr (.inl h4)
  .have:=h1.len
   rw[s5]
   split
   .have:=(Qn9 q.1.files (sOf kCp) (cpOf es key)).2;omega
   omega
  .have:=h1.calls;omega
  rcases vg (Z7 q.1) with h|h
  .left
   obtain⟨t1,t2,t3⟩:=Qiq e2 h;have c:(Qcz q.1 (sOf kCp) (cpOf es key)).files=putF q.1.files (sOf kCp) (cpOf es key):=by rw[s5,zD (by omega)]
   have k:∀ f∈Y9 es,f.1≠sOf kCp:=λf hf=>Q7i hf
   refine⟨zw (by omega),⟨by rw[s2,t2],by rw[s1,t1],by rw[s3,t3],by rw[c];exact Qlp h1.once _ _⟩,⟨e3.1,λm a r ha hr=>?_⟩,λf hf=>?_,by rw[c,Qja,zD rfl]⟩
   .obtain⟨k1,k2,k3⟩:=e3.2 m a r ha hr
    refine⟨k1,k2,λj hj=>?_⟩;rw[c,Qja,zw]
    .exact k3 j hj
    exact λe=>Qfx _ _ _ (Qda e)
   rw[c,Qja,zw (k f hf)];exact e4 f hf
  right;exact⟨sOf kCp,zD h,by rw[s1];exact (Qkj e2 h).1,.inr rfl⟩
 rw[e1];simp only[];refine⟨λp=>?_,h1.once,h1.turned,λf hf=>?_,by have:=h1.len;omega,by have:=h1.calls;omega,.inr ⟨p,rfl,e3,.inl ⟨b,e2⟩⟩⟩
 .rcases g p with h4|h4
  .exact .inl h4
  exact .inr (.inl h4)
 rcases h1.mem f hf with h4|h4
 .exact .inl h4
 exact .inr (.inl h4)
theorem Qym(t:Int)(r s:Uc)(j:Nat)(h:4*j+4<=r.length):Yv t (r++s) j=Yv t r j:=by
 unfold Yv;have e:min 4 ((r++s).length-4*j)=min 4 (r.length-4*j):=by rw[zn];omega
 rw[e,VS (by omega),vN (by rw[zM];omega)]
theorem Qoo(es:Uc)(e:Ud)(k:Nat):∃ s,Z4 (es ++ [e]) k=Z4 es k++s:=by
 have hp:0<4 ^ k:=VG (by decide);by_cases h:(es.length+1) / 4 ^ k=es.length / 4 ^ k
 .exact⟨[],by rw[Qk7 es e k h,ZW]⟩
 refine⟨_,Qg0 es e k (es.length / 4 ^ k) rfl ?_⟩;rw[Nat.succ_div] at h ⊢
 split
 .rfl
 rename_i hd;rw[zw hd] at h;exact absurd rfl h
theorem Qu6(n:Nat):nLev n<=nLev (n+1):=by
 rcases zK (nLev (n+1)) (nLev n) with h|h
 .have a:=(Qaq n _).1 h
  have b:=(Qaq (n+1) (nLev (n+1))).2 (by omega);omega
 exact h
theorem Qo5(e:Ud)(h:(Zc (es ++ [e]))[m]?=some r)(a:m<(Zc es).length):∃ r0 s,(Zc es)[m]?=some r0/\r=r0++s:=by
 rw[Qaj] at a;rcases Qfy h with⟨rfl,rfl⟩|⟨k,rfl,hk,rfl⟩
 .exact⟨_,[encE e],Qbe es,by simp⟩
 obtain⟨s,hs⟩:=Qoo es e k;exact⟨_,s.map λ(x:Hsh)=>x.toList,Qdd es k (by omega),by rw[hs,zL]⟩
theorem Qrv(e:Ud)(h:Qj7 l (Zc es) put):Qj7 l (Zc (es ++ [e])) put:=by
 refine⟨?_,λm a r ha hr=>?_⟩
 .have:=h.1
  rw[Qaj] at this ⊢
  have:=Qu6 es.length
  simp only[zn,zx,vL,V4] at *;omega
 have hm:=(zj.1 ha).1;obtain⟨r0,s,h0,rfl⟩:=Qo5 e hr (by have:=h.1;omega);obtain⟨k1,k2,k3⟩:=h.2 m a r0 ha h0;refine⟨k1,by rw[zn];omega,λj hj=>?_⟩;rw[Qym _ _ _ _ (by omega)];exact k3 j hj
theorem Qvq(l:List Fil)(es:Uc):Qj7 l (Zc es) []:=⟨by simp,λm a r ha=>by simp at ha⟩
def Qe7(R:List Uc)(put:List Nat):Prop:=put.length<=R.length/\∀ (m a:Nat) (r:Uc),put[m]?=some a->R[m]?=some r->a%4=0/\a<=r.length
variable {R:List Uc}
theorem Qj7.mark(h:Qj7 l R put):Qe7 R put:=⟨h.1,λm a r h1 h2=>⟨(h.2 m a r h1 h2).1,(h.2 m a r h1 h2).2.1⟩⟩
theorem Qe7.next(h:Qe7 R put){x:Nat}(b:R[n]?=some r)(c:x%4=0/\x<=r.length):Qe7 R ((put++List.replicate (n+1-put.length) 0).set n x):=by
 have hn:=(zj.1 b).1;refine⟨by simp;have:=h.1;omega,λm a q ha hq=>?_⟩;rw[XM] at ha
 split at ha
 .rename_i hnm
  subst hnm
  split at ha
  .cases ha;rw[b] at hq;cases hq;exact c
  cases ha
 rcases zK m put.length with hm|hm
 .rw[zV hm] at ha
  exact h.2 m a q ha hq
 rw[ZC hm,xP] at ha
 split at ha
 .cases ha;exact⟨rfl,by omega⟩
 cases ha
theorem Qpp(t:Int)(a:Uc)(j:Nat)(d:Dk):(Qan t a j d).2.1%4=0/\(Qan t a j d).2.1<=a.length:=by unfold Qan;simp only[];omega
theorem Q65(g:R[n]?=some r)(a:List Nat)(d:Dk){b:List Nat}{q:Dk×Nat×Y O}(e:b=a++List.replicate (n+1-a.length) 0)(f:q=Qan ((n:Int)-1) r (b.getD n 0 / 4) d):pubJ n (R.drop n) a d=match q.2.2 with|some p=>(q.1,b.set n q.2.1,some p)|none=>pubJ (n+1) (R.drop (n+1)) (b.set n q.2.1) q.1:=by
 obtain⟨c,he⟩:=zj.1 g;rw[zZ c,he];simp only[pubJ];rw[<-e,<-f] <;> cases q.2.2 <;> rfl
theorem Q8v(h:R.length<=n)(a:List Nat)(d:Dk):pubJ n (R.drop n) a d=(d,a,none):=by rw[V5 h];rfl
def Y0(i w:Nat):O:=sOf (Yb (-1) i w)
def Yl(l:List Fil)(i w:Nat):Y Uc:=(getF l (Y0 i w)).bind λb=>(Qs b.data.toList).bind λe=>if e.length=w then some e else none
variable {i w:Nat}
theorem Qhx(h:getF l (Y0 i w)=none):Yl l i w=none:=by unfold Yl;rw[h];rfl
variable {b:O}
theorem Qph(h:getF l (Y0 i w)=some b)(a:Qs b.data.toList=none):Yl l i w=none:=by unfold Yl;rw[h,ZP,a];rfl
variable {e:Uc}
theorem Qmy(h:getF l (Y0 i w)=some b)(a:Qs b.data.toList=some e):Yl l i w=if e.length=w then some e else none:=by unfold Yl;rw[h,ZP,a];rfl
theorem Qbb{b:Ud}(h:Qs b=some e):0<e.length/\e.length<=4/\∀ x∈e,x.length<=20:=by
 unfold Qs at h;cases hr:rawU b with
 | none=>rw[hr] at h;simp at h
 | some ls=>
  rw[hr,ZP] at h
  split at h
  .rename_i hs
   cases h;unfold Yf at hs
   split at hs
   .simp at hs
   rename_i h0
   split at hs
   .rename_i ha
    refine⟨by omega,by omega,λx hx=>?_⟩;exact vv (xy.1 ha x hx)
   simp at hs
  cases h
theorem Qbd(h:Yl l i w=some e):e.length=w/\0<w/\w<=4/\(∀ x∈e,x.length<=20)/\∃ b,getF l (Y0 i w)=some b:=by
 cases hg:getF l (Y0 i w) with
 | none=>rw[Qhx hg] at h;cases h
 | some b=>
  cases hb:Qs b.data.toList with
  | none=>rw[Qph hg hb] at h;cases h
  | some e'=>
   rw[Qmy hg hb] at h
   split at h
   .rename_i hw
    cases h;obtain⟨h1,h2,h3⟩:=Qbb hb;exact⟨hw,by omega,by omega,h3,b,rfl⟩
   cases h
def Qct(l:List Fil)(n:Nat):Nat->Nat->Uc->Uc×Y Nat
 | 0,_,d=>(d,none)
 | m+1,i,d=>match Yl l i (min 4 (n-4*i)) with
  | none=>(d,some i)
  | some e=>Qct l n m (i+1) (d++e)
def Ya(l:List Fil)(d:Uc):Nat->Uc×Bool
 | 0=>([],false)
 | w+1=>if w+1<=d.length%4 then ([],false) else
   if (getF l (Y0 (d.length / 4) (w+1))).isNone then Ya l d w else
   match Yl l (d.length / 4) (w+1) with
   | none=>([],false)
   | some e=>if e.take (d.length%4)=d.drop (4*(d.length / 4)) then (e.drop (d.length%4),decide (w+1=4)) else ([],false)
def Zx(l:List Fil)(d:Uc):Uc×Bool:=Ya l d 4
inductive Goes (l:List Fil):Uc->Uc->Prop where
 | stop {d:Uc}:(Zx l d).2=false->Goes l d (d++(Zx l d).1)
 | more {d r:Uc}:(Zx l d).2=true->Goes l (d++(Zx l d).1) r->Goes l d r
variable {d:Uc}
theorem Goes.one{a b:Uc}(h:Goes l d a)(k:Goes l d b):a=b:=by
 induction h with
 | stop h1=>
  cases k with
  | stop=>rfl
  | more k1 _=>rw[h1] at k1;cases k1
 | more h1 _ ih=>
  cases k with
  | stop k1=>rw[h1] at k1;cases k1
  | more _ k2=>exact ih k2
def Y4(l:List Fil)(key:O):Y (Nat×Hsh):=match getF l (sOf kCp) with
 | none=>some (0,hash [])
 | some b=>if (Zy b.data.toList key.data.toList).2.2=true then some ((Zy b.data.toList key.data.toList).1.toNat,(Zy b.data.toList key.data.toList).2.1) else none
inductive Opn where
 | bad (k:Nat) (p:O)
 | good (es:Uc) (n:Nat)
inductive Yu (l:List Fil) (key:O):Opn->Prop where
 | checkpoint:Y4 l key=none->Yu l key (.bad 3 ⟨#[]⟩)
 | tile {n:Nat} {root:Hsh} {d:Uc} {i:Nat}:Y4 l key=some (n,root)->Qct l n ((n+3) / 4) 0 []=(d,some i)->Yu l key (.bad 6 (Y0 i (min 4 (n-4*i))))
 | proof {n:Nat} {root:Hsh} {d:Uc}:Y4 l key=some (n,root)->Qct l n ((n+3) / 4) 0 []=(d,none)->rootOf d≠root->Yu l key (.bad 5 ⟨#[]⟩)
 | fine {n:Nat} {root:Hsh} {d r:Uc}:Y4 l key=some (n,root)->Qct l n ((n+3) / 4) 0 []=(d,none)->rootOf d=root->Goes l d r->Yu l key (.good r n)
variable {key:O}
theorem Yu.one{a b:Opn}(h:Yu l key a)(k:Yu l key b):a=b:=by
 cases h with
 | checkpoint h1=>
  cases k with
  | checkpoint=>rfl
  | tile k1=>rw[h1] at k1;cases k1
  | proof k1=>rw[h1] at k1;cases k1
  | fine k1=>rw[h1] at k1;cases k1
 | tile h1 h2=>
  cases k with
  | checkpoint k1=>rw[h1] at k1;cases k1
  | tile k1 k2=>rw[h1] at k1;cases k1;rw[h2] at k2;cases k2;rfl
  | proof k1 k2=>rw[h1] at k1;cases k1;rw[h2] at k2;cases k2
  | fine k1 k2=>rw[h1] at k1;cases k1;rw[h2] at k2;cases k2
 | proof h1 h2 h3=>
  cases k with
  | checkpoint k1=>rw[h1] at k1;cases k1
  | tile k1 k2=>rw[h1] at k1;cases k1;rw[h2] at k2;cases k2
  | proof k1 k2=>rfl
  | fine k1 k2 k3=>rw[h1] at k1;cases k1;rw[h2] at k2;cases k2;exact absurd k3 h3
 | fine h1 h2 h3 h4=>
  cases k with
  | checkpoint k1=>rw[h1] at k1;cases k1
  | tile k1 k2=>rw[h1] at k1;cases k1;rw[h2] at k2;cases k2
  | proof k1 k2 k3=>rw[h1] at k1;cases k1;rw[h2] at k2;cases k2;exact absurd h3 k3
  | fine k1 k2 k3 k4=>rw[h1] at k1;cases k1;rw[h2] at k2;cases k2;rw[h4.one k4]
def Has(l:List Fil)(i:Nat):Prop:=∃ w,1<=w/\w<=4/\∃ b,getF l (Y0 i w)=some b
def FewB(l:List Fil)(N:Nat):Prop:=∀ m,(∀ i,i<m->Has l i)->m<=N
theorem pigeon:∀ (U:List Nat) (m:Nat),(∀ i,i<m->i∈U)->m<=U.length:=by
 intro U m
 induction m generalizing U with
 | zero=>intro _;omega
 | succ m ih=>
  intro h;have hm:=h m (by omega)
  have:=ih (U.erase m) λi hi=>by rw[zat (by omega)];exact h i (by omega)
  rw[XN hm] at this
  have:=za5 hm
  omega
theorem Zc4{U:List Nat}(h:∀ i,i<9223372036854775808->Has l i->i∈U)(a:U.length<9223372036854775808):FewB l U.length:=by
 intro m hm;rcases zK m 9223372036854775808 with h1|h1
 .exact pigeon U m λi hi=>h i (by omega) (hm i hi)
 have:=pigeon U 9223372036854775808 λi hi=>h i hi (hm i (by omega))
 omega
structure Qbt(l:List Fil)(d:Uc):Prop where
 short:∀ e∈d,e.length<=20
 has:∀ i,4*i<d.length->Has l i
theorem Qbt.few{N:Nat}(h:Qbt l d)(a:FewB l N):d.length<=4*N:=by
 have:=a ((d.length+3) / 4) λi hi=>h.has i (by omega)
 omega
theorem Qbt.nil(l:List Fil):Qbt l []:=⟨λ_ h=>by simp at h,λi h=>by simp at h⟩
theorem Qbt.step(h:Qbt l d)(f:d.length=4*i)(c:Yl l i w=some e):Qbt l (d++e):=by
 obtain⟨h1,h2,h3,h4,b,h5⟩:=Qbd c;refine⟨λx hx=>?_,λj hj=>?_⟩
 .rcases ZL.1 hx with hx|hx
  .exact h.short x hx
  exact h4 x hx
 rw[zn] at hj;rcases zK j i with a|a
 .exact h.has j (by omega)
 exact⟨w,h2,h3,b,by rw[show j=i by omega];exact h5⟩
theorem Qbt.further(h:Qbt l d):∀ w,w<=4->Qbt l (d++(Ya l d w).1)/\((Ya l d w).2=true->(d++(Ya l d w).1).length=4*(d.length / 4+1))
 | 0,_=>by simp only[Ya,ZW];exact⟨h,λh=>by cases h⟩
 | w+1,hw=>by
   rw[Ya]
   split
   .rw[ZW];exact⟨h,λh=>by cases h⟩
   rename_i h0
   split
   .exact h.further w (by omega)
   cases hb:Yl l (d.length / 4) (w+1) with
   | none=>simp only[ZW];exact⟨h,λh=>by cases h⟩
   | some e=>
    simp only[]
    split
    .rename_i he
     obtain⟨h1,h2,h3,h4,b,h5⟩:=Qbd hb
     refine⟨⟨λx hx=>?_,λj hj=>?_⟩,λht=>?_⟩
     .rcases ZL.1 hx with hx|hx
      .exact h.short x hx
      exact h4 x (ZF hx)
     .rw[zn,zM] at hj
      rcases zK j (d.length / 4) with a|a
      .exact h.has j (by omega)
      exact⟨w+1,h2,h3,b,by rw[show j=d.length / 4 by omega];exact h5⟩
     have:=vv ht
     rw[zn,zM]
     omega
    rw[ZW];exact⟨h,λh=>by cases h⟩
theorem Qbt.goes{r:Uc}(h:Qbt l d)(a:Goes l d r):Qbt l r:=by
 induction a with
 | stop _=>exact (h.further 4 (by omega)).1
 | more _ _ ih=>exact ih (h.further 4 (by omega)).1
theorem Qbt.load:∀ (m i:Nat) (d:Uc),Qbt l d->d.length=min n (4*i)->4*(m+i)<n+4->Qbt l (Qct l n m i d).1
 | 0,_,d,h,_,_=>h
 | m+1,i,d,h,hd,hm=>by
   rw[Qct]
   cases hb:Yl l i (min 4 (n-4*i)) with
   | none=>exact h
   | some e=>
    obtain⟨h1,h2,h3,h4,b,h5⟩:=Qbd hb
    exact Qbt.load m (i+1) (d++e) (h.step (by omega) hb) (by rw[zn];omega) (by omega)
theorem Yu.taken{es:Uc}(h:Yu l key (.good es n)):Qbt l es:=by
 cases h with
 | fine h1 h2 h3 h4=>
  have:=Qbt.load (l:=l) (n:=n) ((n+3) / 4) 0 [] (Qbt.nil l) (by simp) (by omega)
  rw[h2] at this;exact this.goes h4
structure Calm(k:Nat)(d d':Dk):Prop where
 files:d'.files=d.files
 turned:d'.turned=d.turned
 dead:d'.dead=d.dead
 hit:d'.hit=d.hit
 failAt:d'.failAt=d.failAt
 calls:d'.calls<=d.calls+k
structure Hurt(k:Nat)(d d':Dk):Prop where
 files:d'.files=d.files
 turned:d'.turned=d.turned
 why:d.dead=true∨0<d.failAt
 hit:(d.dead=true->d.hit=true)->(d'.dead=true->d'.hit=true)
 calls:d'.calls<=d.calls+k
theorem Calm.refl(d:Dk):Calm 0 d d:=⟨rfl,rfl,rfl,rfl,rfl,zg _⟩
variable {a b c:Dk}
theorem Calm.t(h:Calm j a b)(i:Calm k b c):Calm (j+k) a c:=
 ⟨i.files.t h.files,i.turned.t h.turned,i.dead.t h.dead,i.hit.t h.hit,i.failAt.t h.failAt,by have:=h.calls;have:=i.calls;omega⟩
theorem Calm.more(h:Calm j a b)(c:j<=k):Calm k a b:=⟨h.files,h.turned,h.dead,h.hit,h.failAt,by have:=h.calls;omega⟩
theorem Calm.hurt(h:Calm j a b)(i:Hurt k b c):Hurt (j+k) a c:=
 ⟨i.files.t h.files,i.turned.t h.turned,by have:=i.why;rw[h.dead,h.failAt] at this;exact this,λha=>i.hit (by rw[h.dead,h.hit];exact ha),by have:=h.calls;have:=i.calls;omega⟩
theorem Hurt.more(h:Hurt j a b)(c:j<=k):Hurt k a b:=⟨h.files,h.turned,h.why,h.hit,by have:=h.calls;omega⟩
variable {d:Dk}
theorem Qlx(h:Z7 d=0):Calm 1 d (Zu d):=by
 have hh:¬ Ji d=true:=by
  intro hh;unfold Z7 at h;rw[hh] at h;simp only[zac] at h
  split at h
  .omega
  split at h <;> omega
 unfold Zu;rw[zw hh];exact⟨rfl,rfl,rfl,rfl,rfl,zg _⟩
theorem Qmx(h:0<Z7 d):Hurt 1 d (Zu d):=by
 unfold Z7 at h;unfold Zu;cases hd:d.dead with
 | true=>
  have hh:¬ Ji d=true:=by unfold Ji;simp[hd]
  rw[zw hh];exact⟨rfl,rfl,.inl hd,λa=>by simpa [hd] using a,zg _⟩
 | false=>
  rw[hd] at h;cases hh:Ji d with
  | false=>rw[hh] at h;simp at h
  | true=>
   rw[zD rfl];refine⟨rfl,rfl,.inr ?_,λ_ _=>rfl,zg _⟩;unfold Ji at hh;simp at hh;exact hh.2.1
structure Sane(d:Dk)(U:List Nat)(K:Nat):Prop where
 once:Once d.files
 turned:d.turned=false
 hit:d.dead=true->d.hit=true
 calls:d.calls<=K
 len:d.files.length<=K
 size:∀ f∈d.files,f.2.size<=1048576
 has:∀ i,i<9223372036854775808->Has d.files i->i∈U
variable {U:List Nat} {K K':Nat}
theorem Sane.grow(h:Sane d U K)(x:Nat)(a:K<=K'):Sane d (x :: U) K':=
 ⟨h.once,h.turned,h.hit,zi h.calls a,zi h.len a,h.size,λi hi hh=>zX _ (h.has i hi hh)⟩
theorem Sane.more(h:Sane d U K)(a:K<=K'):Sane d U K':=
 ⟨h.once,h.turned,h.hit,zi h.calls a,zi h.len a,h.size,h.has⟩
variable {d':Dk}
theorem Sane.calm(h:Sane d U K)(c:Calm k d d'):Sane d' U (K+k):=
 ⟨by rw[c.files];exact h.once,by rw[c.turned];exact h.turned,by rw[c.dead,c.hit];exact h.hit,by have:=c.calls;have:=h.calls;omega,by rw[c.files];have:=h.len;omega,by rw[c.files];exact h.size,by rw[c.files];exact h.has⟩
theorem Sane.hurt(h:Sane d U K)(c:Hurt k d d'):Sane d' U (K+k):=
 ⟨by rw[c.files];exact h.once,by rw[c.turned];exact h.turned,c.hit h.hit,by have:=c.calls;have:=h.calls;omega,by rw[c.files];have:=h.len;omega,by rw[c.files];exact h.size,by rw[c.files];exact h.has⟩
theorem Sane.mend(h:Sane d U K):Sane (Qk5 d) U K:=⟨h.once,h.turned,λh=>(by cases h),h.calls,h.len,h.size,h.has⟩
theorem Sane.fault(h:Sane d U K)(a:Nat)(x y:Bool):Sane (Qg9 d a x y) U K:=⟨h.once,h.turned,λh=>(by cases h),h.calls,h.len,h.size,h.has⟩
theorem Sane.few(h:Sane d U K)(a:U.length<9223372036854775808):FewB d.files U.length:=Zc4 h.has a
structure Runs(d:Dk)(es:Uc)(put:List Nat)(failed:Bool)(U:List Nat):Prop where
 short:∀ e∈es,e.length<=20
 idx:∀ i,4*i<es.length->i∈U
 live:failed=false->Qma d/\Qj7 d.files (Zc es) put
variable {f:Bool}
theorem Runs.len(h:Runs d es put f U):es.length<=4*U.length:=by
 have:=pigeon U ((es.length+3) / 4) λi hi=>h.idx i (by omega)
 omega
theorem Q47{n:Nat}{key:O}(a:Sane d U K)(b:d.dead=false)(c:d.hit=false)(f:U.length<1048576)(e:Yu d.files key (.good es n)):Runs d es [] false U:=by have ht:=e.taken;have hl:=ht.few (a.few (by omega));exact⟨ht.short,λi hi=>a.has i (by omega) (ht.has i hi),λ_=>⟨⟨b,c,a.turned,a.once⟩,Qvq _ _⟩⟩
theorem Qyg(e:Ud)(h:Runs d es put false U)(a:e.length<=20):Runs d (es ++ [e]) put false (es.length / 4 :: U):=by
 refine⟨λx hx=>?_,λi hi=>?_,λhf=>⟨(h.live hf).1,Qrv e (h.live hf).2⟩⟩
 .rcases ZL.1 hx with hx|hx
  .exact h.short x hx
  rw[zS.1 hx];exact a
 rw[zn,zx,vL] at hi;rcases zK (4*i) es.length with h1|h1
 .exact zX _ (h.idx i h1)
 rw[show i=es.length / 4 by omega];exact ZE
theorem Runs.more(h:Runs d es put f U)(x:Nat):Runs d es put f (x :: U):=⟨h.short,λi hi=>zX _ (h.idx i hi),h.live⟩
theorem Runs.fault(h:Runs d es put f U)(a:Nat)(x y:Bool):Runs (Qg9 d a x y) es put f U:=
 ⟨h.short,h.idx,λhf=>⟨⟨rfl,rfl,(h.live hf).1.turned,(h.live hf).1.once⟩,(h.live hf).2⟩⟩
theorem Qfu:∀ (l:Uc) (k:Nat),(∀ x∈l,x.length<=k)->l.flatten.length<=l.length*k
 | [],k,_=>by simp
 | a :: l,k,h=>by
   have h1:=Qfu l k λx hx=>h x (zX _ hx)
   have h2:=h a ZE
   rw[xW,zn,zx,vC]
   omega
theorem Qyl(h:∀ e∈es,e.length<=20){f:Fil}(a:f∈Y9 es):f.2.size<=84:=by
 obtain⟨n,r,j,h1,h2,rfl⟩:=(Qce (Zc es) (-1)).1 a;have hr:∀ x∈r,x.length<=21:=by
  rcases Qfy h1 with⟨_,rfl⟩|⟨k,_,_,rfl⟩
  .intro x hx
   obtain⟨e,he,rfl⟩:=zU.1 hx
   have:=h e he
   simp only[encE,zx];omega
  intro x hx;obtain⟨e,he,rfl⟩:=zU.1 hx;simp
 have:=Qfu ((r.drop (4*j)).take 4) 21 λx hx=>hr x (ZF (zQ hx))
 have hl:((r.drop (4*j)).take 4).length<=4:=by rw[zm];omega
 have he:(Yv (-1+(n:Int)) r j).2.size=((r.drop (4*j)).take 4).flatten.length:=Y1 _;rw[he]
 have:=ZA 21 hl
 omega
theorem Q38(es:Uc)(key:O)(h:es.length<=1048576):(cpOf es key).size<=1048576:=by unfold cpOf;rw[Y1];unfold Jt Qa9;have h1:=Jf (n:=es.length) (by omega);simp only[zn,Qbc,Qbq,zx,vL,Qdh];omega
theorem Q2y(a:es.length<=1048576){i w:Nat}{b:O}(f:i<9223372036854775808)(g:1<=w)(e:w<=4)(c:(Y0 i w,b)∈Y9 es):4*i<es.length:=by
 obtain⟨n,r,j,h1,h2,h3⟩:=(Qce (Zc es) (-1)).1 c;have hk:=Qql (Qdx a) h1 h2;have he:Yb (-1) i w=Yb (-1+(n:Int)) j ((min 4 (r.length-4*j):Nat):Int):=Qda (zB Prod.fst h3);have hn:=Qfp (l:=-1) (i:=(i:Int)) (w:=(w:Int)) (by unfold Ja;omega) hk.1 (by omega) hk.2 he;rcases Qfy h1 with⟨_,rfl⟩|⟨k,d,_,_⟩
 .rw[zA] at h2
  omega
 omega
theorem Qvy(key:O)(a:Sane d U K)(h:Runs d es put false U)(g:U.length<=16384)(e:Qbr (Y9 es) d.files):Sane (pubD es key put d).1 U (K+1048576)/\Runs (pubD es key put d).1 es (pubD es key put d).2.1 (pubD es key put d).2.2.isSome U:=by
 have hl:=h.len;obtain⟨h1,h2,h3,h4,h5,h6,h7⟩:=Qjs key (es:=es) (by omega) (h.live rfl).1 e (h.live rfl).2;refine⟨⟨h2,h3,?_,by have:=a.calls;omega,by have:=a.len;omega,?_,?_⟩,⟨h.short,h.idx,?_⟩⟩
 .intro hd
  rcases h7 with⟨_,k,_⟩|⟨_,_,k,_⟩
  .rw[k.dead] at hd;cases hd
  exact k
 .intro f hf
  rcases h4 f hf with k|k|k
  .exact a.size f k
  .have:=Qyl h.short k;omega
  rw[k];exact Q38 es key (by omega)
 .intro i hi ⟨w,hw,c,b,hb⟩
  rcases h4 _ (Jw hb) with k|k|k
  .refine a.has i hi ⟨w,hw,c,b,Qn5 a.once k⟩
  .exact h.idx i (Q2y (by omega) hi hw c k)
  exact absurd (Qda (zB Prod.fst k)) (Qfx _ _ _)
 intro hf;rcases h7 with⟨_,k1,k2,_⟩|⟨p,k,_⟩
 .exact⟨k1,k2⟩
 rw[k] at hf;cases hf
def Q4g(l:List Fil):List Nat:=l.map λf=>(Jm f.1.data.toList).2.1.toNat
theorem Qn8{l:List Fil}(e:l.length<=K)(g:∀ f∈l,f.2.size<=1048576):Sane (dk0 (firsts l)) (Q4g l) K:=by
 have c:∀ f∈firsts l,f∈l:=by
  unfold firsts
  have:∀ (k acc:List Fil) (f:Fil),f∈k.foldl addF acc->f∈acc∨f∈k:=by
   intro k
   induction k with
   | nil=>intro acc f hf;exact .inl hf
   | cons a k ih=>
    intro acc f hf;rw[zak] at hf;rcases ih _ f hf with h1|h1
    .unfold addF at h1
     split at h1
     .exact .inl h1
     rcases ZL.1 h1 with h2|h2
     .exact .inl h2
     exact .inr (by rw[zS.1 h2];exact ZE)
    exact .inr (zX _ h1)
  intro f hf;rcases this l [] f hf with h1|h1
  .simp at h1
  exact h1
 refine⟨Qyt l,rfl,λh=>(by cases h),zE _,zi (Qry l) e,λf hf=>g f (c f hf),λi hi ⟨w,hw,hw4,b,hb⟩=>?_⟩;refine zU.2 ⟨_,c _ (Jw hb),?_⟩;have d:Ja (-1) i w:=by unfold Ja;omega
 show (Jm (Yb (-1) i w)).2.1.toNat=i;rw[Qav d,Qd4 d (by omega)];simp
section
variable {w:G} {g:Nat} {v:J} {d:Dk} (h:Q5 w g v d) {p:O} (hc:d.calls<1099511627776)
include h hc
theorem Q6k(a:0<Z7 d):Calls prog 299 #[.pointer (some ⟨g,0,none⟩),.string p] w λe w'=>∃ q n,e=.returned (.tuple #[.slice none 0 0,.iface 218 (.pointer (some ⟨q,0,none⟩))])/\w.heap.size<=q/\w'.heap[q]?=some (.cells #[.int .i64 n] 398 (0,0))/\Q5 w' g v (Zu d)/\Fr (·=g) w w':=
 (Qxp w g v d h p hc).m λe w' hp=>by
  obtain⟨h1,h2,⟨_,u,h4,q,n,h5,h6,h7⟩|⟨h3,_⟩|⟨h3,_⟩⟩:=hp
  .exact⟨q,n,by rw[h4,h5],h6,h7,h1,h2⟩
  .omega
  omega
theorem Qyy{s:O}(f:Z7 d=0)(a:getF d.files p=some s):Calls prog 299 #[.pointer (some ⟨g,0,none⟩),.string p] w λe w'=>∃ b c,e=.returned (.tuple #[.slice (some ⟨b,0,none⟩) s.size c,.nilIface])/\Q3 w' w.heap.size (.slice (some ⟨b,0,none⟩) s.size c) s.data.toList/\Q5 w' g v (Zu d)/\Fr (·=g) w w':=
 (Qxp w g v d h p hc).m λe w' hp=>by
  obtain⟨h1,h2,⟨h3,_⟩|⟨_,s',v',h4,h5,h6,b,c,h7⟩|⟨_,h4,_⟩⟩:=hp
  .omega
  .rw[a] at h4
   cases h4
   subst h7
   exact⟨b,c,h5,h6,h1,h2⟩
  rw[a] at h4;cases h4
theorem Q0z(b:Z7 d=0)(a:getF d.files p=none):Calls prog 299 #[.pointer (some ⟨g,0,none⟩),.string p] w λe w'=>e=.returned (.tuple #[.slice none 0 0,.nilIface])/\Q5 w' g v (Zu d)/\Fr (·=g) w w':=
 (Qxp w g v d h p hc).m λe w' hp=>by
  obtain⟨h1,h2,⟨h3,_⟩|⟨_,s',v',h4,_⟩|⟨_,_,h5⟩⟩:=hp
  .omega
  .rw[a] at h4;cases h4
  exact⟨h5,h1,h2⟩
end
variable {v:J} {data:Ud} {w:G}
theorem Qtz(h:Q7 w v data)(b:data.length<=1099511627776)(a:Qs data=none):Calls prog 148 #[v] w λe w'=>e=.returned (.tuple #[.slice none 0 0,.bool false])/\Bz w w':=
 (Qeb v data w h b).m λe w' hp=>by
  obtain⟨v',h1,h2,⟨_,h4⟩|⟨ls,h3,_⟩⟩:=hp
  .rw[a] at h1
   subst h4
   exact⟨h1,h2⟩
  rw[a] at h3;cases h3
theorem Qti{ls:Uc}(h:Q7 w v data)(d:data.length<=1099511627776)(a:Qs data=some ls):Calls prog 148 #[v] w λe w'=>∃ b c,e=.returned (.tuple #[.slice (some ⟨b,0,none⟩) ls.length c,.bool true])/\Yn w' w.heap.size (.slice (some ⟨b,0,none⟩) ls.length c) ls/\Bz w w':=
 (Qeb v data w h d).m λe w' hp=>by
  obtain⟨v',h1,h2,⟨h3,_⟩|⟨ls',h3,h4⟩⟩:=hp
  .rw[a] at h3;cases h3
  rw[a] at h1 h3
  cases h3
  have hl:=(Qbb a).1
  have h5:=h4
  obtain⟨vs,h6,_⟩:=h4
  rcases h6.2 with⟨_,h0⟩|⟨b,cap,cur,rfl,_⟩
  .omega
  exact⟨b,cap,h1,h5,h2⟩
theorem Qyi(t:Int)(i n:Nat)(w:G)(d:4*i<n)(h:n<9223372036854775808)(b:Z5 w):Calls prog 191 #[.int .i64 t,.int .i64 i,.int .i64 n] w λe w'=>e=.returned (.tuple #[.string (sOf (Yb t i ((min 4 (n-4*i):Nat):Int))),.int .i64 ((min 4 (n-4*i):Nat):Int)])/\Bz w w':=by
 have f:wrap64 ((i:Int)*4)=(i:Int)*4:=by unfold wrap64;omega
 have g:wrap64 ((n:Int)-(i:Int)*4)=(n:Int)-(i:Int)*4:=by unfold wrap64;omega
 obtain⟨k,hk⟩:=zzx (min 4 (n-4*i))
 have hm:min (4:Int) ((n:Int)-(i:Int)*4)=(k:Int):=by omega
 rw[<-hk];have a:=Qf0 t i k w (by omega) b;clear b hk d
 go_enter func191,ntmps191
 go_wp2_with (go_at_call 156;refine a.m ?_;rintro e w2⟨rfl,c⟩)
 go_ret2;exact⟨rfl,c⟩
theorem Qkw(w:G)(a:Y Addr)(n c:Nat):(binOp .neq 147 (.slice a n c) (.slice none 0 0)).run prog w=.ok (.bool (!a.isNone)) w:=run_neq_slice_nil_any w _ _ a n c 0 0 underlying147
def unbW(s:O)(k:Nat):Y Uc:=(Qs s.data.toList).bind λe=>if e.length=k then some e else none
section
variable (w:G) (g gd:Nat) (v ve vl vp:J) (vs:List J) (d:Dk) (L:Lg) (h:Z2 w g gd ve vl vp vs L) (hD:Q5 w gd v d) (p:O) (k:Nat) (hc:d.calls<1099511627776)
include h hD hc
theorem Q7l(j:0<Z7 d):Calls prog 202 #[.pointer (some ⟨g,0,none⟩),.string p,.int .i64 k] w λe w'=>
  ∃ q n r,e=.returned (.tuple #[.slice none 0 0,.bool false,.iface 219 (.pointer (some ⟨r,0,none⟩))])/\w.heap.size<=q/\w.heap.size<=r/\w'.heap[q]?=some (.cells #[.int .i64 n] 398 (0,0))/\
   w'.heap[r]?=some (.cells #[.string p,.iface 218 (.pointer (some ⟨q,0,none⟩))] 221 (0,0))/\Q5 w' gd v (Zu d)/\Fr (·=gd) w w':=by
 obtain⟨⟨c0,_⟩,f0⟩:=h.heads;have i:=Q6k (p:=p) hD hc j;clear h hD
 go_enter func202,ntmps202
 go_wp2_with (first|go_at_call 299;refine i.m ?_;rintro e w2⟨q,n,rfl,hq,hh,b,c⟩;have hn:=Qam w2 218 (.pointer (some ⟨q,0,none⟩));obtain⟨HD,HF,HH⟩:=zh3 b c hh;clear b c hh|go_at_call 160;refine (Qrg _ _ _ _).m ?_;rintro e w3⟨u,rfl,⟨r,rfl,hr,f⟩,a⟩;obtain⟨HR,HB⟩:=zh2 f a;clear f a)
 go_returns
 exact⟨_,_,_,rfl,hq,zi HF.o.size hr,(HB.o.block _ (Qb HH.o)).t HH.o,HR.o,HD.o.j HB.o,HF.o.t (Fr.ofBelow HB.o)⟩
theorem Qzw(l:Z7 d=0)(i:getF d.files p=none):Calls prog 202 #[.pointer (some ⟨g,0,none⟩),.string p,.int .i64 k] w λe w'=>
  e=.returned (.tuple #[.slice none 0 0,.bool false,.nilIface])/\Q5 w' gd v (Zu d)/\Fr (·=gd) w w':=by
 obtain⟨⟨c0,_⟩,f0⟩:=h.heads;have f:=Q0z (p:=p) hD hc l i;clear h hD i
 go_enter func202,ntmps202
 go_wp2_with (first|go_at_call 299;refine f.m ?_;rintro e w2⟨rfl,b,c⟩;have hn:=Y2 w2;obtain⟨HD,HF⟩:=zh2 b c;clear b c|go_at_call 148;refine (Qtz (data:=[]) ⟨none,0,rfl,zg _,λj x hx=>by simp at hx⟩ (by simp) Qqo).m ?_;rintro e w3⟨rfl,a⟩;have hq:=Qkw w3 none 0 0;have HB:=zh a;clear a)
 go_returns
 exact⟨rfl,HD.o.j HB.o,HF.o.t (Fr.ofBelow HB.o)⟩
variable {s:O}
theorem Q6e(r:Z7 d=0)(m:getF d.files p=some s)(q:s.size<=1048576)(l:unbW s k=none):Calls prog 202 #[.pointer (some ⟨g,0,none⟩),.string p,.int .i64 k] w λe w'=>
  e=.returned (.tuple #[.slice none 0 0,.bool true,.nilIface])/\Q5 w' gd v (Zu d)/\Fr (·=gd) w w':=by
 obtain⟨⟨c0,_⟩,f0⟩:=h.heads;have j:=Qyy (p:=p) hD hc r m;clear h hD m;cases hb:Qs s.data.toList with
 | none=>
  have HU:=zh hb;clear hb l
  go_enter func202,ntmps202
  go_wp2_with (first|go_at_call 299;refine j.m ?_;rintro e w2⟨b,c,rfl,ho,f,i⟩;have hn:=Y2 w2;obtain⟨HO,HD,HF⟩:=zh3 ho.at f i;clear f i ho|go_at_call 148;refine (Qtz HO.o (by simpa using zi q (by decide)) HU.o).m ?_;rintro e w3⟨rfl,a⟩;have hq:=Qkw w3 (some ⟨b,0,none⟩) s.size c;have HB:=zh a;clear a)
  go_returns
  exact⟨rfl,HD.o.j HB.o,HF.o.t (Fr.ofBelow HB.o)⟩
 | some ls=>
  have n:ls.length≠k:=by intro e;unfold unbW at l;rw[hb,ZP,zD e] at l;cases l
  have t:((ls.length:Int) != (k:Int))=true:=by simp;omega
  have HU:=zh hb;clear hb l n
  go_enter func202,ntmps202
  go_wp2_with (first|go_at_call 299;refine j.m ?_;rintro e w2⟨b,c,rfl,ho,f,i⟩;have hn:=Y2 w2;obtain⟨HO,HD,HF⟩:=zh3 ho.at f i;clear f i ho|go_at_call 148;refine (Qti HO.o (by simpa using zi q (by decide)) HU.o).m ?_;rintro e w3⟨b3,c3,rfl,_,a⟩;have hq:=Qkw w3 (some ⟨b,0,none⟩) s.size c;have HB:=zh a;clear a)
  go_returns
  exact⟨rfl,HD.o.j HB.o,HF.o.t (Fr.ofBelow HB.o)⟩
theorem Qzx{ls:Uc}(r:Z7 d=0)(q:getF d.files p=some s)(t:s.size<=1048576)(a:unbW s k=some ls):Calls prog 202 #[.pointer (some ⟨g,0,none⟩),.string p,.int .i64 k] w λe w'=>
  ∃ b c,e=.returned (.tuple #[.slice (some ⟨b,0,none⟩) ls.length c,.bool true,.nilIface])/\Yn w' w.heap.size (.slice (some ⟨b,0,none⟩) ls.length c) ls/\Q5 w' gd v (Zu d)/\Fr (·=gd) w w':=by
 obtain⟨⟨c0,_⟩,f0⟩:=h.heads;have m:=Qyy (p:=p) hD hc r q;clear h hD q;obtain⟨hb,hl⟩:Qs s.data.toList=some ls/\ls.length=k:=by
  unfold unbW at a;cases hb:Qs s.data.toList with
  | none=>rw[hb] at a;cases a
  | some ls'=>
   rw[hb,ZP] at a
   split at a
   .rename_i e;cases a;exact⟨rfl,e⟩
   cases a
 have u:((ls.length:Int) != (k:Int))=false:=by simp;omega
 have HU:=zh hb;clear hb a hl
 go_enter func202,ntmps202
 go_wp2_with (first|go_at_call 299;refine m.m ?_;rintro e w2⟨b,c,rfl,ho,i,j⟩;have hn:=Y2 w2;obtain⟨HO,HD,HF⟩:=zh3 ho.at i j;clear i j ho|go_at_call 148;refine (Qti HO.o (by simpa using zi t (by decide)) HU.o).m ?_;rintro e w3⟨b3,c3,rfl,l,f⟩;have hq:=Qkw w3 (some ⟨b,0,none⟩) s.size c;obtain⟨n,HB⟩:=zh2 l f;clear f l)
 go_returns
 refine⟨_,_,rfl,?_,HD.o.j HB.o,HF.o.t (Fr.ofBelow HB.o)⟩;exact n.o.m HF.o.size
end
variable {w1:G} {g gd:Nat} {ve vl vp:J} {vs:List J} {L:Lg}
theorem Z2.rest(h:Z2 w g gd ve vl vp vs L){T:Nat->Prop}(a:Fr T w w1)(t:TypeId)(b:∀ k C s f,T k->w.heap[k]?=some (.cells C s f)->s=t):(t≠237->w1.heap[g]?=w.heap[g]?)/\(t≠147->t≠5->Yn w1 0 ve L.entries)/\(t≠133->w1.ownsRow 0 133 1 vl L.levels.length vs)/\
   (t≠143->∀ (j:Nat) (v:J) (r:List Hsh),vs[j]?=some v->L.levels[j]?=some r->Qa5 w1 0 v r)/\(t≠3->w1.ownsRow 0 3 1 vp L.put.length (L.put.map λ(n:Nat)=>.int .i64 (n:Int))):=by
 have key:∀ {k:Nat} {C:Array J} {s:TypeId} {f:Nat×Nat},w.heap[k]?=some (.cells C s f)->t≠s->¬ T k:=λhk hs hd=>hs (b _ _ _ _ hd hk).symm
 refine⟨λht=>a.block g (Qb h.cells) (key h.cells ht),λht ht2=>?_,λht=>?_,λht j v r hv hr=>?_,λht=>?_⟩
 .refine h.ents.fr a (λk hk=>?_) (λk C fz hk=>key hk ht2)
  obtain⟨vs',h1,_⟩:=h.ents;obtain⟨C,hC⟩:=Qk h1 hk;exact key hC ht
 .refine Zf h.rows a λk hk=>?_
  obtain⟨C,hC⟩:=Qk h.rows hk;exact key hC ht
 .refine Zf (h.each j v r hv hr) a λk hk=>?_
  obtain⟨C,hC⟩:=Qk (h.each j v r hv hr) hk;exact key hC ht
 refine Zf h.puts a λk hk=>?_
 obtain⟨C,hC⟩:=Qk h.puts hk;exact key hC ht
variable {C:Array J} {f:Nat×Nat} {u:J} {ls:Uc}
theorem Yn.setLog(a:w.heap[g]?=some (.cells C 237 f))(h:Yn w 0 v ls):Yn (w.setCell ⟨g,i,none⟩ u) 0 v ls:=by refine h.fr (Fr.set1 w g i u) (λk hk e=>?_) (λk C fz hk e=>Zz hk a (by decide) e);obtain⟨vs',h1,_⟩:=h;obtain⟨C,hC⟩:=Qk h1 hk;exact Zz hC a (by decide) e
theorem Jb(c:w.heap[g]?=some (.cells C 237 f)){base:Nat}{e:TypeId}{a:Nat}{xs:List J}(h:w.ownsRow base e a v n xs)(b:e≠237):(w.setCell ⟨g,i,none⟩ u).ownsRow base e a v n xs:=
 Zf h (Fr.set1 w g i u) λk hk ee=>by
  obtain⟨C,hC⟩:=Qk h hk
  exact Zz hC c b ee
theorem Z2.setEnts{a:J}{es:Uc}(h:Z2 w g gd ve vl vp vs L)(d:Fr (λk=>ve.ownBlock=some k) w w1)(e:Yn w1 0 a es)(i:Qba w ve a):Z2 (w1.setCell ⟨g,2,none⟩ a) g gd a vl vp vs { L with entries:=es }/\Fr (LogS g ve vl vp vs) w (w1.setCell ⟨g,2,none⟩ a)/\Sub w (LogS g ve vl vp vs) (LogS g a vl vp vs):=by
 have hT:∀ k C s f,ve.ownBlock=some k->w.heap[k]?=some (.cells C s f)->s=147:=λk C s f hk hC=>by obtain⟨vs',h1,_⟩:=h.ents;obtain⟨C',c⟩:=Qk h1 hk;rw[hC] at c;cases c;rfl
 obtain⟨a1,_,a3,a4,a5⟩:=h.rest d 147 hT;have b:=(a1 (by decide)).t h.cells;refine⟨⟨(heap_setCell b _).t (by simp[Qlt]),e.setLog b,Jb b (a3 (by decide)) (by decide),λj v r hv hr=>Jb b (a4 (by decide) j v r hv hr) (by decide),h.apart,Jb b (a5 (by decide)) (by decide)⟩,
  (d.weak λk _ hk=>.inr (.inl hk)).t ((Fr.set1 w1 g 2 a).weak λk _ hk=>.inl hk),λk hk=>?_⟩
 rcases hk with hk|hk|hk
 .exact .inl (.inl hk)
 .exact (i k hk).imp (λh=>.inr (.inl h)) id
 exact .inl (.inr (.inr hk))
theorem Z2.setPuts{vp':J}{ps:List Nat}(h:Z2 w g gd ve vl vp vs L)(c:Fr (λk=>vp.ownBlock=some k) w w1)(d:w1.ownsRow 0 3 1 vp' ps.length (ps.map λ(n:Nat)=>.int .i64 (n:Int)))(e:Qba w vp vp'):Z2 (w1.setCell ⟨g,4,none⟩ vp') g gd ve vl vp' vs { L with put:=ps }/\Fr (LogS g ve vl vp vs) w (w1.setCell ⟨g,4,none⟩ vp')/\Sub w (LogS g ve vl vp vs) (LogS g ve vl vp' vs):=by
 have hT:∀ k C s f,vp.ownBlock=some k->w.heap[k]?=some (.cells C s f)->s=3:=λk C s f hk hC=>by obtain⟨C',b⟩:=Qk h.puts hk;rw[hC] at b;cases b;rfl
 obtain⟨a1,a2,a3,a4,_⟩:=h.rest c 3 hT;have a:=(a1 (by decide)).t h.cells;refine⟨⟨(heap_setCell a _).t (by simp[Qlt]),(a2 (by decide) (by decide)).setLog a,Jb a (a3 (by decide)) (by decide),λj v r hv hr=>Jb a (a4 (by decide) j v r hv hr) (by decide),h.apart,Jb a d (by decide)⟩,
  (c.weak λk _ hk=>.inr (.inr (.inr (.inl hk)))).t ((Fr.set1 w1 g 4 vp').weak λk _ hk=>.inl hk),λk hk=>?_⟩
 rcases hk with hk|hk|hk|hk|hk
 .exact .inl (.inl hk)
 .exact .inl (.inr (.inl hk))
 .exact .inl (.inr (.inr (.inl hk)))
 .exact (e k hk).imp (λh=>.inr (.inr (.inr (.inl h)))) id
 exact .inl (.inr (.inr (.inr (.inr hk))))
theorem Z2.fail(h:Z2 w g gd ve vl vp vs L)(b:Bool):Z2 (w.setCell ⟨g,5,none⟩ (.bool b)) g gd ve vl vp vs { L with failed:=b }/\Fr (LogS g ve vl vp vs) w (w.setCell ⟨g,5,none⟩ (.bool b)):=by
 have a:=h.cells;exact⟨⟨(heap_setCell a _).t (by simp[Qlt]),h.ents.setLog a,Jb a h.rows (by decide),λj v r hv hr=>Jb a (h.each j v r hv hr) (by decide),h.apart,Jb a h.puts (by decide)⟩,(Fr.set1 w g 5 (.bool b)).weak λk _ hk=>.inl hk⟩
theorem Z2.setPut(h:Z2 w g gd ve vl vp vs L){bp cp:Nat}(a:vp=.slice (some ⟨bp,0,none⟩) L.put.length cp)(n x:Nat):Z2 (w.setCell ⟨bp,n,none⟩ (.int .i64 x)) g gd ve vl vp vs { L with put:=L.put.set n x }/\Fr (LogS g ve vl vp vs) w (w.setCell ⟨bp,n,none⟩ (.int .i64 x)):=by
 have hk:vp.ownBlock=some bp:=by rw[a];rfl
 obtain⟨C,hC⟩:=Qk h.puts hk;have hf:=Fr.set1 w bp n (.int .i64 (x:Int));obtain⟨a1,a2,a3,a4,_⟩:=h.rest hf 3 λk C' s f hk' hC'=>by subst hk';rw[hC] at hC';cases hC';rfl
 refine⟨⟨(a1 (by decide)).t h.cells,a2 (by decide) (by decide),a3 (by decide),a4 (by decide),h.apart,?_⟩,hf.weak λk _ hk=>.inr (.inr (.inr (.inl (by rw[a,hk];rfl))))⟩;rcases h.puts.2 with⟨e,_⟩|⟨b,cap,cur,e,c,hb,r1,r2,r3,r4⟩
 .rw[a] at e;cases e
 rw[a] at e;cases e;refine⟨by simp,.inr ⟨bp,cp,_,by simpa using a,zE _,heap_setCell hb _,by simpa using r1,r2,by simpa using r3,?_⟩⟩;rw[xr,zb4];simp only[Vn];rw[r4,zbh]
theorem Yn.push{f:J}{m:Nat}{ls':Uc}{c:List J}(a:w.ownsRow 0 147 1 v n vs)(g:∀ (j:Nat) (u:J) (l:Ud),vs[j]?=some u->ls[j]?=some l->Q3 w 0 u l)(p:n=ls.length)(i:Fr (λk=>v.ownBlock=some k) w w1)(q:w1.ownsRow 0 147 1 f m (vs++c))(o:m=ls.length+ls'.length)(h:∀ (j:Nat) (u:J) (l:Ud),c[j]?=some u->ls'[j]?=some l->Q3 w 0 u l):Yn w1 0 f (ls++ls'):=by
 have hl:vs.length=n:=by simpa using a.1
 have b:∀ (k:Nat) (C:Array J) (fz:Nat×Nat),w.heap[k]?=some (Obj.cells C 5 fz)->w1.heap[k]?=w.heap[k]?:=λk C fz hk=>i.block k (Qb hk) λe=>by obtain⟨C',d⟩:=Qk a e;exact Zz hk d (by decide) rfl
 refine⟨vs++c,by rw[zn,<-o];exact q,λj u l hu' hl'=>?_⟩;by_cases hj:j<vs.length
 .rw[zV hj] at hu'
  rw[zV (by omega)] at hl';exact (g j u l hu' hl').same b
 rw[ZC (by omega)] at hu' hl';rw[hl,p] at hu';exact (h _ u l hu' hl').same b
end
section
theorem Qv0:∃ i,prog.info? 3=some i/\i.zero=some (.int .i64 0)/\i.size=1/\i.bytes=8:=by
 have h:(prog.info? 3).map (λi=>(i.zero,i.size,i.bytes))=some (some (.int .i64 0),1,8):=by kernel_rfl
 cases hi:prog.info? 3 with
 | none=>rw[hi] at h;simp at h
 | some i=>rw[hi] at h;simp at h;exact⟨i,rfl,h.1,h.2.1,h.2.2⟩
def Qaf(g gd:Nat)(v ve vl vp:J)(vs:List J)(k:Nat):Prop:=dkS gd v k∨LogS g ve vl vp vs k
structure Wk(w:G)(g gd:Nat)(v ve vl vp:J)(vs:List J)(L:Lg)(v' vp':J)(d':Dk)(ps:List Nat)(w':G):Prop where
 disk:Q5 w' gd v' d'
 log:Z2 w' g gd ve vl vp' vs { L with put:=ps }
 fr:Fr (Qaf g gd v ve vl vp vs) w w'
 sub:Sub w (Qaf g gd v ve vl vp vs) (Qaf g gd v' ve vl vp' vs)
section
variable {w w1 w2:G} {g gd:Nat} {v v1 v2 ve vl vp vp1 vp2:J} {vs:List J} {L:Lg} {d1 d2:Dk} {ps ps2:List Nat}
theorem Wk.put(h:Wk w g gd v ve vl vp vs L v1 vp1 d1 ps w1)(c:Q5 w2 gd v2 d2)(a:Fr (dkS gd v1) w1 w2)(d:Qba w1 v1 v2)(b:w.heap.size<=w1.heap.size):Wk w g gd v ve vl vp vs L v2 vp1 d2 ps w2:=by
 refine⟨c,h.log.fr a (λk hk=>h.log.apartDisk h.disk k hk) h.disk.noBytes,Fr.sub h.fr (a.weak λk _ hk=>(.inl hk:Qaf g gd v1 ve vl vp1 vs k)) h.sub,h.sub.t (λk hk=>?_) b⟩;rcases hk with (hk|hk)|hk
 .exact .inl (.inl (.inl hk))
 .exact (d k hk).imp (λh=>.inl (.inr h)) id
 exact .inl (.inr hk)
theorem Wk.j(h:Wk w g gd v ve vl vp vs L v1 vp1 d1 ps w1)(a:Bz w1 w2):Wk w g gd v ve vl vp vs L v1 vp1 d1 ps w2:=
 ⟨h.disk.j a,h.log.j a,h.fr.t (Fr.ofBelow a),h.sub⟩
theorem Wk.marks(h:Wk w g gd v ve vl vp vs L v1 vp1 d1 ps w1)(c:Z2 w2 g gd ve vl vp2 vs { L with put:=ps2 })(a:Fr (LogS g ve vl vp1 vs) w1 w2)(d:Sub w1 (LogS g ve vl vp1 vs) (LogS g ve vl vp2 vs))(b:w.heap.size<=w1.heap.size):Wk w g gd v ve vl vp vs L v1 vp2 d1 ps2 w2:=by
 refine⟨h.disk.fr a λk hk hS=>h.log.apartDisk h.disk k hS hk,c,Fr.sub h.fr (a.weak λk _ hk=>(.inr hk:Qaf g gd v1 ve vl vp1 vs k)) h.sub,h.sub.t (λk hk=>?_) b⟩;rcases hk with hk|hk
 .exact .inl (.inl hk)
 exact (d k hk).imp (λh=>.inr h) id
end
def Qpd(w:G)(g gd:Nat)(v ve vl vp:J)(vs:List J)(d:Dk)(L:Lg)(t:Int)(n:Nat)(row:Uc)(e:Ua)(w':G):Prop:=
 ∃ p1 q,p1=L.put++List.replicate (n+1-L.put.length) 0/\q=Qan t row (p1.getD n 0 / 4) d/\∃ v' vp',Wk w g gd v ve vl vp vs L v' vp' q.1 (p1.set n q.2.1) w'/\
  ((q.2.2=none/\e=.returned .nilIface)∨∃ p r u m,q.2.2=some p/\e=.returned (.iface 219 (.pointer (some ⟨r,0,none⟩)))/\w.heap.size<=r/\w.heap.size<=u/\w'.heap[u]?=some (.cells #[.int .i64 m] 398 (0,0))/\
   w'.heap[r]?=some (.cells #[.string p,.iface 218 (.pointer (some ⟨u,0,none⟩))] 221 (0,0)))
theorem Zee(j a k:Nat)(b:k=min 4 (a-4*j))(h:4*j<a):4*min (j+1) (a / 4)=if k=4 then 4*j+4 else 4*min j (a / 4):=by split <;> omega
theorem Zbb(k:Nat):((k:Int) == 4)=decide (k=4):=by rw[Vf];simp;omega
theorem Zd0(j a k:Nat)(c:a<=1048576)(b:k=min 4 (a-4*j))(h:4*j<a):wrap64 (4*(j:Int)+(k:Int))=4*(j:Int)+(k:Int):=by unfold wrap64;omega
variable {a b j j0 len:Nat}
theorem Zdt(h:a<=b+(j-j0))(c:b<1000000000000)(d:4*j<len)(e:len<=1048576):a<1099511627776:=by omega
theorem Zca(j a k:Nat)(c:a<=1048576)(b:k=min 4 (a-4*j))(h:4*j<a):IntKind.i64.wrap (4*(j:Int)+(k:Int))=4*(j:Int)+(k:Int):=by rw[IntKind.wrap_i64];omega
theorem Q5q(d:Dk)(p b:O):(putD d p b).calls=d.calls+1/\(putD d p b).files.length<=d.files.length+1:=by
 unfold putD
 split
 .exact⟨Qne d,by show (Zu d).files.length<=_;rw[Jd];omega⟩
 refine⟨(Qof d p b).2.2.2,?_⟩;rw[Qgf]
 split
 .exact (Qn9 _ _ _).2
 omega
theorem Qts{c:Nat}(h:a<=b+(j-j0))(d:c<=a+1)(e:j0<=j):c<=b+(j+1-j0):=by omega
theorem Q50{gk:Nat}(a:4*j<len):len+4-4*(j+1)<len+4-4*j:=by omega
theorem Q8j(ps:List Nat)(x:Nat):(ps ++ [x]).map (λ(n:Nat)=>Value.int .i64 (n:Int))=ps.map (λ(n:Nat)=>Value.int .i64 (n:Int)) ++ [.int .i64 (x:Int)]:=by simp
theorem Qv8(f:Nat->Addr)(w:G)(g z:Nat)(v N P E:J)(Q:List J)(d:Dk)(L:Lg)(h:Z2 w g z N P E Q L)(hD:Q5 w z v d)(hE:Qbj f (Qaf g z v N P E Q) w)(t:Int)(n:Nat)(ht:t+1=n)(hn:n<=1048576)(db:L.put.length<=1048576)(c:Uc)(M:c.length<=1048576)(ad:∀ a,L.put[n]?=some a->a%4=0/\a<=c.length)(V:∀ x∈c,x.length<=64)(hc:d.calls<1000000000000)(cn:d.files.length<1000000000000)(F:FuncId)(gc:Nat)(c1:∀ args w,(callFunc F args).run prog w=.ok (.enter F args) w)(hF:∀ (w1:G) (ag:J) (ps:List Nat),Z2 w1 g z N P ag Q { L with put:=ps }->Fr (Qaf g z v N P E Q) w w1->∀ j,4*j<c.length->
   Calls prog F #[.int .i64 (4*(j:Int)),.int .i64 (4*(j:Int)+((min 4 (c.length-4*j):Nat):Int)),.pointer (some ⟨gc,0,none⟩)] w1 λe w2=>∃ vb,e=.returned vb/\Q7 w2 vb ((c.drop (4*j)).take 4).flatten/\Bz w1 w2):Calls prog 167 #[.pointer (some ⟨g,0,none⟩),.int .i64 t,.int .i64 c.length,.func (.func F) #[] #[.pointer (some ⟨gc,0,none⟩)]] w (Qpd w g z v N P E Q d L t n c):=by
 obtain⟨HE,HF,HM,cy⟩:=zh4 hE hF ad V;have hg:=Qb h.cells;have ca:=zh (⟨hD,h,Fr.refl _ _,Sub.refl _ _⟩:Wk w g z v N P E Q L v E d L.put w);have de:wrap64 (t+1)=(n:Int):=by rw[ht];unfold wrap64;omega
 have HT:=zh ht;clear h hD hE hF ad V ht;obtain⟨i0,bk,bx,bt,ap⟩:=Qv0;have HI:=zh (⟨bk,bx,bt,ap⟩:_/\_/\_/\_);clear bk bx bt ap
 go_enter func167,ntmps167
 go_wp2_with fail
 go_loopg [] (n+2) (λgg wr=>∃ (k:Nat) (ag:J),k<=n+1-L.put.length/\n+2-k<=gg/\Aside (Wk w g z v N P E Q L v ag d (L.put++List.replicate k 0) wr)/\w.heap.size<=wr.heap.size)
 case atStart=>
  refine⟨0,E,zE _,by omega,?_,zg _⟩;show Wk _ _ _ _ _ _ _ _ _ _ _ _ _ _;rw[List.replicate_zero,ZW];exact ca.o
 case round=>
  obtain⟨k,ag,hk,c5,s,bu⟩:=hrel;have av:=s.o.log.heads;have c4:=av.1.2.2.2.2.1;have f4:=av.2 4;have cq:=Qb s.o.log.cells;obtain⟨a1,i,rfl⟩:=Zo s.o.log.puts;obtain⟨np,D⟩:=zzx (({ L with put:=L.put++List.replicate k 0 }:Lg).put.length)
  have W:np=L.put.length+k:=by rw[D];simp
  have y:=s.o.log.puts;rw[<-D] at c4 y;have bq:¬ (Value.slice a1 np i).ownBlock=some g:=λe=>by obtain⟨C,hC⟩:=Qk y e;exact Zz s.o.log.cells hC (by decide) rfl
  obtain⟨X,K,bb,ak⟩:=zh4 D y bq W;clear av D y bq;by_cases hlt:np<=n
  .have b2:(np:Int)<=(n:Int):=by omega
   have cs:np+1<=1099511627776:=by omega
   clear W
   go_wp2_with (at_builtin;refine Qde rfl _ _ _ rfl 0 3 i0 _ 1 8 underlying124 HI.o.1 HI.o.2.1 HI.o.2.2.1 HI.o.2.2.2 rfl (by decide) (by decide) (.slice a1 np i) np _ (by rfl) (Qn K.o (Qa wr (.cells #[.int .i64 0] 3))) ⟨wr.heap.size,0,none⟩ 1 1 [.int .i64 0] rfl rfl (Xb _ _ _) (by simp[Value.oneCell']) (by decide) cs (zE _) ?_;intro v' w' h2 h3 h4 h5;obtain⟨gb,cpb,rfl,c3⟩:=Qbz h2 h5;obtain⟨H2,H3,H4⟩:=zh3 h2 ((Fr.ofBelow (S:=λk=>(Value.slice a1 np i).ownBlock=some k) (Qa wr (.cells #[.int .i64 0] 3))).t (Fr.ofGrown h3 λk _ e=>e)) ((Qba.refl wr (.slice a1 np i)).t h4 (by simp));go_must (have k3:=H3.o.cell c4 bb.o;have k4:=(H3.o.frozen (p:=⟨g,4,none⟩) cq bb.o).t f4;clear h2 h3 h4 h5))
   go_roundg (n+2-(k+1))
   case measure=>omega
   case rel=>
    have hp:=s.o.log.setPuts (ps:=L.put++List.replicate (k+1) 0) (vp':=.slice (some ⟨gb,0,none⟩) (np+1) cpb) (by rw[<-X.o];exact H3.o) (by
     have e:L.put++List.replicate (k+1) 0=L.put++List.replicate k 0 ++ [0]:=by rw[ZS,List.replicate_succ']
     rw[e,Q8j]
     have e2:(L.put++List.replicate k 0 ++ [0]).length=np+1:=by have:=ak.o;simp only[zn,Xe,zx,vL];omega
     rw[e2]
     exact H2.o) (by rw[<-X.o];exact H4.o)
    exact⟨k+1,.slice (some ⟨gb,0,none⟩) (np+1) cpb,by have:=ak.o;omega,by omega,s.o.marks hp.1 hp.2.1 hp.2.2 bu,by have:=hp.2.1.size;omega⟩
  have b2:¬ (np:Int)<=(n:Int):=by omega
  have bm:k=n+1-L.put.length:=by omega
  obtain⟨p1,U⟩:=zzx (L.put++List.replicate k 0)
  have a3:p1.length=np:=by rw[U,X.o]
  obtain⟨a,ha⟩:∃ a,p1[n]?=some a:=⟨_,ze (by omega)⟩
  have ch:a%4=0/\a<=c.length:=by
   rw[U] at ha;by_cases hl:n<L.put.length
   .rw[zV hl] at ha
    exact HM.o a ha
   rw[ZC (by omega),xP] at ha
   split at ha
   .cases ha;exact⟨rfl,by omega⟩
   cases ha
  obtain⟨bp,rfl⟩:∃ bp,a1=some ⟨bp,0,none⟩:=by
   rcases K.o.2 with⟨e,h0⟩|⟨b,cap,cur,e,_⟩
   .omega
   simp at e;exact⟨b,e.1⟩
  have cbp:wr.cell? ⟨bp,n,none⟩=some (.int .i64 (a:Int)):=by have h1:=K.o.cells (g:=bp) rfl n (.int .i64 (a:Int)) (by show ((L.put++List.replicate k 0).map _)[n]?=_;rw[<-U,zN,ha];rfl);rw[ZX] at h1;simpa using h1
  obtain⟨j0,m⟩:=zzx (a / 4)
  have bc:a=4*j0:=by omega
  have a4:p1.set n (4*min j0 (c.length / 4))=p1:=by
   have e:4*min j0 (c.length / 4)=a:=by omega
   rw[e];obtain⟨b1,he⟩:=zj.1 ha;rw[<-he];exact zam b1
  have ac:p1.getD n 0 / 4=j0:=by rw[zz,ha];exact m.symm
  have da:(n:Int)<(np:Int):=by omega
  have c9:(0:Int)<=(n:Int):=by omega
  have cbp':wr.cell? ⟨bp,n,none⟩=some (.int .i64 (4*(j0:Int))):=by rw[cbp,bc];congr 2
  obtain⟨b0,ai,ba,al,am⟩:=zh5 a4 ac bm U a3;have c7:4*j0<=c.length:=by omega
  clear a4 ac bm U a3 ha cbp bc m ch W
  go_wp2_with fail
  go_loopg [10] (c.length+4) (λgg s10 wx=>∃ j:Nat,j0<=j/\4*j<c.length+4/\c.length+4-4*j<=gg/\s10=.int .i64 (4*(j:Int))/\∃ v1 d1,Aside (Wk w g z v N P E Q L v1 (.slice (some ⟨bp,0,none⟩) p1.length i) d1 (p1.set n (4*min j (c.length / 4))) wx)/\
   Aside (Qan t c j0 d=Qan t c j d1)/\d1.calls<=d.calls+(j-j0)/\d1.files.length<=d.files.length+(j-j0)/\w.heap.size<=wx.heap.size)
  case atStart=>
   refine⟨j0,zg _,by omega,by omega,rfl,v,d,?_,rfl,by omega,by omega,bu⟩;show Wk _ _ _ _ _ _ _ _ _ _ _ _ _ _;rw[b0.o,am.o,al.o,X.o];exact s.o
  case round=>
   obtain⟨j,m,c6,bh,rfl,v1,d1,ab,HJ,aw,ax,dd⟩:=hrel;by_cases hlt2:4*j<c.length
   .have a6:4*(j:Int)<(c.length:Int):=by omega
    have dc:4*(j:Int) / 4=(j:Int):=by omega
    obtain⟨k',A⟩:=zzx (min 4 (c.length-4*j))
    obtain⟨p,hp⟩:=zzx ((Yv t c j).1)
    have au:=Qyi t j c.length wr hlt2 (by omega) (HE.o.step ab.o.fr ab.o.sub).num;rw[show sOf (Yb t (j:Int) ((min 4 (c.length-4*j):Nat):Int))=p from hp.symm,<-A] at au;have df:=Zd0 j c.length k' M A hlt2;have cw:IntKind.i64.wrap (4*(j:Int)+(k':Int))=4*(j:Int)+(k':Int):=Zca j c.length k' M A hlt2;have bl:=Zee j c.length k' A hlt2;have c8:k'<=4:=A ▸ Nat.min_le_left _ _;obtain⟨ck,c0,ar⟩:∃ ck,((k':Int) == 4)=ck/\ck=decide (k'=4):=⟨_,rfl,Zbb k'⟩
    obtain⟨HK,HP,a9,a8⟩:=zh4 A hp bl ar;have cl:d1.calls<1099511627776:=Zdt aw hc hlt2 M;have cm:d1.files.length<1099511627776:=Zdt ax cn hlt2 M;clear A hp bl ar
    go_wp2_with (go_at_call 191;refine au.m ?_;rintro e w3⟨rfl,ao⟩;obtain⟨H,cx⟩:=zh2 (ab.o.j ao) ao;have bf:=H.o.log.heads;clear ao)
    have cc:=bf.1.1;have bi:=Qb H.o.log.cells;clear bf
    go_cut [13] from 54 to 67 (λs13 wy=>∃ v2,Aside (Wk w g z v N P E Q L v2 (.slice (some ⟨bp,0,none⟩) p1.length i) (putD d1 p (Yv t c j).2) (p1.set n (4*min j (c.length / 4))) wy)/\Aside (∃ bs,w.heap.size<=bs/\Qdw wy bs (Qg6 d1 (Yv t c j)) s13)/\w.heap.size<=wy.heap.size)
    case first=>
     go_region_law (first|go_simp;have be:=HF.o _ _ _ (H.o.j (Ql w3)).log (H.o.j (Ql w3)).fr j hlt2;rw[<-HK.o] at be;refine be.m ?_;rintro e w4⟨vb,rfl,bw,T⟩;obtain⟨b9,an,b6⟩:=zh3 bw ((H.o.j (Ql w3)).j T) T;have cz:=(T.cell (p:=⟨g,0,none⟩) bi).t cc;have c2:g<w4.heap.size:=zJ bi T.size;clear T bw|go_simp;go_invoke;go_simp;go_at_call 300;refine (Zci w4 z v1 d1 an.o.disk p vb _ b9.o cl cm).m ?_;rintro e w5⟨u,rfl,bo,v2,bg,az,bn⟩;obtain⟨b8,cb,b7⟩:=zh3 bo (an.o.put bg az bn (by have:=H.o.fr.size;have:=b6.o.size;exact zi ‹w.heap.size<=w3.heap.size› this)) az;clear bo bg az bn)
     all_goals (
      go_wp2
      go_meet
      have a5:w.heap.size<=w4.heap.size:=by have:=an.o.fr.size;exact this
      refine⟨v2,cb.o,⟨w4.heap.size,a5,?_⟩,zi a5 b7.o.size⟩
      unfold Qg6
      rw[<-HP.o]
      exact b8.o)
    case rest=>
     obtain⟨v2,R,aj,af⟩:=hcut;have l:=aj.o;clear aj;obtain⟨bs,cj,l⟩:=l;cases hbad:Qg6 d1 (Yv t c j) with
     | true=>
      rw[hbad] at l;have bz:=zh hbad;obtain⟨q,nn,rfl,hq,hh⟩:Qop wc bs u13:=l;have HH:=zh hh;have ct:=Qam wc 218 (.pointer (some ⟨q,0,none⟩));clear hbad hh
      go_wp2_with (go_at_call 160;refine (Qrg _ _ _ _).m ?_;rintro e w7⟨u,rfl,⟨r,rfl,hr,bj⟩,bd⟩;obtain⟨HR,a7⟩:=zh2 bj bd;clear bj bd)
      go_ret;have hw:=Q1c t c j d1 hlt2 bz.o;refine⟨p1,Qan t c j0 d,?_,?_,v2,.slice (some ⟨bp,0,none⟩) p1.length i,?_,.inr ⟨p,r,q,nn,?_,rfl,zi af hr,zi cj hq,(a7.o.block _ (Qb HH.o)).t HH.o,HR.o⟩⟩
      .rw[al.o,ba.o]
      .rw[ai.o]
      .rw[HJ.o,hw,<-HP.o]
       exact R.o.j a7.o
      rw[HJ.o,hw,<-HP.o]
     | false=>
      rw[hbad] at l;have b5:u13=.nilIface:=l;subst b5;have ct:=Y2 wc;have hstep:=Qza t c j d1 hlt2 hbad;rw[<-HP.o] at hstep;have aa:=zh hstep;have br:=Q5q d1 p (Yv t c j).2;have Z:=zh br;have a0:wc.ownsRow 0 3 1 (.slice (some ⟨bp,0,none⟩) p1.length i) p1.length ((p1.set n (4*min j (c.length / 4))).map λ(n:Nat)=>.int .i64 (n:Int)):=by have h1:=R.o.log.puts;have e:({ L with put:=p1.set n (4*min j (c.length / 4)) }:Lg).put.length=p1.length:=Vn;rw[e] at h1;exact h1
      have D:n<p1.length:=by rw[am.o];omega
      have aq:wc.cell? ⟨bp,n,none⟩=some (.int .i64 ((4*min j (c.length / 4):Nat):Int)):=by have h1:=a0.cells (g:=bp) rfl n (.int .i64 ((4*min j (c.length / 4):Nat):Int)) (by rw[zN,vA D];rfl);rw[ZX] at h1;simpa using h1
      obtain⟨C,hC⟩:=Qk a0 (k:=bp) rfl;have co:=Qu hC n;have ci:=Qb hC;clear hbad hstep br l a0 hC D;cases ck with
      | true=>
       have B:k'=4:=by have:=a8.o;simpa using this
       have I:=zh B;clear B;obtain⟨old,a2⟩:=zzx ((4*min j (c.length / 4):Nat):Int)
       rw[<-a2] at aq;clear a2
       go_wp2
       go_roundg (c.length+4-4*(j+1))
       case measure=>exact zJ (Q50 (gk:=0) hlt2) bh
       case rel=>
        have ae:=R.o.log.setPut (bp:=bp) (cp:=i) (by show _=Value.slice _ (p1.set n _).length _;rw[Vn]) n (4*j+k');have cu:((4*j+k':Nat):Int)=4*(j:Int)+(k':Int):=by omega
        rw[cu] at ae;have cr:(p1.set n (4*min j (c.length / 4))).set n (4*j+k')=p1.set n (4*min (j+1) (c.length / 4)):=by rw[List.set_set,a9.o,zD I.o,I.o]
        refine⟨j+1,xq m,by omega,zg _,by go_num,v2,putD d1 p (Yv t c j).2,?_,?_,Qts aw (VN Z.o.1) m,Qts ax Z.o.2 m,?_⟩
        .show Wk _ _ _ _ _ _ _ _ _ _ _ _ _ _
         rw[<-cr];exact R.o.marks ae.1 ae.2 (Sub.refl _ _) af
        .show Qan _ _ _ _=_
         rw[HJ.o,aa.o]
        have:=ae.2.size;exact zi af this
      | false=>
       have B:k'≠4:=by have:=a8.o;simpa using this
       have I:=zh B;clear B aq co ci
       go_wp2
       go_roundg (c.length+4-4*(j+1))
       case measure=>exact zJ (Q50 (gk:=0) hlt2) bh
       case rel=>
        refine⟨j+1,xq m,by omega,zg _,by go_num,v2,putD d1 p (Yv t c j).2,?_,?_,Qts aw (VN Z.o.1) m,Qts ax Z.o.2 m,af⟩
        .show Wk _ _ _ _ _ _ _ _ _ _ _ _ _ _
         rw[a9.o,zw I.o];exact R.o
        show Qan _ _ _ _=_;rw[HJ.o,aa.o]
   have a6:¬ 4*(j:Int)<(c.length:Int):=by omega
   have ay:c.length<=4*j:=by omega
   have ah:=zh ay;clear ay
   go_wp2
   go_ret;have hw:=Q17 t c j d1 ah.o;have b3:4*min j (c.length / 4)=4*(c.length / 4):=by have:=ah.o;omega
   refine⟨p1,Qan t c j0 d,?_,?_,v1,.slice (some ⟨bp,0,none⟩) p1.length i,?_,.inl ⟨?_,rfl⟩⟩
   .rw[al.o,ba.o]
   .rw[ai.o]
   .rw[HJ.o,hw,<-b3]
    exact ab.o
   rw[HJ.o,hw]
variable {l l':List Fil}
theorem Qp0(h:Once l)(a:l'.Perm l):Once l':=(VQ (a.map (Prod.fst))).2 h
theorem Qcn(h:Once l)(a:l'.Perm l):getF l'=getF l:=by
 funext p
 cases hg:getF l p with
 | none=>exact Qey.2 λf hf=>Qey.1 hg f (a.mem_iff.1 hf)
 | some b=>exact Qn5 (Qp0 h a) (a.mem_iff.2 (Jw hg))
section
variable {l l':List Fil} (h:getF l'=getF l)
include h
theorem Qo8(i w:Nat):Yl l' i w=Yl l i w:=by unfold Yl;rw[h]
theorem Qkq(n:Nat):∀ (m i:Nat) (d:Uc),Qct l' n m i d=Qct l n m i d
 | 0,_,_=>rfl
 | m+1,i,d=>by
   rw[Qct,Qct,Qo8 h]
   cases Yl l i (min 4 (n-4*i)) with
   | none=>rfl
   | some e=>exact Qkq n m (i+1) (d++e)
theorem Qna(d:Uc):∀ w,Ya l' d w=Ya l d w
 | 0=>rfl
 | w+1=>by rw[Ya,Ya,Qna d w,Qo8 h,h]
theorem Qm4(d:Uc):Zx l' d=Zx l d:=Qna h d 4
theorem Q84{d r:Uc}(g:Goes l' d r):Goes l d r:=by
 induction g with
 | stop h1=>rw[Qm4 h] at h1 ⊢;exact .stop h1
 | more h1 _ ih=>rw[Qm4 h] at h1 ih;exact .more h1 ih
theorem Qfd(key:O):Y4 l' key=Y4 l key:=by unfold Y4;rw[h]
theorem Qqi{key:O}{o:Opn}(g:Yu l' key o):Yu l key o:=by
 cases g with
 | checkpoint h1=>rw[Qfd h] at h1;exact .checkpoint h1
 | tile h1 h2=>rw[Qfd h] at h1;rw[Qkq h] at h2;exact .tile h1 h2
 | proof h1 h2 h3=>rw[Qfd h] at h1;rw[Qkq h] at h2;exact .proof h1 h2 h3
 | fine h1 h2 h3 h4=>rw[Qfd h] at h1;rw[Qkq h] at h2;exact .fine h1 h2 h3 (Q84 h h4)
theorem Zbh{N:Nat}(g:FewB l N):FewB l' N:=λm hm=>g m λi hi=>by
 obtain⟨w,h1,h2,b,h3⟩:=hm i hi
 exact⟨w,h1,h2,b,by rw[<-h];exact h3⟩
end
def Qhe(l W:List Fil):Bool:=W.any λf=>Qco l f.1 f.2
variable {W:List Fil}
theorem Q1v(h:Qhe l W=false):Qbr W l:=λf hf=>by
 unfold Qhe at h
 have:=XO.1 h f hf
 simpa using this
theorem Q7z(h:Qbr W l):Qhe l W=false:=XO.2 λf hf=>by rw[h f hf];decide
theorem Q1h(h:getF l'=getF l)(W:List Fil):Qhe l' W=Qhe l W:=by unfold Qhe Qco;rw[h]
theorem Qyu(es:Uc)(k j:Nat)(a:k<=30)(h:(j+1)*4 ^ k<=es.length):rootOf ((es.drop (j*4 ^ k)).take (4 ^ k))=Zw es (2*k) j:=by
 have e:=Qg4 k
 have:=Qc6 es (2*k) j (by omega) (by rw[e];exact h)
 rw[e] at this;exact this.symm
theorem Qov{ls:Uc}(a:ls.length≠0)(b:ls.length<=4)(h:∀ l∈ls,l.length<=20):Yf ls=some (ls.map encE).flatten:=by rw[Qb9 a b λj l hl=>h l (zr hl),Vz]
theorem Q1z{l:Ud}(h:l.length<=20):Yf [l]=some (encE l):=by rw[Qov (by simp) (by simp) (by simpa using h)];simp
theorem Qv4:∀ (hs:List Hsh) (i:Nat) (x:Hsh),hs[i]?=some x->∀ c,(hc:c<8)->(hs.flatMap λh=>(h8 h).toList)[i*8+c]?=some (u8 x[c])
 | [],i,x,h,c,hc=>by simp at h
 | a :: hs,0,x,h,c,hc=>by
   simp at h
   subst h
   rw[vZ,zV (by simp;omega)]
   simp[h8,hc]
 | a :: hs,i+1,x,h,c,hc=>by
   rw[vZ,ZC (by simp;omega)]
   have:=Qv4 hs i x (by simpa using h) c hc
   rw[show (i+1)*8+c-(h8 a).toList.length=i*8+c by simp;omega]
   exact this
theorem Qqg{w:G}{g n b:Nat}{a:List Hsh}(h:w.ownsRow 0 143 8 (.slice (some ⟨g,0,none⟩) n b) a.length (a.flatMap λh=>(h8 h).toList)){i:Nat}{x:Hsh}(e:a[i]?=some x)(c:Nat)(d:c<8):w.cell? ⟨g,i*8+c,none⟩=some (u8 x[c]):=by have h1:=h.cells (g:=g) rfl (i*8+c) _ (Qv4 a i x e c d);rw[ZX] at h1;simpa using h1
theorem Zas{es:Uc}(i k:Nat)(f:k<=4)(b:0<k)(d:i<es.length)(c:k=min 4 (es.length-i))(a:∀ e∈es,e.length<=20):Yf ((es.drop i).take k)=some (((es.map encE).drop i).take 4).flatten:=by
 have hl:((es.drop i).take k).length=k:=by rw[zm,zM];omega
 rw[Qov (by omega) (by omega) λl hl=>a l (ZF (zQ hl)),vJ,Vl]
 congr 2
 rcases zK (es.length-i) 4 with h|h
 .rw[zk (i:=k) (by rw[zM,zA];omega),zk (i:=4) (by rw[zM,zA];omega)]
 rw[show k=4 by omega]
theorem Zag(w:G)(g C:Nat)(B E F:J)(H:List J)(L:Lg)(h:Z2 w g C B E F H L)(A:Nat)(I:w.cell? ⟨A,0,none⟩=some (.pointer (some ⟨g,0,none⟩)))(j:Nat)(s:4*j<L.entries.length)(T:L.entries.length<=1048576)(D:∀ e∈L.entries,e.length<=20):Calls prog 168 #[.int .i64 (4*(j:Int)),.int .i64 (4*(j:Int)+((min 4 (L.entries.length-4*j):Nat):Int)),.pointer (some ⟨A,0,none⟩)] w λe w2=>∃ vb,e=.returned vb/\Q7 w2 vb (((L.entries.map encE).drop (4*j)).take 4).flatten/\Bz w w2:=by
 obtain⟨⟨_,_,c2,_,_,_⟩,_⟩:=h.heads;obtain⟨vsr,a,q⟩:=h.ents;obtain⟨b,cp,rfl,v⟩:∃ b cp,B=.slice (some ⟨b,0,none⟩) L.entries.length cp/\L.entries.length<=cp:=by
  rcases a.2 with⟨_,h0⟩|⟨b,cap,cur,e,_,_,y,_⟩
  .omega
  exact⟨b,cap,e,y⟩
 obtain⟨k,hk⟩:=zzx (min 4 (L.entries.length-4*j))
 rw[<-hk];have z:vsr.length=L.entries.length:=by simpa using a.1
 have hl:((L.entries.drop (4*j)).take k).length=k:=by rw[zm,zM];omega
 have hb:Qdb w (.slice (some ⟨b,4*j,none⟩) k (cp-4*j)) ((L.entries.drop (4*j)).take k):=by
  refine⟨(vsr.drop (4*j)).take k,by rw[hl,zm,zM];omega,⟨some ⟨b,4*j,none⟩,cp-4*j,by rw[hl],by rw[hl];omega,λi x hx=>⟨b,4*j,rfl,?_⟩⟩,λi u l hu hx=>?_⟩
  .have f:i<k:=by have:=(zj.1 hx).1;rw[zm] at this;omega
   rw[zH f,ZU] at hx;have h1:=a.cells (g:=b) rfl (4*j+i) x hx;rw[ZX] at h1;simpa using h1
  have f:i<k:=by have:=(zj.1 hx).1;rw[hl] at this;exact this
  rw[zH f,ZU] at hu hx;exact (q (4*j+i) u l hu hx).at
 have d:=Qjv _ _ w hb (by rw[hl];omega);have c:=Zas (es:=L.entries) (4*j) k (by omega) (by omega) s hk D;obtain⟨ln,p⟩:=zzx L.entries.length
 rw[<-p] at c2 v hk s;have m:=zh c;have K:(0:Int)<=4*(j:Int):=by omega
 have M:4*(j:Int)<=4*(j:Int)+(k:Int):=by omega
 have N:4*(j:Int)+(k:Int)<=(cp:Int):=by omega
 have P:(4*(j:Int)).toNat=4*j:=by omega
 have Q:(4*(j:Int)+(k:Int)).toNat=4*j+k:=by omega
 have R:4*j+k-4*j=k:=by omega
 have S:¬ cp=4*j:=by omega
 have r:=zh d;clear h a q z hl hb d c hk p s
 go_enter func168,ntmps168
 go_wp2_with fail
 refine r.o.m ?_;rintro e w2⟨v',rfl,n,h2⟩;obtain⟨t,H2⟩:=zh2 n h2;clear n h2
 go_wp2
 go_ret;rcases H2.o with⟨h3,_⟩|⟨l,h3,ho,_⟩
 .rw[m.o] at h3;cases h3
 rw[m.o] at h3;cases h3;exact⟨_,rfl,ho.at,t.o⟩
theorem Q3l{w:G}{g:Nat}{x:Hsh}(h:Qz w g x):Q7 w (.slice (some ⟨g,0,none⟩) 8 8) x.toList:=by
 unfold Q7;refine⟨_,8,by simp,by simp,λj y hy=>⟨g,0,rfl,?_⟩⟩;have hj:j<8:=by have:=(zj.1 hy).1;simpa using this
 rw[show (x.toList.map u8)[j]?=some (u8 x[j]) by simp[hj]] at hy;cases hy;rw[V4];exact Qy h j hj
theorem Zcq(y:Hsh):Array.foldl (λ(cs:Array J) (x:J×Nat)=>cs.setIfInBounds x.snd x.fst) zc (h8 y).zipIdx 0 8=h8 y:=by rw[<-Qbu y];simp
section
attribute [local go_sem] h8_0 h8_1 h8_2 h8_3 h8_4 h8_5 h8_6 h8_7 Qbu h8_size Qa2 Zcq
theorem Q9f(w:G)(P:Nat)(E:J)(a:List Hsh)(l:w.cell? ⟨P,0,none⟩=some E)(B:Qa5 w 0 E a)(j:Nat)(C:4*j<a.length)(hn:a.length<=1048576):Calls prog 169 #[.int .i64 (4*(j:Int)),.int .i64 (4*(j:Int)+((min 4 (a.length-4*j):Nat):Int)),.pointer (some ⟨P,0,none⟩)] w λe w2=>∃ vb,e=.returned vb/\Q7 w2 vb (((a.map λ(h:Hsh)=>h.toList).drop (4*j)).take 4).flatten/\Bz w w2:=by
 obtain⟨b,cp,rfl,q⟩:∃ b cp,E=.slice (some ⟨b,0,none⟩) a.length cp/\a.length<=cp:=by
  rcases B.2 with⟨_,h0⟩|⟨b,cap,cur,e,_,_,N,_⟩
  .omega
  exact⟨b,cap,e,N⟩
 obtain⟨k,hk⟩:=zzx (min 4 (a.length-4*j))
 rw[<-hk];obtain⟨ln,g⟩:=zzx a.length
 have HH:=zh B;rw[<-g] at l q hk C;have T:(0:Int)<=4*(j:Int):=by omega
 have U:4*(j:Int)<=4*(j:Int)+(k:Int):=by omega
 have V:4*(j:Int)+(k:Int)<=(cp:Int):=by omega
 have W:(4*(j:Int)).toNat=4*j:=by omega
 have X:(4*(j:Int)+(k:Int)).toNat=4*j+k:=by omega
 have Z:4*j+k-4*j=k:=by omega
 have aa:¬ cp=4*j:=by omega
 have S:k<=4:=by omega
 obtain⟨HK,m,HJ⟩:=zh3 hk g C;obtain⟨i0,hi,u,v,A⟩:=ZZ Qgn;have HI:=zh (⟨hi,u,v,A⟩:_/\_/\_/\_);clear B hk g C hi u v A q
 go_enter func169,ntmps169
 go_wp2_with fail
 go_loopg [5,13] k (λgg s5 s13 wr=>∃ i:Nat,i<=k/\k-i<=gg/\s13=.int .i64 i/\∃ bs:Ud,Aside (bs=((a.drop (4*j)).take i).flatMap λ(h:Hsh)=>h.toList)/\Aside (wr.ownsRow w.heap.size 5 1 s5 bs.length (bs.map u8))/\Aside (Bz w wr))
 case atStart=>exact⟨0,by omega,by omega,rfl,[],rfl,zv _ _ _ _,zu _ _⟩
 case round=>
  obtain⟨i,hi,Q,rfl,bs,f,HR,HB⟩:=hrel;by_cases hlt:i<k
  .have D:(i:Int)<(k:Int):=by omega
   have R:(0:Int)<=(i:Int):=by omega
   obtain⟨x,hx⟩:∃ x,a[4*j+i]?=some x:=⟨_,ze (by have:=HK.o;have:=m.o;have:=HJ.o;omega)⟩
   have kc:∀ c (hc:c<8),wr.cell? ⟨b,4*j*8+i*8+c,none⟩=some (YtefccfakhgdfbaaGreatDoor.u8 x[c]):=λc hc=>by have h1:=Qqg HH.o hx c hc;rw[show (4*j+i)*8+c=4*j*8+i*8+c by omega] at h1;exact (HB.o.cell (p:=⟨b,4*j*8+i*8+c,none⟩) (Qj h1)).t h1
   have k0:wr.cell? ⟨b,4*j*8+i*8,none⟩=some (YtefccfakhgdfbaaGreatDoor.u8 x[0]):=kc 0 (by decide);have k1:wr.cell? ⟨b,4*j*8+i*8+1,none⟩=some (YtefccfakhgdfbaaGreatDoor.u8 x[1]):=kc 1 (by decide);have k2:wr.cell? ⟨b,4*j*8+i*8+2,none⟩=some (YtefccfakhgdfbaaGreatDoor.u8 x[2]):=kc 2 (by decide);have k3:wr.cell? ⟨b,4*j*8+i*8+3,none⟩=some (YtefccfakhgdfbaaGreatDoor.u8 x[3]):=kc 3 (by decide);have k4:wr.cell? ⟨b,4*j*8+i*8+4,none⟩=some (YtefccfakhgdfbaaGreatDoor.u8 x[4]):=kc 4 (by decide);have k5:wr.cell? ⟨b,4*j*8+i*8+5,none⟩=some (YtefccfakhgdfbaaGreatDoor.u8 x[5]):=kc 5 (by decide);have k6:wr.cell? ⟨b,4*j*8+i*8+6,none⟩=some (YtefccfakhgdfbaaGreatDoor.u8 x[6]):=kc 6 (by decide);have k7:wr.cell? ⟨b,4*j*8+i*8+7,none⟩=some (YtefccfakhgdfbaaGreatDoor.u8 x[7]):=kc 7 (by decide);have HX:=zh hx;have M:Is8 (wr.alloc (.cells zc 143)) wr.heap.size:=Q6 rfl;have s:Qz ((wr.alloc (.cells zc 143)).setRow wr.heap.size (h8 x)) wr.heap.size x:=Qg M x;have L:bs.length<=1099511627776:=by rw[f.o];have h1:=Qfu (((a.drop (4*j)).take i).map λ(h:Hsh)=>h.toList) 8 (λy hy=>by obtain⟨z,_,rfl⟩:=zU.1 hy;simp);rw[<-Vz,zA,zm] at h1;omega
   have d:Bz wr ((wr.alloc (.cells zc 143)).setRow wr.heap.size (h8 x)):=zC (Qa wr _) (zg _) _;obtain⟨K,F⟩:=zh2 s d;have t:w.heap.size<=((wr.alloc (.cells zc 143)).setRow wr.heap.size (h8 x)).heap.size:=zi HB.o.size d.size;obtain⟨n,I⟩:=zh2 t (Qn HR.o d);clear hx kc s d t
   go_wp2_with (at_builtin;refine Qka rfl _ _ 147 rfl w.heap.size i0 underlying147 HI.o.1 HI.o.2.1 HI.o.2.2.1 HI.o.2.2.2 _ bs.length (bs.map YtefccfakhgdfbaaGreatDoor.u8) rfl I.o _ x.toList rfl (Q3l K.o) L (by simp) n.o ?_;intro v' w' h2 h3 h4;obtain⟨H2,H3⟩:=zh2 h2 h3;clear h2 h3 h4)
   go_roundg (k-(i+1))
   case measure=>omega
   case rel=>
    refine⟨i+1,by omega,by omega,by go_num,bs++x.toList,?_,?_,?_⟩
    .show bs++x.toList=_
     rw[zY,ZU,HX.o,f.o,vU];simp
    .have h1:=H2.o
     rw[zn,zL];rw[show x.toList.length=8 by simp] at h1 ⊢;exact h1
    exact (HB.o.t (F.o.m HB.o.size)).grown H3.o n.o (λk hk=>(HR.o.lt k hk).1)
  have D:¬ (i:Int)<(k:Int):=by omega
  have r:i=k:=by omega
  have H:=zh r;clear r
  go_wp2
  go_ret;refine⟨_,rfl,?_,HB.o⟩;have h1:=(Qgo HR.o).at;have e:bs=(((a.map λ(h:Hsh)=>h.toList).drop (4*j)).take 4).flatten:=by
   have hl:(a.drop (4*j)).length=ln-4*j:=by rw[zM,m.o]
   rw[f.o,H.o,<-Vl,<-vJ,Vz]
   congr 2
   rcases zK (ln-4*j) 4 with h|h
   .rw[zk (i:=k) (by have:=HK.o;omega),zk (i:=4) (by omega)]
   rw[show k=4 by have:=HK.o;omega]
  rw[<-e];exact h1
end
end
end Go.Proofs.YtefccfakhgdfbaaGreatDoor
