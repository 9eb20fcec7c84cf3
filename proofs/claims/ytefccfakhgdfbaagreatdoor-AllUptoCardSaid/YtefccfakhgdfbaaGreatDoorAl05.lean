/- Lemmas of the proof of All; their conditions stand in them. -/
import Derived.Test.YtefccfakhgdfbaaGreatDoorAl04
set_option linter.unusedVariables false
set_option linter.unusedSimpArgs false
open Go.RowKit Go.Proofs.Tryz
set_option maxRecDepth 100000
set_option maxHeartbeats 4000000
namespace Go.Proofs.YtefccfakhgdfbaaGreatDoor
section
theorem Qn1{w:G}{g b:Nat}{v e f i:J}{j:List J}{L:Lg}{d:Dk}(h:Z2 w g b e f i j L)(c:Q5 w b v d){k:Nat}(a:Qaf g b v e f i j k):k<w.heap.size:=by
 rcases a with (a|a)|a
 .rw[a];exact c.lt
 .obtain⟨C,hC⟩:=Qk c.2 a
  exact Qb hC
 obtain⟨C,t,hC,_⟩:=h.kinds a;exact Qb hC
structure Pk(w:G)(B g gd:Nat)(v ve vl vp:J)(vs:List J)(L:Lg)(v' vp':J)(d':Dk)(ps:List Nat)(w':G):Prop where
 disk:Q5 w' gd v' d'
 log:Z2 w' g gd ve vl vp' vs { L with put:=ps }
 fr:Fr (Qaf g gd v ve vl vp vs) w w'
 sub:∀ k,Qaf g gd v' ve vl vp' vs k->Qaf g gd v ve vl vp vs k∨B<=k
 lo:∀ k,Qaf g gd v ve vl vp vs k->k<w.heap.size
 size:B<=w'.heap.size
 base:w.heap.size<=B
section
variable {w w1 w2:G} {B g gd:Nat} {v v1 v2 ve vl vp vp1 vp2:J} {vs:List J} {L:Lg} {d1 d2:Dk} {ps ps2:List Nat}
variable {b:Nat}
theorem Pk.o(h:Pk w B g gd v ve vl vp vs L v1 vp1 d1 ps w1)(a:w.heap.size<=b)(c:b<B):¬ Qaf g gd v1 ve vl vp1 vs b:=λhk=>by
 rcases h.sub b hk with h3|h3
 .have:=h.lo b h3;omega
 omega
theorem Pk.subw(h:Pk w B g gd v ve vl vp vs L v1 vp1 d1 ps w1):Sub w (Qaf g gd v ve vl vp vs) (Qaf g gd v1 ve vl vp1 vs):=λk hk=>(h.sub k hk).imp id (zi h.base)
theorem Pk.write(h:Pk w B g gd v ve vl vp vs L v1 vp1 d1 ps w1)(k:Wk w1 g gd v1 ve vl vp1 vs { L with put:=ps } v2 vp2 d2 ps2 w2):Pk w B g gd v ve vl vp vs L v2 vp2 d2 ps2 w2 where
 disk:=k.disk
 log:=k.log
 fr:=Fr.sub h.fr k.fr h.subw
 sub i hi:=by
  rcases k.sub i hi with h1|h1
  .exact h.sub i h1
  exact .inr (zi h.size h1)
 lo:=h.lo
 size:=zi h.size k.fr.size
 base:=h.base
theorem Pk.j(h:Pk w B g gd v ve vl vp vs L v1 vp1 d1 ps w1)(a:Bz w1 w2):Pk w B g gd v ve vl vp vs L v1 vp1 d1 ps w2 where
 disk:=h.disk.j a
 log:=h.log.j a
 fr:=h.fr.t (Fr.ofBelow a)
 sub:=h.sub
 lo:=h.lo
 size:=zi h.size a.size
 base:=h.base
variable {t:TypeId}
theorem Pk.var(h:Pk w B g gd v ve vl vp vs L v1 vp1 d1 ps w1)(c:w.heap.size<=b)(d:b<B){C:Array J}{fz:Nat×Nat}(f:w1.heap[b]?=some (.cells C t fz))(i:t≠5)(a:Fr (·=b) w1 w2):Pk w B g gd v ve vl vp vs L v1 vp1 d1 ps w2 where
 disk:=h.disk.fr a λk hk e=>h.o c d (e ▸ .inl hk)
 log:=h.log.fr a (λk hk e=>h.o c d (e ▸ .inr hk)) λk C' fz' hk e=>by
  subst e
  rw[f] at hk
  cases hk
  exact i rfl
 fr:=h.fr.step a λk hk e=>by omega
 sub:=h.sub
 lo:=h.lo
 size:=zi h.size a.size
 base:=h.base
theorem Pk.keeps(h:Pk w B g gd v ve vl vp vs L v1 vp1 d1 ps w1)(d:Fr (Qaf g gd v1 ve vl vp1 vs) w1 w2)(a:w.heap.size<=b)(c:b<B){o:Obj}(e:w1.heap[b]?=some o):w2.heap[b]?=some o:=d.heap e (h.o a c)
theorem Pk.wk(h:Pk w B g gd v ve vl vp vs L v1 vp1 d1 ps w1):Wk w1 g gd v1 ve vl vp1 vs { L with put:=ps } v1 vp1 d1 ps w1:=⟨h.disk,h.log,Fr.refl _ _,Sub.refl _ _⟩
end
section
variable (pe pn pl g:Nat) (u:FrameMode) (w:G)
theorem Zam(a:w.cell? ⟨pe,0,none⟩=some .nilIface):CallsD prog 166 #[.pointer (some ⟨pe,0,none⟩),.pointer (some ⟨pn,0,none⟩),.pointer (some ⟨pl,0,none⟩)] u w λe u' w'=>u'=u/\(e=.returned (.tuple #[])/\w'=w):=by
 have hn:=Y2 w
 go_enter_d func166,ntmps166
 go_wp2;go_end0
 first|exact⟨rfl,rfl,rfl⟩|exact⟨rfl,rfl⟩|simp
variable {t:TypeId}
theorem Q87{x y:J}(i:w.cell? ⟨pe,0,none⟩=some (.iface t x))(k:w.cell? ⟨pl,0,none⟩=some (.pointer (some ⟨g,0,none⟩)))(l:w.cell? ⟨pn,0,none⟩=some y)(a:∃ n,y=.int .i64 n)(f:w.frozen? ⟨pn,0,none⟩=false){b:Bool}(j:w.cell? ⟨g,5,none⟩=some (.bool b))(c:w.frozen? ⟨g,5,none⟩=false)(d:¬ g=pn):CallsD prog 166 #[.pointer (some ⟨pe,0,none⟩),.pointer (some ⟨pn,0,none⟩),.pointer (some ⟨pl,0,none⟩)] u w λe u' w'=>u'=u/\(e=.returned (.tuple #[])/\w'=(w.setCell ⟨pn,0,none⟩ (.int .i64 0)).setCell ⟨g,5,none⟩ (.bool true)):=by
 have h:=Qam w t x;obtain⟨n,rfl⟩:=a
 go_enter_d func166,ntmps166
 go_wp2;go_end0
 first|exact⟨rfl,rfl,rfl⟩|exact⟨rfl,rfl⟩|simp
end
theorem Qsv:∃ i,prog.info? 147=some i/\i.zero=some (.slice none 0 0)/\i.size=1/\i.bytes=24:=by
 have h:(prog.info? 147).map (λi=>(i.zero,i.size,i.bytes))=some (some (.slice none 0 0),1,24):=by kernel_rfl
 cases hi:prog.info? 147 with
 | none=>rw[hi] at h;simp at h
 | some i=>rw[hi] at h;simp at h;exact⟨i,rfl,h.1,h.2.1,h.2.2⟩
theorem Qhm(w:G)(a:Y Addr)(n c:Nat):(binOp .eql 157 (.slice a n c) (.slice none 0 0)).run prog w=.ok (.bool a.isNone) w:=vV w _ _ a n c 0 0 underlying157
variable {w:G}
theorem Qzs{base:Nat}{a:List J}{ls:Uc}(d:a.length=ls.length)(c:∀ (j:Nat) (u:J) (l:Ud),a[j]?=some u->ls[j]?=some l->Q3 w base u l):∀ u∈a,u.oneCell'=true:=by
 intro u hu;obtain⟨j,hj⟩:=Vc.1 hu;have b:j<ls.length:=by have:=(zj.1 hj).1;omega
 exact (c j u _ hj (ze b)).one
variable {l:List Fil} {i:Nat}
theorem Qg2{w:Nat}{s:O}(h:getF l (Y0 i w)=some s):Yl l i w=unbW s w:=by unfold Yl unbW;rw[h];rfl
structure Lkd(w:G)(g gd:Nat)(v ve vl vp:J)(vs:List J)(L:Lg)(ve':J)(d':Dk)(es:Uc)(w':G):Prop where
 disk:Q5 w' gd v d'
 log:Z2 w' g gd ve' vl vp vs { L with entries:=es }
 fr:Fr (λk=>k=gd∨LogS g ve vl vp vs k) w w'
 sub:Sub w (LogS g ve vl vp vs) (LogS g ve' vl vp vs)
variable {g gd:Nat} {ve vl vp:J} {vs:List J}
theorem lks{a:J}(h:Sub w (LogS g ve vl vp vs) (LogS g a vl vp vs)):Sub w (λk=>k=gd∨LogS g ve vl vp vs k) (λk=>k=gd∨LogS g a vl vp vs k):=λk hk=>by
 rcases hk with hk|hk
 .exact .inl (.inl hk)
 exact (h k hk).imp (λh=>.inr h) id
variable {w1 w2:G} {v ve1:J} {L:Lg} {d1:Dk} {es:Uc}
theorem Lkd.look{a:Dk}(h:Lkd w g gd v ve vl vp vs L ve1 d1 es w1)(c:Q5 w2 gd v a)(b:Fr (·=gd) w1 w2):Lkd w g gd v ve vl vp vs L ve1 a es w2:=
 ⟨c,h.log.fr b (λk hk e=>h.log.apartDisk h.disk k hk (.inl e)) (λk C fz hk e=>by subst e;have:=h.disk.1;rw[hk] at this;simp at this),Fr.sub h.fr (b.weak λk _ hk=>(.inl hk:k=gd∨LogS g ve1 vl vp vs k)) (lks h.sub),h.sub⟩
theorem Lkd.j(h:Lkd w g gd v ve vl vp vs L ve1 d1 es w1)(a:Bz w1 w2):Lkd w g gd v ve vl vp vs L ve1 d1 es w2:=
 h.look (h.disk.j a) (Fr.ofBelow a)
theorem Lkd.ents{a:J}{b:Uc}(h:Lkd w g gd v ve vl vp vs L ve1 d1 es w1)(e:Z2 w2 g gd a vl vp vs { L with entries:=b })(c:Fr (LogS g ve1 vl vp vs) w1 w2)(f:Sub w1 (LogS g ve1 vl vp vs) (LogS g a vl vp vs))(d:w.heap.size<=w1.heap.size):Lkd w g gd v ve vl vp vs L a d1 b w2:=
 ⟨h.disk.fr c λk hk hS=>h.log.apartDisk h.disk k hS hk,e,Fr.sub h.fr (c.weak λk _ hk=>(.inr hk:k=gd∨LogS g ve1 vl vp vs k)) (lks h.sub),h.sub.t f d⟩
def Q88(w:G)(g gd:Nat)(v ve vl vp:J)(vs:List J)(d:Dk)(L:Lg)(f:Nat->Addr)(n B:Nat)(e:Ua)(w':G):Prop:=
 (∃ ve' d' es' i q m r,Lkd w g gd v ve vl vp vs L ve' d' es' w'/\Hurt B d d'/\e=.returned (.iface 219 (.pointer (some ⟨r,0,none⟩)))/\w.heap.size<=q/\w.heap.size<=r/\w'.heap[q]?=some (.cells #[.int .i64 m] 398 (0,0))/\
   w'.heap[r]?=some (.cells #[.string (Y0 i (min 4 (n-4*i))),.iface 218 (.pointer (some ⟨q,0,none⟩))] 221 (0,0)))∨
 (∃ ve' d' es' i r,Lkd w g gd v ve vl vp vs L ve' d' es' w'/\Calm B d d'/\Qct d.files n ((n+3) / 4) 0 []=(es',some i)/\e=.returned (.iface 219 (.pointer (some ⟨r,0,none⟩)))/\w.heap.size<=r/\
   w'.heap[r]?=some (.cells #[.string (Y0 i (min 4 (n-4*i))),.iface 370 (.pointer (some (f 5)))] 221 (0,0)))∨
 (∃ ve' d' es',Lkd w g gd v ve vl vp vs L ve' d' es' w'/\Calm B d d'/\Qct d.files n ((n+3) / 4) 0 []=(es',none)/\e=.returned .nilIface)
variable {n:Nat} {d:Uc}
theorem Qf8(h:4*i<n):Qct l n ((n+3) / 4-i) i d=match Yl l i (min 4 (n-4*i)) with
  | none=>(d,some i)
  | some e=>Qct l n ((n+3) / 4-(i+1)) (i+1) (d++e):=by
 obtain⟨m,hm⟩:∃ m,(n+3) / 4-i=m+1:=⟨(n+3) / 4-i-1,by omega⟩
 rw[hm,Qct,show (n+3) / 4-(i+1)=m by omega]
 cases Yl l i (min 4 (n-4*i)) <;> rfl
theorem Qvm(h:n<=4*i):Qct l n ((n+3) / 4-i) i d=(d,none):=by rw[show (n+3) / 4-i=0 by omega,Qct]
theorem Q8o(f:Nat->Addr)(w:G)(g I:Nat)(v ve vl vp:J)(vs:List J)(d:Dk)(L:Lg)(h:Z2 w g I ve vl vp vs L)(hD:Q5 w I v d)(n N:Nat)(hE:Qbj f (λk=>k=I∨LogS g ve vl vp vs k) w)(hL:L.entries = [])(hn:n<9223372036854775808)(hN:FewB d.files N)(ca:N<=1048576)(hc:d.calls<1000000000000)(bc:∀ b∈d.files,b.2.size<=1048576):Calls prog 161 #[.pointer (some ⟨g,0,none⟩),.int .i64 n] w (Q88 w g I v ve vl vp vs d L f n (N+1)):=by
 obtain⟨HE,HN,HZ⟩:=zh3 hE hN bc;have hg:=Qb h.cells;have a7:Lkd w g I v ve vl vp vs L ve d [] w:=⟨hD,by rw[<-hL];exact h,Fr.refl _ _,Sub.refl _ _⟩
 have HL:=zh a7;clear h hD hE hL hN bc a7
 go_enter func161,ntmps161
 go_wp2
 go_loopg [5] (N+1) (λgg s5 wr=>∃ i:Nat,i<=N/\N+1-i<=gg/\s5=.int .i64 i/\∃ be d1 t,Aside (Lkd w g I v ve vl vp vs L be d1 t wr)/\Aside (Calm i d d1)/\Aside (Qct d.files n ((n+3) / 4) 0 []=Qct d.files n ((n+3) / 4-i) i t)/\Aside (t.length=min n (4*i))/\Aside (Qbt d.files t)/\w.heap.size<=wr.heap.size)
 case atStart=>exact⟨0,zE _,by omega,rfl,ve,d,[],HL.o,Calm.refl d,rfl,by show [].length=_;simp,Qbt.nil _,zg _⟩
 case round=>
  obtain⟨i,hi,cc,rfl,be,d1,t,A,T,ab,P,bq,cd⟩:=hrel;obtain⟨⟨_,_,c2,_,_,_⟩,f0⟩:=A.o.log.heads;have ay:=A.o.log.ents;obtain⟨vsr,an,_⟩:=ay;obtain⟨a1,E,rfl⟩:=Zo an;clear an;obtain⟨ln,ae⟩:=zzx t.length
  have b9:wr.cell? ⟨g,2,none⟩=some (.slice a1 ln E):=by rw[ae];exact c2
  have ak:ln=min n (4*i):=by rw[ae];exact P.o
  have H:=zh ae;clear c2 ae;by_cases hlt:ln<n
  .have bi:(ln:Int)<(n:Int):=by omega
   have ah:4*i<n:=by omega
   have B:=Qyi (-1) i n wr ah hn (HE.o.step A.o.fr (lks A.o.sub)).num;obtain⟨b7,K⟩:=zh2 ak ah;clear ak ah;obtain⟨k,hk⟩:=zzx (min 4 (n-4*i))
   rw[<-hk] at B;obtain⟨p,hp⟩:=zzx (Y0 i k)
   rw[show sOf (Yb (-1) (i:Int) (k:Int))=p from hp.symm] at B;have ac:d1.calls<1099511627776:=by have:=T.o.calls;omega
   have M:=T.o.files;obtain⟨HK,HP,ag⟩:=zh3 hk hp M;clear hk hp;rcases vg (Z7 d1) with h0|h0
   .have af:=zh (T.o.t (Qlx h0))
    cases hget:getF d1.files p with
    | none=>
     have HG:=zh hget;clear hget M
     go_wp2_with (first|go_at_call 191;refine B.m ?_;rintro e w2⟨rfl,x⟩;obtain⟨c,D⟩:=zh2 (A.o.j x) x;clear x|go_at_call 202;refine (Qzw w2 g I v _ _ _ _ d1 _ c.o.log c.o.disk p k ac h0 HG.o).m ?_;rintro e w3⟨rfl,z,y⟩;obtain⟨a,U⟩:=zh2 (c.o.look z y) y;have al:=Y2 w3;have a9:=Qhm w3 none 0 0;have s5:=(HE.o.step a.o.fr (lks a.o.sub)).sents.cells.2.2.2.2.2.1;clear z y|go_at_call 160;refine (Qrg _ _ _ _).m ?_;rintro e w4⟨u,rfl,⟨r,rfl,hr,F⟩,V⟩;obtain⟨HR,W⟩:=zh2 F (a.o.j V);clear F V)
     go_ret;refine .inr (.inl ⟨_,_,t,i,r,W.o,af.o.more (by omega),?_,rfl,?_,?_⟩)
     .rw[ab.o,Qf8 K.o,<-HK.o,Qhx (by rw[<-HP.o,<-ag.o];exact HG.o)]
     .have:=D.o.size;have:=U.o.size;omega
     rw[<-HK.o,<-HP.o];exact HR.o
    | some s=>
     have ao:s.size<=1048576:=by have:=HZ.o _ (Jw (by rw[<-M];exact hget));exact this
     cases hu:unbW s k with
     | none=>
      obtain⟨HG,HU⟩:=zh2 hget hu;clear hget M hu
      go_wp2_with (first|go_at_call 191;refine B.m ?_;rintro e w2⟨rfl,x⟩;obtain⟨c,D⟩:=zh2 (A.o.j x) x;clear x|go_at_call 202;refine (Q6e w2 g I v _ _ _ _ d1 _ c.o.log c.o.disk p k ac h0 HG.o ao HU.o).m ?_;rintro e w3⟨rfl,z,y⟩;obtain⟨a,U⟩:=zh2 (c.o.look z y) y;have al:=Y2 w3;have a9:=Qhm w3 none 0 0;have s5:=(HE.o.step a.o.fr (lks a.o.sub)).sents.cells.2.2.2.2.2.1;clear z y|go_at_call 160;refine (Qrg _ _ _ _).m ?_;rintro e w4⟨u,rfl,⟨r,rfl,hr,F⟩,V⟩;obtain⟨HR,W⟩:=zh2 F (a.o.j V);clear F V)
      go_ret;refine .inr (.inl ⟨_,_,t,i,r,W.o,af.o.more (by omega),?_,rfl,?_,?_⟩)
      .rw[ab.o,Qf8 K.o,<-HK.o,Qg2 (s:=s) (by rw[<-HP.o,<-ag.o];exact HG.o),HU.o]
      .have:=D.o.size;have:=U.o.size;omega
      rw[<-HK.o,<-HP.o];exact HR.o
     | some ls=>
      have Q:Yl d.files i k=some ls:=by rw[Qg2 (s:=s) (by rw[<-HP.o,<-ag.o];exact hget)];exact hu
      have ad:=Qbd Q;have ap:=bq.o.step (w:=k) (e:=ls) (i:=i) (by rw[P.o];have:=K.o;omega) Q;have Z:=ap.few HN.o;have az:t.length+ls.length<=1099511627776:=by rw[zn] at Z;omega
      have b2:0<ls.length:=by omega
      obtain⟨a2,bf,bg,a0,HG,HU⟩:=zh6 ap Q Z ad.1 hget hu;obtain⟨i0,a6,bd,bb,ai⟩:=Qsv;have HI:=zh (⟨a6,bd,bb,ai⟩:_/\_/\_/\_);clear hget M hu Q ad ap Z a6 bd bb ai
      go_wp2_with (first|go_at_call 191;refine B.m ?_;rintro e w2⟨rfl,x⟩;obtain⟨c,D⟩:=zh2 (A.o.j x) x;clear x|go_at_call 202;refine (Qzx w2 g I v _ _ _ _ d1 _ c.o.log c.o.disk p k ac h0 HG.o ao HU.o).m ?_;rintro e w3⟨b3,c3,rfl,a8,z,y⟩;obtain⟨a,U⟩:=zh2 (c.o.look z y) y;have al:=Y2 w3;have a9:=Qhm w3 (some ⟨b3,0,none⟩) ls.length c3;have X:=a.o.log.heads;have a3:=X.1.2.2.1;have bt:=X.2 2;have bo:=zh a8;have bh:w3.cell? ⟨g,2,none⟩=some (.slice a1 ln E):=(by rw[H.o];exact a3);have b1:=Qb a.o.log.cells;clear z y a8 X a3|at_builtin;obtain⟨vsx,ba,a4⟩:=a.o.log.ents;obtain⟨us,au,aq⟩:=bo.o;have R:w3.ownsRow 0 147 1 (.slice a1 ln E) ln vsx:=(by rw[H.o];exact ba);have ar:us.length=ls.length:=(by simpa using au.1);refine Qde rfl _ _ _ rfl 0 147 i0 _ 1 24 underlying157 HI.o.1 HI.o.2.1 HI.o.2.2.1 HI.o.2.2.2 rfl (by decide) (by decide) (.slice a1 ln E) ln vsx (by rfl) R ⟨b3,0,none⟩ ls.length c3 us rfl (by omega) (au.cells (g:=b3) rfl) (Qzs ar aq) b2 (by rw[H.o];exact az) (zE _) ?_;intro v' w' h2 h3 h4 h5;obtain⟨gb,cpb,rfl,cb⟩:=Qbz h2 h5;obtain⟨H2,H3,H4⟩:=zh3 h2 (Fr.ofGrown (S:=λk=>(Value.slice a1 ln E).ownBlock=some k) h3 λk _ e=>e) h4;have am:¬ (Value.slice a1 ln E).ownBlock=some g:=(λe=>by obtain⟨C,hC⟩:=Qk R e;exact Zz a.o.log.cells hC (by decide) rfl);obtain⟨b8,br,bp,bl⟩:=zh4 ar aq R a4;go_must (have k3:=H3.o.cell bh am;have k4:=(H3.o.frozen (p:=⟨g,2,none⟩) b1 am).t bt;clear h2 h3 h4 h5 ar aq R a4 ba au am))
      go_roundg (N+1-(i+1))
      case measure=>omega
      case rel=>
       have bj:Yn w' 0 (.slice (some ⟨gb,0,none⟩) (ln+ls.length) cpb) (t++ls):=by exact Yn.push bp.o bl.o H.o H3.o H2.o (by rw[H.o]) (λj u l hu hl=>(br.o j u l hu hl).m (zE _))
       have b4:Qba w3 (.slice a1 t.length E) (.slice (some ⟨gb,0,none⟩) (ln+ls.length) cpb):=by rw[<-H.o];exact H4.o
       have b0:Fr (λk=>(Value.slice a1 t.length E).ownBlock=some k) w3 w':=by rw[<-H.o];exact H3.o
       have hp:=a.o.log.setEnts b0 bj b4;have bk:w.heap.size<=w3.heap.size:=by have:=D.o.size;have:=U.o.size;omega
       have b6:w3.heap.size<=(w'.setCell ⟨g,2,none⟩ (.slice (some ⟨gb,0,none⟩) (ln+ls.length) cpb)).heap.size:=hp.2.1.size;refine⟨i+1,?_,by omega,by go_num,_,_,_,a.o.ents hp.1 hp.2.1 hp.2.2 bk,af.o,?_,?_,a2.o,by omega⟩
       .have:=bg.o;have:=HN.o (i+1) λj hj=>a2.o.has j (by rw[zn,P.o,a0.o,HK.o];have:=K.o;omega);exact this
       .show Qct _ _ _ _ _=_
        rw[ab.o,Qf8 K.o,<-HK.o,bf.o]
       show (t++ls).length=_;rw[zn,P.o,a0.o,HK.o]
       have:=K.o
       omega
   have bn:=zh (T.o.hurt (Qmx h0));clear M
   go_wp2_with (first|go_at_call 191;refine B.m ?_;rintro e w2⟨rfl,x⟩;obtain⟨c,D⟩:=zh2 (A.o.j x) x;clear x|go_at_call 202;refine (Q7l w2 g I v _ _ _ _ d1 _ c.o.log c.o.disk p k ac h0).m ?_;rintro e w3⟨q,m,r,rfl,hq,hr,a5,F,z,y⟩;obtain⟨a,HQ,HR⟩:=zh3 (c.o.look z y) a5 F;have al:=Qam w3 219 (.pointer (some ⟨r,0,none⟩));clear z y a5 F)
   go_ret;refine .inl ⟨_,_,t,i,q,m,r,a.o,bn.o.more (by omega),rfl,?_,?_,HQ.o,?_⟩
   .have:=D.o.size;omega
   .have:=D.o.size;omega
   rw[<-HK.o,<-HP.o];exact HR.o
  have bi:¬ (ln:Int)<(n:Int):=by omega
  have aj:n<=4*i:=by omega
  have bm:=zh aj;clear ak aj;go_wp2;go_ret;refine .inr (.inr ⟨_,d1,t,A.o,T.o.more (by omega),?_,rfl⟩);rw[ab.o,Qvm bm.o]
theorem Q3s{w:G}{d f:J}{a b:Ud}(g:Q7 w d a)(i:Q7 w f b):Calls prog 203 #[d,f] w λe w'=>e=.returned (.bool (a == b))/\w'=w:=by
 have e:∀ l:Ud,Lib.bytesOf (l.map λc=>(c.toNat:Int))=l:=by
  intro l;unfold Lib.bytesOf;rw[List.map_map]
  conv=>rhs;rw[<-List.map_id l]
  exact Xs λc _=>by simp
 have e2:∀ l:Ud,strOfNums (l.map λc=>(c.toNat:Int))=⟨l.toArray⟩:=by
  intro l
  have:=e l
  unfold Lib.bytesOf at this;unfold strOfNums;rw[this]
 have h:=bytes_Equal d f (a.map λc=>(c.toNat:Int)) (b.map λc=>(c.toNat:Int)) w (by rw[e2];exact Qdq g) (by rw[e2];exact Qdq i);rw[e,e] at h;exact h
def Q7u(w:G)(g gd:Nat)(v ve vl vp:J)(vs:List J)(d:Dk)(L:Lg)(B:Nat)(e:Ua)(w':G):Prop:=
 (∃ d' q m r p,Lkd w g gd v ve vl vp vs L ve d' L.entries w'/\Hurt B d d'/\e=.returned (.tuple #[.bool false,.iface 219 (.pointer (some ⟨r,0,none⟩))])/\w.heap.size<=q/\w.heap.size<=r/\w'.heap[q]?=some (.cells #[.int .i64 m] 398 (0,0))/\
   w'.heap[r]?=some (.cells #[.string p,.iface 218 (.pointer (some ⟨q,0,none⟩))] 221 (0,0)))∨
 (∃ ve' d',Lkd w g gd v ve vl vp vs L ve' d' (L.entries++(Zx d.files L.entries).1) w'/\Calm B d d'/\e=.returned (.tuple #[.bool (Zx d.files L.entries).2,.nilIface]))
variable {k:Nat}
theorem Qlg(h:k<=d.length%4):Ya l d k=([],false):=by
 cases k with
 | zero=>rfl
 | succ k=>rw[Ya,zD h]
theorem Qla(h:d.length%4<k)(a:getF l (Y0 (d.length / 4) k)=none):Ya l d k=Ya l d (k-1):=by
 cases k with
 | zero=>omega
 | succ k=>rw[Ya,zw (by omega),a];rfl
variable {s:O}
theorem Qnb(h:d.length%4<k)(b:getF l (Y0 (d.length / 4) k)=some s)(a:Yl l (d.length / 4) k=none):Ya l d k=([],false):=by
 cases k with
 | zero=>omega
 | succ k=>rw[Ya,zw (by omega),b,a];rfl
theorem Qlq{e:Uc}(h:d.length%4<k)(b:getF l (Y0 (d.length / 4) k)=some s)(a:Yl l (d.length / 4) k=some e):Ya l d k=if e.take (d.length%4)=d.drop (4*(d.length / 4)) then (e.drop (d.length%4),decide (k=4)) else ([],false):=by
 cases k with
 | zero=>omega
 | succ k=>rw[Ya,zw (by omega),b,a];rfl
theorem Qxn(f:Nat->Addr)(w:G)(g M:Nat)(v ve vl vp:J)(vs:List J)(d:Dk)(L:Lg)(h:Z2 w g M ve vl vp vs L)(hD:Q5 w M v d)(hE:Qbj f (λk=>k=M∨LogS g ve vl vp vs k) w)(hT:Qbt d.files L.entries)(b9:L.entries.length<1000000000000)(hc:d.calls<1000000000000)(b2:∀ b∈d.files,b.2.size<=1048576):Calls prog 162 #[.pointer (some ⟨g,0,none⟩)] w (Q7u w g M v ve vl vp vs d L 4):=by
 obtain⟨HE,HZ,HT⟩:=zh3 hE b2 hT;have hg:=Qb h.cells;have HL:=zh (⟨hD,h,Fr.refl _ _,Sub.refl _ _⟩:Lkd w g M v ve vl vp vs L ve d L.entries w);obtain⟨⟨_,_,c2,_,_,_⟩,f0⟩:=h.heads;obtain⟨vsr,T,bz⟩:=h.ents;obtain⟨a1,c,rfl⟩:=Zo T;obtain⟨ln,ax⟩:=zzx L.entries.length
 rw[<-ax] at c2 b9;have ae:ln<=c/\(0<ln->∃ b1,a1=some ⟨b1,0,none⟩):=by
  rcases T.2 with⟨e,h0⟩|⟨b,cap,cur,e,_,_,cx,_⟩
  .exact⟨by omega,λh=>by omega⟩
  simp at e;exact⟨by omega,λ_=>⟨b,e.1⟩⟩
 obtain⟨ae,aq⟩:=ae;have b5:=zh aq;clear aq;obtain⟨y,c1,c4⟩:=zh3 ax T bz;clear h hD hE hT b2 ax T bz
 go_enter func162,ntmps162
 obtain⟨q,hq⟩:=zzx (ln / 4)
 obtain⟨hn,bo⟩:=zzx (ln%4)
 have cy:(ln:Int) / 4=(q:Int):=by omega
 have cz:(q:Int)*4<=(ln:Int):=by omega
 have a0:(0:Int)<=(q:Int)*4:=by omega
 have Z:ln-q*4=hn:=by omega
 obtain⟨HQ,W⟩:=zh2 hq bo;have am:hn<4:=by omega
 have dg:q<9223372036854775808:=by omega
 clear hq bo
 go_upto_region 2 with fail
 go_cut [5] from 18 to 24 (λs5 wx=>w=wx/\∃ av cv,s5=.slice av hn cv/\Aside (0<hn->∃ b1,a1=some ⟨b1,0,none⟩/\av=some ⟨b1,q*4,none⟩))
 case first=>
  by_cases P:c=q*4
  .subst P
   go_wp2
   go_meet;exact⟨rfl,_,_,by rw[Z],λh=>by omega⟩
  go_wp2
  go_meet;refine⟨rfl,_,_,by rw[Z],λh=>?_⟩;obtain⟨b1,rfl⟩:=b5.o (by omega);exact⟨b1,rfl,by simp[ZX]⟩
 case rest=>
  obtain⟨rfl,av,cv,rfl,cd⟩:=hcut;clear ae cy cz a0 Z
  go_wp2_with fail
  go_loopg [6] 4 (λgg s6 wr=>∃ k:Nat,k<=4/\k<=gg/\s6=.int .i64 k/\hn<=k/\∃ d1,Aside (Lkd w g M v (.slice a1 L.entries.length c) vl vp vs L (.slice a1 L.entries.length c) d1 L.entries wr)/\Aside (Calm (4-k) d d1)/\Aside (Zx d.files L.entries=Ya d.files L.entries k)/\w.heap.size<=wr.heap.size)
  case atStart=>exact⟨4,by omega,by omega,rfl,by omega,d,HL.o,Calm.refl d,rfl,zg _⟩
  case round=>
   obtain⟨k,de,da,rfl,df,d1,H,U,ai,dj⟩:=hrel;by_cases hlt:hn<k
   .have ca:(hn:Int)<(k:Int):=by omega
    have cq:=HE.o.step H.o.fr (lks H.o.sub);have I:=Qf0 (-1) (q:Int) (k:Int) wr (by omega) cq.num;obtain⟨p,hp⟩:=zzx (Y0 q k)
    rw[show sOf (Yb (-1) (q:Int) (k:Int))=p from hp.symm] at I;have ak:d1.calls<1099511627776:=by have:=U.o.calls;omega
    have Q:=U.o.files;have ay:L.entries.length%4<k:=by have:=y.o;have:=W.o;omega
    have bx:p=Y0 (L.entries.length / 4) k:=by rw[hp,HQ.o,y.o]
    obtain⟨ad,bi,bf⟩:=zh3 ay bx Q;clear hp ay bx;rcases vg (Z7 d1) with h0|h0
    .have af:=zh ((U.o.t (Qlx h0)).more (show 4-k+1<=4-(k-1) by omega))
     cases hget:getF d1.files p with
     | none=>
      have HG:=zh hget;clear hget Q
      go_wp2_with (first|go_at_call 156;refine I.m ?_;rintro e w2⟨rfl,i⟩;obtain⟨a,F⟩:=zh2 (H.o.j i) i;clear i|go_at_call 202;refine (Qzw w2 g M v _ _ _ _ d1 _ a.o.log a.o.disk p k ak h0 HG.o).m ?_;rintro e w3⟨rfl,n,z⟩;obtain⟨t,ag⟩:=zh2 (a.o.look n z) z;have am:=Y2 w3;clear n z)
      go_roundg (k-1)
      case measure=>omega
      case rel=>
       refine⟨k-1,by omega,by omega,by go_num,by omega,_,t.o,af.o,?_,by have:=F.o.size;have:=ag.o.size;omega⟩;show Zx _ _=_;rw[ai.o,Qla ad.o (by rw[<-bi.o,<-bf.o];exact HG.o)]
     | some s=>
      have a3:s.size<=1048576:=HZ.o _ (Jw (by rw[<-Q];exact hget));have B:getF d.files (Y0 (L.entries.length / 4) k)=some s:=by rw[<-bi.o,<-bf.o];exact hget
      cases hu:unbW s k with
      | none=>
       have N:Yl d.files (L.entries.length / 4) k=none:=by rw[Qg2 B];exact hu
       obtain⟨HG,HU⟩:=zh2 hget hu;have A:Zx d.files L.entries=([],false):=by rw[ai.o,Qnb ad.o B N]
       have V:=zh A;clear hget Q hu B N A
       go_wp2_with (first|go_at_call 156;refine I.m ?_;rintro e w2⟨rfl,i⟩;obtain⟨a,F⟩:=zh2 (H.o.j i) i;clear i|go_at_call 202;refine (Q6e w2 g M v _ _ _ _ d1 _ a.o.log a.o.disk p k ak h0 HG.o a3 HU.o).m ?_;rintro e w3⟨rfl,n,z⟩;obtain⟨t,ag⟩:=zh2 (a.o.look n z) z;have am:=Y2 w3;have a0:=Qhm w3 none 0 0;clear n z)
       go_ret2;refine .inr ⟨.slice a1 L.entries.length c,Zu d1,?_,af.o.more (by omega),by rw[V.o];rfl⟩;rw[V.o,ZW];exact t.o
      | some ls=>
       have N:Yl d.files (L.entries.length / 4) k=some ls:=by rw[Qg2 B];exact hu
       have al:=(Qbd N).1;obtain⟨HG,HU⟩:=zh2 hget hu;have A:Zx d.files L.entries=if ls.take (L.entries.length%4)=L.entries.drop (4*(L.entries.length / 4)) then (ls.drop (L.entries.length%4),decide (k=4)) else ([],false):=by rw[ai.o,Qlq ad.o B N]
       obtain⟨V,ah⟩:=zh2 A al;clear hget Q hu B N A al
       go_wp2_with (first|go_at_call 156;refine I.m ?_;rintro e w2⟨rfl,i⟩;obtain⟨a,F⟩:=zh2 (H.o.j i) i;clear i|go_at_call 202;refine (Qzx w2 g M v _ _ _ _ d1 _ a.o.log a.o.disk p k ak h0 HG.o a3 HU.o).m ?_;rintro e w3⟨b3,c3,rfl,bw,n,z⟩;obtain⟨t,ag,bh⟩:=zh3 (a.o.look n z) z bw;have am:=Y2 w3;have a0:=Qhm w3 (some ⟨b3,0,none⟩) ls.length c3;clear n z bw)
       go_loopg [50,10,11] hn (λgg s50 _ _ wx=>∃ jj:Nat,jj<=hn/\hn-jj<=gg/\s50=.int .i64 jj/\w3=wx/\Aside (∀ j,j<jj->ls[j]?=L.entries[4*q+j]?))
       case atStart=>
        refine⟨0,by omega,by omega,rfl,rfl,?_⟩;show ∀ j,j<0->_;intro j hj;omega
       case round=>
        obtain⟨jj,dc,c8,rfl,rfl,HJ⟩:=hrel;by_cases hlt2:jj<hn
        .have be:(jj:Int)<(hn:Int):=by omega
         obtain⟨b1,cs,rfl⟩:=cd.o (by omega);subst cs;obtain⟨ac,D,X⟩:=t.o.log.ents;obtain⟨us,E,R⟩:=bh.o;have bt:4*q+jj<L.entries.length:=by have:=HQ.o;have:=W.o;have:=y.o;omega
         have c0:ac.length=L.entries.length:=by simpa using D.1
         have aa:us.length=ls.length:=by simpa using E.1
         obtain⟨u1,a4⟩:∃ u,ac[4*q+jj]?=some u:=⟨_,ze (by omega)⟩
         obtain⟨u2,a5⟩:∃ u,us[jj]?=some u:=⟨_,ze (by have:=ah.o;omega)⟩
         obtain⟨x1,a6⟩:∃ x,L.entries[4*q+jj]?=some x:=⟨_,ze bt⟩
         obtain⟨x2,a7⟩:∃ x,ls[jj]?=some x:=⟨_,ze (by have:=ah.o;omega)⟩
         have k1:w3.cell? ⟨b1,q*4+jj,none⟩=some u1:=by have h1:=D.cells (g:=b1) rfl (4*q+jj) u1 a4;rw[ZX] at h1;simpa [vE] using h1
         have k2:w3.cell? ⟨b3,jj,none⟩=some u2:=by have h1:=E.cells (g:=b3) rfl jj u2 a5;rw[ZX] at h1;simpa using h1
         have db:(0:Int)<=(jj:Int):=by omega
         have dd:(jj:Int)<(ls.length:Int):=by have:=ah.o;omega
         have P:=Q3s (X _ _ _ a4 a6).at (R _ _ _ a5 a7).at;obtain⟨bj,bk⟩:=zh2 a6 a7;clear D X E R bt c0 aa a4 a5 a6 a7;cases hbb:(x1 == x2) with
         | true=>
          rw[hbb] at P;have ab:x1=x2:=by simpa using hbb
          have ap:=zh ab;clear hbb ab
          go_wp2_with (go_at_call 203;refine P.m ?_;rintro e w4⟨rfl,rfl⟩)
          go_roundg (hn-(jj+1))
          case measure=>omega
          case rel=>
           refine⟨jj+1,by omega,by omega,by go_num,rfl,?_⟩;show ∀ j,j<jj+1->_;intro j hj;by_cases hjk:j=jj
           .subst hjk
            rw[bj.o,bk.o,ap.o]
           exact HJ.o j (by omega)
         | false=>
          rw[hbb] at P;have ab:x1≠x2:=by simpa using hbb
          have ap:=zh ab;clear hbb ab
          go_wp2_with (go_at_call 203;refine P.m ?_;rintro e w4⟨rfl,rfl⟩)
          go_ret2;have A:Zx d.files L.entries=([],false):=by
           rw[V.o,zw];intro e;have h1:(ls.take (L.entries.length%4))[jj]?=(L.entries.drop (4*(L.entries.length / 4)))[jj]?:=by rw[e]
           rw[zH (by have:=W.o;have:=y.o;omega),ZU,bk.o,show 4*(L.entries.length / 4)+jj=4*q+jj by have:=HQ.o;have:=y.o;omega,bj.o] at h1;exact ap.o (zR h1).symm
          refine .inr ⟨.slice (some ⟨b1,0,none⟩) L.entries.length c,Zu d1,?_,af.o.more (by omega),by rw[A];rfl⟩;rw[A,ZW];exact t.o
        have be:¬ (jj:Int)<(hn:Int):=by omega
        have br:jj=hn:=by omega
        have ci:=zh br;clear br;obtain⟨i0,bq,b4,a2,au⟩:=Qsv;have HI:=zh (⟨bq,b4,a2,au⟩:_/\_/\_/\_);clear bq b4 a2 au;have n:=t.o.log.heads;have bl:=n.1.2.2.1;have cn:=n.2 2;have cu:=Qb t.o.log.cells;have b8:w3.cell? ⟨g,2,none⟩=some (.slice a1 ln c):=by rw[y.o];exact bl
        obtain⟨ac,D,X⟩:=t.o.log.ents;obtain⟨us,E,R⟩:=bh.o;have K:w3.ownsRow 0 147 1 (.slice a1 ln c) ln ac:=by rw[y.o];exact D
        have aa:us.length=ls.length:=by simpa using E.1
        have bu:¬ (Value.slice a1 ln c).ownBlock=some g:=λe=>by obtain⟨C,hC⟩:=Qk K e;exact Zz t.o.log.cells hC (by decide) rfl
        have al:=ah.o;have c6:ls.length<=c3:=by
         rcases E.2 with⟨e,_⟩|⟨b,cap,cur,e,_,_,cx,_⟩
         .cases e
         simp at e;omega
        have dh:(hn:Int)<=(ls.length:Int):=by omega
        have a2:(0:Int)<=(hn:Int):=by omega
        have di:¬ c3=hn:=by omega
        have an:∀ (j:Nat) (u:J),(us.drop hn)[j]?=some u->w3.drew.cell? ((⟨b3,hn,none⟩:Addr).add j)=some u:=by intro j u hj;rw[ZU] at hj;have h1:=E.cells (g:=b3) rfl (hn+j) u hj;rw[ZX] at h1 ⊢;simpa using h1
        have ao:∀ u∈us.drop hn,u.oneCell'=true:=λu hu=>Qzs aa R u (ZF hu)
        have bm:(us.drop hn).length=(ls.length-hn)*1:=by rw[zM];omega
        have az:0<ls.length-hn:=by omega
        have ar:ln+(ls.length-hn)<=1099511627776:=by omega
        obtain⟨ck,c7,aw⟩:∃ ck,((k:Int) == 4)=ck/\ck=decide (k=4):=⟨_,rfl,by rw[Vf];simp;omega⟩
        obtain⟨cf,aj,ce,c5,cm,bc,bd,cg,b7⟩:=zh9 aw K X aa R an ao bm az;obtain⟨b6,bg⟩:=zh2 ar bu;clear aw D K X aa R E an ao bm az ar bu n bl al
        go_upto_region 18 with fail
        go_region_law (refine Qf5 rfl _ _ _ rfl 0 147 i0 _ 1 24 underlying157 HI.o.1 HI.o.2.1 HI.o.2.2.1 HI.o.2.2.2 rfl (by decide) (by decide) (.slice a1 ln c) ln ac rfl (Qn aj.o (Ql w3)) ⟨b3,hn,none⟩ (ls.length-hn) (c3-hn) (us.drop hn) rfl cg.o bc.o bd.o b7.o b6.o (zE _) ?_;intro v' w' h2 h3 h4 h5;obtain⟨gb,cpb,rfl,c9⟩:=Qbz h2 h5;obtain⟨H2,H3,H4⟩:=zh3 h2 ((Fr.ofBelow (S:=λk=>(Value.slice a1 ln c).ownBlock=some k) (Ql w3)).t (Fr.ofGrown h3 λk _ e=>e)) ((Qba.refl w3 (.slice a1 ln c)).t h4 (by simp));have k3:=H3.o.cell b8 bg.o;have k4:=(H3.o.frozen (p:=⟨g,2,none⟩) cu bg.o).t cn;clear h2 h3 h4 h5)
        all_goals (
         go_wp2
         go_ret2
         have A:Zx d.files L.entries=(ls.drop hn,decide (k=4)):=by
          have hm:L.entries.length%4=hn:=by have:=W.o;have:=y.o;omega
          have Z:4*(L.entries.length / 4)=4*q:=by have:=HQ.o;have:=y.o;omega
          rw[V.o,hm,Z,zD]
          apply XP
          intro j
          by_cases hj:j<hn
          .rw[zH hj,ZU]
           exact HJ.o j (by have:=ci.o;omega)
          rw[vq (by rw[zm];omega),vq (by rw[zM];omega)]
         have cb:Yn w' 0 (.slice (some ⟨gb,0,none⟩) (ln+(ls.length-hn)) cpb) (L.entries++ls.drop hn):=
          Yn.push (ls':=ls.drop hn) aj.o ce.o y.o H3.o H2.o (by rw[y.o,zM]) (λj u l hu hl=>by
           rw[ZU] at hu hl
           exact (cm.o (hn+j) u l hu hl).m (zE _))
         have cw:Qba w3 (.slice a1 L.entries.length c) (.slice (some ⟨gb,0,none⟩) (ln+(ls.length-hn)) cpb):=by rw[<-y.o];exact H4.o
         have ct:Fr (λk=>(Value.slice a1 L.entries.length c).ownBlock=some k) w3 w':=by rw[<-y.o];exact H3.o
         have hp:=t.o.log.setEnts ct cb cw
         have cc:w.heap.size<=w3.heap.size:=by have:=F.o.size;have:=ag.o.size;omega
         refine .inr ⟨.slice (some ⟨gb,0,none⟩) (ln+(ls.length-hn)) cpb,Zu d1,?_,af.o.more (by omega),by rw[A,<-cf.o];rfl⟩
         rw[A]
         exact t.o.ents hp.1 hp.2.1 hp.2.2 cc)
    have ch:=zh ((U.o.hurt (Qmx h0)).more (show 4-k+1<=4 by omega));clear Q
    go_wp2_with (first|go_at_call 156;refine I.m ?_;rintro e w2⟨rfl,i⟩;obtain⟨a,F⟩:=zh2 (H.o.j i) i;clear i|go_at_call 202;refine (Q7l w2 g M v _ _ _ _ d1 _ a.o.log a.o.disk p k ak h0).m ?_;rintro e w3⟨q3,m,r,rfl,hq,hr,bn,bp,n,z⟩;obtain⟨t,cj,HR⟩:=zh3 (a.o.look n z) bn bp;have am:=Qam w3 219 (.pointer (some ⟨r,0,none⟩));clear n z bn bp)
    go_ret2;refine .inl ⟨_,q3,m,r,p,t.o,ch.o,rfl,?_,?_,cj.o,HR.o⟩
    .have:=F.o.size;omega
    have:=F.o.size;omega
   have ca:¬ (hn:Int)<(k:Int):=by omega
   have b0:k<=L.entries.length%4:=by have:=y.o;have:=W.o;omega
   have cl:=zh b0;clear b0
   go_wp2
   go_ret2;have A:Zx d.files L.entries=([],false):=by rw[ai.o];exact Qlg cl.o
   refine .inr ⟨.slice a1 L.entries.length c,d1,?_,U.o.more (by omega),by rw[A];rfl⟩;rw[A,ZW];exact H.o
theorem Zc3:∃ i,prog.info? 133=some i/\i.zero=some (.slice none 0 0)/\i.size=1/\i.bytes=24:=by
 have h:(prog.info? 133).map (λi=>(i.zero,i.size,i.bytes))=some (some (.slice none 0 0),1,24):=by kernel_rfl
 cases hi:prog.info? 133 with
 | none=>rw[hi] at h;simp at h
 | some i=>rw[hi] at h;simp at h;exact⟨i,rfl,h.1,h.2.1,h.2.2⟩
theorem Q6a{w w':G}{q:Nat}{y:Hsh}{S:Nat->Prop}(c:Qz w q y)(b:Fr S w w')(a:¬ S q):Qz w' q y:=b.heap c a
theorem Fr.setRow(w:G)(g:Nat)(a:Array J):Fr (·=g) w (w.setRow g a):=⟨rfl,rfl,rfl,by simp,λb hb hn=>VY w g b a hn⟩
theorem Q7k(h:Hsh):Qe3 [] h=Qe3 [[]] h:=by simp[Qe3]
theorem Zdx:∃ i,prog.info? 143=some i/\i.zero=some (.agg (h8 Zb))/\i.size=8/\i.bytes=8:=by
 have h:(prog.info? 143).map (λi=>(i.zero,i.size,i.bytes))=some (some (.agg zc),8,8):=by kernel_rfl
 cases hi:prog.info? 143 with
 | none=>rw[hi] at h;simp at h
 | some i=>rw[hi] at h;simp at h;exact⟨i,rfl,by rw[Qj9];exact h.1,h.2.1,h.2.2⟩
theorem Zdm(y:Hsh):Array.foldl (λ(cs:Array J) (x:J×Nat)=>cs.setIfInBounds x.snd x.fst) zc (h8 y).zipIdx 0 8=h8 y:=by rw[<-Qbu y];simp
theorem Q2l(w:G)(y:Hsh)(t:TypeId)(n:Nat)(a:n=w.heap.size):∀ (j:Nat) (u:J),(h8 y).toList[j]?=some u->(w.alloc (.cells (h8 y) t)).cell? ((⟨n,0,none⟩:Addr).add j)=some u:=by intro j u hu;rw[ZX,zW _ _ _ _ a];simpa using hu
theorem Zbg(y:Hsh):∀ u∈(h8 y).toList,u.oneCell'=true:=by intro u hu;have h:=Qsd y;rw[Xx] at h;exact h u (by simpa using hu)
section
attribute [local go_sem] h8_0 h8_1 h8_2 h8_3 h8_4 h8_5 h8_6 h8_7 Qbu h8_size Qdn Qa2 Zdm
theorem Qzc(w:G)(g gd:Nat)(l F m:J)(H:List J)(L:Lg)(h:Z2 w g gd l F m H L)(x:Hsh)(hn:L.levels.length<1048576)(D:∀ r∈L.levels,r.length<1099511627776):Calls prog 163 #[.pointer (some ⟨g,0,none⟩),.agg (h8 x)] w λe w'=>e=.returned (.tuple #[])/\∃ vl' vs',Z2 w' g gd l vl' m vs' { L with levels:=Qe3 L.levels x }/\Fr (LvS g l F m H) w w'/\
   Sub w (LvS g l F m H) (LvS g l vl' m vs'):=by
 have HH:=zh h;have hg:=Qb h.cells;obtain⟨HN,HR⟩:=zh2 hn D;obtain⟨i,hi,hz,hs,b5⟩:=Zc3;have HI:=zh (⟨hi,hz,hs,b5⟩:_/\_/\_/\_);clear hi hz hs b5 h D
 go_enter func163,ntmps163
 go_wp2
 go_loopg [4,5,6] (L.levels.length+1) (λgg s4 _ _ wr=>∃ j:Nat,j<=L.levels.length/\L.levels.length+1-j<=gg/\s4=.int .i64 j/\∃ a1 B Lv y,Aside (Z2 wr g gd l a1 m B { L with levels:=Lv })/\Qz wr w.heap.size y/\
  Lv.length=L.levels.length/\Aside (Qe3 L.levels x=Lv.take j++Qe3 (Lv.drop j) y)/\Aside (∀ (i:Nat) (r:List Hsh),j<=i->Lv[i]?=some r->r.length<1099511627776)/\Aside (Fr (LvS g l F m H) w wr)/\Aside (Sub (w.alloc (.cells (h8 x) 143)) (LvS g l F m H) (LvS g l a1 m B)))
 case atStart=>
  refine⟨0,zE _,by omega,rfl,F,H,L.levels,x,HH.o.j (Qa _ _),Qiz _ _,rfl,?_,?_,Fr.ofBelow (Qa _ _),Sub.refl _ _⟩
  .show Qe3 L.levels x=_
   simp
  show ∀ (i:Nat) (r:List Hsh),_->_->_;exact λi r _ D=>HR.o r (zr D)
 case round=>
  obtain⟨j,hj,dg,rfl,a1,B,Lv,y,HL,hy,bo,HG,HB,HF,HS⟩:=hrel;have hd:=HL.o.heads;obtain⟨⟨_,_,_,c3,_,_⟩,f0⟩:=hd;obtain⟨a,c,rfl⟩:=Zo HL.o.rows;obtain⟨HY,bg⟩:=zh2 hy bo;clear hy;obtain⟨nl,bd⟩:=zzx Lv.length
  obtain⟨cj,a4,b7⟩:∃ cj,((j:Int) == (nl:Int))=cj/\cj=decide (j=nl):=⟨_,rfl,by rw[Vf];simp;omega⟩
  have b0:=zh b7;clear b7;have E:wr.cell? ⟨g,3,none⟩=some (.slice a nl c):=by rw[bd];exact c3
  obtain⟨b3,a9⟩:=zh2 (show ¬ (Value.slice a nl c).ownBlock=some g by rw[bd];exact HL.o.rowsNe) bd;clear bo bd c3
  go_upto_if 15 with fail
  go_cut [] from 7 to 76 (λwx=>∃ be A Lv2,Aside (Z2 wx g gd l be m A { L with levels:=Lv2 })/\Qz wx w.heap.size y/\j<Lv2.length/\(Lv2.length=L.levels.length∨Lv2[j]?=some [])/\Lv2.length<=L.levels.length+1/\
   Aside (Qe3 L.levels x=Lv2.take j++Qe3 (Lv2.drop j) y)/\Aside (∀ (i:Nat) (r:List Hsh),j<=i->Lv2[i]?=some r->r.length<1099511627776)/\Aside (Fr (LvS g l F m H) w wx)/\Aside (Sub (w.alloc (.cells (h8 x) 143)) (LvS g l F m H) (LvS g l be m A)))
  case first=>
   cases cj with
   | true=>
    have cu:=zh (show j=nl from vv b0.o.symm);clear a4
    go_wp2_with (at_builtin;refine Qde rfl _ _ _ rfl 0 133 i _ 1 24 underlying235 HI.o.1 HI.o.2.1 HI.o.2.2.1 HI.o.2.2.2 rfl (by decide) (by decide) (.slice a nl c) nl B (by rfl) (by have h1:=Qn HL.o.rows (Qa wr (.cells #[.slice none 0 0] 133));rw[a9.o];exact h1) ⟨wr.heap.size,0,none⟩ 1 1 [.slice none 0 0] rfl rfl (Xb _ _ _) (by simp[Value.oneCell']) (by decide) (by have:=bg.o;have:=a9.o;omega) (zE _) ?_;intro v' w' h2 h3 h4 h5;obtain⟨gb,cp,rfl,c2⟩:=Qbz h2 h5;obtain⟨H2,H3,H4⟩:=zh3 h2 ((Fr.ofBelow (S:=λk=>(Value.slice a nl c).ownBlock=some k) (Qa wr (.cells #[.slice none 0 0] 133))).t (Fr.ofGrown h3 λk _ e=>e)) ((Qba.refl wr (.slice a nl c)).t h4 (by simp));go_must (have k3:=H3.o.cell E b3.o;have k4:=(H3.o.frozen (p:=⟨g,3,none⟩) (Qj E) b3.o).t (f0 3);clear h2 h3 h4 h5))
    go_meet;have e1:=a9.o;subst e1;have e2:=bg.o;have hp:=HL.o.pushLevel H3.o H2.o H4.o;have da:=Q6a HY.o hp.2.1;have b9:j=Lv.length:=cu.o;have bu:(w.alloc (.cells (h8 x) 143)).heap.size<=wr.heap.size:=by have:=Qb HY.o;simp;omega
    have bq:¬ LvS g l (.slice a Lv.length c) m B w.heap.size:=λhq=>by
     rcases HS.o _ hq with h1|h1
     .obtain⟨_,_,hC,_⟩:=HH.o.kinds h1.log
      exact absurd (Qb hC) (by omega)
     simp at h1;omega
    refine⟨_,_,_,hp.1,da bq,by simp;omega,.inr (by rw[b9];simp),by simp;omega,?_,?_,Fr.sub HF.o hp.2.1 (HS.o.m (by simp)),HS.o.t hp.2.2 bu⟩
    .show Qe3 L.levels x=_
     rw[HG.o,b9];simp[Q7k]
    show ∀ (i:Nat) (r:List Hsh),_->(Lv ++ [[]])[i]?=some r->_;intro i r hi D;rcases ZL.1 (zr D) with h1|h1
    .by_cases hlt:i<Lv.length
     .omega
     rw[ZC (by omega)] at D
     have:=zr D
     simp at this;subst this;simp
    simp at h1;subst h1;simp
   | false=>
    have ca:=zh (XA b0.o.symm);clear a4
    go_wp2
    go_meet;have h1:=bg.o;have h2:=a9.o;have h3:=ca.o;exact⟨_,B,Lv,HL,HY.o,by omega,.inl h1,by omega,HG,HB,HF,HS⟩
  case rest=>
   obtain⟨be,A,Lv2,K,n,M,cf,bc,b2,bw,cs,bi⟩:=hcut;obtain⟨cy,cx,db⟩:=zh3 n cf bc;have c1:=K.o.heads;obtain⟨⟨_,_,_,d3,_,_⟩,f2⟩:=c1;have c9:A.length=Lv2.length:=by simpa using K.o.rows.1
   obtain⟨r,D⟩:∃ r,Lv2[j]?=some r:=⟨_,ze M⟩
   obtain⟨vj,a5⟩:∃ vj,A[j]?=some vj:=⟨_,ze (by omega)⟩
   have N:=K.o.each j vj r a5 D;obtain⟨aj,cj',rfl⟩:=Zo N;have dk:=bw.o j r (zg _) D;obtain⟨bl,cp,rfl,e3,c0⟩:∃ bl cp,be=.slice (some ⟨bl,0,none⟩) Lv2.length cp/\wc.cell? ⟨bl,j,none⟩=some (.slice aj r.length cj')/\bl<wc.heap.size/\wc.frozen? ⟨bl,j,none⟩=false:=by
    rcases K.o.rows.2 with⟨_,h0⟩|⟨b,cap,cur,h0,_,hb,_,_,_,ht⟩
    .have dd:Lv2.length=0:=h0
     omega
    refine⟨b,cap,h0,?_,Qb hb,Qu hb j⟩;rw[Vw wc b j cur _ _ hb];rw[<-ht,zH (show j<Lv2.length*1 by omega)] at a5;simpa using a5
   have dh:(0:Int)<=(j:Int):=by omega
   have ca:(j:Int)<(Lv2.length:Int):=by omega
   have y0:=Qy n 0 (by decide);have y1:=Qy n 1 (by decide);have y2:=Qy n 2 (by decide);have y3:=Qy n 3 (by decide);have y4:=Qy n 4 (by decide);have y5:=Qy n 5 (by decide);have y6:=Qy n 6 (by decide);have y7:=Qy n 7 (by decide);have df:g<wc.heap.size:=Qj d3;have dj:w.heap.size<wc.heap.size:=Qb n;obtain⟨co,cq⟩:=c0;have bx:=zh (show ¬ (Value.slice aj r.length cj').ownBlock=some bl from λe=>by
    obtain⟨C,hC⟩:=Qk N e
    obtain⟨C',cz⟩:=Qk K.o.rows (k:=bl) rfl
    exact Zz hC cz (by decide) rfl)
   have ct:=zh (show ¬ (Value.slice aj r.length cj').ownBlock=some g from λe=>by
    obtain⟨C,hC⟩:=Qk N e
    exact Zz K.o.cells hC (by decide) rfl)
   obtain⟨ba,bh,cn⟩:=zh3 a5 D N;clear n cf bc c9 D a5 N;obtain⟨i8,b8,ck,ch,bn⟩:=Zdx;have a8:=zh (⟨b8,ck,ch,bn⟩:_/\_/\_/\_);clear b8 ck ch bn
   go_upto_region 5 with fail
   go_cut [] from 25 to 76 (λwx=>∃ v',Aside (Z2 wx g gd l (.slice (some ⟨bl,0,none⟩) Lv2.length cp) m (A.set j v') { L with levels:=Lv2.set j (r ++ [y]) })/\Qz wx w.heap.size y/\Aside (Fr (LvS g l F m H) w wx)/\Aside (Sub (w.alloc (.cells (h8 x) 143)) (LvS g l F m H) (LvS g l (.slice (some ⟨bl,0,none⟩) Lv2.length cp) m (A.set j v'))))
   case first=>
    go_region_law (refine Qf5 rfl _ _ _ rfl 0 143 i8 _ 8 8 underlying133 a8.o.1 a8.o.2.1 a8.o.2.2.1 a8.o.2.2.2 (by simp[Value.cells]) (by decide) (by decide) (.slice aj r.length cj') r.length (r.flatMap λh=>(h8 h).toList) rfl (Qn cn.o ((Ql wc).alloc (zg _) _)) ⟨wc.heap.size,0,none⟩ 1 1 (h8 y).toList rfl (by simp) (Q2l _ _ _ _ rfl) (Zbg y) (by decide) (by omega) (zE _) ?_;intro v' w' h2 h3 h4 h5;obtain⟨gb,cp',rfl,c2⟩:=Qbz h2 h5;obtain⟨H2,H3,H4⟩:=zh3 h2 ((Fr.ofBelow (S:=λk=>(Value.slice aj r.length cj').ownBlock=some k) ((Ql wc).alloc (zg _) _)).t (Fr.ofGrown h3 λk _ e=>e)) ((Qba.refl wc (.slice aj r.length cj')).t h4 (by simp));have k3:=H3.o.cell e3 bx.o;have k5:=H3.o.cell d3 ct.o;have k4:=(H3.o.frozen (p:=⟨bl,j,none⟩) co bx.o).t cq;clear h2 h3 h4 h5)
    all_goals (
     go_wp2
     go_meet
     have h2:Qa5 w' 0 (.slice (some ⟨gb,0,none⟩) (r.length+1) cp') (r ++ [y]):=by
      have:=H2.o
      unfold Qa5
      rw[zn,vU]
      simpa using this
     have hp:=K.o.pushHash y ba.o bh.o H3.o h2 H4.o rfl
     have bu:(w.alloc (.cells (h8 x) 143)).heap.size<=wc.heap.size:=by simp;omega
     have bq:¬ LvS g l (.slice (some ⟨bl,0,none⟩) Lv2.length cp) m A w.heap.size:=λhq=>by
      rcases bi.o _ hq with h1|h1
      .obtain⟨_,_,hC,_⟩:=HH.o.kinds h1.log
       exact absurd (Qb hC) (by omega)
      simp at h1
      omega
     exact⟨_,hp.1,Q6a cy.o hp.2.1 bq,Fr.sub cs.o hp.2.1 (bi.o.m (by simp)),bi.o.t hp.2.2 bu⟩)
   case rest=>
    obtain⟨v3,a0,ci,b1,bj⟩:=hcut;have bm:=zh ci;have I:=a0.o.each j v3 (r ++ [y]) (by rw[vA];have:=(zj.1 ba.o).1;exact this) (by show (Lv2.set j (r ++ [y]))[j]?=_;rw[vA M]);obtain⟨a3,E,rfl⟩:=Zo I;obtain⟨⟨_,_,_,d4,_,_⟩,_⟩:=a0.o.heads;have e4:wc.cell? ⟨bl,j,none⟩=some (.slice a3 (r ++ [y]).length E):=by
     have c4:=(zj.1 ba.o).1;rcases a0.o.rows.2 with⟨e,_⟩|⟨b,cap,cur,e,_,hb,_,_,_,ht⟩
     .cases e
     simp at e;obtain⟨rfl,rfl⟩:=e;have h1:(A.set j (.slice a3 (r ++ [y]).length E))[j]?=some (.slice a3 (r ++ [y]).length E):=vA c4;rw[<-ht,zH (show j<(Lv2.set j (r ++ [y])).length*1 by simp;omega)] at h1;rw[Vw wc bl j cur _ _ hb];simpa using h1
    clear ci;obtain⟨cb,de,b6⟩:∃ cb,(((r.length:Int)+1)%4 != 0)=cb/\cb = !decide ((r.length+1)%4=0):=⟨_,rfl,by rw[Vf];simp;omega⟩
    have bz:=zh b6;have bt:Lv2.set j (r ++ [y])=Lv2.take j++(r ++ [y]) :: Lv2.drop (j+1):=by rw[List.set_eq_take_append_cons_drop];rw[zD M]
    have bb:Lv2.drop j=r :: Lv2.drop (j+1):=by
     rw[zZ M]
     have:=bh.o
     rw[ze M] at this;rw[zR this]
    obtain⟨bk,a7⟩:=zh2 bt bb;clear b6 bt bb;cases cb with
    | true=>
     have ce:¬ (r.length+1)%4=0:=by have:=bz.o;simpa using this
     have bp:Qe3 L.levels x=Lv2.set j (r ++ [y]):=by rw[b2.o,a7.o,bk.o,Qe3,zw ce]
     have cl:=zh bp;clear ce bp
     go_wp2_with fail
     refine zI (VF rfl _ _ _) rfl ?_;refine⟨rfl,_,_,?_,b1.o,bj.o.m (by simp)⟩;rw[cl.o];exact a0.o
    | false=>
     have cc:(r.length+1)%4=0:=by have:=bz.o;simpa using this
     obtain⟨q,hq⟩:∃ q,r.length=q+3:=⟨r.length-3,by omega⟩
     have c8:(r ++ [y]).length=q+4:=by simp;omega
     obtain⟨g3,rfl⟩:∃ g3,a3=some ⟨g3,0,none⟩:=by
      rcases I.2 with⟨e,h0⟩|⟨b,cap,cur,e,_⟩
      .omega
      simp at e;exact⟨b,e.1⟩
     have a2:∀ i,i<4->∃ z,(r ++ [y])[q+i]?=some z:=λi hi=>⟨_,ze (by omega)⟩
     obtain⟨z0,s⟩:=a2 0 (by decide);obtain⟨z1,t⟩:=a2 1 (by decide);obtain⟨z2,u⟩:=a2 2 (by decide);obtain⟨z3,v⟩:=a2 3 (by decide);have cd:node4 (r ++ [y])=Z9 (Z9 z0 z1) (Z9 z2 z3):=by
      unfold node4;have e:(r ++ [y]).length-4=q:=by omega
      rw[e];simp only[zz];rw[t,u,v];have h0:(r ++ [y])[q]?=some z0:=s;rw[h0];rfl
     have cw:=zh cd;have dl:(0:Int)<=(r.length:Int)+1-4:=by omega
     have dm:(r.length:Int)+1-4<=(r.length:Int)+1:=by omega
     have dn:((r.length:Int)+1-4).toNat=q:=by omega
     have di:r.length+1-q=4:=by omega
     have dp:¬ E=q:=by
      rcases I.2 with⟨e,h0⟩|⟨b,cap,cur,e,_,_,c7,_⟩
      .omega
      simp at e c7;omega
     have cv:=zh cc;have f:=λ(i:Nat) (z:Hsh) (hz:(r ++ [y])[q+i]?=some z) (c:Nat) (hc:c<8) (o:Nat) (ho:(q+i)*8+c=o)=>(by have h1:=Qqg I hz c hc;rw[ho] at h1;exact h1:wc.cell? ⟨g3,o,none⟩=some (YtefccfakhgdfbaaGreatDoor.u8 z[c]))
     have P:=f 0 z0 s 0 (by decide) (q*8) (by omega);have Q:=f 0 z0 s 1 (by decide) (q*8+1) (by omega);have R:=f 0 z0 s 2 (by decide) (q*8+2) (by omega);have T:=f 0 z0 s 3 (by decide) (q*8+3) (by omega);have U:=f 0 z0 s 4 (by decide) (q*8+4) (by omega);have V:=f 0 z0 s 5 (by decide) (q*8+5) (by omega);have W:=f 0 z0 s 6 (by decide) (q*8+6) (by omega);have X:=f 0 z0 s 7 (by decide) (q*8+7) (by omega);have Z:=f 1 z1 t 0 (by decide) (q*8+8) (by omega);have aa:=f 1 z1 t 1 (by decide) (q*8+9) (by omega);have ab:=f 1 z1 t 2 (by decide) (q*8+10) (by omega);have ac:=f 1 z1 t 3 (by decide) (q*8+11) (by omega);have ad:=f 1 z1 t 4 (by decide) (q*8+12) (by omega);have ae:=f 1 z1 t 5 (by decide) (q*8+13) (by omega);have af:=f 1 z1 t 6 (by decide) (q*8+14) (by omega);have ag:=f 1 z1 t 7 (by decide) (q*8+15) (by omega);have ah:=f 2 z2 u 0 (by decide) (q*8+16) (by omega);have ai:=f 2 z2 u 1 (by decide) (q*8+17) (by omega);have ak:=f 2 z2 u 2 (by decide) (q*8+18) (by omega);have al:=f 2 z2 u 3 (by decide) (q*8+19) (by omega);have am:=f 2 z2 u 4 (by decide) (q*8+20) (by omega);have an:=f 2 z2 u 5 (by decide) (q*8+21) (by omega);have ao:=f 2 z2 u 6 (by decide) (q*8+22) (by omega);have ap:=f 2 z2 u 7 (by decide) (q*8+23) (by omega);have aq:=f 3 z3 v 0 (by decide) (q*8+24) (by omega);have ar:=f 3 z3 v 1 (by decide) (q*8+25) (by omega);have au:=f 3 z3 v 2 (by decide) (q*8+26) (by omega);have av:=f 3 z3 v 3 (by decide) (q*8+27) (by omega);have aw:=f 3 z3 v 4 (by decide) (q*8+28) (by omega);have ax:=f 3 z3 v 5 (by decide) (q*8+29) (by omega);have ay:=f 3 z3 v 6 (by decide) (q*8+30) (by omega);have az:=f 3 z3 v 7 (by decide) (q*8+31) (by omega);have HQ:=zh hq;have br:¬ LvS g l (.slice (some ⟨bl,0,none⟩) Lv2.length cp) m (A.set j (.slice (some ⟨g3,0,none⟩) (r ++ [y]).length E)) w.heap.size:=λhk=>by
      rcases bj.o _ hk with h1|h1
      .obtain⟨_,_,hC,_⟩:=HH.o.kinds h1.log
       exact absurd (Qb hC) (by omega)
      simp at h1;omega
     have cr:¬ g3=w.heap.size:=λe=>br (e ▸ .inr (.inr ⟨_,zr (i:=j) (vA (by have:=(zj.1 ba.o).1;exact this)),rfl⟩))
     have q8:Is8 wc.drew w.heap.size:=⟨y,bm.o⟩
     have a6:=zh (Ql wc);clear cc a2 s t u v cd hq c8 f
     go_upto_region 9 with fail
     go_region_held3 (λw'=>w'.cell? ⟨g3,q*8,none⟩=some (YtefccfakhgdfbaaGreatDoor.u8 z0[0])/\w'.cell? ⟨g3,q*8+1,none⟩=some (YtefccfakhgdfbaaGreatDoor.u8 z0[1])/\w'.cell? ⟨g3,q*8+2,none⟩=some (YtefccfakhgdfbaaGreatDoor.u8 z0[2])/\w'.cell? ⟨g3,q*8+3,none⟩=some (YtefccfakhgdfbaaGreatDoor.u8 z0[3])/\w'.cell? ⟨g3,q*8+4,none⟩=some (YtefccfakhgdfbaaGreatDoor.u8 z0[4])/\w'.cell? ⟨g3,q*8+5,none⟩=some (YtefccfakhgdfbaaGreatDoor.u8 z0[5])/\w'.cell? ⟨g3,q*8+6,none⟩=some (YtefccfakhgdfbaaGreatDoor.u8 z0[6])/\w'.cell? ⟨g3,q*8+7,none⟩=some (YtefccfakhgdfbaaGreatDoor.u8 z0[7])/\w'.cell? ⟨g3,q*8+8,none⟩=some (YtefccfakhgdfbaaGreatDoor.u8 z1[0])/\w'.cell? ⟨g3,q*8+9,none⟩=some (YtefccfakhgdfbaaGreatDoor.u8 z1[1])/\w'.cell? ⟨g3,q*8+10,none⟩=some (YtefccfakhgdfbaaGreatDoor.u8 z1[2])/\w'.cell? ⟨g3,q*8+11,none⟩=some (YtefccfakhgdfbaaGreatDoor.u8 z1[3])/\w'.cell? ⟨g3,q*8+12,none⟩=some (YtefccfakhgdfbaaGreatDoor.u8 z1[4])/\w'.cell? ⟨g3,q*8+13,none⟩=some (YtefccfakhgdfbaaGreatDoor.u8 z1[5])/\w'.cell? ⟨g3,q*8+14,none⟩=some (YtefccfakhgdfbaaGreatDoor.u8 z1[6])/\w'.cell? ⟨g3,q*8+15,none⟩=some (YtefccfakhgdfbaaGreatDoor.u8 z1[7])/\w'.cell? ⟨g3,q*8+16,none⟩=some (YtefccfakhgdfbaaGreatDoor.u8 z2[0])/\w'.cell? ⟨g3,q*8+17,none⟩=some (YtefccfakhgdfbaaGreatDoor.u8 z2[1])/\w'.cell? ⟨g3,q*8+18,none⟩=some (YtefccfakhgdfbaaGreatDoor.u8 z2[2])/\w'.cell? ⟨g3,q*8+19,none⟩=some (YtefccfakhgdfbaaGreatDoor.u8 z2[3])/\w'.cell? ⟨g3,q*8+20,none⟩=some (YtefccfakhgdfbaaGreatDoor.u8 z2[4])/\w'.cell? ⟨g3,q*8+21,none⟩=some (YtefccfakhgdfbaaGreatDoor.u8 z2[5])/\w'.cell? ⟨g3,q*8+22,none⟩=some (YtefccfakhgdfbaaGreatDoor.u8 z2[6])/\w'.cell? ⟨g3,q*8+23,none⟩=some (YtefccfakhgdfbaaGreatDoor.u8 z2[7])/\w'.cell? ⟨g3,q*8+24,none⟩=some (YtefccfakhgdfbaaGreatDoor.u8 z3[0])/\w'.cell? ⟨g3,q*8+25,none⟩=some (YtefccfakhgdfbaaGreatDoor.u8 z3[1])/\w'.cell? ⟨g3,q*8+26,none⟩=some (YtefccfakhgdfbaaGreatDoor.u8 z3[2])/\w'.cell? ⟨g3,q*8+27,none⟩=some (YtefccfakhgdfbaaGreatDoor.u8 z3[3])/\w'.cell? ⟨g3,q*8+28,none⟩=some (YtefccfakhgdfbaaGreatDoor.u8 z3[4])/\w'.cell? ⟨g3,q*8+29,none⟩=some (YtefccfakhgdfbaaGreatDoor.u8 z3[5])/\w'.cell? ⟨g3,q*8+30,none⟩=some (YtefccfakhgdfbaaGreatDoor.u8 z3[6])/\w'.cell? ⟨g3,q*8+31,none⟩=some (YtefccfakhgdfbaaGreatDoor.u8 z3[7])) (first|exact⟨P,Q,R,T,U,V,W,X,Z,aa,ab,ac,ad,ae,af,ag,ah,ai,ak,al,am,an,ao,ap,aq,ar,au,av,aw,ax,ay,az⟩|simp only[Qdn cr];exact⟨P,Q,R,T,U,V,W,X,Z,aa,ab,ac,ad,ae,af,ag,ah,ai,ak,al,am,an,ao,ap,aq,ar,au,av,aw,ax,ay,az⟩) (first|go_at_call 181;refine (Qcv _ _ _).m ?_;rintro e w5⟨rfl,d⟩;replace P:=(d.cell (p:=⟨g3,q*8,none⟩) (Qj P)).t P;replace Q:=(d.cell (p:=⟨g3,q*8+1,none⟩) (Qj Q)).t Q;replace R:=(d.cell (p:=⟨g3,q*8+2,none⟩) (Qj R)).t R;replace T:=(d.cell (p:=⟨g3,q*8+3,none⟩) (Qj T)).t T;replace U:=(d.cell (p:=⟨g3,q*8+4,none⟩) (Qj U)).t U;replace V:=(d.cell (p:=⟨g3,q*8+5,none⟩) (Qj V)).t V;replace W:=(d.cell (p:=⟨g3,q*8+6,none⟩) (Qj W)).t W;replace X:=(d.cell (p:=⟨g3,q*8+7,none⟩) (Qj X)).t X;replace Z:=(d.cell (p:=⟨g3,q*8+8,none⟩) (Qj Z)).t Z;replace aa:=(d.cell (p:=⟨g3,q*8+9,none⟩) (Qj aa)).t aa;replace ab:=(d.cell (p:=⟨g3,q*8+10,none⟩) (Qj ab)).t ab;replace ac:=(d.cell (p:=⟨g3,q*8+11,none⟩) (Qj ac)).t ac;replace ad:=(d.cell (p:=⟨g3,q*8+12,none⟩) (Qj ad)).t ad;replace ae:=(d.cell (p:=⟨g3,q*8+13,none⟩) (Qj ae)).t ae;replace af:=(d.cell (p:=⟨g3,q*8+14,none⟩) (Qj af)).t af;replace ag:=(d.cell (p:=⟨g3,q*8+15,none⟩) (Qj ag)).t ag;replace ah:=(d.cell (p:=⟨g3,q*8+16,none⟩) (Qj ah)).t ah;replace ai:=(d.cell (p:=⟨g3,q*8+17,none⟩) (Qj ai)).t ai;replace ak:=(d.cell (p:=⟨g3,q*8+18,none⟩) (Qj ak)).t ak;replace al:=(d.cell (p:=⟨g3,q*8+19,none⟩) (Qj al)).t al;replace am:=(d.cell (p:=⟨g3,q*8+20,none⟩) (Qj am)).t am;replace an:=(d.cell (p:=⟨g3,q*8+21,none⟩) (Qj an)).t an;replace ao:=(d.cell (p:=⟨g3,q*8+22,none⟩) (Qj ao)).t ao;replace ap:=(d.cell (p:=⟨g3,q*8+23,none⟩) (Qj ap)).t ap;replace aq:=(d.cell (p:=⟨g3,q*8+24,none⟩) (Qj aq)).t aq;replace ar:=(d.cell (p:=⟨g3,q*8+25,none⟩) (Qj ar)).t ar;replace au:=(d.cell (p:=⟨g3,q*8+26,none⟩) (Qj au)).t au;replace av:=(d.cell (p:=⟨g3,q*8+27,none⟩) (Qj av)).t av;replace aw:=(d.cell (p:=⟨g3,q*8+28,none⟩) (Qj aw)).t aw;replace ax:=(d.cell (p:=⟨g3,q*8+29,none⟩) (Qj ax)).t ax;replace ay:=(d.cell (p:=⟨g3,q*8+30,none⟩) (Qj ay)).t ay;replace az:=(d.cell (p:=⟨g3,q*8+31,none⟩) (Qj az)).t az;replace q8:Is8 w5 w.heap.size:=q8.elim λk hk=>⟨k,Qh hk d⟩;replace a6:=zh (a6.o.t (d.m a6.o.size));clear d)
     have hrel:∃ j':Nat,j'<=L.levels.length/\L.levels.length+1-j'<=L.levels.length-j/\Value.int .i64 (((j:Int)+1))=.int .i64 j'/\∃ a1 B Lv y',Aside (Z2 (w5.setRow w.heap.size (h8 (Z9 (Z9 z0 z1) (Z9 z2 z3)))) g gd l a1 m B { L with levels:=Lv })/\Qz (w5.setRow w.heap.size (h8 (Z9 (Z9 z0 z1) (Z9 z2 z3)))) w.heap.size y'/\
       Lv.length=L.levels.length/\Aside (Qe3 L.levels x=Lv.take j'++Qe3 (Lv.drop j') y')/\Aside (∀ (i:Nat) (r:List Hsh),j'<=i->Lv[i]?=some r->r.length<1099511627776)/\Aside (Fr (LvS g l F m H) w (w5.setRow w.heap.size (h8 (Z9 (Z9 z0 z1) (Z9 z2 z3)))))/\Aside (Sub (w.alloc (.cells (h8 x) 143)) (LvS g l F m H) (LvS g l a1 m B)):=by
      obtain⟨k5,c5⟩:=q8;have b4:Fr (·=w.heap.size) wc (w5.setRow w.heap.size (h8 (Z9 (Z9 z0 z1) (Z9 z2 z3)))):=(Fr.ofBelow a6.o).t (Fr.setRow _ _ _);have c6:Lv2.length=L.levels.length:=by
       rcases cx.o with h1|h1
       .exact h1
       have h2:=bh.o;rw[h1] at h2;have h3:r = []:=(zR h2).symm;have h4:=HQ.o;rw[h3] at h4;simp at h4
      have a4:(Lv2.take j).length=j:=by rw[zm];omega
      have e1:(Lv2.take j++(r ++ [y]) :: Lv2.drop (j+1)).take (j+1)=Lv2.take j ++ [r ++ [y]]:=by rw[List.take_append,a4,zk (by omega),show j+1-j=1 by omega];rfl
      have e2:(Lv2.take j++(r ++ [y]) :: Lv2.drop (j+1)).drop (j+1)=Lv2.drop (j+1):=by rw[List.drop_append,a4,Vx (by omega),show j+1-j=1 by omega];rfl
      refine⟨j+1,by omega,by omega,by rfl,_,_,Lv2.set j (r ++ [y]),node4 (r ++ [y]),a0.o.fr b4 (λk hk e=>br (by subst e;exact a0.o.lvOf bm.o hk)) (λk C fz hk e=>?_),?_,by simpa using c6,?_,?_,b1.o.step b4 (λi hi e=>by omega),bj.o⟩
      .subst e
       have:=bm.o
       unfold Qz at this;rw[hk] at this;simp at this
      .rw[cw.o]
       exact Q0 c5 _
      .show Qe3 L.levels x=_
       rw[bk.o,e1,e2,b2.o,a7.o,Qe3,zD cv.o,ZS];rfl
      show ∀ (i:Nat) (r':List Hsh),j+1<=i->(Lv2.set j (r ++ [y]))[i]?=some r'->_;intro i r' hi cg;rw[VH (by omega)] at cg;exact bw.o i r' (by omega) cg
     have cm:=zh hrel;clear hrel
     go_wp2
     go_roundg (L.levels.length-j)
     case measure=>omega
     case rel=>exact cm.o
end
def Took(w:G)(g gd:Nat)(ve vl vp:J)(vs:List J)(L:Lg)(b:Ud)(w':G):Prop:=
 ∃ ve' vl' vs' vs0 u,Z2 w' g gd ve' vl' vp vs' { L with entries:=L.entries ++ [b],levels:=levels (L.entries ++ [b]) }/\Fr (LogS g ve vl vp vs) w w'/\Sub w (LogS g ve vl vp vs) (LogS g ve' vl' vp vs')/\
  w.ownsRow 0 147 1 ve L.entries.length vs0/\w'.ownsRow 0 147 1 ve' (L.entries.length+1) (vs0 ++ [u])/\Q3 w' w.heap.size u b
theorem Qqc{base:Nat}{v:J}{l:Ud}(h:Q3 w base v l):∃ a n c,v=.slice a n c:=by
 rcases h with⟨rfl,_⟩|⟨b,off,c,C,fz,rfl,_⟩
 .exact⟨_,_,_,rfl⟩
 exact⟨_,_,_,rfl⟩
theorem Qu0{es:Uc}(h:es.length<=1048576):(levels es).length<1048576/\∀ r∈levels es,r.length<1099511627776:=by
 have h1:=Qbp h;refine⟨by simp[levels];omega,λr hr=>?_⟩;obtain⟨k,hk,rfl⟩:=zU.1 hr;rw[Jr]
 have:=xm es.length (4 ^ k)
 omega
theorem Q4y{g m k:Nat}{e i l:J}{c:List J}{L:Lg}(h:Z2 w g m e i l c L){C:Array J}{f:Nat×Nat}(b:w.heap[k]?=some (.cells C 147 f))(a:LvS g e i l c k):False:=by
 rcases a with rfl|a|⟨v,hv,a⟩
 .exact Zz b h.cells (by decide) rfl
 .obtain⟨C',h1⟩:=Qk h.rows a
  exact Zz b h1 (by decide) rfl
 obtain⟨j,hj⟩:=Vc.1 hv;have hl:c.length=L.levels.length:=by simpa using h.rows.1
 have d:j<L.levels.length:=by have:=(zj.1 hj).1;omega
 obtain⟨C',h1⟩:=Qk (h.each j v _ hj (ze d)) a;exact Zz b h1 (by decide) rfl
def Qfo(f:Nat->Addr)(g gd:Nat)(ve vl vp:J)(vs:List J)(L:Lg)(b:Ud)(w:G)(e:Ua)(w':G):Prop:=
 if 20<b.length then e=.returned (.tuple #[.int .i64 0,.iface 370 (.pointer (some (f 0)))])/\Bz w w'
 else if L.failed=true then e=.returned (.tuple #[.int .i64 0,.iface 370 (.pointer (some (f 6)))])/\Bz w w'
 else e=.returned (.tuple #[.int .i64 L.entries.length,.nilIface])/\Took w g gd ve vl vp vs L b w'
theorem Q1t(f:Nat->Addr)(w:G)(g M:Nat)(ve x y:J)(D:List J)(L:Lg)(h:Z2 w g M ve x y D L)(va:J)(b:Ud)(hb:Q3 w 0 va b)(hn:L.entries.length<1048576)(ad:L.levels=levels L.entries)(T:Yp w f):Calls prog 128 #[.pointer (some ⟨g,0,none⟩),va] w (Qfo f g M ve x y D L b w):=by
 obtain⟨s0,_,_,_,_,_,s6⟩:=T.cells;obtain⟨a,c,rfl⟩:∃ a c,va=.slice a b.length c:=by obtain⟨a,c,h1,_,_⟩:=hb.at;exact⟨a,c,h1⟩
 obtain⟨HB,HH⟩:=zh2 hb h;have hd:=h.heads;obtain⟨⟨_,_,c2,_,_,c5⟩,f0⟩:=hd;have hg:=Qb h.cells;clear h hb T;by_cases hlong:20<b.length
 .have hz:(20:Int)<(b.length:Int):=by omega
  go_enter func128,ntmps128
  go_wp2;go_region
  all_goals (
   go_wp2
   go_ret2
   unfold Qfo
   rw[zD hlong]
   exact⟨rfl,Ql w⟩)
 have hz:¬ (20:Int)<(b.length:Int):=by omega
 have a7:b.length<=1048576:=by omega
 cases hfl:L.failed with
 | true=>
  rw[hfl] at c5
  go_enter func128,ntmps128
  go_wp2;go_region
  all_goals (
   go_wp2
   go_ret2
   unfold Qfo
   rw[zw hlong,zD hfl]
   exact⟨rfl,Ql w⟩)
 | false=>
  rw[hfl] at c5;obtain⟨ap,H⟩:=zh2 hfl ad;obtain⟨B,v,ah⟩:=HH.o.ents;obtain⟨a1,d,rfl⟩:=Zo v;obtain⟨ln,z⟩:=zzx L.entries.length
  rw[<-z] at c2 hn;have q:w.ownsRow 0 147 1 (.slice a1 ln d) ln B:=by rw[z];exact v
  have ag:¬ (Value.slice a1 ln d).ownBlock=some g:=λe=>by obtain⟨C,hC⟩:=Qk q e;exact Zz HH.o.cells hC (by decide) rfl
  obtain⟨i0,ac,ak,ai,P⟩:=Qsv;obtain⟨HI,m,n,au,I⟩:=zh5 (⟨ac,ak,ai,P⟩:_/\_/\_/\_) z q ah ag;clear hfl ad v ah z q ag ac ak ai P
  go_enter func128,ntmps128
  go_upto_region 5 with fail
  go_cut [] from 17 to 27 (λwx=>∃ ve',Aside (Z2 wx g M ve' x y D { L with entries:=L.entries ++ [b] })/\Aside (Fr (LogS g (.slice a1 L.entries.length d) x y D) w wx)/\Aside (Sub w (LogS g (.slice a1 L.entries.length d) x y D) (LogS g ve' x y D))/\Aside (Q3 wx 0 (.slice a b.length c) b)/\∃ u,Aside (wx.ownsRow 0 147 1 ve' (ln+1) (B ++ [u]))/\Aside (Q3 wx w.heap.size u b))
  case first=>
   go_region_law (first|go_simp;go_at_call 170;refine (Qil _ b _ (HB.o.at.j (Ql w)) (by omega)).m ?_;rintro e w2⟨v2,rfl,R,t⟩;obtain⟨q2,n2,k2,rfl⟩:=Qqc R;obtain⟨K,i⟩:=zh2 R t;have a5:=(t.cell (p:=⟨g,2,none⟩) hg).t c2;have a6:=(t.frozen (p:=⟨g,2,none⟩) hg).t (f0 2);have a8:g<w2.heap.size:=zJ hg t.size;clear R t|refine Qf5 rfl _ _ _ rfl 0 147 i0 _ 1 24 underlying157 HI.o.1 HI.o.2.1 HI.o.2.2.1 HI.o.2.2.2 rfl (by decide) (by decide) (.slice a1 ln d) ln B rfl (Qn n.o (((Ql w).t i.o).alloc (zi (zg _) i.o.size) _)) ⟨w2.heap.size,0,none⟩ 1 1 [.slice q2 n2 k2] rfl rfl (Xb _ _ _) (by simp[K.o.one]) (by decide) (by omega) (zE _) ?_;intro v' w' h2 h3 h4 h5;obtain⟨gb,cpb,rfl,a9⟩:=Qbz h2 h5;obtain⟨H2,H3,U,H4⟩:=zh4 h2 ((Fr.ofBelow (S:=λk=>(Value.slice a1 ln d).ownBlock=some k) (((Ql w).t i.o).alloc (zi (zg _) i.o.size) (.cells #[.slice q2 n2 k2] 147))).t (Fr.ofGrown h3 λk _ e=>e)) (Fr.ofGrown (S:=λk=>(Value.slice a1 ln d).ownBlock=some k) h3 λk _ e=>e) ((Qba.refl w (.slice a1 ln d)).t h4 (((Ql w).t i.o).alloc (zi (zg _) i.o.size) (.cells #[.slice q2 n2 k2] 147)).size);have k3:=H3.o.cell c2 I.o;have k4:=(H3.o.frozen (p:=⟨g,2,none⟩) hg I.o).t (f0 2);clear h2 h3 h4 h5)
   all_goals (
    go_wp2
    go_meet
    have B2:Bz w (w2.alloc (.cells #[.slice q2 n2 k2] 147)):=((Ql w).t i.o).alloc (zi (zg _) i.o.size) _
    have am:Yn w' 0 (.slice (some ⟨gb,0,none⟩) (ln+1) cpb) (L.entries ++ [b]):=
     Yn.push (ls':=[b]) (Qn n.o B2) (λj u l hu hl=>(au.o j u l hu hl).j B2) m.o U.o H2.o (by rw[m.o];rfl) (λj u l hu hl=>by
      cases j with
      | zero=>cases hu;cases hl;exact (K.o.m (zE _)).j (Qa _ _)
      | succ j=>simp at hu)
    have az:Qba w (.slice a1 L.entries.length d) (.slice (some ⟨gb,0,none⟩) (ln+1) cpb):=by rw[<-m.o];exact H4.o
    have ay:Fr (λk=>(Value.slice a1 L.entries.length d).ownBlock=some k) w w':=by rw[<-m.o];exact H3.o
    have hp:=HH.o.setEnts ay am az
    have ab:w'.heap[g]?=some (.cells (Qlt M (.slice a1 L.entries.length d) x y L) 237 (0,0)):=H3.o.heap HH.o.cells I.o
    refine⟨_,hp.1,hp.2.1,hp.2.2,?_,_,Zf H2.o (Fr.set1 w' g 2 _) (λk hk e=>?_),?_⟩
    .exact HB.o.same λk C fz hk=>hp.2.1.block k (Qb hk) λT=>HH.o.noBytes k C fz hk T
    .obtain⟨C,hC⟩:=Qk H2.o hk
     exact Zz hC ab (by decide) e
    have o1:Q3 (w2.alloc (.cells #[.slice q2 n2 k2] 147)) w.heap.size (.slice q2 n2 k2) b:=(K.o.m (Ql w).size).j (Qa _ _)
    have o2:Q3 w' w.heap.size (.slice q2 n2 k2) b:=o1.same λk C fz hk=>U.o.block k (Qb hk) λe=>by
     obtain⟨C',aw⟩:=Qk (Qn n.o B2) e
     exact Zz hk aw (by decide) rfl
    exact o2.same λk C fz hk=>(Fr.set1 w' g 2 _).block k (Qb hk) λe=>Zz hk ab (by decide) e)
  case rest=>
   obtain⟨ve',HL,W,Z,ao,u,X,ar⟩:=hcut;obtain⟨vse,A,_⟩:=HL.o.ents;obtain⟨ae,ce,rfl⟩:=Zo A;clear A;have ba:=HL.o.heads;have af:L.entries.length<=1048576:=by have:=m.o;omega
   have V:=zh (Qu0 af);clear af
   go_wp2_with (first|go_at_call 151;refine (Qln _ b _ ao.o.at (by omega)).m ?_;rintro e w3⟨rfl,N⟩;obtain⟨F,s⟩:=zh2 (HL.o.j N) N;clear N|go_at_call 163;refine (Qzc w3 g M _ _ _ _ _ F.o (Jz b) (by show L.levels.length<_;rw[H.o];exact V.o.1) (by show ∀ r∈L.levels,_;rw[H.o];exact V.o.2)).m ?_;rintro e w4⟨rfl,a2,a3,Q,aa,aj⟩;obtain⟨aq,E,av⟩:=zh3 Q aa aj;have ax:=Q.heads;clear Q aa aj)
   obtain⟨⟨_,_,e2,_,_,_⟩,_⟩:=ax
   go_wp2
   go_ret2;unfold Qfo;rw[zw hlong,zw (by rw[ap.o];decide)];refine⟨?_,.slice ae (L.entries ++ [b]).length ce,a2,a3,B,u,?_,?_,?_,?_,?_,?_⟩
   .simp
    have:=m.o
    unfold wrap64;omega
   .have:=aq.o
    rw[show Qe3 ({ L with entries:=L.entries ++ [b] }:Lg).levels (Jz b)=levels (L.entries ++ [b]) by show Qe3 L.levels _=_;rw[H.o,Qwf]] at this;exact this
   .exact (Fr.sub (W.o.t (Fr.ofBelow s.o)) (E.o.weak λ_ _ h=>h.log) Z.o)
   .exact Z.o.t (Zax av.o) (by have:=W.o.size;have:=s.o.size;omega)
   .rw[<-m.o];exact n.o
   .rw[<-m.o]
    exact Zf (Qn X.o s.o) E.o λk hk e=>by obtain⟨C,hC⟩:=Qk (Qn X.o s.o) hk;exact Q4y F.o hC e
   exact (ar.o.j s.o).same λk C fz hk=>E.o.block k (Qb hk) λe=>F.o.noBytes k C fz hk e.log
def Qji(w:G)(gd:Nat)(key:O)(es:Uc)(g:Nat)(w':G):Prop:=
 ∃ ve vl vs,Z2 w' g gd ve vl (.slice none 0 0) vs ⟨key,es,levels es,[],false⟩/\w.heap.size<=g/\∀ k,LogS g ve vl (.slice none 0 0) vs k->w.heap.size<=k
def Q5e(w:G)(gd:Nat)(v:J)(d:Dk)(key:O)(f:Nat->Addr)(B:Nat)(e:Ua)(w':G):Prop:=
 ∃ d',Q5 w' gd v d'/\Fr (·=gd) w w'/\
  ((∃ q m r p,Hurt B d d'/\e=.returned (.tuple #[.pointer none,.iface 219 (.pointer (some ⟨r,0,none⟩))])/\w.heap.size<=q/\w.heap.size<=r/\w'.heap[q]?=some (.cells #[.int .i64 m] 398 (0,0))/\
    w'.heap[r]?=some (.cells #[.string p,.iface 218 (.pointer (some ⟨q,0,none⟩))] 221 (0,0)))∨
     (Calm B d d'/\Yu d.files key (.bad 3 ⟨#[]⟩)/\e=.returned (.tuple #[.pointer none,.iface 370 (.pointer (some (f 2)))]))∨
     (Calm B d d'/\Yu d.files key (.bad 5 ⟨#[]⟩)/\e=.returned (.tuple #[.pointer none,.iface 370 (.pointer (some (f 4)))]))∨
     (∃ p r,Calm B d d'/\Yu d.files key (.bad 6 p)/\e=.returned (.tuple #[.pointer none,.iface 219 (.pointer (some ⟨r,0,none⟩))])/\w.heap.size<=r/\
    w'.heap[r]?=some (.cells #[.string p,.iface 370 (.pointer (some (f 5)))] 221 (0,0)))∨
     (∃ es n g,Calm B d d'/\Yu d.files key (.good es n)/\e=.returned (.tuple #[.pointer (some ⟨g,0,none⟩),.nilIface])/\Qji w gd key es g w'))
theorem Zbp(w:G)(c:Nat)(key:O):Z2 (w.alloc (.cells #[.iface 50 (.pointer (some ⟨c,0,none⟩)),.string key,.slice none 0 0,.slice none 0 0,.slice none 0 0,.bool false] 237)) w.heap.size c (.slice none 0 0) (.slice none 0 0) (.slice none 0 0) [] ⟨key,[],[],[],false⟩ where
 cells:=zy w _
 ents:=⟨[],zv _ _ _ _,λj u l hu=>by simp at hu⟩
 rows:=zv _ _ _ _
 each:=λj v r hv=>by simp at hv
 apart:=λi j a b k ha=>by simp at ha
 puts:=zv _ _ _ _
theorem Qtq{k:Nat}(h:LogS g (.slice none 0 0) (.slice none 0 0) (.slice none 0 0) [] k):k=g:=by
 rcases h with h|h|h|h|⟨v,h,_⟩
 .exact h
 .simp[Value.ownBlock] at h
 .simp[Value.ownBlock] at h
 .simp[Value.ownBlock] at h
 simp at h
theorem Q9g(w:G)(x:J):(binOp .eql 234 (.iface 50 x) .nilIface).run prog w=.ok (.bool false) w:=by
 have h:∀ d:Nat,(Op.equalIn (d+1) 234 (.iface 50 x) .nilIface).run prog w=.ok false w:=λd=>by simp[Op.equalIn,ZV underlying234]
 simp only[binOp];simp[Op.equal,Op.maxDepth,h 9999]
variable {es1:Uc}
theorem Lkd.t{d e b c:J}{f:List J}{i:Dk}{a:Uc}(h:Lkd w g gd v ve d e f L b d1 es1 w1)(k:Lkd w1 g gd v b d e f { L with entries:=es1 } c i a w2):Lkd w g gd v ve d e f L c i a w2:=
 ⟨k.disk,k.log,Fr.sub h.fr k.fr (lks h.sub),h.sub.t k.sub h.fr.size⟩
theorem Qwx{B:Nat}{w':G}(h:Below B w w'):Below B w w'.drew:=h.drew
theorem Qej(h:Lkd w1 g gd v (.slice none 0 0) (.slice none 0 0) (.slice none 0 0) [] L ve d1 es1 w2)(b:g=w.heap.size)(a:Bz w w1):Fr (·=gd) w w2/\Sub w (·=gd) (λk=>k=gd∨LogS g ve (.slice none 0 0) (.slice none 0 0) [] k):=by
 refine⟨(Fr.ofBelow a:Fr (·=gd) w w1).step h.fr λi hi hk=>?_,λk hk=>?_⟩
 .rcases hk with hk|hk
  .exact hk
  have:=Qtq hk
  omega
 rcases hk with hk|hk
 .exact .inl hk
 rcases h.sub k hk with h1|h1
 .exact .inr (by have:=Qtq h1;omega)
 exact .inr (zi a.size h1)
theorem Q1u:levels [] = []:=by unfold levels;rw[show nLev ([]:Uc).length=0 by rw[nLev];rfl];rfl
def Zed(d:Dk)(w':G)(a:Y Addr)(n c:Nat):Prop:=(a=none/\getF d.files (sOf kCp)=none)∨∃ s b,a=some ⟨b,0,none⟩/\n=s.size/\getF d.files (sOf kCp)=some s/\Q7 w' (.slice (some ⟨b,0,none⟩) n c) s.data.toList
theorem Zds{d:Dk}(h:Q5 w g v d)(f:d.calls<1099511627776)(i:Z7 d=0):Calls prog 299 #[.pointer (some ⟨g,0,none⟩),.string (sOf kCp)] w λe w'=>∃ a n c,e=.returned (.tuple #[.slice a n c,.nilIface])/\Zed d w' a n c/\Q5 w' g v (Zu d)/\Fr (·=g) w w':=by
 cases hg:getF d.files (sOf kCp) with
 | none=>
  refine (Q0z h f i hg).m ?_;rintro e w'⟨rfl,h1,h2⟩;exact⟨none,0,0,rfl,.inl ⟨rfl,hg⟩,h1,h2⟩
 | some s=>
  refine (Qyy h f i hg).m ?_;rintro e w'⟨b,c,rfl,h0,h1,h2⟩;exact⟨some ⟨b,0,none⟩,s.size,c,rfl,.inr ⟨s,b,rfl,rfl,hg,h0.at⟩,h1,h2⟩
theorem Zdu(y:Hsh):Array.foldl (λ(cs:Array J) (x:J×Nat)=>cs.setIfInBounds (1+x.snd) x.fst) #[.int .i64 0,.int .u8 0,.int .u8 0,.int .u8 0,.int .u8 0,.int .u8 0,.int .u8 0,.int .u8 0,.int .u8 0] (h8 y).zipIdx 0 8=trC 0 y:=by rw[Qg5];simp
section
attribute [local go_sem] Zdu h8_0 h8_1 h8_2 h8_3 h8_4 h8_5 h8_6 h8_7 Qbu h8_size
theorem Q6z(f:Nat->Addr)(w:G)(I:Nat)(v:J)(d:Dk)(key:O)(hD:Q5 w I v d)(N:Nat)(hE:Qbj f (·=I) w)(hN:FewB d.files N)(eu:N<=262144)(hc:d.calls<900000000000)(c9:∀ b∈d.files,b.2.size<=1048576)(dn:key.size<=9223372036854775807):Calls prog 119 #[.iface 50 (.pointer (some ⟨I,0,none⟩)),.string key] w (Q5e w I v d key f (8*N+16)):=by
 obtain⟨HE,HN,HZ⟩:=zh3 hE hN c9;have ex:=hD.lt;have e0:=Q9g w (.pointer (some ⟨I,0,none⟩));obtain⟨g,ab⟩:=zzx w.heap.size
 obtain⟨w1,V⟩:=zzx (w.alloc (.cells #[.iface 50 (.pointer (some ⟨I,0,none⟩)),.string key,.slice none 0 0,.slice none 0 0,.slice none 0 0,.bool false] 237))
 have a9:Bz w w1:=by rw[V];exact Qa _ _
 have cm:Lkd w1 g I v (.slice none 0 0) (.slice none 0 0) (.slice none 0 0) [] ⟨key,[],[],[],false⟩ (.slice none 0 0) d [] w1:=
  ⟨hD.j a9,by rw[V,ab];exact Zbp w I key,Fr.refl _ _,Sub.refl _ _⟩
 obtain⟨a3,er,B,C⟩:=zh4 cm V a9 ab;have ct:d.calls<1099511627776:=by omega
 clear hD hE hN c9 cm;rcases vg (Z7 d) with h0|h0
 .go_enter func119,ntmps119
  go_upto_region 4 with fail
  rw[<-V,<-ab];clear V ab a9
  go_upto_region 8 with (first|go_at_call 299;refine (Zds a3.o.disk ct h0).m ?_;rintro e w2⟨a,n,c,rfl,b9,ao,aa⟩;obtain⟨L,dh⟩:=zh2 (a3.o.look ao aa) b9;have ef:=Y2 w2;clear b9 ao aa|go_at_call 129;refine (Qmv _ [] _ ⟨[],rfl,⟨none,0,rfl,zg _,λj x hx=>by simp at hx⟩,λj u l hu _=>by simp at hu⟩ (by simp) (by simp)).m ?_;rintro e w3⟨rfl,U⟩;obtain⟨a4,S⟩:=zh2 (L.o.j U) U;clear U|refine Z8 rfl _ _ rfl w3.heap.size 0 (hash []) rfl rfl 0 Zb (zy w3 _) ?_)
  obtain⟨w4,bh⟩:=zzx ((w3.alloc (.cells #[.int .i64 0,.int .u8 0,.int .u8 0,.int .u8 0,.int .u8 0,.int .u8 0,.int .u8 0,.int .u8 0,.int .u8 0] 145)).setRow w3.heap.size (trC 0 (hash [])))
  obtain⟨g9,bb⟩:=zzx w3.heap.size
  rw[<-bh,<-bb];have bx:Bz w3 w4:=by rw[bh];exact zC (Qa _ _) (zg _) _
  have da:Qcl w4 g9 0 (hash []):=by rw[bh,bb];exact Qcl.set (show Qcl (w3.alloc (.cells (trC 0 Zb) 145)) w3.heap.size 0 Zb from zy w3 _) 0 (hash [])
  obtain⟨ch,a5,dr⟩:=zh3 (a4.o.j bx) da bx;have e1:=Qkw w4 a n c;obtain⟨K,bo⟩:=zh2 (Qlx h0) bb;clear bh bb bx da;simp only[Act.put]
  go_upto_if 35 with fail
  go_cut [] from 36 to 45 (λwx=>∃ (n:Nat) (root:Hsh),Aside (Y4 d.files key=some (n,root))/\n<9223372036854775808/\Aside (Qcl wx g9 n root)/\Aside (Lkd w1 g I v (.slice none 0 0) (.slice none 0 0) (.slice none 0 0) [] ⟨key,[],[],[],false⟩ (.slice none 0 0) (Zu d) [] wx))
  case first=>
   rcases dh.o with⟨rfl,P⟩|⟨s,b,rfl,rfl,P,cq⟩
   .have HG:=zh P
    clear P
    go_wp2
    go_meet;exact⟨0,hash [],by show Y4 _ _=_;unfold Y4;rw[HG.o],by decide,a5.o,ch.o⟩
   have dq:s.size<=1048576:=HZ.o _ (Jw P);have eb:w2.heap.size<=w3.heap.size:=S.o.size;have B24:=S.o.t (dr.o.m S.o.size);have ev:Sem.run prog (convert 147 9 (.slice (some ⟨b,0,none⟩) s.size c)) w4=.ok (.string s) w4:=by have h1:=Qdq (cq.j B24);rw[show (ByteArray.mk s.data.toList.toArray)=s from J9 s] at h1;exact h1
   have y:=Qej (w:=w) ch.o C.o B.o;have ax:=Qmf s key w4 dq dn (HE.o.step y.1 y.2).num;obtain⟨q,hq⟩:=zzx (Zy s.data.toList key.data.toList)
   rw[<-hq] at ax;have a0:=Qbl s.data.toList key.data.toList;rw[<-hq] at a0;have c7:Y4 d.files key=if q.2.2=true then some (q.1.toNat,q.2.1) else none:=by unfold Y4;rw[P,hq]
   obtain⟨qn,qh,qb⟩:=q;obtain⟨E,dj,Z⟩:=zh3 B24 a0 c7;have b6:w2.heap.size<=g9:=by have:=bo.o;omega
   have ac:=zh b6;clear P cq y hq a0 c7 B24 b6 eb;cases qb with
   | false=>
    go_wp2_with (first|go_at_call 137;refine ax.m ?_;rintro e w5⟨rfl,am⟩;have Q:=zh am;clear am|refine Z8 rfl _ _ rfl g9 qn qh rfl rfl 0 (hash []) (a5.o.j Q.o) ?_;have s2:=(HE.o.step (Qej (w:=w) (L.o.j (zC (E.o.t (Q.o.m E.o.size)) ac.o (trC qn qh))) C.o B.o).1 (Qej (w:=w) (L.o.j (zC (E.o.t (Q.o.m E.o.size)) ac.o (trC qn qh))) C.o B.o).2).sents.cells.2.2.1;have b2:=Qj s2)
    go_region
    all_goals (
     go_wp2
     go_ret2
     have ak:=L.o.j (Qwx (zC (E.o.t (Q.o.m E.o.size)) ac.o (trC qn qh)))
     exact⟨Zu d,ak.disk,(Qej (w:=w) ak C.o B.o).1,.inr (.inl ⟨K.o.more (by omega),.checkpoint Z.o,rfl⟩)⟩)
   | true=>
    go_wp2_with (first|go_at_call 137;refine ax.m ?_;rintro e w5⟨rfl,am⟩;have Q:=zh am;clear am|refine Z8 rfl _ _ rfl g9 qn qh rfl rfl 0 (hash []) (a5.o.j Q.o) ?_)
    go_meet;obtain⟨p1,p2,_⟩:=dj.o.1 rfl;have ei:qn=(qn.toNat:Int):=by omega
    refine⟨qn.toNat,qh,?_,by omega,?_,?_⟩
    .show Y4 _ _=_
     rw[Z.o];rfl
    .rw[<-ei]
     exact Qcl.set (a5.o.j Q.o) qn qh
    exact L.o.j (zC (E.o.t (Q.o.m E.o.size)) ac.o _)
  case rest=>
   obtain⟨n0,root,Z,ee,ci,R⟩:=hcut;have e2:=ci.o.cells.1;have y:=Qej (w:=w) R.o C.o B.o;have c5:=Q8o f wc g I v (.slice none 0 0) (.slice none 0 0) (.slice none 0 0) [] (Zu d) ⟨key,[],[],[],false⟩ R.o.log R.o.disk n0 N (HE.o.step y.1 y.2) rfl ee (by rw[K.o.files];exact HN.o) (by omega) (by have:=K.o.calls;omega) (by rw[K.o.files];exact HZ.o);have bq:=zh c5;clear y c5
   go_wp2_with fail
   refine bq.o.m ?_;rintro e w6 (⟨db,d6,A,i6,q,m,r,M,c0,rfl,hq,hr,aq,H⟩|⟨db,d6,A,i6,r,M,an,au,rfl,hr,H⟩|⟨db,d6,A,M,an,au,rfl⟩)
   .have F:=zh (R.o.t M)
    obtain⟨d0,HQ,HR⟩:=zh3 (K.o.hurt c0) aq H;have c6:=Qam w6 219 (.pointer (some ⟨r,0,none⟩));have W:w.heap.size<=wc.heap.size:=(Qej (w:=w) R.o C.o B.o).1.size;clear M c0 aq H
    go_wp2
    go_ret2;exact⟨d6,F.o.disk,(Qej (w:=w) F.o C.o B.o).1,.inl ⟨q,m,r,_,d0.o.more (by omega),rfl,zi W hq,zi W hr,HQ.o,HR.o⟩⟩
   .have F:=zh (R.o.t M)
    obtain⟨a2,aj,HR⟩:=zh3 (K.o.t an) au H;have c6:=Qam w6 219 (.pointer (some ⟨r,0,none⟩));have W:w.heap.size<=wc.heap.size:=(Qej (w:=w) R.o C.o B.o).1.size;clear M an au H
    go_wp2
    go_ret2;refine⟨d6,F.o.disk,(Qej (w:=w) F.o C.o B.o).1,.inr (.inr (.inr (.inl ⟨_,r,a2.o.more (by omega),.tile (d:=A) Z.o ?_,rfl,zi W hr,HR.o⟩)))⟩
    have:=aj.o
    rw[K.o.files] at this;exact this
   obtain⟨F,a2⟩:=zh2 (R.o.t M) (K.o.t an);have aj:=zh (show Qct d.files n0 ((n0+3) / 4) 0 []=(A,none) by rw[<-K.o.files];exact au);have c6:=Y2 w6;have bt:=zh (show Qcl w6 g9 n0 root from M.fr.heap ci.o λhk=>by
    rcases hk with hk|hk
    .have:=L.o.disk.lt;have:=bo.o;have:=S.o.size;omega
    have:=Qtq hk;have h2:=Qb L.o.log.cells;have:=bo.o;have:=S.o.size;omega)
   clear M an au;have cv:=F.o.log.heads;have d9:=cv.1.2.2.1;obtain⟨e3,be,_⟩:=F.o.log.ents;obtain⟨a6,ea,rfl⟩:=Zo be;clear be cv;obtain⟨_,k1,k2,k3,k4,k5,k6,k7,k8⟩:=bt.o.cells;have bg:Qbt d.files A:=by have h1:=Qbt.load (l:=d.files) (n:=n0) ((n0+3) / 4) 0 [] (Qbt.nil _) (by simp) (by omega);rw[aj.o] at h1;exact h1
   have dm:=bg.few HN.o;have cx:A.length<=1048576:=by omega
   have b5:∀ e∈A,e.length<=9223372036854775807:=λe he=>by have:=bg.short e he;omega
   obtain⟨cj,dv,dg,ds⟩:=zh4 bg cx b5 (F.o.log.ents.at);have ew:=Qb F.o.log.cells;have ep:=Qb bt.o;clear bg dm cx b5;obtain⟨cr,cu⟩:=zzx (some (rootOf A) == some root)
   have bm:=zh cu;clear cu
   go_upto_region 16 with fail
   go_cut [60] from 53 to 60 (λs60 wx=>s60=.bool (!cr)/\Aside (Lkd w1 g I v (.slice none 0 0) (.slice none 0 0) (.slice none 0 0) [] ⟨key,[],[],[],false⟩ (.slice a6 A.length ea) d6 A wx))
   case first=>
    go_region_law (go_simp;go_at_call 98;refine (Qli _ A _ (ds.o.j (Ql w6)) dv.o dg.o).m ?_;rintro e w7⟨rfl,bz⟩;have eh:=eqn w7 (rootOf A) root;rw[<-bm.o] at eh;have af:=zh ((F.o.j (Ql w6)).j bz);have ⟨_,j1,j2,j3,j4,j5,j6,j7,j8⟩:=((bt.o.j (Ql w6)).j bz).cells;clear bz)
    all_goals (
     go_wp2
     go_meet
     exact⟨rfl,af.o⟩)
   case rest=>
    obtain⟨rfl,af⟩:=hcut;clear k1 k2 k3 k4 k5 k6 k7 k8 d9;cases cr with
    | false=>
     have ca:rootOf A≠root:=λe=>by have:=bm.o;rw[e] at this;simp at this
     have y:=Qej (w:=w) af.o C.o B.o;have s4:=(HE.o.step y.1 y.2).sents.cells.2.2.2.2.1;have b4:=Qj s4;have di:=zh ca;clear ca y
     go_wp2_with fail
     go_region
     all_goals (
      go_wp2
      go_ret2
      have ak:=af.o.j (Ql wc)
      exact⟨d6,ak.disk,(Qej (w:=w) ak C.o B.o).1,.inr (.inr (.inl ⟨a2.o.more (by omega),.proof Z.o aj.o di.o,rfl⟩))⟩)
    | true=>
     have b3:rootOf A=root:=by have:=bm.o;simpa using this.symm
     have df:=zh b3;clear b3
     go_wp2_with fail
     go_loopg [] (N+2) (λgg wr=>∃ cb d1 z,Aside (Lkd w1 g I v (.slice none 0 0) (.slice none 0 0) (.slice none 0 0) [] ⟨key,[],[],[],false⟩ cb d1 z wr)/\Aside (Calm (N+2+4*(z.length / 4)) d d1)/\Aside (∀ r,Goes d.files z r->Goes d.files A r)/\Aside (Qbt d.files z)/\N+1-z.length / 4<=gg)
     case atStart=>exact⟨_,d6,A,af.o,a2.o.more (by omega),λr h=>h,cj.o,by omega⟩
     case round=>
      obtain⟨cb,d1,z,ag,X,cg,a7,ey⟩:=hrel;have ba:=a7.o.few HN.o;have y:=Qej (w:=w) ag.o C.o B.o;obtain⟨bw,b1⟩:=zzx ((Zx d.files z).2)
      have ap:=Qxn f wr g I v cb (.slice none 0 0) (.slice none 0 0) [] d1 ⟨key,z,[],[],false⟩ ag.o.log ag.o.disk (HE.o.step y.1 y.2) (by rw[X.o.files];exact a7.o) (by show z.length<_;omega) (by have:=X.o.calls;omega) (by rw[X.o.files];exact HZ.o);unfold Q7u at ap;rw[X.o.files] at ap;simp only[<-b1] at ap;obtain⟨dx,bl,av⟩:=zh3 ap b1 ba;have W:w.heap.size<=wr.heap.size:=y.1.size;clear ap b1 ba y
      go_wp2_with fail
      refine dx.o.m ?_;rintro e w8 (⟨d8,q,m,r,p,ar,c1,rfl,hq,hr,aq,H⟩|⟨dc,d8,ar,cs,rfl⟩)
      .have ah:=zh (ag.o.t ar)
       obtain⟨d2,HQ,HR⟩:=zh3 (X.o.hurt c1) aq H;have eg:=Qam w8 219 (.pointer (some ⟨r,0,none⟩));clear ar c1 aq H
       go_wp2
       go_ret2;exact⟨d8,ah.o.disk,(Qej (w:=w) ah.o C.o B.o).1,.inl ⟨q,m,r,p,d2.o.more (by have:=av.o;omega),rfl,zi W hq,zi W hr,HQ.o,HR.o⟩⟩
      obtain⟨ah,ce⟩:=zh2 (ag.o.t ar) (X.o.t cs);have eg:=Y2 w8;clear ar cs;cases bw with
      | true=>
       go_wp2
       go_roundg (N+1-(z.length / 4+1))
       case measure=>have:=av.o;omega
       case rel=>
        have bd:(z++(Zx d.files z).1).length=4*(z.length / 4+1):=(a7.o.further 4 (by omega)).2 bl.o.symm;refine⟨dc,d8,z++(Zx d.files z).1,ah.o,ce.o.more (by omega),λr h=>cg.o r (.more bl.o.symm h),(a7.o.further 4 (by omega)).1,by omega⟩
      | false=>
       obtain⟨t,ay⟩:=zzx (z++(Zx d.files z).1)
       have bc:Lkd w1 g I v (.slice none 0 0) (.slice none 0 0) (.slice none 0 0) [] ⟨key,[],[],[],false⟩ dc d8 t w8:=by rw[ay];exact ah.o
       have b7:Goes d.files A t:=by rw[ay];exact cg.o _ (.stop bl.o.symm)
       have a1:Qbt d.files t:=cj.o.goes b7;have cc:=a1.few HN.o;have bd:t.length<=1048576:=by omega
       obtain⟨ai,dy,dk⟩:=zh3 bc b7 a1;have cw:=bc.log.heads;have ck:=cw.1.2.2.1;obtain⟨e4,ad,_⟩:=bc.log.ents;obtain⟨a8,T,rfl⟩:=Zo ad;obtain⟨D,az⟩:=zzx t.length
       have eo:w8.cell? ⟨g,2,none⟩=some (.slice a8 D T):=by rw[az];exact ck
       have bu:0<D->∃ b8,a8=some ⟨b8,0,none⟩:=by
        rcases ad.2 with⟨e,h0⟩|⟨b,cap,cur,e,_⟩
        .intro h
         have et:t.length=0:=h0;omega
        simp at e;exact λ_=>⟨b,e.1⟩
       obtain⟨de,aw⟩:=zh2 bu az;have en:D<=1048576:=by omega
       have du:=zh (ce.o.more (show N+2+4*(z.length / 4)+4<=8*N+16 by have:=av.o;omega));clear ay bc b7 a1 cc bd cw ad az bu ck
       go_wp2_with fail
       go_loopg [77,15] D (λgg s77 _ wr=>∃ i:Nat,i<=D/\D-i<=gg/\s77=.int .i64 i/\∃ bi bj,Aside (Z2 wr g I (.slice a8 t.length T) bi (.slice none 0 0) bj ⟨key,t,levels (t.take i),[],false⟩)/\Aside (Fr (LogS g (.slice a8 t.length T) (.slice none 0 0) (.slice none 0 0) []) w8 wr)/\
        Aside (Sub w8 (LogS g (.slice a8 t.length T) (.slice none 0 0) (.slice none 0 0) []) (LogS g (.slice a8 t.length T) bi (.slice none 0 0) bj))/\w8.heap.size<=wr.heap.size)
       case atStart=>
        refine⟨0,by omega,by omega,rfl,.slice none 0 0,[],?_,Fr.refl _ _,Sub.refl _ _,zg _⟩;show Z2 _ _ _ _ _ _ _ _;rw[xZ,Q1u];exact ai.o.log
       case round=>
        obtain⟨i,hi,ez,rfl,bi,bj,bp,bn,br,eq⟩:=hrel;by_cases hlt:i<D
        .have dp:(i:Int)<(D:Int):=by omega
         obtain⟨b8,rfl⟩:=de.o (by omega);obtain⟨dd,ae,cn⟩:=bp.o.ents;have c2:i<t.length:=by have:=aw.o;omega
         have ej:dd.length=t.length:=by simpa using ae.1
         obtain⟨u,hu⟩:∃ u,dd[i]?=some u:=⟨_,ze (by omega)⟩
         obtain⟨x,hx⟩:∃ x,t[i]?=some x:=⟨_,ze c2⟩
         have k1:wr.cell? ⟨b8,i,none⟩=some u:=by have h1:=ae.cells (g:=b8) rfl i u hu;rw[ZX] at h1;simpa using h1
         have cp:=(cn i u x hu hx).at;have ek:x.length<=9223372036854775807:=by have:=dk.o.short x (zr hx);omega
         have bf:t.take (i+1)=t.take i ++ [x]:=by rw[zY,hx];rfl
         have co:=Qu0 (es:=t.take i) (by rw[zm];have:=aw.o;omega);obtain⟨dt,d7,cd⟩:=zh3 cp bf co;clear ae cn c2 ej hu hx cp bf co
         go_wp2_with (first|go_at_call 151;refine (Qln u x _ dt.o ek).m ?_;rintro e w9⟨rfl,b0⟩;obtain⟨d4,bk⟩:=zh2 (bp.o.j b0) b0;clear b0|go_at_call 163;refine (Qzc w9 g I _ _ _ _ _ d4.o (Jz x) cd.o.1 cd.o.2).m ?_;rintro e e5⟨rfl,el,em,c4,cy,c8⟩;obtain⟨bq,cf,d5⟩:=zh3 c4 cy c8;clear c4 cy c8)
         go_roundg (D-(i+1))
         case measure=>omega
         case rel=>
          refine⟨i+1,by omega,by omega,by go_num,el,em,?_,Fr.sub (bn.o.t (Fr.ofBelow bk.o)) (cf.o.weak λ_ _ h=>h.log) br.o,br.o.t (Zax d5.o) (by have:=bk.o.size;omega),by have:=bk.o.size;have:=cf.o.size;omega⟩;have h1:=bq.o;rw[Qwf,<-d7.o] at h1;exact h1
        have dp:¬ (i:Int)<(D:Int):=by omega
        have c3:i=D:=by omega
        have d3:=zh c3;clear c3
        go_wp2
        go_ret2;have y:=Qej (w:=w) ai.o C.o B.o;have al:=ai.o.log.apartDisk ai.o.disk;have cz:∀ k,LogS g (.slice a8 t.length T) (.slice none 0 0) (.slice none 0 0) [] k->w.heap.size<=k:=λk hk=>by
         rcases y.2 k (.inr hk) with h1|h1
         .exact absurd (.inl h1) (al k hk)
         exact h1
        refine⟨d8,ai.o.disk.fr bn.o λk hk hS=>al k hS hk,y.1.step bn.o λk hk hS=>absurd (cz k hS) (by omega),.inr (.inr (.inr (.inr ⟨t,n0,g,du.o,.fine Z.o aj.o df.o dy.o,rfl,.slice a8 t.length T,bi,bj,?_,by have:=C.o;omega,λk hk=>?_⟩)))⟩
        .have h1:=bp.o
         rw[zk (by have:=aw.o;have:=d3.o;omega)] at h1;exact h1
        rcases br.o k hk with h1|h1
        .exact cz k h1
        exact zi y.1.size h1
 have dz:=zh (Qmx h0)
 go_enter func119,ntmps119
 go_upto_region 4 with fail
 rw[<-V,<-ab];clear V ab a9
 go_wp2_with (first|go_at_call 299;refine (Q6k (p:=sOf kCp) a3.o.disk ct h0).m ?_;rintro e w2⟨q,m,rfl,hq,hh,ao,aa⟩;obtain⟨L,HQ,dw⟩:=zh3 (a3.o.look ao aa) hh aa;have ef:=Qam w2 218 (.pointer (some ⟨q,0,none⟩));clear hh ao aa|go_at_call 160;refine (Qrg _ _ _ _).m ?_;rintro e w3⟨u,rfl,⟨r,rfl,hr,H⟩,U⟩;obtain⟨HR,a4,S⟩:=zh3 H (L.o.j U) U;clear H U)
 go_ret2;have cl:=B.o.size;exact⟨Zu d,a4.o.disk,(Qej (w:=w) a4.o C.o B.o).1,.inl ⟨q,m,r,sOf kCp,dz.o.more (by omega),rfl,zi cl hq,zi cl (zi dw.o.size hr),(S.o.block _ (Qb HQ.o)).t HQ.o,HR.o⟩⟩
end
theorem Q0x:∀ (fs:List Fil) (d:Dk),(putsD d fs).1.calls<=d.calls+fs.length/\(putsD d fs).1.files.length<=d.files.length+fs.length
 | [],d=>⟨zg _,zg _⟩
 | f :: fs,d=>by
   have h:=Q5q d f.1 f.2
   have h2:=Q0x fs (putD d f.1 f.2)
   rw[putsD]
   split
   .simp only[zx];omega
   simp only[zx];omega
theorem Quv(t:Int)(a:Uc)(j:Nat)(d:Dk):(Qan t a j d).1.calls<=d.calls+(a.length+3) / 4/\(Qan t a j d).1.files.length<=d.files.length+(a.length+3) / 4:=by
 have h:=Q0x ((Jk t a).drop j) d;have hl:((Jk t a).drop j).length<=(a.length+3) / 4:=by rw[zM,Qcd];omega
 unfold Qan;simp only[];omega
def Qhv(f:Nat->Addr)(w:G)(g gd:Nat)(v ve vl vp:J)(vs:List J)(d:Dk)(L:Lg)(e:Ua)(w':G):Prop:=
 if L.failed=true then e=.returned (.tuple #[.int .i64 0,.iface 370 (.pointer (some (f 6)))])/\Bz w w'
 else ∃ v' vp' Q,Q=pubD L.entries L.key L.put d/\Q5 w' gd v' Q.1/\Z2 w' g gd ve vl vp' vs { L with put:=Q.2.1,failed:=Q.2.2.isSome }/\Fr (Qaf g gd v ve vl vp vs) w w'/\Sub w (Qaf g gd v ve vl vp vs) (Qaf g gd v' ve vl vp' vs)/\
  ((Q.2.2=none/\e=.returned (.tuple #[.int .i64 L.entries.length,.nilIface]))∨∃ p r u m,Q.2.2=some p/\e=.returned (.tuple #[.int .i64 0,.iface 219 (.pointer (some ⟨r,0,none⟩))])/\w.heap.size<=r/\w.heap.size<=u/\w'.heap[u]?=some (.cells #[.int .i64 m] 398 (0,0))/\
   w'.heap[r]?=some (.cells #[.string p,.iface 218 (.pointer (some ⟨u,0,none⟩))] 221 (0,0)))
structure Vars(w:G)(g pl:Nat)(n:Int)(ev:J):Prop where
 l:w.heap[pl]?=some (.cells #[.pointer (some ⟨g,0,none⟩)] 179 (0,0))
 n:w.heap[pl+1]?=some (.cells #[.int .i64 n] 3 (0,0))
 e:w.heap[pl+1+1]?=some (.cells #[ev] 135 (0,0))
variable {w':G} {pl:Nat} {n:Int} {ev:J}
theorem Vars.j(h:Vars w g pl n ev)(a:Bz w w'):Vars w' g pl n ev:=
 ⟨(a.block _ (Qb h.l)).t h.l,(a.block _ (Qb h.n)).t h.n,(a.block _ (Qb h.e)).t h.e⟩
theorem Vars.cells(h:Vars w g pl n ev):w.cell? ⟨pl,0,none⟩=some (.pointer (some ⟨g,0,none⟩))/\w.cell? ⟨pl+1,0,none⟩=some (.int .i64 n)/\w.cell? ⟨pl+1+1,0,none⟩=some ev/\
  w.frozen? ⟨pl+1,0,none⟩=false/\w.frozen? ⟨pl+1+1,0,none⟩=false:=⟨Qd h.l 0 rfl,Qd h.n 0 rfl,Qd h.e 0 rfl,Qu h.n 0,Qu h.e 0⟩
theorem Vars.err(h:Vars w g pl n ev)(x:J):Vars (w.setCell ⟨pl+1+1,0,none⟩ x) g pl n x:=
 ⟨J8 h.l (show pl≠pl+1+1 by omega) _,J8 h.n (show pl+1≠pl+1+1 by omega) _,(heap_setCell h.e _).t (by simp)⟩
theorem Vars.num(h:Vars w g pl n ev)(x:Int):Vars (w.setCell ⟨pl+1,0,none⟩ (.int .i64 x)) g pl x ev:=
 ⟨J8 h.l (show pl≠pl+1 by omega) _,(heap_setCell h.n _).t (by simp),J8 h.e (show pl+1+1≠pl+1 by omega) _⟩
def Zcc(w:G)(g gd:Nat)(v ve vl vp:J)(vs:List J)(L:Lg)(d:Dk)(pl k:Nat)(wx:G):Prop:=
 ∃ v1 vp1 d1 ps ev,Pk w (pl+3) g gd v ve vl vp vs L v1 vp1 d1 ps wx/\Vars wx g pl 0 ev/\Qe7 (Zc L.entries) ps/\d1.calls<=d.calls+k*1048576/\d1.files.length<=d.files.length+k*1048576/\
  ((ev=.nilIface/\pubJ 0 (Zc L.entries) L.put d=pubJ k ((Zc L.entries).drop k) ps d1)∨
     ∃ p r u m,ev=.iface 219 (.pointer (some ⟨r,0,none⟩))/\w.heap.size<=r/\w.heap.size<=u/\wx.heap[u]?=some (.cells #[.int .i64 m] 398 (0,0))/\
   wx.heap[r]?=some (.cells #[.string p,.iface 218 (.pointer (some ⟨u,0,none⟩))] 221 (0,0))/\pubJ 0 (Zc L.entries) L.put d=(d1,ps,some p))
variable {v1 vp1:J} {d:Dk} {ps:List Nat} {row:Uc} {t:Int}
theorem Qzq{A j:G}{u:J}(h:Pk w (pl+3) g gd v ve vl vp vs L v1 vp1 d1 ps A)(z:Vars A g pl 0 .nilIface)(M:Qe7 (Zc L.entries) ps)(K:(Zc L.entries)[k]?=some row)(W:row.length<=1048576)(B:pubJ 0 (Zc L.entries) L.put d=pubJ k ((Zc L.entries).drop k) ps d1)(N:t=(k:Int)-1)(P:Qpd A g gd v1 ve vl vp1 vs d1 { L with put:=ps } t k row (.returned u) j)(U:d1.calls<=d.calls+k*1048576)(V:d1.files.length<=d.files.length+k*1048576)(Q:pl=w.heap.size):Zcc w g gd v ve vl vp vs L d pl (k+1) (j.setCell ⟨pl+1+1,0,none⟩ u):=by
 obtain⟨p1,q,s,hq,v',vp',c,y⟩:=P;subst N;have F:=Quv ((k:Int)-1) row (p1.getD k 0 / 4) d1;have o:=Qpp ((k:Int)-1) row (p1.getD k 0 / 4) d1;rw[<-hq] at F o;have a:=Q65 K ps d1 s hq;have hP:=h.write c;have h1:=h.keeps c.fr (b:=pl) (by omega) (by omega) z.l;have h2:=h.keeps c.fr (b:=pl+1) (by omega) (by omega) z.n;have h3:=h.keeps c.fr (b:=pl+1+1) (by omega) (by omega) z.e;have f:=Fr.set1 j (pl+1+1) 0 u;have D:=hP.var (b:=pl+1+1) (by omega) (by omega) h3 (by decide) f;have E:Vars (j.setCell ⟨pl+1+1,0,none⟩ u) g pl 0 u:=Vars.err ⟨h1,h2,h3⟩ u;have C:Qe7 (Zc L.entries) (p1.set k q.2.1):=by rw[s];exact M.next K o
 refine⟨v',vp',q.1,p1.set k q.2.1,u,D,E,C,by omega,by omega,?_⟩;rcases y with⟨i,he⟩|⟨p,r,x,m,i,he,R,T,I,H⟩
 .left
  rw[i] at a;cases he;exact⟨rfl,by rw[B,a]⟩
 right;rw[i] at a;cases he;have S:=h.size;exact⟨p,r,x,m,rfl,by omega,by omega,f.heap I (by omega),f.heap H (by omega),by rw[B,a]⟩
theorem Zaa(w:G)(g:Nat):Vars (((w.alloc (.cells #[.pointer (some ⟨g,0,none⟩)] 179)).alloc (.cells #[.int .i64 0] 3)).alloc (.cells #[.nilIface] 135)) g w.heap.size 0 .nilIface:=by
 refine⟨?_,?_,?_⟩
 .rw[vW _ _ (by simp;omega),vW _ _ (by simp),zy]
 .rw[vW _ _ (by simp)]
  have:=zy (w.alloc (.cells #[.pointer (some ⟨g,0,none⟩)] 179)) (.cells #[.int .i64 0] 3)
  simpa using this
 have:=zy ((w.alloc (.cells #[.pointer (some ⟨g,0,none⟩)] 179)).alloc (.cells #[.int .i64 0] 3)) (.cells #[.nilIface] 135)
 simpa using this
variable {f:Nat->Addr} {W9:G} {r u:Nat} {m x:Int} {p:O}
theorem Q9r(y:Pk w (pl+3) g gd v ve vl vp vs L v1 vp1 d1 ps W9)(l:Vars W9 g pl x (.iface 219 (.pointer (some ⟨r,0,none⟩))))(C:pl=w.heap.size)(D:g<w.heap.size)(A:w.heap.size<=r)(B:w.heap.size<=u)(j:W9.heap[u]?=some (.cells #[.int .i64 m] 398 (0,0)))(i:W9.heap[r]?=some (.cells #[.string p,.iface 218 (.pointer (some ⟨u,0,none⟩))] 221 (0,0)))(t:L.failed=false)(z:pubD L.entries L.key L.put d=(d1,ps,some p)):Qhv f w g gd v ve vl vp vs d L (.returned (.tuple #[.int .i64 0,.iface 219 (.pointer (some ⟨r,0,none⟩))])) ((W9.setCell ⟨pl+1,0,none⟩ (.int .i64 0)).setCell ⟨g,5,none⟩ (.bool true))/\
   ((W9.setCell ⟨pl+1,0,none⟩ (.int .i64 0)).setCell ⟨g,5,none⟩ (.bool true)).cell? ⟨pl+1,0,none⟩=some (.int .i64 0)/\((W9.setCell ⟨pl+1,0,none⟩ (.int .i64 0)).setCell ⟨g,5,none⟩ (.bool true)).cell? ⟨pl+1+1,0,none⟩=some (.iface 219 (.pointer (some ⟨r,0,none⟩))):=by
 have c:=Fr.set1 W9 (pl+1) 0 (.int .i64 0);have a:=y.var (b:=pl+1) (by omega) (by omega) l.n (by decide) c;have s:=l.num 0;have hl:=a.log.fail true;have o:=hl.2;have h:Fr (Qaf g gd v1 ve vl vp1 vs) (W9.setCell ⟨pl+1,0,none⟩ (.int .i64 0)) ((W9.setCell ⟨pl+1,0,none⟩ (.int .i64 0)).setCell ⟨g,5,none⟩ (.bool true)):=o.weak λk _ hk=>.inr hk
 have hn:=a.keeps h (b:=pl+1) (by omega) (by omega) s.n;have he:=a.keeps h (b:=pl+1+1) (by omega) (by omega) s.e;refine⟨?_,Qd hn 0 rfl,Qd he 0 rfl⟩;unfold Qhv;rw[zw (by rw[t];decide)];have q:=Fr.set1 (W9.setCell ⟨pl+1,0,none⟩ (.int .i64 0)) g 5 (.bool true);have h1:=c.heap j λe=>by subst e;rw[l.n] at j;simp at j
 have h2:=c.heap i λe=>by subst e;rw[l.n] at i;simp at i
 refine⟨v1,vp1,(d1,ps,some p),z.symm,?_,hl.1,Fr.sub a.fr h a.subw,a.subw,.inr ⟨p,r,u,m,rfl,rfl,A,B,q.heap h1 (by omega),q.heap h2 (by omega)⟩⟩;exact a.disk.fr o λk hk hS=>a.log.apartDisk a.disk k hS hk
variable {T:Array J}
theorem Qib(a:Pk w (pl+3) g gd v ve vl vp vs L v1 vp1 d1 ps W9)(j:Vars W9 g pl x (.iface 219 (.pointer (some ⟨r,0,none⟩))))(o:pl=w.heap.size)(A:g<w.heap.size)(B:w.heap.size<=r)(C:w.heap.size<=u)(n:W9.heap[u]?=some (.cells #[.int .i64 m] 398 (0,0)))(l:W9.heap[r]?=some (.cells #[.string p,.iface 218 (.pointer (some ⟨u,0,none⟩))] 221 (0,0)))(k:L.failed=false)(z:pubD L.entries L.key L.put d=(d1,ps,some p))(h:T.getD 2 undef=.pointer (some ⟨pl+1,0,none⟩))(i:T.getD 3 undef=.pointer (some ⟨pl+1+1,0,none⟩)):bodyPostD prog f126 (Qhv f w g gd v ve vl vp vs d L) Exit.ret { tmps:=T,defers:=[{ target:=.fn (.func 166) #[.pointer (some ⟨pl+1+1,0,none⟩),.pointer (some ⟨pl+1,0,none⟩),.pointer (some ⟨pl,0,none⟩)],args:=#[] }] } W9:=by
 obtain⟨x1,x2,x3,y,_⟩:=j.cells;have xg:=a.log.heads.1.2.2.2.2.2;have xgf:=a.log.heads.2 5;obtain⟨q,s,t⟩:=Q9r (f:=f) a j o A B C n l k z;refine XV (f:=166) (args:=#[.pointer (some ⟨pl+1+1,0,none⟩),.pointer (some ⟨pl+1,0,none⟩),.pointer (some ⟨pl,0,none⟩)]) (by simp) (by simp[go_sem]) ?_;refine (Q87 (pl+1+1) (pl+1) pl g .returning W9 x3 x1 x2 ⟨_,rfl⟩ y xg xgf (by omega)).mono ?_;rintro e u' w''⟨rfl,rfl,rfl⟩;simp only[Leaves,settle];refine⟨.tuple #[.int .i64 0,.iface 219 (.pointer (some ⟨r,0,none⟩))],?_,q⟩;have b:T[2]?.getD undef=.pointer (some ⟨pl+1,0,none⟩):=by simpa [ZK] using h
 have c:T[3]?.getD undef=.pointer (some ⟨pl+1+1,0,none⟩):=by simpa [ZK] using i
 simp[results,results126,go_sem,b,c,s,t]
theorem Qs5(a:Pk w (pl+3) g gd v ve vl vp vs L v1 vp1 d1 ps W9)(l:Vars W9 g pl (L.entries.length:Int) .nilIface)(b:L.failed=false)(k:pubD L.entries L.key L.put d=(d1,ps,none))(i:T.getD 2 undef=.pointer (some ⟨pl+1,0,none⟩))(j:T.getD 3 undef=.pointer (some ⟨pl+1+1,0,none⟩)):bodyPostD prog f126 (Qhv f w g gd v ve vl vp vs d L) Exit.ret { tmps:=T,defers:=[{ target:=.fn (.func 166) #[.pointer (some ⟨pl+1+1,0,none⟩),.pointer (some ⟨pl+1,0,none⟩),.pointer (some ⟨pl,0,none⟩)],args:=#[] }] } W9:=by
 obtain⟨x1,x2,x3,_,_⟩:=l.cells;refine XV (f:=166) (args:=#[.pointer (some ⟨pl+1+1,0,none⟩),.pointer (some ⟨pl+1,0,none⟩),.pointer (some ⟨pl,0,none⟩)]) (by simp) (by simp[go_sem]) ?_;refine (Zam (pl+1+1) (pl+1) pl .returning W9 x3).mono ?_;rintro e u' w''⟨rfl,rfl,rfl⟩;simp only[Leaves,settle];refine⟨.tuple #[.int .i64 L.entries.length,.nilIface],?_,?_⟩
 .have c:T[2]?.getD undef=.pointer (some ⟨pl+1,0,none⟩):=by simpa [ZK] using i
  have h:T[3]?.getD undef=.pointer (some ⟨pl+1+1,0,none⟩):=by simpa [ZK] using j
  simp[results,results126,go_sem,c,h,x2,x3]
 unfold Qhv;rw[zw (by rw[b];decide)];have hl:=a.log;refine⟨v1,vp1,(d1,ps,none),k.symm,a.disk,?_,a.fr,a.subw,.inl ⟨rfl,rfl⟩⟩;have e:({ L with put:=ps,failed:=false }:Lg)={ L with put:=ps }:=by rw[<-b]
 show Z2 _ _ _ _ _ _ _ { L with put:=ps,failed:=false };rw[e];exact hl
theorem Q0r{a b:Nat}(h:a<=b+(k+1)*1048576)(c:b<900000000000)(d:k<=12):a<1000000000000:=by omega
theorem Zbv(n:Int)(y:Hsh):Array.foldl (λ(cs:Array J) (x:J×Nat)=>cs.setIfInBounds (1+x.snd) x.fst) #[.int .i64 n,.int .u8 0,.int .u8 0,.int .u8 0,.int .u8 0,.int .u8 0,.int .u8 0,.int .u8 0,.int .u8 0] (h8 y).zipIdx 0 8=trC n y:=by rw[Qg5];simp
theorem Q6r(w:G)(g:Nat)(n:Int)(k:Hsh):Fr (·=g) w (((((((((w.setCell ⟨g,0,none⟩ (.int .i64 n)).setCell ⟨g,1,none⟩ (u8 k[0])).setCell ⟨g,2,none⟩ (u8 k[1])).setCell ⟨g,3,none⟩ (u8 k[2])).setCell ⟨g,4,none⟩ (u8 k[3])).setCell ⟨g,5,none⟩ (u8 k[4])).setCell ⟨g,6,none⟩ (u8 k[5])).setCell ⟨g,7,none⟩ (u8 k[6])).setCell ⟨g,8,none⟩ (u8 k[7])):=(((((((((Fr.set1 w g 0 (.int .i64 n)).set 1 (u8 k[0])).set 2 (u8 k[1])).set 3 (u8 k[2])).set 4 (u8 k[3])).set 5 (u8 k[4])).set 6 (u8 k[5])).set 7 (u8 k[6])).set 8 (u8 k[7]))
theorem Q6n(h:Qcl w g 0 Zb)(n:Int)(k:Hsh):Qcl (((((((((w.setCell ⟨g,0,none⟩ (.int .i64 n)).setCell ⟨g,1,none⟩ (u8 k[0])).setCell ⟨g,2,none⟩ (u8 k[1])).setCell ⟨g,3,none⟩ (u8 k[2])).setCell ⟨g,4,none⟩ (u8 k[3])).setCell ⟨g,5,none⟩ (u8 k[4])).setCell ⟨g,6,none⟩ (u8 k[5])).setCell ⟨g,7,none⟩ (u8 k[6])).setCell ⟨g,8,none⟩ (u8 k[7])) g n k:=
 (heap_setCell (i:=8) (heap_setCell (i:=7) (heap_setCell (i:=6) (heap_setCell (i:=5) (heap_setCell (i:=4) (heap_setCell (i:=3) (heap_setCell (i:=2) (heap_setCell (i:=1) (heap_setCell (i:=0) h (.int .i64 n)) (u8 k[0])) (u8 k[1])) (u8 k[2])) (u8 k[3])) (u8 k[4])) (u8 k[5])) (u8 k[6])) (u8 k[7])).t (by simp[trC,bv])
theorem Zdd(w:G)(s:O):∃ b c w',Sem.run prog (convert 9 147 (.string s)) w=.ok (.slice (some ⟨b,0,none⟩) s.size c) w'/\Q3 w' w.heap.size (.slice (some ⟨b,0,none⟩) s.size c) s.data.toList/\Bz w w':=by
 have hr:=Vp (P:=prog) w 9 147 5 s underlying9 underlying147 underlying5;refine⟨_,_,_,hr,?_,?_⟩
 .refine .inr ⟨w.heap.size,0,grownCap w s.size 0 5,Lib.bytesCells w 5 s,_,by simp,by have:=grownCap_ge w s.size 0 5;simpa using this,zg _,Lib.bytesWorld_at_new w _ s,λj y hy=>?_,?_,.inr (zg _)⟩
  .have hj:j<s.size:=by
    have:=(zj.1 hy).1
    simpa using this
   have h2:s.data[j]?=some y:=by simpa using hy
   have h3:s.data[j]=y:=by rw[XE hj,ZM] at h2;exact h2
   simp[Lib.bytesCells,X9,hj,h3]
  simp[Lib.bytesCells]
 exact⟨by simp[Lib.bytesWorld,World.freeze,World.alloc,World.drew,-World.alloc_eq,-World.drew_eq],by simp[Lib.bytesWorld,World.freeze,World.alloc,World.drew,-World.alloc_eq,-World.drew_eq],by simp[Lib.bytesWorld,World.freeze,World.alloc,World.drew,-World.alloc_eq,-World.drew_eq],by rw[xB];omega,λk hk=>Xa w 5 s k hk⟩
theorem Q8r(w:G):(binOp .eql 135 .nilIface .nilIface).run prog w=.ok (.bool true) w:=by
 have h:∀ d:Nat,(Op.equalIn (d+1) 135 .nilIface .nilIface).run prog w=.ok true w:=λd=>by simp[Op.equalIn,ZV underlying135]
 simp only[binOp];simp[Op.equal,Op.maxDepth,h 9999]
theorem Qk9{n:Nat}{e:Ua}(h:Qpd w g gd v ve vl vp vs d L t n row e w'):∃ u,e=.returned u/\(u=.nilIface∨∃ t x,u=.iface t x):=by
 obtain⟨_,_,_,_,_,_,_,h⟩:=h;rcases h with⟨_,rfl⟩|⟨_,_,_,_,_,rfl,_⟩
 .exact⟨_,rfl,.inl rfl⟩
 exact⟨_,rfl,.inr ⟨_,_,rfl⟩⟩
def Zdh:Op:=.convert 9 147 (.tmp 71)
theorem Q8f:Op.convert 9 147 (.tmp 71)=Zdh:=rfl
section
attribute [local go_sem] Zdh Zbv h8_0 h8_1 h8_2 h8_3 h8_4 h8_5 h8_6 h8_7 Qbu h8_size
theorem Qyr(f:Nat->Addr)(w:G)(g A:Nat)(v ve I X:J)(H:List J)(d:Dk)(L:Lg)(h:Z2 w g A ve I X H L)(hD:Q5 w A v d)(hE:Qbj f (Qaf g A v ve I X H) w)(dl:L.levels=levels L.entries)(Z:L.entries.length<=1048576)(hs:∀ e∈L.entries,e.length<=20)(hm:Qe7 (Zc L.entries) L.put)(hc:d.calls<900000000000)(dh:d.files.length<900000000000)(d4:L.key.size<=9223372036854775807):Calls prog 126 #[.pointer (some ⟨g,0,none⟩)] w (Qhv f w g A v ve I X H d L):=by
 have fp:∀ (fn:Fn) (first cap:Array J) (w:G),(Instr.makeFunc fn first cap).run prog w=.ok (.func fn first cap) w:=λ_ _ _ _=>rfl
 have hg:=Qb h.cells;obtain⟨_,_,_,_,_,_,s6⟩:=hE.sents.cells;have b6:=Qj s6;obtain⟨⟨_,_,_,_,_,c5⟩,f0⟩:=h.heads;obtain⟨W0,ab⟩:=zzx (((w.alloc (.cells #[.pointer (some ⟨g,0,none⟩)] 179)).alloc (.cells #[.int .i64 0] 3)).alloc (.cells #[.nilIface] 135))
 have P:Bz w W0:=by rw[ab];exact ((Qa w _).alloc (by simp) _).alloc (by simp;omega) _
 have R:Vars W0 g w.heap.size 0 .nilIface:=by rw[ab];exact Zaa w g
 have ba:Pk w W0.heap.size g A v ve I X H L v X d L.put W0:=⟨hD.j P,h.j P,Fr.ofBelow P,λk hk=>.inl hk,λk hk=>Qn1 h hD hk,zg _,P.size⟩
 obtain⟨pl,ao⟩:=zzx w.heap.size
 have ay:W0.heap.size=w.heap.size+3:=by rw[ab];simp
 have ew:=ba.log.heads;obtain⟨⟨_,_,_,_,_,a1⟩,_⟩:=ew;have fl:g<W0.heap.size:=by omega
 have s60:=(P.cell (p:=⟨5,0,none⟩) b6).t s6;have fh:=Qj s60;have fi:5<pl:=by rw[ao];exact b6
 obtain⟨k1,k2,k3,du,dv⟩:=R.cells;obtain⟨dc,s,em,ec,bi⟩:=zh5 ab ao ay P dh;have D:=Qb R.l;have cg:=Qb R.n;have ch:=Qb R.e;rw[<-ao] at k1 k2 k3 du dv D cg ch R;cases hfd:L.failed with
 | true=>
  have bu:W0.cell? ⟨g,5,none⟩=some (.bool true):=by rw[<-hfd];exact a1
  clear h hD hE ab ao ay P ba a1 c5 s6 b6 f0
  go_enter_defers func126,ntmps126
  go_upto_region 1 with fail
  rw[<-dc.o,<-s.o];go_wp2;go_region
  all_goals (
   go_wp2
   have hV:=((R.num 0).err (.iface 370 (.pointer (some (f 6))))).j (Ql _)
   obtain⟨_,r2,r3,_,_⟩:=hV.cells
   have eu:Bz w ((W0.setCell ⟨pl+1,0,none⟩ (.int .i64 0)).setCell ⟨pl+1+1,0,none⟩ (.iface 370 (.pointer (some (f 6))))).drew:=by
    have hp:=s.o
    exact ((ec.o.setCell (by show _<=pl+1;omega) _).setCell (by show _<=pl+1+1;omega) _).drew
   simp only[bodyPostD,Leaves]
   refine⟨.tuple #[.int .i64 0,.iface 370 (.pointer (some (f 6)))],?_,?_⟩
   .simp[results,results126,go_sem,r2,r3]
   unfold Qhv
   rw[zD hfd]
   exact⟨rfl,eu⟩)
 | false=>
  have bu:W0.cell? ⟨g,5,none⟩=some (.bool false):=by rw[<-hfd];exact a1
  obtain⟨HE,bm,eq,c1,HS,HM,az⟩:=zh7 hE ba R dl hs hm hfd;clear h hD hE dl hs hm hfd ba R P ab ao ay a1 c5 s6 b6 f0 dh
  go_enter_defers func126,ntmps126
  go_upto_region 1 with fail
  rw[<-dc.o,<-s.o];obtain⟨vse,bc,_⟩:=bm.o.log.ents;obtain⟨ae,ce,rfl⟩:=Zo bc;have dd:=bm.o.log.heads.1.2.2.1;obtain⟨ln,Q⟩:=zzx L.entries.length
  have dy:W0.cell? ⟨g,2,none⟩=some (.slice ae ln ce):=by rw[Q];exact dd
  have bj:=zh Q;clear bc dd Q
  go_upto_region 4 with fail
  go_cut [] from 14 to 21 (λwx=>Aside (Zcc w g A v (.slice ae L.entries.length ce) I X H L d pl 1 wx))
  case first=>
   go_still_tail 7,(by kernel_rfl)
   change wpList _ _ _ _ _ W0.drew
   obtain⟨W1,z⟩:=zzx W0.drew
   rw[<-z];have N:Pk w (pl+3) g A v (.slice ae L.entries.length ce) I X H L v X d L.put W1:=by rw[z,show pl+3=W0.heap.size by rw[em.o,s.o]];exact bm.o.j (Ql _)
   have bx:Vars W1 g pl 0 .nilIface:=by rw[z];exact eq.o.j (Ql _)
   clear z;obtain⟨j1,j2,j3,fb,fc⟩:=bx.cells;have jc:=N.log.heads.1.2.2.1;have ac:(L.entries.map encE).length=L.entries.length:=by simp
   have W:=Qv8 f W1 g A v (.slice ae L.entries.length ce) I X H d { L with put:=L.put } N.log N.disk (HE.o.step N.fr N.subw) (-1) 0 (by decide) (by decide) (by show L.put.length<=_;have:=HM.o.1;rw[Qaj] at this;have:=Qbp Z;omega) (L.entries.map encE) (by rw[ac];exact Z)
    (λa ha=>HM.o.2 0 a _ ha (Qbe _)) (λx hx=>by obtain⟨e,he,rfl⟩:=zU.1 hx;have:=HS.o e he;simp only[encE,zx];omega) (by omega) (by have:=bi.o;omega)
    168 pl (zaj func168 (by kernel_rfl) rfl) (λw1 ar ps hl hfr j hj=>by
     rw[ac] at hj ⊢
     exact Zag w1 g A _ I ar H { L with put:=ps } hl pl (hfr.cell j1 (N.o (b:=pl) (by rw[s.o];exact zg _) (by omega))) j hj Z HS.o)
   rw[ac] at W;obtain⟨et,c3,c7⟩:=zh3 W N bx;clear W ac N bx
   go_wp2_with fail
   refine et.o.mono ?_;rintro e w5 F;obtain⟨u,rfl,hu⟩:=Qk9 F;have ai:=zh (Qzq (k:=0) c3.o c7.o HM.o (Qbe _) (by rw[zA];exact Z) rfl (by decide) F (by omega) (by omega) s.o);obtain⟨jz,e0⟩:∃ c,w5.cell? ⟨pl+1+1,0,none⟩=some c/\w5.frozen? ⟨pl+1+1,0,none⟩=false:=by obtain⟨_,_,_,_,_,_,cs,_⟩:=F;have h3:=c3.o.keeps cs.fr (b:=pl+1+1) (by rw[s.o];omega) (by omega) c7.o.e;exact⟨_,Qd h3 0 rfl,Qu h3 0⟩
   obtain⟨ct,fd⟩:=e0;clear F;rcases hu with rfl|⟨tu,xu,rfl⟩
   .go_wp2
    go_meet;exact ai.o
   go_wp2
   go_meet;exact ai.o
  case rest=>
   have br:=hcut;clear hcut k1 k2 k3 du dv bu s60 dy
   go_wp2_with fail
   go_loopg [4] (nLev L.entries.length+2) (λgg s4 wr=>∃ k:Nat,k<=nLev L.entries.length/\nLev L.entries.length+1-k<=gg/\s4=.int .i64 k/\Aside (Zcc w g A v (.slice ae L.entries.length ce) I X H L d pl (k+1) wr))
   case atStart=>exact⟨0,by omega,by omega,rfl,br⟩
   case round=>
    obtain⟨k,hk,fm,rfl,ai⟩:=hrel;obtain⟨v1,ar,d1,ps,ev,hP,hV,hM,b7,b9,d2⟩:=ai.o;obtain⟨HP,HV,bk⟩:=zh3 hP hV hM;obtain⟨j1,j2,j3,fb,fc⟩:=hV.cells;have fa:=hP.log.heads.1.2.2.2.1;have jg:=Qb hP.log.cells;obtain⟨al,cl,cr⟩:∃ al cl,I=.slice al L.levels.length cl:=Zo hP.log.rows;obtain⟨nl,a9⟩:=zzx L.levels.length
    have cd:nl=nLev L.entries.length:=by rw[a9,c1.o];simp[levels]
    rw[cr,<-a9] at fa;obtain⟨db,eg,y⟩:=zh3 cr a9 cd;have D:=Qb hV.l;have cg:=Qb hV.n;have ch:=Qb hV.e;clear hP hV hM cr a9 cd br ai;rcases d2 with⟨rfl,hJ⟩|⟨p,r,u,m,rfl,hr,hu,di,an,hJ⟩
    .have ez:=Q8r wr
     have HJ:=zh hJ;clear hJ;by_cases hlt:k<nl
     .have au:(k:Int)<(nl:Int):=by omega
      have dk:k<L.levels.length:=by have:=eg.o;omega
      have eb:H.length=L.levels.length:=by simpa using HP.o.log.rows.1
      obtain⟨r,hr⟩:∃ r,L.levels[k]?=some r:=⟨_,ze dk⟩
      obtain⟨vk,be⟩:∃ vk,H[k]?=some vk:=⟨_,ze (by omega)⟩
      have cf:=HP.o.log.each k vk r be hr;obtain⟨ak,ck,rfl⟩:=Zo cf;obtain⟨bl,rfl⟩:∃ bl,al=some ⟨bl,0,none⟩:=by
       rcases HP.o.log.rows.2 with⟨_,h0⟩|⟨b,cap,cur,e,_⟩
       .have fj:L.levels.length=0:=h0
        omega
       rw[db.o] at e;simp at e;exact⟨b,e.1⟩
      have jbl:wr.cell? ⟨bl,k,none⟩=some (.slice ak r.length ck):=by have ds:=HP.o.log.rows;rw[db.o] at ds;have h1:=ds.cells (g:=bl) rfl k _ be;rw[ZX] at h1;simpa using h1
      have cc:L.levels[k]?=some (Z4 L.entries k):=by rw[c1.o];unfold levels;rw[zN,xE (by have:=y.o;omega)];rfl
      have cm:r=Z4 L.entries k:=by rw[hr] at cc;exact zR cc
      obtain⟨row,af⟩:=zzx (r.map λ(x:Hsh)=>x.toList)
      have bd:row.length=r.length:=by rw[af];simp
      have dr:(Zc L.entries)[k+1]?=some row:=by rw[Qdd L.entries k (by have:=y.o;omega),af,cm]
      have cn:r.length<=1048576:=by rw[cm,Jr];have:=xm L.entries.length (4 ^ k);omega
      have fo:(0:Int)<=(k:Int):=by omega
      obtain⟨c4,bq,ah,ek,es⟩:=zh5 dr af bd hr be;clear dk eb hr be cf cc cm af bd dr
      go_wp2_with fail
      obtain⟨W2,a2⟩:=zzx (wr.alloc (.cells #[.slice ak r.length ck] 133))
      rw[<-a2];have b1:Bz wr W2:=by rw[a2];exact Qa _ _
      have dq:W2.heap[wr.heap.size]?=some (.cells #[.slice ak r.length ck] 133 (0,0)):=by rw[a2];exact zy _ _
      have T:=HP.o.j b1;have bz:=HV.o.j b1;have dj:k<=12:=by have:=Qbp Z;omega
      have bb:¬ Qaf g A v1 (.slice ae L.entries.length ce) I ar H wr.heap.size:=λhk'=>by
       have:=Qn1 HP.o.log HP.o.disk hk'
       omega
      have W:=Qv8 f W2 g A v1 (.slice ae L.entries.length ce) I ar H d1 { L with put:=ps } T.log T.disk (HE.o.step T.fr T.subw) (k:Int) (k+1) (by omega) (by omega) (by show ps.length<=_;have:=bk.o.1;rw[Qaj] at this;have:=Qbp Z;omega) row (by rw[ah.o];exact cn)
       (λa ha=>bk.o.2 (k+1) a row ha c4.o) (λx hx=>by rw[bq.o] at hx;obtain⟨e,he,rfl⟩:=zU.1 hx;simp) (Q0r b7 hc dj) (Q0r b9 (by have:=bi.o;exact this) dj)
       169 wr.heap.size (zaj func169 (by kernel_rfl) rfl) (λw1 vp1' ps' hl hfr j hj=>by
        have ey:w1.cell? ⟨wr.heap.size,0,none⟩=some (.slice ak r.length ck):=Qd (hfr.heap dq bb) 0 rfl
        have dp:=Q9f w1 wr.heap.size _ r ey (hl.each k _ r es.o ek.o) j (by rw[<-ah.o];exact hj) cn
        rw[<-bq.o,<-ah.o] at dp
        exact dp)
      rw[ah.o] at W;refine W.mono ?_;rintro e w5 F;obtain⟨u,rfl,hu⟩:=Qk9 F;have bt:=zh (Qzq (k:=k+1) T bz bk.o c4.o (by rw[ah.o];exact cn) HJ.o (by omega) F b7 b9 s.o);obtain⟨ct,fd⟩:(∃ c,w5.cell? ⟨pl+1+1,0,none⟩=some c)/\w5.frozen? ⟨pl+1+1,0,none⟩=false:=by obtain⟨_,_,_,_,_,_,cs,_⟩:=F;have h3:=T.keeps cs.fr (b:=pl+1+1) (by rw[s.o];omega) (by omega) bz.e;exact⟨⟨_,Qd h3 0 rfl⟩,Qu h3 0⟩
      obtain⟨fv,ct⟩:=ct;clear F W T bz dq a2 b1 bb;rcases hu with rfl|⟨tu,xu,rfl⟩
      .go_wp2
       go_roundg (nLev L.entries.length+1-(k+1))
       case measure=>have:=y.o;omega
       case rel=>exact⟨k+1,by have:=y.o;omega,by omega,by go_num,bt.o⟩
      go_wp2
      go_roundg (nLev L.entries.length+1-(k+1))
      case measure=>have:=y.o;omega
      case rel=>exact⟨k+1,by have:=y.o;omega,by omega,by go_num,bt.o⟩
     have au:¬ (k:Int)<(nl:Int):=by omega
     have ca:pubJ 0 (Zc L.entries) L.put d=(d1,ps,none):=by
      rw[HJ.o,Q8v];rw[Qaj]
      have:=y.o
      omega
     have bh:=zh ca;have fs:=Y2 wr;have dt:=HP.o.log.heads.1.2.2.1;have b2:=HP.o.log.ents.at;clear ca;obtain⟨ln,Q⟩:=zzx L.entries.length
     have fe:ln<=1048576:=by omega
     have ag:wr.cell? ⟨g,2,none⟩=some (.slice ae ln ce):=by rw[Q];exact dt
     have b3:Qdb wr (.slice ae ln ce) L.entries:=by rw[Q];exact b2
     obtain⟨cz,bj⟩:=zh2 b3 Q;have a5:∀ l∈L.entries,l.length<=9223372036854775807:=λl hl=>by have:=HS.o l hl;omega
     have cy:=zh a5;clear Q dt a5 b2 b3
     go_upto_region 12 with fail
     go_cut [6] from 51 to 61 (λs6 wx=>∃ q6,s6=.pointer (some ⟨q6,0,none⟩)/\Aside (Qcl wx q6 ln (rootOf L.entries))/\Aside (Bz wr wx)/\wr.heap.size<=q6)
     case first=>
      have d5:¬ pl=wr.heap.size:=by omega
      have e6:wr.drew.cell? ⟨pl,0,none⟩=some (.pointer (some ⟨g,0,none⟩)):=j1;have e7:wr.drew.cell? ⟨g,2,none⟩=some (.slice ae ln ce):=ag;have e8:(wr.alloc (.cells #[.int .i64 0,.int .u8 0,.int .u8 0,.int .u8 0,.int .u8 0,.int .u8 0,.int .u8 0,.int .u8 0,.int .u8 0] 145)).drew.cell? ⟨pl,0,none⟩=some (.pointer (some ⟨g,0,none⟩)):=((Qa wr _).cell (p:=⟨pl,0,none⟩) D).t j1;have e9:(wr.alloc (.cells #[.int .i64 0,.int .u8 0,.int .u8 0,.int .u8 0,.int .u8 0,.int .u8 0,.int .u8 0,.int .u8 0,.int .u8 0] 145)).drew.cell? ⟨g,2,none⟩=some (.slice ae ln ce):=((Qa wr _).cell (p:=⟨g,2,none⟩) jg).t ag;have d6:¬ g=wr.heap.size:=by omega
      go_region_held3 (λw'=>w'.cell? ⟨pl,0,none⟩=some (.pointer (some ⟨g,0,none⟩))/\w'.cell? ⟨g,2,none⟩=some (.slice ae ln ce)) (first|with_reducible exact⟨e6,e7⟩|with_reducible exact⟨m1,m2⟩|with_reducible exact⟨e8,e9⟩|with_reducible exact⟨dw,dx⟩|with_reducible exact⟨(Q6r w7 _ _ _).cell m1 d5,(Q6r w7 _ _ _).cell m2 d6⟩|exact⟨((Qa w7 _).cell (p:=⟨pl,0,none⟩) bf).t m1,((Qa w7 _).cell (p:=⟨g,2,none⟩) bg).t m2⟩) (first|go_at_call 98;refine (Qli _ L.entries _ (cz.o.j (Ql wr)) Z cy.o).mono ?_;rintro e w7⟨rfl,B⟩;have t:=zh (show Bz wr w7 from (Ql wr).t B);have m1:=(t.o.cell (p:=⟨pl,0,none⟩) D).t j1;have m2:=(t.o.cell (p:=⟨g,2,none⟩) jg).t ag;have bf:=zJ D t.o.size;have bg:=zJ jg t.o.size;have dw:(w7.alloc (.cells #[.int .i64 0,.int .u8 0,.int .u8 0,.int .u8 0,.int .u8 0,.int .u8 0,.int .u8 0,.int .u8 0,.int .u8 0] 145)).cell? ⟨pl,0,none⟩=some (.pointer (some ⟨g,0,none⟩)):=((Qa w7 _).cell (p:=⟨pl,0,none⟩) bf).t m1;have dx:(w7.alloc (.cells #[.int .i64 0,.int .u8 0,.int .u8 0,.int .u8 0,.int .u8 0,.int .u8 0,.int .u8 0,.int .u8 0,.int .u8 0] 145)).cell? ⟨g,2,none⟩=some (.slice ae ln ce):=((Qa w7 _).cell (p:=⟨g,2,none⟩) bg).t m2;clear B|go_at_call 98;refine (Qli _ L.entries _ ((cz.o.j (Ql wr)).j (Qa _ _)) Z cy.o).mono ?_;rintro e w7⟨rfl,B⟩;have t:=zh (show Bz wr w7 from ((Ql wr).alloc (zg _) _).t (B.mono (by simp)));have m1:=(t.o.cell (p:=⟨pl,0,none⟩) D).t j1;have m2:=(t.o.cell (p:=⟨g,2,none⟩) jg).t ag;have bf:=zJ D t.o.size;have bg:=zJ jg t.o.size;have dw:(w7.alloc (.cells #[.int .i64 0,.int .u8 0,.int .u8 0,.int .u8 0,.int .u8 0,.int .u8 0,.int .u8 0,.int .u8 0,.int .u8 0] 145)).cell? ⟨pl,0,none⟩=some (.pointer (some ⟨g,0,none⟩)):=((Qa w7 _).cell (p:=⟨pl,0,none⟩) bf).t m1;have dx:(w7.alloc (.cells #[.int .i64 0,.int .u8 0,.int .u8 0,.int .u8 0,.int .u8 0,.int .u8 0,.int .u8 0,.int .u8 0,.int .u8 0] 145)).cell? ⟨g,2,none⟩=some (.slice ae ln ce):=((Qa w7 _).cell (p:=⟨g,2,none⟩) bg).t m2;have S:=zh (Qcl.j (show Qcl (wr.drew.alloc (.cells (trC 0 Zb) 145)) wr.heap.size 0 Zb from zy wr.drew _) B);have ⟨n0,n1,n2,n3,n4,n5,n6,n7,n8⟩:=S.o.cells;have nf:=(λi=>Qu S.o i:∀ i,w7.frozen? ⟨wr.heap.size,i,none⟩=false);have nb:=Qb S.o;clear B)
      all_goals (
       go_wp2
       go_meet
       show ∃ q6,_/\Aside (Qcl _ q6 ln (rootOf L.entries))/\Aside (Bz wr _)/\wr.heap.size<=q6
       first
        | (
          refine⟨w7.heap.size,rfl,?_,?_,t.o.size⟩
          .show Qcl _ _ _ _
           generalize rootOf L.entries=rt
           exact zy w7 _
          show Below _ _ _
          exact t.o.alloc t.o.size _)
        | (
          refine⟨wr.heap.size,rfl,?_,?_,zg _⟩
          .show Qcl _ _ _ _
           generalize rootOf L.entries=rt
           exact Q6n S.o ln rt
          show Below _ _ _
          generalize rootOf L.entries=rt
          exact t.o.t ((Q6r w7 wr.heap.size ln rt).j t.o.size λk hk e=>by omega)))
     case rest=>
      obtain⟨q6,rfl,en,cx,ft⟩:=hcut;have de:=HP.o.j cx.o;have dg:=HV.o.j cx.o;obtain⟨rt,co⟩:=zzx (rootOf L.entries)
      have df:Qcl wc q6 ln rt:=by rw[co];exact en.o
      have aa:=de.j (Ql wc);have b0:=dg.j (Ql wc);have bw:=df.j (Ql wc);obtain⟨cp,b4⟩:=zzx (cpOf L.entries L.key)
      have cq:=Qo4 ln rt L.key wc.drew (by omega) d4 (HE.o.step aa.fr aa.subw).num;rw[show sOf (Jt ln rt L.key.data.toList)=cp by rw[b4,co,bj.o];rfl] at cq;have a6:∀ k,dkS A v1 k->k<wr.heap.size:=λk hk=>Qn1 HP.o.log HP.o.disk (.inl hk)
      have a7:¬ dkS A v1 pl:=λhk=>HP.o.o (b:=pl) (by have:=s.o;omega) (by omega) (.inl hk)
      have d0:=Q0r b7 hc (by have:=Qbp Z;have:=y.o;omega);have d3:=Q0r b9 bi.o (by have:=Qbp Z;have:=y.o;omega);obtain⟨el,ej,er,ep,ee,ff,c0⟩:=zh7 cq aa b0 bw a6 a7 b4;have ci:w.heap.size<=pl:=by rw[s.o];exact zg _
      have ad:w.heap.size<=pl+1:=xq ci;have av:w.heap.size<=pl+1+1:=xq ad;have d8:pl<pl+3:=by omega
      have aw:pl+1<pl+3:=by omega
      have ax:pl+1+1<pl+3:=by omega
      have ea:¬ dkS A v1 q6:=λhk=>by have:=ee.o q6 hk;omega
      have za:=(b0).cells.1;have zb:=(aa.log).heads.1.1;have zc:=(aa.log).heads.1.2.1;have ⟨z0,z1,z2,z3,z4,z5,z6,z7,z8⟩:=(bw).cells;clear de dg df aa b0 bw b4 co cq a6 a7
      go_upto_region 13 with fail
      go_cut [7] from 62 to 75 (λs7 wx=>∃ v2,Aside (Pk w (pl+3) g A v (.slice ae L.entries.length ce) I X H L v2 ar (Qcz d1 (sOf kCp) cp) ps wx)/\Aside (Vars wx g pl 0 .nilIface)/\wx.cell? ⟨q6,0,none⟩=some (.int .i64 ln)/\Aside (∃ bs,w.heap.size<=bs/\Qdw wx bs (decide (0<Z7 d1)) s7))
      case first=>
       rw[Q8f]
       go_region_held3 (λw'=>w'.cell? ⟨pl,0,none⟩=some (.pointer (some ⟨g,0,none⟩))/\w'.cell? ⟨g,0,none⟩=some (.iface 50 (.pointer (some ⟨A,0,none⟩)))/\w'.cell? ⟨g,1,none⟩=some (.string L.key)/\w'.cell? ⟨q6,0,none⟩=some (.int .i64 ln)/\w'.cell? ⟨q6,1,none⟩=some (bv rt[0])/\w'.cell? ⟨q6,2,none⟩=some (bv rt[1])/\w'.cell? ⟨q6,3,none⟩=some (bv rt[2])/\w'.cell? ⟨q6,4,none⟩=some (bv rt[3])/\w'.cell? ⟨q6,5,none⟩=some (bv rt[4])/\w'.cell? ⟨q6,6,none⟩=some (bv rt[5])/\w'.cell? ⟨q6,7,none⟩=some (bv rt[6])/\w'.cell? ⟨q6,8,none⟩=some (bv rt[7])) (first|with_reducible exact⟨za,zb,zc,z0,z1,z2,z3,z4,z5,z6,z7,z8⟩|with_reducible exact⟨ya,yb,yc,y0,y1,y2,y3,y4,y5,y6,y7,y8⟩|with_reducible exact⟨xa,xb,xc,x0,x1,x2,x3,x4,x5,x6,x7,x8⟩|with_reducible exact⟨va,vb,vc,v0,v1',v2',v3',v4',v5',v6',v7',v8'⟩) (first|go_at_call 159;refine el.o.mono ?_;rintro e w7⟨rfl,B⟩;obtain⟨bn,c9,S⟩:=zh3 (ej.o.j B) (er.o.j B) (ep.o.j B);have ya:=(c9.o).cells.1;have yb:=(bn.o.log).heads.1.1;have yc:=(bn.o.log).heads.1.2.1;have ⟨y0,y1,y2,y3,y4,y5,y6,y7,y8⟩:=(S.o).cells;obtain⟨b8,c8,w8,fk,dn,a3⟩:=Zdd w7 cp;obtain⟨E,a0,c6,eh⟩:=zh4 (bn.o.j a3) (c9.o.j a3) (S.o.j a3) dn;have xa:=(a0.o).cells.1;have xb:=(E.o.log).heads.1.1;have xc:=(E.o.log).heads.1.2.1;have ⟨x0,x1,x2,x3,x4,x5,x6,x7,x8⟩:=(c6.o).cells;clear B a3 dn|go_at_call 301;refine (Zae w8 A v1 d1 E.o.disk (sOf kCp) _ _ eh.o.at (Nat.lt_trans d0 (by decide)) (Nat.lt_trans d3 (by decide))).mono ?_;rintro e w9⟨u,rfl,a8,v2,b5,V,dm⟩;rw[show (ByteArray.mk cp.data.toList.toArray)=cp from J9 cp] at b5;obtain⟨ef,bo,da,eo,fg⟩:=zh5 a8 (E.o.write (E.o.wk.put b5 V dm (zg _))) (⟨V.heap a0.o.l (λhk=>E.o.o (b:=pl) ci d8 (.inl hk)),V.heap a0.o.n (λhk=>E.o.o (b:=pl+1) ad aw (.inl hk)),V.heap a0.o.e (λhk=>E.o.o (b:=pl+1+1) av ax (.inl hk))⟩:Vars w9 g pl 0 .nilIface) (show Qcl w9 q6 ln rt from V.heap c6.o ea) V;have va:=da.o.cells.1;have vb:=bo.o.log.heads.1.1;have vc:=bo.o.log.heads.1.2.1;have ⟨v0,v1',v2',v3',v4',v5',v6',v7',v8'⟩:=eo.o.cells;clear a8 b5 V dm)
       all_goals (
        go_wp2
        go_meet
        have e4:w.heap.size<=w8.heap.size:=E.o.fr.size
        exact⟨v2,bo.o,da.o,v0,⟨w8.heap.size,e4,ef.o⟩⟩)
      case rest=>
       obtain⟨v2,bp,K,d9,c2⟩:=hcut;have C:=c2.o;obtain⟨bs,a5,C⟩:=C;obtain⟨y1,y2,y3,fw,fx⟩:=K.o.cells;have fu:=Qj d9;have ya:=Qb K.o.l;have yb:=Qb K.o.n;have yc:=Qb K.o.e;clear c2;rcases vg (Z7 d1) with h0|h0
       .have e3:u7=.nilIface:=by unfold Qdw at C;rw[zw (by simp[h0])] at C;exact C
        subst e3;have d7:=Y2 wc;clear C
        go_wp2_with fail
        have z:=(bp.o.var (b:=pl+1) ad aw K.o.n (by decide) (Fr.set1 wc (pl+1) 0 (.int .i64 ln))).var (b:=pl+1+1) av ax (K.o.num ln).e (by decide) (Fr.set1 (wc.setCell ⟨pl+1,0,none⟩ (.int .i64 ln)) (pl+1+1) 0 .nilIface);have U:=(K.o.num ln).err .nilIface;have hQ:pubD L.entries L.key L.put d=(Qcz d1 (sOf kCp) cp,ps,none):=by unfold pubD;rw[bh.o,c0.o];simp[h0]
        have dz:Vars ((wc.setCell ⟨pl+1,0,none⟩ (.int .i64 ln)).setCell ⟨pl+1+1,0,none⟩ .nilIface) g pl (L.entries.length:Int) .nilIface:=by
         have e:(L.entries.length:Int)=(ln:Int):=by rw[bj.o]
         rw[e];exact U
        exact Qs5 z dz az.o hQ rfl rfl
       have a8:Qop wc bs u7:=by unfold Qdw at C;rw[zD (by simpa using h0)] at C;exact C
       obtain⟨q,nn,rfl,hq,hh⟩:=a8;have d7:=Qam wc 218 (.pointer (some ⟨q,0,none⟩));have HH:=zh hh;clear C hh
       go_wp2_with (go_at_call 160;refine (Qrg _ _ _ _).mono ?_;rintro e wA⟨u,rfl,⟨r,rfl,hr,an⟩,a4⟩;obtain⟨HR,ed,ei,M⟩:=zh4 an a4 (bp.o.j a4) (K.o.j a4);have ⟨t1,t2,t3,tf2,tf3⟩:=M.o.cells;clear an a4)
       have z:=(ei.o.var (b:=pl+1) ad aw M.o.n (by decide) (Fr.set1 wA (pl+1) 0 (.int .i64 0))).var (b:=pl+1+1) av ax (M.o.num 0).e (by decide) (Fr.set1 (wA.setCell ⟨pl+1,0,none⟩ (.int .i64 0)) (pl+1+1) 0 (.iface 219 (.pointer (some ⟨r,0,none⟩))));have U:=(M.o.num 0).err (.iface 219 (.pointer (some ⟨r,0,none⟩)));have hQ:pubD L.entries L.key L.put d=(Qcz d1 (sOf kCp) cp,ps,some (sOf kCp)):=by unfold pubD;rw[bh.o,c0.o];simp[h0]
       have cb:wA.heap[q]?=some (.cells #[.int .i64 nn] 398 (0,0)):=(ed.o.block _ (Qb HH.o)).t HH.o;have cj:wA.heap[r]?=some (.cells #[.string (sOf kCp),.iface 218 (.pointer (some ⟨q,0,none⟩))] 221 (0,0)):=HR.o;have aj:=(Fr.set1 wA (pl+1) 0 (.int .i64 0)).heap cb λe=>by subst e;have:=M.o.n;rw[cb] at this;simp at this
       have am:=(Fr.set1 (wA.setCell ⟨pl+1,0,none⟩ (.int .i64 0)) (pl+1+1) 0 (.iface 219 (.pointer (some ⟨r,0,none⟩)))).heap aj λe=>by subst e;have:=M.o.e;rw[cb] at this;simp at this
       have ap:=(Fr.set1 wA (pl+1) 0 (.int .i64 0)).heap cj λe=>by subst e;have:=M.o.n;rw[cj] at this;simp at this
       have aq:=(Fr.set1 (wA.setCell ⟨pl+1,0,none⟩ (.int .i64 0)) (pl+1+1) 0 (.iface 219 (.pointer (some ⟨r,0,none⟩)))).heap ap λe=>by subst e;have:=M.o.e;rw[cj] at this;simp at this
       have e5:w.heap.size<=wc.heap.size:=bp.o.fr.size;exact Qib z U s.o hg (zi e5 hr) (zi a5 hq) am aq az.o hQ rfl rfl
    have ez:=Ql0 wr 219 (.pointer (some ⟨r,0,none⟩));have fq:=Qam wr 219 (.pointer (some ⟨r,0,none⟩));obtain⟨HJ,HU,HR⟩:=zh3 hJ di an;clear hJ di an;by_cases hlt:k<nl
    .have au:(k:Int)<(nl:Int):=by omega
     go_upto_region 11 with fail
     go_region
     all_goals (
      go_wp2
      have z:=((HP.o.var (b:=pl+1) (by have:=s.o;omega) (by omega) HV.o.n (by decide) (Fr.set1 wr (pl+1) 0 (.int .i64 0))).var (b:=pl+1+1) (by have:=s.o;omega) (by omega) (HV.o.num 0).e (by decide) (Fr.set1 (wr.setCell ⟨pl+1,0,none⟩ (.int .i64 0)) (pl+1+1) 0 (.iface 219 (.pointer (some ⟨r,0,none⟩))))).j (Ql _)
      have U:=((HV.o.num 0).err (.iface 219 (.pointer (some ⟨r,0,none⟩)))).j (Ql _)
      have aj:=(Fr.set1 wr (pl+1) 0 (.int .i64 0)).heap HU.o λe=>by subst e;have:=HV.o.n;rw[HU.o] at this;simp at this
      have am:=(Fr.set1 (wr.setCell ⟨pl+1,0,none⟩ (.int .i64 0)) (pl+1+1) 0 (.iface 219 (.pointer (some ⟨r,0,none⟩)))).heap aj λe=>by subst e;have:=HV.o.e;rw[HU.o] at this;simp at this
      have ap:=(Fr.set1 wr (pl+1) 0 (.int .i64 0)).heap HR.o λe=>by subst e;have:=HV.o.n;rw[HR.o] at this;simp at this
      have aq:=(Fr.set1 (wr.setCell ⟨pl+1,0,none⟩ (.int .i64 0)) (pl+1+1) 0 (.iface 219 (.pointer (some ⟨r,0,none⟩)))).heap ap λe=>by subst e;have:=HV.o.e;rw[HR.o] at this;simp at this
      exact Qib z U s.o hg hr hu am aq az.o (by unfold pubD;rw[HJ.o]) rfl rfl)
    have au:¬ (k:Int)<(nl:Int):=by omega
    go_upto_region 11 with fail
    go_region
    all_goals (
     go_wp2
     have z:=((HP.o.var (b:=pl+1) (by have:=s.o;omega) (by omega) HV.o.n (by decide) (Fr.set1 wr (pl+1) 0 (.int .i64 0))).var (b:=pl+1+1) (by have:=s.o;omega) (by omega) (HV.o.num 0).e (by decide) (Fr.set1 (wr.setCell ⟨pl+1,0,none⟩ (.int .i64 0)) (pl+1+1) 0 (.iface 219 (.pointer (some ⟨r,0,none⟩))))).j (Ql _)
     have U:=((HV.o.num 0).err (.iface 219 (.pointer (some ⟨r,0,none⟩)))).j (Ql _)
     have aj:=(Fr.set1 wr (pl+1) 0 (.int .i64 0)).heap HU.o λe=>by subst e;have:=HV.o.n;rw[HU.o] at this;simp at this
     have am:=(Fr.set1 (wr.setCell ⟨pl+1,0,none⟩ (.int .i64 0)) (pl+1+1) 0 (.iface 219 (.pointer (some ⟨r,0,none⟩)))).heap aj λe=>by subst e;have:=HV.o.e;rw[HU.o] at this;simp at this
     have ap:=(Fr.set1 wr (pl+1) 0 (.int .i64 0)).heap HR.o λe=>by subst e;have:=HV.o.n;rw[HR.o] at this;simp at this
     have aq:=(Fr.set1 (wr.setCell ⟨pl+1,0,none⟩ (.int .i64 0)) (pl+1+1) 0 (.iface 219 (.pointer (some ⟨r,0,none⟩)))).heap ap λe=>by subst e;have:=HV.o.e;rw[HR.o] at this;simp at this
     exact Qib z U s.o hg hr hu am aq az.o (by unfold pubD;rw[HJ.o]) rfl rfl)
end
section
open Go.RowKit Go.Extern.Stop Go.Stop Go.Extern
theorem Q74(v:J)(w:G):(Extern.ReflectliteType.typeOf #[.iface 370 v]).run prog w=.ok (.iface 321 (.agg #[.pointer (some ⟨17,370,none⟩)])) w:=by kernel_rfl
theorem Qwc(w:G):((Extern.ReflectliteType.method λt=>do Extern.Rtype.noPackHeld "Comparable" t;Functor.map (λa=>Value.bool a.comparable) (typeInfo t)) #[.agg #[.pointer (some ⟨17,370,none⟩)]]).run prog w=.ok (.bool true) w:=by kernel_rfl
theorem Qns(n:Nat)(h:J)(w:G):(Go.method (n+1) 321 (.agg #[h]) "Comparable").run prog w=.ok (312,.agg #[h]) w:=by kernel_rfl
theorem Qh1(n:Nat)(v:J)(w:G):(Go.method (n+1) 219 v "Unwrap").run prog w=.ok (306,v) w:=by kernel_rfl
theorem Za4:(prog.info? 370).map (·.comparable)=some true:=by kernel_rfl
theorem Zba:(prog.info? 372).map (·.size)=some 1:=by kernel_rfl
theorem Qzi(v:J)(a:TypeId)(w:G):(Instr.typeAssert (.iface 219 v) a 323 true).run prog w=.ok (.tuple #[.nilIface,.bool false]) w:=run_typeAssert_lacksB underlying323 (by kernel_rfl) (by kernel_rfl) v a w
theorem Qgq(v:J)(a:TypeId)(w:G):(Instr.typeAssert (.iface 219 v) a 326 true).run prog w=.ok (.tuple #[.iface 219 v,.bool true]) w:=run_typeAssert_hasB underlying326 (by kernel_rfl) v a w
theorem Qrw(w:G)(r:Nat)(x:J)(a:w.cell? ⟨r,1,none⟩=some x):Calls prog 306 #[.pointer (some ⟨r,0,none⟩)] w λe w'=>e=.returned x/\w'=w:=by
 go_enter func306,ntmps306
 go_wp2;go_ret;exact⟨rfl,rfl⟩
theorem Q82(a:Addr)(r:Nat)(w:G)(c:w.cell? ⟨r,1,none⟩=some (.iface 370 (.pointer (some a)))):Calls prog 186 #[.iface 219 (.pointer (some ⟨r,0,none⟩)),.iface 370 (.pointer (some a)),.bool true] w λe w'=>e=.returned (.bool true)/\w'=w:=by
 obtain⟨i,hi,b⟩:=zP.1 Za4;obtain⟨j,hj,f⟩:=zP.1 Zba;have nP:=Qzi;have uP:=Qgq;have mU:=Qh1;have d:=VV (P:=prog) w a underlying135 underlying370 hi b hj;have k:=Xt (P:=prog) 219 370 (.pointer (some ⟨r,0,none⟩)) (.pointer (some a)) underlying135 (by decide) w;have g:=Qam w 370 (.pointer (some a));have h:=Ql0 w 370 (.pointer (some a))
 go_enter func186,ntmps186
 go_wp2_with fail
 refine xt 2 ?_;rw[VZ]
 go_wp2_with (go_at_call 306;refine (Qrw w r _ c).m ?_;rintro e w2⟨rfl,rfl⟩)
 rw[VZ];go_wp2;go_ret;exact⟨rfl,rfl⟩
theorem Zb4(a:Addr)(r:Nat)(w:G)(c:w.cell? ⟨r,1,none⟩=some (.iface 370 (.pointer (some a)))):Calls prog 144 #[.iface 219 (.pointer (some ⟨r,0,none⟩)),.iface 370 (.pointer (some a))] w λe w'=>e=.returned (.bool true)/\w'=w:=by
 obtain⟨i,hi,b⟩:=zP.1 Za4;obtain⟨j,hj,g⟩:=zP.1 Zba;have h8:=@run_callFunc_extern prog 185 _ Extern.ReflectliteType.typeOf func185 (by kernel_rfl) (by kernel_rfl) (by kernel_rfl) (by kernel_rfl);have d:=@run_callFunc_extern prog 312 _ (Extern.ReflectliteType.method λt=>do Extern.Rtype.noPackHeld "Comparable" t;pure (.bool (<-typeInfo t).comparable)) func312 (by kernel_rfl) (by kernel_rfl) (by kernel_rfl) (by kernel_rfl);have tT:=Q74;have cT:=Qwc;have mR:=Qns;have mU:=Qh1;have nP:=Qzi;have uP:=Qgq;have f:=VV (P:=prog) w a underlying135 underlying370 hi b hj;have h:=Xt (P:=prog) 219 370 (.pointer (some ⟨r,0,none⟩)) (.pointer (some a)) underlying135 (by decide) w
 go_enter func144,ntmps144
 go_wp2_with fail
 refine (Q82 a r w c).m ?_;rintro e w2⟨rfl,rfl⟩;go_wp2;go_ret;exact⟨rfl,rfl⟩
theorem Q95(t:Addr)(w:G):(ReflectliteValue.unpack (.iface 224 (.pointer (some t)))).run prog w
  = .ok (.agg #[.pointer (some ⟨17,224,none⟩),.pointer (some ⟨w.heap.size,0,none⟩),.int .u64 150]) (w.alloc (.cells #[.pointer (some t)] 224)):=by kernel_rfl
theorem Zcp(a:Addr)(w:G):(ReflectliteValue.methodAny (ReflectliteValue.valueError "reflectlite.Value.Type" 0) (λt _ _ _=>ReflectliteType.toType t) #[.agg #[.pointer (some ⟨17,224,none⟩),.pointer (some a),.int .u64 150]]).run prog w
  = .ok (.iface 321 (.agg #[.pointer (some ⟨17,224,none⟩)])) w:=by kernel_rfl
theorem Zdj(w:G):((ReflectliteType.abiMethod λt=>Functor.map (λa:Nat=>Value.int IntKind.u8 (a:Int)) (Rtype.kind t)) #[.pointer (some ⟨17,224,none⟩)]).run prog w=.ok (.int .u8 22) w:=by kernel_rfl
theorem Zd8(w:G):((ReflectliteType.abiMethod λt=>Functor.map (λa:Nat=>Value.int IntKind.u8 (a:Int)) (Rtype.kind t)) #[.pointer (some ⟨17,218,none⟩)]).run prog w=.ok (.int .u8 22) w:=by kernel_rfl
theorem rlm(z:Sem J)(f:TypeId->Addr->Nat->Nat->Sem J)(v:J):ReflectliteValue.method z f #[v]=(do match <-ReflectliteValue.parts v with|none=>z|some (t,a,fl)=>f t a fl (fl%32)):=rfl
theorem Q5k(a:Addr)(w:G):(ReflectliteValue.parts (.agg #[.pointer (some ⟨17,224,none⟩),.pointer (some a),.int .u64 150])).run prog w=.ok (some (224,a,150)) w:=by kernel_rfl
theorem Zck(a p:Addr)(W:G)(b:W.cell? a=some (.pointer (some p))):(ReflectliteValue.method (ReflectliteValue.valueError "reflectlite.Value.IsNil" 0) ReflectliteValue.isNil #[.agg #[.pointer (some ⟨17,224,none⟩),.pointer (some a),.int .u64 150]]).run prog W=.ok (.bool false) W:=by
 rw[rlm];simp only[vx,Q5k,Result.andThen];simp[ReflectliteValue.isNil,loadVar,isAgg,underlying,underlying224,b,Result.andThen]
theorem Q20(n:Nat)(h:J)(w:G):(Go.method (n+1) 321 (.agg #[h]) "Kind").run prog w=.ok (295,h) w:=by kernel_rfl
theorem Q04(n:Nat)(h:J)(w:G):(Go.method (n+1) 321 (.agg #[h]) "Elem").run prog w=.ok (313,.agg #[h]) w:=by kernel_rfl
theorem Qkl(n:Nat)(h:J)(w:G):(Go.method (n+1) 321 (.agg #[h]) "AssignableTo").run prog w=.ok (311,.agg #[h]) w:=by kernel_rfl
theorem Qnt(n:Nat)(h:J)(w:G):(Go.method (n+1) 321 (.agg #[h]) "Implements").run prog w=.ok (314,.agg #[h]) w:=by kernel_rfl
theorem Zdc(w:G):(ReflectliteType.method ReflectliteType.elem #[.agg #[.pointer (some ⟨17,224,none⟩)]]).run prog w=.ok (.iface 321 (.agg #[.pointer (some ⟨17,218,none⟩)])) w:=by kernel_rfl
theorem Qxm(w:G):(ReflectliteType.relation "Implements" ReflectliteType.implements_ #[.agg #[.pointer (some ⟨17,218,none⟩)],.iface 321 (.agg #[.pointer (some ⟨17,135,none⟩)])]).run prog w=.ok (.bool true) w:=by kernel_rfl
theorem Q1d(v:J)(w:G):(ReflectliteType.typeOf #[.iface 219 v]).run prog w=.ok (.iface 321 (.agg #[.pointer (some ⟨17,219,none⟩)])) w:=by kernel_rfl
theorem Q59(v:J)(w:G):(ReflectliteType.typeOf #[.iface 218 v]).run prog w=.ok (.iface 321 (.agg #[.pointer (some ⟨17,218,none⟩)])) w:=by kernel_rfl
theorem Q2u(w:G):(ReflectliteType.relation "AssignableTo" ReflectliteType.assignableTo #[.agg #[.pointer (some ⟨17,219,none⟩)],.iface 321 (.agg #[.pointer (some ⟨17,218,none⟩)])]).run prog w=.ok (.bool false) w:=by kernel_rfl
theorem Q3x(w:G):(ReflectliteType.relation "AssignableTo" ReflectliteType.assignableTo #[.agg #[.pointer (some ⟨17,218,none⟩)],.iface 321 (.agg #[.pointer (some ⟨17,218,none⟩)])]).run prog w=.ok (.bool true) w:=by kernel_rfl
theorem Q2c(e:Addr)(w:G):(ReflectliteValue.unpack (.iface 218 (.pointer (some e)))).run prog w
  = .ok (.agg #[.pointer (some ⟨17,218,none⟩),.pointer (some ⟨w.heap.size,0,none⟩),.int .u64 150]) (w.alloc (.cells #[.pointer (some e)] 218)):=by kernel_rfl
theorem Q8q(w:G):(Rtype.elem? 224).run prog w=.ok (some 218) w:=by kernel_rfl
theorem mkP(p:Addr)(w:G):(ReflectliteValue.mk 218 p ReflectliteValue.flagAddr).run prog w=.ok (.agg #[.pointer (some ⟨17,218,none⟩),.pointer (some p),.int .u64 406]) w:=by kernel_rfl
theorem Zd9(a p:Addr)(W:G)(b:W.cell? a=some (.pointer (some p))):(ReflectliteValue.method (ReflectliteValue.valueError "reflectlite.Value.Elem" 0) ReflectliteValue.elem #[.agg #[.pointer (some ⟨17,224,none⟩),.pointer (some a),.int .u64 150]]).run prog W
   = .ok (.agg #[.pointer (some ⟨17,218,none⟩),.pointer (some p),.int .u64 406]) W:=by
 rw[rlm];simp only[vx,Q5k,Result.andThen];simp[ReflectliteValue.elem,loadVar,isAgg,underlying,underlying224,b,Result.andThen,Q8q,mkP]
theorem rls(v x:J):ReflectliteValue.set #[v,x]=(do
  let (some (dst,a,fl),some (src,b,_)):=(<-ReflectliteValue.parts v,<-ReflectliteValue.parts x)
   | unsupported (.noEntry "extern/(internal/reflectlite.Value).Set.zeroValue")
  if fl / ReflectliteValue.flagAddr%2 == 0 then unsupported (.noEntry "extern/(internal/reflectlite.Value).Set.unaddressable")
  let val <-loadVar src b
  if <-Rtype.directlyAssignable dst src then storeVar dst a val
  else if <-Rtype.implements dst src then
   if (<-Rtype.kind src) == 20 then
    match val with
    | .nilIface=>unsupported (.noEntry "extern/reflectlite: a nil value of one interface type handed on as a value of another")
    | _=>storeVar dst a val
   else storeVar dst a (.iface src val)
  else panicString ("reflectlite.Set: value of type "++(<-Rtype.spelt src) ++ " is not assignable to type "++(<-Rtype.spelt dst))
  pure (.tuple #[])):=rfl
theorem Zb3(a:Addr)(w:G):(ReflectliteValue.parts (.agg #[.pointer (some ⟨17,218,none⟩),.pointer (some a),.int .u64 406])).run prog w=.ok (some (218,a,406)) w:=by kernel_rfl
theorem Zd2(a:Addr)(w:G):(ReflectliteValue.parts (.agg #[.pointer (some ⟨17,218,none⟩),.pointer (some a),.int .u64 150])).run prog w=.ok (some (218,a,150)) w:=by kernel_rfl
theorem Zch(w:G):(Rtype.directlyAssignable 218 218).run prog w=.ok true w:=by kernel_rfl
theorem setP(a b e:Addr)(c:J)(W:G)(d:W.cell? b=some (.pointer (some e)))(g:W.cell? a=some c)(f:W.frozen? a=false):(ReflectliteValue.set #[.agg #[.pointer (some ⟨17,218,none⟩),.pointer (some a),.int .u64 406],.agg #[.pointer (some ⟨17,218,none⟩),.pointer (some b),.int .u64 150]]).run prog W
   = .ok (.tuple #[]) (W.setCell a (.pointer (some e))):=by
 rw[rls];simp only[vx,Zb3,Zd2,Result.andThen];simp[ReflectliteValue.flagAddr,loadVar,isAgg,underlying,underlying218,d,Result.andThen,Zch,storeVar,Value.cells,storeCells,Addr.add];rw[run_store prog W a _ _ (by rfl)];simp[g,f]
end
section
open Go.RowKit Go.Extern.Stop Go.Stop Go.Extern
theorem Q8d(v:J)(a:TypeId)(w:G):(Instr.typeAssert (.iface 219 v) a 332 true).run prog w=.ok (.tuple #[.nilIface,.bool false]) w:=run_typeAssert_lacksB underlying332 (by kernel_rfl) (by kernel_rfl) v a w
abbrev rvT(b:Nat):Array J:=#[.pointer (some ⟨17,224,none⟩),.pointer (some ⟨b,0,none⟩),.int .u64 150]
theorem Q71(q r t:Nat)(w:G)(b:Nat)(h:J)(k:w.cell? ⟨b,0,none⟩=some (.pointer (some ⟨t,0,none⟩)))(j:w.cell? ⟨r,1,none⟩=some (.iface 218 (.pointer (some ⟨q,0,none⟩))))(f:w.cell? ⟨t,0,none⟩=some h)(l:w.frozen? ⟨t,0,none⟩=false):Calls prog 190 #[.iface 219 (.pointer (some ⟨r,0,none⟩)),.iface 224 (.pointer (some ⟨t,0,none⟩)),.agg (rvT b),.iface 321 (.agg #[.pointer (some ⟨17,218,none⟩)])] w
   λev w'=>ev=.returned (.bool true)/\w'.cell? ⟨t,0,none⟩=some (.pointer (some ⟨q,0,none⟩))/\Fr (·=t) w w':=by
 have h6:=@run_callFunc_extern prog 187 _ (λargs=>ReflectliteValue.unpack (args.getD 0 (.tuple #[]))) func187 (by kernel_rfl) (by kernel_rfl) (by kernel_rfl) (by kernel_rfl);have u:=@run_callFunc_extern prog 185 _ ReflectliteType.typeOf func185 (by kernel_rfl) (by kernel_rfl) (by kernel_rfl) (by kernel_rfl);have y:=@run_callFunc_extern prog 311 _ (ReflectliteType.relation "AssignableTo" ReflectliteType.assignableTo) func311 (by kernel_rfl) (by kernel_rfl) (by kernel_rfl) (by kernel_rfl);have v:=@run_callFunc_extern prog 228 _ (ReflectliteValue.method (ReflectliteValue.valueError "reflectlite.Value.Elem" 0) ReflectliteValue.elem) func228 (by kernel_rfl) (by kernel_rfl) (by kernel_rfl) (by kernel_rfl);have x:=@run_callFunc_extern prog 229 _ ReflectliteValue.set func229 (by kernel_rfl) (by kernel_rfl) (by kernel_rfl) (by kernel_rfl);have tP:=Q1d;have tO:=Q59;have mA:=Qkl;have aP:=Q2u;have aO:=Q3x;have vO:=Q2c;have nA:=Q8d;have uP:=Qgq;have mU:=Qh1;obtain⟨w3,a⟩:=zzx (w.alloc (.cells (rvT b) 279))
 have c:Bz w w3:=by rw[a];exact Qa _ _
 have n:w3.heap.size=w.heap.size+1:=by rw[a];simp
 have g:=Qj f;have el:=Zd9 ⟨b,0,none⟩ ⟨t,0,none⟩ w3 ((c.cell (Qj k)).t k);have m:=(c.cell (Qj j)).t j;have d:=(c.cell (Qj f)).t f;have st:=setP ⟨t,0,none⟩ ⟨w.heap.size+1,0,none⟩ ⟨q,0,none⟩ h (w3.alloc (.cells #[.pointer (some ⟨q,0,none⟩)] 218))
  (by rw[zW _ _ _ _ n.symm];rfl)
  (((Qa w3 _).cell (Qj d)).t d)
  (by rw[(Qa w3 _).frozen (Qj d),c.frozen g];exact l)
 have C:=Ql0 w3 218 (.pointer (some ⟨q,0,none⟩));have z:w3.cell? ⟨w.heap.size,0,none⟩=some (.pointer (some ⟨17,224,none⟩)):=by rw[a,zW _ _ _ _ (by simp)];rfl
 have A:w3.cell? ⟨w.heap.size,1,none⟩=some (.pointer (some ⟨b,0,none⟩)):=by rw[a,zW _ _ _ _ (by simp)];rfl
 have B:w3.cell? ⟨w.heap.size,2,none⟩=some (.int .u64 150):=by rw[a,zW _ _ _ _ (by simp)];rfl
 obtain⟨s,i⟩:=zh2 a c
 go_enter func190,ntmps190
 go_wp2_with fail
 rw[<-a];clear a c;refine xt 2 ?_;rw[VZ]
 go_wp2_with (go_at_call 306;refine (Qrw w3 r _ m).m ?_;rintro e w2⟨rfl,rfl⟩)
 rw[VZ];go_wp2;go_ret;have hf:=((Fr.ofBelow i.o:Fr (·=t) w w2).setCell (p:=⟨t,0,none⟩) (λ_=>rfl) (.pointer (some ⟨q,0,none⟩)))
 refine⟨rfl,?_,hf.alloc _⟩;refine (Below.cell (Qa _ _) (p:=⟨t,0,none⟩) ?_).t ?_
 .exact zJ g hf.size
 exact World.cell?_setCell_same' _ _ _ (by rw[d];rfl)
end
section
open Go.RowKit Go.Extern.Stop Go.Stop Go.Extern
theorem Zcb(q r t:Nat)(w:G)(n:J)(u:w.cell? ⟨8,0,none⟩=some (.iface 321 (.agg #[.pointer (some ⟨17,135,none⟩)])))(s:w.cell? ⟨r,1,none⟩=some (.iface 218 (.pointer (some ⟨q,0,none⟩))))(f:w.cell? ⟨t,0,none⟩=some n)(m:w.frozen? ⟨t,0,none⟩=false):Calls prog 145 #[.iface 219 (.pointer (some ⟨r,0,none⟩)),.iface 224 (.pointer (some ⟨t,0,none⟩))] w
   λev w'=>ev=.returned (.bool true)/\w'.cell? ⟨t,0,none⟩=some (.pointer (some ⟨q,0,none⟩))/\Fr (·=t) w w':=by
 have h6:=@run_callFunc_extern prog 187 _ (λargs=>ReflectliteValue.unpack (args.getD 0 (.tuple #[]))) func187 (by kernel_rfl) (by kernel_rfl) (by kernel_rfl) (by kernel_rfl);have h7:=@run_callFunc_extern prog 188 _ (ReflectliteValue.methodAny (ReflectliteValue.valueError "reflectlite.Value.Type" 0) (λt _ _ _=>ReflectliteType.toType t)) func188 (by kernel_rfl) (by kernel_rfl) (by kernel_rfl) (by kernel_rfl);have h8:=@run_callFunc_extern prog 189 _ (ReflectliteValue.method (ReflectliteValue.valueError "reflectlite.Value.IsNil" 0) ReflectliteValue.isNil) func189 (by kernel_rfl) (by kernel_rfl) (by kernel_rfl) (by kernel_rfl);have B:=@run_callFunc_extern prog 295 _ (ReflectliteType.abiMethod λt=>do pure (.int .u8 (<-Rtype.kind t))) func295 (by kernel_rfl) (by kernel_rfl) (by kernel_rfl) (by kernel_rfl);have C:=@run_callFunc_extern prog 313 _ (ReflectliteType.method ReflectliteType.elem) func313 (by kernel_rfl) (by kernel_rfl) (by kernel_rfl) (by kernel_rfl);have D:=@run_callFunc_extern prog 314 _ (ReflectliteType.relation "Implements" ReflectliteType.implements_) func314 (by kernel_rfl) (by kernel_rfl) (by kernel_rfl) (by kernel_rfl);have mK:=Q20;have mE:=Q04;have mI:=Qnt;have K:=Zdj;have kP:=Zd8;have eP:=Zdc;have iP:=Qxm;have vT:=Q95 ⟨t,0,none⟩ w;have tV:=Zcp;obtain⟨w1,d⟩:=zzx (w.alloc (.cells #[.pointer (some ⟨t,0,none⟩)] 224))
 have c:w1.heap.size=w.heap.size+1:=by rw[d];simp
 have k:Bz w w1:=by rw[d];exact Qa _ _
 have g:w1.cell? ⟨w.heap.size,0,none⟩=some (.pointer (some ⟨t,0,none⟩)):=by rw[d,zW _ _ _ _ (by simp)];rfl
 obtain⟨w2,a⟩:=zzx (w1.alloc (.cells (rvT w.heap.size) 279))
 have b:Bz w w2:=by rw[a];exact k.alloc (by omega) _
 have l:w2.cell? ⟨w.heap.size,0,none⟩=some (.pointer (some ⟨t,0,none⟩)):=by rw[a];exact ((Qa w1 _).cell (Qj g)).t g
 have n8:=Zck ⟨w.heap.size,0,none⟩ ⟨t,0,none⟩ w2 l;have F:w2.cell? ⟨w.heap.size+1,0,none⟩=some (.pointer (some ⟨17,224,none⟩)):=by rw[a,zW _ _ _ _ (by first|exact c|exact c.symm)];rfl
 have H:w2.cell? ⟨w.heap.size+1,1,none⟩=some (.pointer (some ⟨w.heap.size,0,none⟩)):=by rw[a,zW _ _ _ _ (by first|exact c|exact c.symm)];rfl
 have I:w2.cell? ⟨w.heap.size+1,2,none⟩=some (.int .u64 150):=by rw[a,zW _ _ _ _ (by first|exact c|exact c.symm)];rfl
 have h:=Q71 q r t w2 w.heap.size n l ((b.cell (Qj s)).t s) ((b.cell (Qj f)).t f) ((b.frozen (Qj f)).t m);have E:=(b.cell (Qj u)).t u;obtain⟨z,A,y,p⟩:=zh4 d a b h;clear k b h s f m u g
 go_enter func145,ntmps145
 go_upto_region 6 with fail
 rw[<-d,<-a];clear a d
 go_wp2_with (go_at_call 190;refine p.o.m ?_;rintro e w3⟨rfl,i,j⟩;obtain⟨v,x⟩:=zh2 i j;clear i j)
 go_ret;exact⟨rfl,v.o,(Fr.ofBelow y.o).t x.o⟩
end
end
end Go.Proofs.YtefccfakhgdfbaaGreatDoor
