/- Lemmas of the proof of All; their conditions stand in them. -/
import Derived.Test.YtefccfakhgdfbaaGreatDoorAl08
set_option linter.unusedVariables false
set_option linter.unusedSimpArgs false
open Go.RowKit Go.Proofs.Tryz
set_option maxRecDepth 100000
set_option maxHeartbeats 4000000
namespace Go.Proofs.YtefccfakhgdfbaaGreatDoor
section
abbrev PcAt(w:G)(ga gc:Nat):Prop:=w.heap[ga]?=some (.cells #[.pointer (some ⟨gc,0,none⟩)] 130 (0,0))
theorem Qbx(w:G)(g c:J)(n:(g=.pointer none/\c=.nilIface)∨∃ a,g=.pointer (some a)/\c=.iface 48 (.pointer (some a)))(key:O)(i:Int)(p:i<=9223372036854775807):Calls prog 25 #[g,.string key,.int .i64 i] w λe w'=>∃ ga gc gk mc,e=.returned (.pointer (some ⟨ga,0,none⟩))/\PcAt w' ga gc/\ClIs w' gc gk mc c ⟨key,0,hash [],⟨i.toNat,[]⟩⟩ []/\Bz w w'/\w.heap.size<=ga/\w.heap.size<=gc/\w.heap.size<=gk/\w.heap.size<=mc:=by
 have HC:=zh (Qt0 w c (n.imp (λh=>h.2) λ⟨a,h⟩=>⟨a,h.2⟩) key i p);rcases n with⟨rfl,rfl⟩|⟨a,rfl,rfl⟩
 all_goals
  go_enter func25,ntmps25
  go_wp2_with (first|go_at_call 82;refine HC.o.m ?_;rintro e w1⟨gc,gk,mc,rfl,f,d,k,l,m⟩;obtain⟨j,b⟩:=zh2 f d;clear f d|fail)
  exact zI (xX rfl _ _ _) rfl ⟨w1.heap.size,gc,gk,mc,rfl,zy w1 _,j.o.j (Qa w1 _),b.o.alloc b.o.size _,b.o.size,k,l,m⟩
variable {w:G}
theorem Q7w{g:Nat}{n:Int}{h:Hsh}(a:Qcl w g n h):Q7 w (.slice (some ⟨g,1,none⟩) 8 8) h.toList:=by
 unfold Q7;refine⟨_,8,by simp,by simp,λj x hx=>⟨g,1,rfl,?_⟩⟩;have hj:j<8:=by have:=(zj.1 hx).1;simpa using this
 have h1:=Qww n h j hj;rw[show (h.toList.map u8)[j]?=some (u8 h[j]) by simp[hj]] at hx;cases hx;unfold Qcl at a;simp only[World.cell?,a];exact h1
theorem Qnj(w:G)(j a gk l:Nat)(p:J)(c:Cl)(m:List CEnt)(i:PcAt w j a)(h:ClIs w a gk l p c m):Calls prog 31 #[.pointer (some ⟨j,0,none⟩)] w λe w'=>e=.returned (.tuple #[.int .i64 c.size,.string (HS c.root)])/\ClIs w' a gk l p c m/\Fr (·=a) w w':=by
 have c0:w.cell? ⟨j,0,none⟩=some (.pointer (some ⟨a,0,none⟩)):=Qd i 0 rfl;have HC:=zh (Qv5 w a gk l p c m h);obtain⟨n,hn⟩:∃ n:Int,n=c.size:=⟨_,rfl⟩
 obtain⟨k,hk⟩:=zzx c.root
 rw[<-hn,<-hk];obtain⟨HN,HK⟩:=zh2 hn hk;rw[<-hn,<-hk] at HC;clear i h hn hk
 go_enter func31,ntmps31
 go_wp2_with fail
 refine HC.o.m ?_;rintro e w1⟨rfl,d,f⟩;have T1:Qcl (w1.alloc (.cells (trC 0 Zb) 145)) w1.heap.size 0 Zb:=zy w1 _;have T2:=T1.set n k;have B2:=zC ((zu w1.heap.size w1).alloc (zg _) (.cells (trC 0 Zb) 145)) (g:=w1.heap.size) (zg _) (trC n k);have s:=zh T1;obtain⟨W,hW⟩:=zzx ((w1.alloc (.cells (trC 0 Zb) 145)).setRow w1.heap.size (trC n k))
 rw[<-hW] at T2 B2;have HW:=zh hW;have t:=Qdq (Q7w (T2.j (Ql _)));obtain⟨k0,_,_,_,_,_,_,_,_⟩:=(T2.j (Ql _)).cells;have u:=Qb T2;obtain⟨b,q,r⟩:=zh3 B2 d f;clear T1 T2 B2 hW d f
 go_wp2_with (refine Z8 rfl _ _ rfl _ n k rfl rfl _ _ s.o ?_)
 rw[show (w1.alloc (.cells #[.int .i64 0,.int .u8 0,.int .u8 0,.int .u8 0,.int .u8 0,.int .u8 0,.int .u8 0,.int .u8 0,.int .u8 0] 145)).setRow w1.heap.size (trC n k)=W from HW.o.symm];go_region
 all_goals (
  go_wp2
  go_ret2
  exact⟨rfl,q.o.j b.o.drew,r.o.t (Fr.ofBelow b.o.drew)⟩)
def Qlc(w:G)(gc gk mc gn gd:Nat)(vl vt:J)(qs:List CEnt)(r:Tld×(Ud×List Hsh)×Cl×Nt)(e:Ua)(w':G):Prop:=
 ∃ (nn:Bool) (v':J),e=.returned (.tuple #[.string (sOf r.2.1.1),.bool nn,v',Jh r.1.1 r.1.2])/\(nn=true->r.2.1.1 = [])/\(r.1=Qbs∨nn=true)/\Qq w' w.heap.size v' (r.2.1.2.map HS)/\
  ∃ qs',ClIs w' gc gk mc (.iface 48 (.pointer (some ⟨gn,0,none⟩))) r.2.2.1 qs'/\Yr w' gn gd vl vt r.2.2.2/\Fr (cnS gc gk mc gn vt qs) w w'/\Sub w (cnS gc gk mc gn vt qs) (cnS gc gk mc gn vt qs')
theorem ClM.kept{S:Nat->Prop}{ts:List TypeId}{g:Int}{w':G}{a gk f:Nat}{j:J}{c:Cl}{i:List CEnt}(h:ClM g w a gk f j c i)(d:Fr S w w')(b:Qas w S ts)(p:∀ k,S k->∃ C t fz,w.heap[k]?=some (.cells C t fz))(l:205 ∉ ts)(m:253 ∉ ts)(n:251 ∉ ts)(o:5 ∉ ts):ClM g w' a gk f j c i:=
 ⟨Ze h.cells d b l,Qfw h.cache d b (λe=>by
  obtain⟨C,t,fz,hC⟩:=p _ e
  obtain⟨D,⟨es,cl,hb,_⟩,_⟩:=h.cache.km.ex
  rw[hC] at hb;cases hb) m n o⟩
theorem Qo2{base:Nat}{a:Y Addr}{n c:Nat}{l:Ud}(h:Q3 w base (.slice a n c) l):∀ z,(Value.slice a n c).ownBlock=some z->∃ C fz,w.heap[z]?=some (.cells C 5 fz):=λz hz=>by
 rcases h with⟨h1,_⟩|⟨b,off,c',C,fz,h1,_,_,h4,_⟩
 .cases h1;cases hz
 cases h1
 have:b=z:=by simpa [Value.ownBlock] using hz
 subst this
 exact⟨C,fz,h4⟩
theorem Qsl(F:Nat->Addr)(w:G)(ga d gk x s gd:Nat)(vl A:J)(i:Int)(z:List CEnt)(r:Tld×(Ud×List Hsh)×Cl×Nt)(L:PcAt w ga d)(hE:Qbj F (cnS d gk x s A z) w)(X:∀ k,cnS d gk x s A z k->k<w.heap.size)(N:r.2.1.2.length<=1048576)(hc:Calls prog 93 #[.pointer (some ⟨d,0,none⟩),.int .i64 i] (w.alloc (.cells #[.int .i64 0,.string ⟨#[]⟩] 63)) (Qiy F (w.alloc (.cells #[.int .i64 0,.string ⟨#[]⟩] 63)) d gk x s gd vl A z r)):Calls prog 36 #[.pointer (some ⟨ga,0,none⟩),.int .i64 i] w (Qlc w d gk x s gd vl A z r):=by
 obtain⟨⟨tk,tp⟩,⟨bb,hh⟩,c1,n1⟩:=r;obtain⟨W0,c⟩:=zzx (w.alloc (.cells #[.int .i64 0,.string ⟨#[]⟩] 63))
 have H:Bz w W0:=by rw[c];exact Qa w _
 have ac:Zq W0 w.heap.size 0 ⟨#[]⟩:=by rw[c];exact Qb5 w
 have a9:W0.heap.size=w.heap.size+1:=by rw[c];simp
 have c0:W0.cell? ⟨ga,0,none⟩=some (.pointer (some ⟨d,0,none⟩)):=Qd ((H.block _ (Qb L)).t L) 0 rfl;obtain⟨i0,a2,a4,_,_⟩:=ZZ Qgn;rw[<-c] at hc;obtain⟨ay,ao,aw,HE,aq,aj,HC⟩:=zh7 c H ac hE X N hc;clear L hE X N hc c H ac
 go_enter func36,ntmps36
 go_upto_region 1 with fail
 rw[show w.alloc (.cells #[.int .i64 0,.string ⟨#[]⟩] 63)=W0 from ay.o.symm]
 go_upto_region 2 with (first|go_at_call 93;refine HC.o.m ?_;rintro e w1⟨u,v,y,rfl,hu,hv,hy,a6,R,Z,T,ab,ag⟩;obtain⟨ua,un,uc,rfl⟩:=Qi1 hu;obtain⟨HU,HV,HY,ap,ar,B,av,az⟩:=zh8 hu hv hy R Z T ab ag;clear hu hv hy R Z T ab ag|fail)
 have hu:=HU.o;have a8:=Qdq hu.at;have hq:=vV (P:=prog) w1 147 5 ua un uc 0 0 underlying147;have W:Qas w1 (λk=>(Value.slice ua un uc).ownBlock=some k) [5]:=λk C t f hs hk=>by obtain⟨C',fz',h'⟩:=Qo2 hu k hs;rw[hk] at h';cases h';simp
 have Q:=Qr0 hu;have ad:Zq w1 w.heap.size 0 ⟨#[]⟩:=B.o.heap aw.o λe=>by have:=aq.o _ e;omega
 have K:Fr (cnS d gk x s A z) w w1:=(Fr.ofBelow ao.o).t B.o;obtain⟨l,ak,ax,ah,D⟩:=zh5 W Q ad K hu;clear hu W Q ad K c0
 go_wp2_with (first|refine Qcu rfl _ 147 rfl i0 underlying147 a2 a4 W0.heap.size _ bb rfl D.o ?_;intro w3 n3 V an a5;have a:=zh (Fr.ofGrown (S:=λk=>(Value.slice ua un uc).ownBlock=some k) V λk _ e=>e);have E:=zh (show Qa5 w3 0 v hh from Zg (Zm HV.o a.o l.o (by decide)) (zE _));clear V an a5|go_at_call 86;refine (Qoc v hh w3 E.o aj.o).m ?_;rintro e w4⟨v4,rfl,aa,U⟩;obtain⟨au,g,n⟩:=zh3 aa U (Qeo E.o);clear aa U|go_at_call 87;have h:Fr (cnS d gk x s A z) w w4:=(ah.o.step a.o λi h1 h2=>absurd (ak.o i h2).1 (by omega)).step g.o (λi h1 h2=>absurd (HV.o.lt i h2).1 (by omega));have ai:=zh h;have af:=(HY.o.fr a.o (λk C fz hC=>Z3 l.o hC (by decide))).fr g.o (λk C fz hC=>Z3 n.o hC (by decide));have ae:=(ax.o.kept a.o l.o (by decide)).kept g.o n.o (by decide);refine (Q7s (HE.o w4 h).2.1 af).m ?_;rintro e w5⟨rfl,I⟩;obtain⟨j,p⟩:=zh2 I (ae.j I);obtain⟨t0,t1,t2,t3,t4⟩:=p.o.facts;clear h af ae I|fail)
 have a3:=Qdi (m:=tk) (t:=tp) p.o;have M:=Q1 p.o;have q:=a3.2;refine zI (v:=.tuple #[.string (sOf bb),.bool ua.isNone,v4,Jh tk tp]) (by simp[results,results36,go_sem,t0,t1,sOf]) rfl ⟨ua.isNone,v4,rfl,?_,?_,?_,a6,?_,?_,?_,?_⟩
 .intro hn
  rcases D.o with⟨_,h1⟩|⟨b,off,cc,C,fz,h1,_⟩
  .exact h1
  cases h1;cases hn
 .rcases az.o with h1|h1
  .exact .inl h1
  cases h1;exact .inr rfl
 .exact Zg (Zm (Qn au.o j.o) q M (by decide)) (by have:=a.o.size;have:=B.o.size;omega)
 .have h3:=ClM.back ap.o a.o (Qo2 D.o)
  have h4:=h3.kept g.o n.o (λk hk=>by obtain⟨C,hC⟩:=Qk E.o hk;exact⟨C,_,_,hC⟩) (by decide) (by decide) (by decide) (by decide);exact (h4.j j.o).kept q M (λk hk=>⟨_,_,_,(show w5.heap[k]?=_ from hk ▸ p.o)⟩) (by decide) (by decide) (by decide) (by decide)
 .have h3:=Jc ar.o a.o l.o (by decide) (by decide) (by decide)
  have h4:=Jc h3 g.o n.o (by decide) (by decide) (by decide);exact Jc (h4.j j.o) q M (by decide) (by decide) (by decide)
 .exact (ai.o.t (Fr.ofBelow j.o)).step q λi h1 h2=>by omega
 exact av.o.m (by omega)
theorem Ql7(w:G)(b:Nat)(a:List Fil):Calls prog 24 #[.pointer (some ⟨b,0,none⟩)] w λe w'=>∃ gn,e=.returned (.pointer (some ⟨gn,0,none⟩))/\Yr w' gn b (.slice none 0 0) (.slice none 0 0) ⟨a,[],[],0⟩/\Bz w w'/\w.heap.size<=gn:=by
 go_enter func24,ntmps24
 go_wp2;exact zI (xX rfl _ _ _) rfl ⟨w.heap.size,rfl,⟨zy w _,zv _ _ _ _,zv _ _ _ _,rfl,λk hk=>by simp at hk⟩,Qa w _,zg _⟩
theorem Zcu:(prog.info? 47).map (λi=>(i.zero,i.size,i.bytes))=some (some (.agg #[.string ⟨#[]⟩,.string ⟨#[]⟩,.bool false,.int .i64 0]),4,48):=by kernel_rfl
theorem Q46:∃ i,prog.info? 47=some i/\i.zero=some (.agg #[.string ⟨#[]⟩,.string ⟨#[]⟩,.bool false,.int .i64 0])/\i.size=4/\i.bytes=48:=by
 have h:=Zcu;cases hi:prog.info? 47 with
 | none=>rw[hi] at h;simp at h
 | some i=>rw[hi] at h;simp at h;exact⟨i,rfl,h.1,h.2.1,h.2.2⟩
theorem Q3a{l:List Lie1}:∀ u∈Qer l,u.oneCell'=true:=by intro u hu;unfold Qer at hu;obtain⟨f,_,hf⟩:=VR.1 hu;simp[Qtk] at hf;rcases hf with rfl|rfl|rfl|rfl <;> rfl
theorem Q28{w:G}{base:Nat}{t:TypeId}{b n c:Nat}{xs:List J}(h:w.ownsRow base t 4 (.slice (some ⟨b,0,none⟩) n c) n xs):∀ j u,xs[j]?=some u->w.cell? ((⟨b,0,none⟩:Addr).add j)=some u:=h.cells (g:=b) rfl
theorem Zd7:(prog.info? 3).map (λi=>(i.zero,i.size,i.bytes))=some (some (.int .i64 0),1,8):=by kernel_rfl
theorem Q4h(n:Nat):(madeCells (Value.int .i64 0).cells (n*1)).toList=Qhr (List.replicate n 0):=by
 have h:∀ m,List.map (λx=>[Value.int IntKind.i64 0][x%1]?.getD default) (List.range m)=List.replicate m (Value.int IntKind.i64 0):=λm=>by rw[List.eq_replicate_iff];refine⟨by simp,λb hb=>?_⟩;obtain⟨x,_,rfl⟩:=zU.1 hb;rw[Vv];rfl
 simp[madeCells,Qhr,Value.cells,h]
theorem Qv1(w:G)(a:Y Addr)(n c:Nat):(binOp .eql 23 (.slice a n c) (.slice none 0 0)).run prog w=.ok (.bool a.isNone) w:=vV w _ _ a n c 0 0 underlying23
theorem Q1l(w:G)(v:J)(l:List Lie1)(a:w.ownsRow 0 47 4 v l.length (Qer l))(d:l.length<=1073741824):Calls prog 84 #[v] w λe w'=>∃ v',e=.returned v'/\w'.ownsRow w.heap.size 47 4 v' l.length (Qer l)/\Bz w w':=by
 obtain⟨i,hi,hz,hs,c⟩:=Q46;rcases a.2 with⟨rfl,h0⟩|⟨b,cap,cur,rfl,_,hb,_⟩
 .have hq:=Qv1 w none 0 0
  have hl:l = []:=zG h0;subst hl;clear a h0
  go_enter func84,ntmps84
  go_wp2;go_ret;exact⟨_,rfl,zv _ _ _ _,zu _ _⟩
 have hq:=Qv1 w (some ⟨b,0,none⟩) l.length cap;have HV:=zh a;have f:=Qb hb;obtain⟨HI,HN⟩:=zh2 (⟨hi,hz,hs,c⟩:_/\_/\_/\_) d;clear a hb hi hz hs c d
 go_enter func84,ntmps84
 go_wp2_with (at_builtin;refine Vt _ rfl _ _ 23 rfl w.heap.size 47 i _ 4 48 underlying23 HI.o.1 HI.o.2.1 HI.o.2.2.1 HI.o.2.2.2 rfl (by decide) (.slice (some ⟨w.heap.size,0,none⟩) 0 0) 0 [] rfl (Qt4 w 47 4) ⟨b,0,none⟩ l.length cap (Qer l) rfl (Q3g l) (Q28 (Qn HV.o (Qa w _))) Q3a (by have:=HN.o;unfold maxLen;omega) (by have:=HN.o;omega) (by simp) ?_;intro v' w' h2 h3 _)
 go_ret;refine⟨v',rfl,by simpa using h2,((Qa w _).grown h3 (by simp) λk hk=>?_)⟩;simp[Value.ownBlock] at hk;omega
theorem Qmi(w:G)(b x:Nat)(E m v:J)(n:Nt)(l:List Lie1)(h:Yr w b x E m n)(z:w.ownsRow 0 47 4 v l.length (Qer l))(C:l.length<=1073741824):Calls prog 28 #[.pointer (some ⟨b,0,none⟩),v] w λe w'=>∃ vl' vt',e=.returned (.tuple #[])/\Yr w' b x vl' vt' { n with lies:=l,told:=List.replicate l.length 0 }/\Fr (netS b m) w w'/\Sub w (netS b m) (netS b vt'):=by
 obtain⟨a,c,rfl⟩:∃ a c,v=.slice a l.length c:=Zo z;obtain⟨ln,g⟩:=zzx l.length
 have HC:=zh (Q1l w _ l z C);obtain⟨⟨c0,c1,c2,c3⟩,cf⟩:=h.heads;have F:=h.lt;have H:=zh h;have I:ln<=1073741824:=by omega
 rw[<-g] at HC ⊢;have r:=zh g;clear h z g C
 go_enter func28,ntmps28
 go_upto_region 1 with (first|go_at_call 84;refine HC.o.m ?_;rintro e w1⟨v1,rfl,j,f⟩;obtain⟨H1,B,p⟩:=zh3 (H.o.j f) j f;obtain⟨a1,k1,rfl⟩:=Zo j;obtain⟨⟨e0,e1,e2,e3⟩,ef⟩:=H1.o.heads;have y:=H1.o.lt;clear j f|fail)
 obtain⟨i,hi,hz,hs,s⟩:=Qv0;have HI:=zh (⟨hi,hz,hs,s⟩:_/\_/\_/\_);clear hi hz hs s;have t:(w1.setCell ⟨b,1,none⟩ (.slice a1 ln k1)).heap[b]?=some (.cells (Qpu x (.slice a1 ln k1) m n) 126 (0,0)):=(heap_setCell H1.o.cells _).t (by simp[Qpu]);have A:=zh t;clear t
 go_wp2_with (refine wpList_make_full _ rfl _ _ _ rfl w1.heap.size 3 i _ 1 underlying124 HI.o.1 HI.o.2.1 HI.o.2.2.1 .i64 .i64 ln ln ln rfl rfl rfl rfl (by rw[HI.o.2.2.2];omega) (by unfold maxLen;omega) (by simp) ?_;intro w2 h2 h3;have H2:=zh h2;have b2:=(zu (w1.setCell ⟨b,1,none⟩ (.slice a1 ln k1)).heap.size _).grown h3 (zg _) (λk hk=>by cases hk);have B2:=zh b2;have d:=(b2.block b (by simp;exact y)).t A.o;have q:=zh d;have y2:=Qd d 2 rfl;have yf:=Qu d 2;have ylt:=Qb d;clear h2 h3 b2 d)
 go_end0;have f1:=Fr.set1 w1 b 1 (.slice a1 ln k1);have f2:=Fr.set1 w2 b 2 (.slice (some ⟨w1.heap.size,0,none⟩) ln ln);have D:=Q1 H1.o.cells;have u:=Q1 q.o;have ho:=Zm (Qn (Zm B.o f1 D (by decide)) B2.o) f2 u (by decide);have ht:=Zm H2.o f2 u (by decide);refine⟨.slice a1 ln k1,.slice (some ⟨w1.heap.size,0,none⟩) ln ln,rfl,⟨(heap_setCell q.o _).t (by simp[Qpu]),?_,?_,?_,?_⟩,?_,?_⟩
 .rw[<-r.o]
  exact Zg ho (zE _)
 .rw[Xe,<-Q4h]
  have:=Zg ht (zE _)
  simpa using this
 .rw[Xe];exact r.o
 .intro k hk
  rw[List.eq_of_mem_replicate hk];exact zE _
 .exact ((((Fr.ofBelow p.o).t (f1.weak λ_ _ e=>.inl e)).t (Fr.ofBelow B2.o)).t (f2.weak λ_ _ e=>.inl e))
 intro k hk;rcases hk with e|e
 .exact .inl (.inl e)
 have:w1.heap.size=k:=by simpa [Value.ownBlock] using e
 exact .inr (by have:=p.o.size;omega)
theorem Qte(es:Uc)(k w:Nat):(es.take (4*k))++(es.drop (4*k)).take w=es.take (4*k+w):=by rw[List.take_add]
section
variable {es:Uc} {l:List Fil} (hl:es.length<=1048576) (hs:∀ e∈es,e.length<=20) (hT:Qb1 es l) (hB:Q30 es l)
include hl hs hT hB
variable {n:Nat}
theorem Q0n(c:n<=es.length)(b:Q30 (es.take n) l):∀ (m i:Nat),4*(m+i)<n+4->n<=4*(m+i)->Qct l n m i (es.take (min n (4*i)))=(es.take n,none)
 | 0,i,h1,h2=>by have:=hl;have:=hT;have:=hB;rw[Qct,ZB (by omega)]
 | m+1,i,h1,h2=>by
  have a:(es.take n).length=n:=by rw[zm,ZB c]
  have d:∀ e∈es.take n,e.length<=20:=λe he=>hs e (zQ he)
  have hg:=b i (by rw[a];omega)
  rw[a] at hg
  have hb:=Qp9 d (l:=l) (j:=i) (w:=min 4 (n-4*i)) (by omega) (by omega) (by rw[a];omega) hg
  rw[Qct,hb]
  dsimp only
  have e:es.take (min n (4*i))++((es.take n).drop (4*i)).take (min 4 (n-4*i))=es.take (min n (4*(i+1))):=by
   rw[Xg (show 4*i<=n by omega)]
   rw[show es.take (4*i)=(es.take n).take (4*i) by rw[vX,ZB (by omega)],Qte,vX]
   congr 1
   omega
  rw[e]
  exact Q0n c b m (i+1) (by omega) (by omega)
variable {k:Nat}
theorem Q8l{W:Nat}(g:k<=es.length)(b:1<=W)(d:W<=4)(h:es.length<4*(k / 4)+W):getF l (Y0 (k / 4) W)=none:=by
 have:=hs;have:=hB
 rw[Qey];intro f hf e;rcases hT f hf with h2|h2
 .exact Qfx _ _ _ (Qda (e.symm.t h2))
 rw[e] at h2;obtain⟨m,j,w,r,k1,k2,k3,k4,k5,_⟩:=h2;have c:=Qp6 hl k1 k2 k3 k4;have a:Ja (-1) ((k / 4:Nat):Int) W:=by unfold Ja;omega
 have e2:=Qfp a c.1 (by omega) c.2 (Qda k5);obtain rfl:m=0:=by omega
 rw[Qbe] at k1;cases k1;rw[zA] at k4;omega
theorem Qhu(a:k<=es.length){w0:Nat}(c:k%4<=w0)(d:es.length<4*(k / 4)+(w0+1)):∀ (x:Nat),w0+x<=4->Ya l (es.take k) (w0+x)=Ya l (es.take k) w0
 | 0,_=>rfl
 | x+1,h=>by
  have b:(es.take k).length=k:=by rw[zm,ZB a]
  rw[show w0+(x+1)=w0+x+1 by omega,Ya,b,zw (by omega),Q8l hl hs hT hB a (by omega) (by omega) (by omega),zD (show (none:Y O).isNone=true from rfl)]
  exact Qhu a c d x (by omega)
theorem Qw1:Zx l es=([],false):=by
 have h:=Qhu hl hs hT hB (zg es.length) (w0:=es.length%4) (zg _) (by omega) (4-es.length%4) (by omega);rw[vz,show es.length%4+(4-es.length%4)=4 by omega] at h;unfold Zx;rw[h];cases hm:es.length%4 with
 | zero=>rfl
 | succ x=>rw[Ya,zD (by omega)]
theorem Qwe(b:k<es.length):Zx l (es.take k)=(((es.drop (4*(k / 4))).take (min 4 (es.length-4*(k / 4)))).drop (k%4),decide (min 4 (es.length-4*(k / 4))=4)):=by
 have a:(es.take k).length=k:=by rw[zm,ZB (by omega)]
 obtain⟨w,hw⟩:∃ w,w+1=min 4 (es.length-4*(k / 4)):=⟨min 4 (es.length-4*(k / 4))-1,by omega⟩
 have hg:=hB (k / 4) (by omega);rw[<-hw] at hg ⊢;have hd:Zx l (es.take k)=Ya l (es.take k) (w+1):=by
  unfold Zx;rcases zK (w+1) 4 with h4|h4
  .have h:=Qhu hl hs hT hB (VD b) (w0:=w+1) (by omega) (by omega) (4-(w+1)) (by omega)
   rw[show w+1+(4-(w+1))=4 by omega] at h;exact h
  rw[show w+1=4 by omega]
 have hb:=Qp9 hs (l:=l) (j:=k / 4) (w:=w+1) (by omega) (by omega) (by omega) hg;rw[hd,Ya,a,zw (by omega),hg,zw (by simp),hb];dsimp only;rw[zD];rw[vX,xv,ZB (by omega)]
 congr 1
 omega
theorem Q0m:∀ (x k:Nat),k+x=es.length->Goes l (es.take k) es
 | x,k,h=>by
  rcases zK k es.length with hk|hk
  .have hf:=Qwe hl hs hT hB hk
   have e:es.take k++(((es.drop (4*(k / 4))).take (min 4 (es.length-4*(k / 4)))).drop (k%4))=es.take (min (4*(k / 4)+4) es.length):=by
    have e1:es.take k=es.take (4*(k / 4))++(es.drop (4*(k / 4))).take (k%4):=by rw[Qte];congr 1;omega
    have e2:(es.drop (4*(k / 4))).take (k%4)=((es.drop (4*(k / 4))).take (min 4 (es.length-4*(k / 4)))).take (k%4):=by rw[vX,ZB (by omega)]
    rw[e1,e2,ZS,xo,Qte]
    congr 1
    omega
   by_cases h4:min 4 (es.length-4*(k / 4))=4
   .refine .more (by rw[hf];simp[h4]) ?_
    rw[hf]
    dsimp only
    rw[e,show min (4*(k / 4)+4) es.length=4*(k / 4)+4 by omega]
    exact Q0m (es.length-(4*(k / 4)+4)) (4*(k / 4)+4) (by omega)
   have h2:Goes l (es.take k) (es.take k++(Zx l (es.take k)).1):=.stop (by rw[hf];simp[h4])
   rw[hf] at h2
   dsimp only at h2
   rw[e,show min (4*(k / 4)+4) es.length=es.length by omega,vz] at h2
   exact h2
  obtain rfl:k=es.length:=by omega
  rw[vz]
  have hf:=Qw1 hl hs hT hB
  have h2:Goes l es (es++(Zx l es).1):=.stop (by rw[hf])
  rw[hf,ZW] at h2
  exact h2
termination_by x=>x
decreasing_by omega
variable {key:O}
theorem Q56(c:n<=es.length)(a:Q30 (es.take n) l)(b:Y4 l key=some (n,rootOf (es.take n))):Yu l key (.good es n):=by
 refine .fine b ?_ rfl (Q0m hl hs hT hB (es.length-n) n (by omega))
 have:=Q0n hl hs hT hB c a ((n+3) / 4) 0 (by omega) (by omega)
 rw[Nat.mul_zero,Nat.min_zero,xZ] at this;exact this
end
variable {key:O}
theorem Q6f{l:List Fil}(h:getF l (sOf kCp)=none):Y4 l key=some (0,rootOf []):=by unfold Y4;rw[h];rfl
structure Qbm(d:Dk):Prop where
 failAt:d.failAt=0
 dead:d.dead=false
 hit:d.hit=false
variable {d:Dk}
theorem Qbm.noHit(h:Qbm d):Ji d=false:=by unfold Ji;rw[h.failAt];simp
theorem Qbm.enter(h:Qbm d):Qbm (Zu d):=by unfold Zu;rw[h.noHit];exact⟨h.failAt,h.dead,h.hit⟩
theorem Qbm.swap(h:Qbm d)(p b:O):Qbm (Qcz d p b):=by
 have:=h.enter
 unfold Qcz
 split
 .exact⟨this.failAt,this.dead,this.hit⟩
 exact this
theorem Qbm.put(h:Qbm d)(p b:O):Qbm (putD d p b):=by
 have:=h.enter
 unfold putD
 split
 .exact⟨this.failAt,this.dead,this.hit⟩
 exact h.swap p b
theorem Qbm.puts:∀ (fs:List Fil) {d:Dk},Qbm d->Qbm (putsD d fs).1
 | [],_,h=>h
 | f :: fs,d,h=>by
  unfold putsD
  split
  .exact h.put _ _
  exact Qbm.puts fs (h.put _ _)
theorem Qbm.pubJ:∀ (rs:List Uc) (n:Nat) (put:List Nat) {d:Dk},Qbm d->Qbm (pubJ n rs put d).1
 | [],_,_,_,h=>h
 | r :: rs,n,put,d,h=>by
  unfold Proofs.YtefccfakhgdfbaaGreatDoor.pubJ
  dsimp only
  split
  .exact Qbm.puts _ h
  exact Qbm.pubJ rs (n+1) _ (Qbm.puts _ h)
theorem Qbm.pub(h:Qbm d)(es:Uc)(key:O)(a:List Nat):Qbm (pubD es key a d).1:=by
 unfold pubD
 split
 .exact Qbm.pubJ _ _ _ h
 exact (Qbm.pubJ _ _ _ h).swap _ _
structure Qkp(es:Uc)(put:List Nat)(d:Dk):Prop where
 fresh:Qma d
 true':Qb1 es d.files
 puts:Qj7 d.files (Zc es) put
variable {es:Uc} {put:List Nat}
theorem Qkp.append(h:Qkp es put d)(e:Ud):Qkp (es ++ [e]) put d:=⟨h.fresh,h.true'.more _,Qrv e h.puts⟩
theorem Qgx(key:O)(a:es.length<=1048576)(b:Qbm d)(h:Qkp es put d):(pubD es key put d).2.2=none/\Qbm (pubD es key put d).1/\Qkp es (pubD es key put d).2.1 (pubD es key put d).1/\Jn es es.length (pubD es key put d).1.files/\getF (pubD es key put d).1.files (sOf kCp)=some (cpOf es key)/\
   (∀ N,Jn es N d.files->Jn es N (pubD es key put d).1.files)/\(pubD es key put d).1.files.length<=d.files.length+12*(es.length+3)+1/\(pubD es key put d).1.calls<=d.calls+12*(es.length+3)+1:=by
 obtain⟨h1,h2,h3,h4,h5,h6,h7⟩:=Qjs key a h.fresh (h.true'.noClash a) h.puts;have hQ:=b.pub es key put;rcases h7 with⟨k1,k2,k3,k4,k5⟩|⟨p,k1,k2,_⟩
 .refine⟨k1,hQ,⟨k2,λf hf=>?_,k3⟩,?_,k5,λN hN=>hN.kept h1,h5,h6⟩
  .rcases h4 f hf with h8|h8|h8
   .exact h.true' f h8
   .exact .inr (Qgh h8)
   left;rw[h8]
  unfold Jn;rw[vz];exact k4
 have:=hQ.hit
 rw[k2] at this;cases this
theorem Q5s(d:Dk)(a:d.files = [])(b:d.dead=false)(c:d.hit=false)(e:d.turned=false):Qkp [] [] d:=
 ⟨⟨b,c,e,by rw[a];exact VU⟩,by rw[a];exact Qb1.nil _,Qvq _ _⟩
def nmT(N k j:Nat):O:=Qt ((k:Nat):Int) j (Zr j (N / 4 ^ k))
variable {N L:Nat} {p:O}
theorem Q23{a:Nat}(h:p∈Qih N L a):p=nmT N (L / 2) (a*2 ^ L / 4 ^ (L / 2+1)):=by
 unfold Qih at h;by_cases ho:L%2=1
 .obtain⟨k,rfl⟩:∃ k,L=2*k+1:=⟨L / 2,by omega⟩
  rw[zD ho,show 2*k+1-1=2*k by omega] at h;have e:a*2 ^ (2*k+1) / 4 ^ ((2*k+1) / 2+1)=a / 2:=by rw[show (2*k+1) / 2=k by omega,ZD,Qg4,ZD,show 4 ^ k*4=(4 ^ k*2)*2 by omega,<-Vy,XB _ (by have:=VG (n:=k) (show 0<4 by decide);omega)]
  rw[e,show (2*k+1) / 2=k by omega];rcases ZL.1 h with h|h
  .unfold Qk4 at h
   rw[zS] at h;rw[h,show 2*k / 2=k by omega,Qg4,show 2*a / 4=a / 2 by omega];rfl
  unfold Qk4 at h;rw[zS] at h;rw[h,show 2*k / 2=k by omega,Qg4,show (2*a+1) / 4=a / 2 by omega];rfl
 obtain⟨k,rfl⟩:∃ k,L=2*k:=⟨L / 2,by omega⟩
 rw[zw ho] at h;have e:a*2 ^ (2*k) / 4 ^ (2*k / 2+1)=a / 4:=by rw[show 2*k / 2=k by omega,Qg4,ZD,<-Vy,XB _ (VG (show 0<4 by decide))]
 unfold Qk4 at h;rw[zS] at h;rw[h,e,show 2*k / 2=k by omega,Qg4];rfl
theorem Qw6(L:Nat):2 ^ L &&& (2 ^ L-1)=0:=by rw[Nat.and_two_pow_sub_one_eq_mod,Nat.mod_self]
variable {a:Nat}
theorem Zbr{b:Nat}(h:2 ^ a=2 ^ b):a=b:=by have h1:=(xJ (a:=2) (by decide)).1 (VN h);have h2:=(xJ (a:=2) (by decide)).1 (VN h.symm);omega
variable {c:Nat}
theorem Qip{f:Nat}(d:L<=60)(b:c%2 ^ L=0)(h:p∈Qa4 N f c (2 ^ L)):p=nmT N (L / 2) (c / 4 ^ (L / 2+1)):=by
 cases f with
 | zero=>simp[Qa4] at h
 | succ f=>
  have hp:=vR L;rw[Qa4,zD ⟨Qw6 L,b⟩] at h;have a:2 ^ L<2 ^ 64:=Nat.pow_lt_pow_right (by decide) (by omega);have hb:=Zbr (Qf3 hp a (Qw6 L));rw[<-hb] at h
  have:=Q23 h
  rw[Nat.div_mul_cancel (Vi b)] at this;exact this
variable {n:Nat}
theorem Quq(h:2<=n)(a:n<2 ^ 60):∃ x,below n=2 ^ x/\2 ^ x<n/\n<=2 ^ (x+1):=by
 have hb:=Vo 64 (n-1) (by omega) (by omega);have hs:Lib.bitLen (n-1)=Lib.bitLenAux 64 (n-1):=rfl;refine⟨Lib.bitLen (n-1)-1,rfl,?_,?_⟩
 .rw[hs];omega
 rw[hs,show Lib.bitLenAux 64 (n-1)-1+1=Lib.bitLenAux 64 (n-1) by omega];omega
variable {x:Nat}
theorem Qtc{y:Nat}(h:a%2 ^ y=0)(b:x<=y):a%2 ^ x=0:=
 za8 (zb5 (zal 2 b) (Vi h))
theorem Qn3(h:a%2 ^ x=0):(a+2 ^ x)%2 ^ x=0:=by rw[XR];exact h
theorem Qu3{e:Nat}(g:N=c+n)(f:2 ^ e<=n)(b:n<=2 ^ (e+1))(d:c%2 ^ e=0)(a:2 ^ e<n->c%2 ^ (e+1)=0):c / 4 ^ (e / 2+1)=(N / 4 ^ (e / 2)-1) / 4:=by
 obtain⟨k,hk⟩:=zzx (e / 2)
 rw[<-hk];have hp:0<4 ^ k:=VG (by decide);rw[ZD,<-Vy];rcases Xv e with h0|h0
 .obtain rfl:e=2*k:=by omega
  rw[Qg4] at f d a;rw[ZD,Qg4] at b a;obtain⟨q,rfl⟩:=Vi d;rw[Vr _ hp];have hN:N / 4 ^ k=q+n / 4 ^ k:=by rw[g,Nat.mul_add_div hp]
  rw[hN];have a1:1<=n / 4 ^ k:=(vG hp).2 (by omega);have a2:n / 4 ^ k<=2:=by
   have:=zau (c:=4 ^ k) b
   rw[Vr _ hp] at this;exact this
  rcases zK (4 ^ k) n with h3|h3
  .have h4:=a h3
   have h5:q%2=0:=by
    rw[zav] at h4;rcases Nat.mul_eq_zero.1 h4 with h|h
    .omega
    exact h
   omega
  have:n / 4 ^ k=1:=by rw[show n=4 ^ k by omega];exact Nat.div_self hp
  omega
 obtain rfl:e=2*k+1:=by omega
 rw[ZD,Qg4] at f d a;rw[ZD,ZD,Qg4] at b a;obtain⟨q,rfl⟩:=Vi d;have hq:4 ^ k*2*q / 4 ^ k=2*q:=by rw[Vk,Vr _ hp]
 rw[hq];have hN:N / 4 ^ k=2*q+n / 4 ^ k:=by rw[g,Vk,Nat.mul_add_div hp]
 rw[hN];have a1:2<=n / 4 ^ k:=(vG hp).2 (by omega);have a2:n / 4 ^ k<=4:=by
  have:=zau (c:=4 ^ k) b
  rw[Vk,Vr _ hp] at this;exact this
 rcases zK (4 ^ k*2) n with h3|h3
 .have h4:=a h3
  have h5:q%2=0:=by
   rw[zav] at h4;rcases Nat.mul_eq_zero.1 h4 with h|h
   .omega
   exact h
  omega
 have:n / 4 ^ k=2:=by rw[show n=4 ^ k*2 by omega,Vr _ hp]
 omega
def Zd1(N i K:Nat)(p:O):Prop:=∃ k,4 ^ k<K/\(p=nmT N k (i / 4 ^ (k+1))∨p=nmT N k ((N / 4 ^ k-1) / 4))
theorem Qso{k:Nat}(h:k=x / 2):4 ^ k<=2 ^ x:=by rw[<-Qg4];exact ZI (by decide) (by omega)
variable {i K:Nat}
theorem Qri(s:K<2 ^ 59):∀ (f c n z:Nat) (p:O),N=c+n->1<=n->n<K->n<=2 ^ z->c%2 ^ z=0->p∈Qa4 N f c n->Zd1 N i K p
 | 0,c,n,z,p,_,_,_,_,_,h=>by simp[Qa4] at h
 | f+1,c,n,z,p,hN,h1,hk,hz,hc,h=>by
   by_cases hp:n &&& (n-1)=0/\c%n=0
   .have j:=Qf3 h1 (by omega) hp.1
    obtain⟨e,he⟩:=zzx (Lib.bitLen n-1)
    rw[<-he] at j
    have l:e<=60:=by
     rcases zK 60 e with b|a
     .have:=ZI (n:=2) (by decide) b
      omega
     exact a
    have g:=hp.2
    rw[j] at h g
    refine⟨e / 2,by have:=Qso (x:=e) rfl;omega,.inr ?_⟩
    rw[Qip l g h,Qu3 hN (by omega) (by rw[ZD];omega) g λb=>by omega]
   rw[Qa4,zw hp] at h
   have q:2<=n:=by
    rcases zK n 2 with b|a
    .obtain rfl:n=1:=by omega
     exact absurd ⟨by decide,Vv c⟩ hp
    exact a
   obtain⟨x,hx,t,k⟩:=Quq q (by omega)
   have r:x+1<=z:=by
    have:2 ^ x<2 ^ z:=by omega
    exact (VL (by decide)).1 this
   have m:x<=60:=by
    rcases zK 60 x with b|a
    .have:=ZI (n:=2) (by decide) b
     omega
    exact a
   have o:=Qtc hc r
   have d:=Qtc hc (show x<=z by omega)
   rw[hx] at h
   rcases ZL.1 h with h|h
   .refine⟨x / 2,by have:=Qso (x:=x) rfl;omega,.inr ?_⟩
    rw[Qip m d h,Qu3 hN (by omega) k d λ_=>o]
   exact Qri s f (c+2 ^ x) (n-2 ^ x) x p (by omega) (by omega) (by omega) (by rw[ZD] at k;omega) (Qn3 d) h
theorem Qws{s:Nat}(g:a%2 ^ (x+1)=0)(b:a<=s)(c:s<a+2 ^ (x+1))(d:a<=i)(f:i<a+2 ^ (x+1)):s / 4 ^ (x / 2+1)=i / 4 ^ (x / 2+1):=by
 obtain⟨y,hy⟩:∃ y,2*(x / 2+1)=x+1+y:=⟨2*(x / 2+1)-(x+1),by omega⟩
 have e:4 ^ (x / 2+1)=2 ^ (x+1)*2 ^ y:=by rw[<-Qg4,hy,Nat.pow_add]
 have hp:=vR (x+1);obtain⟨q,rfl⟩:=Vi g;have k:∀ t,2 ^ (x+1)*q<=t->t<2 ^ (x+1)*q+2 ^ (x+1)->t / 2 ^ (x+1)=q:=λt t1 t2=>by
  apply xD
  .rw[vE];exact t1
  rw[vC,vP,vE q];exact t2
 rw[e,<-Vy,<-Vy,k s b c,k i d f]
theorem Qmg(m:K<2 ^ 59)(k:N<=K):∀ (f a b y:Nat) (p:O),b-a<=f->a<=i->i<b->b<=N->a%2 ^ y=0->b-a<=2 ^ y->(b=N∨b-a=2 ^ y)->(∃ x∈Y7 f a b i,p∈Qa4 N (x.2-x.1) x.1 (x.2-x.1))->Zd1 N i K p
 | 0,a,b,y,p,h0,h1,h2,_,_,_,_,_=>by omega
 | f+1,a,b,y,p,h0,h1,h2,h3,ha,hy,hb,h=>by
   obtain⟨r,hr,hp⟩:=h
   rw[Y7] at hr
   by_cases h4:b-a<=1
   .rw[zD h4] at hr;cases hr
   rw[zw h4] at hr
   obtain⟨x,hx,v,w⟩:=Quq (n:=b-a) (by omega) (by omega)
   rw[hx] at hr
   have s:x+1<=y:=by
    have:2 ^ x<2 ^ y:=by omega
    exact (VL (by decide)).1 this
   have g:x<=60:=by
    rcases zK 60 x with q|o
    .have:=ZI (n:=2) (by decide) q
     omega
    exact o
   have u:=vR x
   have t:2 ^ (x+1)=2*2 ^ x:=by rw[ZD];omega
   have d:b-a=2 ^ y->y=x+1:=λe=>by
    have h5:2 ^ y<=2 ^ (x+1):=by omega
    have:=(xJ (by decide)).1 h5
    omega
   have c:=Qtc ha (show x<=y by omega)
   have l:=Qtc ha s
   by_cases h5:i<a+2 ^ x
   .rw[zD h5] at hr
    rcases ZH.1 hr with rfl|hr
    .dsimp only at hp
     rcases hb with hb|hb
     .exact Qri m _ (a+2 ^ x) (b-(a+2 ^ x)) x p (by omega) (by omega) (by omega) (by omega) (Qn3 c) hp
     have j:=d hb
     subst j
     rw[show b-(a+2 ^ x)=2 ^ x by omega] at hp
     refine⟨x / 2,by have:=Qso (x:=x) rfl;omega,.inl ?_⟩
     rw[Qip g (Qn3 c) hp,Qws l (by omega) (by omega) h1 (by omega)]
    exact Qmg m k f a (a+2 ^ x) x p (by omega) h1 h5 (by omega) c (by omega) (.inr (by omega)) ⟨r,hr,hp⟩
   rw[zw h5] at hr
   rcases ZH.1 hr with rfl|hr
   .dsimp only at hp
    rw[show a+2 ^ x-a=2 ^ x by omega] at hp
    refine⟨x / 2,by have:=Qso (x:=x) rfl;omega,.inl ?_⟩
    rw[Qip g c hp,Qws l (zg _) (by omega) h1 (by omega)]
   refine Qmg m k f (a+2 ^ x) b x p (by omega) (by omega) h2 h3 (Qn3 c) (by omega) ?_ ⟨r,hr,hp⟩
   rcases hb with hb|hb
   .exact .inl hb
   have j:=d hb
   subst j
   exact .inr (by omega)
def Qz6(N i:Nat):List O:=bunT N i :: (List.range 4).flatMap λk=>[nmT N k (i / 4 ^ (k+1)),nmT N k ((N / 4 ^ k-1) / 4)]
theorem Q19(b:N<=256)(c:i<N)(h:p∈readT N i):p∈Qz6 N i:=by
 rcases ZH.1 h with rfl|h
 .exact ZE
 refine zX _ ?_;obtain⟨x,hx,hp⟩:=VR.1 h;have hx:=VA.1 hx;have d:N<=2 ^ 8:=by omega
 obtain⟨k,hk,hp⟩:=Qmg (K:=256) (by decide) b N 0 N 8 p (by omega) (by omega) c (zg _) (by simp) (by omega) (.inl rfl) ⟨x,hx,hp⟩;have a:k<4:=by
  rcases zK k 4 with h|h
  .exact h
  have:=ZI (n:=4) (by decide) h
  omega
 refine VR.2 ⟨k,ZQ.2 a,?_⟩;rcases hp with rfl|rfl
 .exact ZE
 exact zX _ ZE
theorem Qve{α:Type}[DecidableEq α]:∀ (l U:List α),l.Nodup->(∀ x∈l,x∈U)->l.length<=U.length
 | [],_,_,_=>zE _
 | a :: l,U,h,hs=>by
   rw[ZY] at h
   have:=Qve l (U.erase a) h.2 λx hx=>(zat (λe=>h.1 (by rw[<-e];exact hx))).2 (hs x (zX _ hx))
   have ha:=hs a ZE
   have h2:=XN ha
   have h3:=za5 ha
   rw[zx]
   omega
theorem Q9j(b:N<=256)(d:i<N)(a:Nt)(c:Cch):(Qcy N i (askQ a c)).2.files.length<=16:=by
 obtain⟨g,_⟩:=Qmk N i (askQ a c);have hn:=g.once (by simp[askQ])
 have:=Qve _ (Qz6 N i) hn λx hx=>by
  rcases g.only x (Qao.2 hx) with h|h
  .cases h
  exact Q19 b d h
 rw[zA] at this;have e:(Qz6 N i).length=9:=by simp[Qz6,List.range,List.range.loop]
 omega
structure RdW0(m:Wm)(L:Lg):Prop where
 log:m.l=some L
 live:L.failed=false
 failed:m.failed=false
 foreign:m.foreign=false
 ents:L.entries=lists m.es
 key:L.key=m.key
 quiet:Qbm m.d
 sound:Qkp (lists m.es) L.put m.d
 short:∀ e∈lists m.es,e.length<=20
structure RdW(m:Wm)(L:Lg)(P:Nat):Prop extends RdW0 m L where
 pub:m.pub=P
 le:P<=(lists m.es).length
 has:Jn (lists m.es) P m.d.files
 cp:(P=0/\getF m.d.files (sOf kCp)=none)∨getF m.d.files (sOf kCp)=some (cpOf ((lists m.es).take P) m.key)
structure RdC(m:Wm)(P:Nat)(c:Cl):Prop where
 tr:Qnu (lists m.es) c
 le:c.size<=P
 has:Jn (lists m.es) c.size m.d.files
 key:c.key=m.key
theorem Qcj(es:List O)(s:O):lists (es ++ [s])=lists es ++ [s.data.toList]:=by simp[lists]
variable {m:Wm} {L:Lg} {s:O}
theorem Q7b(h:RdW0 m L)(b:s.size<=20):RdW0 (Q3f m L s) { L with entries:=L.entries ++ [s.data.toList],levels:=levels (L.entries ++ [s.data.toList]) } where
 log:=rfl
 live:=h.live
 failed:=h.failed
 foreign:=h.foreign
 ents:=by show L.entries++_=_;rw[Qcj,h.ents]
 key:=h.key
 quiet:=h.quiet
 sound:=by show Qkp (lists (m.es ++ [s])) _ _;rw[Qcj];exact h.sound.append _
 short e he:=by
  have a:e∈lists (m.es ++ [s]):=he
  rw[Qcj,ZL] at a
  rcases a with he|he
  .exact h.short e he
  rw[zS.1 he];simpa using b
variable {P:Nat}
theorem Qzu(h:RdW m L P)(a:s.size<=20):RdW (Q3f m L s) { L with entries:=L.entries ++ [s.data.toList],levels:=levels (L.entries ++ [s.data.toList]) } P where
 toRdW0:=Q7b h.toRdW0 a
 pub:=h.pub
 le:=by show P<=(lists (m.es ++ [s])).length;rw[Qcj,zn];have:=h.le;omega
 has:=by show Jn (lists (m.es ++ [s])) _ _;rw[Qcj];exact h.has.more h.le _
 cp:=by
  show (P=0/\getF m.d.files (sOf kCp)=none)∨getF m.d.files (sOf kCp)=some (cpOf ((lists (m.es ++ [s])).take P) m.key)
  rw[Qcj,vN h.le]
  exact h.cp
variable {c:Cl}
theorem Qzo(h:RdW m L P)(k:RdC m P c)(s:O):RdC (Q3f m L s) P c where
 tr:=by show Qnu (lists (m.es ++ [s])) c;rw[Qcj];exact k.tr.more _
 le:=k.le
 has:=by show Jn (lists (m.es ++ [s])) _ _;rw[Qcj];exact k.has.more k.tr.size _
 key:=k.key
variable {n:Nt}
theorem Qrr(f:i<c.size)(d:(Y3 c n i).1=Qbs):∃ r,(Qcy c.size i (askQ n c.cache)).1=.ok r/\Y3 c n i=(Qbs,r,{ c with cache:=Zl (Qcy c.size i (askQ n c.cache)).2.cache (Qcy c.size i (askQ n c.cache)).2.files },(Qcy c.size i (askQ n c.cache)).2.net):=by
 revert d
 unfold Y3;rw[zw (by omega),zO];have no:∀ {a b:Nat} {x:O},a≠b->(a,x)=((b,⟨#[]⟩):Tld)->False:=λhab e=>hab (zB Prod.fst e)
 rcases hq:Qcy c.size i (askQ n c.cache) with⟨r|r,s⟩
 .cases r with
  | miss p=>intro d;exact (no (by decide) d).elim
  | panic=>intro d;exact (no (by decide) d).elim
 dsimp only
 split
 .intro _;exact⟨r,rfl,rfl⟩
 intro d;exact (no (by decide) d).elim
section
variable {m:Wm} {L:Lg} (h:RdW0 m L) (hl:m.es.length<=1048576)
include h hl
theorem Q6t:RdW (pubW m L) { L with put:=(pubD L.entries L.key L.put m.d).2.1,failed:=(pubD L.entries L.key L.put m.d).2.2.isSome } m.es.length:=by
 have hq:=Qgx (es:=lists m.es) L.key (by rw[Qx];exact hl) h.quiet h.sound;rw[<-h.ents] at hq;obtain⟨q1,q2,q3,q4,q5,q6,q7,q8⟩:=hq;have a:lists m.es=L.entries:=h.ents.symm;have b:L.entries.length=m.es.length:=by rw[h.ents,Qx]
 refine⟨⟨rfl,by show Option.isSome _=false;rw[q1];rfl,h.failed,rfl,h.ents,h.key,q2,?_,h.short⟩,rfl,?_,?_,.inr ?_⟩
 .show Qkp (lists m.es) _ _
  rw[a];exact q3
 .show m.es.length<=(lists m.es).length
  rw[Qx];exact zg _
 .show Jn (lists m.es) _ _
  rw[a,<-b];exact q4
 show getF (pubD L.entries L.key L.put m.d).1.files (sOf kCp)=some (cpOf ((lists m.es).take m.es.length) m.key);rw[a,<-b,vz,<-h.key];exact q5
theorem Qoy:Qbr (Y9 L.entries) m.d.files:=by rw[h.ents];exact h.sound.true'.noClash (by rw[Qx];exact hl)
theorem Q0w:(pubD L.entries L.key L.put m.d).2.2=none/\(pubD L.entries L.key L.put m.d).1.files.length<=m.d.files.length+12*(m.es.length+3)+1:=by
 have hq:=Qgx (es:=lists m.es) L.key (by rw[Qx];exact hl) h.quiet h.sound;rw[<-h.ents] at hq;refine⟨hq.1,?_⟩
 have:=hq.2.2.2.2.2.2.1
 rw[h.ents,Qx] at this;rw[h.ents];exact this
end
section
variable {m:Wm} {L:Lg} {P:Nat} (h:RdW m L P) (hl:m.es.length<=1048576)
include h hl
theorem Q5n(k:RdC m P c):RdC (pubW m L) m.es.length c where
 tr:=k.tr
 le:=by have:=k.tr.size;rw[Qx] at this;exact this
 has:=by
  have hq:=Qgx (es:=lists m.es) L.key (by rw[Qx];exact hl) h.quiet h.sound
  rw[<-h.ents] at hq
  show Jn (lists m.es) _ (pubD L.entries L.key L.put m.d).1.files
  rw[<-h.ents]
  exact hq.2.2.2.2.2.1 _ (by rw[h.ents];exact k.has)
 key:=k.key
theorem Qgi(b:n.files=m.d.files)(a:n.lies = []):Qeu (lists m.es) n:=
 Qss (by rw[Qx];exact hl) h.short (by rw[b];exact h.sound.true') a
theorem Qt9(k:RdC m P c)(b:n.files=m.d.files)(a:n.lies = []):Qcm n (Z1 c n).2.2.2/\(Z1 c n).2.2.1.cache.most=c.cache.most/\RdC m P (Z1 c n).2.2.1/\
   ((P=0/\getF m.d.files (sOf kCp)=none/\(Z1 c n).1=(3,⟨#[]⟩)/\(Z1 c n).2.1 = []/\(Z1 c n).2.2.1.size=0)∨
       ((P=0->getF m.d.files (sOf kCp)≠none)/\(Z1 c n).1=Qbs/\(Z1 c n).2.1=(if 0<c.size/\c.size<P then Y5 c.size ((lists m.es).take P) true else [])/\(Z1 c n).2.2.1.size=P)):=by
 have f:(lists m.es).length<=1048576:=by rw[Qx];exact hl
 have g:=Qgi h hl b a;have upd:∀ {x:O},getF m.d.files (sOf kCp)=some x->x=cpOf ((lists m.es).take P) m.key->Qcm n (Z1 c n).2.2.2/\(Z1 c n).2.2.1.cache.most=c.cache.most/\RdC m P (Z1 c n).2.2.1/\(Z1 c n).1=Qbs/\(Z1 c n).2.1=(if 0<c.size/\c.size<P then Y5 c.size ((lists m.es).take P) true else [])/\(Z1 c n).2.2.1.size=P:=λ{x} hx he=>by obtain⟨u1,u2,u3,u4,u5,u6,u7⟩:=Qim f h.short k.tr g (M:=P) h.le k.le (by rw[k.key,Qkz (by rw[b];exact hx) a,he]) (Qcg (by rw[b];exact h.has) a);exact⟨u7,u6,⟨u3,by rw[u4];exact zg _,by rw[u4];exact h.has,u5.t k.key⟩,u1,u2,u4⟩
 rcases h.cp with⟨hp,hc⟩|hc
 .have hf:Yx n (sOf kCp)=none:=by unfold Yx;rw[show Qdu n (sOf kCp)=none by unfold Qdu;rw[a];rfl,b,hc];rfl
  have hz:c.size=0:=by have:=k.le;omega
  have e:Z1 c n=((3,⟨#[]⟩),[],c,Zt n (sOf kCp)):=by unfold Z1;rw[hf]
  rw[e];exact⟨Qau _ _,rfl,k,.inl ⟨hp,hc,rfl,rfl,hz⟩⟩
 obtain⟨a1,a2,a3,a4,a5,a6⟩:=upd hc rfl;exact⟨a1,a2,a3,.inr ⟨λ_ e=>(by rw[hc] at e;cases e),a4,a5,a6⟩⟩
theorem Zc7(k:RdC m P c)(f:n.files=m.d.files)(a:n.lies = [])(b:i<c.size):Qcm n (Y3 c n i).2.2.2/\RdC m P (Y3 c n i).2.2.1/\(Y3 c n i).2.2.1.size=c.size/\(Y3 c n i).2.2.1.cache.most=c.cache.most/\(Y3 c n i).1=Qbs/\
   (Y3 c n i).2.1=((lists m.es).getD i [],Y8 ((lists m.es).take c.size) i):=by
 have e:(lists m.es).length<=1048576:=by rw[Qx];exact hl
 obtain⟨u1,u2,u3,u4,u5,u6,u7⟩:=Qrl e h.short k.tr (Qgi h hl f a) b (av:=true) (λ_=>Qcg (by rw[f];exact k.has) a);obtain⟨v1,v2⟩|⟨v,_⟩:=u7
 .refine⟨u2,⟨u1,by rw[u4];exact k.le,by rw[u4];exact k.has,u3.t k.key⟩,u4,u6,v1,?_⟩
  rw[v2]
  congr 1
  rw[zz,zz,zH b]
 cases v
theorem Qyf(k:RdC m P c)(e:n.files=m.d.files)(b:n.lies = [])(a:i<c.size):Qcm n (Y3 c n i).2.2.2/\RdC m P (Y3 c n i).2.2.1/\(Y3 c n i).2.2.1.size=c.size/\(Y3 c n i).2.2.1.cache.most=c.cache.most/\(Y3 c n i).1=Qbs/\
   (Y3 c n i).2.1=((lists m.es).getD i [],Y8 ((lists m.es).take c.size) i)/\
   ((c.cache.most<16∨256<c.size∨(Y3 (Y3 c n i).2.2.1 (Y3 c n i).2.2.2 i).2.2.2.fetches=(Y3 c n i).2.2.2.fetches)/\
       (0<c.cache.most∨(Y3 c n i).2.2.2.fetches<(Y3 (Y3 c n i).2.2.1 (Y3 c n i).2.2.2 i).2.2.2.fetches)/\
       (1<c.cache.most∨c.size<2∨(Y3 c n i).2.2.2.fetches<(Y3 (Y3 c n i).2.2.1 (Y3 c n i).2.2.2 i).2.2.2.fetches)):=by
 have p:(lists m.es).length<=1048576:=by rw[Qx];exact hl
 have o:=k.tr.size;have one:∀ (c:Cl) (k:RdC m P c) (n:Nt) (e:n.files=m.d.files) (b:n.lies = []) (a:i<c.size),_:=λc k n e b a=>Zc7 h hl k e b a
 obtain⟨a1,a2,a3,a4,a5,a6⟩:=one c k n e b a;refine⟨a1,a2,a3,a4,a5,a6,?_⟩;obtain⟨r,hr,l⟩:=Qrr a a5;obtain⟨b1,b2,b3,b4⟩:=again k.tr.ok (by omega) a hr;have f:i<(Y3 c n i).2.2.1.size:=by rw[a3];exact a
 obtain⟨_,_,_,_,e5,_⟩:=one _ a2 (Y3 c n i).2.2.2 (a1.2.t e) (a1.1.t b) f;obtain⟨r2,q,j⟩:=Qrr f e5;have g:=λh256=>Q9j (N:=c.size) (i:=i) h256 a n c.cache
 rw[j,l];dsimp only at b2 b3 b4 ⊢;refine⟨?_,?_,?_⟩
 .by_cases h1:c.cache.most<16
  .exact .inl h1
  by_cases h2:256<c.size
  .exact .inr (.inl h2)
  exact .inr (.inr (by rw[b2 (zi (g (by omega)) (by omega))]))
 .rcases vg c.cache.most with h1|h1
  .exact .inr (b3 h1)
  exact .inl h1
 by_cases h1:1<c.cache.most
 .exact .inl h1
 by_cases h2:c.size<2
 .exact .inr (.inl h2)
 exact .inr (.inr (b4 (by omega) (by omega)))
end
theorem Zbf(key:O)(k:m.l=some L)(o:m.key=key)(i:L.key=key)(a:m.es = [])(g:L.entries = [])(j:L.put = [])(h:L.failed=false)(n:m.failed=false)(f:m.foreign=false)(p:m.pub=0)(b:Qbm m.d)(q:m.d.turned=false)(c:m.d.files = []):RdW m L 0 where
 toRdW0:=⟨k,h,n,f,by rw[g,a];rfl,i.t o.symm,b,by rw[a,j];exact Q5s m.d c b.dead b.hit q,λe he'=>by rw[a] at he';simp[lists] at he'⟩
 pub:=p
 le:=zE _
 has:=Jn.zero _ _
 cp:=.inl ⟨rfl,by rw[c];rfl⟩
theorem Q6g(key:O)(b:m.key=key)(P a:Nat):RdC m P ⟨key,0,hash [],⟨a,[]⟩⟩ where
 tr:=⟨zE _,by show hash []=rootOf (List.take 0 _);rw[xZ];rfl,λx hx=>by simp at hx,⟨VU,zE _⟩⟩
 le:=zE _
 has:=Jn.zero _ _
 key:=b.symm
theorem Q5t(N:Nat){f c e:Nat}(a:c%2 ^ e=0):(Qa4 N f c (2 ^ e)).length<=2:=by
 cases f with
 | zero=>simp[Qa4]
 | succ f=>
  rw[Qa4,zD ⟨Qw6 e,a⟩];exact Qos _ _ _
theorem Qvk{n b:Nat}(g:2<=n)(j:n<=2 ^ b)(i:b<=63):∃ e,e<b/\below n=2 ^ e/\2 ^ e<n/\n-2 ^ e<=2 ^ e:=by
 have k:(2:Nat) ^ b<=2 ^ 63:=ZI (by decide) i;rcases zK n 9223372036854775808 with d|m
 .obtain⟨e,he,l,h4,h5⟩:=Q3c g d
  have hb:below n=2 ^ e:=by unfold below;rw[he];rfl
  have c:e<b:=(VL (a:=2) (by decide)).1 (zJ h4 j);exact⟨e,c,hb,h4,by omega⟩
 have he:n=2 ^ 63:=by omega
 have f:62<b:=by
  rcases zK 62 b with h|h
  .exact h
  have:(2:Nat) ^ b<=2 ^ 62:=ZI (by decide) h
  omega
 refine⟨62,f,?_,?_,?_⟩
 .subst he;decide
 .subst he;decide
 subst he;decide
theorem Q45{a x y:Nat}(h:a%2 ^ y=0)(b:x<=y):a%2 ^ x=0:=za8 (zb5 (zal 2 b) (Vi h))
theorem Qwt(N:Nat):∀ (f i n mm:Nat),1<=n->n<=2 ^ mm->i%2 ^ mm=0->mm<=63->(Qa4 N f i n).length<=2*mm+2
 | 0,_,_,_,_,_,_,_=>by simp[Qa4]
 | f+1,i,n,mm,h1,hn,hi,hm=>by
  rw[Qa4]
  split
  .have:=Qos N (Lib.bitLen n-1) (i / n)
   omega
  rename_i hne
  have h2:2<=n:=by
   rcases zK n 2 with c|b
   .obtain rfl:n=1:=by omega
    exact absurd ⟨by decide,Vv i⟩ hne
   exact b
  obtain⟨e,he,hb,h4,h5⟩:=Qvk h2 hn hm
  have a:=Q45 hi (VD he)
  have h6:=Q5t N (f:=f) a
  have h7:=Qwt N f (i+2 ^ e) (n-2 ^ e) e (by omega) h5 (by rw[XR];exact a) (by omega)
  rw[hb,zn]
  omega
theorem Qqf:∀ (f a b m mm:Nat),a<b->a<m->b-a<=2 ^ mm->a%2 ^ mm=0->mm<=63->∀ x∈Js f a b m,x.1<x.2/\∃ z,z<=mm/\x.2-x.1<=2 ^ z/\x.1%2 ^ z=0
 | 0,_,_,_,_,_,_,_,_,_=>λx hx=>by simp[Js] at hx
 | f+1,a,b,m,mm,hab,ham,hs,ha,hm=>λx hx=>by
  unfold Js at hx
  by_cases h1:b<=m
  .rw[zD h1] at hx
   split at hx
   .rw[zS.1 hx]
    exact⟨hab,mm,zg _,hs,ha⟩
   simp at hx
  rw[zw h1] at hx
  obtain⟨e,he,hb,h4,h5⟩:=Qvk (show 2<=b-a by omega) hs hm
  have c:=Q45 ha (VD he)
  have d:(a+2 ^ e)%2 ^ e=0:=by rw[XR];exact c
  have h0:=vR e
  rw[hb] at hx
  split at hx
  .rcases ZH.1 hx with rfl|hx
   .exact⟨by dsimp only;omega,e,VD he,by dsimp only;omega,d⟩
   obtain⟨k1,z,k2,k3⟩:=Qqf f a (a+2 ^ e) m e (by omega) ham (by omega) c (by omega) x hx
   exact⟨k1,z,by omega,k3⟩
  rcases ZH.1 hx with rfl|hx
  .exact⟨by dsimp only;omega,e,VD he,by dsimp only;omega,c⟩
  obtain⟨k1,z,k2,k3⟩:=Qqf f (a+2 ^ e) b m e (by omega) (by omega) (by omega) d (by omega) x hx
  exact⟨k1,z,by omega,k3⟩
theorem Qm6(N K:Nat):∀ rs:List (Nat×Nat),(∀ x∈rs,(Qa4 N (x.2-x.1) x.1 (x.2-x.1)).length<=K)->(Z0 N rs).length<=rs.length*K
 | [],_=>by simp[Z0]
 | x :: xs,h=>by
  have h1:=Qm6 N K xs λy hy=>h y (zX _ hy)
  have h2:=h x ZE
  have e:Z0 N (x :: xs)=Qa4 N (x.2-x.1) x.1 (x.2-x.1)++Z0 N xs:=rfl
  rw[e,zn,zx,vC]
  omega
theorem Ql9{N m:Nat}(b:N<=2 ^ 63)(c:1<=m)(a:m<=N):(Z0 N (Js N 0 N m).reverse).length<=8192:=by
 have h1:=Qko N 63 0 N m (by omega) (zg _) (by omega);have h2:=Qm6 N 128 (Js N 0 N m).reverse λx hx=>by
  obtain⟨k1,z,k2,k3,k4⟩:=Qqf N 0 N m 63 (by omega) (by omega) (by omega) (Nat.zero_mod _) (zg _) x (VA.1 hx)
  have:=Qwt N (x.2-x.1) x.1 (x.2-x.1) z (by omega) k3 k4 k2
  omega
 rw[xG] at h2;have h3:(Js N 0 N m).length*128<=64*128:=Nat.mul_le_mul h1 (zg _);omega
structure Rdr where
 ra:Nat
 pa:Nat
 gc:Nat
 gk:Nat
 mc:Nat
 cap:Int
 size:Nat
 c:Cl
 qs:List CEnt
structure Qef(w:G)(gn:Nat)(x:Rdr):Prop where
 cells:w.heap[x.ra]?=some (.cells #[.pointer (some ⟨x.pa,0,none⟩),.int .i64 x.size,.int .i64 x.cap] 107 (0,0))
 pc:PcAt w x.pa x.gc
 cl:ClIs w x.gc x.gk x.mc (.iface 48 (.pointer (some ⟨gn,0,none⟩))) x.c x.qs
def rdrS(x:Rdr)(k:Nat):Prop:=k=x.ra∨k=x.pa∨clS x.gc x.gk x.mc x.qs k
theorem Qef.j{w':G}{b:Nat}{x:Rdr}(h:Qef w b x)(a:Bz w w'):Qef w' b x:=⟨(a.block _ (Qb h.cells)).t h.cells,(a.block _ (Qb h.pc)).t h.pc,h.cl.j a⟩
theorem Qmp(ss:List O)(k:Nat):lists (ss.take k)=(lists ss).take k:=by simp[lists,vJ]
variable {ss:List O}
theorem Qf4{a:Y Addr}{n c k:Nat}(h:Zj w (.slice a n c) ss)(b:k<=ss.length):Zj w (.slice a k c) (ss.take k):=by
 obtain⟨a',c',h1,h2,h3⟩:=h;cases h1;have e:(ss.take k).length=k:=by rw[zm,ZB b]
 refine⟨a,c,by rw[e],by omega,λj u hj=>h3 j u ?_⟩;rw[vJ] at hj;rw[xK] at hj
 split at hj
 .exact hj
 cases hj
theorem Qy9{base:Nat}{v:J}(h:Qq w base v ss):(v=.slice none 0 0/\ss = [])∨∃ b c,v=.slice (some ⟨b,0,none⟩) ss.length c/\ss.length<=c:=by
 rcases h.2 with⟨h1,h2⟩|⟨b,c,_,h1,_,_,h2,_⟩
 .exact .inl ⟨h1,zG h2⟩
 exact .inr ⟨b,c,h1,h2⟩
theorem Qsg(w:G)(p:Pl)(m:Wm)(gn:Nat)(x:Rdr)(h:Qa6 w p m)(L:Qef w gn x)(Z:∀ k,WdS p m k->¬ k=x.gc)(M:x.size=x.c.size)(f:x.size<=m.es.length)(hl:m.es.length<=1048576)(g:∀ s∈m.es,s.size<=20)(hr:x.c.root=rootOf ((lists m.es).take x.c.size)):Calls prog 69 #[.pointer (some ⟨x.ra,0,none⟩),.pointer (some ⟨p.gw,0,none⟩)] w λe w'=>e=.returned (.bool true)/\Qa6 w' p m/\Qef w' gn x/\Fr (·=x.gc) w w':=by
 have k0:w.cell? ⟨x.ra,0,none⟩=some (.pointer (some ⟨x.pa,0,none⟩)):=Qd L.cells 0 rfl;obtain⟨HC,H,HX,ae,HR,N,af⟩:=zh7 (Qnj w x.pa x.gc x.gk x.mc _ x.c x.qs L.pc L.cl) h L Z hr M g;clear h L Z hr M g
 go_enter func69,ntmps69
 go_upto_region 2 with (first|go_at_call 31;refine HC.o.m ?_;rintro e w1⟨rfl,S,V⟩;obtain⟨ac,i⟩:=zh2 S V;clear S V|fail)
 have I:=Q1 HX.o.cl.cells;have t:Qa6 w1 p m:=H.o.fr i.o ae.o (λk C fz hk e=>Zz hk HX.o.cl.cells (by decide) e);have z:Qef w1 gn x:=⟨Ze HX.o.cells i.o I (by decide),Ze HX.o.pc i.o I (by decide),ac.o⟩
 obtain⟨P,Q⟩:=zh2 t z;have d1:w1.cell? ⟨x.ra,1,none⟩=some (.int .i64 x.size):=Qd z.cells 1 rfl;have d3:=t.heads.1.2.2.2.1;have D:x.ra<w1.heap.size:=Qb z.cells;have R:p.gw<w1.heap.size:=Qj d3;have aa:=Qq.at t.ents;have y:∀ (a:Y Addr) (n c:Nat),p.en=.slice a n c->∀ W,Bz w1 W->Calls prog 30 #[.slice a x.size c] W λe w'=>e=.returned (.string (HS x.c.root))/\Bz W w':=λa n c he W hW=>by
  have h1:=aa.j hW;rw[he] at h1
  have:=Qaz x.size (m.es.take x.size) (.slice a x.size c) W (by rw[zm];omega) (Qf4 h1 f) (by rw[zm];omega) λs M=>zi (af.o s (zQ M)) (by decide)
  rw[HR.o,<-N.o,<-Qmp];exact this
 have v:=zh y;have U:=Qy9 t.ents;obtain⟨q,hq⟩:=zzx (HS x.c.root)
 rw[<-hq] at v;clear y aa t z I k0;have ad:=zh U;have T:(x.c.size:Int)=(x.size:Int):=by rw[N.o]
 obtain⟨sz,g⟩:=zzx x.size
 obtain⟨ra,K⟩:=zzx x.ra
 rw[T];rw[<-g] at v d1 f ⊢;rw[<-K] at d1 D ⊢;obtain⟨ah,aj⟩:=zh2 g K;clear T g K U;rcases ad.o with⟨he,F⟩|⟨b,c,he,E⟩
 .have hz:sz=0:=by rw[F] at f;simpa using f
  subst hz;have l:=v.o none 0 0 he;rw[he] at d3;have u:=zh l;have A:w1.drew.cell? ⟨ra,1,none⟩=some (.int .i64 (0:Nat)):=d1;have B:w1.drew.cell? ⟨p.gw,3,none⟩=some (.slice none 0 0):=d3;clear l F he
  go_region_held3 (λw'=>w'.cell? ⟨ra,1,none⟩=some (.int .i64 (0:Nat))/\w'.cell? ⟨p.gw,3,none⟩=some (.slice none 0 0)) (first|with_reducible exact⟨d1,d3⟩|with_reducible exact⟨A,B⟩|with_reducible exact⟨m1,m3⟩|fail) (first|go_at_call 30;refine (u.o _ (Ql w1)).m ?_;rintro e w2⟨rfl,j⟩;have d:=zh (show Bz w1 w2 from (Ql w1).t j);have m1:=(d.o.cell (p:=⟨ra,1,none⟩) D).t d1;have m3:=(d.o.cell (p:=⟨p.gw,3,none⟩) R).t d3;clear j|fail)
  all_goals (
   go_wp2
   go_ret
   exact⟨rfl,P.o.j d.o,Q.o.j d.o,i.o.t (Fr.ofBelow d.o)⟩)
 have l:=v.o (some ⟨b,0,none⟩) m.es.length c he;have ak:sz<=c:=zi f E;rw[he] at d3;have u:=zh l;obtain⟨ln,X⟩:=zzx m.es.length
 rw[<-X] at d3 E f hl;have A:w1.drew.cell? ⟨ra,1,none⟩=some (.int .i64 sz):=d1;have B:w1.drew.cell? ⟨p.gw,3,none⟩=some (.slice (some ⟨b,0,none⟩) ln c):=d3;clear l he X
 go_region_held3 (λw'=>w'.cell? ⟨ra,1,none⟩=some (.int .i64 sz)/\w'.cell? ⟨p.gw,3,none⟩=some (.slice (some ⟨b,0,none⟩) ln c)) (first|with_reducible exact⟨d1,d3⟩|with_reducible exact⟨A,B⟩|with_reducible exact⟨m1,m3⟩|fail) (first|go_at_call 30;refine (u.o _ (Ql w1)).m ?_;rintro e w2⟨rfl,j⟩;have d:=zh (show Bz w1 w2 from (Ql w1).t j);have m1:=(d.o.cell (p:=⟨ra,1,none⟩) D).t d1;have m3:=(d.o.cell (p:=⟨p.gw,3,none⟩) R).t d3;clear j|fail)
 all_goals (
  go_wp2
  go_ret
  exact⟨rfl,P.o.j d.o,Q.o.j d.o,i.o.t (Fr.ofBelow d.o)⟩)
theorem Qmn{i:Int}(a:c.size<=8192):(Y3 c n i).2.2.2.fetches<=n.fetches+440000/\(Y3 c n i).2.2.1.cache.items.length<=c.cache.items.length+220000:=by
 unfold Y3;by_cases hi:i<0∨(c.size:Int)<=i
 .rw[zD hi]
  exact⟨xA _ _,xA _ _⟩
 rw[zw hi];have hc:=Qpr c.size i.toNat (askQ n c.cache);have ht:=Qjx (N:=c.size) (i:=i.toNat) a (by omega);have h1:=hc.files;have h2:=hc.fetches;have h3:=hc.items;have e1:(askQ n c.cache).files.length=0:=rfl;have e2:(askQ n c.cache).net.fetches=n.fetches:=rfl;have e3:(askQ n c.cache).cache.items.length=c.cache.items.length:=rfl;rcases hq:Qcy c.size i.toNat (askQ n c.cache) with⟨r|r,s⟩
 .rw[hq] at h1 h2 h3
  cases r <;> exact⟨by dsimp only at h2 ⊢;omega,by dsimp only at h3 ⊢;omega⟩
 rw[hq] at h1 h2 h3;have h4:=Qh9 s.files s.cache;dsimp only at h1 h2 h3 ⊢
 split
 .exact⟨by dsimp only;omega,by dsimp only;omega⟩
 exact⟨by dsimp only;omega,by dsimp only;omega⟩
theorem Qm2:(Z1 c n).2.2.2.fetches<=n.fetches+20000/\(Z1 c n).2.2.1.cache.items.length<=c.cache.items.length+8192:=by
 have e0:(Zt n (sOf kCp)).fetches=n.fetches+1:=(Yc n (sOf kCp)).2.2;unfold Z1;cases hf:Yx n (sOf kCp) with
 | none=>exact⟨by dsimp only;omega,by dsimp only;omega⟩
 | some data=>
  dsimp only;have hs:=Qbl data c.key.data.toList
  split
  .exact⟨by dsimp only;omega,by dsimp only;omega⟩
  rename_i hok;obtain⟨p1,p2,_⟩:=hs.1 (by simpa using hok)
  split
  .exact⟨by dsimp only;omega,by dsimp only;omega⟩
  split
  .split <;> exact⟨by dsimp only;omega,by dsimp only;omega⟩
  split
  .exact⟨by dsimp only;omega,by dsimp only;omega⟩
  obtain⟨N,hN⟩:=zzx ((Zy data c.key.data.toList).1.toNat)
  rw[<-hN];have hc:=Qee N (Js N 0 N c.size).reverse (askQ (Zt n (sOf kCp)) c.cache);have ht:=Ql9 (N:=N) (m:=c.size) (by omega) (by omega) (by omega);have h1:=hc.files;have h2:=hc.fetches;have h3:=hc.items;have e1:(askQ (Zt n (sOf kCp)) c.cache).files.length=0:=rfl;have e2:(askQ (Zt n (sOf kCp)) c.cache).net.fetches=n.fetches+1:=e0;have e3:(askQ (Zt n (sOf kCp)) c.cache).cache.items.length=c.cache.items.length:=rfl;unfold Qhl;rcases hq:Zp N (Js N 0 N c.size).reverse (askQ (Zt n (sOf kCp)) c.cache) with⟨r|r,s⟩
  .rw[hq] at h1 h2 h3
   cases r <;> exact⟨by dsimp only at h2 ⊢;omega,by dsimp only at h3 ⊢;omega⟩
  rw[hq] at h1 h2 h3;have h4:=Qh9 s.files s.cache;dsimp only at h1 h2 h3 ⊢
  split
  .exact⟨by dsimp only;omega,by dsimp only;omega⟩
  exact⟨by dsimp only;omega,by dsimp only;omega⟩
theorem Qwa{es:Uc}(l:es.length<=1048576)(m:∀ e∈es,e.length<=20){N i:Nat}(g:N<=es.length)(n:i<N){av:Bool}{s s1:Cs}{b:Ud}(k:Qgr es N av s)(h:Qby Jg (-1) (i / 4) N s=(.ok b,s1)):b.length<=84:=by
 have a:(es.take N).length=N:=by rw[zm,ZB g]
 have d:((es.take N).map encE).length=N:=by rw[zA,a]
 have f:∀ e∈es.take N,e.length<=20:=λe he=>m e (zQ he)
 have hf:Qc3 0=Jg:=by unfold Qc3;rw[zD rfl]
 have c:=Ql3 l (av:=av) (Qbe (es.take N)) (j:=i / 4) (by rw[d];omega) (λw h1 h4 hw=>by
  rw[d] at hw
  rw[hf]
  unfold Jg
  rw[Qfb f h1 h4 (by rw[a];exact hw),ZP,zD (by rw[zm,zM,a];omega),vX,Nat.min_self,Qr4 f h1 h4 (by rw[a];exact hw)])
 rw[d,hf,show (((0:Nat):Int)-1) = -1 by omega] at c;have hb:=(c s k).2.1 b (by rw[h]);rw[hb];unfold cutR;have h1:=Qfu ((((es.take N).map encE).drop (4*(i / 4))).take (Zr (i / 4) N)) 21 λx hx=>by
  obtain⟨e,he,rfl⟩:=zU.1 (ZF (zQ hx))
  have:=f e he
  simp only[encE,zx];omega
 have h2:((((es.take N).map encE).drop (4*(i / 4))).take (Zr (i / 4) N)).length<=4:=by rw[zm];unfold Zr;omega
 have:=ZA 21 h2
 omega
structure Qc0(F:Nat->Addr)(w:G)(p:Pl)(m:Wm)(L:Lg)(P:Nat)(gn:Nat)(vl vt:J)(n:Nt)(x:Rdr):Prop where
 wd:Qa6 w p m
 net:Yr w gn p.gd vl vt n
 rd:Qef w gn x
 envR:Qbj F (λk=>cnS x.gc x.gk x.mc gn vt x.qs k∨k=x.ra) w
 apart:∀ k,WdS p m k->¬ cnS x.gc x.gk x.mc gn vt x.qs k
 rdw:RdW m L P
 rdc:RdC m P x.c
 nf:n.files=m.d.files
 nl:n.lies = []
 few:m.es.length<=8192
 small:∀ f∈m.d.files,f.2.size<=1048576
 key:m.key.size<=9223372036854775807
 fetches:n.fetches<1000000000000
 items:x.c.cache.items.length<100000000000
section
variable {F:Nat->Addr} {w:G} {p:Pl} {m:Wm} {L:Lg} {P:Nat} {gn:Nat} {vl vt:J} {n:Nt} {x:Rdr}
theorem Qc0.env(h:Qc0 F w p m L P gn vl vt n x):Qbj F (cnS x.gc x.gk x.mc gn vt x.qs) w:=h.envR.less λk=>.inl
theorem Qc0.lt(h:Qc0 F w p m L P gn vl vt n x):∀ k,cnS x.gc x.gk x.mc gn vt x.qs k->k<w.heap.size:=λk hk=>by
 rcases hk with hk|hk|hk
 .exact h.rd.cl.ltS hk
 .exact hk ▸ h.net.lt
 obtain⟨C,hC⟩:=Qk h.net.told hk
 exact Qb hC
theorem Qc0.kinds(h:Qc0 F w p m L P gn vl vt n x):Qas w (cnS x.gc x.gk x.mc gn vt x.qs) (([205] ++ [253,251]) ++ [126,3]):=((Q1 h.rd.cl.cells).or (Qar h.rd.cl.cache)).or (Qbw h.net)
variable {w':G}
theorem Qc0.next(h:Qc0 F w p m L P gn vl vt n x){b:Cl}{f:Nt}{a:List CEnt}(d:Fr (cnS x.gc x.gk x.mc gn vt x.qs) w w')(q:Sub w (cnS x.gc x.gk x.mc gn vt x.qs) (cnS x.gc x.gk x.mc gn vt a))(i:ClIs w' x.gc x.gk x.mc (.iface 48 (.pointer (some ⟨gn,0,none⟩))) b a)(r:Yr w' gn p.gd vl vt f)(o:RdC m P b)(g:Qcm n f)(j:f.fetches<1000000000000)(l:b.cache.items.length<100000000000):Qc0 F w' p m L P gn vl vt f { x with c:=b,qs:=a } where
 wd:=h.wd.fr d h.apart λk C fz hk=>Z3 h.kinds hk (by decide)
 net:=r
 rd:=⟨Ze h.rd.cells d h.kinds (by decide),Ze h.rd.pc d h.kinds (by decide),i⟩
 envR:=h.envR.step (d.weak λ_ _=>.inl) λk hk=>hk.elim (λe=>(q k e).imp .inl id) λe=>.inl (.inr e)
 apart k hk hc:=by
  rcases q k hc with e|e
  .exact h.apart k hk e
  have:=h.wd.lt hk
  omega
 rdw:=h.rdw
 rdc:=o
 nf:=g.2.t h.nf
 nl:=g.1.t h.nl
 few:=h.few
 small:=h.small
 key:=h.key
 fetches:=j
 items:=l
theorem Qc0.j(h:Qc0 F w p m L P gn vl vt n x)(a:Bz w w'):Qc0 F w' p m L P gn vl vt n x where
 wd:=h.wd.j a
 net:=h.net.j a
 rd:=h.rd.j a
 envR:=h.envR.j a
 apart:=h.apart
 rdw:=h.rdw
 rdc:=h.rdc
 nf:=h.nf
 nl:=h.nl
 few:=h.few
 small:=h.small
 key:=h.key
 fetches:=h.fetches
 items:=h.items
theorem Qc0.sized(h:Qc0 F w p m L P gn vl vt n x)(k:Nat)(a:∀ i,WdS p m i->¬ i=x.ra)(b:∀ i,cnS x.gc x.gk x.mc gn vt x.qs i->¬ i=x.ra):Qc0 F (w.setCell ⟨x.ra,1,none⟩ (.int .i64 k)) p m L P gn vl vt n { x with size:=k } where
 wd:=h.wd.fr (Fr.set1 w x.ra 1 _) (λi hi e=>a i hi e) λi C fz hk e=>Zz hk h.rd.cells (by decide) e
 net:=Jc h.net (Fr.set1 w x.ra 1 _) (Q1 h.rd.cells) (by decide) (by decide) (by decide)
 rd:=⟨(heap_setCell h.rd.cells _).t (by simp),Ze h.rd.pc (Fr.set1 w x.ra 1 _) (Q1 h.rd.cells) (by decide),h.rd.cl.fr (Fr.set1 w x.ra 1 _) (λi hi e=>b i (.inl hi) e) λi C fz hk e=>Zz hk h.rd.cells (by decide) e⟩
 envR:=h.envR.fr ((Fr.set1 w x.ra 1 _).weak λ_ _=>.inr)
 apart:=h.apart
 rdw:=h.rdw
 rdc:=h.rdc
 nf:=h.nf
 nl:=h.nl
 few:=h.few
 small:=h.small
 key:=h.key
 fetches:=h.fetches
 items:=h.items
theorem Qc0.netSmall(h:Qc0 F w p m L P gn vl vt n x):Qa8 n:=⟨λf hf=>by
  rw[h.nf] at hf
  have:=h.small f hf
  omega,λl hl=>by rw[h.nl] at hl;simp at hl⟩
theorem Qc0.csize(h:Qc0 F w p m L P gn vl vt n x):x.c.size<=8192:=by have h1:=h.rdc.tr.size;have h2:=h.few;rw[Qx] at h1;omega
theorem Qc0.asks(h:Qc0 F w p m L P gn vl vt n x):∀ (data:Ud) (N:Nat),Yx n (sOf kCp)=some data->(Zy data x.c.key.data.toList).2.2=true->(Zy data x.c.key.data.toList).1=(N:Int)->x.c.size<N->0<x.c.size->
  Bnd (askQ (Zt n (sOf kCp)) x.c.cache) (Z0 N (Js N 0 N x.c.size).reverse).length/\(Qhl x.c.size N (askQ (Zt n (sOf kCp)) x.c.cache)).1≠.error .panic/\x.c.cache.items.length+(Z0 N (Js N 0 N x.c.size).reverse).length<1099511627775:=λdata N hd hok hN hlt hpos=>by
 have l:=h.few
 have hP:=h.rdw.le
 rw[Qx] at hP
 have f:getF m.d.files (sOf kCp)=some (cpOf ((lists m.es).take P) m.key):=by
  rcases h.rdw.cp with⟨hz,_⟩|hc
  .have:=h.rdc.le;omega
  exact hc
 have g:=Qkz (n:=n) (by rw[h.nf];exact f) h.nl
 rw[g] at hd
 have a:((lists m.es).take P).length=P:=by rw[zm,Qx];omega
 have b:Zy data x.c.key.data.toList=((P:Int),rootOf ((lists m.es).take P),true):=by
  rw[<-zR hd,h.rdc.key]
  have e:(cpOf ((lists m.es).take P) m.key).data.toList=Jt ((lists m.es).take P).length (rootOf ((lists m.es).take P)) m.key.data.toList:=rfl
  rw[e,Qci _ _ _ (by omega),a]
 rw[b] at hN
 obtain rfl:P=N:=Int.ofNat.inj hN
 have hT:=Ql9 (N:=P) (m:=x.c.size) (by omega) hpos (by omega)
 have i:(lists m.es).length<=1048576:=by rw[Qx];omega
 have k:Qeu (lists m.es) (Zt n (sOf kCp)):=Qv3 (Qgi h.rdw (by omega) h.nf h.nl) (Qau n (sOf kCp))
 have j:Qnm (lists m.es) P (Zt n (sOf kCp)):=Qjq (Qcg (by rw[h.nf];exact h.rdw.has) h.nl) (Qgi h.rdw (by omega) h.nf h.nl).steady (Qau n (sOf kCp))
 have e1:(Zt n (sOf kCp)).fetches=n.fetches+1:=(Yc n (sOf kCp)).2.2
 refine⟨⟨?_,?_,?_⟩,λhp=>?_,?_⟩
 .show (Zt n (sOf kCp)).fetches+_<_
  have:=h.fetches
  omega
 .show 0+_<_
  omega
 .exact Qfk h.netSmall _
 .have:=(Qjz i h.rdw.le (av:=true) hpos (VD hlt) (askQ (Zt n (sOf kCp)) x.c.cache) ⟨λy hy=>by simp[askQ] at hy,h.rdc.tr.cache,k,λ_=>j⟩).2.2 _ hp
  cases this.1
 have:=h.items
 omega
theorem Qo1(h:Qc0 F w p m L P gn vl vt n x)(i:Int)(k : -9223372036854775808<=i)(l:i<=9223372036854775807):Calls prog 36 #[.pointer (some ⟨x.pa,0,none⟩),.int .i64 i] w (Qlc w x.gc x.gk x.mc gn p.gd vl vt x.qs (Y3 x.c n i)):=by
 have hb:=Qa w (.cells #[.int .i64 0,.string ⟨#[]⟩] 63);have a:m.es.length<=1048576:=by have:=h.few;omega
 have e:(lists m.es).length<=1048576:=by rw[Qx];exact a
 have g:=h.csize;by_cases hi:i<0∨(x.c.size:Int)<=i
 .refine Qsl F w x.pa x.gc x.gk x.mc gn p.gd vl vt i x.qs _ h.rd.pc h.env h.lt ?_ ?_
  .unfold Y3;rw[zD hi];simp
  exact Q01 F _ x.gc x.gk x.mc gn p.gd vl vt x.c x.qs n (h.rd.cl.j hb) (h.net.j hb) (h.env.j hb) i hi k l
 obtain⟨j,rfl⟩:∃ j:Nat,i=j:=⟨i.toNat,by omega⟩
 have hj:j<x.c.size:=by omega
 obtain⟨_,_,_,_,r5,r6,_⟩:=Qyf h.rdw a h.rdc h.nf h.nl hj;have hT:=Qjx g hj;have hq:=Qmc e h.rdc.tr.size h.rdw.short (av:=true) hj (askQ n x.c.cache) ⟨λy hy=>by simp[askQ] at hy,h.rdc.tr.cache,Qgi h.rdw a h.nf h.nl,λ_=>Qcg (by show Jn _ _ n.files;rw[h.nf];exact h.rdc.has) h.nl⟩;refine Qsl F w x.pa x.gc x.gk x.mc gn p.gd vl vt j x.qs _ h.rd.pc h.env h.lt ?_ ?_
 .rw[r6]
  show (Y8 ((lists m.es).take x.c.size) j).length<=_
  have:=Qa0 ((lists m.es).take x.c.size) j
  rw[zm,Qx] at this;omega
 refine Q0q F _ x.gc x.gk x.mc gn p.gd vl vt p.v x.c x.qs n m.d (h.rd.cl.j hb) (h.net.j hb) (h.wd.disk.j hb) h.nf.symm (h.env.j hb) j hj (by omega) ⟨?_,?_,h.netSmall⟩ ?_ (λhp=>?_) ?_
 .show n.fetches+_<_
  have:=h.fetches
  omega
 .show 0+_<_
  omega
 .intro b s1 f
  have:=Qwa e h.rdw.short h.rdc.tr.size hj (av:=true) ⟨λy hy=>by simp[askQ] at hy,h.rdc.tr.cache,Qgi h.rdw a h.nf h.nl,λ_=>Qcg (by show Jn _ _ n.files;rw[h.nf];exact h.rdc.has) h.nl⟩ f
  omega
 .have:=hq.2.2 _ hp
  cases this.1
 have:=h.items
 omega
end
def Qnl(w:G)(p:Pl)(m:Wm)(P:Nat)(gn:Nat)(vl vt:J)(n:Nt)(x:Rdr)(e:Ua)(w':G):Prop:=
 e=.returned (.bool true)/\∃ c' n' qs',Qef w' gn { x with c:=c',qs:=qs',size:=c'.size }/\Yr w' gn p.gd vl vt n'/\Qa6 w' p m/\Fr (λk=>cnS x.gc x.gk x.mc gn vt x.qs k∨k=x.ra) w w'/\Sub w (cnS x.gc x.gk x.mc gn vt x.qs) (cnS x.gc x.gk x.mc gn vt qs')/\
  RdC m P c'/\Qcm n n'/\c'.cache.most=x.c.cache.most/\n'.fetches<=n.fetches+900000/\c'.cache.items.length<=x.c.cache.items.length+450000
theorem Qnc(F:Nat->Addr)(w:G)(p:Pl)(m:Wm)(L:Lg)(P:Nat)(f:Nat)(z k:J)(n:Nt)(x:Rdr)(h:Qc0 F w p m L P f z k n x)(V:x.size=x.c.size)(i:Int)(E : -9223372036854775808<=i)(I:i<=9223372036854775807)(y:Qhc i (x.size+3)=0∨x.size+1<=Qhc i (x.size+3)):Calls prog 68 #[.pointer (some ⟨x.ra,0,none⟩),.pointer (some ⟨p.gw,0,none⟩),.pointer (some ⟨f,0,none⟩),.int .i64 i] w (Qnl w p m P f z k n x):=by
 have W:=h.csize;obtain⟨j,hj⟩:=zzx (Qhc i (x.size+3))
 have K:=Qlj i (n:=x.size+3) (by omega);have v:=Qlk i (x.size+3) w E I (by omega) (by omega);rw[<-hj] at y K v;have k0:w.cell? ⟨x.ra,0,none⟩=some (.pointer (some ⟨x.pa,0,none⟩)):=Qd h.rd.cells 0 rfl;have k1:w.cell? ⟨x.ra,1,none⟩=some (.int .i64 x.size):=Qd h.rd.cells 1 rfl;have hc:=Qo1 h ((j:Int)-1) (by omega) (by omega);have B:Y3 x.c n ((j:Int)-1)=((2,⟨#[]⟩),([],[]),x.c,n):=by unfold Y3;rw[zD (by omega)]
 rw[B] at hc;obtain⟨H,A,HC,U⟩:=zh4 h v hc V;obtain⟨sz,g⟩:=zzx x.size
 rw[<-g] at A k1 y K;have T:=zh g;have X:sz<=8192:=by omega
 have aa:IntKind.i64.wrap ((sz:Int)+3)=((sz+3:Nat):Int):=by rw[VT _ (by omega)];omega
 have Z:IntKind.i64.wrap ((j:Int)-1)=(j:Int)-1:=VT _ (by omega);clear h v hc V hj B g E I W
 go_enter func68,ntmps68
 go_upto_region 2 with (first|go_at_call 6;refine A.o.m ?_;rintro e w1⟨rfl,rfl⟩|fail)
 have fin:∀ (w1 w2:G) (qs':List CEnt),ClIs w1 x.gc x.gk x.mc (.iface 48 (.pointer (some ⟨f,0,none⟩))) x.c qs'->Yr w1 f p.gd z k n->Fr (cnS x.gc x.gk x.mc f k x.qs) w w1->Sub w (cnS x.gc x.gk x.mc f k x.qs) (cnS x.gc x.gk x.mc f k qs')->Bz w1 w2->Qnl w p m P f z k n x (.returned (.bool true)) w2:=λw1 w2 qs' a b c d e=>by have h1:=(H.o.next c d a b H.o.rdc (Qcm.refl n) H.o.fetches H.o.items).j e;refine⟨rfl,x.c,n,qs',?_,h1.net,h1.wd,(c.t (Fr.ofBelow e)).weak (λ_ _=>.inl),d,H.o.rdc,Qcm.refl n,rfl,by omega,by omega⟩;have h2:=h1.rd;rw[<-U.o];exact h2
 have FIN:=zh fin;clear fin
 go_upto_region 3 with (first|go_at_call 36;refine HC.o.m ?_;rintro e w1⟨nn,v1,rfl,_,l,Q,R,C,M,D,N⟩;obtain⟨q,s,r,t⟩:=zh4 C M D N;obtain⟨a1,c1,rfl⟩:=Zo Q;have S:=zh l;clear C M D N Q l|fail)
 have l:nn=true:=by
  rcases S.o with e|e
  .exact absurd (zB Prod.fst e) (by decide)
  exact e
 subst l;have u:=H.o.next r.o t.o q.o s.o H.o.rdc (Qcm.refl n) H.o.fetches H.o.items;have q1:w1.cell? ⟨x.ra,1,none⟩=some (.int .i64 sz):=by rw[T.o];exact Qd u.rd.cells 1 rfl
 have qlt:x.ra<w1.heap.size:=Qb u.rd.cells;clear u k0 k1;rcases y with rfl|y
 .have d1:((0:Nat):Int)-1<0:=by decide
  go_wp2;go_ret;exact FIN.o w1 _ R q.o s.o r.o t.o (Qa w1 _)
 have d1:¬ (j:Int)-1<0:=by omega
 have d2:(sz:Int)<=(j:Int)-1:=by omega
 go_wp2;go_ret;exact FIN.o w1 _ R q.o s.o r.o t.o (Qa w1 _)
theorem Qlc.fine{w:G}{d gk f b l:Nat}{p g:J}{j:List CEnt}{s:O}{o:List Hsh}{k:Cl}{n:Nt}{e:Ua}{w':G}(h:Qlc w d gk f b l p g j ((0,⟨#[]⟩),(s.data.toList,o),k,n) e w'){i:List O}(m:i=o.map HS):∃ (nn:Bool) (a:Y Addr) (c:Nat),e=.returned (.tuple #[.string s,.bool nn,.slice a i.length c,Jh 0 ⟨#[]⟩])/\(nn=true->s=⟨#[]⟩)/\Qq w' w.heap.size (.slice a i.length c) i/\
   ∃ qs',ClIs w' d gk f (.iface 48 (.pointer (some ⟨b,0,none⟩))) k qs'/\Yr w' b l p g n/\Fr (cnS d gk f b g j) w w'/\Sub w (cnS d gk f b g j) (cnS d gk f b g qs'):=by
 obtain⟨nn,v',rfl,h1,_,h3,h4⟩:=h;dsimp only at h3;rw[<-m] at h3;obtain⟨a,c,rfl⟩:=Zo h3;refine⟨nn,a,c,rfl,λhn=>?_,h3,h4⟩
 have:=h1 hn
 dsimp only at this;exact vF (za0.1 this)
set_option maxHeartbeats 8000000 in
theorem Q5o(F:Nat->Addr)(w:G)(p:Pl)(m:Wm)(L:Lg)(P:Nat)(g:Nat)(vl K:J)(n:Nt)(x:Rdr)(h:Qc0 F w p m L P g vl K n x)(hs:x.size=x.c.size)(ay:x.c.cache.most=x.cap.toNat)(b7:n.fetches+1000000<1000000000000)(cc:x.c.cache.items.length+1000000<100000000000)(i:Int)(b8 : -9223372036854775808<=i)(ca:i<=9223372036854775807)(t:Nat)(hr:Qhc i (x.size+3)=t+1)(ht:t<x.size):Calls prog 68 #[.pointer (some ⟨x.ra,0,none⟩),.pointer (some ⟨p.gw,0,none⟩),.pointer (some ⟨g,0,none⟩),.int .i64 i] w (Qnl w p m P g vl K n x):=by
 have cm:=h.csize;have du:=h.few;have cn:=h.rdc.tr.size;rw[Qx] at cn;have a8:=Qlk i (x.size+3) w b8 ca (by omega) (by omega);rw[hr] at a8;have k0:w.cell? ⟨x.ra,0,none⟩=some (.pointer (some ⟨x.pa,0,none⟩)):=Qd h.rd.cells 0 rfl;have k1:w.cell? ⟨x.ra,1,none⟩=some (.int .i64 x.size):=Qd h.rd.cells 1 rfl;have co:t<x.c.size:=by omega
 have R:m.es.length<=1048576:=by omega
 obtain⟨s,be⟩:∃ s,m.es[t]?=some s:=⟨_,ze (by omega)⟩
 have hc:=Qo1 h (t:Int) (by omega) (by omega);obtain⟨r1,ba⟩:=zzx (Y3 x.c n (t:Int))
 obtain⟨q1,q2,q3,q4,q5,q6,q7⟩:=Qyf h.rdw R h.rdc h.nf h.nl co;obtain⟨z1,z2⟩:=Qmn (c:=x.c) (n:=n) (i:=(t:Int)) cm;have hg:(lists m.es).getD t []=s.data.toList:=by rw[zz];simp[lists,be]
 rw[hg] at q6;rw[<-ba] at hc q1 q2 q3 q4 q5 q6 q7 z1 z2;obtain⟨⟨tk,tp⟩,⟨bb,hh⟩,c1,n1⟩:=r1;dsimp only at q1 q2 q3 q4 q5 q6 q7 z1 z2;simp only[V6] at q6;obtain⟨rfl,rfl⟩:=q6;have dw:tk=0/\tp=⟨#[]⟩:=by simpa [Qbs] using q5
 obtain⟨rfl,rfl⟩:=dw;obtain⟨ph,a7⟩:=zzx (Y8 ((lists m.es).take x.c.size) t)
 rw[<-a7] at hc;obtain⟨pl,ch⟩:=zzx (ph.map HS)
 have aa:=zh ch;clear ch;obtain⟨H,bk,HC,B,al,an,S,bl,bm⟩:=zh9 h a8 hc hs a7 be ay q1 q2;obtain⟨am,dg,dh,ap,aq,eg,bh,bi⟩:=zh8 q3 q4 q7 z1 z2 ba b7 cc;obtain⟨sz,X⟩:=zzx x.size
 rw[<-X] at bk k1 ht;have q:=zh X;have eo:sz<=8192:=by omega
 have d6:IntKind.i64.wrap ((sz:Int)+3)=((sz+3:Nat):Int):=by rw[VT _ (by omega)];omega
 have d5:IntKind.i64.wrap (((t+1:Nat):Int)-1)=(t:Int):=by rw[VT _ (by omega)];omega
 clear h a8 hc hs hr X b8 ca cm q1 q2 q3 q4 q5 q7 z1 z2 ba hg a7 be ay b7 cc co cn du R
 go_enter func68,ntmps68
 go_upto_region 2 with (first|go_at_call 6;refine bk.o.m ?_;rintro e w1⟨rfl,rfl⟩|fail)
 go_upto_region 3 with (first|go_at_call 36;refine HC.o.m ?_;intro e w1 h1;obtain⟨nn,a1,bu,rfl,cg,cp,ea,b5,ce,b6,ag⟩:=h1.fine aa.o;obtain⟨c8,da,aj,bn,dl,dc⟩:=zh6 b5 ce b6 ag cp cg;clear h1 b5 ce b6 ag cp cg|fail)
 have au:=H.o.next aj.o bn.o c8.o da.o bm.o bl.o (by have:=ap.o;have:=bh.o;omega) (by have:=aq.o;have:=bi.o;omega);obtain⟨W1,ab⟩:=zzx (w1.alloc (.cells #[.int .i64 0,.string ⟨#[]⟩] 63))
 have ac:Bz w1 W1:=by rw[ab];exact Qa w1 _
 have b0:Zq W1 w1.heap.size 0 ⟨#[]⟩:=by rw[ab];exact zy w1 _
 rw[<-ab];have hE:=au.j ac;obtain⟨E1,cu,T1,B1,V1⟩:=zh5 hE (λk (hk:WdS p m k)=>au.wd.lt hk) b0 ac (Qn dl.o ac);have g1:W1.cell? ⟨x.ra,1,none⟩=some (.int .i64 sz):=by rw[q.o];exact Qd hE.rd.cells 1 rfl
 have d3:=hE.wd.heads.1.2.2.2.1;have b3:x.ra<W1.heap.size:=Qb hE.rd.cells;have b4:p.gw<W1.heap.size:=Qj d3;have dt:=Qy9 hE.wd.ents;have ag:¬ (t:Int)<0:=by omega
 have dz:¬ (sz:Int)<=(t:Int):=by omega
 have f:sz<=m.es.length:=by
  have:=H.o.rdc.tr.size
  rw[Qx,<-B.o,<-q.o] at this;exact this
 have cl:∀ u∈m.es,u.size<=1048576:=λu hu=>by
  have:=hE.rdw.short u.data.toList (zU.2 ⟨u,hu,rfl⟩)
  simp at this;omega
 have bf:=Qq.at hE.wd.ents;have ae:∀ (b c:Nat),p.en=.slice (some ⟨b,0,none⟩) m.es.length c->∀ W,Bz W1 W->Calls prog 41 #[.slice (some ⟨b,0,none⟩) sz c,.int .i64 t] W λe w'=>∃ v',e=.returned v'/\Qq w' W.heap.size v' pl/\Bz W w':=λb c he W hW=>by
  have h1:=bf.j hW;rw[he] at h1;have em:(m.es.take sz).length=sz:=by rw[zm];omega
  have:=Qu7 sz (m.es.take sz) (.slice (some ⟨b,0,none⟩) sz c) t W (by omega) (Qf4 h1 f) (by omega) (λu hu=>cl u (zQ hu)) (by omega)
  rw[show Y8 (lists (m.es.take sz)) t=ph by rw[Qmp,al.o,<-B.o,<-q.o],<-aa.o] at this;exact this
 obtain⟨dd,ed⟩:=zh2 ae f;clear ab ac b0 hE au bf ae cl k0 k1;rcases dt with⟨he,cx⟩|⟨b,cb,he,az⟩
 .exfalso
  rw[cx] at f;simp at f;omega
 obtain⟨de,Z⟩:=zh2 (dd.o b cb he) he;rw[he] at d3;obtain⟨ln,a5⟩:=zzx m.es.length
 have d0:sz<=cb:=zi f az;rw[<-a5] at d3 az f;have bj:=zh a5;have bx:W1.drew.cell? ⟨x.ra,1,none⟩=some (.int .i64 sz):=g1;have bw:W1.drew.cell? ⟨p.gw,3,none⟩=some (.slice (some ⟨b,0,none⟩) ln cb):=d3;clear he a5
 go_upto_region 5 with fail
 go_region_held3 (λw'=>w'.cell? ⟨x.ra,1,none⟩=some (.int .i64 sz)/\w'.cell? ⟨p.gw,3,none⟩=some (.slice (some ⟨b,0,none⟩) ln cb)) (first|with_reducible exact⟨g1,d3⟩|with_reducible exact⟨bx,bw⟩|with_reducible exact⟨m1,m3⟩|fail) (first|go_at_call 41;refine (de.o _ (Ql W1)).m ?_;rintro e w2⟨v2,rfl,cq,b1⟩;obtain⟨l,V2⟩:=zh2 (show Bz W1 w2 from (Ql W1).t b1) cq;have m1:=(l.o.cell (p:=⟨x.ra,1,none⟩) b3).t g1;have m3:=(l.o.cell (p:=⟨p.gw,3,none⟩) b4).t d3;clear b1 cq|fail)
 all_goals (
  rename_i hh9
  clear hh9 g1 bx d3 bw ag dz
  have bz:=E1.o.j l.o
  obtain⟨a2,c2,rfl⟩:=Zo V2.o
  have V:pl.length<=1048576:=by
   rw[aa.o,zA,al.o]
   have:=Qa0 ((lists m.es).take x.c.size) t
   rw[zm] at this
   have:=H.o.csize
   omega
  have ck:Calls prog 35 #[.slice a1 pl.length bu,.slice a2 pl.length c2] w2 λe w'=>e=.returned (.bool true)/\Bz w2 w':=by
   have:=Qdl (.slice a1 pl.length bu) (.slice a2 pl.length c2) pl pl w2 (Qq.at (Qn V1.o l.o)) (Qq.at V2.o) V
   simpa using this
  have di:=zh ck
  have E2:=zh bz
  clear bz ck
  go_upto_region 7 with (first|go_at_call 35;refine di.o.m ?_;rintro e w3⟨rfl,b2⟩;have M:=zh b2;clear b2|fail)
  have a:=E2.o.j M.o
  have av:=(T1.o.j l.o).j M.o
  obtain⟨t0,t1,E,I,tlt⟩:=av.facts
  have g3:=a.wd.heads.1.2.2.2.1
  have hq:w3.cell? ⟨b,t,none⟩=some (.string s):=by
   obtain⟨a9,c9,h9,_,ax⟩:=Qq.at a.wd.ents
   rw[Z.o] at h9
   cases h9
   obtain⟨b9,o9,e9,ar⟩:=ax t (.string s) (by rw[zN,an.o];rfl)
   cases e9
   simpa using ar
  rw[Z.o,<-bj.o] at g3
  have d2:(t:Int)<(ln:Int):=by omega
  have c0:(0:Int)<=(t:Int):=by omega
  have d4:t<ln:=by omega
  have N:=zh a
  have dj:=zh av
  clear a av
  go_cut [99] from 75 to 98 (λs99 wx=>s99=.bool false/\Aside (wx=w3))
  case first=>
   cases nn with
   | false=>
    go_wp2
    go_meet
    exact⟨rfl,rfl⟩
   | true=>
    obtain rfl:=dc.o rfl
    go_wp2
    go_meet
    exact⟨rfl,rfl⟩
  case rest=>
   obtain⟨rfl,d7⟩:=hcut
   obtain rfl:wc=w3:=d7
   have a:=N.o
   have R:m.es.length<=1048576:=by have:=a.few;omega
   have k0:wc.cell? ⟨x.ra,0,none⟩=some (.pointer (some ⟨x.pa,0,none⟩)):=Qd a.rd.cells 0 rfl
   have f3:wc.cell? ⟨g,3,none⟩=some (.int .i64 n1.fetches):=a.net.heads.1.2.2.2
   have cd:t<c1.size:=by rw[am.o,<-B.o,<-q.o];exact ht
   have ad:=Qo1 a (t:Int) (by omega) (by omega)
   obtain⟨r2,ci⟩:=zzx (Y3 c1 n1 (t:Int))
   obtain⟨y1,y2,y3,y4,y5,y6,_⟩:=Qyf a.rdw R bm.o a.nf a.nl cd
   obtain⟨z3,z4⟩:=Qmn (c:=c1) (n:=n1) (i:=(t:Int)) a.csize
   have af:=dh.o
   have hg:(lists m.es).getD t []=s.data.toList:=by rw[zz];simp[lists,an.o]
   rw[hg,am.o,<-al.o] at y6
   dsimp only at ad
   rw[<-ci] at ad y1 y2 y3 y4 y5 y6 z3 z4 af
   obtain⟨⟨eb,ec⟩,⟨eh,el⟩,c4,n4⟩:=r2
   dsimp only at y1 y2 y3 y4 y5 y6 z3 z4 af
   simp only[V6] at y6
   obtain⟨rfl,rfl⟩:=y6
   have d8:eb=0/\ec=⟨#[]⟩:=by simpa [Qbs] using y5
   obtain⟨rfl,rfl⟩:=d8
   have c7:=zh ad
   have bp:=zh y1
   have bq:=zh y2
   have dn:=zh y3
   have dp:=zh y4
   have br:=zh z3
   have bt:=zh z4
   have ao:=zh af
   clear a R cd ad ci y1 y2 y3 y4 y5 z3 z4 af hg t0 t1 E I tlt
   go_upto_region 10 with fail
   go_upto_region 11 with (first|go_at_call 36;refine c7.o.m ?_;intro e w4 h4;obtain⟨d9,a3,c3,rfl,a6,cr,cs,y,cf,a4,cj⟩:=h4.fine aa.o;obtain⟨ah,db,ak,bo,dm,cv,Q⟩:=zh7 y cf a4 cj cr a6 (dj.o.kept a4 N.o.kinds (by decide));obtain⟨t0,t1,E,I,tlt⟩:=Q.o.facts;clear h4 y cf a4 cj cr a6|fail)
   obtain⟨W4,aw⟩:=zzx ((w4.setCell ⟨w1.heap.size,0,none⟩ (.int .i64 0)).setCell ⟨w1.heap.size,1,none⟩ (.string ⟨#[]⟩))
   have d:=Qdi (m:=0) (t:=⟨#[]⟩) Q.o
   rw[<-aw] at d
   rw[<-aw]
   have z:=Q1 Q.o
   have D:=N.o.next ak.o bo.o ah.o db.o bq.o bp.o (by have:=ap.o;have:=br.o;have:=bh.o;omega) (by have:=aq.o;have:=bt.o;have:=bi.o;omega)
   have A:Qa6 W4 p m:=D.wd.fr d.2 (λk hk e=>by have:=cu.o k hk;omega) λk C fz hk e=>Zz hk Q.o (by decide) e
   have T:Yr W4 g p.gd vl K n4:=Jc D.net d.2 z (by decide) (by decide) (by decide)
   have y:ClIs W4 x.gc x.gk x.mc (.iface 48 (.pointer (some ⟨g,0,none⟩))) c4 cs:=ah.o.kept d.2 z (λk hk=>⟨_,_,_,(show w4.heap[k]?=_ from hk ▸ Q.o)⟩) (by decide) (by decide) (by decide) (by decide)
   have j:=Ze D.rd.cells d.2 z (by decide)
   have U:=Ze D.rd.pc d.2 z (by decide)
   obtain⟨t0,t1,E,I,tlt⟩:=d.1.facts
   have f4:W4.cell? ⟨g,3,none⟩=some (.int .i64 n4.fetches):=T.heads.1.2.2.2
   have g4:=A.heads.1.2.2.2.1
   rw[Z.o,<-bj.o] at g4
   have r4:W4.cell? ⟨x.ra,1,none⟩=some (.int .i64 sz):=by rw[q.o];exact Qd j 1 rfl
   have r5:W4.cell? ⟨x.ra,2,none⟩=some (.int .i64 x.cap):=Qd j 2 rfl
   have q4:W4.cell? ⟨b,t,none⟩=some (.string s):=by
    obtain⟨a9,c9,h9,_,ax⟩:=Qq.at A.ents
    rw[Z.o] at h9
    cases h9
    obtain⟨b9,o9,e9,ar⟩:=ax t (.string s) (by rw[zN,an.o];rfl)
    cases e9
    simpa using ar
   have bd:Calls prog 35 #[.slice a3 pl.length c3,.slice a2 pl.length c2] W4 λe w'=>e=.returned (.bool true)/\Bz W4 w':=by
    have:=Qdl (.slice a3 pl.length c3) (.slice a2 pl.length c2) pl pl W4 (Qq.at (Zm dm.o d.2 z (by decide))) (Qq.at (Zm (Zm (Qn V2.o M.o) ak.o N.o.kinds (by decide)) d.2 z (by decide))) V
    simpa using this
   obtain⟨df,a0⟩:∃ df:Int,df=(n4.fetches:Int)-(n1.fetches:Int):=⟨_,rfl⟩
   have ep:IntKind.i64.wrap ((n4.fetches:Int)-(n1.fetches:Int))=df:=by
    rw[a0]
    exact VT _ (by have:=D.fetches;have:=N.o.fetches;omega)
   have fin:∀ w6,Bz W4 w6->Qnl w p m P g vl K n x (.returned (.bool true)) w6:=λw6 hb=>by
    have d5:w.heap.size<=w1.heap.size:=aj.o.size
    have d6:w1.heap.size<=wc.heap.size:=zi B1.o.size (zi l.o.size M.o.size)
    have ds:Bz w1 wc:=B1.o.t ((l.o.t (M.o.m l.o.size)).m B1.o.size)
    have cz:Fr (cnS x.gc x.gk x.mc g K x.qs) w wc:=aj.o.t (Fr.ofBelow ds)
    have bc:Sub w (cnS x.gc x.gk x.mc g K x.qs) (cnS x.gc x.gk x.mc g K ea):=bn.o
    have cy:Fr (cnS x.gc x.gk x.mc g K x.qs) w w4:=Fr.sub cz ak.o bc
    have dv:Fr (cnS x.gc x.gk x.mc g K x.qs) w w6:=(cy.step d.2 λk h1 h2=>by omega).t (Fr.ofBelow hb)
    refine⟨rfl,c4,n4,cs,⟨?_,(hb.block _ (Qb U)).t U,y.j hb⟩,T.j hb,A.j hb,dv.weak λ_ _=>.inl,λk hk=>?_,bq.o,bl.o.t bp.o,dp.o.t dg.o,by have:=ap.o;have:=br.o;omega,by have:=aq.o;have:=bt.o;omega⟩
    .have e:c4.size=x.size:=by rw[dn.o,am.o,<-B.o]
     rw[e]
     exact (hb.block _ (Qb j)).t j
    rcases bo.o k hk with e|e
    .exact bc k e
    exact .inr (by omega)
   have cw:=zh bd
   have FIN:=zh fin
   have ai:=zh a0
   have dk:=zh d.1
   have ef:=zh A
   have ee:=zh j
   clear aw d z D A T y j U bd fin a0 t0 t1 E I tlt hq g3 k0 f3 m1 m3
   go_upto_region 13 with (first|go_at_call 35;refine cw.o.m ?_;rintro e w5⟨rfl,v⟩;have c6:=zh v;obtain⟨t0,t1,E,I,tlt⟩:=(dk.o.j v).facts;have g5:=(v.cell (p:=⟨p.gw,3,none⟩) (Qj g4)).t g4;have q5:=(v.cell (p:=⟨b,t,none⟩) (Qj q4)).t q4;have r6:=(v.cell (p:=⟨x.ra,1,none⟩) (Qj r4)).t r4;have r7:=(v.cell (p:=⟨x.ra,2,none⟩) (Qj r5)).t r5;clear v|fail)
   go_cut [148] from 124 to 147 (λs148 wx=>s148=.bool false/\Aside (wx=w5))
   case first=>
    cases d9 with
    | false=>
     go_wp2
     go_meet
     exact⟨rfl,rfl⟩
    | true=>
     obtain rfl:=cv.o rfl
     go_wp2
     go_meet
     exact⟨rfl,rfl⟩
   case rest=>
    obtain⟨rfl,c5⟩:=hcut
    obtain rfl:wc=w5:=c5
    have hA:x.cap<16∨(¬ x.cap<16/\(256:Int)<(sz:Int))∨(¬ x.cap<16/\¬ (256:Int)<(sz:Int)/\df=0):=by
     have h1:=ao.o.1
     rw[S.o,<-B.o,<-q.o] at h1
     have:=ai.o
     omega
    have hB:0<x.cap∨(¬ 0<x.cap/\0<df):=by
     have h1:=ao.o.2.1
     rw[S.o] at h1
     have:=ai.o
     omega
    have hC:1<x.cap∨(¬ 1<x.cap/\(sz:Int)<2)∨(¬ 1<x.cap/\¬ (sz:Int)<2/\0<df):=by
     have h1:=ao.o.2.2
     rw[S.o,<-B.o,<-q.o] at h1
     have:=ai.o
     omega
    rename_i K2 a2
    refine a2 _ _ ?_
    refine wp_cond_false rfl ?_
    have ct:=zh (FIN.o _ c6.o)
    clear t0 t1 E I tlt g5 q5 f4 g4 q4 r4 r5 d2 c0 d4 d0 az f b3 b4 V
    rcases hA with hA|⟨dq,hA⟩|⟨dq,ei,rfl⟩
    all_goals (
     rcases hB with hB|⟨ej,hB⟩
     all_goals (
      rcases hC with hC|⟨dr,hC⟩|⟨dr,ek,hC⟩
      all_goals (
       first
       | (exfalso;omega)
       | (
         go_wp2
         go_ret
         exact ct.o)))))
section
open Go.RowKit Go.MuLone
def Qy2(F:Nat->Addr)(w:G)(gc gk mc gn gd:Nat)(vl vt:J)(qs:List CEnt)(r:Tld×List Hsh×Cl×Nt)(e:Ua)(w':G):Prop:=
 ∃ v y,e=.returned (.tuple #[v,y])/\Qa5 w' w.heap.size v r.2.1/\Qqr F w' w.heap.size r.1 y/\
  ∃ qs',ClM 0 w' gc gk mc (.iface 48 (.pointer (some ⟨gn,0,none⟩))) r.2.2.1 qs'/\Yr w' gn gd vl vt r.2.2.2/\Fr (cnS gc gk mc gn vt qs) w w'/\Sub w (cnS gc gk mc gn vt qs) (cnS gc gk mc gn vt qs')
variable {W:G} {gc:Nat} {v y:J}
theorem Qdo{R:Ua->G->Prop}{T:Array J}(c:W.cell? ⟨gc,0,none⟩=some (.int .i32 1))(d:W.frozen? ⟨gc,0,none⟩=false)(a:T.getD 2 undef=v)(b:T.getD 3 undef=y)(g:R (.returned (.tuple #[v,y])) (W.setCell ⟨gc,0,none⟩ (.int .i32 0))):bodyPostD prog f85 R Exit.ret { tmps:=T,defers:=[{ target:=.fn (.func 135) #[],args:=#[.pointer (some ⟨gc,0,none⟩)] }] } W:=by
 refine XV (f:=135) (args:=#[.pointer (some ⟨gc,0,none⟩)]) (by simp) (by simp[go_sem]) ?_;refine (unlock_deferred Zal ⟨gc,0,none⟩ .returning W c d).mono ?_;rintro e u' w''⟨rfl,rfl,rfl⟩;simp only[Leaves,settle];refine⟨.tuple #[v,y],?_,g⟩;have a2:T[2]?.getD undef=v:=by simpa [ZK] using a
 have a3:T[3]?.getD undef=y:=by simpa [ZK] using b
 simp[results,results85,go_sem,a2,a3]
variable {w:G} {gk mc gn gd:Nat} {vl vt:J} {qs:List CEnt}
theorem Qge{F:Nat->Addr}{a:List CEnt}{t:Tld}{l:List Hsh}{b:Cl}{d:Nt}(c:ClM 1 W gc gk mc (.iface 48 (.pointer (some ⟨gn,0,none⟩))) b a)(h:Yr W gn gd vl vt d)(g:Fr (cnS gc gk mc gn vt qs) w W)(j:Sub w (cnS gc gk mc gn vt qs) (cnS gc gk mc gn vt a))(m:Qa5 W w.heap.size v l)(f:Qqr F W w.heap.size t y):Qy2 F w gc gk mc gn gd vl vt qs (t,l,b,d) (.returned (.tuple #[v,y])) (W.setCell ⟨gc,0,none⟩ (.int .i32 0)):=by
 have hF:=Fr.set1 W gc 0 (.int .i32 0);have hk:=Q1 c.cells;refine⟨v,y,rfl,Zm m hF hk (by decide),f.fr hF λk C fz hC=>Z3 hk hC (by decide),a,c.turn 0,?_,g.step hF λi hi e=>.inl (.inl e),j⟩;exact Jc h hF hk (by decide) (by decide) (by decide)
theorem Zat(w:G)(g:Nat)(n:Int)(k:Hsh):Fr (·=g) w (((((((((w.setCell ⟨g,0,none⟩ (.int .i64 n)).setCell ⟨g,1,none⟩ (u8 k[0])).setCell ⟨g,2,none⟩ (u8 k[1])).setCell ⟨g,3,none⟩ (u8 k[2])).setCell ⟨g,4,none⟩ (u8 k[3])).setCell ⟨g,5,none⟩ (u8 k[4])).setCell ⟨g,6,none⟩ (u8 k[5])).setCell ⟨g,7,none⟩ (u8 k[6])).setCell ⟨g,8,none⟩ (u8 k[7])):=(((((((((Fr.set1 w g 0 (.int .i64 n)).set 1 (u8 k[0])).set 2 (u8 k[1])).set 3 (u8 k[2])).set 4 (u8 k[3])).set 5 (u8 k[4])).set 6 (u8 k[5])).set 7 (u8 k[6])).set 8 (u8 k[7]))
variable {g:Nat}
theorem Zc8(h:Qcl w g 0 Zb)(n:Int)(k:Hsh):Qcl (((((((((w.setCell ⟨g,0,none⟩ (.int .i64 n)).setCell ⟨g,1,none⟩ (u8 k[0])).setCell ⟨g,2,none⟩ (u8 k[1])).setCell ⟨g,3,none⟩ (u8 k[2])).setCell ⟨g,4,none⟩ (u8 k[3])).setCell ⟨g,5,none⟩ (u8 k[4])).setCell ⟨g,6,none⟩ (u8 k[5])).setCell ⟨g,7,none⟩ (u8 k[6])).setCell ⟨g,8,none⟩ (u8 k[7])) g n k:=
 (heap_setCell (i:=8) (heap_setCell (i:=7) (heap_setCell (i:=6) (heap_setCell (i:=5) (heap_setCell (i:=4) (heap_setCell (i:=3) (heap_setCell (i:=2) (heap_setCell (i:=1) (heap_setCell (i:=0) h (.int .i64 n)) (u8 k[0])) (u8 k[1])) (u8 k[2])) (u8 k[3])) (u8 k[4])) (u8 k[5])) (u8 k[6])) (u8 k[7])).t (by simp[trC,bv])
theorem Q5c(w:G)(g:Nat)(n:Int)(k:Hsh):Fr (·=g) w (((((((((w.setCell ⟨g,4,none⟩ (.int .i64 n)).setCell ⟨g,5,none⟩ (u8 k[0])).setCell ⟨g,6,none⟩ (u8 k[1])).setCell ⟨g,7,none⟩ (u8 k[2])).setCell ⟨g,8,none⟩ (u8 k[3])).setCell ⟨g,9,none⟩ (u8 k[4])).setCell ⟨g,10,none⟩ (u8 k[5])).setCell ⟨g,11,none⟩ (u8 k[6])).setCell ⟨g,12,none⟩ (u8 k[7])):=(((((((((Fr.set1 w g 4 (.int .i64 n)).set 5 (u8 k[0])).set 6 (u8 k[1])).set 7 (u8 k[2])).set 8 (u8 k[3])).set 9 (u8 k[4])).set 10 (u8 k[5])).set 11 (u8 k[6])).set 12 (u8 k[7]))
variable {mu:Int} {vf:J} {c:Cl}
theorem Za5(h:ClM mu w g gk mc vf c qs)(n:Nat)(k:Hsh):ClM mu (((((((((w.setCell ⟨g,4,none⟩ (.int .i64 n)).setCell ⟨g,5,none⟩ (u8 k[0])).setCell ⟨g,6,none⟩ (u8 k[1])).setCell ⟨g,7,none⟩ (u8 k[2])).setCell ⟨g,8,none⟩ (u8 k[3])).setCell ⟨g,9,none⟩ (u8 k[4])).setCell ⟨g,10,none⟩ (u8 k[5])).setCell ⟨g,11,none⟩ (u8 k[6])).setCell ⟨g,12,none⟩ (u8 k[7])) g gk mc vf { c with size:=n,root:=k } qs:=
 ⟨(heap_setCell (i:=12) (heap_setCell (i:=11) (heap_setCell (i:=10) (heap_setCell (i:=9) (heap_setCell (i:=8) (heap_setCell (i:=7) (heap_setCell (i:=6) (heap_setCell (i:=5) (heap_setCell (i:=4) h.cells (.int .i64 n)) (u8 k[0])) (u8 k[1])) (u8 k[2])) (u8 k[3])) (u8 k[4])) (u8 k[5])) (u8 k[6])) (u8 k[7])).t (by simp[bv]),h.cache.fr (Q5c w g n k) (λi hi e=>h.apart i hi e) h.noBytes⟩
theorem Q51(w:G)(a b:Hsh):Sem.run prog (binOp .neq 143 (.agg (h8 a)) (.agg (h8 b))) w=.ok (Value.bool (!(some a == some b))) w:=by rw[run_neq_struct,eqn];rfl
theorem Zcx(w:G)(a b:Hsh):Sem.run prog (binOp .neq 143 (.agg #[bv a[0],bv a[1],bv a[2],bv a[3],bv a[4],bv a[5],bv a[6],bv a[7]]) (.agg #[bv b[0],bv b[1],bv b[2],bv b[3],bv b[4],bv b[5],bv b[6],bv b[7]])) w=.ok (Value.bool (!decide (a=b))) w:=by
 have h:=Q51 w a b;rw[Qg5,Qg5] at h;rw[h];by_cases e:a=b
 .simp[e]
 simp[e,zl.2 e]
theorem ClM.netTurn{w':G}{n:Nt}(h:ClM mu w gc gk mc vf c qs)(a:Yr w gn gd vl vt n)(b:Fr (netS gn vt) w w'):ClM mu w' gc gk mc vf c qs:=by
 have hk:=Qbw a;refine⟨Ze h.cells b hk (by decide),Qfw h.cache b hk ?_ (by decide) (by decide) (by decide)⟩;obtain⟨D,⟨es,cl,hb,_⟩,_⟩:=h.cache.km.ex;rintro (e|e)
 .rw[e,a.cells] at hb;cases hb
 obtain⟨C,hC⟩:=Qk a.told e;rw[hC] at hb;cases hb
theorem Qxk{f w3:G}{a b N:Nat}{x:Qv}{s:Cs}{d:Dk}(g:Fr (cnS gc gk mc gn vt qs) w f)(i:Bz f w3)(j:f.heap.size<=a)(l:f.heap.size<=b)(h:QIs W (cQ a gc gk mc gn gd b vl vt v c) x N s d)(m:Fr (QS (cQ a gc gk mc gn gd b vl vt v c) ⟨.slice none 0 0,qs,[]⟩) w3 W)(n:Sub w3 (QS (cQ a gc gk mc gn gd b vl vt v c) ⟨.slice none 0 0,qs,[]⟩) (QS (cQ a gc gk mc gn gd b vl vt v c) x)):∃ qs',ClM 1 W gc gk mc (.iface 48 (.pointer (some ⟨gn,0,none⟩))) { c with cache:=s.cache } qs'/\Yr W gn gd vl vt s.net/\Fr (cnS gc gk mc gn vt qs) w W/\Sub w (cnS gc gk mc gn vt qs) (cnS gc gk mc gn vt qs'):=by
 obtain⟨vo,qs',vs⟩:=x;obtain⟨e1,e2,e3,e4⟩:=Q6u j l i h m n;exact⟨qs',e1,e2,g.t e3,λk hk=>(e4 k hk).imp id λe=>zi g.size e⟩
def Zdi:Op:=.convert 147 9 (.tmp 26)
theorem Q8z:Op.convert 147 9 (.tmp 26)=Zdi:=rfl
section
attribute [local go_sem] Zdi
theorem Qr2(F:Nat->Addr)(w:G)(b gk K A I:Nat)(V E v:J)(c:Cl)(P:List CEnt)(n:Nt)(d:Dk)(h:ClIs w b gk K (.iface 48 (.pointer (some ⟨A,0,none⟩))) c P)(hn:Yr w A I V E n)(hd:Q5 w I v d)(c3:d.files=n.files)(hE:Qbj F (cnS b gk K A E P) w)(ft:n.fetches<1152921504606000000)(ek:c.key.size<=9223372036854775807)(c1:∀ data,Yx n (sOf kCp)=some data->data.length<=1048576)(fx:c.size<9223372036854775808)(ab:∀ (data:Ud) (N:Nat),Yx n (sOf kCp)=some data->(Zy data c.key.data.toList).2.2=true->(Zy data c.key.data.toList).1=(N:Int)->c.size<N->0<c.size->
   Bnd (askQ (Zt n (sOf kCp)) c.cache) (Z0 N (Js N 0 N c.size).reverse).length/\(Qhl c.size N (askQ (Zt n (sOf kCp)) c.cache)).1≠.error .panic/\c.cache.items.length+(Z0 N (Js N 0 N c.size).reverse).length<1099511627775):Calls prog 85 #[.pointer (some ⟨b,0,none⟩)] w (Qy2 F w b gk K A I V E P (Z1 c n)):=by
 obtain⟨R,hR⟩:=zzx (Z1 c n)
 have fv:=h.lt;rw[<-hR];obtain⟨H,HN,HD,cg,HE,HR,et,bb⟩:=zh8 h hn hd c3 hE hR c1 ab;clear h hn hd c3 hE hR c1 ab
 go_enter_defers func85,ntmps85
 go_upto_region 3 with (first|go_at_call 134;refine (Qo9 H.o).m ?_;rintro e w1⟨rfl,h1,c5,dr⟩;obtain⟨H1,be,fp⟩:=zh3 h1 c5 dr;clear h1 c5 dr|fail)
 have T:Yr w1 A I V E n:=Jc HN.o be.o (Q1 H.o.cells) (by decide) (by decide) (by decide);have bu:Q5 w1 I v d:=HD.o.kept be.o (Q1 H.o.cells) (by decide) (by decide);have a7:=cfetch0 w1 b A I V E v n d (sOf kCp) (Qd H1.o.cells 2 rfl) T bu cg.o (by omega);have br:sOf kCp=⟨#[99,104,101,99,107,112,111,105,110,116]⟩:=by rfl
 have fo:=zh a7;rw[br] at a7;obtain⟨ee,cl,ev⟩:=zh3 a7 T bu;clear T bu a7
 go_upto_region 4 with (first|go_at_call 136;refine ee.o.m ?_;intro e w2 h2;rw[<-br] at h2;obtain⟨dd,c6,u2,y2,rfl,dp⟩:=h2;obtain⟨Z,bf,cn⟩:=zh3 dd c6 dp;clear dd c6 dp|fail)
 clear br;have cr:ClM 1 w2 b gk K (.iface 48 (.pointer (some ⟨A,0,none⟩))) c P:=H1.o.netTurn cl.o bf.o;have bn:Fr (cnS b gk K A E P) w w2:=(be.o.weak λ_ _ e=>.inl (.inl e)).t (bf.o.weak λ_ _ e=>.inr e);have cs:Qbj F (cnS b gk K A E P) w2:=HE.o.fr bn;have ff:=cn.o;obtain⟨ae,X,bd⟩:=zh3 cr bn cs;clear cr bn cs cn;rcases ff with⟨data,b0,rfl,df,a,k,cc,rfl⟩|⟨c8,⟨q9,rfl⟩,a,k,cc,rfl⟩
 rotate_left
 .have e0:=zh c8
  have hg:=bd.o.sents.cells.2.2.1;clear c8;go_wp2;go_region
  all_goals (
   go_wp2
   refine Qdo (v:=.slice none 0 0) (y:=.iface 370 (.pointer (some (F 2)))) (Qd (w:=w2.drew) ae.o.cells 0 rfl) (Qu (w:=w2.drew) ae.o.cells 0) rfl rfl ?_
   have t:R=((3,⟨#[]⟩),[],c,Zt n (sOf kCp)):=by
    rw[HR.o]
    unfold Z1
    rw[e0.o]
   rw[t]
   exact Qge (ae.o.j (Ql w2)) (Z.o.j (Ql w2)) X.o.drew (Sub.refl _ _) (zv _ _ _ _) (.inr (.inl ⟨2,by decide,by decide,rfl,rfl⟩)))
 obtain⟨q,hq⟩:=zzx (Zy data c.key.data.toList)
 have b4:=et.o data b0;have ap:=Qbl data c.key.data.toList;rw[<-hq] at ap;have bt:∀ W,Bz w2 W->Sem.run prog (convert 147 9 (.slice a k cc)) W=.ok (.string (sOf data)) W:=λW hW=>Qdq (df.at.j hW)
 have bq:∀ W,Bz w2 W->Calls prog 137 #[.string (sOf data),.string c.key] W (Qi6 q W):=λW hW=>by have h1:=Qmf (sOf data) c.key W (by rw[Y1];exact b4) ek (bd.o.j hW).num;rw[show (sOf data).data.toList=data by simp[sOf],<-hq] at h1;exact h1
 obtain⟨qn,qh,qb⟩:=q;have fs:=bt w2.drew (Ql w2);obtain⟨bh,HQ,ef,bc,eu⟩:=zh5 b0 hq ap bq bt;clear b0 df hq b4 ap bq bt
 go_upto_region 6 with fail
 go_cut [6,7] from 25 to 34 (λs6 s7 wx=>∃ q6,s6=.pointer (some ⟨q6,0,none⟩)/\s7=.bool qb/\Aside (Qcl wx q6 qn qh)/\Aside (Bz w2 wx)/\w2.heap.size<=q6)
 case first=>
  have ac:b<w2.heap.size:=ae.o.lt;have ao:¬ b=w2.heap.size:=by omega
  have k1:w2.cell? ⟨b,3,none⟩=some (.string c.key):=Qd ae.o.cells 3 rfl;have fl:w2.drew.cell? ⟨b,3,none⟩=some (.string c.key):=k1;have fm:(w2.alloc (.cells #[.int .i64 0,.int .u8 0,.int .u8 0,.int .u8 0,.int .u8 0,.int .u8 0,.int .u8 0,.int .u8 0,.int .u8 0] 145)).drew.cell? ⟨b,3,none⟩=some (.string c.key):=((Qa w2 _).cell (p:=⟨b,3,none⟩) ac).t k1;have fq:=eu.o (w2.alloc (.cells #[.int .i64 0,.int .u8 0,.int .u8 0,.int .u8 0,.int .u8 0,.int .u8 0,.int .u8 0,.int .u8 0,.int .u8 0] 145)).drew ((Qa w2 _).drew);rw[Q8z]
  go_region_held3 (λw'=>w'.cell? ⟨b,3,none⟩=some (.string c.key)) (first|(with_reducible first|exact fl|exact m1|exact fm|exact d2|exact (Zat w7 _ _ _).cell m1 ao)|exact ((Qa w7 _).cell (p:=⟨b,3,none⟩) a9).t m1|fail) (first|go_at_call 137;refine (bc.o _ (Ql w2)).m ?_;rintro e w7⟨rfl,M⟩;have f:=zh (show Bz w2 w7 from (Ql w2).t M);have m1:=(f.o.cell (p:=⟨b,3,none⟩) ac).t k1;have a9:=zJ ac f.o.size;have d2:(w7.alloc (.cells #[.int .i64 0,.int .u8 0,.int .u8 0,.int .u8 0,.int .u8 0,.int .u8 0,.int .u8 0,.int .u8 0,.int .u8 0] 145)).cell? ⟨b,3,none⟩=some (.string c.key):=((Qa w7 _).cell (p:=⟨b,3,none⟩) a9).t m1;clear M|go_at_call 137;refine (bc.o _ ((Ql w2).alloc (zg _) _)).m ?_;rintro e w7⟨rfl,M⟩;have f:=zh (show Bz w2 w7 from ((Ql w2).alloc (zg _) _).t (M.m (by simp)));have m1:=(f.o.cell (p:=⟨b,3,none⟩) ac).t k1;have a9:=zJ ac f.o.size;have d2:(w7.alloc (.cells #[.int .i64 0,.int .u8 0,.int .u8 0,.int .u8 0,.int .u8 0,.int .u8 0,.int .u8 0,.int .u8 0,.int .u8 0] 145)).cell? ⟨b,3,none⟩=some (.string c.key):=((Qa w7 _).cell (p:=⟨b,3,none⟩) a9).t m1;have av:=zh (Qcl.j (show Qcl (w2.drew.alloc (.cells (trC 0 Zb) 145)) w2.heap.size 0 Zb from zy w2.drew _) M);have ⟨n0,n1,n2,n3,n4,n5,n6,n7,n8⟩:=av.o.cells;have nf:=(λi=>Qu av.o i:∀ i,w7.frozen? ⟨w2.heap.size,i,none⟩=false);have nb:=Qb av.o;clear M|fail)
  all_goals (
   go_wp2
   go_meet
   show ∃ q6,_/\_/\Aside (Qcl _ q6 qn qh)/\Aside (Bz w2 _)/\w2.heap.size<=q6
   first
    | (
      refine⟨w7.heap.size,rfl,rfl,?_,?_,f.o.size⟩
      .show Qcl _ _ _ _
       exact zy w7 _
      show Below _ _ _
      exact f.o.alloc f.o.size _)
    | (
      refine⟨w2.heap.size,rfl,rfl,?_,?_,zg _⟩
      .show Qcl _ _ _ _
       exact Zc8 av.o qn qh
      show Below _ _ _
      exact f.o.t ((Zat w7 w2.heap.size qn qh).j f.o.size λk hk e=>by omega)))
 case rest=>
  obtain⟨q6,rfl,rfl,bj,m,fw⟩:=hcut;obtain⟨g,ch⟩:=zh2 (ae.o.j m.o) (bd.o.j m.o);have fk:=bj.o.cells.1;have af:wc.cell? ⟨b,4,none⟩=some (.int .i64 c.size):=Qd g.o.cells 4 rfl;obtain⟨_,_,g2,g3,g4,_,_⟩:=ch.o.sents.cells;cases qb with
  | false=>
   go_wp2;go_region
   all_goals (
    go_wp2
    refine Qdo (v:=.slice none 0 0) (y:=.iface 370 (.pointer (some (F 2)))) (Qd (w:=wc.drew) g.o.cells 0 rfl) (Qu (w:=wc.drew) g.o.cells 0) rfl rfl ?_
    have t:R=((3,⟨#[]⟩),[],c,Zt n (sOf kCp)):=by
     rw[HR.o]
     unfold Z1
     rw[bh.o]
     dsimp only
     rw[<-HQ.o]
     rfl
    rw[t]
    exact Qge (g.o.j (Ql wc)) ((Z.o.j m.o).j (Ql wc)) ((X.o.t (Fr.ofBelow m.o)).drew) (Sub.refl _ _) (zv _ _ _ _) (.inr (.inl ⟨2,by decide,by decide,rfl,rfl⟩)))
  | true=>
   obtain⟨p1,p2,_⟩:=ef.o.1 rfl;dsimp only at p1 p2;obtain⟨N,rfl⟩:∃ N:Nat,qn=N:=⟨qn.toNat,by omega⟩
   have cw:Z1 c n=(if N<c.size then ((4,⟨#[]⟩),[],c,Zt n (sOf kCp)) else
     if N=c.size then (if qh=c.root then (Qbs,[],c,Zt n (sOf kCp)) else ((5,⟨#[]⟩),[],c,Zt n (sOf kCp))) else
     if c.size=0 then (Qbs,[],{ c with size:=N,root:=qh },Zt n (sOf kCp)) else
     match Qhl c.size N (askQ (Zt n (sOf kCp)) c.cache) with
     | (.error (.miss p),s)=>((6,p),[],{ c with cache:=s.cache },s.net)
     | (.error .panic,s)=>((99,⟨#[]⟩),[],{ c with cache:=s.cache },s.net)
     | (.ok l,s)=>if Yt c.size N c.root qh l=true then (Qbs,l,{ c with size:=N,root:=qh,cache:=Zl s.cache s.files },s.net) else ((5,⟨#[]⟩),[],{ c with cache:=s.cache },s.net)):=by
    unfold Z1;rw[bh.o];dsimp only;rw[<-HQ.o];dsimp only;rw[zw (by decide),zO];rfl
   have ak:=zh cw;have ab:=λh1 h2=>bb.o data N bh.o (by rw[<-HQ.o]) (by rw[<-HQ.o]) h1 h2
   have eq:=zh ab;clear cw ab bb;rcases XJ N c.size with hl|hl|hl
   .have fu:(N:Int)<(c.size:Int):=by omega
    have C:=zh hl;clear hl
    go_upto_region 9 with fail
    go_region
    all_goals (
     go_wp2
     go_region
     all_goals (
      go_wp2
      have hb:Bz wc wc.drew.drew:=(Ql wc).drew
      refine Qdo (v:=.slice none 0 0) (y:=.iface 370 (.pointer (some (F 3)))) (Qd (w:=wc.drew.drew) g.o.cells 0 rfl) (Qu (w:=wc.drew.drew) g.o.cells 0) rfl rfl ?_
      have t:R=((4,⟨#[]⟩),[],c,Zt n (sOf kCp)):=by rw[HR.o,ak.o,zD C.o]
      rw[t]
      exact Qge (g.o.j hb) ((Z.o.j m.o).j hb) (X.o.t (Fr.ofBelow (m.o.t (hb.m m.o.size)))) (Sub.refl _ _) (zv _ _ _ _) (.inr (.inl ⟨3,by decide,by decide,rfl,rfl⟩))))
   .have fn:wc.cell? ⟨b,4,none⟩=some (.int .i64 N):=by rw[hl];exact af
    have C:=zh hl;obtain⟨_,t1,t2,t3,t4,t5,t6,t7,t8⟩:=bj.o.cells;have k0:wc.cell? ⟨b,5,none⟩=some (bv c.root[0]):=Qd g.o.cells 5 rfl;have k1:wc.cell? ⟨b,6,none⟩=some (bv c.root[1]):=Qd g.o.cells 6 rfl;have k2:wc.cell? ⟨b,7,none⟩=some (bv c.root[2]):=Qd g.o.cells 7 rfl;have k3:wc.cell? ⟨b,8,none⟩=some (bv c.root[3]):=Qd g.o.cells 8 rfl;have k4:wc.cell? ⟨b,9,none⟩=some (bv c.root[4]):=Qd g.o.cells 9 rfl;have k5:wc.cell? ⟨b,10,none⟩=some (bv c.root[5]):=Qd g.o.cells 10 rfl;have k6:wc.cell? ⟨b,11,none⟩=some (bv c.root[6]):=Qd g.o.cells 11 rfl;have k7:wc.cell? ⟨b,12,none⟩=some (bv c.root[7]):=Qd g.o.cells 12 rfl;have fj:=λW=>Zcx W qh c.root
    obtain⟨eb,bx⟩:=zzx (decide (qh=c.root))
    rw[<-bx] at fj;have ci:=zh bx;clear hl af bx
    go_upto_region 9 with fail
    go_region
    all_goals (
     go_upto_region 11 with fail
     cases eb with
     | false=>
      go_quiet (fail)
      go_wp2
      go_region
      all_goals (
       go_wp2
       have hb:Bz wc (wc.drewN (1+nq+1)):=Q8 (zu _ _) _
       refine Qdo (v:=.slice none 0 0) (y:=.iface 370 (.pointer (some (F 4)))) (Qd (w:=wc.drewN (1+nq+1)) g.o.cells 0 rfl) (Qu (w:=wc.drewN (1+nq+1)) g.o.cells 0) rfl rfl ?_
       have t:R=((5,⟨#[]⟩),[],c,Zt n (sOf kCp)):=by rw[HR.o,ak.o,zw (by rw[C.o];exact V7 _),zD C.o,zw (XA ci.o.symm)]
       rw[t]
       exact Qge (g.o.j hb) ((Z.o.j m.o).j hb) (X.o.t (Fr.ofBelow (m.o.t (hb.m m.o.size)))) (Sub.refl _ _) (zv _ _ _ _) (.inr (.inl ⟨4,by decide,by decide,rfl,rfl⟩)))
     | true=>
      go_quiet (fail)
      go_wp2
      go_region
      all_goals (
       try go_wp2
       have hb:Bz wc (wc.drewN (1+nq+1)):=Q8 (zu _ _) _
       refine Qdo (v:=.slice none 0 0) (y:=.nilIface) (Qd (w:=wc.drewN (1+nq+1)) g.o.cells 0 rfl) (Qu (w:=wc.drewN (1+nq+1)) g.o.cells 0) rfl rfl ?_
       have t:R=(Qbs,[],c,Zt n (sOf kCp)):=by rw[HR.o,ak.o,zw (by rw[C.o];exact V7 _),zD C.o,zD (vv ci.o.symm)]
       rw[t]
       exact Qge (g.o.j hb) ((Z.o.j m.o).j hb) (X.o.t (Fr.ofBelow (m.o.t (hb.m m.o.size)))) (Sub.refl _ _) (zv _ _ _ _) (.inl ⟨rfl,rfl⟩)))
   have el:¬ (N:Int)<(c.size:Int):=by omega
   have ao:((N:Int) == (c.size:Int))=false:=by rw[zl];omega
   have C:=zh hl;have eh:N<9223372036854775808:=by omega
   clear hl
   go_upto_region 9 with fail
   go_region
   all_goals (
    go_upto_region 11 with fail
    go_quiet (fail)
    go_upto_region 13 with fail
    go_region
    all_goals (
     go_upto_region 15 with fail
     obtain⟨wd,cd⟩:=zzx (wc.drewN (1+nq+1))
     have c0:Bz wc wd:=by rw[cd];exact Q8 (zu _ _) _
     have S:=zh c0
     rw[<-cd]
     clear cd c0 af fk ao el g2 g3 g4
     have u:=zh (g.o.j S.o)
     have bk:=zh (bj.o.j S.o)
     have d4:wd.cell? ⟨b,4,none⟩=some (.int .i64 c.size):=Qd u.o.cells 4 rfl
     obtain⟨t0,t1,t2,t3,t4,t5,t6,t7,t8⟩:=bk.o.cells
     rcases vg c.size with hz|hz
     .have ds:(c.size:Int)=0:=by omega
      rw[ds] at d4
      have HZ:=zh hz
      clear hz ds
      have k0:wd.cell? ⟨b,5,none⟩=some (bv c.root[0]):=Qd u.o.cells 5 rfl
      have k1:wd.cell? ⟨b,6,none⟩=some (bv c.root[1]):=Qd u.o.cells 6 rfl
      have k2:wd.cell? ⟨b,7,none⟩=some (bv c.root[2]):=Qd u.o.cells 7 rfl
      have k3:wd.cell? ⟨b,8,none⟩=some (bv c.root[3]):=Qd u.o.cells 8 rfl
      have k4:wd.cell? ⟨b,9,none⟩=some (bv c.root[4]):=Qd u.o.cells 9 rfl
      have k5:wd.cell? ⟨b,10,none⟩=some (bv c.root[5]):=Qd u.o.cells 10 rfl
      have k6:wd.cell? ⟨b,11,none⟩=some (bv c.root[6]):=Qd u.o.cells 11 rfl
      have k7:wd.cell? ⟨b,12,none⟩=some (bv c.root[7]):=Qd u.o.cells 12 rfl
      have kf:∀ i,wd.frozen? ⟨b,i,none⟩=false:=λi=>Qu u.o.cells i
      have kgc:=Qb u.o.cells
      go_upto_region 16 with fail
      go_upto_region 17 with (first|refine Je rfl _ rfl _ rfl _ _ bk.o ?_|fail)
      go_wp2
      have hq:=Za5 u.o N qh
      refine Qdo (v:=.slice none 0 0) (y:=.nilIface) (Qd hq.cells 0 rfl) (Qu hq.cells 0) rfl rfl ?_
      have t:R=(Qbs,[],{ c with size:=N,root:=qh },Zt n (sOf kCp)):=by rw[HR.o,ak.o,zw (by have:=C.o;omega),zw (by have:=C.o;omega),zD HZ.o]
      rw[t]
      have hF:=Q5c wd b N qh
      have hk:=Q1 u.o.cells
      exact Qge hq (Jc ((Z.o.j m.o).j S.o) hF hk (by decide) (by decide) (by decide)) ((X.o.t (Fr.ofBelow (m.o.t (S.o.m m.o.size)))).step hF λi hi e=>.inl (.inl e)) (Sub.refl _ _) (zv _ _ _ _) (.inl ⟨rfl,rfl⟩)
     have fy:((c.size:Int) == 0)=false:=by rw[zl];omega
     obtain⟨n1,T⟩:=zzx (Zt n (sOf kCp))
     have bw:d.files=n1.files:=by rw[T,(Yc n (sOf kCp)).2.1];exact cg.o
     obtain⟨az,al,cx⟩:=eq.o C.o hz
     have de:Yr wd A I V E n1:=by rw[T];exact (Z.o.j m.o).j S.o
     have c2:Q5 wd I v d:=((ev.o.kept bf.o (Qbw cl.o) (by decide) (by decide)).j m.o).j S.o
     have c4:Qbj F (cnS b gk K A E P) wd:=ch.o.j S.o
     have ag:=ak.o
     rw[zw (by have:=C.o;omega),zw (by have:=C.o;omega),zw (by omega)] at ag
     rw[<-T] at ag az al
     obtain⟨s0,b9⟩:=zzx (askQ n1 c.cache)
     rw[<-b9] at ag az al
     obtain⟨o2,s2,b8⟩:∃ o s,Qhl c.size N s0=(o,s):=⟨_,_,rfl⟩
     rw[b8] at ag al
     have b1:Fr (cnS b gk K A E P) w wd:=X.o.t (Fr.ofBelow (m.o.t (S.o.m m.o.size)))
     have ah:=zh b1
     have HZ:=zh hz
     have bl:=zh ag
     have en:=zh az
     have eo:=zh al
     have ep:=zh cx
     have e3:=zh de
     have ew:=zh c2
     have ey:=zh c4
     have ed:=zh bw
     have bi:=zh b9
     have au:=zh b8
     clear hz az al cx de c2 c4 ag b9 b8 bw T b1 t1 t2 t3 t4 t5 t6 t7 t8
     go_upto_region 19 with (first|go_at_call 138;refine (Qzj wd b N).m ?_;rintro e w3⟨gq,mq,rfl,di,db,cy,a8,ad⟩;obtain⟨e7,e1,L⟩:=zh3 di db cy;clear di db cy|fail)
     have am:=Za9 (N:=N) u.o e3.o ew.o ed.o (λz hz=>by cases hz) L.o e7.o e1.o ad
     rw[<-bi.o] at am
     have bm:Qbj F (QS (cQ gq b gk K A I mq V E v c) ⟨.slice none 0 0,P,[]⟩) w3:=ey.o.step (Fr.ofBelow L.o) λk hk=>by
      rcases zK k wd.heap.size with b5|b2
      .exact .inl (Qs3 a8 ad b5 hk)
      exact .inr b2
     have b7:=λW hW g1 g3 hc=>Q05 F W (cQ gq b gk K A I mq V E v c) ⟨.slice none 0 0,P,[]⟩ N s0 d (am.j hW) (bm.j hW) g1 g3 hc c.size N HZ.o (VD C.o) (zg _) eh en.o (by show (Qhl c.size N s0).1≠_;rw[au.o];exact eo.o)
     rw[show Zp N (Js N 0 N c.size).reverse s0=(o2,s2) from au.o] at b7
     have dn:=λW hW=>Qo7 W (cQ gq b gk K A I mq V E v c) ⟨.slice none 0 0,P,[]⟩ N s0 d (am.j hW)
     have ay:=bk.o.j L.o
     have U:w3.cell? ⟨b,4,none⟩=some (.int .i64 c.size):=Qd (u.o.j L.o).cells 4 rfl
     have aj:w3.drew.cell? ⟨b,4,none⟩=some (.int .i64 c.size):=U
     have r0:w3.cell? ⟨q6,0,none⟩=some (.int .i64 N):=ay.cells.1
     have ba:w3.drew.cell? ⟨q6,0,none⟩=some (.int .i64 N):=r0
     have ei:b<w3.heap.size:=Qb (u.o.j L.o).cells
     have ej:q6<w3.heap.size:=Qb ay
     have e6:=zh am
     have ex:=zh bm
     have e5:=zh b7
     have fd:=zh dn
     have fb:=zh ay
     clear am bm b7 dn ay
     go_region_held3 (λw'=>w'.cell? ⟨b,4,none⟩=some (.int .i64 c.size)/\w'.cell? ⟨q6,0,none⟩=some (.int .i64 N)) (first|with_reducible exact⟨U,r0⟩|with_reducible exact⟨aj,ba⟩|with_reducible exact⟨cf,n0⟩|with_reducible exact⟨cq,f0⟩|fail) (first|go_at_call 140;refine (fd.o _ (Ql w3)).m ?_;rintro e w4⟨g1,g3,rfl,af,cz⟩;obtain⟨er,Q⟩:=zh2 af (show Bz w3 w4 from (Ql w3).t cz);have cf:=(Q.o.cell (p:=⟨b,4,none⟩) ei).t U;have n0:=(Q.o.cell (p:=⟨q6,0,none⟩) ej).t r0;clear af cz|go_at_call 139;refine (e5.o w4 Q.o g1 g3 er.o).m ?_;intro e w5 h5;obtain⟨v5,y5,rfl,⟨x5,ce,bz,dl⟩,dq⟩:=Q0l h5;obtain⟨ax,ez,e9,co,aw⟩:=zh5 ce bz dl dq (show Qcl w5 q6 N qh from Ze (fb.o.j Q.o) bz (Qsw (e6.o.j Q.o)) (by decide));have cq:w5.cell? ⟨b,4,none⟩=some (.int .i64 c.size):=Qd ce.cli 4 rfl;have f0:w5.cell? ⟨q6,0,none⟩=some (.int .i64 N):=aw.o.cells.1;clear h5 ce bz dl dq|fail)
     all_goals (
      have ct:Fr (QS (cQ gq b gk K A I mq V E v c) ⟨.slice none 0 0,P,[]⟩) w3 w5:=(Fr.ofBelow Q.o).t ez.o
      have cv:Sub w3 (QS (cQ gq b gk K A I mq V E v c) ⟨.slice none 0 0,P,[]⟩) (QS (cQ gq b gk K A I mq V E v c) x5):=e9.o.m Q.o.size
      have bo:w5.heap[b]?=some (.cells (cliC 1 (.iface 48 (.pointer (some ⟨A,0,none⟩))) c.key c.size c.root gk) 205 (0,0)):=ax.o.cli
      have dt:w.heap.size<=w4.heap.size:=zi ah.o.size (zi L.o.size Q.o.size)
      have fg:=co.o
      have ar:=zh ct
      have aa:=zh cv
      have r:=zh bo
      have cp:=zh dt
      clear ct cv bo dt co cq f0
      rcases fg with⟨l5,b6,rfl,ca⟩|⟨p,dg,rfl,⟨ge,rfl⟩,dc⟩
      rotate_left
      .have e4:=zh dg
       have e2:=zh dc
       clear dg dc
       go_wp2
       refine Qdo (v:=.slice none 0 0) (y:=.iface 219 (.pointer (some ⟨ge,0,none⟩))) (Qd r.o 0 rfl) (Qu r.o 0) rfl rfl ?_
       have t:R=((6,p),[],{ c with cache:=s2.cache },s2.net):=by
        have em:o2=.error (.miss p):=e4.o
        rw[HR.o,bl.o,em]
       rw[t]
       obtain⟨qs',u1,u2,u3,u4⟩:=Qxk ah.o L.o a8 ad ax.o ar.o aa.o
       exact Qge u1 u2 u3 u4 (zv _ _ _ _) (.inr (.inr ⟨p,rfl,Jo.low e2.o cp.o⟩))
      have b6:o2=.ok l5:=b6
      subst b6
      have dh:l5.length<=1048576:=by
       have e:=Qju N (Js N 0 N c.size).reverse s0 s2 l5 au.o
       have:=Qko N 63 0 N c.size (by omega) (zg _) HZ.o
       rw[e,xG]
       omega
      have bp:∀ W,Bz w5 W->Calls prog 142 #[.int .i64 c.size,.int .i64 N,.agg #[bv c.root[0],bv c.root[1],bv c.root[2],bv c.root[3],bv c.root[4],bv c.root[5],bv c.root[6],bv c.root[7]],.agg #[bv qh[0],bv qh[1],bv qh[2],bv qh[3],bv qh[4],bv qh[5],bv qh[6],bv qh[7]],v5] W λe w'=>e=.returned (.bool (Yt c.size N c.root qh l5))/\Bz W w':=λW hW=>by
       have:=Qh5 l5 c.root qh c.size N v5 W (Qa5.at (Qn ca hW)) (by omega) (by omega) dh
       rw[Qg5,Qg5] at this
       exact this
      obtain⟨ib,b3⟩:=zzx (Yt c.size N c.root qh l5)
      rw[<-b3] at bp
      have U:w5.cell? ⟨b,4,none⟩=some (.int .i64 c.size):=Qd r.o 4 rfl
      have aj:w5.drew.cell? ⟨b,4,none⟩=some (.int .i64 c.size):=U
      have k0:w5.cell? ⟨b,5,none⟩=some (bv c.root[0]):=Qd r.o 5 rfl
      have k1:w5.cell? ⟨b,6,none⟩=some (bv c.root[1]):=Qd r.o 6 rfl
      have k2:w5.cell? ⟨b,7,none⟩=some (bv c.root[2]):=Qd r.o 7 rfl
      have k3:w5.cell? ⟨b,8,none⟩=some (bv c.root[3]):=Qd r.o 8 rfl
      have k4:w5.cell? ⟨b,9,none⟩=some (bv c.root[4]):=Qd r.o 9 rfl
      have k5:w5.cell? ⟨b,10,none⟩=some (bv c.root[5]):=Qd r.o 10 rfl
      have k6:w5.cell? ⟨b,11,none⟩=some (bv c.root[6]):=Qd r.o 11 rfl
      have k7:w5.cell? ⟨b,12,none⟩=some (bv c.root[7]):=Qd r.o 12 rfl
      have du:w5.drew.cell? ⟨b,5,none⟩=some (bv c.root[0]):=k0
      have dv:w5.drew.cell? ⟨b,6,none⟩=some (bv c.root[1]):=k1
      have dw:w5.drew.cell? ⟨b,7,none⟩=some (bv c.root[2]):=k2
      have dx:w5.drew.cell? ⟨b,8,none⟩=some (bv c.root[3]):=k3
      have dy:w5.drew.cell? ⟨b,9,none⟩=some (bv c.root[4]):=k4
      have dz:w5.drew.cell? ⟨b,10,none⟩=some (bv c.root[5]):=k5
      have d0:w5.drew.cell? ⟨b,11,none⟩=some (bv c.root[6]):=k6
      have d1:w5.drew.cell? ⟨b,12,none⟩=some (bv c.root[7]):=k7
      obtain⟨r0,r1,r2,r3,r4,r5,r6,r7,r8⟩:=aw.o.cells
      have ba:w5.drew.cell? ⟨q6,0,none⟩=some (.int .i64 N):=r0
      have d3:w5.drew.cell? ⟨q6,1,none⟩=some (bv qh[0]):=r1
      have d5:w5.drew.cell? ⟨q6,2,none⟩=some (bv qh[1]):=r2
      have d6:w5.drew.cell? ⟨q6,3,none⟩=some (bv qh[2]):=r3
      have d7:w5.drew.cell? ⟨q6,4,none⟩=some (bv qh[3]):=r4
      have d8:w5.drew.cell? ⟨q6,5,none⟩=some (bv qh[4]):=r5
      have d9:w5.drew.cell? ⟨q6,6,none⟩=some (bv qh[5]):=r6
      have ea:w5.drew.cell? ⟨q6,7,none⟩=some (bv qh[6]):=r7
      have ec:w5.drew.cell? ⟨q6,8,none⟩=some (bv qh[7]):=r8
      have B:b<w5.heap.size:=Qb r.o
      have D:q6<w5.heap.size:=Qb aw.o
      have fc:=zh ca
      have es:=zh bp
      have cj:=zh b3
      clear ca bp b3 dh
      go_upto_region 22 with fail
      go_cut [126] from 110 to 125 (λs126 wx=>s126=.bool (!ib)/\Aside (Bz w5 wx))
      case first=>
       go_region_held3 (λw'=>w'.cell? ⟨b,4,none⟩=some (.int .i64 c.size)/\w'.cell? ⟨b,5,none⟩=some (bv c.root[0])/\w'.cell? ⟨b,6,none⟩=some (bv c.root[1])/\w'.cell? ⟨b,7,none⟩=some (bv c.root[2])/\w'.cell? ⟨b,8,none⟩=some (bv c.root[3])/\w'.cell? ⟨b,9,none⟩=some (bv c.root[4])/\w'.cell? ⟨b,10,none⟩=some (bv c.root[5])/\w'.cell? ⟨b,11,none⟩=some (bv c.root[6])/\w'.cell? ⟨b,12,none⟩=some (bv c.root[7])/\w'.cell? ⟨q6,0,none⟩=some (.int .i64 N)/\w'.cell? ⟨q6,1,none⟩=some (bv qh[0])/\w'.cell? ⟨q6,2,none⟩=some (bv qh[1])/\w'.cell? ⟨q6,3,none⟩=some (bv qh[2])/\w'.cell? ⟨q6,4,none⟩=some (bv qh[3])/\w'.cell? ⟨q6,5,none⟩=some (bv qh[4])/\w'.cell? ⟨q6,6,none⟩=some (bv qh[5])/\w'.cell? ⟨q6,7,none⟩=some (bv qh[6])/\w'.cell? ⟨q6,8,none⟩=some (bv qh[7])) (first|with_reducible exact⟨U,k0,k1,k2,k3,k4,k5,k6,k7,r0,r1,r2,r3,r4,r5,r6,r7,r8⟩|with_reducible exact⟨aj,du,dv,dw,dx,dy,dz,d0,d1,ba,d3,d5,d6,d7,d8,d9,ea,ec⟩|with_reducible exact⟨cf,m0,m1,m2,m3,m4,m5,m6,m7,n0,n1,n2,n3,n4,n5,n6,n7,n8⟩|fail) (first|go_at_call 142;refine (es.o _ (Ql w5)).m ?_;rintro e w7⟨rfl,M⟩;have f:=zh (show Bz w5 w7 from (Ql w5).t M);have cf:=(f.o.cell (p:=⟨b,4,none⟩) B).t U;have m0:=(f.o.cell (p:=⟨b,5,none⟩) B).t k0;have m1:=(f.o.cell (p:=⟨b,6,none⟩) B).t k1;have m2:=(f.o.cell (p:=⟨b,7,none⟩) B).t k2;have m3:=(f.o.cell (p:=⟨b,8,none⟩) B).t k3;have m4:=(f.o.cell (p:=⟨b,9,none⟩) B).t k4;have m5:=(f.o.cell (p:=⟨b,10,none⟩) B).t k5;have m6:=(f.o.cell (p:=⟨b,11,none⟩) B).t k6;have m7:=(f.o.cell (p:=⟨b,12,none⟩) B).t k7;have n0:=(f.o.cell (p:=⟨q6,0,none⟩) D).t r0;have n1:=(f.o.cell (p:=⟨q6,1,none⟩) D).t r1;have n2:=(f.o.cell (p:=⟨q6,2,none⟩) D).t r2;have n3:=(f.o.cell (p:=⟨q6,3,none⟩) D).t r3;have n4:=(f.o.cell (p:=⟨q6,4,none⟩) D).t r4;have n5:=(f.o.cell (p:=⟨q6,5,none⟩) D).t r5;have n6:=(f.o.cell (p:=⟨q6,6,none⟩) D).t r6;have n7:=(f.o.cell (p:=⟨q6,7,none⟩) D).t r7;have n8:=(f.o.cell (p:=⟨q6,8,none⟩) D).t r8;clear M|fail)
       all_goals (
        go_wp2
        go_meet
        exact⟨rfl,f.o⟩)
      case rest=>
       obtain⟨rfl,f⟩:=hcut
       obtain⟨w7,cb⟩:=zzx wc
       rw[<-cb] at f
       rw[<-cb]
       clear cb U aj k0 k1 k2 k3 k4 k5 k6 k7 du dv dw dx dy dz d0 d1 r0 r1 r2 r3 r4 r5 r6 r7 r8 ba d3 d5 d6 d7 d8 d9 ea ec
       cases ib with
       | false=>
        rename_i K1 a1 K2 a2
        refine a2 _ _ ?_
        refine wp_cond_true rfl ?_
        have hg:=((ex.o.step ar.o aa.o).j f.o).sents.cells.2.2.2.2.1
        have aq:=zh ((f.o.block _ B).t r.o)
        go_upto_region 23 with fail
        go_region
        all_goals (
         go_wp2
         have hb:Bz w5 w7.drew:=f.o.t ((Ql w7).m f.o.size)
         refine Qdo (v:=.slice none 0 0) (y:=.iface 370 (.pointer (some (F 4)))) (Qd (w:=w7.drew) aq.o 0 rfl) (Qu (w:=w7.drew) aq.o 0) rfl rfl ?_
         have t:R=((5,⟨#[]⟩),[],{ c with cache:=s2.cache },s2.net):=by
          rw[HR.o,bl.o]
          try dsimp only
          rw[<-cj.o]
          rfl
         rw[t]
         obtain⟨qs',u1,u2,u3,u4⟩:=Qxk ah.o L.o a8 ad (ax.o.j hb) (ar.o.t (Fr.ofBelow hb)) aa.o
         exact Qge u1 u2 u3 u4 (zv _ _ _ _) (.inr (.inl ⟨4,by decide,by decide,rfl,rfl⟩)))
       | true=>
        rename_i K1 a1 K2 a2
        refine a2 _ _ ?_
        refine wp_cond_false rfl ?_
        have an:=ax.o.j f.o
        have ai:Cost (Z0 N (Js N 0 N c.size).reverse).length s0 s2:=by
         have:=Qee N (Js N 0 N c.size).reverse s0
         rw[show Zp N (Js N 0 N c.size).reverse s0=(.ok l5,s2) from au.o] at this
         exact this
        have da:x5.qs.length+x5.vs.length<1099511627775:=by
         have a1:s2.cache.items.length=x5.qs.length:=by rw[an.cache.items,zA]
         have a2:s2.files.length=x5.vs.length:=by rw[an.files,zA]
         have a3:=ai.files
         have a4:=ai.items
         have a5:s0.files.length=0:=by rw[bi.o];rfl
         have a6:s0.cache.items.length=c.cache.items.length:=by rw[bi.o];rfl
         have:=ep.o
         omega
        have dk:=Qnp w7 _ x5 N s2 d an da
        have c9:=Qar an.cache
        have e8:=zh dk
        have ck:=zh c9
        clear an ai da dk c9
        go_upto_region 25 with (first|go_at_call 143;refine e8.o.m ?_;rintro e w9⟨rfl,f1,dj,c7,dm⟩;obtain⟨cm,bg,fa⟩:=zh3 dj c7 dm;clear dj c7 dm|fail)
        have eg:=zh (show Qcl w9 q6 N qh from Ze (aw.o.j f.o) bg.o ck.o (by decide))
        have a0:w9.heap[b]?=some (.cells (cliC 1 (.iface 48 (.pointer (some ⟨A,0,none⟩))) c.key c.size c.root gk) 205 (0,0)):=cm.o.cli
        have j:=zh a0
        have fz:w9.cell? ⟨b,4,none⟩=some (.int .i64 c.size):=Qd j.o 4 rfl
        have j0:w9.cell? ⟨b,5,none⟩=some (bv c.root[0]):=Qd j.o 5 rfl
        have j1:w9.cell? ⟨b,6,none⟩=some (bv c.root[1]):=Qd j.o 6 rfl
        have j2:w9.cell? ⟨b,7,none⟩=some (bv c.root[2]):=Qd j.o 7 rfl
        have j3:w9.cell? ⟨b,8,none⟩=some (bv c.root[3]):=Qd j.o 8 rfl
        have j4:w9.cell? ⟨b,9,none⟩=some (bv c.root[4]):=Qd j.o 9 rfl
        have j5:w9.cell? ⟨b,10,none⟩=some (bv c.root[5]):=Qd j.o 10 rfl
        have j6:w9.cell? ⟨b,11,none⟩=some (bv c.root[6]):=Qd j.o 11 rfl
        have j7:w9.cell? ⟨b,12,none⟩=some (bv c.root[7]):=Qd j.o 12 rfl
        have jf:∀ i,w9.frozen? ⟨b,i,none⟩=false:=λi=>Qu j.o i
        have jgc:=Qb j.o
        clear a0
        go_upto_region 26 with (first|refine Je rfl _ rfl _ rfl _ _ eg.o ?_|fail)
        go_wp2
        have cu:Fr (QS (cQ gq b gk K A I mq V E v c) ⟨.slice none 0 0,P,[]⟩) w3 w7:=ar.o.t (Fr.ofBelow f.o)
        obtain⟨qs',u1,u2,u3,u4⟩:=Qxk (s:={ s2 with cache:=Zl s2.cache s2.files }) ah.o L.o a8 ad cm.o (Fr.sub cu (bg.o.weak λ_ _ e=>.inr (.inl e)) aa.o) (λk hk=>by
         rcases hk with e|e|e
         .exact aa.o k (.inl e)
         .rcases zK k w7.heap.size with b5|b2
          .exact aa.o k (.inr (.inl (fa.o k b5 e)))
          exact .inr (zi cu.size b2)
         exact aa.o k (.inr (.inr e)))
        have hq:=Za5 u1 N qh
        refine Qdo (v:=v5) (y:=.nilIface) (Qd hq.cells 0 rfl) (Qu hq.cells 0) rfl rfl ?_
        have t:R=(Qbs,l5,{ c with size:=N,root:=qh,cache:=Zl s2.cache s2.files },s2.net):=by
         rw[HR.o,bl.o]
         try dsimp only
         rw[<-cj.o]
         rfl
        rw[t]
        have hF:=Q5c w9 b N qh
        have hk:=Q1 j.o
        exact Qge hq (Jc u2 hF hk (by decide) (by decide) (by decide)) (u3.step hF λi hi e=>.inl (.inl e)) u4 (Zm (Zg (Zm (Qn fc.o f.o) bg.o ck.o (by decide)) cp.o) hF hk (by decide)) (.inl ⟨rfl,rfl⟩))))
end
end
def Qny(w:G)(gc gk mc gn gd:Nat)(vl vt:J)(qs:List CEnt)(r:Tld×List Hsh×Cl×Nt)(e:Ua)(w':G):Prop:=
 ∃ v',e=.returned (.tuple #[v',Jh r.1.1 r.1.2])/\Qq w' w.heap.size v' (r.2.1.map HS)/\
  ∃ qs',ClIs w' gc gk mc (.iface 48 (.pointer (some ⟨gn,0,none⟩))) r.2.2.1 qs'/\Yr w' gn gd vl vt r.2.2.2/\Fr (cnS gc gk mc gn vt qs) w w'/\Sub w (cnS gc gk mc gn vt qs) (cnS gc gk mc gn vt qs')
theorem Qsf(F:Nat->Addr)(w:G)(X b gk n l gd:Nat)(vl q:J)(p:List CEnt)(r:Tld×List Hsh×Cl×Nt)(B:PcAt w X b)(hE:Qbj F (cnS b gk n l q p) w)(M:∀ k,cnS b gk n l q p k->k<w.heap.size)(E:r.2.1.length<=1048576)(Z:Calls prog 85 #[.pointer (some ⟨b,0,none⟩)] (w.alloc (.cells #[.int .i64 0,.string ⟨#[]⟩] 63)) (Qy2 F (w.alloc (.cells #[.int .i64 0,.string ⟨#[]⟩] 63)) b gk n l gd vl q p r)):Calls prog 29 #[.pointer (some ⟨X,0,none⟩)] w (Qny w b gk n l gd vl q p r):=by
 obtain⟨⟨tk,tp⟩,hh,c1,n1⟩:=r;obtain⟨W0,a⟩:=zzx (w.alloc (.cells #[.int .i64 0,.string ⟨#[]⟩] 63))
 have x:Bz w W0:=by rw[a];exact Qa w _
 have Q:Zq W0 w.heap.size 0 ⟨#[]⟩:=by rw[a];exact Qb5 w
 have ao:W0.heap.size=w.heap.size+1:=by rw[a];simp
 have c0:W0.cell? ⟨X,0,none⟩=some (.pointer (some ⟨b,0,none⟩)):=Qd ((x.block _ (Qb B)).t B) 0 rfl;rw[<-a] at Z;obtain⟨ai,aa,ag,HE,ac,W,HC⟩:=zh7 a x Q hE M E Z;clear B hE M E Z a x Q
 go_enter func29,ntmps29
 go_upto_region 1 with fail
 rw[show w.alloc (.cells #[.int .i64 0,.string ⟨#[]⟩] 63)=W0 from ai.o.symm]
 go_upto_region 2 with (first|go_at_call 85;refine HC.o.m ?_;rintro e w3⟨v,y,rfl,hv,hy,am,I,N,K,P⟩;obtain⟨HV,u,HY,ab,ad,s,af⟩:=zh7 hv (show Qa5 w3 0 v hh from Zg hv (zE _)) hy I N K P;clear hv hy I N K P|fail)
 have R:Zq w3 w.heap.size 0 ⟨#[]⟩:=s.o.heap ag.o λe=>by have:=ac.o _ e;omega
 have A:Fr (cnS b gk n l q p) w w3:=(Fr.ofBelow aa.o).t s.o;obtain⟨ah,U⟩:=zh2 R A;clear R A c0
 go_wp2_with (first|go_at_call 86;refine (Qoc v hh w3 u.o W.o).m ?_;rintro e w4⟨v4,rfl,H,L⟩;obtain⟨va,vc,rfl⟩:=Zo H;obtain⟨ae,c,g⟩:=zh3 H L (Qeo u.o);clear H L|go_at_call 87;have d:Fr (cnS b gk n l q p) w w4:=U.o.step c.o (λi h1 h2=>absurd (HV.o.lt i h2).1 (by omega));have V:=zh d;have T:=HY.o.fr c.o (λk C fz hC=>Z3 g.o hC (by decide));have S:=ah.o.kept c.o g.o (by decide);refine (Q7s (HE.o w4 d).2.1 T).m ?_;rintro e w5⟨rfl,z⟩;obtain⟨f,h⟩:=zh2 z (S.j z);obtain⟨t0,t1,t2,t3,t4⟩:=h.o.facts;clear d T S z|fail)
 have al:=Qdi (m:=tk) (t:=tp) h.o;have D:=Q1 h.o;have j:=al.2;have e4:Value.slice va (hh.map HS).length vc=Value.slice va hh.length vc:=by rw[zA]
 refine zI (v:=.tuple #[.slice va hh.length vc,Jh tk tp]) (by simp[results,results29,go_sem,t0,t1]) rfl ⟨_,rfl,?_,am,?_,?_,?_,?_⟩
 .rw[<-e4]
  exact Zg (Zm (Qn ae.o f.o) j D (by decide)) (by have:=s.o.size;omega)
 .have h4:=ab.o.kept c.o g.o (λk hk=>by obtain⟨C,hC⟩:=Qk u.o hk;exact⟨C,_,_,hC⟩) (by decide) (by decide) (by decide) (by decide)
  exact (h4.j f.o).kept j D (λk hk=>⟨_,_,_,(show w5.heap[k]?=_ from hk ▸ h.o)⟩) (by decide) (by decide) (by decide) (by decide)
 .have h4:=Jc ad.o c.o g.o (by decide) (by decide) (by decide)
  exact Jc (h4.j f.o) j D (by decide) (by decide) (by decide)
 .exact (V.o.t (Fr.ofBelow f.o)).step j λi h1 h2=>by omega
 exact af.o.m (by omega)
section
variable {F:Nat->Addr} {w:G} {p:Pl} {m:Wm} {L:Lg} {P:Nat} {gn:Nat} {vl vt:J} {n:Nt} {x:Rdr}
theorem Q91(h:Qc0 F w p m L P gn vl vt n x):Calls prog 29 #[.pointer (some ⟨x.pa,0,none⟩)] w (Qny w x.gc x.gk x.mc gn p.gd vl vt x.qs (Z1 x.c n)):=by
 have hb:=Qa w (.cells #[.int .i64 0,.string ⟨#[]⟩] 63);have a:m.es.length<=1048576:=by have:=h.few;omega
 refine Qsf F w x.pa x.gc x.gk x.mc gn p.gd vl vt x.qs _ h.rd.pc h.env h.lt ?_ ?_
 .obtain⟨_,_,_,h4|h4⟩:=Qt9 h.rdw a h.rdc h.nf h.nl
  .rw[h4.2.2.2.1];simp
  rw[h4.2.2.1]
  split
  .have:=Qak x.c.size ((lists m.es).take P) true
   rw[zm,Qx] at this;omega
  simp
 exact Qr2 F _ x.gc x.gk x.mc gn p.gd vl vt p.v x.c x.qs n m.d (h.rd.cl.j hb) (h.net.j hb) (h.wd.disk.j hb) h.nf.symm (h.env.j hb) (by have:=h.fetches;omega) (by rw[h.rdc.key];exact h.key)
  (λdata hd=>by
   have b:=h.few
   have hP:=h.rdw.le
   rw[Qx] at hP
   rcases h.rdw.cp with⟨_,hc⟩|hc
   .unfold Yx at hd
    rw[show Qdu n (sOf kCp)=none by unfold Qdu;rw[h.nl];rfl,h.nf,hc] at hd
    cases hd
   rw[Qkz (n:=n) (by rw[h.nf];exact hc) h.nl] at hd
   rw[<-zR hd]
   have:=h.small _ (Jw hc)
   simpa using this) (by have:=h.csize;omega) h.asks
end
end
end Go.Proofs.YtefccfakhgdfbaaGreatDoor
