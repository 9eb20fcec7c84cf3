/- DERIVED: THE SHELF's CONTRACTS AT THIS DUMP, IN PLAIN WORDS (tools/lay-plain.mjs out of 'TryzSort.lean', which tools/lay-shelf.mjs wrote): THE SAME DECLARATIONS UNDER THE SAME NAMES: 'import', 'namespace', 'open', 'def', 'theorem' AND NOTHING ELSE: no command of the shelf's: FOR A HAND-IN. Each laying: the table of numbers ('.._ren') and one theorem, a field a fact of the dump's own or the kernel's comparison; each contract: ONE APPLICATION. -/
import Derived.Test.YtefccfakhgdfbabGreatDoorRd11
import Derived.Shelf.SlSortCmp.WholeK
set_option linter.unusedVariables false
set_option linter.unusedSimpArgs false
open Go.RowKit Go.Proofs.Tryz
set_option maxRecDepth 100000
set_option maxHeartbeats 4000000
namespace Go.Proofs.YtefccfakhgdfbabGreatDoor
section
open Go.RowKit Go.MuLone
section
variable [Inhabited OutT]
variable {F:Nat→Addr} {w w':World} {q:Qf} {x:Qv} {N:Nat} {d:Dk} {e:Ending}
theorem Q26 {r:Except QErr (List UInt8)×Cs} (h:Qla F w q x N d r e w'):∃ u y,e=.returned (.tuple #[u,y])∧Yn w q x N d w' r.2∧((∃ b a n c,r.1=.ok b∧y=.nilIface∧u=.slice a n c∧Qz w' 0 (.slice a n c) b)∨∃ p,r.1=.error (.miss p)∧u=.slice none 0 0∧(∃ g,y=.iface 153 (.pointer (some ⟨g,0,none⟩)))∧Y5 F w' w.heap.size p y):=by
 obtain⟨h1,⟨b,a,n,c,h2,rfl,h3⟩|⟨p,u,h2,rfl,h3⟩⟩:=h
 ·exact⟨_,_,rfl,h1,.inl ⟨b,a,n,c,h2,rfl,rfl,h3⟩⟩
 ·exact⟨_,_,rfl,h1,.inr ⟨p,h2,rfl,⟨h3.choose,h3.choose_spec.1⟩,h3⟩⟩
theorem Qwi {F:Nat→Addr} {w:World} {q:Qf} {x:Qv} {N:Nat} {d:Dk} {r:Except QErr (List Hsh)×Cs} {e:Ending} {w':World} (h:Qe1 F w q x N d r e w'):∃ v y,e=.returned (.tuple #[v,y])∧Yn w q x N d w' r.2∧((∃ l,r.1=.ok l∧y=.nilIface∧Qcu w' w.heap.size v l)∨∃ p,r.1=.error (.miss p)∧v=.slice none 0 0∧(∃ g,y=.iface 153 (.pointer (some ⟨g,0,none⟩)))∧Y5 F w' w.heap.size p y):=by
 obtain⟨h1,⟨l,v,h2,rfl,h3⟩|⟨p,u,h2,rfl,h3⟩⟩:=h
 ·exact⟨_,_,rfl,h1,.inl ⟨l,h2,rfl,h3⟩⟩
 ·exact⟨_,_,rfl,h1,.inr ⟨p,h2,rfl,⟨h3.choose,h3.choose_spec.1⟩,h3⟩⟩
end
variable {w':World}
theorem Qo4 {a:Option Addr} {n c base:Nat} {l:List UInt8} (h:Qz w' base (.slice a n c) l):∀ z,(Value.slice a n c).ownBlock=some z→base≤z∧z<w'.heap.size:=fun z hz=>by
 rcases h with ⟨e,_⟩|⟨b,off,c,C,fz,e,_,h2,h3,_⟩
 ·rw[e] at hz;cases hz
 ·rw[e] at hz
  simp[Value.ownBlock] at hz
  subst hz
  exact⟨h2,Qc h3⟩
variable {w:World} {e:Ending}
theorem Q61 {data:List UInt8} {ls:List (List UInt8)} (hl:Qx data=some ls) (h:Q1z data w e w'):∃ v' b,e=.returned (.tuple #[v',.bool b])∧Below w.heap.size w w'∧Y8 w' w.heap.size v' ls:=by
 obtain⟨v',h1,h2,⟨h3,_⟩|⟨ls',h3,h4⟩⟩:=h
 ·rw[hl] at h3;cases h3
 ·rw[hl] at h3;cases h3
  exact⟨v',_,h1,h2,h4⟩
abbrev cQ (gq gc gk mc gn gd mq:Nat) (vl vt v:Value) (c:Cl):Qf:=⟨gq,gc,gk,mc,gn,gd,mq,vl,vt,v,cliC 1 (.iface 44 (.pointer (some ⟨gn,0,none⟩))) c.key c.size c.root gk⟩
variable {F:Nat→Addr} {N:Nat} {x:Qv} {d:Dk}
theorem Qk9 {w1 w2 W:World} {gc gk mc gn gd gq mq:Nat} {vl vt v u v5 y:Value} {qs:List CEnt} {t:Tld} {b:List UInt8} {l:List Hsh} {c:Cl} {s:Cs} (hF1:Fr (·=gc) w w1) (hz:w1.heap.size=w.heap.size) (hb2:Below w1.heap.size w1 w2) (hgq:w1.heap.size≤gq) (hmq:w1.heap.size≤mq) (hg:gc<w.heap.size)
  (h : @QIs ⟨⟨u.ownBlock⟩⟩ W (cQ gq gc gk mc gn gd mq vl vt v c) x N s d) (hf:Fr (QS (cQ gq gc gk mc gn gd mq vl vt v c) ⟨.slice none 0 0,qs,[]⟩) w2 W) (hs:Sub w2 (QS (cQ gq gc gk mc gn gd mq vl vt v c) ⟨.slice none 0 0,qs,[]⟩) (QS (cQ gq gc gk mc gn gd mq vl vt v c) x))
  (hu:Qz W w.heap.size u b) (hv:Qcu W w.heap.size v5 l) (he:Qn0 F W w.heap.size t y) (hz:t=Qcb∨u=.slice none 0 0):Qg4 F w gc gk mc gn gd vl vt qs (t,(b,l),{ c with cache:=s.cache },s.net) (.returned (.tuple #[u,v5,y])) (W.setCell ⟨gc,0,none⟩ (.int .i32 0)):=by
 obtain⟨vo,qs',vs⟩:=x;obtain⟨e1,e2,e3,e4⟩:=@Q1w ⟨⟨u.ownBlock⟩⟩ w1 w2 W 1 gc gk mc gn gd gq mq N vl vt v _ c qs qs' vs vo s d hgq hmq hb2 h hf hs;exact Qva e1 e2 ((hF1.weak fun _ _ e=>.inl (.inl e)).trans e3) (fun k hk=>(e4 k hk).imp id fun e=>by omega) hg hu hv he hz
theorem Q4k (F:Nat→Addr) (w:World) (gc gk mc gn gd:Nat) (vl vt v:Value) (c:Cl) (qs:List CEnt) (n:Nt) (d:Dk) (h:ClIs w gc gk mc (.iface 44 (.pointer (some ⟨gn,0,none⟩))) c qs) (hn:Yk w gn gd vl vt n) (hd:Q3 w gd v d) (hdf:d.files=n.files) (hE:EnvS F (cnS gc gk mc gn vt qs) w) (i:Nat) (hi:i<c.size) (hsz:c.size<9223372036854775808)
  (hb:Bnd (askQ n c.cache) (Qkz c.size i).length) (hbl:∀ b s1,Qau Zv (-1) (i / 4) c.size (askQ n c.cache)=(.ok b,s1)→b.length≤1099511627776) (hp:(Qbr c.size i (askQ n c.cache)).1≠.error .panic) (hL:c.cache.items.length+(Qkz c.size i).length<1099511627775) :
  Calls prog 45 #[.pointer (some ⟨gc,0,none⟩),.int .i64 i] w (Qg4 F w gc gk mc gn gd vl vt qs (Yp c n i)):=by
 obtain⟨R,hR⟩:∃ R,R=Yp c n i:=⟨_,rfl⟩
 have hlt:=h.lt;obtain⟨s0,hs0⟩:∃ s,s=askQ n c.cache:=⟨_,rfl⟩
 obtain⟨N,hN⟩:∃ N,N=c.size:=⟨_,rfl⟩
 rw[←hs0] at hb hbl hp;rw[←hN] at hb hbl hp hi hsz hL;rw[←hR];have H:=zh h;have HN:=zh hn;have HD:=zh hd;have HDF:=zh hdf;have HE:=zh hE;have HR:=zh hR;have HB:=zh hb;have HBL:=zh hbl;have HP:=zh hp;have HL:=zh hL;have HS0:=zh hs0;have HNN:=zh hN;clear h hn hd hdf hE hR hb hbl hp hL hs0 hN;have hin:(i:Int)<(N:Int):=by omega
 have hi0:(0:Int)≤(i:Int):=by omega
 go_enter_defers func45,ntmps45
 go_upto_region 4 with (first
  | (go_at_call 83;refine (Qlk H.o).mono ?_;rintro e w1 ⟨rfl,h1,hf1,hz1⟩;have H1:=zh h1;have HF1:=zh hf1;have d4:=Qd h1.cells 4 rfl;rw[←HNN.o] at d4;have HZ1:=zh hz1;clear h1 hf1 hz1)
  | fail)
 go_upto_region 7 with (first
  | (go_at_call 86;refine (Qvh w1 gc N).mono ?_;rintro e w2 ⟨gq,mq,rfl,hq2,hm2,hb2,hg2,hmm2⟩;have HQ2:=zh hq2;have HM2:=zh hm2;have HB2:=zh hb2;clear hq2 hm2 hb2)
  | fail)
 have hq0:=Q44 (N:=N) H1.o (Yq HN.o HF1.o (Qw H.o.cells) (by decide) (by decide) (by decide)) (HD.o.kept HF1.o (Qw H.o.cells) (by decide) (by decide)) HDF.o (fun z hz=>by cases hz) HB2.o HQ2.o HM2.o hmm2;rw[←HS0.o] at hq0;have hE2:EnvS F (QS ⟨gq,gc,gk,mc,gn,gd,mq,vl,vt,v,cliC 1 (.iface 44 (.pointer (some ⟨gn,0,none⟩))) c.key c.size c.root gk⟩ ⟨.slice none 0 0,qs,[]⟩) w2:=
  HE.o.step ((HF1.o.weak fun _ _ e=>.inl (.inl e)).trans (Fr.ofBelow HB2.o)) fun k hk=>by
   rcases Nat.lt_or_ge k w1.heap.size with hlk|hge
   ·exact .inl (Qp9 hg2 hmm2 hlk hk)
   ·exact .inr (Nat.le_trans (Nat.le_of_eq HZ1.o.symm) hge)
 have hrt:(Qkz N i).length=1+(Zl N (Ja N 0 N i).reverse).length:=by unfold Qkz;simp;omega
 have hfb:Calls prog 92 #[.pointer (some ⟨gq,0,none⟩),.int .i64 (-1),.int .i64 (i / 4:Nat),.int .i64 N,.func (.func 93) #[] #[]] w2 (Qla F w2 _ _ N d (Qau Zv (-1) (i / 4) N s0)):=
  Q2k F w2 _ _ N s0 d hq0 hE2 (-1) (i / 4) N (by omega) hsz (by have:=HB.o.fetches;omega) (by simp) HB.o.small
 have HQ0:=zh hq0;have HE2:=zh hE2;have HFB:=zh hfb;have HRT:=zh hrt;clear hq0 hE2 hfb hrt
 go_upto_region 8 with (first
  | (go_at_call 92;refine HFB.o.mono ?_;intro e w3 h3;obtain⟨u3,y3,rfl,hq3,hy3⟩:=Q26 h3;have HQ3:=zh hq3;have HY3:=zh hy3;clear h3 hq3 hy3)
  | fail)
 obtain⟨r1,hr1⟩:∃ r,r=Qau Zv (-1) (i / 4) N s0:=⟨_,rfl⟩
 have hQ3:=HQ3.o;have hY3:=HY3.o;rw[←hr1] at hQ3 hY3;obtain⟨o1,s1⟩:=r1;obtain⟨x3,hx3,hf3,hs3⟩:=hQ3;have HX3:=zh hx3;have HF3:=zh hf3;have HS3:=zh hs3;have HR1:=zh hr1;clear hx3 hf3 hs3 hr1 HQ3 HY3;rcases hY3 with ⟨b,a3,n3,c3,hob,rfl,rfl,hb3⟩|⟨p,hop,rfl,⟨ge,rfl⟩,hme⟩
 rotate_left
 ·have HOP:=zh hop
  have HME:=zh hme;clear hop hme;go_wp2;refine Qfk (u:=.slice none 0 0) (v:=.slice none 0 0) (y:=.iface 153 (.pointer (some ⟨ge,0,none⟩))) (Qd HX3.o.cli 0 rfl) (Qq HX3.o.cli 0) rfl rfl rfl ?_;have hRe:R=((6,p),([],[]),{ c with cache:=s1.cache },s1.net):=by rw[HR.o];unfold Yp;rw[if_neg (by rw[←HNN.o];omega),Int.toNat_natCast,←HS0.o,←HNN.o];unfold Qbr Qm.bind;rw[←HR1.o];have hop2:o1=.error (.miss p):=HOP.o;rw[hop2]
  rw[hRe];exact Qk9 HF1.o HZ1.o HB2.o hg2 hmm2 hlt HX3.o HF3.o HS3.o (.inl ⟨rfl,rfl⟩) (World.ownsRow_nil _ _ _ _) (.inr (.inr ⟨p,rfl,Y5.low HME.o (by have:=HB2.o.size;have:=HZ1.o;omega)⟩)) (.inr rfl)
 have hob:o1=.ok b:=hob;subst hob;have hun:∃ ls e,Qx b=some ls∧ls[i%4]?=some e:=by
  have hpp:=HP.o;unfold Qbr Qm.bind at hpp;rw[←HR1.o] at hpp;dsimp only at hpp;cases hu:Qx b with
  | none=>rw[hu] at hpp;exact absurd rfl hpp
  | some ls=>
   rw[hu] at hpp;dsimp only[Option.getD] at hpp;cases he:ls[i%4]? with
   | none=>rw[he] at hpp;exact absurd rfl hpp
   | some e=>exact⟨ls,e,rfl,he⟩
 obtain⟨ls,ent,hls,hent⟩:=hun;have hub:=Qe5 (.slice a3 n3 c3) b w3 hb3.at (HBL.o b s1 HR1.o.symm);have HUB:=zh hub;have HLS:=zh hls;have HENT:=zh hent;clear hub hls hent hb3;have hi4:((i%4:Nat):Int)<(ls.length:Int):=by have:=(List.getElem?_eq_some_iff.1 HENT.o).1;omega
 have hi40:(0:Int)≤((i%4:Nat):Int):=by omega
 go_upto_region 11 with (first
  | (go_at_call 94;refine HUB.o.mono ?_;intro e w4 h4;obtain⟨v4,b4,rfl,hb4,ho4⟩:=Q61 HLS.o h4;have HB4:=zh hb4;have HO4:=zh ho4;clear h4 hb4 ho4)
  | fail)
 obtain⟨vs4,hrow4,hall4⟩:=HO4.o;have hvl:=hrow4;obtain⟨ve,hve⟩:∃ ve,vs4[i%4]?=some ve:=by have hl:=hrow4.1;exact⟨_,List.getElem?_eq_getElem (by omega)⟩
 have hoe:=hall4 _ _ _ hve HENT.o;obtain⟨ae,ne,ce,hvE⟩:=Qgo hoe;subst hvE;obtain⟨a4,c4,hv4,_,hcell⟩:=Ya hrow4;obtain⟨bb4,off4,ha4,hc4⟩:=hcell _ _ hve;subst ha4;subst hv4;have HOE:=zh hoe;have hc4i:w4.cell? ⟨bb4,off4+(((i:Int)%4)).toNat,none⟩=some (.slice ae ne ce):=by rw[show ((i:Int)%4).toNat=i%4 by omega];exact hc4
 have hi4i:(i:Int)%4<(ls.length:Int):=by omega
 have hi40i:(0:Int)≤(i:Int)%4:=by omega
 clear hrow4 hall4 hvl hve hoe hcell hi4 hi40 HO4
 go_upto_region 12 with fail
 have hown:∀ z,(Value.slice ae ne ce).ownBlock=some z→w3.heap.size≤z∧z<w4.heap.size:=Qo4 HOE.o;have hq4 : @QIs ⟨⟨(Value.slice ae ne ce).ownBlock⟩⟩ w4 (cQ gq gc gk mc gn gd mq vl vt v c) x3 N s1 d:=QIs.outB (o2:=⟨(Value.slice ae ne ce).ownBlock⟩) HX3.o HB4.o hown;have hE4:EnvS F (QS (cQ gq gc gk mc gn gd mq vl vt v c) x3) w4:=(HE2.o.step HF3.o HS3.o).below HB4.o;have hb1:Bnd s1 (Zl N (Ja N 0 N i).reverse).length:=by
  have:=HB.o
  rw[HRT.o] at this;have h2:=this.next (Qhm Zv (-1) (i / 4) N) (Qjx (Qb5 s0.net) Zv (-1) (i / 4) N s0 (Qbk.refl _));rw[←HR1.o] at h2;exact h2
 have hrq:Qbr N i s0=(match Zg N (Ja N 0 N i).reverse s1 with|(.ok l,s2)=>(.ok (ent,l),s2)|(.error e,s2)=>(.error e,s2)):=by
  unfold Qbr Qm.bind;rw[←HR1.o];dsimp only;rw[HLS.o];dsimp only[Option.getD];rw[HENT.o];dsimp only;cases hg:Zg N (Ja N 0 N i).reverse s1 with
  | mk o s2=>cases o <;> rfl
 have hp1:(Zg N (Ja N 0 N i).reverse s1).1≠.error .panic:=fun e=>by
  apply HP.o;rw[hrq];cases hg:Zg N (Ja N 0 N i).reverse s1 with
  | mk o s2=>rw[hg] at e;dsimp only at e;subst e;rfl
 have hwh:=fun W hW=>@Qmd ⟨⟨(Value.slice ae ne ce).ownBlock⟩⟩ W (cQ gq gc gk mc gn gd mq vl vt v c) x3 N s1 d (@QIs.below ⟨⟨(Value.slice ae ne ce).ownBlock⟩⟩ _ W _ _ _ _ _ hq4 hW)
 have hpa:=fun W hW g1 g3 hc=>@Qzi ⟨⟨(Value.slice ae ne ce).ownBlock⟩⟩ F W (cQ gq gc gk mc gn gd mq vl vt v c) x3 N s1 d (@QIs.below ⟨⟨(Value.slice ae ne ce).ownBlock⟩⟩ _ W _ _ _ _ _ hq4 hW) (hE4.below hW) g1 g3 hc i N hi (Nat.le_refl _) hsz hb1 hp1
 have HWH:=zh hwh;have HPA:=zh hpa;have HRQ:=zh hrq;have HOWN:=zh hown;clear hown hq4 hE4 hb1 hrq hp1 hwh hpa
 go_upto_region 13 with (first
  | (go_at_call 88;refine (HWH.o w4 (Below.refl _ _)).mono ?_;rintro e w5 ⟨g1,g3,rfl,hc5,hb5⟩;have HC5:=zh hc5;have HB5:=zh hb5;clear hc5 hb5)
  | (go_at_call 95;refine (HPA.o w5 HB5.o g1 g3 HC5.o).mono ?_;intro e w6 h6;obtain⟨v6,y6,rfl,hq6,hy6⟩:=@Qwi ⟨⟨(Value.slice ae ne ce).ownBlock⟩⟩ _ _ _ _ _ _ _ _ _ h6;have HQ6:=zh hq6;have HY6:=zh hy6;clear h6 hq6 hy6)
  | fail)
 obtain⟨r2,hr2⟩:∃ r,r=Zg N (Ja N 0 N i).reverse s1:=⟨_,rfl⟩
 have hQ6:=HQ6.o;have hY6:=HY6.o;rw[←hr2] at hQ6 hY6;obtain⟨o2,s2⟩:=r2;obtain⟨x6,hx6,hf6,hs6⟩:=hQ6;have hz5:w2.heap.size≤w5.heap.size:=Nat.le_trans HF3.o.size (Nat.le_trans HB4.o.size HB5.o.size);have hF6:Fr (QS (cQ gq gc gk mc gn gd mq vl vt v c) ⟨.slice none 0 0,qs,[]⟩) w2 w6:=Fr.sub ((HF3.o.trans (Fr.ofBelow HB4.o)).trans (Fr.ofBelow HB5.o)) hf6 HS3.o;have hS6:Sub w2 (QS (cQ gq gc gk mc gn gd mq vl vt v c) ⟨.slice none 0 0,qs,[]⟩) (QS (cQ gq gc gk mc gn gd mq vl vt v c) x6):=HS3.o.trans hs6 hz5;have hoe6:Qz w6 w3.heap.size (.slice ae ne ce) ent:=by have h5:Qz w5 w3.heap.size (.slice ae ne ce) ent:=HOE.o.below HB5.o;have hq5:=@QIs.below ⟨⟨(Value.slice ae ne ce).ownBlock⟩⟩ _ w5 _ _ _ _ _ (QIs.outB (o2:=⟨(Value.slice ae ne ce).ownBlock⟩) HX3.o HB4.o HOWN.o) HB5.o;exact @Qh6 ⟨⟨(Value.slice ae ne ce).ownBlock⟩⟩ _ _ _ _ _ _ _ _ _ _ h5 hf6 hq5
 have HX6:=zh hx6;have HF6:=zh hF6;have HS6:=zh hS6;have HR2:=zh hr2;have HOE6:=zh hoe6;have hcli:w6.heap[gc]?=some (.cells (cliC 1 (.iface 44 (.pointer (some ⟨gn,0,none⟩))) c.key c.size c.root gk) 177 (0,0)):=@QIs.cli ⟨⟨(Value.slice ae ne ce).ownBlock⟩⟩ _ _ _ _ _ _ hx6;have HCLI:=zh hcli;have hb0:w.heap.size≤w3.heap.size:=by have:=HB2.o.size;have:=HZ1.o;have:=HF3.o.size;omega
 have HB0:=zh hb0;clear hx6 hf6 hs6 hr2 hF6 hS6 hoe6 HQ6 HY6 hcli hb0 hz5;rcases hY6 with ⟨l6,hol,rfl,hv6⟩|⟨p,hop,rfl,⟨ge,rfl⟩,hme⟩
 rotate_left
 ·have HOP:=zh hop
  have HME:=zh hme;clear hop hme;go_wp2;refine Qfk (u:=.slice none 0 0) (v:=.slice none 0 0) (y:=.iface 153 (.pointer (some ⟨ge,0,none⟩))) (Qd HCLI.o 0 rfl) (Qq HCLI.o 0) rfl rfl rfl ?_;have hRe:R=((6,p),([],[]),{ c with cache:=s2.cache },s2.net):=by rw[HR.o];unfold Yp;rw[if_neg (by rw[←HNN.o];omega),Int.toNat_natCast,←HS0.o,←HNN.o,HRQ.o,←HR2.o];have hop2:o2=.error (.miss p):=HOP.o;rw[hop2]
  rw[hRe];refine Qk9 HF1.o HZ1.o HB2.o hg2 hmm2 hlt (QIs.outB HX6.o (Below.refl _ _) fun z hz=>by cases hz) HF6.o HS6.o (.inl ⟨rfl,rfl⟩) (World.ownsRow_nil _ _ _ _) (.inr (.inr ⟨p,rfl,Y5.low HME.o (by have:=HB5.o.size;have:=HB4.o.size;have:=HB0.o;omega)⟩)) (.inr rfl)
 have hol:o2=.ok l6:=hol;subst hol;have HV6:=zh hv6;have hlf:∀ W,Below w6.heap.size w6 W→Calls prog 72 #[.slice ae ne ce] W fun e w'=>e=.returned (.agg #[bv (Qaf ent)[0],bv (Qaf ent)[1],bv (Qaf ent)[2],bv (Qaf ent)[3],bv (Qaf ent)[4],bv (Qaf ent)[5],bv (Qaf ent)[6],bv (Qaf ent)[7]])∧Below W.heap.size W w':=fun W hW=>by
  have hlen:ent.length≤9223372036854775807:=by
   have:=(Qag HLS.o).2.2 ent (List.mem_of_getElem? HENT.o)
   omega
  have:=Qlh (.slice ae ne ce) ent W (HOE6.o.below hW).at hlen
  rw[Qgb] at this;exact this
 have hpl:l6.length≤1048576:=by
  have e:=Qhv N (Ja N 0 N i).reverse s1 s2 l6 HR2.o.symm
  have:=Qid N 63 0 N i (by omega) (Nat.le_refl _)
  rw[e,List.length_reverse];omega
 have hinc:∀ W,Below w6.heap.size w6 W→Calls prog 96 #[.agg #[bv (Qaf ent)[0],bv (Qaf ent)[1],bv (Qaf ent)[2],bv (Qaf ent)[3],bv (Qaf ent)[4],bv (Qaf ent)[5],bv (Qaf ent)[6],bv (Qaf ent)[7]],.int .i64 i,.int .i64 N,v6,.agg #[bv c.root[0],bv c.root[1],bv c.root[2],bv c.root[3],bv c.root[4],bv c.root[5],bv c.root[6],bv c.root[7]]] W fun e w'=>e=.returned (.bool (included (Qaf ent) i N l6 c.root))∧Below W.heap.size W w':=fun W hW=>by
  have:=Qqb l6 (Qaf ent) c.root i N v6 W (Qcu.at (Qn HV6.o hW)) (by omega) (by omega) hpl
  rw[Qgb,Qgb] at this;exact this
 obtain⟨ib,hib⟩:∃ x,x=included (Qaf ent) i N l6 c.root:=⟨_,rfl⟩
 rw[←hib] at hinc;have k0:w6.cell? ⟨gc,5,none⟩=some (bv c.root[0]):=Qd HCLI.o 5 rfl;have kd0:w6.drew.cell? ⟨gc,5,none⟩=some (bv c.root[0]):=k0;have k1:w6.cell? ⟨gc,6,none⟩=some (bv c.root[1]):=Qd HCLI.o 6 rfl;have kd1:w6.drew.cell? ⟨gc,6,none⟩=some (bv c.root[1]):=k1;have k2:w6.cell? ⟨gc,7,none⟩=some (bv c.root[2]):=Qd HCLI.o 7 rfl;have kd2:w6.drew.cell? ⟨gc,7,none⟩=some (bv c.root[2]):=k2;have k3:w6.cell? ⟨gc,8,none⟩=some (bv c.root[3]):=Qd HCLI.o 8 rfl;have kd3:w6.drew.cell? ⟨gc,8,none⟩=some (bv c.root[3]):=k3;have k4:w6.cell? ⟨gc,9,none⟩=some (bv c.root[4]):=Qd HCLI.o 9 rfl;have kd4:w6.drew.cell? ⟨gc,9,none⟩=some (bv c.root[4]):=k4;have k5:w6.cell? ⟨gc,10,none⟩=some (bv c.root[5]):=Qd HCLI.o 10 rfl;have kd5:w6.drew.cell? ⟨gc,10,none⟩=some (bv c.root[5]):=k5;have k6:w6.cell? ⟨gc,11,none⟩=some (bv c.root[6]):=Qd HCLI.o 11 rfl;have kd6:w6.drew.cell? ⟨gc,11,none⟩=some (bv c.root[6]):=k6;have k7:w6.cell? ⟨gc,12,none⟩=some (bv c.root[7]):=Qd HCLI.o 12 rfl;have kd7:w6.drew.cell? ⟨gc,12,none⟩=some (bv c.root[7]):=k7;have hb6:gc<w6.heap.size:=Qc HCLI.o;have HLF:=zh hlf;have HINC:=zh hinc;have HIB:=zh hib;clear hlf hinc hib hpl hv6
 go_upto_region 15 with fail
 go_region_held3 (fun w'=>w'.cell? ⟨gc,5,none⟩=some (bv c.root[0])∧w'.cell? ⟨gc,6,none⟩=some (bv c.root[1])∧w'.cell? ⟨gc,7,none⟩=some (bv c.root[2])∧w'.cell? ⟨gc,8,none⟩=some (bv c.root[3])∧w'.cell? ⟨gc,9,none⟩=some (bv c.root[4])∧w'.cell? ⟨gc,10,none⟩=some (bv c.root[5])∧w'.cell? ⟨gc,11,none⟩=some (bv c.root[6])∧w'.cell? ⟨gc,12,none⟩=some (bv c.root[7])) (first|with_reducible exact⟨k0,k1,k2,k3,k4,k5,k6,k7⟩|with_reducible exact⟨kd0,kd1,kd2,kd3,kd4,kd5,kd6,kd7⟩|with_reducible exact⟨m0,m1,m2,m3,m4,m5,m6,m7⟩|with_reducible exact⟨e0,e1,e2,e3,e4,e5,e6,e7⟩|fail) (first|(go_at_call 72;refine (HLF.o _ (Ql w6)).mono ?_;rintro e w7 ⟨rfl,hb7⟩;have HB7:=zh (show Below w6.heap.size w6 w7 from (Ql w6).trans hb7);have m0:=(HB7.o.cell (p:=⟨gc,5,none⟩) hb6).trans k0;have m1:=(HB7.o.cell (p:=⟨gc,6,none⟩) hb6).trans k1;have m2:=(HB7.o.cell (p:=⟨gc,7,none⟩) hb6).trans k2;have m3:=(HB7.o.cell (p:=⟨gc,8,none⟩) hb6).trans k3;have m4:=(HB7.o.cell (p:=⟨gc,9,none⟩) hb6).trans k4;have m5:=(HB7.o.cell (p:=⟨gc,10,none⟩) hb6).trans k5;have m6:=(HB7.o.cell (p:=⟨gc,11,none⟩) hb6).trans k6;have m7:=(HB7.o.cell (p:=⟨gc,12,none⟩) hb6).trans k7;clear hb7)|(go_at_call 96;refine (HINC.o w7 HB7.o).mono ?_;rintro e w8 ⟨rfl,hb8⟩;have HB8:=zh (HB7.o.trans (hb8.mono HB7.o.size));have e0:=(HB8.o.cell (p:=⟨gc,5,none⟩) hb6).trans k0;have e1:=(HB8.o.cell (p:=⟨gc,6,none⟩) hb6).trans k1;have e2:=(HB8.o.cell (p:=⟨gc,7,none⟩) hb6).trans k2;have e3:=(HB8.o.cell (p:=⟨gc,8,none⟩) hb6).trans k3;have e4:=(HB8.o.cell (p:=⟨gc,9,none⟩) hb6).trans k4;have e5:=(HB8.o.cell (p:=⟨gc,10,none⟩) hb6).trans k5;have e6:=(HB8.o.cell (p:=⟨gc,11,none⟩) hb6).trans k6;have e7:=(HB8.o.cell (p:=⟨gc,12,none⟩) hb6).trans k7;clear hb8)|fail)
 all_goals (
  cases ib with
  | false=>
   have hg:=((HE2.o.step HF6.o HS6.o).below HB8.o).sents.cells.2.2.2.2.1
   have HCLI8:=zh ((HB8.o.block _ hb6).trans HCLI.o)
   go_wp2
   go_region
   all_goals (
    go_wp2
    refine Qfk (u:=.slice none 0 0) (v:=.slice none 0 0) (y:=.iface 338 (.pointer (some (F 4)))) (Qd (w:=w8.drew) HCLI8.o 0 rfl) (Qq (w:=w8.drew) HCLI8.o 0) rfl rfl rfl ?_
    have hRe:R=((5,⟨#[]⟩),([],[]),{ c with cache:=s2.cache },s2.net):=by
     rw[HR.o]
     unfold Yp
     rw[if_neg (by rw[←HNN.o];omega),Int.toNat_natCast,←HS0.o,←HNN.o,HRQ.o,←HR2.o]
     dsimp only
     rw[←HIB.o]
     rfl
    rw[hRe]
    refine Qk9 HF1.o HZ1.o HB2.o hg2 hmm2 hlt (QIs.outB HX6.o (HB8.o.trans (Ql w8 |>.mono HB8.o.size)) fun z hz=>by cases hz) (HF6.o.trans (Fr.ofBelow (HB8.o.trans (Ql w8 |>.mono HB8.o.size)))) HS6.o (.inl ⟨rfl,rfl⟩) (World.ownsRow_nil _ _ _ _) (.inr (.inl ⟨4,by decide,by decide,rfl,rfl⟩)) (.inr rfl))
  | true=>
   have hq8:=@QIs.below ⟨⟨(Value.slice ae ne ce).ownBlock⟩⟩ _ w8 _ _ _ _ _ HX6.o HB8.o
   have hcost:Cost (Qkz N i).length s0 s2:=by
    have:=Qno N i s0
    rw[HRQ.o,←HR2.o] at this
    exact this
   have hln:x6.qs.length+x6.vs.length<1099511627775:=by
    have a1:s2.cache.items.length=x6.qs.length:=by rw[@Zx.items ⟨⟨(Value.slice ae ne ce).ownBlock⟩⟩ _ _ _ _ _ (@QIs.cache ⟨⟨(Value.slice ae ne ce).ownBlock⟩⟩ _ _ _ _ _ _ hq8),List.length_map]
    have a2:s2.files.length=x6.vs.length:=by rw[@QIs.files ⟨⟨(Value.slice ae ne ce).ownBlock⟩⟩ _ _ _ _ _ _ hq8,List.length_map]
    have a3:=hcost.files
    have a4:=hcost.items
    have a5:s0.files.length=0:=by rw[HS0.o];rfl
    have a6:s0.cache.items.length=c.cache.items.length:=by rw[HS0.o];rfl
    have:=HL.o
    omega
   have hre:=@Qkw ⟨⟨(Value.slice ae ne ce).ownBlock⟩⟩ w8 _ x6 N s2 d hq8 hln
   have hkc:=@Qai ⟨⟨(Value.slice ae ne ce).ownBlock⟩⟩ _ _ _ _ _ (@QIs.cache ⟨⟨(Value.slice ae ne ce).ownBlock⟩⟩ _ _ _ _ _ _ hq8)
   have HRE:=zh hre
   have HKC:=zh hkc
   clear hq8 hcost hln hre hkc
   go_wp2_with (first
    | (go_at_call 91;refine HRE.o.mono ?_;rintro e w9 ⟨rfl,qs9,hq9,hf9,hs9⟩;have HQ9:=zh hq9;have HF9:=zh hf9;have HS9:=zh hs9;clear hq9 hf9 hs9)
    | (go_at_call 97;refine (Q4l w9 w3.heap.size (.slice ae ne ce) ent (Qo5 (HOE6.o.below HB8.o) HF9.o HKC.o (by decide))).mono ?_;rintro e w10 ⟨u10,rfl,hu10,hob10,rfl⟩;have HU10:=zh hu10;have HOB:=zh hob10;clear hu10 hob10)
    | fail)
   have hli9:w10.heap[gc]?=some (.cells (cliC 1 (.iface 44 (.pointer (some ⟨gn,0,none⟩))) c.key c.size c.root gk) 177 (0,0)):=@QIs.cli ⟨⟨(Value.slice ae ne ce).ownBlock⟩⟩ _ _ _ _ _ _ HQ9.o
   refine Qfk (u:=u10) (v:=v6) (y:=.nilIface) (Qd hli9 0 rfl) (Qq hli9 0) rfl rfl rfl ?_
   have hRe:R=(Qcb,(ent,l6),{ c with cache:=Zf s2.cache s2.files },s2.net):=by
    rw[HR.o]
    unfold Yp
    rw[if_neg (by rw[←HNN.o];omega),Int.toNat_natCast,←HS0.o,←HNN.o,HRQ.o,←HR2.o]
    dsimp only
    rw[←HIB.o]
    rfl
   rw[hRe]
   have hF8:Fr (QS (cQ gq gc gk mc gn gd mq vl vt v c) ⟨.slice none 0 0,qs,[]⟩) w2 w8:=HF6.o.trans (Fr.ofBelow HB8.o)
   refine Qk9 (s:={ s2 with cache:=Zf s2.cache s2.files }) HF1.o HZ1.o HB2.o hg2 hmm2 hlt (by rw[HOB.o];exact HQ9.o) (Fr.sub hF8 (HF9.o.weak fun _ _ e=>.inr (.inl e)) HS6.o) (fun k hk=>?_) (HU10.o.mono HB0.o) (Z2 (Zi (Qn HV6.o HB8.o) HF9.o HKC.o (by decide)) (by have:=HB5.o.size;have:=HB4.o.size;have:=HB0.o;omega)) (.inl ⟨rfl,rfl⟩) (.inl rfl)
   rcases hk with e|e|e
   ·exact HS6.o k (.inl e)
   ·rcases Nat.lt_or_ge k w8.heap.size with hlk|hge
    ·exact HS6.o k (.inr (.inl (HS9.o k hlk e)))
    ·exact .inr (Nat.le_trans hF8.size hge)
   ·exact HS6.o k (.inr (.inr e)))
end
section
variable {w:World}
theorem Qmj {P:Program} {ops:Array Oper} {rest:List Oper} {o:Oper} {a:Act} {Q:Exit→Act→World→Prop} (hw:Region.wanted o (yielded ops a.tmps)=true) (ty:TypeId) (x y:Operand) (ho:o.op=.store ty x y)
  (g off:Nat) (hx:a.eval x=.pointer (some ⟨g,off,none⟩)) (cs:Array Value) (hy:a.eval y=.agg cs) (hcs:cs.size=8) (h1:∀ u∈cs.toList,u.oneCell'=true) (hi:(P.info? ty).map (·.size)=some 8)
  (cur:Array Value) (t:TypeId) (hg:w.heap[g]?=some (.cells cur t (0,0))) (hl:off+8≤cur.size)
  (hk:∀ cur':Array Value,cur'.size=cur.size→(∀ j,off+8≤j→cur'[j]?=cur[j]?)→wpList P ops Q rest (a.put o.dst undef) (w.setRow g cur')):wpList P ops Q (o :: rest) a w:=by
 refine BigFrame.wpList_want hw fun K' hK'=>?_
 have hrun:=run_storeCells_at (P:=P) g off t cs.toList 0 cur w hg (by simp[hcs];omega) h1;have hr:(storeVar ty ⟨g,off,none⟩ (.agg cs)).run P w=.ok () (w.setRow g (cur.toList.take (off+0)++cs.toList++cur.toList.drop (off+0+cs.toList.length)).toArray):=by
  cases hq:P.info? ty with
  | none=>simp[hq] at hi
  | some i=>
   have hs:i.size=8:=by simpa [hq] using hi
   have hrun':=hrun;simp only[Nat.add_zero] at hrun';simp[storeVar,sizeOf,typeInfo,hq,Value.cells,hs,hcs,hrun']
 unfold Oper.wp execOp;simp only[ho,hx,hy,Instr.storeAt,Instr.sureAddr,Sem.run_bind,Sem.run_pure,Result.andThen_ok,hr];refine hK' _ _ (hk _ ?_ ?_)
 ·simp[hcs];omega
 ·intro j hj
  have hc8:cs.toList.length=8:=by simpa using hcs
  rw[List.getElem?_toArray,Nat.add_zero,List.getElem?_append_right (by simp[hcs];omega)];rw[List.getElem?_drop,←Array.getElem?_toList]
  congr 1
  simp[hcs];omega
def Q62 (w:World) (base:Nat) (v:Value) (hs:List Hsh) (k:Nat):Prop:=
 ∃ (g cap:Nat) (cur:Array Value),v=.slice (some ⟨g,0,none⟩) hs.length cap∧base≤g∧w.heap[g]?=some (.cells cur 109 (0,0))∧hs.length≤cap∧hs.length*8≤cur.size∧
  ∀ (j:Nat) (h:Hsh),k≤j→hs[j]?=some h→∀ (m:Nat) (hm:m<8),cur[j*8+m]?=some (u8 h[m])
theorem Q67 (hs:List Hsh):∀ (j:Nat) (h:Hsh),hs[j]?=some h→∀ (m:Nat) (hm:m<8),(hs.flatMap fun h=>(h8 h).toList)[j*8+m]?=some (u8 h[m]):=by
 induction hs with
 | nil=>intro j h hj;simp at hj
 | cons x hs ih=>
  intro j h hj m hm;have hx:(h8 x).toList.length=8:=by simp
  cases j with
  | zero=>
   simp only[List.getElem?_cons_zero,Option.some.injEq] at hj;subst hj;rw[List.flatMap_cons,List.getElem?_append_left (by omega)];simp[h8,hm]
  | succ j=>
   rw[List.flatMap_cons,List.getElem?_append_right (by omega),hx,show (j+1)*8+m-8=j*8+m by omega];exact ih j h (by simpa using hj) m hm
variable {base:Nat} {v:Value} {hs:List Hsh}
theorem Qcu.tail (h:Qcu w base v hs):(v=.slice none 0 0∧hs = [])∨Q62 w base v hs 0:=by
 obtain⟨h1,h2⟩:=h;rcases h2 with ⟨rfl,h0⟩|⟨g,cap,cur,rfl,hb,hg,hn,hc,hsz,ht⟩
 ·exact .inl ⟨rfl,List.eq_nil_of_length_eq_zero h0⟩
 ·refine .inr ⟨g,cap,cur,rfl,hb,hg,hn,by omega,fun j h _ hj m hm=>?_⟩
  have:=Q67 hs j h hj m hm
  rw[←ht,List.getElem?_take] at this
  split at this
  ·simpa using this
  ·cases this
variable {g k:Nat} {cur:Array Value}
theorem Qth {x:Hsh} {t:TypeId} (hg:w.heap[g]?=some (.cells cur t (0,0))) (hall:∀ (m:Nat) (hm:m<8),cur[k*8+m]?=some (u8 x[m])):Q6 w (.slice (some ⟨g,k*8,none⟩) 8 8) x.toList:=by
 unfold Q6;refine⟨_,8,by simp,by simp,fun j y hy=>⟨g,k*8,rfl,?_⟩⟩;have hj:j<8:=by have:=(List.getElem?_eq_some_iff.1 hy).1;simpa using this
 have h1:=hall j hj;rw[show (x.toList.map u8)[j]?=some (u8 x[j]) by simp[hj]] at hy;cases hy;simp[World.cell?,hg,h1]
theorem Qg6 {e e':TypeId} {size n:Nat} {xs:List Value} {fz:Nat×Nat} (h:w.ownsRow base e size v n xs) (hg:w.heap[g]?=some (.cells cur e' fz)) (hne:e'≠e) (cs:Array Value):(w.setRow g cs).ownsRow base e size v n xs:=by
 obtain⟨h1,h2⟩:=h;refine⟨h1,?_⟩;rcases h2 with h2|⟨b,cap,cu,hv,hb,hh,r⟩
 ·exact .inl h2
 ·refine .inr ⟨b,cap,cu,hv,hb,?_,r⟩
  rw[setRow_other w g b cs (fun e1=>?_)]
  ·exact hh
  ·subst e1
   rw[hg] at hh;simp only[Option.some.injEq,Obj.cells.injEq] at hh;exact hne hh.2.1
theorem Qpg {h:Hsh} (hh:hs[k]?=some h):((hs.take (k+1)).map HS)=(hs.take k).map HS ++ [HS h]:=by rw[List.take_add_one,hh];simp
end
section
theorem Qpj (v:Value) (hs:List Hsh) (w:World) (h:Qcu w 0 v hs) (hn:hs.length≤1048576) :
  Calls prog 43 #[v] w fun e w'=>∃ v',e=.returned v'∧Q5 w' w.heap.size v' (hs.map HS)∧Fr (fun k=>v.ownBlock=some k) w w':=by
 rcases h.tail with ⟨rfl,rfl⟩|ht
 ·clear h
  go_enter func43,ntmps43
  go_wp2;refine wp_loop_rounds 1 ?_;rw[rounds_succ];go_wp2;go_ret;exact⟨_,rfl,World.ownsRow_nil _ _ _ _,Fr.refl _ _⟩
 ·obtain⟨g,cap,cur0,rfl,hbg,hg0,hcap,hsz0,hall0⟩:=ht
  obtain⟨i0,hi,hz0,hz1,hz2⟩:=info_parts Qe7;have HT:=zh (show Q62 w 0 (.slice (some ⟨g,0,none⟩) hs.length cap) hs 0 from ⟨g,cap,cur0,rfl,hbg,hg0,hcap,hsz0,hall0⟩);clear h hall0 hg0 hsz0
  go_enter func43,ntmps43
  go_wp2
  go_loopw [3,7] (fun v i wr=>∃ k:Nat,k≤hs.length∧i=.int .i64 k∧Q5 wr w.heap.size v ((hs.take k).map HS)∧Q62 wr 0 (.slice (some ⟨g,0,none⟩) hs.length cap) hs k∧Fr (fun k=>k=g) w wr) (fun _ i _=>hs.length-(intOf i).toNat)
  case atStart=>exact⟨0,by omega,rfl,World.ownsRow_nil _ _ _ _,HT.o,Fr.refl _ _⟩
  case round=>
   obtain⟨k,hk,rfl,hown,htl,hbel⟩:=hrel;by_cases hlt:k<hs.length
   ·obtain⟨x,hx⟩:∃ x,hs[k]?=some x:=⟨_,List.getElem?_eq_getElem hlt⟩
    obtain⟨g',cap',cur,hv,hbg',hg,hcap',hsz,hall⟩:=htl;simp only[Value.slice.injEq,Option.some.injEq,Addr.mk.injEq,and_true,true_and] at hv;obtain⟨rfl,rfl⟩:=hv;have hbytes:=Qth hg (hall k x (Nat.le_refl _) hx);have hgw:=Qc hg;have hsp:k*8+8≤cur.size:=by omega
    have HX:=zh hx;unfold Q5 at hown;have HR:=zh hown;have HB:=zh hbel;have HG:=zh hg;have HALL:=zh hall;have HBY:=zh hbytes;have hwsz:w.heap.size≤wr.heap.size:=hbel.size;have hlen:((hs.take k).map HS).length≤1048576:=by simp;omega
    clear hx hg hall hbytes hown hbel
    go_wp2_with (first|(refine Qm2 rfl 94 9 _ rfl _ underlying94 underlying5 underlying9 _ ?_ rfl ?_ ?_;rotate_left;focus exact HBY.o)|(at_builtin;refine Y3 rfl _ _ 22 rfl w.heap.size 9 i0 (.string ⟨#[]⟩) 16 underlying22 hi hz0 hz1 hz2 rfl (by decide) _ _ _ rfl HR.o _ rfl rfl (Nat.le_trans hlen (by decide)) hwsz ?_;intro v2 w2 hr2 hg2 hne2;have HR2:=zh hr2;have HG2:=zh hg2;have hgg:=(Qh4 HR.o hg2 (by decide) HG.o).trans HG.o;clear hr2 hg2 hne2)|(refine Qmj rfl 109 _ _ rfl g (k*8) rfl _ rfl rfl (by decide) info8 cur 109 hgg hsp ?_;intro cur' hsz' hcur';have HS2:=zh hsz';have HC2:=zh hcur';have HGG:=zh hgg;clear hsz' hcur' hgg))
    go_roundw
    case rel=>
     refine⟨k+1,by omega,by go_num,?_,?_,?_⟩
     ·rw[Qpg HX.o]
      unfold Q5;refine Qg6 ?_ HGG.o (by decide) _;have hr:=HR2.o;rw[show (⟨x.toList.toArray⟩:ByteArray)=HS x from rfl] at hr;simpa using hr
     ·exact⟨g,cap,cur',rfl,hbg,setRow_heap _ g cur _ _ _ HGG.o,hcap,by rw[HS2.o];exact hsz,fun j h hj hh m hm=>(HC2.o (j*8+m) (by omega)).trans (HALL.o j h (by omega) hh m hm)⟩
     ·exact (HB.o.step (Fr.ofGrown (S:=fun k=>w.heap.size≤k) HG2.o fun j _ hj=>(HR.o.lt j hj).1) fun i h1 h2=>absurd h2 (by omega)).trans (Fr.ofGrown (Qkt w2 g cur') fun k _ e=>(Option.some.inj e).symm)
    case measure=>(simp[intOf] <;> omega)
   ·have ht:hs.take k=hs:=List.take_of_length_le (by omega)
    rw[ht] at hown;go_wp2;go_ret;exact⟨_,rfl,hown,hbel.weak fun k _ e=>by rw[e];rfl⟩
end
section
def Q4u (data:List UInt8) (w:World) (e:Ending) (w':World):Prop:=
 ∃ v',e=.returned (.tuple #[v',.bool (Qx data).isSome])∧Below w.heap.size w w'∧((Qx data=none∧v'=.slice none 0 0)∨∃ ss,Qx data=some (bss ss)∧Q5 w' w.heap.size v' ss)
theorem Qy9 {ls:List (List UInt8)} {l:List UInt8} (h:Yj ls=some l):l=ls.flatMap encE:=by
 unfold Yj at h
 split at h
 ·cases h
 ·split at h
  ·cases h;rfl
  ·cases h
theorem Qg9 (s:ByteArray) (i j:Nat):(s.extract i j).data.toList=(s.data.toList.drop i).take (j-i):=by simp[List.extract]
theorem Q4o {s:ByteArray} {x:UInt8} {r:List UInt8} {n:Nat} (h:s.data.toList=x :: r) (hn:n≤r.length):(s.extract 1 (1+n)).data.toList=r.take n∧(s.extract (1+n) s.size).data.toList=r.drop n∧(s.extract (1+n) s.size).size=s.size-(1+n):=by
 have hl:s.data.toList.length=s.size:=rfl;have hl2:r.length+1=s.size:=by rw[←hl,h];rfl
 refine⟨?_,?_,?_⟩
 ·rw[Qg9,h,show 1+n-1=n from by omega];rfl
 ·rw[Qg9,h,show 1+n=n+1 from by omega,List.drop_succ_cons]
  exact List.take_of_length_le (by simp;omega)
 ·simp
theorem Qij (s0:ByteArray) (w:World) (hn:s0.size≤1099511627776) :
  Calls prog 166 #[.string s0] w (Q4u s0.data.toList w):=by
 obtain⟨i0,hi,hz0,hz1,hz2⟩:=info_parts Qe7
 go_enter func166,ntmps166
 go_wp2
 go_loopw [0,4] (fun sv lv wr=>∃ (s:ByteArray) (ss:List ByteArray),sv=.string s∧Q5 wr w.heap.size lv ss∧Read s0.data.toList (bss ss) s.data.toList∧ss.length+s.size≤s0.size∧Below w.heap.size w wr) (fun sv _ _=>match sv with | .string s=>s.size|_=>0)
 case atStart=>exact⟨s0,[],rfl,World.ownsRow_nil _ _ _ _,Read.start _,by simp,Below.refl _ _⟩
 case round=>
  obtain⟨s,ss,rfl,hown,hread,hsz,hbel⟩:=hrel;have HR:=zh hread;have HB:=zh hbel;unfold Q5 at hown;have HO:=zh hown;clear hread hbel hown;by_cases h0:0<s.size
  ·have hd:decide (0<(s.size:Int))=true:=by simp;omega
   obtain⟨x,r,hxr⟩:∃ x r,s.data.toList=x :: r:=by
    cases h:s.data.toList with
    | nil=>
     have hl:s.data.toList.length=s.size:=rfl;rw[h] at hl;simp at hl;omega
    | cons x r=>exact⟨x,r,rfl⟩
   have hx8:x.toNat<256:=x.toNat_lt;have hx:s[0]'h0=x:=by
    have:s.data.toList[0]'(by rw[hxr];simp)=x:=by simp[hxr]
    exact this
   have hrl:r.length+1=s.size:=by have hl:s.data.toList.length=s.size:=rfl;rw[←hl,hxr];rfl
   have HXR:=zh hxr;have hrl1:r.length+1≤s.size:=by omega
   have hrl2:s.size≤r.length+1:=by omega
   have HRL:=zh hrl;obtain⟨n,hxn⟩:∃ n,n=x.toNat:=⟨_,rfl⟩
   rw[←hxn] at hx8;have hx':(s[0]'h0).toNat=n:=by rw[hx,←hxn]
   have HX:=zh hxn;clear hxr hrl hx hxn;have hread:=HR.o;rw[HXR.o] at hread;have HR1:=zh hread;clear hread;by_cases hA:r.length<n
   ·have d1:decide ((s.size:Int)<1+(n:Int))=true:=by simp;omega
    go_wp2;go_ret2;have hu:=Qku (HR1.o.bad (by rw[←HX.o];exact hA));exact⟨_,by rw[hu];rfl,HB.o,.inl ⟨hu,rfl⟩⟩
   ·have d1:decide ((s.size:Int)<1+(n:Int))=false:=by simp;omega
    have hcut:=Q4o HXR.o (show n≤r.length by omega);have HCUT:=zh hcut;have hread2:=HR1.o.step (by rw[←HX.o];omega);rw[←HX.o] at hread2;have HR2:=zh hread2;clear hcut hread2
    go_wp2_with (first|(at_builtin;refine Y3 rfl _ _ 22 rfl w.heap.size 9 i0 (.string ⟨#[]⟩) 16 underlying22 hi hz0 hz1 hz2 rfl (by decide) _ _ _ rfl HO.o _ rfl rfl (by omega) HB.o.size ?_;intro v2 w2 hr2 hg2 hne2;have HRR2:=zh hr2;have HG2:=zh hg2;clear hr2 hg2 hne2))
    obtain⟨hc1,hc2,hc3⟩:=HCUT.o;go_roundw
    case rel=>
     refine⟨_,ss ++ [s.extract 1 (1+n)],rfl,?_,?_,?_,HB.o.grown HG2.o HB.o.size (fun j hj=>(HO.o.lt j hj).1)⟩
     ·unfold Q5
      simpa using HRR2.o
     ·rw[hc2]
      have e:bss (ss ++ [s.extract 1 (1+n)])=bss ss ++ [r.take n]:=by simp only[bss,List.map_append,List.map_cons,List.map_nil,hc1]
      rw[e];exact HR2.o
     ·rw[hc3,List.length_append]
      simp;omega
    case measure=>
     show (s.extract (1+n) s.size).size<s.size;rw[hc3];omega
  ·have hd:decide (0<(s.size:Int))=false:=decide_eq_false (by omega)
   have hsz0:s.data.toList.length=0:=by have hl:s.data.toList.length=s.size:=rfl;rw[hl];omega
   have hnil:s.data.toList = []:=List.eq_nil_of_length_eq_zero hsz0;clear hsz0;have HN:=zh hnil;clear hnil;have hraw:rawU s0.data.toList=some (bss ss):=by have:=HR.o;rw[HN.o] at this;exact this.done
   have HRAW:=zh hraw;clear hraw;have hstr:Jd wr u4 ss:=Ya HO.o;have HST:=zh hstr;clear hstr
   go_wp2_with fail
   refine (Qlz u4 ss _ HST.o (by omega)).mono ?_;rintro e w1 ⟨rfl,hb1⟩;have HB1:=zh hb1;clear hb1;cases hbo:Yj (bss ss) with
   | none=>
    go_wp2;go_ret2;have hu:Qx s0.data.toList=none:=by unfold Qx;rw[HRAW.o,Option.bind_some,hbo];rfl
    exact⟨_,by rw[hu];rfl,HB.o.trans (HB1.o.mono HB.o.size),.inl ⟨hu,rfl⟩⟩
   | some l=>
    have hl:l=s0.data.toList:=by rw[←Qph HRAW.o];exact Qy9 hbo
    have ht:(⟨((some l).getD []).toArray⟩:ByteArray)=s0:=by rw[Option.getD_some,hl]
    have hu:Qx s0.data.toList=some (bss ss):=by unfold Qx;rw[HRAW.o,Option.bind_some,hbo];rfl
    have HU:=zh hu;rw[ht];clear hl ht hu hbo;go_wp2;go_ret2;exact⟨_,by rw[HU.o];rfl,HB.o.trans (HB1.o.mono HB.o.size),.inr ⟨ss,HU.o,Qn HO.o HB1.o⟩⟩
end
section
theorem Qc0 {P:Program} {ops:Array Oper} {rest:List Oper} {o:Oper} {a:Act} {Q:Exit→Act→World→Prop} {w:World} (hgd:o.guard=none) (x:Operand) (t:TypeId)
  (ho:o.op=.call { callee:=.builtin .clear,args:=#[x],argTypes:=#[t] }) (i:TypeInfo) (ht:P.underlying t=some (.slice 5)) (hi:P.info? 5=some i) (hz:i.zero=some (.int .u8 0))
  (base:Nat) (v:Value) (l:List UInt8) (hx:a.eval x=v) (hown:Qz w base v l)
  (h:∀ w' n,w.grownBy w' v.ownBlock→(∀ k,k<w.heap.size→(∃ C C' fz,w.heap[k]?=some (.cells C 5 fz)∧w'.heap[k]?=some (.cells C' 5 fz)∧C'.size=C.size)∨w'.heap[k]?=w.heap[k]?)→w'.heap.size=w.heap.size→wpList P ops Q rest (a.put o.dst n) w'):wpList P ops Q (o :: rest) a w:=by
 refine wpList_plain hgd fun K hK=>?_
 have noop:(Builtin.clear_ #[t] o.type #[v]).run P w=.ok (.tuple #[]) w→o.wp P a w K Q:=fun hr=>by unfold Oper.wp execOp;simp only[ho,resolve,invoke,builtin,Sem.run_bind,Sem.run_pure,Result.andThen_ok,List.map_toArray,List.map_cons,List.map_nil,hx,hr];exact hK _ _ (h w _ ⟨rfl,rfl,rfl,Nat.le_refl _,fun _ _ _=>rfl⟩ (fun _ _=>.inr rfl) rfl)
 rcases hown with ⟨rfl,rfl⟩|⟨b,off,c,C,fz,rfl,hcap,hb,hg,hc,hsz,hf⟩
 ·exact noop (by simp[Builtin.clear_,run_underlying ht])
 ·by_cases h0:l.length=0
  ·obtain rfl:l = []:=List.eq_nil_of_length_eq_zero h0
   exact noop (by simp[Builtin.clear_,run_underlying ht])
  ·obtain⟨cur',hrun,hs⟩:=Qdt (P:=P) b off 5 fz ((Builtin.zeroCells #[Value.int .u8 0] l.length).toList) 0 C w hg (by simp[Builtin.zeroCells];omega) hf (fun u hu=>by
    simp[Builtin.zeroCells] at hu
    obtain⟨k,hk,rfl⟩:=hu
    simp[Nat.mod_one,Value.oneCell'])
   have hr:(Builtin.clear_ #[t] o.type #[.slice (some ⟨b,off,none⟩) l.length c]).run P w=.ok (.tuple #[]) (w.setRow b cur'):=by
    cases hl:l.length with
    | zero=>exact absurd hl h0
    | succ n=>
     rw[hl] at hrun;simp[Builtin.clear_,run_underlying ht,zeroValue,typeInfo,hi,hz,Value.cells,hrun]
   unfold Oper.wp execOp;simp only[ho,resolve,invoke,builtin,Sem.run_bind,Sem.run_pure,Result.andThen_ok,List.map_toArray,List.map_cons,List.map_nil,hx,hr];refine hK _ _ (h _ _ (Qkt w b cur') (fun k hk=>?_) (by simp));by_cases hkb:k=b
   ·subst hkb
    exact .inl ⟨C,cur',fz,hg,setRow_heap w k _ _ _ _ hg,hs⟩
   ·exact .inr (setRow_other w b k cur' hkb)
end
section
abbrev PcAt (w:World) (ga gc:Nat):Prop:=w.heap[ga]?=some (.cells #[.pointer (some ⟨gc,0,none⟩)] 101 (0,0))
theorem Qd4 (w:World) (vn vf:Value) (hv:(vn=.pointer none∧vf=.nilIface)∨∃ a,vn=.pointer (some a)∧vf=.iface 44 (.pointer (some a))) (key:ByteArray) (i:Int) (hi:i≤9223372036854775807) :
  Calls prog 18 #[vn,.string key,.int .i64 i] w fun e w'=>∃ ga gc gk mc,e=.returned (.pointer (some ⟨ga,0,none⟩))∧PcAt w' ga gc∧ClIs w' gc gk mc vf ⟨key,0,hash [],⟨i.toNat,[]⟩⟩ []∧Below w.heap.size w w'∧w.heap.size≤ga∧w.heap.size≤gc∧w.heap.size≤gk∧w.heap.size≤mc:=by
 have HC:=zh (Qqa w vf (hv.imp (fun h=>h.2) fun ⟨a,h⟩=>⟨a,h.2⟩) key i hi);rcases hv with ⟨rfl,rfl⟩|⟨a,rfl,rfl⟩
 all_goals
  go_enter func18,ntmps18
  go_wp2_with (first
   | (go_at_call 41;refine HC.o.mono ?_;rintro e w1 ⟨gc,gk,mc,rfl,hc1,hb1,hg1,hk1,hm1⟩;have HC1:=zh hc1;have HB1:=zh hb1;clear hc1 hb1)
   | fail)
  exact bodyPost_ret (results_tmp rfl _ _ _) rfl ⟨w1.heap.size,gc,gk,mc,rfl,heap_alloc_new w1 _,HC1.o.below (Qa w1 _),HB1.o.alloc HB1.o.size _,HB1.o.size,hg1,hk1,hm1⟩
variable {w:World}
theorem Q17 {g:Nat} {n:Int} {h:Hsh} (ht:TrAt w g n h):Q6 w (.slice (some ⟨g,1,none⟩) 8 8) h.toList:=by
 unfold Q6;refine⟨_,8,by simp,by simp,fun j x hx=>⟨g,1,rfl,?_⟩⟩;have hj:j<8:=by have:=(List.getElem?_eq_some_iff.1 hx).1;simpa using this
 have h1:=Qz5 n h j hj;rw[show (h.toList.map u8)[j]?=some (u8 h[j]) by simp[hj]] at hx;cases hx;unfold TrAt at ht;simp only[World.cell?,ht];exact h1
theorem Qsq (w:World) (ga gc gk mc:Nat) (vf:Value) (c:Cl) (qs:List CEnt) (hga:PcAt w ga gc) (h:ClIs w gc gk mc vf c qs) :
  Calls prog 21 #[.pointer (some ⟨ga,0,none⟩)] w fun e w'=>e=.returned (.tuple #[.int .i64 c.size,.string (HS c.root)])∧ClIs w' gc gk mc vf c qs∧Fr (·=gc) w w':=by
 have c0:w.cell? ⟨ga,0,none⟩=some (.pointer (some ⟨gc,0,none⟩)):=Qd hga 0 rfl;have HC:=zh (Qrc w gc gk mc vf c qs h);obtain⟨n,hn⟩:∃ n:Int,n=c.size:=⟨_,rfl⟩
 obtain⟨k,hk⟩:∃ k,k=c.root:=⟨_,rfl⟩
 rw[←hn,←hk];have HN:=zh hn;have HK:=zh hk;rw[←hn,←hk] at HC;clear hga h hn hk
 go_enter func21,ntmps21
 go_wp2_with fail
 refine HC.o.mono ?_;rintro e w1 ⟨rfl,hc1,hf1⟩;have T1:TrAt (w1.alloc (.cells (trC 0 zero8) 111)) w1.heap.size 0 zero8:=heap_alloc_new w1 _;have T2:=T1.set n k;have B2:=below_setRow ((Below.refl w1.heap.size w1).alloc (Nat.le_refl _) (.cells (trC 0 zero8) 111)) (g:=w1.heap.size) (Nat.le_refl _) (trC n k);have HT1:=zh T1;obtain⟨W,hW⟩:∃ W,W=(w1.alloc (.cells (trC 0 zero8) 111)).setRow w1.heap.size (trC n k):=⟨_,rfl⟩
 rw[←hW] at T2 B2;have HW:=zh hW;have hcv:=Qep (Q17 (T2.below (Ql _)));obtain⟨k0,_,_,_,_,_,_,_,_⟩:=(T2.below (Ql _)).cells;have hlt:=Qc T2;have HB2:=zh B2;have HC1:=zh hc1;have HF1:=zh hf1;clear T1 T2 B2 hW hc1 hf1
 go_wp2_with (refine Z7 rfl _ _ rfl _ n k rfl rfl _ _ HT1.o ?_)
 rw[show (w1.alloc (.cells #[.int .i64 0,.int .u8 0,.int .u8 0,.int .u8 0,.int .u8 0,.int .u8 0,.int .u8 0,.int .u8 0,.int .u8 0] 111)).setRow w1.heap.size (trC n k)=W from HW.o.symm];go_region
 all_goals (
  go_wp2
  go_ret2
  exact⟨rfl,HC1.o.below HB2.o.drew,HF1.o.trans (Fr.ofBelow HB2.o.drew)⟩)
def Qi7 (w:World) (gc gk mc gn gd:Nat) (vl vt:Value) (qs:List CEnt) (r:Tld×(List UInt8×List Hsh)×Cl×Nt) (e:Ending) (w':World):Prop:=
 ∃ (nn:Bool) (v':Value),e=.returned (.tuple #[.string (sOf r.2.1.1),.bool nn,v',Jn r.1.1 r.1.2])∧(nn=true→r.2.1.1 = [])∧(r.1=Qcb∨nn=true)∧Q5 w' w.heap.size v' (r.2.1.2.map HS)∧
  ∃ qs',ClIs w' gc gk mc (.iface 44 (.pointer (some ⟨gn,0,none⟩))) r.2.2.1 qs'∧Yk w' gn gd vl vt r.2.2.2∧Fr (cnS gc gk mc gn vt qs) w w'∧Sub w (cnS gc gk mc gn vt qs) (cnS gc gk mc gn vt qs')
theorem ClM.kept {S:Nat→Prop} {ts:List TypeId} {mu:Int} {w':World} {gc gk mc:Nat} {vf:Value} {c:Cl} {qs:List CEnt} (h:ClM mu w gc gk mc vf c qs) (hf:Fr S w w') (hS:Qae w S ts) (hm:∀ k,S k→∃ C t fz,w.heap[k]?=some (.cells C t fz)) (h0:177 ∉ ts) (h1:246 ∉ ts) (h2:244 ∉ ts) (h3:5 ∉ ts):ClM mu w' gc gk mc vf c qs:=
 ⟨Ze h.cells hf hS h0,Qek h.cache hf hS (fun e=>by
  obtain⟨C,t,fz,hC⟩:=hm _ e
  obtain⟨D,⟨es,cl,hb,_⟩,_⟩:=h.cache.km.ex
  rw[hC] at hb;cases hb) h1 h2 h3⟩
theorem Qm8 {base:Nat} {a:Option Addr} {n c:Nat} {l:List UInt8} (h:Qz w base (.slice a n c) l):∀ z,(Value.slice a n c).ownBlock=some z→∃ C fz,w.heap[z]?=some (.cells C 5 fz):=fun z hz=>by
 rcases h with ⟨h1,_⟩|⟨b,off,c',C,fz,h1,_,_,h4,_⟩
 ·cases h1;cases hz
 ·cases h1
  have:b=z:=by simpa [Value.ownBlock] using hz
  subst this
  exact⟨C,fz,h4⟩
theorem Qv7 (F:Nat→Addr) (w:World) (ga gc gk mc gn gd:Nat) (vl vt:Value) (i:Int) (qs:List CEnt) (r:Tld×(List UInt8×List Hsh)×Cl×Nt) (hga:PcAt w ga gc) (hE:EnvS F (cnS gc gk mc gn vt qs) w) (hlt:∀ k,cnS gc gk mc gn vt qs k→k<w.heap.size) (hlen:r.2.1.2.length≤1048576)
  (hc:Calls prog 45 #[.pointer (some ⟨gc,0,none⟩),.int .i64 i] (w.alloc (.cells #[.int .i64 0,.string ⟨#[]⟩] 29)) (Qg4 F (w.alloc (.cells #[.int .i64 0,.string ⟨#[]⟩] 29)) gc gk mc gn gd vl vt qs r)) :
  Calls prog 22 #[.pointer (some ⟨ga,0,none⟩),.int .i64 i] w (Qi7 w gc gk mc gn gd vl vt qs r):=by
 obtain⟨⟨tk,tp⟩,⟨bb,hh⟩,c1,n1⟩:=r;obtain⟨W0,hW0⟩:∃ W0,W0=w.alloc (.cells #[.int .i64 0,.string ⟨#[]⟩] 29):=⟨_,rfl⟩
 have hb0:Below w.heap.size w W0:=by rw[hW0];exact Qa w _
 have ht0:Z4 W0 w.heap.size 0 ⟨#[]⟩:=by rw[hW0];exact Qch w
 have hz0:W0.heap.size=w.heap.size+1:=by rw[hW0];simp
 have c0:W0.cell? ⟨ga,0,none⟩=some (.pointer (some ⟨gc,0,none⟩)):=Qd ((hb0.block _ (Qc hga)).trans hga) 0 rfl;obtain⟨i0,hi0,hy0,_,_⟩:=info_parts Qj8;rw[←hW0] at hc;have HW0:=zh hW0;have HB0:=zh hb0;have HT0:=zh ht0;have HE:=zh hE;have HLT:=zh hlt;have HLEN:=zh hlen;have HC:=zh hc;clear hga hE hlt hlen hc hW0 hb0 ht0
 go_enter func22,ntmps22
 go_upto_region 1 with fail
 rw[show w.alloc (.cells #[.int .i64 0,.string ⟨#[]⟩] 29)=W0 from HW0.o.symm]
 go_upto_region 2 with (first
  | (go_at_call 45;refine HC.o.mono ?_;rintro e w1 ⟨u,v,y,rfl,hu,hv,hy,qs1,hcl,hn1,hf1,hs1,hz1⟩;obtain⟨ua,un,uc,rfl⟩:=Qgo hu;have HU:=zh hu;have HV:=zh hv;have HY:=zh hy;have HCL:=zh hcl;have HN1:=zh hn1;have HF1:=zh hf1;have HS1:=zh hs1;have HZ1:=zh hz1;clear hu hv hy hcl hn1 hf1 hs1 hz1)
  | fail)
 have hu:=HU.o;have hcv:=Qep hu.at;have hq:=Lib.run_eql_slice_nil (P:=prog) w1 94 5 ua un uc 0 0 underlying94;have hk3:Qae w1 (fun k=>(Value.slice ua un uc).ownBlock=some k) [5]:=fun k C t f hs hk=>by obtain⟨C',fz',h'⟩:=Qm8 hu k hs;rw[hk] at h';cases h';simp
 have hlo3:=Qo4 hu;have ht1:Z4 w1 w.heap.size 0 ⟨#[]⟩:=HF1.o.heap HT0.o fun e=>by have:=HLT.o _ e;omega
 have hfr1:Fr (cnS gc gk mc gn vt qs) w w1:=(Fr.ofBelow HB0.o).trans HF1.o;have HK3:=zh hk3;have HLO3:=zh hlo3;have HT1:=zh ht1;have HFR1:=zh hfr1;have HUU:=zh hu;clear hu hk3 hlo3 ht1 hfr1 c0
 go_wp2_with (first
  | (refine Qc0 rfl _ 94 rfl i0 underlying94 hi0 hy0 W0.heap.size _ bb rfl HUU.o ?_;intro w3 n3 hg3 hsh3 hz3;have HF3:=zh (Fr.ofGrown (S:=fun k=>(Value.slice ua un uc).ownBlock=some k) hg3 fun k _ e=>e);have HV3:=zh (show Qcu w3 0 v hh from Z2 (Zi HV.o HF3.o HK3.o (by decide)) (Nat.zero_le _));clear hg3 hsh3 hz3)
  | (go_at_call 43;refine (Qpj v hh w3 HV3.o HLEN.o).mono ?_;rintro e w4 ⟨v4,rfl,ho4,hf4⟩;have HO4:=zh ho4;have HF4:=zh hf4;have HK4:=zh (Qdi HV3.o);clear ho4 hf4)
  | (go_at_call 37;have hfr4:Fr (cnS gc gk mc gn vt qs) w w4:=(HFR1.o.step HF3.o fun i h1 h2=>absurd (HLO3.o i h2).1 (by omega)).step HF4.o (fun i h1 h2=>absurd (HV.o.lt i h2).1 (by omega));have HFR4:=zh hfr4;have hy4:=(HY.o.fr HF3.o (fun k C fz hC=>Zo HK3.o hC (by decide))).fr HF4.o (fun k C fz hC=>Zo HK4.o hC (by decide));have ht4:=(HT1.o.kept HF3.o HK3.o (by decide)).kept HF4.o HK4.o (by decide);refine (Q1r (HE.o w4 hfr4).2.1 hy4).mono ?_;rintro e w5 ⟨rfl,hb5⟩;have HB5:=zh hb5;have HT5:=zh (ht4.below hb5);obtain⟨t0,t1,t2,t3,t4⟩:=HT5.o.facts;clear hfr4 hy4 ht4 hb5)
  | fail)
 have hts:=Qdv (m:=tk) (t:=tp) HT5.o;have hkt:=Qw HT5.o;have hf5:=hts.2;refine bodyPost_ret (v:=.tuple #[.string (sOf bb),.bool ua.isNone,v4,Jn tk tp]) (by simp[results,results22,go_sem,t0,t1,sOf]) rfl ⟨ua.isNone,v4,rfl,?_,?_,?_,qs1,?_,?_,?_,?_⟩
 ·intro hn
  rcases HUU.o with ⟨_,h1⟩|⟨b,off,cc,C,fz,h1,_⟩
  ·exact h1
  ·cases h1;cases hn
 ·rcases HZ1.o with h1|h1
  ·exact .inl h1
  ·cases h1;exact .inr rfl
 ·exact Z2 (Zi (Qn HO4.o HB5.o) hf5 hkt (by decide)) (by have:=HF3.o.size;have:=HF1.o.size;omega)
 ·have h3:=ClM.back HCL.o HF3.o (Qm8 HUU.o)
  have h4:=h3.kept HF4.o HK4.o (fun k hk=>by obtain⟨C,hC⟩:=Qh HV3.o hk;exact⟨C,_,_,hC⟩) (by decide) (by decide) (by decide) (by decide);exact (h4.below HB5.o).kept hf5 hkt (fun k hk=>⟨_,_,_,(show w5.heap[k]?=_ from hk ▸ HT5.o)⟩) (by decide) (by decide) (by decide) (by decide)
 ·have h3:=Yq HN1.o HF3.o HK3.o (by decide) (by decide) (by decide)
  have h4:=Yq h3 HF4.o HK4.o (by decide) (by decide) (by decide);exact Yq (h4.below HB5.o) hf5 hkt (by decide) (by decide) (by decide)
 ·exact (HFR4.o.trans (Fr.ofBelow HB5.o)).step hf5 fun i h1 h2=>by omega
 ·exact HS1.o.mono (by omega)
end
section
open Go.RowKit Go.Sort
def cfF (x y:ByteArray×ByteArray):Int:=if Op.bytesLess x.1.toList y.1.toList=true then -1 else if Op.bytesLess y.1.toList x.1.toList=true then 1 else 0
theorem Q0c (x y:ByteArray×ByteArray):ltOf cfF x y=ltStr x.1.toList y.1.toList:=by
 unfold ltOf cfF ltStr;rw[bytesLess_eq,bytesLess_eq];by_cases h:x.1.toList<y.1.toList
 ·simp[h]
 ·by_cases h2:y.1.toList<x.1.toList
  ·simp[h,h2]
  ·simp[h,h2]
theorem Q6m:SWO (ltOf cfF) where
 irrefl x:=by rw[Q0c];exact swo_ltStr.irrefl _
 trans x y z h1 h2:=by rw[Q0c] at *;exact swo_ltStr.trans _ _ _ h1 h2
 ntrans x y z h1 h2:=by rw[Q0c] at *;exact swo_ltStr.ntrans _ _ _ h1 h2
theorem Qtm {a:Array Value} {t:Nat} {v:Value} (h:a[t]?=some v):a[t]! = v:=by obtain⟨h1,h2⟩:=Array.getElem?_eq_some_iff.1 h;rw[getElem!_pos a t h1,h2]
theorem Qol (l:List (ByteArray×ByteArray)):flatK Jt 2 l.toArray=(Zh l).toArray:=by
 refine ext_get! (by simp[Y7]) fun t ht=>?_
 have ht':t<l.length*2:=by simpa using ht
 have hj:t / 2<l.length:=by omega
 obtain⟨f,hf⟩:∃ f,l[t / 2]?=some f:=⟨_,List.getElem?_eq_getElem hj⟩
 obtain⟨h1,h2⟩:=J8 l (t / 2) f hf;rw[get_flatK _ _ _ _ (by simpa using ht')];have e:l.toArray[t / 2]! = f:=by
  rw[getElem!_pos l.toArray (t / 2) (by simpa using hj)]
  have:=(List.getElem?_eq_some_iff.1 hf).2
  simpa using this
 rw[e];rcases Nat.mod_two_eq_zero_or_one t with hm|hm
 ·rw[hm]
  have ht2:t / 2*2=t:=by omega
  rw[ht2] at h1;rw[Qtm (v:=.string f.1) (by simpa using h1)];rfl
 ·rw[hm]
  have ht2:t / 2*2+1=t:=by omega
  rw[ht2] at h2;rw[Qtm (v:=.string f.2) (by simpa using h2)];rfl
variable {w:World} {blk:Nat} {cur:Array Value} {e:TypeId} {l:List (ByteArray×ByteArray)}
theorem Quc (hb:w.heap[blk]?=some (.cells cur e (0,0))) (ht:cur.toList.take (l.length*2)=Zh l):HoldsK Jt 2 w blk 0 l.toArray:=by
 unfold HoldsK;rw[Qol];intro j hj;have hj':j<l.length*2:=by simpa [Y7] using hj
 refine⟨?_,by simp[World.frozen?,hb]⟩;have h1:(cur.toList.take (l.length*2))[j]?=(Zh l)[j]?:=by rw[ht]
 rw[List.getElem?_take_of_lt hj'] at h1;rw[Nat.zero_add,cell_of_row w blk j cur e (0,0) hb,←Array.getElem?_toList,h1];have h2:(Zh l)[j]?=some ((Zh l)[j]'(by rw[Y7];exact hj')):=List.getElem?_eq_getElem _;rw[h2];have h3:(Zh l).toArray[j]?=some ((Zh l)[j]'(by rw[Y7];exact hj')):=by rw[List.getElem?_toArray];exact h2
 rw[Qtm h3];rfl
variable {m:Nat} {os:Array Obj}
theorem Qre {fr:Nat×Nat} (d:Array (ByteArray×ByteArray)) (hb:w.heap[blk]?=some (.cells cur e fr)) :
  (sortWorldK Jt 2 w blk 0 m d os).heap[blk]?=some (.cells (putCells id 0 (flatK Jt 2 d) cur) e fr):=by
 have hg:blk<w.heap.size:=(Array.getElem?_eq_some_iff.1 hb).1;unfold sortWorldK putRowK;rw[Go.Sort.heap_grow_old _ _ (by simpa [putRow,mapBlock,Sort.ahead] using hg)];simp[putRow,mapBlock,Sort.ahead,Array.getElem?_modify,hb,onCells]
theorem Q1y (d:Array (ByteArray×ByteArray)):Fr (·=blk) w (sortWorldK Jt 2 w blk 0 m d os):=by
 refine⟨rfl,rfl,rfl,by simp[sortWorldK,putRowK,putRow,mapBlock,Sort.ahead,grow],fun k hk hne=>?_⟩;unfold sortWorldK putRowK;rw[Go.Sort.heap_grow_old _ _ (by simpa [putRow,mapBlock,Sort.ahead] using hk)]
 have:blk≠k:=fun e=>hne e.symm
 simp[putRow,mapBlock,Sort.ahead,Array.getElem?_modify,this]
theorem Qzk (cur:Array Value) (xs:List Value) (h:xs.length≤cur.size):(putCells id 0 xs.toArray cur).toList.take xs.length=xs:=by
 apply List.ext_getElem?;intro j;by_cases hj:j<xs.length
 ·rw[List.getElem?_take_of_lt hj,Array.getElem?_toList]
  simp[putCells,hj,show j<cur.size by omega]
 ·rw[List.getElem?_take_eq_none (by omega),List.getElem?_eq_none (by omega)]
theorem Qmp {base cap n:Nat} {l':List (ByteArray×ByteArray)} {t:TypeId} (h:w.ownsRow base t 2 (.slice (some ⟨blk,0,none⟩) n cap) n (Zh l)) (hn:n=l.length) (hl:l'.length=l.length) :
  (sortWorldK Jt 2 w blk 0 m l'.toArray os).ownsRow base t 2 (.slice (some ⟨blk,0,none⟩) n cap) n (Zh l'):=by
 rcases h.2 with ⟨e,_⟩|⟨b,cp,cur,e,hbase,hb,r1,r2,r3,r4⟩
 ·cases e
 ·cases e
  refine⟨by rw[Y7,hl,hn],.inr ⟨_,_,_,rfl,hbase,Qre _ hb,r1,r2,by simp[putCells,r3],?_⟩⟩;rw[Qol];have h1:n*2=(Zh l').length:=by rw[Y7,hl,hn]
  rw[h1];refine Qzk cur (Zh l') ?_;rw[←h1,r3];exact Nat.mul_le_mul_right _ r1
theorem Qt6 {d d':Array (ByteArray×ByteArray)} (h:PermIn 0 d.size d d'):d'.toList.Perm d.toList:=by obtain⟨h1,_,h2⟩:=h;rw[show d'.extract 0 d.size=d' by rw[←h1];simp] at h2;simpa using h2
end
end Go.Proofs.YtefccfakhgdfbabGreatDoor
namespace Go.Proofs
open Go.Shelf
def Tryz.sortFile_ren:Go.Shelf.Ren:=⟨fun|6=>55|15=>109|14=>108|28=>161|29=>162|20=>153|21=>154|22=>155|23=>156|24=>157|25=>158|26=>159|27=>160|46=>185|47=>186|48=>187|49=>188|50=>189|57=>208|n=>n,fun|22=>39|24=>73|25=>122|3=>3|39=>199|0=>0|53=>171|55=>210|4=>4|46=>267|45=>266|50=>271|5=>5|9=>9|66=>304|70=>238|76=>324|77=>325|n=>n,fun|n=>n⟩
theorem Tryz.sortFile:Go.Proofs.SlLaysF0.n6 prog sortFile_ren:={
 mixed:=by kernel_rfl
 f6:=⟨f55.name,by decide,func55.trans (congrArg some (by kernel_rfl))⟩
 f14:=⟨f108.name,by decide,func108.trans (congrArg some (by kernel_rfl))⟩
 f15:=func109.trans (congrArg some (by kernel_rfl))
 f20:=⟨f153.name,by decide,func153.trans (congrArg some (by kernel_rfl))⟩
 f21:=⟨f154.name,by decide,func154.trans (congrArg some (by kernel_rfl))⟩
 f22:=⟨f155.name,by decide,func155.trans (congrArg some (by kernel_rfl))⟩
 f23:=⟨f156.name,by decide,func156.trans (congrArg some (by kernel_rfl))⟩
 f24:=⟨f157.name,by decide,func157.trans (congrArg some (by kernel_rfl))⟩
 f25:=⟨f158.name,by decide,func158.trans (congrArg some (by kernel_rfl))⟩
 f26:=⟨f159.name,by decide,func159.trans (congrArg some (by kernel_rfl))⟩
 f27:=⟨f160.name,by decide,func160.trans (congrArg some (by kernel_rfl))⟩
 f28:=func161.trans (congrArg some (by kernel_rfl))
 f29:=func162.trans (congrArg some (by kernel_rfl))
 f46:=⟨f185.name,by decide,func185.trans (congrArg some (by kernel_rfl))⟩
 f47:=func186.trans (congrArg some (by kernel_rfl))
 f48:=func187.trans (congrArg some (by kernel_rfl))
 f49:=⟨f188.name,by decide,func188.trans (congrArg some (by kernel_rfl))⟩
 f50:=⟨f189.name,by decide,func189.trans (congrArg some (by kernel_rfl))⟩
 f57:=⟨f208.name,by decide,func208.trans (congrArg some (by kernel_rfl))⟩
 t0:=underlying0
 a0:=isAgg0
 z0:=sizeOf0
 v0:=zeroValue0
 t3:=underlying3
 a3:=isAgg3
 z3:=sizeOf3
 v3:=zeroValue3
 t4:=underlying4
 a4:=isAgg4
 z4:=sizeOf4
 v4:=zeroValue4
 t5:=underlying5
 a5:=isAgg5
 z5:=sizeOf5
 v5:=zeroValue5
 t9:=underlying9
 a9:=isAgg9
 z9:=sizeOf9
 v9:=zeroValue9
 t22:=underlying39
 a22:=isAgg39
 z22:=sizeOf39
 v22:=zeroValue39
 t25:=underlying122
 a25:=isAgg122
 z25:=sizeOf122
 v25:=zeroValue122
 t39:=underlying199
 a39:=isAgg199
 z39:=sizeOf199
 v39:=zeroValue199
 t45:=underlying266
 a45:=isAgg266
 z45:=sizeOf266
 v45:=zeroValue266
 t46:=underlying267
 a46:=isAgg267
 z46:=sizeOf267
 v46:=zeroValue267
 t50:=underlying271
 a50:=isAgg271
 z50:=sizeOf271
 v50:=zeroValue271
 t53:=underlying171
 a53:=isAgg171
 z53:=sizeOf171
 v53:=zeroValue171
 t55:=underlying210
 a55:=isAgg210
 z55:=sizeOf210
 v55:=zeroValue210
 t66:=underlying304
 a66:=isAgg304
 z66:=sizeOf304
 v66:=zeroValue304
 t70:=underlying238
 a70:=isAgg238
 z70:=sizeOf238
 v70:=zeroValue238
 t76:=underlying324
 a76:=isAgg324
 z76:=sizeOf324
 v76:=zeroValue324
 t77:=underlying325
 a77:=isAgg325
 z77:=sizeOf325
 v77:=zeroValue325 }
end Go.Proofs
namespace Go.Proofs.YtefccfakhgdfbabGreatDoor
end Go.Proofs.YtefccfakhgdfbabGreatDoor
