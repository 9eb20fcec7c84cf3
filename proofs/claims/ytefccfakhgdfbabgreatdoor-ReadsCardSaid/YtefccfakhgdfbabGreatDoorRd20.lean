/- The walk of tiles' Client.Update. Conditions: the block is a client's over a Net; no step of the question goes out of its bounds. -/
import Derived.Test.YtefccfakhgdfbabGreatDoorRd19
set_option linter.unusedVariables false
set_option linter.unusedSimpArgs false
open Go.RowKit Go.Proofs.Tryz
set_option maxRecDepth 100000
set_option maxHeartbeats 4000000
namespace Go.Proofs.YtefccfakhgdfbabGreatDoor
section
def Qkj (w:World) (p:Pl) (m:Wm) (P:Nat) (gn:Nat) (vl vt:Value) (n:Nt) (x:Rdr) (e:Ending) (w':World):Prop:=
 e=.returned (.bool true)∧∃ c' n' qs',Qb6 w' gn { x with c:=c',qs:=qs',size:=c'.size }∧Yk w' gn p.gd vl vt n'∧WdIs w' p m∧Fr (fun k=>cnS x.gc x.gk x.mc gn vt x.qs k∨k=x.ra) w w'∧Sub w (cnS x.gc x.gk x.mc gn vt x.qs) (cnS x.gc x.gk x.mc gn vt qs')∧
  RdC m P c'∧Qbk n n'∧c'.cache.most=x.c.cache.most∧n'.fetches≤n.fetches+900000∧c'.cache.items.length≤x.c.cache.items.length+450000
theorem Qkv (F:Nat→Addr) (w:World) (p:Pl) (m:Wm) (L:Lg) (P:Nat) (gn:Nat) (vl vt:Value) (n:Nt) (x:Rdr) (h:Qb3 F w p m L P gn vl vt n x) (hs:x.size=x.c.size) (i:Int) (hi1 : -9223372036854775808≤i) (hi2:i≤9223372036854775807) (hr:Qi9 i (x.size+3)=0∨x.size+1≤Qi9 i (x.size+3)) :
  Calls prog 33 #[.pointer (some ⟨x.ra,0,none⟩),.pointer (some ⟨p.gw,0,none⟩),.pointer (some ⟨gn,0,none⟩),.int .i64 i] w (Qkj w p m P gn vl vt n x):=by
 have hsz:=h.csize;obtain⟨j,hj⟩:∃ j,j=Qi9 i (x.size+3):=⟨_,rfl⟩
 have hjl:=Qvz i (n:=x.size+3) (by omega);have hpk:=Qwp i (x.size+3) w hi1 hi2 (by omega) (by omega);rw[←hj] at hr hjl hpk;have k0:w.cell? ⟨x.ra,0,none⟩=some (.pointer (some ⟨x.pa,0,none⟩)):=Qd h.rd.cells 0 rfl;have k1:w.cell? ⟨x.ra,1,none⟩=some (.int .i64 x.size):=Qd h.rd.cells 1 rfl;have hc:=Qni h ((j:Int)-1) (by omega) (by omega);have hRe:Yp x.c n ((j:Int)-1)=((2,⟨#[]⟩),([],[]),x.c,n):=by unfold Yp;rw[if_pos (by omega)]
 rw[hRe] at hc;have H:=zh h;have HPK:=zh hpk;have HC:=zh hc;have HSZ:=zh hs;obtain⟨sz,hszz⟩:∃ sz,sz=x.size:=⟨_,rfl⟩
 rw[←hszz] at HPK k1 hr hjl;have HSS:=zh hszz;have hsb:sz≤8192:=by omega
 have hw3:IntKind.i64.wrap ((sz:Int)+3)=((sz+3:Nat):Int):=by rw[IntWalk.i64_in _ (by omega)];omega
 have hw1:IntKind.i64.wrap ((j:Int)-1)=(j:Int)-1:=IntWalk.i64_in _ (by omega);clear h hpk hc hs hj hRe hszz hi1 hi2 hsz
 go_enter func33,ntmps33
 go_upto_region 2 with (first
  | (go_at_call 46;refine HPK.o.mono ?_;rintro e w1 ⟨rfl,rfl⟩)
  | fail)
 have fin:∀ (w1 w2:World) (qs':List CEnt),ClIs w1 x.gc x.gk x.mc (.iface 44 (.pointer (some ⟨gn,0,none⟩))) x.c qs'→Yk w1 gn p.gd vl vt n→Fr (cnS x.gc x.gk x.mc gn vt x.qs) w w1→Sub w (cnS x.gc x.gk x.mc gn vt x.qs) (cnS x.gc x.gk x.mc gn vt qs')→Below w1.heap.size w1 w2→Qkj w p m P gn vl vt n x (.returned (.bool true)) w2:=fun w1 w2 qs' a b c d e=>by have h1:=(H.o.next c d a b H.o.rdc (Qbk.refl n) H.o.fetches H.o.items).below e;refine⟨rfl,x.c,n,qs',?_,h1.net,h1.wd,(c.trans (Fr.ofBelow e)).weak (fun _ _=>.inl),d,H.o.rdc,Qbk.refl n,rfl,by omega,by omega⟩;have h2:=h1.rd;rw[←HSZ.o];exact h2
 have FIN:=zh fin;clear fin
 go_upto_region 3 with (first
  | (go_at_call 22;refine HC.o.mono ?_;rintro e w1 ⟨nn,v1,rfl,_,hnn,hv1,qs1,hcl,hn1,hf1,hs1⟩;have HCL:=zh hcl;have HN1:=zh hn1;have HF1:=zh hf1;have HS1:=zh hs1;obtain⟨a1,c1,rfl⟩:=Zs hv1;have HNN:=zh hnn;clear hcl hn1 hf1 hs1 hv1 hnn)
  | fail)
 have hnn:nn=true:=by
  rcases HNN.o with e|e
  ·exact absurd (congrArg Prod.fst e) (by decide)
  ·exact e
 subst hnn;have hE1:=H.o.next HF1.o HS1.o HCL.o HN1.o H.o.rdc (Qbk.refl n) H.o.fetches H.o.items;have q1:w1.cell? ⟨x.ra,1,none⟩=some (.int .i64 sz):=by rw[HSS.o];exact Qd hE1.rd.cells 1 rfl
 have qlt:x.ra<w1.heap.size:=Qc hE1.rd.cells;clear hE1 k0 k1;rcases hr with rfl|hr
 ·have d1:((0:Nat):Int)-1<0:=by decide
  go_wp2;go_ret;exact FIN.o w1 _ qs1 HCL.o HN1.o HF1.o HS1.o (Qa w1 _)
 ·have d1:¬ (j:Int)-1<0:=by omega
  have d2:(sz:Int)≤(j:Int)-1:=by omega
  go_wp2;go_ret;exact FIN.o w1 _ qs1 HCL.o HN1.o HF1.o HS1.o (Qa w1 _)
end
section
theorem Qi7.fine {w:World} {gc gk mc gn gd:Nat} {vl vt:Value} {qs:List CEnt} {s:ByteArray} {ph:List Hsh} {c1:Cl} {n1:Nt} {e:Ending} {w':World} (h:Qi7 w gc gk mc gn gd vl vt qs ((0,⟨#[]⟩),(s.data.toList,ph),c1,n1) e w') {pl:List ByteArray} (hpl:pl=ph.map HS) :
  ∃ (nn:Bool) (a:Option Addr) (c:Nat),e=.returned (.tuple #[.string s,.bool nn,.slice a pl.length c,Jn 0 ⟨#[]⟩])∧(nn=true→s=⟨#[]⟩)∧Q5 w' w.heap.size (.slice a pl.length c) pl∧
   ∃ qs',ClIs w' gc gk mc (.iface 44 (.pointer (some ⟨gn,0,none⟩))) c1 qs'∧Yk w' gn gd vl vt n1∧Fr (cnS gc gk mc gn vt qs) w w'∧Sub w (cnS gc gk mc gn vt qs) (cnS gc gk mc gn vt qs'):=by
 obtain⟨nn,v',rfl,h1,_,h3,h4⟩:=h;dsimp only at h3;rw[←hpl] at h3;obtain⟨a,c,rfl⟩:=Zs h3;refine⟨nn,a,c,rfl,fun hn=>?_,h3,h4⟩
 have:=h1 hn
 dsimp only at this;exact ByteArray.ext (Array.toList_inj.1 this)
set_option maxHeartbeats 8000000 in
theorem Qzf (F:Nat→Addr) (w:World) (p:Pl) (m:Wm) (L:Lg) (P:Nat) (gn:Nat) (vl vt:Value) (n:Nt) (x:Rdr) (h:Qb3 F w p m L P gn vl vt n x) (hs:x.size=x.c.size) (hcap:x.c.cache.most=x.cap.toNat) (hfe:n.fetches+1000000<1000000000000) (hit:x.c.cache.items.length+1000000<100000000000)
  (i:Int) (hi1 : -9223372036854775808≤i) (hi2:i≤9223372036854775807) (t:Nat) (hr:Qi9 i (x.size+3)=t+1) (ht:t<x.size) :
  Calls prog 33 #[.pointer (some ⟨x.ra,0,none⟩),.pointer (some ⟨p.gw,0,none⟩),.pointer (some ⟨gn,0,none⟩),.int .i64 i] w (Qkj w p m P gn vl vt n x):=by
 have hsz:=h.csize;have hes:=h.few;have htc:=h.rdc.tr.size;rw[Q0] at htc;have hpk:=Qwp i (x.size+3) w hi1 hi2 (by omega) (by omega);rw[hr] at hpk;have k0:w.cell? ⟨x.ra,0,none⟩=some (.pointer (some ⟨x.pa,0,none⟩)):=Qd h.rd.cells 0 rfl;have k1:w.cell? ⟨x.ra,1,none⟩=some (.int .i64 x.size):=Qd h.rd.cells 1 rfl;have htl:t<x.c.size:=by omega
 have hll:m.es.length≤1048576:=by omega
 obtain⟨s,hst⟩:∃ s,m.es[t]?=some s:=⟨_,List.getElem?_eq_getElem (by omega)⟩
 have hc:=Qni h (t:Int) (by omega) (by omega);obtain⟨r1,hr1⟩:∃ r,r=Yp x.c n (t:Int):=⟨_,rfl⟩
 obtain⟨q1,q2,q3,q4,q5,q6,q7⟩:=Qu7 h.rdw hll h.rdc h.nf h.nl htl;obtain⟨z1,z2⟩:=Qo3 (c:=x.c) (n:=n) (i:=(t:Int)) hsz;have hg:(lists m.es).getD t []=s.data.toList:=by rw[List.getD_eq_getElem?_getD];simp[lists,hst]
 rw[hg] at q6;rw[←hr1] at hc q1 q2 q3 q4 q5 q6 q7 z1 z2;obtain⟨⟨tk,tp⟩,⟨bb,hh⟩,c1,n1⟩:=r1;dsimp only at q1 q2 q3 q4 q5 q6 q7 z1 z2;simp only[Prod.mk.injEq] at q6;obtain⟨rfl,rfl⟩:=q6;have hq5:tk=0∧tp=⟨#[]⟩:=by simpa [Qcb] using q5
 obtain⟨rfl,rfl⟩:=hq5;obtain⟨ph,hph⟩:∃ ph,ph=J4 ((lists m.es).take x.c.size) t:=⟨_,rfl⟩
 rw[←hph] at hc;obtain⟨pl,hpl⟩:∃ pl,pl=ph.map HS:=⟨_,rfl⟩
 have HPL:=zh hpl;clear hpl;have H:=zh h;have HPK:=zh hpk;have HC:=zh hc;have HSZ:=zh hs;have HPH:=zh hph;have HST:=zh hst;have HCAP:=zh hcap;have HQ1:=zh q1;have HQ2:=zh q2;have HQ3:=zh q3;have HQ4:=zh q4;have HQ7:=zh q7;have HZ1:=zh z1;have HZ2:=zh z2;have HR1:=zh hr1;have HFE:=zh hfe;have HIT:=zh hit;obtain⟨sz,hszz⟩:∃ sz,sz=x.size:=⟨_,rfl⟩
 rw[←hszz] at HPK k1 ht;have HSS:=zh hszz;have hsb:sz≤8192:=by omega
 have hw3:IntKind.i64.wrap ((sz:Int)+3)=((sz+3:Nat):Int):=by rw[IntWalk.i64_in _ (by omega)];omega
 have hw1:IntKind.i64.wrap (((t+1:Nat):Int)-1)=(t:Int):=by rw[IntWalk.i64_in _ (by omega)];omega
 clear h hpk hc hs hr hszz hi1 hi2 hsz q1 q2 q3 q4 q5 q7 z1 z2 hr1 hg hph hst hcap hfe hit htl htc hes hll
 go_enter func33,ntmps33
 go_upto_region 2 with (first
  | (go_at_call 46;refine HPK.o.mono ?_;rintro e w1 ⟨rfl,rfl⟩)
  | fail)
 go_upto_region 3 with (first
  | (go_at_call 22;refine HC.o.mono ?_;intro e w1 h1;obtain⟨nn,a1,c1',rfl,hnn,hv1,qs1,hcl,hn1,hf1,hs1⟩:=h1.fine HPL.o;have HCL:=zh hcl;have HN1:=zh hn1;have HF1:=zh hf1;have HS1:=zh hs1;have HV1:=zh hv1;have HNN:=zh hnn;clear h1 hcl hn1 hf1 hs1 hv1 hnn)
  | fail)
 have hE1:=H.o.next HF1.o HS1.o HCL.o HN1.o HQ2.o HQ1.o (by have:=HZ1.o;have:=HFE.o;omega) (by have:=HZ2.o;have:=HIT.o;omega);obtain⟨W1,hW1⟩:∃ W1,W1=w1.alloc (.cells #[.int .i64 0,.string ⟨#[]⟩] 29):=⟨_,rfl⟩
 have hb1:Below w1.heap.size w1 W1:=by rw[hW1];exact Qa w1 _
 have hT1:Z4 W1 w1.heap.size 0 ⟨#[]⟩:=by rw[hW1];exact heap_alloc_new w1 _
 rw[←hW1];have hE:=hE1.below hb1;have E1:=zh hE;have HLT1:=zh (fun k (hk:WdS p m k)=>hE1.wd.lt hk);have T1:=zh hT1;have B1:=zh hb1;have V1:=zh (Qn HV1.o hb1);have g1:W1.cell? ⟨x.ra,1,none⟩=some (.int .i64 sz):=by rw[HSS.o];exact Qd hE.rd.cells 1 rfl
 have d3:=hE.wd.heads.1.2.2.2.1;have hbr:x.ra<W1.heap.size:=Qc hE.rd.cells;have hbw:p.gw<W1.heap.size:=Qk d3;have hen:=Qt2 hE.wd.ents;have hs1:¬ (t:Int)<0:=by omega
 have hs2:¬ (sz:Int)≤(t:Int):=by omega
 have hlen:sz≤m.es.length:=by
  have:=H.o.rdc.tr.size
  rw[Q0,←HSZ.o,←HSS.o] at this;exact this
 have hss:∀ u∈m.es,u.size≤1048576:=fun u hu=>by
  have:=hE.rdw.short u.data.toList (List.mem_map.2 ⟨u,hu,rfl⟩)
  simp at this;omega
 have hstr:=Q5.at hE.wd.ents;have hpath:∀ (b c:Nat),p.en=.slice (some ⟨b,0,none⟩) m.es.length c→∀ W,Below W1.heap.size W1 W→Calls prog 62 #[.slice (some ⟨b,0,none⟩) sz c,.int .i64 t] W fun e w'=>∃ v',e=.returned v'∧Q5 w' W.heap.size v' pl∧Below W.heap.size W w':=fun b c he W hW=>by
  have h1:=hstr.below hW;rw[he] at h1;have hlt:(m.es.take sz).length=sz:=by rw[List.length_take];omega
  have:=Q0p sz (m.es.take sz) (.slice (some ⟨b,0,none⟩) sz c) t W (by omega) (Qkb h1 hlen) (by omega) (fun u hu=>hss u (List.mem_of_mem_take hu)) (by omega)
  rw[show J4 (lists (m.es.take sz)) t=ph by rw[Qjs,HPH.o,←HSZ.o,←HSS.o],←HPL.o] at this;exact this
 have HPA:=zh hpath;have HLEN:=zh hlen;clear hW1 hb1 hT1 hE hE1 hstr hpath hss k0 k1;rcases hen with ⟨he,hemp⟩|⟨b,cb,he,hcb⟩
 ·exfalso
  rw[hemp] at hlen;simp at hlen;omega
 have HPP:=zh (HPA.o b cb he);have HEN:=zh he;rw[he] at d3;obtain⟨ln,hln⟩:∃ ln,ln=m.es.length:=⟨_,rfl⟩
 have hsl:sz≤cb:=Nat.le_trans hlen hcb;rw[←hln] at d3 hcb hlen;have HLN:=zh hln;have g1d:W1.drew.cell? ⟨x.ra,1,none⟩=some (.int .i64 sz):=g1;have d3d:W1.drew.cell? ⟨p.gw,3,none⟩=some (.slice (some ⟨b,0,none⟩) ln cb):=d3;clear he hln
 go_upto_region 5 with fail
 go_region_held3 (fun w'=>w'.cell? ⟨x.ra,1,none⟩=some (.int .i64 sz)∧w'.cell? ⟨p.gw,3,none⟩=some (.slice (some ⟨b,0,none⟩) ln cb)) (first|with_reducible exact⟨g1,d3⟩|with_reducible exact⟨g1d,d3d⟩|with_reducible exact⟨m1,m3⟩|fail) (first
  | (go_at_call 62;refine (HPP.o _ (Ql W1)).mono ?_;rintro e w2 ⟨v2,rfl,hv2,hb2⟩;have HB2:=zh (show Below W1.heap.size W1 w2 from (Ql W1).trans hb2);have V2:=zh hv2;have m1:=(HB2.o.cell (p:=⟨x.ra,1,none⟩) hbr).trans g1;have m3:=(HB2.o.cell (p:=⟨p.gw,3,none⟩) hbw).trans d3;clear hb2 hv2)
  | fail)
 all_goals (
  rename_i hh9
  clear hh9 g1 g1d d3 d3d hs1 hs2
  have hE2:=E1.o.below HB2.o
  obtain⟨a2,c2,rfl⟩:=Zs V2.o
  have hphl:pl.length≤1048576:=by
   rw[HPL.o,List.length_map,HPH.o]
   have:=Qgy ((lists m.es).take x.c.size) t
   rw[List.length_take] at this
   have:=H.o.csize
   omega
  have hsm:Calls prog 61 #[.slice a1 pl.length c1',.slice a2 pl.length c2] w2 fun e w'=>e=.returned (.bool true)∧Below w2.heap.size w2 w':=by
   have:=Qg0 (.slice a1 pl.length c1') (.slice a2 pl.length c2) pl pl w2 (Q5.at (Qn V1.o HB2.o)) (Q5.at V2.o) hphl
   simpa using this
  have HSM:=zh hsm
  have E2:=zh hE2
  clear hE2 hsm
  go_upto_region 7 with (first|(go_at_call 61;refine HSM.o.mono ?_;rintro e w3 ⟨rfl,hb3⟩;have HB3:=zh hb3;clear hb3)|fail)
  have hE3:=E2.o.below HB3.o
  have hT3:=(T1.o.below HB2.o).below HB3.o
  obtain⟨t0,t1,tf0,tf1,tlt⟩:=hT3.facts
  have g3:=hE3.wd.heads.1.2.2.2.1
  have hq:w3.cell? ⟨b,t,none⟩=some (.string s):=by
   obtain⟨a9,c9,h9,_,hc9⟩:=Q5.at hE3.wd.ents
   rw[HEN.o] at h9
   cases h9
   obtain⟨b9,o9,e9,h10⟩:=hc9 t (.string s) (by rw[List.getElem?_map,HST.o];rfl)
   cases e9
   simpa using h10
  rw[HEN.o,←HLN.o] at g3
  have hti:(t:Int)<(ln:Int):=by omega
  have hti0:(0:Int)≤(t:Int):=by omega
  have htn:t<ln:=by omega
  have HE3:=zh hE3
  have HT3:=zh hT3
  clear hE3 hT3
  go_cut [99] from 75 to 98 (fun s99 wx=>s99=.bool false∧Aside (wx=w3))
  case first=>
   cases nn with
   | false=>
    go_wp2_with fail
    go_meet
    exact⟨rfl,rfl⟩
   | true=>
    obtain rfl:=HNN.o rfl
    go_wp2_with fail
    go_meet
    exact⟨rfl,rfl⟩
  case rest=>
   obtain⟨rfl,hwc⟩:=hcut
   obtain rfl:wc=w3:=hwc
   have hE3:=HE3.o
   have hll:m.es.length≤1048576:=by have:=hE3.few;omega
   have k0:wc.cell? ⟨x.ra,0,none⟩=some (.pointer (some ⟨x.pa,0,none⟩)):=Qd hE3.rd.cells 0 rfl
   have f3:wc.cell? ⟨gn,3,none⟩=some (.int .i64 n1.fetches):=hE3.net.heads.1.2.2.2
   have hl1:t<c1.size:=by rw[HQ3.o,←HSZ.o,←HSS.o];exact ht
   have hc2:=Qni hE3 (t:Int) (by omega) (by omega)
   obtain⟨r2,hr2⟩:∃ r,r=Yp c1 n1 (t:Int):=⟨_,rfl⟩
   obtain⟨y1,y2,y3,y4,y5,y6,_⟩:=Qu7 hE3.rdw hll HQ2.o hE3.nf hE3.nl hl1
   obtain⟨z3,z4⟩:=Qo3 (c:=c1) (n:=n1) (i:=(t:Int)) hE3.csize
   have hq7:=HQ7.o
   have hg:(lists m.es).getD t []=s.data.toList:=by rw[List.getD_eq_getElem?_getD];simp[lists,HST.o]
   rw[hg,HQ3.o,←HPH.o] at y6
   dsimp only at hc2
   rw[←hr2] at hc2 y1 y2 y3 y4 y5 y6 z3 z4 hq7
   obtain⟨⟨tk2,tp2⟩,⟨bb2,hh2⟩,c4,n4⟩:=r2
   dsimp only at y1 y2 y3 y4 y5 y6 z3 z4 hq7
   simp only[Prod.mk.injEq] at y6
   obtain⟨rfl,rfl⟩:=y6
   have hy5:tk2=0∧tp2=⟨#[]⟩:=by simpa [Qcb] using y5
   obtain⟨rfl,rfl⟩:=hy5
   have HC2:=zh hc2
   have HY1:=zh y1
   have HY2:=zh y2
   have HY3:=zh y3
   have HY4:=zh y4
   have HZ3:=zh z3
   have HZ4:=zh z4
   have HY7:=zh hq7
   clear hE3 hll hl1 hc2 hr2 y1 y2 y3 y4 y5 z3 z4 hq7 hg t0 t1 tf0 tf1 tlt
   go_upto_region 10 with fail
   go_upto_region 11 with (first
    | (go_at_call 22;refine HC2.o.mono ?_;intro e w4 h4;obtain⟨nn2,a3,c3,rfl,hnn2,hv4,qs4,hcl4,hn4,hf4,hs4⟩:=h4.fine HPL.o;have HCL4:=zh hcl4;have HN4:=zh hn4;have HF4:=zh hf4;have HS4:=zh hs4;have HV4:=zh hv4;have HNN4:=zh hnn2;have HT4:=zh (HT3.o.kept hf4 HE3.o.kinds (by decide));obtain⟨t0,t1,tf0,tf1,tlt⟩:=HT4.o.facts;clear h4 hcl4 hn4 hf4 hs4 hv4 hnn2)
    | fail)
   obtain⟨W4,hW4⟩:∃ W,W=(w4.setCell ⟨w1.heap.size,0,none⟩ (.int .i64 0)).setCell ⟨w1.heap.size,1,none⟩ (.string ⟨#[]⟩):=⟨_,rfl⟩
   have hts:=Qdv (m:=0) (t:=⟨#[]⟩) HT4.o
   rw[←hW4] at hts
   rw[←hW4]
   have hkt:=Qw HT4.o
   have hE4:=HE3.o.next HF4.o HS4.o HCL4.o HN4.o HY2.o HY1.o (by have:=HZ1.o;have:=HZ3.o;have:=HFE.o;omega) (by have:=HZ2.o;have:=HZ4.o;have:=HIT.o;omega)
   have hwd4:WdIs W4 p m:=hE4.wd.fr hts.2 (fun k hk e=>by have:=HLT1.o k hk;omega) fun k C fz hk e=>Zp hk HT4.o (by decide) e
   have hnt4:Yk W4 gn p.gd vl vt n4:=Yq hE4.net hts.2 hkt (by decide) (by decide) (by decide)
   have hcl4:ClIs W4 x.gc x.gk x.mc (.iface 44 (.pointer (some ⟨gn,0,none⟩))) c4 qs4:=HCL4.o.kept hts.2 hkt (fun k hk=>⟨_,_,_,(show w4.heap[k]?=_ from hk ▸ HT4.o)⟩) (by decide) (by decide) (by decide) (by decide)
   have hrd4:=Ze hE4.rd.cells hts.2 hkt (by decide)
   have hpc4:=Ze hE4.rd.pc hts.2 hkt (by decide)
   obtain⟨t0,t1,tf0,tf1,tlt⟩:=hts.1.facts
   have f4:W4.cell? ⟨gn,3,none⟩=some (.int .i64 n4.fetches):=hnt4.heads.1.2.2.2
   have g4:=hwd4.heads.1.2.2.2.1
   rw[HEN.o,←HLN.o] at g4
   have r4:W4.cell? ⟨x.ra,1,none⟩=some (.int .i64 sz):=by rw[HSS.o];exact Qd hrd4 1 rfl
   have r5:W4.cell? ⟨x.ra,2,none⟩=some (.int .i64 x.cap):=Qd hrd4 2 rfl
   have q4:W4.cell? ⟨b,t,none⟩=some (.string s):=by
    obtain⟨a9,c9,h9,_,hc9⟩:=Q5.at hwd4.ents
    rw[HEN.o] at h9
    cases h9
    obtain⟨b9,o9,e9,h10⟩:=hc9 t (.string s) (by rw[List.getElem?_map,HST.o];rfl)
    cases e9
    simpa using h10
   have hsm4:Calls prog 61 #[.slice a3 pl.length c3,.slice a2 pl.length c2] W4 fun e w'=>e=.returned (.bool true)∧Below W4.heap.size W4 w':=by
    have:=Qg0 (.slice a3 pl.length c3) (.slice a2 pl.length c2) pl pl W4 (Q5.at (Zi HV4.o hts.2 hkt (by decide))) (Q5.at (Zi (Zi (Qn V2.o HB3.o) HF4.o HE3.o.kinds (by decide)) hts.2 hkt (by decide))) hphl
    simpa using this
   obtain⟨df,hdf⟩:∃ df:Int,df=(n4.fetches:Int)-(n1.fetches:Int):=⟨_,rfl⟩
   have hwf:IntKind.i64.wrap ((n4.fetches:Int)-(n1.fetches:Int))=df:=by
    rw[hdf]
    exact IntWalk.i64_in _ (by have:=hE4.fetches;have:=HE3.o.fetches;omega)
   have fin:∀ w6,Below W4.heap.size W4 w6→Qkj w p m P gn vl vt n x (.returned (.bool true)) w6:=fun w6 hb=>by
    have hw1:w.heap.size≤w1.heap.size:=HF1.o.size
    have hw3:w1.heap.size≤wc.heap.size:=Nat.le_trans B1.o.size (Nat.le_trans HB2.o.size HB3.o.size)
    have hbb:Below w1.heap.size w1 wc:=B1.o.trans ((HB2.o.trans (HB3.o.mono HB2.o.size)).mono B1.o.size)
    have hf1c:Fr (cnS x.gc x.gk x.mc gn vt x.qs) w wc:=HF1.o.trans (Fr.ofBelow hbb)
    have hs1c:Sub w (cnS x.gc x.gk x.mc gn vt x.qs) (cnS x.gc x.gk x.mc gn vt qs1):=HS1.o
    have hf14:Fr (cnS x.gc x.gk x.mc gn vt x.qs) w w4:=Fr.sub hf1c HF4.o hs1c
    have hft:Fr (cnS x.gc x.gk x.mc gn vt x.qs) w w6:=(hf14.step hts.2 fun k h1 h2=>by omega).trans (Fr.ofBelow hb)
    refine⟨rfl,c4,n4,qs4,⟨?_,(hb.block _ (Qc hpc4)).trans hpc4,hcl4.below hb⟩,hnt4.below hb,hwd4.below hb,hft.weak fun _ _=>.inl,fun k hk=>?_,HY2.o,HQ1.o.trans HY1.o,HY4.o.trans HQ4.o,by have:=HZ1.o;have:=HZ3.o;omega,by have:=HZ2.o;have:=HZ4.o;omega⟩
    ·have e:c4.size=x.size:=by rw[HY3.o,HQ3.o,←HSZ.o]
     rw[e]
     exact (hb.block _ (Qc hrd4)).trans hrd4
    ·rcases HS4.o k hk with e|e
     ·exact hs1c k e
     ·exact .inr (by omega)
   have HSM4:=zh hsm4
   have FIN:=zh fin
   have HDF:=zh hdf
   have HTS:=zh hts.1
   have HWD4:=zh hwd4
   have HRD4:=zh hrd4
   clear hW4 hts hkt hE4 hwd4 hnt4 hcl4 hrd4 hpc4 hsm4 fin hdf t0 t1 tf0 tf1 tlt hq g3 k0 f3 m1 m3
   go_upto_region 13 with (first|(go_at_call 61;refine HSM4.o.mono ?_;rintro e w5 ⟨rfl,hb5⟩;have HB5:=zh hb5;obtain⟨t0,t1,tf0,tf1,tlt⟩:=(HTS.o.below hb5).facts;have g5:=(hb5.cell (p:=⟨p.gw,3,none⟩) (Qk g4)).trans g4;have q5:=(hb5.cell (p:=⟨b,t,none⟩) (Qk q4)).trans q4;have r6:=(hb5.cell (p:=⟨x.ra,1,none⟩) (Qk r4)).trans r4;have r7:=(hb5.cell (p:=⟨x.ra,2,none⟩) (Qk r5)).trans r5;clear hb5)|fail)
   go_cut [148] from 124 to 147 (fun s148 wx=>s148=.bool false∧Aside (wx=w5))
   case first=>
    cases nn2 with
    | false=>
     go_wp2_with fail
     go_meet
     exact⟨rfl,rfl⟩
    | true=>
     obtain rfl:=HNN4.o rfl
     go_wp2_with fail
     go_meet
     exact⟨rfl,rfl⟩
   case rest=>
    obtain⟨rfl,hwc5⟩:=hcut
    obtain rfl:wc=w5:=hwc5
    have hA:x.cap<16∨(¬ x.cap<16∧(256:Int)<(sz:Int))∨(¬ x.cap<16∧¬ (256:Int)<(sz:Int)∧df=0):=by
     have h1:=HY7.o.1
     rw[HCAP.o,←HSZ.o,←HSS.o] at h1
     have:=HDF.o
     omega
    have hB:0<x.cap∨(¬ 0<x.cap∧0<df):=by
     have h1:=HY7.o.2.1
     rw[HCAP.o] at h1
     have:=HDF.o
     omega
    have hC:1<x.cap∨(¬ 1<x.cap∧(sz:Int)<2)∨(¬ 1<x.cap∧¬ (sz:Int)<2∧0<df):=by
     have h1:=HY7.o.2.2
     rw[HCAP.o,←HSZ.o,←HSS.o] at h1
     have:=HDF.o
     omega
    rename_i K2 a2
    refine a2 _ _ ?_
    refine wp_cond_false rfl ?_
    have HFIN:=zh (FIN.o _ HB5.o)
    clear t0 t1 tf0 tf1 tlt g5 q5 f4 g4 q4 r4 r5 hti hti0 htn hsl hcb hlen hbr hbw hphl
    rcases hA with hA|⟨hA1,hA⟩|⟨hA1,hA2,rfl⟩
    all_goals (
     rcases hB with hB|⟨hB1,hB⟩
     all_goals (
      rcases hC with hC|⟨hC1,hC⟩|⟨hC1,hC2,hC⟩
      all_goals (
       first
       | (exfalso;omega)
       | (
         go_wp2
         go_ret
         exact HFIN.o)))))
end
section
structure In14 (last x y n1 n2:Hsh) (g:Nat) (ok:Value) (W:World) (b:Nat→Bool) (a:Act) (w:World):Prop where
 d:a.defers = []
 s:103≤a.tmps.size
 t8:a.tmps.getD 8 undef=.pointer (some ⟨g,0,none⟩)
 t9:a.tmps.getD 9 undef=.pointer (some ⟨g+1,0,none⟩)
 t11:a.tmps.getD 11 undef=.pointer (some ⟨g+1+1,0,none⟩)
 t10:a.tmps.getD 10 undef=ok
 r0:b 0=true→a.tmps.getD 96 undef=.agg (h8 last)
 r1:b 1=true→a.tmps.getD 97 undef=.agg (h8 x)
 r2:b 2=true→a.tmps.getD 98 undef=.agg (h8 n1)
 r3:b 3=true→a.tmps.getD 99 undef=.agg (h8 last)
 r4:b 4=true→a.tmps.getD 100 undef=.agg (h8 y)
 r5:b 5=true→a.tmps.getD 101 undef=.agg (h8 n2)
 r6:b 6=true→a.tmps.getD 102 undef=ok
 h11:Qu w (g+1+1) last
 e8:b 7=false→Qu w g x
 f8:b 7=true→Qu w g n1
 e9:b 8=false→Qu w (g+1) y
 f9:b 8=true→Qu w (g+1) n2
 bel:Below g W w
 c7:b 7=true→b 1=true
 c8:b 8=true→b 4=true
theorem draw14 (last x y n1 n2:Hsh) (g:Nat) (ok:Value) (W:World) {ops:Array Oper} {Q:Exit→Act→World→Prop}
  (r:∀ b:Nat→Bool,∀ i∈Region.ready .any ops (bs b),i<10∧b i=false∧(i=2→b 0=true∧b 1=true)∧(i=5→b 3=true∧b 4=true)∧(i=7→b 1=true∧b 2=true)∧(i=8→b 4=true∧b 5=true)∧(i=9→b 6=true))
  (r0:∀ b:Nat→Bool,left b=0→Region.ready .any ops (bs b) = []) (r1:∀ (b:Nat→Bool) (f:Nat),f+1=left b→Region.ready .any ops (bs b)≠[])
  (o0:∃ (o:Oper),ops[0]?=some o∧o.guard=none∧o.dst=some 96∧o.op=.load 109 (.tmp 11))
  (o1:∃ (o:Oper),ops[1]?=some o∧o.guard=none∧o.dst=some 97∧o.op=.load 109 (.tmp 8))
  (o2:∃ (o:Oper) (ts:Array TypeId),ops[2]?=some o∧o.guard=none∧o.dst=some 98∧o.op=.call { callee:=.value (.func 129),args:=#[.tmp 96,.tmp 97],argTypes:=ts })
  (o3:∃ (o:Oper),ops[3]?=some o∧o.guard=none∧o.dst=some 99∧o.op=.load 109 (.tmp 11))
  (o4:∃ (o:Oper),ops[4]?=some o∧o.guard=none∧o.dst=some 100∧o.op=.load 109 (.tmp 9))
  (o5:∃ (o:Oper) (ts:Array TypeId),ops[5]?=some o∧o.guard=none∧o.dst=some 101∧o.op=.call { callee:=.value (.func 129),args:=#[.tmp 99,.tmp 100],argTypes:=ts })
  (o6:∃ (o:Oper),ops[6]?=some o∧o.guard=none∧o.dst=some 102∧o.op=.move (.tmp 10))
  (o7:∃ (o:Oper),ops[7]?=some o∧o.guard=none∧o.dst=none∧o.op=.store 109 (.tmp 8) (.tmp 98))
  (o8:∃ (o:Oper),ops[8]?=some o∧o.guard=none∧o.dst=none∧o.op=.store 109 (.tmp 9) (.tmp 101))
  (o9:∃ (o:Oper),ops[9]?=some o∧o.guard=none∧o.dst=some 10∧o.op=.assign (.tmp 102))
  (hgW:g≤W.heap.size) (hcf:∀ args w,(callFunc 129 args).run prog w=.ok (.enter 129 args) w) (hn1:∀ w,Calls prog 129 #[.agg (h8 last),.agg (h8 x)] w fun e w'=>e=.returned (.agg (h8 n1))∧Below w.heap.size w w') (hn2:∀ w,Calls prog 129 #[.agg (h8 last),.agg (h8 y)] w fun e w'=>e=.returned (.agg (h8 n2))∧Below w.heap.size w w')
  (hQ:∀ b a w,In14 last x y n1 n2 g ok W b a w→b 7=true→b 8=true→Q .normal a w) :
  ∀ a w,In14 last x y n1 n2 g ok W (fun _=>false) a w→wpAny prog .any ops Q 10 (Array.replicate 10 false) a w:=by
 intro a w h;refine Qnl (fun f L a w=>∃ b,L=bs b∧f=left b∧In14 last x y n1 n2 g ok W b a w) ?_ ?_ 10 _ a w ⟨fun _=>false,rfl,rfl,h⟩
 ·rintro L a w ⟨b,rfl,hf,h⟩
  refine⟨r0 b hf.symm,hQ b a w h ?_ ?_⟩
  ·rcases hh:b 7 with _|_
   ·exfalso;simp only[left,hh,Bool.not_false,Bool.toNat_true] at hf;omega
   ·rfl
  ·rcases hh:b 8 with _|_
   ·exfalso;simp only[left,hh,Bool.not_false,Bool.toNat_true] at hf;omega
   ·rfl
 ·rintro f L a w ⟨b,rfl,hf,h⟩
  refine⟨r1 b f hf,fun i hi=>?_⟩;obtain⟨hi10,hbi,d2,d5,d7,d8,d9⟩:=r b i hi;have hL:=Q5g b i hi10;have hF:=Qwl b i hi10 hbi f hf
  have:i=0∨i=1∨i=2∨i=3∨i=4∨i=5∨i=6∨i=7∨i=8∨i=9:=by omega
  rcases this with rfl|rfl|rfl|rfl|rfl|rfl|rfl|rfl|rfl|rfl
  ·obtain⟨o,h1,h2,h3,h4⟩:=o0
   refine Ju h1 h2 (wp_load_row _ _ h4 _ h.t11 _ (h8 last) _ _ h.h11 underlying109 rfl (by rw[info8,h8_size]) ⟨upd b 0,hL,hF,?_⟩);rw[h3];exact { h11:=h.h11,e8:=h.e8,f8:=h.f8,e9:=h.e9,f9:=h.f9,bel:=h.bel,c7:=h.c7,c8:=h.c8,d:=Yd.trans h.d,s:=by rw[Jc];exact h.s,t8:=Qb h.t8 (by decide),t9:=Qb h.t9 (by decide),t11:=Qb h.t11 (by decide),t10:=Qb h.t10 (by decide),r0:=fun _=>Q7 (by have:=h.s;omega),r1:=fun hb=>Qb (h.r1 hb) (by decide),r2:=fun hb=>Qb (h.r2 hb) (by decide),r3:=fun hb=>Qb (h.r3 hb) (by decide),r4:=fun hb=>Qb (h.r4 hb) (by decide),r5:=fun hb=>Qb (h.r5 hb) (by decide),r6:=fun hb=>Qb (h.r6 hb) (by decide) }
  ·obtain⟨o,h1,h2,h3,h4⟩:=o1
   have n7:b 7=false:=by rcases hh:b 7 with _|_;rfl;exact absurd (h.c7 hh) (by rw[hbi];decide)
   refine Ju h1 h2 (wp_load_row _ _ h4 _ h.t8 _ (h8 x) _ _ (h.e8 n7) underlying109 rfl (by rw[info8,h8_size]) ⟨upd b 1,hL,hF,?_⟩);rw[h3];exact { h11:=h.h11,e8:=h.e8,f8:=h.f8,e9:=h.e9,f9:=h.f9,bel:=h.bel,c7:=fun _=>rfl,c8:=h.c8,d:=Yd.trans h.d,s:=by rw[Jc];exact h.s,t8:=Qb h.t8 (by decide),t9:=Qb h.t9 (by decide),t11:=Qb h.t11 (by decide),t10:=Qb h.t10 (by decide),r0:=fun hb=>Qb (h.r0 hb) (by decide),r1:=fun _=>Q7 (by have:=h.s;omega),r2:=fun hb=>Qb (h.r2 hb) (by decide),r3:=fun hb=>Qb (h.r3 hb) (by decide),r4:=fun hb=>Qb (h.r4 hb) (by decide),r5:=fun hb=>Qb (h.r5 hb) (by decide),r6:=fun hb=>Qb (h.r6 hb) (by decide) }
  ·obtain⟨o,ts,h1,h2,h3,h4⟩:=o2
   have dd:=d2 rfl;refine Ju h1 h2 (Qvs _ _ _ _ h4 hcf ?_);rw[show a.eval (.tmp 96)=.agg (h8 last) from h.r0 dd.1,show a.eval (.tmp 97)=.agg (h8 x) from h.r1 dd.2];refine (hn1 w).mono ?_;rintro e w' ⟨rfl,hb⟩;refine⟨_,rfl,upd b 2,hL,hF,?_⟩;rw[h3];exact { h11:=Qg h.h11 hb,e8:=fun k=>Qg (h.e8 k) hb,f8:=fun k=>Qg (h.f8 k) hb,e9:=fun k=>Qg (h.e9 k) hb,f9:=fun k=>Qg (h.f9 k) hb,bel:=h.bel.trans (hb.mono (Nat.le_trans hgW h.bel.size)),c7:=h.c7,c8:=h.c8,d:=Yd.trans h.d,s:=by rw[Jc];exact h.s,t8:=Qb h.t8 (by decide),t9:=Qb h.t9 (by decide),t11:=Qb h.t11 (by decide),t10:=Qb h.t10 (by decide),r0:=fun hb=>Qb (h.r0 hb) (by decide),r1:=fun hb=>Qb (h.r1 hb) (by decide),r2:=fun _=>Q7 (by have:=h.s;omega),r3:=fun hb=>Qb (h.r3 hb) (by decide),r4:=fun hb=>Qb (h.r4 hb) (by decide),r5:=fun hb=>Qb (h.r5 hb) (by decide),r6:=fun hb=>Qb (h.r6 hb) (by decide) }
  ·obtain⟨o,h1,h2,h3,h4⟩:=o3
   refine Ju h1 h2 (wp_load_row _ _ h4 _ h.t11 _ (h8 last) _ _ h.h11 underlying109 rfl (by rw[info8,h8_size]) ⟨upd b 3,hL,hF,?_⟩);rw[h3];exact { h11:=h.h11,e8:=h.e8,f8:=h.f8,e9:=h.e9,f9:=h.f9,bel:=h.bel,c7:=h.c7,c8:=h.c8,d:=Yd.trans h.d,s:=by rw[Jc];exact h.s,t8:=Qb h.t8 (by decide),t9:=Qb h.t9 (by decide),t11:=Qb h.t11 (by decide),t10:=Qb h.t10 (by decide),r0:=fun hb=>Qb (h.r0 hb) (by decide),r1:=fun hb=>Qb (h.r1 hb) (by decide),r2:=fun hb=>Qb (h.r2 hb) (by decide),r3:=fun _=>Q7 (by have:=h.s;omega),r4:=fun hb=>Qb (h.r4 hb) (by decide),r5:=fun hb=>Qb (h.r5 hb) (by decide),r6:=fun hb=>Qb (h.r6 hb) (by decide) }
  ·obtain⟨o,h1,h2,h3,h4⟩:=o4
   have n8:b 8=false:=by rcases hh:b 8 with _|_;rfl;exact absurd (h.c8 hh) (by rw[hbi];decide)
   refine Ju h1 h2 (wp_load_row _ _ h4 _ h.t9 _ (h8 y) _ _ (h.e9 n8) underlying109 rfl (by rw[info8,h8_size]) ⟨upd b 4,hL,hF,?_⟩);rw[h3];exact { h11:=h.h11,e8:=h.e8,f8:=h.f8,e9:=h.e9,f9:=h.f9,bel:=h.bel,c7:=h.c7,c8:=fun _=>rfl,d:=Yd.trans h.d,s:=by rw[Jc];exact h.s,t8:=Qb h.t8 (by decide),t9:=Qb h.t9 (by decide),t11:=Qb h.t11 (by decide),t10:=Qb h.t10 (by decide),r0:=fun hb=>Qb (h.r0 hb) (by decide),r1:=fun hb=>Qb (h.r1 hb) (by decide),r2:=fun hb=>Qb (h.r2 hb) (by decide),r3:=fun hb=>Qb (h.r3 hb) (by decide),r4:=fun _=>Q7 (by have:=h.s;omega),r5:=fun hb=>Qb (h.r5 hb) (by decide),r6:=fun hb=>Qb (h.r6 hb) (by decide) }
  ·obtain⟨o,ts,h1,h2,h3,h4⟩:=o5
   have dd:=d5 rfl;refine Ju h1 h2 (Qvs _ _ _ _ h4 hcf ?_);rw[show a.eval (.tmp 99)=.agg (h8 last) from h.r3 dd.1,show a.eval (.tmp 100)=.agg (h8 y) from h.r4 dd.2];refine (hn2 w).mono ?_;rintro e w' ⟨rfl,hb⟩;refine⟨_,rfl,upd b 5,hL,hF,?_⟩;rw[h3];exact { h11:=Qg h.h11 hb,e8:=fun k=>Qg (h.e8 k) hb,f8:=fun k=>Qg (h.f8 k) hb,e9:=fun k=>Qg (h.e9 k) hb,f9:=fun k=>Qg (h.f9 k) hb,bel:=h.bel.trans (hb.mono (Nat.le_trans hgW h.bel.size)),c7:=h.c7,c8:=h.c8,d:=Yd.trans h.d,s:=by rw[Jc];exact h.s,t8:=Qb h.t8 (by decide),t9:=Qb h.t9 (by decide),t11:=Qb h.t11 (by decide),t10:=Qb h.t10 (by decide),r0:=fun hb=>Qb (h.r0 hb) (by decide),r1:=fun hb=>Qb (h.r1 hb) (by decide),r2:=fun hb=>Qb (h.r2 hb) (by decide),r3:=fun hb=>Qb (h.r3 hb) (by decide),r4:=fun hb=>Qb (h.r4 hb) (by decide),r5:=fun _=>Q7 (by have:=h.s;omega),r6:=fun hb=>Qb (h.r6 hb) (by decide) }
  ·obtain⟨o,h1,h2,h3,h4⟩:=o6
   refine Ju h1 h2 (BigFrame.wp_move _ h4 ⟨upd b 6,hL,hF,?_⟩);rw[h3,show a.eval (.tmp 10)=ok from h.t10];exact { h11:=h.h11,e8:=h.e8,f8:=h.f8,e9:=h.e9,f9:=h.f9,bel:=h.bel,c7:=h.c7,c8:=h.c8,d:=Yd.trans h.d,s:=by rw[Jc];exact h.s,t8:=Qb h.t8 (by decide),t9:=Qb h.t9 (by decide),t11:=Qb h.t11 (by decide),t10:=Qb h.t10 (by decide),r0:=fun hb=>Qb (h.r0 hb) (by decide),r1:=fun hb=>Qb (h.r1 hb) (by decide),r2:=fun hb=>Qb (h.r2 hb) (by decide),r3:=fun hb=>Qb (h.r3 hb) (by decide),r4:=fun hb=>Qb (h.r4 hb) (by decide),r5:=fun hb=>Qb (h.r5 hb) (by decide),r6:=fun _=>Q7 (by have:=h.s;omega) }
  ·obtain⟨o,h1,h2,h3,h4⟩:=o7
   have dd:=d7 rfl;refine Ju h1 h2 (wp_store_row _ _ _ h4 _ (h8 n1) h.t8 (h.r2 dd.2) _ _ (h.e8 hbi) (by rw[info8,h8_size]) (by simp) (Qoz n1) ⟨upd b 7,hL,hF,?_⟩);rw[h3];exact { h11:=Qi h.h11 _ (by omega),e8:=fun k=>absurd (show true=false from k) (by decide),f8:=fun _=>Qy (h.e8 hbi) _,e9:=fun k=>Qi (h.e9 k) _ (by omega),f9:=fun k=>Qi (h.f9 k) _ (by omega),bel:=below_setRow h.bel (by omega) _,c7:=fun _=>dd.1,c8:=h.c8,d:=h.d,s:=h.s,t8:=h.t8,t9:=h.t9,t11:=h.t11,t10:=h.t10,r0:=h.r0,r1:=h.r1,r2:=h.r2,r3:=h.r3,r4:=h.r4,r5:=h.r5,r6:=h.r6 }
  ·obtain⟨o,h1,h2,h3,h4⟩:=o8
   have dd:=d8 rfl;refine Ju h1 h2 (wp_store_row _ _ _ h4 _ (h8 n2) h.t9 (h.r5 dd.2) _ _ (h.e9 hbi) (by rw[info8,h8_size]) (by simp) (Qoz n2) ⟨upd b 8,hL,hF,?_⟩);rw[h3];exact { h11:=Qi h.h11 _ (by omega),e8:=fun k=>Qi (h.e8 k) _ (by omega),f8:=fun k=>Qi (h.f8 k) _ (by omega),e9:=fun k=>absurd (show true=false from k) (by decide),f9:=fun _=>Qy (h.e9 hbi) _,bel:=below_setRow h.bel (by omega) _,c7:=h.c7,c8:=fun _=>dd.1,d:=h.d,s:=h.s,t8:=h.t8,t9:=h.t9,t11:=h.t11,t10:=h.t10,r0:=h.r0,r1:=h.r1,r2:=h.r2,r3:=h.r3,r4:=h.r4,r5:=h.r5,r6:=h.r6 }
  ·obtain⟨o,h1,h2,h3,h4⟩:=o9
   refine Ju h1 h2 (BigFrame.wp_assign _ h4 ⟨upd b 9,hL,hF,?_⟩);rw[h3,show a.eval (.tmp 102)=ok from h.r6 (d9 rfl)];exact { h11:=h.h11,e8:=h.e8,f8:=h.f8,e9:=h.e9,f9:=h.f9,bel:=h.bel,c7:=h.c7,c8:=h.c8,d:=Yd.trans h.d,s:=by rw[Jc];exact h.s,t8:=Qb h.t8 (by decide),t9:=Qb h.t9 (by decide),t11:=Qb h.t11 (by decide),t10:=Q7 (by have:=h.s;omega),r0:=fun hb=>Qb (h.r0 hb) (by decide),r1:=fun hb=>Qb (h.r1 hb) (by decide),r2:=fun hb=>Qb (h.r2 hb) (by decide),r3:=fun hb=>Qb (h.r3 hb) (by decide),r4:=fun hb=>Qb (h.r4 hb) (by decide),r5:=fun hb=>Qb (h.r5 hb) (by decide),r6:=fun hb=>Qb (h.r6 hb) (by decide) }
end
section
section
attribute [local go_sem] h8_0 h8_1 h8_2 h8_3 h8_4 h8_5 h8_6 h8_7 Qbg h8_size Qci Qax
theorem Qmv.below {w w':World} {v:Value} {o:Option Hsh} (h:Qmv w v o) (hb:Below w.heap.size w w'):Qmv w' v o:=by
 rcases h with h|⟨g,x,h1,h2,h3⟩
 ·exact .inl h
 ·exact .inr ⟨g,x,h1,h2,Qg h3 hb⟩
set_option maxHeartbeats 16000000 in
theorem Qxq (l:Nat):∀ (p:List Hsh) (m n:Int) (whole:Option Hsh) (v pv:Value) (w:World),p.length=l→Qbs w v p→Qmv w pv whole→1≤m→m≤n→n≤9223372036854775807→l≤1048576→
  Calls prog 144 #[.int .i64 m,.int .i64 n,v,pv] w (Qei m.toNat n.toNat whole p w):=by
 induction l with
 | zero=>
  intro p m n whole v pv w hp h hw h1 hmn hn hl;obtain rfl:p = []:=List.eq_nil_of_length_eq_zero hp;by_cases he:m=n
  ·subst he
   rcases id hw with ⟨rfl,rfl⟩|⟨g,x,rfl,rfl,hh⟩
   ·exact Qmr m m _ none v [] w h hw hmn (.inl ⟨rfl,rfl,by simp⟩) h1
   ·exact Qki m g x v [] w h hh
  ·exact Qmr m n pv whole v [] w h hw hmn (.inr ⟨he,rfl⟩) h1
 | succ l ih=>
  intro p m n whole v pv w hp h hw h1 hmn hn hl;by_cases he:m=n
  ·subst he
   rcases id hw with ⟨rfl,rfl⟩|⟨g,x,rfl,rfl,hh⟩
   ·by_cases hp1:p.length=1
    ·match p,hp1 with
     | [r],_=>exact Qxe m r v w h
    ·exact Qmr m m _ none v p w h hw hmn (.inl ⟨rfl,rfl,hp1⟩) h1
   ·exact Qki m g x v p w h hh
  ·obtain⟨q,last,rfl⟩:∃ q last,p=q ++ [last]:=⟨p.dropLast,p.getLast (by intro e;simp[e] at hp),(List.dropLast_concat_getLast _).symm⟩
   have hq:q.length=l:=by simpa using hp
   obtain⟨a,c,hv,_⟩:=id h;rw[hp] at hv;subst hv;obtain⟨b,off,rfl,hcap,hcell,hinit⟩:=Qhp h hq;have hr:=Qg5 m.toNat n.toNat whole q last;rw[if_neg (by omega)] at hr;have hbd:=Qiy (n:=n.toNat) (by omega) (by omega);obtain⟨k,hk⟩:∃ k,k=below n.toNat:=⟨_,rfl⟩
   rw[←hk] at hbd hr;obtain⟨hb1,hb2,hb3⟩:=hbd;have HR:=zh hr;have HK:=zh hk;have HW:=zh hw;have HQ:=zh hinit;have IH:=zh ih;have HL:=zh hq;clear hr hk hw hinit ih h hq hp;have c0:w.cell? ⟨b,off+l*8,none⟩=some (u8 last[0]):=hcell 0 (by decide);have c1:=hcell 1 (by decide);have c2:=hcell 2 (by decide);have c3:=hcell 3 (by decide);have c4:=hcell 4 (by decide);have c5:=hcell 5 (by decide);have c6:=hcell 6 (by decide);have c7:=hcell 7 (by decide);have hbw:b<w.heap.size:=Qk c0;have hbw1:b<w.heap.size+1:=by omega
   have hbw2:b<w.heap.size+1+1:=by omega
   have hz0:((l:Int)+1 == 0)=false:=by rw[beq_eq_false_iff_ne];omega
   have hd:(m == n)=false:=by rw[beq_eq_false_iff_ne];exact he
   have hI:Is8 (((w.alloc (.cells zc 109)).alloc (.cells zc 109)).alloc (.cells zc 109)).drew (w.heap.size+1+1):=⟨zero8,Qo (Qe (by simp))⟩
   clear hcell
   go_enter func144,ntmps144
   go_wp2_with fail
   go_region;have f1:Qu ((((w.alloc (.cells zc 109)).alloc (.cells zc 109)).alloc (.cells zc 109)).drew.setRow (w.heap.size+1+1) (h8 last)) w.heap.size zero8:=Qi (Qo (Qp (Qp (Qe rfl) _) _)) _ (by omega);have f2:Qu ((((w.alloc (.cells zc 109)).alloc (.cells zc 109)).alloc (.cells zc 109)).drew.setRow (w.heap.size+1+1) (h8 last)) (w.heap.size+1) zero8:=Qi (Qo (Qp (Qe (by simp)) _)) _ (by omega);have f3:Qu ((((w.alloc (.cells zc 109)).alloc (.cells zc 109)).alloc (.cells zc 109)).drew.setRow (w.heap.size+1+1) (h8 last)) (w.heap.size+1+1) last:=Qy (Qo (Qe (by simp))) _;have f4:Below w.heap.size w ((((w.alloc (.cells zc 109)).alloc (.cells zc 109)).alloc (.cells zc 109)).drew.setRow (w.heap.size+1+1) (h8 last)):=below_setRow (((((Qa w _).alloc (by simp) _).alloc (by simp;omega) _).drew)) (by omega) _;have f5:((((w.alloc (.cells zc 109)).alloc (.cells zc 109)).alloc (.cells zc 109)).drew.setRow (w.heap.size+1+1) (h8 last)).heap.size=w.heap.size+1+1+1:=by simp
   have F1:=zh f1;have F2:=zh f2;have F3:=zh f3;have F4:=zh f4;have F5:=zh f5;clear f1 f2 f3 f4 f5 hI c0 c1 c2 c3 c4 c5 c6 c7;generalize ((((w.alloc (.cells zc 109)).alloc (.cells zc 109)).alloc (.cells zc 109)).drew.setRow (w.heap.size+1+1) (h8 last))=W2 at *
   go_wp2_with fail
   refine (Qbw _ _ (by omega) (by omega)).mono ?_;rintro e w0 ⟨rfl,rfl⟩;rw[←HK.o];have HW2:=zh (HW.o.below F4.o);by_cases hmk:m≤(k:Int)
   ·go_wp2_with fail
    refine (IH.o q m k whole _ _ _ HL.o (Qfh.below HQ.o F4.o) HW2.o h1 hmk (by omega) (by omega)).mono ?_;rintro e w1 ⟨x,y,rfl,hxy,hb⟩;have hz:w.heap.size+3≤w1.heap.size:=by have:=hb.size;rw[F5.o] at this;omega
    have g1:=Qg F1.o hb;have g2:=Qg F2.o hb;have g3:=Qg F3.o hb;have j2:Qu (w1.setRow w.heap.size (h8 x)) (w.heap.size+1) zero8:=Qi g2 _ (by omega);have HXY:=zh hxy;have G3:=zh g3;have G1:=zh g1;have F6:=zh (F4.o.trans (hb.mono F4.o.size));clear hxy hb g3;obtain⟨rt,hrr⟩:∃ r,r=roots m.toNat (k:Int).toNat whole q:=⟨_,rfl⟩
    rw[←hrr];have HRR:=zh hrr;clear hrr
    go_wp2_with (refine Qt rfl 109 _ _ rfl _ _ rfl rfl info8 ?_ ?_ ?_;rotate_left;focus ((repeat(first|(with_reducible first|assumption|exact Qj ⟨_,by assumption⟩ _)|((with_reducible first|refine Qe ?_|refine Q2 ?_|refine Qj (Q9 ?_) _);(first|rfl|(simp;done)|(simp;omega)))|with_reducible refine Qp ?_ _|((with_reducible refine Qi ?_ _ ?_);rotate_left;(focus(first|(simp;done)|(simp;omega)|omega)))|with_reducible first|refine Qo ?_|refine Qg ?_ (by assumption)));done))
    have a1:Qu ((w1.setRow w.heap.size (h8 x)).setRow (w.heap.size+1) (h8 y)) w.heap.size x:=Qi (Qy G1.o _) _ (by omega);have a2:Qu ((w1.setRow w.heap.size (h8 x)).setRow (w.heap.size+1) (h8 y)) (w.heap.size+1) y:=Qy j2 _;have a3:Qu ((w1.setRow w.heap.size (h8 x)).setRow (w.heap.size+1) (h8 y)) (w.heap.size+1+1) last:=Qi (Qi G3.o _ (by omega)) _ (by omega);have a4:Below w.heap.size w ((w1.setRow w.heap.size (h8 x)).setRow (w.heap.size+1) (h8 y)):=below_setRow (below_setRow F6.o (Nat.le_refl _) _) (by omega) _;have a5:((w1.setRow w.heap.size (h8 x)).setRow (w.heap.size+1) (h8 y)).heap.size=w1.heap.size:=by simp
    have A1:=zh a1;have A2:=zh a2;have A3:=zh a3;have A4:=zh a4;have A5:=zh a5;clear a1 a2 a3 a4 a5 j2 g1 g2;generalize ((w1.setRow w.heap.size (h8 x)).setRow (w.heap.size+1) (h8 y))=W3 at *;have hz3:w.heap.size+3≤W3.heap.size:=by rw[A5.o];exact hz
    have hz31:w.heap.size<W3.heap.size:=by omega
    have hz32:w.heap.size+1<W3.heap.size:=by omega
    have hz33:w.heap.size+1+1<W3.heap.size:=by omega
    have x0:=Qs A1.o 0 (by decide);have x1:=Qs A1.o 1 (by decide);have x2:=Qs A1.o 2 (by decide);have x3:=Qs A1.o 3 (by decide);have x4:=Qs A1.o 4 (by decide);have x5:=Qs A1.o 5 (by decide);have x6:=Qs A1.o 6 (by decide);have x7:=Qs A1.o 7 (by decide);have y0:=Qs A2.o 0 (by decide);have y1:=Qs A2.o 1 (by decide);have y2:=Qs A2.o 2 (by decide);have y3:=Qs A2.o 3 (by decide);have y4:=Qs A2.o 4 (by decide);have y5:=Qs A2.o 5 (by decide);have y6:=Qs A2.o 6 (by decide);have y7:=Qs A2.o 7 (by decide);have z0:=Qs A3.o 0 (by decide);have z1:=Qs A3.o 1 (by decide);have z2:=Qs A3.o 2 (by decide);have z3:=Qs A3.o 3 (by decide);have z4:=Qs A3.o 4 (by decide);have z5:=Qs A3.o 5 (by decide);have z6:=Qs A3.o 6 (by decide);have z7:=Qs A3.o 7 (by decide)
    go_region_with (go_at_call 129;refine (Qbz y last _).mono ?_;rintro e w4 ⟨rfl,hb4⟩;have k1:=Qg (Qo A1.o) hb4;have k2:=Qg (Qo A2.o) hb4;have hz4:w.heap.size+3≤w4.heap.size:=Nat.le_trans hz3 hb4.size;have i1:Is8 w4 w.heap.size:=⟨_,k1⟩;have i2:Is8 w4 (w.heap.size+1):=⟨_,k2⟩;have i3:Is8 (w4.setRow w.heap.size (h8 x)) (w.heap.size+1):=⟨_,Qi k2 _ (by omega)⟩;have i4:Is8 (w4.setRow (w.heap.size+1) (h8 (Z0 y last))) w.heap.size:=⟨_,Qi k1 _ (by omega)⟩;have HB4:=zh hb4;have d0:=Qs k1 0 (by decide);have d1:=Qs k1 1 (by decide);have d2:=Qs k1 2 (by decide);have d3:=Qs k1 3 (by decide);have d4:=Qs k1 4 (by decide);have d5:=Qs k1 5 (by decide);have d6:=Qs k1 6 (by decide);have d7:=Qs k1 7 (by decide);clear hb4 k1 k2)
    all_goals
     go_wp2;have hre:roots m.toNat n.toNat whole (q ++ [last])=rt.map (fun z=>(z.1,Z0 z.2 last)):=by rw[HR.o,if_pos (by omega),HRR.o];rfl
     refine ret88t w.heap.size (w.heap.size+1) x (Z0 y last) (.bool rt.isSome) rfl rfl rfl rfl _ underlying109 info8 (Qi (Qj i1 _) _ (by omega)) (Qj i3 _) rfl ⟨x,Z0 y last,by rw[hre,Option.isSome_map],?_,below_setRow (below_setRow ((A4.o.drew).trans (HB4.o.mono A4.o.drew.size)) (Nat.le_refl _) _) (by omega) _⟩;intro z hzz;rw[hre] at hzz;obtain⟨z',hz',rfl⟩:=Option.map_eq_some_iff.1 hzz
     have:=HXY.o z' (by rw[←HRR.o];exact hz')
     subst this;rfl
   ·go_wp2_with fail
    refine (IH.o q (m-k) (n-k) none _ _ _ HL.o (Qfh.below HQ.o F4.o) (.inl ⟨rfl,rfl⟩) (by omega) (by omega) (by omega) (by omega)).mono ?_;rintro e w1 ⟨x,y,rfl,hxy,hb⟩;have hz:w.heap.size+3≤w1.heap.size:=by have:=hb.size;rw[F5.o] at this;omega
    have g1:=Qg F1.o hb;have g2:=Qg F2.o hb;have g3:=Qg F3.o hb;have j2:Qu (w1.setRow w.heap.size (h8 x)) (w.heap.size+1) zero8:=Qi g2 _ (by omega);have HXY:=zh hxy;have G3:=zh g3;have G1:=zh g1;have F6:=zh (F4.o.trans (hb.mono F4.o.size));clear hxy hb g3;obtain⟨rt,hrr⟩:∃ r,r=roots (m-k).toNat (n-k).toNat none q:=⟨_,rfl⟩
    rw[←hrr];have HRR:=zh hrr;clear hrr
    go_wp2_with (refine Qt rfl 109 _ _ rfl _ _ rfl rfl info8 ?_ ?_ ?_;rotate_left;focus ((repeat(first|(with_reducible first|assumption|exact Qj ⟨_,by assumption⟩ _)|((with_reducible first|refine Qe ?_|refine Q2 ?_|refine Qj (Q9 ?_) _);(first|rfl|(simp;done)|(simp;omega)))|with_reducible refine Qp ?_ _|((with_reducible refine Qi ?_ _ ?_);rotate_left;(focus(first|(simp;done)|(simp;omega)|omega)))|with_reducible first|refine Qo ?_|refine Qg ?_ (by assumption)));done))
    have a1:Qu ((w1.setRow w.heap.size (h8 x)).setRow (w.heap.size+1) (h8 y)) w.heap.size x:=Qi (Qy G1.o _) _ (by omega);have a2:Qu ((w1.setRow w.heap.size (h8 x)).setRow (w.heap.size+1) (h8 y)) (w.heap.size+1) y:=Qy j2 _;have a3:Qu ((w1.setRow w.heap.size (h8 x)).setRow (w.heap.size+1) (h8 y)) (w.heap.size+1+1) last:=Qi (Qi G3.o _ (by omega)) _ (by omega);have a4:Below w.heap.size w ((w1.setRow w.heap.size (h8 x)).setRow (w.heap.size+1) (h8 y)):=below_setRow (below_setRow F6.o (Nat.le_refl _) _) (by omega) _;have a5:((w1.setRow w.heap.size (h8 x)).setRow (w.heap.size+1) (h8 y)).heap.size=w1.heap.size:=by simp
    have A1:=zh a1;have A2:=zh a2;have A3:=zh a3;have A4:=zh a4;have A5:=zh a5;clear a1 a2 a3 a4 a5 j2 g1 g2;generalize ((w1.setRow w.heap.size (h8 x)).setRow (w.heap.size+1) (h8 y))=W3 at *;have hz3:w.heap.size+3≤W3.heap.size:=by rw[A5.o];exact hz
    have hz31:w.heap.size<W3.heap.size:=by omega
    have hz32:w.heap.size+1<W3.heap.size:=by omega
    have hz33:w.heap.size+1+1<W3.heap.size:=by omega
    refine wp_region_any (by kernel_rfl) ?_;refine draw14 last x y (Z0 last x) (Z0 last y) w.heap.size (.bool rt.isSome) w ?_ ?_ ?_ ⟨_,rfl,rfl,rfl,rfl⟩ ⟨_,rfl,rfl,rfl,rfl⟩ ⟨_,_,rfl,rfl,rfl,rfl⟩ ⟨_,rfl,rfl,rfl,rfl⟩ ⟨_,rfl,rfl,rfl,rfl⟩ ⟨_,_,rfl,rfl,rfl,rfl⟩ ⟨_,rfl,rfl,rfl,rfl⟩ ⟨_,rfl,rfl,rfl,rfl⟩ ⟨_,rfl,rfl,rfl,rfl⟩ ⟨_,rfl,rfl,rfl,rfl⟩ (Nat.le_refl _) (fun _ _=>by rfl) (Qbz last x) (Qbz last y) ?_ _ _ ?_
    ·intro b i hi
     rw[Region.ready,List.mem_filter] at hi;obtain⟨hi1,hi2⟩:=hi;have hi10:i<10:=List.mem_range.1 hi1
     have:i=0∨i=1∨i=2∨i=3∨i=4∨i=5∨i=6∨i=7∨i=8∨i=9:=by omega
     clear hi1;rcases this with rfl|rfl|rfl|rfl|rfl|rfl|rfl|rfl|rfl|rfl <;> simp[bs,Region.binds] at hi2 ⊢ <;> simp[hi2]
    ·intro b hb
     have hh:∀ c:Bool,(!c).toNat=0→c=true:=by intro c;cases c <;> simp
     unfold left at hb;have k0:=hh (b 0) (by omega);have k1:=hh (b 1) (by omega);have k2:=hh (b 2) (by omega);have k3:=hh (b 3) (by omega);have k4:=hh (b 4) (by omega);have k5:=hh (b 5) (by omega);have k6:=hh (b 6) (by omega);have k7:=hh (b 7) (by omega);have k8:=hh (b 8) (by omega);have k9:=hh (b 9) (by omega);rw[show bs b=#[true,true,true,true,true,true,true,true,true,true] by simp only[bs,k0,k1,k2,k3,k4,k5,k6,k7,k8,k9]];rfl
    ·intro b f hf
     rcases k0:b 0 with _|_
     ·exact List.ne_nil_of_mem (a:=0) (by rw[Region.ready,List.mem_filter];exact⟨List.mem_range.2 (by show 0<10;decide),by simp[bs,Region.binds,k0]⟩)
     rcases k1:b 1 with _|_
     ·exact List.ne_nil_of_mem (a:=1) (by rw[Region.ready,List.mem_filter];exact⟨List.mem_range.2 (by show 1<10;decide),by simp[bs,Region.binds,k0,k1]⟩)
     rcases k2:b 2 with _|_
     ·exact List.ne_nil_of_mem (a:=2) (by rw[Region.ready,List.mem_filter];exact⟨List.mem_range.2 (by show 2<10;decide),by simp[bs,Region.binds,k0,k1,k2]⟩)
     rcases k3:b 3 with _|_
     ·exact List.ne_nil_of_mem (a:=3) (by rw[Region.ready,List.mem_filter];exact⟨List.mem_range.2 (by show 3<10;decide),by simp[bs,Region.binds,k0,k1,k2,k3]⟩)
     rcases k4:b 4 with _|_
     ·exact List.ne_nil_of_mem (a:=4) (by rw[Region.ready,List.mem_filter];exact⟨List.mem_range.2 (by show 4<10;decide),by simp[bs,Region.binds,k0,k1,k2,k3,k4]⟩)
     rcases k5:b 5 with _|_
     ·exact List.ne_nil_of_mem (a:=5) (by rw[Region.ready,List.mem_filter];exact⟨List.mem_range.2 (by show 5<10;decide),by simp[bs,Region.binds,k0,k1,k2,k3,k4,k5]⟩)
     rcases k6:b 6 with _|_
     ·exact List.ne_nil_of_mem (a:=6) (by rw[Region.ready,List.mem_filter];exact⟨List.mem_range.2 (by show 6<10;decide),by simp[bs,Region.binds,k0,k1,k2,k3,k4,k5,k6]⟩)
     rcases k7:b 7 with _|_
     ·exact List.ne_nil_of_mem (a:=7) (by rw[Region.ready,List.mem_filter];exact⟨List.mem_range.2 (by show 7<10;decide),by simp[bs,Region.binds,k0,k1,k2,k3,k4,k5,k6,k7]⟩)
     rcases k8:b 8 with _|_
     ·exact List.ne_nil_of_mem (a:=8) (by rw[Region.ready,List.mem_filter];exact⟨List.mem_range.2 (by show 8<10;decide),by simp[bs,Region.binds,k0,k1,k2,k3,k4,k5,k6,k7,k8]⟩)
     rcases k9:b 9 with _|_
     ·exact List.ne_nil_of_mem (a:=9) (by rw[Region.ready,List.mem_filter];exact⟨List.mem_range.2 (by show 9<10;decide),by simp[bs,Region.binds,k0,k1,k2,k3,k4,k5,k6,k7,k8,k9]⟩)
     exfalso;simp only[left,k0,k1,k2,k3,k4,k5,k6,k7,k8,k9,Bool.not_true,Bool.toNat_false] at hf;omega
    ·rintro c a5 w5 hin e7 e8
     go_wp2;have hre:roots m.toNat n.toNat whole (q ++ [last])=rt.map (fun z=>(Z0 last z.1,Z0 last z.2)):=by
      rw[HR.o,if_neg (by omega),HRR.o]
      congr 2 <;> omega
     refine ret88t w.heap.size (w.heap.size+1) (Z0 last x) (Z0 last y) (.bool rt.isSome) rfl hin.t8 hin.t9 hin.t10 _ underlying109 info8 (hin.f8 e7) (hin.f9 e8) hin.d ⟨Z0 last x,Z0 last y,by rw[hre,Option.isSome_map],?_,hin.bel⟩;intro z hzz;rw[hre] at hzz;obtain⟨z',hz',rfl⟩:=Option.map_eq_some_iff.1 hzz
     have:=HXY.o z' (by rw[←HRR.o];exact hz')
     subst this;rfl
    ·have hdr:Below w.heap.size w W3.drew:=A4.o.drew
     exact { d:=rfl,s:=Nat.le_refl 103,t8:=rfl,t9:=rfl,t11:=rfl,t10:=rfl,r0:=fun k=>absurd k (by decide),r1:=fun k=>absurd k (by decide),r2:=fun k=>absurd k (by decide),r3:=fun k=>absurd k (by decide),r4:=fun k=>absurd k (by decide),r5:=fun k=>absurd k (by decide),r6:=fun k=>absurd k (by decide),h11:=Qo A3.o,e8:=fun _=>Qo A1.o,f8:=fun k=>absurd k (by decide),e9:=fun _=>Qo A2.o,f9:=fun k=>absurd k (by decide),bel:=hdr,c7:=fun k=>absurd k (by decide),c8:=fun k=>absurd k (by decide) }
end
end
section
theorem Qm4 (p:List Hsh) (a b:Hsh) (m n:Int) (v:Value) (w:World) (h:Qbs w v p) (hm : -9223372036854775808≤m) (hn:n≤9223372036854775807) (hl:p.length≤1048576) :
  Calls prog 90 #[.int .i64 m,.int .i64 n,.agg (h8 a),.agg (h8 b),v] w fun e w'=>e=.returned (.bool (consistent m n a b p))∧Below w.heap.size w w':=by
 obtain⟨ad,c,hv,_⟩:=id h;by_cases h1:1≤m
 ·have hd:decide (m<1)=false:=decide_eq_false (by omega)
  by_cases hmn:m≤n
  ·have hd2:decide (n<m)=false:=decide_eq_false (by omega)
   have hinc:consistent m n a b p=(roots m.toNat n.toNat (some a) p == some (a,b)):=by simp[consistent,h1,hmn]
   have HI:=zh hinc;have HH:=zh h;have HV:=zh hv;clear hinc h hv
   go_enter func90,ntmps90
   go_wp2_with fail
   have b0:Below w.heap.size w ((w.alloc (.cells (h8 a) 109)).alloc (.cells (h8 b) 109)):=(Qa w _).alloc (by simp) _;refine (Qxq p.length p m n (some a) v _ _ rfl (Qfh.below HH.o b0) (.inr ⟨w.heap.size,a,rfl,rfl,Qp (Q2 rfl) _⟩) h1 hmn hn hl).mono ?_;rintro e w1 ⟨x,y,rfl,hz,hb⟩;have hbb:Below w.heap.size w w1:=b0.trans (hb.mono b0.size);have hsz:w.heap.size+2≤w1.heap.size:=by have:=hb.size;simp at this;omega
   have g1:Qu w1 w.heap.size a:=Qg (Qp (Q2 rfl) _) hb;have g2:Qu w1 (w.heap.size+1) b:=Qg (Q2 (by simp)) hb;have HBB:=zh hbb;have HZ:=zh hz;clear hz hb hbb b0;obtain⟨r,hrr⟩:∃ r,r=roots m.toNat n.toNat (some a) p:=⟨_,rfl⟩
   rw[←hrr];have HRR:=zh hrr;clear hrr;have fin:∀ (cs ds:Array Value),Below w.heap.size w ((((w1.alloc (.cells zc 109)).alloc (.cells zc 109)).setRow w1.heap.size cs).setRow (w1.heap.size+1) ds):=fun cs ds=>
    below_setRow (below_setRow ((HBB.o.alloc HBB.o.size _).alloc (by simp;have:=HBB.o.size;omega) _) HBB.o.size _) (by have:=HBB.o.size;omega) _
   have FIN:=zh fin;clear fin;have i1:Qu ((w1.alloc (.cells zc 109)).alloc (.cells zc 109)) w1.heap.size zero8:=Qp (Qe rfl) _;have i2:Qu (((w1.alloc (.cells zc 109)).alloc (.cells zc 109)).setRow w1.heap.size (h8 x)) (w1.heap.size+1) zero8:=Qi (Qe (by simp)) _ (by omega);have j1:Qu ((((w1.alloc (.cells zc 109)).alloc (.cells zc 109)).setRow w1.heap.size (h8 x)).setRow (w1.heap.size+1) (h8 y)) w1.heap.size x:=Qi (Qy i1 x) _ (by omega);have j2:Qu ((((w1.alloc (.cells zc 109)).alloc (.cells zc 109)).setRow w1.heap.size (h8 x)).setRow (w1.heap.size+1) (h8 y)) (w1.heap.size+1) y:=Qy i2 y;have j3:Qu ((((w1.alloc (.cells zc 109)).alloc (.cells zc 109)).setRow w1.heap.size (h8 x)).setRow (w1.heap.size+1) (h8 y)) w.heap.size a:=Qi (Qi (Qp (Qp g1 _) _) _ (by omega)) _ (by omega);have j4:Qu ((((w1.alloc (.cells zc 109)).alloc (.cells zc 109)).setRow w1.heap.size (h8 x)).setRow (w1.heap.size+1) (h8 y)) (w.heap.size+1) b:=Qi (Qi (Qp (Qp g2 _) _) _ (by omega)) _ (by omega);cases r with
   | none=>
    go_wp2_with (first|((first|refine Q1 rfl 109 _ rfl _ rfl _ underlying109 info8 ?_ ?_ ?_|refine Qt rfl 109 _ _ rfl _ _ rfl rfl info8 ?_ ?_ ?_);rotate_left;focus((repeat(first|(with_reducible first|assumption|exact Qj ⟨_,by assumption⟩ _)|((with_reducible first|refine Qe ?_|refine Q2 ?_|refine Qj (Q9 ?_) _);(first|rfl|(simp;done)|(simp;omega)))|with_reducible refine Qp ?_ _|((with_reducible refine Qi ?_ _ ?_);rotate_left;(focus(first|(simp;done)|(simp;omega)|omega)))|with_reducible first|refine Qo ?_|refine Qg ?_ (by assumption)));done)))
    go_ret;exact⟨Qa8 (by rw[HI.o,←HRR.o];rfl),FIN.o _ _⟩
   | some z=>
    obtain rfl:(x,y)=z:=HZ.o z HRR.o.symm;by_cases hx:x=a
    ·subst hx
     have hq:∀ w,Sem.run prog (binOp .eql 109 (.agg (h8 x)) (.agg (h8 x))) w=.ok (Value.bool true) w:=fun w=>by rw[Qk5,show (some x == some x)=true from by simp]
     have hq2:=fun w=>Qk5 w y b
     go_wp2_with (first|((first|refine Q1 rfl 109 _ rfl _ rfl _ underlying109 info8 ?_ ?_ ?_|refine Qt rfl 109 _ _ rfl _ _ rfl rfl info8 ?_ ?_ ?_);rotate_left;focus((repeat(first|(with_reducible first|assumption|exact Qj ⟨_,by assumption⟩ _)|((with_reducible first|refine Qe ?_|refine Q2 ?_|refine Qj (Q9 ?_) _);(first|rfl|(simp;done)|(simp;omega)))|with_reducible refine Qp ?_ _|((with_reducible refine Qi ?_ _ ?_);rotate_left;(focus(first|(simp;done)|(simp;omega)|omega)))|with_reducible first|refine Qo ?_|refine Qg ?_ (by assumption)));done)))
     go_ret;refine⟨Qa8 ?_,FIN.o _ _⟩;rw[HI.o,←HRR.o];show (some y == some b)=(x == x && y == b);simp
    ·have hq:∀ w,Sem.run prog (binOp .eql 109 (.agg (h8 x)) (.agg (h8 a))) w=.ok (Value.bool false) w:=fun w=>by rw[Qk5,show (some x == some a)=false from by simpa using hx]
     go_wp2_with (first|((first|refine Q1 rfl 109 _ rfl _ rfl _ underlying109 info8 ?_ ?_ ?_|refine Qt rfl 109 _ _ rfl _ _ rfl rfl info8 ?_ ?_ ?_);rotate_left;focus((repeat(first|(with_reducible first|assumption|exact Qj ⟨_,by assumption⟩ _)|((with_reducible first|refine Qe ?_|refine Q2 ?_|refine Qj (Q9 ?_) _);(first|rfl|(simp;done)|(simp;omega)))|with_reducible refine Qp ?_ _|((with_reducible refine Qi ?_ _ ?_);rotate_left;(focus(first|(simp;done)|(simp;omega)|omega)))|with_reducible first|refine Qo ?_|refine Qg ?_ (by assumption)));done)))
     go_ret;refine⟨Qa8 ?_,FIN.o _ _⟩;rw[HI.o,←HRR.o];simp[hx]
  ·have hd2:decide (n<m)=true:=decide_eq_true (by omega)
   clear h;subst hv
   go_enter func90,ntmps90
   go_wp2;go_ret;exact⟨Qa8 (by simp[consistent];omega),(Qa w _).alloc (by simp) _⟩
 ·have hd:decide (m<1)=true:=decide_eq_true (by omega)
  clear h;subst hv
  go_enter func90,ntmps90
  go_wp2;go_ret;exact⟨Qa8 (by simp[consistent];omega),(Qa w _).alloc (by simp) _⟩
end
section
open Go.RowKit Go.MuLone
def Qte (F:Nat→Addr) (w:World) (gc gk mc gn gd:Nat) (vl vt:Value) (qs:List CEnt) (r:Tld×List Hsh×Cl×Nt) (e:Ending) (w':World):Prop:=
 ∃ v y,e=.returned (.tuple #[v,y])∧Qcu w' w.heap.size v r.2.1∧Qn0 F w' w.heap.size r.1 y∧
  ∃ qs',ClM 0 w' gc gk mc (.iface 44 (.pointer (some ⟨gn,0,none⟩))) r.2.2.1 qs'∧Yk w' gn gd vl vt r.2.2.2∧Fr (cnS gc gk mc gn vt qs) w w'∧Sub w (cnS gc gk mc gn vt qs) (cnS gc gk mc gn vt qs')
variable {W:World} {gc:Nat} {v y:Value}
theorem Qcf {R:Ending→World→Prop} {T:Array Value} (h0:W.cell? ⟨gc,0,none⟩=some (.int .i32 1)) (h1:W.frozen? ⟨gc,0,none⟩=false) (hT2:T.getD 2 undef=v) (hT3:T.getD 3 undef=y)
  (hR:R (.returned (.tuple #[v,y])) (W.setCell ⟨gc,0,none⟩ (.int .i32 0))) :
  bodyPostD prog f42 R Exit.ret { tmps:=T,defers:=[{ target:=.fn (.func 84) #[],args:=#[.pointer (some ⟨gc,0,none⟩)] }] } W:=by
 refine leaves_cons (f:=84) (args:=#[.pointer (some ⟨gc,0,none⟩)]) (by simp) (by simp[go_sem]) ?_;refine (unlock_deferred Q2t ⟨gc,0,none⟩ .returning W h0 h1).mono ?_;rintro e u' w'' ⟨rfl,rfl,rfl⟩;simp only[Leaves,settle];refine⟨.tuple #[v,y],?_,hR⟩;have a2:T[2]?.getD undef=v:=by simpa [Array.getD_eq_getD_getElem?] using hT2
 have a3:T[3]?.getD undef=y:=by simpa [Array.getD_eq_getD_getElem?] using hT3
 simp[results,results42,go_sem,a2,a3]
variable {w:World} {gk mc gn gd:Nat} {vl vt:Value} {qs:List CEnt}
theorem Qey {F:Nat→Addr} {qs':List CEnt} {t:Tld} {l:List Hsh} {c':Cl} {n':Nt} (hc:ClM 1 W gc gk mc (.iface 44 (.pointer (some ⟨gn,0,none⟩))) c' qs') (hn:Yk W gn gd vl vt n') (hf:Fr (cnS gc gk mc gn vt qs) w W) (hs:Sub w (cnS gc gk mc gn vt qs) (cnS gc gk mc gn vt qs'))
  (hv:Qcu W w.heap.size v l) (he:Qn0 F W w.heap.size t y):Qte F w gc gk mc gn gd vl vt qs (t,l,c',n') (.returned (.tuple #[v,y])) (W.setCell ⟨gc,0,none⟩ (.int .i32 0)):=by
 have hF:=Fr.set1 W gc 0 (.int .i32 0);have hk:=Qw hc.cells;refine⟨v,y,rfl,Zi hv hF hk (by decide),he.fr hF fun k C fz hC=>Zo hk hC (by decide),qs',hc.turn 0,?_,hf.step hF fun i hi e=>.inl (.inl e),hs⟩;exact Yq hn hF hk (by decide) (by decide) (by decide)
theorem Q5b (w:World) (g:Nat) (n:Int) (k:Hsh):Fr (·=g) w (((((((((w.setCell ⟨g,0,none⟩ (.int .i64 n)).setCell ⟨g,1,none⟩ (u8 k[0])).setCell ⟨g,2,none⟩ (u8 k[1])).setCell ⟨g,3,none⟩ (u8 k[2])).setCell ⟨g,4,none⟩ (u8 k[3])).setCell ⟨g,5,none⟩ (u8 k[4])).setCell ⟨g,6,none⟩ (u8 k[5])).setCell ⟨g,7,none⟩ (u8 k[6])).setCell ⟨g,8,none⟩ (u8 k[7])):=(((((((((Fr.set1 w g 0 (.int .i64 n)).set 1 (u8 k[0])).set 2 (u8 k[1])).set 3 (u8 k[2])).set 4 (u8 k[3])).set 5 (u8 k[4])).set 6 (u8 k[5])).set 7 (u8 k[6])).set 8 (u8 k[7]))
variable {g:Nat}
theorem Q7k (h:TrAt w g 0 zero8) (n:Int) (k:Hsh):TrAt (((((((((w.setCell ⟨g,0,none⟩ (.int .i64 n)).setCell ⟨g,1,none⟩ (u8 k[0])).setCell ⟨g,2,none⟩ (u8 k[1])).setCell ⟨g,3,none⟩ (u8 k[2])).setCell ⟨g,4,none⟩ (u8 k[3])).setCell ⟨g,5,none⟩ (u8 k[4])).setCell ⟨g,6,none⟩ (u8 k[5])).setCell ⟨g,7,none⟩ (u8 k[6])).setCell ⟨g,8,none⟩ (u8 k[7])) g n k:=
 (heap_setCell (i:=8) (heap_setCell (i:=7) (heap_setCell (i:=6) (heap_setCell (i:=5) (heap_setCell (i:=4) (heap_setCell (i:=3) (heap_setCell (i:=2) (heap_setCell (i:=1) (heap_setCell (i:=0) h (.int .i64 n)) (u8 k[0])) (u8 k[1])) (u8 k[2])) (u8 k[3])) (u8 k[4])) (u8 k[5])) (u8 k[6])) (u8 k[7])).trans (by simp[trC,bv])
theorem Q11 (w:World) (g:Nat) (n:Int) (k:Hsh):Fr (·=g) w (((((((((w.setCell ⟨g,4,none⟩ (.int .i64 n)).setCell ⟨g,5,none⟩ (u8 k[0])).setCell ⟨g,6,none⟩ (u8 k[1])).setCell ⟨g,7,none⟩ (u8 k[2])).setCell ⟨g,8,none⟩ (u8 k[3])).setCell ⟨g,9,none⟩ (u8 k[4])).setCell ⟨g,10,none⟩ (u8 k[5])).setCell ⟨g,11,none⟩ (u8 k[6])).setCell ⟨g,12,none⟩ (u8 k[7])):=(((((((((Fr.set1 w g 4 (.int .i64 n)).set 5 (u8 k[0])).set 6 (u8 k[1])).set 7 (u8 k[2])).set 8 (u8 k[3])).set 9 (u8 k[4])).set 10 (u8 k[5])).set 11 (u8 k[6])).set 12 (u8 k[7]))
variable {mu:Int} {vf:Value} {c:Cl}
theorem Q5h (h:ClM mu w g gk mc vf c qs) (n:Nat) (k:Hsh):ClM mu (((((((((w.setCell ⟨g,4,none⟩ (.int .i64 n)).setCell ⟨g,5,none⟩ (u8 k[0])).setCell ⟨g,6,none⟩ (u8 k[1])).setCell ⟨g,7,none⟩ (u8 k[2])).setCell ⟨g,8,none⟩ (u8 k[3])).setCell ⟨g,9,none⟩ (u8 k[4])).setCell ⟨g,10,none⟩ (u8 k[5])).setCell ⟨g,11,none⟩ (u8 k[6])).setCell ⟨g,12,none⟩ (u8 k[7])) g gk mc vf { c with size:=n,root:=k } qs:=
 ⟨(heap_setCell (i:=12) (heap_setCell (i:=11) (heap_setCell (i:=10) (heap_setCell (i:=9) (heap_setCell (i:=8) (heap_setCell (i:=7) (heap_setCell (i:=6) (heap_setCell (i:=5) (heap_setCell (i:=4) h.cells (.int .i64 n)) (u8 k[0])) (u8 k[1])) (u8 k[2])) (u8 k[3])) (u8 k[4])) (u8 k[5])) (u8 k[6])) (u8 k[7])).trans (by simp[bv]),h.cache.fr (Q11 w g n k) (fun i hi e=>h.apart i hi e) h.noBytes⟩
theorem Qz3 (w:World) (a b:Hsh):Sem.run prog (binOp .neq 109 (.agg (h8 a)) (.agg (h8 b))) w=.ok (Value.bool (!(some a == some b))) w:=by rw[run_neq_struct,eqn];rfl
theorem Q6c (w:World) (a b:Hsh):Sem.run prog (binOp .neq 109 (.agg #[bv a[0],bv a[1],bv a[2],bv a[3],bv a[4],bv a[5],bv a[6],bv a[7]]) (.agg #[bv b[0],bv b[1],bv b[2],bv b[3],bv b[4],bv b[5],bv b[6],bv b[7]])) w=.ok (Value.bool (!decide (a=b))) w:=by
 have h:=Qz3 w a b;rw[Qgb,Qgb] at h;rw[h];by_cases e:a=b
 ·simp[e]
 ·simp[e,beq_eq_false_iff_ne.2 e]
theorem ClM.netTurn {w':World} {n:Nt} (h:ClM mu w gc gk mc vf c qs) (hn:Yk w gn gd vl vt n) (hf:Fr (netS gn vt) w w'):ClM mu w' gc gk mc vf c qs:=by
 have hk:=Qcm hn;refine⟨Ze h.cells hf hk (by decide),Qek h.cache hf hk ?_ (by decide) (by decide) (by decide)⟩;obtain⟨D,⟨es,cl,hb,_⟩,_⟩:=h.cache.km.ex;rintro (e|e)
 ·rw[e,hn.cells] at hb;cases hb
 ·obtain⟨C,hC⟩:=Qh hn.told e
  rw[hC] at hb;cases hb
theorem Qtl {wd w3:World} {gq mq N:Nat} {x:Qv} {s:Cs} {d:Dk} (hF:Fr (cnS gc gk mc gn vt qs) w wd) (hb3:Below wd.heap.size wd w3) (hgq:wd.heap.size≤gq) (hmq:wd.heap.size≤mq)
  (h:QIs W (cQ gq gc gk mc gn gd mq vl vt v c) x N s d) (hf:Fr (QS (cQ gq gc gk mc gn gd mq vl vt v c) ⟨.slice none 0 0,qs,[]⟩) w3 W) (hs:Sub w3 (QS (cQ gq gc gk mc gn gd mq vl vt v c) ⟨.slice none 0 0,qs,[]⟩) (QS (cQ gq gc gk mc gn gd mq vl vt v c) x)) :
  ∃ qs',ClM 1 W gc gk mc (.iface 44 (.pointer (some ⟨gn,0,none⟩))) { c with cache:=s.cache } qs'∧Yk W gn gd vl vt s.net∧Fr (cnS gc gk mc gn vt qs) w W∧Sub w (cnS gc gk mc gn vt qs) (cnS gc gk mc gn vt qs'):=by
 obtain⟨vo,qs',vs⟩:=x;obtain⟨e1,e2,e3,e4⟩:=Q1w hgq hmq hb3 h hf hs;exact⟨qs',e1,e2,hF.trans e3,fun k hk=>(e4 k hk).imp id fun e=>Nat.le_trans hF.size e⟩
def Q8m:Op:=.convert 94 9 (.tmp 26)
theorem Q8l:Op.convert 94 9 (.tmp 26)=Q8m:=rfl
section
attribute [local go_sem] Q8m
theorem Qyq (F:Nat→Addr) (w:World) (gc gk mc gn gd:Nat) (vl vt v:Value) (c:Cl) (qs:List CEnt) (n:Nt) (d:Dk) (h:ClIs w gc gk mc (.iface 44 (.pointer (some ⟨gn,0,none⟩))) c qs) (hn:Yk w gn gd vl vt n) (hd:Q3 w gd v d) (hdf:d.files=n.files) (hE:EnvS F (cnS gc gk mc gn vt qs) w)
  (hft:n.fetches<1152921504606000000) (hkey:c.key.size≤9223372036854775807) (hcs:∀ data,Yt n (sOf kCp)=some data→data.length≤1048576) (hsz:c.size<9223372036854775808)
  (hask:∀ (data:List UInt8) (N:Nat),Yt n (sOf kCp)=some data→(Yc data c.key.data.toList).2.2=true→(Yc data c.key.data.toList).1=(N:Int)→c.size<N→0<c.size→
   Bnd (askQ (Zm n (sOf kCp)) c.cache) (Zl N (Jy N 0 N c.size).reverse).length∧(Qgc c.size N (askQ (Zm n (sOf kCp)) c.cache)).1≠.error .panic∧c.cache.items.length+(Zl N (Jy N 0 N c.size).reverse).length<1099511627775) :
  Calls prog 42 #[.pointer (some ⟨gc,0,none⟩)] w (Qte F w gc gk mc gn gd vl vt qs (Zz c n)):=by
 obtain⟨R,hR⟩:∃ R,R=Zz c n:=⟨_,rfl⟩
 have hlt:=h.lt;rw[←hR];have H:=zh h;have HN:=zh hn;have HD:=zh hd;have HDF:=zh hdf;have HE:=zh hE;have HR:=zh hR;have HCS:=zh hcs;have HASK:=zh hask;clear h hn hd hdf hE hR hcs hask
 go_enter_defers func42,ntmps42
 go_upto_region 3 with (first
  | (go_at_call 83;refine (Qlk H.o).mono ?_;rintro e w1 ⟨rfl,h1,hf1,hz1⟩;have H1:=zh h1;have HF1:=zh hf1;have HZ1:=zh hz1;clear h1 hf1 hz1)
  | fail)
 have hn1:Yk w1 gn gd vl vt n:=Yq HN.o HF1.o (Qw H.o.cells) (by decide) (by decide) (by decide);have hd1:Q3 w1 gd v d:=HD.o.kept HF1.o (Qw H.o.cells) (by decide) (by decide);have hfe:=cfetch0 w1 gc gn gd vl vt v n d (sOf kCp) (Qd H1.o.cells 2 rfl) hn1 hd1 HDF.o (by omega);have hcp:sOf kCp=⟨#[99,104,101,99,107,112,111,105,110,116]⟩:=by rfl
 have HFE:=zh hfe;rw[hcp] at hfe;have HFE2:=zh hfe;have HN1:=zh hn1;have HD1:=zh hd1;clear hn1 hd1 hfe
 go_upto_region 4 with (first
  | (go_at_call 85;refine HFE2.o.mono ?_;intro e w2 h2;rw[←hcp] at h2;obtain⟨hn2,hf2,u2,y2,rfl,hy2⟩:=h2;have HN2:=zh hn2;have HF2:=zh hf2;have HY2:=zh hy2;clear hn2 hf2 hy2)
  | fail)
 clear hcp;have hC2:ClM 1 w2 gc gk mc (.iface 44 (.pointer (some ⟨gn,0,none⟩))) c qs:=H1.o.netTurn HN1.o HF2.o;have hFW:Fr (cnS gc gk mc gn vt qs) w w2:=(HF1.o.weak fun _ _ e=>.inl (.inl e)).trans (HF2.o.weak fun _ _ e=>.inr e);have hE2:EnvS F (cnS gc gk mc gn vt qs) w2:=HE.o.fr hFW;have hY2:=HY2.o;have HC2:=zh hC2;have HFW:=zh hFW;have HE2:=zh hE2;clear hC2 hFW hE2 HY2;rcases hY2 with ⟨data,hfd,rfl,hob,a,k,cc,rfl⟩|⟨hfn,⟨q9,rfl⟩,a,k,cc,rfl⟩
 rotate_left
 ·have HFN:=zh hfn
  have hg:=HE2.o.sents.cells.2.2.1;clear hfn;go_wp2;go_region
  all_goals (
   go_wp2
   refine Qcf (v:=.slice none 0 0) (y:=.iface 338 (.pointer (some (F 2)))) (Qd (w:=w2.drew) HC2.o.cells 0 rfl) (Qq (w:=w2.drew) HC2.o.cells 0) rfl rfl ?_
   have hRe:R=((3,⟨#[]⟩),[],c,Zm n (sOf kCp)):=by
    rw[HR.o]
    unfold Zz
    rw[HFN.o]
   rw[hRe]
   exact Qey (HC2.o.below (Ql w2)) (HN2.o.below (Ql w2)) HFW.o.drew (Sub.refl _ _) (World.ownsRow_nil _ _ _ _) (.inr (.inl ⟨2,by decide,by decide,rfl,rfl⟩)))
 obtain⟨q,hq⟩:∃ q,q=Yc data c.key.data.toList:=⟨_,rfl⟩
 have hlen:=HCS.o data hfd;have hsnd:=Qb1 data c.key.data.toList;rw[←hq] at hsnd;have hcv:∀ W,Below w2.heap.size w2 W→Sem.run prog (convert 94 9 (.slice a k cc)) W=.ok (.string (sOf data)) W:=fun W hW=>Qep (hob.at.below hW)
 have hcon:∀ W,Below w2.heap.size w2 W→Calls prog 67 #[.string (sOf data),.string c.key] W (Qjm q W):=fun W hW=>by have h1:=Qo0 (sOf data) c.key W (by rw[Qbo];exact hlen) hkey (HE2.o.below hW).num;rw[show (sOf data).data.toList=data by simp[sOf],←hq] at h1;exact h1
 obtain⟨qn,qh,qb⟩:=q;have hcd:=hcv w2.drew (Ql w2);have HFD:=zh hfd;have HQ:=zh hq;have HSND:=zh hsnd;have HCON:=zh hcon;have HCV:=zh hcv;clear hfd hob hq hlen hsnd hcon hcv
 go_upto_region 6 with fail
 go_cut [6,7] from 25 to 34 (fun s6 s7 wx=>∃ q6,s6=.pointer (some ⟨q6,0,none⟩)∧s7=.bool qb∧Aside (TrAt wx q6 qn qh)∧Aside (Below w2.heap.size w2 wx)∧w2.heap.size≤q6)
 case first=>
  have hgc2:gc<w2.heap.size:=HC2.o.lt;have hne1:¬ gc=w2.heap.size:=by omega
  have k1:w2.cell? ⟨gc,3,none⟩=some (.string c.key):=Qd HC2.o.cells 3 rfl;have k1d:w2.drew.cell? ⟨gc,3,none⟩=some (.string c.key):=k1;have ka1:(w2.alloc (.cells #[.int .i64 0,.int .u8 0,.int .u8 0,.int .u8 0,.int .u8 0,.int .u8 0,.int .u8 0,.int .u8 0,.int .u8 0] 111)).drew.cell? ⟨gc,3,none⟩=some (.string c.key):=((Qa w2 _).cell (p:=⟨gc,3,none⟩) hgc2).trans k1;have hca:=HCV.o (w2.alloc (.cells #[.int .i64 0,.int .u8 0,.int .u8 0,.int .u8 0,.int .u8 0,.int .u8 0,.int .u8 0,.int .u8 0,.int .u8 0] 111)).drew ((Qa w2 _).drew);rw[Q8l]
  go_region_held3 (fun w'=>w'.cell? ⟨gc,3,none⟩=some (.string c.key)) (first|(with_reducible first|exact k1d|exact m1|exact ka1|exact mz1|exact (Q5b w7 _ _ _).cell m1 hne1)|exact ((Qa w7 _).cell (p:=⟨gc,3,none⟩) mb1).trans m1|fail) (first|(go_at_call 67;refine (HCON.o _ (Ql w2)).mono ?_;rintro e w7 ⟨rfl,hb7⟩;have HB7:=zh (show Below w2.heap.size w2 w7 from (Ql w2).trans hb7);have m1:=(HB7.o.cell (p:=⟨gc,3,none⟩) hgc2).trans k1;have mb1:=Nat.lt_of_lt_of_le hgc2 HB7.o.size;have mz1:(w7.alloc (.cells #[.int .i64 0,.int .u8 0,.int .u8 0,.int .u8 0,.int .u8 0,.int .u8 0,.int .u8 0,.int .u8 0,.int .u8 0] 111)).cell? ⟨gc,3,none⟩=some (.string c.key):=((Qa w7 _).cell (p:=⟨gc,3,none⟩) mb1).trans m1;clear hb7)|(go_at_call 67;refine (HCON.o _ ((Ql w2).alloc (Nat.le_refl _) _)).mono ?_;rintro e w7 ⟨rfl,hb7⟩;have HB7:=zh (show Below w2.heap.size w2 w7 from ((Ql w2).alloc (Nat.le_refl _) _).trans (hb7.mono (by simp)));have m1:=(HB7.o.cell (p:=⟨gc,3,none⟩) hgc2).trans k1;have mb1:=Nat.lt_of_lt_of_le hgc2 HB7.o.size;have mz1:(w7.alloc (.cells #[.int .i64 0,.int .u8 0,.int .u8 0,.int .u8 0,.int .u8 0,.int .u8 0,.int .u8 0,.int .u8 0,.int .u8 0] 111)).cell? ⟨gc,3,none⟩=some (.string c.key):=((Qa w7 _).cell (p:=⟨gc,3,none⟩) mb1).trans m1;have HT7:=zh (TrAt.below (show TrAt (w2.drew.alloc (.cells (trC 0 zero8) 111)) w2.heap.size 0 zero8 from heap_alloc_new w2.drew _) hb7);have ⟨n0,n1,n2,n3,n4,n5,n6,n7,n8⟩:=HT7.o.cells;have nf:=(fun i=>Qq HT7.o i:∀ i,w7.frozen? ⟨w2.heap.size,i,none⟩=false);have nb:=Qc HT7.o;clear hb7)|fail)
  all_goals (
   go_wp2_with fail
   go_meet
   show ∃ q6,_∧_∧Aside (TrAt _ q6 qn qh)∧Aside (Below w2.heap.size w2 _)∧w2.heap.size≤q6
   first
    | (
      refine⟨w7.heap.size,rfl,rfl,?_,?_,HB7.o.size⟩
      ·show TrAt _ _ _ _
       exact heap_alloc_new w7 _
      ·show Below _ _ _
       exact HB7.o.alloc HB7.o.size _)
    | (
      refine⟨w2.heap.size,rfl,rfl,?_,?_,Nat.le_refl _⟩
      ·show TrAt _ _ _ _
       exact Q7k HT7.o qn qh
      ·show Below _ _ _
       exact HB7.o.trans ((Q5b w7 w2.heap.size qn qh).below HB7.o.size fun k hk e=>by omega)))
 case rest=>
  obtain⟨q6,rfl,rfl,HT6,HB6,hq6⟩:=hcut;have HC6:=zh (HC2.o.below HB6.o);have HE6:=zh (HE2.o.below HB6.o);have ht0:=HT6.o.cells.1;have hc4:wc.cell? ⟨gc,4,none⟩=some (.int .i64 c.size):=Qd HC6.o.cells 4 rfl;obtain⟨_,_,g2,g3,g4,_,_⟩:=HE6.o.sents.cells;cases qb with
  | false=>
   go_wp2;go_region
   all_goals (
    go_wp2
    refine Qcf (v:=.slice none 0 0) (y:=.iface 338 (.pointer (some (F 2)))) (Qd (w:=wc.drew) HC6.o.cells 0 rfl) (Qq (w:=wc.drew) HC6.o.cells 0) rfl rfl ?_
    have hRe:R=((3,⟨#[]⟩),[],c,Zm n (sOf kCp)):=by
     rw[HR.o]
     unfold Zz
     rw[HFD.o]
     dsimp only
     rw[←HQ.o]
     rfl
    rw[hRe]
    exact Qey (HC6.o.below (Ql wc)) ((HN2.o.below HB6.o).below (Ql wc)) ((HFW.o.trans (Fr.ofBelow HB6.o)).drew) (Sub.refl _ _) (World.ownsRow_nil _ _ _ _) (.inr (.inl ⟨2,by decide,by decide,rfl,rfl⟩)))
  | true=>
   obtain⟨p1,p2,_⟩:=HSND.o.1 rfl;dsimp only at p1 p2;obtain⟨N,rfl⟩:∃ N:Nat,qn=N:=⟨qn.toNat,by omega⟩
   have hUP:Zz c n=(if N<c.size then ((4,⟨#[]⟩),[],c,Zm n (sOf kCp)) else
     if N=c.size then (if qh=c.root then (Qcb,[],c,Zm n (sOf kCp)) else ((5,⟨#[]⟩),[],c,Zm n (sOf kCp))) else
     if c.size=0 then (Qcb,[],{ c with size:=N,root:=qh },Zm n (sOf kCp)) else
     match Qgc c.size N (askQ (Zm n (sOf kCp)) c.cache) with
     | (.error (.miss p),s)=>((6,p),[],{ c with cache:=s.cache },s.net)
     | (.error .panic,s)=>((99,⟨#[]⟩),[],{ c with cache:=s.cache },s.net)
     | (.ok l,s)=>if consistent c.size N c.root qh l=true then (Qcb,l,{ c with size:=N,root:=qh,cache:=Zf s.cache s.files },s.net) else ((5,⟨#[]⟩),[],{ c with cache:=s.cache },s.net)):=by
    unfold Zz;rw[HFD.o];dsimp only;rw[←HQ.o];dsimp only;rw[if_neg (by decide),Int.toNat_natCast];rfl
   have HUP:=zh hUP;have hask:=fun h1 h2=>HASK.o data N HFD.o (by rw[←HQ.o]) (by rw[←HQ.o]) h1 h2
   have HAS:=zh hask;clear hUP hask HASK;rcases Nat.lt_trichotomy N c.size with hl|hl|hl
   ·have hli:(N:Int)<(c.size:Int):=by omega
    have HLN:=zh hl;clear hl
    go_upto_region 9 with fail
    go_region
    all_goals (
     go_wp2
     go_region
     all_goals (
      go_wp2
      have hb:Below wc.heap.size wc wc.drew.drew:=(Ql wc).drew
      refine Qcf (v:=.slice none 0 0) (y:=.iface 338 (.pointer (some (F 3)))) (Qd (w:=wc.drew.drew) HC6.o.cells 0 rfl) (Qq (w:=wc.drew.drew) HC6.o.cells 0) rfl rfl ?_
      have hRe:R=((4,⟨#[]⟩),[],c,Zm n (sOf kCp)):=by rw[HR.o,HUP.o,if_pos HLN.o]
      rw[hRe]
      exact Qey (HC6.o.below hb) ((HN2.o.below HB6.o).below hb) (HFW.o.trans (Fr.ofBelow (HB6.o.trans (hb.mono HB6.o.size)))) (Sub.refl _ _) (World.ownsRow_nil _ _ _ _) (.inr (.inl ⟨3,by decide,by decide,rfl,rfl⟩))))
   ·have hc4N:wc.cell? ⟨gc,4,none⟩=some (.int .i64 N):=by rw[hl];exact hc4
    have HLN:=zh hl;obtain⟨_,t1,t2,t3,t4,t5,t6,t7,t8⟩:=HT6.o.cells;have k0:wc.cell? ⟨gc,5,none⟩=some (bv c.root[0]):=Qd HC6.o.cells 5 rfl;have k1:wc.cell? ⟨gc,6,none⟩=some (bv c.root[1]):=Qd HC6.o.cells 6 rfl;have k2:wc.cell? ⟨gc,7,none⟩=some (bv c.root[2]):=Qd HC6.o.cells 7 rfl;have k3:wc.cell? ⟨gc,8,none⟩=some (bv c.root[3]):=Qd HC6.o.cells 8 rfl;have k4:wc.cell? ⟨gc,9,none⟩=some (bv c.root[4]):=Qd HC6.o.cells 9 rfl;have k5:wc.cell? ⟨gc,10,none⟩=some (bv c.root[5]):=Qd HC6.o.cells 10 rfl;have k6:wc.cell? ⟨gc,11,none⟩=some (bv c.root[6]):=Qd HC6.o.cells 11 rfl;have k7:wc.cell? ⟨gc,12,none⟩=some (bv c.root[7]):=Qd HC6.o.cells 12 rfl;have hnq:=fun W=>Q6c W qh c.root
    obtain⟨eb,heb⟩:∃ eb,eb=decide (qh=c.root):=⟨_,rfl⟩
    rw[←heb] at hnq;have HEB:=zh heb;clear hl hc4 heb
    go_upto_region 9 with fail
    go_region
    all_goals (
     go_upto_region 11 with fail
     cases eb with
     | false=>
      go_quiet (fail)
      go_wp2
      go_region
      all_goals (
       go_wp2
       have hb:Below wc.heap.size wc (wc.drewN (1+nq+1)):=Za (Below.refl _ _) _
       refine Qcf (v:=.slice none 0 0) (y:=.iface 338 (.pointer (some (F 4)))) (Qd (w:=wc.drewN (1+nq+1)) HC6.o.cells 0 rfl) (Qq (w:=wc.drewN (1+nq+1)) HC6.o.cells 0) rfl rfl ?_
       have hRe:R=((5,⟨#[]⟩),[],c,Zm n (sOf kCp)):=by rw[HR.o,HUP.o,if_neg (by rw[HLN.o];exact Nat.lt_irrefl _),if_pos HLN.o,if_neg (of_decide_eq_false HEB.o.symm)]
       rw[hRe]
       exact Qey (HC6.o.below hb) ((HN2.o.below HB6.o).below hb) (HFW.o.trans (Fr.ofBelow (HB6.o.trans (hb.mono HB6.o.size)))) (Sub.refl _ _) (World.ownsRow_nil _ _ _ _) (.inr (.inl ⟨4,by decide,by decide,rfl,rfl⟩)))
     | true=>
      go_quiet (fail)
      go_wp2
      go_region
      all_goals (
       try go_wp2
       have hb:Below wc.heap.size wc (wc.drewN (1+nq+1)):=Za (Below.refl _ _) _
       refine Qcf (v:=.slice none 0 0) (y:=.nilIface) (Qd (w:=wc.drewN (1+nq+1)) HC6.o.cells 0 rfl) (Qq (w:=wc.drewN (1+nq+1)) HC6.o.cells 0) rfl rfl ?_
       have hRe:R=(Qcb,[],c,Zm n (sOf kCp)):=by rw[HR.o,HUP.o,if_neg (by rw[HLN.o];exact Nat.lt_irrefl _),if_pos HLN.o,if_pos (of_decide_eq_true HEB.o.symm)]
       rw[hRe]
       exact Qey (HC6.o.below hb) ((HN2.o.below HB6.o).below hb) (HFW.o.trans (Fr.ofBelow (HB6.o.trans (hb.mono HB6.o.size)))) (Sub.refl _ _) (World.ownsRow_nil _ _ _ _) (.inl ⟨rfl,rfl⟩)))
   ·have hlt1:¬ (N:Int)<(c.size:Int):=by omega
    have hne1:((N:Int) == (c.size:Int))=false:=by rw[beq_eq_false_iff_ne];omega
    have HLN:=zh hl;have hN63:N<9223372036854775808:=by omega
    clear hl
    go_upto_region 9 with fail
    go_region
    all_goals (
     go_upto_region 11 with fail
     go_quiet (fail)
     go_upto_region 13 with fail
     go_region
     all_goals (
      go_upto_region 15 with fail
      obtain⟨wd,hwd⟩:∃ wd,wd=wc.drewN (1+nq+1):=⟨_,rfl⟩
      have hbd:Below wc.heap.size wc wd:=by rw[hwd];exact Za (Below.refl _ _) _
      have HBD:=zh hbd
      rw[←hwd]
      clear hwd hbd hc4 ht0 hne1 hlt1 g2 g3 g4
      have HCD:=zh (HC6.o.below HBD.o)
      have HTD:=zh (HT6.o.below HBD.o)
      have d4:wd.cell? ⟨gc,4,none⟩=some (.int .i64 c.size):=Qd HCD.o.cells 4 rfl
      obtain⟨t0,t1,t2,t3,t4,t5,t6,t7,t8⟩:=HTD.o.cells
      rcases Nat.eq_zero_or_pos c.size with hz|hz
      ·have hz2:(c.size:Int)=0:=by omega
       rw[hz2] at d4
       have HZ:=zh hz
       clear hz hz2
       have k0:wd.cell? ⟨gc,5,none⟩=some (bv c.root[0]):=Qd HCD.o.cells 5 rfl
       have k1:wd.cell? ⟨gc,6,none⟩=some (bv c.root[1]):=Qd HCD.o.cells 6 rfl
       have k2:wd.cell? ⟨gc,7,none⟩=some (bv c.root[2]):=Qd HCD.o.cells 7 rfl
       have k3:wd.cell? ⟨gc,8,none⟩=some (bv c.root[3]):=Qd HCD.o.cells 8 rfl
       have k4:wd.cell? ⟨gc,9,none⟩=some (bv c.root[4]):=Qd HCD.o.cells 9 rfl
       have k5:wd.cell? ⟨gc,10,none⟩=some (bv c.root[5]):=Qd HCD.o.cells 10 rfl
       have k6:wd.cell? ⟨gc,11,none⟩=some (bv c.root[6]):=Qd HCD.o.cells 11 rfl
       have k7:wd.cell? ⟨gc,12,none⟩=some (bv c.root[7]):=Qd HCD.o.cells 12 rfl
       have kf:∀ i,wd.frozen? ⟨gc,i,none⟩=false:=fun i=>Qq HCD.o.cells i
       have kgc:=Qc HCD.o.cells
       go_upto_region 16 with fail
       go_upto_region 17 with (first|(refine Yz rfl _ rfl _ rfl _ _ HTD.o ?_)|fail)
       go_wp2
       have hq:=Q5h HCD.o N qh
       refine Qcf (v:=.slice none 0 0) (y:=.nilIface) (Qd hq.cells 0 rfl) (Qq hq.cells 0) rfl rfl ?_
       have hRe:R=(Qcb,[],{ c with size:=N,root:=qh },Zm n (sOf kCp)):=by rw[HR.o,HUP.o,if_neg (by have:=HLN.o;omega),if_neg (by have:=HLN.o;omega),if_pos HZ.o]
       rw[hRe]
       have hF:=Q11 wd gc N qh
       have hk:=Qw HCD.o.cells
       exact Qey hq (Yq ((HN2.o.below HB6.o).below HBD.o) hF hk (by decide) (by decide) (by decide)) ((HFW.o.trans (Fr.ofBelow (HB6.o.trans (HBD.o.mono HB6.o.size)))).step hF fun i hi e=>.inl (.inl e)) (Sub.refl _ _) (World.ownsRow_nil _ _ _ _) (.inl ⟨rfl,rfl⟩)
      ·have hzb:((c.size:Int) == 0)=false:=by rw[beq_eq_false_iff_ne];omega
       obtain⟨n1,hn1⟩:∃ n1,n1=Zm n (sOf kCp):=⟨_,rfl⟩
       have hdf1:d.files=n1.files:=by rw[hn1,(Yg n (sOf kCp)).2.1];exact HDF.o
       obtain⟨ha1,ha2,ha3⟩:=HAS.o HLN.o hz
       have hnd:Yk wd gn gd vl vt n1:=by rw[hn1];exact (HN2.o.below HB6.o).below HBD.o
       have hdd:Q3 wd gd v d:=((HD1.o.kept HF2.o (Qcm HN1.o) (by decide) (by decide)).below HB6.o).below HBD.o
       have hed:EnvS F (cnS gc gk mc gn vt qs) wd:=HE6.o.below HBD.o
       have hud:=HUP.o
       rw[if_neg (by have:=HLN.o;omega),if_neg (by have:=HLN.o;omega),if_neg (by omega)] at hud
       rw[←hn1] at hud ha1 ha2
       obtain⟨s0,hs0⟩:∃ s,s=askQ n1 c.cache:=⟨_,rfl⟩
       rw[←hs0] at hud ha1 ha2
       obtain⟨o2,s2,hr2⟩:∃ o s,Qgc c.size N s0=(o,s):=⟨_,_,rfl⟩
       rw[hr2] at hud ha2
       have hfrd:Fr (cnS gc gk mc gn vt qs) w wd:=HFW.o.trans (Fr.ofBelow (HB6.o.trans (HBD.o.mono HB6.o.size)))
       have HFRD:=zh hfrd
       have HZ:=zh hz
       have HUD:=zh hud
       have HA1:=zh ha1
       have HA2:=zh ha2
       have HA3:=zh ha3
       have HND:=zh hnd
       have HDD:=zh hdd
       have HED:=zh hed
       have HDF1:=zh hdf1
       have HS0:=zh hs0
       have HR2:=zh hr2
       clear hz ha1 ha2 ha3 hnd hdd hed hud hs0 hr2 hdf1 hn1 hfrd t1 t2 t3 t4 t5 t6 t7 t8
       go_upto_region 19 with (first
        | (go_at_call 86;refine (Qvh wd gc N).mono ?_;rintro e w3 ⟨gq,mq,rfl,hq3,hm3,hb3,hg3,hmm3⟩;have HQ3:=zh hq3;have HM3:=zh hm3;have HB3:=zh hb3;clear hq3 hm3 hb3)
        | fail)
       have hq0:=Q44 (N:=N) HCD.o HND.o HDD.o HDF1.o (fun z hz=>by cases hz) HB3.o HQ3.o HM3.o hmm3
       rw[←HS0.o] at hq0
       have hE3:EnvS F (QS (cQ gq gc gk mc gn gd mq vl vt v c) ⟨.slice none 0 0,qs,[]⟩) w3:=HED.o.step (Fr.ofBelow HB3.o) fun k hk=>by
        rcases Nat.lt_or_ge k wd.heap.size with hlk|hge
        ·exact .inl (Qp9 hg3 hmm3 hlk hk)
        ·exact .inr hge
       have hpr:=fun W hW g1 g3 hc=>Qw6 F W (cQ gq gc gk mc gn gd mq vl vt v c) ⟨.slice none 0 0,qs,[]⟩ N s0 d (hq0.below hW) (hE3.below hW) g1 g3 hc c.size N HZ.o (Nat.le_of_lt HLN.o) (Nat.le_refl _) hN63 HA1.o (by show (Qgc c.size N s0).1≠_;rw[HR2.o];exact HA2.o)
       rw[show Zg N (Jy N 0 N c.size).reverse s0=(o2,s2) from HR2.o] at hpr
       have hwh:=fun W hW=>Qmd W (cQ gq gc gk mc gn gd mq vl vt v c) ⟨.slice none 0 0,qs,[]⟩ N s0 d (hq0.below hW)
       have hT3:=HTD.o.below HB3.o
       have k99:w3.cell? ⟨gc,4,none⟩=some (.int .i64 c.size):=Qd (HCD.o.below HB3.o).cells 4 rfl
       have kd99:w3.drew.cell? ⟨gc,4,none⟩=some (.int .i64 c.size):=k99
       have r0:w3.cell? ⟨q6,0,none⟩=some (.int .i64 N):=hT3.cells.1
       have rd0:w3.drew.cell? ⟨q6,0,none⟩=some (.int .i64 N):=r0
       have hb3g:gc<w3.heap.size:=Qc (HCD.o.below HB3.o).cells
       have hb3q:q6<w3.heap.size:=Qc hT3
       have HQ0:=zh hq0
       have HE3:=zh hE3
       have HPR:=zh hpr
       have HWH:=zh hwh
       have HT3:=zh hT3
       clear hq0 hE3 hpr hwh hT3
       go_region_held3 (fun w'=>w'.cell? ⟨gc,4,none⟩=some (.int .i64 c.size)∧w'.cell? ⟨q6,0,none⟩=some (.int .i64 N)) (first|with_reducible exact⟨k99,r0⟩|with_reducible exact⟨kd99,rd0⟩|with_reducible exact⟨m99,n0⟩|with_reducible exact⟨e99,f0⟩|fail) (first
        | (go_at_call 88;refine (HWH.o _ (Ql w3)).mono ?_;rintro e w4 ⟨g1,g3,rfl,hc4,hb4⟩;have HC4:=zh hc4;have HB4:=zh (show Below w3.heap.size w3 w4 from (Ql w3).trans hb4);have m99:=(HB4.o.cell (p:=⟨gc,4,none⟩) hb3g).trans k99;have n0:=(HB4.o.cell (p:=⟨q6,0,none⟩) hb3q).trans r0;clear hc4 hb4)
        | (go_at_call 87;refine (HPR.o w4 HB4.o g1 g3 HC4.o).mono ?_;intro e w5 h5;obtain⟨v5,y5,rfl,⟨x5,hx5,hf5,hs5⟩,hy5⟩:=Qwi h5;have HX5:=zh hx5;have HF5:=zh hf5;have HS5:=zh hs5;have HY5:=zh hy5;have HTQ:=zh (show TrAt w5 q6 N qh from Ze (HT3.o.below HB4.o) hf5 (Qpr (HQ0.o.below HB4.o)) (by decide));have e99:w5.cell? ⟨gc,4,none⟩=some (.int .i64 c.size):=Qd hx5.cli 4 rfl;have f0:w5.cell? ⟨q6,0,none⟩=some (.int .i64 N):=HTQ.o.cells.1;clear h5 hx5 hf5 hs5 hy5)
        | fail)
       all_goals (
        have hF5:Fr (QS (cQ gq gc gk mc gn gd mq vl vt v c) ⟨.slice none 0 0,qs,[]⟩) w3 w5:=(Fr.ofBelow HB4.o).trans HF5.o
        have hS5:Sub w3 (QS (cQ gq gc gk mc gn gd mq vl vt v c) ⟨.slice none 0 0,qs,[]⟩) (QS (cQ gq gc gk mc gn gd mq vl vt v c) x5):=HS5.o.mono HB4.o.size
        have hcli:w5.heap[gc]?=some (.cells (cliC 1 (.iface 44 (.pointer (some ⟨gn,0,none⟩))) c.key c.size c.root gk) 177 (0,0)):=HX5.o.cli
        have hz4:w.heap.size≤w4.heap.size:=Nat.le_trans HFRD.o.size (Nat.le_trans HB3.o.size HB4.o.size)
        have hY5:=HY5.o
        have HFF:=zh hF5
        have HSS:=zh hS5
        have HCLI:=zh hcli
        have HZ4:=zh hz4
        clear hF5 hS5 hcli hz4 HY5 e99 f0
        rcases hY5 with ⟨l5,hol,rfl,hv5⟩|⟨p,hop,rfl,⟨ge,rfl⟩,hme⟩
        rotate_left
        ·have HOP:=zh hop
         have HME:=zh hme
         clear hop hme
         go_wp2
         refine Qcf (v:=.slice none 0 0) (y:=.iface 153 (.pointer (some ⟨ge,0,none⟩))) (Qd HCLI.o 0 rfl) (Qq HCLI.o 0) rfl rfl ?_
         have hRe:R=((6,p),[],{ c with cache:=s2.cache },s2.net):=by
          have hop2:o2=.error (.miss p):=HOP.o
          rw[HR.o,HUD.o,hop2]
         rw[hRe]
         obtain⟨qs',u1,u2,u3,u4⟩:=Qtl HFRD.o HB3.o hg3 hmm3 HX5.o HFF.o HSS.o
         exact Qey u1 u2 u3 u4 (World.ownsRow_nil _ _ _ _) (.inr (.inr ⟨p,rfl,Y5.low HME.o HZ4.o⟩))
        ·have hol:o2=.ok l5:=hol
         subst hol
         have hpl:l5.length≤1048576:=by
          have e:=Qhv N (Jy N 0 N c.size).reverse s0 s2 l5 HR2.o
          have:=Qia N 63 0 N c.size (by omega) (Nat.le_refl _) HZ.o
          rw[e,List.length_reverse]
          omega
         have hco:∀ W,Below w5.heap.size w5 W→Calls prog 90 #[.int .i64 c.size,.int .i64 N,.agg #[bv c.root[0],bv c.root[1],bv c.root[2],bv c.root[3],bv c.root[4],bv c.root[5],bv c.root[6],bv c.root[7]],.agg #[bv qh[0],bv qh[1],bv qh[2],bv qh[3],bv qh[4],bv qh[5],bv qh[6],bv qh[7]],v5] W fun e w'=>e=.returned (.bool (consistent c.size N c.root qh l5))∧Below W.heap.size W w':=fun W hW=>by
          have:=Qm4 l5 c.root qh c.size N v5 W (Qcu.at (Qn hv5 hW)) (by omega) (by omega) hpl
          rw[Qgb,Qgb] at this
          exact this
         obtain⟨ib,hib⟩:∃ x,x=consistent c.size N c.root qh l5:=⟨_,rfl⟩
         rw[←hib] at hco
         have k99:w5.cell? ⟨gc,4,none⟩=some (.int .i64 c.size):=Qd HCLI.o 4 rfl
         have kd99:w5.drew.cell? ⟨gc,4,none⟩=some (.int .i64 c.size):=k99
         have k0:w5.cell? ⟨gc,5,none⟩=some (bv c.root[0]):=Qd HCLI.o 5 rfl
         have k1:w5.cell? ⟨gc,6,none⟩=some (bv c.root[1]):=Qd HCLI.o 6 rfl
         have k2:w5.cell? ⟨gc,7,none⟩=some (bv c.root[2]):=Qd HCLI.o 7 rfl
         have k3:w5.cell? ⟨gc,8,none⟩=some (bv c.root[3]):=Qd HCLI.o 8 rfl
         have k4:w5.cell? ⟨gc,9,none⟩=some (bv c.root[4]):=Qd HCLI.o 9 rfl
         have k5:w5.cell? ⟨gc,10,none⟩=some (bv c.root[5]):=Qd HCLI.o 10 rfl
         have k6:w5.cell? ⟨gc,11,none⟩=some (bv c.root[6]):=Qd HCLI.o 11 rfl
         have k7:w5.cell? ⟨gc,12,none⟩=some (bv c.root[7]):=Qd HCLI.o 12 rfl
         have kd0:w5.drew.cell? ⟨gc,5,none⟩=some (bv c.root[0]):=k0
         have kd1:w5.drew.cell? ⟨gc,6,none⟩=some (bv c.root[1]):=k1
         have kd2:w5.drew.cell? ⟨gc,7,none⟩=some (bv c.root[2]):=k2
         have kd3:w5.drew.cell? ⟨gc,8,none⟩=some (bv c.root[3]):=k3
         have kd4:w5.drew.cell? ⟨gc,9,none⟩=some (bv c.root[4]):=k4
         have kd5:w5.drew.cell? ⟨gc,10,none⟩=some (bv c.root[5]):=k5
         have kd6:w5.drew.cell? ⟨gc,11,none⟩=some (bv c.root[6]):=k6
         have kd7:w5.drew.cell? ⟨gc,12,none⟩=some (bv c.root[7]):=k7
         obtain⟨r0,r1,r2,r3,r4,r5,r6,r7,r8⟩:=HTQ.o.cells
         have rd0:w5.drew.cell? ⟨q6,0,none⟩=some (.int .i64 N):=r0
         have rd1:w5.drew.cell? ⟨q6,1,none⟩=some (bv qh[0]):=r1
         have rd2:w5.drew.cell? ⟨q6,2,none⟩=some (bv qh[1]):=r2
         have rd3:w5.drew.cell? ⟨q6,3,none⟩=some (bv qh[2]):=r3
         have rd4:w5.drew.cell? ⟨q6,4,none⟩=some (bv qh[3]):=r4
         have rd5:w5.drew.cell? ⟨q6,5,none⟩=some (bv qh[4]):=r5
         have rd6:w5.drew.cell? ⟨q6,6,none⟩=some (bv qh[5]):=r6
         have rd7:w5.drew.cell? ⟨q6,7,none⟩=some (bv qh[6]):=r7
         have rd8:w5.drew.cell? ⟨q6,8,none⟩=some (bv qh[7]):=r8
         have hb5g:gc<w5.heap.size:=Qc HCLI.o
         have hb5q:q6<w5.heap.size:=Qc HTQ.o
         have HV5:=zh hv5
         have HCO:=zh hco
         have HIB:=zh hib
         clear hv5 hco hib hpl
         go_upto_region 22 with fail
         go_cut [126] from 110 to 125 (fun s126 wx=>s126=.bool (!ib)∧Aside (Below w5.heap.size w5 wx))
         case first=>
          go_region_held3 (fun w'=>w'.cell? ⟨gc,4,none⟩=some (.int .i64 c.size)∧w'.cell? ⟨gc,5,none⟩=some (bv c.root[0])∧w'.cell? ⟨gc,6,none⟩=some (bv c.root[1])∧w'.cell? ⟨gc,7,none⟩=some (bv c.root[2])∧w'.cell? ⟨gc,8,none⟩=some (bv c.root[3])∧w'.cell? ⟨gc,9,none⟩=some (bv c.root[4])∧w'.cell? ⟨gc,10,none⟩=some (bv c.root[5])∧w'.cell? ⟨gc,11,none⟩=some (bv c.root[6])∧w'.cell? ⟨gc,12,none⟩=some (bv c.root[7])∧w'.cell? ⟨q6,0,none⟩=some (.int .i64 N)∧w'.cell? ⟨q6,1,none⟩=some (bv qh[0])∧w'.cell? ⟨q6,2,none⟩=some (bv qh[1])∧w'.cell? ⟨q6,3,none⟩=some (bv qh[2])∧w'.cell? ⟨q6,4,none⟩=some (bv qh[3])∧w'.cell? ⟨q6,5,none⟩=some (bv qh[4])∧w'.cell? ⟨q6,6,none⟩=some (bv qh[5])∧w'.cell? ⟨q6,7,none⟩=some (bv qh[6])∧w'.cell? ⟨q6,8,none⟩=some (bv qh[7])) (first|with_reducible exact⟨k99,k0,k1,k2,k3,k4,k5,k6,k7,r0,r1,r2,r3,r4,r5,r6,r7,r8⟩|with_reducible exact⟨kd99,kd0,kd1,kd2,kd3,kd4,kd5,kd6,kd7,rd0,rd1,rd2,rd3,rd4,rd5,rd6,rd7,rd8⟩|with_reducible exact⟨m99,m0,m1,m2,m3,m4,m5,m6,m7,n0,n1,n2,n3,n4,n5,n6,n7,n8⟩|fail) (first|(go_at_call 90;refine (HCO.o _ (Ql w5)).mono ?_;rintro e w7 ⟨rfl,hb7⟩;have HB7:=zh (show Below w5.heap.size w5 w7 from (Ql w5).trans hb7);have m99:=(HB7.o.cell (p:=⟨gc,4,none⟩) hb5g).trans k99;have m0:=(HB7.o.cell (p:=⟨gc,5,none⟩) hb5g).trans k0;have m1:=(HB7.o.cell (p:=⟨gc,6,none⟩) hb5g).trans k1;have m2:=(HB7.o.cell (p:=⟨gc,7,none⟩) hb5g).trans k2;have m3:=(HB7.o.cell (p:=⟨gc,8,none⟩) hb5g).trans k3;have m4:=(HB7.o.cell (p:=⟨gc,9,none⟩) hb5g).trans k4;have m5:=(HB7.o.cell (p:=⟨gc,10,none⟩) hb5g).trans k5;have m6:=(HB7.o.cell (p:=⟨gc,11,none⟩) hb5g).trans k6;have m7:=(HB7.o.cell (p:=⟨gc,12,none⟩) hb5g).trans k7;have n0:=(HB7.o.cell (p:=⟨q6,0,none⟩) hb5q).trans r0;have n1:=(HB7.o.cell (p:=⟨q6,1,none⟩) hb5q).trans r1;have n2:=(HB7.o.cell (p:=⟨q6,2,none⟩) hb5q).trans r2;have n3:=(HB7.o.cell (p:=⟨q6,3,none⟩) hb5q).trans r3;have n4:=(HB7.o.cell (p:=⟨q6,4,none⟩) hb5q).trans r4;have n5:=(HB7.o.cell (p:=⟨q6,5,none⟩) hb5q).trans r5;have n6:=(HB7.o.cell (p:=⟨q6,6,none⟩) hb5q).trans r6;have n7:=(HB7.o.cell (p:=⟨q6,7,none⟩) hb5q).trans r7;have n8:=(HB7.o.cell (p:=⟨q6,8,none⟩) hb5q).trans r8;clear hb7)|fail)
          all_goals (
           go_wp2_with fail
           go_meet
           exact⟨rfl,HB7.o⟩)
         case rest=>
          obtain⟨rfl,HB7⟩:=hcut
          obtain⟨w7,hw7⟩:∃ w7,w7=wc:=⟨_,rfl⟩
          rw[←hw7] at HB7
          rw[←hw7]
          clear hw7 k99 kd99 k0 k1 k2 k3 k4 k5 k6 k7 kd0 kd1 kd2 kd3 kd4 kd5 kd6 kd7 r0 r1 r2 r3 r4 r5 r6 r7 r8 rd0 rd1 rd2 rd3 rd4 rd5 rd6 rd7 rd8
          cases ib with
          | false=>
           rename_i K1 a1 K2 a2
           refine a2 _ _ ?_
           refine wp_cond_true rfl ?_
           have hg:=((HE3.o.step HFF.o HSS.o).below HB7.o).sents.cells.2.2.2.2.1
           have HCLI7:=zh ((HB7.o.block _ hb5g).trans HCLI.o)
           go_upto_region 23 with fail
           go_region
           all_goals (
            go_wp2
            have hb:Below w5.heap.size w5 w7.drew:=HB7.o.trans ((Ql w7).mono HB7.o.size)
            refine Qcf (v:=.slice none 0 0) (y:=.iface 338 (.pointer (some (F 4)))) (Qd (w:=w7.drew) HCLI7.o 0 rfl) (Qq (w:=w7.drew) HCLI7.o 0) rfl rfl ?_
            have hRe:R=((5,⟨#[]⟩),[],{ c with cache:=s2.cache },s2.net):=by
             rw[HR.o,HUD.o]
             try dsimp only
             rw[←HIB.o]
             rfl
            rw[hRe]
            obtain⟨qs',u1,u2,u3,u4⟩:=Qtl HFRD.o HB3.o hg3 hmm3 (HX5.o.below hb) (HFF.o.trans (Fr.ofBelow hb)) HSS.o
            exact Qey u1 u2 u3 u4 (World.ownsRow_nil _ _ _ _) (.inr (.inl ⟨4,by decide,by decide,rfl,rfl⟩)))
          | true=>
           rename_i K1 a1 K2 a2
           refine a2 _ _ ?_
           refine wp_cond_false rfl ?_
           have hq7:=HX5.o.below HB7.o
           have hcost:Cost (Zl N (Jy N 0 N c.size).reverse).length s0 s2:=by
            have:=Qc5 N (Jy N 0 N c.size).reverse s0
            rw[show Zg N (Jy N 0 N c.size).reverse s0=(.ok l5,s2) from HR2.o] at this
            exact this
           have hln:x5.qs.length+x5.vs.length<1099511627775:=by
            have a1:s2.cache.items.length=x5.qs.length:=by rw[hq7.cache.items,List.length_map]
            have a2:s2.files.length=x5.vs.length:=by rw[hq7.files,List.length_map]
            have a3:=hcost.files
            have a4:=hcost.items
            have a5:s0.files.length=0:=by rw[HS0.o];rfl
            have a6:s0.cache.items.length=c.cache.items.length:=by rw[HS0.o];rfl
            have:=HA3.o
            omega
           have hre:=Qkw w7 _ x5 N s2 d hq7 hln
           have hkc:=Qai hq7.cache
           have HRE:=zh hre
           have HKC:=zh hkc
           clear hq7 hcost hln hre hkc
           go_upto_region 25 with (first
            | (go_at_call 91;refine HRE.o.mono ?_;rintro e w9 ⟨rfl,qs9,hq9,hf9,hs9⟩;have HQ9:=zh hq9;have HF9:=zh hf9;have HS9:=zh hs9;clear hq9 hf9 hs9)
            | fail)
           have HTQ9:=zh (show TrAt w9 q6 N qh from Ze (HTQ.o.below HB7.o) HF9.o HKC.o (by decide))
           have hcli9:w9.heap[gc]?=some (.cells (cliC 1 (.iface 44 (.pointer (some ⟨gn,0,none⟩))) c.key c.size c.root gk) 177 (0,0)):=HQ9.o.cli
           have HCLI9:=zh hcli9
           have j99:w9.cell? ⟨gc,4,none⟩=some (.int .i64 c.size):=Qd HCLI9.o 4 rfl
           have j0:w9.cell? ⟨gc,5,none⟩=some (bv c.root[0]):=Qd HCLI9.o 5 rfl
           have j1:w9.cell? ⟨gc,6,none⟩=some (bv c.root[1]):=Qd HCLI9.o 6 rfl
           have j2:w9.cell? ⟨gc,7,none⟩=some (bv c.root[2]):=Qd HCLI9.o 7 rfl
           have j3:w9.cell? ⟨gc,8,none⟩=some (bv c.root[3]):=Qd HCLI9.o 8 rfl
           have j4:w9.cell? ⟨gc,9,none⟩=some (bv c.root[4]):=Qd HCLI9.o 9 rfl
           have j5:w9.cell? ⟨gc,10,none⟩=some (bv c.root[5]):=Qd HCLI9.o 10 rfl
           have j6:w9.cell? ⟨gc,11,none⟩=some (bv c.root[6]):=Qd HCLI9.o 11 rfl
           have j7:w9.cell? ⟨gc,12,none⟩=some (bv c.root[7]):=Qd HCLI9.o 12 rfl
           have jf:∀ i,w9.frozen? ⟨gc,i,none⟩=false:=fun i=>Qq HCLI9.o i
           have jgc:=Qc HCLI9.o
           clear hcli9
           go_upto_region 26 with (first|(refine Yz rfl _ rfl _ rfl _ _ HTQ9.o ?_)|fail)
           go_wp2
           have hF8:Fr (QS (cQ gq gc gk mc gn gd mq vl vt v c) ⟨.slice none 0 0,qs,[]⟩) w3 w7:=HFF.o.trans (Fr.ofBelow HB7.o)
           obtain⟨qs',u1,u2,u3,u4⟩:=Qtl (s:={ s2 with cache:=Zf s2.cache s2.files }) HFRD.o HB3.o hg3 hmm3 HQ9.o (Fr.sub hF8 (HF9.o.weak fun _ _ e=>.inr (.inl e)) HSS.o) (fun k hk=>by
            rcases hk with e|e|e
            ·exact HSS.o k (.inl e)
            ·rcases Nat.lt_or_ge k w7.heap.size with hlk|hge
             ·exact HSS.o k (.inr (.inl (HS9.o k hlk e)))
             ·exact .inr (Nat.le_trans hF8.size hge)
            ·exact HSS.o k (.inr (.inr e)))
           have hq:=Q5h u1 N qh
           refine Qcf (v:=v5) (y:=.nilIface) (Qd hq.cells 0 rfl) (Qq hq.cells 0) rfl rfl ?_
           have hRe:R=(Qcb,l5,{ c with size:=N,root:=qh,cache:=Zf s2.cache s2.files },s2.net):=by
            rw[HR.o,HUD.o]
            try dsimp only
            rw[←HIB.o]
            rfl
           rw[hRe]
           have hF:=Q11 w9 gc N qh
           have hk:=Qw HCLI9.o
           exact Qey hq (Yq u2 hF hk (by decide) (by decide) (by decide)) (u3.step hF fun i hi e=>.inl (.inl e)) u4 (Zi (Z2 (Zi (Qn HV5.o HB7.o) HF9.o HKC.o (by decide)) HZ4.o) hF hk (by decide)) (.inl ⟨rfl,rfl⟩))))
end
end
end Go.Proofs.YtefccfakhgdfbabGreatDoor
