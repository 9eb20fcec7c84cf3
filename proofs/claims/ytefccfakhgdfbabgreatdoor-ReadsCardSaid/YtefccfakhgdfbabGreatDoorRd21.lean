/- tileslaw.Reader.update: the walk. Conditions: bounds as the statement claims them. -/
import Derived.Test.YtefccfakhgdfbabGreatDoorRd20
set_option linter.unusedVariables false
set_option linter.unusedSimpArgs false
open Go.RowKit Go.Proofs.Tryz
set_option maxRecDepth 100000
set_option maxHeartbeats 4000000
namespace Go.Proofs.YtefccfakhgdfbabGreatDoor
section
def Qk8 (w:World) (gc gk mc gn gd:Nat) (vl vt:Value) (qs:List CEnt) (r:Tld×List Hsh×Cl×Nt) (e:Ending) (w':World):Prop:=
 ∃ v',e=.returned (.tuple #[v',Jn r.1.1 r.1.2])∧Q5 w' w.heap.size v' (r.2.1.map HS)∧
  ∃ qs',ClIs w' gc gk mc (.iface 44 (.pointer (some ⟨gn,0,none⟩))) r.2.2.1 qs'∧Yk w' gn gd vl vt r.2.2.2∧Fr (cnS gc gk mc gn vt qs) w w'∧Sub w (cnS gc gk mc gn vt qs) (cnS gc gk mc gn vt qs')
theorem Qww (F:Nat→Addr) (w:World) (ga gc gk mc gn gd:Nat) (vl vt:Value) (qs:List CEnt) (r:Tld×List Hsh×Cl×Nt) (hga:PcAt w ga gc) (hE:EnvS F (cnS gc gk mc gn vt qs) w) (hlt:∀ k,cnS gc gk mc gn vt qs k→k<w.heap.size) (hlen:r.2.1.length≤1048576)
  (hc:Calls prog 42 #[.pointer (some ⟨gc,0,none⟩)] (w.alloc (.cells #[.int .i64 0,.string ⟨#[]⟩] 29)) (Qte F (w.alloc (.cells #[.int .i64 0,.string ⟨#[]⟩] 29)) gc gk mc gn gd vl vt qs r)) :
  Calls prog 20 #[.pointer (some ⟨ga,0,none⟩)] w (Qk8 w gc gk mc gn gd vl vt qs r):=by
 obtain⟨⟨tk,tp⟩,hh,c1,n1⟩:=r;obtain⟨W0,hW0⟩:∃ W0,W0=w.alloc (.cells #[.int .i64 0,.string ⟨#[]⟩] 29):=⟨_,rfl⟩
 have hb0:Below w.heap.size w W0:=by rw[hW0];exact Qa w _
 have ht0:Z4 W0 w.heap.size 0 ⟨#[]⟩:=by rw[hW0];exact Qch w
 have hz0:W0.heap.size=w.heap.size+1:=by rw[hW0];simp
 have c0:W0.cell? ⟨ga,0,none⟩=some (.pointer (some ⟨gc,0,none⟩)):=Qd ((hb0.block _ (Qc hga)).trans hga) 0 rfl;rw[←hW0] at hc;have HW0:=zh hW0;have HB0:=zh hb0;have HT0:=zh ht0;have HE:=zh hE;have HLT:=zh hlt;have HLEN:=zh hlen;have HC:=zh hc;clear hga hE hlt hlen hc hW0 hb0 ht0
 go_enter func20,ntmps20
 go_upto_region 1 with fail
 rw[show w.alloc (.cells #[.int .i64 0,.string ⟨#[]⟩] 29)=W0 from HW0.o.symm]
 go_upto_region 2 with (first
  | (go_at_call 42;refine HC.o.mono ?_;rintro e w3 ⟨v,y,rfl,hv,hy,qs1,hcl,hn1,hf1,hs1⟩;have HV:=zh hv;have HV3:=zh (show Qcu w3 0 v hh from Z2 hv (Nat.zero_le _));have HY:=zh hy;have HCL:=zh hcl;have HN1:=zh hn1;have HF1:=zh hf1;have HS1:=zh hs1;clear hv hy hcl hn1 hf1 hs1)
  | fail)
 have ht1:Z4 w3 w.heap.size 0 ⟨#[]⟩:=HF1.o.heap HT0.o fun e=>by have:=HLT.o _ e;omega
 have hfr1:Fr (cnS gc gk mc gn vt qs) w w3:=(Fr.ofBelow HB0.o).trans HF1.o;have HT1:=zh ht1;have HFR1:=zh hfr1;clear ht1 hfr1 c0
 go_wp2_with (first
  | (go_at_call 43;refine (Qpj v hh w3 HV3.o HLEN.o).mono ?_;rintro e w4 ⟨v4,rfl,ho4,hf4⟩;obtain⟨va,vc,rfl⟩:=Zs ho4;have HO4:=zh ho4;have HF4:=zh hf4;have HK4:=zh (Qdi HV3.o);clear ho4 hf4)
  | (go_at_call 37;have hfr4:Fr (cnS gc gk mc gn vt qs) w w4:=HFR1.o.step HF4.o (fun i h1 h2=>absurd (HV.o.lt i h2).1 (by omega));have HFR4:=zh hfr4;have hy4:=HY.o.fr HF4.o (fun k C fz hC=>Zo HK4.o hC (by decide));have ht4:=HT1.o.kept HF4.o HK4.o (by decide);refine (Q1r (HE.o w4 hfr4).2.1 hy4).mono ?_;rintro e w5 ⟨rfl,hb5⟩;have HB5:=zh hb5;have HT5:=zh (ht4.below hb5);obtain⟨t0,t1,t2,t3,t4⟩:=HT5.o.facts;clear hfr4 hy4 ht4 hb5)
  | fail)
 have hts:=Qdv (m:=tk) (t:=tp) HT5.o;have hkt:=Qw HT5.o;have hf5:=hts.2;have e4:Value.slice va (hh.map HS).length vc=Value.slice va hh.length vc:=by rw[List.length_map]
 refine bodyPost_ret (v:=.tuple #[.slice va hh.length vc,Jn tk tp]) (by simp[results,results20,go_sem,t0,t1]) rfl ⟨_,rfl,?_,qs1,?_,?_,?_,?_⟩
 ·rw[←e4]
  exact Z2 (Zi (Qn HO4.o HB5.o) hf5 hkt (by decide)) (by have:=HF1.o.size;omega)
 ·have h4:=HCL.o.kept HF4.o HK4.o (fun k hk=>by obtain⟨C,hC⟩:=Qh HV3.o hk;exact⟨C,_,_,hC⟩) (by decide) (by decide) (by decide) (by decide)
  exact (h4.below HB5.o).kept hf5 hkt (fun k hk=>⟨_,_,_,(show w5.heap[k]?=_ from hk ▸ HT5.o)⟩) (by decide) (by decide) (by decide) (by decide)
 ·have h4:=Yq HN1.o HF4.o HK4.o (by decide) (by decide) (by decide)
  exact Yq (h4.below HB5.o) hf5 hkt (by decide) (by decide) (by decide)
 ·exact (HFR4.o.trans (Fr.ofBelow HB5.o)).step hf5 fun i h1 h2=>by omega
 ·exact HS1.o.mono (by omega)
end
section
section
variable {F:Nat→Addr} {w:World} {p:Pl} {m:Wm} {L:Lg} {P:Nat} {gn:Nat} {vl vt:Value} {n:Nt} {x:Rdr}
theorem Q4e (h:Qb3 F w p m L P gn vl vt n x) :
  Calls prog 20 #[.pointer (some ⟨x.pa,0,none⟩)] w (Qk8 w x.gc x.gk x.mc gn p.gd vl vt x.qs (Zz x.c n)):=by
 have hb:=Qa w (.cells #[.int .i64 0,.string ⟨#[]⟩] 29);have hll:m.es.length≤1048576:=by have:=h.few;omega
 refine Qww F w x.pa x.gc x.gk x.mc gn p.gd vl vt x.qs _ h.rd.pc h.env h.lt ?_ ?_
 ·obtain⟨_,_,_,h4|h4⟩:=Qri h.rdw hll h.rdc h.nf h.nl
  ·rw[h4.2.2.2.1];simp
  ·rw[h4.2.2.1]
   split
   ·have:=Qgr x.c.size ((lists m.es).take P) true
    rw[List.length_take,Q0] at this;omega
   ·simp
 ·exact Qyq F _ x.gc x.gk x.mc gn p.gd vl vt p.v x.c x.qs n m.d (h.rd.cl.below hb) (h.net.below hb) (h.wd.disk.below hb) h.nf.symm (h.env.below hb) (by have:=h.fetches;omega) (by rw[h.rdc.key];exact h.key)
   (fun data hd=>by
    have hle:=h.few
    have hP:=h.rdw.le
    rw[Q0] at hP
    rcases h.rdw.cp with ⟨_,hc⟩|hc
    ·unfold Yt at hd
     rw[show Qc4 n (sOf kCp)=none by unfold Qc4;rw[h.nl];rfl,h.nf,hc] at hd
     cases hd
    ·rw[Qpl (n:=n) (by rw[h.nf];exact hc) h.nl] at hd
     rw[←Option.some.inj hd]
     have:=h.small _ (Qah hc)
     simpa using this) (by have:=h.csize;omega) h.asks
end
end
section
variable {w w':World} {gn:Nat} {vl vt:Value} {c1:Cl} {n1:Nt}
theorem Qk8.row {gc gk mc gd:Nat} {qs:List CEnt} {k:Nat} {tp:ByteArray} {hh:List Hsh} {e:Ending} (h:Qk8 w gc gk mc gn gd vl vt qs ((k,tp),hh,c1,n1) e w') {pl:List ByteArray} (hpl:pl=hh.map HS) :
  ∃ (a:Option Addr) (c:Nat),e=.returned (.tuple #[.slice a pl.length c,Jn k tp])∧Q5 w' w.heap.size (.slice a pl.length c) pl∧
   ∃ qs',ClIs w' gc gk mc (.iface 44 (.pointer (some ⟨gn,0,none⟩))) c1 qs'∧Yk w' gn gd vl vt n1∧Fr (cnS gc gk mc gn vt qs) w w'∧Sub w (cnS gc gk mc gn vt qs) (cnS gc gk mc gn vt qs'):=by
 obtain⟨v',rfl,h3,h4⟩:=h;dsimp only at h3;rw[←hpl] at h3;obtain⟨a,c,rfl⟩:=Zs h3;exact⟨a,c,rfl,h3,h4⟩
theorem Qi2 {F:Nat→Addr} {w1 W:World} {p:Pl} {m:Wm} {L:Lg} {P:Nat} {n:Nt} {x:Rdr} {qs1:List CEnt} (h:Qb3 F w p m L P gn vl vt n x) (hf1:Fr (cnS x.gc x.gk x.mc gn vt x.qs) w w1) (hs1:Sub w (cnS x.gc x.gk x.mc gn vt x.qs) (cnS x.gc x.gk x.mc gn vt qs1))
  (hf:Fr (·=x.ra) w1 W) (hg:Fr (·=x.gc) W w') (hw:WdIs w' p m) (hn:Yk w' gn p.gd vl vt n1) (hr:Qb6 w' gn { x with c:=c1,qs:=qs1,size:=c1.size }) (hc:RdC m P c1) (hsn:Qbk n n1) (hm:c1.cache.most=x.c.cache.most) (hz:n1.fetches≤n.fetches+900000) (hi:c1.cache.items.length≤x.c.cache.items.length+450000) :
  Qkj w p m P gn vl vt n x (.returned (.bool true)) w':=
 ⟨rfl,c1,n1,qs1,hr,hn,hw,((hf1.weak fun _ _=>.inl).trans (hf.weak fun _ _=>.inr)).trans (hg.weak fun _ _ e=>.inl (.inl (.inl e))),hs1,hc,hsn,hm,hz,hi⟩
set_option maxHeartbeats 8000000 in
theorem Qr8 (F:Nat→Addr) (w:World) (p:Pl) (m:Wm) (L:Lg) (P:Nat) (gn:Nat) (vl vt:Value) (n:Nt) (x:Rdr) (h:Qb3 F w p m L P gn vl vt n x) (hs:x.size=x.c.size) (hra:∀ i,WdS p m i→¬ i=x.ra) (hrn:∀ i,cnS x.gc x.gk x.mc gn vt x.qs i→¬ i=x.ra) (hfe:n.fetches+1000000<1000000000000) (hit:x.c.cache.items.length+1000000<100000000000) (hdl:m.d.files.length≤1000000000000) :
  Calls prog 32 #[.pointer (some ⟨x.ra,0,none⟩),.pointer (some ⟨p.gw,0,none⟩)] w (Qkj w p m P gn vl vt n x):=by
 have hsz:=h.csize;have hes:=h.few;have hll:m.es.length≤1048576:=by omega
 have hPl:=h.rdw.le;rw[Q0] at hPl;have k0:w.cell? ⟨x.ra,0,none⟩=some (.pointer (some ⟨x.pa,0,none⟩)):=Qd h.rd.cells 0 rfl;have hc:=Q4e h;obtain⟨r1,hr1⟩:∃ r,r=Zz x.c n:=⟨_,rfl⟩
 obtain⟨q1,q2,q3,q4⟩:=Qri h.rdw hll h.rdc h.nf h.nl;obtain⟨z1,z2⟩:=Qrg (c:=x.c) (n:=n);rw[←hr1] at hc q1 q2 q3 q4 z1 z2;obtain⟨⟨tk,tp⟩,hh,c1,n1⟩:=r1;dsimp only at q1 q2 q3 q4 z1 z2;obtain⟨pl,hpl⟩:∃ pl,pl=hh.map HS:=⟨_,rfl⟩
 have H:=zh h;have HC:=zh hc;have HSQ:=zh hs;have HQ1:=zh q1;have HQ2:=zh q2;have HQ3:=zh q3;have HPL:=zh hpl;have HZ1:=zh z1;have HZ2:=zh z2;have HFE:=zh hfe;have HIT:=zh hit;have HRA:=zh hra;have HRN:=zh hrn;have HDL:=zh hdl;have HPLE:=zh hPl;clear h hc hs q1 q2 q3 hpl z1 z2 hfe hit hra hrn hdl hr1;rcases q4 with ⟨rfl,hno,hq,rfl,hc0⟩|⟨hcp,hq,hhh,hcP⟩
 ·have hq':tk=3∧tp=⟨#[]⟩:=by simpa using hq
  obtain⟨rfl,rfl⟩:=hq';have HNO:=zh hno;have HC0:=zh hc0;clear hq hno hc0;have HPL2:=HPL.o;simp only[List.map_nil] at HPL2;subst HPL2
  go_enter func32,ntmps32
  go_upto_region 2 with (first
   | (go_at_call 20;refine HC.o.mono ?_;intro e w1 h1;obtain⟨a1,k1,rfl,hv1,qs1,hcl,hn1,hf1,hs1⟩:=h1.row HPL.o;have HCL:=zh hcl;have HN1:=zh hn1;have HF1:=zh hf1;have HS1:=zh hs1;clear h1 hcl hn1 hf1 hs1 hv1)
   | fail)
  have hE1:=H.o.next HF1.o HS1.o HCL.o HN1.o HQ3.o HQ1.o (by have:=HZ1.o;have:=HFE.o;omega) (by have:=HZ2.o;have:=HIT.o;omega);obtain⟨W1,hW1⟩:∃ W1,W1=w1.alloc (.cells #[.int .i64 3,.string ⟨#[]⟩] 29):=⟨_,rfl⟩
  have hb1:Below w1.heap.size w1 W1:=by rw[hW1];exact Qa w1 _
  have hT1:Z4 W1 w1.heap.size 3 ⟨#[]⟩:=by rw[hW1];exact heap_alloc_new w1 _
  rw[←hW1];have hE:=hE1.below hb1;have E1:=zh hE;have T1:=zh hT1;have B1:=zh hb1;have HLT1:=zh (fun k (hk:WdS p m k)=>hE1.wd.lt hk);have p4:=hE.wd.heads.1.2.2.2.2.1;rw[hE.rdw.pub] at p4;obtain⟨t0,t1,tf0,tf1,tlt⟩:=hT1.facts;have hgw:=Qk p4;have hwf:=Qc7 W1 p m hE.wd HDL.o;have HWF:=zh hwf;clear hW1 hb1 hT1 hE hE1 hwf k0
  go_upto_region 4 with (first
   | (go_at_call 57;refine HWF.o.mono ?_;rintro e w2 ⟨v2,l2,rfl,ho2,hp2,hb2⟩;have HB2:=zh hb2;have HP2:=zh hp2;have hfi:=Yx w2 v2 l2 (sOf kCp) (Yb ho2) (by rw[hp2.length_eq];exact Nat.le_trans HDL.o (by decide));obtain⟨fk,hfk⟩:∃ fk,fk=Jk l2 (sOf kCp):=⟨_,rfl⟩;rw[←hfk] at hfi;rw[show sOf kCp=⟨#[99,104,101,99,107,112,111,105,110,116]⟩ from rfl] at hfi;have HFI:=zh hfi;have HFK:=zh hfk;clear ho2 hp2 hfi hb2 hfk)
   | (go_at_call 59;refine HFI.o.mono ?_;rintro e w3 ⟨rfl,rfl⟩)
   | fail)
  have hneg:fk<0:=by
   rcases Qaw l2 (sOf kCp) with ⟨e,_⟩|⟨k,b,_,_,_,e⟩
   ·rw[HFK.o,e];decide
   ·rw[Qdn E1.o.rdw.sound.fresh.once HP2.o,HNO.o] at e
    cases e
  have u0:=(HB2.o.cell (p:=⟨w1.heap.size,0,none⟩) tlt).trans t0;clear t0 t1 tf0 tf1 p4;go_wp2;go_ret;have hF:=E1.o.below HB2.o;have hb12:Below w1.heap.size w1 w2:=B1.o.trans (HB2.o.mono B1.o.size);have hx0:x.size=0:=by
   have:=E1.o.rdw.le
   have h2:=H.o.rdc.le
   have:=HSQ.o
   omega
  refine⟨rfl,c1,n1,qs1,?_,hF.net,hF.wd,(HF1.o.trans (Fr.ofBelow hb12)).weak fun _ _=>.inl,HS1.o,HQ3.o,HQ1.o,HQ2.o,by have:=HZ1.o;omega,by have:=HZ2.o;omega⟩;rw[HC0.o,←hx0];exact hF.rd
 ·have hq':tk=0∧tp=⟨#[]⟩:=by simpa [Qcb] using hq
  obtain⟨rfl,rfl⟩:=hq';have HCP:=zh hcp;have HHH:=zh hhh;have HCP2:=zh hcP;clear hq hcp hhh hcP
  go_enter func32,ntmps32
  go_upto_region 2 with (first
   | (go_at_call 20;refine HC.o.mono ?_;intro e w1 h1;obtain⟨a1,k1,rfl,hv1,qs1,hcl,hn1,hf1,hs1⟩:=h1.row HPL.o;have HCL:=zh hcl;have HN1:=zh hn1;have HF1:=zh hf1;have HS1:=zh hs1;have HV1:=zh hv1;clear h1 hcl hn1 hf1 hs1 hv1)
   | fail)
  have hE1:=H.o.next HF1.o HS1.o HCL.o HN1.o HQ3.o HQ1.o (by have:=HZ1.o;have:=HFE.o;omega) (by have:=HZ2.o;have:=HIT.o;omega);obtain⟨W1,hW1⟩:∃ W1,W1=w1.alloc (.cells #[.int .i64 0,.string ⟨#[]⟩] 29):=⟨_,rfl⟩
  have hb1:Below w1.heap.size w1 W1:=by rw[hW1];exact Qa w1 _
  have hT1:Z4 W1 w1.heap.size 0 ⟨#[]⟩:=by rw[hW1];exact heap_alloc_new w1 _
  rw[←hW1];have hE:=hE1.below hb1;have E1:=zh hE;have T1:=zh hT1;have B1:=zh hb1;have V1:=zh (Qn HV1.o hb1);have p4:=hE.wd.heads.1.2.2.2.2.1;rw[hE.rdw.pub] at p4;obtain⟨t0,t1,tf0,tf1,tlt⟩:=hT1.facts;have hgw:=Qk p4;have HWF:=zh (Qc7 W1 p m hE.wd HDL.o);have hrn1:∀ i,cnS x.gc x.gk x.mc gn vt qs1 i→¬ i=x.ra:=fun i hi=>by
   rcases HS1.o i hi with e|e
   ·exact HRN.o i e
   ·have:=Qc H.o.rd.cells
    omega
  have HRN1:=zh hrn1;clear hW1 hb1 hT1 hE hE1 k0 hrn1;rcases Nat.eq_zero_or_pos P with hP0|hPp
  ·have hPz:((P:Int) == 0)=true:=by rw[hP0];rfl
   go_upto_region 9 with (first
    | (
      go_at_call 57;refine HWF.o.mono ?_;rintro e w2 ⟨v2,l2,rfl,ho2,hp2,hb2⟩;have HB2:=zh hb2;have HP2:=zh hp2;have hfi:=Yx w2 v2 l2 (sOf kCp) (Yb ho2) (by rw[hp2.length_eq];exact Nat.le_trans HDL.o (by decide));obtain⟨fk,hfk⟩:∃ fk,fk=Jk l2 (sOf kCp):=⟨_,rfl⟩;rw[←hfk] at hfi;rw[show sOf kCp=⟨#[99,104,101,99,107,112,111,105,110,116]⟩ from rfl] at hfi;have HFI:=zh hfi;have hpos:¬ fk<0:=by
             rcases Qaw l2 (sOf kCp) with ⟨_,e⟩|⟨k,b,_,e,_,_⟩
             ·exact absurd (by rw[←Qdn E1.o.rdw.sound.fresh.once hp2];exact e) (HCP.o hP0)
             ·rw[hfk,e];omega
      obtain⟨u0,u1,_,_,_⟩:=(T1.o.below hb2).facts;clear ho2 hp2 hfi hb2 hfk)
    | (go_at_call 59;refine HFI.o.mono ?_;rintro e w3 ⟨rfl,rfl⟩)
    | fail)
   obtain⟨W2,hW2⟩:∃ W2,W2=w2:=⟨_,rfl⟩
   have V2:=zh (Qn V1.o HB2.o);have T2:=zh (T1.o.below HB2.o);have E2:=zh (E1.o.below HB2.o);have B2:=zh (show Below W1.heap.size W1 W2 by rw[hW2];exact HB2.o);rw[←hW2] at E2 V2 T2 ⊢;have h0:¬ 0<x.size:=by
    have h2:=H.o.rdc.le
    have:=HSQ.o
    omega
   clear hW2 t0 t1 tf0 tf1 tlt p4 hgw u0 u1 hPz hpos hP0;have hpl0:pl = []:=by rw[HPL.o,HHH.o,if_neg (by rw[←HSQ.o];omega)];rfl
   have s2:W2.cell? ⟨x.ra,1,none⟩=some (.int .i64 x.size):=Qd E2.o.rd.cells 1 rfl;have p2:W2.cell? ⟨p.gw,4,none⟩=some (.int .i64 P):=by have:=E2.o.wd.heads.1.2.2.2.2.1;rw[E2.o.rdw.pub] at this;exact this
   have hd1:decide ((0:Int)<(x.size:Int))=false:=decide_eq_false (by omega)
   go_quiet (fail)
   obtain⟨WS,hWS⟩:∃ W,W=W2.drewN nq:=⟨_,rfl⟩
   have BS:=zh (show Below W2.heap.size W2 WS by rw[hWS];exact Za (Below.refl _ _) _);rw[←hWS];have HPN:=zh (show pl.length≤1048576 by rw[hpl0];simp);have HP0:=zh hpl0;clear hWS s2 p2 hpl0;have E3:=zh (E2.o.below BS.o);have s3:WS.cell? ⟨x.ra,1,none⟩=some (.int .i64 x.size):=Qd E3.o.rd.cells 1 rfl;have sf:WS.frozen? ⟨x.ra,1,none⟩=false:=Qq E3.o.rd.cells 1;have sl:x.ra<WS.heap.size:=Qc E3.o.rd.cells;have p3:WS.cell? ⟨p.gw,4,none⟩=some (.int .i64 P):=by have:=E3.o.wd.heads.1.2.2.2.2.1;rw[E3.o.rdw.pub] at this;exact this
   have hE4:=E3.o.sized P HRA.o HRN1.o;have hf4:=Fr.set1 WS x.ra 1 (.int .i64 P);have hk4:=Qw E3.o.rd.cells;obtain⟨W4,hW4⟩:∃ W,W=WS.setCell ⟨x.ra,1,none⟩ (.int .i64 P):=⟨_,rfl⟩
   rw[←hW4] at hE4 hf4;have hsm:Calls prog 61 #[.slice a1 pl.length k1,.slice none 0 0] W4 fun e w'=>e=.returned (.bool true)∧Below W4.heap.size W4 w':=by
    have:=Qg0 (.slice a1 pl.length k1) (.slice none 0 0) pl pl W4 (Q5.at (Zi (Qn V2.o BS.o) hf4 hk4 (by decide))) (by rw[HP0.o];exact⟨none,0,rfl,Nat.le_refl _,fun j u hj=>by simp at hj⟩) HPN.o
    simpa using this
   have htr:∀ W,Below W4.heap.size W4 W→Calls prog 34 #[.pointer (some ⟨x.ra,0,none⟩),.pointer (some ⟨p.gw,0,none⟩)] W fun e w'=>e=.returned (.bool true)∧WdIs w' p m∧Qb6 w' gn { x with c:=c1,qs:=qs1,size:=P }∧Fr (·=x.gc) W w':=fun W hW=>by
    have hEW:=hE4.below hW;exact Qee W p m gn { x with c:=c1,qs:=qs1,size:=P } hEW.wd hEW.rd (fun k hk e=>H.o.apart k hk (.inl (.inl e))) HCP2.o.symm HPLE.o (by have:=hEW.few;omega) (fun u hu=>by
     have:=hEW.rdw.short u.data.toList (List.mem_map.2 ⟨u,hu,rfl⟩)
     simp at this
     omega) HQ3.o.tr.root
   have E4:=zh hE4;have F4:=zh hf4;have HSM:=zh hsm;have HTR:=zh htr;have HW4:=zh hW4;clear hE4 hf4 hk4 hsm htr hW4
   go_upto_region 12 with fail
   rw[show WS.setCell ⟨x.ra,1,none⟩ (.int .i64 P)=W4 from HW4.o.symm]
   go_wp2_with (first
    | (go_at_call 61;refine HSM.o.mono ?_;rintro e w5 ⟨rfl,hb5⟩;have HB5:=zh hb5;clear hb5)
    | (go_at_call 34;refine (HTR.o w5 HB5.o).mono ?_;rintro e w6 ⟨rfl,hw6,hr6,hf6⟩;have HW6:=zh hw6;have HR6:=zh hr6;have HF6:=zh hf6;clear hw6 hr6 hf6)
    | fail)
   go_ret;have hE5:=E4.o.below HB5.o;have hb13:Below w1.heap.size w1 WS:=B1.o.trans ((B2.o.trans (BS.o.mono B2.o.size)).mono B1.o.size);have hr7:=HR6.o;rw[←HCP2.o] at hr7;exact Qi2 H.o HF1.o HS1.o ((((Fr.ofBelow hb13).trans F4.o)).trans (Fr.ofBelow HB5.o)) HF6.o HW6.o (Yq hE5.net HF6.o (Qw hE5.rd.cl.cells) (by decide) (by decide) (by decide)) hr7 HQ3.o HQ1.o HQ2.o (by have:=HZ1.o;omega) (by have:=HZ2.o;omega)
  ·have hPz:((P:Int) == 0)=false:=by rw[beq_eq_false_iff_ne];omega
   obtain⟨W2,hW2⟩:∃ W2,W2=W1:=⟨_,rfl⟩
   go_upto_region 9 with fail
   have E2:=E1;have V2:=V1;have T2:=T1;have B2:=zh (show Below W1.heap.size W1 W2 by rw[hW2];exact Below.refl _ _);rw[←hW2] at E2 V2 T2 ⊢;clear hW2 t0 t1 tf0 tf1 tlt p4 hgw hPz;by_cases h0:0<x.size
   ·by_cases h1:x.size<P
    ·have hplc:pl=(Qam x.size (lists (m.es.take P)) true).map HS:=by rw[HPL.o,HHH.o,if_pos (by rw[←HSQ.o];exact⟨h0,h1⟩),Qjs,HSQ.o]
     have s2:W2.cell? ⟨x.ra,1,none⟩=some (.int .i64 x.size):=Qd E2.o.rd.cells 1 rfl;have p2:W2.cell? ⟨p.gw,4,none⟩=some (.int .i64 P):=by have:=E2.o.wd.heads.1.2.2.2.2.1;rw[E2.o.rdw.pub] at this;exact this
     have hd1:decide ((0:Int)<(x.size:Int))=true:=decide_eq_true (by omega);have hd2:decide ((x.size:Int)<(P:Int))=true:=decide_eq_true (by omega)
     go_quiet (fail)
     obtain⟨W3,hW3⟩:∃ W,W=W2.drewN nq:=⟨_,rfl⟩
     have hB3:Below W2.heap.size W2 W3:=by rw[hW3];exact Za (Below.refl _ _) _
     rw[←hW3];have hE3:=E2.o.below hB3;have s3:W3.cell? ⟨x.ra,1,none⟩=some (.int .i64 x.size):=Qd hE3.rd.cells 1 rfl;have p3:W3.cell? ⟨p.gw,4,none⟩=some (.int .i64 P):=by have:=hE3.wd.heads.1.2.2.2.2.1;rw[hE3.rdw.pub] at this;exact this
     have g3:=hE3.wd.heads.1.2.2.2.1;have sl3:x.ra<W3.heap.size:=Qc hE3.rd.cells;have gl3:p.gw<W3.heap.size:=Qk g3;have hstr:=Q5.at hE3.wd.ents;have hss:∀ u∈m.es,u.size≤1048576:=fun u hu=>by
      have:=hE3.rdw.short u.data.toList (List.mem_map.2 ⟨u,hu,rfl⟩)
      simp at this;omega
     have hpart:∀ (b c:Nat),p.en=.slice (some ⟨b,0,none⟩) m.es.length c→∀ W,Below W3.heap.size W3 W→Calls prog 60 #[.int .i64 x.size,.slice (some ⟨b,0,none⟩) P c,.bool true] W fun e w'=>∃ v',e=.returned v'∧Q5 w' W.heap.size v' pl∧Below W.heap.size W w':=fun b c he W hW=>by
      have h1:=hstr.below hW;rw[he] at h1;have hlt:(m.es.take P).length=P:=by rw[List.length_take];have:=HPLE.o;omega
      have:=Q0x P (m.es.take P) (.slice (some ⟨b,0,none⟩) P c) x.size true W (by omega) (Qkb h1 HPLE.o) (by omega) (fun u hu=>hss u (List.mem_of_mem_take hu)) h0 (by omega)
      rw[←hplc] at this;exact this
     rcases Qt2 hE3.wd.ents with ⟨he,hemp⟩|⟨b,cb,he,hcb⟩
     ·exfalso
      have:=HPLE.o
      rw[hemp] at this;simp at this;omega
     have HPP:=zh (hpart b cb he);rw[he] at g3;obtain⟨ln,hln⟩:∃ ln,ln=m.es.length:=⟨_,rfl⟩
     have hsl:P≤cb:=Nat.le_trans HPLE.o hcb;rw[←hln] at g3 hcb;have s3d:W3.drew.cell? ⟨x.ra,1,none⟩=some (.int .i64 x.size):=s3;have p3d:W3.drew.cell? ⟨p.gw,4,none⟩=some (.int .i64 P):=p3;have g3d:W3.drew.cell? ⟨p.gw,3,none⟩=some (.slice (some ⟨b,0,none⟩) ln cb):=g3;have B3:=zh hB3;have HPN:=zh (show pl.length≤1048576 by
      rw[hplc,List.length_map]
      have:=Qgr x.size (lists (m.es.take P)) true
      rw[Q0,List.length_take] at this
      omega)
     clear hW3 hB3 hE3 hstr hss hpart he hln s2 p2 hplc
     go_upto_region 10 with fail
     go_region_held3 (fun w'=>w'.cell? ⟨x.ra,1,none⟩=some (.int .i64 x.size)∧w'.cell? ⟨p.gw,4,none⟩=some (.int .i64 P)∧w'.cell? ⟨p.gw,3,none⟩=some (.slice (some ⟨b,0,none⟩) ln cb)) (first|with_reducible exact⟨s3,p3,g3⟩|with_reducible exact⟨s3d,p3d,g3d⟩|with_reducible exact⟨m1,m4,m3⟩|fail) (first
      | (go_at_call 60;refine (HPP.o _ (Ql W3)).mono ?_;rintro e w4 ⟨v4,rfl,hv4,hb4⟩;have HB4:=zh (show Below W3.heap.size W3 w4 from (Ql W3).trans hb4);obtain⟨a9,c9,rfl⟩:=Zs hv4;have V9:=zh hv4;have m1:=(HB4.o.cell (p:=⟨x.ra,1,none⟩) sl3).trans s3;have m4:=(HB4.o.cell (p:=⟨p.gw,4,none⟩) gl3).trans p3;have m3:=(HB4.o.cell (p:=⟨p.gw,3,none⟩) gl3).trans g3;clear hb4 hv4)
      | fail)
     all_goals (
      rename_i hh9
      clear hh9 s3 p3 g3 s3d p3d g3d m1 m4 m3
      obtain⟨WS,hWS⟩:∃ W,W=w4:=⟨_,rfl⟩
      have BS:=zh (show Below W2.heap.size W2 WS by rw[hWS];exact B3.o.trans (HB4.o.mono B3.o.size))
      have VW:=zh V9.o
      rw[←hWS] at VW ⊢
      clear hWS
      have E3:=zh (E2.o.below BS.o)
      have s3:WS.cell? ⟨x.ra,1,none⟩=some (.int .i64 x.size):=Qd E3.o.rd.cells 1 rfl
      have sf:WS.frozen? ⟨x.ra,1,none⟩=false:=Qq E3.o.rd.cells 1
      have sl:x.ra<WS.heap.size:=Qc E3.o.rd.cells
      have p3:WS.cell? ⟨p.gw,4,none⟩=some (.int .i64 P):=by have:=E3.o.wd.heads.1.2.2.2.2.1;rw[E3.o.rdw.pub] at this;exact this
      have hE4:=E3.o.sized P HRA.o HRN1.o
      have hf4:=Fr.set1 WS x.ra 1 (.int .i64 P)
      have hk4:=Qw E3.o.rd.cells
      obtain⟨W4,hW4⟩:∃ W,W=WS.setCell ⟨x.ra,1,none⟩ (.int .i64 P):=⟨_,rfl⟩
      rw[←hW4] at hE4 hf4
      have hsm:Calls prog 61 #[.slice a1 pl.length k1,.slice a9 pl.length c9] W4 fun e w'=>e=.returned (.bool true)∧Below W4.heap.size W4 w':=by
       have:=Qg0 (.slice a1 pl.length k1) (.slice a9 pl.length c9) pl pl W4 (Q5.at (Zi (Qn V2.o BS.o) hf4 hk4 (by decide))) (Q5.at (Zi VW.o hf4 hk4 (by decide))) HPN.o
       simpa using this
      have htr:∀ W,Below W4.heap.size W4 W→Calls prog 34 #[.pointer (some ⟨x.ra,0,none⟩),.pointer (some ⟨p.gw,0,none⟩)] W fun e w'=>e=.returned (.bool true)∧WdIs w' p m∧Qb6 w' gn { x with c:=c1,qs:=qs1,size:=P }∧Fr (·=x.gc) W w':=fun W hW=>by
       have hEW:=hE4.below hW
       exact Qee W p m gn { x with c:=c1,qs:=qs1,size:=P } hEW.wd hEW.rd (fun k hk e=>H.o.apart k hk (.inl (.inl e))) HCP2.o.symm HPLE.o (by have:=hEW.few;omega) (fun u hu=>by
        have:=hEW.rdw.short u.data.toList (List.mem_map.2 ⟨u,hu,rfl⟩)
        simp at this
        omega) HQ3.o.tr.root
      have E4:=zh hE4
      have F4:=zh hf4
      have HSM:=zh hsm
      have HTR:=zh htr
      have HW4:=zh hW4
      clear hE4 hf4 hk4 hsm htr hW4
      go_upto_region 12 with fail
      rw[show WS.setCell ⟨x.ra,1,none⟩ (.int .i64 P)=W4 from HW4.o.symm]
      go_wp2_with (first
       | (go_at_call 61;refine HSM.o.mono ?_;rintro e w5 ⟨rfl,hb5⟩;have HB5:=zh hb5;clear hb5)
       | (go_at_call 34;refine (HTR.o w5 HB5.o).mono ?_;rintro e w6 ⟨rfl,hw6,hr6,hf6⟩;have HW6:=zh hw6;have HR6:=zh hr6;have HF6:=zh hf6;clear hw6 hr6 hf6)
       | fail)
      go_ret
      have hE5:=E4.o.below HB5.o
      have hb13:Below w1.heap.size w1 WS:=B1.o.trans ((B2.o.trans (BS.o.mono B2.o.size)).mono B1.o.size)
      have hr7:=HR6.o
      rw[←HCP2.o] at hr7
      exact Qi2 H.o HF1.o HS1.o ((((Fr.ofBelow hb13).trans F4.o)).trans (Fr.ofBelow HB5.o)) HF6.o HW6.o (Yq hE5.net HF6.o (Qw hE5.rd.cl.cells) (by decide) (by decide) (by decide)) hr7 HQ3.o HQ1.o HQ2.o (by have:=HZ1.o;omega) (by have:=HZ2.o;omega))
    ·have hpl0:pl = []:=by rw[HPL.o,HHH.o,if_neg (by rw[←HSQ.o];omega)];rfl
     have s2:W2.cell? ⟨x.ra,1,none⟩=some (.int .i64 x.size):=Qd E2.o.rd.cells 1 rfl;have p2:W2.cell? ⟨p.gw,4,none⟩=some (.int .i64 P):=by have:=E2.o.wd.heads.1.2.2.2.2.1;rw[E2.o.rdw.pub] at this;exact this
     have hd1:decide ((0:Int)<(x.size:Int))=true:=decide_eq_true (by omega);have hd2:decide ((x.size:Int)<(P:Int))=false:=decide_eq_false (by omega)
     go_quiet (fail)
     obtain⟨WS,hWS⟩:∃ W,W=W2.drewN nq:=⟨_,rfl⟩
     have BS:=zh (show Below W2.heap.size W2 WS by rw[hWS];exact Za (Below.refl _ _) _);rw[←hWS];have HPN:=zh (show pl.length≤1048576 by rw[hpl0];simp);have HP0:=zh hpl0;clear hWS s2 p2 hpl0;have E3:=zh (E2.o.below BS.o);have s3:WS.cell? ⟨x.ra,1,none⟩=some (.int .i64 x.size):=Qd E3.o.rd.cells 1 rfl;have sf:WS.frozen? ⟨x.ra,1,none⟩=false:=Qq E3.o.rd.cells 1;have sl:x.ra<WS.heap.size:=Qc E3.o.rd.cells;have p3:WS.cell? ⟨p.gw,4,none⟩=some (.int .i64 P):=by have:=E3.o.wd.heads.1.2.2.2.2.1;rw[E3.o.rdw.pub] at this;exact this
     have hE4:=E3.o.sized P HRA.o HRN1.o;have hf4:=Fr.set1 WS x.ra 1 (.int .i64 P);have hk4:=Qw E3.o.rd.cells;obtain⟨W4,hW4⟩:∃ W,W=WS.setCell ⟨x.ra,1,none⟩ (.int .i64 P):=⟨_,rfl⟩
     rw[←hW4] at hE4 hf4;have hsm:Calls prog 61 #[.slice a1 pl.length k1,.slice none 0 0] W4 fun e w'=>e=.returned (.bool true)∧Below W4.heap.size W4 w':=by
      have:=Qg0 (.slice a1 pl.length k1) (.slice none 0 0) pl pl W4 (Q5.at (Zi (Qn V2.o BS.o) hf4 hk4 (by decide))) (by rw[HP0.o];exact⟨none,0,rfl,Nat.le_refl _,fun j u hj=>by simp at hj⟩) HPN.o
      simpa using this
     have htr:∀ W,Below W4.heap.size W4 W→Calls prog 34 #[.pointer (some ⟨x.ra,0,none⟩),.pointer (some ⟨p.gw,0,none⟩)] W fun e w'=>e=.returned (.bool true)∧WdIs w' p m∧Qb6 w' gn { x with c:=c1,qs:=qs1,size:=P }∧Fr (·=x.gc) W w':=fun W hW=>by
      have hEW:=hE4.below hW;exact Qee W p m gn { x with c:=c1,qs:=qs1,size:=P } hEW.wd hEW.rd (fun k hk e=>H.o.apart k hk (.inl (.inl e))) HCP2.o.symm HPLE.o (by have:=hEW.few;omega) (fun u hu=>by
       have:=hEW.rdw.short u.data.toList (List.mem_map.2 ⟨u,hu,rfl⟩)
       simp at this
       omega) HQ3.o.tr.root
     have E4:=zh hE4;have F4:=zh hf4;have HSM:=zh hsm;have HTR:=zh htr;have HW4:=zh hW4;clear hE4 hf4 hk4 hsm htr hW4
     go_upto_region 12 with fail
     rw[show WS.setCell ⟨x.ra,1,none⟩ (.int .i64 P)=W4 from HW4.o.symm]
     go_wp2_with (first
      | (go_at_call 61;refine HSM.o.mono ?_;rintro e w5 ⟨rfl,hb5⟩;have HB5:=zh hb5;clear hb5)
      | (go_at_call 34;refine (HTR.o w5 HB5.o).mono ?_;rintro e w6 ⟨rfl,hw6,hr6,hf6⟩;have HW6:=zh hw6;have HR6:=zh hr6;have HF6:=zh hf6;clear hw6 hr6 hf6)
      | fail)
     go_ret;have hE5:=E4.o.below HB5.o;have hb13:Below w1.heap.size w1 WS:=B1.o.trans ((B2.o.trans (BS.o.mono B2.o.size)).mono B1.o.size);have hr7:=HR6.o;rw[←HCP2.o] at hr7;exact Qi2 H.o HF1.o HS1.o ((((Fr.ofBelow hb13).trans F4.o)).trans (Fr.ofBelow HB5.o)) HF6.o HW6.o (Yq hE5.net HF6.o (Qw hE5.rd.cl.cells) (by decide) (by decide) (by decide)) hr7 HQ3.o HQ1.o HQ2.o (by have:=HZ1.o;omega) (by have:=HZ2.o;omega)
   ·have hpl0:pl = []:=by rw[HPL.o,HHH.o,if_neg (by rw[←HSQ.o];omega)];rfl
    have s2:W2.cell? ⟨x.ra,1,none⟩=some (.int .i64 x.size):=Qd E2.o.rd.cells 1 rfl;have p2:W2.cell? ⟨p.gw,4,none⟩=some (.int .i64 P):=by have:=E2.o.wd.heads.1.2.2.2.2.1;rw[E2.o.rdw.pub] at this;exact this
    have hd1:decide ((0:Int)<(x.size:Int))=false:=decide_eq_false (by omega)
    go_quiet (fail)
    obtain⟨WS,hWS⟩:∃ W,W=W2.drewN nq:=⟨_,rfl⟩
    have BS:=zh (show Below W2.heap.size W2 WS by rw[hWS];exact Za (Below.refl _ _) _);rw[←hWS];have HPN:=zh (show pl.length≤1048576 by rw[hpl0];simp);have HP0:=zh hpl0;clear hWS s2 p2 hpl0;have E3:=zh (E2.o.below BS.o);have s3:WS.cell? ⟨x.ra,1,none⟩=some (.int .i64 x.size):=Qd E3.o.rd.cells 1 rfl;have sf:WS.frozen? ⟨x.ra,1,none⟩=false:=Qq E3.o.rd.cells 1;have sl:x.ra<WS.heap.size:=Qc E3.o.rd.cells;have p3:WS.cell? ⟨p.gw,4,none⟩=some (.int .i64 P):=by have:=E3.o.wd.heads.1.2.2.2.2.1;rw[E3.o.rdw.pub] at this;exact this
    have hE4:=E3.o.sized P HRA.o HRN1.o;have hf4:=Fr.set1 WS x.ra 1 (.int .i64 P);have hk4:=Qw E3.o.rd.cells;obtain⟨W4,hW4⟩:∃ W,W=WS.setCell ⟨x.ra,1,none⟩ (.int .i64 P):=⟨_,rfl⟩
    rw[←hW4] at hE4 hf4;have hsm:Calls prog 61 #[.slice a1 pl.length k1,.slice none 0 0] W4 fun e w'=>e=.returned (.bool true)∧Below W4.heap.size W4 w':=by
     have:=Qg0 (.slice a1 pl.length k1) (.slice none 0 0) pl pl W4 (Q5.at (Zi (Qn V2.o BS.o) hf4 hk4 (by decide))) (by rw[HP0.o];exact⟨none,0,rfl,Nat.le_refl _,fun j u hj=>by simp at hj⟩) HPN.o
     simpa using this
    have htr:∀ W,Below W4.heap.size W4 W→Calls prog 34 #[.pointer (some ⟨x.ra,0,none⟩),.pointer (some ⟨p.gw,0,none⟩)] W fun e w'=>e=.returned (.bool true)∧WdIs w' p m∧Qb6 w' gn { x with c:=c1,qs:=qs1,size:=P }∧Fr (·=x.gc) W w':=fun W hW=>by
     have hEW:=hE4.below hW;exact Qee W p m gn { x with c:=c1,qs:=qs1,size:=P } hEW.wd hEW.rd (fun k hk e=>H.o.apart k hk (.inl (.inl e))) HCP2.o.symm HPLE.o (by have:=hEW.few;omega) (fun u hu=>by
      have:=hEW.rdw.short u.data.toList (List.mem_map.2 ⟨u,hu,rfl⟩)
      simp at this
      omega) HQ3.o.tr.root
    have E4:=zh hE4;have F4:=zh hf4;have HSM:=zh hsm;have HTR:=zh htr;have HW4:=zh hW4;clear hE4 hf4 hk4 hsm htr hW4
    go_upto_region 12 with fail
    rw[show WS.setCell ⟨x.ra,1,none⟩ (.int .i64 P)=W4 from HW4.o.symm]
    go_wp2_with (first
     | (go_at_call 61;refine HSM.o.mono ?_;rintro e w5 ⟨rfl,hb5⟩;have HB5:=zh hb5;clear hb5)
     | (go_at_call 34;refine (HTR.o w5 HB5.o).mono ?_;rintro e w6 ⟨rfl,hw6,hr6,hf6⟩;have HW6:=zh hw6;have HR6:=zh hr6;have HF6:=zh hf6;clear hw6 hr6 hf6)
     | fail)
    go_ret;have hE5:=E4.o.below HB5.o;have hb13:Below w1.heap.size w1 WS:=B1.o.trans ((B2.o.trans (BS.o.mono B2.o.size)).mono B1.o.size);have hr7:=HR6.o;rw[←HCP2.o] at hr7;exact Qi2 H.o HF1.o HS1.o ((((Fr.ofBelow hb13).trans F4.o)).trans (Fr.ofBelow HB5.o)) HF6.o HW6.o (Yq hE5.net HF6.o (Qw hE5.rd.cl.cells) (by decide) (by decide) (by decide)) hr7 HQ3.o HQ1.o HQ2.o (by have:=HZ1.o;omega) (by have:=HZ2.o;omega)
end
end Go.Proofs.YtefccfakhgdfbabGreatDoor
