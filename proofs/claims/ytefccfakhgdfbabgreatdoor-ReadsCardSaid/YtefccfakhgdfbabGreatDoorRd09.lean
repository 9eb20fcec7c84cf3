/- The walk of merkle.Entries' closure: the hash of 2^level entries. -/
import Derived.Test.YtefccfakhgdfbabGreatDoorRd08
set_option linter.unusedVariables false
set_option linter.unusedSimpArgs false
open Go.RowKit Go.Proofs.Tryz
set_option maxRecDepth 100000
set_option maxHeartbeats 4000000
namespace Go.Proofs.YtefccfakhgdfbabGreatDoor
section
section
variable [Inhabited OutT]
variable {w:World}
theorem Qh7 {P:Program} {ops:Array Oper} {rest:List Oper} {o:Oper} {a:Act} {Q:Exit→Act→World→Prop} (hgd:o.guard=none) (x y:Operand) (t ts:TypeId)
  (ho:o.op=.call { callee:=.builtin .copy,args:=#[x,y],argTypes:=#[t,ts] }) (e:TypeId) (ht:P.underlying t=some (.slice e)) (hsz:(P.info? e).map (·.size)=some 1)
  (g:Nat) (hx:a.eval x=.slice (some ⟨g,0,none⟩) 8 8) (ad:Option Addr) (n c:Nat) (l:List UInt8) (hy:a.eval y=.slice ad n c) (hb:Q6 w (.slice ad n c) l) (hg:Qu w g zero8)
  (h:∀ k w',Qu w' g (Yw l)→Fr (·=g) w w'→w'.heap.size=w.heap.size→wpList P ops Q rest (a.put o.dst k) w'):wpList P ops Q (o :: rest) a w:=by
 have:=(inferInstance:Inhabited OutT)
 obtain⟨ad',c',hv,hc,hcells⟩:=hb;simp only[Value.slice.injEq] at hv;obtain⟨rfl,rfl,rfl⟩:=hv;cases l with
 | nil=>
  refine wpList_copy_nothing hgd x y t ts ho e ht hsz (some ⟨g,0,none⟩) ad 8 8 0 c hx hy rfl ?_;exact h _ w (by rw[show Yw []=zero8 from rfl];exact hg) (Fr.refl _ _) rfl
 | cons b l=>
  obtain⟨bk,off,rfl,_⟩:=hcells 0 (u8 b) (by simp);obtain⟨cs,hcs⟩:∃ cs,cs=((b :: l).take 8).map u8:=⟨_,rfl⟩
  have hg':w.heap[g]?=some (.cells (h8 zero8) 109 (0,0)):=hg;refine wpList_copy_own hgd x y t ts ho e ht hsz g 0 8 8 ⟨bk,off,none⟩ _ c hx hy (h8 zero8) 109 hg' cs (by rw[hcs,List.length_map,List.length_take,Nat.min_comm]) (fun j v hj=>?_) (by rw[hcs,List.length_map,List.length_take,h8_size];omega) (fun v hv=>by
   rw[hcs] at hv
   obtain⟨z,_,rfl⟩:=List.mem_map.1 hv
   rfl) ?_
  ·rw[hcs,List.map_take] at hj
   have hj8:=(List.getElem?_eq_some_iff.1 hj).1;rw[List.length_take] at hj8;rw[List.getElem?_take_of_lt (by omega)] at hj;obtain⟨bk',off',heq,h1⟩:=hcells j v hj;cases heq;rw[Addr.add_lit];exact h1
  ·have hrow:((h8 zero8).toList.take 0++(cs++(h8 zero8).toList.drop (0+cs.length))).toArray=h8 (Yw (b :: l)):=by
    apply Array.ext';have hz:(h8 zero8).toList=List.replicate 8 (Value.int .u8 0):=by rw[Qzo];rfl
    rw[←Qyc,hcs,hz];simp[Nat.min_comm];rw[show min (l.length+1) 8=min l.length 7+1 by omega];rfl
   rw[hrow];refine h _ _ (Qy hg _) ⟨rfl,rfl,rfl,by simp[World.setRow],fun k hk hs=>setRow_other w g k _ (fun e=>hs e)⟩ (by simp[World.setRow])
variable {n c k:Nat} {l:List UInt8}
theorem Q02 {b off:Nat} (h:Q6 w (.slice (some ⟨b,off,none⟩) n c) l) (hk:k≤l.length) (hn:n=l.length) (hc:n≤c):Q6 w (.slice (if c=k then some ⟨b,off,none⟩ else some ⟨b,off+k,none⟩) (n-k) (c-k)) (l.drop k):=by
 have:=(inferInstance:Inhabited OutT)
 by_cases e:c=k
 ·rw[if_pos e]
  refine⟨some ⟨b,off,none⟩,c-k,by rw[List.length_drop,hn],by rw[List.length_drop];omega,fun j u hu=>?_⟩
  have:=(List.getElem?_eq_some_iff.1 hu).1
  rw[List.length_map,List.length_drop] at this;omega
 ·rw[if_neg e]
  obtain⟨a0,c0,hv,hc,hx⟩:=h;simp only[Value.slice.injEq] at hv;obtain⟨rfl,rfl,rfl⟩:=hv;refine⟨some ⟨b,off+k,none⟩,c-k,by rw[List.length_drop],by rw[List.length_drop];omega,fun j u hu=>?_⟩;rw[List.map_drop,List.getElem?_drop] at hu;obtain⟨b',off',heq,h1⟩:=hx (k+j) u hu;cases heq;exact⟨b,off+k,rfl,by rw[Nat.add_assoc];exact h1⟩
theorem Qvu:(prog.info? 5).map (·.size)=some 1:=by have:=(inferInstance:Inhabited OutT);show _=_;kernel_rfl
theorem Q2h {a:Option Addr} (h:Q6 w (.slice a n c) l):n=l.length∧n≤c:=by
 have:=(inferInstance:Inhabited OutT)
 obtain⟨a0,c0,hv,hc,hx⟩:=h;simp only[Value.slice.injEq] at hv;obtain⟨rfl,rfl,rfl⟩:=hv;exact⟨rfl,hc⟩
variable {q:Qf} {x:Qv} {N:Nat} {s:Cs} {d:Dk}
theorem QIs.lt (h:QIs w q x N s d) (hk:QS q x k):k<w.heap.size:=by
 rcases hk with (e|e|e)|(e|e|e)|(e|e)
 ·rw[e];exact Qc h.look
 ·rw[e];exact h.km.lt
 ·obtain⟨C,hC⟩:=Qh h.ord e
  exact Qc hC
 ·obtain⟨l,r,h2⟩:=h.cache.ring.ends
  rw[e];exact Qc h2
 ·rw[e];exact h.cache.km.lt
 ·exact h.cache.ring.lt (by rw[Qce];exact e)
 ·rw[e];exact h.net.lt
 ·obtain⟨C,hC⟩:=Qh h.net.told e
  exact Qc hC
variable {g:Nat}
theorem Qqz {k:Hsh} (h:Qu w g k):Qu w.drew g k:=have:=(inferInstance:Inhabited OutT);h
variable {S:Nat→Prop} {w':World}
theorem Qe3 {k:Hsh} (h:Qu w g k) (hf:Fr S w w') (hg:¬ S g):Qu w' g k:=have:=(inferInstance:Inhabited OutT);hf.heap h hg
def qTs:List TypeId:=[250,9,5,177,246,244,103,75,3,41,73]
variable {ts:List TypeId}
theorem QIs.kept (h:QIs w q x N s d) (hf:Fr S w w') (hS:Qae w S ts) (ht:∀ t∈qTs,t ∉ ts) (hm:∀ k es c,w.heap[k]?=some (.map es c)→¬ S k):QIs w' q x N s d where
 look:=Ze h.look hf hS (ht _ (by decide))
 km:=by obtain⟨es,c,hb⟩:=Qhf h.km;exact h.km.fr hf (hm _ _ _ hb)
 ord:=Zi h.ord hf hS (ht _ (by decide))
 vals y hy:=Qdc (h.vals y hy) hf hS (ht _ (by decide))
 keys:=h.keys
 small:=h.small
 files:=h.files
 cli:=Ze h.cli hf hS (ht _ (by decide))
 c2:=h.c2
 c13:=h.c13
 cache:=by obtain⟨es,c,hb⟩:=Qhf h.cache.km;exact Qek h.cache hf hS (hm _ _ _ hb) (ht _ (by decide)) (ht _ (by decide)) (ht _ (by decide))
 net:=Yq h.net hf hS (ht _ (by decide)) (ht _ (by decide)) (ht _ (by decide))
 disk:=h.disk.kept hf hS (ht _ (by decide)) (ht _ (by decide))
 dfiles:=h.dfiles
 maps:=h.maps
 o z hz:=Nat.lt_of_lt_of_le (h.o z hz) hf.size
theorem Yn.own {a b c:World} {C:Array Value} {t:TypeId} (h:Yn a q x N d b s) (hf:Fr (·=g) b c) (hg:b.heap[g]?=some (.cells C t (0,0))) (ht:t ∉ qTs) (hga:a.heap.size≤g):Yn a q x N d c s:=by obtain⟨y,h1,h2,h3⟩:=h;exact⟨y,h1.kept hf (Qw hg) (fun t' h' e=>ht (by rw[List.mem_singleton] at e;rw[←e];exact h')) (fun k es c' hk e=>by subst e;rw[hg] at hk;cases hk),h2.step hf fun i hi e=>by omega,h3⟩
theorem Jx (w:World) (g:Nat) (cs:Array Value):Fr (·=g) w (w.setRow g cs):=have:=(inferInstance:Inhabited OutT);⟨rfl,rfl,rfl,by simp[World.setRow],fun k _ hs=>setRow_other w g k cs (fun e=>hs e)⟩
variable {f:Nat→Addr} {base:Nat} {p:ByteArray} {u:Value}
theorem Y5.fr (h:Y5 f w base p u) (hf:Fr S w w') (hS:Qae w S ts) (ht:155 ∉ ts):Y5 f w' base p u:=by
 have:=(inferInstance:Inhabited OutT)
 obtain⟨q,rfl,h1,h2⟩:=h;exact⟨q,rfl,h1,Ze h2 hf hS ht⟩
theorem Y5.low {base':Nat} (h:Y5 f w base p u) (hb:base'≤base):Y5 f w base' p u:=by
 have:=(inferInstance:Inhabited OutT)
 obtain⟨q,rfl,h1,h2⟩:=h;exact⟨q,rfl,Nat.le_trans hb h1,h2⟩
def Qa7 (f:Nat→Addr) (w:World) (q:Qf) (x:Qv) (N:Nat) (d:Dk) (r:Except QErr Hsh×Cs) (e:Ending) (w':World):Prop:=
 Yn w q x N d w' r.2∧((∃ h,r.1=.ok h∧e=.returned (.tuple #[.agg (h8 h),.nilIface]))∨∃ p u h,r.1=.error (.miss p)∧e=.returned (.tuple #[.agg (h8 h),u])∧Y5 f w' w.heap.size p u)
theorem Q05 (f:Nat→Addr) (w:World) (q:Qf) (x:Qv) (N:Nat) (s:Cs) (d:Dk) (h:QIs w q x N s d) (hE:EnvS f (QS q x) w) (level index:Nat) (hev:level%2=0) (hlv:level≤62) (hi:(index+1)*2 ^ level≤N) (hN:N<9223372036854775808) (hft:s.net.fetches<1152921504606846000) (hlen:x.vs.length<1099511627775) (hsm:Qaa s.net) (hp:(Qcd N level index s).1≠.error .panic) :
  Calls prog 89 #[.pointer (some ⟨q.gq,0,none⟩),.int .i64 level,.int .i64 index] w (Qa7 f w q x N d (Qcd N level index s)):=by
 obtain⟨R,hRR⟩:∃ R,R=Qcd N level index s:=⟨_,rfl⟩
 rw[←hRR] at hp ⊢;have HRR:=zh hRR;clear hRR;have hb0:=Qa w (.cells zc 109);have hpow:=Nat.two_pow_pos level;have hilt:index<N / 2 ^ level:=(Nat.le_div_iff_mul_le hpow).2 hi;have hNl:N / 2 ^ level≤N:=Nat.div_le_self _ _;have HF:=zh (Qz7 f _ q x N s d (h.below hb0) (hE.below hb0) ((level / 2:Nat):Int) (index / 4) (N / 2 ^ level) (by omega) (by omega) hft hlen hsm);have HQ:=zh (h.below hb0);have l0:(0:Int)≤(level:Int):=by omega
 have l1:(level:Int)≤62:=by omega
 have i0:(0:Int)≤(index:Int):=by omega
 have i1:(index:Int)<9223372036854775807:=by omega
 have hev2:((level:Int)%2 == 1)=false:=by rw[beq_eq_false_iff_ne];omega
 have k1:=HQ.o.heads.2.1;have hgq:q.gq<(w.alloc (.cells zc 109)).heap.size:=Qk k1;have h0:=h;clear h hE hb0 hpow
 go_enter func89,ntmps89
 have hnl:w.heap.size<(w.alloc (.cells zc 109)).heap.size:=by simp
 have hnq:¬ QS q x w.heap.size:=fun e=>Nat.lt_irrefl _ (h0.lt e)
 have e1:(level:Int) / 2=((level / 2:Nat):Int):=rfl;have e2:(index:Int) / 4=((index / 4:Nat):Int):=rfl;have e3:(N:Int) / 2 ^ level=((N / 2 ^ level:Nat):Int):=by simp
 have HE123:=zh (And.intro e1 (And.intro e2 e3));have HNQ:=zh hnq;clear e1 e2 e3 hnq h0
 go_wp2_with fail
 rw[HE123.o.1,HE123.o.2.1,HE123.o.2.2];refine HF.o.mono ?_;intro e w1 h1;obtain⟨hq1,h1⟩:=h1;have hz1:Qu w1 w.heap.size zero8:=by obtain⟨_,_,hf1,_⟩:=hq1;exact Qe3 (Qe rfl) hf1 HNQ.o
 obtain⟨r,hr⟩:∃ r,r=Qau Z5 ((level / 2:Nat):Int) (index / 4) (N / 2 ^ level) s:=⟨_,rfl⟩
 rw[←hr] at hq1 h1;obtain⟨o,s1⟩:=r;have HQ1:=zh hq1;have HR:=zh hr;clear hq1 hr;have hsz0:w.heap.size≤(w.alloc (.cells zc 109)).heap.size:=by simp
 have fin:∀ (wx:World) (k:Hsh),Fr (·=w.heap.size) w1 wx→Yn w q x N d (wx.setRow w.heap.size (h8 k)) s1:=fun wx k hf=>
  (Yn.trans (Fr.ofBelow (Qa w _)) (Sub.refl _ _) HQ1.o).own (hf.trans (Jx wx w.heap.size (h8 k))) hz1 (by decide) (Nat.le_refl _)
 have FIN:=zh fin;clear fin;rcases h1 with ⟨b,a,n,c,rfl,rfl,hob⟩|⟨p,u,rfl,rfl,hme⟩
 ·have hev3:R=Qk2 b (index%4) s1:=by rw[HRR.o];unfold Qcd Qm.bind;rw[←HR.o]
  rw[hev3] at hp;have hpb:¬ b.length<8*(index%4):=fun hlt=>hp (by unfold Qk2;rw[if_pos hlt])
  have hpart:R=(.ok (Qss b (index%4)),s1):=by rw[hev3];unfold Qk2;rw[if_neg hpb]
  clear hev3;obtain⟨hnb,hnc⟩:=Q2h hob.at;have HOB:=zh hob;have HP:=zh hpart;obtain⟨kk,hkk⟩:∃ kk,kk=8*(index%4):=⟨_,rfl⟩
  have hk13:IntKind.i64.wrap (8*(index:Int).tmod 4)=(kk:Int):=by rw[Int.tmod_eq_emod_of_nonneg i0,IntWalk.i64_in _ (by omega)];omega
  have hk15:kk≤n:=by omega
  have hk16:n≤c:=hnc;have HKK:=zh hkk;rw[←hkk] at hpb;clear hp hpb hpart hkk;rcases hob with ⟨hv,hb0⟩|⟨bk,off,c',C,fz,hv,_⟩
  ·simp only[Value.slice.injEq] at hv
   obtain⟨rfl,rfl,rfl⟩:=hv;obtain rfl:kk=0:=by omega
   have hbn:Q6 w1 (.slice none 0 0) (b.drop 0):=by rw[hb0];exact⟨none,0,rfl,Nat.le_refl _,fun j u hu=>by simp at hu⟩
   have HBF:=zh hbn;clear hbn hnb
   go_upto_region 10 with fail
   go_still_tail 6,(by kernel_rfl)
   change wpList _ _ _ _ _ w1.drew
   refine Qh7 rfl _ _ 94 94 rfl 5 underlying94 Qvu w.heap.size rfl _ _ _ _ rfl (HBF.o.below (Ql w1)) (Qqz hz1) ?_;intro kx wx hx1 hx2 hx3;have HX2:=zh hx2;obtain⟨y8,hy8⟩:∃ y8,y8=Yw (b.drop 0):=⟨_,rfl⟩
   rw[←hy8] at hx1;have HY8:=zh hy8;have HZ1:=zh hz1;clear hx2 hx3 hy8 hz1 hk13 hk15 hk16 i0 i1 l0 l1 hev2 k1 hgq hnl hnc hilt hNl
   go_wp2_with (first|((first|refine Q1 rfl 109 _ rfl _ rfl _ underlying109 info8 ?_ ?_ ?_|refine Qt rfl 109 _ _ rfl _ _ rfl rfl info8 ?_ ?_ ?_);rotate_left;focus((repeat(first|(with_reducible first|assumption|exact Qj ⟨_,by assumption⟩ _)|((with_reducible first|refine Qe ?_|refine Q2 ?_|refine Qj (Q9 ?_) _);(first|rfl|(simp;done)|(simp;omega)))|with_reducible refine Qp ?_ _|((with_reducible refine Qi ?_ _ ?_);rotate_left;(focus(first|(simp;done)|(simp;omega)|omega)))|with_reducible first|refine Qo ?_|refine Qg ?_ (by assumption)));done)))
   all_goals (
    refine ret8t w.heap.size y8 .nilIface rfl rfl rfl _ underlying109 info8 (Qy hx1 _) rfl ?_
    rw[HP.o,HY8.o]
    exact⟨FIN.o wx _ ((Fr.ofBelow (Ql w1)).trans HX2.o),.inl ⟨_,by unfold Qss;rw[←HKK.o],rfl⟩⟩)
  ·simp only[Value.slice.injEq] at hv
   obtain⟨rfl,rfl,rfl⟩:=hv;have hbf:=Q02 HOB.o.at (k:=kk) hk15 rfl hnc;have HBF:=zh hbf;clear hbf hnb
   go_upto_region 10 with fail
   go_still_tail 6,(by kernel_rfl)
   change wpList _ _ _ _ _ w1.drew
   refine Qh7 rfl _ _ 94 94 rfl 5 underlying94 Qvu w.heap.size rfl _ _ _ _ rfl (HBF.o.below (Ql w1)) (Qqz hz1) ?_;intro kx wx hx1 hx2 hx3;have HX2:=zh hx2;obtain⟨y8,hy8⟩:∃ y8,y8=Yw (b.drop kk):=⟨_,rfl⟩
   rw[←hy8] at hx1;have HY8:=zh hy8;have HZ1:=zh hz1;clear hx2 hx3 hy8 hz1 hk13 hk15 hk16 i0 i1 l0 l1 hev2 k1 hgq hnl hnc hilt hNl
   go_wp2_with (first|((first|refine Q1 rfl 109 _ rfl _ rfl _ underlying109 info8 ?_ ?_ ?_|refine Qt rfl 109 _ _ rfl _ _ rfl rfl info8 ?_ ?_ ?_);rotate_left;focus((repeat(first|(with_reducible first|assumption|exact Qj ⟨_,by assumption⟩ _)|((with_reducible first|refine Qe ?_|refine Q2 ?_|refine Qj (Q9 ?_) _);(first|rfl|(simp;done)|(simp;omega)))|with_reducible refine Qp ?_ _|((with_reducible refine Qi ?_ _ ?_);rotate_left;(focus(first|(simp;done)|(simp;omega)|omega)))|with_reducible first|refine Qo ?_|refine Qg ?_ (by assumption)));done)))
   all_goals (
    refine ret8t w.heap.size y8 .nilIface rfl rfl rfl _ underlying109 info8 (Qy hx1 _) rfl ?_
    rw[HP.o,HY8.o,HKK.o]
    exact⟨FIN.o wx _ ((Fr.ofBelow (Ql w1)).trans HX2.o),.inl ⟨_,rfl,rfl⟩⟩)
 ·have HME:=zh hme
  obtain⟨q9,rfl,hq9,hh9⟩:=hme;clear hh9
  go_wp2_with (first|((first|refine Q1 rfl 109 _ rfl _ rfl _ underlying109 info8 ?_ ?_ ?_|refine Qt rfl 109 _ _ rfl _ _ rfl rfl info8 ?_ ?_ ?_);rotate_left;focus((repeat(first|(with_reducible first|assumption|exact Qj ⟨_,by assumption⟩ _)|((with_reducible first|refine Qe ?_|refine Q2 ?_|refine Qj (Q9 ?_) _);(first|rfl|(simp;done)|(simp;omega)))|with_reducible refine Qp ?_ _|((with_reducible refine Qi ?_ _ ?_);rotate_left;(focus(first|(simp;done)|(simp;omega)|omega)))|with_reducible first|refine Qo ?_|refine Qg ?_ (by assumption)));done)))
  refine ret8t w.heap.size zero8 _ rfl rfl rfl _ underlying109 info8 (Qy hz1 _) rfl ?_;have hev3:R=(.error (.miss p),s1):=by rw[HRR.o];unfold Qcd Qm.bind;rw[←HR.o]
  rw[hev3];refine⟨FIN.o w1 _ (Fr.refl _ _),.inr ⟨p,_,zero8,rfl,rfl,?_⟩⟩;exact ((HME.o.fr (Jx w1 w.heap.size _) (Qw hz1) (by decide)).low hsz0)
end
end
section
open Go.RowKit Go.MuLone
abbrev cliC (mu:Int) (vf:Value) (key:ByteArray) (n:Int) (h:Hsh) (gk:Nat):Array Value:=#[.int .i32 mu,.int .u32 0,vf,.string key,.int .i64 n,bv h[0],bv h[1],bv h[2],bv h[3],bv h[4],bv h[5],bv h[6],bv h[7],.pointer (some ⟨gk,0,none⟩)]
section
variable [Inhabited OutT]
structure ClM (mu:Int) (w:World) (gc gk mc:Nat) (vf:Value) (c:Cl) (qs:List CEnt):Prop where
 cells:w.heap[gc]?=some (.cells (cliC mu vf c.key c.size c.root gk) 177 (0,0))
 cache:Zx w gk mc c.cache qs
abbrev ClIs (w:World) (gc gk mc:Nat) (vf:Value) (c:Cl) (qs:List CEnt):Prop:=ClM 0 w gc gk mc vf c qs
def clS (gc gk mc:Nat) (qs:List CEnt) (k:Nat):Prop:=k=gc∨Yh gk mc qs k
section
variable {mu:Int} {w w':World} {gc gk mc:Nat} {vf:Value} {c:Cl} {qs:List CEnt}
theorem ClM.below (h:ClM mu w gc gk mc vf c qs) (hb:Below w.heap.size w w'):ClM mu w' gc gk mc vf c qs:=
 ⟨(hb.block _ (Qc h.cells)).trans h.cells,h.cache.fr (S:=fun _=>False) (Fr.ofBelow hb) (fun _ _=>id) (fun _ _ _ _=>id)⟩
theorem ClM.fr {S:Nat→Prop} (h:ClM mu w gc gk mc vf c qs) (hf:Fr S w w') (hs:∀ k,clS gc gk mc qs k→¬ S k) (hn:Qb7 w S):ClM mu w' gc gk mc vf c qs:=
 ⟨hf.heap h.cells (hs _ (.inl rfl)),h.cache.fr hf (fun i hi=>hs i (.inr hi)) hn⟩
theorem ClM.lt (h:ClM mu w gc gk mc vf c qs):gc<w.heap.size:=Qc h.cells
theorem ClM.noBytes (h:ClM mu w gc gk mc vf c qs):Qb7 w (·=gc):=fun k C fz hk e=>Zp hk h.cells (by decide) e
theorem ClM.apart (h:ClM mu w gc gk mc vf c qs):∀ k,Yh gk mc qs k→¬ k=gc:=fun k hk e=>by
 rcases hk with e1|e1|e1
 ·obtain⟨l,r,h2⟩:=h.cache.ring.ends
  rw[←e1,e,h.cells] at h2;cases h2
 ·obtain⟨D,⟨es,cl,hb,_⟩,_⟩:=h.cache.km.ex
  rw[←e1,e,h.cells] at hb;cases hb
 ·obtain⟨k',v,_,l,r,h2⟩:=h.cache.ring.node (by rw[Qce];exact e1)
  rw[e,h.cells] at h2;cases h2
theorem ClM.ltS (h:ClM mu w gc gk mc vf c qs) {k:Nat} (hk:clS gc gk mc qs k):k<w.heap.size:=by
 rcases hk with rfl|rfl|rfl|hk
 ·exact h.lt
 ·obtain⟨l,r,h2⟩:=h.cache.ring.ends
  exact Qc h2
 ·exact h.cache.km.lt
 ·obtain⟨k',v,_,l,r,h2⟩:=h.cache.ring.node (by rw[Qce];exact hk)
  exact Qc h2
theorem ClM.turn (h:ClM mu w gc gk mc vf c qs) (mu':Int):ClM mu' (w.setCell ⟨gc,0,none⟩ (.int .i32 mu')) gc gk mc vf c qs:=
 ⟨(heap_setCell h.cells _).trans (by simp),h.cache.fr (Fr.set1 w gc 0 _) (fun i hi e=>h.apart i hi e) h.noBytes⟩
theorem Qlk (h:ClM 0 w gc gk mc vf c qs):Calls prog 83 #[.pointer (some ⟨gc,0,none⟩)] w fun e w'=>e=.returned (.tuple #[])∧ClM 1 w' gc gk mc vf c qs∧Fr (·=gc) w w'∧w'.heap.size=w.heap.size:=
 (lock_free Q2t ⟨gc,0,none⟩ w (Qd h.cells 0 rfl) (Qq h.cells 0)).mono fun e w' hp=>by
  obtain⟨rfl,rfl⟩:=hp
  exact⟨rfl,h.turn 1,Fr.set1 w gc 0 _,by simp⟩
theorem Q0d (u:FrameMode) (h:ClM 1 w gc gk mc vf c qs):CallsD prog 84 #[.pointer (some ⟨gc,0,none⟩)] u w fun e u' w'=>u'=u∧e=.returned (.tuple #[])∧ClM 0 w' gc gk mc vf c qs∧Fr (·=gc) w w':=
 (unlock_deferred Q2t ⟨gc,0,none⟩ u w (Qd h.cells 0 rfl) (Qq h.cells 0)).mono fun e u' w' hp=>by
  obtain⟨rfl,rfl,rfl⟩:=hp
  exact⟨rfl,rfl,h.turn 0,Fr.set1 w gc 0 _⟩
end
theorem Q6v (w:World):Calls prog 66 #[.slice none 0 0] w fun e w'=>e=.returned (.agg #[bv (hash [])[0],bv (hash [])[1],bv (hash [])[2],bv (hash [])[3],bv (hash [])[4],bv (hash [])[5],bv (hash [])[6],bv (hash [])[7]])∧Below w.heap.size w w':=by
 have:=(inferInstance:Inhabited OutT)
 have h:=Qjv (.slice none 0 0) [] w ⟨[],rfl,⟨none,0,rfl,Nat.le_refl _,fun j u h=>by cases h⟩,fun j u l h1 h2=>by cases h1⟩ (by simp) (fun l hl=>by cases hl);rw[Qgb] at h;exact h
theorem Qqa (w:World) (vf:Value) (hvf:vf=.nilIface∨∃ a,vf=.iface 44 (.pointer (some a))) (key:ByteArray) (i:Int) (hi:i≤9223372036854775807) :
  Calls prog 41 #[vf,.string key,.int .i64 i] w fun e w'=>∃ gc gk mc,e=.returned (.pointer (some ⟨gc,0,none⟩))∧ClIs w' gc gk mc vf ⟨key,0,(hash []),⟨i.toNat,[]⟩⟩ []∧Below w.heap.size w w'∧w.heap.size≤gc∧w.heap.size≤gk∧w.heap.size≤mc:=by
 rcases hvf with rfl|⟨a,rfl⟩
 all_goals
  go_enter func41,ntmps41
  go_wp2_with (first
   | (go_at_call 66;refine (Q6v w).mono ?_;rintro e w1 ⟨rfl,hb1⟩;have HB1:=zh hb1;clear hb1)
   | (go_at_call 82;refine (Q4i w1 i hi).mono ?_;rintro e w2 ⟨gk,mc,rfl,hc2,hb2,hg2,hm2⟩;have HC2:=zh hc2;have HB2:=zh hb2;clear hc2 hb2)
   | fail)
  refine bodyPost_ret (results_tmp rfl _ _ _) rfl ⟨w2.heap.size,gk,mc,rfl,⟨heap_alloc_new w2 _,?_⟩,?_,?_,?_,?_⟩
  ·exact HC2.o.fr (S:=fun _=>False) (Fr.ofBelow (Qa w2 _)) (fun _ _=>id) (fun _ _ _ _=>id)
  ·have hz1:=HB1.o.size
   have hz2:=HB2.o.size;exact (HB1.o.trans (HB2.o.mono hz1)).alloc (by omega) _
  ·exact Nat.le_trans HB1.o.size HB2.o.size
  ·exact Nat.le_trans HB1.o.size hg2
  ·exact Nat.le_trans HB1.o.size hm2
theorem Qrc (w:World) (gc gk mc:Nat) (vf:Value) (c:Cl) (qs:List CEnt) (h:ClIs w gc gk mc vf c qs) :
  Calls prog 44 #[.pointer (some ⟨gc,0,none⟩)] w fun e w'=>e=.returned (trV c.size c.root)∧ClIs w' gc gk mc vf c qs∧Fr (·=gc) w w':=by
 have hlt:=h.lt;obtain⟨W0,hW0⟩:∃ x,x=w.alloc (.cells (trC 0 zero8) 111):=⟨_,rfl⟩
 have T0:TrAt W0 w.heap.size 0 zero8:=by rw[hW0];exact heap_alloc_new w _
 have b0:Below w.heap.size w W0:=by rw[hW0];exact Qa w _
 have H:=zh (h.below b0);have H0:=zh h;have HT:=zh T0;have HB:=zh b0;have HW:=zh hW0;clear h hW0 T0 b0
 go_enter_defers func44,ntmps44
 go_upto_region 1 with fail
 rw[show w.alloc (.cells #[.int .i64 0,.int .u8 0,.int .u8 0,.int .u8 0,.int .u8 0,.int .u8 0,.int .u8 0,.int .u8 0,.int .u8 0] 111)=W0 from HW.o.symm]
 go_wp2_with (first
  | (go_at_call 83;refine (Qlk H.o).mono ?_;rintro e w1 ⟨rfl,h1,hf1,hz1⟩;have H1:=zh h1;have HF1:=zh hf1;have d4:=Qd h1.cells 4 rfl;have d5:=Qd h1.cells 5 rfl;have d6:=Qd h1.cells 6 rfl;have d7:=Qd h1.cells 7 rfl;have d8:=Qd h1.cells 8 rfl;have d9:=Qd h1.cells 9 rfl;have d10:=Qd h1.cells 10 rfl;have d11:=Qd h1.cells 11 rfl;have d12:=Qd h1.cells 12 rfl;have hlt1:=h1.lt;have T1:TrAt w1 w.heap.size 0 zero8:=hf1.heap HT.o (Nat.ne_of_gt hlt);have HT1:=zh T1;clear h1 hf1 T1)
  | (refine Z7 rfl _ _ rfl _ c.size c.root rfl rfl _ _ HT1.o ?_)
  | fail)
 have hT2:TrAt (w1.setRow w.heap.size (trC c.size c.root)) w.heap.size c.size c.root:=HT1.o.set _ _;have hF2:Fr (·=w.heap.size) w1 (w1.setRow w.heap.size (trC c.size c.root)):=Jx w1 w.heap.size _;have h2:ClM 1 (w1.setRow w.heap.size (trC c.size c.root)) gc gk mc vf c qs:=H1.o.fr hF2 (fun k hk e=>by
  have:=H0.o.ltS hk
  have e:k=w.heap.size:=e
  omega) (fun k C fz hk e=>Zp hk HT1.o (by decide) e)
 refine leaves_cons (f:=84) (args:=#[.pointer (some ⟨gc,0,none⟩)]) (by simp) (by simp[go_sem]) ?_;refine (Q0d .returning h2).mono ?_;rintro e u' w3 ⟨rfl,rfl,h3,hf3⟩;simp only[Leaves,settle];have hT3:TrAt w3 w.heap.size c.size c.root:=hf3.heap hT2 (Nat.ne_of_gt hlt);have hl:=run_loadVar_row (P:=prog) w3 w.heap.size _ 111 (trC c.size c.root) _ _ hT3 underlying111 rfl (by rw[Q29];rfl);refine⟨trV c.size c.root,?_,rfl,h3,?_⟩
 ·simp[results,results44,go_sem,asAddr,hl] at *
  try exact hl
 ·refine (((Fr.ofBelow HB.o).trans HF1.o).step hF2 fun i hi e=>?_).trans hf3
  have e:i=w.heap.size:=e;omega
end
end
section
structure Cost (k:Nat) (s s':Cs):Prop where
 files:s'.files.length≤s.files.length+k
 fetches:s'.net.fetches≤s.net.fetches+2*k
 items:s'.cache.items.length≤s.cache.items.length
theorem Cost.refl (s:Cs):Cost 0 s s:=⟨Nat.le_refl _,Nat.le_refl _,Nat.le_refl _⟩
variable {j k:Nat} {a b:Cs}
theorem Cost.trans {c:Cs} (h:Cost j a b) (i:Cost k b c):Cost (j+k) a c:=
 ⟨by have:=h.files;have:=i.files;omega,by have:=h.fetches;have:=i.fetches;omega,Nat.le_trans i.items h.items⟩
theorem Cost.more (h:Cost j a b) (hk:j≤k):Cost k a b:=
 ⟨by have:=h.files;omega,by have:=h.fetches;omega,h.items⟩
def Qfg {α:Type} (m:Qm α) (k:Nat):Prop:=∀ s,Cost k s (m s).2
variable {α:Type}
theorem Qfg.pure (a:α):Qfg (Qm.pure a) 0:=fun s=>Cost.refl s
theorem Qfg.bind {β:Type} {m:Qm α} {f:α→Qm β} (h:Qfg m j) (g:∀ a,Qfg (f a) k):Qfg (Qm.bind m f) (j+k):=fun s=>by
 have h1:=h s
 unfold Qm.bind
 cases hm:m s with
 | mk o s1=>
  rw[hm] at h1
  cases o with
  | ok a=>exact h1.trans (g a s1)
  | error e=>exact h1.more (Nat.le_add_right _ _)
theorem Q22 (l:List Kv) (p:ByteArray) (v:List UInt8) (h:Z3 l p=some v):(Jb l p).length+1≤l.length:=by
 have hm:=Qf9 h
 have:∀ (l:List Kv) (x:Kv),x∈l→x.1=p→(Jb l p).length+1≤l.length:=by
  intro l x hx he
  induction l with
  | nil=>cases hx
  | cons a l ih=>
   unfold Jb at ih ⊢;rw[List.filter_cons];by_cases ha:a.1=p
   ·rw[if_neg (by simp[ha]),List.length_cons]
    exact Nat.succ_le_succ (List.length_filter_le _ _)
   ·rw[if_pos (by simp[ha]),List.length_cons,List.length_cons]
    rcases List.mem_cons.1 hx with h1|h1
    ·rw[h1] at he;exact absurd he ha
    ·exact Nat.succ_le_succ (ih h1)
 exact this l _ hm rfl
theorem Qqi (c:Cch) (p:ByteArray):(Yi c p).items.length≤c.items.length:=by
 unfold Yi
 split
 ·rename_i v hv
  have:=Q22 _ _ _ hv
  simp only[List.length_cons];exact this
 ·exact Nat.le_refl _
theorem Qdj (q:ByteArray) (s:Cs):(Zd q s).net.fetches=s.net.fetches+1:=(Yg s.net q).2.2
theorem Qhm (fits:Qir) (level:Int) (index count:Nat):Qfg (Qau fits level index count) 1:=fun s=>by
 unfold Qau
 split
 ·exact (Cost.refl s).more (by decide)
 ·split
  ·exact⟨by simp[Qgi],Nat.le_add_right _ _,Qqi _ _⟩
  ·unfold Qbq
   have h1:∀ q,(Zd q s).net.fetches=s.net.fetches+1:=fun q=>Qdj q s
   have h2:∀ q q',(Zd q' (Zd q s)).net.fetches=s.net.fetches+1+1:=fun q q'=>by rw[Qdj,Qdj]
   split
   ·exact⟨by simp[Qgi,Zd],by show (Zd _ s).net.fetches≤_;rw[h1];omega,Nat.le_refl _⟩
   ·split
    ·exact⟨by simp[Zd],by rw[h1];omega,Nat.le_refl _⟩
    ·split
     ·exact⟨by simp[Qgi,Zd],by show (Zd _ (Zd _ s)).net.fetches≤_;rw[h2];omega,Nat.le_refl _⟩
     ·exact⟨by simp[Zd],by rw[h2];omega,Nat.le_refl _⟩
theorem Qux (b:List UInt8) (k:Nat):Qfg (Qk2 b k) 0:=fun s=>by
 unfold Qk2
 split <;> exact Cost.refl s
theorem Qe0 (n level index:Nat):Qfg (Qcd n level index) 1:=(Qhm _ _ _ _).bind (k:=0) fun b=>Qux b _
theorem Quh (n level index:Nat):Qfg (Qdq n level index) (Qfq n level index).length:=by
 unfold Qdq Qfq
 split
 ·exact (Qe0 _ _ _).bind (k:=1) fun a=>(Qe0 _ _ _).bind (k:=0) fun b=>Qfg.pure _
 ·exact Qe0 _ _ _
theorem Qdh (N:Nat):∀ (f i n:Nat),Qfg (rootQ N f i n) (J9 N f i n).length
 | 0,_,_=>fun s=>Cost.refl s
 | f+1,i,n=>by
  rw[rootQ,J9]
  split
  ·exact Quh _ _ _
  ·rw[List.length_append]
   exact (Qdh N f _ _).bind fun a=>(Qdh N f _ _).bind (k:=0) fun b=>Qfg.pure _
theorem Qc5 (N:Nat):∀ rs,Qfg (Zg N rs) (Zl N rs).length
 | []=>fun s=>Cost.refl s
 | x :: xs=>by
  rw[Zg]
  have e:(Zl N (x :: xs)).length=(J9 N (x.2-x.1) x.1 (x.2-x.1)).length+(Zl N xs).length:=by simp[Zl]
  rw[e]
  exact (Qdh N _ _ _).bind fun a=>(Qc5 N xs).bind (k:=0) fun b=>Qfg.pure _
theorem Qno (N i:Nat):Qfg (Qbr N i) (Qkz N i).length:=by
 unfold Qbr Qkz;rw[List.length_cons,Nat.add_comm];refine (Qhm _ _ _ _).bind fun b=>?_
 split
 ·exact fun s=>(Cost.refl s).more (Nat.zero_le _)
 ·exact (Qc5 N _).bind (k:=0) fun p=>Qfg.pure _
theorem Qm1 (n level index:Nat):(Qfq n level index).length≤2:=by
 unfold Qfq
 split <;> simp[Qi4]
theorem Qmk (N:Nat):∀ (f i n:Nat),1≤n→(J9 N f i n).length≤2*n
 | 0,_,_,_=>by simp[J9]
 | f+1,i,n,h=>by
  rw[J9]
  split
  ·have:=Qm1 N (Lib.bitLen n-1) (i / n)
   omega
  ·rename_i hn
   have h2:2≤n:=by
    rcases Nat.lt_or_ge n 2 with hlt|hge
    ·obtain rfl:n=1:=by omega
     exact absurd ⟨by decide,Nat.mod_one i⟩ hn
    ·exact hge
   have hb:=Yl h2
   have h3:=Qmk N f i (below n) (by omega)
   have h4:=Qmk N f (i+below n) (n-below n) (by omega)
   rw[List.length_append]
   omega
theorem Qmh (N K:Nat):∀ rs:List (Nat×Nat),(∀ x∈rs,x.1<x.2∧x.2≤K)→(Zl N rs).length≤rs.length*(2*K)
 | [],_=>by simp[Zl]
 | x :: xs,h=>by
  have h1:=h x List.mem_cons_self
  have h2:=Qmh N K xs fun y hy=>h y (List.mem_cons_of_mem _ hy)
  have h3:=Qmk N (x.2-x.1) x.1 (x.2-x.1) (by omega)
  have e:(Zl N (x :: xs)).length=(J9 N (x.2-x.1) x.1 (x.2-x.1)).length+(Zl N xs).length:=by simp[Zl]
  rw[e,List.length_cons,Nat.add_mul]
  omega
theorem Q55 (c:Cch) (p:ByteArray) (v:List UInt8):(Z1 c p v).items.length≤c.items.length+1:=by
 unfold Z1
 split
 ·omega
 ·split
  ·simp only[List.length_cons]
   have:(Jb c.items p).length≤c.items.length:=List.length_filter_le _ _
   omega
  ·split
   ·simp only[List.length_cons,List.length_dropLast]
    omega
   ·simp
theorem Qf8:∀ (xs:List Kv) (c:Cch),(Zf c xs).items.length≤c.items.length+xs.length
 | [],c=>Nat.le_refl _
 | x :: xs,c=>by
  have h1:=Qf8 xs (Z1 c x.1 x.2)
  have h2:=Q55 c x.1 x.2
  rw[Zf,List.length_cons]
  omega
theorem Qgm {n m:Nat} (h2:2≤n) (hm:n≤2 ^ m) (hm2:m≤63):∃ m2,m=m2+1∧below n≤2 ^ m2∧n-below n≤2 ^ m2:=by
 have hm0:m≠0:=fun e=>by subst e;simp at hm;omega
 obtain⟨m2,rfl⟩:∃ m2,m=m2+1:=⟨m-1,by omega⟩
 have h63:(2:Nat) ^ (m2+1)≤2 ^ 63:=Nat.pow_le_pow_right (by decide) hm2;have hp:2 ^ (m2+1)=2*2 ^ m2:=by rw[Nat.pow_succ];omega
 rcases Nat.lt_or_ge n 9223372036854775808 with hlt|hge
 ·obtain⟨e,he,he2,h4,h5⟩:=Qy3 h2 hlt
  have hb:below n=2 ^ e:=by unfold below;rw[he];rfl
  have hem:e<m2+1:=(Nat.pow_lt_pow_iff_right (a:=2) (by decide)).1 (Nat.lt_of_lt_of_le h4 hm);have hle:2 ^ e≤2 ^ m2:=Nat.pow_le_pow_right (by decide) (by omega);exact⟨m2,rfl,by omega,by omega⟩
 ·have he:n=2 ^ 63:=by omega
  have hm63:m2=62:=by
   rcases Nat.lt_or_ge m2 62 with h|h
   ·have:(2:Nat) ^ (m2+1)≤2 ^ 62:=Nat.pow_le_pow_right (by decide) (by omega)
    omega
   ·omega
  subst hm63;have hb:=Yl h2;refine⟨62,rfl,?_,?_⟩
  ·subst he
   decide
  ·subst he
   decide
theorem Qid:∀ (f mm a b i:Nat),b-a≤2 ^ mm→mm≤63→(Ja f a b i).length≤mm
 | 0,_,_,_,_,_,_=>Nat.zero_le _
 | f+1,mm,a,b,i,h,hm=>by
  unfold Ja
  by_cases h1:b-a≤1
  ·rw[if_pos h1];exact Nat.zero_le _
  ·rw[if_neg h1]
   obtain⟨m2,rfl,h2,h3⟩:=Qgm (n:=b-a) (by omega) h hm
   split
   ·have:=Qid f m2 a (a+below (b-a)) i (by rw[Nat.add_sub_cancel_left];exact h2) (by omega)
    rw[List.length_cons];omega
   ·have:=Qid f m2 (a+below (b-a)) b i (by rw[←Nat.sub_sub];exact h3) (by omega)
    rw[List.length_cons];omega
theorem Qia:∀ (f mm a b m:Nat),b-a≤2 ^ mm→mm≤63→a<m→(Jy f a b m).length≤mm+1
 | 0,_,_,_,_,_,_,_=>Nat.zero_le _
 | f+1,mm,a,b,m,h,hm,ha=>by
  unfold Jy
  by_cases h1:b≤m
  ·rw[if_pos h1];split <;> simp
  ·rw[if_neg h1]
   obtain⟨m2,rfl,h3,h4⟩:=Qgm (n:=b-a) (by omega) h hm
   split
   ·have:=Qia f m2 a (a+below (b-a)) m (by rw[Nat.add_sub_cancel_left];exact h3) (by omega) ha
    rw[List.length_cons];omega
   ·have:=Qia f m2 (a+below (b-a)) b m (by rw[←Nat.sub_sub];exact h4) (by omega) (by omega)
    rw[List.length_cons];omega
theorem Qhv (N:Nat):∀ (rs:List (Nat×Nat)) (s s':Cs) (l:List Hsh),Zg N rs s=(.ok l,s')→l.length=rs.length
 | [],s,s',l,h=>by
  simp only[Zg,Qm.pure,Prod.mk.injEq,Except.ok.injEq] at h
  rw[←h.1];rfl
 | x :: xs,s,s',l,h=>by
  unfold Zg Qm.bind at h
  cases hr:rootQ N (x.2-x.1) x.1 (x.2-x.1) s with
  | mk o s1=>
   rw[hr] at h
   cases o with
   | error e=>simp at h
   | ok a=>
    dsimp only at h
    cases hg:Zg N xs s1 with
    | mk o2 s2=>
     rw[hg] at h
     cases o2 with
     | error e=>simp at h
     | ok l2=>
      simp only[Qm.pure,Prod.mk.injEq,Except.ok.injEq] at h
      rw[←h.1,List.length_cons,List.length_cons,Qhv N xs s1 s2 l2 hg]
theorem Qnh {N i:Nat} (hN:N≤8192) (hi:i<N):(Qkz N i).length≤220000:=by
 have h1:=Qid N 13 0 N i (by omega) (by decide);have h2:=Qmh N N (Ja N 0 N i).reverse fun x hx=>by
  have:=Qd8 N 0 N i (by omega) (by omega) hi x (List.mem_reverse.1 hx)
  omega
 rw[List.length_reverse] at h2;have h3:(Ja N 0 N i).length*(2*N)≤13*(2*8192):=Nat.mul_le_mul h1 (by omega);unfold Qkz;rw[List.length_cons];omega
end
section
section
variable [Inhabited OutT]
structure Bnd (s:Cs) (k:Nat):Prop where
 fetches:s.net.fetches+2*k<1152921504606840000
 files:s.files.length+k<1099511627000
 small:Qaa s.net
variable {j k:Nat} {s:Cs}
theorem Bnd.next {α:Type} {m:Qm α} (h:Bnd s (j+k)) (hm:Qfg m j) (hs:Qbk s.net (m s).2.net):Bnd (m s).2 k:=by
 have:=(inferInstance:Inhabited OutT)
 have h1:=(hm s).fetches;have h2:=(hm s).files
 have:=h.fetches
 have:=h.files
 exact⟨by omega,by omega,by unfold Qaa;rw[hs.1,hs.2];exact h.small⟩
theorem Bnd.less (h:Bnd s k) (hj:j≤k):Bnd s j:=have:=(inferInstance:Inhabited OutT);⟨by have:=h.fetches;omega,by have:=h.files;omega,h.small⟩
variable {w:World} {q:Qf} {x:Qv} {N:Nat} {d:Dk}
theorem QIs.vsLen (h:QIs w q x N s d):x.vs.length=s.files.length:=by rw[h.files,List.length_map]
theorem Yn.env {w':World} {f:Nat→Addr} (h:Yn w q x N d w' s) (hE:EnvS f (QS q x) w):∃ y,QIs w' q y N s d∧EnvS f (QS q y) w'∧Fr (QS q x) w w'∧Sub w (QS q x) (QS q y):=by obtain⟨y,h1,h2,h3⟩:=h;exact⟨y,h1,hE.step h2 h3,h2,h3⟩
theorem Qjy (f:Nat→Addr) (w:World) (q:Qf) (x:Qv) (N:Nat) (s:Cs) (d:Dk) (h:QIs w q x N s d) (hE:EnvS f (QS q x) w) (level index:Nat) (hev:level%2=0) (hlv:level≤62) (hi:(index+1)*2 ^ level≤N) (hN:N<9223372036854775808) (hb:Bnd s 1) (hp:(Qcd N level index s).1≠.error .panic) :
  Calls prog 89 #[.pointer (some ⟨q.gq,0,none⟩),.int .i64 level,.int .i64 index] w (Qa7 f w q x N d (Qcd N level index s)):=
 Q05 f w q x N s d h hE level index hev hlv hi hN (by have:=hb.fetches;omega) (by have:=hb.files;rw[h.vsLen];omega) hb.small hp
theorem Q2p (f:Nat→Addr) (w:World) (q:Qf) (x:Qv) (N:Nat) (s:Cs) (d:Dk) (h:QIs w q x N s d) (hE:EnvS f (QS q x) w) (level index:Nat) (hod:level%2=1) (hlv:level≤62) (hi:(index+1)*2 ^ level≤N) (hN:N<9223372036854775808) (hb:Bnd s 2) (hp:(Qdq N level index s).1≠.error .panic) :
  Calls prog 89 #[.pointer (some ⟨q.gq,0,none⟩),.int .i64 level,.int .i64 index] w (Qa7 f w q x N d (Qdq N level index s)):=by
 obtain⟨R,hRR⟩:∃ R,R=Qdq N level index s:=⟨_,rfl⟩
 rw[←hRR] at hp ⊢;unfold Qdq at hRR;rw[if_pos hod] at hRR;unfold Qm.bind at hRR;obtain⟨lv,hlv1⟩:∃ lv,level=lv+1:=⟨level-1,by omega⟩
 rw[show level-1=lv by omega] at hRR;have hpw:2 ^ level=2*2 ^ lv:=by rw[hlv1,Nat.pow_succ];omega
 have hpow:=Nat.two_pow_pos lv;have hi1:(2*index+1)*2 ^ lv≤N:=by refine Nat.le_trans ?_ hi;rw[hpw,←Nat.mul_assoc];exact Nat.mul_le_mul_right _ (by omega)
 have hi2:(2*index+1+1)*2 ^ lv≤N:=by refine Nat.le_trans ?_ hi;rw[hpw,←Nat.mul_assoc];exact Nat.mul_le_mul_right _ (by omega)
 have hiN:index+1≤N:=Nat.le_trans (Nat.le_mul_of_pos_right _ (Nat.two_pow_pos _)) hi;have hb0:=Qa w (.cells zc 109);have hp1:(Qcd N lv (2*index) s).1≠.error .panic:=fun e=>by
  apply hp;rw[hRR];cases hq:Qcd N lv (2*index) s with
  | mk o s1=>
   rw[hq] at e;dsimp only at e;subst e;rfl
 have HF1:=zh (Qjy f _ q x N s d (h.below hb0) (hE.below hb0) lv (2*index) (by omega) (by omega) hi1 hN (hb.less (by decide)) hp1);have hq1:Bnd (Qcd N lv (2*index) s).2 1:=hb.next (j:=1) (Qe0 N lv (2*index)) (Qg2 (Qb5 s.net) N lv (2*index) s (Qbk.refl _));obtain⟨r1,hr1⟩:∃ r1,r1=Qcd N lv (2*index) s:=⟨_,rfl⟩
 rw[←hr1] at HF1 hq1;rw[←hr1] at hRR;have l0:(0:Int)≤(lv:Int):=by omega
 have l1:(lv:Int)≤62:=by omega
 have i0:(0:Int)≤(index:Int):=by omega
 have i1:2*(index:Int)+1<9223372036854775807:=by
  have:2*index+1+1≤(2*index+1+1)*2 ^ lv:=Nat.le_mul_of_pos_right _ hpow
  omega
 have hod2:((level:Int)%2 == 1)=true:=by rw[beq_iff_eq];omega
 have l2:(0:Int)≤(level:Int):=by omega
 have l3:(level:Int)≤62:=by omega
 have e1:(level:Int)-1=(lv:Int):=by omega
 have e2:2*(index:Int)=((2*index:Nat):Int):=by omega
 have e3:2*(index:Int)+1=((2*index+1:Nat):Int):=by omega
 have hlv2:lv%2=0:=by omega
 have hlv3:lv≤62:=by omega
 have HLV:=zh (And.intro hlv2 hlv3);have HEQ:=zh (And.intro e1 (And.intro e2 e3));have H:=zh h;have HE:=zh (hE.below hb0);have HRR:=zh hRR;have HP:=zh hp;have hgq:q.gq<w.heap.size:=Qc h.look;have hnq:¬ QS q x w.heap.size:=fun e=>Nat.lt_irrefl _ (h.lt e)
 have HNQ:=zh hnq;clear h hE hRR hb0 hr1 hp1 hpw hpow hp hnq hlv1 hlv2 hlv3 e1 e2 e3 l0 l1
 go_enter func89,ntmps89
 go_wp2_with fail
 rw[HEQ.o.1,HEQ.o.2.1];refine HF1.o.mono ?_;intro e w1 h1;obtain⟨hs1,h1⟩:=h1;have hsz0:w.heap.size≤(w.alloc (.cells zc 109)).heap.size:=by simp
 have hsz00:(w.alloc (.cells zc 109)).heap.size=w.heap.size+1:=by simp
 have hsz1:w.heap.size<w1.heap.size:=by
  obtain⟨_,_,hf,_⟩:=hs1
  have:=hf.size
  simp at this;omega
 have hz1:Qu w1 w.heap.size zero8:=by obtain⟨_,_,hf,_⟩:=hs1;exact Qe3 (Qe rfl) hf HNQ.o
 obtain⟨x1,hq1',hE1,hf1,hsub1⟩:=hs1.env HE.o;have hFR1:Fr (QS q x) w w1:=(Fr.ofBelow (Qa w _)).trans hf1;have hSUB1:Sub w (QS q x) (QS q x1):=hsub1.mono hsz0;have HFR1:=zh hFR1;have HSUB1:=zh hSUB1;have HNQ1:=zh (show ¬ QS q x1 w.heap.size from fun e=>(hsub1 _ e).elim (fun e=>HNQ.o e) (fun hle=>by rw[hsz00] at hle;omega));have HQ1:=zh hq1';have HE1:=zh hE1;have HB1:=zh hq1;have hgq1:q.gq<w1.heap.size:=Qc hq1'.look;clear hs1 hq1' hE1 hf1 hsub1 hFR1 hSUB1 hq1 HF1 HE;obtain⟨o1,s1⟩:=r1;rcases h1 with ⟨ha,hr,rfl⟩|⟨p,u,hh,hr,rfl,hme⟩
 ·try dsimp only at hr
  subst hr;obtain⟨W2,hW2⟩:∃ W2,W2=(w1.alloc (.cells zc 109)).setRow w1.heap.size (h8 ha):=⟨_,rfl⟩
  have hbW:Below w1.heap.size w1 W2:=by rw[hW2];exact below_setRow (Qa w1 _) (Nat.le_refl _) _
  have k1:Qu W2 w1.heap.size ha:=by rw[hW2];exact Qy (Qe rfl) _
  have k0:Qu W2 w.heap.size zero8:=Qg hz1 hbW;have kz:w1.heap.size<W2.heap.size:=by rw[hW2];simp
  have hp2:(Qcd N lv (2*index+1) s1).1≠.error .panic:=fun e=>by
   apply HP.o;rw[HRR.o];dsimp only;cases hq:Qcd N lv (2*index+1) s1 with
   | mk o s2=>
    rw[hq] at e;dsimp only at e;subst e;rfl
  have HF2:=zh (Qjy f W2 q x1 N s1 d (HQ1.o.below hbW) (HE1.o.below hbW) lv (2*index+1) HLV.o.1 HLV.o.2 hi2 hN HB1.o hp2);have HBW:=zh hbW;have K1:=zh k1;have K0:=zh k0;have HW2:=zh hW2;have a1:Qu ((w1.alloc (.cells zc 109)).setRow w1.heap.size (h8 ha)) w1.heap.size ha:=Qy (Qe rfl) _;clear hbW k1 k0 hp2 hz1 hW2
  go_wp2_with (first|((first|refine Q1 rfl 109 _ rfl _ rfl _ underlying109 info8 ?_ ?_ ?_|refine Qt rfl 109 _ _ rfl _ _ rfl rfl info8 ?_ ?_ ?_);rotate_left;focus((repeat(first|(with_reducible first|assumption|exact Qj ⟨_,by assumption⟩ _)|((with_reducible first|refine Qe ?_|refine Q2 ?_|refine Qj (Q9 ?_) _);(first|rfl|(simp;done)|(simp;omega)))|with_reducible refine Qp ?_ _|((with_reducible refine Qi ?_ _ ?_);rotate_left;(focus(first|(simp;done)|(simp;omega)|omega)))|with_reducible first|refine Qo ?_|refine Qg ?_ (by assumption)));done)))
  rw[HEQ.o.1,HEQ.o.2.2,←HW2.o];clear a1;refine HF2.o.mono ?_;intro e w2 h2;obtain⟨hs2,h2⟩:=h2;have hn1:¬ QS q x1 w1.heap.size:=fun e=>Nat.lt_irrefl _ (HQ1.o.lt e)
  obtain⟨x2,hq2',hf2,hsub2⟩:=hs2;have hA2:Qu w2 w1.heap.size ha:=Qe3 K1.o hf2 hn1;have hZ2:Qu w2 w.heap.size zero8:=Qe3 K0.o hf2 HNQ1.o;have hst2:Yn w q x N d w2 (Qcd N lv (2*index+1) s1).2:=Yn.trans (b:=W2) (y:=x1) (HFR1.o.trans (Fr.ofBelow HBW.o)) HSUB1.o ⟨x2,hq2',hf2,hsub2⟩;have hs12:w1.heap.size<w2.heap.size:=Nat.lt_of_lt_of_le kz hf2.size;obtain⟨r2,hr2⟩:∃ r2,r2=Qcd N lv (2*index+1) s1:=⟨_,rfl⟩
  rw[←hr2] at h2 hst2;have HR2:=zh hr2;have HST2:=zh hst2;clear hq2' hf2 hsub2 hst2 hr2 hn1;obtain⟨o2,s2⟩:=r2;have hfin:∀ (k bb:Hsh) (w3:World),Below w2.heap.size ((w2.alloc (.cells zc 109)).setRow w2.heap.size (h8 bb)) w3→Yn w q x N d (w3.setRow w.heap.size (h8 k)) s2∧Qu w3 w.heap.size zero8∧Below w2.heap.size w2 w3:=fun k bb w3 hb3=>by have hb2:Below w2.heap.size w2 ((w2.alloc (.cells zc 109)).setRow w2.heap.size (h8 bb)):=below_setRow (Qa w2 _) (Nat.le_refl _) _;have hb4:=hb2.trans hb3;have hz3:=Qg hZ2 hb4;exact⟨(HST2.o.below hb4).own (Jx w3 w.heap.size _) hz3 (by decide) (Nat.le_refl _),hz3,hb4⟩
  have HFIN:=zh hfin;clear hfin;rcases h2 with ⟨hbb,hr,rfl⟩|⟨p,u,hbb,hr,rfl,hme⟩
  ·try dsimp only at hr
   subst hr;have q1:Qu ((w2.alloc (.cells zc 109)).setRow w2.heap.size (h8 hbb)) w1.heap.size ha:=Qi (Qp hA2 _) _ (by omega);have q2:Qu ((w2.alloc (.cells zc 109)).setRow w2.heap.size (h8 hbb)) w2.heap.size hbb:=Qy (Qe rfl) _;have q3:Qu ((w2.alloc (.cells zc 109)).setRow w2.heap.size (h8 hbb)) w.heap.size zero8:=Qi (Qp hZ2 _) _ (by omega)
   go_wp2_with (first|((first|refine Q1 rfl 109 _ rfl _ rfl _ underlying109 info8 ?_ ?_ ?_|refine Qt rfl 109 _ _ rfl _ _ rfl rfl info8 ?_ ?_ ?_);rotate_left;focus((repeat(first|(with_reducible first|assumption|exact Qj ⟨_,by assumption⟩ _)|((with_reducible first|refine Qe ?_|refine Q2 ?_|refine Qj (Q9 ?_) _);(first|rfl|(simp;done)|(simp;omega)))|with_reducible refine Qp ?_ _|((with_reducible refine Qi ?_ _ ?_);rotate_left;(focus(first|(simp;done)|(simp;omega)|omega)))|with_reducible first|refine Qo ?_|refine Qg ?_ (by assumption)));done)))
   refine (Qbz ha hbb _).mono ?_;rintro e w3 ⟨rfl,hw3⟩;have r1:=Qg q3 hw3;have HW3:=zh (hw3.mono (show w2.heap.size≤((w2.alloc (.cells zc 109)).setRow w2.heap.size (h8 hbb)).heap.size by simp));clear q1 q2 q3 hw3
   go_wp2_with (first|((first|refine Q1 rfl 109 _ rfl _ rfl _ underlying109 info8 ?_ ?_ ?_|refine Qt rfl 109 _ _ rfl _ _ rfl rfl info8 ?_ ?_ ?_);rotate_left;focus((repeat(first|(with_reducible first|assumption|exact Qj ⟨_,by assumption⟩ _)|((with_reducible first|refine Qe ?_|refine Q2 ?_|refine Qj (Q9 ?_) _);(first|rfl|(simp;done)|(simp;omega)))|with_reducible refine Qp ?_ _|((with_reducible refine Qi ?_ _ ?_);rotate_left;(focus(first|(simp;done)|(simp;omega)|omega)))|with_reducible first|refine Qo ?_|refine Qg ?_ (by assumption)));done)))
   refine ret8t w.heap.size (Z0 ha hbb) .nilIface rfl rfl rfl _ underlying109 info8 (Qy r1 _) rfl ?_;rw[HRR.o,←HR2.o];exact⟨(HFIN.o _ hbb w3 HW3.o).1,.inl ⟨_,rfl,rfl⟩⟩
  ·try dsimp only at hr
   subst hr;have HME:=zh hme;obtain⟨q9,rfl,hq9,hh9⟩:=hme;clear hh9;have q1:Qu ((w2.alloc (.cells zc 109)).setRow w2.heap.size (h8 hbb)) w1.heap.size ha:=Qi (Qp hA2 _) _ (by omega);have q2:Qu ((w2.alloc (.cells zc 109)).setRow w2.heap.size (h8 hbb)) w2.heap.size hbb:=Qy (Qe rfl) _;have q3:Qu ((w2.alloc (.cells zc 109)).setRow w2.heap.size (h8 hbb)) w.heap.size zero8:=Qi (Qp hZ2 _) _ (by omega)
   go_wp2_with (first|((first|refine Q1 rfl 109 _ rfl _ rfl _ underlying109 info8 ?_ ?_ ?_|refine Qt rfl 109 _ _ rfl _ _ rfl rfl info8 ?_ ?_ ?_);rotate_left;focus((repeat(first|(with_reducible first|assumption|exact Qj ⟨_,by assumption⟩ _)|((with_reducible first|refine Qe ?_|refine Q2 ?_|refine Qj (Q9 ?_) _);(first|rfl|(simp;done)|(simp;omega)))|with_reducible refine Qp ?_ _|((with_reducible refine Qi ?_ _ ?_);rotate_left;(focus(first|(simp;done)|(simp;omega)|omega)))|with_reducible first|refine Qo ?_|refine Qg ?_ (by assumption)));done)))
   refine (Qbz ha hbb _).mono ?_;rintro e w3 ⟨rfl,hw3⟩;have r1:=Qg q3 hw3;have HW3:=zh (hw3.mono (show w2.heap.size≤((w2.alloc (.cells zc 109)).setRow w2.heap.size (h8 hbb)).heap.size by simp));clear q1 q2 q3 hw3
   go_wp2_with (first|((first|refine Q1 rfl 109 _ rfl _ rfl _ underlying109 info8 ?_ ?_ ?_|refine Qt rfl 109 _ _ rfl _ _ rfl rfl info8 ?_ ?_ ?_);rotate_left;focus((repeat(first|(with_reducible first|assumption|exact Qj ⟨_,by assumption⟩ _)|((with_reducible first|refine Qe ?_|refine Q2 ?_|refine Qj (Q9 ?_) _);(first|rfl|(simp;done)|(simp;omega)))|with_reducible refine Qp ?_ _|((with_reducible refine Qi ?_ _ ?_);rotate_left;(focus(first|(simp;done)|(simp;omega)|omega)))|with_reducible first|refine Qo ?_|refine Qg ?_ (by assumption)));done)))
   refine ret8t w.heap.size (Z0 ha hbb) _ rfl rfl rfl _ underlying109 info8 (Qy r1 _) rfl ?_;rw[HRR.o,←HR2.o];obtain⟨f1,f2,f3⟩:=HFIN.o (Z0 ha hbb) hbb w3 HW3.o;refine⟨f1,.inr ⟨p,_,_,rfl,rfl,?_⟩⟩;have hm2:Y5 f w3 W2.heap.size p _:=HME.o.fr (S:=fun _=>False) (ts:=[]) (Fr.ofBelow f3) (fun _ _ _ _ h=>h.elim) (by decide);exact (hm2.fr (Jx w3 w.heap.size _) (Qw f2) (by decide)).low (by omega)
 ·try dsimp only at hr
  subst hr;have HME:=zh hme;obtain⟨q9,rfl,hq9,hh9⟩:=hme;have k1:Qu ((w1.alloc (.cells zc 109)).setRow w1.heap.size (h8 hh)) w1.heap.size hh:=Qy (Qe rfl) _;have hbW:Below w1.heap.size w1 ((w1.alloc (.cells zc 109)).setRow w1.heap.size (h8 hh)):=below_setRow (Qa w1 _) (Nat.le_refl _) _;have k0:Qu ((w1.alloc (.cells zc 109)).setRow w1.heap.size (h8 hh)) w.heap.size zero8:=Qg hz1 hbW;have HBW:=zh hbW;clear hh9 hbW
  go_wp2_with (first|((first|refine Q1 rfl 109 _ rfl _ rfl _ underlying109 info8 ?_ ?_ ?_|refine Qt rfl 109 _ _ rfl _ _ rfl rfl info8 ?_ ?_ ?_);rotate_left;focus((repeat(first|(with_reducible first|assumption|exact Qj ⟨_,by assumption⟩ _)|((with_reducible first|refine Qe ?_|refine Q2 ?_|refine Qj (Q9 ?_) _);(first|rfl|(simp;done)|(simp;omega)))|with_reducible refine Qp ?_ _|((with_reducible refine Qi ?_ _ ?_);rotate_left;(focus(first|(simp;done)|(simp;omega)|omega)))|with_reducible first|refine Qo ?_|refine Qg ?_ (by assumption)));done)))
  refine ret8t w.heap.size zero8 _ rfl rfl rfl _ underlying109 info8 (Qy k0 _) rfl ?_;rw[HRR.o];dsimp only;refine⟨((Yn.trans HFR1.o HSUB1.o (Yn.here HQ1.o)).below HBW.o).own (Jx _ w.heap.size _) k0 (by decide) (Nat.le_refl _),.inr ⟨p,_,zero8,rfl,rfl,?_⟩⟩;have hm2:Y5 f _ _ p _:=HME.o.fr (S:=fun _=>False) (ts:=[]) (Fr.ofBelow HBW.o) (fun _ _ _ _ h=>h.elim) (by decide);exact (hm2.fr (Jx _ w.heap.size _) (Qw k0) (by decide)).low hsz0
theorem Q15 (N level index:Nat):1≤(Qfq N level index).length∧(level%2=1→(Qfq N level index).length=2):=by
 have:=(inferInstance:Inhabited OutT)
 unfold Qfq
 split
 ·exact⟨by simp[Qi4],fun _=>by simp[Qi4]⟩
 ·exact⟨by simp[Qi4],fun h=>by contradiction⟩
theorem Q4x (f:Nat→Addr) (w:World) (q:Qf) (x:Qv) (N:Nat) (s:Cs) (d:Dk) (h:QIs w q x N s d) (hE:EnvS f (QS q x) w) (level index:Nat) (hlv:level≤62) (hi:(index+1)*2 ^ level≤N) (hN:N<9223372036854775808) (hb:Bnd s (Qfq N level index).length) (hp:(Qdq N level index s).1≠.error .panic) :
  Calls prog 89 #[.pointer (some ⟨q.gq,0,none⟩),.int .i64 level,.int .i64 index] w (Qa7 f w q x N d (Qdq N level index s)):=by
 obtain⟨h1,h2⟩:=Q15 N level index;by_cases ho:level%2=1
 ·rw[h2 ho] at hb
  exact Q2p f w q x N s d h hE level index ho hlv hi hN hb hp
 ·have e:Qdq N level index=Qcd N level index:=by unfold Qdq;rw[if_neg ho]
  rw[e] at hp ⊢;exact Qjy f w q x N s d h hE level index (by omega) hlv hi hN (hb.less h1) hp
end
end
section
section
variable [Inhabited OutT]
structure ClAt (w:World) (q:Qf) (x:Qv) (g1 g3:Nat):Prop where
 c1:w.cell? ⟨g1,0,none⟩=some (.func (.func 89) #[.pointer (some ⟨q.gq,0,none⟩)] #[])
 c3:w.cell? ⟨g3,0,none⟩=some (.func (.func 142) #[] #[.pointer (some ⟨g1,0,none⟩),.pointer (some ⟨g3,0,none⟩)])
 n1:¬ QS q x g1
 n3:¬ QS q x g3
variable {w w':World} {q:Qf} {x:Qv} {g1 g3:Nat}
theorem ClAt.below (h:ClAt w q x g1 g3) (hb:Below w.heap.size w w'):ClAt w' q x g1 g3:=have:=(inferInstance:Inhabited OutT);⟨(hb.cell (p:=⟨g1,0,none⟩) (Qk h.c1)).trans h.c1,(hb.cell (p:=⟨g3,0,none⟩) (Qk h.c3)).trans h.c3,h.n1,h.n3⟩
variable {y:Qv}
theorem ClAt.step (h:ClAt w q x g1 g3) (hf:Fr (QS q x) w w') (hs:Sub w (QS q x) (QS q y)):ClAt w' q y g1 g3:=have:=(inferInstance:Inhabited OutT);⟨hf.cell h.c1 h.n1,hf.cell h.c3 h.n3,fun e=>(hs _ e).elim h.n1 (fun hle=>by have:=Qk h.c1;dsimp only at this;omega),fun e=>(hs _ e).elim h.n3 (fun hle=>by have:=Qk h.c3;dsimp only at this;omega)⟩
variable {F:Nat→Addr} {N:Nat} {d:Dk} {r:Except QErr Hsh×Cs}
theorem Qck {e:Ending} (h:Qa7 F w q x N d r e w') :
  ∃ k u,e=.returned (.tuple #[.agg (h8 k),u])∧Yn w q x N d w' r.2∧((r.1=.ok k∧u=.nilIface)∨∃ p,r.1=.error (.miss p)∧Y5 F w' w.heap.size p u):=by
 obtain⟨h1,⟨k,h2,h3⟩|⟨p,u,k,h2,h3,h4⟩⟩:=h
 ·exact⟨k,.nilIface,h3,h1,.inl ⟨h2,rfl⟩⟩
 ·exact⟨k,u,h3,h1,.inr ⟨p,h2,h4⟩⟩
variable {w2 wf:World} {k k0:Hsh} {u:Value} {g:Nat}
theorem Q3y {w0:World} (hs:Yn w0 q y N d w2 r.2) (hv:(r.1=.ok k∧u=.nilIface)∨∃ p,r.1=.error (.miss p)∧Y5 F w2 w0.heap.size p u) (hz:Qu w2 g k0) (hf:Fr (QS q x) w w0) (hsub:Sub w (QS q x) (QS q y)) (hg:w.heap.size≤g) (hsz:w.heap.size≤w0.heap.size) (hw:Fr (·=g) w2 wf) :
  Qa7 F w q x N d r (.returned (.tuple #[.agg (h8 k),u])) wf:=by
 refine⟨(Yn.trans hf hsub hs).own hw hz (by decide) hg,?_⟩;rcases hv with ⟨h1,rfl⟩|⟨p,h1,h2⟩
 ·exact .inl ⟨k,h1,rfl⟩
 ·exact .inr ⟨p,u,k,h1,rfl,(h2.fr hw (Qw hz) (by decide)).low hsz⟩
section
attribute [local go_sem] h8_0 h8_1 h8_2 h8_3 h8_4 h8_5 h8_6 h8_7 Qbg h8_size Qax
theorem Qzb (F:Nat→Addr) (w:World) (q:Qf) (x:Qv) (N:Nat) (s:Cs) (d:Dk) (h:QIs w q x N s d) (hE:EnvS F (QS q x) w) (g1 g3 i n:Nat) (lo hi:Int) (hc:ClAt w q x g1 g3) (hlo:lo=i) (hhi:hi=i+n) (h1:1≤n) (hin:i+n≤N) (hN:N<9223372036854775808) (hpr:n &&& (n-1)=0∧i%n=0)
  (hb:Bnd s (Qfq N (Lib.bitLen n-1) (i / n)).length) (hpp:(Qdq N (Lib.bitLen n-1) (i / n) s).1≠.error .panic) :
  Calls prog 142 #[.int .i64 lo,.int .i64 hi,.pointer (some ⟨g1,0,none⟩),.pointer (some ⟨g3,0,none⟩)] w (Qa7 F w q x N d (Qdq N (Lib.bitLen n-1) (i / n) s)):=by
 have hA:=Qu0 n (n-1) (by omega) (by omega);have hs1:((n-1:Nat):Int)=hi-lo-1:=by omega
 have hs0:(n:Int)=hi-lo:=by omega
 rw[hs1,hs0] at hA;have hm:lo%(hi-lo)=((i%n:Nat):Int):=by rw[←hs0,hlo];rfl
 have l0:0≤lo:=by omega
 have l1:lo<hi:=by omega
 have l2:hi≤9223372036854775807:=by omega
 obtain⟨hp,hr⟩:=hpr;rw[hp] at hA;have tm:(lo%(hi-lo) == 0)=true:=by rw[hm,hr];rfl
 have ta:(bits .and .i64 (hi-lo) (hi-lo-1) == 0)=true:=by rw[hA];rfl
 have hpw:=Qej h1 (by omega) hp;obtain⟨e,he⟩:∃ e,Lib.bitLen n=e+1:=by
  refine⟨Lib.bitLen n-1,?_⟩
  have:=(Lib.bitLenAux_bounds 64 n (by omega) (by omega)).1
  have hb:Lib.bitLen n=Lib.bitLenAux 64 n:=rfl;omega
 rw[he,Nat.add_sub_cancel] at hpw hb hpp ⊢;have he62:e≤62:=by
  rcases Nat.lt_or_ge 62 e with hlt|hge
  ·have:=Nat.pow_le_pow_right (n:=2) (by decide) hlt
   omega
  ·exact hge
 have HE:=zh he;have hr0:decide (hi-lo=0)=false:=decide_eq_false (by omega);have hdiv:i / n*n=i:=by have:=Nat.div_add_mod i n;rw[hr] at this;rw[Nat.mul_comm];omega
 have hq:(i / n+1)*2 ^ e≤N:=by rw[←hpw,Nat.add_mul,hdiv];omega
 have b0:Below w.heap.size w (w.alloc (.cells zc 109)).drew:=(Qa w _).drew;have HFULL:=zh (Q4x F _ q x N s d (h.below b0) (hE.below b0) e (i / n) he62 hq hN hb hpp);have hsh:lo / 2 ^ e=((i / n:Nat):Int):=by rw[hlo,hpw];simp
 have HSH:=zh hsh;have HS0:=zh hs0;have gl:=Qk hc.c1;have d1:=hc.c1;have d1':(w.alloc (.cells zc 109)).drew.cell? ⟨g1,0,none⟩=some (.func (.func 89) #[.pointer (some ⟨q.gq,0,none⟩)] #[]):=(b0.cell (p:=⟨g1,0,none⟩) gl).trans d1;have hnq:¬ QS q x w.heap.size:=fun e=>Nat.lt_irrefl _ (h.lt e)
 have HNQ:=zh hnq;obtain⟨R,hR⟩:∃ R,R=Qdq N e (i / n) s:=⟨_,rfl⟩
 rw[←hR] at HFULL hpp ⊢;clear h hE hc hpw hp hr hdiv he hs0 hs1 hA hm hlo hhi hsh hq hb hnq b0 hpp
 go_enter func142,ntmps142
 go_wp2_with fail
 refine (bits_Len _ _ (by omega) (by omega)).mono ?_;rintro e' w1 ⟨rfl,rfl⟩;have ht:Lib.bitLen (hi-lo).toNat=e+1:=by rw[←HE.o,←HS0.o];rfl
 rw[ht];clear ht
 go_wp2_with fail
 go_region_with (go_at_call 89;rw[HSH.o];refine HFULL.o.mono ?_;intro e' w2 h2;obtain⟨k,u,rfl,hs2,hv2⟩:=Qck h2;have HS2:=zh hs2;have HV2:=zh hv2;have hz2:Qu w2 w.heap.size zero8:=(by obtain⟨_,_,hf,_⟩:=hs2;exact Qe3 (Qo (Qe rfl)) hf HNQ.o);have hz:w.heap.size<w2.heap.size:=Qc hz2;have hI8:Is8 w2 w.heap.size:=⟨zero8,hz2⟩;have HZ2:=zh hz2;clear h2 hs2 hv2 hz2)
 go_wp2;refine ret8t w.heap.size k u rfl rfl rfl _ underlying109 info8 (Qy HZ2.o _) rfl ?_;exact Q3y HS2.o HV2.o HZ2.o (Fr.ofBelow ((Qa w _).drew)) (Sub.refl _ _) (Nat.le_refl _) (by simp) (Jx w2 w.heap.size _)
theorem Q3l {W2 w3:World} {f i n:Nat} {s1:Cs} {R:Except QErr Hsh×Cs} {ha:Hsh}
  (hR:R=match rootQ N f i n s1 with
   | (.ok b,s2)=>Qm.pure (Z0 ha b) s2
   | (.error p,s2)=>(.error p,s2))
  (hs:Yn W2 q y N d w2 (rootQ N f i n s1).2) (hv:((rootQ N f i n s1).1=.ok k∧u=.nilIface)∨∃ p,(rootQ N f i n s1).1=.error (.miss p)∧Y5 F w2 W2.heap.size p u) (hb:Below w2.heap.size w2 w3) (hz:Qu w3 g k0) (hf:Fr (QS q x) w W2) (hsub:Sub w (QS q x) (QS q y)) (hg:w.heap.size≤g) (hsz:w.heap.size≤W2.heap.size) (hw:Fr (·=g) w3 wf) :
  Qa7 F w q x N d R (.returned (.tuple #[.agg (h8 (Z0 ha k)),u])) wf:=by
 have hst:Yn w q x N d wf (rootQ N f i n s1).2:=((Yn.trans hf hsub hs).below hb).own hw hz (by decide) hg
 cases hq:rootQ N f i n s1 with
 | mk o s2=>
  rw[hq] at hR hv hst
  dsimp only at hv hst
  rcases hv with ⟨h1,rfl⟩|⟨p,h1,h2⟩
  ·subst h1
   rw[hR]
   exact⟨hst,.inl ⟨_,rfl,rfl⟩⟩
  ·subst h1
   rw[hR]
   have hm2:Y5 F w3 W2.heap.size p u:=h2.fr (S:=fun _=>False) (ts:=[]) (Fr.ofBelow hb) (fun _ _ _ _ h=>h.elim) (by decide)
   exact⟨hst,.inr ⟨p,u,_,rfl,rfl,(hm2.fr hw (Qw hz) (by decide)).low hsz⟩⟩
theorem Q0v (F:Nat→Addr) (q:Qf) (N:Nat) (d:Dk) (g1 g3:Nat) (hN:N<9223372036854775808) (f:Nat):∀ (i n:Nat) (lo hi:Int) (w:World) (x:Qv) (s:Cs),QIs w q x N s d→EnvS F (QS q x) w→ClAt w q x g1 g3→lo=i→hi=i+n→n≤f→1≤n→i+n≤N→
  Bnd s (J9 N f i n).length→(rootQ N f i n s).1≠.error .panic→
  Calls prog 142 #[.int .i64 lo,.int .i64 hi,.pointer (some ⟨g1,0,none⟩),.pointer (some ⟨g3,0,none⟩)] w (Qa7 F w q x N d (rootQ N f i n s)):=by
 induction f with
 | zero=>intros;omega
 | succ f ih=>
  intro i n lo hi w x s h hE hc hlo hhi hf h1 hin hb hp;by_cases hpr:n &&& (n-1)=0∧i%n=0
  ·rw[J9,if_pos hpr] at hb
   rw[rootQ,if_pos hpr] at hp ⊢;exact Qzb F w q x N s d h hE g1 g3 i n lo hi hc hlo hhi h1 hin hN hpr hb hp
  ·rw[J9,if_neg hpr,List.length_append] at hb
   obtain⟨R,hRR⟩:∃ R,R=rootQ N (f+1) i n s:=⟨_,rfl⟩
   rw[←hRR] at hp ⊢;rw[rootQ,if_neg hpr] at hRR;have hA:=Qu0 n (n-1) (by omega) (by omega);have hs1:((n-1:Nat):Int)=hi-lo-1:=by omega
   have hs0:(n:Int)=hi-lo:=by omega
   rw[hs1,hs0] at hA;have hm:lo%(hi-lo)=((i%n:Nat):Int):=by rw[←hs0,hlo];rfl
   have l0:0≤lo:=by omega
   have l1:lo<hi:=by omega
   have l2:hi≤9223372036854775807:=by omega
   have hcase:((bits .and .i64 (hi-lo) (hi-lo-1) == 0)=true∧(lo%(hi-lo) == 0)=false)∨(bits .and .i64 (hi-lo) (hi-lo-1) == 0)=false:=by
    by_cases hp:n &&& (n-1)=0
    ·refine .inl ⟨by rw[hA,hp];rfl,?_⟩
     have hr:¬ i%n=0:=fun e=>hpr ⟨hp,e⟩
     rw[hm,beq_eq_false_iff_ne];omega
    ·refine .inr ?_
     rw[hA,beq_eq_false_iff_ne];omega
   have hn2:2≤n:=by
    rcases Nat.lt_or_ge n 2 with hlt|hge
    ·obtain rfl:n=1:=by omega
     exact absurd ⟨rfl,Nat.mod_one i⟩ hpr
    ·exact hge
   have hr0:decide (hi-lo=0)=false:=decide_eq_false (by omega);have hbd:=Yl hn2;obtain⟨k,hk⟩:∃ k,k=below n:=⟨_,rfl⟩
   rw[←hk] at hbd hRR hb;unfold Qm.bind at hRR;have hp1:(rootQ N f i k s).1≠.error .panic:=fun e=>by
    apply hp;rw[hRR];cases hq:rootQ N f i k s with
    | mk o s1=>
     rw[hq] at e;dsimp only at e;subst e;rfl
   have hbw:=Qa w (.cells zc 109);have HF1:=zh (fun lo hi e1' e2'=>ih i k lo hi _ x s (h.below hbw) (hE.below hbw) (hc.below hbw) e1' e2' (by omega) (by omega) (by omega) (hb.less (Nat.le_add_right _ _)) hp1);have hq1:Bnd (rootQ N f i k s).2 (J9 N f (i+k) (n-k)).length:=hb.next (Qdh N f i k) (Qd6 (Qb5 s.net) N f i k s (Qbk.refl _));have HF2:=zh (fun lo hi w x s h hE hc e1' e2' hb hp=>ih (i+k) (n-k) lo hi w x s h hE hc e1' e2' (by omega) (by omega) (by omega) hb hp);obtain⟨r1,hr1⟩:∃ r1,r1=rootQ N f i k s:=⟨_,rfl⟩
   rw[←hr1] at HF1 hq1;rw[←hr1] at hRR;have hki:(k:Int)<hi-lo:=by omega
   have hk1:(1:Int)≤k:=by omega
   have HK:=zh (show (below (hi-lo).toNat:Int)=k by rw[←hs0,Int.toNat_natCast,hk]);have HLO:=zh hlo;have HHI:=zh (show hi=((i+k:Nat):Int)+((n-k:Nat):Int) by omega);have HLK:=zh (show lo+k=((i+k:Nat):Int) by omega);have hl2:2≤hi-lo:=by omega
   have H:=zh h;have HE:=zh (hE.below hbw);have HC:=zh (hc.below hbw);have HRR:=zh hRR;have HP:=zh hp;have HB1:=zh hq1;have hnq:¬ QS q x w.heap.size:=fun e=>Nat.lt_irrefl _ (h.lt e)
   have HNQ:=zh hnq;have d3:=hc.c3;have hb3:=Qk d3;clear ih h hE hc hb hp hRR hr1 hp1 hpr hA hm hs0 hs1 hlo hhi hf h1 hin hk hbd hn2 hbw hnq hq1;rcases hcase with ⟨ta,tm⟩|ta
   all_goals (
    go_enter func142,ntmps142
    go_wp2_with fail
    refine (Qbw _ _ (by omega) (by omega)).mono ?_
    rintro e w0 ⟨rfl,rfl⟩
    rw[HK.o]
    go_wp2_with fail
    refine (HF1.o lo (lo+k) HLO.o (by rw[HLO.o])).mono ?_
    intro e w1 h1
    obtain⟨ha,u1,rfl,hs1,hv1⟩:=Qck h1
    have hsz00:(w.alloc (.cells zc 109)).heap.size=w.heap.size+1:=by simp
    have hsz1:w.heap.size<w1.heap.size:=by
     obtain⟨_,_,hf,_⟩:=hs1
     have:=hf.size
     omega
    have hz1:Qu w1 w.heap.size zero8:=by
     obtain⟨_,_,hf,_⟩:=hs1
     exact Qe3 (Qe rfl) hf HNQ.o
    obtain⟨x1,hq1',hE1,hf1,hsub1⟩:=hs1.env HE.o
    have hC1:=HC.o.step hf1 hsub1
    have HFR1:=zh (show Fr (QS q x) w w1 from (Fr.ofBelow (Qa w _)).trans hf1)
    have HSUB1:=zh (show Sub w (QS q x) (QS q x1) from hsub1.mono (by omega))
    have HNQ1:=zh (show ¬ QS q x1 w.heap.size from fun e=>(hsub1 _ e).elim (fun e=>HNQ.o e) (fun hle=>by omega))
    have HQ1:=zh hq1'
    have HE1:=zh hE1
    have HC1:=zh hC1
    have hb3':g3<w1.heap.size:=Qk hC1.c3
    have HME0:=zh hv1
    clear hs1 hq1' hE1 hf1 hsub1 h1 hC1
    obtain⟨o1,s1⟩:=r1
    rcases hv1 with ⟨hr,rfl⟩|⟨p,hr,hme⟩
    ·try dsimp only at hr
     subst hr
     obtain⟨W2,hW2⟩:∃ W2,W2=(w1.alloc (.cells zc 109)).setRow w1.heap.size (h8 ha):=⟨_,rfl⟩
     have hbW:Below w1.heap.size w1 W2:=by rw[hW2];exact below_setRow (Qa w1 _) (Nat.le_refl _) _
     have k1:Qu W2 w1.heap.size ha:=by rw[hW2];exact Qy (Qe rfl) _
     have k0:Qu W2 w.heap.size zero8:=Qg hz1 hbW
     have kz:w1.heap.size<W2.heap.size:=by rw[hW2];simp
     have hp2:(rootQ N f (i+k) (n-k) s1).1≠.error .panic:=fun e=>by
      apply HP.o
      rw[HRR.o]
      dsimp only
      cases hq:rootQ N f (i+k) (n-k) s1 with
      | mk o s2=>
       rw[hq] at e
       dsimp only at e
       subst e
       rfl
     have HC2:=HC1.o.below hbW
     have HCL:=zh (HF2.o (lo+k) hi W2 x1 s1 (HQ1.o.below hbW) (HE1.o.below hbW) HC2 HLK.o HHI.o HB1.o hp2)
     have d3w:=HC2.c3
     have HBW:=zh hbW
     have K1:=zh k1
     have K0:=zh k0
     have HW2:=zh hW2
     have a1:Qu ((w1.alloc (.cells zc 109)).setRow w1.heap.size (h8 ha)) w1.heap.size ha:=Qy (Qe rfl) _
     rw[hW2] at d3w
     clear hbW k1 k0 hp2 hz1 hW2 HC2
     go_wp2_with (first|((first|refine Q1 rfl 109 _ rfl _ rfl _ underlying109 info8 ?_ ?_ ?_|refine Qt rfl 109 _ _ rfl _ _ rfl rfl info8 ?_ ?_ ?_);rotate_left;focus((repeat(first|(with_reducible first|assumption|exact Qj ⟨_,by assumption⟩ _)|((with_reducible first|refine Qe ?_|refine Q2 ?_|refine Qj (Q9 ?_) _);(first|rfl|(simp;done)|(simp;omega)))|with_reducible refine Qp ?_ _|((with_reducible refine Qi ?_ _ ?_);rotate_left;(focus(first|(simp;done)|(simp;omega)|omega)))|with_reducible first|refine Qo ?_|refine Qg ?_ (by assumption)));done)))
     rw[←HW2.o]
     clear a1 d3w
     refine HCL.o.mono ?_
     intro e w2 h2
     obtain⟨hbb,u2,rfl,hs2,hv2⟩:=Qck h2
     have hn1:¬ QS q x1 w1.heap.size:=fun e=>Nat.lt_irrefl _ (HQ1.o.lt e)
     obtain⟨x2,hq2',hf2,hsub2⟩:=hs2
     have hA2:Qu w2 w1.heap.size ha:=Qe3 K1.o hf2 hn1
     have hZ2:Qu w2 w.heap.size zero8:=Qe3 K0.o hf2 HNQ1.o
     have hs12:w1.heap.size<w2.heap.size:=Nat.lt_of_lt_of_le kz hf2.size
     have HS2:=zh (show Yn W2 q x1 N d w2 (rootQ N f (i+k) (n-k) s1).2 from ⟨x2,hq2',hf2,hsub2⟩)
     have HV2:=zh hv2
     clear hq2' hf2 hsub2 hn1 h2 hv2
     have q1:Qu ((w2.alloc (.cells zc 109)).setRow w2.heap.size (h8 hbb)) w1.heap.size ha:=Qi (Qp hA2 _) _ (by omega)
     have q2:Qu ((w2.alloc (.cells zc 109)).setRow w2.heap.size (h8 hbb)) w2.heap.size hbb:=Qy (Qe rfl) _
     have q3:Qu ((w2.alloc (.cells zc 109)).setRow w2.heap.size (h8 hbb)) w.heap.size zero8:=Qi (Qp hZ2 _) _ (by omega)
     go_wp2_with (first|((first|refine Q1 rfl 109 _ rfl _ rfl _ underlying109 info8 ?_ ?_ ?_|refine Qt rfl 109 _ _ rfl _ _ rfl rfl info8 ?_ ?_ ?_);rotate_left;focus((repeat(first|(with_reducible first|assumption|exact Qj ⟨_,by assumption⟩ _)|((with_reducible first|refine Qe ?_|refine Q2 ?_|refine Qj (Q9 ?_) _);(first|rfl|(simp;done)|(simp;omega)))|with_reducible refine Qp ?_ _|((with_reducible refine Qi ?_ _ ?_);rotate_left;(focus(first|(simp;done)|(simp;omega)|omega)))|with_reducible first|refine Qo ?_|refine Qg ?_ (by assumption)));done)))
     refine (Qbz ha hbb _).mono ?_
     rintro e w3 ⟨rfl,hw3⟩
     have r1:=Qg q3 hw3
     have HW3:=zh (hw3.mono (show w2.heap.size≤((w2.alloc (.cells zc 109)).setRow w2.heap.size (h8 hbb)).heap.size by simp))
     clear q1 q2 q3 hw3
     go_wp2_with (first|((first|refine Q1 rfl 109 _ rfl _ rfl _ underlying109 info8 ?_ ?_ ?_|refine Qt rfl 109 _ _ rfl _ _ rfl rfl info8 ?_ ?_ ?_);rotate_left;focus((repeat(first|(with_reducible first|assumption|exact Qj ⟨_,by assumption⟩ _)|((with_reducible first|refine Qe ?_|refine Q2 ?_|refine Qj (Q9 ?_) _);(first|rfl|(simp;done)|(simp;omega)))|with_reducible refine Qp ?_ _|((with_reducible refine Qi ?_ _ ?_);rotate_left;(focus(first|(simp;done)|(simp;omega)|omega)))|with_reducible first|refine Qo ?_|refine Qg ?_ (by assumption)));done)))
     refine ret8t w.heap.size (Z0 ha hbb) u2 rfl rfl rfl _ underlying109 info8 (Qy r1 _) rfl ?_
     have hb2:Below w2.heap.size w2 w3:=(below_setRow (Qa w2 _) (Nat.le_refl _) _).trans HW3.o
     refine Q3l (f:=f) (i:=i+k) (n:=n-k) (s1:=s1) (by rw[HRR.o];generalize rootQ N f (i+k) (n-k) s1=z;obtain⟨o,s2⟩:=z;cases o <;> rfl) HS2.o HV2.o hb2 r1 (HFR1.o.trans (Fr.ofBelow HBW.o)) HSUB1.o (Nat.le_refl _) (by omega) (Jx w3 w.heap.size _)
    ·try dsimp only at hr
     subst hr
     have HME:=zh hme
     obtain⟨q9,rfl,hq9,hh9⟩:=hme
     have k1:Qu ((w1.alloc (.cells zc 109)).setRow w1.heap.size (h8 ha)) w1.heap.size ha:=Qy (Qe rfl) _
     have hbW:Below w1.heap.size w1 ((w1.alloc (.cells zc 109)).setRow w1.heap.size (h8 ha)):=below_setRow (Qa w1 _) (Nat.le_refl _) _
     have k0:Qu ((w1.alloc (.cells zc 109)).setRow w1.heap.size (h8 ha)) w.heap.size zero8:=Qg hz1 hbW
     have HBW:=zh hbW
     clear hh9 hbW
     go_wp2_with (first|((first|refine Q1 rfl 109 _ rfl _ rfl _ underlying109 info8 ?_ ?_ ?_|refine Qt rfl 109 _ _ rfl _ _ rfl rfl info8 ?_ ?_ ?_);rotate_left;focus((repeat(first|(with_reducible first|assumption|exact Qj ⟨_,by assumption⟩ _)|((with_reducible first|refine Qe ?_|refine Q2 ?_|refine Qj (Q9 ?_) _);(first|rfl|(simp;done)|(simp;omega)))|with_reducible refine Qp ?_ _|((with_reducible refine Qi ?_ _ ?_);rotate_left;(focus(first|(simp;done)|(simp;omega)|omega)))|with_reducible first|refine Qo ?_|refine Qg ?_ (by assumption)));done))|(refine Qt rfl 109 _ _ rfl _ zero8 rfl (by rw[Qlu];rfl) info8 ?_ ?_ ?_;rotate_left;focus ((repeat(first|(with_reducible first|assumption|exact Qj ⟨_,by assumption⟩ _)|((with_reducible first|refine Qe ?_|refine Q2 ?_|refine Qj (Q9 ?_) _);(first|rfl|(simp;done)|(simp;omega)))|with_reducible refine Qp ?_ _|((with_reducible refine Qi ?_ _ ?_);rotate_left;(focus(first|(simp;done)|(simp;omega)|omega)))|with_reducible first|refine Qo ?_|refine Qg ?_ (by assumption)));done)))
     refine ret8t w.heap.size zero8 _ rfl rfl rfl _ underlying109 info8 (Qy k0 _) rfl ?_
     rw[HRR.o]
     dsimp only
     refine⟨((Yn.trans HFR1.o HSUB1.o (Yn.here HQ1.o)).below HBW.o).own (Jx _ w.heap.size _) k0 (by decide) (Nat.le_refl _),.inr ⟨p,_,zero8,rfl,rfl,?_⟩⟩
     have hm2:Y5 F _ _ p _:=HME.o.fr (S:=fun _=>False) (ts:=[]) (Fr.ofBelow HBW.o) (fun _ _ _ _ h=>h.elim) (by decide)
     exact (hm2.fr (Jx _ w.heap.size _) (Qw k0) (by decide)).low (by omega))
end
end
end
section
theorem Q2j (L:Nat):∀ (i:Nat) (lv ix:Int) (g1 g3:Nat) (v:Value) (ls:List (List UInt8)) (w:World),lv=L→ix=i→L≤40→(i+1)*2 ^ L≤ls.length→ls.length≤1048576→(∀ l∈ls,l.length≤9223372036854775807)→
  w.cell? ⟨g1,0,none⟩=some v→w.cell? ⟨g3,0,none⟩=some (.func (.func 171) #[] #[.pointer (some ⟨g1,0,none⟩),.pointer (some ⟨g3,0,none⟩)])→Qes w v ls→
  Calls prog 171 #[.int .i64 lv,.int .i64 ix,.pointer (some ⟨g1,0,none⟩),.pointer (some ⟨g3,0,none⟩)] w fun e w'=>e=.returned (.tuple #[.agg (h8 (Zq ls L i)),.nilIface])∧Below w.heap.size w w':=by
 induction L with
 | zero=>
  rintro i lv ix g1 g3 v ls w rfl rfl hL hi hl hs c1 c3 h;simp only[Nat.pow_zero,Nat.mul_one] at hi;have hb1:=Qk c1;obtain⟨vs,hvl,⟨a,c,rfl,hcap,hc⟩,hall⟩:=h;have hi':i<vs.length:=by omega
  obtain⟨b,off,rfl,hcell⟩:=hc i vs[i] (by simp[hi']);have hu:=hall i vs[i] ls[i] (by simp[hi']) (by simp);have hlen:=hs ls[i] (List.getElem_mem _);have hfr:Zq ls 0 i=Qaf ls[i]:=by simp[Zq,List.getD,(by omega:i<ls.length)]
  have hbb:=Qk hcell;have HU:=zh hu;have HF:=zh hfr;have HL:=zh hlen;clear hc hall c3 hs hu hfr hlen;generalize vs[i]=u at *;generalize ls[i]=l at *;have hin:i<ls.length:=by omega
  obtain⟨n,hn⟩:∃ n,n=ls.length:=⟨_,rfl⟩
  rw[←hn] at c1 hin hcap hl;simp only[Int.ofNat_zero] at *
  go_enter func171,ntmps171
  go_wp2_with fail
  refine (Qlh u l _ (HU.o.below (Qa w _)) HL.o).mono ?_;rintro e w1 ⟨rfl,hb⟩;have g1:Qu w1 w.heap.size zero8:=Qg (Qe rfl) hb
  go_wp2_with (first|((first|refine Q1 rfl 109 _ rfl _ rfl _ underlying109 info8 ?_ ?_ ?_|refine Qt rfl 109 _ _ rfl _ _ rfl rfl info8 ?_ ?_ ?_);rotate_left;focus((repeat(first|(with_reducible first|assumption|exact Qj ⟨_,by assumption⟩ _)|((with_reducible first|refine Qe ?_|refine Q2 ?_|refine Qj (Q9 ?_) _);(first|rfl|(simp;done)|(simp;omega)))|with_reducible refine Qp ?_ _|((with_reducible refine Qi ?_ _ ?_);rotate_left;(focus(first|(simp;done)|(simp;omega)|omega)))|with_reducible first|refine Qo ?_|refine Qg ?_ (by assumption)));done)))
  refine ret8t w.heap.size (Qaf l) .nilIface rfl rfl rfl _ underlying109 info8 (Qy g1 _) rfl ⟨by rw[HF.o],below_setRow ((Qa w _).trans (hb.mono (by simp))) (Nat.le_refl _) _⟩
 | succ L ih=>
  rintro i lv ix g1 g3 v ls w rfl rfl hL hi hl hs c1 c3 h;have hp:2 ^ L≥1:=Nat.two_pow_pos L;have e4:(i+1)*2 ^ (L+1)=(2*i)*2 ^ L+2 ^ L+2 ^ L:=by
   have e1:i*2 ^ (L+1)=(2*i)*2 ^ L:=by rw[Nat.pow_succ,Nat.mul_comm 2 i,Nat.mul_assoc,Nat.mul_comm (2 ^ L) 2]
   rw[Nat.add_mul,Nat.one_mul,e1,Nat.pow_succ];omega
  have e3:(2*i+1)*2 ^ L=(2*i)*2 ^ L+2 ^ L:=by rw[Nat.add_mul,Nat.one_mul]
  have hi1:(2*i+1)*2 ^ L≤ls.length:=by omega
  have hi2:(2*i+1+1)*2 ^ L≤ls.length:=by rw[Nat.add_mul (2*i+1),Nat.one_mul];omega
  have hii:2*i≤(2*i)*2 ^ L:=Nat.le_mul_of_pos_right _ hp;have hib:i≤1048576:=by omega
  have hfr:Zq ls (L+1) i=Z0 (Zq ls L (2*i)) (Zq ls L (2*i+1)):=rfl;obtain⟨x,hx⟩:∃ x,x=Zq ls L (2*i):=⟨_,rfl⟩
  obtain⟨y,hy⟩:∃ y,y=Zq ls L (2*i+1):=⟨_,rfl⟩
  rw[←hx,←hy] at hfr;have I1:=zh (fun lv ix w e1 e2=>ih (2*i) lv ix g1 g3 v ls w e1 e2 (by omega) hi1 hl hs);have I2:=zh (fun lv ix w e1 e2=>ih (2*i+1) lv ix g1 g3 v ls w e1 e2 (by omega) hi2 hl hs);rw[←hx] at I1;rw[←hy] at I2;have HF:=zh hfr;have HH:=zh h;have C1:=zh c1;have hb1:=Qk c1;have hb3:=Qk c3;clear ih hs h hfr hx hy e3 e4 hi hi1 hi2 hii hp c1 hl;have hz0:(((L+1:Nat):Int) == 0)=false:=by rw[beq_eq_false_iff_ne];omega
  go_enter func171,ntmps171
  go_wp2_with fail
  have b0:=Qa w (.cells zc 109);refine (I1.o _ _ _ (by omega) (by omega) ((b0.cell (p:=⟨g1,0,none⟩) hb1).trans C1.o) ((b0.cell (p:=⟨g3,0,none⟩) hb3).trans c3) (HH.o.below b0)).mono ?_;rintro e w1 ⟨rfl,hw1⟩;have B1:=b0.trans (hw1.mono b0.size);have z1:Qu w1 w.heap.size zero8:=Qg (Qe rfl) hw1;have s1:w.heap.size+1≤w1.heap.size:=by have:=hw1.size;simpa using this
  have c3':=(B1.cell (p:=⟨g3,0,none⟩) hb3).trans c3;have hb3':=Qk c3';have BB1:=zh B1;clear b0 hw1 B1 c3 hb3;have k1:Qu ((w1.alloc (.cells zc 109)).setRow w1.heap.size (h8 x)) w1.heap.size x:=Qy (Qe rfl) _;have k2:Below w.heap.size w ((w1.alloc (.cells zc 109)).setRow w1.heap.size (h8 x)):=below_setRow (BB1.o.alloc BB1.o.size _) BB1.o.size _;have k3:Qu ((w1.alloc (.cells zc 109)).setRow w1.heap.size (h8 x)) w.heap.size zero8:=Qi (Qp z1 _) _ (by omega);have k5:((w1.alloc (.cells zc 109)).setRow w1.heap.size (h8 x)).heap.size=w1.heap.size+1:=by simp
  have k4:((w1.alloc (.cells zc 109)).setRow w1.heap.size (h8 x)).cell? ⟨g3,0,none⟩=some (.func (.func 171) #[] #[.pointer (some ⟨g1,0,none⟩),.pointer (some ⟨g3,0,none⟩)]):=((below_setRow (Qa w1 _) (Nat.le_refl _) _).cell (p:=⟨g3,0,none⟩) hb3').trans c3';have K1:=zh k1;have K2:=zh k2;have K3:=zh k3;have K5:=zh k5;clear k1 k2 k3 k5 c3' z1
  go_wp2_with (first|((first|refine Q1 rfl 109 _ rfl _ rfl _ underlying109 info8 ?_ ?_ ?_|refine Qt rfl 109 _ _ rfl _ _ rfl rfl info8 ?_ ?_ ?_);rotate_left;focus((repeat(first|(with_reducible first|assumption|exact Qj ⟨_,by assumption⟩ _)|((with_reducible first|refine Qe ?_|refine Q2 ?_|refine Qj (Q9 ?_) _);(first|rfl|(simp;done)|(simp;omega)))|with_reducible refine Qp ?_ _|((with_reducible refine Qi ?_ _ ?_);rotate_left;(focus(first|(simp;done)|(simp;omega)|omega)))|with_reducible first|refine Qo ?_|refine Qg ?_ (by assumption)));done)))
  generalize ((w1.alloc (.cells zc 109)).setRow w1.heap.size (h8 x))=W2 at *;refine (I2.o _ _ W2 (by omega) (by omega) ((K2.o.cell (p:=⟨g1,0,none⟩) hb1).trans C1.o) k4 (HH.o.below K2.o)).mono ?_;rintro e w2 ⟨rfl,hw2⟩;have s2:w1.heap.size+1≤w2.heap.size:=by have:=hw2.size;rw[K5.o] at this;exact this
  have B2:=zh (K2.o.trans (hw2.mono K2.o.size));have q1:Qu ((w2.alloc (.cells zc 109)).setRow w2.heap.size (h8 y)) w1.heap.size x:=Qi (Qp (Qg K1.o hw2) _) _ (by omega);have q2:Qu ((w2.alloc (.cells zc 109)).setRow w2.heap.size (h8 y)) w2.heap.size y:=Qy (Qe rfl) _;have q3:Qu ((w2.alloc (.cells zc 109)).setRow w2.heap.size (h8 y)) w.heap.size zero8:=Qi (Qp (Qg K3.o hw2) _) _ (by omega);have q4:Below w.heap.size w ((w2.alloc (.cells zc 109)).setRow w2.heap.size (h8 y)):=below_setRow (B2.o.alloc B2.o.size _) B2.o.size _;have Q4:=zh q4;clear hw2 q4 k4
  go_wp2_with (first|((first|refine Q1 rfl 109 _ rfl _ rfl _ underlying109 info8 ?_ ?_ ?_|refine Qt rfl 109 _ _ rfl _ _ rfl rfl info8 ?_ ?_ ?_);rotate_left;focus((repeat(first|(with_reducible first|assumption|exact Qj ⟨_,by assumption⟩ _)|((with_reducible first|refine Qe ?_|refine Q2 ?_|refine Qj (Q9 ?_) _);(first|rfl|(simp;done)|(simp;omega)))|with_reducible refine Qp ?_ _|((with_reducible refine Qi ?_ _ ?_);rotate_left;(focus(first|(simp;done)|(simp;omega)|omega)))|with_reducible first|refine Qo ?_|refine Qg ?_ (by assumption)));done)))
  refine (Qbz x y _).mono ?_;rintro e w3 ⟨rfl,hw3⟩;have r1:=Qg q3 hw3;clear q1 q2 q3;have R1:=zh (Q4.o.trans (hw3.mono Q4.o.size));clear hw3
  go_wp2_with (first|((first|refine Q1 rfl 109 _ rfl _ rfl _ underlying109 info8 ?_ ?_ ?_|refine Qt rfl 109 _ _ rfl _ _ rfl rfl info8 ?_ ?_ ?_);rotate_left;focus((repeat(first|(with_reducible first|assumption|exact Qj ⟨_,by assumption⟩ _)|((with_reducible first|refine Qe ?_|refine Q2 ?_|refine Qj (Q9 ?_) _);(first|rfl|(simp;done)|(simp;omega)))|with_reducible refine Qp ?_ _|((with_reducible refine Qi ?_ _ ?_);rotate_left;(focus(first|(simp;done)|(simp;omega)|omega)))|with_reducible first|refine Qo ?_|refine Qg ?_ (by assumption)));done)))
  refine ret8t w.heap.size (Z0 x y) .nilIface rfl rfl rfl _ underlying109 info8 (Qy r1 _) rfl ⟨by rw[HF.o],below_setRow R1.o (Nat.le_refl _) _⟩
end
end Go.Proofs.YtefccfakhgdfbabGreatDoor
