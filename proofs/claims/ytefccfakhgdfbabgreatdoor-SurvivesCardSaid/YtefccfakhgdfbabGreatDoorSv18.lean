/- The walk of merkle.gather over a question's hashes. Conditions: as of the ranges' roots. -/
import Derived.Test.YtefccfakhgdfbabGreatDoorSv17
set_option linter.unusedVariables false
set_option linter.unusedSimpArgs false
open Go.RowKit Go.Proofs.Tryz
set_option maxRecDepth 100000
set_option maxHeartbeats 4000000
namespace Go.Proofs.YtefccfakhgdfbabGreatDoor
section
section
variable [Inhabited OutT]
structure ClAt (w:World) (q:Qf) (x:Qv) (g1 g3:Nat):Prop where
 c1:w.cell? ⟨g1,0,none⟩=some (.func (.func 89) #[.pointer (some ⟨q.gq,0,none⟩)] #[])
 c3:w.cell? ⟨g3,0,none⟩=some (.func (.func 142) #[] #[.pointer (some ⟨g1,0,none⟩),.pointer (some ⟨g3,0,none⟩)])
 n1:¬ QS q x g1
 n3:¬ QS q x g3
theorem ClAt.below {w w':World} {q:Qf} {x:Qv} {g1 g3:Nat} (h:ClAt w q x g1 g3) (hb:Below w.heap.size w w'):ClAt w' q x g1 g3:=have:=(inferInstance:Inhabited OutT);⟨(hb.cell (p:=⟨g1,0,none⟩) (cell_lt h.c1)).trans h.c1,(hb.cell (p:=⟨g3,0,none⟩) (cell_lt h.c3)).trans h.c3,h.n1,h.n3⟩
theorem ClAt.step {w w':World} {q:Qf} {x y:Qv} {g1 g3:Nat} (h:ClAt w q x g1 g3) (hf:Fr (QS q x) w w') (hs:Sub w (QS q x) (QS q y)):ClAt w' q y g1 g3:=have:=(inferInstance:Inhabited OutT);⟨hf.cell h.c1 h.n1,hf.cell h.c3 h.n3,fun e=>(hs _ e).elim h.n1 (fun hle=>by have:=cell_lt h.c1;dsimp only at this;omega),fun e=>(hs _ e).elim h.n3 (fun hle=>by have:=cell_lt h.c3;dsimp only at this;omega)⟩
theorem fullPost_val {F:Nat→Addr} {w w':World} {q:Qf} {x:Qv} {N:Nat} {d:Dk} {r:Except QErr Hsh×Cs} {e:Ending} (h:FullPost F w q x N d r e w') :
  ∃ k u,e=.returned (.tuple #[.agg (h8 k),u])∧QStep w q x N d w' r.2∧((r.1=.ok k∧u=.nilIface)∨∃ p,r.1=.error (.miss p)∧MissErr F w' w.heap.size p u):=by
 obtain⟨h1,⟨k,h2,h3⟩|⟨p,u,k,h2,h3,h4⟩⟩:=h
 ·exact⟨k,.nilIface,h3,h1,.inl ⟨h2,rfl⟩⟩
 ·exact⟨k,u,h3,h1,.inr ⟨p,h2,h4⟩⟩
theorem full_end {F:Nat→Addr} {w w0 w2 wf:World} {q:Qf} {x y:Qv} {N:Nat} {d:Dk} {r:Except QErr Hsh×Cs} {k k0:Hsh} {u:Value} {g:Nat} (hs:QStep w0 q y N d w2 r.2) (hv:(r.1=.ok k∧u=.nilIface)∨∃ p,r.1=.error (.miss p)∧MissErr F w2 w0.heap.size p u) (hz:hashOf w2 g k0) (hf:Fr (QS q x) w w0) (hsub:Sub w (QS q x) (QS q y)) (hg:w.heap.size≤g) (hsz:w.heap.size≤w0.heap.size) (hw:Fr (·=g) w2 wf) :
  FullPost F w q x N d r (.returned (.tuple #[.agg (h8 k),u])) wf:=by
 refine⟨(QStep.trans hf hsub hs).own hw hz (by decide) hg,?_⟩
 rcases hv with ⟨h1,rfl⟩|⟨p,h1,h2⟩
 ·exact .inl ⟨k,h1,rfl⟩
 ·exact .inr ⟨p,u,k,h1,rfl,(h2.fr hw (kinds_one hz) (by decide)).low hsz⟩
section
attribute [local go_sem] h8_0 h8_1 h8_2 h8_3 h8_4 h8_5 h8_6 h8_7 h8_fold h8_size run_store8
theorem wleaf_any (F:Nat→Addr) (w:World) (q:Qf) (x:Qv) (N:Nat) (s:Cs) (d:Dk) (h:QIs w q x N s d) (hE:EnvS F (QS q x) w) (g1 g3 i n:Nat) (lo hi:Int) (hc:ClAt w q x g1 g3) (hlo:lo=i) (hhi:hi=i+n) (h1:1≤n) (hin:i+n≤N) (hN:N<9223372036854775808) (hpr:n &&& (n-1)=0∧i%n=0)
  (hb:Bnd s (fullT N (Lib.bitLen n-1) (i / n)).length) (hpp:(fullQ N (Lib.bitLen n-1) (i / n) s).1≠.error .panic) :
  Calls prog 142 #[.int .i64 lo,.int .i64 hi,.pointer (some ⟨g1,0,none⟩),.pointer (some ⟨g3,0,none⟩)] w (FullPost F w q x N d (fullQ N (Lib.bitLen n-1) (i / n) s)):=by
 have hA:=and_i64 n (n-1) (by omega) (by omega)
 have hs1:((n-1:Nat):Int)=hi-lo-1:=by omega
 have hs0:(n:Int)=hi-lo:=by omega
 rw[hs1,hs0] at hA
 have hm:lo%(hi-lo)=((i%n:Nat):Int):=by
  rw[←hs0,hlo];rfl
 have l0:0≤lo:=by omega
 have l1:lo<hi:=by omega
 have l2:hi≤9223372036854775807:=by omega
 obtain⟨hp,hr⟩:=hpr
 rw[hp] at hA
 have tm:(lo%(hi-lo) == 0)=true:=by rw[hm,hr];rfl
 have ta:(bits .and .i64 (hi-lo) (hi-lo-1) == 0)=true:=by rw[hA];rfl
 have hpw:=pow_of_and h1 (by omega) hp
 obtain⟨e,he⟩:∃ e,Lib.bitLen n=e+1:=by
  refine⟨Lib.bitLen n-1,?_⟩
  have:=(Lib.bitLenAux_bounds 64 n (by omega) (by omega)).1
  have hb:Lib.bitLen n=Lib.bitLenAux 64 n:=rfl
  omega
 rw[he,Nat.add_sub_cancel] at hpw hb hpp ⊢
 have he62:e≤62:=by
  rcases Nat.lt_or_ge 62 e with hlt|hge
  ·have:=Nat.pow_le_pow_right (n:=2) (by decide) hlt
   omega
  ·exact hge
 have HE:=zh he
 have hr0:decide (hi-lo=0)=false:=decide_eq_false (by omega)
 have hdiv:i / n*n=i:=by have:=Nat.div_add_mod i n;rw[hr] at this;rw[Nat.mul_comm];omega
 have hq:(i / n+1)*2 ^ e≤N:=by rw[←hpw,Nat.add_mul,hdiv];omega
 have b0:Below w.heap.size w (w.alloc (.cells zc 109)).drew:=(below_alloc w _).drew
 have HFULL:=zh (full_any F _ q x N s d (h.below b0) (hE.below b0) e (i / n) he62 hq hN hb hpp)
 have hsh:lo / 2 ^ e=((i / n:Nat):Int):=by rw[hlo,hpw];simp
 have HSH:=zh hsh
 have HS0:=zh hs0
 have gl:=cell_lt hc.c1
 have d1:=hc.c1
 have d1':(w.alloc (.cells zc 109)).drew.cell? ⟨g1,0,none⟩=some (.func (.func 89) #[.pointer (some ⟨q.gq,0,none⟩)] #[]):=(b0.cell (p:=⟨g1,0,none⟩) gl).trans d1
 have hnq:¬ QS q x w.heap.size:=fun e=>Nat.lt_irrefl _ (h.lt e)
 have HNQ:=zh hnq
 obtain⟨R,hR⟩:∃ R,R=fullQ N e (i / n) s:=⟨_,rfl⟩
 rw[←hR] at HFULL hpp ⊢
 clear h hE hc hpw hp hr hdiv he hs0 hs1 hA hm hlo hhi hsh hq hb hnq b0 hpp
 go_enter func142,ntmps142
 go_wp2_with fail
 refine (bits_Len _ _ (by omega) (by omega)).mono ?_
 rintro e' w1 ⟨rfl,rfl⟩
 have ht:Lib.bitLen (hi-lo).toNat=e+1:=by rw[←HE.o,←HS0.o];rfl
 rw[ht]
 clear ht
 go_wp2_with fail
 go_region_with (go_at_call 89;rw[HSH.o];refine HFULL.o.mono ?_;intro e' w2 h2;obtain⟨k,u,rfl,hs2,hv2⟩:=fullPost_val h2;have HS2:=zh hs2;have HV2:=zh hv2;have hz2:hashOf w2 w.heap.size zero8:=(by obtain⟨_,_,hf,_⟩:=hs2;exact hash_fr (hashOf_drew (hashOf_zero' rfl)) hf HNQ.o);have hz:w.heap.size<w2.heap.size:=lt_of_heap hz2;have hI8:Is8 w2 w.heap.size:=⟨zero8,hz2⟩;have HZ2:=zh hz2;clear h2 hs2 hv2 hz2)
 go_wp2
 refine ret8t w.heap.size k u rfl rfl rfl _ underlying109 info8 (hashOf_set HZ2.o _) rfl ?_
 exact full_end HS2.o HV2.o HZ2.o (Fr.ofBelow ((below_alloc w _).drew)) (Sub.refl _ _) (Nat.le_refl _) (by simp) (setRow_fr w2 w.heap.size _)
theorem root_end {F:Nat→Addr} {w W2 w2 w3 wf:World} {q:Qf} {x y:Qv} {N:Nat} {d:Dk} {f i n:Nat} {s1:Cs} {R:Except QErr Hsh×Cs} {ha k k0:Hsh} {u:Value} {g:Nat}
  (hR:R=match rootQ N f i n s1 with
   | (.ok b,s2)=>Qm.pure (nodeH ha b) s2
   | (.error p,s2)=>(.error p,s2))
  (hs:QStep W2 q y N d w2 (rootQ N f i n s1).2) (hv:((rootQ N f i n s1).1=.ok k∧u=.nilIface)∨∃ p,(rootQ N f i n s1).1=.error (.miss p)∧MissErr F w2 W2.heap.size p u) (hb:Below w2.heap.size w2 w3) (hz:hashOf w3 g k0) (hf:Fr (QS q x) w W2) (hsub:Sub w (QS q x) (QS q y)) (hg:w.heap.size≤g) (hsz:w.heap.size≤W2.heap.size) (hw:Fr (·=g) w3 wf) :
  FullPost F w q x N d R (.returned (.tuple #[.agg (h8 (nodeH ha k)),u])) wf:=by
 have hst:QStep w q x N d wf (rootQ N f i n s1).2:=((QStep.trans hf hsub hs).below hb).own hw hz (by decide) hg
 cases hq:rootQ N f i n s1 with
 | mk o s2=>
  rw[hq] at hR hv hst
  dsimp only at hv hst
  rcases hv with ⟨h1,rfl⟩|⟨p,h1,h2⟩
  ·subst h1
   rw[hR]
   exact⟨hst,.inl ⟨_,rfl,rfl⟩⟩
  ·subst h1
   rw[hR]
   have hm2:MissErr F w3 W2.heap.size p u:=h2.fr (S:=fun _=>False) (ts:=[]) (Fr.ofBelow hb) (fun _ _ _ _ h=>h.elim) (by decide)
   exact⟨hst,.inr ⟨p,u,_,rfl,rfl,(hm2.fr hw (kinds_one hz) (by decide)).low hsz⟩⟩
theorem wroot_any (F:Nat→Addr) (q:Qf) (N:Nat) (d:Dk) (g1 g3:Nat) (hN:N<9223372036854775808) (f:Nat):∀ (i n:Nat) (lo hi:Int) (w:World) (x:Qv) (s:Cs),QIs w q x N s d→EnvS F (QS q x) w→ClAt w q x g1 g3→lo=i→hi=i+n→n≤f→1≤n→i+n≤N→
  Bnd s (rootT N f i n).length→(rootQ N f i n s).1≠.error .panic→
  Calls prog 142 #[.int .i64 lo,.int .i64 hi,.pointer (some ⟨g1,0,none⟩),.pointer (some ⟨g3,0,none⟩)] w (FullPost F w q x N d (rootQ N f i n s)):=by
 induction f with
 | zero=>intros;omega
 | succ f ih=>
  intro i n lo hi w x s h hE hc hlo hhi hf h1 hin hb hp
  by_cases hpr:n &&& (n-1)=0∧i%n=0
  ·rw[rootT,if_pos hpr] at hb
   rw[rootQ,if_pos hpr] at hp ⊢
   exact wleaf_any F w q x N s d h hE g1 g3 i n lo hi hc hlo hhi h1 hin hN hpr hb hp
  ·rw[rootT,if_neg hpr,List.length_append] at hb
   obtain⟨R,hRR⟩:∃ R,R=rootQ N (f+1) i n s:=⟨_,rfl⟩
   rw[←hRR] at hp ⊢
   rw[rootQ,if_neg hpr] at hRR
   have hA:=and_i64 n (n-1) (by omega) (by omega)
   have hs1:((n-1:Nat):Int)=hi-lo-1:=by omega
   have hs0:(n:Int)=hi-lo:=by omega
   rw[hs1,hs0] at hA
   have hm:lo%(hi-lo)=((i%n:Nat):Int):=by
    rw[←hs0,hlo];rfl
   have l0:0≤lo:=by omega
   have l1:lo<hi:=by omega
   have l2:hi≤9223372036854775807:=by omega
   have hcase:((bits .and .i64 (hi-lo) (hi-lo-1) == 0)=true∧(lo%(hi-lo) == 0)=false)∨(bits .and .i64 (hi-lo) (hi-lo-1) == 0)=false:=by
    by_cases hp:n &&& (n-1)=0
    ·refine .inl ⟨by rw[hA,hp];rfl,?_⟩
     have hr:¬ i%n=0:=fun e=>hpr ⟨hp,e⟩
     rw[hm,beq_eq_false_iff_ne]
     omega
    ·refine .inr ?_
     rw[hA,beq_eq_false_iff_ne]
     omega
   have hn2:2≤n:=by
    rcases Nat.lt_or_ge n 2 with hlt|hge
    ·obtain rfl:n=1:=by omega
     exact absurd ⟨rfl,Nat.mod_one i⟩ hpr
    ·exact hge
   have hr0:decide (hi-lo=0)=false:=decide_eq_false (by omega)
   have hbd:=below_lt hn2
   obtain⟨k,hk⟩:∃ k,k=below n:=⟨_,rfl⟩
   rw[←hk] at hbd hRR hb
   unfold Qm.bind at hRR
   have hp1:(rootQ N f i k s).1≠.error .panic:=fun e=>by
    apply hp
    rw[hRR]
    cases hq:rootQ N f i k s with
    | mk o s1=>
     rw[hq] at e
     dsimp only at e
     subst e
     rfl
   have hbw:=below_alloc w (.cells zc 109)
   have HF1:=zh (fun lo hi e1' e2'=>ih i k lo hi _ x s (h.below hbw) (hE.below hbw) (hc.below hbw) e1' e2' (by omega) (by omega) (by omega) (hb.less (Nat.le_add_right _ _)) hp1)
   have hq1:Bnd (rootQ N f i k s).2 (rootT N f (i+k) (n-k)).length:=hb.next (rootQ_costs N f i k) (rootQ_kept (keepsQ_same s.net) N f i k s (SameN.refl _))
   have HF2:=zh (fun lo hi w x s h hE hc e1' e2' hb hp=>ih (i+k) (n-k) lo hi w x s h hE hc e1' e2' (by omega) (by omega) (by omega) hb hp)
   obtain⟨r1,hr1⟩:∃ r1,r1=rootQ N f i k s:=⟨_,rfl⟩
   rw[←hr1] at HF1 hq1
   rw[←hr1] at hRR
   have hki:(k:Int)<hi-lo:=by omega
   have hk1:(1:Int)≤k:=by omega
   have HK:=zh (show (below (hi-lo).toNat:Int)=k by rw[←hs0,Int.toNat_natCast,hk])
   have HLO:=zh hlo
   have HHI:=zh (show hi=((i+k:Nat):Int)+((n-k:Nat):Int) by omega)
   have HLK:=zh (show lo+k=((i+k:Nat):Int) by omega)
   have hl2:2≤hi-lo:=by omega
   have H:=zh h
   have HE:=zh (hE.below hbw)
   have HC:=zh (hc.below hbw)
   have HRR:=zh hRR
   have HP:=zh hp
   have HB1:=zh hq1
   have hnq:¬ QS q x w.heap.size:=fun e=>Nat.lt_irrefl _ (h.lt e)
   have HNQ:=zh hnq
   have d3:=hc.c3
   have hb3:=cell_lt d3
   clear ih h hE hc hb hp hRR hr1 hp1 hpr hA hm hs0 hs1 hlo hhi hf h1 hin hk hbd hn2 hbw hnq hq1
   rcases hcase with ⟨ta,tm⟩|ta
   all_goals (
    go_enter func142,ntmps142
    go_wp2_with fail
    refine (split_any _ _ (by omega) (by omega)).mono ?_
    rintro e w0 ⟨rfl,rfl⟩
    rw[HK.o]
    go_wp2_with fail
    refine (HF1.o lo (lo+k) HLO.o (by rw[HLO.o])).mono ?_
    intro e w1 h1
    obtain⟨ha,u1,rfl,hs1,hv1⟩:=fullPost_val h1
    have hsz00:(w.alloc (.cells zc 109)).heap.size=w.heap.size+1:=by simp
    have hsz1:w.heap.size<w1.heap.size:=by
     obtain⟨_,_,hf,_⟩:=hs1
     have:=hf.size
     omega
    have hz1:hashOf w1 w.heap.size zero8:=by
     obtain⟨_,_,hf,_⟩:=hs1
     exact hash_fr (hashOf_zero' rfl) hf HNQ.o
    obtain⟨x1,hq1',hE1,hf1,hsub1⟩:=hs1.env HE.o
    have hC1:=HC.o.step hf1 hsub1
    have HFR1:=zh (show Fr (QS q x) w w1 from (Fr.ofBelow (below_alloc w _)).trans hf1)
    have HSUB1:=zh (show Sub w (QS q x) (QS q x1) from hsub1.mono (by omega))
    have HNQ1:=zh (show ¬ QS q x1 w.heap.size from fun e=>(hsub1 _ e).elim (fun e=>HNQ.o e) (fun hle=>by omega))
    have HQ1:=zh hq1'
    have HE1:=zh hE1
    have HC1:=zh hC1
    have hb3':g3<w1.heap.size:=cell_lt hC1.c3
    have HME0:=zh hv1
    clear hs1 hq1' hE1 hf1 hsub1 h1 hC1
    obtain⟨o1,s1⟩:=r1
    rcases hv1 with ⟨hr,rfl⟩|⟨p,hr,hme⟩
    ·try dsimp only at hr
     subst hr
     obtain⟨W2,hW2⟩:∃ W2,W2=(w1.alloc (.cells zc 109)).setRow w1.heap.size (h8 ha):=⟨_,rfl⟩
     have hbW:Below w1.heap.size w1 W2:=by rw[hW2];exact below_setRow (below_alloc w1 _) (Nat.le_refl _) _
     have k1:hashOf W2 w1.heap.size ha:=by rw[hW2];exact hashOf_set (hashOf_zero' rfl) _
     have k0:hashOf W2 w.heap.size zero8:=hashOf_below hz1 hbW
     have kz:w1.heap.size<W2.heap.size:=by rw[hW2];simp
     have hp2:(rootQ N f (i+k) (n-k) s1).1≠.error .panic:=fun e=>by
      apply HP.o
      rw[HRR.o]
      dsimp only
      cases hq:rootQ N f (i+k) (n-k) s1 with
      | mk o s2=>
       rw[hq] at e
       dsimp only at e
       subst e
       rfl
     have HC2:=HC1.o.below hbW
     have HCL:=zh (HF2.o (lo+k) hi W2 x1 s1 (HQ1.o.below hbW) (HE1.o.below hbW) HC2 HLK.o HHI.o HB1.o hp2)
     have d3w:=HC2.c3
     have HBW:=zh hbW
     have K1:=zh k1
     have K0:=zh k0
     have HW2:=zh hW2
     have a1:hashOf ((w1.alloc (.cells zc 109)).setRow w1.heap.size (h8 ha)) w1.heap.size ha:=hashOf_set (hashOf_zero' rfl) _
     rw[hW2] at d3w
     clear hbW k1 k0 hp2 hz1 hW2 HC2
     go_wp2_with (first|((first|refine wpList_load8 rfl 109 _ rfl _ rfl _ underlying109 info8 ?_ ?_ ?_|refine wpList_store8 rfl 109 _ _ rfl _ _ rfl rfl info8 ?_ ?_ ?_);rotate_left;focus((repeat(first|(with_reducible first|assumption|exact hashOf_set' ⟨_,by assumption⟩ _)|((with_reducible first|refine hashOf_zero' ?_|refine hashOf_at ?_|refine hashOf_set' (Is8_zero ?_) _);(first|rfl|(simp;done)|(simp;omega)))|with_reducible refine hashOf_old ?_ _|((with_reducible refine hashOf_other ?_ _ ?_);rotate_left;(focus(first|(simp;done)|(simp;omega)|omega)))|with_reducible first|refine hashOf_drew ?_|refine hashOf_below ?_ (by assumption)));done)))
     rw[←HW2.o]
     clear a1 d3w
     refine HCL.o.mono ?_
     intro e w2 h2
     obtain⟨hbb,u2,rfl,hs2,hv2⟩:=fullPost_val h2
     have hn1:¬ QS q x1 w1.heap.size:=fun e=>Nat.lt_irrefl _ (HQ1.o.lt e)
     obtain⟨x2,hq2',hf2,hsub2⟩:=hs2
     have hA2:hashOf w2 w1.heap.size ha:=hash_fr K1.o hf2 hn1
     have hZ2:hashOf w2 w.heap.size zero8:=hash_fr K0.o hf2 HNQ1.o
     have hs12:w1.heap.size<w2.heap.size:=Nat.lt_of_lt_of_le kz hf2.size
     have HS2:=zh (show QStep W2 q x1 N d w2 (rootQ N f (i+k) (n-k) s1).2 from ⟨x2,hq2',hf2,hsub2⟩)
     have HV2:=zh hv2
     clear hq2' hf2 hsub2 hn1 h2 hv2
     have q1:hashOf ((w2.alloc (.cells zc 109)).setRow w2.heap.size (h8 hbb)) w1.heap.size ha:=hashOf_other (hashOf_old hA2 _) _ (by omega)
     have q2:hashOf ((w2.alloc (.cells zc 109)).setRow w2.heap.size (h8 hbb)) w2.heap.size hbb:=hashOf_set (hashOf_zero' rfl) _
     have q3:hashOf ((w2.alloc (.cells zc 109)).setRow w2.heap.size (h8 hbb)) w.heap.size zero8:=hashOf_other (hashOf_old hZ2 _) _ (by omega)
     go_wp2_with (first|((first|refine wpList_load8 rfl 109 _ rfl _ rfl _ underlying109 info8 ?_ ?_ ?_|refine wpList_store8 rfl 109 _ _ rfl _ _ rfl rfl info8 ?_ ?_ ?_);rotate_left;focus((repeat(first|(with_reducible first|assumption|exact hashOf_set' ⟨_,by assumption⟩ _)|((with_reducible first|refine hashOf_zero' ?_|refine hashOf_at ?_|refine hashOf_set' (Is8_zero ?_) _);(first|rfl|(simp;done)|(simp;omega)))|with_reducible refine hashOf_old ?_ _|((with_reducible refine hashOf_other ?_ _ ?_);rotate_left;(focus(first|(simp;done)|(simp;omega)|omega)))|with_reducible first|refine hashOf_drew ?_|refine hashOf_below ?_ (by assumption)));done)))
     refine (node_any ha hbb _).mono ?_
     rintro e w3 ⟨rfl,hw3⟩
     have r1:=hashOf_below q3 hw3
     have HW3:=zh (hw3.mono (show w2.heap.size≤((w2.alloc (.cells zc 109)).setRow w2.heap.size (h8 hbb)).heap.size by simp))
     clear q1 q2 q3 hw3
     go_wp2_with (first|((first|refine wpList_load8 rfl 109 _ rfl _ rfl _ underlying109 info8 ?_ ?_ ?_|refine wpList_store8 rfl 109 _ _ rfl _ _ rfl rfl info8 ?_ ?_ ?_);rotate_left;focus((repeat(first|(with_reducible first|assumption|exact hashOf_set' ⟨_,by assumption⟩ _)|((with_reducible first|refine hashOf_zero' ?_|refine hashOf_at ?_|refine hashOf_set' (Is8_zero ?_) _);(first|rfl|(simp;done)|(simp;omega)))|with_reducible refine hashOf_old ?_ _|((with_reducible refine hashOf_other ?_ _ ?_);rotate_left;(focus(first|(simp;done)|(simp;omega)|omega)))|with_reducible first|refine hashOf_drew ?_|refine hashOf_below ?_ (by assumption)));done)))
     refine ret8t w.heap.size (nodeH ha hbb) u2 rfl rfl rfl _ underlying109 info8 (hashOf_set r1 _) rfl ?_
     have hb2:Below w2.heap.size w2 w3:=(below_setRow (below_alloc w2 _) (Nat.le_refl _) _).trans HW3.o
     refine root_end (f:=f) (i:=i+k) (n:=n-k) (s1:=s1) (by rw[HRR.o];generalize rootQ N f (i+k) (n-k) s1=z;obtain⟨o,s2⟩:=z;cases o <;> rfl) HS2.o HV2.o hb2 r1 (HFR1.o.trans (Fr.ofBelow HBW.o)) HSUB1.o (Nat.le_refl _) (by omega) (setRow_fr w3 w.heap.size _)
    ·try dsimp only at hr
     subst hr
     have HME:=zh hme
     obtain⟨q9,rfl,hq9,hh9⟩:=hme
     have k1:hashOf ((w1.alloc (.cells zc 109)).setRow w1.heap.size (h8 ha)) w1.heap.size ha:=hashOf_set (hashOf_zero' rfl) _
     have hbW:Below w1.heap.size w1 ((w1.alloc (.cells zc 109)).setRow w1.heap.size (h8 ha)):=below_setRow (below_alloc w1 _) (Nat.le_refl _) _
     have k0:hashOf ((w1.alloc (.cells zc 109)).setRow w1.heap.size (h8 ha)) w.heap.size zero8:=hashOf_below hz1 hbW
     have HBW:=zh hbW
     clear hh9 hbW
     go_wp2_with (first|((first|refine wpList_load8 rfl 109 _ rfl _ rfl _ underlying109 info8 ?_ ?_ ?_|refine wpList_store8 rfl 109 _ _ rfl _ _ rfl rfl info8 ?_ ?_ ?_);rotate_left;focus((repeat(first|(with_reducible first|assumption|exact hashOf_set' ⟨_,by assumption⟩ _)|((with_reducible first|refine hashOf_zero' ?_|refine hashOf_at ?_|refine hashOf_set' (Is8_zero ?_) _);(first|rfl|(simp;done)|(simp;omega)))|with_reducible refine hashOf_old ?_ _|((with_reducible refine hashOf_other ?_ _ ?_);rotate_left;(focus(first|(simp;done)|(simp;omega)|omega)))|with_reducible first|refine hashOf_drew ?_|refine hashOf_below ?_ (by assumption)));done))|(refine wpList_store8 rfl 109 _ _ rfl _ zero8 rfl (by rw[h8_zero];rfl) info8 ?_ ?_ ?_;rotate_left;focus ((repeat(first|(with_reducible first|assumption|exact hashOf_set' ⟨_,by assumption⟩ _)|((with_reducible first|refine hashOf_zero' ?_|refine hashOf_at ?_|refine hashOf_set' (Is8_zero ?_) _);(first|rfl|(simp;done)|(simp;omega)))|with_reducible refine hashOf_old ?_ _|((with_reducible refine hashOf_other ?_ _ ?_);rotate_left;(focus(first|(simp;done)|(simp;omega)|omega)))|with_reducible first|refine hashOf_drew ?_|refine hashOf_below ?_ (by assumption)));done)))
     refine ret8t w.heap.size zero8 _ rfl rfl rfl _ underlying109 info8 (hashOf_set k0 _) rfl ?_
     rw[HRR.o]
     dsimp only
     refine⟨((QStep.trans HFR1.o HSUB1.o (QStep.here HQ1.o)).below HBW.o).own (setRow_fr _ w.heap.size _) k0 (by decide) (Nat.le_refl _),.inr ⟨p,_,zero8,rfl,rfl,?_⟩⟩
     have hm2:MissErr F _ _ p _:=HME.o.fr (S:=fun _=>False) (ts:=[]) (Fr.ofBelow HBW.o) (fun _ _ _ _ h=>h.elim) (by decide)
     exact (hm2.fr (setRow_fr _ w.heap.size _) (kinds_one k0) (by decide)).low (by omega))
end
end
end
section
theorem wpList_appC {P:Program} {ops:Array Oper} {rest:List Oper} {o:Oper} {a:Act} {Q:Exit→Act→World→Prop} {w:World} (hgd:o.guard=none) (s x:Operand) (t:TypeId)
  (ho:o.op=.call { callee:=.builtin .append,args:=#[s,x],argTypes:=#[t,t] })
  (base:Nat) (e:TypeId) (i:TypeInfo) (z:Value) (size bytes:Nat) (ht:P.underlying t=some (.slice e)) (hi:P.info? e=some i) (hz:i.zero=some z)
  (hsize:i.size=size) (hby:i.bytes=bytes) (hzs:z.cells.size=size) (hsz:0<size) (hbb:bytes≤64)
  (v:Value) (n:Nat) (xs:List Value) (hs:a.eval s=v) (hown:w.ownsRow base e size v n xs) (cs:Array Value) (hcs:cs.size=size) (h1:∀ u∈cs.toList,u.oneCell'=true)
  (hx:a.eval x=.slice (some ⟨w.heap.size,0,none⟩) 1 1)
  (hn:n≤1099511627776) (hbase:base≤w.heap.size)
  (h:∀ v' w',w'.ownsRow base e size v' (n+1) (xs++cs.toList)→w.grownBy w' v.ownBlock→(v'≠.slice none 0 0)→wpList P ops Q rest (a.put o.dst v') w') :
  wpList P ops Q (o :: rest) a (w.alloc (.cells cs e)):=by
 refine wpList_append_own _ hgd s x t ho base e i z size bytes ht hi hz hsize hby hzs hsz v n xs hs (hown.alloc _) ⟨w.heap.size,0,none⟩ 1 1 cs.toList hx (by simpa using hcs) (fun j u hu=>?_) h1 (by unfold maxLen;omega) ?_ (by simp;omega) fun v' w' h2 h3 h4=>?_
 ·rw[Addr.add_lit,World.cell?_alloc_at _ _ _ _ rfl]
  simpa using hu
 ·refine Nat.le_trans (Nat.mul_le_mul_left _ hbb) ?_
  omega
 ·exact h v' w' h2 (grownBy_trans (World.grownBy_alloc w _ _) h3) (by simp[h4])
def rsCells (rs:List (Nat×Nat)):List Value:=rs.flatMap fun x=>[.int .i64 x.1,.int .i64 x.2]
def OwnRs (w:World) (base:Nat) (v:Value) (rs:List (Nat×Nat)):Prop:=w.ownsRow base 252 2 v rs.length (rsCells rs)
theorem rsCells_get (rs:List (Nat×Nat)):∀ (k:Nat) (x:Nat×Nat),rs[k]?=some x→(rsCells rs)[k*2]?=some (.int .i64 x.1)∧(rsCells rs)[k*2+1]?=some (.int .i64 x.2):=by
 induction rs with
 | nil=>intro k x h;simp at h
 | cons y rs ih=>
  intro k x h
  cases k with
  | zero=>simp only[List.getElem?_cons_zero,Option.some.injEq] at h;subst h;exact⟨rfl,rfl⟩
  | succ k=>
   have:=ih k x (by simpa using h)
   rw[show (k+1)*2=k*2+1+1 by omega]
   simpa [rsCells] using this
theorem info_two:(prog.info? 252).map (fun i=>(i.zero,i.size,i.bytes))=some (some (.agg #[.int .i64 0,.int .i64 0]),2,16):=by kernel_rfl
section
end
end
section
section
theorem gatherQ_snoc (N:Nat) (x:Nat×Nat):∀ (xs:List (Nat×Nat)) (s s1:Cs) (l:List Hsh),gatherQ N xs s=(.ok l,s1)→gatherQ N (xs ++ [x]) s=match rootQ N (x.2-x.1) x.1 (x.2-x.1) s1 with
  | (.ok h,s2)=>(.ok (l ++ [h]),s2)
  | (.error e,s2)=>(.error e,s2)
 | [],s,s1,l,h=>by
  have:=(inferInstance:Inhabited OutT)
  have h':((.ok [],s):Except QErr (List Hsh)×Cs)=(.ok l,s1):=h
  cases h'
  show gatherQ N [x] s=_
  rw[gatherQ]
  unfold Qm.bind
  cases rootQ N (x.2-x.1) x.1 (x.2-x.1) s with
  | mk o s2=>cases o <;> rfl
 | y :: xs,s,s1,l,h=>by
  rw[gatherQ] at h
  unfold Qm.bind at h
  rw[List.cons_append,gatherQ]
  unfold Qm.bind
  cases hr:rootQ N (y.2-y.1) y.1 (y.2-y.1) s with
  | mk o s2=>
   rw[hr] at h
   cases o with
   | error e=>cases h
   | ok a=>
    dsimp only at h ⊢
    cases hg:gatherQ N xs s2 with
    | mk o3 s3=>
     rw[hg] at h
     cases o3 with
     | error e=>cases h
     | ok l3=>
      dsimp only at h
      cases h
      have:=gatherQ_snoc N x xs s2 _ l3 hg
      rw[this]
      cases rootQ N (x.2-x.1) x.1 (x.2-x.1) s1 with
      | mk o4 s4=>cases o4 <;> rfl
theorem gatherQ_stop (N:Nat) (ys:List (Nat×Nat)):∀ (xs:List (Nat×Nat)) (s s1:Cs) (e:QErr),gatherQ N xs s=(.error e,s1)→gatherQ N (xs++ys) s=(.error e,s1)
 | [],s,s1,e,h=>by have:=(inferInstance:Inhabited OutT);cases h
 | y :: xs,s,s1,e,h=>by
  rw[gatherQ] at h
  unfold Qm.bind at h
  rw[List.cons_append,gatherQ]
  unfold Qm.bind
  cases hr:rootQ N (y.2-y.1) y.1 (y.2-y.1) s with
  | mk o s2=>
   rw[hr] at h
   cases o with
   | error e2=>cases h;rfl
   | ok a=>
    dsimp only at h ⊢
    cases hg:gatherQ N xs s2 with
    | mk o3 s3=>
     rw[hg] at h
     cases o3 with
     | error e2=>
      dsimp only at h
      cases h
      rw[gatherQ_stop N ys xs s2 _ _ hg]
     | ok l3=>cases h
variable [Inhabited OutT]
theorem mwholeQ_any (w:World) (q:Qf) (x:Qv) (N:Nat) (s:Cs) (d:Dk) (h:QIs w q x N s d) :
  Calls prog 88 #[.func (.func 89) #[.pointer (some ⟨q.gq,0,none⟩)] #[]] w fun e w'=>∃ g1 g3,e=.returned (.func (.func 142) #[] #[.pointer (some ⟨g1,0,none⟩),.pointer (some ⟨g3,0,none⟩)])∧ClAt w' q x g1 g3∧Below w.heap.size w w':=by
 have H:=zh h
 clear h
 go_enter func88,ntmps88
 go_wp2_with fail
 go_ret
 refine⟨_,_,rfl,⟨?_,?_,fun e=>?_,fun e=>?_⟩,(below_alloc w _).alloc (by simp) _⟩
 ·rw[World.cell?_alloc_old]
  ·exact World.cell?_alloc_at _ _ _ _ rfl
  ·simp
 ·exact World.cell?_alloc_at _ _ _ _ (by simp)
 ·exact Nat.lt_irrefl _ (H.o.lt e)
 ·have:=H.o.lt e
  first|omega|(simp at this;omega)|(simp at this)
theorem kinds_QS {w:World} {q:Qf} {x:Qv} {N:Nat} {s:Cs} {d:Dk} (h:QIs w q x N s d):Kinds w (QS q x) ([250,9]++([246,244] ++ [103,3])):=
 h.kindsLook.or ((kinds_cache h.cache).or (kinds_net h.net))
theorem gatherT_app (N:Nat) (xs ys:List (Nat×Nat)):gatherT N (xs++ys)=gatherT N xs++gatherT N ys:=by have:=(inferInstance:Inhabited OutT);simp[gatherT]
structure Aft (F:Nat→Addr) (wr wf:World) (q:Qf) (x:Qv) (N:Nat) (d:Dk) (r:Except QErr Hsh×Cs) (k:Hsh) (u:Value) (g:Nat):Prop where
 st:QStep wr q x N d wf r.2
 val:(r.1=.ok k∧u=.nilIface)∨∃ p,r.1=.error (.miss p)∧MissErr F wf wr.heap.size p u
 hash:hashOf wf g k
theorem aft1 {F:Nat→Addr} {wr w0 w1:World} {q:Qf} {x:Qv} {N:Nat} {d:Dk} {r:Except QErr Hsh×Cs} {e:Ending} (hb:Below wr.heap.size wr w0) (h:FullPost F w0 q x N d r e w1) :
  ∃ k u,e=.returned (.tuple #[.agg (h8 k),u])∧Aft F wr ((w1.alloc (.cells zc 109)).setRow w1.heap.size (h8 k)) q x N d r k u w1.heap.size:=by
 obtain⟨k,u,he,hs,hv⟩:=fullPost_val h
 have hbW:Below w1.heap.size w1 ((w1.alloc (.cells zc 109)).setRow w1.heap.size (h8 k)):=below_setRow (below_alloc w1 _) (Nat.le_refl _) _
 refine⟨k,u,he,(QStep.trans (Fr.ofBelow hb) (Sub.refl _ _) hs).below hbW,?_,hashOf_set (hashOf_zero' rfl) _⟩
 rcases hv with hv|⟨p,h1,h2⟩
 ·exact .inl hv
 ·exact .inr ⟨p,h1,(h2.fr (S:=fun _=>False) (ts:=[]) (Fr.ofBelow hbW) (fun _ _ _ _ h=>h.elim) (by decide)).low hb.size⟩
theorem aft2 {F:Nat→Addr} {wr w1:World} {q:Qf} {x:Qv} {N:Nat} {s:Cs} {d:Dk} {r:Except QErr Hsh×Cs} {e:Ending} (hq:QIs wr q x N s d) (h:FullPost F (wr.alloc (.cells zc 109)).drew q x N d r e w1) :
  ∃ k u,e=.returned (.tuple #[.agg (h8 k),u])∧Is8 w1 wr.heap.size∧Aft F wr (w1.setRow wr.heap.size (h8 k)) q x N d r k u wr.heap.size:=by
 obtain⟨k,u,he,hs,hv⟩:=fullPost_val h
 have hz:hashOf w1 wr.heap.size zero8:=by
  obtain⟨_,_,hf,_⟩:=hs
  exact hash_fr (hashOf_drew (hashOf_zero' rfl)) hf fun e=>Nat.lt_irrefl _ (hq.lt e)
 have hb:Below wr.heap.size wr (wr.alloc (.cells zc 109)).drew:=(below_alloc wr _).drew
 refine⟨k,u,he,⟨zero8,hz⟩,(QStep.trans (Fr.ofBelow hb) (Sub.refl _ _) hs).own (setRow_fr w1 wr.heap.size _) hz (by decide) (Nat.le_refl _),?_,hashOf_set hz _⟩
 rcases hv with hv|⟨p,h1,h2⟩
 ·exact .inl hv
 ·exact .inr ⟨p,h1,(h2.fr (setRow_fr w1 wr.heap.size _) (kinds_one hz) (by decide)).low hb.size⟩
end
end
section
section
variable [Inhabited OutT]
def GathPost (F:Nat→Addr) (w:World) (q:Qf) (x:Qv) (N:Nat) (d:Dk) (r:Except QErr (List Hsh)×Cs) (e:Ending) (w':World):Prop:=
 QStep w q x N d w' r.2∧((∃ l v,r.1=.ok l∧e=.returned (.tuple #[v,.nilIface])∧OwnHs w' w.heap.size v l)∨∃ p u,r.1=.error (.miss p)∧e=.returned (.tuple #[.slice none 0 0,u])∧MissErr F w' w.heap.size p u)
structure GSt (F:Nat→Addr) (w wr:World) (q:Qf) (x:Qv) (N:Nat) (s:Cs) (d:Dk) (g1 g3:Nat) (rs:List (Nat×Nat)) (rv:Value) (j:Nat) (v:Value) (y:Qv) (sj:Cs) (l:List Hsh):Prop where
 run:gatherQ N (rs.drop j).reverse s=(.ok l,sj)
 is:QIs wr q y N sj d
 env:EnvS F (QS q y) wr
 cl:ClAt wr q y g1 g3
 fr:Fr (QS q x) w wr
 sub:Sub w (QS q x) (QS q y)
 o:OwnHs wr w.heap.size v l
 row:wr.ownsRow 0 252 2 rv rs.length (rsCells rs)
 bnd:Bnd sj (gatherT N (rs.take j).reverse).length
 len:l.length+j=rs.length
section
attribute [local go_sem] h8_0 h8_1 h8_2 h8_3 h8_4 h8_5 h8_6 h8_7 h8_fold h8_size run_store8
theorem gst_next {F:Nat→Addr} {w wr wf:World} {q:Qf} {x:Qv} {N:Nat} {s:Cs} {d:Dk} {g1 g3:Nat} {rs:List (Nat×Nat)} {rv v:Value} {k:Nat} {y:Qv} {sj:Cs} {l:List Hsh} {z:Nat×Nat} {hh:Hsh} {u:Value} {g:Nat} (h:GSt F w wr q x N s d g1 g3 rs rv (k+1) v y sj l) (hz:rs[k]?=some z)
  (ha:Aft F wr wf q y N d (rootQ N (z.2-z.1) z.1 (z.2-z.1) sj) hh u g) :
  (∃ y' s',(rootQ N (z.2-z.1) z.1 (z.2-z.1) sj).1=.ok hh∧u=.nilIface∧gatherQ N (rs.drop k).reverse s=(.ok (l ++ [hh]),s')∧QIs wf q y' N s' d∧EnvS F (QS q y') wf∧ClAt wf q y' g1 g3∧Fr (QS q x) w wf∧Sub w (QS q x) (QS q y')∧OwnHs wf w.heap.size v l∧wf.ownsRow 0 252 2 rv rs.length (rsCells rs)∧Bnd s' (gatherT N (rs.take k).reverse).length)∨
  (∃ p s',u≠.nilIface∧gatherQ N rs.reverse s=(.error (.miss p),s')∧QStep w q x N d wf s'∧MissErr F wf w.heap.size p u):=by
 have hk:=(List.getElem?_eq_some_iff.1 hz).1
 have hd:(rs.drop k).reverse=(rs.drop (k+1)).reverse ++ [z]:=by
  rw[List.drop_eq_getElem_cons hk,List.reverse_cons]
  have:rs[k]=z:=by rw[List.getElem?_eq_getElem hk] at hz;exact Option.some.inj hz
  rw[this]
 have hsn:=gatherQ_snoc N z (rs.drop (k+1)).reverse s sj l h.run
 rw[←hd] at hsn
 have htk:(rs.take (k+1)).reverse=z :: (rs.take k).reverse:=by
  rw[List.take_add_one,hz,Option.toList_some,List.reverse_append]
  rfl
 obtain⟨y',h1,h2,h3⟩:=ha.st
 have hcost:=rootQ_costs N (z.2-z.1) z.1 (z.2-z.1)
 have hb:=h.bnd
 rw[htk,show gatherT N (z :: (rs.take k).reverse)=rootT N (z.2-z.1) z.1 (z.2-z.1)++gatherT N (rs.take k).reverse by simp[gatherT],List.length_append] at hb
 have hb2:=hb.next hcost (rootQ_kept (keepsQ_same sj.net) N (z.2-z.1) z.1 (z.2-z.1) sj (SameN.refl _))
 rcases ha.val with ⟨h4,h5⟩|⟨p,h4,h5⟩
 ·left
  cases hr:rootQ N (z.2-z.1) z.1 (z.2-z.1) sj with
  | mk o s'=>
   rw[hr] at h1 h4 hsn hb2
   dsimp only at h1 h4 hb2
   subst h4
   exact⟨y',s',rfl,h5,hsn,h1,h.env.step h2 h3,h.cl.step h2 h3,h.fr.sub h2 h.sub,h.sub.trans h3 h.fr.size,row_kept h.o h2 (kinds_QS h.is) (by decide),row_kept h.row h2 (kinds_QS h.is) (by decide),hb2⟩
 ·right
  cases hr:rootQ N (z.2-z.1) z.1 (z.2-z.1) sj with
  | mk o s'=>
   rw[hr] at h1 h4 hsn
   dsimp only at h1 h4
   subst h4
   have hall:rs.reverse=(rs.drop k).reverse++(rs.take k).reverse:=by rw[←List.reverse_append,List.take_append_drop]
   refine⟨p,s',?_,by rw[hall];exact gatherQ_stop N _ _ s s' _ hsn,QStep.trans h.fr h.sub ⟨y',h1,h2,h3⟩,h5.low h.fr.size⟩
   obtain⟨q9,rfl,_⟩:=h5
   exact fun e=>by cases e
theorem gst_app {F:Nat→Addr} {w wf w2:World} {q:Qf} {x y:Qv} {N:Nat} {s s':Cs} {d:Dk} {g1 g3:Nat} {rs:List (Nat×Nat)} {rv v v2:Value} {k:Nat} {l:List Hsh} {hh:Hsh} (hE:EnvS F (QS q x) w) (hc:ClAt w q x g1 g3) (hrun:gatherQ N (rs.drop k).reverse s=(.ok (l ++ [hh]),s')) (hq:QIs wf q y N s' d) (hF:Fr (QS q x) w wf) (hS:Sub w (QS q x) (QS q y))
  (hO:OwnHs wf w.heap.size v l) (hW:wf.ownsRow 0 252 2 rv rs.length (rsCells rs)) (hB:Bnd s' (gatherT N (rs.take k).reverse).length) (hlen:l.length+(k+1)=rs.length) (hg:wf.grownBy w2 v.ownBlock) (hO2:OwnHs w2 w.heap.size v2 (l ++ [hh])):GSt F w w2 q x N s d g1 g3 rs rv k v2 y s' (l ++ [hh]):=by
 have hf2:Fr (fun i=>v.ownBlock=some i) wf w2:=Fr.ofGrown hg fun i _ e=>e
 have hk:=kinds_row hO
 have hF2:Fr (QS q x) w w2:=hF.step hf2 fun i hi e=>by
  have:=(ownsRow_below hO (Below.refl _ _)).lt i e
  omega
 refine⟨hrun,hq.kept hf2 hk (by decide) (fun i es c hi e=>?_),hE.step hF2 hS,hc.step hF2 hS,hF2,hS,hO2,row_kept hW hf2 hk (by decide),hB,by rw[List.length_append,List.length_singleton];omega⟩
 obtain⟨C,hC⟩:=ownBlock_type hO e
 rw[hC] at hi
 cases hi
theorem qgather_any (F:Nat→Addr) (w:World) (q:Qf) (x:Qv) (N:Nat) (s:Cs) (d:Dk) (h:QIs w q x N s d) (hE:EnvS F (QS q x) w) (g1 g3:Nat) (hc:ClAt w q x g1 g3) (hN:N<9223372036854775808) (v:Value) (rs:List (Nat×Nat)) (hr:w.ownsRow 0 252 2 v rs.length (rsCells rs)) (hrs:∀ x∈rs,x.1<x.2∧x.2≤N) (hn:rs.length≤1048576)
  (hb:Bnd s (gatherT N rs.reverse).length) (hp:(gatherQ N rs.reverse s).1≠.error .panic) :
  Calls prog 141 #[.func (.func 142) #[] #[.pointer (some ⟨g1,0,none⟩),.pointer (some ⟨g3,0,none⟩)],v] w (GathPost F w q x N d (gatherQ N rs.reverse s)):=by
 obtain⟨R,hRR⟩:∃ R,R=gatherQ N rs.reverse s:=⟨_,rfl⟩
 rw[←hRR] at hp ⊢
 obtain⟨a,c,hv⟩:=own_any hr
 subst hv
 have HRR:=zh hRR
 have HP:=zh hp
 have HRS:=zh hrs
 have hst:GSt F w w q x N s d g1 g3 rs (.slice a rs.length c) rs.length (.slice none 0 0) x s []:=
  ⟨by rw[List.drop_length];rfl,h,hE,hc,Fr.refl _ _,Sub.refl _ _,World.ownsRow_nil _ _ _ _,hr,by rw[List.take_length];exact hb,by simp⟩
 have HST:=zh hst
 obtain⟨i0,hi,hz0,hz1,hz2⟩:=info_parts info_hash
 rw[←h8_zero] at hz0
 have HZ:=zh hz0
 have HE:=zh hE
 have HC:=zh hc
 clear hRR hp h hE hc hr hrs hb hst hz0
 go_enter func141,ntmps141
 go_wp2
 go_loopw [6,7] (fun v i wr=>∃ (j:Int) (y:Qv) (sj:Cs) (l:List Hsh),-1≤j∧j<rs.length∧i=.int .i64 j∧Hid (GSt F w wr q x N s d g1 g3 rs (.slice a rs.length c) (j+1).toNat v y sj l)) (fun _ i _=>(intOf i+1).toNat)
 case atStart=>
  refine⟨(rs.length:Int)-1,x,s,[],by omega,by omega,rfl,zh ?_⟩
  rw[show ((rs.length:Int)-1+1).toNat=rs.length by omega]
  exact HST.o
 case round=>
  obtain⟨j,y,sj,l,hj0,hj1,rfl,HG⟩:=hrel
  by_cases hge:0≤j
  ·obtain⟨k,rfl⟩:∃ k:Nat,j=k:=⟨j.toNat,by omega⟩
   have hk:k<rs.length:=by omega
   rw[show ((k:Int)+1).toNat=k+1 by omega] at HG
   obtain⟨z,hz⟩:∃ z,rs[k]?=some z:=⟨_,List.getElem?_eq_getElem hk⟩
   obtain⟨gx1,gx2⟩:=rsCells_get rs k z hz
   obtain⟨_,_,hve,_,hcell⟩:=ownsRow_cells HG.o.row
   simp only[Value.slice.injEq] at hve
   obtain⟨b,off,hbo,d1⟩:=hcell _ _ gx1
   obtain⟨b',off',hbo',d2⟩:=hcell _ _ gx2
   have hae:=hve.1.trans hbo
   have hae':=hve.1.trans hbo'
   rw[hae] at hae'
   cases hae'
   clear hve hbo hbo' hcell
   subst hae
   rw[←Nat.add_assoc] at d2
   have hzm:=HRS.o z (List.mem_of_getElem? hz)
   have hpk:(rootQ N (z.2-z.1) z.1 (z.2-z.1) sj).1≠.error .panic:=fun e=>by
    apply HP.o
    rw[HRR.o]
    have hsn:=gatherQ_snoc N z (rs.drop (k+1)).reverse s sj l HG.o.run
    have hd:rs.reverse=((rs.drop (k+1)).reverse ++ [z])++(rs.take k).reverse:=by
     have:(rs.drop k).reverse=(rs.drop (k+1)).reverse ++ [z]:=by
      rw[List.drop_eq_getElem_cons hk,List.reverse_cons]
      have:rs[k]=z:=by rw[List.getElem?_eq_getElem hk] at hz;exact Option.some.inj hz
      rw[this]
     rw[←this,←List.reverse_append,List.take_append_drop]
    cases hr:rootQ N (z.2-z.1) z.1 (z.2-z.1) sj with
    | mk o s2=>
     rw[hr] at e hsn
     dsimp only at e
     subst e
     rw[hd,gatherQ_stop N _ _ s s2 _ hsn]
   have hbz:Bnd sj (rootT N (z.2-z.1) z.1 (z.2-z.1)).length:=HG.o.bnd.less (by
    rw[List.take_add_one,hz,Option.toList_some,List.reverse_append,gatherT_app,List.length_append]
    simp[gatherT])
   have hcall:∀ W,Below wr.heap.size wr W→Calls prog 142 #[.int .i64 z.1,.int .i64 z.2,.pointer (some ⟨g1,0,none⟩),.pointer (some ⟨g3,0,none⟩)] W (FullPost F W q y N d (rootQ N (z.2-z.1) z.1 (z.2-z.1) sj)):=fun W hW=>
    wroot_any F q N d g1 g3 hN (z.2-z.1) z.1 (z.2-z.1) z.1 z.2 W y sj (HG.o.is.below hW) (HG.o.env.below hW) (HG.o.cl.below hW) rfl (by omega) (Nat.le_refl _) (by omega) (by omega) hbz hpk
   have CALL:=zh hcall
   have HQY:=zh HG.o.is
   have HZK:=zh hz
   have hbr:=cell_lt d1
   have hlen:l.length≤1048576:=by have:=HG.o.len;omega
   clear hz gx1 gx2 hzm hpk hbz hcall
   obtain⟨zp,zq⟩:=z
   dsimp only at d1 d2 CALL
   go_wp2_with fail
   go_region_with (go_at_call 142;(first|(refine (CALL.o _ (below_drew wr)).mono ?_;intro e w1 h1;obtain⟨hh,u,rfl,hA⟩:=aft1 (below_drew wr) h1;have i1:Is8 (w1.alloc (.cells zc 109)) w1.heap.size:=Is8_zero rfl;have HA:=zh hA;clear h1 hA)|(refine (CALL.o _ ((below_alloc _ _).drew)).mono ?_;intro e w1 h1;obtain⟨hh,u,rfl,i1,hA⟩:=aft2 HQY.o h1;have HA:=zh hA;clear h1 hA)))
   all_goals
    rcases gst_next HG.o HZK.o HA.o with ⟨y',s',hok,rfl,hrun,hq',hE',hC',hF',hS',hO',hW',hB'⟩|⟨p,s',hne,hrun,hst,hme⟩
    ·have e1:=HA.o.hash
     have HO:=zh (ownsRow_below hO' (Below.refl _ _))
     have HO1:=zh hO'
     have HALL:=zh (And.intro hrun (And.intro hq' (And.intro hE' (And.intro hC' (And.intro hF' (And.intro hS' (And.intro hW' hB')))))))
     have hbase:=hF'.size
     clear i1 hok hrun hq' hE' hC' hF' hS' hO' hW' hB'
     go_wp2_with (first|(refine wpList_load8 rfl 109 _ rfl _ rfl _ underlying109 info8 ?_ ?_ ?_;rotate_left;focus ((repeat(first|(with_reducible first|assumption|exact hashOf_set' ⟨_,by assumption⟩ _)|((with_reducible first|refine hashOf_zero' ?_|refine hashOf_at ?_|refine hashOf_set' (Is8_zero ?_) _);(first|rfl|(simp;done)|(simp;omega)))|with_reducible refine hashOf_old ?_ _|((with_reducible refine hashOf_other ?_ _ ?_);rotate_left;(focus(first|(simp;done)|(simp;omega)|omega)))|with_reducible first|refine hashOf_drew ?_|refine hashOf_below ?_ (by assumption)));done))|(refine wpList_bs8 rfl 104 _ rfl i0 underlying104 hi HZ.o hz1 _ rfl ?_)|(at_builtin;(refine wpList_app8 rfl _ _ 104 rfl w.heap.size i0 underlying104 hi HZ.o hz1 hz2 _ _ rfl HO.o _ rfl (Nat.le_trans hlen (by decide)) hbase ?_);intro v2 w2 hr2 hg2 hne2;have HR2:=zh hr2;have HG2:=zh hg2;clear hr2 hg2 hne2))
     go_roundw
     case rel=>
      obtain⟨a1,a2,a3,a4,a5,a6,a7,a8⟩:=HALL.o
      refine⟨(k:Int)-1,y',s',l ++ [hh],by omega,by omega,rfl,zh ?_⟩
      rw[show ((k:Int)-1+1).toNat=k by omega]
      exact gst_app HE.o HC.o a1 a2 a5 a6 HO1.o a7 a8 HG.o.len HG2.o HR2.o
     case measure=>(simp[intOf] <;> omega)
    ·have HME:=zh hme
     have HST2:=zh hst
     have hr2:R=(.error (.miss p),s'):=by rw[HRR.o];exact hrun
     have HR2:=zh hr2
     obtain⟨q9,rfl,hq9,hh9⟩:=hme
     clear hh9 hne hrun hst hr2 i1
     go_wp2
     go_ret2
     rw[HR2.o]
     exact⟨HST2.o,.inr ⟨p,_,rfl,rfl,HME.o⟩⟩
  ·obtain rfl:j = -1:=by omega
   have hrun:=HG.o.run
   rw[show ((-1:Int)+1).toNat=0 by rfl,List.drop_zero,←HRR.o] at hrun
   have HRN:=zh hrun
   clear hrun
   go_wp2
   go_ret2
   rw[HRN.o]
   exact⟨⟨y,HG.o.is,HG.o.fr,HG.o.sub⟩,.inl ⟨l,_,rfl,rfl,HG.o.o⟩⟩
end
end
end
end Go.Proofs.YtefccfakhgdfbabGreatDoor
