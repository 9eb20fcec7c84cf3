/- The walks of merkle.Path, Proof over a question's hashes. Conditions: as of the ranges' roots. -/
import Derived.Test.YtefccfakhgdfbabGreatDoorRd09
set_option linter.unusedVariables false
set_option linter.unusedSimpArgs false
open Go.RowKit Go.Proofs.Tryz
set_option maxRecDepth 100000
set_option maxHeartbeats 4000000
namespace Go.Proofs.YtefccfakhgdfbabGreatDoor
section
section
attribute [local go_sem] h8_0 h8_1 h8_2 h8_3 h8_4 h8_5 h8_6 h8_7 Qbg h8_size Qax
theorem Qxd (f:Nat):∀ (i n:Nat) (lo hi:Int) (e1 e3 g1 g3:Nat) (v:Value) (ls:List (List UInt8)) (w:World),lo=i→hi=i+n→n≤f→1≤n→i+n≤ls.length→ls.length≤1048576→(∀ l∈ls,l.length≤9223372036854775807)→
  w.cell? ⟨e1,0,none⟩=some v→w.cell? ⟨e3,0,none⟩=some (.func (.func 171) #[] #[.pointer (some ⟨e1,0,none⟩),.pointer (some ⟨e3,0,none⟩)])→Qes w v ls→
  w.cell? ⟨g1,0,none⟩=some (.func (.func 171) #[] #[.pointer (some ⟨e1,0,none⟩),.pointer (some ⟨e3,0,none⟩)])→
  w.cell? ⟨g3,0,none⟩=some (.func (.func 142) #[] #[.pointer (some ⟨g1,0,none⟩),.pointer (some ⟨g3,0,none⟩)])→
  Calls prog 142 #[.int .i64 lo,.int .i64 hi,.pointer (some ⟨g1,0,none⟩),.pointer (some ⟨g3,0,none⟩)] w fun e w'=>e=.returned (.tuple #[.agg (h8 (rootOf ((ls.drop i).take n))),.nilIface])∧Below w.heap.size w w':=by
 induction f with
 | zero=>intros;omega
 | succ f ih=>
  intro i n lo hi e1 e3 g1 g3 v ls w hlo hhi hf h1 hin hl hs c1 c3 h d1 d3;have hA:=Qu0 n (n-1) (by omega) (by omega);have hs1:((n-1:Nat):Int)=hi-lo-1:=by omega
  have hs0:(n:Int)=hi-lo:=by omega
  rw[hs1,hs0] at hA;have hm:lo%(hi-lo)=((i%n:Nat):Int):=by rw[←hs0,hlo];rfl
  have l0:0≤lo:=by omega
  have l1:lo<hi:=by omega
  have l2:hi≤1048576:=by omega
  by_cases hpr:n &&& (n-1)=0∧i%n=0
  ·obtain⟨hp,hr⟩:=hpr
   rw[hp] at hA
   ·have tm:(lo%(hi-lo) == 0)=true:=by rw[hm,hr];rfl
    have ta:(bits .and .i64 (hi-lo) (hi-lo-1) == 0)=true:=by rw[hA];rfl
    have hpw:=Qej h1 (by omega) hp;obtain⟨e,he⟩:∃ e,Lib.bitLen n=e+1:=by
     refine⟨Lib.bitLen n-1,?_⟩
     have:=(Lib.bitLenAux_bounds 64 n (by omega) (by omega)).1
     have hb:Lib.bitLen n=Lib.bitLenAux 64 n:=rfl;omega
    rw[he,Nat.add_sub_cancel] at hpw;have he40:e≤20:=by
     rcases Nat.lt_or_ge 20 e with hlt|hge
     ·have:=Nat.pow_le_pow_right (n:=2) (by decide) hlt
      omega
     ·exact hge
    have HE:=zh he;have hr0:decide (hi-lo=0)=false:=decide_eq_false (by omega);have hz:((hi-lo) == 0)=false:=by rw[beq_eq_false_iff_ne];omega
    have hdiv:i / n*n=i:=by have:=Nat.div_add_mod i n;rw[hr] at this;rw[Nat.mul_comm];omega
    have hq:(i / n+1)*2 ^ e≤ls.length:=by rw[←hpw,Nat.add_mul,hdiv];omega
    have hfull:Zq ls e (i / n)=rootOf ((ls.drop i).take n):=by rw[Qda ls e (i / n) (by omega) hq,←hpw,hdiv]
    have HF:=zh hfull;have HQ:=zh hq;have HH:=zh h;have HS':=zh hs;have C1:=zh c1;have C3:=zh c3;have D3:=zh d3;have IH:=zh ih;have HPW:=zh hpw;have gl:=Qk d1;have hdv:=zh hdiv;have HLO:=zh hlo;have HHI:=zh hhi;have HS0:=zh hs0;clear hfull hq h hs c1 c3 d3 ih hpw hp hr hdiv he hs0 hs1 hA hm hlo hhi hz
    go_enter func142,ntmps142
    go_wp2_with fail
    refine (bits_Len _ _ (by omega) (by omega)).mono ?_;rintro e' w1 ⟨rfl,rfl⟩;have ht:Lib.bitLen (hi-lo).toNat=e+1:=by rw[←HE.o,←HS0.o];rfl
    rw[ht];clear ht
    go_wp2_with fail
    have b0:Below w.heap.size w (w.alloc (.cells zc 109)).drew:=(Qa w _).drew;have k1:=(b0.cell (p:=⟨e1,0,none⟩) (Qk C1.o)).trans C1.o;have k3:=(b0.cell (p:=⟨e3,0,none⟩) (Qk C3.o)).trans C3.o;have K1:=zh k1;have K3:=zh k3;have HB:=zh (HH.o.below b0);have B0:=zh b0;have hsh:lo / 2 ^ e=((i / n:Nat):Int):=by rw[HLO.o,HPW.o];simp
    have HSH:=zh hsh;clear hsh k1 k3 b0
    go_region_with (go_at_call 171;refine (Q2j e (i / n) _ _ e1 e3 v ls _ rfl HSH.o (by omega) HQ.o hl HS'.o K1.o K3.o HB.o).mono ?_;rintro e' w1 ⟨rfl,hb1⟩;have hz:w.heap.size<w1.heap.size:=(by have:=hb1.size;simp at this;omega);have hI8:Is8 w1 w.heap.size:=⟨zero8,Qg (Qo (Qe rfl)) hb1⟩;have B1:=zh (B0.o.trans (hb1.mono B0.o.size));clear hb1)
    go_wp2;obtain⟨z,hz8⟩:=hI8;refine ret8t w.heap.size (Zq ls e (i / n)) .nilIface rfl rfl rfl _ underlying109 info8 (Qy hz8 _) rfl ⟨by rw[HF.o],below_setRow B1.o (Nat.le_refl _) _⟩
  ·have hcase:((bits .and .i64 (hi-lo) (hi-lo-1) == 0)=true∧(lo%(hi-lo) == 0)=false)∨(bits .and .i64 (hi-lo) (hi-lo-1) == 0)=false:=by
    by_cases hp:n &&& (n-1)=0
    ·refine .inl ⟨by rw[hA,hp];rfl,?_⟩
     have hr:¬ i%n=0:=fun e=>hpr ⟨hp,e⟩
     rw[hm,beq_eq_false_iff_ne];omega
    ·refine .inr ?_
     rw[hA,beq_eq_false_iff_ne];omega
   have hn2:2≤n:=by
    rcases Nat.lt_or_ge n 2 with hlt|hge
    ·obtain rfl:n=1:=by omega
     exact absurd ⟨rfl,Nat.mod_one i⟩ hpr
    ·exact hge
   have hr0:decide (hi-lo=0)=false:=decide_eq_false (by omega);have hbd:=Yl hn2;obtain⟨k,hk⟩:∃ k,k=below n:=⟨_,rfl⟩
   have hpl:((ls.drop i).take n).length=n:=by rw[List.length_take,List.length_drop];omega
   have hrt:rootOf ((ls.drop i).take n)=Z0 (rootOf ((ls.drop i).take k)) (rootOf ((ls.drop (i+k)).take (n-k))):=by rw[Qbd (by omega),hpl,←hk,List.take_take,List.drop_take,List.drop_drop,Nat.min_eq_left (by omega)]
   rw[←hk] at hbd;obtain⟨x,hx⟩:∃ x,x=rootOf ((ls.drop i).take k):=⟨_,rfl⟩
   obtain⟨y,hy⟩:∃ y,y=rootOf ((ls.drop (i+k)).take (n-k)):=⟨_,rfl⟩
   rw[←hx,←hy] at hrt;have I1:=zh (fun lo hi w e1' e2'=>ih i k lo hi e1 e3 g1 g3 v ls w e1' e2' (by omega) (by omega) (by omega) hl hs);have I2:=zh (fun lo hi w e1' e2'=>ih (i+k) (n-k) lo hi e1 e3 g1 g3 v ls w e1' e2' (by omega) (by omega) (by omega) hl hs);rw[←hx] at I1;rw[←hy] at I2;have hki:(k:Int)<hi-lo:=by omega
   have hk1:(1:Int)≤k:=by omega
   have HK:=zh (show (below (hi-lo).toNat:Int)=k by rw[←hs0,Int.toNat_natCast,hk]);have HLO:=zh hlo;have HHI:=zh (show hi=((i+k:Nat):Int)+((n-k:Nat):Int) by omega);have HLK:=zh (show lo+k=((i+k:Nat):Int) by omega);have HF:=zh hrt;have HH:=zh h;have C1:=zh c1;have C3:=zh c3;have D1:=zh d1;have hb3:=Qk d3;have hl2:2≤hi-lo:=by omega
   clear ih hs h hrt hx hy hpr hA hm hs0 hs1 hlo hhi hf h1 hin hl c1 c3 d1 hpl hk hbd hn2;rcases hcase with ⟨ta,tm⟩|ta
   all_goals
    go_enter func142,ntmps142
    go_wp2_with fail
    refine (Qbw _ _ (by omega) (by omega)).mono ?_;rintro e w0 ⟨rfl,rfl⟩;rw[HK.o]
    go_wp2_with fail
    have b0:=Qa w (.cells zc 109);refine (I1.o lo (lo+k) _ HLO.o (by rw[HLO.o]) ((b0.cell (p:=⟨e1,0,none⟩) (Qk C1.o)).trans C1.o) ((b0.cell (p:=⟨e3,0,none⟩) (Qk C3.o)).trans C3.o) (HH.o.below b0) ((b0.cell (p:=⟨g1,0,none⟩) (Qk D1.o)).trans D1.o) ((b0.cell (p:=⟨g3,0,none⟩) hb3).trans d3)).mono ?_;rintro e w1 ⟨rfl,hw1⟩;have B1:=b0.trans (hw1.mono b0.size);have z1:Qu w1 w.heap.size zero8:=Qg (Qe rfl) hw1;have s1:w.heap.size+1≤w1.heap.size:=by have:=hw1.size;simpa using this
    have d3':=(B1.cell (p:=⟨g3,0,none⟩) hb3).trans d3;have hb3':=Qk d3';have BB1:=zh B1;have D3:=zh d3;clear b0 hw1 B1 d3;have k1:Qu ((w1.alloc (.cells zc 109)).setRow w1.heap.size (h8 x)) w1.heap.size x:=Qy (Qe rfl) _;have k2:Below w.heap.size w ((w1.alloc (.cells zc 109)).setRow w1.heap.size (h8 x)):=below_setRow (BB1.o.alloc BB1.o.size _) BB1.o.size _;have k3:Qu ((w1.alloc (.cells zc 109)).setRow w1.heap.size (h8 x)) w.heap.size zero8:=Qi (Qp z1 _) _ (by omega);have k5:((w1.alloc (.cells zc 109)).setRow w1.heap.size (h8 x)).heap.size=w1.heap.size+1:=by simp
    have k4:((w1.alloc (.cells zc 109)).setRow w1.heap.size (h8 x)).cell? ⟨g3,0,none⟩=some (.func (.func 142) #[] #[.pointer (some ⟨g1,0,none⟩),.pointer (some ⟨g3,0,none⟩)]):=((below_setRow (Qa w1 _) (Nat.le_refl _) _).cell (p:=⟨g3,0,none⟩) hb3').trans d3';have KK1:=zh k1;have KK2:=zh k2;have KK3:=zh k3;have KK5:=zh k5;clear k1 k2 k3 k5 d3' z1
    go_wp2_with (first|((first|refine Q1 rfl 109 _ rfl _ rfl _ underlying109 info8 ?_ ?_ ?_|refine Qt rfl 109 _ _ rfl _ _ rfl rfl info8 ?_ ?_ ?_);rotate_left;focus((repeat(first|(with_reducible first|assumption|exact Qj ⟨_,by assumption⟩ _)|((with_reducible first|refine Qe ?_|refine Q2 ?_|refine Qj (Q9 ?_) _);(first|rfl|(simp;done)|(simp;omega)))|with_reducible refine Qp ?_ _|((with_reducible refine Qi ?_ _ ?_);rotate_left;(focus(first|(simp;done)|(simp;omega)|omega)))|with_reducible first|refine Qo ?_|refine Qg ?_ (by assumption)));done)))
    generalize ((w1.alloc (.cells zc 109)).setRow w1.heap.size (h8 x))=W2 at *;refine (I2.o (lo+k) hi W2 HLK.o HHI.o ((KK2.o.cell (p:=⟨e1,0,none⟩) (Qk C1.o)).trans C1.o) ((KK2.o.cell (p:=⟨e3,0,none⟩) (Qk C3.o)).trans C3.o) (HH.o.below KK2.o) ((KK2.o.cell (p:=⟨g1,0,none⟩) (Qk D1.o)).trans D1.o) k4).mono ?_;rintro e w2 ⟨rfl,hw2⟩;have s2:w1.heap.size+1≤w2.heap.size:=by have:=hw2.size;rw[KK5.o] at this;exact this
    have B2:=zh (KK2.o.trans (hw2.mono KK2.o.size));have q1:Qu ((w2.alloc (.cells zc 109)).setRow w2.heap.size (h8 y)) w1.heap.size x:=Qi (Qp (Qg KK1.o hw2) _) _ (by omega);have q2:Qu ((w2.alloc (.cells zc 109)).setRow w2.heap.size (h8 y)) w2.heap.size y:=Qy (Qe rfl) _;have q3:Qu ((w2.alloc (.cells zc 109)).setRow w2.heap.size (h8 y)) w.heap.size zero8:=Qi (Qp (Qg KK3.o hw2) _) _ (by omega);have q4:Below w.heap.size w ((w2.alloc (.cells zc 109)).setRow w2.heap.size (h8 y)):=below_setRow (B2.o.alloc B2.o.size _) B2.o.size _;have Q4:=zh q4;clear hw2 q4 k4
    go_wp2_with (first|((first|refine Q1 rfl 109 _ rfl _ rfl _ underlying109 info8 ?_ ?_ ?_|refine Qt rfl 109 _ _ rfl _ _ rfl rfl info8 ?_ ?_ ?_);rotate_left;focus((repeat(first|(with_reducible first|assumption|exact Qj ⟨_,by assumption⟩ _)|((with_reducible first|refine Qe ?_|refine Q2 ?_|refine Qj (Q9 ?_) _);(first|rfl|(simp;done)|(simp;omega)))|with_reducible refine Qp ?_ _|((with_reducible refine Qi ?_ _ ?_);rotate_left;(focus(first|(simp;done)|(simp;omega)|omega)))|with_reducible first|refine Qo ?_|refine Qg ?_ (by assumption)));done)))
    refine (Qbz x y _).mono ?_;rintro e w3 ⟨rfl,hw3⟩;have r1:=Qg q3 hw3;clear q1 q2 q3;have R1:=zh (Q4.o.trans (hw3.mono Q4.o.size));clear hw3
    go_wp2_with (first|((first|refine Q1 rfl 109 _ rfl _ rfl _ underlying109 info8 ?_ ?_ ?_|refine Qt rfl 109 _ _ rfl _ _ rfl rfl info8 ?_ ?_ ?_);rotate_left;focus((repeat(first|(with_reducible first|assumption|exact Qj ⟨_,by assumption⟩ _)|((with_reducible first|refine Qe ?_|refine Q2 ?_|refine Qj (Q9 ?_) _);(first|rfl|(simp;done)|(simp;omega)))|with_reducible refine Qp ?_ _|((with_reducible refine Qi ?_ _ ?_);rotate_left;(focus(first|(simp;done)|(simp;omega)|omega)))|with_reducible first|refine Qo ?_|refine Qg ?_ (by assumption)));done)))
    refine ret8t w.heap.size (Z0 x y) .nilIface rfl rfl rfl _ underlying109 info8 (Qy r1 _) rfl ⟨by rw[HF.o],below_setRow R1.o (Nat.le_refl _) _⟩
end
end
section
theorem Qdt {P:Program} (g o:Nat) (t:TypeId) (fz:Nat×Nat):∀ (vs:List Value) (i:Nat) (cur:Array Value) (w:World),w.heap[g]?=some (.cells cur t fz)→o+i+vs.length≤cur.size→(fz=(0,0)∨cur.size≤fz.1)→(∀ v∈vs,v.oneCell'=true)→
  ∃ cur',(storeCells ⟨g,o,none⟩ vs i).run P w=.ok () (w.setRow g cur')∧cur'.size=cur.size
 | [],i,cur,w,hg,_,_,_=>⟨cur,by simp only[storeCells];rw[setRow_self w g cur t fz hg];rfl,rfl⟩
 | v :: rest,i,cur,w,hg,hl,hf,h1=>by
  have hi:o+i<cur.size:=by simp at hl;omega
  have hadd:(⟨g,o,none⟩:Addr).add i=⟨g,o+i,none⟩:=by unfold Addr.add;split <;> simp_all
  have hcell:w.cell? ⟨g,o+i,none⟩=some cur[o+i]:=by simp[World.cell?,hg,hi]
  have hfro:w.frozen? ⟨g,o+i,none⟩=false:=by
   simp only[World.frozen?,hg]
   rcases hf with rfl|hf
   ·simp
   ·simp;omega
  have hst:(store ((⟨g,o,none⟩:Addr).add i) v).run P w=.ok () (w.setRow g (cur.setIfInBounds (o+i) v)):=by
   rw[hadd,run_store P w _ v _ (h1 v (by simp)),hcell]
   simp[hfro,setCell_eq_setRow w g (o+i) cur t fz v hg]
  obtain⟨cur',ih,hs⟩:=Qdt (P:=P) g o t fz rest (i+1) (cur.setIfInBounds (o+i) v) (w.setRow g (cur.setIfInBounds (o+i) v)) (setRow_heap w g cur _ t _ hg) (by simp at hl ⊢;omega) (by simpa using hf) (fun x hx=>h1 x (by simp[hx]))
  refine⟨cur',?_,by simpa using hs⟩
  simp only[storeCells,Sem.run_bind,hst,Result.andThen_ok,ih,setRow_setRow]
theorem Qkt (w:World) (g:Nat) (cs:Array Value):w.grownBy (w.setRow g cs) (some g):=
 ⟨rfl,rfl,rfl,by simp,fun k _ hk=>setRow_other w g k cs (fun e=>hk (by rw[e]))⟩
end
section
def Quu (w:World) (rv:Value) (ls:List (List UInt8)):Prop:=
 ∃ (e1 e3 g1 g3:Nat) (v:Value),rv=.func (.func 142) #[] #[.pointer (some ⟨g1,0,none⟩),.pointer (some ⟨g3,0,none⟩)]∧
  w.cell? ⟨e1,0,none⟩=some v∧w.cell? ⟨e3,0,none⟩=some (.func (.func 171) #[] #[.pointer (some ⟨e1,0,none⟩),.pointer (some ⟨e3,0,none⟩)])∧Qes w v ls∧
  w.cell? ⟨g1,0,none⟩=some (.func (.func 171) #[] #[.pointer (some ⟨e1,0,none⟩),.pointer (some ⟨e3,0,none⟩)])∧
  w.cell? ⟨g3,0,none⟩=some (.func (.func 142) #[] #[.pointer (some ⟨g1,0,none⟩),.pointer (some ⟨g3,0,none⟩)])
theorem Qwv (F:FuncId) (caps:Array Value) (w:World) :
  Calls prog 88 #[.func (.func F) #[] caps] w fun e w'=>e=.returned (.func (.func 142) #[] #[.pointer (some ⟨w.heap.size,0,none⟩),.pointer (some ⟨w.heap.size+1,0,none⟩)])∧
   w'.cell? ⟨w.heap.size,0,none⟩=some (.func (.func F) #[] caps)∧w'.cell? ⟨w.heap.size+1,0,none⟩=some (.func (.func 142) #[] #[.pointer (some ⟨w.heap.size,0,none⟩),.pointer (some ⟨w.heap.size+1,0,none⟩)])∧Below w.heap.size w w':=by
 go_enter func88,ntmps88
 go_wp2_with fail
 go_ret;refine⟨rfl,?_,?_,(Qa w _).alloc (by simp) _⟩
 ·rw[World.cell?_alloc_old]
  ·exact World.cell?_alloc_at _ _ _ _ rfl
  ·simp
 ·exact World.cell?_alloc_at _ _ _ _ (by simp)
theorem Qr7 (v:Value) (ls:List (List UInt8)) (w:World) (h:Qes w v ls) :
  Calls prog 126 #[v] w fun e w'=>∃ rv,e=.returned rv∧Quu w' rv ls∧Below w.heap.size w w':=by
 obtain⟨a,c,rfl⟩:∃ a c,v=.slice a ls.length c:=by obtain⟨_,_,⟨a,c,h1,_⟩,_⟩:=h;exact⟨a,c,h1⟩
 have HH:=zh h;clear h
 go_enter func126,ntmps126
 go_wp2_with fail
 have b0:Below w.heap.size w ((w.alloc (.cells #[.slice a ls.length c] 135)).alloc (.cells #[.func (.func 171) #[] #[.pointer (some ⟨w.heap.size,0,none⟩),.pointer (some ⟨w.heap.size+1,0,none⟩)]] 181)):=(Qa w _).alloc (by simp) _;refine (Qwv _ _ _).mono ?_;rintro e w1 ⟨rfl,h1,h2,hb⟩;have hsz:((w.alloc (.cells #[.slice a ls.length c] 135)).alloc (.cells #[.func (.func 171) #[] #[.pointer (some ⟨w.heap.size,0,none⟩),.pointer (some ⟨w.heap.size+1,0,none⟩)]] 181)).heap.size=w.heap.size+1+1:=by simp
 rw[hsz] at h1 h2;clear hsz;have B:=zh (b0.trans (hb.mono b0.size));have q1:w1.cell? ⟨w.heap.size,0,none⟩=some (.slice a ls.length c):=(hb.cell (p:=⟨w.heap.size,0,none⟩) (by simp;omega)).trans ((World.cell?_alloc_past _ _ _ (by simp)).trans (World.cell?_alloc_at _ _ _ _ rfl));have q2:w1.cell? ⟨w.heap.size+1,0,none⟩=some (.func (.func 171) #[] #[.pointer (some ⟨w.heap.size,0,none⟩),.pointer (some ⟨w.heap.size+1,0,none⟩)]):=(hb.cell (p:=⟨w.heap.size+1,0,none⟩) (by simp)).trans (World.cell?_alloc_at _ _ _ _ (by simp));have Q:=zh (show Quu w1 _ ls from ⟨_,_,_,_,_,rfl,q1,q2,HH.o.below B.o,h1,h2⟩);clear b0 hb q1 q2 h1 h2;go_wp2;go_ret;exact⟨_,rfl,Q.o,B.o⟩
theorem Qz0 (n:Nat) (rv:Value) (ls:List (List UInt8)) (w:World) (h:Quu w rv ls) (hn:n≤ls.length) (hl:ls.length≤1048576) (hs:∀ l∈ls,l.length≤9223372036854775807) :
  Calls prog 125 #[rv,.int .i64 n] w fun e w'=>e=.returned (.tuple #[.agg (h8 (rootOf (ls.take n))),.nilIface])∧Below w.heap.size w w':=by
 by_cases h0:n=0
 ·subst h0
  obtain⟨e1,e3,g1,g3,v,rfl,_⟩:=h
  go_enter func125,ntmps125
  go_wp2_with fail
  refine (Qjv _ [] _ ⟨[],rfl,⟨none,0,rfl,Nat.le_refl _,fun j x hx=>by simp at hx⟩,fun j u l hu _=>by simp at hu⟩ (by simp) (by simp)).mono ?_;rintro e w1 ⟨rfl,hb⟩;have z1:Qu w1 w.heap.size zero8:=Qg (Qe rfl) hb;have B:=zh ((Qa w _).trans (hb.mono (by simp)));clear hb
  go_wp2_with (first|((first|refine Q1 rfl 109 _ rfl _ rfl _ underlying109 info8 ?_ ?_ ?_|refine Qt rfl 109 _ _ rfl _ _ rfl rfl info8 ?_ ?_ ?_);rotate_left;focus((repeat(first|(with_reducible first|assumption|exact Qj ⟨_,by assumption⟩ _)|((with_reducible first|refine Qe ?_|refine Q2 ?_|refine Qj (Q9 ?_) _);(first|rfl|(simp;done)|(simp;omega)))|with_reducible refine Qp ?_ _|((with_reducible refine Qi ?_ _ ?_);rotate_left;(focus(first|(simp;done)|(simp;omega)|omega)))|with_reducible first|refine Qo ?_|refine Qg ?_ (by assumption)));done)))
  refine ret8t w.heap.size (hash []) .nilIface rfl rfl rfl _ underlying109 info8 (Qy z1 _) rfl ⟨by rw[List.take_zero];rfl,below_setRow B.o (Nat.le_refl _) _⟩
 ·have hz:((n:Int) == 0)=false:=by rw[beq_eq_false_iff_ne];omega
  obtain⟨e1,e3,g1,g3,v,rfl,h1,h2,h3,h4,h5⟩:=h;have b0:=Qa w (.cells zc 109);have W:=zh (Qxd n 0 n 0 n e1 e3 g1 g3 v ls (w.alloc (.cells zc 109)) rfl (by simp) (Nat.le_refl _) (by omega) (by omega) hl hs ((b0.cell (p:=⟨e1,0,none⟩) (Qk h1)).trans h1) ((b0.cell (p:=⟨e3,0,none⟩) (Qk h2)).trans h2) (h3.below b0) ((b0.cell (p:=⟨g1,0,none⟩) (Qk h4)).trans h4) ((b0.cell (p:=⟨g3,0,none⟩) (Qk h5)).trans h5));have hd:(ls.drop 0).take n=ls.take n:=by rw[List.drop_zero]
  rw[hd] at W;clear h1 h2 h3 h4 h5 hd hs hl hn
  go_enter func125,ntmps125
  go_wp2_with fail
  refine W.o.mono ?_;rintro e w1 ⟨rfl,hb⟩;have z1:Qu w1 w.heap.size zero8:=Qg (Qe rfl) hb;have B:=zh (b0.trans (hb.mono b0.size));clear hb b0 W
  go_wp2_with (first|((first|refine Q1 rfl 109 _ rfl _ rfl _ underlying109 info8 ?_ ?_ ?_|refine Qt rfl 109 _ _ rfl _ _ rfl rfl info8 ?_ ?_ ?_);rotate_left;focus((repeat(first|(with_reducible first|assumption|exact Qj ⟨_,by assumption⟩ _)|((with_reducible first|refine Qe ?_|refine Q2 ?_|refine Qj (Q9 ?_) _);(first|rfl|(simp;done)|(simp;omega)))|with_reducible refine Qp ?_ _|((with_reducible refine Qi ?_ _ ?_);rotate_left;(focus(first|(simp;done)|(simp;omega)|omega)))|with_reducible first|refine Qo ?_|refine Qg ?_ (by assumption)));done)))
  refine ret8t w.heap.size _ .nilIface rfl rfl rfl _ underlying109 info8 (Qy z1 _) rfl ⟨rfl,below_setRow B.o (Nat.le_refl _) _⟩
theorem Qm5 (v:Value) (ls:List (List UInt8)) (w:World) (h:Qes w v ls) (hl:ls.length≤1048576) (hs:∀ l∈ls,l.length≤9223372036854775807) :
  Calls prog 69 #[v] w fun e w'=>e=.returned (.agg (h8 (rootOf ls)))∧Below w.heap.size w w':=by
 obtain⟨a,c,rfl⟩:∃ a c,v=.slice a ls.length c:=by obtain⟨_,_,⟨a,c,h1,_⟩,_⟩:=h;exact⟨a,c,h1⟩
 have HH:=zh (h.below (Qa w (.cells zc 109)));have HS':=zh hs;have ht:ls.take ls.length=ls:=List.take_of_length_le (Nat.le_refl _);have HT:=zh ht;clear h hs ht
 go_enter func69,ntmps69
 go_wp2_with fail
 refine (Qr7 _ ls _ HH.o).mono ?_;rintro e w1 ⟨rv,rfl,hr,hb1⟩;have b1:=(Qa w (.cells zc 109)).trans (hb1.mono (by simp));have z1:Qu w1 w.heap.size zero8:=Qg (Qe rfl) hb1;have HR:=zh hr;clear hr hb1
 go_wp2_with fail
 refine (Qz0 ls.length rv ls _ HR.o (Nat.le_refl _) hl HS'.o).mono ?_;rintro e w2 ⟨rfl,hb2⟩;rw[HT.o];have z2:=Qg z1 hb2;have hsz:w.heap.size+1≤w2.heap.size:=by have:=b1.size;have:=hb2.size;have:=(Array.getElem?_eq_some_iff.1 z1).1;omega
 have B2:=zh (b1.trans (hb2.mono b1.size));clear z1 hb2 b1;have k1:Qu ((w2.alloc (.cells zc 109)).setRow w2.heap.size (h8 (rootOf ls))) w2.heap.size (rootOf ls):=Qy (Qe rfl) _;have k2:Qu ((w2.alloc (.cells zc 109)).setRow w2.heap.size (h8 (rootOf ls))) w.heap.size zero8:=Qi (Qp z2 _) _ (by omega);have k3:Below w.heap.size w ((w2.alloc (.cells zc 109)).setRow w2.heap.size (h8 (rootOf ls))):=below_setRow (B2.o.alloc B2.o.size _) B2.o.size _;have K3:=zh k3;clear k3 z2
 go_wp2_with (first|((first|refine Q1 rfl 109 _ rfl _ rfl _ underlying109 info8 ?_ ?_ ?_|refine Qt rfl 109 _ _ rfl _ _ rfl rfl info8 ?_ ?_ ?_);rotate_left;focus((repeat(first|(with_reducible first|assumption|exact Qj ⟨_,by assumption⟩ _)|((with_reducible first|refine Qe ?_|refine Q2 ?_|refine Qj (Q9 ?_) _);(first|rfl|(simp;done)|(simp;omega)))|with_reducible refine Qp ?_ _|((with_reducible refine Qi ?_ _ ?_);rotate_left;(focus(first|(simp;done)|(simp;omega)|omega)))|with_reducible first|refine Qo ?_|refine Qg ?_ (by assumption)));done)))
 refine ret8 w.heap.size (rootOf ls) rfl rfl _ underlying109 info8 (Qy k2 _) rfl ⟨rfl,below_setRow K3.o (Nat.le_refl _) _⟩
end
section
theorem Qdk {P:Program} {ops:Array Oper} {rest:List Oper} {o:Oper} {a:Act} {Q:Exit→Act→World→Prop} {w:World} (hgd:o.guard=none) (s x:Operand) (t:TypeId)
  (ho:o.op=.call { callee:=.builtin .append,args:=#[s,x],argTypes:=#[t,t] })
  (base:Nat) (e:TypeId) (i:TypeInfo) (z:Value) (size bytes:Nat) (ht:P.underlying t=some (.slice e)) (hi:P.info? e=some i) (hz:i.zero=some z)
  (hsize:i.size=size) (hby:i.bytes=bytes) (hzs:z.cells.size=size) (hsz:0<size) (hbb:bytes≤64)
  (v:Value) (n:Nat) (xs:List Value) (hs:a.eval s=v) (hown:w.ownsRow base e size v n xs) (cs:Array Value) (hcs:cs.size=size) (h1:∀ u∈cs.toList,u.oneCell'=true)
  (hx:a.eval x=.slice (some ⟨w.heap.size,0,none⟩) 1 1)
  (hn:n≤1099511627776) (hbase:base≤w.heap.size)
  (h:∀ v' w',w'.ownsRow base e size v' (n+1) (xs++cs.toList)→w.grownBy w' v.ownBlock→(v'≠.slice none 0 0)→wpList P ops Q rest (a.put o.dst v') w') :
  wpList P ops Q (o :: rest) a (w.alloc (.cells cs e)):=by
 refine wpList_append_own _ hgd s x t ho base e i z size bytes ht hi hz hsize hby hzs hsz v n xs hs (hown.alloc _) ⟨w.heap.size,0,none⟩ 1 1 cs.toList hx (by simpa using hcs) (fun j u hu=>?_) h1 (by unfold maxLen;omega) ?_ (by simp;omega) fun v' w' h2 h3 h4=>?_
 ·rw[Addr.add_lit,World.cell?_alloc_at _ _ _ _ rfl]
  simpa using hu
 ·refine Nat.le_trans (Nat.mul_le_mul_left _ hbb) ?_
  omega
 ·exact h v' w' h2 (Qar (World.grownBy_alloc w _ _) h3) (by simp[h4])
def Qbt (rs:List (Nat×Nat)):List Value:=rs.flatMap fun x=>[.int .i64 x.1,.int .i64 x.2]
def Qig (w:World) (base:Nat) (v:Value) (rs:List (Nat×Nat)):Prop:=w.ownsRow base 252 2 v rs.length (Qbt rs)
theorem Qun (rs:List (Nat×Nat)):∀ (k:Nat) (x:Nat×Nat),rs[k]?=some x→(Qbt rs)[k*2]?=some (.int .i64 x.1)∧(Qbt rs)[k*2+1]?=some (.int .i64 x.2):=by
 induction rs with
 | nil=>intro k x h;simp at h
 | cons y rs ih=>
  intro k x h;cases k with
  | zero=>simp only[List.getElem?_cons_zero,Option.some.injEq] at h;subst h;exact⟨rfl,rfl⟩
  | succ k=>
   have:=ih k x (by simpa using h)
   rw[show (k+1)*2=k*2+1+1 by omega];simpa [Qbt] using this
theorem Qvj:(prog.info? 252).map (fun i=>(i.zero,i.size,i.bytes))=some (some (.agg #[.int .i64 0,.int .i64 0]),2,16):=by kernel_rfl
section
end
end
section
section
theorem Qf5 (N:Nat) (x:Nat×Nat):∀ (xs:List (Nat×Nat)) (s s1:Cs) (l:List Hsh),Zg N xs s=(.ok l,s1)→Zg N (xs ++ [x]) s=match rootQ N (x.2-x.1) x.1 (x.2-x.1) s1 with
  | (.ok h,s2)=>(.ok (l ++ [h]),s2)
  | (.error e,s2)=>(.error e,s2)
 | [],s,s1,l,h=>by
  have:=(inferInstance:Inhabited OutT)
  have h':((.ok [],s):Except QErr (List Hsh)×Cs)=(.ok l,s1):=h
  cases h'
  show Zg N [x] s=_
  rw[Zg]
  unfold Qm.bind
  cases rootQ N (x.2-x.1) x.1 (x.2-x.1) s with
  | mk o s2=>cases o <;> rfl
 | y :: xs,s,s1,l,h=>by
  rw[Zg] at h
  unfold Qm.bind at h
  rw[List.cons_append,Zg]
  unfold Qm.bind
  cases hr:rootQ N (y.2-y.1) y.1 (y.2-y.1) s with
  | mk o s2=>
   rw[hr] at h
   cases o with
   | error e=>cases h
   | ok a=>
    dsimp only at h ⊢
    cases hg:Zg N xs s2 with
    | mk o3 s3=>
     rw[hg] at h
     cases o3 with
     | error e=>cases h
     | ok l3=>
      dsimp only at h
      cases h
      have:=Qf5 N x xs s2 _ l3 hg
      rw[this]
      cases rootQ N (x.2-x.1) x.1 (x.2-x.1) s1 with
      | mk o4 s4=>cases o4 <;> rfl
theorem Qf4 (N:Nat) (ys:List (Nat×Nat)):∀ (xs:List (Nat×Nat)) (s s1:Cs) (e:QErr),Zg N xs s=(.error e,s1)→Zg N (xs++ys) s=(.error e,s1)
 | [],s,s1,e,h=>by have:=(inferInstance:Inhabited OutT);cases h
 | y :: xs,s,s1,e,h=>by
  rw[Zg] at h
  unfold Qm.bind at h
  rw[List.cons_append,Zg]
  unfold Qm.bind
  cases hr:rootQ N (y.2-y.1) y.1 (y.2-y.1) s with
  | mk o s2=>
   rw[hr] at h
   cases o with
   | error e2=>cases h;rfl
   | ok a=>
    dsimp only at h ⊢
    cases hg:Zg N xs s2 with
    | mk o3 s3=>
     rw[hg] at h
     cases o3 with
     | error e2=>
      dsimp only at h
      cases h
      rw[Qf4 N ys xs s2 _ _ hg]
     | ok l3=>cases h
variable [Inhabited OutT]
theorem Qmd (w:World) (q:Qf) (x:Qv) (N:Nat) (s:Cs) (d:Dk) (h:QIs w q x N s d) :
  Calls prog 88 #[.func (.func 89) #[.pointer (some ⟨q.gq,0,none⟩)] #[]] w fun e w'=>∃ g1 g3,e=.returned (.func (.func 142) #[] #[.pointer (some ⟨g1,0,none⟩),.pointer (some ⟨g3,0,none⟩)])∧ClAt w' q x g1 g3∧Below w.heap.size w w':=by
 have H:=zh h;clear h
 go_enter func88,ntmps88
 go_wp2_with fail
 go_ret;refine⟨_,_,rfl,⟨?_,?_,fun e=>?_,fun e=>?_⟩,(Qa w _).alloc (by simp) _⟩
 ·rw[World.cell?_alloc_old]
  ·exact World.cell?_alloc_at _ _ _ _ rfl
  ·simp
 ·exact World.cell?_alloc_at _ _ _ _ (by simp)
 ·exact Nat.lt_irrefl _ (H.o.lt e)
 ·have:=H.o.lt e
  first|omega|(simp at this;omega)|(simp at this)
variable {q:Qf} {x:Qv} {N:Nat} {s:Cs} {d:Dk}
theorem Qpr {w:World} (h:QIs w q x N s d):Qae w (QS q x) ([250,9]++([246,244] ++ [103,3])):=
 h.kindsLook.or ((Qai h.cache).or (Qcm h.net))
theorem Quk (N:Nat) (xs ys:List (Nat×Nat)):Zl N (xs++ys)=Zl N xs++Zl N ys:=by have:=(inferInstance:Inhabited OutT);simp[Zl]
structure Aft (F:Nat→Addr) (wr wf:World) (q:Qf) (x:Qv) (N:Nat) (d:Dk) (r:Except QErr Hsh×Cs) (k:Hsh) (u:Value) (g:Nat):Prop where
 st:Yn wr q x N d wf r.2
 val:(r.1=.ok k∧u=.nilIface)∨∃ p,r.1=.error (.miss p)∧Y5 F wf wr.heap.size p u
 hash:Qu wf g k
variable {F:Nat→Addr} {wr w1:World} {r:Except QErr Hsh×Cs} {e:Ending}
theorem aft1 {w0:World} (hb:Below wr.heap.size wr w0) (h:Qa7 F w0 q x N d r e w1) :
  ∃ k u,e=.returned (.tuple #[.agg (h8 k),u])∧Aft F wr ((w1.alloc (.cells zc 109)).setRow w1.heap.size (h8 k)) q x N d r k u w1.heap.size:=by
 obtain⟨k,u,he,hs,hv⟩:=Qck h;have hbW:Below w1.heap.size w1 ((w1.alloc (.cells zc 109)).setRow w1.heap.size (h8 k)):=below_setRow (Qa w1 _) (Nat.le_refl _) _;refine⟨k,u,he,(Yn.trans (Fr.ofBelow hb) (Sub.refl _ _) hs).below hbW,?_,Qy (Qe rfl) _⟩;rcases hv with hv|⟨p,h1,h2⟩
 ·exact .inl hv
 ·exact .inr ⟨p,h1,(h2.fr (S:=fun _=>False) (ts:=[]) (Fr.ofBelow hbW) (fun _ _ _ _ h=>h.elim) (by decide)).low hb.size⟩
theorem aft2 (hq:QIs wr q x N s d) (h:Qa7 F (wr.alloc (.cells zc 109)).drew q x N d r e w1) :
  ∃ k u,e=.returned (.tuple #[.agg (h8 k),u])∧Is8 w1 wr.heap.size∧Aft F wr (w1.setRow wr.heap.size (h8 k)) q x N d r k u wr.heap.size:=by
 obtain⟨k,u,he,hs,hv⟩:=Qck h;have hz:Qu w1 wr.heap.size zero8:=by obtain⟨_,_,hf,_⟩:=hs;exact Qe3 (Qo (Qe rfl)) hf fun e=>Nat.lt_irrefl _ (hq.lt e)
 have hb:Below wr.heap.size wr (wr.alloc (.cells zc 109)).drew:=(Qa wr _).drew;refine⟨k,u,he,⟨zero8,hz⟩,(Yn.trans (Fr.ofBelow hb) (Sub.refl _ _) hs).own (Jx w1 wr.heap.size _) hz (by decide) (Nat.le_refl _),?_,Qy hz _⟩;rcases hv with hv|⟨p,h1,h2⟩
 ·exact .inl hv
 ·exact .inr ⟨p,h1,(h2.fr (Jx w1 wr.heap.size _) (Qw hz) (by decide)).low hb.size⟩
end
end
section
section
variable [Inhabited OutT]
def Qe1 (F:Nat→Addr) (w:World) (q:Qf) (x:Qv) (N:Nat) (d:Dk) (r:Except QErr (List Hsh)×Cs) (e:Ending) (w':World):Prop:=
 Yn w q x N d w' r.2∧((∃ l v,r.1=.ok l∧e=.returned (.tuple #[v,.nilIface])∧Qcu w' w.heap.size v l)∨∃ p u,r.1=.error (.miss p)∧e=.returned (.tuple #[.slice none 0 0,u])∧Y5 F w' w.heap.size p u)
structure GSt (F:Nat→Addr) (w wr:World) (q:Qf) (x:Qv) (N:Nat) (s:Cs) (d:Dk) (g1 g3:Nat) (rs:List (Nat×Nat)) (rv:Value) (j:Nat) (v:Value) (y:Qv) (sj:Cs) (l:List Hsh):Prop where
 run:Zg N (rs.drop j).reverse s=(.ok l,sj)
 is:QIs wr q y N sj d
 env:EnvS F (QS q y) wr
 cl:ClAt wr q y g1 g3
 fr:Fr (QS q x) w wr
 sub:Sub w (QS q x) (QS q y)
 o:Qcu wr w.heap.size v l
 row:wr.ownsRow 0 252 2 rv rs.length (Qbt rs)
 bnd:Bnd sj (Zl N (rs.take j).reverse).length
 len:l.length+j=rs.length
section
attribute [local go_sem] h8_0 h8_1 h8_2 h8_3 h8_4 h8_5 h8_6 h8_7 Qbg h8_size Qax
variable {F:Nat→Addr} {w wf:World} {q:Qf} {x y:Qv} {N g1 g3 k:Nat} {s:Cs} {d:Dk} {rs:List (Nat×Nat)} {rv v:Value} {l:List Hsh} {hh:Hsh}
theorem Q4r {wr:World} {sj:Cs} {z:Nat×Nat} {u:Value} {g:Nat} (h:GSt F w wr q x N s d g1 g3 rs rv (k+1) v y sj l) (hz:rs[k]?=some z)
  (ha:Aft F wr wf q y N d (rootQ N (z.2-z.1) z.1 (z.2-z.1) sj) hh u g) :
  (∃ y' s',(rootQ N (z.2-z.1) z.1 (z.2-z.1) sj).1=.ok hh∧u=.nilIface∧Zg N (rs.drop k).reverse s=(.ok (l ++ [hh]),s')∧QIs wf q y' N s' d∧EnvS F (QS q y') wf∧ClAt wf q y' g1 g3∧Fr (QS q x) w wf∧Sub w (QS q x) (QS q y')∧Qcu wf w.heap.size v l∧wf.ownsRow 0 252 2 rv rs.length (Qbt rs)∧Bnd s' (Zl N (rs.take k).reverse).length)∨
  (∃ p s',u≠.nilIface∧Zg N rs.reverse s=(.error (.miss p),s')∧Yn w q x N d wf s'∧Y5 F wf w.heap.size p u):=by
 have hk:=(List.getElem?_eq_some_iff.1 hz).1;have hd:(rs.drop k).reverse=(rs.drop (k+1)).reverse ++ [z]:=by
  rw[List.drop_eq_getElem_cons hk,List.reverse_cons]
  have:rs[k]=z:=by rw[List.getElem?_eq_getElem hk] at hz;exact Option.some.inj hz
  rw[this]
 have hsn:=Qf5 N z (rs.drop (k+1)).reverse s sj l h.run;rw[←hd] at hsn;have htk:(rs.take (k+1)).reverse=z :: (rs.take k).reverse:=by rw[List.take_add_one,hz,Option.toList_some,List.reverse_append];rfl
 obtain⟨y',h1,h2,h3⟩:=ha.st;have hcost:=Qdh N (z.2-z.1) z.1 (z.2-z.1);have hb:=h.bnd;rw[htk,show Zl N (z :: (rs.take k).reverse)=J9 N (z.2-z.1) z.1 (z.2-z.1)++Zl N (rs.take k).reverse by simp[Zl],List.length_append] at hb;have hb2:=hb.next hcost (Qd6 (Qb5 sj.net) N (z.2-z.1) z.1 (z.2-z.1) sj (Qbk.refl _));rcases ha.val with ⟨h4,h5⟩|⟨p,h4,h5⟩
 ·left
  cases hr:rootQ N (z.2-z.1) z.1 (z.2-z.1) sj with
  | mk o s'=>
   rw[hr] at h1 h4 hsn hb2;dsimp only at h1 h4 hb2;subst h4;exact⟨y',s',rfl,h5,hsn,h1,h.env.step h2 h3,h.cl.step h2 h3,h.fr.sub h2 h.sub,h.sub.trans h3 h.fr.size,Zi h.o h2 (Qpr h.is) (by decide),Zi h.row h2 (Qpr h.is) (by decide),hb2⟩
 ·right
  cases hr:rootQ N (z.2-z.1) z.1 (z.2-z.1) sj with
  | mk o s'=>
   rw[hr] at h1 h4 hsn;dsimp only at h1 h4;subst h4;have hall:rs.reverse=(rs.drop k).reverse++(rs.take k).reverse:=by rw[←List.reverse_append,List.take_append_drop]
   refine⟨p,s',?_,by rw[hall];exact Qf4 N _ _ s s' _ hsn,Yn.trans h.fr h.sub ⟨y',h1,h2,h3⟩,h5.low h.fr.size⟩;obtain⟨q9,rfl,_⟩:=h5;exact fun e=>by cases e
theorem Q5v {w2:World} {s':Cs} {v2:Value} (hE:EnvS F (QS q x) w) (hc:ClAt w q x g1 g3) (hrun:Zg N (rs.drop k).reverse s=(.ok (l ++ [hh]),s')) (hq:QIs wf q y N s' d) (hF:Fr (QS q x) w wf) (hS:Sub w (QS q x) (QS q y))
  (hO:Qcu wf w.heap.size v l) (hW:wf.ownsRow 0 252 2 rv rs.length (Qbt rs)) (hB:Bnd s' (Zl N (rs.take k).reverse).length) (hlen:l.length+(k+1)=rs.length) (hg:wf.grownBy w2 v.ownBlock) (hO2:Qcu w2 w.heap.size v2 (l ++ [hh])):GSt F w w2 q x N s d g1 g3 rs rv k v2 y s' (l ++ [hh]):=by
 have hf2:Fr (fun i=>v.ownBlock=some i) wf w2:=Fr.ofGrown hg fun i _ e=>e
 have hk:=Qdi hO;have hF2:Fr (QS q x) w w2:=hF.step hf2 fun i hi e=>by
  have:=(Qn hO (Below.refl _ _)).lt i e
  omega
 refine⟨hrun,hq.kept hf2 hk (by decide) (fun i es c hi e=>?_),hE.step hF2 hS,hc.step hF2 hS,hF2,hS,hO2,Zi hW hf2 hk (by decide),hB,by rw[List.length_append,List.length_singleton];omega⟩;obtain⟨C,hC⟩:=Qh hO e;rw[hC] at hi;cases hi
theorem Qln (F:Nat→Addr) (w:World) (q:Qf) (x:Qv) (N:Nat) (s:Cs) (d:Dk) (h:QIs w q x N s d) (hE:EnvS F (QS q x) w) (g1 g3:Nat) (hc:ClAt w q x g1 g3) (hN:N<9223372036854775808) (v:Value) (rs:List (Nat×Nat)) (hr:w.ownsRow 0 252 2 v rs.length (Qbt rs)) (hrs:∀ x∈rs,x.1<x.2∧x.2≤N) (hn:rs.length≤1048576)
  (hb:Bnd s (Zl N rs.reverse).length) (hp:(Zg N rs.reverse s).1≠.error .panic) :
  Calls prog 141 #[.func (.func 142) #[] #[.pointer (some ⟨g1,0,none⟩),.pointer (some ⟨g3,0,none⟩)],v] w (Qe1 F w q x N d (Zg N rs.reverse s)):=by
 obtain⟨R,hRR⟩:∃ R,R=Zg N rs.reverse s:=⟨_,rfl⟩
 rw[←hRR] at hp ⊢;obtain⟨a,c,hv⟩:=Zs hr;subst hv;have HRR:=zh hRR;have HP:=zh hp;have HRS:=zh hrs;have hst:GSt F w w q x N s d g1 g3 rs (.slice a rs.length c) rs.length (.slice none 0 0) x s []:=
  ⟨by rw[List.drop_length];rfl,h,hE,hc,Fr.refl _ _,Sub.refl _ _,World.ownsRow_nil _ _ _ _,hr,by rw[List.take_length];exact hb,by simp⟩
 have HST:=zh hst;obtain⟨i0,hi,hz0,hz1,hz2⟩:=info_parts Q0e;rw[←Qlu] at hz0;have HZ:=zh hz0;have HE:=zh hE;have HC:=zh hc;clear hRR hp h hE hc hr hrs hb hst hz0
 go_enter func141,ntmps141
 go_wp2
 go_loopw [6,7] (fun v i wr=>∃ (j:Int) (y:Qv) (sj:Cs) (l:List Hsh),-1≤j∧j<rs.length∧i=.int .i64 j∧Hid (GSt F w wr q x N s d g1 g3 rs (.slice a rs.length c) (j+1).toNat v y sj l)) (fun _ i _=>(intOf i+1).toNat)
 case atStart=>
  refine⟨(rs.length:Int)-1,x,s,[],by omega,by omega,rfl,zh ?_⟩;rw[show ((rs.length:Int)-1+1).toNat=rs.length by omega];exact HST.o
 case round=>
  obtain⟨j,y,sj,l,hj0,hj1,rfl,HG⟩:=hrel;by_cases hge:0≤j
  ·obtain⟨k,rfl⟩:∃ k:Nat,j=k:=⟨j.toNat,by omega⟩
   have hk:k<rs.length:=by omega
   rw[show ((k:Int)+1).toNat=k+1 by omega] at HG;obtain⟨z,hz⟩:∃ z,rs[k]?=some z:=⟨_,List.getElem?_eq_getElem hk⟩
   obtain⟨gx1,gx2⟩:=Qun rs k z hz;obtain⟨_,_,hve,_,hcell⟩:=Ya HG.o.row;simp only[Value.slice.injEq] at hve;obtain⟨b,off,hbo,d1⟩:=hcell _ _ gx1;obtain⟨b',off',hbo',d2⟩:=hcell _ _ gx2;have hae:=hve.1.trans hbo;have hae':=hve.1.trans hbo';rw[hae] at hae';cases hae';clear hve hbo hbo' hcell;subst hae;rw[←Nat.add_assoc] at d2;have hzm:=HRS.o z (List.mem_of_getElem? hz);have hpk:(rootQ N (z.2-z.1) z.1 (z.2-z.1) sj).1≠.error .panic:=fun e=>by
    apply HP.o;rw[HRR.o];have hsn:=Qf5 N z (rs.drop (k+1)).reverse s sj l HG.o.run;have hd:rs.reverse=((rs.drop (k+1)).reverse ++ [z])++(rs.take k).reverse:=by
     have:(rs.drop k).reverse=(rs.drop (k+1)).reverse ++ [z]:=by
      rw[List.drop_eq_getElem_cons hk,List.reverse_cons]
      have:rs[k]=z:=by rw[List.getElem?_eq_getElem hk] at hz;exact Option.some.inj hz
      rw[this]
     rw[←this,←List.reverse_append,List.take_append_drop]
    cases hr:rootQ N (z.2-z.1) z.1 (z.2-z.1) sj with
    | mk o s2=>
     rw[hr] at e hsn;dsimp only at e;subst e;rw[hd,Qf4 N _ _ s s2 _ hsn]
   have hbz:Bnd sj (J9 N (z.2-z.1) z.1 (z.2-z.1)).length:=HG.o.bnd.less (by
    rw[List.take_add_one,hz,Option.toList_some,List.reverse_append,Quk,List.length_append]
    simp[Zl])
   have hcall:∀ W,Below wr.heap.size wr W→Calls prog 142 #[.int .i64 z.1,.int .i64 z.2,.pointer (some ⟨g1,0,none⟩),.pointer (some ⟨g3,0,none⟩)] W (Qa7 F W q y N d (rootQ N (z.2-z.1) z.1 (z.2-z.1) sj)):=fun W hW=>
    Q0v F q N d g1 g3 hN (z.2-z.1) z.1 (z.2-z.1) z.1 z.2 W y sj (HG.o.is.below hW) (HG.o.env.below hW) (HG.o.cl.below hW) rfl (by omega) (Nat.le_refl _) (by omega) (by omega) hbz hpk
   have CALL:=zh hcall;have HQY:=zh HG.o.is;have HZK:=zh hz;have hbr:=Qk d1;have hlen:l.length≤1048576:=by have:=HG.o.len;omega
   clear hz gx1 gx2 hzm hpk hbz hcall;obtain⟨zp,zq⟩:=z;dsimp only at d1 d2 CALL
   go_wp2_with fail
   go_region_with (go_at_call 142;(first|(refine (CALL.o _ (Ql wr)).mono ?_;intro e w1 h1;obtain⟨hh,u,rfl,hA⟩:=aft1 (Ql wr) h1;have i1:Is8 (w1.alloc (.cells zc 109)) w1.heap.size:=Q9 rfl;have HA:=zh hA;clear h1 hA)|(refine (CALL.o _ ((Qa _ _).drew)).mono ?_;intro e w1 h1;obtain⟨hh,u,rfl,i1,hA⟩:=aft2 HQY.o h1;have HA:=zh hA;clear h1 hA)))
   all_goals
    rcases Q4r HG.o HZK.o HA.o with ⟨y',s',hok,rfl,hrun,hq',hE',hC',hF',hS',hO',hW',hB'⟩|⟨p,s',hne,hrun,hst,hme⟩
    ·have e1:=HA.o.hash
     have HO:=zh (Qn hO' (Below.refl _ _));have HO1:=zh hO';have HALL:=zh (And.intro hrun (And.intro hq' (And.intro hE' (And.intro hC' (And.intro hF' (And.intro hS' (And.intro hW' hB')))))));have hbase:=hF'.size;clear i1 hok hrun hq' hE' hC' hF' hS' hO' hW' hB'
     go_wp2_with (first|(refine Q1 rfl 109 _ rfl _ rfl _ underlying109 info8 ?_ ?_ ?_;rotate_left;focus ((repeat(first|(with_reducible first|assumption|exact Qj ⟨_,by assumption⟩ _)|((with_reducible first|refine Qe ?_|refine Q2 ?_|refine Qj (Q9 ?_) _);(first|rfl|(simp;done)|(simp;omega)))|with_reducible refine Qp ?_ _|((with_reducible refine Qi ?_ _ ?_);rotate_left;(focus(first|(simp;done)|(simp;omega)|omega)))|with_reducible first|refine Qo ?_|refine Qg ?_ (by assumption)));done))|(refine Qyi rfl 104 _ rfl i0 underlying104 hi HZ.o hz1 _ rfl ?_)|(at_builtin;(refine Qtc rfl _ _ 104 rfl w.heap.size i0 underlying104 hi HZ.o hz1 hz2 _ _ rfl HO.o _ rfl (Nat.le_trans hlen (by decide)) hbase ?_);intro v2 w2 hr2 hg2 hne2;have HR2:=zh hr2;have HG2:=zh hg2;clear hr2 hg2 hne2))
     go_roundw
     case rel=>
      obtain⟨a1,a2,a3,a4,a5,a6,a7,a8⟩:=HALL.o;refine⟨(k:Int)-1,y',s',l ++ [hh],by omega,by omega,rfl,zh ?_⟩;rw[show ((k:Int)-1+1).toNat=k by omega];exact Q5v HE.o HC.o a1 a2 a5 a6 HO1.o a7 a8 HG.o.len HG2.o HR2.o
     case measure=>(simp[intOf] <;> omega)
    ·have HME:=zh hme
     have HST2:=zh hst;have hr2:R=(.error (.miss p),s'):=by rw[HRR.o];exact hrun
     have HR2:=zh hr2;obtain⟨q9,rfl,hq9,hh9⟩:=hme;clear hh9 hne hrun hst hr2 i1;go_wp2;go_ret2;rw[HR2.o];exact⟨HST2.o,.inr ⟨p,_,rfl,rfl,HME.o⟩⟩
  ·obtain rfl:j = -1:=by omega
   have hrun:=HG.o.run;rw[show ((-1:Int)+1).toNat=0 by rfl,List.drop_zero,←HRR.o] at hrun;have HRN:=zh hrun;clear hrun;go_wp2;go_ret2;rw[HRN.o];exact⟨⟨y,HG.o.is,HG.o.fr,HG.o.sub⟩,.inl ⟨l,_,rfl,rfl,HG.o.o⟩⟩
end
end
end
section
theorem Qmy (a b:Int):∀ u∈(#[.int .i64 a,.int .i64 b]:Array Value).toList,u.oneCell'=true:=by intro u hu;simp at hu;rcases hu with rfl|rfl <;> rfl
theorem Qsn (rs:List (Nat×Nat)) (x:Nat×Nat):Qbt (rs ++ [x])=Qbt rs ++ [.int .i64 x.1,.int .i64 x.2]:=by simp[Qbt]
theorem Qig.snoc {w:World} {base:Nat} {v:Value} {rs:List (Nat×Nat)} {x:Nat×Nat} {a b:Int} (h:w.ownsRow base 252 2 v (rs.length+1) (Qbt rs++(#[.int .i64 a,.int .i64 b]:Array Value).toList)) (ha:a=x.1) (hb:b=x.2):Qig w base v (rs ++ [x]):=by subst ha hb;unfold Qig;rw[Qsn,List.length_append];exact h
end
section
section
variable [Inhabited OutT]
variable {F:Nat→Addr} {w w':World} {q:Qf} {x:Qv} {N:Nat} {d:Dk} {r:Except QErr (List Hsh)×Cs} {e:Ending}
theorem Qpt (h:Qe1 F w q x N d r e w'):∃ v u,e=.returned (.tuple #[v,u]):=by
 obtain⟨_,⟨_,v,_,h,_⟩|⟨_,u,_,h,_⟩⟩:=h
 ·exact⟨_,_,h⟩
 ·exact⟨_,_,h⟩
theorem Qpq {W:World} (hb:Below w.heap.size w W) (h:Qe1 F W q x N d r e w'):Qe1 F w q x N d r e w':=by
 obtain⟨h1,h2⟩:=h;refine⟨Yn.trans (Fr.ofBelow hb) (Sub.refl _ _) h1,?_⟩;rcases h2 with ⟨l,v,h3,h4,h5⟩|⟨p,u,h3,h4,h5⟩
 ·exact .inl ⟨l,v,h3,h4,Z2 h5 hb.size⟩
 ·exact .inr ⟨p,u,h3,h4,h5.low hb.size⟩
theorem Qzi (F:Nat→Addr) (w:World) (q:Qf) (x0:Qv) (N:Nat) (s:Cs) (d:Dk) (h:QIs w q x0 N s d) (hE:EnvS F (QS q x0) w) (g1 g3:Nat) (hc:ClAt w q x0 g1 g3) (i n:Nat) (hin:i<n) (hnN:n≤N) (hN:N<9223372036854775808) (hb:Bnd s (Zl N (Ja n 0 n i).reverse).length) (hp:(Zg N (Ja n 0 n i).reverse s).1≠.error .panic) :
  Calls prog 95 #[.func (.func 142) #[] #[.pointer (some ⟨g1,0,none⟩),.pointer (some ⟨g3,0,none⟩)],.int .i64 i,.int .i64 n] w (Qe1 F w q x0 N d (Zg N (Ja n 0 n i).reverse s)):=by
 have HGA:=zh (fun (W:World) (hW:Below w.heap.size w W) (v:Value) (rs:List (Nat×Nat)) (hr:W.ownsRow 0 252 2 v rs.length (Qbt rs)) (hrs:∀ x∈rs,x.1<x.2∧x.2≤N) (hn:rs.length≤1048576) (he:rs=Ja n 0 n i)=>
  Qln F W q x0 N s d (h.below hW) (hE.below hW) g1 g3 (hc.below hW) hN v rs hr hrs hn (by rw[he];exact hb) (by rw[he];exact hp))
 obtain⟨i0,hi,hz0,hz1,hz2⟩:=info_parts Qvj;clear h hE hc hb hp
 go_enter func95,ntmps95
 go_wp2
 go_loopw [8,9,10] (fun v a b wr=>∃ (x y f mm:Nat) (done:List (Nat×Nat)),a=.int .i64 x∧b=.int .i64 y∧x≤i∧i<y∧y≤n∧y-x≤f∧Hid (done++Ja f x y i=Ja n 0 n i)∧Hid (y-x≤2 ^ mm∧done.length+mm≤63)∧Qig wr w.heap.size v done∧Below w.heap.size w wr) (fun _ a b _=>(intOf b-intOf a).toNat)
 case atStart=>exact⟨0,n,n,63,[],rfl,rfl,by omega,hin,Nat.le_refl _,by omega,zh rfl,zh ⟨by omega,by simp⟩,World.ownsRow_nil _ _ _ _,Below.refl _ _⟩
 case round=>
  obtain⟨x,y,f,mm,done,rfl,rfl,hx,hy,hyn,hf,HD,HLEN,hown,hbel⟩:=hrel;have hlen:done.length≤63:=by have:=HLEN.o.2;omega
  by_cases hlt:1<y-x
  ·obtain⟨f,rfl⟩:∃ g,f=g+1:=⟨f-1,by omega⟩
   have hbd:=Yl (n:=y-x) (by omega);obtain⟨m2,hm2,hh1,hh2⟩:=Qgm (n:=y-x) (m:=mm) (by omega) HLEN.o.1 (by have:=HLEN.o.2;omega);have HM2:=zh (And.intro hm2 (And.intro hh1 hh2));clear hm2 hh1 hh2;have hp:Ja (f+1) x y i=if i<x+below (y-x) then (x+below (y-x),y) :: Ja f x (x+below (y-x)) i else (x,x+below (y-x)) :: Ja f (x+below (y-x)) y i:=by simp only[Ja];rw[if_neg (by omega)]
   obtain⟨k,hk⟩:∃ k,k=below (y-x):=⟨_,rfl⟩
   rw[←hk] at hbd hp HM2;have HK:=zh (show ((below ((y:Int)-x).toNat:Nat):Int)=k by rw[show ((y:Int)-x).toNat=y-x by omega,hk]);have HP:=zh hp;unfold Qig at hown;have HO:=zh hown;have HB:=zh hbel;have hxy:(x:Int)+2≤y:=by omega
   have hyi:(y:Int)≤9223372036854775807:=by omega
   have hbase:=hbel.size;have hdl:done.length≤1048576:=by omega
   have hlt':(1:Int)<y-x:=by omega
   have HL:=zh (And.intro hlen (And.intro hf (And.intro hbd hlt)));have hk1:(1:Int)≤k:=by omega
   have hk2:(x:Int)+k≤y:=by omega
   clear hk hp hown hbel hlen hf hbd hlt;by_cases hik:i<x+k
   ·have hik':(i:Int)<x+k:=by omega
    go_wp2_with fail
    refine (Qbw _ _ (by omega) (by omega)).mono ?_;rintro e w0 ⟨rfl,rfl⟩;rw[HK.o]
    go_wp2_with (at_builtin;refine Qdk rfl _ _ 251 rfl w.heap.size 252 i0 (.agg #[.int .i64 0,.int .i64 0]) 2 16 underlying251 hi hz0 hz1 hz2 rfl (by decide) (by decide) _ _ _ rfl HO.o #[.int .i64 _,.int .i64 _] rfl (Qmy _ _) rfl (Nat.le_trans hdl (by decide)) hbase ?_;intro v2 w2 hr2 hg2 hne2;have HR2:=zh hr2;have HG2:=zh hg2;clear hr2 hg2 hne2)
    go_roundw
    case rel=>
     obtain⟨hlen,hf,hbd,hlt⟩:=HL.o;exact⟨x,x+k,f,m2,done ++ [(x+k,y)],rfl,by go_num,hx,hik,by omega,by omega,zh (by rw[←HD.o,HP.o,if_pos hik,List.append_assoc];rfl),zh ⟨by have:=HM2.o;omega,by have:=HLEN.o.2;have:=HM2.o.1;simp;omega⟩,Qig.snoc HR2.o (by simp) (by simp),HB.o.grown HG2.o HB.o.size (fun j hj=>(HO.o.lt j hj).1)⟩
    case measure=>(obtain⟨hlen,hf,hbd,hlt⟩:=HL.o;simp[intOf] <;> omega)
   ·have hik':(x:Int)+k≤i:=by omega
    go_wp2_with fail
    refine (Qbw _ _ (by omega) (by omega)).mono ?_;rintro e w0 ⟨rfl,rfl⟩;rw[HK.o]
    go_wp2_with (at_builtin;refine Qdk rfl _ _ 251 rfl w.heap.size 252 i0 (.agg #[.int .i64 0,.int .i64 0]) 2 16 underlying251 hi hz0 hz1 hz2 rfl (by decide) (by decide) _ _ _ rfl HO.o #[.int .i64 _,.int .i64 _] rfl (Qmy _ _) rfl (Nat.le_trans hdl (by decide)) hbase ?_;intro v2 w2 hr2 hg2 hne2;have HR2:=zh hr2;have HG2:=zh hg2;clear hr2 hg2 hne2)
    go_roundw
    case rel=>
     obtain⟨hlen,hf,hbd,hlt⟩:=HL.o;exact⟨x+k,y,f,m2,done ++ [(x,x+k)],by go_num,rfl,by omega,hy,hyn,by omega,zh (by rw[←HD.o,HP.o,if_neg hik,List.append_assoc];rfl),zh ⟨by have:=HM2.o;omega,by have:=HLEN.o.2;have:=HM2.o.1;simp;omega⟩,Qig.snoc HR2.o (by simp) (by simp),HB.o.grown HG2.o HB.o.size (fun j hj=>(HO.o.lt j hj).1)⟩
    case measure=>(simp[intOf] <;> omega)
  ·have hdn:done=Ja n 0 n i:=by
    rw[←HD.o];cases f with
    | zero=>omega
    | succ f=>simp only[Ja];rw[if_pos (by omega),List.append_nil]
   have hmem:∀ z∈done,z.1<z.2∧z.2≤N:=by
    intro z hz;rw[hdn] at hz
    have:=Qd8 n 0 n i (by omega) (by omega) hin z hz
    omega
   have HM:=zh hmem;have HDN:=zh hdn;unfold Qig at hown;have HO:=zh hown;have HB:=zh hbel;have hnx:¬ ((1:Int)<y-x):=by omega
   clear hdn hmem hown hbel HD
   go_wp2_with fail
   refine (HGA.o _ HB.o _ done (Z2 HO.o (Nat.zero_le _)) HM.o (by omega) HDN.o).mono ?_;intro e w2 h2;obtain⟨v2,u2,rfl⟩:=Qpt h2;have HX:=zh (Qpq HB.o h2);rw[HDN.o] at HX;clear h2;go_wp2;go_ret2;exact HX.o
theorem Qw6 (F:Nat→Addr) (w:World) (q:Qf) (x0:Qv) (N:Nat) (s:Cs) (d:Dk) (h:QIs w q x0 N s d) (hE:EnvS F (QS q x0) w) (g1 g3:Nat) (hc:ClAt w q x0 g1 g3) (m n:Nat) (hm1:1≤m) (hin:m≤n) (hnN:n≤N) (hN:N<9223372036854775808) (hb:Bnd s (Zl N (Jy n 0 n m).reverse).length) (hp:(Zg N (Jy n 0 n m).reverse s).1≠.error .panic) :
  Calls prog 87 #[.func (.func 142) #[] #[.pointer (some ⟨g1,0,none⟩),.pointer (some ⟨g3,0,none⟩)],.int .i64 m,.int .i64 n] w (Qe1 F w q x0 N d (Zg N (Jy n 0 n m).reverse s)):=by
 have HGA:=zh (fun (W:World) (hW:Below w.heap.size w W) (v:Value) (rs:List (Nat×Nat)) (hr:W.ownsRow 0 252 2 v rs.length (Qbt rs)) (hrs:∀ x∈rs,x.1<x.2∧x.2≤N) (hn:rs.length≤1048576) (he:rs=Jy n 0 n m)=>
  Qln F W q x0 N s d (h.below hW) (hE.below hW) g1 g3 (hc.below hW) hN v rs hr hrs hn (by rw[he];exact hb) (by rw[he];exact hp))
 obtain⟨i0,hi,hz0,hz1,hz2⟩:=info_parts Qvj;clear h hE hc hb hp
 go_enter func87,ntmps87
 go_wp2
 go_loopw [8,9,10] (fun v a b wr=>∃ (x y f mm:Nat) (done:List (Nat×Nat)),a=.int .i64 x∧b=.int .i64 y∧x<m∧m≤y∧y≤n∧y-x≤f∧Hid (done++Jy f x y m=Jy n 0 n m)∧Hid (y-x≤2 ^ mm∧done.length+mm≤63)∧Qig wr w.heap.size v done∧Below w.heap.size w wr) (fun _ a b _=>(intOf b-intOf a).toNat)
 case atStart=>exact⟨0,n,n,63,[],rfl,rfl,by omega,hin,Nat.le_refl _,by omega,zh rfl,zh ⟨by omega,by simp⟩,World.ownsRow_nil _ _ _ _,Below.refl _ _⟩
 case round=>
  obtain⟨x,y,f,mm,done,rfl,rfl,hx,hy,hyn,hf,HD,HLEN,hown,hbel⟩:=hrel;have hlen:done.length≤63:=by have:=HLEN.o.2;omega
  by_cases hlt:m<y
  ·obtain⟨f,rfl⟩:∃ g,f=g+1:=⟨f-1,by omega⟩
   have hbd:=Yl (n:=y-x) (by omega);obtain⟨m2,hm2,hh1,hh2⟩:=Qgm (n:=y-x) (m:=mm) (by omega) HLEN.o.1 (by have:=HLEN.o.2;omega);have HM2:=zh (And.intro hm2 (And.intro hh1 hh2));clear hm2 hh1 hh2;have hp:Jy (f+1) x y m=if m≤x+below (y-x) then (x+below (y-x),y) :: Jy f x (x+below (y-x)) m else (x,x+below (y-x)) :: Jy f (x+below (y-x)) y m:=by simp only[Jy];rw[if_neg (by omega)]
   obtain⟨k,hk⟩:∃ k,k=below (y-x):=⟨_,rfl⟩
   rw[←hk] at hbd hp HM2;have HK:=zh (show ((below ((y:Int)-x).toNat:Nat):Int)=k by rw[show ((y:Int)-x).toNat=y-x by omega,hk]);have HP:=zh hp;unfold Qig at hown;have HO:=zh hown;have HB:=zh hbel;have hxy:(x:Int)+2≤y:=by omega
   have hyi:(y:Int)≤9223372036854775807:=by omega
   have hbase:=hbel.size;have hdl:done.length≤1048576:=by omega
   have hlt':(m:Int)<y:=by omega
   have HL:=zh (And.intro hlen (And.intro hf (And.intro hbd hlt)));have hk1:(1:Int)≤k:=by omega
   have hk2:(x:Int)+k≤y:=by omega
   clear hk hp hown hbel hlen hf hbd hlt;by_cases hik:m≤x+k
   ·have hik':(m:Int)≤x+k:=by omega
    go_wp2_with fail
    refine (Qbw _ _ (by omega) (by omega)).mono ?_;rintro e w0 ⟨rfl,rfl⟩;rw[HK.o]
    go_wp2_with (at_builtin;refine Qdk rfl _ _ 251 rfl w.heap.size 252 i0 (.agg #[.int .i64 0,.int .i64 0]) 2 16 underlying251 hi hz0 hz1 hz2 rfl (by decide) (by decide) _ _ _ rfl HO.o #[.int .i64 _,.int .i64 _] rfl (Qmy _ _) rfl (Nat.le_trans hdl (by decide)) hbase ?_;intro v2 w2 hr2 hg2 hne2;have HR2:=zh hr2;have HG2:=zh hg2;clear hr2 hg2 hne2)
    go_roundw
    case rel=>
     obtain⟨hlen,hf,hbd,hlt⟩:=HL.o;exact⟨x,x+k,f,m2,done ++ [(x+k,y)],rfl,by go_num,hx,hik,by omega,by omega,zh (by rw[←HD.o,HP.o,if_pos hik,List.append_assoc];rfl),zh ⟨by have:=HM2.o;omega,by have:=HLEN.o.2;have:=HM2.o.1;simp;omega⟩,Qig.snoc HR2.o (by simp) (by simp),HB.o.grown HG2.o HB.o.size (fun j hj=>(HO.o.lt j hj).1)⟩
    case measure=>(obtain⟨hlen,hf,hbd,hlt⟩:=HL.o;simp[intOf] <;> omega)
   ·have hik':¬ (m:Int)≤x+k:=by omega
    go_wp2_with fail
    refine (Qbw _ _ (by omega) (by omega)).mono ?_;rintro e w0 ⟨rfl,rfl⟩;rw[HK.o]
    go_wp2_with (at_builtin;refine Qdk rfl _ _ 251 rfl w.heap.size 252 i0 (.agg #[.int .i64 0,.int .i64 0]) 2 16 underlying251 hi hz0 hz1 hz2 rfl (by decide) (by decide) _ _ _ rfl HO.o #[.int .i64 _,.int .i64 _] rfl (Qmy _ _) rfl (Nat.le_trans hdl (by decide)) hbase ?_;intro v2 w2 hr2 hg2 hne2;have HR2:=zh hr2;have HG2:=zh hg2;clear hr2 hg2 hne2)
    go_roundw
    case rel=>
     obtain⟨hlen,hf,hbd,hlt⟩:=HL.o;exact⟨x+k,y,f,m2,done ++ [(x,x+k)],by go_num,rfl,by omega,hy,hyn,by omega,zh (by rw[←HD.o,HP.o,if_neg hik,List.append_assoc];rfl),zh ⟨by have:=HM2.o;omega,by have:=HLEN.o.2;have:=HM2.o.1;simp;omega⟩,Qig.snoc HR2.o (by simp) (by simp),HB.o.grown HG2.o HB.o.size (fun j hj=>(HO.o.lt j hj).1)⟩
    case measure=>(simp[intOf] <;> omega)
  ·obtain⟨f,rfl⟩:∃ g,f=g+1:=⟨f-1,by omega⟩
   obtain⟨fin,hfin⟩:∃ fin,fin=Jy n 0 n m:=⟨_,rfl⟩
   have hdn:done++(if 0<x then [(x,y)] else [])=fin:=by
    have hle:y≤m:=by omega
    rw[hfin,←HD.o];simp only[Jy,if_pos hle]
   have hmem:∀ z∈fin,z.1<z.2∧z.2≤N:=by
    intro z hz;rw[hfin] at hz
    have:=Qi1 n 0 n m (by omega) (by omega) hin z hz
    omega
   have HM:=zh hmem;have HFIN:=zh hfin;unfold Qig at hown;have HO:=zh hown;have HB:=zh hbel;have hbase:=hbel.size;have hdl:done.length≤1048576:=by omega
   have hnx:¬ ((m:Int)<y):=by omega
   have hyi:(y:Int)≤9223372036854775807:=by omega
   by_cases hx0:0<x
   ·rw[if_pos hx0] at hdn
    have hx0':(0:Int)<x:=by omega
    have HDN:=zh hdn;have hfl:fin.length≤1048576:=by rw[←hdn];simp;omega
    clear hdn hmem hown hbel HD hfin hlen hf hlt hx hy
    go_wp2_with (at_builtin;refine Qdk rfl _ _ 251 rfl w.heap.size 252 i0 (.agg #[.int .i64 0,.int .i64 0]) 2 16 underlying251 hi hz0 hz1 hz2 rfl (by decide) (by decide) _ _ _ rfl HO.o #[.int .i64 _,.int .i64 _] rfl (Qmy _ _) rfl (Nat.le_trans hdl (by decide)) hbase ?_;intro v2 w2 hr2 hg2 hne2;have HR2:=zh (Qig.snoc (x:=(x,y)) hr2 rfl rfl);have HB1:=zh (HB.o.grown hg2 HB.o.size (fun j hj=>(HO.o.lt j hj).1));clear hr2 hg2 hne2)
    have ho:=HR2.o;rw[HDN.o] at ho;refine (HGA.o _ HB1.o _ fin (Z2 ho (Nat.zero_le _)) HM.o hfl HFIN.o).mono ?_;intro e w3 h3;obtain⟨v3,u3,rfl⟩:=Qpt h3;have HX:=zh (Qpq HB1.o h3);rw[HFIN.o] at HX;clear h3;go_wp2;go_ret2;exact HX.o
   ·rw[if_neg hx0,List.append_nil] at hdn
    obtain rfl:x=0:=by omega
    have HDN:=zh hdn;have hfl:fin.length≤1048576:=by rw[←hdn];omega
    clear hdn hmem hown hbel HD hfin hlen hf hlt hx hy hx0
    go_wp2_with fail
    refine (HGA.o _ HB.o _ fin (by rw[←HDN.o];exact Z2 HO.o (Nat.zero_le _)) HM.o hfl HFIN.o).mono ?_;intro e w2 h2;obtain⟨v2,u2,rfl⟩:=Qpt h2;have HX:=zh (Qpq HB.o h2);rw[HFIN.o] at HX;clear h2;go_wp2;go_ret2;exact HX.o
end
end
end Go.Proofs.YtefccfakhgdfbabGreatDoor
