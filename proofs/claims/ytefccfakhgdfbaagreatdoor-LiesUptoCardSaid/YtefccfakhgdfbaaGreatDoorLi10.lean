/- The walks of merkle.Path, Proof over the entries' ranges. -/
import Derived.Test.YtefccfakhgdfbaaGreatDoorLi09
set_option linter.unusedVariables false
set_option linter.unusedSimpArgs false
open Go.RowKit Go.Proofs.Tryz
set_option maxRecDepth 100000
set_option maxHeartbeats 4000000
namespace Go.Proofs.YtefccfakhgdfbaaGreatDoor
section
section
attribute [local go_sem] h8_0 h8_1 h8_2 h8_3 h8_4 h8_5 h8_6 h8_7 Qbm h8_size Qa7
theorem Qzn (f:Nat):∀ (i n:Nat) (lo hi:Int) (e1 e3 g1 g3:Nat) (v:Value) (ls:List (List UInt8)) (w:World),lo=i→hi=i+n→n≤f→1≤n→i+n≤ls.length→ls.length≤1048576→(∀ l∈ls,l.length≤9223372036854775807)→
  w.cell? ⟨e1,0,none⟩=some v→w.cell? ⟨e3,0,none⟩=some (.func (.func 196) #[] #[.pointer (some ⟨e1,0,none⟩),.pointer (some ⟨e3,0,none⟩)])→Qem w v ls→
  w.cell? ⟨g1,0,none⟩=some (.func (.func 196) #[] #[.pointer (some ⟨e1,0,none⟩),.pointer (some ⟨e3,0,none⟩)])→
  w.cell? ⟨g3,0,none⟩=some (.func (.func 180) #[] #[.pointer (some ⟨g1,0,none⟩),.pointer (some ⟨g3,0,none⟩)])→
  Calls prog 180 #[.int .i64 lo,.int .i64 hi,.pointer (some ⟨g1,0,none⟩),.pointer (some ⟨g3,0,none⟩)] w fun e w'=>e=.returned (.tuple #[.agg (h8 (rootOf ((ls.drop i).take n))),.nilIface])∧Below w.heap.size w w':=by
 induction f with
 | zero=>intros;omega
 | succ f ih=>
  intro i n lo hi e1 e3 g1 g3 v ls w d A hf h1 P hl hs c1 c3 h d1 d3;have hA:=Qt3 n (n-1) (by omega) (by omega);have t:((n-1:Nat):Int)=hi-lo-1:=by omega
  have a:(n:Int)=hi-lo:=by omega
  rw[t,a] at hA;have hm:lo%(hi-lo)=((i%n:Nat):Int):=by rw[←a,d];rfl
  have l0:0≤lo:=by omega
  have l1:lo<hi:=by omega
  have l2:hi≤1048576:=by omega
  by_cases hpr:n &&& (n-1)=0∧i%n=0
  ·obtain⟨hp,hr⟩:=hpr
   rw[hp] at hA
   ·have tm:(lo%(hi-lo) == 0)=true:=by rw[hm,hr];rfl
    have ta:(bits .and .i64 (hi-lo) (hi-lo-1) == 0)=true:=by rw[hA];rfl
    have b:=Qdb h1 (by omega) hp;obtain⟨e,he⟩:∃ e,Lib.bitLen n=e+1:=by
     refine⟨Lib.bitLen n-1,?_⟩
     have:=(Lib.bitLenAux_bounds 64 n (by omega) (by omega)).1
     have hb:Lib.bitLen n=Lib.bitLenAux 64 n:=rfl;omega
    rw[he,Nat.add_sub_cancel] at b;have U:e≤20:=by
     rcases Nat.lt_or_ge 20 e with F|u
     ·have:=Nat.pow_le_pow_right (n:=2) (by decide) F
      omega
     ·exact u
    have HE:=zh he;have M:decide (hi-lo=0)=false:=decide_eq_false (by omega);have hz:((hi-lo) == 0)=false:=by rw[beq_eq_false_iff_ne];omega
    have hdiv:i / n*n=i:=by have:=Nat.div_add_mod i n;rw[hr] at this;rw[Nat.mul_comm];omega
    have hq:(i / n+1)*2 ^ e≤ls.length:=by rw[←b,Nat.add_mul,hdiv];omega
    have g:Zu ls e (i / n)=rootOf ((ls.drop i).take n):=by rw[Qdw ls e (i / n) (by omega) hq,←b,hdiv]
    have HF:=zh g;have HQ:=zh hq;have HH:=zh h;have Q:=zh hs;have C1:=zh c1;have C3:=zh c3;have D3:=zh d3;have IH:=zh ih;have R:=zh b;have gl:=Qk d1;have V:=zh hdiv;have m:=zh d;have G:=zh A;have O:=zh a;clear g hq h hs c1 c3 d3 ih b hp hr hdiv he a t hA hm d A hz
    go_enter func180,ntmps180
    go_wp2_with fail
    refine (bits_Len _ _ (by omega) (by omega)).mono ?_;rintro e' w1 ⟨rfl,rfl⟩;have ht:Lib.bitLen (hi-lo).toNat=e+1:=by rw[←HE.o,←O.o];rfl
    rw[ht];clear ht
    go_wp2_with fail
    have b0:Below w.heap.size w (w.alloc (.cells zc 143)).drew:=(Qa w _).drew;have k1:=(b0.cell (p:=⟨e1,0,none⟩) (Qk C1.o)).trans C1.o;have k3:=(b0.cell (p:=⟨e3,0,none⟩) (Qk C3.o)).trans C3.o;have K1:=zh k1;have K3:=zh k3;have HB:=zh (HH.o.below b0);have B0:=zh b0;have D:lo / 2 ^ e=((i / n:Nat):Int):=by rw[m.o,R.o];simp
    have T:=zh D;clear D k1 k3 b0
    go_region_with (go_at_call 196;refine (Q4o e (i / n) _ _ e1 e3 v ls _ rfl T.o (by omega) HQ.o hl Q.o K1.o K3.o HB.o).mono ?_;rintro e' w1 ⟨rfl,j⟩;have hz:w.heap.size<w1.heap.size:=(by have:=j.size;simp at this;omega);have L:Is8 w1 w.heap.size:=⟨zero8,Qg (Qo (Qh rfl)) j⟩;have B1:=zh (B0.o.trans (j.mono B0.o.size));clear j)
    go_wp2;obtain⟨z,N⟩:=L;refine ret8t w.heap.size (Zu ls e (i / n)) .nilIface rfl rfl rfl _ underlying143 info8 (Qx N _) rfl ⟨by rw[HF.o],below_setRow B1.o (Nat.le_refl _) _⟩
  ·have C:((bits .and .i64 (hi-lo) (hi-lo-1) == 0)=true∧(lo%(hi-lo) == 0)=false)∨(bits .and .i64 (hi-lo) (hi-lo-1) == 0)=false:=by
    by_cases hp:n &&& (n-1)=0
    ·refine .inl ⟨by rw[hA,hp];rfl,?_⟩
     have hr:¬ i%n=0:=fun e=>hpr ⟨hp,e⟩
     rw[hm,beq_eq_false_iff_ne];omega
    ·refine .inr ?_
     rw[hA,beq_eq_false_iff_ne];omega
   have E:2≤n:=by
    rcases Nat.lt_or_ge n 2 with F|u
    ·obtain rfl:n=1:=by omega
     exact absurd ⟨rfl,Nat.mod_one i⟩ hpr
    ·exact u
   have M:decide (hi-lo=0)=false:=decide_eq_false (by omega);have I:=Yi E;obtain⟨k,hk⟩:∃ k,k=below n:=⟨_,rfl⟩
   have H:((ls.drop i).take n).length=n:=by rw[List.length_take,List.length_drop];omega
   have s:rootOf ((ls.drop i).take n)=Z1 (rootOf ((ls.drop i).take k)) (rootOf ((ls.drop (i+k)).take (n-k))):=by rw[Qd3 (by omega),H,←hk,List.take_take,List.drop_take,List.drop_drop,Nat.min_eq_left (by omega)]
   rw[←hk] at I;obtain⟨x,hx⟩:∃ x,x=rootOf ((ls.drop i).take k):=⟨_,rfl⟩
   obtain⟨y,hy⟩:∃ y,y=rootOf ((ls.drop (i+k)).take (n-k)):=⟨_,rfl⟩
   rw[←hx,←hy] at s;have I1:=zh (fun lo hi w e1' e2'=>ih i k lo hi e1 e3 g1 g3 v ls w e1' e2' (by omega) (by omega) (by omega) hl hs);have I2:=zh (fun lo hi w e1' e2'=>ih (i+k) (n-k) lo hi e1 e3 g1 g3 v ls w e1' e2' (by omega) (by omega) (by omega) hl hs);rw[←hx] at I1;rw[←hy] at I2;have X:(k:Int)<hi-lo:=by omega
   have Y:(1:Int)≤k:=by omega
   have HK:=zh (show (below (hi-lo).toNat:Int)=k by rw[←a,Int.toNat_natCast,hk]);have m:=zh d;have G:=zh (show hi=((i+k:Nat):Int)+((n-k:Nat):Int) by omega);have S:=zh (show lo+k=((i+k:Nat):Int) by omega);have HF:=zh s;have HH:=zh h;have C1:=zh c1;have C3:=zh c3;have D1:=zh d1;have J:=Qk d3;have W:2≤hi-lo:=by omega
   clear ih hs h s hx hy hpr hA hm a t d A hf h1 P hl c1 c3 d1 H hk I E;rcases C with ⟨ta,tm⟩|ta
   all_goals
    go_enter func180,ntmps180
    go_wp2_with fail
    refine (Qb2 _ _ (by omega) (by omega)).mono ?_;rintro e w0 ⟨rfl,rfl⟩;rw[HK.o]
    go_wp2_with fail
    have b0:=Qa w (.cells zc 143);refine (I1.o lo (lo+k) _ m.o (by rw[m.o]) ((b0.cell (p:=⟨e1,0,none⟩) (Qk C1.o)).trans C1.o) ((b0.cell (p:=⟨e3,0,none⟩) (Qk C3.o)).trans C3.o) (HH.o.below b0) ((b0.cell (p:=⟨g1,0,none⟩) (Qk D1.o)).trans D1.o) ((b0.cell (p:=⟨g3,0,none⟩) J).trans d3)).mono ?_;rintro e w1 ⟨rfl,q⟩;have B1:=b0.trans (q.mono b0.size);have z1:Qw w1 w.heap.size zero8:=Qg (Qh rfl) q;have s1:w.heap.size+1≤w1.heap.size:=by have:=q.size;simpa using this
    have B:=(B1.cell (p:=⟨g3,0,none⟩) J).trans d3;have K:=Qk B;have BB1:=zh B1;have D3:=zh d3;clear b0 q B1 d3;have k1:Qw ((w1.alloc (.cells zc 143)).setRow w1.heap.size (h8 x)) w1.heap.size x:=Qx (Qh rfl) _;have k2:Below w.heap.size w ((w1.alloc (.cells zc 143)).setRow w1.heap.size (h8 x)):=below_setRow (BB1.o.alloc BB1.o.size _) BB1.o.size _;have k3:Qw ((w1.alloc (.cells zc 143)).setRow w1.heap.size (h8 x)) w.heap.size zero8:=Qi (Qp z1 _) _ (by omega);have k5:((w1.alloc (.cells zc 143)).setRow w1.heap.size (h8 x)).heap.size=w1.heap.size+1:=by simp
    have k4:((w1.alloc (.cells zc 143)).setRow w1.heap.size (h8 x)).cell? ⟨g3,0,none⟩=some (.func (.func 180) #[] #[.pointer (some ⟨g1,0,none⟩),.pointer (some ⟨g3,0,none⟩)]):=((below_setRow (Qa w1 _) (Nat.le_refl _) _).cell (p:=⟨g3,0,none⟩) K).trans B;have KK1:=zh k1;have KK2:=zh k2;have KK3:=zh k3;have KK5:=zh k5;clear k1 k2 k3 k5 B z1
    go_wp2_with (first|((first|refine Qz rfl 143 _ rfl _ rfl _ underlying143 info8 ?_ ?_ ?_|refine Qt rfl 143 _ _ rfl _ _ rfl rfl info8 ?_ ?_ ?_);rotate_left;focus((repeat(first|(with_reducible first|assumption|exact Qj ⟨_,by assumption⟩ _)|((with_reducible first|refine Qh ?_|refine Q2 ?_|refine Qj (Zb ?_) _);(first|rfl|(simp;done)|(simp;omega)))|with_reducible refine Qp ?_ _|((with_reducible refine Qi ?_ _ ?_);rotate_left;(focus(first|(simp;done)|(simp;omega)|omega)))|with_reducible first|refine Qo ?_|refine Qg ?_ (by assumption)));done)))
    generalize ((w1.alloc (.cells zc 143)).setRow w1.heap.size (h8 x))=W2 at *;refine (I2.o (lo+k) hi W2 S.o G.o ((KK2.o.cell (p:=⟨e1,0,none⟩) (Qk C1.o)).trans C1.o) ((KK2.o.cell (p:=⟨e3,0,none⟩) (Qk C3.o)).trans C3.o) (HH.o.below KK2.o) ((KK2.o.cell (p:=⟨g1,0,none⟩) (Qk D1.o)).trans D1.o) k4).mono ?_;rintro e w2 ⟨rfl,c⟩;have s2:w1.heap.size+1≤w2.heap.size:=by have:=c.size;rw[KK5.o] at this;exact this
    have B2:=zh (KK2.o.trans (c.mono KK2.o.size));have q1:Qw ((w2.alloc (.cells zc 143)).setRow w2.heap.size (h8 y)) w1.heap.size x:=Qi (Qp (Qg KK1.o c) _) _ (by omega);have q2:Qw ((w2.alloc (.cells zc 143)).setRow w2.heap.size (h8 y)) w2.heap.size y:=Qx (Qh rfl) _;have q3:Qw ((w2.alloc (.cells zc 143)).setRow w2.heap.size (h8 y)) w.heap.size zero8:=Qi (Qp (Qg KK3.o c) _) _ (by omega);have q4:Below w.heap.size w ((w2.alloc (.cells zc 143)).setRow w2.heap.size (h8 y)):=below_setRow (B2.o.alloc B2.o.size _) B2.o.size _;have Q4:=zh q4;clear c q4 k4
    go_wp2_with (first|((first|refine Qz rfl 143 _ rfl _ rfl _ underlying143 info8 ?_ ?_ ?_|refine Qt rfl 143 _ _ rfl _ _ rfl rfl info8 ?_ ?_ ?_);rotate_left;focus((repeat(first|(with_reducible first|assumption|exact Qj ⟨_,by assumption⟩ _)|((with_reducible first|refine Qh ?_|refine Q2 ?_|refine Qj (Zb ?_) _);(first|rfl|(simp;done)|(simp;omega)))|with_reducible refine Qp ?_ _|((with_reducible refine Qi ?_ _ ?_);rotate_left;(focus(first|(simp;done)|(simp;omega)|omega)))|with_reducible first|refine Qo ?_|refine Qg ?_ (by assumption)));done)))
    refine (Qbz x y _).mono ?_;rintro e w3 ⟨rfl,r⟩;have r1:=Qg q3 r;clear q1 q2 q3;have R1:=zh (Q4.o.trans (r.mono Q4.o.size));clear r
    go_wp2_with (first|((first|refine Qz rfl 143 _ rfl _ rfl _ underlying143 info8 ?_ ?_ ?_|refine Qt rfl 143 _ _ rfl _ _ rfl rfl info8 ?_ ?_ ?_);rotate_left;focus((repeat(first|(with_reducible first|assumption|exact Qj ⟨_,by assumption⟩ _)|((with_reducible first|refine Qh ?_|refine Q2 ?_|refine Qj (Zb ?_) _);(first|rfl|(simp;done)|(simp;omega)))|with_reducible refine Qp ?_ _|((with_reducible refine Qi ?_ _ ?_);rotate_left;(focus(first|(simp;done)|(simp;omega)|omega)))|with_reducible first|refine Qo ?_|refine Qg ?_ (by assumption)));done)))
    refine ret8t w.heap.size (Z1 x y) .nilIface rfl rfl rfl _ underlying143 info8 (Qx r1 _) rfl ⟨by rw[HF.o],below_setRow R1.o (Nat.le_refl _) _⟩
end
end
section
theorem Qec {P:Program} (g o:Nat) (t:TypeId) (fz:Nat×Nat):∀ (vs:List Value) (i:Nat) (cur:Array Value) (w:World),w.heap[g]?=some (.cells cur t fz)→o+i+vs.length≤cur.size→(fz=(0,0)∨cur.size≤fz.1)→(∀ v∈vs,v.oneCell'=true)→
  ∃ cur',(storeCells ⟨g,o,none⟩ vs i).run P w=.ok () (w.setRow g cur')∧cur'.size=cur.size
 | [],i,cur,w,hg,_,_,_=>⟨cur,by simp only[storeCells];rw[setRow_self w g cur t fz hg];rfl,rfl⟩
 | v :: rest,i,cur,w,hg,hl,hf,h1=>by
  have hi:o+i<cur.size:=by simp at hl;omega
  have b:(⟨g,o,none⟩:Addr).add i=⟨g,o+i,none⟩:=by unfold Addr.add;split <;> simp_all
  have a:w.cell? ⟨g,o+i,none⟩=some cur[o+i]:=by simp[World.cell?,hg,hi]
  have c:w.frozen? ⟨g,o+i,none⟩=false:=by
   simp only[World.frozen?,hg]
   rcases hf with rfl|hf
   ·simp
   ·simp;omega
  have d:(store ((⟨g,o,none⟩:Addr).add i) v).run P w=.ok () (w.setRow g (cur.setIfInBounds (o+i) v)):=by
   rw[b,run_store P w _ v _ (h1 v (by simp)),a]
   simp[c,setCell_eq_setRow w g (o+i) cur t fz v hg]
  obtain⟨cur',ih,hs⟩:=Qec (P:=P) g o t fz rest (i+1) (cur.setIfInBounds (o+i) v) (w.setRow g (cur.setIfInBounds (o+i) v)) (setRow_heap w g cur _ t _ hg) (by simp at hl ⊢;omega) (by simpa using hf) (fun x hx=>h1 x (by simp[hx]))
  refine⟨cur',?_,by simpa using hs⟩
  simp only[storeCells,Sem.run_bind,d,Result.andThen_ok,ih,setRow_setRow]
theorem Qkt (w:World) (g:Nat) (cs:Array Value):w.grownBy (w.setRow g cs) (some g):=
 ⟨rfl,rfl,rfl,by simp,fun k _ hk=>setRow_other w g k cs (fun e=>hk (by rw[e]))⟩
end
section
def Qtz (w:World) (rv:Value) (ls:List (List UInt8)):Prop:=
 ∃ (e1 e3 g1 g3:Nat) (v:Value),rv=.func (.func 180) #[] #[.pointer (some ⟨g1,0,none⟩),.pointer (some ⟨g3,0,none⟩)]∧
  w.cell? ⟨e1,0,none⟩=some v∧w.cell? ⟨e3,0,none⟩=some (.func (.func 196) #[] #[.pointer (some ⟨e1,0,none⟩),.pointer (some ⟨e3,0,none⟩)])∧Qem w v ls∧
  w.cell? ⟨g1,0,none⟩=some (.func (.func 196) #[] #[.pointer (some ⟨e1,0,none⟩),.pointer (some ⟨e3,0,none⟩)])∧
  w.cell? ⟨g3,0,none⟩=some (.func (.func 180) #[] #[.pointer (some ⟨g1,0,none⟩),.pointer (some ⟨g3,0,none⟩)])
theorem Qyi (F:FuncId) (caps:Array Value) (w:World) :
  Calls prog 140 #[.func (.func F) #[] caps] w fun e w'=>e=.returned (.func (.func 180) #[] #[.pointer (some ⟨w.heap.size,0,none⟩),.pointer (some ⟨w.heap.size+1,0,none⟩)])∧
   w'.cell? ⟨w.heap.size,0,none⟩=some (.func (.func F) #[] caps)∧w'.cell? ⟨w.heap.size+1,0,none⟩=some (.func (.func 180) #[] #[.pointer (some ⟨w.heap.size,0,none⟩),.pointer (some ⟨w.heap.size+1,0,none⟩)])∧Below w.heap.size w w':=by
 go_enter func140,ntmps140
 go_wp2_with fail
 go_ret;refine⟨rfl,?_,?_,(Qa w _).alloc (by simp) _⟩
 ·rw[World.cell?_alloc_old]
  ·exact World.cell?_alloc_at _ _ _ _ rfl
  ·simp
 ·exact World.cell?_alloc_at _ _ _ _ (by simp)
theorem Qsl (v:Value) (ls:List (List UInt8)) (w:World) (h:Qem w v ls) :
  Calls prog 155 #[v] w fun e w'=>∃ rv,e=.returned rv∧Qtz w' rv ls∧Below w.heap.size w w':=by
 obtain⟨a,c,rfl⟩:∃ a c,v=.slice a ls.length c:=by obtain⟨_,_,⟨a,c,h1,_⟩,_⟩:=h;exact⟨a,c,h1⟩
 have HH:=zh h;clear h
 go_enter func155,ntmps155
 go_wp2_with fail
 have b0:Below w.heap.size w ((w.alloc (.cells #[.slice a ls.length c] 157)).alloc (.cells #[.func (.func 196) #[] #[.pointer (some ⟨w.heap.size,0,none⟩),.pointer (some ⟨w.heap.size+1,0,none⟩)]] 214)):=(Qa w _).alloc (by simp) _;refine (Qyi _ _ _).mono ?_;rintro e w1 ⟨rfl,h1,h2,hb⟩;have b:((w.alloc (.cells #[.slice a ls.length c] 157)).alloc (.cells #[.func (.func 196) #[] #[.pointer (some ⟨w.heap.size,0,none⟩),.pointer (some ⟨w.heap.size+1,0,none⟩)]] 214)).heap.size=w.heap.size+1+1:=by simp
 rw[b] at h1 h2;clear b;have B:=zh (b0.trans (hb.mono b0.size));have q1:w1.cell? ⟨w.heap.size,0,none⟩=some (.slice a ls.length c):=(hb.cell (p:=⟨w.heap.size,0,none⟩) (by simp;omega)).trans ((World.cell?_alloc_past _ _ _ (by simp)).trans (World.cell?_alloc_at _ _ _ _ rfl));have q2:w1.cell? ⟨w.heap.size+1,0,none⟩=some (.func (.func 196) #[] #[.pointer (some ⟨w.heap.size,0,none⟩),.pointer (some ⟨w.heap.size+1,0,none⟩)]):=(hb.cell (p:=⟨w.heap.size+1,0,none⟩) (by simp)).trans (World.cell?_alloc_at _ _ _ _ (by simp));have Q:=zh (show Qtz w1 _ ls from ⟨_,_,_,_,_,rfl,q1,q2,HH.o.below B.o,h1,h2⟩);clear b0 hb q1 q2 h1 h2;go_wp2;go_ret;exact⟨_,rfl,Q.o,B.o⟩
theorem Q2b (n:Nat) (rv:Value) (ls:List (List UInt8)) (w:World) (h:Qtz w rv ls) (hn:n≤ls.length) (hl:ls.length≤1048576) (hs:∀ l∈ls,l.length≤9223372036854775807) :
  Calls prog 154 #[rv,.int .i64 n] w fun e w'=>e=.returned (.tuple #[.agg (h8 (rootOf (ls.take n))),.nilIface])∧Below w.heap.size w w':=by
 by_cases h0:n=0
 ·subst h0
  obtain⟨e1,e3,g1,g3,v,rfl,_⟩:=h
  go_enter func154,ntmps154
  go_wp2_with fail
  refine (Qjq _ [] _ ⟨[],rfl,⟨none,0,rfl,Nat.le_refl _,fun j x hx=>by simp at hx⟩,fun j u l hu _=>by simp at hu⟩ (by simp) (by simp)).mono ?_;rintro e w1 ⟨rfl,hb⟩;have z1:Qw w1 w.heap.size zero8:=Qg (Qh rfl) hb;have B:=zh ((Qa w _).trans (hb.mono (by simp)));clear hb
  go_wp2_with (first|((first|refine Qz rfl 143 _ rfl _ rfl _ underlying143 info8 ?_ ?_ ?_|refine Qt rfl 143 _ _ rfl _ _ rfl rfl info8 ?_ ?_ ?_);rotate_left;focus((repeat(first|(with_reducible first|assumption|exact Qj ⟨_,by assumption⟩ _)|((with_reducible first|refine Qh ?_|refine Q2 ?_|refine Qj (Zb ?_) _);(first|rfl|(simp;done)|(simp;omega)))|with_reducible refine Qp ?_ _|((with_reducible refine Qi ?_ _ ?_);rotate_left;(focus(first|(simp;done)|(simp;omega)|omega)))|with_reducible first|refine Qo ?_|refine Qg ?_ (by assumption)));done)))
  refine ret8t w.heap.size (hash []) .nilIface rfl rfl rfl _ underlying143 info8 (Qx z1 _) rfl ⟨by rw[List.take_zero];rfl,below_setRow B.o (Nat.le_refl _) _⟩
 ·have hz:((n:Int) == 0)=false:=by rw[beq_eq_false_iff_ne];omega
  obtain⟨e1,e3,g1,g3,v,rfl,h1,h2,h3,h4,h5⟩:=h;have b0:=Qa w (.cells zc 143);have W:=zh (Qzn n 0 n 0 n e1 e3 g1 g3 v ls (w.alloc (.cells zc 143)) rfl (by simp) (Nat.le_refl _) (by omega) (by omega) hl hs ((b0.cell (p:=⟨e1,0,none⟩) (Qk h1)).trans h1) ((b0.cell (p:=⟨e3,0,none⟩) (Qk h2)).trans h2) (h3.below b0) ((b0.cell (p:=⟨g1,0,none⟩) (Qk h4)).trans h4) ((b0.cell (p:=⟨g3,0,none⟩) (Qk h5)).trans h5));have hd:(ls.drop 0).take n=ls.take n:=by rw[List.drop_zero]
  rw[hd] at W;clear h1 h2 h3 h4 h5 hd hs hl hn
  go_enter func154,ntmps154
  go_wp2_with fail
  refine W.o.mono ?_;rintro e w1 ⟨rfl,hb⟩;have z1:Qw w1 w.heap.size zero8:=Qg (Qh rfl) hb;have B:=zh (b0.trans (hb.mono b0.size));clear hb b0 W
  go_wp2_with (first|((first|refine Qz rfl 143 _ rfl _ rfl _ underlying143 info8 ?_ ?_ ?_|refine Qt rfl 143 _ _ rfl _ _ rfl rfl info8 ?_ ?_ ?_);rotate_left;focus((repeat(first|(with_reducible first|assumption|exact Qj ⟨_,by assumption⟩ _)|((with_reducible first|refine Qh ?_|refine Q2 ?_|refine Qj (Zb ?_) _);(first|rfl|(simp;done)|(simp;omega)))|with_reducible refine Qp ?_ _|((with_reducible refine Qi ?_ _ ?_);rotate_left;(focus(first|(simp;done)|(simp;omega)|omega)))|with_reducible first|refine Qo ?_|refine Qg ?_ (by assumption)));done)))
  refine ret8t w.heap.size _ .nilIface rfl rfl rfl _ underlying143 info8 (Qx z1 _) rfl ⟨rfl,below_setRow B.o (Nat.le_refl _) _⟩
theorem Qlj (v:Value) (ls:List (List UInt8)) (w:World) (h:Qem w v ls) (hl:ls.length≤1048576) (hs:∀ l∈ls,l.length≤9223372036854775807) :
  Calls prog 98 #[v] w fun e w'=>e=.returned (.agg (h8 (rootOf ls)))∧Below w.heap.size w w':=by
 obtain⟨a,c,rfl⟩:∃ a c,v=.slice a ls.length c:=by obtain⟨_,_,⟨a,c,h1,_⟩,_⟩:=h;exact⟨a,c,h1⟩
 have HH:=zh (h.below (Qa w (.cells zc 143)));have f:=zh hs;have ht:ls.take ls.length=ls:=List.take_of_length_le (Nat.le_refl _);have HT:=zh ht;clear h hs ht
 go_enter func98,ntmps98
 go_wp2_with fail
 refine (Qsl _ ls _ HH.o).mono ?_;rintro e w1 ⟨rv,rfl,hr,d⟩;have b1:=(Qa w (.cells zc 143)).trans (d.mono (by simp));have z1:Qw w1 w.heap.size zero8:=Qg (Qh rfl) d;have HR:=zh hr;clear hr d
 go_wp2_with fail
 refine (Q2b ls.length rv ls _ HR.o (Nat.le_refl _) hl f.o).mono ?_;rintro e w2 ⟨rfl,b⟩;rw[HT.o];have z2:=Qg z1 b;have g:w.heap.size+1≤w2.heap.size:=by have:=b1.size;have:=b.size;have:=(Array.getElem?_eq_some_iff.1 z1).1;omega
 have B2:=zh (b1.trans (b.mono b1.size));clear z1 b b1;have k1:Qw ((w2.alloc (.cells zc 143)).setRow w2.heap.size (h8 (rootOf ls))) w2.heap.size (rootOf ls):=Qx (Qh rfl) _;have k2:Qw ((w2.alloc (.cells zc 143)).setRow w2.heap.size (h8 (rootOf ls))) w.heap.size zero8:=Qi (Qp z2 _) _ (by omega);have k3:Below w.heap.size w ((w2.alloc (.cells zc 143)).setRow w2.heap.size (h8 (rootOf ls))):=below_setRow (B2.o.alloc B2.o.size _) B2.o.size _;have K3:=zh k3;clear k3 z2
 go_wp2_with (first|((first|refine Qz rfl 143 _ rfl _ rfl _ underlying143 info8 ?_ ?_ ?_|refine Qt rfl 143 _ _ rfl _ _ rfl rfl info8 ?_ ?_ ?_);rotate_left;focus((repeat(first|(with_reducible first|assumption|exact Qj ⟨_,by assumption⟩ _)|((with_reducible first|refine Qh ?_|refine Q2 ?_|refine Qj (Zb ?_) _);(first|rfl|(simp;done)|(simp;omega)))|with_reducible refine Qp ?_ _|((with_reducible refine Qi ?_ _ ?_);rotate_left;(focus(first|(simp;done)|(simp;omega)|omega)))|with_reducible first|refine Qo ?_|refine Qg ?_ (by assumption)));done)))
 refine ret8 w.heap.size (rootOf ls) rfl rfl _ underlying143 info8 (Qx k2 _) rfl ⟨rfl,below_setRow K3.o (Nat.le_refl _) _⟩
end
section
theorem Qds {P:Program} {ops:Array Oper} {rest:List Oper} {o:Oper} {a:Act} {Q:Exit→Act→World→Prop} {w:World} (hgd:o.guard=none) (s x:Operand) (t:TypeId)
  (ho:o.op=.call { callee:=.builtin .append,args:=#[s,x],argTypes:=#[t,t] })
  (base:Nat) (e:TypeId) (i:TypeInfo) (z:Value) (size bytes:Nat) (ht:P.underlying t=some (.slice e)) (hi:P.info? e=some i) (hz:i.zero=some z)
  (hsize:i.size=size) (hby:i.bytes=bytes) (hzs:z.cells.size=size) (hsz:0<size) (hbb:bytes≤64)
  (v:Value) (n:Nat) (xs:List Value) (hs:a.eval s=v) (hown:w.ownsRow base e size v n xs) (cs:Array Value) (hcs:cs.size=size) (h1:∀ u∈cs.toList,u.oneCell'=true)
  (hx:a.eval x=.slice (some ⟨w.heap.size,0,none⟩) 1 1)
  (hn:n≤1099511627776) (hbase:base≤w.heap.size)
  (h:∀ v' w',w'.ownsRow base e size v' (n+1) (xs++cs.toList)→w.grownBy w' v.ownBlock→(v'≠.slice none 0 0)→wpList P ops Q rest (a.put o.dst v') w') :
  wpList P ops Q (o :: rest) a (w.alloc (.cells cs e)):=by
 refine wpList_append_own _ hgd s x t ho base e i z size bytes ht hi hz hsize hby hzs hsz v n xs hs (hown.alloc _) ⟨w.heap.size,0,none⟩ 1 1 cs.toList hx (by simpa using hcs) (fun j u hu=>?_) h1 (by unfold maxLen;omega) ?_ (by simp;omega) fun v' w' h2 h3 h4=>?_
 ·rw[Addr.add_lit,World.cell?_alloc_at _ _ _ _ rfl]
  simpa using hu
 ·refine Nat.le_trans (Nat.mul_le_mul_left _ hbb) ?_
  omega
 ·exact h v' w' h2 (Qa5 (World.grownBy_alloc w _ _) h3) (by simp[h4])
def Qby (rs:List (Nat×Nat)):List Value:=rs.flatMap fun x=>[.int .i64 x.1,.int .i64 x.2]
def Qi4 (w:World) (base:Nat) (v:Value) (rs:List (Nat×Nat)):Prop:=w.ownsRow base 265 2 v rs.length (Qby rs)
theorem Qut (rs:List (Nat×Nat)):∀ (k:Nat) (x:Nat×Nat),rs[k]?=some x→(Qby rs)[k*2]?=some (.int .i64 x.1)∧(Qby rs)[k*2+1]?=some (.int .i64 x.2):=by
 induction rs with
 | nil=>intro k x h;simp at h
 | cons y rs ih=>
  intro k x h;cases k with
  | zero=>simp only[List.getElem?_cons_zero,Option.some.injEq] at h;subst h;exact⟨rfl,rfl⟩
  | succ k=>
   have:=ih k x (by simpa using h)
   rw[show (k+1)*2=k*2+1+1 by omega];simpa [Qby] using this
theorem Qwb:(prog.info? 265).map (fun i=>(i.zero,i.size,i.bytes))=some (some (.agg #[.int .i64 0,.int .i64 0]),2,16):=by kernel_rfl
section
end
end
section
section
theorem Qgd (N:Nat) (x:Nat×Nat):∀ (xs:List (Nat×Nat)) (s s1:Cs) (l:List Hsh),Zf N xs s=(.ok l,s1)→Zf N (xs ++ [x]) s=match rootQ N (x.2-x.1) x.1 (x.2-x.1) s1 with
  | (.ok h,s2)=>(.ok (l ++ [h]),s2)
  | (.error e,s2)=>(.error e,s2)
 | [],s,s1,l,h=>by
  have h':((.ok [],s):Except QErr (List Hsh)×Cs)=(.ok l,s1):=h
  cases h'
  show Zf N [x] s=_
  rw[Zf]
  unfold Qm.bind
  cases rootQ N (x.2-x.1) x.1 (x.2-x.1) s with
  | mk o s2=>cases o <;> rfl
 | y :: xs,s,s1,l,h=>by
  rw[Zf] at h
  unfold Qm.bind at h
  rw[List.cons_append,Zf]
  unfold Qm.bind
  cases hr:rootQ N (y.2-y.1) y.1 (y.2-y.1) s with
  | mk o s2=>
   rw[hr] at h
   cases o with
   | error e=>cases h
   | ok a=>
    dsimp only at h ⊢
    cases hg:Zf N xs s2 with
    | mk o3 s3=>
     rw[hg] at h
     cases o3 with
     | error e=>cases h
     | ok l3=>
      dsimp only at h
      cases h
      have:=Qgd N x xs s2 _ l3 hg
      rw[this]
      cases rootQ N (x.2-x.1) x.1 (x.2-x.1) s1 with
      | mk o4 s4=>cases o4 <;> rfl
theorem Qfz (N:Nat) (ys:List (Nat×Nat)):∀ (xs:List (Nat×Nat)) (s s1:Cs) (e:QErr),Zf N xs s=(.error e,s1)→Zf N (xs++ys) s=(.error e,s1)
 | [],s,s1,e,h=>by cases h
 | y :: xs,s,s1,e,h=>by
  rw[Zf] at h
  unfold Qm.bind at h
  rw[List.cons_append,Zf]
  unfold Qm.bind
  cases hr:rootQ N (y.2-y.1) y.1 (y.2-y.1) s with
  | mk o s2=>
   rw[hr] at h
   cases o with
   | error e2=>cases h;rfl
   | ok a=>
    dsimp only at h ⊢
    cases hg:Zf N xs s2 with
    | mk o3 s3=>
     rw[hg] at h
     cases o3 with
     | error e2=>
      dsimp only at h
      cases h
      rw[Qfz N ys xs s2 _ _ hg]
     | ok l3=>cases h
variable [Inhabited OutT]
theorem Qlu (w:World) (q:Qf) (x:Qv) (N:Nat) (s:Cs) (d:Dk) (h:QIs w q x N s d) :
  Calls prog 140 #[.func (.func 141) #[.pointer (some ⟨q.gq,0,none⟩)] #[]] w fun e w'=>∃ g1 g3,e=.returned (.func (.func 180) #[] #[.pointer (some ⟨g1,0,none⟩),.pointer (some ⟨g3,0,none⟩)])∧ClAt w' q x g1 g3∧Below w.heap.size w w':=by
 have H:=zh h;clear h
 go_enter func140,ntmps140
 go_wp2_with fail
 go_ret;refine⟨_,_,rfl,⟨?_,?_,fun e=>?_,fun e=>?_⟩,(Qa w _).alloc (by simp) _⟩
 ·rw[World.cell?_alloc_old]
  ·exact World.cell?_alloc_at _ _ _ _ rfl
  ·simp
 ·exact World.cell?_alloc_at _ _ _ _ (by simp)
 ·exact Nat.lt_irrefl _ (H.o.lt e)
 ·have:=H.o.lt e
  first|omega|(simp at this;omega)|(simp at this)
variable {q:Qf} {x:Qv} {N:Nat} {s:Cs} {d:Dk}
theorem Qpm {w:World} (h:QIs w q x N s d):Qa0 w (QS q x) ([263,9]++([253,251] ++ [126,3])):=
 h.kindsLook.or ((Qbl h.cache).or (Qdu h.net))
theorem Qu9 (N:Nat) (xs ys:List (Nat×Nat)):Zx N (xs++ys)=Zx N xs++Zx N ys:=by have:=(inferInstance:Inhabited OutT);simp[Zx]
structure Aft (F:Nat→Addr) (wr wf:World) (q:Qf) (x:Qv) (N:Nat) (d:Dk) (r:Except QErr Hsh×Cs) (k:Hsh) (u:Value) (g:Nat):Prop where
 st:Y7 wr q x N d wf r.2
 val:(r.1=.ok k∧u=.nilIface)∨∃ p,r.1=.error (.miss p)∧Y8 F wf wr.heap.size p u
 hash:Qw wf g k
variable {F:Nat→Addr} {wr w1:World} {r:Except QErr Hsh×Cs} {e:Ending}
theorem aft1 {w0:World} (hb:Below wr.heap.size wr w0) (h:Qbh F w0 q x N d r e w1) :
  ∃ k u,e=.returned (.tuple #[.agg (h8 k),u])∧Aft F wr ((w1.alloc (.cells zc 143)).setRow w1.heap.size (h8 k)) q x N d r k u w1.heap.size:=by
 obtain⟨k,u,he,hs,hv⟩:=Qcn h;have a:Below w1.heap.size w1 ((w1.alloc (.cells zc 143)).setRow w1.heap.size (h8 k)):=below_setRow (Qa w1 _) (Nat.le_refl _) _;refine⟨k,u,he,(Y7.trans (Fr.ofBelow hb) (Sub.refl _ _) hs).below a,?_,Qx (Qh rfl) _⟩;rcases hv with hv|⟨p,h1,h2⟩
 ·exact .inl hv
 ·exact .inr ⟨p,h1,(h2.fr (S:=fun _=>False) (ts:=[]) (Fr.ofBelow a) (fun _ _ _ _ h=>h.elim) (by decide)).low hb.size⟩
theorem aft2 (hq:QIs wr q x N s d) (h:Qbh F (wr.alloc (.cells zc 143)).drew q x N d r e w1) :
  ∃ k u,e=.returned (.tuple #[.agg (h8 k),u])∧Is8 w1 wr.heap.size∧Aft F wr (w1.setRow wr.heap.size (h8 k)) q x N d r k u wr.heap.size:=by
 obtain⟨k,u,he,hs,hv⟩:=Qcn h;have hz:Qw w1 wr.heap.size zero8:=by obtain⟨_,_,hf,_⟩:=hs;exact Qfa (Qo (Qh rfl)) hf fun e=>Nat.lt_irrefl _ (hq.lt e)
 have hb:Below wr.heap.size wr (wr.alloc (.cells zc 143)).drew:=(Qa wr _).drew;refine⟨k,u,he,⟨zero8,hz⟩,(Y7.trans (Fr.ofBelow hb) (Sub.refl _ _) hs).own (J5 w1 wr.heap.size _) hz (by decide) (Nat.le_refl _),?_,Qx hz _⟩;rcases hv with hv|⟨p,h1,h2⟩
 ·exact .inl hv
 ·exact .inr ⟨p,h1,(h2.fr (J5 w1 wr.heap.size _) (Q5 hz) (by decide)).low hb.size⟩
end
end
section
section
variable [Inhabited OutT]
def Qfg (F:Nat→Addr) (w:World) (q:Qf) (x:Qv) (N:Nat) (d:Dk) (r:Except QErr (List Hsh)×Cs) (e:Ending) (w':World):Prop:=
 Y7 w q x N d w' r.2∧((∃ l v,r.1=.ok l∧e=.returned (.tuple #[v,.nilIface])∧Qcs w' w.heap.size v l)∨∃ p u,r.1=.error (.miss p)∧e=.returned (.tuple #[.slice none 0 0,u])∧Y8 F w' w.heap.size p u)
structure GSt (F:Nat→Addr) (w wr:World) (q:Qf) (x:Qv) (N:Nat) (s:Cs) (d:Dk) (g1 g3:Nat) (rs:List (Nat×Nat)) (rv:Value) (j:Nat) (v:Value) (y:Qv) (sj:Cs) (l:List Hsh):Prop where
 run:Zf N (rs.drop j).reverse s=(.ok l,sj)
 is:QIs wr q y N sj d
 env:EnvS F (QS q y) wr
 cl:ClAt wr q y g1 g3
 fr:Fr (QS q x) w wr
 sub:Sub w (QS q x) (QS q y)
 o:Qcs wr w.heap.size v l
 row:wr.ownsRow 0 265 2 rv rs.length (Qby rs)
 bnd:Bnd sj (Zx N (rs.take j).reverse).length
 len:l.length+j=rs.length
section
attribute [local go_sem] h8_0 h8_1 h8_2 h8_3 h8_4 h8_5 h8_6 h8_7 Qbm h8_size Qa7
variable {F:Nat→Addr} {w wf:World} {q:Qf} {x y:Qv} {N g1 g3 k:Nat} {s:Cs} {d:Dk} {rs:List (Nat×Nat)} {rv v:Value} {l:List Hsh} {hh:Hsh}
theorem Q46 {wr:World} {sj:Cs} {z:Nat×Nat} {u:Value} {g:Nat} (h:GSt F w wr q x N s d g1 g3 rs rv (k+1) v y sj l) (hz:rs[k]?=some z)
  (ha:Aft F wr wf q y N d (rootQ N (z.2-z.1) z.1 (z.2-z.1) sj) hh u g) :
  (∃ y' s',(rootQ N (z.2-z.1) z.1 (z.2-z.1) sj).1=.ok hh∧u=.nilIface∧Zf N (rs.drop k).reverse s=(.ok (l ++ [hh]),s')∧QIs wf q y' N s' d∧EnvS F (QS q y') wf∧ClAt wf q y' g1 g3∧Fr (QS q x) w wf∧Sub w (QS q x) (QS q y')∧Qcs wf w.heap.size v l∧wf.ownsRow 0 265 2 rv rs.length (Qby rs)∧Bnd s' (Zx N (rs.take k).reverse).length)∨
  (∃ p s',u≠.nilIface∧Zf N rs.reverse s=(.error (.miss p),s')∧Y7 w q x N d wf s'∧Y8 F wf w.heap.size p u):=by
 have hk:=(List.getElem?_eq_some_iff.1 hz).1;have hd:(rs.drop k).reverse=(rs.drop (k+1)).reverse ++ [z]:=by
  rw[List.drop_eq_getElem_cons hk,List.reverse_cons]
  have:rs[k]=z:=by rw[List.getElem?_eq_getElem hk] at hz;exact Option.some.inj hz
  rw[this]
 have a:=Qgd N z (rs.drop (k+1)).reverse s sj l h.run;rw[←hd] at a;have i:(rs.take (k+1)).reverse=z :: (rs.take k).reverse:=by rw[List.take_add_one,hz,Option.toList_some,List.reverse_append];rfl
 obtain⟨y',h1,h2,h3⟩:=ha.st;have c:=Qdy N (z.2-z.1) z.1 (z.2-z.1);have hb:=h.bnd;rw[i,show Zx N (z :: (rs.take k).reverse)=Qce N (z.2-z.1) z.1 (z.2-z.1)++Zx N (rs.take k).reverse by simp[Zx],List.length_append] at hb;have b:=hb.next c (Qeo (Qd6 sj.net) N (z.2-z.1) z.1 (z.2-z.1) sj (Qd1.refl _));rcases ha.val with ⟨h4,h5⟩|⟨p,h4,h5⟩
 ·left
  cases hr:rootQ N (z.2-z.1) z.1 (z.2-z.1) sj with
  | mk o s'=>
   rw[hr] at h1 h4 a b;dsimp only at h1 h4 b;subst h4;exact⟨y',s',rfl,h5,a,h1,h.env.step h2 h3,h.cl.step h2 h3,h.fr.sub h2 h.sub,h.sub.trans h3 h.fr.size,Zk h.o h2 (Qpm h.is) (by decide),Zk h.row h2 (Qpm h.is) (by decide),b⟩
 ·right
  cases hr:rootQ N (z.2-z.1) z.1 (z.2-z.1) sj with
  | mk o s'=>
   rw[hr] at h1 h4 a;dsimp only at h1 h4;subst h4;have f:rs.reverse=(rs.drop k).reverse++(rs.take k).reverse:=by rw[←List.reverse_append,List.take_append_drop]
   refine⟨p,s',?_,by rw[f];exact Qfz N _ _ s s' _ a,Y7.trans h.fr h.sub ⟨y',h1,h2,h3⟩,h5.low h.fr.size⟩;obtain⟨q9,rfl,_⟩:=h5;exact fun e=>by cases e
theorem Q7p {w2:World} {s':Cs} {v2:Value} (hE:EnvS F (QS q x) w) (hc:ClAt w q x g1 g3) (hrun:Zf N (rs.drop k).reverse s=(.ok (l ++ [hh]),s')) (hq:QIs wf q y N s' d) (hF:Fr (QS q x) w wf) (hS:Sub w (QS q x) (QS q y))
  (hO:Qcs wf w.heap.size v l) (hW:wf.ownsRow 0 265 2 rv rs.length (Qby rs)) (hB:Bnd s' (Zx N (rs.take k).reverse).length) (hlen:l.length+(k+1)=rs.length) (hg:wf.grownBy w2 v.ownBlock) (hO2:Qcs w2 w.heap.size v2 (l ++ [hh])):GSt F w w2 q x N s d g1 g3 rs rv k v2 y s' (l ++ [hh]):=by
 have a:Fr (fun i=>v.ownBlock=some i) wf w2:=Fr.ofGrown hg fun i _ e=>e
 have hk:=Qd4 hO;have b:Fr (QS q x) w w2:=hF.step a fun i hi e=>by
  have:=(Ql hO (Below.refl _ _)).lt i e
  omega
 refine⟨hrun,hq.kept a hk (by decide) (fun i es c hi e=>?_),hE.step b hS,hc.step b hS,b,hS,hO2,Zk hW a hk (by decide),hB,by rw[List.length_append,List.length_singleton];omega⟩;obtain⟨C,hC⟩:=Qe hO e;rw[hC] at hi;cases hi
theorem Qna (F:Nat→Addr) (w:World) (q:Qf) (x:Qv) (N:Nat) (s:Cs) (d:Dk) (h:QIs w q x N s d) (hE:EnvS F (QS q x) w) (g1 g3:Nat) (hc:ClAt w q x g1 g3) (hN:N<9223372036854775808) (v:Value) (rs:List (Nat×Nat)) (hr:w.ownsRow 0 265 2 v rs.length (Qby rs)) (hrs:∀ x∈rs,x.1<x.2∧x.2≤N) (hn:rs.length≤1048576)
  (hb:Bnd s (Zx N rs.reverse).length) (hp:(Zf N rs.reverse s).1≠.error .panic) :
  Calls prog 179 #[.func (.func 180) #[] #[.pointer (some ⟨g1,0,none⟩),.pointer (some ⟨g3,0,none⟩)],v] w (Qfg F w q x N d (Zf N rs.reverse s)):=by
 obtain⟨R,A⟩:∃ R,R=Zf N rs.reverse s:=⟨_,rfl⟩
 rw[←A] at hp ⊢;obtain⟨a,c,hv⟩:=Zi hr;subst hv;have H:=zh A;have HP:=zh hp;have av:=zh hrs;have m:GSt F w w q x N s d g1 g3 rs (.slice a rs.length c) rs.length (.slice none 0 0) x s []:=
  ⟨by rw[List.drop_length];rfl,h,hE,hc,Fr.refl _ _,Sub.refl _ _,World.ownsRow_nil _ _ _ _,hr,by rw[List.take_length];exact hb,by simp⟩
 have ap:=zh m;obtain⟨i0,hi,B,Q,an⟩:=info_parts Q2v;rw[←Qmw] at B;have HZ:=zh B;have HE:=zh hE;have HC:=zh hc;clear A hp h hE hc hr hrs hb m B
 go_enter func179,ntmps179
 go_wp2
 go_loopw [6,7] (fun v i wr=>∃ (j:Int) (y:Qv) (sj:Cs) (l:List Hsh),-1≤j∧j<rs.length∧i=.int .i64 j∧Hid (GSt F w wr q x N s d g1 g3 rs (.slice a rs.length c) (j+1).toNat v y sj l)) (fun _ i _=>(intOf i+1).toNat)
 case atStart=>
  refine⟨(rs.length:Int)-1,x,s,[],by omega,by omega,rfl,zh ?_⟩;rw[show ((rs.length:Int)-1+1).toNat=rs.length by omega];exact ap.o
 case round=>
  obtain⟨j,y,sj,l,aw,ax,rfl,HG⟩:=hrel;by_cases hge:0≤j
  ·obtain⟨k,rfl⟩:∃ k:Nat,j=k:=⟨j.toNat,by omega⟩
   have hk:k<rs.length:=by omega
   rw[show ((k:Int)+1).toNat=k+1 by omega] at HG;obtain⟨z,hz⟩:∃ z,rs[k]?=some z:=⟨_,List.getElem?_eq_getElem hk⟩
   obtain⟨S,L⟩:=Qut rs k z hz;obtain⟨_,_,t,_,g⟩:=Z4 HG.o.row;simp only[Value.slice.injEq] at t;obtain⟨b,off,O,d1⟩:=g _ _ S;obtain⟨b',off',D,d2⟩:=g _ _ L;have Y:=t.1.trans O;have G:=t.1.trans D;rw[Y] at G;cases G;clear t O D g;subst Y;rw[←Nat.add_assoc] at d2;have ao:=av.o z (List.mem_of_getElem? hz);have V:(rootQ N (z.2-z.1) z.1 (z.2-z.1) sj).1≠.error .panic:=fun e=>by
    apply HP.o;rw[H.o];have T:=Qgd N z (rs.drop (k+1)).reverse s sj l HG.o.run;have hd:rs.reverse=((rs.drop (k+1)).reverse ++ [z])++(rs.take k).reverse:=by
     have:(rs.drop k).reverse=(rs.drop (k+1)).reverse ++ [z]:=by
      rw[List.drop_eq_getElem_cons hk,List.reverse_cons]
      have:rs[k]=z:=by rw[List.getElem?_eq_getElem hk] at hz;exact Option.some.inj hz
      rw[this]
     rw[←this,←List.reverse_append,List.take_append_drop]
    cases hr:rootQ N (z.2-z.1) z.1 (z.2-z.1) sj with
    | mk o s2=>
     rw[hr] at e T;dsimp only at e;subst e;rw[hd,Qfz N _ _ s s2 _ T]
   have aa:Bnd sj (Qce N (z.2-z.1) z.1 (z.2-z.1)).length:=HG.o.bnd.less (by
    rw[List.take_add_one,hz,Option.toList_some,List.reverse_append,Qu9,List.length_append]
    simp[Zx])
   have r:∀ W,Below wr.heap.size wr W→Calls prog 180 #[.int .i64 z.1,.int .i64 z.2,.pointer (some ⟨g1,0,none⟩),.pointer (some ⟨g3,0,none⟩)] W (Qbh F W q y N d (rootQ N (z.2-z.1) z.1 (z.2-z.1) sj)):=fun W hW=>
    Q0d F q N d g1 g3 hN (z.2-z.1) z.1 (z.2-z.1) z.1 z.2 W y sj (HG.o.is.below hW) (HG.o.env.below hW) (HG.o.cl.below hW) rfl (by omega) (Nat.le_refl _) (by omega) (by omega) aa V
   have CALL:=zh r;have au:=zh HG.o.is;have am:=zh hz;have az:=Qk d1;have ae:l.length≤1048576:=by have:=HG.o.len;omega
   clear hz S L ao V aa r;obtain⟨zp,zq⟩:=z;dsimp only at d1 d2 CALL
   go_wp2_with fail
   go_region_with (go_at_call 180;(first|(refine (CALL.o _ (Qn wr)).mono ?_;intro e w1 h1;obtain⟨hh,u,rfl,hA⟩:=aft1 (Qn wr) h1;have i1:Is8 (w1.alloc (.cells zc 143)) w1.heap.size:=Zb rfl;have HA:=zh hA;clear h1 hA)|(refine (CALL.o _ ((Qa _ _).drew)).mono ?_;intro e w1 h1;obtain⟨hh,u,rfl,i1,hA⟩:=aft2 au.o h1;have HA:=zh hA;clear h1 hA)))
   all_goals
    rcases Q46 HG.o am.o HA.o with ⟨y',s',al,rfl,f,Z,ac,ab,C,M,E,U,P⟩|⟨p,s',ar,f,m,K⟩
    ·have e1:=HA.o.hash
     have HO:=zh (Ql E (Below.refl _ _));have ah:=zh E;have ag:=zh (And.intro f (And.intro Z (And.intro ac (And.intro ab (And.intro C (And.intro M (And.intro U P)))))));have J:=C.size;clear i1 al f Z ac ab C M E U P
     go_wp2_with (first|(refine Qz rfl 143 _ rfl _ rfl _ underlying143 info8 ?_ ?_ ?_;rotate_left;focus ((repeat(first|(with_reducible first|assumption|exact Qj ⟨_,by assumption⟩ _)|((with_reducible first|refine Qh ?_|refine Q2 ?_|refine Qj (Zb ?_) _);(first|rfl|(simp;done)|(simp;omega)))|with_reducible refine Qp ?_ _|((with_reducible refine Qi ?_ _ ?_);rotate_left;(focus(first|(simp;done)|(simp;omega)|omega)))|with_reducible first|refine Qo ?_|refine Qg ?_ (by assumption)));done))|(refine Qzr rfl 133 _ rfl i0 underlying133 hi HZ.o Q _ rfl ?_)|(at_builtin;(refine Qud rfl _ _ 133 rfl w.heap.size i0 underlying133 hi HZ.o Q an _ _ rfl HO.o _ rfl (Nat.le_trans ae (by decide)) J ?_);intro v2 w2 n X ad;have I:=zh n;have aq:=zh X;clear n X ad))
     go_roundw
     case rel=>
      obtain⟨a1,a2,a3,a4,a5,a6,a7,a8⟩:=ag.o;refine⟨(k:Int)-1,y',s',l ++ [hh],by omega,by omega,rfl,zh ?_⟩;rw[show ((k:Int)-1+1).toNat=k by omega];exact Q7p HE.o HC.o a1 a2 a5 a6 ah.o a7 a8 HG.o.len aq.o I.o
     case measure=>(simp[intOf] <;> omega)
    ·have ai:=zh K
     have af:=zh m;have n:R=(.error (.miss p),s'):=by rw[H.o];exact f
     have I:=zh n;obtain⟨q9,rfl,ay,aj⟩:=K;clear aj ar f m n i1;go_wp2;go_ret2;rw[I.o];exact⟨af.o,.inr ⟨p,_,rfl,rfl,ai.o⟩⟩
  ·obtain rfl:j = -1:=by omega
   have f:=HG.o.run;rw[show ((-1:Int)+1).toNat=0 by rfl,List.drop_zero,←H.o] at f;have ak:=zh f;clear f;go_wp2;go_ret2;rw[ak.o];exact⟨⟨y,HG.o.is,HG.o.fr,HG.o.sub⟩,.inl ⟨l,_,rfl,rfl,HG.o.o⟩⟩
end
end
end
section
theorem Qm4 (a b:Int):∀ u∈(#[.int .i64 a,.int .i64 b]:Array Value).toList,u.oneCell'=true:=by intro u hu;simp at hu;rcases hu with rfl|rfl <;> rfl
theorem Qr0 (rs:List (Nat×Nat)) (x:Nat×Nat):Qby (rs ++ [x])=Qby rs ++ [.int .i64 x.1,.int .i64 x.2]:=by simp[Qby]
theorem Qi4.snoc {w:World} {base:Nat} {v:Value} {rs:List (Nat×Nat)} {x:Nat×Nat} {a b:Int} (h:w.ownsRow base 265 2 v (rs.length+1) (Qby rs++(#[.int .i64 a,.int .i64 b]:Array Value).toList)) (ha:a=x.1) (hb:b=x.2):Qi4 w base v (rs ++ [x]):=by subst ha hb;unfold Qi4;rw[Qr0,List.length_append];exact h
end
end Go.Proofs.YtefccfakhgdfbaaGreatDoor
