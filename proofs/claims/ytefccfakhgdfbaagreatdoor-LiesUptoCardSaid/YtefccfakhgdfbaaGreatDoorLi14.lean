/- The walk of tiles' Client.Update. Conditions: the block is a client's over a Net; no step of the question goes out of its bounds. -/
import Derived.Test.YtefccfakhgdfbaaGreatDoorLi13
set_option linter.unusedVariables false
set_option linter.unusedSimpArgs false
open Go.RowKit Go.Proofs.Tryz
set_option maxRecDepth 100000
set_option maxHeartbeats 4000000
namespace Go.Proofs.YtefccfakhgdfbaaGreatDoor
section
structure In14 (last x y n1 n2:Hsh) (g:Nat) (ok:Value) (W:World) (b:Nat→Bool) (a:Act) (w:World):Prop where
 d:a.defers = []
 s:103≤a.tmps.size
 t8:a.tmps.getD 8 undef=.pointer (some ⟨g,0,none⟩)
 t9:a.tmps.getD 9 undef=.pointer (some ⟨g+1,0,none⟩)
 t11:a.tmps.getD 11 undef=.pointer (some ⟨g+1+1,0,none⟩)
 t10:a.tmps.getD 10 undef=ok
 r0:b 0=true→a.tmps.getD 96 undef=.agg (h8 last)
 r1:b 1=true→a.tmps.getD 97 undef=.agg (h8 x)
 r2:b 2=true→a.tmps.getD 98 undef=.agg (h8 n1)
 r3:b 3=true→a.tmps.getD 99 undef=.agg (h8 last)
 r4:b 4=true→a.tmps.getD 100 undef=.agg (h8 y)
 r5:b 5=true→a.tmps.getD 101 undef=.agg (h8 n2)
 r6:b 6=true→a.tmps.getD 102 undef=ok
 h11:Qw w (g+1+1) last
 e8:b 7=false→Qw w g x
 f8:b 7=true→Qw w g n1
 e9:b 8=false→Qw w (g+1) y
 f9:b 8=true→Qw w (g+1) n2
 bel:Below g W w
 c7:b 7=true→b 1=true
 c8:b 8=true→b 4=true
theorem draw14 (last x y n1 n2:Hsh) (g:Nat) (ok:Value) (W:World) {ops:Array Oper} {Q:Exit→Act→World→Prop}
  (r:∀ b:Nat→Bool,∀ i∈Region.ready .any ops (bs b),i<10∧b i=false∧(i=2→b 0=true∧b 1=true)∧(i=5→b 3=true∧b 4=true)∧(i=7→b 1=true∧b 2=true)∧(i=8→b 4=true∧b 5=true)∧(i=9→b 6=true))
  (r0:∀ b:Nat→Bool,left b=0→Region.ready .any ops (bs b) = []) (r1:∀ (b:Nat→Bool) (f:Nat),f+1=left b→Region.ready .any ops (bs b)≠[])
  (o0:∃ (o:Oper),ops[0]?=some o∧o.guard=none∧o.dst=some 96∧o.op=.load 143 (.tmp 11))
  (o1:∃ (o:Oper),ops[1]?=some o∧o.guard=none∧o.dst=some 97∧o.op=.load 143 (.tmp 8))
  (o2:∃ (o:Oper) (ts:Array TypeId),ops[2]?=some o∧o.guard=none∧o.dst=some 98∧o.op=.call { callee:=.value (.func 181),args:=#[.tmp 96,.tmp 97],argTypes:=ts })
  (o3:∃ (o:Oper),ops[3]?=some o∧o.guard=none∧o.dst=some 99∧o.op=.load 143 (.tmp 11))
  (o4:∃ (o:Oper),ops[4]?=some o∧o.guard=none∧o.dst=some 100∧o.op=.load 143 (.tmp 9))
  (o5:∃ (o:Oper) (ts:Array TypeId),ops[5]?=some o∧o.guard=none∧o.dst=some 101∧o.op=.call { callee:=.value (.func 181),args:=#[.tmp 99,.tmp 100],argTypes:=ts })
  (o6:∃ (o:Oper),ops[6]?=some o∧o.guard=none∧o.dst=some 102∧o.op=.move (.tmp 10))
  (o7:∃ (o:Oper),ops[7]?=some o∧o.guard=none∧o.dst=none∧o.op=.store 143 (.tmp 8) (.tmp 98))
  (o8:∃ (o:Oper),ops[8]?=some o∧o.guard=none∧o.dst=none∧o.op=.store 143 (.tmp 9) (.tmp 101))
  (o9:∃ (o:Oper),ops[9]?=some o∧o.guard=none∧o.dst=some 10∧o.op=.assign (.tmp 102))
  (hgW:g≤W.heap.size) (hcf:∀ args w,(callFunc 181 args).run prog w=.ok (.enter 181 args) w) (hn1:∀ w,Calls prog 181 #[.agg (h8 last),.agg (h8 x)] w fun e w'=>e=.returned (.agg (h8 n1))∧Below w.heap.size w w') (hn2:∀ w,Calls prog 181 #[.agg (h8 last),.agg (h8 y)] w fun e w'=>e=.returned (.agg (h8 n2))∧Below w.heap.size w w')
  (hQ:∀ b a w,In14 last x y n1 n2 g ok W b a w→b 7=true→b 8=true→Q .normal a w) :
  ∀ a w,In14 last x y n1 n2 g ok W (fun _=>false) a w→wpAny prog .any ops Q 10 (Array.replicate 10 false) a w:=by
 intro a w h;refine Qmf (fun f L a w=>∃ b,L=bs b∧f=left b∧In14 last x y n1 n2 g ok W b a w) ?_ ?_ 10 _ a w ⟨fun _=>false,rfl,rfl,h⟩
 ·rintro L a w ⟨b,rfl,hf,h⟩
  refine⟨r0 b hf.symm,hQ b a w h ?_ ?_⟩
  ·rcases hh:b 7 with _|_
   ·exfalso;simp only[left,hh,Bool.not_false,Bool.toNat_true] at hf;omega
   ·rfl
  ·rcases hh:b 8 with _|_
   ·exfalso;simp only[left,hh,Bool.not_false,Bool.toNat_true] at hf;omega
   ·rfl
 ·rintro f L a w ⟨b,rfl,hf,h⟩
  refine⟨r1 b f hf,fun i hi=>?_⟩;obtain⟨j,c,d2,d5,d7,d8,d9⟩:=r b i hi;have hL:=Q65 b i j;have hF:=Qv2 b i j c f hf
  have:i=0∨i=1∨i=2∨i=3∨i=4∨i=5∨i=6∨i=7∨i=8∨i=9:=by omega
  rcases this with rfl|rfl|rfl|rfl|rfl|rfl|rfl|rfl|rfl|rfl
  ·obtain⟨o,h1,h2,h3,h4⟩:=o0
   refine J7 h1 h2 (wp_load_row _ _ h4 _ h.t11 _ (h8 last) _ _ h.h11 underlying143 rfl (by rw[info8,h8_size]) ⟨upd b 0,hL,hF,?_⟩);rw[h3];exact { h11:=h.h11,e8:=h.e8,f8:=h.f8,e9:=h.e9,f9:=h.f9,bel:=h.bel,c7:=h.c7,c8:=h.c8,d:=Yd.trans h.d,s:=by rw[Jh];exact h.s,t8:=Qb h.t8 (by decide),t9:=Qb h.t9 (by decide),t11:=Qb h.t11 (by decide),t10:=Qb h.t10 (by decide),r0:=fun _=>Q7 (by have:=h.s;omega),r1:=fun hb=>Qb (h.r1 hb) (by decide),r2:=fun hb=>Qb (h.r2 hb) (by decide),r3:=fun hb=>Qb (h.r3 hb) (by decide),r4:=fun hb=>Qb (h.r4 hb) (by decide),r5:=fun hb=>Qb (h.r5 hb) (by decide),r6:=fun hb=>Qb (h.r6 hb) (by decide) }
  ·obtain⟨o,h1,h2,h3,h4⟩:=o1
   have n7:b 7=false:=by rcases hh:b 7 with _|_;rfl;exact absurd (h.c7 hh) (by rw[c];decide)
   refine J7 h1 h2 (wp_load_row _ _ h4 _ h.t8 _ (h8 x) _ _ (h.e8 n7) underlying143 rfl (by rw[info8,h8_size]) ⟨upd b 1,hL,hF,?_⟩);rw[h3];exact { h11:=h.h11,e8:=h.e8,f8:=h.f8,e9:=h.e9,f9:=h.f9,bel:=h.bel,c7:=fun _=>rfl,c8:=h.c8,d:=Yd.trans h.d,s:=by rw[Jh];exact h.s,t8:=Qb h.t8 (by decide),t9:=Qb h.t9 (by decide),t11:=Qb h.t11 (by decide),t10:=Qb h.t10 (by decide),r0:=fun hb=>Qb (h.r0 hb) (by decide),r1:=fun _=>Q7 (by have:=h.s;omega),r2:=fun hb=>Qb (h.r2 hb) (by decide),r3:=fun hb=>Qb (h.r3 hb) (by decide),r4:=fun hb=>Qb (h.r4 hb) (by decide),r5:=fun hb=>Qb (h.r5 hb) (by decide),r6:=fun hb=>Qb (h.r6 hb) (by decide) }
  ·obtain⟨o,ts,h1,h2,h3,h4⟩:=o2
   have dd:=d2 rfl;refine J7 h1 h2 (Qw0 _ _ _ _ h4 hcf ?_);rw[show a.eval (.tmp 96)=.agg (h8 last) from h.r0 dd.1,show a.eval (.tmp 97)=.agg (h8 x) from h.r1 dd.2];refine (hn1 w).mono ?_;rintro e w' ⟨rfl,hb⟩;refine⟨_,rfl,upd b 2,hL,hF,?_⟩;rw[h3];exact { h11:=Qg h.h11 hb,e8:=fun k=>Qg (h.e8 k) hb,f8:=fun k=>Qg (h.f8 k) hb,e9:=fun k=>Qg (h.e9 k) hb,f9:=fun k=>Qg (h.f9 k) hb,bel:=h.bel.trans (hb.mono (Nat.le_trans hgW h.bel.size)),c7:=h.c7,c8:=h.c8,d:=Yd.trans h.d,s:=by rw[Jh];exact h.s,t8:=Qb h.t8 (by decide),t9:=Qb h.t9 (by decide),t11:=Qb h.t11 (by decide),t10:=Qb h.t10 (by decide),r0:=fun hb=>Qb (h.r0 hb) (by decide),r1:=fun hb=>Qb (h.r1 hb) (by decide),r2:=fun _=>Q7 (by have:=h.s;omega),r3:=fun hb=>Qb (h.r3 hb) (by decide),r4:=fun hb=>Qb (h.r4 hb) (by decide),r5:=fun hb=>Qb (h.r5 hb) (by decide),r6:=fun hb=>Qb (h.r6 hb) (by decide) }
  ·obtain⟨o,h1,h2,h3,h4⟩:=o3
   refine J7 h1 h2 (wp_load_row _ _ h4 _ h.t11 _ (h8 last) _ _ h.h11 underlying143 rfl (by rw[info8,h8_size]) ⟨upd b 3,hL,hF,?_⟩);rw[h3];exact { h11:=h.h11,e8:=h.e8,f8:=h.f8,e9:=h.e9,f9:=h.f9,bel:=h.bel,c7:=h.c7,c8:=h.c8,d:=Yd.trans h.d,s:=by rw[Jh];exact h.s,t8:=Qb h.t8 (by decide),t9:=Qb h.t9 (by decide),t11:=Qb h.t11 (by decide),t10:=Qb h.t10 (by decide),r0:=fun hb=>Qb (h.r0 hb) (by decide),r1:=fun hb=>Qb (h.r1 hb) (by decide),r2:=fun hb=>Qb (h.r2 hb) (by decide),r3:=fun _=>Q7 (by have:=h.s;omega),r4:=fun hb=>Qb (h.r4 hb) (by decide),r5:=fun hb=>Qb (h.r5 hb) (by decide),r6:=fun hb=>Qb (h.r6 hb) (by decide) }
  ·obtain⟨o,h1,h2,h3,h4⟩:=o4
   have n8:b 8=false:=by rcases hh:b 8 with _|_;rfl;exact absurd (h.c8 hh) (by rw[c];decide)
   refine J7 h1 h2 (wp_load_row _ _ h4 _ h.t9 _ (h8 y) _ _ (h.e9 n8) underlying143 rfl (by rw[info8,h8_size]) ⟨upd b 4,hL,hF,?_⟩);rw[h3];exact { h11:=h.h11,e8:=h.e8,f8:=h.f8,e9:=h.e9,f9:=h.f9,bel:=h.bel,c7:=h.c7,c8:=fun _=>rfl,d:=Yd.trans h.d,s:=by rw[Jh];exact h.s,t8:=Qb h.t8 (by decide),t9:=Qb h.t9 (by decide),t11:=Qb h.t11 (by decide),t10:=Qb h.t10 (by decide),r0:=fun hb=>Qb (h.r0 hb) (by decide),r1:=fun hb=>Qb (h.r1 hb) (by decide),r2:=fun hb=>Qb (h.r2 hb) (by decide),r3:=fun hb=>Qb (h.r3 hb) (by decide),r4:=fun _=>Q7 (by have:=h.s;omega),r5:=fun hb=>Qb (h.r5 hb) (by decide),r6:=fun hb=>Qb (h.r6 hb) (by decide) }
  ·obtain⟨o,ts,h1,h2,h3,h4⟩:=o5
   have dd:=d5 rfl;refine J7 h1 h2 (Qw0 _ _ _ _ h4 hcf ?_);rw[show a.eval (.tmp 99)=.agg (h8 last) from h.r3 dd.1,show a.eval (.tmp 100)=.agg (h8 y) from h.r4 dd.2];refine (hn2 w).mono ?_;rintro e w' ⟨rfl,hb⟩;refine⟨_,rfl,upd b 5,hL,hF,?_⟩;rw[h3];exact { h11:=Qg h.h11 hb,e8:=fun k=>Qg (h.e8 k) hb,f8:=fun k=>Qg (h.f8 k) hb,e9:=fun k=>Qg (h.e9 k) hb,f9:=fun k=>Qg (h.f9 k) hb,bel:=h.bel.trans (hb.mono (Nat.le_trans hgW h.bel.size)),c7:=h.c7,c8:=h.c8,d:=Yd.trans h.d,s:=by rw[Jh];exact h.s,t8:=Qb h.t8 (by decide),t9:=Qb h.t9 (by decide),t11:=Qb h.t11 (by decide),t10:=Qb h.t10 (by decide),r0:=fun hb=>Qb (h.r0 hb) (by decide),r1:=fun hb=>Qb (h.r1 hb) (by decide),r2:=fun hb=>Qb (h.r2 hb) (by decide),r3:=fun hb=>Qb (h.r3 hb) (by decide),r4:=fun hb=>Qb (h.r4 hb) (by decide),r5:=fun _=>Q7 (by have:=h.s;omega),r6:=fun hb=>Qb (h.r6 hb) (by decide) }
  ·obtain⟨o,h1,h2,h3,h4⟩:=o6
   refine J7 h1 h2 (BigFrame.wp_move _ h4 ⟨upd b 6,hL,hF,?_⟩);rw[h3,show a.eval (.tmp 10)=ok from h.t10];exact { h11:=h.h11,e8:=h.e8,f8:=h.f8,e9:=h.e9,f9:=h.f9,bel:=h.bel,c7:=h.c7,c8:=h.c8,d:=Yd.trans h.d,s:=by rw[Jh];exact h.s,t8:=Qb h.t8 (by decide),t9:=Qb h.t9 (by decide),t11:=Qb h.t11 (by decide),t10:=Qb h.t10 (by decide),r0:=fun hb=>Qb (h.r0 hb) (by decide),r1:=fun hb=>Qb (h.r1 hb) (by decide),r2:=fun hb=>Qb (h.r2 hb) (by decide),r3:=fun hb=>Qb (h.r3 hb) (by decide),r4:=fun hb=>Qb (h.r4 hb) (by decide),r5:=fun hb=>Qb (h.r5 hb) (by decide),r6:=fun _=>Q7 (by have:=h.s;omega) }
  ·obtain⟨o,h1,h2,h3,h4⟩:=o7
   have dd:=d7 rfl;refine J7 h1 h2 (wp_store_row _ _ _ h4 _ (h8 n1) h.t8 (h.r2 dd.2) _ _ (h.e8 c) (by rw[info8,h8_size]) (by simp) (Qpb n1) ⟨upd b 7,hL,hF,?_⟩);rw[h3];exact { h11:=Qi h.h11 _ (by omega),e8:=fun k=>absurd (show true=false from k) (by decide),f8:=fun _=>Qx (h.e8 c) _,e9:=fun k=>Qi (h.e9 k) _ (by omega),f9:=fun k=>Qi (h.f9 k) _ (by omega),bel:=below_setRow h.bel (by omega) _,c7:=fun _=>dd.1,c8:=h.c8,d:=h.d,s:=h.s,t8:=h.t8,t9:=h.t9,t11:=h.t11,t10:=h.t10,r0:=h.r0,r1:=h.r1,r2:=h.r2,r3:=h.r3,r4:=h.r4,r5:=h.r5,r6:=h.r6 }
  ·obtain⟨o,h1,h2,h3,h4⟩:=o8
   have dd:=d8 rfl;refine J7 h1 h2 (wp_store_row _ _ _ h4 _ (h8 n2) h.t9 (h.r5 dd.2) _ _ (h.e9 c) (by rw[info8,h8_size]) (by simp) (Qpb n2) ⟨upd b 8,hL,hF,?_⟩);rw[h3];exact { h11:=Qi h.h11 _ (by omega),e8:=fun k=>Qi (h.e8 k) _ (by omega),f8:=fun k=>Qi (h.f8 k) _ (by omega),e9:=fun k=>absurd (show true=false from k) (by decide),f9:=fun _=>Qx (h.e9 c) _,bel:=below_setRow h.bel (by omega) _,c7:=h.c7,c8:=fun _=>dd.1,d:=h.d,s:=h.s,t8:=h.t8,t9:=h.t9,t11:=h.t11,t10:=h.t10,r0:=h.r0,r1:=h.r1,r2:=h.r2,r3:=h.r3,r4:=h.r4,r5:=h.r5,r6:=h.r6 }
  ·obtain⟨o,h1,h2,h3,h4⟩:=o9
   refine J7 h1 h2 (BigFrame.wp_assign _ h4 ⟨upd b 9,hL,hF,?_⟩);rw[h3,show a.eval (.tmp 102)=ok from h.r6 (d9 rfl)];exact { h11:=h.h11,e8:=h.e8,f8:=h.f8,e9:=h.e9,f9:=h.f9,bel:=h.bel,c7:=h.c7,c8:=h.c8,d:=Yd.trans h.d,s:=by rw[Jh];exact h.s,t8:=Qb h.t8 (by decide),t9:=Qb h.t9 (by decide),t11:=Qb h.t11 (by decide),t10:=Q7 (by have:=h.s;omega),r0:=fun hb=>Qb (h.r0 hb) (by decide),r1:=fun hb=>Qb (h.r1 hb) (by decide),r2:=fun hb=>Qb (h.r2 hb) (by decide),r3:=fun hb=>Qb (h.r3 hb) (by decide),r4:=fun hb=>Qb (h.r4 hb) (by decide),r5:=fun hb=>Qb (h.r5 hb) (by decide),r6:=fun hb=>Qb (h.r6 hb) (by decide) }
end
section
section
attribute [local go_sem] h8_0 h8_1 h8_2 h8_3 h8_4 h8_5 h8_6 h8_7 Qbm h8_size Qci Qa7
theorem Qm3.below {w w':World} {v:Value} {o:Option Hsh} (h:Qm3 w v o) (hb:Below w.heap.size w w'):Qm3 w' v o:=by
 rcases h with h|⟨g,x,h1,h2,h3⟩
 ·exact .inl h
 ·exact .inr ⟨g,x,h1,h2,Qg h3 hb⟩
set_option maxHeartbeats 16000000 in
theorem Qyv (l:Nat):∀ (p:List Hsh) (m n:Int) (whole:Option Hsh) (v pv:Value) (w:World),p.length=l→Qb1 w v p→Qm3 w pv whole→1≤m→m≤n→n≤9223372036854775807→l≤1048576→
  Calls prog 183 #[.int .i64 m,.int .i64 n,v,pv] w (Qe1 m.toNat n.toNat whole p w):=by
 induction l with
 | zero=>
  intro p m n whole v pv w hp h hw h1 F hn hl;obtain rfl:p = []:=List.eq_nil_of_length_eq_zero hp;by_cases he:m=n
  ·subst he
   rcases id hw with ⟨rfl,rfl⟩|⟨g,x,rfl,rfl,hh⟩
   ·exact Qnj m m _ none v [] w h hw F (.inl ⟨rfl,rfl,by simp⟩) h1
   ·exact Qkc m g x v [] w h hh
  ·exact Qnj m n pv whole v [] w h hw F (.inr ⟨he,rfl⟩) h1
 | succ l ih=>
  intro p m n whole v pv w hp h hw h1 F hn hl;by_cases he:m=n
  ·subst he
   rcases id hw with ⟨rfl,rfl⟩|⟨g,x,rfl,rfl,hh⟩
   ·by_cases hp1:p.length=1
    ·match p,hp1 with
     | [r],_=>exact Qyo m r v w h
    ·exact Qnj m m _ none v p w h hw F (.inl ⟨rfl,rfl,hp1⟩) h1
   ·exact Qkc m g x v p w h hh
  ·obtain⟨q,last,rfl⟩:∃ q last,p=q ++ [last]:=⟨p.dropLast,p.getLast (by intro e;simp[e] at hp),(List.dropLast_concat_getLast _).symm⟩
   have hq:q.length=l:=by simpa using hp
   obtain⟨a,c,hv,_⟩:=id h;rw[hp] at hv;subst hv;obtain⟨b,off,rfl,T,j,G⟩:=Qh4 h hq;have hr:=Qg0 m.toNat n.toNat whole q last;rw[if_neg (by omega)] at hr;have L:=Qe4 (n:=n.toNat) (by omega) (by omega);obtain⟨k,hk⟩:∃ k,k=below n.toNat:=⟨_,rfl⟩
   rw[←hk] at L hr;obtain⟨Z,aa,ac⟩:=L;have HR:=zh hr;have HK:=zh hk;have HW:=zh hw;have HQ:=zh G;have IH:=zh ih;have HL:=zh hq;clear hr hk hw G ih h hq hp;have c0:w.cell? ⟨b,off+l*8,none⟩=some (u8 last[0]):=j 0 (by decide);have c1:=j 1 (by decide);have c2:=j 2 (by decide);have c3:=j 3 (by decide);have c4:=j 4 (by decide);have c5:=j 5 (by decide);have c6:=j 6 (by decide);have c7:=j 7 (by decide);have ab:b<w.heap.size:=Qk c0;have V:b<w.heap.size+1:=by omega
   have W:b<w.heap.size+1+1:=by omega
   have X:((l:Int)+1 == 0)=false:=by rw[beq_eq_false_iff_ne];omega
   have hd:(m == n)=false:=by rw[beq_eq_false_iff_ne];exact he
   have hI:Is8 (((w.alloc (.cells zc 143)).alloc (.cells zc 143)).alloc (.cells zc 143)).drew (w.heap.size+1+1):=⟨zero8,Qo (Qh (by simp))⟩
   clear j
   go_enter func183,ntmps183
   go_wp2_with fail
   go_region;have f1:Qw ((((w.alloc (.cells zc 143)).alloc (.cells zc 143)).alloc (.cells zc 143)).drew.setRow (w.heap.size+1+1) (h8 last)) w.heap.size zero8:=Qi (Qo (Qp (Qp (Qh rfl) _) _)) _ (by omega);have f2:Qw ((((w.alloc (.cells zc 143)).alloc (.cells zc 143)).alloc (.cells zc 143)).drew.setRow (w.heap.size+1+1) (h8 last)) (w.heap.size+1) zero8:=Qi (Qo (Qp (Qh (by simp)) _)) _ (by omega);have f3:Qw ((((w.alloc (.cells zc 143)).alloc (.cells zc 143)).alloc (.cells zc 143)).drew.setRow (w.heap.size+1+1) (h8 last)) (w.heap.size+1+1) last:=Qx (Qo (Qh (by simp))) _;have f4:Below w.heap.size w ((((w.alloc (.cells zc 143)).alloc (.cells zc 143)).alloc (.cells zc 143)).drew.setRow (w.heap.size+1+1) (h8 last)):=below_setRow (((((Qa w _).alloc (by simp) _).alloc (by simp;omega) _).drew)) (by omega) _;have f5:((((w.alloc (.cells zc 143)).alloc (.cells zc 143)).alloc (.cells zc 143)).drew.setRow (w.heap.size+1+1) (h8 last)).heap.size=w.heap.size+1+1+1:=by simp
   have F1:=zh f1;have F2:=zh f2;have F3:=zh f3;have F4:=zh f4;have F5:=zh f5;clear f1 f2 f3 f4 f5 hI c0 c1 c2 c3 c4 c5 c6 c7;generalize ((((w.alloc (.cells zc 143)).alloc (.cells zc 143)).alloc (.cells zc 143)).drew.setRow (w.heap.size+1+1) (h8 last))=W2 at *
   go_wp2_with fail
   refine (Qb2 _ _ (by omega) (by omega)).mono ?_;rintro e w0 ⟨rfl,rfl⟩;rw[←HK.o];have S:=zh (HW.o.below F4.o);by_cases hmk:m≤(k:Int)
   ·go_wp2_with fail
    refine (IH.o q m k whole _ _ _ HL.o (Qe2.below HQ.o F4.o) S.o h1 hmk (by omega) (by omega)).mono ?_;rintro e w1 ⟨x,y,rfl,E,hb⟩;have hz:w.heap.size+3≤w1.heap.size:=by have:=hb.size;rw[F5.o] at this;omega
    have g1:=Qg F1.o hb;have g2:=Qg F2.o hb;have g3:=Qg F3.o hb;have j2:Qw (w1.setRow w.heap.size (h8 x)) (w.heap.size+1) zero8:=Qi g2 _ (by omega);have I:=zh E;have G3:=zh g3;have G1:=zh g1;have F6:=zh (F4.o.trans (hb.mono F4.o.size));clear E hb g3;obtain⟨rt,u⟩:∃ r,r=roots m.toNat (k:Int).toNat whole q:=⟨_,rfl⟩
    rw[←u];have D:=zh u;clear u
    go_wp2_with (refine Qt rfl 143 _ _ rfl _ _ rfl rfl info8 ?_ ?_ ?_;rotate_left;focus ((repeat(first|(with_reducible first|assumption|exact Qj ⟨_,by assumption⟩ _)|((with_reducible first|refine Qh ?_|refine Q2 ?_|refine Qj (Zb ?_) _);(first|rfl|(simp;done)|(simp;omega)))|with_reducible refine Qp ?_ _|((with_reducible refine Qi ?_ _ ?_);rotate_left;(focus(first|(simp;done)|(simp;omega)|omega)))|with_reducible first|refine Qo ?_|refine Qg ?_ (by assumption)));done))
    have a1:Qw ((w1.setRow w.heap.size (h8 x)).setRow (w.heap.size+1) (h8 y)) w.heap.size x:=Qi (Qx G1.o _) _ (by omega);have a2:Qw ((w1.setRow w.heap.size (h8 x)).setRow (w.heap.size+1) (h8 y)) (w.heap.size+1) y:=Qx j2 _;have a3:Qw ((w1.setRow w.heap.size (h8 x)).setRow (w.heap.size+1) (h8 y)) (w.heap.size+1+1) last:=Qi (Qi G3.o _ (by omega)) _ (by omega);have a4:Below w.heap.size w ((w1.setRow w.heap.size (h8 x)).setRow (w.heap.size+1) (h8 y)):=below_setRow (below_setRow F6.o (Nat.le_refl _) _) (by omega) _;have a5:((w1.setRow w.heap.size (h8 x)).setRow (w.heap.size+1) (h8 y)).heap.size=w1.heap.size:=by simp
    have A1:=zh a1;have A2:=zh a2;have A3:=zh a3;have A4:=zh a4;have A5:=zh a5;clear a1 a2 a3 a4 a5 j2 g1 g2;generalize ((w1.setRow w.heap.size (h8 x)).setRow (w.heap.size+1) (h8 y))=W3 at *;have K:w.heap.size+3≤W3.heap.size:=by rw[A5.o];exact hz
    have P:w.heap.size<W3.heap.size:=by omega
    have O:w.heap.size+1<W3.heap.size:=by omega
    have N:w.heap.size+1+1<W3.heap.size:=by omega
    have x0:=Qu A1.o 0 (by decide);have x1:=Qu A1.o 1 (by decide);have x2:=Qu A1.o 2 (by decide);have x3:=Qu A1.o 3 (by decide);have x4:=Qu A1.o 4 (by decide);have x5:=Qu A1.o 5 (by decide);have x6:=Qu A1.o 6 (by decide);have x7:=Qu A1.o 7 (by decide);have y0:=Qu A2.o 0 (by decide);have y1:=Qu A2.o 1 (by decide);have y2:=Qu A2.o 2 (by decide);have y3:=Qu A2.o 3 (by decide);have y4:=Qu A2.o 4 (by decide);have y5:=Qu A2.o 5 (by decide);have y6:=Qu A2.o 6 (by decide);have y7:=Qu A2.o 7 (by decide);have z0:=Qu A3.o 0 (by decide);have z1:=Qu A3.o 1 (by decide);have z2:=Qu A3.o 2 (by decide);have z3:=Qu A3.o 3 (by decide);have z4:=Qu A3.o 4 (by decide);have z5:=Qu A3.o 5 (by decide);have z6:=Qu A3.o 6 (by decide);have z7:=Qu A3.o 7 (by decide)
    go_region_with (go_at_call 181;refine (Qbz y last _).mono ?_;rintro e w4 ⟨rfl,B⟩;have k1:=Qg (Qo A1.o) B;have k2:=Qg (Qo A2.o) B;have Y:w.heap.size+3≤w4.heap.size:=Nat.le_trans K B.size;have i1:Is8 w4 w.heap.size:=⟨_,k1⟩;have i2:Is8 w4 (w.heap.size+1):=⟨_,k2⟩;have i3:Is8 (w4.setRow w.heap.size (h8 x)) (w.heap.size+1):=⟨_,Qi k2 _ (by omega)⟩;have i4:Is8 (w4.setRow (w.heap.size+1) (h8 (Z1 y last))) w.heap.size:=⟨_,Qi k1 _ (by omega)⟩;have R:=zh B;have d0:=Qu k1 0 (by decide);have d1:=Qu k1 1 (by decide);have d2:=Qu k1 2 (by decide);have d3:=Qu k1 3 (by decide);have d4:=Qu k1 4 (by decide);have d5:=Qu k1 5 (by decide);have d6:=Qu k1 6 (by decide);have d7:=Qu k1 7 (by decide);clear B k1 k2)
    all_goals
     go_wp2;have C:roots m.toNat n.toNat whole (q ++ [last])=rt.map (fun z=>(z.1,Z1 z.2 last)):=by rw[HR.o,if_pos (by omega),D.o];rfl
     refine ret88t w.heap.size (w.heap.size+1) x (Z1 y last) (.bool rt.isSome) rfl rfl rfl rfl _ underlying143 info8 (Qi (Qj i1 _) _ (by omega)) (Qj i3 _) rfl ⟨x,Z1 y last,by rw[C,Option.isSome_map],?_,below_setRow (below_setRow ((A4.o.drew).trans (R.o.mono A4.o.drew.size)) (Nat.le_refl _) _) (by omega) _⟩;intro z A;rw[C] at A;obtain⟨z',H,rfl⟩:=Option.map_eq_some_iff.1 A
     have:=I.o z' (by rw[←D.o];exact H)
     subst this;rfl
   ·go_wp2_with fail
    refine (IH.o q (m-k) (n-k) none _ _ _ HL.o (Qe2.below HQ.o F4.o) (.inl ⟨rfl,rfl⟩) (by omega) (by omega) (by omega) (by omega)).mono ?_;rintro e w1 ⟨x,y,rfl,E,hb⟩;have hz:w.heap.size+3≤w1.heap.size:=by have:=hb.size;rw[F5.o] at this;omega
    have g1:=Qg F1.o hb;have g2:=Qg F2.o hb;have g3:=Qg F3.o hb;have j2:Qw (w1.setRow w.heap.size (h8 x)) (w.heap.size+1) zero8:=Qi g2 _ (by omega);have I:=zh E;have G3:=zh g3;have G1:=zh g1;have F6:=zh (F4.o.trans (hb.mono F4.o.size));clear E hb g3;obtain⟨rt,u⟩:∃ r,r=roots (m-k).toNat (n-k).toNat none q:=⟨_,rfl⟩
    rw[←u];have D:=zh u;clear u
    go_wp2_with (refine Qt rfl 143 _ _ rfl _ _ rfl rfl info8 ?_ ?_ ?_;rotate_left;focus ((repeat(first|(with_reducible first|assumption|exact Qj ⟨_,by assumption⟩ _)|((with_reducible first|refine Qh ?_|refine Q2 ?_|refine Qj (Zb ?_) _);(first|rfl|(simp;done)|(simp;omega)))|with_reducible refine Qp ?_ _|((with_reducible refine Qi ?_ _ ?_);rotate_left;(focus(first|(simp;done)|(simp;omega)|omega)))|with_reducible first|refine Qo ?_|refine Qg ?_ (by assumption)));done))
    have a1:Qw ((w1.setRow w.heap.size (h8 x)).setRow (w.heap.size+1) (h8 y)) w.heap.size x:=Qi (Qx G1.o _) _ (by omega);have a2:Qw ((w1.setRow w.heap.size (h8 x)).setRow (w.heap.size+1) (h8 y)) (w.heap.size+1) y:=Qx j2 _;have a3:Qw ((w1.setRow w.heap.size (h8 x)).setRow (w.heap.size+1) (h8 y)) (w.heap.size+1+1) last:=Qi (Qi G3.o _ (by omega)) _ (by omega);have a4:Below w.heap.size w ((w1.setRow w.heap.size (h8 x)).setRow (w.heap.size+1) (h8 y)):=below_setRow (below_setRow F6.o (Nat.le_refl _) _) (by omega) _;have a5:((w1.setRow w.heap.size (h8 x)).setRow (w.heap.size+1) (h8 y)).heap.size=w1.heap.size:=by simp
    have A1:=zh a1;have A2:=zh a2;have A3:=zh a3;have A4:=zh a4;have A5:=zh a5;clear a1 a2 a3 a4 a5 j2 g1 g2;generalize ((w1.setRow w.heap.size (h8 x)).setRow (w.heap.size+1) (h8 y))=W3 at *;have K:w.heap.size+3≤W3.heap.size:=by rw[A5.o];exact hz
    have P:w.heap.size<W3.heap.size:=by omega
    have O:w.heap.size+1<W3.heap.size:=by omega
    have N:w.heap.size+1+1<W3.heap.size:=by omega
    refine wp_region_any (by kernel_rfl) ?_;refine draw14 last x y (Z1 last x) (Z1 last y) w.heap.size (.bool rt.isSome) w ?_ ?_ ?_ ⟨_,rfl,rfl,rfl,rfl⟩ ⟨_,rfl,rfl,rfl,rfl⟩ ⟨_,_,rfl,rfl,rfl,rfl⟩ ⟨_,rfl,rfl,rfl,rfl⟩ ⟨_,rfl,rfl,rfl,rfl⟩ ⟨_,_,rfl,rfl,rfl,rfl⟩ ⟨_,rfl,rfl,rfl,rfl⟩ ⟨_,rfl,rfl,rfl,rfl⟩ ⟨_,rfl,rfl,rfl,rfl⟩ ⟨_,rfl,rfl,rfl,rfl⟩ (Nat.le_refl _) (fun _ _=>by rfl) (Qbz last x) (Qbz last y) ?_ _ _ ?_
    ·intro b i hi
     rw[Region.ready,List.mem_filter] at hi;obtain⟨J,M⟩:=hi;have U:i<10:=List.mem_range.1 J
     have:i=0∨i=1∨i=2∨i=3∨i=4∨i=5∨i=6∨i=7∨i=8∨i=9:=by omega
     clear J;rcases this with rfl|rfl|rfl|rfl|rfl|rfl|rfl|rfl|rfl|rfl <;> simp[bs,Region.binds] at M ⊢ <;> simp[M]
    ·intro b hb
     have hh:∀ c:Bool,(!c).toNat=0→c=true:=by intro c;cases c <;> simp
     unfold left at hb;have k0:=hh (b 0) (by omega);have k1:=hh (b 1) (by omega);have k2:=hh (b 2) (by omega);have k3:=hh (b 3) (by omega);have k4:=hh (b 4) (by omega);have k5:=hh (b 5) (by omega);have k6:=hh (b 6) (by omega);have k7:=hh (b 7) (by omega);have k8:=hh (b 8) (by omega);have k9:=hh (b 9) (by omega);rw[show bs b=#[true,true,true,true,true,true,true,true,true,true] by simp only[bs,k0,k1,k2,k3,k4,k5,k6,k7,k8,k9]];rfl
    ·intro b f hf
     rcases k0:b 0 with _|_
     ·exact List.ne_nil_of_mem (a:=0) (by rw[Region.ready,List.mem_filter];exact⟨List.mem_range.2 (by show 0<10;decide),by simp[bs,Region.binds,k0]⟩)
     rcases k1:b 1 with _|_
     ·exact List.ne_nil_of_mem (a:=1) (by rw[Region.ready,List.mem_filter];exact⟨List.mem_range.2 (by show 1<10;decide),by simp[bs,Region.binds,k0,k1]⟩)
     rcases k2:b 2 with _|_
     ·exact List.ne_nil_of_mem (a:=2) (by rw[Region.ready,List.mem_filter];exact⟨List.mem_range.2 (by show 2<10;decide),by simp[bs,Region.binds,k0,k1,k2]⟩)
     rcases k3:b 3 with _|_
     ·exact List.ne_nil_of_mem (a:=3) (by rw[Region.ready,List.mem_filter];exact⟨List.mem_range.2 (by show 3<10;decide),by simp[bs,Region.binds,k0,k1,k2,k3]⟩)
     rcases k4:b 4 with _|_
     ·exact List.ne_nil_of_mem (a:=4) (by rw[Region.ready,List.mem_filter];exact⟨List.mem_range.2 (by show 4<10;decide),by simp[bs,Region.binds,k0,k1,k2,k3,k4]⟩)
     rcases k5:b 5 with _|_
     ·exact List.ne_nil_of_mem (a:=5) (by rw[Region.ready,List.mem_filter];exact⟨List.mem_range.2 (by show 5<10;decide),by simp[bs,Region.binds,k0,k1,k2,k3,k4,k5]⟩)
     rcases k6:b 6 with _|_
     ·exact List.ne_nil_of_mem (a:=6) (by rw[Region.ready,List.mem_filter];exact⟨List.mem_range.2 (by show 6<10;decide),by simp[bs,Region.binds,k0,k1,k2,k3,k4,k5,k6]⟩)
     rcases k7:b 7 with _|_
     ·exact List.ne_nil_of_mem (a:=7) (by rw[Region.ready,List.mem_filter];exact⟨List.mem_range.2 (by show 7<10;decide),by simp[bs,Region.binds,k0,k1,k2,k3,k4,k5,k6,k7]⟩)
     rcases k8:b 8 with _|_
     ·exact List.ne_nil_of_mem (a:=8) (by rw[Region.ready,List.mem_filter];exact⟨List.mem_range.2 (by show 8<10;decide),by simp[bs,Region.binds,k0,k1,k2,k3,k4,k5,k6,k7,k8]⟩)
     rcases k9:b 9 with _|_
     ·exact List.ne_nil_of_mem (a:=9) (by rw[Region.ready,List.mem_filter];exact⟨List.mem_range.2 (by show 9<10;decide),by simp[bs,Region.binds,k0,k1,k2,k3,k4,k5,k6,k7,k8,k9]⟩)
     exfalso;simp only[left,k0,k1,k2,k3,k4,k5,k6,k7,k8,k9,Bool.not_true,Bool.toNat_false] at hf;omega
    ·rintro c a5 w5 t e7 e8
     go_wp2;have C:roots m.toNat n.toNat whole (q ++ [last])=rt.map (fun z=>(Z1 last z.1,Z1 last z.2)):=by
      rw[HR.o,if_neg (by omega),D.o]
      congr 2 <;> omega
     refine ret88t w.heap.size (w.heap.size+1) (Z1 last x) (Z1 last y) (.bool rt.isSome) rfl t.t8 t.t9 t.t10 _ underlying143 info8 (t.f8 e7) (t.f9 e8) t.d ⟨Z1 last x,Z1 last y,by rw[C,Option.isSome_map],?_,t.bel⟩;intro z A;rw[C] at A;obtain⟨z',H,rfl⟩:=Option.map_eq_some_iff.1 A
     have:=I.o z' (by rw[←D.o];exact H)
     subst this;rfl
    ·have Q:Below w.heap.size w W3.drew:=A4.o.drew
     exact { d:=rfl,s:=Nat.le_refl 103,t8:=rfl,t9:=rfl,t11:=rfl,t10:=rfl,r0:=fun k=>absurd k (by decide),r1:=fun k=>absurd k (by decide),r2:=fun k=>absurd k (by decide),r3:=fun k=>absurd k (by decide),r4:=fun k=>absurd k (by decide),r5:=fun k=>absurd k (by decide),r6:=fun k=>absurd k (by decide),h11:=Qo A3.o,e8:=fun _=>Qo A1.o,f8:=fun k=>absurd k (by decide),e9:=fun _=>Qo A2.o,f9:=fun k=>absurd k (by decide),bel:=Q,c7:=fun k=>absurd k (by decide),c8:=fun k=>absurd k (by decide) }
end
end
section
theorem Qli (p:List Hsh) (a b:Hsh) (m n:Int) (v:Value) (w:World) (h:Qb1 w v p) (hm : -9223372036854775808≤m) (hn:n≤9223372036854775807) (hl:p.length≤1048576) :
  Calls prog 142 #[.int .i64 m,.int .i64 n,.agg (h8 a),.agg (h8 b),v] w fun e w'=>e=.returned (.bool (consistent m n a b p))∧Below w.heap.size w w':=by
 obtain⟨ad,c,hv,_⟩:=id h;by_cases h1:1≤m
 ·have hd:decide (m<1)=false:=decide_eq_false (by omega)
  by_cases hmn:m≤n
  ·have k:decide (n<m)=false:=decide_eq_false (by omega)
   have g:consistent m n a b p=(roots m.toNat n.toNat (some a) p == some (a,b)):=by simp[consistent,h1,hmn]
   have HI:=zh g;have HH:=zh h;have HV:=zh hv;clear g h hv
   go_enter func142,ntmps142
   go_wp2_with fail
   have b0:Below w.heap.size w ((w.alloc (.cells (h8 a) 143)).alloc (.cells (h8 b) 143)):=(Qa w _).alloc (by simp) _;refine (Qyv p.length p m n (some a) v _ _ rfl (Qe2.below HH.o b0) (.inr ⟨w.heap.size,a,rfl,rfl,Qp (Q2 rfl) _⟩) h1 hmn hn hl).mono ?_;rintro e w1 ⟨x,y,rfl,hz,hb⟩;have j:Below w.heap.size w w1:=b0.trans (hb.mono b0.size);have q:w.heap.size+2≤w1.heap.size:=by have:=hb.size;simp at this;omega
   have g1:Qw w1 w.heap.size a:=Qg (Qp (Q2 rfl) _) hb;have g2:Qw w1 (w.heap.size+1) b:=Qg (Q2 (by simp)) hb;have d:=zh j;have HZ:=zh hz;clear hz hb j b0;obtain⟨r,i⟩:∃ r,r=roots m.toNat n.toNat (some a) p:=⟨_,rfl⟩
   rw[←i];have f:=zh i;clear i;have fin:∀ (cs ds:Array Value),Below w.heap.size w ((((w1.alloc (.cells zc 143)).alloc (.cells zc 143)).setRow w1.heap.size cs).setRow (w1.heap.size+1) ds):=fun cs ds=>
    below_setRow (below_setRow ((d.o.alloc d.o.size _).alloc (by simp;have:=d.o.size;omega) _) d.o.size _) (by have:=d.o.size;omega) _
   have FIN:=zh fin;clear fin;have i1:Qw ((w1.alloc (.cells zc 143)).alloc (.cells zc 143)) w1.heap.size zero8:=Qp (Qh rfl) _;have i2:Qw (((w1.alloc (.cells zc 143)).alloc (.cells zc 143)).setRow w1.heap.size (h8 x)) (w1.heap.size+1) zero8:=Qi (Qh (by simp)) _ (by omega);have j1:Qw ((((w1.alloc (.cells zc 143)).alloc (.cells zc 143)).setRow w1.heap.size (h8 x)).setRow (w1.heap.size+1) (h8 y)) w1.heap.size x:=Qi (Qx i1 x) _ (by omega);have j2:Qw ((((w1.alloc (.cells zc 143)).alloc (.cells zc 143)).setRow w1.heap.size (h8 x)).setRow (w1.heap.size+1) (h8 y)) (w1.heap.size+1) y:=Qx i2 y;have j3:Qw ((((w1.alloc (.cells zc 143)).alloc (.cells zc 143)).setRow w1.heap.size (h8 x)).setRow (w1.heap.size+1) (h8 y)) w.heap.size a:=Qi (Qi (Qp (Qp g1 _) _) _ (by omega)) _ (by omega);have j4:Qw ((((w1.alloc (.cells zc 143)).alloc (.cells zc 143)).setRow w1.heap.size (h8 x)).setRow (w1.heap.size+1) (h8 y)) (w.heap.size+1) b:=Qi (Qi (Qp (Qp g2 _) _) _ (by omega)) _ (by omega);cases r with
   | none=>
    go_wp2_with (first|((first|refine Qz rfl 143 _ rfl _ rfl _ underlying143 info8 ?_ ?_ ?_|refine Qt rfl 143 _ _ rfl _ _ rfl rfl info8 ?_ ?_ ?_);rotate_left;focus((repeat(first|(with_reducible first|assumption|exact Qj ⟨_,by assumption⟩ _)|((with_reducible first|refine Qh ?_|refine Q2 ?_|refine Qj (Zb ?_) _);(first|rfl|(simp;done)|(simp;omega)))|with_reducible refine Qp ?_ _|((with_reducible refine Qi ?_ _ ?_);rotate_left;(focus(first|(simp;done)|(simp;omega)|omega)))|with_reducible first|refine Qo ?_|refine Qg ?_ (by assumption)));done)))
    go_ret;exact⟨Ym (by rw[HI.o,←f.o];rfl),FIN.o _ _⟩
   | some z=>
    obtain rfl:(x,y)=z:=HZ.o z f.o.symm;by_cases hx:x=a
    ·subst hx
     have hq:∀ w,Sem.run prog (binOp .eql 143 (.agg (h8 x)) (.agg (h8 x))) w=.ok (Value.bool true) w:=fun w=>by rw[Qlg,show (some x == some x)=true from by simp]
     have l:=fun w=>Qlg w y b
     go_wp2_with (first|((first|refine Qz rfl 143 _ rfl _ rfl _ underlying143 info8 ?_ ?_ ?_|refine Qt rfl 143 _ _ rfl _ _ rfl rfl info8 ?_ ?_ ?_);rotate_left;focus((repeat(first|(with_reducible first|assumption|exact Qj ⟨_,by assumption⟩ _)|((with_reducible first|refine Qh ?_|refine Q2 ?_|refine Qj (Zb ?_) _);(first|rfl|(simp;done)|(simp;omega)))|with_reducible refine Qp ?_ _|((with_reducible refine Qi ?_ _ ?_);rotate_left;(focus(first|(simp;done)|(simp;omega)|omega)))|with_reducible first|refine Qo ?_|refine Qg ?_ (by assumption)));done)))
     go_ret;refine⟨Ym ?_,FIN.o _ _⟩;rw[HI.o,←f.o];show (some y == some b)=(x == x && y == b);simp
    ·have hq:∀ w,Sem.run prog (binOp .eql 143 (.agg (h8 x)) (.agg (h8 a))) w=.ok (Value.bool false) w:=fun w=>by rw[Qlg,show (some x == some a)=false from by simpa using hx]
     go_wp2_with (first|((first|refine Qz rfl 143 _ rfl _ rfl _ underlying143 info8 ?_ ?_ ?_|refine Qt rfl 143 _ _ rfl _ _ rfl rfl info8 ?_ ?_ ?_);rotate_left;focus((repeat(first|(with_reducible first|assumption|exact Qj ⟨_,by assumption⟩ _)|((with_reducible first|refine Qh ?_|refine Q2 ?_|refine Qj (Zb ?_) _);(first|rfl|(simp;done)|(simp;omega)))|with_reducible refine Qp ?_ _|((with_reducible refine Qi ?_ _ ?_);rotate_left;(focus(first|(simp;done)|(simp;omega)|omega)))|with_reducible first|refine Qo ?_|refine Qg ?_ (by assumption)));done)))
     go_ret;refine⟨Ym ?_,FIN.o _ _⟩;rw[HI.o,←f.o];simp[hx]
  ·have k:decide (n<m)=true:=decide_eq_true (by omega)
   clear h;subst hv
   go_enter func142,ntmps142
   go_wp2;go_ret;exact⟨Ym (by simp[consistent];omega),(Qa w _).alloc (by simp) _⟩
 ·have hd:decide (m<1)=true:=decide_eq_true (by omega)
  clear h;subst hv
  go_enter func142,ntmps142
  go_wp2;go_ret;exact⟨Ym (by simp[consistent];omega),(Qa w _).alloc (by simp) _⟩
end
section
open Go.RowKit Go.MuLone
def Qvo (F:Nat→Addr) (w:World) (gc gk mc gn gd:Nat) (vl vt:Value) (qs:List CEnt) (r:Tld×List Hsh×Cl×Nt) (e:Ending) (w':World):Prop:=
 ∃ v y,e=.returned (.tuple #[v,y])∧Qcs w' w.heap.size v r.2.1∧Qpz F w' w.heap.size r.1 y∧
  ∃ qs',ClM 0 w' gc gk mc (.iface 48 (.pointer (some ⟨gn,0,none⟩))) r.2.2.1 qs'∧Y1 w' gn gd vl vt r.2.2.2∧Fr (cnS gc gk mc gn vt qs) w w'∧Sub w (cnS gc gk mc gn vt qs) (cnS gc gk mc gn vt qs')
variable {W:World} {gc:Nat} {v y:Value}
theorem Qc4 {R:Ending→World→Prop} {T:Array Value} (h0:W.cell? ⟨gc,0,none⟩=some (.int .i32 1)) (h1:W.frozen? ⟨gc,0,none⟩=false) (hT2:T.getD 2 undef=v) (hT3:T.getD 3 undef=y)
  (hR:R (.returned (.tuple #[v,y])) (W.setCell ⟨gc,0,none⟩ (.int .i32 0))) :
  bodyPostD prog f85 R Exit.ret { tmps:=T,defers:=[{ target:=.fn (.func 135) #[],args:=#[.pointer (some ⟨gc,0,none⟩)] }] } W:=by
 refine leaves_cons (f:=135) (args:=#[.pointer (some ⟨gc,0,none⟩)]) (by simp) (by simp[go_sem]) ?_;refine (unlock_deferred Q6d ⟨gc,0,none⟩ .returning W h0 h1).mono ?_;rintro e u' w'' ⟨rfl,rfl,rfl⟩;simp only[Leaves,settle];refine⟨.tuple #[v,y],?_,hR⟩;have a2:T[2]?.getD undef=v:=by simpa [Array.getD_eq_getD_getElem?] using hT2
 have a3:T[3]?.getD undef=y:=by simpa [Array.getD_eq_getD_getElem?] using hT3
 simp[results,results85,go_sem,a2,a3]
variable {w:World} {gk mc gn gd:Nat} {vl vt:Value} {qs:List CEnt}
theorem Qe6 {F:Nat→Addr} {qs':List CEnt} {t:Tld} {l:List Hsh} {c':Cl} {n':Nt} (hc:ClM 1 W gc gk mc (.iface 48 (.pointer (some ⟨gn,0,none⟩))) c' qs') (hn:Y1 W gn gd vl vt n') (hf:Fr (cnS gc gk mc gn vt qs) w W) (hs:Sub w (cnS gc gk mc gn vt qs) (cnS gc gk mc gn vt qs'))
  (hv:Qcs W w.heap.size v l) (he:Qpz F W w.heap.size t y):Qvo F w gc gk mc gn gd vl vt qs (t,l,c',n') (.returned (.tuple #[v,y])) (W.setCell ⟨gc,0,none⟩ (.int .i32 0)):=by
 have hF:=Fr.set1 W gc 0 (.int .i32 0);have hk:=Q5 hc.cells;refine⟨v,y,rfl,Zk hv hF hk (by decide),he.fr hF fun k C fz hC=>Yk hk hC (by decide),qs',hc.turn 0,?_,hf.step hF fun i hi e=>.inl (.inl e),hs⟩;exact J1 hn hF hk (by decide) (by decide) (by decide)
theorem Q7b (w:World) (g:Nat) (n:Int) (k:Hsh):Fr (·=g) w (((((((((w.setCell ⟨g,0,none⟩ (.int .i64 n)).setCell ⟨g,1,none⟩ (u8 k[0])).setCell ⟨g,2,none⟩ (u8 k[1])).setCell ⟨g,3,none⟩ (u8 k[2])).setCell ⟨g,4,none⟩ (u8 k[3])).setCell ⟨g,5,none⟩ (u8 k[4])).setCell ⟨g,6,none⟩ (u8 k[5])).setCell ⟨g,7,none⟩ (u8 k[6])).setCell ⟨g,8,none⟩ (u8 k[7])):=(((((((((Fr.set1 w g 0 (.int .i64 n)).set 1 (u8 k[0])).set 2 (u8 k[1])).set 3 (u8 k[2])).set 4 (u8 k[3])).set 5 (u8 k[4])).set 6 (u8 k[5])).set 7 (u8 k[6])).set 8 (u8 k[7]))
variable {g:Nat}
theorem Q9n (h:TrAt w g 0 zero8) (n:Int) (k:Hsh):TrAt (((((((((w.setCell ⟨g,0,none⟩ (.int .i64 n)).setCell ⟨g,1,none⟩ (u8 k[0])).setCell ⟨g,2,none⟩ (u8 k[1])).setCell ⟨g,3,none⟩ (u8 k[2])).setCell ⟨g,4,none⟩ (u8 k[3])).setCell ⟨g,5,none⟩ (u8 k[4])).setCell ⟨g,6,none⟩ (u8 k[5])).setCell ⟨g,7,none⟩ (u8 k[6])).setCell ⟨g,8,none⟩ (u8 k[7])) g n k:=
 (heap_setCell (i:=8) (heap_setCell (i:=7) (heap_setCell (i:=6) (heap_setCell (i:=5) (heap_setCell (i:=4) (heap_setCell (i:=3) (heap_setCell (i:=2) (heap_setCell (i:=1) (heap_setCell (i:=0) h (.int .i64 n)) (u8 k[0])) (u8 k[1])) (u8 k[2])) (u8 k[3])) (u8 k[4])) (u8 k[5])) (u8 k[6])) (u8 k[7])).trans (by simp[trC,bv])
theorem Q3h (w:World) (g:Nat) (n:Int) (k:Hsh):Fr (·=g) w (((((((((w.setCell ⟨g,4,none⟩ (.int .i64 n)).setCell ⟨g,5,none⟩ (u8 k[0])).setCell ⟨g,6,none⟩ (u8 k[1])).setCell ⟨g,7,none⟩ (u8 k[2])).setCell ⟨g,8,none⟩ (u8 k[3])).setCell ⟨g,9,none⟩ (u8 k[4])).setCell ⟨g,10,none⟩ (u8 k[5])).setCell ⟨g,11,none⟩ (u8 k[6])).setCell ⟨g,12,none⟩ (u8 k[7])):=(((((((((Fr.set1 w g 4 (.int .i64 n)).set 5 (u8 k[0])).set 6 (u8 k[1])).set 7 (u8 k[2])).set 8 (u8 k[3])).set 9 (u8 k[4])).set 10 (u8 k[5])).set 11 (u8 k[6])).set 12 (u8 k[7]))
variable {mu:Int} {vf:Value} {c:Cl}
theorem Q60 (h:ClM mu w g gk mc vf c qs) (n:Nat) (k:Hsh):ClM mu (((((((((w.setCell ⟨g,4,none⟩ (.int .i64 n)).setCell ⟨g,5,none⟩ (u8 k[0])).setCell ⟨g,6,none⟩ (u8 k[1])).setCell ⟨g,7,none⟩ (u8 k[2])).setCell ⟨g,8,none⟩ (u8 k[3])).setCell ⟨g,9,none⟩ (u8 k[4])).setCell ⟨g,10,none⟩ (u8 k[5])).setCell ⟨g,11,none⟩ (u8 k[6])).setCell ⟨g,12,none⟩ (u8 k[7])) g gk mc vf { c with size:=n,root:=k } qs:=
 ⟨(heap_setCell (i:=12) (heap_setCell (i:=11) (heap_setCell (i:=10) (heap_setCell (i:=9) (heap_setCell (i:=8) (heap_setCell (i:=7) (heap_setCell (i:=6) (heap_setCell (i:=5) (heap_setCell (i:=4) h.cells (.int .i64 n)) (u8 k[0])) (u8 k[1])) (u8 k[2])) (u8 k[3])) (u8 k[4])) (u8 k[5])) (u8 k[6])) (u8 k[7])).trans (by simp[bv]),h.cache.fr (Q3h w g n k) (fun i hi e=>h.apart i hi e) h.noBytes⟩
theorem Q1x (w:World) (a b:Hsh):Sem.run prog (binOp .neq 143 (.agg (h8 a)) (.agg (h8 b))) w=.ok (Value.bool (!(some a == some b))) w:=by rw[run_neq_struct,eqn];rfl
theorem Q8x (w:World) (a b:Hsh):Sem.run prog (binOp .neq 143 (.agg #[bv a[0],bv a[1],bv a[2],bv a[3],bv a[4],bv a[5],bv a[6],bv a[7]]) (.agg #[bv b[0],bv b[1],bv b[2],bv b[3],bv b[4],bv b[5],bv b[6],bv b[7]])) w=.ok (Value.bool (!decide (a=b))) w:=by
 have h:=Q1x w a b;rw[Qgh,Qgh] at h;rw[h];by_cases e:a=b
 ·simp[e]
 ·simp[e,beq_eq_false_iff_ne.2 e]
theorem ClM.netTurn {w':World} {n:Nt} (h:ClM mu w gc gk mc vf c qs) (hn:Y1 w gn gd vl vt n) (hf:Fr (netS gn vt) w w'):ClM mu w' gc gk mc vf c qs:=by
 have hk:=Qdu hn;refine⟨Zl h.cells hf hk (by decide),Qer h.cache hf hk ?_ (by decide) (by decide) (by decide)⟩;obtain⟨D,⟨es,cl,hb,_⟩,_⟩:=h.cache.km.ex;rintro (e|e)
 ·rw[e,hn.cells] at hb;cases hb
 ·obtain⟨C,hC⟩:=Qe hn.told e
  rw[hC] at hb;cases hb
theorem Qtw {wd w3:World} {gq mq N:Nat} {x:Qv} {s:Cs} {d:Dk} (hF:Fr (cnS gc gk mc gn vt qs) w wd) (hb3:Below wd.heap.size wd w3) (hgq:wd.heap.size≤gq) (hmq:wd.heap.size≤mq)
  (h:QIs W (cQ gq gc gk mc gn gd mq vl vt v c) x N s d) (hf:Fr (QS (cQ gq gc gk mc gn gd mq vl vt v c) ⟨.slice none 0 0,qs,[]⟩) w3 W) (hs:Sub w3 (QS (cQ gq gc gk mc gn gd mq vl vt v c) ⟨.slice none 0 0,qs,[]⟩) (QS (cQ gq gc gk mc gn gd mq vl vt v c) x)) :
  ∃ qs',ClM 1 W gc gk mc (.iface 48 (.pointer (some ⟨gn,0,none⟩))) { c with cache:=s.cache } qs'∧Y1 W gn gd vl vt s.net∧Fr (cnS gc gk mc gn vt qs) w W∧Sub w (cnS gc gk mc gn vt qs) (cnS gc gk mc gn vt qs'):=by
 obtain⟨vo,qs',vs⟩:=x;obtain⟨e1,e2,e3,e4⟩:=Q0n hgq hmq hb3 h hf hs;exact⟨qs',e1,e2,hF.trans e3,fun k hk=>(e4 k hk).imp id fun e=>Nat.le_trans hF.size e⟩
def Q9f:Op:=.convert 147 9 (.tmp 26)
theorem Q4u:Op.convert 147 9 (.tmp 26)=Q9f:=rfl
section
attribute [local go_sem] Q9f
theorem Qzu (F:Nat→Addr) (w:World) (gc gk mc gn gd:Nat) (vl vt v:Value) (c:Cl) (qs:List CEnt) (n:Nt) (d:Dk) (h:ClIs w gc gk mc (.iface 48 (.pointer (some ⟨gn,0,none⟩))) c qs) (hn:Y1 w gn gd vl vt n) (hd:Q1 w gd v d) (hdf:d.files=n.files) (hE:EnvS F (cnS gc gk mc gn vt qs) w)
  (hft:n.fetches<1152921504606000000) (hkey:c.key.size≤9223372036854775807) (hcs:∀ data,Q6 n (sOf kCp)=some data→data.length≤1048576) (hsz:c.size<9223372036854775808)
  (Q:∀ (data:List UInt8) (N:Nat),Q6 n (sOf kCp)=some data→(Zw data c.key.data.toList).2.2=true→(Zw data c.key.data.toList).1=(N:Int)→c.size<N→0<c.size→
   Bnd (askQ (Zy n (sOf kCp)) c.cache) (Zx N (Yb N 0 N c.size).reverse).length∧(Qc0 c.size N (askQ (Zy n (sOf kCp)) c.cache)).1≠.error .panic∧c.cache.items.length+(Zx N (Yb N 0 N c.size).reverse).length<1099511627775) :
  Calls prog 85 #[.pointer (some ⟨gc,0,none⟩)] w (Qvo F w gc gk mc gn gd vl vt qs (Y0 c n)):=by
 obtain⟨R,hR⟩:∃ R,R=Y0 c n:=⟨_,rfl⟩
 have fg:=h.lt;rw[←hR];have H:=zh h;have HN:=zh hn;have HD:=zh hd;have ce:=zh hdf;have HE:=zh hE;have HR:=zh hR;have eh:=zh hcs;have a7:=zh Q;clear h hn hd hdf hE hR hcs Q
 go_enter_defers func85,ntmps85
 go_upto_region 3 with (first
  | (go_at_call 134;refine (Qug H.o).mono ?_;rintro e w1 ⟨rfl,h1,ds,c7⟩;have H1:=zh h1;have b2:=zh ds;have ff:=zh c7;clear h1 ds c7)
  | fail)
 have I:Y1 w1 gn gd vl vt n:=J1 HN.o b2.o (Q5 H.o.cells) (by decide) (by decide) (by decide);have bw:Q1 w1 gd v d:=HD.o.kept b2.o (Q5 H.o.cells) (by decide) (by decide);have ar:=cfetch0 w1 gc gn gd vl vt v n d (sOf kCp) (Qd H1.o.cells 2 rfl) I bw ce.o (by omega);have bh:sOf kCp=⟨#[99,104,101,99,107,112,111,105,110,116]⟩:=by rfl
 have fa:=zh ar;rw[bh] at ar;have d6:=zh ar;have b5:=zh I;have ev:=zh bw;clear I bw ar
 go_upto_region 4 with (first
  | (go_at_call 136;refine d6.o.mono ?_;intro e w2 h2;rw[←bh] at h2;obtain⟨cx,b4,u2,y2,rfl,b8⟩:=h2;have K:=zh cx;have bf:=zh b4;have df:=zh b8;clear cx b4 b8)
  | fail)
 clear bh;have dm:ClM 1 w2 gc gk mc (.iface 48 (.pointer (some ⟨gn,0,none⟩))) c qs:=H1.o.netTurn b5.o bf.o;have be:Fr (cnS gc gk mc gn vt qs) w w2:=(b2.o.weak fun _ _ e=>.inl (.inl e)).trans (bf.o.weak fun _ _ e=>.inr e);have cr:EnvS F (cnS gc gk mc gn vt qs) w2:=HE.o.fr be;have e1:=df.o;have S:=zh dm;have P:=zh be;have bd:=zh cr;clear dm be cr df;rcases e1 with ⟨data,av,rfl,dn,a,k,cc,rfl⟩|⟨cf,⟨q9,rfl⟩,a,k,cc,rfl⟩
 rotate_left
 ·have d8:=zh cf
  have hg:=bd.o.sents.cells.2.2.1;clear cf;go_wp2;go_region
  all_goals (
   go_wp2
   refine Qc4 (v:=.slice none 0 0) (y:=.iface 370 (.pointer (some (F 2)))) (Qd (w:=w2.drew) S.o.cells 0 rfl) (Qs (w:=w2.drew) S.o.cells 0) rfl rfl ?_
   have r:R=((3,⟨#[]⟩),[],c,Zy n (sOf kCp)):=by
    rw[HR.o]
    unfold Y0
    rw[d8.o]
   rw[r]
   exact Qe6 (S.o.below (Qn w2)) (K.o.below (Qn w2)) P.o.drew (Sub.refl _ _) (World.ownsRow_nil _ _ _ _) (.inr (.inl ⟨2,by decide,by decide,rfl,rfl⟩)))
 obtain⟨q,hq⟩:∃ q,q=Zw data c.key.data.toList:=⟨_,rfl⟩
 have bm:=eh.o data av;have ae:=Js data c.key.data.toList;rw[←hq] at ae;have az:∀ W,Below w2.heap.size w2 W→Sem.run prog (convert 147 9 (.slice a k cc)) W=.ok (.string (sOf data)) W:=fun W hW=>Qeu (dn.at.below hW)
 have aw:∀ W,Below w2.heap.size w2 W→Calls prog 137 #[.string (sOf data),.string c.key] W (Qjc q W):=fun W hW=>by have h1:=Qoq (sOf data) c.key W (by rw[Qb0];exact bm) hkey (bd.o.below hW).num;rw[show (sOf data).data.toList=data by simp[sOf],←hq] at h1;exact h1
 obtain⟨qn,qh,qb⟩:=q;have fd:=az w2.drew (Qn w2);have bk:=zh av;have HQ:=zh hq;have dy:=zh ae;have ay:=zh aw;have er:=zh az;clear av dn hq bm ae aw az
 go_upto_region 6 with fail
 go_cut [6,7] from 25 to 34 (fun s6 s7 wx=>∃ q6,s6=.pointer (some ⟨q6,0,none⟩)∧s7=.bool qb∧Aside (TrAt wx q6 qn qh)∧Aside (Below w2.heap.size w2 wx)∧w2.heap.size≤q6)
 case first=>
  have O:gc<w2.heap.size:=S.o.lt;have ad:¬ gc=w2.heap.size:=by omega
  have k1:w2.cell? ⟨gc,3,none⟩=some (.string c.key):=Qd S.o.cells 3 rfl;have e4:w2.drew.cell? ⟨gc,3,none⟩=some (.string c.key):=k1;have ex:(w2.alloc (.cells #[.int .i64 0,.int .u8 0,.int .u8 0,.int .u8 0,.int .u8 0,.int .u8 0,.int .u8 0,.int .u8 0,.int .u8 0] 145)).drew.cell? ⟨gc,3,none⟩=some (.string c.key):=((Qa w2 _).cell (p:=⟨gc,3,none⟩) O).trans k1;have fc:=er.o (w2.alloc (.cells #[.int .i64 0,.int .u8 0,.int .u8 0,.int .u8 0,.int .u8 0,.int .u8 0,.int .u8 0,.int .u8 0,.int .u8 0] 145)).drew ((Qa w2 _).drew);rw[Q4u]
  go_region_held3 (fun w'=>w'.cell? ⟨gc,3,none⟩=some (.string c.key)) (first|(with_reducible first|exact e4|exact m1|exact ex|exact cu|exact (Q7b w7 _ _ _).cell m1 ad)|exact ((Qa w7 _).cell (p:=⟨gc,3,none⟩) ah).trans m1|fail) (first|(go_at_call 137;refine (ay.o _ (Qn w2)).mono ?_;rintro e w7 ⟨rfl,D⟩;have b:=zh (show Below w2.heap.size w2 w7 from (Qn w2).trans D);have m1:=(b.o.cell (p:=⟨gc,3,none⟩) O).trans k1;have ah:=Nat.lt_of_lt_of_le O b.o.size;have cu:(w7.alloc (.cells #[.int .i64 0,.int .u8 0,.int .u8 0,.int .u8 0,.int .u8 0,.int .u8 0,.int .u8 0,.int .u8 0,.int .u8 0] 145)).cell? ⟨gc,3,none⟩=some (.string c.key):=((Qa w7 _).cell (p:=⟨gc,3,none⟩) ah).trans m1;clear D)|(go_at_call 137;refine (ay.o _ ((Qn w2).alloc (Nat.le_refl _) _)).mono ?_;rintro e w7 ⟨rfl,D⟩;have b:=zh (show Below w2.heap.size w2 w7 from ((Qn w2).alloc (Nat.le_refl _) _).trans (D.mono (by simp)));have m1:=(b.o.cell (p:=⟨gc,3,none⟩) O).trans k1;have ah:=Nat.lt_of_lt_of_le O b.o.size;have cu:(w7.alloc (.cells #[.int .i64 0,.int .u8 0,.int .u8 0,.int .u8 0,.int .u8 0,.int .u8 0,.int .u8 0,.int .u8 0,.int .u8 0] 145)).cell? ⟨gc,3,none⟩=some (.string c.key):=((Qa w7 _).cell (p:=⟨gc,3,none⟩) ah).trans m1;have ak:=zh (TrAt.below (show TrAt (w2.drew.alloc (.cells (trC 0 zero8) 145)) w2.heap.size 0 zero8 from heap_alloc_new w2.drew _) D);have ⟨n0,n1,n2,n3,n4,n5,n6,n7,n8⟩:=ak.o.cells;have nf:=(fun i=>Qs ak.o i:∀ i,w7.frozen? ⟨w2.heap.size,i,none⟩=false);have nb:=Qc ak.o;clear D)|fail)
  all_goals (
   go_wp2_with fail
   go_meet
   show ∃ q6,_∧_∧Aside (TrAt _ q6 qn qh)∧Aside (Below w2.heap.size w2 _)∧w2.heap.size≤q6
   first
    | (
      refine⟨w7.heap.size,rfl,rfl,?_,?_,b.o.size⟩
      ·show TrAt _ _ _ _
       exact heap_alloc_new w7 _
      ·show Below _ _ _
       exact b.o.alloc b.o.size _)
    | (
      refine⟨w2.heap.size,rfl,rfl,?_,?_,Nat.le_refl _⟩
      ·show TrAt _ _ _ _
       exact Q9n ak.o qn qh
      ·show Below _ _ _
       exact b.o.trans ((Q7b w7 w2.heap.size qn qh).below b.o.size fun k hk e=>by omega)))
 case rest=>
  obtain⟨q6,rfl,rfl,bo,j,e9⟩:=hcut;have f:=zh (S.o.below j.o);have co:=zh (bd.o.below j.o);have e0:=bo.o.cells.1;have U:wc.cell? ⟨gc,4,none⟩=some (.int .i64 c.size):=Qd f.o.cells 4 rfl;obtain⟨_,_,g2,g3,g4,_,_⟩:=co.o.sents.cells;cases qb with
  | false=>
   go_wp2;go_region
   all_goals (
    go_wp2
    refine Qc4 (v:=.slice none 0 0) (y:=.iface 370 (.pointer (some (F 2)))) (Qd (w:=wc.drew) f.o.cells 0 rfl) (Qs (w:=wc.drew) f.o.cells 0) rfl rfl ?_
    have r:R=((3,⟨#[]⟩),[],c,Zy n (sOf kCp)):=by
     rw[HR.o]
     unfold Y0
     rw[bk.o]
     dsimp only
     rw[←HQ.o]
     rfl
    rw[r]
    exact Qe6 (f.o.below (Qn wc)) ((K.o.below j.o).below (Qn wc)) ((P.o.trans (Fr.ofBelow j.o)).drew) (Sub.refl _ _) (World.ownsRow_nil _ _ _ _) (.inr (.inl ⟨2,by decide,by decide,rfl,rfl⟩)))
  | true=>
   obtain⟨p1,p2,_⟩:=dy.o.1 rfl;dsimp only at p1 p2;obtain⟨N,rfl⟩:∃ N:Nat,qn=N:=⟨qn.toNat,by omega⟩
   have ca:Y0 c n=(if N<c.size then ((4,⟨#[]⟩),[],c,Zy n (sOf kCp)) else
     if N=c.size then (if qh=c.root then (Qdk,[],c,Zy n (sOf kCp)) else ((5,⟨#[]⟩),[],c,Zy n (sOf kCp))) else
     if c.size=0 then (Qdk,[],{ c with size:=N,root:=qh },Zy n (sOf kCp)) else
     match Qc0 c.size N (askQ (Zy n (sOf kCp)) c.cache) with
     | (.error (.miss p),s)=>((6,p),[],{ c with cache:=s.cache },s.net)
     | (.error .panic,s)=>((99,⟨#[]⟩),[],{ c with cache:=s.cache },s.net)
     | (.ok l,s)=>if consistent c.size N c.root qh l=true then (Qdk,l,{ c with size:=N,root:=qh,cache:=Je s.cache s.files },s.net) else ((5,⟨#[]⟩),[],{ c with cache:=s.cache },s.net)):=by
    unfold Y0;rw[bk.o];dsimp only;rw[←HQ.o];dsimp only;rw[if_neg (by decide),Int.toNat_natCast];rfl
   have Z:=zh ca;have Q:=fun h1 h2=>a7.o data N bk.o (by rw[←HQ.o]) (by rw[←HQ.o]) h1 h2
   have eq:=zh Q;clear ca Q a7;rcases Nat.lt_trichotomy N c.size with hl|hl|hl
   ·have fe:(N:Int)<(c.size:Int):=by omega
    have A:=zh hl;clear hl
    go_upto_region 9 with fail
    go_region
    all_goals (
     go_wp2
     go_region
     all_goals (
      go_wp2
      have hb:Below wc.heap.size wc wc.drew.drew:=(Qn wc).drew
      refine Qc4 (v:=.slice none 0 0) (y:=.iface 370 (.pointer (some (F 3)))) (Qd (w:=wc.drew.drew) f.o.cells 0 rfl) (Qs (w:=wc.drew.drew) f.o.cells 0) rfl rfl ?_
      have r:R=((4,⟨#[]⟩),[],c,Zy n (sOf kCp)):=by rw[HR.o,Z.o,if_pos A.o]
      rw[r]
      exact Qe6 (f.o.below hb) ((K.o.below j.o).below hb) (P.o.trans (Fr.ofBelow (j.o.trans (hb.mono j.o.size)))) (Sub.refl _ _) (World.ownsRow_nil _ _ _ _) (.inr (.inl ⟨3,by decide,by decide,rfl,rfl⟩))))
   ·have e6:wc.cell? ⟨gc,4,none⟩=some (.int .i64 N):=by rw[hl];exact U
    have A:=zh hl;obtain⟨_,t1,t2,t3,t4,t5,t6,t7,t8⟩:=bo.o.cells;have k0:wc.cell? ⟨gc,5,none⟩=some (bv c.root[0]):=Qd f.o.cells 5 rfl;have k1:wc.cell? ⟨gc,6,none⟩=some (bv c.root[1]):=Qd f.o.cells 6 rfl;have k2:wc.cell? ⟨gc,7,none⟩=some (bv c.root[2]):=Qd f.o.cells 7 rfl;have k3:wc.cell? ⟨gc,8,none⟩=some (bv c.root[3]):=Qd f.o.cells 8 rfl;have k4:wc.cell? ⟨gc,9,none⟩=some (bv c.root[4]):=Qd f.o.cells 9 rfl;have k5:wc.cell? ⟨gc,10,none⟩=some (bv c.root[5]):=Qd f.o.cells 10 rfl;have k6:wc.cell? ⟨gc,11,none⟩=some (bv c.root[6]):=Qd f.o.cells 11 rfl;have k7:wc.cell? ⟨gc,12,none⟩=some (bv c.root[7]):=Qd f.o.cells 12 rfl;have ey:=fun W=>Q8x W qh c.root
    obtain⟨eb,b0⟩:∃ eb,eb=decide (qh=c.root):=⟨_,rfl⟩
    rw[←b0] at ey;have dw:=zh b0;clear hl U b0
    go_upto_region 9 with fail
    go_region
    all_goals (
     go_upto_region 11 with fail
     cases eb with
     | false=>
      go_quiet (fail)
      go_wp2
      go_region
      all_goals (
       go_wp2
       have hb:Below wc.heap.size wc (wc.drewN (1+nq+1)):=Ze (Below.refl _ _) _
       refine Qc4 (v:=.slice none 0 0) (y:=.iface 370 (.pointer (some (F 4)))) (Qd (w:=wc.drewN (1+nq+1)) f.o.cells 0 rfl) (Qs (w:=wc.drewN (1+nq+1)) f.o.cells 0) rfl rfl ?_
       have r:R=((5,⟨#[]⟩),[],c,Zy n (sOf kCp)):=by rw[HR.o,Z.o,if_neg (by rw[A.o];exact Nat.lt_irrefl _),if_pos A.o,if_neg (of_decide_eq_false dw.o.symm)]
       rw[r]
       exact Qe6 (f.o.below hb) ((K.o.below j.o).below hb) (P.o.trans (Fr.ofBelow (j.o.trans (hb.mono j.o.size)))) (Sub.refl _ _) (World.ownsRow_nil _ _ _ _) (.inr (.inl ⟨4,by decide,by decide,rfl,rfl⟩)))
     | true=>
      go_quiet (fail)
      go_wp2
      go_region
      all_goals (
       try go_wp2
       have hb:Below wc.heap.size wc (wc.drewN (1+nq+1)):=Ze (Below.refl _ _) _
       refine Qc4 (v:=.slice none 0 0) (y:=.nilIface) (Qd (w:=wc.drewN (1+nq+1)) f.o.cells 0 rfl) (Qs (w:=wc.drewN (1+nq+1)) f.o.cells 0) rfl rfl ?_
       have r:R=(Qdk,[],c,Zy n (sOf kCp)):=by rw[HR.o,Z.o,if_neg (by rw[A.o];exact Nat.lt_irrefl _),if_pos A.o,if_pos (of_decide_eq_true dw.o.symm)]
       rw[r]
       exact Qe6 (f.o.below hb) ((K.o.below j.o).below hb) (P.o.trans (Fr.ofBelow (j.o.trans (hb.mono j.o.size)))) (Sub.refl _ _) (World.ownsRow_nil _ _ _ _) (.inl ⟨rfl,rfl⟩)))
   ·have d3:¬ (N:Int)<(c.size:Int):=by omega
    have ad:((N:Int) == (c.size:Int))=false:=by rw[beq_eq_false_iff_ne];omega
    have A:=zh hl;have d1:N<9223372036854775808:=by omega
    clear hl
    go_upto_region 9 with fail
    go_region
    all_goals (
     go_upto_region 11 with fail
     go_quiet (fail)
     go_upto_region 13 with fail
     go_region
     all_goals (
      go_upto_region 15 with fail
      obtain⟨wd,bz⟩:∃ wd,wd=wc.drewN (1+nq+1):=⟨_,rfl⟩
      have dc:Below wc.heap.size wc wd:=by rw[bz];exact Ze (Below.refl _ _) _
      have J:=zh dc
      rw[←bz]
      clear bz dc U e0 ad d3 g2 g3 g4
      have t:=zh (f.o.below J.o)
      have a0:=zh (bo.o.below J.o)
      have d4:wd.cell? ⟨gc,4,none⟩=some (.int .i64 c.size):=Qd t.o.cells 4 rfl
      obtain⟨t0,t1,t2,t3,t4,t5,t6,t7,t8⟩:=a0.o.cells
      rcases Nat.eq_zero_or_pos c.size with hz|hz
      ·have dr:(c.size:Int)=0:=by omega
       rw[dr] at d4
       have HZ:=zh hz
       clear hz dr
       have k0:wd.cell? ⟨gc,5,none⟩=some (bv c.root[0]):=Qd t.o.cells 5 rfl
       have k1:wd.cell? ⟨gc,6,none⟩=some (bv c.root[1]):=Qd t.o.cells 6 rfl
       have k2:wd.cell? ⟨gc,7,none⟩=some (bv c.root[2]):=Qd t.o.cells 7 rfl
       have k3:wd.cell? ⟨gc,8,none⟩=some (bv c.root[3]):=Qd t.o.cells 8 rfl
       have k4:wd.cell? ⟨gc,9,none⟩=some (bv c.root[4]):=Qd t.o.cells 9 rfl
       have k5:wd.cell? ⟨gc,10,none⟩=some (bv c.root[5]):=Qd t.o.cells 10 rfl
       have k6:wd.cell? ⟨gc,11,none⟩=some (bv c.root[6]):=Qd t.o.cells 11 rfl
       have k7:wd.cell? ⟨gc,12,none⟩=some (bv c.root[7]):=Qd t.o.cells 12 rfl
       have kf:∀ i,wd.frozen? ⟨gc,i,none⟩=false:=fun i=>Qs t.o.cells i
       have kgc:=Qc t.o.cells
       go_upto_region 16 with fail
       go_upto_region 17 with (first|(refine Yz rfl _ rfl _ rfl _ _ a0.o ?_)|fail)
       go_wp2
       have hq:=Q60 t.o N qh
       refine Qc4 (v:=.slice none 0 0) (y:=.nilIface) (Qd hq.cells 0 rfl) (Qs hq.cells 0) rfl rfl ?_
       have r:R=(Qdk,[],{ c with size:=N,root:=qh },Zy n (sOf kCp)):=by rw[HR.o,Z.o,if_neg (by have:=A.o;omega),if_neg (by have:=A.o;omega),if_pos HZ.o]
       rw[r]
       have hF:=Q3h wd gc N qh
       have hk:=Q5 t.o.cells
       exact Qe6 hq (J1 ((K.o.below j.o).below J.o) hF hk (by decide) (by decide) (by decide)) ((P.o.trans (Fr.ofBelow (j.o.trans (J.o.mono j.o.size)))).step hF fun i hi e=>.inl (.inl e)) (Sub.refl _ _) (World.ownsRow_nil _ _ _ _) (.inl ⟨rfl,rfl⟩)
      ·have e7:((c.size:Int) == 0)=false:=by rw[beq_eq_false_iff_ne];omega
       obtain⟨n1,I⟩:∃ n1,n1=Zy n (sOf kCp):=⟨_,rfl⟩
       have bx:d.files=n1.files:=by rw[I,(Yj n (sOf kCp)).2.1];exact ce.o
       obtain⟨ai,aa,c4⟩:=eq.o A.o hz
       have cp:Y1 wd gn gd vl vt n1:=by rw[I];exact (K.o.below j.o).below J.o
       have cy:Q1 wd gd v d:=((ev.o.kept bf.o (Qdu b5.o) (by decide) (by decide)).below j.o).below J.o
       have b9:EnvS F (cnS gc gk mc gn vt qs) wd:=co.o.below J.o
       have T:=Z.o
       rw[if_neg (by have:=A.o;omega),if_neg (by have:=A.o;omega),if_neg (by omega)] at T
       rw[←I] at T ai aa
       obtain⟨s0,b1⟩:∃ s,s=askQ n1 c.cache:=⟨_,rfl⟩
       rw[←b1] at T ai aa
       obtain⟨o2,s2,bu⟩:∃ o s,Qc0 c.size N s0=(o,s):=⟨_,_,rfl⟩
       rw[bu] at T aa
       have bi:Fr (cnS gc gk mc gn vt qs) w wd:=P.o.trans (Fr.ofBelow (j.o.trans (J.o.mono j.o.size)))
       have X:=zh bi
       have HZ:=zh hz
       have bl:=zh T
       have ee:=zh ai
       have ek:=zh aa
       have ew:=zh c4
       have el:=zh cp
       have ep:=zh cy
       have ei:=zh b9
       have dz:=zh bx
       have ba:=zh b1
       have al:=zh bu
       clear hz ai aa c4 cp cy b9 T b1 bu bx I bi t1 t2 t3 t4 t5 t6 t7 t8
       go_upto_region 19 with (first
        | (go_at_call 138;refine (Qws wd gc N).mono ?_;rintro e w3 ⟨gq,mq,rfl,cw,de,dg,an,M⟩;have ej:=zh cw;have ed:=zh de;have C:=zh dg;clear cw de dg)
        | fail)
       have ac:=Q7d (N:=N) t.o el.o ep.o dz.o (fun z hz=>by cases hz) C.o ej.o ed.o M
       rw[←ba.o] at ac
       have bc:EnvS F (QS (cQ gq gc gk mc gn gd mq vl vt v c) ⟨.slice none 0 0,qs,[]⟩) w3:=ei.o.step (Fr.ofBelow C.o) fun k hk=>by
        rcases Nat.lt_or_ge k wd.heap.size with au|bt
        ·exact .inl (Qqk an M au hk)
        ·exact .inr bt
       have a8:=fun W hW g1 g3 hc=>Qyd F W (cQ gq gc gk mc gn gd mq vl vt v c) ⟨.slice none 0 0,qs,[]⟩ N s0 d (ac.below hW) (bc.below hW) g1 g3 hc c.size N HZ.o (Nat.le_of_lt A.o) (Nat.le_refl _) d1 ee.o (by show (Qc0 c.size N s0).1≠_;rw[al.o];exact ek.o)
       rw[show Zf N (Yb N 0 N c.size).reverse s0=(o2,s2) from al.o] at a8
       have cj:=fun W hW=>Qlu W (cQ gq gc gk mc gn gd mq vl vt v c) ⟨.slice none 0 0,qs,[]⟩ N s0 d (ac.below hW)
       have ao:=a0.o.below C.o
       have E:w3.cell? ⟨gc,4,none⟩=some (.int .i64 c.size):=Qd (t.o.below C.o).cells 4 rfl
       have V:w3.drew.cell? ⟨gc,4,none⟩=some (.int .i64 c.size):=E
       have r0:w3.cell? ⟨q6,0,none⟩=some (.int .i64 N):=ao.cells.1
       have ap:w3.drew.cell? ⟨q6,0,none⟩=some (.int .i64 N):=r0
       have d7:gc<w3.heap.size:=Qc (t.o.below C.o).cells
       have d5:q6<w3.heap.size:=Qc ao
       have ec:=zh ac
       have ea:=zh bc
       have ez:=zh a8
       have em:=zh cj
       have ef:=zh ao
       clear ac bc a8 cj ao
       go_region_held3 (fun w'=>w'.cell? ⟨gc,4,none⟩=some (.int .i64 c.size)∧w'.cell? ⟨q6,0,none⟩=some (.int .i64 N)) (first|with_reducible exact⟨E,r0⟩|with_reducible exact⟨V,ap⟩|with_reducible exact⟨bn,n0⟩|with_reducible exact⟨db,f0⟩|fail) (first
        | (go_at_call 140;refine (em.o _ (Qn w3)).mono ?_;rintro e w4 ⟨g1,g3,rfl,U,dp⟩;have en:=zh U;have G:=zh (show Below w3.heap.size w3 w4 from (Qn w3).trans dp);have bn:=(G.o.cell (p:=⟨gc,4,none⟩) d7).trans E;have n0:=(G.o.cell (p:=⟨q6,0,none⟩) d5).trans r0;clear U dp)
        | (go_at_call 139;refine (ez.o w4 G.o g1 g3 en.o).mono ?_;intro e w5 h5;obtain⟨v5,y5,rfl,⟨x5,bj,a9,cg⟩,dv⟩:=Qxg h5;have af:=zh bj;have eu:=zh a9;have e2:=zh cg;have c8:=zh dv;have ag:=zh (show TrAt w5 q6 N qh from Zl (ef.o.below G.o) a9 (Qpm (ec.o.below G.o)) (by decide));have db:w5.cell? ⟨gc,4,none⟩=some (.int .i64 c.size):=Qd bj.cli 4 rfl;have f0:w5.cell? ⟨q6,0,none⟩=some (.int .i64 N):=ag.o.cells.1;clear h5 bj a9 cg dv)
        | fail)
       all_goals (
        have cb:Fr (QS (cQ gq gc gk mc gn gd mq vl vt v c) ⟨.slice none 0 0,qs,[]⟩) w3 w5:=(Fr.ofBelow G.o).trans eu.o
        have cl:Sub w3 (QS (cQ gq gc gk mc gn gd mq vl vt v c) ⟨.slice none 0 0,qs,[]⟩) (QS (cQ gq gc gk mc gn gd mq vl vt v c) x5):=e2.o.mono G.o.size
        have bb:w5.heap[gc]?=some (.cells (cliC 1 (.iface 48 (.pointer (some ⟨gn,0,none⟩))) c.key c.size c.root gk) 205 (0,0)):=af.o.cli
        have b6:w.heap.size≤w4.heap.size:=Nat.le_trans X.o.size (Nat.le_trans C.o.size G.o.size)
        have et:=c8.o
        have aq:=zh cb
        have L:=zh cl
        have m:=zh bb
        have cs:=zh b6
        clear cb cl bb b6 c8 db f0
        rcases et with ⟨l5,bp,rfl,b3⟩|⟨p,du,rfl,⟨ge,rfl⟩,dj⟩
        rotate_left
        ·have d9:=zh du
         have eg:=zh dj
         clear du dj
         go_wp2
         refine Qc4 (v:=.slice none 0 0) (y:=.iface 219 (.pointer (some ⟨ge,0,none⟩))) (Qd m.o 0 rfl) (Qs m.o 0) rfl rfl ?_
         have r:R=((6,p),[],{ c with cache:=s2.cache },s2.net):=by
          have d2:o2=.error (.miss p):=d9.o
          rw[HR.o,bl.o,d2]
         rw[r]
         obtain⟨qs',u1,u2,u3,u4⟩:=Qtw X.o C.o an M af.o aq.o L.o
         exact Qe6 u1 u2 u3 u4 (World.ownsRow_nil _ _ _ _) (.inr (.inr ⟨p,rfl,Y8.low eg.o cs.o⟩))
        ·have bp:o2=.ok l5:=bp
         subst bp
         have ci:l5.length≤1048576:=by
          have e:=Qh5 N (Yb N 0 N c.size).reverse s0 s2 l5 al.o
          have:=Qdq N 63 0 N c.size (by omega) (Nat.le_refl _) HZ.o
          rw[e,List.length_reverse]
          omega
         have br:∀ W,Below w5.heap.size w5 W→Calls prog 142 #[.int .i64 c.size,.int .i64 N,.agg #[bv c.root[0],bv c.root[1],bv c.root[2],bv c.root[3],bv c.root[4],bv c.root[5],bv c.root[6],bv c.root[7]],.agg #[bv qh[0],bv qh[1],bv qh[2],bv qh[3],bv qh[4],bv qh[5],bv qh[6],bv qh[7]],v5] W fun e w'=>e=.returned (.bool (consistent c.size N c.root qh l5))∧Below W.heap.size W w':=fun W hW=>by
          have:=Qli l5 c.root qh c.size N v5 W (Qcs.at (Ql b3 hW)) (by omega) (by omega) ci
          rw[Qgh,Qgh] at this
          exact this
         obtain⟨ib,bq⟩:∃ x,x=consistent c.size N c.root qh l5:=⟨_,rfl⟩
         rw[←bq] at br
         have E:w5.cell? ⟨gc,4,none⟩=some (.int .i64 c.size):=Qd m.o 4 rfl
         have V:w5.drew.cell? ⟨gc,4,none⟩=some (.int .i64 c.size):=E
         have k0:w5.cell? ⟨gc,5,none⟩=some (bv c.root[0]):=Qd m.o 5 rfl
         have k1:w5.cell? ⟨gc,6,none⟩=some (bv c.root[1]):=Qd m.o 6 rfl
         have k2:w5.cell? ⟨gc,7,none⟩=some (bv c.root[2]):=Qd m.o 7 rfl
         have k3:w5.cell? ⟨gc,8,none⟩=some (bv c.root[3]):=Qd m.o 8 rfl
         have k4:w5.cell? ⟨gc,9,none⟩=some (bv c.root[4]):=Qd m.o 9 rfl
         have k5:w5.cell? ⟨gc,10,none⟩=some (bv c.root[5]):=Qd m.o 10 rfl
         have k6:w5.cell? ⟨gc,11,none⟩=some (bv c.root[6]):=Qd m.o 11 rfl
         have k7:w5.cell? ⟨gc,12,none⟩=some (bv c.root[7]):=Qd m.o 12 rfl
         have c0:w5.drew.cell? ⟨gc,5,none⟩=some (bv c.root[0]):=k0
         have cq:w5.drew.cell? ⟨gc,6,none⟩=some (bv c.root[1]):=k1
         have ch:w5.drew.cell? ⟨gc,7,none⟩=some (bv c.root[2]):=k2
         have cn:w5.drew.cell? ⟨gc,8,none⟩=some (bv c.root[3]):=k3
         have ck:w5.drew.cell? ⟨gc,9,none⟩=some (bv c.root[4]):=k4
         have da:w5.drew.cell? ⟨gc,10,none⟩=some (bv c.root[5]):=k5
         have di:w5.drew.cell? ⟨gc,11,none⟩=some (bv c.root[6]):=k6
         have dd:w5.drew.cell? ⟨gc,12,none⟩=some (bv c.root[7]):=k7
         obtain⟨r0,r1,r2,r3,r4,r5,r6,r7,r8⟩:=ag.o.cells
         have ap:w5.drew.cell? ⟨q6,0,none⟩=some (.int .i64 N):=r0
         have c1:w5.drew.cell? ⟨q6,1,none⟩=some (bv qh[0]):=r1
         have dh:w5.drew.cell? ⟨q6,2,none⟩=some (bv qh[1]):=r2
         have dx:w5.drew.cell? ⟨q6,3,none⟩=some (bv qh[2]):=r3
         have c3:w5.drew.cell? ⟨q6,4,none⟩=some (bv qh[3]):=r4
         have c6:w5.drew.cell? ⟨q6,5,none⟩=some (bv qh[4]):=r5
         have cm:w5.drew.cell? ⟨q6,6,none⟩=some (bv qh[5]):=r6
         have cz:w5.drew.cell? ⟨q6,7,none⟩=some (bv qh[6]):=r7
         have dt:w5.drew.cell? ⟨q6,8,none⟩=some (bv qh[7]):=r8
         have u:gc<w5.heap.size:=Qc m.o
         have B:q6<w5.heap.size:=Qc ag.o
         have e3:=zh b3
         have eo:=zh br
         have cv:=zh bq
         clear b3 br bq ci
         go_upto_region 22 with fail
         go_cut [126] from 110 to 125 (fun s126 wx=>s126=.bool (!ib)∧Aside (Below w5.heap.size w5 wx))
         case first=>
          go_region_held3 (fun w'=>w'.cell? ⟨gc,4,none⟩=some (.int .i64 c.size)∧w'.cell? ⟨gc,5,none⟩=some (bv c.root[0])∧w'.cell? ⟨gc,6,none⟩=some (bv c.root[1])∧w'.cell? ⟨gc,7,none⟩=some (bv c.root[2])∧w'.cell? ⟨gc,8,none⟩=some (bv c.root[3])∧w'.cell? ⟨gc,9,none⟩=some (bv c.root[4])∧w'.cell? ⟨gc,10,none⟩=some (bv c.root[5])∧w'.cell? ⟨gc,11,none⟩=some (bv c.root[6])∧w'.cell? ⟨gc,12,none⟩=some (bv c.root[7])∧w'.cell? ⟨q6,0,none⟩=some (.int .i64 N)∧w'.cell? ⟨q6,1,none⟩=some (bv qh[0])∧w'.cell? ⟨q6,2,none⟩=some (bv qh[1])∧w'.cell? ⟨q6,3,none⟩=some (bv qh[2])∧w'.cell? ⟨q6,4,none⟩=some (bv qh[3])∧w'.cell? ⟨q6,5,none⟩=some (bv qh[4])∧w'.cell? ⟨q6,6,none⟩=some (bv qh[5])∧w'.cell? ⟨q6,7,none⟩=some (bv qh[6])∧w'.cell? ⟨q6,8,none⟩=some (bv qh[7])) (first|with_reducible exact⟨E,k0,k1,k2,k3,k4,k5,k6,k7,r0,r1,r2,r3,r4,r5,r6,r7,r8⟩|with_reducible exact⟨V,c0,cq,ch,cn,ck,da,di,dd,ap,c1,dh,dx,c3,c6,cm,cz,dt⟩|with_reducible exact⟨bn,m0,m1,m2,m3,m4,m5,m6,m7,n0,n1,n2,n3,n4,n5,n6,n7,n8⟩|fail) (first|(go_at_call 142;refine (eo.o _ (Qn w5)).mono ?_;rintro e w7 ⟨rfl,D⟩;have b:=zh (show Below w5.heap.size w5 w7 from (Qn w5).trans D);have bn:=(b.o.cell (p:=⟨gc,4,none⟩) u).trans E;have m0:=(b.o.cell (p:=⟨gc,5,none⟩) u).trans k0;have m1:=(b.o.cell (p:=⟨gc,6,none⟩) u).trans k1;have m2:=(b.o.cell (p:=⟨gc,7,none⟩) u).trans k2;have m3:=(b.o.cell (p:=⟨gc,8,none⟩) u).trans k3;have m4:=(b.o.cell (p:=⟨gc,9,none⟩) u).trans k4;have m5:=(b.o.cell (p:=⟨gc,10,none⟩) u).trans k5;have m6:=(b.o.cell (p:=⟨gc,11,none⟩) u).trans k6;have m7:=(b.o.cell (p:=⟨gc,12,none⟩) u).trans k7;have n0:=(b.o.cell (p:=⟨q6,0,none⟩) B).trans r0;have n1:=(b.o.cell (p:=⟨q6,1,none⟩) B).trans r1;have n2:=(b.o.cell (p:=⟨q6,2,none⟩) B).trans r2;have n3:=(b.o.cell (p:=⟨q6,3,none⟩) B).trans r3;have n4:=(b.o.cell (p:=⟨q6,4,none⟩) B).trans r4;have n5:=(b.o.cell (p:=⟨q6,5,none⟩) B).trans r5;have n6:=(b.o.cell (p:=⟨q6,6,none⟩) B).trans r6;have n7:=(b.o.cell (p:=⟨q6,7,none⟩) B).trans r7;have n8:=(b.o.cell (p:=⟨q6,8,none⟩) B).trans r8;clear D)|fail)
          all_goals (
           go_wp2_with fail
           go_meet
           exact⟨rfl,b.o⟩)
         case rest=>
          obtain⟨rfl,b⟩:=hcut
          obtain⟨w7,ax⟩:∃ w7,w7=wc:=⟨_,rfl⟩
          rw[←ax] at b
          rw[←ax]
          clear ax E V k0 k1 k2 k3 k4 k5 k6 k7 c0 cq ch cn ck da di dd r0 r1 r2 r3 r4 r5 r6 r7 r8 ap c1 dh dx c3 c6 cm cz dt
          cases ib with
          | false=>
           rename_i K1 a1 K2 a2
           refine a2 _ _ ?_
           refine wp_cond_true rfl ?_
           have hg:=((ea.o.step aq.o L.o).below b.o).sents.cells.2.2.2.2.1
           have am:=zh ((b.o.block _ u).trans m.o)
           go_upto_region 23 with fail
           go_region
           all_goals (
            go_wp2
            have hb:Below w5.heap.size w5 w7.drew:=b.o.trans ((Qn w7).mono b.o.size)
            refine Qc4 (v:=.slice none 0 0) (y:=.iface 370 (.pointer (some (F 4)))) (Qd (w:=w7.drew) am.o 0 rfl) (Qs (w:=w7.drew) am.o 0) rfl rfl ?_
            have r:R=((5,⟨#[]⟩),[],{ c with cache:=s2.cache },s2.net):=by
             rw[HR.o,bl.o]
             try dsimp only
             rw[←cv.o]
             rfl
            rw[r]
            obtain⟨qs',u1,u2,u3,u4⟩:=Qtw X.o C.o an M (af.o.below hb) (aq.o.trans (Fr.ofBelow hb)) L.o
            exact Qe6 u1 u2 u3 u4 (World.ownsRow_nil _ _ _ _) (.inr (.inl ⟨4,by decide,by decide,rfl,rfl⟩)))
          | true=>
           rename_i K1 a1 K2 a2
           refine a2 _ _ ?_
           refine wp_cond_false rfl ?_
           have ab:=af.o.below b.o
           have Y:Cost (Zx N (Yb N 0 N c.size).reverse).length s0 s2:=by
            have:=Qda N (Yb N 0 N c.size).reverse s0
            rw[show Zf N (Yb N 0 N c.size).reverse s0=(.ok l5,s2) from al.o] at this
            exact this
           have b7:x5.qs.length+x5.vs.length<1099511627775:=by
            have a1:s2.cache.items.length=x5.qs.length:=by rw[ab.cache.items,List.length_map]
            have a2:s2.files.length=x5.vs.length:=by rw[ab.files,List.length_map]
            have a3:=Y.files
            have a4:=Y.items
            have a5:s0.files.length=0:=by rw[ba.o];rfl
            have a6:s0.cache.items.length=c.cache.items.length:=by rw[ba.o];rfl
            have:=ew.o
            omega
           have c9:=Qkm w7 _ x5 N s2 d ab b7
           have dq:=Qbl ab.cache
           have es:=zh c9
           have dk:=zh dq
           clear ab Y b7 c9 dq
           go_upto_region 25 with (first
            | (go_at_call 143;refine es.o.mono ?_;rintro e w9 ⟨rfl,fb,cd,ct,c5⟩;have c2:=zh cd;have bg:=zh ct;have e5:=zh c5;clear cd ct c5)
            | fail)
           have d0:=zh (show TrAt w9 q6 N qh from Zl (ag.o.below b.o) bg.o dk.o (by decide))
           have aj:w9.heap[gc]?=some (.cells (cliC 1 (.iface 48 (.pointer (some ⟨gn,0,none⟩))) c.key c.size c.root gk) 205 (0,0)):=c2.o.cli
           have g:=zh aj
           have e8:w9.cell? ⟨gc,4,none⟩=some (.int .i64 c.size):=Qd g.o 4 rfl
           have j0:w9.cell? ⟨gc,5,none⟩=some (bv c.root[0]):=Qd g.o 5 rfl
           have j1:w9.cell? ⟨gc,6,none⟩=some (bv c.root[1]):=Qd g.o 6 rfl
           have j2:w9.cell? ⟨gc,7,none⟩=some (bv c.root[2]):=Qd g.o 7 rfl
           have j3:w9.cell? ⟨gc,8,none⟩=some (bv c.root[3]):=Qd g.o 8 rfl
           have j4:w9.cell? ⟨gc,9,none⟩=some (bv c.root[4]):=Qd g.o 9 rfl
           have j5:w9.cell? ⟨gc,10,none⟩=some (bv c.root[5]):=Qd g.o 10 rfl
           have j6:w9.cell? ⟨gc,11,none⟩=some (bv c.root[6]):=Qd g.o 11 rfl
           have j7:w9.cell? ⟨gc,12,none⟩=some (bv c.root[7]):=Qd g.o 12 rfl
           have jf:∀ i,w9.frozen? ⟨gc,i,none⟩=false:=fun i=>Qs g.o i
           have jgc:=Qc g.o
           clear aj
           go_upto_region 26 with (first|(refine Yz rfl _ rfl _ rfl _ _ d0.o ?_)|fail)
           go_wp2
           have dl:Fr (QS (cQ gq gc gk mc gn gd mq vl vt v c) ⟨.slice none 0 0,qs,[]⟩) w3 w7:=aq.o.trans (Fr.ofBelow b.o)
           obtain⟨qs',u1,u2,u3,u4⟩:=Qtw (s:={ s2 with cache:=Je s2.cache s2.files }) X.o C.o an M c2.o (Fr.sub dl (bg.o.weak fun _ _ e=>.inr (.inl e)) L.o) (fun k hk=>by
            rcases hk with e|e|e
            ·exact L.o k (.inl e)
            ·rcases Nat.lt_or_ge k w7.heap.size with au|bt
             ·exact L.o k (.inr (.inl (e5.o k au e)))
             ·exact .inr (Nat.le_trans dl.size bt)
            ·exact L.o k (.inr (.inr e)))
           have hq:=Q60 u1 N qh
           refine Qc4 (v:=v5) (y:=.nilIface) (Qd hq.cells 0 rfl) (Qs hq.cells 0) rfl rfl ?_
           have r:R=(Qdk,l5,{ c with size:=N,root:=qh,cache:=Je s2.cache s2.files },s2.net):=by
            rw[HR.o,bl.o]
            try dsimp only
            rw[←cv.o]
            rfl
           rw[r]
           have hF:=Q3h w9 gc N qh
           have hk:=Q5 g.o
           exact Qe6 hq (J1 u2 hF hk (by decide) (by decide) (by decide)) (u3.step hF fun i hi e=>.inl (.inl e)) u4 (Zk (Zs (Zk (Ql e3.o b.o) bg.o dk.o (by decide)) cs.o) hF hk (by decide)) (.inl ⟨rfl,rfl⟩))))
end
end
end Go.Proofs.YtefccfakhgdfbaaGreatDoor
