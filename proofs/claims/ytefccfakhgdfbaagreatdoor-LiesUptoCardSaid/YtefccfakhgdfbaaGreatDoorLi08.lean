/- Words for files.Check: lines, and a variable of what is trusted that is written byte by byte. No walk but strings.Split's contract. -/
import Derived.Test.YtefccfakhgdfbaaGreatDoorLi07
import Derived.Deep.DeepCutAuto
set_option linter.unusedVariables false
set_option linter.unusedSimpArgs false
open Go.RowKit Go.Proofs.Tryz
set_option maxRecDepth 100000
set_option maxHeartbeats 4000000
namespace Go.Proofs.YtefccfakhgdfbaaGreatDoor
section
variable {P:Program} {o:Oper} {K:Act→World→Prop} {Q:Exit→Act→World→Prop} {a:Act} {w:World}
theorem Qw1 (val:Value) (hr:(execOp a.eval o).run P w=.ok (.value val) w) (h:K (a.put o.dst val) w):o.wp P a w K Q:=by unfold Oper.wp;rw[hr];exact h
theorem Q8n (val:Value) (w':World) (hr:(execOp a.eval o).run P w=.ok (.value val) w') (h:K (a.put o.dst val) w'):o.wp P a w K Q:=by unfold Oper.wp;rw[hr];exact h
structure Qzy (base:Array Value) (v:Value) (x p q:UInt8) (l:List UInt8) (B:Nat) (W:World) (b:Nat→Bool) (a:Act) (w:World):Prop where
 d:a.defers = []
 s:a.tmps.size=22
 t5:a.tmps.getD 5 undef=bv x
 keep:∀ k,k≠3→(k<10∨18<k)→a.tmps.getD k undef=base.getD k undef
 t3:b 9=false→a.tmps.getD 3 undef=v
 r0:b 0=true→a.tmps.getD 10 undef=v
 r1:b 1=true→a.tmps.getD 11 undef=bv x
 r2:b 2=true→a.tmps.getD 12 undef=.int .u8 ((x.toNat / 16:Nat):Int)
 r3:b 3=true→a.tmps.getD 13 undef=bv p
 r4:b 4=true→a.tmps.getD 14 undef=bv x
 r5:b 5=true→a.tmps.getD 15 undef=.int .u8 ((x.toNat%16:Nat):Int)
 r6:b 6=true→a.tmps.getD 16 undef=bv q
 r7:b 7=true→a.tmps.getD 17 undef=.slice (some ⟨W.heap.size,0,none⟩) 2 2
 w0:b 7=false→w=W
 w1:b 7=true→b 8=false→w=W.alloc (.cells #[bv p,bv q] 5)
 r8:b 8=true→Qfo w B (a.tmps.getD 18 undef) (l ++ [p,q])∧W.grownBy w v.ownBlock
 e9:b 9=true→b 8=true∧a.tmps.getD 3 undef=a.tmps.getD 18 undef
 c8:b 8=true→b 7=true
 c80:b 8=true→b 0=true
theorem Q8b (s x:Operand) (t:TypeId)
  (ho:o.op=.call { callee:=.builtin .append,args:=#[s,x],argTypes:=#[t,t] })
  (base:Nat) (i:TypeInfo) (ht:P.underlying t=some (.slice 5)) (hi:P.info? 5=some i) (hz:i.zero=some (.int .u8 0)) (hsize:i.size=1) (hby:i.bytes=1)
  (v:Value) (l:List UInt8) (hs:a.eval s=v) (hown:Qfo w base v l) (p q:UInt8) (hx:a.eval x=.slice (some ⟨w.heap.size,0,none⟩) 2 2)
  (hn:l.length≤1099511627776) (hbase:base≤w.heap.size)
  (h:∀ v' w',Qfo w' base v' (l ++ [p,q])→w.grownBy w' v.ownBlock→K (a.put o.dst v') w') :
  o.wp P a (w.alloc (.cells #[bv p,bv q] 5)) K Q:=by
 refine wp_append_own _ s x t ho base _ i _ 1 1 ht hi hz hsize hby rfl (by decide) v _ _ hs (World.ownsRow.alloc hown _) ⟨w.heap.size,0,none⟩ 2 2 [bv p,bv q] hx rfl ?_ (by simp[Value.oneCell']) (by unfold maxLen;omega) (by omega) (by simp;omega) fun v' w' h2 h3 _=>?_
 ·intro j u hj
  rw[Addr.add_lit,Nat.zero_add,World.cell?_alloc_at _ _ _ _ rfl];simpa using hj
 ·refine h v' w' ?_ (Qa5 (World.grownBy_alloc w _ _) h3)
  unfold Qfo;simpa using h2
variable {base:Array Value} {v:Value} {x p q:UInt8} {l:List UInt8} {B:Nat} {W:World} {ops:Array Oper}
theorem Q8g
  (r:∀ b:Nat→Bool,∀ i∈Region.ready .any ops (bs b),i<10∧b i=false∧(i=2→b 1=true)∧(i=3→b 2=true)∧(i=5→b 4=true)∧(i=6→b 5=true)∧(i=7→b 3=true∧b 6=true)∧(i=8→b 0=true∧b 7=true)∧(i=9→b 8=true))
  (r0:∀ b:Nat→Bool,left b=0→Region.ready .any ops (bs b) = []) (r1:∀ (b:Nat→Bool) (f:Nat),f+1=left b→Region.ready .any ops (bs b)≠[])
  (o0:∃ (o:Oper),ops[0]?=some o∧o.guard=none∧o.dst=some 10∧o.op=.move (.tmp 3))
  (o1:∃ (o:Oper),ops[1]?=some o∧o.guard=none∧o.dst=some 11∧o.op=.move (.tmp 5))
  (o2:∃ (o:Oper) (ty:TypeId),ops[2]?=some o∧o.guard=none∧o.dst=some 12∧o.op=.binOp .shr 5 (.tmp 11) (.const (.int .u64 4)) ty)
  (o3:∃ (o:Oper),ops[3]?=some o∧o.guard=none∧o.dst=some 13∧o.op=.index 9 (.const (.string kHex)) (.tmp 12))
  (o4:∃ (o:Oper),ops[4]?=some o∧o.guard=none∧o.dst=some 14∧o.op=.move (.tmp 5))
  (o5:∃ (o:Oper) (ty:TypeId),ops[5]?=some o∧o.guard=none∧o.dst=some 15∧o.op=.binOp .and 5 (.tmp 14) (.const (.int .u8 15)) ty)
  (o6:∃ (o:Oper),ops[6]?=some o∧o.guard=none∧o.dst=some 16∧o.op=.index 9 (.const (.string kHex)) (.tmp 15))
  (o7:∃ (o:Oper),ops[7]?=some o∧o.guard=none∧o.dst=some 17∧o.op=.buildSlice 147 2 #[(0,.tmp 13),(1,.tmp 16)])
  (o8:∃ (o:Oper),ops[8]?=some o∧o.guard=none∧o.dst=some 18∧o.op=.call { callee:=.builtin .append,args:=#[.tmp 10,.tmp 17],argTypes:=#[147,147] })
  (o9:∃ (o:Oper),ops[9]?=some o∧o.guard=none∧o.dst=some 3∧o.op=.assign (.tmp 18))
  (hp:p=hexD (x.toNat / 16)) (hq:q=hexD (x.toNat%16)) (hown:Qfo W B v l) (hll:l.length≤1000) (hB:B≤W.heap.size)
  (hQ:∀ a w,Qzy base v x p q l B W (fun _=>true) a w→Q .normal a w) :
  ∀ a w,Qzy base v x p q l B W (fun _=>false) a w→wpAny prog .any ops Q 10 (Array.replicate 10 false) a w:=by
 obtain⟨i0,u,m,n,t⟩:=info_parts Qjs;have y:=x.toNat_lt;intro a w h;refine Qmf (fun f L a w=>∃ b,L=bs b∧f=left b∧Qzy base v x p q l B W b a w) ?_ ?_ 10 _ a w ⟨fun _=>false,rfl,rfl,h⟩
 ·rintro L a w ⟨b,rfl,hf,h⟩
  refine⟨r0 b hf.symm,hQ a w ?_⟩;have hh:∀ c:Bool,(!c).toNat=0→c=true:=by intro c;cases c <;> simp
  unfold left at hf;have e:∀ k,k<10→b k=true:=by
   intro k hk
   have:k=0∨k=1∨k=2∨k=3∨k=4∨k=5∨k=6∨k=7∨k=8∨k=9:=by omega
   rcases this with rfl|rfl|rfl|rfl|rfl|rfl|rfl|rfl|rfl|rfl <;> exact hh _ (by omega)
  exact { d:=h.d,s:=h.s,t5:=h.t5,keep:=h.keep,t3:=fun k=>absurd k (by decide),r0:=fun _=>h.r0 (e 0 (by omega)),r1:=fun _=>h.r1 (e 1 (by omega)),r2:=fun _=>h.r2 (e 2 (by omega)),r3:=fun _=>h.r3 (e 3 (by omega)),r4:=fun _=>h.r4 (e 4 (by omega)),r5:=fun _=>h.r5 (e 5 (by omega)),r6:=fun _=>h.r6 (e 6 (by omega)),r7:=fun _=>h.r7 (e 7 (by omega)),w0:=fun k=>absurd k (by decide),w1:=fun _ k=>absurd k (by decide),r8:=fun _=>h.r8 (e 8 (by omega)),e9:=fun _=>⟨rfl,(h.e9 (e 9 (by omega))).2⟩,c8:=fun _=>rfl,c80:=fun _=>rfl }
 ·rintro f L a w ⟨b,rfl,hf,h⟩
  refine⟨r1 b f hf,fun i hi=>?_⟩;obtain⟨j,g,d2,d3,d5,d6,d7,d8,d9⟩:=r b i hi;have hL:=Q65 b i j;have hF:=Qv2 b i j g f hf
  have:i=0∨i=1∨i=2∨i=3∨i=4∨i=5∨i=6∨i=7∨i=8∨i=9:=by omega
  rcases this with rfl|rfl|rfl|rfl|rfl|rfl|rfl|rfl|rfl|rfl
  ·obtain⟨o,h1,h2,h3,h4⟩:=o0
   have n9:b 9=false:=by rcases hh:b 9 with _|_;rfl;exact absurd (h.c80 (h.e9 hh).1) (by rw[g];decide)
   refine J7 h1 h2 (BigFrame.wp_move _ h4 ⟨upd b 0,hL,hF,?_⟩);rw[h3,show a.eval (.tmp 3)=v from h.t3 n9];exact { d:=Yd.trans h.d,s:=by rw[Jh];exact h.s,t5:=Qb h.t5 (by decide),keep:=fun k h3 hk=>Qb (h.keep k h3 hk) (by omega),t3:=fun e=>Qb (h.t3 e) (by decide),r0:=fun _=>Q7 (by rw[h.s];decide),r1:=fun e=>Qb (h.r1 e) (by decide),r2:=fun e=>Qb (h.r2 e) (by decide),r3:=fun e=>Qb (h.r3 e) (by decide),r4:=fun e=>Qb (h.r4 e) (by decide),r5:=fun e=>Qb (h.r5 e) (by decide),r6:=fun e=>Qb (h.r6 e) (by decide),r7:=fun e=>Qb (h.r7 e) (by decide),w0:=h.w0,w1:=h.w1,c8:=h.c8,c80:=fun _=>rfl,r8:=fun e=>(by rw[Qb rfl (by decide)];exact h.r8 e),e9:=fun e=>⟨(h.e9 e).1,by rw[Qb rfl (by decide),Qb rfl (by decide)];exact (h.e9 e).2⟩ }
  ·obtain⟨o,h1,h2,h3,h4⟩:=o1
   refine J7 h1 h2 (BigFrame.wp_move _ h4 ⟨upd b 1,hL,hF,?_⟩);rw[h3,show a.eval (.tmp 5)=bv x from h.t5];exact { d:=Yd.trans h.d,s:=by rw[Jh];exact h.s,t5:=Qb h.t5 (by decide),keep:=fun k h3 hk=>Qb (h.keep k h3 hk) (by omega),t3:=fun e=>Qb (h.t3 e) (by decide),r0:=fun e=>Qb (h.r0 e) (by decide),r1:=fun _=>Q7 (by rw[h.s];decide),r2:=fun e=>Qb (h.r2 e) (by decide),r3:=fun e=>Qb (h.r3 e) (by decide),r4:=fun e=>Qb (h.r4 e) (by decide),r5:=fun e=>Qb (h.r5 e) (by decide),r6:=fun e=>Qb (h.r6 e) (by decide),r7:=fun e=>Qb (h.r7 e) (by decide),w0:=h.w0,w1:=h.w1,c8:=h.c8,c80:=h.c80,r8:=fun e=>(by rw[Qb rfl (by decide)];exact h.r8 e),e9:=fun e=>⟨(h.e9 e).1,by rw[Qb rfl (by decide),Qb rfl (by decide)];exact (h.e9 e).2⟩ }
  ·obtain⟨o,ty,h1,h2,h3,h4⟩:=o2
   have e1:a.eval (.tmp 11)=bv x:=h.r1 (d2 rfl);refine J7 h1 h2 (Qw1 (.int .u8 ((x.toNat / 16:Nat):Int)) ?_ ⟨upd b 2,hL,hF,?_⟩)
   ·unfold execOp
    rw[h4];have e2:a.eval (.const (.int .u64 4))=.int .u64 4:=rfl;have hv:=Q75 x w;simp only[e1,e2,eqGuard_shr,Sem.run_bind,hv,Result.andThen_ok,Sem.run_pure]
   ·rw[h3]
    exact { d:=Yd.trans h.d,s:=by rw[Jh];exact h.s,t5:=Qb h.t5 (by decide),keep:=fun k h3 hk=>Qb (h.keep k h3 hk) (by omega),t3:=fun e=>Qb (h.t3 e) (by decide),r0:=fun e=>Qb (h.r0 e) (by decide),r1:=fun e=>Qb (h.r1 e) (by decide),r2:=fun _=>Q7 (by rw[h.s];decide),r3:=fun e=>Qb (h.r3 e) (by decide),r4:=fun e=>Qb (h.r4 e) (by decide),r5:=fun e=>Qb (h.r5 e) (by decide),r6:=fun e=>Qb (h.r6 e) (by decide),r7:=fun e=>Qb (h.r7 e) (by decide),w0:=h.w0,w1:=h.w1,c8:=h.c8,c80:=h.c80,r8:=fun e=>(by rw[Qb rfl (by decide)];exact h.r8 e),e9:=fun e=>⟨(h.e9 e).1,by rw[Qb rfl (by decide),Qb rfl (by decide)];exact (h.e9 e).2⟩ }
  ·obtain⟨o,h1,h2,h3,h4⟩:=o3
   have e1:a.eval (.tmp 12)=.int .u8 ((x.toNat / 16:Nat):Int):=h.r2 (d3 rfl);have hv:=Qr4 (x.toNat / 16) (by omega) w;rw[←hp] at hv;refine J7 h1 h2 (Qw1 (bv p) ?_ ⟨upd b 3,hL,hF,?_⟩)
   ·unfold execOp
    rw[h4];have e2:a.eval (.const (.string kHex))=.string kHex:=rfl;simp only[e1,e2,Sem.run_bind,hv,Result.andThen_ok,Sem.run_pure]
   ·rw[h3]
    exact { d:=Yd.trans h.d,s:=by rw[Jh];exact h.s,t5:=Qb h.t5 (by decide),keep:=fun k h3 hk=>Qb (h.keep k h3 hk) (by omega),t3:=fun e=>Qb (h.t3 e) (by decide),r0:=fun e=>Qb (h.r0 e) (by decide),r1:=fun e=>Qb (h.r1 e) (by decide),r2:=fun e=>Qb (h.r2 e) (by decide),r3:=fun _=>Q7 (by rw[h.s];decide),r4:=fun e=>Qb (h.r4 e) (by decide),r5:=fun e=>Qb (h.r5 e) (by decide),r6:=fun e=>Qb (h.r6 e) (by decide),r7:=fun e=>Qb (h.r7 e) (by decide),w0:=h.w0,w1:=h.w1,c8:=h.c8,c80:=h.c80,r8:=fun e=>(by rw[Qb rfl (by decide)];exact h.r8 e),e9:=fun e=>⟨(h.e9 e).1,by rw[Qb rfl (by decide),Qb rfl (by decide)];exact (h.e9 e).2⟩ }
  ·obtain⟨o,h1,h2,h3,h4⟩:=o4
   refine J7 h1 h2 (BigFrame.wp_move _ h4 ⟨upd b 4,hL,hF,?_⟩);rw[h3,show a.eval (.tmp 5)=bv x from h.t5];exact { d:=Yd.trans h.d,s:=by rw[Jh];exact h.s,t5:=Qb h.t5 (by decide),keep:=fun k h3 hk=>Qb (h.keep k h3 hk) (by omega),t3:=fun e=>Qb (h.t3 e) (by decide),r0:=fun e=>Qb (h.r0 e) (by decide),r1:=fun e=>Qb (h.r1 e) (by decide),r2:=fun e=>Qb (h.r2 e) (by decide),r3:=fun e=>Qb (h.r3 e) (by decide),r4:=fun _=>Q7 (by rw[h.s];decide),r5:=fun e=>Qb (h.r5 e) (by decide),r6:=fun e=>Qb (h.r6 e) (by decide),r7:=fun e=>Qb (h.r7 e) (by decide),w0:=h.w0,w1:=h.w1,c8:=h.c8,c80:=h.c80,r8:=fun e=>(by rw[Qb rfl (by decide)];exact h.r8 e),e9:=fun e=>⟨(h.e9 e).1,by rw[Qb rfl (by decide),Qb rfl (by decide)];exact (h.e9 e).2⟩ }
  ·obtain⟨o,ty,h1,h2,h3,h4⟩:=o5
   have e1:a.eval (.tmp 14)=bv x:=h.r4 (d5 rfl);have hv:=Q7y x w;refine J7 h1 h2 (Qw1 (.int .u8 ((x.toNat%16:Nat):Int)) ?_ ⟨upd b 5,hL,hF,?_⟩)
   ·unfold execOp
    rw[h4];have e2:a.eval (.const (.int .u8 15))=.int .u8 15:=rfl;simp only[e1,e2,eqGuard_and,Sem.run_bind,hv,Result.andThen_ok,Sem.run_pure]
   ·rw[h3]
    exact { d:=Yd.trans h.d,s:=by rw[Jh];exact h.s,t5:=Qb h.t5 (by decide),keep:=fun k h3 hk=>Qb (h.keep k h3 hk) (by omega),t3:=fun e=>Qb (h.t3 e) (by decide),r0:=fun e=>Qb (h.r0 e) (by decide),r1:=fun e=>Qb (h.r1 e) (by decide),r2:=fun e=>Qb (h.r2 e) (by decide),r3:=fun e=>Qb (h.r3 e) (by decide),r4:=fun e=>Qb (h.r4 e) (by decide),r5:=fun _=>Q7 (by rw[h.s];decide),r6:=fun e=>Qb (h.r6 e) (by decide),r7:=fun e=>Qb (h.r7 e) (by decide),w0:=h.w0,w1:=h.w1,c8:=h.c8,c80:=h.c80,r8:=fun e=>(by rw[Qb rfl (by decide)];exact h.r8 e),e9:=fun e=>⟨(h.e9 e).1,by rw[Qb rfl (by decide),Qb rfl (by decide)];exact (h.e9 e).2⟩ }
  ·obtain⟨o,h1,h2,h3,h4⟩:=o6
   have e1:a.eval (.tmp 15)=.int .u8 ((x.toNat%16:Nat):Int):=h.r5 (d6 rfl);have hv:=Qr4 (x.toNat%16) (by omega) w;rw[←hq] at hv;refine J7 h1 h2 (Qw1 (bv q) ?_ ⟨upd b 6,hL,hF,?_⟩)
   ·unfold execOp
    rw[h4];have e2:a.eval (.const (.string kHex))=.string kHex:=rfl;simp only[e1,e2,Sem.run_bind,hv,Result.andThen_ok,Sem.run_pure]
   ·rw[h3]
    exact { d:=Yd.trans h.d,s:=by rw[Jh];exact h.s,t5:=Qb h.t5 (by decide),keep:=fun k h3 hk=>Qb (h.keep k h3 hk) (by omega),t3:=fun e=>Qb (h.t3 e) (by decide),r0:=fun e=>Qb (h.r0 e) (by decide),r1:=fun e=>Qb (h.r1 e) (by decide),r2:=fun e=>Qb (h.r2 e) (by decide),r3:=fun e=>Qb (h.r3 e) (by decide),r4:=fun e=>Qb (h.r4 e) (by decide),r5:=fun e=>Qb (h.r5 e) (by decide),r6:=fun _=>Q7 (by rw[h.s];decide),r7:=fun e=>Qb (h.r7 e) (by decide),w0:=h.w0,w1:=h.w1,c8:=h.c8,c80:=h.c80,r8:=fun e=>(by rw[Qb rfl (by decide)];exact h.r8 e),e9:=fun e=>⟨(h.e9 e).1,by rw[Qb rfl (by decide),Qb rfl (by decide)];exact (h.e9 e).2⟩ }
  ·obtain⟨o,h1,h2,h3,h4⟩:=o7
   have e1:a.eval (.tmp 13)=bv p:=h.r3 (d7 rfl).1;have e2:a.eval (.tmp 16)=bv q:=h.r6 (d7 rfl).2;obtain rfl:=h.w0 g;refine J7 h1 h2 (Q8n (.slice (some ⟨w.heap.size,0,none⟩) 2 2) (w.alloc (.cells #[bv p,bv q] 5)) ?_ ⟨upd b 7,hL,hF,?_⟩)
   ·unfold execOp
    rw[h4];have hv:=build2 p q w;simp only[List.map_toArray,List.map_cons,List.map_nil,e1,e2];simp[hv]
   ·rw[h3]
    exact { d:=Yd.trans h.d,s:=by rw[Jh];exact h.s,t5:=Qb h.t5 (by decide),keep:=fun k h3 hk=>Qb (h.keep k h3 hk) (by omega),t3:=fun e=>Qb (h.t3 e) (by decide),r0:=fun e=>Qb (h.r0 e) (by decide),r1:=fun e=>Qb (h.r1 e) (by decide),r2:=fun e=>Qb (h.r2 e) (by decide),r3:=fun e=>Qb (h.r3 e) (by decide),r4:=fun e=>Qb (h.r4 e) (by decide),r5:=fun e=>Qb (h.r5 e) (by decide),r6:=fun e=>Qb (h.r6 e) (by decide),r7:=fun _=>Q7 (by rw[h.s];decide),w0:=fun e=>absurd (show true=false from e) (by decide),w1:=fun _ _=>rfl,c8:=fun e=>rfl,c80:=h.c80,r8:=fun e=>absurd (h.c8 e) (by rw[g];decide),e9:=fun e=>absurd (h.c8 (h.e9 e).1) (by rw[g];decide) }
  ·obtain⟨o,h1,h2,h3,h4⟩:=o8
   obtain rfl:=h.w1 (d8 rfl).2 g;refine J7 h1 h2 (Q8b _ _ _ h4 B i0 underlying147 u m n t v l (h.r0 (d8 rfl).1) hown p q (h.r7 (d8 rfl).2) (by omega) hB fun v' w' hr hg=>⟨upd b 8,hL,hF,?_⟩);rw[h3];exact { d:=Yd.trans h.d,s:=by rw[Jh];exact h.s,t5:=Qb h.t5 (by decide),keep:=fun k h3 hk=>Qb (h.keep k h3 hk) (by omega),t3:=fun e=>Qb (h.t3 e) (by decide),r0:=fun e=>Qb (h.r0 e) (by decide),r1:=fun e=>Qb (h.r1 e) (by decide),r2:=fun e=>Qb (h.r2 e) (by decide),r3:=fun e=>Qb (h.r3 e) (by decide),r4:=fun e=>Qb (h.r4 e) (by decide),r5:=fun e=>Qb (h.r5 e) (by decide),r6:=fun e=>Qb (h.r6 e) (by decide),r7:=fun e=>Qb (h.r7 e) (by decide),w0:=fun e=>absurd (show b 7=false from e) (by rw[(d8 rfl).2];decide),w1:=fun _ e=>absurd (show true=false from e) (by decide),c8:=fun _=>(d8 rfl).2,c80:=fun _=>(d8 rfl).1,r8:=fun _=>(by rw[Q7 (by rw[h.s];decide)];exact⟨hr,hg⟩),e9:=fun e=>absurd (h.e9 e).1 (by rw[g];decide) }
  ·obtain⟨o,h1,h2,h3,h4⟩:=o9
   refine J7 h1 h2 (BigFrame.wp_assign _ h4 ⟨upd b 9,hL,hF,?_⟩);rw[h3,show a.eval (.tmp 18)=a.tmps.getD 18 undef from rfl];exact { d:=Yd.trans h.d,s:=by rw[Jh];exact h.s,t5:=Qb h.t5 (by decide),keep:=fun k h3 hk=>Qb (h.keep k h3 hk) (Ne.symm h3),t3:=fun e=>absurd (show true=false from e) (by decide),r0:=fun e=>Qb (h.r0 e) (by decide),r1:=fun e=>Qb (h.r1 e) (by decide),r2:=fun e=>Qb (h.r2 e) (by decide),r3:=fun e=>Qb (h.r3 e) (by decide),r4:=fun e=>Qb (h.r4 e) (by decide),r5:=fun e=>Qb (h.r5 e) (by decide),r6:=fun e=>Qb (h.r6 e) (by decide),r7:=fun e=>Qb (h.r7 e) (by decide),w0:=h.w0,w1:=h.w1,c8:=h.c8,c80:=h.c80,r8:=fun e=>(by rw[Qb rfl (by decide)];exact h.r8 e),e9:=fun _=>⟨d9 rfl,by rw[Q7 (by rw[h.s];decide),Qb rfl (by decide)]⟩ }
abbrev Qvt (base:Array Value) (v:Value) (x p q:UInt8) (W:World) (v':Value):Act:=
 ((((((((((⟨base,[]⟩:Act).put (some 10) v).put (some 11) (bv x)).put (some 12) (.int .u8 ((x.toNat / 16:Nat):Int))).put (some 13) (bv p)).put (some 14) (bv x)).put (some 15) (.int .u8 ((x.toNat%16:Nat):Int))).put (some 16) (bv q)).put (some 17) (.slice (some ⟨W.heap.size,0,none⟩) 2 2)).put (some 18) v').put (some 3) v'
theorem Q97 {c:Act} (hd:a.defers=c.defers) (hs:a.tmps.size=c.tmps.size) (h:∀ k,k<c.tmps.size→a.tmps.getD k undef=c.tmps.getD k undef):a=c:=by
 obtain⟨t,d⟩:=a;obtain⟨t',d'⟩:=c;simp only at hd hs h;subst hd
 congr 1
 apply Array.ext hs;intro i h1 h2
 have:=h i h2
 simpa [Array.getD_eq_getD_getElem?,h1,h2] using this
theorem Qzy.act (hb:base.size=22) (h:Qzy base v x p q l B W (fun _=>true) a w) :
  a=Qvt base v x p q W (a.tmps.getD 18 undef):=by
 obtain⟨y,hy⟩:∃ y,y=a.tmps.getD 18 undef:=⟨_,rfl⟩
 rw[←hy];have b:(Qvt base v x p q W y).tmps.size=22:=by simp[Act.put,hb]
 refine Q97 h.d (h.s.trans b.symm) fun k hk=>?_
 rw[b] at hk;have hc:k=3∨k=10∨k=11∨k=12∨k=13∨k=14∨k=15∨k=16∨k=17∨k=18∨(k≠3∧(k<10∨18<k)):=by omega
 rcases hc with rfl|rfl|rfl|rfl|rfl|rfl|rfl|rfl|rfl|rfl|⟨h3,c⟩
 ·rw[(h.e9 rfl).2,←hy,Q7 (by simp[Act.put,hb])]
 ·rw[h.r0 rfl]
  refine (?_:_=_).symm;exact Qb (Qb (Qb (Qb (Qb (Qb (Qb (Qb (Qb (Q7 (by simp[Act.put,hb])) (by decide)) (by decide)) (by decide)) (by decide)) (by decide)) (by decide)) (by decide)) (by decide)) (by decide)
 ·rw[h.r1 rfl]
  refine (?_:_=_).symm;exact Qb (Qb (Qb (Qb (Qb (Qb (Qb (Qb (Q7 (by simp[Act.put,hb])) (by decide)) (by decide)) (by decide)) (by decide)) (by decide)) (by decide)) (by decide)) (by decide)
 ·rw[h.r2 rfl]
  refine (?_:_=_).symm;exact Qb (Qb (Qb (Qb (Qb (Qb (Qb (Q7 (by simp[Act.put,hb])) (by decide)) (by decide)) (by decide)) (by decide)) (by decide)) (by decide)) (by decide)
 ·rw[h.r3 rfl]
  refine (?_:_=_).symm;exact Qb (Qb (Qb (Qb (Qb (Qb (Q7 (by simp[Act.put,hb])) (by decide)) (by decide)) (by decide)) (by decide)) (by decide)) (by decide)
 ·rw[h.r4 rfl]
  refine (?_:_=_).symm;exact Qb (Qb (Qb (Qb (Qb (Q7 (by simp[Act.put,hb])) (by decide)) (by decide)) (by decide)) (by decide)) (by decide)
 ·rw[h.r5 rfl]
  refine (?_:_=_).symm;exact Qb (Qb (Qb (Qb (Q7 (by simp[Act.put,hb])) (by decide)) (by decide)) (by decide)) (by decide)
 ·rw[h.r6 rfl]
  refine (?_:_=_).symm;exact Qb (Qb (Qb (Q7 (by simp[Act.put,hb])) (by decide)) (by decide)) (by decide)
 ·rw[h.r7 rfl]
  refine (?_:_=_).symm;exact Qb (Qb (Q7 (by simp[Act.put,hb])) (by decide)) (by decide)
 ·rw[←hy]
  refine (?_:_=_).symm;exact Qb (Q7 (by simp[Act.put,hb])) (by decide)
 ·rw[h.keep k h3 c]
  refine (?_:_=_).symm;exact Qb (Qb (Qb (Qb (Qb (Qb (Qb (Qb (Qb (Qb (rfl) (by omega)) (by omega)) (by omega)) (by omega)) (by omega)) (by omega)) (by omega)) (by omega)) (by omega)) (by omega)
theorem Q4r
  (hb:base.size=22) (h3:base.getD 3 undef=v) (h5:base.getD 5 undef=bv x)
  (r:∀ b:Nat→Bool,∀ i∈Region.ready .any ops (bs b),i<10∧b i=false∧(i=2→b 1=true)∧(i=3→b 2=true)∧(i=5→b 4=true)∧(i=6→b 5=true)∧(i=7→b 3=true∧b 6=true)∧(i=8→b 0=true∧b 7=true)∧(i=9→b 8=true))
  (r0:∀ b:Nat→Bool,left b=0→Region.ready .any ops (bs b) = []) (r1:∀ (b:Nat→Bool) (f:Nat),f+1=left b→Region.ready .any ops (bs b)≠[])
  (o0:∃ (o:Oper),ops[0]?=some o∧o.guard=none∧o.dst=some 10∧o.op=.move (.tmp 3))
  (o1:∃ (o:Oper),ops[1]?=some o∧o.guard=none∧o.dst=some 11∧o.op=.move (.tmp 5))
  (o2:∃ (o:Oper) (ty:TypeId),ops[2]?=some o∧o.guard=none∧o.dst=some 12∧o.op=.binOp .shr 5 (.tmp 11) (.const (.int .u64 4)) ty)
  (o3:∃ (o:Oper),ops[3]?=some o∧o.guard=none∧o.dst=some 13∧o.op=.index 9 (.const (.string kHex)) (.tmp 12))
  (o4:∃ (o:Oper),ops[4]?=some o∧o.guard=none∧o.dst=some 14∧o.op=.move (.tmp 5))
  (o5:∃ (o:Oper) (ty:TypeId),ops[5]?=some o∧o.guard=none∧o.dst=some 15∧o.op=.binOp .and 5 (.tmp 14) (.const (.int .u8 15)) ty)
  (o6:∃ (o:Oper),ops[6]?=some o∧o.guard=none∧o.dst=some 16∧o.op=.index 9 (.const (.string kHex)) (.tmp 15))
  (o7:∃ (o:Oper),ops[7]?=some o∧o.guard=none∧o.dst=some 17∧o.op=.buildSlice 147 2 #[(0,.tmp 13),(1,.tmp 16)])
  (o8:∃ (o:Oper),ops[8]?=some o∧o.guard=none∧o.dst=some 18∧o.op=.call { callee:=.builtin .append,args:=#[.tmp 10,.tmp 17],argTypes:=#[147,147] })
  (o9:∃ (o:Oper),ops[9]?=some o∧o.guard=none∧o.dst=some 3∧o.op=.assign (.tmp 18))
  (hown:Qfo W B v l) (hll:l.length≤1000) (hB:B≤W.heap.size)
  (hQ:∀ v' w',Qfo w' B v' (l ++ [hexD (x.toNat / 16),hexD (x.toNat%16)])→W.grownBy w' v.ownBlock→Q .normal (Qvt base v x (hexD (x.toNat / 16)) (hexD (x.toNat%16)) W v') w') :
  wpAny prog .any ops Q 10 (Array.replicate 10 false) ⟨base,[]⟩ W:=by
 refine Q8g (p:=hexD (x.toNat / 16)) (q:=hexD (x.toNat%16)) (v:=v) (x:=x) (l:=l) (B:=B) (base:=base) r r0 r1 o0 o1 o2 o3 o4 o5 o6 o7 o8 o9 rfl rfl hown hll hB (fun a w h=>?_) ⟨base,[]⟩ W ?_
 ·rw[Qzy.act hb h]
  exact hQ _ _ (h.r8 rfl).1 (h.r8 rfl).2
 ·exact { d:=rfl,s:=hb,t5:=h5,keep:=fun _ _ _=>rfl,t3:=fun _=>h3,r0:=fun k=>absurd k (by decide),r1:=fun k=>absurd k (by decide),r2:=fun k=>absurd k (by decide),r3:=fun k=>absurd k (by decide),r4:=fun k=>absurd k (by decide),r5:=fun k=>absurd k (by decide),r6:=fun k=>absurd k (by decide),r7:=fun k=>absurd k (by decide),w0:=fun _=>rfl,w1:=fun k=>absurd k (by decide),r8:=fun k=>absurd k (by decide),e9:=fun k=>absurd k (by decide),c8:=fun k=>absurd k (by decide),c80:=fun k=>absurd k (by decide) }
end
section
theorem Qzs {l:List UInt8} {k:Nat} (hk:k<l.length):Jy (l.take (k+1))=Jy (l.take k) ++ [hexD ((l.getD k 0).toNat / 16),hexD ((l.getD k 0).toNat%16)]:=by
 have e:l.take (k+1)=l.take k ++ [l.getD k 0]:=by rw[List.take_add_one,List.getElem?_eq_getElem hk];simp[List.getD,hk]
 rw[e];unfold Jy;rw[List.flatMap_append];rfl
theorem Qss (h:Hsh) (w:World) :
  Calls prog 201 #[.agg (h8 h)] w fun e w'=>e=.returned (.string (sOf (Jy h.toList)))∧Below w.heap.size w w':=by
 have n:∀ W,Qfo W w.heap.size (.slice none 0 0) (Jy (h.toList.take 0)):=fun W=>World.ownsRow_nil _ _ _ _
 have y:=zh n;clear n
 go_enter func201,ntmps201
 go_wp2_with (first|(refine Qz rfl 143 _ rfl _ rfl _ underlying143 info8 ?_ ?_ ?_;rotate_left;focus ((repeat(first|(with_reducible first|assumption|exact Qj ⟨_,by assumption⟩ _)|((with_reducible first|refine Qh ?_|refine Q2 ?_|refine Qj (Zb ?_) _);(first|rfl|(simp;done)|(simp;omega)))|with_reducible refine Qp ?_ _|((with_reducible refine Qi ?_ _ ?_);rotate_left;(focus(first|(simp;done)|(simp;omega)|omega)))|with_reducible first|refine Qo ?_|refine Qg ?_ (by assumption)));done)))
 go_loopw [3,7] (fun v i wr=>∃ k:Nat,k≤8∧i=.int .i64 k∧Qfo wr w.heap.size v (Jy (h.toList.take k))∧Below w.heap.size w wr) (fun _ i _=>8-(intOf i).toNat)
 case atStart=>exact⟨0,by omega,rfl,y.o _,Qa _ _⟩
 case round=>
  obtain⟨k,hk,rfl,q,p⟩:=hrel;have m:=zh q;have g:=zh p;clear q p;by_cases hlt:k<8
  ·have hx:=Q4z h k hlt wr
   obtain⟨x,r⟩:∃ x,x=h.toList.getD k 0:=⟨_,rfl⟩
   rw[←r] at hx;have d:=Qzs (l:=h.toList) (k:=k) (by simpa using hlt);rw[←r] at d;have E:=zh d;clear r d
   go_wp2_with fail
   refine wp_region_any (by kernel_rfl) ?_;have C:Qfo wr.drew w.heap.size _ _:=m.o;refine Q4r (x:=x) (B:=w.heap.size) rfl rfl rfl ?_ ?_ ?_ ⟨_,rfl,rfl,rfl,rfl⟩ ⟨_,rfl,rfl,rfl,rfl⟩ ⟨_,_,rfl,rfl,rfl,rfl⟩ ⟨_,rfl,rfl,rfl,rfl⟩ ⟨_,rfl,rfl,rfl,rfl⟩ ⟨_,_,rfl,rfl,rfl,rfl⟩ ⟨_,rfl,rfl,rfl,rfl⟩ ⟨_,rfl,rfl,rfl,rfl⟩ ⟨_,rfl,rfl,rfl,rfl⟩ ⟨_,rfl,rfl,rfl,rfl⟩ C (by rw[Qay];simp;omega) (Ze g.o 1).size ?_
   ·intro b i hi
    rw[Region.ready,List.mem_filter] at hi;obtain⟨u,s⟩:=hi;have F:i<10:=List.mem_range.1 u
    have:i=0∨i=1∨i=2∨i=3∨i=4∨i=5∨i=6∨i=7∨i=8∨i=9:=by omega
    clear u;rcases this with rfl|rfl|rfl|rfl|rfl|rfl|rfl|rfl|rfl|rfl <;> simp[bs,Region.binds] at s ⊢ <;> simp[s]
   ·intro b hb
    have hh:∀ c:Bool,(!c).toNat=0→c=true:=by intro c;cases c <;> simp
    unfold left at hb;have k0:=hh (b 0) (by omega);have k1:=hh (b 1) (by omega);have k2:=hh (b 2) (by omega);have k3:=hh (b 3) (by omega);have k4:=hh (b 4) (by omega);have k5:=hh (b 5) (by omega);have k6:=hh (b 6) (by omega);have k7:=hh (b 7) (by omega);have k8:=hh (b 8) (by omega);have k9:=hh (b 9) (by omega);rw[show bs b=#[true,true,true,true,true,true,true,true,true,true] by simp only[bs,k0,k1,k2,k3,k4,k5,k6,k7,k8,k9]];rfl
   ·intro b f hf
    rcases k0:b 0 with _|_
    ·exact List.ne_nil_of_mem (a:=0) (by rw[Region.ready,List.mem_filter];exact⟨List.mem_range.2 (by show 0<10;decide),by simp[bs,Region.binds,k0]⟩)
    rcases k1:b 1 with _|_
    ·exact List.ne_nil_of_mem (a:=1) (by rw[Region.ready,List.mem_filter];exact⟨List.mem_range.2 (by show 1<10;decide),by simp[bs,Region.binds,k0,k1]⟩)
    rcases k2:b 2 with _|_
    ·exact List.ne_nil_of_mem (a:=2) (by rw[Region.ready,List.mem_filter];exact⟨List.mem_range.2 (by show 2<10;decide),by simp[bs,Region.binds,k0,k1,k2]⟩)
    rcases k3:b 3 with _|_
    ·exact List.ne_nil_of_mem (a:=3) (by rw[Region.ready,List.mem_filter];exact⟨List.mem_range.2 (by show 3<10;decide),by simp[bs,Region.binds,k0,k1,k2,k3]⟩)
    rcases k4:b 4 with _|_
    ·exact List.ne_nil_of_mem (a:=4) (by rw[Region.ready,List.mem_filter];exact⟨List.mem_range.2 (by show 4<10;decide),by simp[bs,Region.binds,k0,k1,k2,k3,k4]⟩)
    rcases k5:b 5 with _|_
    ·exact List.ne_nil_of_mem (a:=5) (by rw[Region.ready,List.mem_filter];exact⟨List.mem_range.2 (by show 5<10;decide),by simp[bs,Region.binds,k0,k1,k2,k3,k4,k5]⟩)
    rcases k6:b 6 with _|_
    ·exact List.ne_nil_of_mem (a:=6) (by rw[Region.ready,List.mem_filter];exact⟨List.mem_range.2 (by show 6<10;decide),by simp[bs,Region.binds,k0,k1,k2,k3,k4,k5,k6]⟩)
    rcases k7:b 7 with _|_
    ·exact List.ne_nil_of_mem (a:=7) (by rw[Region.ready,List.mem_filter];exact⟨List.mem_range.2 (by show 7<10;decide),by simp[bs,Region.binds,k0,k1,k2,k3,k4,k5,k6,k7]⟩)
    rcases k8:b 8 with _|_
    ·exact List.ne_nil_of_mem (a:=8) (by rw[Region.ready,List.mem_filter];exact⟨List.mem_range.2 (by show 8<10;decide),by simp[bs,Region.binds,k0,k1,k2,k3,k4,k5,k6,k7,k8]⟩)
    rcases k9:b 9 with _|_
    ·exact List.ne_nil_of_mem (a:=9) (by rw[Region.ready,List.mem_filter];exact⟨List.mem_range.2 (by show 9<10;decide),by simp[bs,Region.binds,k0,k1,k2,k3,k4,k5,k6,k7,k8,k9]⟩)
    exfalso;simp only[left,k0,k1,k2,k3,k4,k5,k6,k7,k8,k9,Bool.not_true,Bool.toNat_false] at hf;omega
   ·intro v' w' ho hg
    have t:Below w.heap.size w w':=(g.o.drew).grown hg g.o.drew.size (fun j hj=>(m.o.lt j hj).1);have D:=zh ho;have A:=zh t;clear ho hg t;go_wp2;go_roundw
    case rel=>exact⟨k+1,by omega,by go_num,by rw[E.o];exact D.o,A.o⟩
    case measure=>(simp[intOf] <;> omega)
  ·have ht:h.toList.take k=h.toList:=List.take_of_length_le (by simp;omega)
   have hb:=m.o.bytes;rw[ht] at hb;have z:=zh hb;clear hb ht
   go_wp2_with (refine Qnd rfl 147 9 _ rfl _ underlying147 underlying5 underlying9 _ ?_ rfl ?_ ?_;rotate_left;focus exact z.o)
   go_ret;exact⟨rfl,g.o⟩
end
section
theorem Qw8 (n:Nat) (h:n<16):(ByteArray.mk #[48,49,50,51,52,53,54,55,56,57,97,98,99,100,101,102]).extract n (n+1)=sOf [hexD n]:=by
 have:∀ m:Fin 16,(ByteArray.mk #[48,49,50,51,52,53,54,55,56,57,97,98,99,100,101,102]).extract m.1 (m.1+1)=sOf [hexD m.1]:=by decide
 exact this ⟨n,h⟩
theorem Qxy {l:List UInt8} {k:Nat} (hk:k<l.length):Jy (l.take (k+1))=Jy (l.take k) ++ [hexD ((l.getD k 0).toNat / 16)] ++ [hexD ((l.getD k 0).toNat%16)]:=by
 have e:l.take (k+1)=l.take k ++ [l.getD k 0]:=by rw[List.take_add_one,List.getElem?_eq_getElem hk];simp[List.getD,hk]
 rw[e];unfold Jy;rw[List.flatMap_append,List.append_assoc];rfl
theorem Qv5 (s:ByteArray) (w:World) (hs:s.size≤1000) :
  Calls prog 116 #[.string s] w fun e w'=>e=.returned (.string (sOf (Jy s.data.toList)))∧Below w.heap.size w w':=by
 go_enter func116,ntmps116
 go_wp2
 go_loopw [4,5] (fun v i wr=>∃ k:Nat,k≤s.size∧i=.int .i64 k∧v=.string (sOf (Jy (s.data.toList.take k)))∧Below w.heap.size w wr) (fun _ i _=>s.size-(intOf i).toNat)
 case atStart=>exact⟨0,by omega,rfl,rfl,Below.refl _ _⟩
 case round=>
  obtain⟨k,hk,rfl,rfl,b⟩:=hrel;have HB:=zh b;clear b;by_cases hlt:k<s.size
  ·have a:=Qxy (l:=s.data.toList) (k:=k) (by simpa using hlt)
   have hg:s.data.toList.getD k 0=s[k]:=by simp[List.getD,hlt];rfl
   rw[hg] at a;obtain⟨hi,c⟩:∃ n,n=s[k].toNat / 16:=⟨_,rfl⟩
   obtain⟨lo,d⟩:∃ n,n=s[k].toNat%16:=⟨_,rfl⟩
   have hx:=s[k].toNat_lt;have e1:(s[k].toNat:Int) / 16=(hi:Int):=by omega
   have e2:(s[k].toNat:Int)%16=(lo:Int):=by omega
   rw[←c,←d] at a;have b1:hi<16:=by omega
   have b2:lo<16:=by omega
   have c1:=Qw8 hi b1;have c2:=Qw8 lo b2;have g:(Jy (s.data.toList.take k)).length≤2000:=by rw[Qay];simp;omega
   have f:=zh a;clear a hg c d hx
   go_wp2_with fail
   go_region;go_wp2;refine⟨⟨k+1,by omega,rfl,?_,HB.o.drew⟩,by simp[intOf];omega⟩;rw[f.o,Qez,Qez]
  ·have ht:s.data.toList.take k=s.data.toList:=List.take_of_length_le (by simp;omega)
   rw[ht];go_wp2;go_ret;exact⟨rfl,HB.o⟩
def Qf4 (c:UInt8):Int:=match Qcl c with|some n=>n|none=>-1
theorem Qr3 (c:UInt8) (w:World) :
  Calls prog 118 #[.int .u8 c.toNat] w fun e w'=>e=.returned (.int .i64 (Qf4 c))∧w=w':=by
 have hc:=c.toNat_lt;obtain⟨n,hn⟩:∃ n,n=c.toNat:=⟨_,rfl⟩
 have hU:Qf4 c=if 48≤n∧n≤57 then ((n-48:Nat):Int) else if 97≤n∧n≤102 then ((n-87:Nat):Int) else -1:=by
  rw[hn];unfold Qf4 Qcl
  split
  ·rename_i m h
   split at h
   ·rename_i h1;rw[if_pos h1];cases h;rfl
   ·rename_i h1;rw[if_neg h1];split at h
    ·rename_i h2;rw[if_pos h2];cases h;rfl
    ·cases h
  ·rename_i h
   split at h
   ·cases h
   ·rename_i h1;rw[if_neg h1];split at h
    ·cases h
    ·rename_i h2;rw[if_neg h2]
 rw[hU,←hn];rw[←hn] at hc;clear hn hU;by_cases h1:48≤n
 ·have d1:decide ((48:Int)≤(n:Int))=true:=decide_eq_true (by omega)
  by_cases h2:n≤57
  ·have d2:decide ((n:Int)≤(57:Int))=true:=decide_eq_true (by omega)
   rw[if_pos ⟨h1,h2⟩,show ((n-48:Nat):Int)=(n:Int)-48 by omega]
   go_enter func118,ntmps118
   go_wp2;go_ret;exact⟨rfl,rfl⟩
  ·have d2:decide ((n:Int)≤(57:Int))=false:=decide_eq_false (by omega)
   rw[if_neg (by omega)];by_cases h3:97≤n
   ·have d3:decide ((97:Int)≤(n:Int))=true:=decide_eq_true (by omega)
    by_cases h4:n≤102
    ·have d4:decide ((n:Int)≤(102:Int))=true:=decide_eq_true (by omega)
     rw[if_pos ⟨h3,h4⟩,show ((n-87:Nat):Int)=(n:Int)-97+10 by omega]
     go_enter func118,ntmps118
     go_wp2;go_ret;exact⟨rfl,rfl⟩
    ·have d4:decide ((n:Int)≤(102:Int))=false:=decide_eq_false (by omega)
     rw[if_neg (by omega)]
     go_enter func118,ntmps118
     go_wp2;go_ret;exact⟨rfl,rfl⟩
   ·have d3:decide ((97:Int)≤(n:Int))=false:=decide_eq_false (by omega)
    rw[if_neg (by omega)]
    go_enter func118,ntmps118
    go_wp2;go_ret;exact⟨rfl,rfl⟩
 ·have d1:decide ((48:Int)≤(n:Int))=false:=decide_eq_false (by omega)
  have d3:decide ((97:Int)≤(n:Int))=false:=decide_eq_false (by omega);rw[if_neg (by omega),if_neg (by omega)]
  go_enter func118,ntmps118
  go_wp2;go_ret;exact⟨rfl,rfl⟩
end
section
theorem Qo5 (n:Nat) (h:Hsh) (key:List UInt8) (hn:n<9223372036854775808):(Qaq n h).length≤100∧(Qao n h key).length≤200:=by
 have h1:=Jt hn;have h2:(Qaq n h).length≤100:=by unfold Qaq;simp[Qa8,Qay];omega
 refine⟨h2,?_⟩;unfold Qao;simp[Qay];omega
theorem Qre (n:Nat) (h:Hsh) (key:ByteArray) (w:World) (hn:n<9223372036854775808) (hk:key.size≤1048600) :
  Calls prog 61 #[.int .i64 n,.string (HS h),.string key] w fun e w'=>e=.returned (.string (sOf (Qao n h key.data.toList)))∧Below w.heap.size w w':=by
 have hd:(dec n).length≤19:=Jt hn;have hx:(Jy h.toList).length=16:=by rw[Qay,Qcg]
 have a:(ByteArray.mk #[116,105,108,101,115,10])++sOf (dec n)++(ByteArray.mk #[10])++sOf (Jy h.toList)++(ByteArray.mk #[10])=sOf (Qaq n h):=by apply ByteArray.ext;simp[Qaq,Qa8]
 have b:key++(ByteArray.mk #[0])++sOf (Qaq n h)=sOf (key.data.toList++0 :: Qaq n h):=by apply ByteArray.ext;simp
 have l:=(Qo5 n h key.data.toList hn).1;have HH:=zh a;have HA:=zh b;clear a b
 go_enter func61,ntmps61
 go_wp2_with fail
 refine (Qa4 n _ hn).mono ?_;rintro e w1 ⟨rfl,c⟩
 go_wp2_with fail
 refine (Qv5 (HS h) _ (by rw[Y6];decide)).mono ?_;rintro e w2 ⟨rfl,g⟩;rw[show (HS h).data.toList=h.toList from rfl];have j:=zh (c.trans (g.mono c.size));clear c g
 go_wp2_with fail
 rw[HH.o,HA.o];refine (Qgf _ _ (by rw[Qb0];simp;omega)).mono ?_;rintro e w3 ⟨rfl,i⟩;rw[show (sOf (key.data.toList++0 :: Qaq n h)).data.toList=key.data.toList++0 :: Qaq n h from rfl];obtain⟨m,hm⟩:∃ m,m=hash (key.data.toList++0 :: Qaq n h):=⟨_,rfl⟩
 rw[←hm];have HM:=zh hm;have d:=zh (j.o.trans (i.mono j.o.size));clear hm i;have p:(Jy m.toList).length=16:=by rw[Qay,Qcg]
 go_wp2_with fail
 refine (Qv5 (HS m) _ (by rw[Y6];decide)).mono ?_;rintro e w4 ⟨rfl,f⟩;rw[show (HS m).data.toList=m.toList from rfl];have k:=zh (d.o.trans (f.mono d.o.size));clear f;go_wp2;go_ret;refine⟨Qbk (congrArg Value.string ?_),k.o⟩
 have:=HH.o
 unfold Qao;rw[←HM.o];apply ByteArray.ext;simp[Qaq,Qa8]
end
section
abbrev trC (n:Int) (h:Hsh):Array Value:=#[.int .i64 n,bv h[0],bv h[1],bv h[2],bv h[3],bv h[4],bv h[5],bv h[6],bv h[7]]
abbrev trV (n:Int) (h:Hsh):Value:=.agg (trC n h)
theorem Qgh (h:Hsh):h8 h=#[bv h[0],bv h[1],bv h[2],bv h[3],bv h[4],bv h[5],bv h[6],bv h[7]]:=by
 apply Array.ext
 ·simp
 ·intro i h1 h2
  simp at h2
  have:i=0∨i=1∨i=2∨i=3∨i=4∨i=5∨i=6∨i=7:=by omega
  rcases this with rfl|rfl|rfl|rfl|rfl|rfl|rfl|rfl <;> simp[h8]
theorem Q3n (h:Hsh) (w:World) :
  Calls prog 201 #[.agg #[bv h[0],bv h[1],bv h[2],bv h[3],bv h[4],bv h[5],bv h[6],bv h[7]]] w fun e w'=>e=.returned (.string (sOf (Jy h.toList)))∧Below w.heap.size w w':=by
 have:=Qss h w
 rw[Qgh] at this;exact this
def TrAt (w:World) (g:Nat) (n:Int) (h:Hsh):Prop:=w.heap[g]?=some (.cells (trC n h) 145 (0,0))
variable {w:World} {g:Nat} {n:Int} {h:Hsh}
theorem TrAt.below {w':World} (ht:TrAt w g n h) (hb:Below w.heap.size w w'):TrAt w' g n h:=(hb.block g (Qc ht)).trans ht
theorem TrAt.cells (ht:TrAt w g n h):w.cell? ⟨g,0,none⟩=some (.int .i64 n)∧w.cell? ⟨g,1,none⟩=some (bv h[0])∧w.cell? ⟨g,2,none⟩=some (bv h[1])∧w.cell? ⟨g,3,none⟩=some (bv h[2])∧w.cell? ⟨g,4,none⟩=some (bv h[3])∧
  w.cell? ⟨g,5,none⟩=some (bv h[4])∧w.cell? ⟨g,6,none⟩=some (bv h[5])∧w.cell? ⟨g,7,none⟩=some (bv h[6])∧w.cell? ⟨g,8,none⟩=some (bv h[7]):=by
 unfold TrAt at ht;refine⟨?_,?_,?_,?_,?_,?_,?_,?_,?_⟩ <;> simp[World.cell?,ht]
set_option maxHeartbeats 8000000 in
theorem Qq7 (n:Nat) (h:Hsh) (key:ByteArray) (w:World) (hn:n<9223372036854775808) (hk:key.size≤9223372036854775807) (hE:Qad w) :
  Calls prog 159 #[trV n h,.string key] w fun e w'=>e=.returned (.string (sOf (Qao n h key.data.toList)))∧Below w.heap.size w w':=by
 have hd:(dec n).length≤19:=Jt hn;have hx:(Jy h.toList).length=16:=by rw[Qay,Qcg]
 have T0:TrAt (w.alloc (.cells (trC n h) 145)) w.heap.size n h:=heap_alloc_new w _;have HE:=zh (hE.below (Qa w (.cells (trC n h) 145)));have HT:=zh T0;clear hE T0
 go_enter func159,ntmps159
 have c0:=(HT.o.below (Qn _)).cells;obtain⟨k0,k1,k2,k3,k4,k5,k6,k7,k8⟩:=c0;have b:(ByteArray.mk #[116,105,108,101,115,10])++sOf (dec n)++(ByteArray.mk #[10])++sOf (Jy h.toList)++(ByteArray.mk #[10])=sOf (Qaq n h):=by apply ByteArray.ext;simp[Qaq,Qa8]
 have HH:=zh b;clear b
 go_wp2_with fail
 go_cut [5] from 6 (fun s wx=>s=.string (sOf (Qaq n h))∧Below w.heap.size w wx)
 case first=>
  go_region_with (first|(go_at_call 197;go_must (refine (Qc5 n _ hn (HE.o.below (Qn _))).mono ?_;rintro e w1 ⟨rfl,c⟩;have t:=zh c;obtain⟨j0,j1,j2,j3,j4,j5,j6,j7,j8⟩:=((HT.o.below (Qn _)).below c).cells;clear c))|(go_at_call 201;go_must (refine (Q3n h _).mono ?_;rintro e w2 ⟨rfl,v⟩;have H:=zh v;clear v)))
  all_goals
   go_wp2_with fail
   go_meet;exact⟨by rw[HH.o],(((Qa w _).drew).trans (t.o.mono (Qa w (.cells (trC n h) 145)).size)).trans (H.o.mono (Nat.le_trans (Qa w (.cells (trC n h) 145)).size t.o.size))⟩
 case rest=>
  obtain⟨rfl,p⟩:=hcut;have y:=zh p;have K:=(Qo5 n h key.data.toList hn).1;clear p k0 k1 k2 k3 k4 k5 k6 k7 k8;obtain⟨a,i⟩:∃ x,x=Qaq n h:=⟨_,rfl⟩
  rw[←i] at K ⊢;have M:=zh i;clear i
  go_wp2_with (first|(refine Qdz rfl 9 147 5 _ rfl underlying9 underlying147 underlying5 rfl key rfl ?_;intro uk wk r q J N;obtain⟨bk,ck,rfl⟩:=N;have E:=zh r;have F:=zh q;clear r q J)|(refine Qdz rfl 9 147 5 _ rfl underlying9 underlying147 underlying5 rfl (sOf a) rfl ?_;intro us wsx B A I D;obtain⟨bs',cs',rfl⟩:=D;have G:=zh B;have j:=zh A;clear B A I))
  refine (Qjq _ [key.data.toList,[0],a] _ (bss3 (fz:=(0,0)) (Zz _ _ _ rfl) ?_ ?_ ?_) (by simp) (by simp;omega)).mono ?_
  ·exact (((E.o.at.below (Qa _ _)).below j.o).below (Qa _ _))
  ·exact (((bytes1 (x:=0) (fz:=(0,0)) (Zz _ _ _ rfl)).below j.o).below (Qa _ _))
  ·exact G.o.at.below (Qa _ _)
  rintro e w3 ⟨rfl,C⟩;have z : [key.data.toList,[0],a].flatten=key.data.toList++0 :: a:=by simp
  rw[z];have d:=y.o.trans (F.o.mono y.o.size);have f:=d.alloc d.size (.cells #[.int .u8 0] 5);have k:=f.trans (j.o.mono f.size);have g:=k.alloc k.size (.cells #[.slice (some ⟨bk,0,none⟩) key.size ck,.slice (some ⟨wk.heap.size,0,none⟩) 1 1,.slice (some ⟨bs',0,none⟩) a.length cs'] 147);have l:=zh (g.trans (C.mono g.size));clear C z d f k g;obtain⟨m,hm⟩:∃ m,m=hash (key.data.toList++0 :: a):=⟨_,rfl⟩
  rw[←hm];have HM:=zh hm;have O:(Jy m.toList).length=16:=by rw[Qay,Qcg]
  clear hm
  go_wp2_with fail
  refine (Qss m _).mono ?_;rintro e w4 ⟨rfl,u⟩;have L:=zh (l.o.trans (u.mono l.o.size));clear u;go_wp2;go_ret;refine⟨Qbk (congrArg Value.string ?_),L.o⟩;unfold Qao;rw[←M.o,←HM.o];apply ByteArray.ext;simp
end
section
theorem Qb2 (n:Int) (w:World) (h2:2≤n) (h3:n≤9223372036854775807) :
  Calls prog 178 #[.int .i64 n] w fun e w'=>e=.returned (.int .i64 (below n.toNat))∧w=w':=by
 obtain⟨e,he,b,h4,h5⟩:=Qx6 (n:=n.toNat) (by omega) (by omega);have hb:below n.toNat=2 ^ e:=by unfold below;rw[he,Nat.add_sub_cancel]
 have HB:=zh hb;have HE:Hid (Lib.bitLen (n-1).toNat=e+1):=by
  have:(n-1).toNat=n.toNat-1:=by omega
  rw[this];exact he
 have hp:((2:Int) ^ e)=((2 ^ e:Nat):Int):=by simp
 have a:2 ^ e<9223372036854775808:=by omega
 have HP:=zh hp;have HL:=zh a;clear hb he hp a h4 h5
 go_enter func178,ntmps178
 go_wp2_with fail
 refine (bits_Len _ _ (by omega) (by omega)).mono ?_;rintro e w1 ⟨rfl,rfl⟩;rw[HE.o];go_wp2;go_ret;refine⟨Qbk ?_,rfl⟩;rw[HB.o];simp only[HP.o]
 have:=HL.o
 show Value.int IntKind.i64 (wrap64 ((2 ^ e:Nat):Int))=_;generalize 2 ^ e=m at this ⊢
 congr 1
 unfold wrap64;omega
theorem Jk (n:Int) (w:World) (h2:2≤n) (h3:n≤9223372036854775807) :
  Calls prog 89 #[.int .i64 n] w fun e w'=>e=.returned (.int .i64 (below n.toNat))∧w=w':=by
 go_enter func89,ntmps89
 go_wp2
 go_loop [3] (fun k=>∃ (e:Nat) (k':Int),k=.int .i64 k'∧k'=2 ^ e∧k'<n∧0<k') (fun k=>(n-intOf k).toNat)
 case atStart=>exact⟨0,1,rfl,rfl,by omega,by omega⟩
 case round=>
  obtain⟨e,k,rfl,a,b,c⟩:=hrel;have HK:=zh a;clear a;by_cases hlt:k<n-k
  ·go_wp2
   go_round
   case rel=>exact⟨e+1,_,rfl,by rw[HK.o,Int.pow_succ];omega,by omega,by omega⟩
   case measure=>simp[intOf];omega
  ·go_wp2
   go_ret;refine⟨Qbk ?_,rfl⟩;have h:=HK.o;have hp:((2:Int) ^ e)=((2 ^ e:Nat):Int):=by simp
   rw[Qo3 (n:=n.toNat) (e:=e) (by omega) (by omega) (by omega) (by omega)];show Value.int IntKind.i64 k=_;rw[h,hp]
end
section
variable {w:World} {b off n c k:Nat} {ss:List ByteArray}
theorem Qmh (h:Zn w (.slice (some ⟨b,off,none⟩) n c) ss) (hk:k≤ss.length):Zn w (.slice (some ⟨b,off,none⟩) k c) (ss.take k):=by
 obtain⟨a,c',hv,d,hc⟩:=h;cases hv;have hl:(ss.take k).length=k:=by simp;omega
 unfold Zn;rw[hl];refine⟨_,c,rfl,by omega,fun j x hx=>?_⟩;rw[List.map_take] at hx;have hj:j<k:=by have:=(List.getElem?_eq_some_iff.1 hx).1;rw[List.length_take] at this;omega
 exact hc j x (by rwa [List.getElem?_take_of_lt hj] at hx)
theorem Qi6 (h:Zn w (.slice (some ⟨b,off,none⟩) n c) ss) (hk:k≤ss.length):Zn w (.slice (some ⟨b,off+k,none⟩) (n-k) (c-k)) (ss.drop k):=by obtain⟨a,c',hv,e,hc⟩:=h;cases hv;unfold Zn;rw[List.length_drop];refine⟨_,c-k,rfl,by omega,fun j x hx=>?_⟩;rw[List.map_drop,List.getElem?_drop] at hx;obtain⟨b',off',hb,d⟩:=hc (k+j) x hx;cases hb;exact⟨b,off+k,rfl,by rw[Nat.add_assoc];exact d⟩
theorem Qdh (f:Nat):∀ (ss:List ByteArray) (v:Value) (w:World),ss.length≤f→Zn w v ss→ss.length≤1048576→(∀ s∈ss,s.size≤1048576)→
  Calls prog 30 #[v] w fun e w'=>e=.returned (.string (HS (rootOf (lists ss))))∧Below w.heap.size w w':=by
 have base:∀ (v:Value) (w:World),Zn w v []→Calls prog 30 #[v] w fun e w'=>e=.returned (.string (HS (rootOf (lists []))))∧Below w.heap.size w w':=by
  intro v w h;obtain⟨a,c,rfl,_,_⟩:=h
  go_enter func30,ntmps30
  go_wp2_with fail
  refine (Qgf ⟨#[]⟩ _ (by decide)).mono ?_;rintro e w1 ⟨rfl,hb⟩;go_wp2;go_ret;exact⟨rfl,hb⟩
 induction f with
 | zero=>
  intro ss v w hf h hl hs;obtain rfl:ss = []:=List.eq_nil_of_length_eq_zero (by omega);exact base v w h
 | succ f ih=>
  intro ss v w hf h hl hs
  match ss,hf,h,hl,hs with
  | [],_,h,_,_=>exact base v w h
  | [s],hf,h,hl,hs=>
   obtain⟨a,c,rfl,j,hc⟩:=h;obtain⟨b,off,rfl,l⟩:=hc 0 (.string s) rfl;simp only[Nat.add_zero] at l;have x:=hs s (by simp);clear hc hs ih base;simp only[List.length_cons,List.length_nil,Nat.zero_add]
   go_enter func30,ntmps30
   go_wp2_with fail
   refine (Qsi s _ (by omega)).mono ?_;rintro e w1 ⟨rfl,hb⟩;go_wp2;go_ret;exact⟨rfl,hb⟩
  | s1 :: s2 :: st,hf,h,hl,hs=>
   obtain⟨ss,g⟩:∃ ss,ss=s1 :: s2 :: st:=⟨_,rfl⟩
   rw[←g] at h hf hl hs ⊢;have h2:2≤ss.length:=by rw[g];simp
   obtain⟨a,c,hv,j,hc⟩:=id h;obtain⟨b,off,rfl,_⟩:=hc 0 (.string s1) (by rw[g];rfl);clear hc g;subst hv;obtain⟨n,hn⟩:∃ n,n=ss.length:=⟨_,rfl⟩
   have t:=Qe4 (n:=n) (by omega) (by omega);have q:=Yi (n:=n) (by omega);have i:rootOf (lists ss)=Z1 (rootOf (lists (ss.take (below n)))) (rootOf (lists (ss.drop (below n)))):=by rw[Qd3 (by simp[lists];omega)];simp only[lists,List.length_map,List.map_take,List.map_drop,hn]
   obtain⟨k,hk⟩:∃ k,k=below n:=⟨_,rfl⟩
   rw[←hk] at t q i;have T:=zh (Qmh h (by omega:k≤ss.length));have D:=zh (Qi6 h (by omega:k≤ss.length));have p:=zh hs;have HK:=zh hk;have HR:=zh i;have IH:=zh ih;clear h hs hk i ih base;rw[←hn] at D j ⊢;have HN:=zh hn;have u:n≤f+1:=by omega
   have y:n≤1048576:=by omega
   clear hf hl hn;have d0:((n:Int) == 0)=false:=by rw[beq_eq_false_iff_ne];omega
   have d1:((n:Int) == 1)=false:=by rw[beq_eq_false_iff_ne];omega
   go_enter func30,ntmps30
   go_wp2_with fail
   refine (Jk n _ (by omega) (by omega)).mono ?_;rintro e w0 ⟨rfl,rfl⟩;rw[Int.toNat_natCast,←HK.o]
   go_wp2_with fail
   refine (IH.o (ss.take k) _ _ (by simp;have:=HN.o;omega) T.o (by simp;omega) (fun s hs=>p.o s (List.mem_of_mem_take hs))).mono ?_;rintro e w1 ⟨rfl,d⟩
   go_wp2_with fail
   refine (IH.o (ss.drop k) _ _ (by simp;have:=HN.o;omega) (D.o.below d) (by simp;have:=HN.o;omega) (fun s hs=>p.o s (List.mem_of_mem_drop hs))).mono ?_;rintro e w2 ⟨rfl,m⟩;have HB:=zh (d.trans (m.mono d.size));clear d m
   go_wp2_with fail
   refine (Qbe _ _ _ (by rw[Y6];decide) (by rw[Y6];decide)).mono ?_;rintro e w3 ⟨rfl,r⟩;go_wp2;go_ret;exact⟨by rw[HR.o];rfl,HB.o.trans (r.mono HB.o.size)⟩
end
section
theorem Qy3 (s:ByteArray) (w:World) (hs:s.size≤1048576) (h:Qad w) :
  Calls prog 175 #[.string s,.string (sOf [10])] w fun e w'=>∃ (v:Value) (Ls:List ByteArray),e=.returned v∧Zn w' v Ls∧lists Ls=linesOf s.data.toList∧Below w.heap.size w w':=by
 obtain⟨m,hm⟩:=h.most;refine (strings_Split s (sOf [10]) m w (by omega) hm (by decide)).mono ?_;rintro e w' ⟨rfl,rfl⟩;have a:=Lib.splitB_all (sOf [10]) (by decide) 0 (Lib.countB s (sOf [10])) s rfl;obtain⟨Ls,b⟩:∃ Ls,Ls=Lib.splitB (sOf [10]) 0 (Lib.countB s (sOf [10])) s:=⟨_,rfl⟩
 rw[←b] at a ⊢;refine⟨_,Ls,rfl,?_,?_,Qa _ _⟩
 ·rw[←a]
  unfold Zn;refine⟨_,_,rfl,Nat.le_refl _,fun j x hx=>⟨w.heap.size,0,rfl,?_⟩⟩;rw[Nat.zero_add,World.cell?_alloc_at _ _ _ _ rfl];simpa using hx
 ·rw[b]
  exact Lib.splitB_data (sOf [10]) 0 _ s
theorem Qng (w:World) (a:Addr) (v:Value):w.grownBy (w.setCell a v) (some a.block):=by refine⟨rfl,rfl,rfl,by simp[World.setCell],fun k _ hk=>?_⟩;exact Below.heap_setCell w a v k (fun e=>hk (by rw[e]))
theorem Q7x (r:List UInt8) (i:Nat) (hi:i<8):(Yo r)[i]=r.getD i 0:=by
 have:i=0∨i=1∨i=2∨i=3∨i=4∨i=5∨i=6∨i=7:=by omega
 rcases this with rfl|rfl|rfl|rfl|rfl|rfl|rfl|rfl <;> rfl
theorem Q3k (n:Int) (h:Hsh) (i:Nat) (hi:i<8):(trC n h)[1+i]?=some (bv h[i]):=by
 have:i=0∨i=1∨i=2∨i=3∨i=4∨i=5∨i=6∨i=7:=by omega
 rcases this with rfl|rfl|rfl|rfl|rfl|rfl|rfl|rfl <;> rfl
theorem Q5u (n:Int) (r:List UInt8) (z:UInt8) (hr:r.length<8):(trC n (Yo r)).setIfInBounds (1+r.length) (bv z)=trC n (Yo (r ++ [z])):=by
 match r,hr with
 | [],_=>rfl
 | [a],_=>rfl
 | [a,b],_=>rfl
 | [a,b,c],_=>rfl
 | [a,b,c,d],_=>rfl
 | [a,b,c,d,e],_=>rfl
 | [a,b,c,d,e,f],_=>rfl
 | [a,b,c,d,e,f,g],_=>rfl
variable {w:World} {g:Nat} {n:Int} {r:List UInt8}
theorem TrAt.step (h:TrAt w g n (Yo r)) (z:UInt8) (hr:r.length<8):TrAt (w.setCell ⟨g,1+r.length,none⟩ (bv z)) g n (Yo (r ++ [z])):=by have a:=Qc h;unfold TrAt at *;rw[←Q5u n r z hr];simp[World.setCell,Array.getElem?_modify,h]
theorem TrAt.at (h:TrAt w g n (Yo r)) (hr:r.length<8):(∃ y,w.cell? ⟨g,1+r.length,none⟩=some (bv y))∧w.frozen? ⟨g,1+r.length,none⟩=false:=by
 have:=Q3k n (Yo r) r.length hr
 unfold TrAt at h;exact⟨⟨_,by simp only[World.cell?,h];exact this⟩,by simp[World.frozen?,h]⟩
theorem Q5a:(prog.info? 145).map (·.size)=some 9:=by kernel_rfl
section
variable {ops:Array Oper} {rest:List Oper} {o:Oper} {a:Act} {Q:Exit→Act→World→Prop} {w:World}
theorem Yz (hw:Region.wanted o (yielded ops a.tmps)=true) (x:Operand) (ho:o.op=.load 145 x) (g:Nat) (hx:a.eval x=.pointer (some ⟨g,0,none⟩))
  (n:Int) (h:Hsh) (hh:TrAt w g n h) (hk:wpList prog ops Q rest (a.put o.dst (trV n h)) w):wpList prog ops Q (o :: rest) a w:=
 BigFrame.wpList_want hw fun _ hK=>wp_load_row 145 x ho g hx _ (trC n h) _ _ hh underlying145 rfl (by rw[Q5a];rfl) (hK _ _ hk)
theorem Z8 (hw:Region.wanted o (yielded ops a.tmps)=true) (x y:Operand) (ho:o.op=.store 145 x y) (g:Nat) (n:Int) (k:Hsh) (hx:a.eval x=.pointer (some ⟨g,0,none⟩)) (hy:a.eval y=trV n k)
  (n0:Int) (h:Hsh) (hh:TrAt w g n0 h) (hk:wpList prog ops Q rest (a.put o.dst undef) (w.setRow g (trC n k))):wpList prog ops Q (o :: rest) a w:=
 BigFrame.wpList_want hw fun _ hK=>wp_store_row 145 x y ho g (trC n k) hx hy _ _ hh (by rw[Q5a];rfl) rfl (by simp[Value.oneCell']) (hK _ _ hk)
theorem retT {fn:Func} {R:Ending→World→Prop} {p q:Tmp} (g:Nat) (n:Int) (k:Hsh) (x:Value) (h:fn.results=#[.cell p 145,.tmp q]) (hx:a.tmps.getD p undef=.pointer (some ⟨g,0,none⟩)) (hq:a.tmps.getD q undef=x)
  (hh:TrAt w g n k) (hd:a.defers = []) (hR:R (.returned (.tuple #[trV n k,x])) w):bodyPost prog fn R .ret a w:=by
 refine bodyPost_ret (v:=.tuple #[trV n k,x]) ?_ hd hR;rw[results_cell_tmp h];have hl:=run_loadVar_row (P:=prog) w g _ 145 (trC n k) _ _ hh underlying145 rfl (by rw[Q5a];rfl);simp[hx,hq,asAddr,hl] at *
end
theorem TrAt.set {n0:Int} {h0:Hsh} (h:TrAt w g n0 h0) (n:Int) (k:Hsh):TrAt (w.setRow g (trC n k)) g n k:=setRow_heap w g _ _ _ _ h
theorem Qq3 (sep:List UInt8):∀ (k:Nat) (s:List UInt8),∀ x∈Lib.splitK sep 0 k s,x.length≤s.length
 | 0,s,x,hx=>by simp only[Lib.splitK,List.mem_singleton] at hx;rw[hx];exact Nat.le_refl _
 | k+1,s,x,hx=>by
  unfold Lib.splitK at hx
  split at hx
  ·simp only[List.mem_singleton] at hx;rw[hx];exact Nat.le_refl _
  ·rcases List.mem_cons.1 hx with rfl|hx
   ·simp;omega
   ·have:=Qq3 sep k _ x hx
    simp at this
    omega
theorem Qzh (l:List UInt8):∀ x∈linesOf l,x.length≤l.length:=Qq3 [10] _ l
end
end Go.Proofs.YtefccfakhgdfbaaGreatDoor
