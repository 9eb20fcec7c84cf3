/- A client's questions where nothing but the truth is taken: plain. Conditions: at most 2^20 entries. -/
import Derived.Test.YtefccfakhgdfbabGreatDoorSv11
set_option linter.unusedVariables false
set_option linter.unusedSimpArgs false
open Go.RowKit Go.Proofs.Tryz
set_option maxRecDepth 100000
set_option maxHeartbeats 4000000
namespace Go.Proofs.YtefccfakhgdfbabGreatDoor
section
theorem wpList_clearB {P:Program} {ops:Array Oper} {rest:List Oper} {o:Oper} {a:Act} {Q:Exit→Act→World→Prop} {w:World} (hgd:o.guard=none) (x:Operand) (t:TypeId)
  (ho:o.op=.call { callee:=.builtin .clear,args:=#[x],argTypes:=#[t] }) (i:TypeInfo) (ht:P.underlying t=some (.slice 5)) (hi:P.info? 5=some i) (hz:i.zero=some (.int .u8 0))
  (base:Nat) (v:Value) (l:List UInt8) (hx:a.eval x=v) (hown:OwnBytes w base v l)
  (h:∀ w' n,w.grownBy w' v.ownBlock→(∀ k,k<w.heap.size→(∃ C C' fz,w.heap[k]?=some (.cells C 5 fz)∧w'.heap[k]?=some (.cells C' 5 fz)∧C'.size=C.size)∨w'.heap[k]?=w.heap[k]?)→w'.heap.size=w.heap.size→wpList P ops Q rest (a.put o.dst n) w'):wpList P ops Q (o :: rest) a w:=by
 refine wpList_plain hgd fun K hK=>?_
 have noop:(Builtin.clear_ #[t] o.type #[v]).run P w=.ok (.tuple #[]) w→o.wp P a w K Q:=fun hr=>by
  unfold Oper.wp execOp
  simp only[ho,resolve,invoke,builtin,Sem.run_bind,Sem.run_pure,Result.andThen_ok,List.map_toArray,List.map_cons,List.map_nil,hx,hr]
  exact hK _ _ (h w _ ⟨rfl,rfl,rfl,Nat.le_refl _,fun _ _ _=>rfl⟩ (fun _ _=>.inr rfl) rfl)
 rcases hown with ⟨rfl,rfl⟩|⟨b,off,c,C,fz,rfl,hcap,hb,hg,hc,hsz,hf⟩
 ·exact noop (by simp[Builtin.clear_,run_underlying ht])
 ·by_cases h0:l.length=0
  ·obtain rfl:l = []:=List.eq_nil_of_length_eq_zero h0
   exact noop (by simp[Builtin.clear_,run_underlying ht])
  ·obtain⟨cur',hrun,hs⟩:=run_storeCells_any (P:=P) b off 5 fz ((Builtin.zeroCells #[Value.int .u8 0] l.length).toList) 0 C w hg (by simp[Builtin.zeroCells];omega) hf (fun u hu=>by
    simp[Builtin.zeroCells] at hu
    obtain⟨k,hk,rfl⟩:=hu
    simp[Nat.mod_one,Value.oneCell'])
   have hr:(Builtin.clear_ #[t] o.type #[.slice (some ⟨b,off,none⟩) l.length c]).run P w=.ok (.tuple #[]) (w.setRow b cur'):=by
    cases hl:l.length with
    | zero=>exact absurd hl h0
    | succ n=>
     rw[hl] at hrun
     simp[Builtin.clear_,run_underlying ht,zeroValue,typeInfo,hi,hz,Value.cells,hrun]
   unfold Oper.wp execOp
   simp only[ho,resolve,invoke,builtin,Sem.run_bind,Sem.run_pure,Result.andThen_ok,List.map_toArray,List.map_cons,List.map_nil,hx,hr]
   refine hK _ _ (h _ _ (setRow_grown w b cur') (fun k hk=>?_) (by simp))
   by_cases hkb:k=b
   ·subst hkb
    exact .inl ⟨C,cur',fz,hg,setRow_heap w k _ _ _ _ hg,hs⟩
   ·exact .inr (setRow_other w b k cur' hkb)
end
section
def Kinds (w:World) (S:Nat→Prop) (ts:List TypeId):Prop:=∀ k C t f,S k→w.heap[k]?=some (.cells C t f)→t∈ts
theorem kinds_not {w:World} {S:Nat→Prop} {ts:List TypeId} (h:Kinds w S ts) {k:Nat} {C:Array Value} {t:TypeId} {f:Nat×Nat} (hk:w.heap[k]?=some (.cells C t f)) (ht:t ∉ ts):¬ S k:=fun hs=>ht (h k C t f hs hk)
theorem kinds_one {w:World} {g:Nat} {C:Array Value} {t:TypeId} {f:Nat×Nat} (h:w.heap[g]?=some (.cells C t f)):Kinds w (·=g) [t]:=fun k C' t' f' hk hc=>by
 subst hk
 rw[h] at hc
 cases hc
 exact List.mem_singleton.2 rfl
theorem kinds_row {w:World} {base:Nat} {e:TypeId} {size:Nat} {v:Value} {n:Nat} {xs:List Value} (h:w.ownsRow base e size v n xs):Kinds w (fun k=>v.ownBlock=some k) [e]:=fun k C' t' f' hk hc=>by
 obtain⟨C,hC⟩:=ownBlock_type h hk
 rw[hC] at hc
 cases hc
 exact List.mem_singleton.2 rfl
theorem kinds_disk {w:World} {g:Nat} {v:Value} {d:Dk} (h:DiskAt w g v d):Kinds w (dkS g v) [41,73]:=fun k C' t' f' hk hc=>by
 rcases hk with hk|hk
 ·have:=kinds_one h.1 k C' t' f' hk hc
  simp at this ⊢
  exact .inl this
 ·have:=kinds_row h.2 k C' t' f' hk hc
  simp at this ⊢
  exact .inr this
def logTs:List TypeId:=[138,94,104,3,109]
theorem kinds_log {w:World} {g gd:Nat} {ve vl vp:Value} {vs:List Value} {L:Lg} (h:LogIs w g gd ve vl vp vs L):Kinds w (LogS g ve vl vp vs) logTs:=fun k C' t' f' hk hc=>by
 obtain⟨C,t,h1,h2⟩:=h.kinds hk
 rw[h1] at hc
 cases hc
 unfold logTs
 simpa using h2
theorem Kinds.or {w:World} {S T:Nat→Prop} {a b:List TypeId} (h:Kinds w S a) (i:Kinds w T b):Kinds w (fun k=>S k∨T k) (a++b):=fun k C t f hk hc=>by
 rcases hk with hk|hk
 ·exact List.mem_append_left _ (h k C t f hk hc)
 ·exact List.mem_append_right _ (i k C t f hk hc)
theorem DiskAt.kept {w w':World} {S:Nat→Prop} {ts:List TypeId} {g:Nat} {v:Value} {d:Dk} (h:DiskAt w g v d) (hf:Fr S w w') (hS:Kinds w S ts) (h1:41 ∉ ts) (h2:73 ∉ ts):DiskAt w' g v d:=
 h.fr hf fun k hk=>by
  rcases hk with rfl|hk
  ·exact kinds_not hS h.1 h1
  ·obtain⟨C,hC⟩:=ownBlock_type h.2 hk
   exact kinds_not hS hC h2
theorem row_kept {w w':World} {S:Nat→Prop} {ts:List TypeId} {base:Nat} {e:TypeId} {size:Nat} {v:Value} {n:Nat} {xs:List Value} (h:w.ownsRow base e size v n xs) (hf:Fr S w w') (hS:Kinds w S ts) (h1:e ∉ ts):w'.ownsRow base e size v n xs:=
 ownsRow_fr h hf fun k hk=>by
  obtain⟨C,hC⟩:=ownBlock_type h hk
  exact kinds_not hS hC h1
theorem LogIs.kept {w w':World} {S:Nat→Prop} {ts:List TypeId} {g gd:Nat} {ve vl vp:Value} {vs:List Value} {L:Lg} (h:LogIs w g gd ve vl vp vs L) (hf:Fr S w w') (hS:Kinds w S ts) (h1:∀ t∈logTs,t ∉ ts) (h2:5 ∉ ts):LogIs w' g gd ve vl vp vs L:=
 h.fr hf (fun k hk=>by
  obtain⟨C,t,hC,ht⟩:=h.kinds hk
  exact kinds_not hS hC (h1 t (by unfold logTs;simpa using ht))) (fun k C fz hk=>kinds_not hS hk h2)
theorem heap_kept {w w':World} {S:Nat→Prop} {ts:List TypeId} {g:Nat} {C:Array Value} {t:TypeId} {f:Nat×Nat} (h:w.heap[g]?=some (.cells C t f)) (hf:Fr S w w') (hS:Kinds w S ts) (h1:t ∉ ts):w'.heap[g]?=some (.cells C t f):=
 hf.heap h (kinds_not hS h h1)
def ToldAt' (w:World) (g:Nat) (n:Int) (s:ByteArray):Prop:=w.heap[g]?=some (.cells #[.int .i64 n,.string s] 29 (0,0))
theorem told_new (w:World):ToldAt' (w.alloc (.cells #[.int .i64 0,.string ⟨#[]⟩] 29)) w.heap.size 0 ⟨#[]⟩:=heap_alloc_new w _
theorem ToldAt'.facts {w:World} {g:Nat} {n:Int} {s:ByteArray} (h:ToldAt' w g n s):w.cell? ⟨g,0,none⟩=some (.int .i64 n)∧w.cell? ⟨g,1,none⟩=some (.string s)∧w.frozen? ⟨g,0,none⟩=false∧w.frozen? ⟨g,1,none⟩=false∧g<w.heap.size:=
 ⟨cell_heap h 0 rfl,cell_heap h 1 rfl,frozen_heap h 0,frozen_heap h 1,lt_of_heap h⟩
theorem ToldAt'.below {w w':World} {g:Nat} {n:Int} {s:ByteArray} (h:ToldAt' w g n s) (hb:Below w.heap.size w w'):ToldAt' w' g n s:=(hb.block g (lt_of_heap h)).trans h
theorem ToldAt'.kept {w w':World} {S:Nat→Prop} {ts:List TypeId} {g:Nat} {n:Int} {s:ByteArray} (h:ToldAt' w g n s) (hf:Fr S w w') (hS:Kinds w S ts) (h1:29 ∉ ts):ToldAt' w' g n s:=heap_kept h hf hS h1
theorem told_set {w:World} {g:Nat} {n m:Int} {s t:ByteArray} (h:ToldAt' w g n s):ToldAt' ((w.setCell ⟨g,0,none⟩ (.int .i64 m)).setCell ⟨g,1,none⟩ (.string t)) g m t∧Fr (·=g) w ((w.setCell ⟨g,0,none⟩ (.int .i64 m)).setCell ⟨g,1,none⟩ (.string t)):=
 ⟨(heap_setCell (heap_setCell h _) _).trans (by simp),(Fr.set1 w g 0 _).set 1 _⟩
end
section
def PlIs (w:World) (gl g:Nat):Prop:=w.heap[gl]?=some (.cells #[.pointer (some ⟨g,0,none⟩)] 93 (0,0))
def popPost (w:World) (gd:Nat) (v:Value) (d:Dk) (key:ByteArray) (B:Nat) (e:Ending) (w':World):Prop:=
 ∃ d',DiskAt w' gd v d'∧Fr (·=gd) w w'∧
  ((∃ p,Hurt B d d'∧e=.returned (.tuple #[.pointer none,toldV 8 p]))∨
     (∃ (k:Nat) (p:ByteArray),Calm B d d'∧OpensTo d.files key (.bad k p)∧e=.returned (.tuple #[.pointer none,toldV k p]))∨
     (∃ es n gl g,Calm B d d'∧OpensTo d.files key (.good es n)∧e=.returned (.tuple #[.pointer (some ⟨gl,0,none⟩),toldV 0 ⟨#[]⟩])∧PlIs w' gl g∧w.heap.size≤gl∧Fresh0 w gd key es g w'))
theorem Fresh0.kept {w w1 w2:World} {gd g:Nat} {key:ByteArray} {es:List (List UInt8)} {S:Nat→Prop} {ts:List TypeId} (h:Fresh0 w gd key es g w1) (hf:Fr S w1 w2) (hS:Kinds w1 S ts) (h1:∀ t∈logTs,t ∉ ts) (h2:5 ∉ ts):Fresh0 w gd key es g w2:=by
 obtain⟨ve,vl,vs,a,b,c⟩:=h
 exact⟨ve,vl,vs,a.kept hf hS h1 h2,b,c⟩
theorem Fresh0.below {w w1 w2:World} {gd g:Nat} {key:ByteArray} {es:List (List UInt8)} (h:Fresh0 w gd key es g w1) (hb:Below w1.heap.size w1 w2):Fresh0 w gd key es g w2:=by
 obtain⟨ve,vl,vs,a,b,c⟩:=h
 exact⟨ve,vl,vs,a.below hb,b,c⟩
theorem told_end {w w0 w1 w2 w3:World} {gd:Nat} {v:Value} {d':Dk} (hw0:w0=w.alloc (.cells #[.int .i64 0,.string ⟨#[]⟩] 29)) (hD:DiskAt w1 gd v d') (hF:Fr (·=gd) w0 w1) (hg:gd<w.heap.size) (hk:Kinds w0 (·=gd) [41]) (h2:Below w1.heap.size w1 w2) :
  ToldAt' w2 w.heap.size 0 ⟨#[]⟩∧∀ n s,w3=(w2.setCell ⟨w.heap.size,0,none⟩ (.int .i64 n)).setCell ⟨w.heap.size,1,none⟩ (.string s)→DiskAt w3 gd v d'∧Fr (·=gd) w w3∧Fr (·=w.heap.size) w2 w3∧Kinds w2 (·=w.heap.size) [29]:=by
 have t0:ToldAt' w0 w.heap.size 0 ⟨#[]⟩:=by rw[hw0];exact told_new w
 have t1:ToldAt' w1 w.heap.size 0 ⟨#[]⟩:=t0.kept hF hk (by decide)
 have t2:=t1.below h2
 refine⟨t2,fun n s e=>?_⟩
 have ts:=told_set (m:=n) (t:=s) t2
 rw[←e] at ts
 have hk2:=kinds_one t2
 refine⟨(hD.below h2).kept ts.2 hk2 (by decide) (by decide),?_,ts.2,hk2⟩
 have hb0:Fr (·=gd) w w0:=by rw[hw0];exact Fr.ofBelow (below_alloc w _)
 exact (hb0.trans (hF.trans (Fr.ofBelow h2))).step ts.2 fun k hk e=>by subst e;omega
theorem popen_any (f:Nat→Addr) (w:World) (gd:Nat) (v:Value) (d:Dk) (key:ByteArray) (hD:DiskAt w gd v d) (N:Nat) (hE:EnvS f (·=gd) w) (hN:FewB d.files N) (hN2:N≤262144) (hc:d.calls<900000000000) (hsz:∀ b∈d.files,b.2.size≤1048576) (hkey:key.size≤9223372036854775807) :
  Calls prog 10 #[.pointer (some ⟨gd,0,none⟩),.string key] w (popPost w gd v d key (8*N+16)):=by
 obtain⟨w0,hw0⟩:∃ w0,w0=w.alloc (.cells #[.int .i64 0,.string ⟨#[]⟩] 29):=⟨_,rfl⟩
 have hb0:Below w.heap.size w w0:=by rw[hw0];exact below_alloc w _
 have hE0:=hE.below hb0
 have hD0:=hD.below hb0
 have hg:=hD.lt
 have hz0:w.heap.size≤w0.heap.size:=hb0.size
 have HK:=zh (kinds_one hD0.1)
 have HE:=zh hE0
 have HC:=zh (topen_any f w0 gd v d key hD0 N hE0 hN hN2 hc hsz hkey)
 have HW0:=zh hw0
 clear hD hE hE0 hD0 hN hsz hb0
 go_enter func10,ntmps10
 go_wp2_with fail
 rw[←hw0]
 clear hw0
 go_at_call 36
 refine HC.o.mono ?_
 rintro e w1 ⟨d',hD',hF',h⟩
 have HD:=zh hD'
 have HF:=zh hF'
 have hE1:=HE.o.fr hF'
 have HE1:=zh hE1
 have hz1:=hF'.size
 clear hD' hF' hE1
 rcases h with ⟨q,m,r,p,h1,rfl,_,_,h2,h3⟩|⟨h1,h2,rfl⟩|⟨h1,h2,rfl⟩|⟨p,r,h1,h2,rfl,_,h3⟩|⟨es,n,g,h1,h2,rfl,h3⟩
 ·have HX:=zh (of_own f w1 HE1.o.sents HE1.o.errT r q p h3)
  have H1:=zh h1
  clear h1 h2 h3
  go_wp2_with (go_at_call 37;refine HX.o.mono ?_;rintro e w2 ⟨rfl,hb2⟩;have HB2:=zh hb2;clear hb2;obtain⟨ht2,hen⟩:=told_end (w3:=(w2.setCell ⟨w.heap.size,0,none⟩ (.int .i64 8)).setCell ⟨w.heap.size,1,none⟩ (.string p)) HW0.o HD.o HF.o hg HK.o HB2.o;have HEN:=zh (hen 8 p rfl);obtain⟨t0,t1,t2,t3,t4⟩:=ht2.facts;clear ht2 hen)
  refine bodyPost_ret (v:=.tuple #[.pointer none,toldV 8 p]) (by simp[results,results10,go_sem,t0,t1]) rfl ⟨d',HEN.o.1,HEN.o.2.1,.inl ⟨p,H1.o,rfl⟩⟩
 ·have hx0:=of_sent f w1 HE1.o.sents 2 (by decide) (by decide)
  rw[show ((ofCode 2:Nat):Int)=3 from rfl] at hx0
  have HX:=zh hx0
  clear hx0
  have H1:=zh h1
  have H2:=zh h2
  clear h1 h2
  go_wp2_with (go_at_call 37;refine HX.o.mono ?_;rintro e w2 ⟨rfl,hb2⟩;have HB2:=zh hb2;clear hb2;obtain⟨ht2,hen⟩:=told_end (w3:=(w2.setCell ⟨w.heap.size,0,none⟩ (.int .i64 3)).setCell ⟨w.heap.size,1,none⟩ (.string ⟨#[]⟩)) HW0.o HD.o HF.o hg HK.o HB2.o;have HEN:=zh (hen 3 _ rfl);obtain⟨t0,t1,t2,t3,t4⟩:=ht2.facts;clear ht2 hen)
  refine bodyPost_ret (v:=.tuple #[.pointer none,toldV 3 ⟨#[]⟩]) (by simp[results,results10,go_sem,t0,t1]) rfl ⟨d',HEN.o.1,HEN.o.2.1,.inr (.inl ⟨3,_,H1.o,H2.o,rfl⟩)⟩
 ·have hx0:=of_sent f w1 HE1.o.sents 4 (by decide) (by decide)
  rw[show ((ofCode 4:Nat):Int)=5 from rfl] at hx0
  have HX:=zh hx0
  clear hx0
  have H1:=zh h1
  have H2:=zh h2
  clear h1 h2
  go_wp2_with (go_at_call 37;refine HX.o.mono ?_;rintro e w2 ⟨rfl,hb2⟩;have HB2:=zh hb2;clear hb2;obtain⟨ht2,hen⟩:=told_end (w3:=(w2.setCell ⟨w.heap.size,0,none⟩ (.int .i64 5)).setCell ⟨w.heap.size,1,none⟩ (.string ⟨#[]⟩)) HW0.o HD.o HF.o hg HK.o HB2.o;have HEN:=zh (hen 5 _ rfl);obtain⟨t0,t1,t2,t3,t4⟩:=ht2.facts;clear ht2 hen)
  refine bodyPost_ret (v:=.tuple #[.pointer none,toldV 5 ⟨#[]⟩]) (by simp[results,results10,go_sem,t0,t1]) rfl ⟨d',HEN.o.1,HEN.o.2.1,.inr (.inl ⟨5,_,H1.o,H2.o,rfl⟩)⟩
 ·have HX:=zh (of_tile f w1 HE1.o.sents r p h3)
  have H1:=zh h1
  have H2:=zh h2
  clear h1 h2 h3
  go_wp2_with (go_at_call 37;refine HX.o.mono ?_;rintro e w2 ⟨rfl,hb2⟩;have HB2:=zh hb2;clear hb2;obtain⟨ht2,hen⟩:=told_end (w3:=(w2.setCell ⟨w.heap.size,0,none⟩ (.int .i64 6)).setCell ⟨w.heap.size,1,none⟩ (.string p)) HW0.o HD.o HF.o hg HK.o HB2.o;have HEN:=zh (hen 6 p rfl);obtain⟨t0,t1,t2,t3,t4⟩:=ht2.facts;clear ht2 hen)
  refine bodyPost_ret (v:=.tuple #[.pointer none,toldV 6 p]) (by simp[results,results10,go_sem,t0,t1]) rfl ⟨d',HEN.o.1,HEN.o.2.1,.inr (.inl ⟨6,_,H1.o,H2.o,rfl⟩)⟩
 ·have HX:=fun w2 (hb:Below w1.heap.size w1 w2)=>of_nil f w2 (HE1.o.below hb).sents
  have HX:=zh HX
  have H1:=zh h1
  have H2:=zh h2
  have H3:=zh h3
  clear h1 h2 h3
  go_wp2_with (go_at_call 37;refine (HX.o _ (below_alloc w1 _)).mono ?_;rintro e w2 ⟨rfl,hb2⟩;have HB2:=zh hb2;have HB3:=zh ((below_alloc w1 (.cells #[.pointer (some ⟨g,0,none⟩)] 93)).trans (hb2.mono (by simp)));clear hb2;obtain⟨ht2,hen⟩:=told_end (w3:=(w2.setCell ⟨w.heap.size,0,none⟩ (.int .i64 0)).setCell ⟨w.heap.size,1,none⟩ (.string ⟨#[]⟩)) HW0.o HD.o HF.o hg HK.o HB3.o;have HEN:=zh (hen 0 _ rfl);obtain⟨t0,t1,t2,t3,t4⟩:=ht2.facts;clear ht2 hen)
  refine bodyPost_ret (v:=.tuple #[.pointer (some ⟨w1.heap.size,0,none⟩),toldV 0 ⟨#[]⟩]) (by simp[results,results10,go_sem,t0,t1]) rfl ⟨d',HEN.o.1,HEN.o.2.1,.inr (.inr ⟨es,n,w1.heap.size,g,H1.o,H2.o,rfl,?_,Nat.le_trans hz0 hz1,?_⟩)⟩
  ·have hp:PlIs w2 w1.heap.size g:=(HB2.o.block _ (by simp)).trans (heap_alloc_new w1 _)
   exact heap_kept hp HEN.o.2.2.1 HEN.o.2.2.2 (by decide)
  ·obtain⟨ve,vl,vs,a,b,c⟩:=(H3.o.below HB3.o).kept HEN.o.2.2.1 HEN.o.2.2.2 (by decide) (by decide)
   exact⟨ve,vl,vs,a,Nat.le_trans hz0 b,fun k hk=>Nat.le_trans hz0 (c k hk)⟩
theorem psize_any (w:World) (gl g gd:Nat) (ve vl vp:Value) (vs:List Value) (L:Lg) (hp:PlIs w gl g) (h:LogIs w g gd ve vl vp vs L) :
  Calls prog 11 #[.pointer (some ⟨gl,0,none⟩)] w fun e w'=>e=.returned (.int .i64 L.entries.length)∧w=w':=by
 have c0:=cell_heap hp 0 rfl
 have HC:=zh (lgSize_any w g gd ve vl vp vs L h)
 clear hp h
 go_enter func11,ntmps11
 go_wp2_with (go_at_call 38;refine HC.o.mono ?_;rintro e w' ⟨rfl,rfl⟩)
 go_ret
 exact⟨rfl,rfl⟩
end
section
def ppubPost (w:World) (g gd:Nat) (v ve vl vp:Value) (vs:List Value) (d:Dk) (L:Lg) (e:Ending) (w':World):Prop:=
 if L.failed=true then e=.returned (.tuple #[.int .i64 0,toldV 7 ⟨#[]⟩])∧Below w.heap.size w w'
 else ∃ v' vp' Q,Q=pubD L.entries L.key L.put d∧DiskAt w' gd v' Q.1∧LogIs w' g gd ve vl vp' vs { L with put:=Q.2.1,failed:=Q.2.2.isSome }∧Fr (bothS g gd v ve vl vp vs) w w'∧Sub w (bothS g gd v ve vl vp vs) (bothS g gd v' ve vl vp' vs)∧
  ((Q.2.2=none∧e=.returned (.tuple #[.int .i64 L.entries.length,toldV 0 ⟨#[]⟩]))∨∃ p,Q.2.2=some p∧e=.returned (.tuple #[.int .i64 0,toldV 8 p]))
theorem told_pub {w w0 w1 w2 w3:World} {g gd:Nat} {v ve vl vp v' vp':Value} {vs:List Value} {L L':Lg} {d d':Dk} (hw0:w0=w.alloc (.cells #[.int .i64 0,.string ⟨#[]⟩] 29)) (hl:LogIs w0 g gd ve vl vp vs L) (hd:DiskAt w0 gd v d)
  (hbs:∀ k,bothS g gd v ve vl vp vs k→k<w.heap.size) (hD:DiskAt w1 gd v' d') (hL:LogIs w1 g gd ve vl vp' vs L') (hF:Fr (bothS g gd v ve vl vp vs) w0 w1) (hS:Sub w0 (bothS g gd v ve vl vp vs) (bothS g gd v' ve vl vp' vs)) (h2:Below w1.heap.size w1 w2) :
  ToldAt' w2 w.heap.size 0 ⟨#[]⟩∧∀ n s,w3=(w2.setCell ⟨w.heap.size,0,none⟩ (.int .i64 n)).setCell ⟨w.heap.size,1,none⟩ (.string s)→
   DiskAt w3 gd v' d'∧LogIs w3 g gd ve vl vp' vs L'∧Fr (bothS g gd v ve vl vp vs) w w3∧Sub w (bothS g gd v ve vl vp vs) (bothS g gd v' ve vl vp' vs):=by
 have t0:ToldAt' w0 w.heap.size 0 ⟨#[]⟩:=by rw[hw0];exact told_new w
 have t1:ToldAt' w1 w.heap.size 0 ⟨#[]⟩:=t0.kept hF ((kinds_disk hd).or (kinds_log hl)) (by decide)
 have t2:=t1.below h2
 have hb0:Below w.heap.size w w0:=by rw[hw0];exact below_alloc w _
 refine⟨t2,fun n s e=>?_⟩
 have ts:=told_set (m:=n) (t:=s) t2
 rw[←e] at ts
 have hk2:=kinds_one t2
 refine⟨(hD.below h2).kept ts.2 hk2 (by decide) (by decide),(hL.below h2).kept ts.2 hk2 (by decide) (by decide),?_,hS.mono hb0.size⟩
 exact ((Fr.ofBelow hb0).trans (hF.trans (Fr.ofBelow h2))).step ts.2 fun k hk e=>by subst e;omega
theorem ppublish_any (f:Nat→Addr) (w:World) (gl g gd:Nat) (v ve vl vp:Value) (vs:List Value) (d:Dk) (L:Lg) (hp:PlIs w gl g) (h:LogIs w g gd ve vl vp vs L) (hD:DiskAt w gd v d) (hE:EnvS f (bothS g gd v ve vl vp vs) w) (hlv:L.levels=levels L.entries) (hn:L.entries.length≤1048576)
  (hs:∀ e∈L.entries,e.length≤20) (hm:MarkOk (rowsOf L.entries) L.put) (hc:d.calls<900000000000) (hfl:d.files.length<900000000000) (hkey:L.key.size≤9223372036854775807) :
  Calls prog 15 #[.pointer (some ⟨gl,0,none⟩)] w (ppubPost w g gd v ve vl vp vs d L):=by
 obtain⟨w0,hw0⟩:∃ w0,w0=w.alloc (.cells #[.int .i64 0,.string ⟨#[]⟩] 29):=⟨_,rfl⟩
 have hb0:Below w.heap.size w w0:=by rw[hw0];exact below_alloc w _
 have hbs:∀ k,bothS g gd v ve vl vp vs k→k<w.heap.size:=fun k hk=>bothS_lt h hD hk
 have h0:=h.below hb0
 have hD0:=hD.below hb0
 have hp0:PlIs w0 gl g:=(hb0.block _ (lt_of_heap hp)).trans hp
 have c0:=cell_heap hp 0 rfl
 have hgl:=lt_of_heap hp
 have HB0:=zh hb0
 have HE:=zh (hE.below hb0)
 have HL:=zh h0
 have HD:=zh hD0
 have HBS:=zh hbs
 have HC:=zh (publish_any f w0 g gd v ve vl vp vs d L h0 hD0 (hE.below hb0) hlv hn hs hm hc hfl hkey)
 have HT:=zh (show ToldAt' w0 w.heap.size 0 ⟨#[]⟩ by rw[hw0];exact told_new w)
 have HW0:=zh hw0
 clear hp h hD hE hlv hs hm hb0 hbs h0 hD0 hp0 hw0
 go_enter func15,ntmps15
 go_wp2_with fail
 rw[←HW0.o]
 go_at_call 40
 refine HC.o.mono ?_
 intro e w1 h1
 unfold pubPost at h1
 by_cases hf:L.failed=true
 ·rw[if_pos hf] at h1
  obtain⟨rfl,hb⟩:=h1
  have hx0:=of_sent f w1 (HE.o.below hb).sents 6 (by decide) (by decide)
  rw[show ((ofCode 6:Nat):Int)=7 from rfl] at hx0
  have HX:=zh hx0
  clear hx0
  have HB:=zh hb
  have HF:=zh hf
  clear hb hf
  go_wp2_with (go_at_call 37;refine HX.o.mono ?_;rintro e w2 ⟨rfl,hb2⟩;have HB2:=zh hb2;clear hb2;obtain⟨t0,t1,t2,t3,t4⟩:=((HT.o.below HB.o).below HB2.o).facts)
  refine bodyPost_ret (v:=.tuple #[.int .i64 0,toldV 7 ⟨#[]⟩]) (by simp[results,results15,go_sem,t0,t1]) rfl ?_
  unfold ppubPost
  rw[if_pos HF.o]
  have hz:w.heap.size≤w1.heap.size:=Nat.le_trans HB0.o.size HB.o.size
  exact⟨rfl,(((HB0.o.trans (HB.o.mono HB0.o.size)).trans (HB2.o.mono hz)).setCell (Nat.le_refl _) _).setCell (Nat.le_refl _) _⟩
 ·rw[if_neg hf] at h1
  obtain⟨v',vp',Q,hQ,h2,h3,h4,h5,h6⟩:=h1
  have HQ:=zh hQ
  have H2:=zh h2
  have H3:=zh h3
  have H4:=zh h4
  have H5:=zh h5
  have HF:=zh hf
  have hE1:=HE.o.step h4 h5
  have HE1:=zh hE1
  clear hQ h2 h3 h4 h5 hf hE1
  rcases h6 with ⟨h7,rfl⟩|⟨p,r,u,m,h7,rfl,_,_,h8,h9⟩
  ·have H7:=zh h7
   have HX:=zh (of_nil f w1 HE1.o.sents)
   clear h7
   go_wp2_with (go_at_call 37;refine HX.o.mono ?_;rintro e w2 ⟨rfl,hb2⟩;have HB2:=zh hb2;clear hb2;obtain⟨ht2,hen⟩:=told_pub (w3:=(w2.setCell ⟨w.heap.size,0,none⟩ (.int .i64 0)).setCell ⟨w.heap.size,1,none⟩ (.string ⟨#[]⟩)) HW0.o HL.o HD.o HBS.o H2.o H3.o H4.o H5.o HB2.o;have HEN:=zh (hen 0 _ rfl);obtain⟨t0,t1,t2,t3,t4⟩:=ht2.facts;clear ht2 hen)
   refine bodyPost_ret (v:=.tuple #[.int .i64 L.entries.length,toldV 0 ⟨#[]⟩]) (by simp[results,results15,go_sem,t0,t1]) rfl ?_
   unfold ppubPost
   rw[if_neg HF.o]
   exact⟨v',vp',Q,HQ.o,HEN.o.1,HEN.o.2.1,HEN.o.2.2.1,HEN.o.2.2.2,.inl ⟨H7.o,rfl⟩⟩
  ·have H7:=zh h7
   have HX:=zh (of_own f w1 HE1.o.sents HE1.o.errT r u p h9)
   clear h7 h8 h9
   go_wp2_with (go_at_call 37;refine HX.o.mono ?_;rintro e w2 ⟨rfl,hb2⟩;have HB2:=zh hb2;clear hb2;obtain⟨ht2,hen⟩:=told_pub (w3:=(w2.setCell ⟨w.heap.size,0,none⟩ (.int .i64 8)).setCell ⟨w.heap.size,1,none⟩ (.string p)) HW0.o HL.o HD.o HBS.o H2.o H3.o H4.o H5.o HB2.o;have HEN:=zh (hen 8 p rfl);obtain⟨t0,t1,t2,t3,t4⟩:=ht2.facts;clear ht2 hen)
   refine bodyPost_ret (v:=.tuple #[.int .i64 0,toldV 8 p]) (by simp[results,results15,go_sem,t0,t1]) rfl ?_
   unfold ppubPost
   rw[if_neg HF.o]
   exact⟨v',vp',Q,HQ.o,HEN.o.1,HEN.o.2.1,HEN.o.2.2.1,HEN.o.2.2.2,.inr ⟨p,H7.o,rfl⟩⟩
end
section
theorem OwnBytes.same2 {w w':World} {base:Nat} {v:Value} {l:List UInt8} (h:OwnBytes w base v l) (hs:∀ (k:Nat) (C:Array Value) (fz:Nat×Nat),base≤k→w.heap[k]?=some (Obj.cells C 5 fz)→w'.heap[k]?=w.heap[k]?) (base':Nat) (hb:base'≤base):OwnBytes w' base' v l:=by
 rcases h with h|⟨b,off,c,C,fz,h1,h0,h2,h3,h4⟩
 ·exact .inl h
 ·exact .inr ⟨b,off,c,C,fz,h1,h0,Nat.le_trans hb h2,(hs b C fz h2 h3).trans h3,h4⟩
theorem ownsRow_one {w:World} {b b':Nat} {e:TypeId} {size:Nat} {v:Value} {n:Nat} {xs ys:List Value} (h:w.ownsRow b e size v n xs) (k:w.ownsRow b' e size v n ys):xs=ys:=by
 rcases h.2 with ⟨rfl,h0⟩|⟨g,cap,cur,rfl,_,hg,_,_,_,ht⟩
 ·have h1:=h.1
  have k1:=k.1
  subst h0
  have e1:xs = []:=List.eq_nil_of_length_eq_zero (by simpa using h1)
  have e2:ys = []:=List.eq_nil_of_length_eq_zero (by simpa using k1)
  rw[e1,e2]
 ·rcases k.2 with ⟨e,_⟩|⟨g',cap',cur',e,_,hg',_,_,_,ht'⟩
  ·cases e
  ·cases e
   rw[hg] at hg'
   cases hg'
   exact ht.symm.trans ht'
theorem took_clear {w w1 w2 w3:World} {g gd b1:Nat} {ve vl vp:Value} {vs:List Value} {L:Lg} {b:List UInt8} (h:LogIs w g gd ve vl vp vs L) (hb:Below w.heap.size w w1) (ht:Took w1 g gd ve vl vp vs L b w2) (hf:Fr (·=b1) w2 w3) (hw:w.heap.size≤b1) (hb1:b1<w1.heap.size) (hk:Kinds w2 (·=b1) [5]) :
  ∃ ve' vl' vs',LogIs w3 g gd ve' vl' vp vs' { L with entries:=L.entries ++ [b],levels:=levels (L.entries ++ [b]) }∧Fr (LogS g ve vl vp vs) w w3∧Sub w (LogS g ve vl vp vs) (LogS g ve' vl' vp vs'):=by
 obtain⟨ve',vl',vs',vs0,u,hl2,hf2,hs2,hr0,hr2,hu⟩:=ht
 have h1:=h.below hb
 obtain⟨vsw,hrw,hel⟩:=h.ents
 have hv0:vsw=vs0:=ownsRow_one (ownsRow_below hrw hb) hr0
 subst hv0
 have hrest:=hl2.rest hf 5 (fun k C s f hk' hc=>List.mem_singleton.1 (hk k C s f hk' hc))
 refine⟨ve',vl',vs',⟨(hrest.1 (by decide)).trans hl2.cells,?_,hrest.2.2.1 (by decide),hrest.2.2.2.1 (by decide),hl2.apart,hrest.2.2.2.2 (by decide)⟩,?_,hs2.mono hb.size⟩
 ·have hrow:w3.ownsRow 0 94 1 ve' (L.entries ++ [b]).length (vsw ++ [u]):=by
   rw[List.length_append,List.length_singleton]
   exact row_kept hr2 hf hk (by decide)
  refine⟨_,hrow,fun j x l hx hlj=>?_⟩
  have hlen:vsw.length=L.entries.length:=by simpa using hrw.1
  rcases Nat.lt_or_ge j vsw.length with hj|hj
  ·rw[List.getElem?_append_left hj] at hx
   rw[List.getElem?_append_left (by omega)] at hlj
   exact (hel j x l hx hlj).same fun k C fz hkC=>by
    have hlt:=lt_of_heap hkC
    have e1:=hb.block k hlt
    have hk1:w1.heap[k]?=some (.cells C 5 fz):=e1.trans hkC
    have e2:=hf2.block k (lt_of_heap hk1) fun hS=>h1.noBytes k C fz hk1 hS
    have e3:=hf.block k (Nat.lt_of_lt_of_le (lt_of_heap hk1) hf2.size) (fun e=>by subst e;omega)
    exact e3.trans (e2.trans e1)
  ·rw[List.getElem?_append_right hj] at hx
   rw[List.getElem?_append_right (by omega)] at hlj
   have hj0:j-vsw.length=0:=by
    rcases Nat.eq_zero_or_pos (j-vsw.length) with h0|h0
    ·exact h0
    ·rw[List.getElem?_eq_none (by simp;omega)] at hx;cases hx
   rw[hj0] at hx
   rw[show j-L.entries.length=0 by omega] at hlj
   cases hx
   cases hlj
   exact hu.same2 (fun k C fz hbk hkC=>hf.block k (lt_of_heap hkC) fun e=>by subst e;omega) 0 (Nat.zero_le _)
 ·exact ((Fr.ofBelow hb).trans hf2).step hf fun i hi e=>by subst e;omega
def pappPost (w:World) (g gd:Nat) (ve vl vp:Value) (vs:List Value) (L:Lg) (b:List UInt8) (e:Ending) (w':World):Prop:=
 if 20<b.length then e=.returned (.tuple #[.int .i64 0,toldV 1 ⟨#[]⟩])∧Below w.heap.size w w'
 else if L.failed=true then e=.returned (.tuple #[.int .i64 0,toldV 7 ⟨#[]⟩])∧Below w.heap.size w w'
 else e=.returned (.tuple #[.int .i64 L.entries.length,toldV 0 ⟨#[]⟩])∧∃ ve' vl' vs',LogIs w' g gd ve' vl' vp vs' { L with entries:=L.entries ++ [b],levels:=levels (L.entries ++ [b]) }∧Fr (LogS g ve vl vp vs) w w'∧Sub w (LogS g ve vl vp vs) (LogS g ve' vl' vp vs')
theorem pappend_any (f:Nat→Addr) (w:World) (gl g gd:Nat) (ve vl vp:Value) (vs:List Value) (L:Lg) (s:ByteArray) (hp:PlIs w gl g) (h:LogIs w g gd ve vl vp vs L) (hE:EnvS f (LogS g ve vl vp vs) w) (hlv:L.levels=levels L.entries) (hn:L.entries.length<1048576) :
  Calls prog 12 #[.pointer (some ⟨gl,0,none⟩),.string s] w (pappPost w g gd ve vl vp vs L s.data.toList):=by
 obtain⟨i0,hi,hz0,_,_⟩:=info_parts info_u8
 have c0:=cell_heap hp 0 rfl
 have hgl:=lt_of_heap hp
 have HE:=zh hE
 have HL:=zh h
 have HP:=zh hp
 have HLV:=zh hlv
 have hg:=lt_of_heap h.cells
 obtain⟨w0,hw0⟩:∃ w0,w0=w.alloc (.cells #[.int .i64 0,.string ⟨#[]⟩] 29):=⟨_,rfl⟩
 have HW0:=zh hw0
 have HB0:=zh (show Below w.heap.size w w0 by rw[hw0];exact below_alloc w _)
 have HT0:=zh (show ToldAt' w0 w.heap.size 0 ⟨#[]⟩ by rw[hw0];exact told_new w)
 have hz00:w0.heap.size=w.heap.size+1:=by rw[hw0];simp
 have hc0:=(HB0.o.cell (p:=⟨gl,0,none⟩) hgl).trans c0
 clear h hE hp hlv hw0
 go_enter func12,ntmps12
 go_upto_region 1 with fail
 rw[←HW0.o]
 go_upto_region 2 with (first|(refine wpList_sb rfl 9 94 5 _ rfl underlying9 underlying94 underlying5 rfl s rfl ?_;intro u w1 hu hb1 hw1 hv1;obtain⟨b1,c1,rfl⟩:=hv1;have HU:=zh hu;have HB1:=zh hb1;clear hu hb1 hw1)|fail)
 have hl1:=(HL.o.below HB0.o).below HB1.o
 have hE1:=(HE.o.below HB0.o).below HB1.o
 have hb1w:w0.heap.size≤b1∧b1<w1.heap.size∧∃ C fz,w1.heap[b1]?=some (.cells C 5 fz):=by
  rcases HU.o with ⟨e,_⟩|⟨b,off,c,C,fz,e,_,h2,h3,_⟩
  ·cases e
  ·cases e;exact⟨h2,lt_of_heap h3,C,fz,h3⟩
 have HB1W:=zh hb1w
 have HAP:=zh (append_any f w1 g gd ve vl vp vs L hl1 _ s.data.toList (HU.o.mono (Nat.zero_le _)) hn HLV.o hE1.sents)
 have HE1:=zh hE1
 have HL1:=zh hl1
 have HBW:=zh (HB0.o.trans (HB1.o.mono HB0.o.size))
 have hc1:=(HB1.o.cell (p:=⟨gl,0,none⟩) (cell_lt hc0)).trans hc0
 have HT1:=zh (HT0.o.below HB1.o)
 clear hl1 hE1 hb1w
 go_wp2_with fail
 go_at_call 39
 refine HAP.o.mono ?_
 intro e w2 h2
 unfold appendPost at h2
 have hz01:w.heap.size≤w1.heap.size:=HBW.o.size
 by_cases hlong:20<s.data.toList.length
 ·rw[if_pos hlong] at h2
  obtain⟨rfl,hb2⟩:=h2
  have HB2:=zh hb2
  have HU2:=zh ((HU.o.mono (Nat.zero_le _)).below hb2)
  have HT2:=zh (HT1.o.below hb2)
  have HK2:=zh (show Kinds w2 (·=b1) [5] from by obtain⟨_,_,C,fz,hC⟩:=HB1W.o;exact kinds_one ((hb2.block _ (lt_of_heap hC)).trans hC))
  have hz2:w.heap.size≤w2.heap.size:=Nat.le_trans hz01 hb2.size
  have HLONG:=zh hlong
  have hse:=fun (w3:World) (hf:Fr (LogS g ve vl vp vs) w w3)=>of_sent f w3 (HE.o w3 hf).2.1 0 (by decide) (by decide)
  rw[show ((ofCode 0:Nat):Int)=1 from rfl] at hse
  have HSE:=zh hse
  have hbw:w.heap.size≤b1:=Nat.le_trans (by omega) HB1W.o.1
  clear hb2 hlong hse
  go_wp2_with (first|(refine wpList_clearB rfl _ 94 rfl i0 underlying94 hi hz0 0 _ s.data.toList rfl HU2.o ?_;intro w3 n3 hg3 hsh3 hz3;have HF3:=zh (Fr.ofGrown (S:=(·=b1)) hg3 fun k _ e=>(Option.some.inj e).symm);have hz3':w.heap.size≤w3.heap.size:=Nat.le_trans hz2 HF3.o.size;clear hg3 hsh3 hz3)|(go_at_call 37;refine (HSE.o _ (((Fr.ofBelow (HBW.o.trans (HB2.o.mono hz01)))).step HF3.o fun i hi e=>by subst e;omega)).mono ?_;rintro e w4 ⟨rfl,hb4⟩;have HB4:=zh hb4;obtain⟨t0,t1,t2,t3,t4⟩:=((HT2.o.kept HF3.o HK2.o (by decide)).below hb4).facts;clear hb4)|fail)
  refine bodyPost_ret (v:=.tuple #[.int .i64 0,toldV 1 ⟨#[]⟩]) (by simp[results,results12,go_sem,t0,t1]) rfl ?_
  unfold pappPost
  rw[if_pos HLONG.o]
  have hb3:Below w.heap.size w w3:=(HBW.o.trans (HB2.o.mono hz01)).trans (HF3.o.below hz2 fun k hk e=>by omega)
  exact⟨rfl,((hb3.trans (HB4.o.mono hz3')).setCell (Nat.le_refl _) _).setCell (Nat.le_refl _) _⟩
 ·rw[if_neg hlong] at h2
  by_cases hfd:L.failed=true
  ·rw[if_pos hfd] at h2
   obtain⟨rfl,hb2⟩:=h2
   have HB2:=zh hb2
   have HU2:=zh ((HU.o.mono (Nat.zero_le _)).below hb2)
   have HT2:=zh (HT1.o.below hb2)
   have HK2:=zh (show Kinds w2 (·=b1) [5] from by obtain⟨_,_,C,fz,hC⟩:=HB1W.o;exact kinds_one ((hb2.block _ (lt_of_heap hC)).trans hC))
   have hz2:w.heap.size≤w2.heap.size:=Nat.le_trans hz01 hb2.size
   have HLONG:=zh hlong
   have HFD:=zh hfd
   have hse:=fun (w3:World) (hf:Fr (LogS g ve vl vp vs) w w3)=>of_sent f w3 (HE.o w3 hf).2.1 6 (by decide) (by decide)
   rw[show ((ofCode 6:Nat):Int)=7 from rfl] at hse
   have HSE:=zh hse
   have hbw:w.heap.size≤b1:=Nat.le_trans (by omega) HB1W.o.1
   clear hb2 hlong hse hfd
   go_wp2_with (first|(refine wpList_clearB rfl _ 94 rfl i0 underlying94 hi hz0 0 _ s.data.toList rfl HU2.o ?_;intro w3 n3 hg3 hsh3 hz3;have HF3:=zh (Fr.ofGrown (S:=(·=b1)) hg3 fun k _ e=>(Option.some.inj e).symm);have hz3':w.heap.size≤w3.heap.size:=Nat.le_trans hz2 HF3.o.size;clear hg3 hsh3 hz3)|(go_at_call 37;refine (HSE.o _ (((Fr.ofBelow (HBW.o.trans (HB2.o.mono hz01)))).step HF3.o fun i hi e=>by subst e;omega)).mono ?_;rintro e w4 ⟨rfl,hb4⟩;have HB4:=zh hb4;obtain⟨t0,t1,t2,t3,t4⟩:=((HT2.o.kept HF3.o HK2.o (by decide)).below hb4).facts;clear hb4)|fail)
   refine bodyPost_ret (v:=.tuple #[.int .i64 0,toldV 7 ⟨#[]⟩]) (by simp[results,results12,go_sem,t0,t1]) rfl ?_
   unfold pappPost
   rw[if_neg HLONG.o,if_pos HFD.o]
   have hb3:Below w.heap.size w w3:=(HBW.o.trans (HB2.o.mono hz01)).trans (HF3.o.below hz2 fun k hk e=>by omega)
   exact⟨rfl,((hb3.trans (HB4.o.mono hz3')).setCell (Nat.le_refl _) _).setCell (Nat.le_refl _) _⟩
  ·rw[if_neg hfd] at h2
   obtain⟨rfl,htook⟩:=h2
   obtain⟨ve2,vl2,vs2,vs0,u2,hl2,hf2,hs2,hr02,hr22,hu2⟩:=htook
   have HTK:=zh (show Took w1 g gd ve vl vp vs L s.data.toList w2 from ⟨ve2,vl2,vs2,vs0,u2,hl2,hf2,hs2,hr02,hr22,hu2⟩)
   have HF2:=zh hf2
   have HU2:=zh ((HU.o.mono (Nat.zero_le _)).same fun k C fz hk=>hf2.block k (lt_of_heap hk) fun hS=>HL1.o.noBytes k C fz hk hS)
   have HT2:=zh (HT1.o.kept hf2 (kinds_log HL1.o) (by decide))
   have HK2:=zh (show Kinds w2 (·=b1) [5] from by obtain⟨_,_,C,fz,hC⟩:=HB1W.o;exact kinds_one (hf2.heap hC (fun hS=>HL1.o.noBytes _ C fz hC hS)))
   have hz2:w.heap.size≤w2.heap.size:=Nat.le_trans hz01 hf2.size
   have HLONG:=zh hlong
   have HFD:=zh hfd
   have hse:=fun (w3:World) (hf:Fr (LogS g ve vl vp vs) w w3)=>of_nil f w3 (HE.o w3 hf).2.1
   have HSE:=zh hse
   have hbw:w.heap.size≤b1:=Nat.le_trans (by omega) HB1W.o.1
   have hb1lt:=HB1W.o.2.1
   clear hl2 hf2 hs2 hr02 hr22 hu2 hlong hse hfd
   go_wp2_with (first|(refine wpList_clearB rfl _ 94 rfl i0 underlying94 hi hz0 0 _ s.data.toList rfl HU2.o ?_;intro w3 n3 hg3 hsh3 hz3;have HF3:=zh (Fr.ofGrown (S:=(·=b1)) hg3 fun k _ e=>(Option.some.inj e).symm);have hz3':w.heap.size≤w3.heap.size:=Nat.le_trans hz2 HF3.o.size;clear hg3 hsh3 hz3)|(go_at_call 37;refine (HSE.o _ (((Fr.ofBelow HBW.o).trans HF2.o).step HF3.o fun i hi e=>by subst e;omega)).mono ?_;rintro e w4 ⟨rfl,hb4⟩;have HB4:=zh hb4;have HT4:=zh ((HT2.o.kept HF3.o HK2.o (by decide)).below hb4);obtain⟨t0,t1,t2,t3,t4⟩:=HT4.o.facts;clear hb4)|fail)
   refine bodyPost_ret (v:=.tuple #[.int .i64 L.entries.length,toldV 0 ⟨#[]⟩]) (by simp[results,results12,go_sem,t0,t1]) rfl ?_
   unfold pappPost
   rw[if_neg HLONG.o,if_neg HFD.o]
   obtain⟨ve',vl',vs',k1,k2,k3⟩:=took_clear HL.o HBW.o HTK.o HF3.o hbw hb1lt HK2.o
   have ts:=told_set (m:=0) (t:=⟨#[]⟩) HT4.o
   refine⟨rfl,ve',vl',vs',(k1.below HB4.o).kept ts.2 (kinds_one HT4.o) (by decide) (by decide),?_,k3⟩
   exact (k2.trans (Fr.ofBelow HB4.o)).step ts.2 fun i hi e=>by subst e;omega
end
section
structure Wm where
 key:ByteArray
 d:Dk
 l:Option Lg
 es:List ByteArray
 pub:Int
 failed:Bool
 foreign:Bool
structure Good (m:Wm) (U:List Nat) (K:Nat):Prop where
 sane:Sane m.d U K
 run:∀ L,m.l=some L→Runs m.d L.entries L.put m.failed U∧MarkOk (rowsOf L.entries) L.put∧L.entries=lists m.es∧L.levels=levels L.entries∧L.failed=m.failed∧L.key=m.key
theorem Good.bound {m:Wm} {U:List Nat} {K K':Nat} (h:Good m U K) (hK:K≤K'):Good m U K':=⟨h.sane.more hK,h.run⟩
theorem good_open {m:Wm} {U:List Nat} {K k n:Nat} {d':Dk} {ss:List ByteArray} (h:Good m U K) (hU:U.length<1048576) (c:Calm k (mendD m.d) d') (ho:OpensTo m.d.files m.key (.good (lists ss) n)) (fo:Bool) :
  Good ⟨m.key,d',some ⟨m.key,lists ss,levels (lists ss),[],false⟩,ss,n,false,fo⟩ U (K+k):=by
 have hs:Sane d' U (K+k):=h.sane.mend.calm c
 refine⟨hs,fun L hL=>?_⟩
 cases hL
 have hf:d'.files=m.d.files:=c.files
 exact⟨runs_open hs c.dead c.hit hU (by rw[hf];exact ho),⟨Nat.zero_le _,fun a b r ha=>by simp at ha⟩,rfl,rfl,rfl,rfl⟩
theorem good_fault {m:Wm} {U:List Nat} {K:Nat} (h:Good m U K) (a:Nat) (x y:Bool):Good { m with d:=faultD m.d a x y } U K:=
 ⟨h.sane.fault a x y,fun L hL=>⟨(h.run L hL).1.fault a x y,(h.run L hL).2⟩⟩
theorem good_append {m:Wm} {U:List Nat} {K:Nat} {L:Lg} {s:ByteArray} (h:Good m U K) (hL:m.l=some L) (hf:m.failed=false) (hs:s.size≤20) :
  Good { m with l:=some { L with entries:=L.entries ++ [s.data.toList],levels:=levels (L.entries ++ [s.data.toList]) },es:=m.es ++ [s] } (L.entries.length / 4 :: U) K:=by
 obtain⟨h1,h2,h3,h4,h5,h6⟩:=h.run L hL
 refine⟨h.sane.grow _ (Nat.le_refl _),fun L2 hL2=>?_⟩
 cases hL2
 rw[hf] at h1
 have hr:=runs_append s.data.toList h1 (by simpa using hs)
 refine⟨by show Runs m.d _ _ m.failed _;rw[hf];exact hr,(hr.live rfl).2.mark,?_,rfl,h5,h6⟩
 show L.entries ++ [s.data.toList]=lists (m.es ++ [s])
 rw[h3]
 simp[lists]
theorem pubJ_mark (R:List (List (List UInt8))):∀ (k n:Nat) (put:List Nat) (d:Dk),k+n=R.length→MarkOk R put→MarkOk R (pubJ n (R.drop n) put d).2.1
 | 0,n,put,d,hn,h=>by
   rw[List.drop_of_length_le (by omega)]
   exact h
 | k+1,n,put,d,hn,h=>by
   have hlt:n<R.length:=by omega
   rw[List.drop_eq_getElem_cons hlt,pubJ]
   have hr:R[n]?=some R[n]:=List.getElem?_eq_getElem hlt
   have hx:=h.next hr (writeJ_mark ((n:Int)-1) R[n] ((put++List.replicate (n+1-put.length) 0).getD n 0 / 4) d)
   split
   ·exact hx
   ·exact pubJ_mark R k (n+1) _ _ (by omega) hx
theorem pubD_mark {es:List (List UInt8)} {put:List Nat} (key:ByteArray) (d:Dk) (h:MarkOk (rowsOf es) put):MarkOk (rowsOf es) (pubD es key put d).2.1:=by
 have:=pubJ_mark (rowsOf es) (rowsOf es).length 0 put d (by omega) h
 rw[List.drop_zero] at this
 unfold pubD
 split <;> exact this
theorem good_publish {m:Wm} {U:List Nat} {K:Nat} {L:Lg} (h:Good m U K) (hU:U.length≤16384) (hL:m.l=some L) (hf:m.failed=false) (hn:NoClash (filesP L.entries) m.d.files) (pub:Int) (fo:Bool) :
  Good ⟨m.key,(pubD L.entries L.key L.put m.d).1,some { L with put:=(pubD L.entries L.key L.put m.d).2.1,failed:=(pubD L.entries L.key L.put m.d).2.2.isSome },m.es,pub,(pubD L.entries L.key L.put m.d).2.2.isSome,fo⟩ U (K+1048576):=by
 obtain⟨h1,h2,h3,h4,h5,h6⟩:=h.run L hL
 rw[hf] at h1
 obtain⟨r1,r2⟩:=runs_publish L.key h.sane h1 hU hn
 refine⟨r1,fun L2 hL2=>?_⟩
 cases hL2
 exact⟨r2,pubD_mark _ _ h2,h3,h4,rfl,h6⟩
abbrev moreW (m:Wm) (L:Lg) (s:ByteArray):Wm:={ m with l:=some { L with entries:=L.entries ++ [s.data.toList],levels:=levels (L.entries ++ [s.data.toList]) },es:=m.es ++ [s] }
abbrev pubW (m:Wm) (L:Lg):Wm:=⟨m.key,(pubD L.entries L.key L.put m.d).1,some { L with put:=(pubD L.entries L.key L.put m.d).2.1,failed:=(pubD L.entries L.key L.put m.d).2.2.isSome },m.es,m.es.length,m.failed,false⟩
end
section
structure Pl where
 gw:Nat
 gd:Nat
 v:Value
 en:Value
 gl:Nat
 g:Nat
 ve:Value
 vl:Value
 vp:Value
 vs:List Value
end
section
theorem rootsp_nil (m n:Nat) (whole:Option Hsh):roots m n whole []=if m=n then whole.map fun a=>(a,a) else none:=by simp[roots,rootsR]
theorem rootsp_snoc (m n:Nat) (whole:Option Hsh) (q:List Hsh) (r:Hsh):roots m n whole (q ++ [r])=if m=n then (match whole with|some _=>none|none=>if q = [] then some (r,r) else none)
   else if m≤below n then (roots m (below n) whole q).map fun x=>(x.1,nodeH x.2 r) else (roots (m-below n) (n-below n) none q).map fun x=>(nodeH r x.1,nodeH r x.2):=by
 unfold roots below
 rw[List.reverse_append]
 simp only[List.reverse_cons,List.reverse_nil,List.nil_append,List.singleton_append,rootsR]
 cases whole <;> simp
theorem rootsp_whole (m:Nat) (a:Hsh) (p:List Hsh):roots m m (some a) p=if p.length=0 then some (a,a) else none:=by
 rcases List.eq_nil_or_concat p with rfl|⟨q,r,rfl⟩
 ·simp[rootsp_nil]
 ·rw[List.concat_eq_append] at *
  rw[rootsp_snoc,if_pos rfl];simp
theorem rootsp_one (m:Nat) (r:Hsh):roots m m none [r]=some (r,r):=by
 have:=rootsp_snoc m m none [] r
 simpa using this
end
section
def pathF:Nat→List (List UInt8)→Nat→List Hsh
 | 0,_,_=>[]
 | f+1,l,i=>if l.length≤1 then [] else if i<below l.length then pathF f (l.take (below l.length)) i ++ [rootOf (l.drop (below l.length))]
   else pathF f (l.drop (below l.length)) (i-below l.length) ++ [rootOf (l.take (below l.length))]
def pathOf (l:List (List UInt8)) (i:Nat):List Hsh:=pathF l.length l i
def partF:Nat→Nat→List (List UInt8)→Bool→List Hsh
 | 0,_,_,_=>[]
 | f+1,m,l,whole=>if m=l.length then (if whole then [] else [rootOf l]) else if m≤below l.length then partF f m (l.take (below l.length)) whole ++ [rootOf (l.drop (below l.length))]
   else partF f (m-below l.length) (l.drop (below l.length)) false ++ [rootOf (l.take (below l.length))]
def partOf (m:Nat) (l:List (List UInt8)) (whole:Bool):List Hsh:=partF l.length m l whole
theorem pathF_more:∀ (f g:Nat) (l:List (List UInt8)) (i:Nat),l.length≤f→l.length≤g→pathF f l i=pathF g l i
 | 0,0,_,_,_,_=>rfl
 | 0,g+1,l,i,h,_=>by
  have:l.length=0:=by omega
  simp[pathF,this]
 | f+1,0,l,i,_,h=>by
  have:l.length=0:=by omega
  simp[pathF,this]
 | f+1,g+1,l,i,h1,h2=>by
  simp only[pathF]
  split
  ·rfl
  ·have hb:=below_lt (n:=l.length) (by omega)
   rw[pathF_more f g _ i (by simp;omega) (by simp;omega),pathF_more f g (l.drop _) _ (by simp;omega) (by simp;omega)]
theorem partF_more:∀ (f g m:Nat) (l:List (List UInt8)) (b:Bool),1≤m→m≤l.length→l.length≤f→l.length≤g→partF f m l b=partF g m l b
 | 0,_,_,l,_,h0,_,h,_=>by omega
 | f+1,0,_,l,_,h0,_,_,h=>by omega
 | f+1,g+1,m,l,b,h0,hm,h1,h2=>by
  simp only[partF]
  split
  ·rfl
  ·have hb:=below_lt (n:=l.length) (by omega)
   split
   ·rw[partF_more f g m _ b h0 (by simp;omega) (by simp;omega) (by simp;omega)]
   ·rw[partF_more f g _ (l.drop _) _ (by omega) (by simp;omega) (by simp;omega) (by simp;omega)]
theorem pathF_len:∀ (f:Nat) (l:List (List UInt8)) (i:Nat),(pathF f l i).length≤f
 | 0,_,_=>Nat.le_refl _
 | f+1,l,i=>by
  simp only[pathF]
  split
  ·simp
  ·split
   ·have:=pathF_len f (l.take (below l.length)) i;simp;omega
   ·have:=pathF_len f (l.drop (below l.length)) (i-below l.length);simp;omega
theorem pathOf_len (l:List (List UInt8)) (i:Nat):(pathOf l i).length≤l.length:=pathF_len _ _ _
theorem pathOf_one {l:List (List UInt8)} (h:l.length≤1) (i:Nat):pathOf l i = []:=by
 unfold pathOf
 rcases Nat.lt_or_ge 0 l.length with h0|h0
 ·obtain⟨n,hn⟩:∃ n,l.length=n+1:=⟨l.length-1,by omega⟩
  rw[hn];simp only[pathF];rw[if_pos h]
 ·rw[show l.length=0 by omega];rfl
theorem pathOf_more {l:List (List UInt8)} (h:2≤l.length) (i:Nat):pathOf l i=if i<below l.length then pathOf (l.take (below l.length)) i ++ [rootOf (l.drop (below l.length))]
   else pathOf (l.drop (below l.length)) (i-below l.length) ++ [rootOf (l.take (below l.length))]:=by
 unfold pathOf
 have hb:=below_lt h
 obtain⟨n,hn⟩:∃ n,l.length=n+1:=⟨l.length-1,by omega⟩
 rw[hn]
 simp only[pathF]
 rw[if_neg (by omega),hn]
 rw[hn] at hb
 rw[pathF_more n _ (l.take _) i (by simp;omega) (Nat.le_refl _),pathF_more n _ (l.drop _) _ (by simp;omega) (Nat.le_refl _)]
theorem partOf_all (l:List (List UInt8)) (b:Bool) (h:1≤l.length):partOf l.length l b=if b then [] else [rootOf l]:=by
 unfold partOf
 obtain⟨n,hn⟩:∃ n,l.length=n+1:=⟨l.length-1,by omega⟩
 rw[hn]
 simp only[partF]
 rw[if_pos hn.symm]
theorem partOf_more {l:List (List UInt8)} {m:Nat} (h1:1≤m) (h:m<l.length) (b:Bool):partOf m l b=if m≤below l.length then partOf m (l.take (below l.length)) b ++ [rootOf (l.drop (below l.length))]
   else partOf (m-below l.length) (l.drop (below l.length)) false ++ [rootOf (l.take (below l.length))]:=by
 unfold partOf
 have hb:=below_lt (n:=l.length) (by omega)
 obtain⟨n,hn⟩:∃ n,l.length=n+1:=⟨l.length-1,by omega⟩
 rw[hn]
 simp only[partF]
 rw[if_neg (by omega),hn]
 rw[hn] at hb
 split
 ·rw[partF_more n _ m (l.take _) b h1 (by simp;omega) (by simp;omega) (Nat.le_refl _)]
 ·rw[partF_more n _ _ (l.drop _) _ (by omega) (by simp;omega) (by simp;omega) (Nat.le_refl _)]
def pathR:Nat→Nat→Nat→Nat→List (Nat×Nat)
 | 0,_,_,_=>[]
 | f+1,a,b,i=>if b-a≤1 then [] else if i<a+below (b-a) then (a+below (b-a),b) :: pathR f a (a+below (b-a)) i else (a,a+below (b-a)) :: pathR f (a+below (b-a)) b i
def partR:Nat→Nat→Nat→Nat→List (Nat×Nat)
 | 0,_,_,_=>[]
 | f+1,a,b,m=>if b≤m then (if 0<a then [(a,b)] else []) else if m≤a+below (b-a) then (a+below (b-a),b) :: partR f a (a+below (b-a)) m else (a,a+below (b-a)) :: partR f (a+below (b-a)) b m
def part (l:List (List UInt8)) (a b:Nat):List (List UInt8):=(l.drop a).take (b-a)
theorem part_len {l:List (List UInt8)} {a b:Nat} (hb:b≤l.length):(part l a b).length=b-a:=by
 unfold part;rw[List.length_take,List.length_drop];omega
theorem part_take {l:List (List UInt8)} {a b k:Nat} (hk:a+k≤b):(part l a b).take k=part l a (a+k):=by
 unfold part;rw[List.take_take];congr 1;omega
theorem part_drop {l:List (List UInt8)} {a b k:Nat}:(part l a b).drop k=part l (a+k) b:=by
 unfold part;rw[List.drop_take,List.drop_drop];congr 1;omega
theorem pathR_eq (l:List (List UInt8)):∀ (f a b i:Nat),b-a≤f→a≤i→i<b→b≤l.length→(pathR f a b i).reverse.map (fun x=>rootOf (part l x.1 x.2))=pathOf (part l a b) (i-a)
 | 0,a,b,i,h,h1,h2,_=>by omega
 | f+1,a,b,i,h,h1,h2,h3=>by
  have hl:=part_len (l:=l) (a:=a) h3
  simp only[pathR]
  by_cases h4:b-a≤1
  ·rw[if_pos h4,pathOf_one (by omega)];rfl
  ·rw[if_neg h4,pathOf_more (by omega),hl]
   have hb:=below_lt (n:=b-a) (by omega)
   by_cases h5:i<a+below (b-a)
   ·rw[if_pos h5,if_pos (by omega),List.reverse_cons,List.map_append,pathR_eq l f a _ i (by omega) h1 h5 (by omega),part_take (by omega),part_drop]
    rfl
   ·rw[if_neg h5,if_neg (by omega),List.reverse_cons,List.map_append,pathR_eq l f _ b i (by omega) (by omega) h2 h3,part_take (by omega),part_drop]
    rw[show i-(a+below (b-a))=i-a-below (b-a) by omega]
    rfl
theorem partR_eq (l:List (List UInt8)):∀ (f a b m:Nat),b-a≤f→a<m→m≤b→b≤l.length→(partR f a b m).reverse.map (fun x=>rootOf (part l x.1 x.2))=partOf (m-a) (part l a b) (a == 0)
 | 0,a,b,m,h,h1,h2,_=>by omega
 | f+1,a,b,m,h,h1,h2,h3=>by
  have hl:=part_len (l:=l) (a:=a) h3
  simp only[partR]
  by_cases h4:b≤m
  ·obtain rfl:b=m:=by omega
   have:=partOf_all (part l a b) (a == 0) (by omega)
   rw[hl] at this
   rw[if_pos h4,this]
   rcases Nat.eq_zero_or_pos a with rfl|h0
   ·simp
   ·have:(a == 0)=false:=by simp;omega
    simp[this,h0]
  ·have hb:=below_lt (n:=b-a) (by omega)
   rw[if_neg h4,partOf_more (by omega) (by omega),hl]
   by_cases h5:m≤a+below (b-a)
   ·rw[if_pos h5,if_pos (by omega),List.reverse_cons,List.map_append,partR_eq l f a _ m (by omega) h1 h5 (by omega),part_take (by omega),part_drop]
    rfl
   ·rw[if_neg h5,if_neg (by omega),List.reverse_cons,List.map_append,partR_eq l f _ b m (by omega) (by omega) h2 h3,part_take (by omega),part_drop]
    rw[show m-(a+below (b-a))=m-a-below (b-a) by omega,show (a+below (b-a) == 0)=false by simp;omega]
    rfl
theorem pathR_mem:∀ (f a b i:Nat),b-a≤f→a≤i→i<b→∀ x∈pathR f a b i,x.1<x.2∧x.2≤b
 | 0,a,b,i,h,h1,h2,x,hx=>by simp[pathR] at hx
 | f+1,a,b,i,h,h1,h2,x,hx=>by
  simp only[pathR] at hx
  split at hx
  ·simp at hx
  ·have hb:=below_lt (n:=b-a) (by omega)
   split at hx
   ·rcases List.mem_cons.1 hx with rfl|hx
    ·exact⟨by show a+below (b-a)<b;omega,Nat.le_refl _⟩
    ·have:=pathR_mem f a _ i (by omega) h1 (by assumption) x hx
     exact⟨this.1,by omega⟩
   ·rcases List.mem_cons.1 hx with rfl|hx
    ·exact⟨by show a<a+below (b-a);omega,by show a+below (b-a)≤b;omega⟩
    ·exact pathR_mem f _ b i (by omega) (by omega) h2 x hx
theorem partR_mem:∀ (f a b m:Nat),b-a≤f→a<m→m≤b→∀ x∈partR f a b m,x.1<x.2∧x.2≤b
 | 0,a,b,m,h,h1,h2,x,hx=>by simp[partR] at hx
 | f+1,a,b,m,h,h1,h2,x,hx=>by
  simp only[partR] at hx
  split at hx
  ·split at hx
   ·simp at hx;subst hx;exact⟨by show a<b;omega,Nat.le_refl _⟩
   ·simp at hx
  ·have hb:=below_lt (n:=b-a) (by omega)
   split at hx
   ·rcases List.mem_cons.1 hx with rfl|hx
    ·exact⟨by show a+below (b-a)<b;omega,Nat.le_refl _⟩
    ·have:=partR_mem f a _ m (by omega) h1 (by assumption) x hx
     exact⟨this.1,by omega⟩
   ·rcases List.mem_cons.1 hx with rfl|hx
    ·exact⟨by show a<a+below (b-a);omega,by show a+below (b-a)≤b;omega⟩
    ·exact partR_mem f _ b m (by omega) (by omega) h2 x hx
theorem rebuildp_snoc (leaf last:Hsh) (i n:Nat) (q:List Hsh):rebuild leaf i n (q ++ [last])=if n=1 then none else if i<below n then (rebuild leaf i (below n) q).map (nodeH · last) else (rebuild leaf (i-below n) (n-below n) q).map (nodeH last ·):=by
 unfold rebuild below
 rw[List.reverse_append]
 rfl
theorem rebuild_path:∀ (f:Nat) (l:List (List UInt8)) (i:Nat),l.length≤f→i<l.length→rebuild (leafH (l.getD i [])) i l.length (pathOf l i)=some (rootOf l)
 | 0,l,i,h1,h=>by omega
 | f+1,l,i,h1,h=>by
  by_cases h2:2≤l.length
  ·have hb:=below_lt h2
   rw[pathOf_more h2,rootOf_more h2]
   by_cases h3:i<below l.length
   ·rw[if_pos h3,rebuildp_snoc,if_neg (by omega),if_pos h3]
    have:=rebuild_path f (l.take (below l.length)) i (by simp;omega) (by simp;omega)
    have he:(l.take (below l.length)).getD i []=l.getD i []:=by simp[List.getD_eq_getElem?_getD,h3]
    rw[he,List.length_take,Nat.min_eq_left (by omega)] at this
    rw[this];rfl
   ·rw[if_neg h3,rebuildp_snoc,if_neg (by omega),if_neg h3]
    have:=rebuild_path f (l.drop (below l.length)) (i-below l.length) (by simp;omega) (by simp;omega)
    have he:(l.drop (below l.length)).getD (i-below l.length) []=l.getD i []:=by
     rw[List.getD_eq_getElem?_getD,List.getD_eq_getElem?_getD,List.getElem?_drop];congr 2;omega
    rw[he,List.length_drop] at this
    rw[this];rfl
  ·obtain⟨e,rfl⟩:∃ e,l = [e]:=List.length_eq_one_iff.1 (by omega)
   simp only[List.length_cons,List.length_nil] at h
   obtain rfl:i=0:=by omega
   rfl
theorem roots_part:∀ (f:Nat) (l:List (List UInt8)) (m:Nat) (b:Bool),l.length≤f→l.length<9223372036854775808→1≤m→m≤l.length→roots m l.length (if b then some (rootOf (l.take m)) else none) (partOf m l b)=some (rootOf (l.take m),rootOf l)
 | 0,l,m,b,h1,hx,h,h2=>by omega
 | f+1,l,m,b,h1,hx,h,h2=>by
  rcases Nat.lt_or_ge m l.length with hlt|hge
  ·have hb:=below_lt (n:=l.length) (by omega)
   rw[partOf_more h hlt,rootOf_more (l:=l) (by omega)]
   by_cases h3:m≤below l.length
   ·rw[if_pos h3,rootsp_snoc,if_neg (by omega),if_pos h3]
    have:=roots_part f (l.take (below l.length)) m b (by simp;omega) (by simp;omega) h (by simp;omega)
    rw[List.take_take,List.length_take,Nat.min_eq_left h3,Nat.min_eq_left (by omega:below l.length≤l.length)] at this
    rw[this];rfl
   ·rw[if_neg h3,rootsp_snoc,if_neg (by omega),if_neg h3]
    have:=roots_part f (l.drop (below l.length)) (m-below l.length) false (by simp;omega) (by simp;omega) (by omega) (by simp;omega)
    rw[List.length_drop] at this
    simp only[Bool.false_eq_true,if_false] at this
    rw[this]
    have e1:rootOf (l.take m)=nodeH (rootOf (l.take (below l.length))) (rootOf ((l.drop (below l.length)).take (m-below l.length))):=by
     have hlm:(l.take m).length=m:=by simp;omega
     have hbm:below m=below l.length:=by
      obtain⟨e,he,_,h6,h7⟩:=bl_bd (n:=l.length) (by omega) hx
      have hbl:below l.length=2 ^ e:=by unfold below;rw[he,Nat.add_sub_cancel]
      rw[hbl] at h3 ⊢
      exact below_uniq (by omega) (by omega) (by omega) (by omega)
     rw[rootOf_more (by omega),hlm,hbm,List.take_take,Nat.min_eq_left (by omega),List.drop_take]
    rw[e1];rfl
  ·obtain rfl:m=l.length:=by omega
   rw[partOf_all l b h,List.take_of_length_le (Nat.le_refl _)]
   cases b
   ·simp only[Bool.false_eq_true,if_false];rw[rootsp_one]
   ·simp only[if_true];rw[rootsp_whole];rfl
end
section
structure Lie1 where
 path:ByteArray
 data:ByteArray
 fails:Bool
 times:Int
structure Nt where
 files:List Fil
 lies:List Lie1
 told:List Nat
 fetches:Nat
def liveAt (n:Nt) (p:ByteArray) (i:Nat):Bool:=match n.lies[i]? with
 | some l=>decide (l.path=p) && !(decide (0<l.times) && decide (l.times≤((n.told.getD i 0:Nat):Int)))
 | none=>false
def lieFrom (n:Nt) (p:ByteArray):Nat→Nat→Option Nat
 | 0,_=>none
 | k+1,i=>if liveAt n p i=true then some i else lieFrom n p k (i+1)
def lieOf (n:Nt) (p:ByteArray):Option Nat:=lieFrom n p n.lies.length 0
def fetchA (n:Nt) (p:ByteArray):Option (List UInt8):=match lieOf n p with
 | some i=>(n.lies[i]?).bind fun l=>if l.fails=true then none else some l.data.data.toList
 | none=>(getF n.files p).map (·.data.toList)
def fetchN (n:Nt) (p:ByteArray):Nt:=match lieOf n p with
 | some i=>{ n with fetches:=n.fetches+1,told:=n.told.set i (n.told.getD i 0+1) }
 | none=>{ n with fetches:=n.fetches+1 }
abbrev Kv:=ByteArray×List UInt8
structure Cch where
 most:Nat
 items:List Kv
def kvGet (l:List Kv) (p:ByteArray):Option (List UInt8):=(l.find? fun x=>decide (x.1=p)).map (·.2)
def kvDrop (l:List Kv) (p:ByteArray):List Kv:=l.filter fun x=>!decide (x.1=p)
def cacheGet (c:Cch) (p:ByteArray):Cch:=match kvGet c.items p with
 | some v=>{ c with items:=(p,v) :: kvDrop c.items p }
 | none=>c
def cachePut (c:Cch) (p:ByteArray) (v:List UInt8):Cch:=
 if c.most=0 then c else
 if (kvGet c.items p).isSome=true then { c with items:=(p,v) :: kvDrop c.items p } else
 if c.items.length=c.most then { c with items:=(p,v) :: c.items.dropLast } else { c with items:=(p,v) :: c.items }
structure Cs where
 net:Nt
 cache:Cch
 files:List Kv
inductive QErr where
 | miss (p:ByteArray)
 | panic
abbrev Qm (α:Type):=Cs→Except QErr α×Cs
def Qm.pure {α:Type} (a:α):Qm α:=fun s=>(.ok a,s)
def Qm.bind {α β:Type} (m:Qm α) (f:α→Qm β):Qm β:=fun s=>match m s with
 | (.ok a,s1)=>f a s1
 | (.error p,s1)=>(.error p,s1)
def keepQ (p:ByteArray) (b:List UInt8) (s:Cs):Cs:={ s with files:=s.files ++ [(p,b)] }
abbrev FitsF:=List UInt8→Nat→Nat→Option (List UInt8)
def tryQ (fits:FitsF) (q:ByteArray) (have' want:Nat) (s:Cs):Option (List UInt8):=(fetchA s.net q).bind fun data=>fits data have' want
def fetchedQ (q:ByteArray) (s:Cs):Cs:={ s with net:=fetchN s.net q }
def tileName (level:Int) (index w:Nat):ByteArray:=sOf (nameOf level index w)
def wideAt (index count:Nat):Nat:=min 4 (count-4*index)
def fetchQ (fits:FitsF) (level:Int) (index w:Nat):Qm (List UInt8):=fun s=>
 match tryQ fits (tileName level index w) w w s with
 | some b=>(.ok b,keepQ (tileName level index w) b (fetchedQ (tileName level index w) s))
 | none=>if w=4 then (.error (.miss (tileName level index w)),fetchedQ (tileName level index w) s) else
  match tryQ fits (tileName level index 4) 4 w (fetchedQ (tileName level index w) s) with
  | some b=>(.ok b,keepQ (tileName level index w) b (fetchedQ (tileName level index 4) (fetchedQ (tileName level index w) s)))
  | none=>(.error (.miss (tileName level index w)),fetchedQ (tileName level index 4) (fetchedQ (tileName level index w) s))
def fileQ (fits:FitsF) (level:Int) (index count:Nat):Qm (List UInt8):=fun s=>
 match kvGet s.files (tileName level index (wideAt index count)) with
 | some b=>(.ok b,s)
 | none=>match kvGet s.cache.items (tileName level index (wideAt index count)) with
  | some b=>(.ok b,keepQ (tileName level index (wideAt index count)) b { s with cache:=cacheGet s.cache (tileName level index (wideAt index count)) })
  | none=>fetchQ fits level index (wideAt index count) s
def fitsHash:FitsF:=fun data have' want=>if data.length=8*have' then some (data.take (8*want)) else none
def fitsBun:FitsF:=fun data have' want=>(unbundleOf data).bind fun l=>if l.length=have' then bundleOf (l.take want) else none
def hashAt (b:List UInt8) (k:Nat):Hsh:=eightOf (b.drop (8*k))
def partQ (b:List UInt8) (k:Nat):Qm Hsh:=fun s=>if b.length<8*k then (.error .panic,s) else (.ok (hashAt b k),s)
def evenQ (n level index:Nat):Qm Hsh:=Qm.bind (fileQ fitsHash ((level / 2:Nat):Int) (index / 4) (n / 2 ^ level)) fun b=>partQ b (index%4)
def fullQ (n level index:Nat):Qm Hsh:=
 if level%2=1 then Qm.bind (evenQ n (level-1) (2*index)) fun a=>Qm.bind (evenQ n (level-1) (2*index+1)) fun b=>Qm.pure (nodeH a b)
 else evenQ n level index
def rootQ (N:Nat):Nat→Nat→Nat→Qm Hsh
 | 0,_,_=>fun s=>(.error .panic,s)
 | f+1,i,n=>if n &&& (n-1)=0∧i%n=0 then fullQ N (Lib.bitLen n-1) (i / n)
  else Qm.bind (rootQ N f i (below n)) fun a=>Qm.bind (rootQ N f (i+below n) (n-below n)) fun b=>Qm.pure (nodeH a b)
def gatherQ (N:Nat):List (Nat×Nat)→Qm (List Hsh)
 | []=>Qm.pure []
 | x :: xs=>Qm.bind (rootQ N (x.2-x.1) x.1 (x.2-x.1)) fun h=>Qm.bind (gatherQ N xs) fun l=>Qm.pure (h :: l)
def askQ (net:Nt) (cache:Cch):Cs:=⟨net,cache,[]⟩
def rememberQ (c:Cch):List Kv→Cch
 | []=>c
 | x :: xs=>rememberQ (cachePut c x.1 x.2) xs
def readQ (N i:Nat):Qm (List UInt8×List Hsh):=
 Qm.bind (fileQ fitsBun (-1) (i / 4) N) fun b=>match ((unbundleOf b).getD [])[i%4]? with
  | none=>fun s=>(.error .panic,s)
  | some e=>Qm.bind (gatherQ N (pathR N 0 N i).reverse) fun p=>Qm.pure (e,p)
def proofQ (m N:Nat):Qm (List Hsh):=gatherQ N (partR N 0 N m).reverse
end
section
def cutR (r:List (List UInt8)) (j w:Nat):List UInt8:=((r.drop (4*j)).take w).flatten
def TileOk (es:List (List UInt8)) (p:ByteArray) (b:List UInt8):Prop:=
 ∃ (m j w:Nat) (r:List (List UInt8)),(rowsOf es)[m]?=some r∧1≤w∧w≤4∧4*j+w≤r.length∧p=tileName ((m:Int)-1) j w∧b=cutR r j w
theorem tile_ok {es:List (List UInt8)} (hl:es.length≤1048576) {m j w:Nat} {r:List (List UInt8)} (hr:(rowsOf es)[m]?=some r) (h1:1≤w) (h4:w≤4) (hj:4*j+w≤r.length):nameOk ((m:Int)-1) j w∧(j:Int)<9223372036854775808:=by
 obtain⟨a1,a2,a3⟩:=rowsOf_small hl
 have hn:=(List.getElem?_eq_some_iff.1 hr).1
 have hlr:=a3 r (List.mem_of_getElem? hr)
 unfold nameOk
 omega
theorem tile_one {es:List (List UInt8)} (hl:es.length≤1048576) {m j w:Nat} {r:List (List UInt8)} (hr:(rowsOf es)[m]?=some r) (h1:1≤w) (h4:w≤4) (hj:4*j+w≤r.length) {b:List UInt8} (h:TileOk es (tileName ((m:Int)-1) j w) b):b=cutR r j w:=by
 obtain⟨m',j',w',r',k1,k2,k3,k4,k5,rfl⟩:=h
 have a:=tile_ok hl hr h1 h4 hj
 have c:=tile_ok hl k1 k2 k3 k4
 have e:=nameOf_inj a.1 c.1 a.2 c.2 (sOf_inj k5)
 obtain rfl:m=m':=by omega
 obtain rfl:j=j':=by omega
 obtain rfl:w=w':=by omega
 rw[hr] at k1
 cases k1
 rfl
def Steady (n:Nt):Prop:=∀ l∈n.lies,l.times≤0
theorem liveAt_steady {n n':Nt} (h:Steady n) (hl:n'.lies=n.lies) (p:ByteArray) (i:Nat):liveAt n' p i=liveAt n p i:=by
 unfold liveAt
 rw[hl]
 cases hi:n.lies[i]? with
 | none=>rfl
 | some l=>
  have h0:=h l (List.mem_of_getElem? hi)
  have:¬ 0<l.times:=by omega
  simp[this]
theorem lieFrom_steady {n n':Nt} (h:Steady n) (hl:n'.lies=n.lies) (p:ByteArray):∀ (k i:Nat),lieFrom n' p k i=lieFrom n p k i
 | 0,_=>rfl
 | k+1,i=>by rw[lieFrom,lieFrom,liveAt_steady h hl,lieFrom_steady h hl p k (i+1)]
theorem fetchA_steady {n n':Nt} (h:Steady n) (hl:n'.lies=n.lies) (hf:n'.files=n.files) (p:ByteArray):fetchA n' p=fetchA n p:=by
 unfold fetchA lieOf
 rw[hl,hf,lieFrom_steady h hl]
theorem fetchN_same (n:Nt) (q:ByteArray):(fetchN n q).lies=n.lies∧(fetchN n q).files=n.files∧(fetchN n q).fetches=n.fetches+1:=by
 unfold fetchN
 split <;> exact⟨rfl,rfl,rfl⟩
theorem fetchA_N {n:Nt} (h:Steady n) (q p:ByteArray):fetchA (fetchN n q) p=fetchA n p:=fetchA_steady h (fetchN_same n q).1 (fetchN_same n q).2.1 p
def fitsOf (m:Nat):FitsF:=if m=0 then fitsBun else fitsHash
structure NetTrue (es:List (List UInt8)) (n:Nt):Prop where
 steady:Steady n
 fits:∀ (m j w0 w:Nat) (r:List (List UInt8)) (data b:List UInt8),(rowsOf es)[m]?=some r→1≤w→w≤w0→w0≤4→4*j+w≤r.length→(w0=w∨w0=4)→fetchA n (tileName ((m:Int)-1) j w0)=some data→fitsOf m data w0 w=some b→b=cutR r j w
theorem NetTrue.next {es:List (List UInt8)} {n:Nt} (h:NetTrue es n) (q:ByteArray):NetTrue es (fetchN n q) where
 steady:=by rw[Steady,(fetchN_same n q).1];exact h.steady
 fits m j w0 w r data b h1 h2 h3 h4 h5 h6 h7 h8:=h.fits m j w0 w r data b h1 h2 h3 h4 h5 h6 (by rw[←fetchA_N h.steady q];exact h7) h8
def NetHas (es:List (List UInt8)) (N:Nat) (n:Nt):Prop:=
 ∀ (m j:Nat) (r:List (List UInt8)),(rowsOf (es.take N))[m]?=some r→4*j<r.length→fetchA n (tileName ((m:Int)-1) j (min 4 (r.length-4*j)))=some (cutR r j (min 4 (r.length-4*j)))
structure TrueQ (es:List (List UInt8)) (N:Nat) (av:Bool) (s:Cs):Prop where
 files:∀ x∈s.files,TileOk es x.1 x.2
 cache:∀ x∈s.cache.items,TileOk es x.1 x.2
 net:NetTrue es s.net
 has:av=true→NetHas es N s.net
theorem TrueQ.keep {es:List (List UInt8)} {N:Nat} {av:Bool} {s:Cs} (h:TrueQ es N av s) {p:ByteArray} {b:List UInt8} (hb:TileOk es p b):TrueQ es N av (keepQ p b s):=
 ⟨fun x hx=>by
  rcases List.mem_append.1 hx with h1|h1
  ·exact h.files x h1
  ·rw[List.mem_singleton.1 h1];exact hb,h.cache,h.net,h.has⟩
theorem TrueQ.fetched {es:List (List UInt8)} {N:Nat} {av:Bool} {s:Cs} (h:TrueQ es N av s) (q:ByteArray):TrueQ es N av (fetchedQ q s):=
 ⟨h.files,h.cache,h.net.next q,fun ha m j r h1 h2=>by
  show fetchA (fetchN s.net q) _=_
  rw[fetchA_N h.net.steady]
  exact h.has ha m j r h1 h2⟩
theorem kvGet_mem {l:List Kv} {p:ByteArray} {b:List UInt8} (h:kvGet l p=some b):(p,b)∈l:=by
 unfold kvGet at h
 obtain⟨x,hx,rfl⟩:=Option.map_eq_some_iff.1 h
 have h1:=List.find?_some hx
 have h2:=List.mem_of_find?_eq_some hx
 obtain rfl:x.1=p:=by simpa using h1
 exact h2
theorem cacheGet_mem {c:Cch} {p:ByteArray} {x:Kv} (h:x∈(cacheGet c p).items):x∈c.items:=by
 unfold cacheGet at h
 split at h
 ·rename_i v hv
  rcases List.mem_cons.1 h with h1|h1
  ·rw[h1];exact kvGet_mem hv
  ·exact (List.mem_filter.1 h1).1
 ·exact h
def Holds {α:Type} (I:Cs→Prop) (m:Qm α) (Q:α→Prop) (E:QErr→Prop):Prop:=∀ s,I s→I (m s).2∧(∀ a,(m s).1=.ok a→Q a)∧∀ e,(m s).1=.error e→E e
theorem Holds.pure {α:Type} {I:Cs→Prop} {Q:α→Prop} {E:QErr→Prop} {a:α} (h:Q a):Holds I (Qm.pure a) Q E:=fun s hs=>⟨hs,fun b hb=>by cases hb;exact h,fun e he=>by cases he⟩
theorem Holds.bind {α β:Type} {I:Cs→Prop} {m:Qm α} {f:α→Qm β} {Q:α→Prop} {R:β→Prop} {E:QErr→Prop} (h:Holds I m Q E) (k:∀ a,Q a→Holds I (f a) R E):Holds I (Qm.bind m f) R E:=fun s hs=>by
 obtain⟨h1,h2,h3⟩:=h s hs
 unfold Qm.bind
 cases hm:m s with
 | mk o s1=>
  rw[hm] at h1 h2 h3
  cases o with
  | ok a=>exact k a (h2 a rfl) s1 h1
  | error e=>exact⟨h1,fun a ha=>(by cases ha),fun e' he=>by cases he;exact h3 e rfl⟩
theorem Holds.mono {α:Type} {I:Cs→Prop} {m:Qm α} {Q R:α→Prop} {E:QErr→Prop} (h:Holds I m Q E) (k:∀ a,Q a→R a):Holds I m R E:=fun s hs=>⟨(h s hs).1,fun a ha=>k a ((h s hs).2.1 a ha),(h s hs).2.2⟩
def MissE (av:Bool) (e:QErr):Prop:=av=false∧∃ p,e=.miss p
theorem cutR_len {r:List (List UInt8)} {j w k:Nat} (h:4*j+w≤r.length) (hr:∀ x∈r,x.length=k):(cutR r j w).length=k*w:=by
 unfold cutR
 have:∀ (l:List (List UInt8)),(∀ x∈l,x.length=k)→l.flatten.length=k*l.length:=by
  intro l hl
  induction l with
  | nil=>simp
  | cons a l ih=>
   rw[List.flatten_cons,List.length_append,ih (fun x hx=>hl x (List.mem_cons_of_mem _ hx)),hl a List.mem_cons_self,List.length_cons,Nat.mul_add,Nat.mul_one]
   omega
 rw[this _ fun x hx=>hr x (List.mem_of_mem_drop (List.mem_of_mem_take hx)),List.length_take,List.length_drop,Nat.min_eq_left (by omega)]
theorem rows_take (es:List (List UInt8)) (N:Nat) {m:Nat} {r:List (List UInt8)} (h:(rowsOf (es.take N))[m]?=some r):∃ r0 s,(rowsOf es)[m]?=some r0∧r0=r++s:=by
 have key:∀ (k:Nat),(∃ r0 s,(rowsOf (es.take (N+k)))[m]?=some r0∧r0=r++s):=by
  intro k
  induction k with
  | zero=>exact⟨r,[],h,by simp⟩
  | succ k ih=>
   obtain⟨r0,s,h1,h2⟩:=ih
   rcases Nat.lt_or_ge (N+k) es.length with hlt|hge
   ·have e:es.take (N+(k+1))=es.take (N+k) ++ [es[N+k]]:=by rw[←Nat.add_assoc,List.take_succ_eq_append_getElem hlt]
    have hm:m<(rowsOf (es.take (N+k))).length:=(List.getElem?_eq_some_iff.1 h1).1
    have hm2:m<(rowsOf (es.take (N+k) ++ [es[N+k]])).length:=by
     rw[rowsOf_len] at hm ⊢
     have:=nLev_mono (es.take (N+k)).length
     rw[List.length_append,List.length_singleton]
     omega
    obtain⟨r1,s1,h3,h4⟩:=rows_prefix es[N+k] (List.getElem?_eq_getElem hm2) hm
    rw[h1] at h3
    cases h3
    rw[e]
    exact⟨_,s++s1,List.getElem?_eq_getElem hm2,by rw[h4,h2,List.append_assoc]⟩
   ·have e:es.take (N+(k+1))=es.take (N+k):=by rw[List.take_of_length_le (by omega),List.take_of_length_le (by omega)]
    rw[e]
    exact⟨r0,s,h1,h2⟩
 obtain⟨r0,s,h1,h2⟩:=key es.length
 rw[List.take_of_length_le (by omega)] at h1
 exact⟨r0,s,h1,h2⟩
theorem cutR_append {r s:List (List UInt8)} {j w:Nat} (h:4*j+w≤r.length):cutR (r++s) j w=cutR r j w:=by
 unfold cutR
 rw[List.drop_append_of_le_length (by omega),List.take_append_of_le_length (by simp;omega)]
theorem fetchQ_true {es:List (List UInt8)} (hl:es.length≤1048576) {N m j:Nat} {av:Bool} {r:List (List UInt8)} (hr:(rowsOf (es.take N))[m]?=some r) (hj:4*j<r.length) (hfit:∀ w,1≤w→w≤4→4*j+w≤r.length→fitsOf m (cutR r j w) w w=some (cutR r j w)) :
  Holds (TrueQ es N av) (fetchQ (fitsOf m) ((m:Int)-1) j (wideAt j r.length)) (fun b=>b=cutR r j (wideAt j r.length)) (MissE av):=by
 intro s hs
 obtain⟨r0,s0,hr0,he0⟩:=rows_take es N hr
 obtain⟨w,hw⟩:∃ w,w=wideAt j r.length:=⟨_,rfl⟩
 rw[←hw]
 have hw2:1≤w∧w≤4∧4*j+w≤r.length:=by unfold wideAt at hw;omega
 have hlr:4*j+w≤r0.length:=by rw[he0,List.length_append];omega
 have hcut:cutR r0 j w=cutR r j w:=by rw[he0];exact cutR_append hw2.2.2
 have tok:TileOk es (tileName ((m:Int)-1) j w) (cutR r j w):=⟨m,j,w,r0,hr0,hw2.1,hw2.2.1,hlr,rfl,hcut.symm⟩
 unfold fetchQ
 cases ht:tryQ (fitsOf m) (tileName ((m:Int)-1) j w) w w s with
 | some b=>
  have hb:b=cutR r j w:=by
   unfold tryQ at ht
   obtain⟨data,hd,hf⟩:=Option.bind_eq_some_iff.1 ht
   rw[←hcut]
   exact hs.net.fits m j w w r0 data b hr0 hw2.1 (Nat.le_refl _) hw2.2.1 hlr (.inl rfl) hd hf
  subst hb
  exact⟨(hs.fetched _).keep tok,fun a ha=>by cases ha;rfl,fun e he=>by cases he⟩
 | none=>
  have hav:av=false:=by
   cases hav:av with
   | false=>rfl
   | true=>
    exfalso
    have h1:=hs.has hav m j r hr hj
    rw[show min 4 (r.length-4*j)=w by rw[hw];rfl] at h1
    unfold tryQ at ht
    rw[h1,Option.bind_some,hfit w hw2.1 hw2.2.1 hw2.2.2] at ht
    cases ht
  by_cases h4:w=4
  ·dsimp only
   rw[if_pos h4]
   exact⟨hs.fetched _,fun a ha=>(by cases ha),fun e he=>by cases he;exact⟨hav,_,rfl⟩⟩
  ·dsimp only
   rw[if_neg h4]
   cases ht2:tryQ (fitsOf m) (tileName ((m:Int)-1) j 4) 4 w (fetchedQ (tileName ((m:Int)-1) j w) s) with
   | some b=>
    have hb:b=cutR r j w:=by
     unfold tryQ at ht2
     obtain⟨data,hd,hf⟩:=Option.bind_eq_some_iff.1 ht2
     rw[←hcut]
     exact (hs.fetched _).net.fits m j 4 w r0 data b hr0 hw2.1 hw2.2.1 (Nat.le_refl _) hlr (.inr rfl) hd hf
    subst hb
    exact⟨((hs.fetched _).fetched _).keep tok,fun a ha=>by cases ha;rfl,fun e he=>by cases he⟩
   | none=>exact⟨(hs.fetched _).fetched _,fun a ha=>(by cases ha),fun e he=>by cases he;exact⟨hav,_,rfl⟩⟩
theorem fileQ_true {es:List (List UInt8)} (hl:es.length≤1048576) {N m j:Nat} {av:Bool} {r:List (List UInt8)} (hr:(rowsOf (es.take N))[m]?=some r) (hj:4*j<r.length) (hfit:∀ w,1≤w→w≤4→4*j+w≤r.length→fitsOf m (cutR r j w) w w=some (cutR r j w)) :
  Holds (TrueQ es N av) (fileQ (fitsOf m) ((m:Int)-1) j r.length) (fun b=>b=cutR r j (wideAt j r.length)) (MissE av):=by
 intro s hs
 obtain⟨r0,s0,hr0,he0⟩:=rows_take es N hr
 obtain⟨w,hw⟩:∃ w,w=wideAt j r.length:=⟨_,rfl⟩
 have hw2:1≤w∧w≤4∧4*j+w≤r.length:=by unfold wideAt at hw;omega
 have hlr:4*j+w≤r0.length:=by rw[he0,List.length_append];omega
 have hcut:cutR r0 j w=cutR r j w:=by rw[he0];exact cutR_append hw2.2.2
 have tok:TileOk es (tileName ((m:Int)-1) j w) (cutR r j w):=⟨m,j,w,r0,hr0,hw2.1,hw2.2.1,hlr,rfl,hcut.symm⟩
 have hF:=fetchQ_true hl (av:=av) hr hj hfit s hs
 unfold fileQ
 rw[←hw] at hF ⊢
 cases h1:kvGet s.files (tileName ((m:Int)-1) j w) with
 | some b=>
  have hb:b=cutR r j w:=by rw[←hcut];exact tile_one hl hr0 hw2.1 hw2.2.1 hlr (hs.files _ (kvGet_mem h1))
  exact⟨hs,fun a ha=>by cases ha;exact hb,fun e he=>by cases he⟩
 | none=>
  dsimp only
  cases h2:kvGet s.cache.items (tileName ((m:Int)-1) j w) with
  | some b=>
   have hb:b=cutR r j w:=by rw[←hcut];exact tile_one hl hr0 hw2.1 hw2.2.1 hlr (hs.cache _ (kvGet_mem h2))
   subst hb
   have hs2:TrueQ es N av { s with cache:=cacheGet s.cache (tileName ((m:Int)-1) j w) }:=⟨hs.files,fun x hx=>hs.cache x (cacheGet_mem hx),hs.net,hs.has⟩
   exact⟨hs2.keep tok,fun a ha=>by cases ha;rfl,fun e he=>by cases he⟩
  | none=>exact hF
end
end Go.Proofs.YtefccfakhgdfbabGreatDoor
