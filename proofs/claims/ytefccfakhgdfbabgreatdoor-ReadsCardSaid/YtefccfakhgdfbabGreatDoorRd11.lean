/- The walk of tiles' Client.Read. Conditions: the block is a client's over a Net; no step of the question goes out of its bounds. -/
import Derived.Test.YtefccfakhgdfbabGreatDoorRd10
import Derived.Stop.Asserts
set_option linter.unusedVariables false
set_option linter.unusedSimpArgs false
open Go.RowKit Go.Proofs.Tryz
set_option maxRecDepth 100000
set_option maxHeartbeats 4000000
namespace Go.Proofs.YtefccfakhgdfbabGreatDoor
section
section
variable [Inhabited OutT]
theorem Qvh (w:World) (gc:Nat) (n:Int) :
  Calls prog 86 #[.pointer (some ⟨gc,0,none⟩),.int .i64 n] w fun e w'=>∃ gq mq,e=.returned (.pointer (some ⟨gq,0,none⟩))∧w'.heap[gq]?=some (.cells #[.pointer (some ⟨gc,0,none⟩),.int .i64 n,.map (some mq),.slice none 0 0] 250 (0,0))∧w'.heap[mq]?=some (.map #[] 0)∧Below w.heap.size w w'∧w.heap.size≤gq∧w.heap.size≤mq:=by
 have hmm:=@run_makeMap prog
 go_enter func86,ntmps86
 go_wp2;refine bodyPost_ret (results_tmp rfl _ _ _) rfl ⟨w.heap.size+1,w.heap.size,rfl,?_,(heap_alloc_old _ _ (by rw[Qen];exact Nat.lt_succ_self _)).trans (heap_alloc_new _ _),(Qa w _).alloc (by rw[Qen];exact Nat.le_succ _) _,Nat.le_succ _,Nat.le_refl _⟩;rw[←Qen w (.map #[] 0)];exact heap_alloc_new _ _
def cnS (gc gk mc gn:Nat) (vt:Value) (qs:List CEnt) (k:Nat):Prop:=clS gc gk mc qs k∨netS gn vt k
variable {w w':World} {mu:Int} {gc gk mc gn gd gq mq N:Nat} {vl vt v:Value} {c:Cl} {qs:List CEnt} {d:Dk}
theorem Q44 {n:Nt} (h:ClM mu w gc gk mc (.iface 44 (.pointer (some ⟨gn,0,none⟩))) c qs) (hn:Yk w gn gd vl vt n) (hd:Q3 w gd v d) (hdf:d.files=n.files) (ho:∀ z,Out.blk=some z→z<w.heap.size)
  (hb:Below w.heap.size w w') (hq:w'.heap[gq]?=some (.cells #[.pointer (some ⟨gc,0,none⟩),.int .i64 N,.map (some mq),.slice none 0 0] 250 (0,0))) (hm:w'.heap[mq]?=some (.map #[] 0)) (h1:w.heap.size≤mq) :
  QIs w' ⟨gq,gc,gk,mc,gn,gd,mq,vl,vt,v,cliC mu (.iface 44 (.pointer (some ⟨gn,0,none⟩))) c.key c.size c.root gk⟩ ⟨.slice none 0 0,qs,[]⟩ N (askQ n c.cache) d where
 look:=hq
 km:=KmAt.made_at w' 9 hm
 ord:=World.ownsRow_nil _ _ _ _
 vals y hy:=by cases hy
 keys:=List.nodup_nil
 small y hy:=by cases hy
 files:=rfl
 cli:=(h.below hb).cells
 c2:=rfl
 c13:=rfl
 cache:=(h.below hb).cache
 net:=hn.below hb
 disk:=hd.below hb
 dfiles:=hdf
 maps e:=by
  have:=h.cache.km.lt
  dsimp only at e
  omega
 o z hz:=Nat.lt_of_lt_of_le (ho z hz) hb.size
theorem Qp9 {C:Array Value} (hq:w.heap.size≤gq) (hm:w.heap.size≤mq) {i:Nat} (hi:i<w.heap.size) (h:QS ⟨gq,gc,gk,mc,gn,gd,mq,vl,vt,v,C⟩ ⟨.slice none 0 0,qs,[]⟩ i):cnS gc gk mc gn vt qs i:=by
 have:=(inferInstance:Inhabited OutT)
 rcases h with (e|e|e)|e|e
 ·exact absurd hi (by rw[show i=gq from e];omega)
 ·exact absurd hi (by rw[show i=mq from e];omega)
 ·cases e
 ·exact .inl (.inr e)
 ·exact .inr e
theorem Q1w {w w1 w':World} {mu:Int} {gc gk mc gn gd gq mq N:Nat} {vl vt v vf:Value} {c:Cl} {qs qs':List CEnt} {vs:List FEnt} {vo:Value} {s:Cs} {d:Dk} (hq:w.heap.size≤gq) (hm:w.heap.size≤mq) (hb:Below w.heap.size w w1)
  (h:QIs w' ⟨gq,gc,gk,mc,gn,gd,mq,vl,vt,v,cliC mu vf c.key c.size c.root gk⟩ ⟨vo,qs',vs⟩ N s d) (hf:Fr (QS ⟨gq,gc,gk,mc,gn,gd,mq,vl,vt,v,cliC mu vf c.key c.size c.root gk⟩ ⟨.slice none 0 0,qs,[]⟩) w1 w') (hs:Sub w1 (QS ⟨gq,gc,gk,mc,gn,gd,mq,vl,vt,v,cliC mu vf c.key c.size c.root gk⟩ ⟨.slice none 0 0,qs,[]⟩) (QS ⟨gq,gc,gk,mc,gn,gd,mq,vl,vt,v,cliC mu vf c.key c.size c.root gk⟩ ⟨vo,qs',vs⟩)) :
  ClM mu w' gc gk mc vf { c with cache:=s.cache } qs'∧Yk w' gn gd vl vt s.net∧Fr (cnS gc gk mc gn vt qs) w w'∧Sub w (cnS gc gk mc gn vt qs) (cnS gc gk mc gn vt qs'):=by
 refine⟨⟨h.cli,h.cache⟩,h.net,(Fr.ofBelow hb).step hf fun i hi e=>Qp9 hq hm hi e,fun k hk=>?_⟩;rcases hk with (e|e)|e
 ·exact .inl (.inl (.inl e))
 ·rcases hs k (.inr (.inl e)) with e2|e2
  ·rcases Nat.lt_or_ge k w.heap.size with hlt|hge
   ·exact .inl (Qp9 hq hm hlt e2)
   ·exact .inr hge
  ·exact .inr (Nat.le_trans hb.size e2)
 ·exact .inl (.inr e)
end
end
section
open Go.RowKit Go.Extern.Stop Go.Stop Go.Extern
theorem Q4q (v:Value) (w:World):(Extern.ReflectliteType.typeOf #[.iface 338 v]).run prog w=.ok (.iface 282 (.agg #[.pointer (some ⟨17,338,none⟩)])) w:=by kernel_rfl
theorem Qr9 (w:World):((Extern.ReflectliteType.method fun t=>do Extern.Rtype.noPackHeld "Comparable" t;Functor.map (fun a=>Value.bool a.comparable) (typeInfo t)) #[.agg #[.pointer (some ⟨17,338,none⟩)]]).run prog w=.ok (.bool true) w:=by kernel_rfl
theorem Qk0 (n:Nat) (h:Value) (w:World):(Go.method (n+1) 282 (.agg #[h]) "Comparable").run prog w=.ok (263,.agg #[h]) w:=by kernel_rfl
theorem Qfn (n:Nat) (v:Value) (w:World):(Go.method (n+1) 153 v "Unwrap").run prog w=.ok (257,v) w:=by kernel_rfl
theorem Q46:(prog.info? 338).map (·.comparable)=some true:=by kernel_rfl
theorem Q5d:(prog.info? 340).map (·.size)=some 1:=by kernel_rfl
theorem Qvo (v:Value) (xT:TypeId) (w:World):(Instr.typeAssert (.iface 153 v) xT 284 true).run prog w=.ok (.tuple #[.nilIface,.bool false]) w:=run_typeAssert_lacksB underlying284 (by kernel_rfl) (by kernel_rfl) v xT w
theorem Qew (v:Value) (xT:TypeId) (w:World):(Instr.typeAssert (.iface 153 v) xT 287 true).run prog w=.ok (.tuple #[.iface 153 v,.bool true]) w:=run_typeAssert_hasB underlying287 (by kernel_rfl) v xT w
theorem Qof (w:World) (r:Nat) (x:Value) (h1:w.cell? ⟨r,1,none⟩=some x):Calls prog 257 #[.pointer (some ⟨r,0,none⟩)] w fun e w'=>e=.returned x∧w'=w:=by
 go_enter func257,ntmps257
 go_wp2;go_ret;exact⟨rfl,rfl⟩
theorem Q35 (a:Addr) (r:Nat) (w:World) (h1:w.cell? ⟨r,1,none⟩=some (.iface 338 (.pointer (some a)))) :
  Calls prog 131 #[.iface 153 (.pointer (some ⟨r,0,none⟩)),.iface 338 (.pointer (some a)),.bool true] w fun e w'=>e=.returned (.bool true)∧w'=w:=by
 obtain⟨i,hi,hcmp⟩:=Option.map_eq_some_iff.1 Q46;obtain⟨j,hj,hjs⟩:=Option.map_eq_some_iff.1 Q5d;have nP:=Qvo;have uP:=Qew;have mU:=Qfn;have heq:=run_eql_iface_ptr_same (P:=prog) w a underlying88 underlying338 hi hcmp hj;have hty:=run_eql_iface_types (P:=prog) 153 338 (.pointer (some ⟨r,0,none⟩)) (.pointer (some a)) underlying88 (by decide) w;have hnl:=Qak w 338 (.pointer (some a));have hql:=Qj0 w 338 (.pointer (some a))
 go_enter func131,ntmps131
 go_wp2_with fail
 refine wp_loop_rounds 2 ?_;rw[rounds_succ]
 go_wp2_with (go_at_call 257;refine (Qof w r _ h1).mono ?_;rintro e w2 ⟨rfl,rfl⟩)
 rw[rounds_succ];go_wp2;go_ret;exact⟨rfl,rfl⟩
theorem Q57 (a:Addr) (r:Nat) (w:World) (h1:w.cell? ⟨r,1,none⟩=some (.iface 338 (.pointer (some a)))) :
  Calls prog 73 #[.iface 153 (.pointer (some ⟨r,0,none⟩)),.iface 338 (.pointer (some a))] w fun e w'=>e=.returned (.bool true)∧w'=w:=by
 obtain⟨i,hi,hcmp⟩:=Option.map_eq_some_iff.1 Q46;obtain⟨j,hj,hjs⟩:=Option.map_eq_some_iff.1 Q5d;have h8:=@run_callFunc_extern prog 130 _ Extern.ReflectliteType.typeOf func130 (by kernel_rfl) (by kernel_rfl) (by kernel_rfl) (by kernel_rfl);have h32:=@run_callFunc_extern prog 263 _ (Extern.ReflectliteType.method fun t=>do Extern.Rtype.noPackHeld "Comparable" t;pure (.bool (←typeInfo t).comparable)) func263 (by kernel_rfl) (by kernel_rfl) (by kernel_rfl) (by kernel_rfl);have tT:=Q4q;have cT:=Qr9;have mR:=Qk0;have mU:=Qfn;have nP:=Qvo;have uP:=Qew;have heq:=run_eql_iface_ptr_same (P:=prog) w a underlying88 underlying338 hi hcmp hj;have hty:=run_eql_iface_types (P:=prog) 153 338 (.pointer (some ⟨r,0,none⟩)) (.pointer (some a)) underlying88 (by decide) w
 go_enter func73,ntmps73
 go_wp2_with fail
 refine (Q35 a r w h1).mono ?_;rintro e w2 ⟨rfl,rfl⟩;go_wp2;go_ret;exact⟨rfl,rfl⟩
theorem Q2l (t:Addr) (w:World):(ReflectliteValue.unpack (.iface 158 (.pointer (some t)))).run prog w
  = .ok (.agg #[.pointer (some ⟨17,158,none⟩),.pointer (some ⟨w.heap.size,0,none⟩),.int .u64 150]) (w.alloc (.cells #[.pointer (some t)] 158)):=by kernel_rfl
theorem Q6t (a:Addr) (w:World):(ReflectliteValue.methodAny (ReflectliteValue.valueError "reflectlite.Value.Type" 0) (fun t _ _ _=>ReflectliteType.toType t) #[.agg #[.pointer (some ⟨17,158,none⟩),.pointer (some a),.int .u64 150]]).run prog w
  = .ok (.iface 282 (.agg #[.pointer (some ⟨17,158,none⟩)])) w:=by kernel_rfl
theorem Q7v (w:World):((ReflectliteType.abiMethod fun t=>Functor.map (fun a:Nat=>Value.int IntKind.u8 (a:Int)) (Rtype.kind t)) #[.pointer (some ⟨17,158,none⟩)]).run prog w=.ok (.int .u8 22) w:=by kernel_rfl
theorem Q8i (w:World):((ReflectliteType.abiMethod fun t=>Functor.map (fun a:Nat=>Value.int IntKind.u8 (a:Int)) (Rtype.kind t)) #[.pointer (some ⟨17,152,none⟩)]).run prog w=.ok (.int .u8 22) w:=by kernel_rfl
theorem rlm (z:Sem Value) (f:TypeId→Addr→Nat→Nat→Sem Value) (v:Value) :
  ReflectliteValue.method z f #[v]=(do match ←ReflectliteValue.parts v with|none=>z|some (t,a,fl)=>f t a fl (fl%32)):=rfl
theorem Qzj (a:Addr) (w:World):(ReflectliteValue.parts (.agg #[.pointer (some ⟨17,158,none⟩),.pointer (some a),.int .u64 150])).run prog w=.ok (some (158,a,150)) w:=by kernel_rfl
theorem Q7b (a p:Addr) (W:World) (ha:W.cell? a=some (.pointer (some p))) :
  (ReflectliteValue.method (ReflectliteValue.valueError "reflectlite.Value.IsNil" 0) ReflectliteValue.isNil #[.agg #[.pointer (some ⟨17,158,none⟩),.pointer (some a),.int .u64 150]]).run prog W=.ok (.bool false) W:=by
 rw[rlm];simp only[Sem.run_bind,Qzj,Result.andThen];simp[ReflectliteValue.isNil,loadVar,isAgg,underlying,underlying158,ha,Result.andThen]
theorem Qw8 (n:Nat) (h:Value) (w:World):(Go.method (n+1) 282 (.agg #[h]) "Kind").run prog w=.ok (246,h) w:=by kernel_rfl
theorem Qxj (n:Nat) (h:Value) (w:World):(Go.method (n+1) 282 (.agg #[h]) "Elem").run prog w=.ok (264,.agg #[h]) w:=by kernel_rfl
theorem Qiw (n:Nat) (h:Value) (w:World):(Go.method (n+1) 282 (.agg #[h]) "AssignableTo").run prog w=.ok (262,.agg #[h]) w:=by kernel_rfl
theorem Qk1 (n:Nat) (h:Value) (w:World):(Go.method (n+1) 282 (.agg #[h]) "Implements").run prog w=.ok (265,.agg #[h]) w:=by kernel_rfl
theorem Q7o (w:World):(ReflectliteType.method ReflectliteType.elem #[.agg #[.pointer (some ⟨17,158,none⟩)]]).run prog w=.ok (.iface 282 (.agg #[.pointer (some ⟨17,152,none⟩)])) w:=by kernel_rfl
theorem Qs4 (w:World):(ReflectliteType.relation "Implements" ReflectliteType.implements_ #[.agg #[.pointer (some ⟨17,152,none⟩)],.iface 282 (.agg #[.pointer (some ⟨17,88,none⟩)])]).run prog w=.ok (.bool true) w:=by kernel_rfl
theorem Qx7 (v:Value) (w:World):(ReflectliteType.typeOf #[.iface 153 v]).run prog w=.ok (.iface 282 (.agg #[.pointer (some ⟨17,153,none⟩)])) w:=by kernel_rfl
theorem Q19 (v:Value) (w:World):(ReflectliteType.typeOf #[.iface 152 v]).run prog w=.ok (.iface 282 (.agg #[.pointer (some ⟨17,152,none⟩)])) w:=by kernel_rfl
theorem Qxi (w:World):(ReflectliteType.relation "AssignableTo" ReflectliteType.assignableTo #[.agg #[.pointer (some ⟨17,153,none⟩)],.iface 282 (.agg #[.pointer (some ⟨17,152,none⟩)])]).run prog w=.ok (.bool false) w:=by kernel_rfl
theorem Q1t (w:World):(ReflectliteType.relation "AssignableTo" ReflectliteType.assignableTo #[.agg #[.pointer (some ⟨17,152,none⟩)],.iface 282 (.agg #[.pointer (some ⟨17,152,none⟩)])]).run prog w=.ok (.bool true) w:=by kernel_rfl
theorem Qyb (e:Addr) (w:World):(ReflectliteValue.unpack (.iface 152 (.pointer (some e)))).run prog w
  = .ok (.agg #[.pointer (some ⟨17,152,none⟩),.pointer (some ⟨w.heap.size,0,none⟩),.int .u64 150]) (w.alloc (.cells #[.pointer (some e)] 152)):=by kernel_rfl
theorem Q3j (w:World):(Rtype.elem? 158).run prog w=.ok (some 152) w:=by kernel_rfl
theorem mkP (p:Addr) (w:World):(ReflectliteValue.mk 152 p ReflectliteValue.flagAddr).run prog w=.ok (.agg #[.pointer (some ⟨17,152,none⟩),.pointer (some p),.int .u64 406]) w:=by kernel_rfl
theorem Q8a (a p:Addr) (W:World) (ha:W.cell? a=some (.pointer (some p))) :
  (ReflectliteValue.method (ReflectliteValue.valueError "reflectlite.Value.Elem" 0) ReflectliteValue.elem #[.agg #[.pointer (some ⟨17,158,none⟩),.pointer (some a),.int .u64 150]]).run prog W
   = .ok (.agg #[.pointer (some ⟨17,152,none⟩),.pointer (some p),.int .u64 406]) W:=by
 rw[rlm];simp only[Sem.run_bind,Qzj,Result.andThen];simp[ReflectliteValue.elem,loadVar,isAgg,underlying,underlying158,ha,Result.andThen,Q3j,mkP]
theorem rls (v x:Value):ReflectliteValue.set #[v,x]=(do
  let (some (dst,a,fl),some (src,b,_)):=(←ReflectliteValue.parts v,←ReflectliteValue.parts x)
   | unsupported (.noEntry "extern/(internal/reflectlite.Value).Set.zeroValue")
  if fl / ReflectliteValue.flagAddr%2 == 0 then unsupported (.noEntry "extern/(internal/reflectlite.Value).Set.unaddressable")
  let val ←loadVar src b
  if ←Rtype.directlyAssignable dst src then storeVar dst a val
  else if ←Rtype.implements dst src then
   if (←Rtype.kind src) == 20 then
    match val with
    | .nilIface=>unsupported (.noEntry "extern/reflectlite: a nil value of one interface type handed on as a value of another")
    | _=>storeVar dst a val
   else storeVar dst a (.iface src val)
  else panicString ("reflectlite.Set: value of type "++(←Rtype.spelt src) ++ " is not assignable to type "++(←Rtype.spelt dst))
  pure (.tuple #[])):=rfl
theorem Q60 (a:Addr) (w:World):(ReflectliteValue.parts (.agg #[.pointer (some ⟨17,152,none⟩),.pointer (some a),.int .u64 406])).run prog w=.ok (some (152,a,406)) w:=by kernel_rfl
theorem Q7l (a:Addr) (w:World):(ReflectliteValue.parts (.agg #[.pointer (some ⟨17,152,none⟩),.pointer (some a),.int .u64 150])).run prog w=.ok (some (152,a,150)) w:=by kernel_rfl
theorem Q6i (w:World):(Rtype.directlyAssignable 152 152).run prog w=.ok true w:=by kernel_rfl
theorem setP (ta b e:Addr) (old:Value) (W:World) (hb:W.cell? b=some (.pointer (some e))) (ht:W.cell? ta=some old) (hf:W.frozen? ta=false) :
  (ReflectliteValue.set #[.agg #[.pointer (some ⟨17,152,none⟩),.pointer (some ta),.int .u64 406],.agg #[.pointer (some ⟨17,152,none⟩),.pointer (some b),.int .u64 150]]).run prog W
   = .ok (.tuple #[]) (W.setCell ta (.pointer (some e))):=by
 rw[rls];simp only[Sem.run_bind,Q60,Q7l,Result.andThen];simp[ReflectliteValue.flagAddr,loadVar,isAgg,underlying,underlying152,hb,Result.andThen,Q6i,storeVar,Value.cells,storeCells,Addr.add];rw[run_store prog W ta _ _ (by rfl)];simp[ht,hf]
end
section
open Go.RowKit Go.Extern.Stop Go.Stop Go.Extern
theorem Q3h (v:Value) (xT:TypeId) (w:World):(Instr.typeAssert (.iface 153 v) xT 293 true).run prog w=.ok (.tuple #[.nilIface,.bool false]) w:=run_typeAssert_lacksB underlying293 (by kernel_rfl) (by kernel_rfl) v xT w
abbrev rvT (b:Nat):Array Value:=#[.pointer (some ⟨17,158,none⟩),.pointer (some ⟨b,0,none⟩),.int .u64 150]
theorem Q4h (q r t:Nat) (w:World) (b:Nat) (old:Value) (hb:w.cell? ⟨b,0,none⟩=some (.pointer (some ⟨t,0,none⟩)))
  (h1:w.cell? ⟨r,1,none⟩=some (.iface 152 (.pointer (some ⟨q,0,none⟩)))) (ht0:w.cell? ⟨t,0,none⟩=some old) (hf0:w.frozen? ⟨t,0,none⟩=false) :
  Calls prog 135 #[.iface 153 (.pointer (some ⟨r,0,none⟩)),.iface 158 (.pointer (some ⟨t,0,none⟩)),.agg (rvT b),.iface 282 (.agg #[.pointer (some ⟨17,152,none⟩)])] w
   fun ev w'=>ev=.returned (.bool true)∧w'.cell? ⟨t,0,none⟩=some (.pointer (some ⟨q,0,none⟩))∧Fr (·=t) w w':=by
 have h6:=@run_callFunc_extern prog 132 _ (fun args=>ReflectliteValue.unpack (args.getD 0 (.tuple #[]))) func132 (by kernel_rfl) (by kernel_rfl) (by kernel_rfl) (by kernel_rfl);have h10:=@run_callFunc_extern prog 130 _ ReflectliteType.typeOf func130 (by kernel_rfl) (by kernel_rfl) (by kernel_rfl) (by kernel_rfl);have h35:=@run_callFunc_extern prog 262 _ (ReflectliteType.relation "AssignableTo" ReflectliteType.assignableTo) func262 (by kernel_rfl) (by kernel_rfl) (by kernel_rfl) (by kernel_rfl);have h11:=@run_callFunc_extern prog 172 _ (ReflectliteValue.method (ReflectliteValue.valueError "reflectlite.Value.Elem" 0) ReflectliteValue.elem) func172 (by kernel_rfl) (by kernel_rfl) (by kernel_rfl) (by kernel_rfl);have h12:=@run_callFunc_extern prog 173 _ ReflectliteValue.set func173 (by kernel_rfl) (by kernel_rfl) (by kernel_rfl) (by kernel_rfl);have tP:=Qx7;have tO:=Q19;have mA:=Qiw;have aP:=Qxi;have aO:=Q1t;have vO:=Qyb;have nA:=Q3h;have uP:=Qew;have mU:=Qfn;obtain⟨w3,hw3⟩:∃ w3,w3=w.alloc (.cells (rvT b) 231):=⟨_,rfl⟩
 have hB3:Below w.heap.size w w3:=by rw[hw3];exact Qa _ _
 have hs3:w3.heap.size=w.heap.size+1:=by rw[hw3];simp
 have htl:=Qk ht0;have el:=Q8a ⟨b,0,none⟩ ⟨t,0,none⟩ w3 ((hB3.cell (Qk hb)).trans hb);have hr3:=(hB3.cell (Qk h1)).trans h1;have ht3:=(hB3.cell (Qk ht0)).trans ht0;have st:=setP ⟨t,0,none⟩ ⟨w.heap.size+1,0,none⟩ ⟨q,0,none⟩ old (w3.alloc (.cells #[.pointer (some ⟨q,0,none⟩)] 152))
  (by rw[World.cell?_alloc_at _ _ _ _ hs3.symm];rfl)
  (((Qa w3 _).cell (Qk ht3)).trans ht3)
  (by rw[(Qa w3 _).frozen (Qk ht3),hB3.frozen htl];exact hf0)
 have hql:=Qj0 w3 152 (.pointer (some ⟨q,0,none⟩));have hl0:w3.cell? ⟨w.heap.size,0,none⟩=some (.pointer (some ⟨17,158,none⟩)):=by rw[hw3,World.cell?_alloc_at _ _ _ _ (by simp)];rfl
 have hl1:w3.cell? ⟨w.heap.size,1,none⟩=some (.pointer (some ⟨b,0,none⟩)):=by rw[hw3,World.cell?_alloc_at _ _ _ _ (by simp)];rfl
 have hl2:w3.cell? ⟨w.heap.size,2,none⟩=some (.int .u64 150):=by rw[hw3,World.cell?_alloc_at _ _ _ _ (by simp)];rfl
 have HW3:=zh hw3;have HB3:=zh hB3
 go_enter func135,ntmps135
 go_wp2_with fail
 rw[←hw3];clear hw3 hB3;refine wp_loop_rounds 2 ?_;rw[rounds_succ]
 go_wp2_with (go_at_call 257;refine (Qof w3 r _ hr3).mono ?_;rintro e w2 ⟨rfl,rfl⟩)
 rw[rounds_succ];go_wp2;go_ret;have hf:=((Fr.ofBelow HB3.o:Fr (·=t) w w2).setCell (p:=⟨t,0,none⟩) (fun _=>rfl) (.pointer (some ⟨q,0,none⟩)))
 refine⟨rfl,?_,hf.alloc _⟩;refine (Below.cell (Qa _ _) (p:=⟨t,0,none⟩) ?_).trans ?_
 ·exact Nat.lt_of_lt_of_le htl hf.size
 ·exact World.cell?_setCell_same' _ _ _ (by rw[ht3];rfl)
end
section
open Go.RowKit Go.Extern.Stop Go.Stop Go.Extern
theorem Q6l (q r t:Nat) (w:World) (old:Value) (hg:w.cell? ⟨7,0,none⟩=some (.iface 282 (.agg #[.pointer (some ⟨17,88,none⟩)])))
  (h1:w.cell? ⟨r,1,none⟩=some (.iface 152 (.pointer (some ⟨q,0,none⟩)))) (ht0:w.cell? ⟨t,0,none⟩=some old) (hf0:w.frozen? ⟨t,0,none⟩=false) :
  Calls prog 74 #[.iface 153 (.pointer (some ⟨r,0,none⟩)),.iface 158 (.pointer (some ⟨t,0,none⟩))] w
   fun ev w'=>ev=.returned (.bool true)∧w'.cell? ⟨t,0,none⟩=some (.pointer (some ⟨q,0,none⟩))∧Fr (·=t) w w':=by
 have h6:=@run_callFunc_extern prog 132 _ (fun args=>ReflectliteValue.unpack (args.getD 0 (.tuple #[]))) func132 (by kernel_rfl) (by kernel_rfl) (by kernel_rfl) (by kernel_rfl);have h7:=@run_callFunc_extern prog 133 _ (ReflectliteValue.methodAny (ReflectliteValue.valueError "reflectlite.Value.Type" 0) (fun t _ _ _=>ReflectliteType.toType t)) func133 (by kernel_rfl) (by kernel_rfl) (by kernel_rfl) (by kernel_rfl);have h8:=@run_callFunc_extern prog 134 _ (ReflectliteValue.method (ReflectliteValue.valueError "reflectlite.Value.IsNil" 0) ReflectliteValue.isNil) func134 (by kernel_rfl) (by kernel_rfl) (by kernel_rfl) (by kernel_rfl);have h27:=@run_callFunc_extern prog 246 _ (ReflectliteType.abiMethod fun t=>do pure (.int .u8 (←Rtype.kind t))) func246 (by kernel_rfl) (by kernel_rfl) (by kernel_rfl) (by kernel_rfl);have h37:=@run_callFunc_extern prog 264 _ (ReflectliteType.method ReflectliteType.elem) func264 (by kernel_rfl) (by kernel_rfl) (by kernel_rfl) (by kernel_rfl);have h38:=@run_callFunc_extern prog 265 _ (ReflectliteType.relation "Implements" ReflectliteType.implements_) func265 (by kernel_rfl) (by kernel_rfl) (by kernel_rfl) (by kernel_rfl);have mK:=Qw8;have mE:=Qxj;have mI:=Qk1;have kPP:=Q7v;have kP:=Q8i;have eP:=Q7o;have iP:=Qs4;have vT:=Q2l ⟨t,0,none⟩ w;have tV:=Q6t;obtain⟨w1,hw1⟩:∃ w1,w1=w.alloc (.cells #[.pointer (some ⟨t,0,none⟩)] 158):=⟨_,rfl⟩
 have hs1:w1.heap.size=w.heap.size+1:=by rw[hw1];simp
 have hB1:Below w.heap.size w w1:=by rw[hw1];exact Qa _ _
 have hc1:w1.cell? ⟨w.heap.size,0,none⟩=some (.pointer (some ⟨t,0,none⟩)):=by rw[hw1,World.cell?_alloc_at _ _ _ _ (by simp)];rfl
 obtain⟨w2,hw2⟩:∃ w2,w2=w1.alloc (.cells (rvT w.heap.size) 231):=⟨_,rfl⟩
 have hB2:Below w.heap.size w w2:=by rw[hw2];exact hB1.alloc (by omega) _
 have hc2:w2.cell? ⟨w.heap.size,0,none⟩=some (.pointer (some ⟨t,0,none⟩)):=by rw[hw2];exact ((Qa w1 _).cell (Qk hc1)).trans hc1
 have n8:=Q7b ⟨w.heap.size,0,none⟩ ⟨t,0,none⟩ w2 hc2;have hl0:w2.cell? ⟨w.heap.size+1,0,none⟩=some (.pointer (some ⟨17,158,none⟩)):=by rw[hw2,World.cell?_alloc_at _ _ _ _ (by first|exact hs1|exact hs1.symm)];rfl
 have hl1:w2.cell? ⟨w.heap.size+1,1,none⟩=some (.pointer (some ⟨w.heap.size,0,none⟩)):=by rw[hw2,World.cell?_alloc_at _ _ _ _ (by first|exact hs1|exact hs1.symm)];rfl
 have hl2:w2.cell? ⟨w.heap.size+1,2,none⟩=some (.int .u64 150):=by rw[hw2,World.cell?_alloc_at _ _ _ _ (by first|exact hs1|exact hs1.symm)];rfl
 have hcon:=Q4h q r t w2 w.heap.size old hc2 ((hB2.cell (Qk h1)).trans h1) ((hB2.cell (Qk ht0)).trans ht0) ((hB2.frozen (Qk ht0)).trans hf0);have hg2:=(hB2.cell (Qk hg)).trans hg;have HW1:=zh hw1;have HW2:=zh hw2;have HB2:=zh hB2;have HCON:=zh hcon;clear hB1 hB2 hcon h1 ht0 hf0 hg hc1
 go_enter func74,ntmps74
 go_upto_region 6 with fail
 rw[←hw1,←hw2];clear hw2 hw1
 go_wp2_with (go_at_call 135;refine HCON.o.mono ?_;rintro e w3 ⟨rfl,h31,h32⟩;have H31:=zh h31;have H32:=zh h32;clear h31 h32)
 go_ret;exact⟨rfl,H31.o,(Fr.ofBelow HB2.o).trans H32.o⟩
end
section
theorem Qvy (v:Value) (w:World):(Instr.typeAssert (.iface 153 v) 88 153 true).run prog w=.ok (.tuple #[v,.bool true]) w:=by kernel_rfl
theorem Q1f (f:Nat→Addr) (w:World) (h:Qav w f) (r:Nat) (p:ByteArray) (hr:w.heap[r]?=some (.cells #[.string p,.iface 338 (.pointer (some (f 5)))] 155 (0,0))) :
  Calls prog 37 #[.iface 153 (.pointer (some ⟨r,0,none⟩))] w fun e w'=>e=.returned (Jn 6 p)∧Below w.heap.size w w':=by
 obtain⟨c0,c1,c2,c3,c4,c5,c6⟩:=h.cells;have b0:3<w.heap.size:=Qk c0;have b1:4<w.heap.size:=Qk c1;have b2:1<w.heap.size:=Qk c2;have b3:5<w.heap.size:=Qk c3;have b4:2<w.heap.size:=Qk c4;have b5:6<w.heap.size:=Qk c5;have b6:0<w.heap.size:=Qk c6;have hta:=Qvy (.pointer (some ⟨r,0,none⟩));have hq:=fun w=>Qj0 w 153 (.pointer (some ⟨r,0,none⟩))
 have he:=fun w=>Qpo w (f 5)
 obtain⟨W1,hW1⟩:∃ W1,W1=((w.alloc (.cells #[.int .i64 0,.string ⟨#[]⟩] 29)).alloc (.cells #[.nilIface,.iface 338 (.pointer (some (f 0))),.iface 338 (.pointer (some (f 1))),.iface 338 (.pointer (some (f 2))),.iface 338 (.pointer (some (f 3))),.iface 338 (.pointer (some (f 4))),.nilIface,.iface 338 (.pointer (some (f 6)))] 88)).alloc (.cells #[.pointer none] 152):=⟨_,rfl⟩
 have hB1:Below w.heap.size w W1:=by rw[hW1];exact ((Qa w _).alloc (by simp) _).alloc (by simp;omega) _
 have hT1:W1.heap[w.heap.size]?=some (.cells #[.int .i64 0,.string ⟨#[]⟩] 29 (0,0)):=by rw[hW1,heap_alloc_old _ _ (by simp;omega),heap_alloc_old _ _ (by simp),heap_alloc_new]
 have hr1:=(hB1.block _ (Qc hr)).trans hr;have k0:W1.cell? ⟨r,0,none⟩=some (.string p):=Qd hr1 0 rfl;have k1:W1.cell? ⟨r,1,none⟩=some (.iface 338 (.pointer (some (f 5)))):=Qd hr1 1 rfl;have k5:=(hB1.cell b5).trans c5;have d0:=Qd hT1 0 rfl;have d1:=Qd hT1 1 rfl;have g0:=Qq hT1 0;have g1:=Qq hT1 1;have HIS:=zh (fun n=>Q57 (f 5) r (W1.drewN n) k1);have HB1:=zh hB1;have hsz1:w.heap.size<W1.heap.size:=Qc hT1;have HW1:=zh hW1;clear h hB1 hT1 hr1 hW1 hr
 go_enter func37,ntmps37
 go_upto_region 9 with fail
 rw[←HW1.o];clear HW1 c0 c1 c2 c3 c4 c5 c6 b0 b1 b2 b3 b4 b5 b6
 go_quiet ((go_at_call 73;exact Calls.quiet_of_same ((HIS.o _).mono fun _ _ ⟨he,hm⟩=>⟨he,hm⟩)))
 go_wp2;refine bodyPost_ret (v:=Jn 6 p) (by simp[results,results37,go_sem,d0,d1]) rfl ⟨rfl,?_⟩;exact ((Za HB1.o _).setCell (Nat.le_refl _) _).setCell (Nat.le_refl _) _
theorem Q56:(prog.info? 152).map (·.comparable)=some true:=by kernel_rfl
theorem Q54:(prog.info? 366).map (·.size)=some 1:=by kernel_rfl
theorem Q45 (f:Nat→Addr) (w:World) (h:Qav w f) (hg:ErrT w) (r q:Nat) (p:ByteArray) (hr:w.heap[r]?=some (.cells #[.string p,.iface 152 (.pointer (some ⟨q,0,none⟩))] 155 (0,0))) :
  Calls prog 37 #[.iface 153 (.pointer (some ⟨r,0,none⟩))] w fun e w'=>e=.returned (Jn 8 p)∧Below w.heap.size w w':=by
 obtain⟨ic,hic,hcmp⟩:=Option.map_eq_some_iff.1 Q56;obtain⟨jc,hjc,hjs⟩:=Option.map_eq_some_iff.1 Q54;obtain⟨c0,c1,c2,c3,c4,c5,c6⟩:=h.cells;have b0:3<w.heap.size:=Qk c0;have b1:4<w.heap.size:=Qk c1;have b2:1<w.heap.size:=Qk c2;have b3:5<w.heap.size:=Qk c3;have b4:2<w.heap.size:=Qk c4;have b5:6<w.heap.size:=Qk c5;have b6:0<w.heap.size:=Qk c6;have hta:=Qvy (.pointer (some ⟨r,0,none⟩));have hq:=fun w=>Qj0 w 153 (.pointer (some ⟨r,0,none⟩))
 have hty:=fun w=>run_eql_iface_types (P:=prog) 152 338 (.pointer (some ⟨q,0,none⟩)) (.pointer (some (f 5))) underlying88 (by decide) w
 have he:=fun w=>run_eql_iface_ptr_same (P:=prog) w ⟨q,0,none⟩ underlying88 underlying152 hic hcmp hjc
 obtain⟨W1,hW1⟩:∃ W1,W1=((w.alloc (.cells #[.int .i64 0,.string ⟨#[]⟩] 29)).alloc (.cells #[.nilIface,.iface 338 (.pointer (some (f 0))),.iface 338 (.pointer (some (f 1))),.iface 338 (.pointer (some (f 2))),.iface 338 (.pointer (some (f 3))),.iface 338 (.pointer (some (f 4))),.nilIface,.iface 338 (.pointer (some (f 6)))] 88)).alloc (.cells #[.pointer none] 152):=⟨_,rfl⟩
 have hB1:Below w.heap.size w W1:=by rw[hW1];exact ((Qa w _).alloc (by simp) _).alloc (by simp;omega) _
 have hT1:W1.heap[w.heap.size]?=some (.cells #[.int .i64 0,.string ⟨#[]⟩] 29 (0,0)):=by rw[hW1,heap_alloc_old _ _ (by simp;omega),heap_alloc_old _ _ (by simp),heap_alloc_new]
 have hO1:W1.heap[w.heap.size+1+1]?=some (.cells #[.pointer none] 152 (0,0)):=by have e:=heap_alloc_new ((w.alloc (.cells #[.int .i64 0,.string ⟨#[]⟩] 29)).alloc (.cells #[.nilIface,.iface 338 (.pointer (some (f 0))),.iface 338 (.pointer (some (f 1))),.iface 338 (.pointer (some (f 2))),.iface 338 (.pointer (some (f 3))),.iface 338 (.pointer (some (f 4))),.nilIface,.iface 338 (.pointer (some (f 6)))] 88)) (.cells #[.pointer none] 152);rw[←hW1] at e;rw[show w.heap.size+1+1=((w.alloc (.cells #[.int .i64 0,.string ⟨#[]⟩] 29)).alloc (.cells #[.nilIface,.iface 338 (.pointer (some (f 0))),.iface 338 (.pointer (some (f 1))),.iface 338 (.pointer (some (f 2))),.iface 338 (.pointer (some (f 3))),.iface 338 (.pointer (some (f 4))),.nilIface,.iface 338 (.pointer (some (f 6)))] 88)).heap.size by simp];exact e
 have hr1:=(hB1.block _ (Qc hr)).trans hr;have hrl:=Qc hr;have k1:W1.cell? ⟨r,1,none⟩=some (.iface 152 (.pointer (some ⟨q,0,none⟩))):=Qd hr1 1 rfl;have k5:=(hB1.cell b5).trans c5;have kg:ErrT W1:=(hB1.cell (Qk hg)).trans hg;have HB1:=zh hB1;have HR1:=zh hr1;have HT1:=zh hT1;have HO1:=zh hO1;have HG1:=zh kg;have hsz1:w.heap.size<W1.heap.size:=Qc hT1;have HW1:=zh hW1;clear h hB1 hT1 hr1 hW1 hr hO1 kg hg
 go_enter func37,ntmps37
 go_upto_region 9 with fail
 rw[←HW1.o];clear HW1 c0 c1 c2 c3 c4 c5 c6 b0 b1 b2 b3 b4 b5 b6
 go_quiet (fail)
 go_upto_region 11 with fail
 obtain⟨W2,hW2⟩:∃ W2,W2=W1.drewN nq:=⟨_,rfl⟩
 have HW2:=zh hW2;rw[←hW2];have k2:W2.cell? ⟨r,1,none⟩=some (.iface 152 (.pointer (some ⟨q,0,none⟩))):=by rw[hW2];exact k1
 have AS:=zh (Q6l q r (w.heap.size+1+1) W2.drew (.pointer none) (show W2.cell? _=_ by rw[hW2];exact HG1.o) k2 (show W2.cell? _=_ by rw[hW2];exact Qd HO1.o 0 rfl) (show W2.frozen? _=_ by rw[hW2];exact Qq HO1.o 0));clear hW2 k1 k5
 go_cut [39] from 39 to 51 (fun s39 wx=>s39=.bool true∧Aside (Fr (·=w.heap.size+1+1) W2 wx))
 case first=>
  go_region_law (go_simp;go_at_call 74;go_must (refine (AS.o).mono ?_;rintro e w3 ⟨rfl,k31,k32⟩;have hf3:=(Fr.refl (·=w.heap.size+1+1) W2).drew.trans k32;have K32:=zh hf3;have k33:=hf3.cell k2 (show ¬ r=w.heap.size+1+1 by omega);clear k32 hf3))
  all_goals (
   go_wp2_with fail
   go_meet
   exact⟨rfl,K32.o⟩)
 case rest=>
  obtain⟨rfl,HF⟩:=hcut;have hb:Fr (·=w.heap.size+1+1) W1 wc:=by
   have:=HF.o
   rw[HW2.o] at this;exact ((Fr.refl _ W1).drewN nq).trans this
  have hT2:=hb.heap HT1.o (show ¬ w.heap.size=w.heap.size+1+1 by omega);have hR2:=hb.heap HR1.o (show ¬ r=w.heap.size+1+1 by omega);have HB2:=zh (HB1.o.trans (hb.below HB1.o.size fun k hk e=>by omega));have d0:=Qd hT2 0 rfl;have d1:=Qd hT2 1 rfl;have g0:=Qq hT2 0;have g1:=Qq hT2 1;have m0:=Qd hR2 0 rfl;clear hT2 hR2 hb k2;go_wp2;refine bodyPost_ret (v:=Jn 8 p) (by simp[results,results37,go_sem,d0,d1]) rfl ⟨rfl,?_⟩;exact (HB2.o.setCell (Nat.le_refl _) _).setCell (Nat.le_refl _) _
end
section
open Go.RowKit Go.MuLone
def Qn0 (F:Nat→Addr) (w:World) (base:Nat) (t:Tld) (u:Value):Prop:=
 (t=Qcb∧u=.nilIface)∨(∃ i,i<7∧i≠5∧t=(Qcn i,⟨#[]⟩)∧u=.iface 338 (.pointer (some (F i))))∨∃ p,t=(6,p)∧Y5 F w base p u
variable {F:Nat→Addr} {w:World} {base:Nat} {t:Tld} {u:Value}
theorem Q1r (hs:Qav w F) (h:Qn0 F w base t u):Calls prog 37 #[u] w fun e w'=>e=.returned (Jn t.1 t.2)∧Below w.heap.size w w':=by
 rcases h with ⟨rfl,rfl⟩|⟨i,hi,h5,rfl,rfl⟩|⟨p,rfl,q,rfl,_,hq⟩
 ·exact Qwe F w hs
 ·exact Qjn F w hs i hi h5
 ·exact Q1f F w hs q p hq
variable {w':World}
theorem Qn0.fr {S:Nat→Prop} (h:Qn0 F w base t u) (hf:Fr S w w') (hn:∀ k C fz,w.heap[k]?=some (.cells C 155 fz)→¬ S k):Qn0 F w' base t u:=by
 rcases h with h|h|⟨p,h1,q,h2,h3,h4⟩
 ·exact .inl h
 ·exact .inr (.inl h)
 ·exact .inr (.inr ⟨p,h1,q,h2,h3,hf.heap h4 (hn _ _ _ h4)⟩)
theorem Q4l (w:World) (base:Nat) (v:Value) (l:List UInt8) (h:Qz w base v l) :
  Calls prog 97 #[v] w fun e w'=>∃ v',e=.returned v'∧Qz w base v' l∧v'.ownBlock=v.ownBlock∧w'=w:=by
 rcases h with ⟨rfl,rfl⟩|⟨b,off,c,C,fz,rfl,h1,h2,h3,h4,h5,h6⟩
 ·go_enter func97,ntmps97
  go_wp2;refine bodyPost_ret (results_tmp rfl _ _ _) rfl ⟨.slice none 0 0,rfl,.inl ⟨rfl,rfl⟩,rfl,rfl⟩
 ·obtain⟨n,hn⟩:∃ n,n=l.length:=⟨_,rfl⟩
  rw[←hn] at h1 h5 ⊢;have e1:(n:Int)≤c:=by omega
  have HN:=zh hn;clear hn
  go_enter func97,ntmps97
  go_wp2;refine bodyPost_ret (results_tmp rfl _ _ _) rfl ⟨.slice (some ⟨b,off,none⟩) n n,rfl,.inr ⟨b,off,n,C,fz,by rw[HN.o],by rw[HN.o];exact Nat.le_refl _,h2,h3,h4,by rw[←HN.o];exact h5,h6⟩,rfl,rfl⟩
section
variable {o1 o2:OutT}
theorem OwnB.o {v:Value} {l:List UInt8} (h : @OwnB ⟨o1⟩ w 0 v l) (hb:Below w.heap.size w w') (ho:∀ z,o2.blk=some z→w.heap.size≤z) : @OwnB ⟨o2⟩ w' 0 v l:=by
 refine⟨h.1.below hb,fun z hz e=>?_⟩;have hge:=ho z hz;rcases h.1 with ⟨rfl,_⟩|⟨b,off,c,C,fz,rfl,_,h2,h3,_⟩
 ·cases e
 ·simp[Value.ownBlock] at e
  have:=Qc h3
  omega
variable {qs:List CEnt}
theorem Zx.o {g m:Nat} {c:Cch} (h : @Zx ⟨o1⟩ w g m c qs) (hb:Below w.heap.size w w') (ho:∀ z,o2.blk=some z→w.heap.size≤z) : @Zx ⟨o2⟩ w' g m c qs:=by obtain⟨r1,r2,r3,r4,r5,r6,r7,r8⟩:=@Zx.fr ⟨o1⟩ w w' g m c qs h (fun _=>False) (Fr.ofBelow hb) (fun _ _=>id) (fun _ _ _ _=>id);obtain⟨_,_,v3,_⟩:=h;exact @Zx.mk ⟨o2⟩ _ _ _ _ _ r1 r2 (fun q hq=>OwnB.o (v3 q hq) hb ho) r4 r5 r6 r7 r8
theorem QIs.outB {q:Qf} {x:Qv} {N:Nat} {s:Cs} {d:Dk} (h : @QIs ⟨o1⟩ w q x N s d) (hb:Below w.heap.size w w') (ho:∀ z,o2.blk=some z→w.heap.size≤z∧z<w'.heap.size) : @QIs ⟨o2⟩ w' q x N s d:=by obtain⟨b1,b2,b3,b4,b5,b6,b7,b8,b9,b10,b11,b12,b13,b14,b15,b16⟩:=@QIs.below ⟨o1⟩ w w' q x N s d h hb;obtain⟨_,_,_,a4,_,_,_,_,_,_,a11,_⟩:=h;exact @QIs.mk ⟨o2⟩ _ _ _ _ _ _ b1 b2 b3 (fun y hy=>OwnB.o (a4 y hy) hb fun z hz=>(ho z hz).1) b5 b6 b7 b8 b9 b10 (Zx.o a11 hb fun z hz=>(ho z hz).1) b12 b13 b14 b15 fun z hz=>(ho z hz).2
theorem ClM.back {mu:Int} {gc gk mc:Nat} {vf:Value} {c:Cl} (h : @ClM ⟨o1⟩ mu w gc gk mc vf c qs) (hf:Fr (fun k=>o1.blk=some k) w w') (hn:∀ z,o1.blk=some z→∃ C fz,w.heap[z]?=some (.cells C 5 fz)):ClM mu w' gc gk mc vf c qs:=by
 obtain⟨hcells,hcache⟩:=h;have hkc:=@Qai ⟨o1⟩ _ _ _ _ _ hcache;have hk:∀ k,clS gc gk mc qs k→¬ o1.blk=some k:=fun k hk e=>by
  obtain⟨C,fz,hC⟩:=hn k e;rcases hk with rfl|hk
  ·rw[hcells] at hC;cases hC
  ·exact Zo hkc hC (by decide) hk
 obtain⟨r1,r2,r3,r4,r5,r6,r7,r8⟩:=hcache;refine⟨hf.heap hcells (hk _ (.inl rfl)),?_⟩;have hr:Je w' gk mc c.cache.most (qs.map CEnt.tri):=r1.fr hf (hk _ (.inr (.inl rfl))) fun b hb=>hk _ (.inr (.inr (.inr (by rw[Qce] at hb;exact hb))))
 refine⟨hr,r2,fun q hq=>⟨?_,fun z hz=>by cases hz⟩,r4.fr hf (hk _ (.inr (.inr (.inl rfl)))),r5,r6,r7,r8⟩;have h1:=r3 q hq;rcases h1.1 with ⟨e1,e2⟩|⟨b,off,cc,C,fz,e,a1,a2,a3,a4,a5,a6⟩
 ·exact .inl ⟨e1,e2⟩
 ·refine .inr ⟨b,off,cc,C,fz,e,a1,a2,hf.heap a3 fun hz=>?_,a4,a5,a6⟩
  exact h1.2 b hz (by rw[e];rfl)
end
end
section
theorem Qhq (leaf:Hsh) (i n:Nat):rebuild leaf i n []=if n=1 then some leaf else none:=by simp[rebuild,Qlg]
theorem Qkh (leaf last:Hsh) (i n:Nat) (q:List Hsh):rebuild leaf i n (q ++ [last])=if n=1 then none else if i<below n then (rebuild leaf i (below n) q).map (Z0 · last) else (rebuild leaf (i-below n) (n-below n) q).map (Z0 last ·):=by unfold rebuild below;rw[List.reverse_append];rfl
end
section
def Quv (leaf:Hsh) (i n:Nat) (p:List Hsh) (w:World) (e:Ending) (w':World):Prop:=
 ∃ s:Hsh,e=.returned (.tuple #[.agg (h8 s),.bool (rebuild leaf i n p).isSome])∧(∀ h,rebuild leaf i n p=some h→s=h)∧Below w.heap.size w w'
theorem Q2m (q:List Hsh):(q.flatMap fun h=>(h8 h).toList).length=q.length*8:=by
 induction q with
 | nil=>rfl
 | cons y q ih=>rw[List.flatMap_cons,List.length_append,ih,List.length_cons];simp;omega
theorem Qhp {w:World} {a:Option Addr} {c m:Nat} {q:List Hsh} {x:Hsh} (h:Qbs w (.slice a (m+1) c) (q ++ [x])) (hm:q.length=m) :
  ∃ b off,a=some ⟨b,off,none⟩∧m+1≤c∧(∀ j (hj:j<8),w.cell? ⟨b,off+m*8+j,none⟩=some (u8 x[j]))∧Qbs w (.slice (some ⟨b,off,none⟩) m c) q:=by
 obtain⟨a',c',hv,hcap,hc⟩:=h;have hl:(q.flatMap fun h=>(h8 h).toList).length=m*8:=by rw[Q2m,hm]
 simp only[Value.slice.injEq] at hv;obtain⟨rfl,_,rfl⟩:=hv;have hg:∀ j (hj:j<8),((q ++ [x]).flatMap fun h=>(h8 h).toList)[m*8+j]?=some (u8 x[j]):=fun j hj=>by
  rw[List.flatMap_append,List.getElem?_append_right (by omega),hl]
  have:m*8+j-m*8=j:=by omega
  rw[this];simp[h8,hj]
 obtain⟨b,off,rfl,_⟩:=hc _ _ (hg 0 (by omega));refine⟨b,off,rfl,by simpa [hm] using hcap,fun j hj=>?_,⟨_,c,by rw[hm],by simp at hcap;omega,fun j y hy=>?_⟩⟩
 ·obtain⟨b',off',heq,hcell⟩:=hc _ _ (hg j hj)
  cases heq;rw[Nat.add_assoc];exact hcell
 ·refine hc j y ?_
  rw[List.flatMap_append,List.getElem?_append_left (List.getElem?_eq_some_iff.1 hy).1];exact hy
section
attribute [local go_sem] h8_0 h8_1 h8_2 h8_3 h8_4 h8_5 h8_6 h8_7 Qbg h8_size
theorem Qus (m:Nat):∀ (p:List Hsh) (leaf:Hsh) (i n:Int) (v:Value) (w:World),p.length=m→Qbs w v p→0≤i→i<n→n≤9223372036854775807→m≤1048576→
  Calls prog 148 #[.agg (h8 leaf),.int .i64 i,.int .i64 n,v] w (Quv leaf i.toNat n.toNat p w):=by
 induction m with
 | zero=>
  intro p leaf i n v w hp h h0 hi hn hm;obtain rfl:p = []:=List.eq_nil_of_length_eq_zero hp;obtain⟨a,c,rfl,hcap,_⟩:=h;clear hp;by_cases h1:n=1
  ·subst h1
   go_enter func148,ntmps148
   go_wp2_with (first|((first|refine Q1 rfl 109 _ rfl _ rfl _ underlying109 info8 ?_ ?_ ?_|refine Qt rfl 109 _ _ rfl _ _ rfl rfl info8 ?_ ?_ ?_);rotate_left;focus((repeat(first|(with_reducible first|assumption|exact Qj ⟨_,by assumption⟩ _)|((with_reducible first|refine Qe ?_|refine Q2 ?_|refine Qj (Q9 ?_) _);(first|rfl|(simp;done)|(simp;omega)))|with_reducible refine Qp ?_ _|((with_reducible refine Qi ?_ _ ?_);rotate_left;(focus(first|(simp;done)|(simp;omega)|omega)))|with_reducible first|refine Qo ?_|refine Qg ?_ (by assumption)));done)))
   refine ret8t (w.heap.size+1) leaf (.bool true) rfl rfl rfl _ underlying109 info8 (Qj (Q9 (by simp)) _) rfl ⟨leaf,by simp[Qhq],?_,below_setRow ((Qa w _).alloc (by simp) _) (by omega) _⟩;intro h hh;simp[Qhq] at hh;exact hh
  ·have hd:(n == 1)=false:=by simpa using h1
   go_enter func148,ntmps148
   go_wp2_with (first|(refine Q1 rfl 109 _ rfl _ rfl _ underlying109 info8 ?_ ?_ ?_;rotate_left;focus ((repeat(first|(with_reducible first|assumption|exact Qj ⟨_,by assumption⟩ _)|((with_reducible first|refine Qe ?_|refine Q2 ?_|refine Qj (Q9 ?_) _);(first|rfl|(simp;done)|(simp;omega)))|with_reducible refine Qp ?_ _|((with_reducible refine Qi ?_ _ ?_);rotate_left;(focus(first|(simp;done)|(simp;omega)|omega)))|with_reducible first|refine Qo ?_|refine Qg ?_ (by assumption)));done))|(refine Qt rfl 109 _ _ rfl _ zero8 rfl (by rw[Qlu];rfl) info8 ?_ ?_ ?_;rotate_left;focus ((repeat(first|(with_reducible first|assumption|exact Qj ⟨_,by assumption⟩ _)|((with_reducible first|refine Qe ?_|refine Q2 ?_|refine Qj (Q9 ?_) _);(first|rfl|(simp;done)|(simp;omega)))|with_reducible refine Qp ?_ _|((with_reducible refine Qi ?_ _ ?_);rotate_left;(focus(first|(simp;done)|(simp;omega)|omega)))|with_reducible first|refine Qo ?_|refine Qg ?_ (by assumption)));done)))
   have hr:rebuild leaf i.toNat n.toNat []=none:=by rw[Qhq,if_neg (by omega)]
   refine ret8t (w.heap.size+1) zero8 (.bool false) rfl rfl rfl _ underlying109 info8 (Qj (Q9 (by simp)) _) rfl ⟨zero8,by rw[hr];rfl,(fun h hh=>by rw[hr] at hh;cases hh),below_setRow ((Qa w _).alloc (by simp) _) (by omega) _⟩
 | succ m ih=>
  intro p leaf i n v w hp h h0 hi hn hm;obtain⟨q,last,rfl⟩:∃ q last,p=q ++ [last]:=⟨p.dropLast,p.getLast (by intro e;simp[e] at hp),(List.dropLast_concat_getLast _).symm⟩
  have hq:q.length=m:=by simpa using hp
  obtain⟨a,c,hv,_⟩:=id h;rw[hp] at hv;subst hv;obtain⟨b,off,rfl,hcap,hcell,hinit⟩:=Qhp h hq;have HQ:=zh hinit;have IH:=zh ih;have HL:=zh hq;have HP:=zh hp;clear ih h hinit hq hp;by_cases h1:n=1
  ·subst h1
   have hz0:((m:Int)+1 == 0)=false:=by rw[beq_eq_false_iff_ne];omega
   go_enter func148,ntmps148
   go_wp2_with (first|((first|refine Q1 rfl 109 _ rfl _ rfl _ underlying109 info8 ?_ ?_ ?_|refine Qt rfl 109 _ _ rfl _ _ rfl rfl info8 ?_ ?_ ?_);rotate_left;focus((repeat(first|(with_reducible first|assumption|exact Qj ⟨_,by assumption⟩ _)|((with_reducible first|refine Qe ?_|refine Q2 ?_|refine Qj (Q9 ?_) _);(first|rfl|(simp;done)|(simp;omega)))|with_reducible refine Qp ?_ _|((with_reducible refine Qi ?_ _ ?_);rotate_left;(focus(first|(simp;done)|(simp;omega)|omega)))|with_reducible first|refine Qo ?_|refine Qg ?_ (by assumption)));done)))
   have hr:rebuild leaf i.toNat (1:Int).toNat (q ++ [last])=none:=by rw[Qkh,if_pos (by decide)]
   refine ret8t (w.heap.size+1) leaf (.bool false) rfl rfl rfl _ underlying109 info8 (Qj (Q9 (by simp)) _) rfl ⟨leaf,by rw[hr];rfl,(fun h hh=>by rw[hr] at hh;cases hh),below_setRow ((Qa w _).alloc (by simp) _) (by omega) _⟩
  ·have hd:(n == 1)=false:=by simpa using h1
   have hbd:=Qiy (n:=n.toNat) (by omega) (by omega);have hr:=Qkh leaf last i.toNat n.toNat q;rw[if_neg (by omega)] at hr;obtain⟨k,hk⟩:∃ k,k=below n.toNat:=⟨_,rfl⟩
   rw[←hk] at hbd hr;obtain⟨hb1,hb2,hb3⟩:=hbd;have HR:=zh hr;have HK:=zh hk;clear hr hk;have c0:w.cell? ⟨b,off+m*8,none⟩=some (u8 last[0]):=hcell 0 (by decide);have c1:=hcell 1 (by decide);have c2:=hcell 2 (by decide);have c3:=hcell 3 (by decide);have c4:=hcell 4 (by decide);have c5:=hcell 5 (by decide);have c6:=hcell 6 (by decide);have c7:=hcell 7 (by decide);have HCell:=zh hcell;have hst:=Qax (P:=prog) (w:=(((w.alloc (.cells (h8 leaf) 109)).alloc (.cells zc 109)).alloc (.cells zc 109)).drew) (g:=w.heap.size+1+1) last ⟨zero8,Qo (Qe (by simp))⟩;have hbw:b<w.heap.size:=Qk c0;have hbw1:b<w.heap.size+1:=by omega
   have hbw2:b<w.heap.size+1+1:=by omega
   have hz0:((m:Int)+1 == 0)=false:=by rw[beq_eq_false_iff_ne];omega
   clear hcell;by_cases hik:i<(k:Int)
   ·go_enter func148,ntmps148
    go_wp2_with fail
    go_region;have f1:Qu (((((w.alloc (.cells (h8 leaf) 109)).alloc (.cells zc 109)).alloc (.cells zc 109)).drew).setRow (w.heap.size+1+1) (h8 last)) w.heap.size leaf:=Qi (Qo (Qp (Qp (Qeo w leaf) _) _)) _ (by omega);have f2:Qu (((((w.alloc (.cells (h8 leaf) 109)).alloc (.cells zc 109)).alloc (.cells zc 109)).drew).setRow (w.heap.size+1+1) (h8 last)) (w.heap.size+1) zero8:=Qi (Qo (Qp (Qe (by simp)) _)) _ (by omega);have f3:Qu (((((w.alloc (.cells (h8 leaf) 109)).alloc (.cells zc 109)).alloc (.cells zc 109)).drew).setRow (w.heap.size+1+1) (h8 last)) (w.heap.size+1+1) last:=Qy (Qo (Qe (by simp))) _;have f4:Below w.heap.size w (((((w.alloc (.cells (h8 leaf) 109)).alloc (.cells zc 109)).alloc (.cells zc 109)).drew).setRow (w.heap.size+1+1) (h8 last)):=below_setRow (((((Qa w _).alloc (by simp) _).alloc (by simp;omega) _).drew)) (by omega) _;have f5:(((((w.alloc (.cells (h8 leaf) 109)).alloc (.cells zc 109)).alloc (.cells zc 109)).drew).setRow (w.heap.size+1+1) (h8 last)).heap.size=w.heap.size+1+1+1:=by simp
    have F4:=zh f4;have F5:=zh f5;clear f4 f5 hst;generalize (((((w.alloc (.cells (h8 leaf) 109)).alloc (.cells zc 109)).alloc (.cells zc 109)).drew).setRow (w.heap.size+1+1) (h8 last))=W2 at *
    go_wp2_with fail
    refine (Qbw _ _ (by omega) (by omega)).mono ?_;rintro e w0 ⟨rfl,rfl⟩;rw[←HK.o]
    go_wp2_with (refine Q1 rfl 109 _ rfl _ rfl _ underlying109 info8 ?_ ?_ ?_;rotate_left;focus ((repeat(first|(with_reducible first|assumption|exact Qj ⟨_,by assumption⟩ _)|((with_reducible first|refine Qe ?_|refine Q2 ?_|refine Qj (Q9 ?_) _);(first|rfl|(simp;done)|(simp;omega)))|with_reducible refine Qp ?_ _|((with_reducible refine Qi ?_ _ ?_);rotate_left;(focus(first|(simp;done)|(simp;omega)|omega)))|with_reducible first|refine Qo ?_|refine Qg ?_ (by assumption)));done))
    refine (IH.o q leaf i k _ _ HL.o (Qfh.below HQ.o F4.o) h0 hik (by omega) (by omega)).mono ?_;rintro e w1 ⟨s,rfl,hsh,hb⟩;have hz:w.heap.size+3≤w1.heap.size:=by have:=hb.size;rw[F5.o] at this;omega
    have g2:=Qg f2 hb;have g3:=Qg f3 hb;have HSH:=zh hsh;have F6:=zh (F4.o.trans (hb.mono F4.o.size));clear hsh f1 f2 f3 hb;obtain⟨r,hrr⟩:∃ r,r=rebuild leaf i.toNat (k:Int).toNat q:=⟨_,rfl⟩
    rw[←hrr];have HRR:=zh hrr;clear hrr
    go_wp2_with (first|((first|refine Q1 rfl 109 _ rfl _ rfl _ underlying109 info8 ?_ ?_ ?_|refine Qt rfl 109 _ _ rfl _ _ rfl rfl info8 ?_ ?_ ?_);rotate_left;focus((repeat(first|(with_reducible first|assumption|exact Qj ⟨_,by assumption⟩ _)|((with_reducible first|refine Qe ?_|refine Q2 ?_|refine Qj (Q9 ?_) _);(first|rfl|(simp;done)|(simp;omega)))|with_reducible refine Qp ?_ _|((with_reducible refine Qi ?_ _ ?_);rotate_left;(focus(first|(simp;done)|(simp;omega)|omega)))|with_reducible first|refine Qo ?_|refine Qg ?_ (by assumption)));done)))
    refine (Qbz s last _).mono ?_;rintro e w2 ⟨rfl,hb2⟩;have k2:Qu w2 (w.heap.size+1) zero8:=by
     (repeat(first|(with_reducible first|assumption|exact Qj ⟨_,by assumption⟩ _)|((with_reducible first|refine Qe ?_|refine Q2 ?_|refine Qj (Q9 ?_) _);(first|rfl|(simp;done)|(simp;omega)))|with_reducible refine Qp ?_ _|((with_reducible refine Qi ?_ _ ?_);rotate_left;(focus(first|(simp;done)|(simp;omega)|omega)))|with_reducible first|refine Qo ?_|refine Qg ?_ (by assumption)))
    have F7:Below w.heap.size w w2:=(below_setRow (F6.o.alloc F6.o.size _) F6.o.size _).trans (hb2.mono (by simp;omega))
    go_wp2_with (first|(refine Qt rfl 109 _ _ rfl _ _ rfl rfl info8 ?_ ?_ ?_;rotate_left;focus ((repeat(first|(with_reducible first|assumption|exact Qj ⟨_,by assumption⟩ _)|((with_reducible first|refine Qe ?_|refine Q2 ?_|refine Qj (Q9 ?_) _);(first|rfl|(simp;done)|(simp;omega)))|with_reducible refine Qp ?_ _|((with_reducible refine Qi ?_ _ ?_);rotate_left;(focus(first|(simp;done)|(simp;omega)|omega)))|with_reducible first|refine Qo ?_|refine Qg ?_ (by assumption)));done)))
    have hre:rebuild leaf i.toNat n.toNat (q ++ [last])=r.map (Z0 · last):=by rw[HR.o,if_pos (by omega),HRR.o];rfl
    refine ret8t (w.heap.size+1) (Z0 s last) (.bool r.isSome) rfl rfl rfl _ underlying109 info8 (Qy k2 _) rfl ⟨_,by rw[hre,Option.isSome_map],fun h hh=>?_,below_setRow F7 (by omega) _⟩;rw[hre] at hh;obtain⟨h',hh',rfl⟩:=Option.map_eq_some_iff.1 hh;rw[HSH.o h' (by rw[←HRR.o];exact hh')]
   ·go_enter func148,ntmps148
    go_wp2_with fail
    go_region;have f1:Qu (((((w.alloc (.cells (h8 leaf) 109)).alloc (.cells zc 109)).alloc (.cells zc 109)).drew).setRow (w.heap.size+1+1) (h8 last)) w.heap.size leaf:=Qi (Qo (Qp (Qp (Qeo w leaf) _) _)) _ (by omega);have f2:Qu (((((w.alloc (.cells (h8 leaf) 109)).alloc (.cells zc 109)).alloc (.cells zc 109)).drew).setRow (w.heap.size+1+1) (h8 last)) (w.heap.size+1) zero8:=Qi (Qo (Qp (Qe (by simp)) _)) _ (by omega);have f3:Qu (((((w.alloc (.cells (h8 leaf) 109)).alloc (.cells zc 109)).alloc (.cells zc 109)).drew).setRow (w.heap.size+1+1) (h8 last)) (w.heap.size+1+1) last:=Qy (Qo (Qe (by simp))) _;have f4:Below w.heap.size w (((((w.alloc (.cells (h8 leaf) 109)).alloc (.cells zc 109)).alloc (.cells zc 109)).drew).setRow (w.heap.size+1+1) (h8 last)):=below_setRow (((((Qa w _).alloc (by simp) _).alloc (by simp;omega) _).drew)) (by omega) _;have f5:(((((w.alloc (.cells (h8 leaf) 109)).alloc (.cells zc 109)).alloc (.cells zc 109)).drew).setRow (w.heap.size+1+1) (h8 last)).heap.size=w.heap.size+1+1+1:=by simp
    have F4:=zh f4;have F5:=zh f5;clear f4 f5 hst;generalize (((((w.alloc (.cells (h8 leaf) 109)).alloc (.cells zc 109)).alloc (.cells zc 109)).drew).setRow (w.heap.size+1+1) (h8 last))=W2 at *
    go_wp2_with fail
    refine (Qbw _ _ (by omega) (by omega)).mono ?_;rintro e w0 ⟨rfl,rfl⟩;rw[←HK.o]
    go_wp2_with (refine Q1 rfl 109 _ rfl _ rfl _ underlying109 info8 ?_ ?_ ?_;rotate_left;focus ((repeat(first|(with_reducible first|assumption|exact Qj ⟨_,by assumption⟩ _)|((with_reducible first|refine Qe ?_|refine Q2 ?_|refine Qj (Q9 ?_) _);(first|rfl|(simp;done)|(simp;omega)))|with_reducible refine Qp ?_ _|((with_reducible refine Qi ?_ _ ?_);rotate_left;(focus(first|(simp;done)|(simp;omega)|omega)))|with_reducible first|refine Qo ?_|refine Qg ?_ (by assumption)));done))
    refine (IH.o q leaf (i-k) (n-k) _ _ HL.o (Qfh.below HQ.o F4.o) (by omega) (by omega) (by omega) (by omega)).mono ?_;rintro e w1 ⟨s,rfl,hsh,hb⟩;have hz:w.heap.size+3≤w1.heap.size:=by have:=hb.size;rw[F5.o] at this;omega
    have g2:=Qg f2 hb;have g3:=Qg f3 hb;have HSH:=zh hsh;have F6:=zh (F4.o.trans (hb.mono F4.o.size));clear hsh f1 f2 f3 hb;obtain⟨r,hrr⟩:∃ r,r=rebuild leaf (i-k).toNat (n-k).toNat q:=⟨_,rfl⟩
    rw[←hrr];have HRR:=zh hrr;clear hrr
    go_wp2_with (first|((first|refine Q1 rfl 109 _ rfl _ rfl _ underlying109 info8 ?_ ?_ ?_|refine Qt rfl 109 _ _ rfl _ _ rfl rfl info8 ?_ ?_ ?_);rotate_left;focus((repeat(first|(with_reducible first|assumption|exact Qj ⟨_,by assumption⟩ _)|((with_reducible first|refine Qe ?_|refine Q2 ?_|refine Qj (Q9 ?_) _);(first|rfl|(simp;done)|(simp;omega)))|with_reducible refine Qp ?_ _|((with_reducible refine Qi ?_ _ ?_);rotate_left;(focus(first|(simp;done)|(simp;omega)|omega)))|with_reducible first|refine Qo ?_|refine Qg ?_ (by assumption)));done)))
    refine (Qbz last s _).mono ?_;rintro e w2 ⟨rfl,hb2⟩;have k2:Qu w2 (w.heap.size+1) zero8:=by
     (repeat(first|(with_reducible first|assumption|exact Qj ⟨_,by assumption⟩ _)|((with_reducible first|refine Qe ?_|refine Q2 ?_|refine Qj (Q9 ?_) _);(first|rfl|(simp;done)|(simp;omega)))|with_reducible refine Qp ?_ _|((with_reducible refine Qi ?_ _ ?_);rotate_left;(focus(first|(simp;done)|(simp;omega)|omega)))|with_reducible first|refine Qo ?_|refine Qg ?_ (by assumption)))
    have F7:Below w.heap.size w w2:=(below_setRow (F6.o.alloc F6.o.size _) F6.o.size _).trans (hb2.mono (by simp;omega))
    go_wp2_with (first|(refine Qt rfl 109 _ _ rfl _ _ rfl rfl info8 ?_ ?_ ?_;rotate_left;focus ((repeat(first|(with_reducible first|assumption|exact Qj ⟨_,by assumption⟩ _)|((with_reducible first|refine Qe ?_|refine Q2 ?_|refine Qj (Q9 ?_) _);(first|rfl|(simp;done)|(simp;omega)))|with_reducible refine Qp ?_ _|((with_reducible refine Qi ?_ _ ?_);rotate_left;(focus(first|(simp;done)|(simp;omega)|omega)))|with_reducible first|refine Qo ?_|refine Qg ?_ (by assumption)));done)))
    have hre:rebuild leaf i.toNat n.toNat (q ++ [last])=r.map (Z0 last ·):=by
     rw[HR.o,if_neg (by omega),HRR.o]
     congr 2 <;> omega
    refine ret8t (w.heap.size+1) (Z0 last s) (.bool r.isSome) rfl rfl rfl _ underlying109 info8 (Qy k2 _) rfl ⟨_,by rw[hre,Option.isSome_map],fun h hh=>?_,below_setRow F7 (by omega) _⟩;rw[hre] at hh;obtain⟨h',hh',rfl⟩:=Option.map_eq_some_iff.1 hh;rw[HSH.o h' (by rw[←HRR.o];exact hh')]
end
theorem info8':∃ i,prog.info? 5=some i∧i.size=1:=by obtain⟨i0,hi,hz0,hz1,hz2⟩:=info_parts (show (prog.info? 5).map (fun i=>(i.zero,i.size,i.bytes))=some (some (.int .u8 0),1,1) by kernel_rfl);exact⟨i0,hi,hz1⟩
theorem Qa2 (w:World) (xs:Array Value) (i:Nat) (v:Value) (h:xs[i]?=some v):Sem.run prog (Go.part 5 xs i) w=.ok v w:=by obtain⟨i0,hi,hs⟩:=info8';simp[Go.part,run_underlying underlying5,isAgg,sizeOf,typeInfo,hi,hs,h]
theorem Q66 (a b:Hsh) (e0:a[0]=b[0]) (e1:a[1]=b[1]) (e2:a[2]=b[2]) (e3:a[3]=b[3]) (e4:a[4]=b[4]) (e5:a[5]=b[5]) (e6:a[6]=b[6]) (e7:a[7]=b[7]):a=b:=by
 apply Vector.ext;intro i hi
 have:i=0∨i=1∨i=2∨i=3∨i=4∨i=5∨i=6∨i=7:=by omega
 rcases this with rfl|rfl|rfl|rfl|rfl|rfl|rfl|rfl <;> assumption
theorem eqn (w:World) (a b:Hsh):Sem.run prog (Op.equalIn 10000 109 (.agg (h8 a)) (.agg (h8 b))) w=.ok (some a == some b) w:=by
 rw[show (10000:Nat)=9998+1+1 from rfl,Op.equalIn];obtain⟨i0,hi,hs⟩:=info8';have hp:=fun w=>Qa2 w (h8 a) 0 _ (h8_0 a)
 have hp1:=fun w=>Qa2 w (h8 a) 1 _ (h8_1 a)
 have hp2:=fun w=>Qa2 w (h8 a) 2 _ (h8_2 a)
 have hp3:=fun w=>Qa2 w (h8 a) 3 _ (h8_3 a)
 have hp4:=fun w=>Qa2 w (h8 a) 4 _ (h8_4 a)
 have hp5:=fun w=>Qa2 w (h8 a) 5 _ (h8_5 a)
 have hp6:=fun w=>Qa2 w (h8 a) 6 _ (h8_6 a)
 have hp7:=fun w=>Qa2 w (h8 a) 7 _ (h8_7 a)
 have hq:=fun w=>Qa2 w (h8 b) 0 _ (h8_0 b)
 have hq1:=fun w=>Qa2 w (h8 b) 1 _ (h8_1 b)
 have hq2:=fun w=>Qa2 w (h8 b) 2 _ (h8_2 b)
 have hq3:=fun w=>Qa2 w (h8 b) 3 _ (h8_3 b)
 have hq4:=fun w=>Qa2 w (h8 b) 4 _ (h8_4 b)
 have hq5:=fun w=>Qa2 w (h8 b) 5 _ (h8_5 b)
 have hq6:=fun w=>Qa2 w (h8 b) 6 _ (h8_6 b)
 have hq7:=fun w=>Qa2 w (h8 b) 7 _ (h8_7 b)
 have he:=fun (w:World) (x y:UInt8)=>run_equalIn_int (P:=prog) (w:=w) 9998 5 .u8 .u8 x.toNat y.toNat underlying5
 simp only[Sem.run_bind,run_underlying underlying109,Result.andThen_ok,sizeOf,typeInfo];simp[hi,hs,Std.Legacy.Range.forIn_eq_forIn_range',List.range',Std.Legacy.Range.size,hp,hp1,hp2,hp3,hp4,hp5,hp6,hp7,hq,hq1,hq2,hq3,hq4,hq5,hq6,hq7,he];by_cases e:a=b
 ·subst e;simp
 ·have hI:∀ x y:UInt8,((x.toNat:Int)=(y.toNat:Int))=(x=y):=fun x y=>by apply propext;exact⟨fun h=>UInt8.toNat_inj.1 (by omega),fun h=>by rw[h]⟩
  have hf:(a == b)=false:=by rw[beq_eq_false_iff_ne];exact e
  simp only[hI,hf]
  repeat' split
  all_goals first|rfl|(exfalso;apply e;apply Q66 <;> assumption)
theorem Qk5 (w:World) (a b:Hsh):Sem.run prog (binOp .eql 109 (.agg (h8 a)) (.agg (h8 b))) w=.ok (Value.bool (some a == some b)) w:=by rw[run_eql_struct,eqn];rfl
theorem Qqb (p:List Hsh) (leaf root:Hsh) (i n:Int) (v:Value) (w:World) (h:Qbs w v p) (hi : -9223372036854775808≤i) (hn:n≤9223372036854775807) (hm:p.length≤1048576) :
  Calls prog 96 #[.agg (h8 leaf),.int .i64 i,.int .i64 n,v,.agg (h8 root)] w fun e w'=>e=.returned (.bool (included leaf i n p root))∧Below w.heap.size w w':=by
 obtain⟨a,c,hv,_⟩:=id h;by_cases h0:0≤i
 ·have hd:decide (i<0)=false:=by simp;omega
  by_cases hin:i<n
  ·have hd2:decide (n≤i)=false:=by simp;omega
   have hinc:included leaf i n p root=(rebuild leaf i.toNat n.toNat p == some root):=by simp[included,h0,hin]
   have HI:=zh hinc;have HH:=zh h;have HV:=zh hv;clear hinc h hv
   go_enter func96,ntmps96
   go_wp2_with (refine Q1 rfl 109 _ rfl _ rfl _ underlying109 info8 ?_ ?_ ?_;rotate_left;focus ((repeat(first|(with_reducible first|assumption|exact Qj ⟨_,by assumption⟩ _)|((with_reducible first|refine Qe ?_|refine Q2 ?_|refine Qj (Q9 ?_) _);(first|rfl|(simp;done)|(simp;omega)))|with_reducible refine Qp ?_ _|((with_reducible refine Qi ?_ _ ?_);rotate_left;(focus(first|(simp;done)|(simp;omega)|omega)))|with_reducible first|refine Qo ?_|refine Qg ?_ (by assumption)));done))
   refine (Qus p.length p leaf i n v _ rfl (Qfh.below HH.o ((Qa w _).alloc (by simp) _)) h0 hin hn hm).mono ?_;rintro e w1 ⟨s,rfl,hsh,hb⟩;have hbb:Below w.heap.size w w1:=((Qa w _).alloc (by simp) _).trans (hb.mono (by simp;omega));have HBB:=zh hbb;have hz:w.heap.size+2≤w1.heap.size:=by have:=hb.size;simp at this;omega
   have g1:Qu w1 (w.heap.size+1) root:=Qg (Q2 (by simp)) hb;have HSH:=zh hsh;clear hsh hbb hb;obtain⟨r,hrr⟩:∃ r,r=rebuild leaf i.toNat n.toNat p:=⟨_,rfl⟩
   rw[←hrr];have HRR:=zh hrr;clear hrr;have hq:=fun w=>Qk5 w s root
   cases r with
   | none=>
    go_wp2_with (first|((first|refine Q1 rfl 109 _ rfl _ rfl _ underlying109 info8 ?_ ?_ ?_|refine Qt rfl 109 _ _ rfl _ _ rfl rfl info8 ?_ ?_ ?_);rotate_left;focus((repeat(first|(with_reducible first|assumption|exact Qj ⟨_,by assumption⟩ _)|((with_reducible first|refine Qe ?_|refine Q2 ?_|refine Qj (Q9 ?_) _);(first|rfl|(simp;done)|(simp;omega)))|with_reducible refine Qp ?_ _|((with_reducible refine Qi ?_ _ ?_);rotate_left;(focus(first|(simp;done)|(simp;omega)|omega)))|with_reducible first|refine Qo ?_|refine Qg ?_ (by assumption)));done)))
    go_ret;exact⟨Qa8 (by rw[HI.o,←HRR.o];rfl),below_setRow (HBB.o.alloc HBB.o.size _) HBB.o.size _⟩
   | some h=>
    obtain rfl:s=h:=HSH.o h HRR.o.symm
    go_wp2_with (first|((first|refine Q1 rfl 109 _ rfl _ rfl _ underlying109 info8 ?_ ?_ ?_|refine Qt rfl 109 _ _ rfl _ _ rfl rfl info8 ?_ ?_ ?_);rotate_left;focus((repeat(first|(with_reducible first|assumption|exact Qj ⟨_,by assumption⟩ _)|((with_reducible first|refine Qe ?_|refine Q2 ?_|refine Qj (Q9 ?_) _);(first|rfl|(simp;done)|(simp;omega)))|with_reducible refine Qp ?_ _|((with_reducible refine Qi ?_ _ ?_);rotate_left;(focus(first|(simp;done)|(simp;omega)|omega)))|with_reducible first|refine Qo ?_|refine Qg ?_ (by assumption)));done)))
    go_ret;refine⟨Qa8 ?_,below_setRow (HBB.o.alloc HBB.o.size _) HBB.o.size _⟩;rw[HI.o,←HRR.o];rfl
  ·have hd2:decide (n≤i)=true:=by simp;omega
   clear h;subst hv
   go_enter func96,ntmps96
   go_wp2;go_ret;exact⟨Qa8 (by simp[included];omega),(Qa w _).alloc (by simp) _⟩
 ·have hd:decide (i<0)=true:=by simp;omega
  clear h;subst hv
  go_enter func96,ntmps96
  go_wp2;go_ret;exact⟨Qa8 (by simp[included];omega),(Qa w _).alloc (by simp) _⟩
end
section
open Go.RowKit Go.MuLone
def Qg4 (F:Nat→Addr) (w:World) (gc gk mc gn gd:Nat) (vl vt:Value) (qs:List CEnt) (r:Tld×(List UInt8×List Hsh)×Cl×Nt) (e:Ending) (w':World):Prop:=
 ∃ u v y,e=.returned (.tuple #[u,v,y])∧Qz w' w.heap.size u r.2.1.1∧Qcu w' w.heap.size v r.2.1.2∧Qn0 F w' w.heap.size r.1 y∧
  ∃ qs',@ClM ⟨⟨u.ownBlock⟩⟩ 0 w' gc gk mc (.iface 44 (.pointer (some ⟨gn,0,none⟩))) r.2.2.1 qs'∧Yk w' gn gd vl vt r.2.2.2∧Fr (cnS gc gk mc gn vt qs) w w'∧Sub w (cnS gc gk mc gn vt qs) (cnS gc gk mc gn vt qs')∧(r.1=Qcb∨u=.slice none 0 0)
variable {W:World} {gc:Nat} {u v y:Value}
theorem Qfk {R:Ending→World→Prop} {T:Array Value} (h0:W.cell? ⟨gc,0,none⟩=some (.int .i32 1)) (h1:W.frozen? ⟨gc,0,none⟩=false) (hT4:T.getD 4 undef=u) (hT5:T.getD 5 undef=v) (hT6:T.getD 6 undef=y)
  (hR:R (.returned (.tuple #[u,v,y])) (W.setCell ⟨gc,0,none⟩ (.int .i32 0))) :
  bodyPostD prog f45 R Exit.ret { tmps:=T,defers:=[{ target:=.fn (.func 84) #[],args:=#[.pointer (some ⟨gc,0,none⟩)] }] } W:=by
 refine leaves_cons (f:=84) (args:=#[.pointer (some ⟨gc,0,none⟩)]) (by simp) (by simp[go_sem]) ?_;refine (unlock_deferred Q2t ⟨gc,0,none⟩ .returning W h0 h1).mono ?_;rintro e u' w'' ⟨rfl,rfl,rfl⟩;simp only[Leaves,settle];refine⟨.tuple #[u,v,y],?_,hR⟩;have a4:T[4]?.getD undef=u:=by simpa [Array.getD_eq_getD_getElem?] using hT4
 have a5:T[5]?.getD undef=v:=by simpa [Array.getD_eq_getD_getElem?] using hT5
 have a6:T[6]?.getD undef=y:=by simpa [Array.getD_eq_getD_getElem?] using hT6
 simp[results,results45,go_sem,a4,a5,a6]
variable {F:Nat→Addr} {w:World} {gk mc gn gd:Nat} {vl vt:Value} {qs:List CEnt} {t:Tld}
theorem Qva {qs':List CEnt} {b:List UInt8} {l:List Hsh} {c':Cl} {n':Nt} (hc : @ClM ⟨⟨u.ownBlock⟩⟩ 1 W gc gk mc (.iface 44 (.pointer (some ⟨gn,0,none⟩))) c' qs') (hn:Yk W gn gd vl vt n') (hf:Fr (cnS gc gk mc gn vt qs) w W) (hs:Sub w (cnS gc gk mc gn vt qs) (cnS gc gk mc gn vt qs'))
  (hg:gc<w.heap.size) (hu:Qz W w.heap.size u b) (hv:Qcu W w.heap.size v l) (he:Qn0 F W w.heap.size t y) (hz:t=Qcb∨u=.slice none 0 0):Qg4 F w gc gk mc gn gd vl vt qs (t,(b,l),c',n') (.returned (.tuple #[u,v,y])) (W.setCell ⟨gc,0,none⟩ (.int .i32 0)):=by
 have hcells:=@ClM.cells ⟨⟨u.ownBlock⟩⟩ _ _ _ _ _ _ _ _ hc;have hF:=Fr.set1 W gc 0 (.int .i32 0);have hk:=Qw hcells;refine⟨u,v,y,rfl,hu.same fun k C fz hC=>hF.block k (Qc hC) (Zo hk hC (by decide)),Zi hv hF hk (by decide),he.fr hF fun k C fz hC=>Zo hk hC (by decide),qs',@ClM.turn ⟨⟨u.ownBlock⟩⟩ _ _ _ _ _ _ _ _ hc 0,?_,hf.step hF fun i hi e=>.inl (.inl e),hs,hz⟩;exact Yq hn hF hk (by decide) (by decide) (by decide)
theorem Qzw {c:Cl} {n:Nt} (h:ClIs w gc gk mc (.iface 44 (.pointer (some ⟨gn,0,none⟩))) c qs) (hc:ClM 1 W gc gk mc (.iface 44 (.pointer (some ⟨gn,0,none⟩))) c qs) (hn:Yk w gn gd vl vt n) (hf:Fr (·=gc) w W) (he:Qn0 F W w.heap.size t y) :
  Qg4 F w gc gk mc gn gd vl vt qs (t,([],[]),c,n) (.returned (.tuple #[.slice none 0 0,.slice none 0 0,y])) (W.setCell ⟨gc,0,none⟩ (.int .i32 0)):=
 Qva hc (Yq hn hf (Qw h.cells) (by decide) (by decide) (by decide)) (hf.weak fun k _ e=>.inl (.inl e)) (Sub.refl _ _) h.lt (.inl ⟨rfl,rfl⟩) (World.ownsRow_nil _ _ _ _) he (.inr rfl)
theorem Qwz (F:Nat→Addr) (w:World) (gc gk mc gn gd:Nat) (vl vt:Value) (c:Cl) (qs:List CEnt) (n:Nt) (h:ClIs w gc gk mc (.iface 44 (.pointer (some ⟨gn,0,none⟩))) c qs) (hn:Yk w gn gd vl vt n) (hE:EnvS F (cnS gc gk mc gn vt qs) w) (i:Int) (hi:i<0∨(c.size:Int)≤i) (hi1 : -9223372036854775808≤i) (hi2:i≤9223372036854775807) :
  Calls prog 45 #[.pointer (some ⟨gc,0,none⟩),.int .i64 i] w (Qg4 F w gc gk mc gn gd vl vt qs (Yp c n i)):=by
 have hr:Yp c n i=((2,⟨#[]⟩),([],[]),c,n):=by unfold Yp;rw[if_pos hi]
 have H:=zh h;have HN:=zh hn;have HE:=zh hE;have HR:=zh hr;clear h hn hE hr;have hsz:i<0∨(0≤i∧(c.size:Int)≤i):=by omega
 clear hi;rcases hsz with hi0|⟨hi0,hge⟩
 all_goals
  go_enter_defers func45,ntmps45
  go_upto_region 4 with (first
   | (go_at_call 83;refine (Qlk H.o).mono ?_;rintro e w1 ⟨rfl,h1,hf1,hz1⟩;have H1:=zh h1;have HF1:=zh hf1;have d4:=Qd h1.cells 4 rfl;have HZ1:=zh hz1;have hg:=((HE.o.fr (hf1.weak fun _ _ e=>.inl (.inl e))).sents.cells).2.1;clear h1 hf1 hz1)
   | fail)
  go_wp2;go_region
  all_goals (
   go_wp2
   refine Qfk (u:=.slice none 0 0) (v:=.slice none 0 0) (y:=.iface 338 (.pointer (some (F 1)))) (Qd H1.o.cells 0 rfl) (Qq H1.o.cells 0) rfl rfl rfl ?_
   rw[HR.o]
   exact Qzw H.o (H1.o.below (Ql w1)) HN.o HF1.o.drew (.inr (.inl ⟨1,by decide,by decide,rfl,rfl⟩)))
end
end Go.Proofs.YtefccfakhgdfbabGreatDoor
