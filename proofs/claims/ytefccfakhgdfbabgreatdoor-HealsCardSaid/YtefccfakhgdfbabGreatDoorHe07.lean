/- What is remembered, and the same Read once more: plain. Conditions: at most 2^20 entries. -/
import Derived.Test.YtefccfakhgdfbabGreatDoorHe05
import Derived.Test.YtefccfakhgdfbabGreatDoorHe06
import Derived.StillTailTactics
import Derived.Conc.MuLone
import Derived.Conc.RwLib
import Derived.Conc.MuData
set_option linter.unusedVariables false
set_option linter.unusedSimpArgs false
open Go.RowKit Go.Proofs.Tryz
set_option maxRecDepth 100000
set_option maxHeartbeats 4000000
namespace Go.Proofs.YtefccfakhgdfbabGreatDoor
section
section
variable [Inhabited OutT]
structure FEnt where
 key:ByteArray
 val:Value
 data:List UInt8
def FEnt.kv (x:FEnt):Kv:=(x.key,x.data)
def ffind (vs:List FEnt) (p:ByteArray):Option FEnt:=vs.find? fun x=>decide (x.key=p)
def fget (vs:List FEnt) (p:ByteArray):Option Value:=(ffind vs p).map (·.val)
theorem kvGet_fe (vs:List FEnt) (p:ByteArray):kvGet (vs.map FEnt.kv) p=(ffind vs p).map (·.data):=by
 have:=(inferInstance:Inhabited OutT)
 unfold kvGet ffind
 rw[List.find?_map]
 simp only[Option.map_map]
 rfl
theorem ffind_mem {vs:List FEnt} {p:ByteArray} {x:FEnt} (h:ffind vs p=some x):x∈vs∧x.key=p:=by
 have:=(inferInstance:Inhabited OutT)
 unfold ffind at h
 exact⟨List.mem_of_find?_eq_some h,by have:=List.find?_some h;simpa using this⟩
theorem ffind_none {vs:List FEnt} {p:ByteArray} (h:ffind vs p=none):∀ x∈vs,x.key≠p:=have:=(inferInstance:Inhabited OutT);fun x hx=>by
 unfold ffind at h
 have:=List.find?_eq_none.1 h x hx
 simpa using this
theorem ffind_snoc (vs:List FEnt) (x:FEnt) (p:ByteArray):ffind (vs ++ [x]) p=(ffind vs p).or (if x.key=p then some x else none):=by
 have:=(inferInstance:Inhabited OutT)
 unfold ffind
 rw[List.find?_append,List.find?_cons]
 by_cases h:x.key=p
 ·simp[h]
 ·simp[h]
structure Qf where
 gq:Nat
 gc:Nat
 gk:Nat
 mc:Nat
 gn:Nat
 gd:Nat
 mq:Nat
 vl:Value
 vt:Value
 v:Value
 C:Array Value
structure Qv where
 vo:Value
 qs:List CEnt
 vs:List FEnt
def lkCells (q:Qf) (N:Nat) (vo:Value):Array Value:=#[.pointer (some ⟨q.gc,0,none⟩),.int .i64 N,.map (some q.mq),vo]
structure QIs (w:World) (q:Qf) (x:Qv) (N:Nat) (s:Cs) (d:Dk):Prop where
 look:w.heap[q.gq]?=some (.cells (lkCells q N x.vo) 250 (0,0))
 km:KmAt w 9 q.mq (fget x.vs) x.vs.length
 ord:OwnStrs w 0 x.vo (x.vs.map (·.key))
 vals:∀ y∈x.vs,OwnB w 0 y.val y.data
 keys:(x.vs.map (·.key)).Nodup
 small:∀ y∈x.vs,y.key.size≤maxLen
 files:s.files=x.vs.map FEnt.kv
 cli:w.heap[q.gc]?=some (.cells q.C 177 (0,0))
 c2:q.C[2]?=some (.iface 44 (.pointer (some ⟨q.gn,0,none⟩)))
 c13:q.C[13]?=some (.pointer (some ⟨q.gk,0,none⟩))
 cache:CacheIs w q.gk q.mc s.cache x.qs
 net:NetIs w q.gn q.gd q.vl q.vt s.net
 disk:DiskAt w q.gd q.v d
 dfiles:d.files=s.net.files
 maps:q.mq≠q.mc
 o:∀ z,Out.blk=some z→z<w.heap.size
def lookS (q:Qf) (x:Qv) (k:Nat):Prop:=k=q.gq∨k=q.mq∨x.vo.ownBlock=some k
def QS (q:Qf) (x:Qv) (k:Nat):Prop:=lookS q x k∨cacheS q.gk q.mc x.qs k∨netS q.gn q.vt k
theorem km_obj {w:World} {k:TypeId} {m n:Nat} {get:ByteArray→Option Value} (h:KmAt w k m get n):∃ es c,w.heap[m]?=some (.map es c):=by
 have:=(inferInstance:Inhabited OutT)
 obtain⟨D,⟨es,c,hb,_⟩,_⟩:=h.ex
 exact⟨es,c,hb⟩
theorem kinds_cache {w:World} {g m:Nat} {c:Cch} {qs:List CEnt} (h:CacheIs w g m c qs):Kinds w (cacheS g m qs) [246,244]:=fun k C t f hk hc=>by
 rcases hk with rfl|rfl|hk
 ·obtain⟨l,e,h2⟩:=h.ring.ends
  rw[h2] at hc
  cases hc
  exact List.mem_cons_self
 ·obtain⟨es,c,hb⟩:=km_obj h.km
  rw[hb] at hc
  cases hc
 ·obtain⟨k',v,_,l,e,h2⟩:=h.ring.node (by rw[tri_fst];exact hk)
  rw[h2] at hc
  cases hc
  exact List.mem_cons_of_mem _ List.mem_cons_self
theorem kinds_net {w:World} {g gd:Nat} {vl vt:Value} {n:Nt} (h:NetIs w g gd vl vt n):Kinds w (netS g vt) [103,3]:=have:=(inferInstance:Inhabited OutT);fun k C t f hk hc=>by
 rcases hk with hk|hk
 ·have:=kinds_one h.cells k C t f hk hc
  simp at this ⊢
  exact .inl this
 ·have:=kinds_row h.told k C t f hk hc
  simp at this ⊢
  exact .inr this
theorem QIs.kindsLook {w:World} {q:Qf} {x:Qv} {N:Nat} {s:Cs} {d:Dk} (h:QIs w q x N s d):Kinds w (lookS q x) [250,9]:=fun k C t f hk hc=>by
 rcases hk with hk|rfl|hk
 ·have:=kinds_one h.look k C t f hk hc
  simp at this ⊢
  exact .inl this
 ·obtain⟨es,c,hb⟩:=km_obj h.km
  rw[hb] at hc
  cases hc
 ·have:=kinds_row h.ord k C t f hk hc
  simp at this ⊢
  exact .inr this
theorem bytes_kept {w w':World} {S:Nat→Prop} {ts:List TypeId} {base:Nat} {v:Value} {l:List UInt8} (h:OwnBytes w base v l) (hf:Fr S w w') (hS:Kinds w S ts) (h1:5 ∉ ts):OwnBytes w' base v l:=have:=(inferInstance:Inhabited OutT);h.same fun k C fz hk=>hf.block k (lt_of_heap hk) (kinds_not hS hk h1)
theorem bytes_keptB {w w':World} {S:Nat→Prop} {ts:List TypeId} {base:Nat} {v:Value} {l:List UInt8} (h:OwnB w base v l) (hf:Fr S w w') (hS:Kinds w S ts) (h1:5 ∉ ts):OwnB w' base v l:=⟨bytes_kept h.1 hf hS h1,h.2⟩
theorem net_kept {w w':World} {S:Nat→Prop} {ts:List TypeId} {g gd:Nat} {vl vt:Value} {n:Nt} (h:NetIs w g gd vl vt n) (hf:Fr S w w') (hS:Kinds w S ts) (h1:103 ∉ ts) (h2:75 ∉ ts) (h3:3 ∉ ts):NetIs w' g gd vl vt n:=have:=(inferInstance:Inhabited OutT);⟨heap_kept h.cells hf hS h1,row_kept h.lies hf hS h2,row_kept h.told hf hS h3,h.len,h.le⟩
theorem cache_kept {w w':World} {S:Nat→Prop} {ts:List TypeId} {g m:Nat} {c:Cch} {qs:List CEnt} (h:CacheIs w g m c qs) (hf:Fr S w w') (hS:Kinds w S ts) (hm:¬ S m) (h1:246 ∉ ts) (h2:244 ∉ ts) (h3:5 ∉ ts):CacheIs w' g m c qs:=
 h.fr hf (fun i hi=>by
  rcases hi with rfl|rfl|hi
  ·obtain⟨l,e,h4⟩:=h.ring.ends
   exact kinds_not hS h4 h1
  ·exact hm
  ·obtain⟨k',v,_,l,e,h4⟩:=h.ring.node (by rw[tri_fst];exact hi)
   exact kinds_not hS h4 h2) fun k C fz hk=>kinds_not hS hk h3
theorem QIs.mapOut {w:World} {q:Qf} {x:Qv} {N:Nat} {s:Cs} {d:Dk} (h:QIs w q x N s d):(¬ cacheS q.gk q.mc x.qs q.mq∧¬ netS q.gn q.vt q.mq)∧¬ lookS q x q.mc:=by
 obtain⟨es,c,hb⟩:=km_obj h.km
 obtain⟨es2,c2,hb2⟩:=km_obj h.cache.km
 refine⟨⟨fun hs=>?_,fun hs=>?_⟩,fun hs=>?_⟩
 ·rcases hs with e|e|e
  ·obtain⟨l,r,h2⟩:=h.cache.ring.ends
   rw[e,h2] at hb;cases hb
  ·exact h.maps e
  ·obtain⟨k',v,_,l,r,h2⟩:=h.cache.ring.node (by rw[tri_fst];exact e)
   rw[h2] at hb;cases hb
 ·rcases hs with e|e
  ·rw[e,h.net.cells] at hb;cases hb
  ·obtain⟨C,hC⟩:=ownBlock_type h.net.told e
   rw[hC] at hb;cases hb
 ·rcases hs with e|e|e
  ·rw[e,h.look] at hb2;cases hb2
  ·exact h.maps e.symm
  ·obtain⟨C,hC⟩:=ownBlock_type h.ord e
   rw[hC] at hb2;cases hb2
theorem QIs.below {w w':World} {q:Qf} {x:Qv} {N:Nat} {s:Cs} {d:Dk} (h:QIs w q x N s d) (hb:Below w.heap.size w w'):QIs w' q x N s d where
 look:=(hb.block _ (lt_of_heap h.look)).trans h.look
 km:=h.km.below hb h.km.lt
 ord:=ownsRow_below h.ord hb
 vals y hy:=(h.vals y hy).same fun k C fz hk=>hb.block k (lt_of_heap hk)
 keys:=h.keys
 small:=h.small
 files:=h.files
 cli:=(hb.block _ (lt_of_heap h.cli)).trans h.cli
 c2:=h.c2
 c13:=h.c13
 cache:=h.cache.fr (S:=fun _=>False) (Fr.ofBelow hb) (fun _ _=>id) (fun _ _ _ _=>id)
 net:=h.net.below hb
 disk:=h.disk.below hb
 dfiles:=h.dfiles
 maps:=h.maps
 o z hz:=Nat.lt_of_lt_of_le (h.o z hz) hb.size
theorem QIs.cacheStep {w w':World} {q:Qf} {x:Qv} {N:Nat} {s:Cs} {d:Dk} (h:QIs w q x N s d) {c':Cch} {qs':List CEnt} (hc:CacheIs w' q.gk q.mc c' qs') (hf:Fr (cacheS q.gk q.mc x.qs) w w'):QIs w' q { x with qs:=qs' } N { s with cache:=c' } d:=
 have hk:=kinds_cache h.cache
 {
  look:=heap_kept h.look hf hk (by decide)
  km:=h.km.fr hf h.mapOut.1.1
  ord:=row_kept h.ord hf hk (by decide)
  vals:=fun y hy=>bytes_keptB (h.vals y hy) hf hk (by decide)
  keys:=h.keys
  small:=h.small
  files:=h.files
  cli:=heap_kept h.cli hf hk (by decide)
  c2:=h.c2
  c13:=h.c13
  cache:=hc
  net:=net_kept h.net hf hk (by decide) (by decide) (by decide)
  disk:=h.disk.kept hf hk (by decide) (by decide)
  dfiles:=h.dfiles
  maps:=h.maps
  o:=fun z hz=>Nat.lt_of_lt_of_le (h.o z hz) hf.size }
theorem QIs.netStep {w w':World} {q:Qf} {x:Qv} {N:Nat} {s:Cs} {d:Dk} (h:QIs w q x N s d) {n':Nt} (hn:NetIs w' q.gn q.gd q.vl q.vt n') (hf:Fr (netS q.gn q.vt) w w') (hd:n'.files=s.net.files):QIs w' q x N { s with net:=n' } d:=
 have hk:=kinds_net h.net
 have hm:¬ netS q.gn q.vt q.mc:=by
  obtain⟨es2,c2,hb2⟩:=km_obj h.cache.km
  rintro (e|e)
  ·rw[e,h.net.cells] at hb2;cases hb2
  ·obtain⟨C,hC⟩:=ownBlock_type h.net.told e
   rw[hC] at hb2;cases hb2
 {
  look:=heap_kept h.look hf hk (by decide)
  km:=h.km.fr hf h.mapOut.1.2
  ord:=row_kept h.ord hf hk (by decide)
  vals:=fun y hy=>bytes_keptB (h.vals y hy) hf hk (by decide)
  keys:=h.keys
  small:=h.small
  files:=h.files
  cli:=heap_kept h.cli hf hk (by decide)
  c2:=h.c2
  c13:=h.c13
  cache:=cache_kept h.cache hf hk hm (by decide) (by decide) (by decide)
  net:=hn
  disk:=h.disk.kept hf hk (by decide) (by decide)
  dfiles:=h.dfiles.trans hd.symm
  maps:=h.maps
  o:=fun z hz=>Nat.lt_of_lt_of_le (h.o z hz) hf.size }
theorem QIs.lookStep {w w':World} {q:Qf} {x:Qv} {N:Nat} {s:Cs} {d:Dk} (h:QIs w q x N s d) (hf:Fr (lookS q x) w w') {vo':Value} {y:FEnt} (hl:w'.heap[q.gq]?=some (.cells (lkCells q N vo') 250 (0,0)))
  (hk:KmAt w' 9 q.mq (fun u=>if u=y.key then some y.val else fget x.vs u) (x.vs.length+1)) (ho:OwnStrs w' 0 vo' (x.vs.map (·.key) ++ [y.key])) (hv:OwnB w' 0 y.val y.data) (hn:ffind x.vs y.key=none) (hs:y.key.size≤maxLen) :
  QIs w' q { x with vo:=vo',vs:=x.vs ++ [y] } N (keepQ y.key y.data s) d:=
 have hK:=h.kindsLook
 {
  look:=hl
  km:=by
   have e:fget (x.vs ++ [y])=fun u=>if u=y.key then some y.val else fget x.vs u:=by
    funext u
    unfold fget
    rw[ffind_snoc]
    by_cases hu:u=y.key
    ·subst hu
     rw[hn,if_pos rfl,if_pos rfl]
     rfl
    ·rw[if_neg hu,if_neg (fun e=>hu e.symm),Option.or_none]
   rw[List.length_append,List.length_singleton,e]
   exact hk
  ord:=by rw[List.map_append];exact ho
  vals:=fun z hz=>by
   rcases List.mem_append.1 hz with hz|hz
   ·exact bytes_keptB (h.vals z hz) hf hK (by decide)
   ·rw[List.mem_singleton.1 hz];exact hv
  keys:=by
   rw[List.map_append,List.nodup_append]
   refine⟨h.keys,by simp,fun a ha b hb e=>?_⟩
   simp at hb
   obtain⟨z,hz,rfl⟩:=List.mem_map.1 ha
   exact ffind_none hn z hz (e.trans hb)
  small:=fun z hz=>by
   rcases List.mem_append.1 hz with hz|hz
   ·exact h.small z hz
   ·rw[List.mem_singleton.1 hz];exact hs
  files:=by
   show s.files ++ [(y.key,y.data)]=_
   rw[h.files,List.map_append]
   rfl
  cli:=heap_kept h.cli hf hK (by decide)
  c2:=h.c2
  c13:=h.c13
  cache:=cache_kept h.cache hf hK h.mapOut.2 (by decide) (by decide) (by decide)
  net:=net_kept h.net hf hK (by decide) (by decide) (by decide)
  disk:=h.disk.kept hf hK (by decide) (by decide)
  dfiles:=h.dfiles
  maps:=h.maps
  o:=fun z hz=>Nat.lt_of_lt_of_le (h.o z hz) hf.size }
def QStep (w:World) (q:Qf) (x:Qv) (N:Nat) (d:Dk) (w':World) (s':Cs):Prop:=∃ x',QIs w' q x' N s' d∧Fr (QS q x) w w'∧Sub w (QS q x) (QS q x')
theorem QStep.trans {a b c:World} {q:Qf} {x y:Qv} {N:Nat} {d:Dk} {s:Cs} (hf:Fr (QS q x) a b) (hs:Sub a (QS q x) (QS q y)) (h:QStep b q y N d c s):QStep a q x N d c s:=by
 obtain⟨z,h1,h2,h3⟩:=h
 exact⟨z,h1,hf.sub h2 hs,hs.trans h3 hf.size⟩
theorem QStep.below {a b c:World} {q:Qf} {x:Qv} {N:Nat} {d:Dk} {s:Cs} (h:QStep a q x N d b s) (hb:Below b.heap.size b c):QStep a q x N d c s:=by
 obtain⟨z,h1,h2,h3⟩:=h
 exact⟨z,h1.below hb,h2.trans (Fr.ofBelow hb),h3⟩
theorem QStep.here {w:World} {q:Qf} {x:Qv} {N:Nat} {d:Dk} {s:Cs} (h:QIs w q x N s d):QStep w q x N d w s:=⟨x,h,Fr.refl _ _,Sub.refl _ _⟩
theorem QIs.heads {w:World} {q:Qf} {x:Qv} {N:Nat} {s:Cs} {d:Dk} (h:QIs w q x N s d):w.cell? ⟨q.gq,0,none⟩=some (.pointer (some ⟨q.gc,0,none⟩))∧w.cell? ⟨q.gq,1,none⟩=some (.int .i64 N)∧w.cell? ⟨q.gq,2,none⟩=some (.map (some q.mq))∧w.cell? ⟨q.gq,3,none⟩=some x.vo∧
  w.cell? ⟨q.gc,2,none⟩=some (.iface 44 (.pointer (some ⟨q.gn,0,none⟩)))∧w.cell? ⟨q.gc,13,none⟩=some (.pointer (some ⟨q.gk,0,none⟩))∧w.frozen? ⟨q.gq,3,none⟩=false:=
 ⟨cell_heap h.look 0 rfl,cell_heap h.look 1 rfl,cell_heap h.look 2 rfl,cell_heap h.look 3 rfl,cell_heap h.cli 2 h.c2,cell_heap h.cli 13 h.c13,frozen_heap h.look 3⟩
end
end
section
section
variable [Inhabited OutT]
theorem made_facts0 {w1 w2:World} {k:ByteArray} {v:Value} (h:w2=w1.alloc (.cells #[.string k,v,.pointer none,.pointer none] 244)):Fr (fun _=>False) w1 w2∧Node w2 w1.heap.size k v:=made_facts h
theorem cput_full (w:World) (g m:Nat) (c:Cch) (l:List CEnt) (q:CEnt) (k:ByteArray) (a:Option Addr) (n cc:Nat) (dat:List UInt8) (h:CacheIs w g m c (l ++ [q])) (hv:OwnB w 0 (.slice a n cc) dat) (hk:k.size≤maxLen) (hlen:(l ++ [q]).length=c.most) (hf:cfind (l ++ [q]) k=none) :
  Calls prog 145 #[.pointer (some ⟨g,0,none⟩),.string k,.slice a n cc] w (putPost w g m c (l ++ [q]) k dat):=by
 obtain⟨ln,hln⟩:∃ ln,ln=(l ++ [q]).length:=⟨_,rfl⟩
 have hm:=h.ring.ends.most
 have hc1:=h.ring.ends.all
 have hlp:ln=l.length+1:=by rw[hln];simp
 have h0:c.most≠0:=by omega
 have hz:((c.most:Int)=0)=False:=by simp[h0]
 have hne:((ln:Int) == (c.most:Int))=true:=by rw[beq_iff_eq];omega
 have hcg:cget (l ++ [q]) k=none:=by simp[cget,hf]
 have hni:=km_notIn h.km h.ring
 have hmw:=h.km.lt
 have hr:RingIs w g m c.most (l.map CEnt.tri++(q.b,q.key,q.val) :: []):=by have:=h.ring;rwa [List.map_append,List.map_cons] at this
 have hlast:w.cell? ⟨g,4,none⟩=some (.pointer (some ⟨q.b,0,none⟩)):=by
  have h1:=hr.chn.last.l
  rw[List.map_append] at h1
  have e:lst none (l.map CEnt.tri |>.map (·.1) |>.append [q.b])=some q.b:=lst_append none _ q.b
  have e2:lst none ((l.map CEnt.tri).map (·.1)++((q.b,q.key,q.val) :: []).map (·.1))=some q.b:=e
  rw[e2] at h1
  exact h1
 have dm:w.drew.cell? ⟨g,0,none⟩=some (.int .i64 c.most):=hm
 have dc:w.drew.cell? ⟨g,1,none⟩=some (.map (some m)):=hc1
 have dl:=fun ty=>(h.km.same (w':=w.drew) rfl).run_len underlying241 ty
 rw[←hln] at dl
 have hmg:m≠g:=hni.1
 have hks:q.key.size≤maxLen:=h.small q (by simp)
 have hbq:q.b∈(l.map CEnt.tri++(q.b,q.key,q.val) :: []).map (·.1):=by simp
 have hmr:∀ b∈(l.map CEnt.tri).map (·.1),¬ b=m:=by
  rintro b hb rfl
  refine hni.2 ?_
  rw[List.map_append,List.map_append]
  exact List.mem_append_left _ hb
 have hle:ln≤maxLen:=by have:=h.most;omega
 have KM:=zh h.km
 have HR:=zh hr
 have HNI:=zh hni
 have H:=zh h
 have HV:=zh hv
 have HLN:=zh hln
 clear hr hni h hv
 go_enter func145,ntmps145
 go_upto_region 4 with (first
  | (at_lookup;refine wpList_kmLook _ rfl _ _ 241 rfl 9 242 underlying9 underlying241 (z:=.pointer none) rfl m _ (cget (l ++ [q])) rfl KM.o k rfl hk ?_;rw[hcg];simp only[Option.getD,Option.isSome])
  | fail)
 go_region
 have hlast':w.drew.cell? ⟨g,4,none⟩=some (.pointer (some ⟨q.b,0,none⟩)):=hlast
 have hrd:RingIs w.drew g m c.most (l.map CEnt.tri++(q.b,q.key,q.val) :: []):=HR.o.fr (S:=fun _=>False) (Fr.ofBelow (below_drew w)) id (fun _ _=>id)
 have HRD:=zh hrd
 clear hrd
 go_upto_region 7 with (first
  | (go_at_call 183;refine (take_ring w.drew g m c.most _ _ q.b q.key q.val HRD.o _).mono ?_;rintro e w1 ⟨rfl,hr1,hn1,hf1,hs1⟩;have HR1:=zh hr1;have HN1:=zh hn1;have HF1:=zh hf1;have HS1:=zh hs1;clear hr1 hn1 hf1 hs1)
  | fail)
 have a1:=HR1.o.ends.all
 have a2:=HN1.o.key
 have hk1:KmAt w1 9 m (cget (l ++ [q])) ln:=by
  have:=(KM.o.same (w':=w.drew) rfl).fr HF1.o (by
   rintro (e|e)
   ·exact HNI.o.1 e
   ·exact HNI.o.2 (by rw[List.map_append,List.map_cons];exact e))
  rw[←HLN.o] at this
  exact this
 have HK1:=zh hk1
 clear hk1 dm dc dl hlast hlast' hne hm hc1
 go_still_tail 8,(by kernel_rfl)
 change wpList _ _ _ _ _ w1.drew
 refine wpList_kmDel _ rfl _ _ 241 9 rfl 242 underlying9 underlying241 m ln (cget (l ++ [q])) rfl (HK1.o.same (w':=w1.drew) rfl) q.key rfl hks ?_
 intro w2 hk2 hf2 hs2
 have hgk:(cget (l ++ [q]) q.key).isSome=true:=by
  have:cfind (l ++ [q]) q.key=some q:=(cfind_iff H.o.keys).2 ⟨by simp,rfl⟩
  unfold cget
  rw[this]
  rfl
 rw[if_pos hgk] at hk2
 obtain⟨w3,hw3⟩:∃ w3,w3=w2.alloc (.cells #[.string k,.slice a n cc,.pointer none,.pointer none] 244):=⟨_,rfl⟩
 obtain⟨hf3,hn3⟩:=made_facts0 hw3
 have hf12:Fr (·=m) w1 w2:=(Fr.ofBelow (below_drew w1)).trans hf2
 have hr1':RingIs w1 g m c.most (l.map CEnt.tri):=by have:=HR1.o;rwa [List.append_nil] at this
 have hr2:=hr1'.fr hf12 (fun e=>hmg e.symm) hmr
 have hr3:=hr2.fr hf3 id (fun _ _=>id)
 have hk3:=hk2.fr hf3 id
 have hM3:=hr3.ends.all
 have hM3':=hM3
 have hM2:=hr2.ends.all
 rw[hw3] at hM3'
 have hsz2:w2.heap.size=w.heap.size:=hs2.trans HS1.o
 have hnb:w2.heap.size ∉ (l.map CEnt.tri).map (·.1):=fun hb=>by
  have:=hr1'.lt hb
  rw[HS1.o] at this
  rw[hsz2] at this
  exact Nat.lt_irrefl _ this
 have hg0:(if k=q.key then none else cget (l ++ [q]) k)=none:=by
  split
  ·rfl
  ·exact hcg
 have HR3:=zh hr3
 have HK3:=zh hk3
 have HN3:=zh hn3
 have HF3:=zh hf3
 have HW3:=zh hw3
 have HNB:=zh hnb
 have HF12:=zh hf12
 have HG0:=zh hg0
 have hle1:ln-1<maxLen:=by omega
 have hmw2:m<w2.heap.size:=by rw[hsz2];exact hmw
 have hgw2:g<w2.heap.size:=cell_lt hM2
 have HSZ2:=zh hsz2
 clear hgk hk2 hf2 hs2 hf3 hn3 hf12 hr1' hr2 hr3 hk3 hM3 hnb hg0 hw3 hM3' a2 hsz2 a1
 go_wp2_with (first
  | (at_mapUpdate;rw[←HW3.o];refine wpList_kmPut _ rfl _ _ _ 241 rfl 9 242 underlying9 underlying241 m _ _ rfl HK3.o hle1 k (.pointer (some ⟨w2.heap.size,0,none⟩)) rfl hk rfl ?_;intro w4 hk4 hf4 hs4;have HK4:=zh hk4;have HF4:=zh hf4;have HS4:=zh hs4;clear hk4 hf4 hs4)
  | (go_at_call 184;refine (front_ring w4 g m c.most _ w2.heap.size k (.slice a n cc) (HR3.o.fr HF4.o (fun e=>hmg e.symm) hmr) HNB.o (HN3.o.below (HF4.o.block _ (by obtain⟨_,_,hh⟩:=HN3.o;exact lt_of_heap hh) (by omega)))).mono ?_;rintro e w5 ⟨rfl,hr5,hf5,hs5⟩;have HR5:=zh hr5;have HF5:=zh hf5;have HS5:=zh hs5;clear hr5 hf5 hs5)
  | fail)
 have hsz2:=HSZ2.o
 have hin:∀ i,(i=g∨i∈((l.map CEnt.tri++(q.b,q.key,q.val) :: [])).map (·.1))→cacheS g m (l ++ [q]) i:=by
  intro i hi
  rcases hi with hi|hi
  ·exact .inl hi
  ·exact .inr (.inr (by simpa [CEnt.tri] using hi))
 have hF1:Fr (cacheS g m (l ++ [q])) w w1:=((Fr.ofBelow (below_drew w)).trans HF1.o).weak fun i _ hi=>hin i hi
 have hF2:Fr (cacheS g m (l ++ [q])) w w2:=hF1.step HF12.o fun _ _ hi=>.inr (.inl hi)
 have hF3:Fr (cacheS g m (l ++ [q])) w w3:=hF2.step HF3.o fun _ _ hi=>hi.elim
 have hF4:Fr (cacheS g m (l ++ [q])) w w4:=hF3.step HF4.o fun _ _ hi=>.inr (.inl hi)
 have hsub:∀ i,i∈(l.map CEnt.tri).map (·.1)→i∈(l ++ [q]).map (·.b):=fun i hi=>by
  rw[tri_fst] at hi
  rw[List.map_append]
  exact List.mem_append_left _ hi
 have hF:Fr (cacheS g m (l ++ [q])) w w5:=hF4.step HF5.o fun i hi hs=>by
  rcases hs with e|e|e
  ·exact .inl e
  ·omega
  ·exact .inr (.inr (hsub i e))
 have hB:∀ (k:Nat) (C:Array Value) (fz:Nat×Nat),w.heap[k]?=some (Obj.cells C 5 fz)→w5.heap[k]?=w.heap[k]?:=fun k C fz hk=>hF.block k (lt_of_heap hk) (cache_noBytes H.o k C fz hk)
 refine bodyPost_end (results_none rfl _ _ _) rfl ⟨rfl,⟨w2.heap.size,k,.slice a n cc,dat⟩ :: l,?_,by simp,hF,?_⟩
 ·have hg:¬ (kvGet c.items k).isSome=true:=by rw[H.o.items,kvGet_kv,hf];simp
  have hl:c.items.length=c.most:=by rw[H.o.items,List.length_map];exact hlen
  have ec:cachePut c k dat={ c with items:=(k,dat) :: l.map CEnt.kv }:=by
   unfold cachePut
   rw[if_neg h0,if_neg hg,if_pos hl,H.o.items,List.map_append]
   simp
  rw[ec]
  have hk5:=HK4.o.fr HF5.o (by
   rintro (e|e|e)
   ·exact hmg e
   ·omega
   ·exact hmr _ e rfl)
  rw[HG0.o] at hk5
  simp only[Option.isSome] at hk5
  have hkeys:=H.o.keys
  rw[List.map_append,List.nodup_append] at hkeys
  have hqn:∀ x∈l,x.key≠q.key:=fun x hx=>hkeys.2.2 x.key (List.mem_map_of_mem hx) q.key (by simp)
  have hlc:l.length+1≤c.most:=by omega
  rw[show ln-1=l.length by omega] at hk5
  refine H.o.newer (fun x hx=>List.mem_append_left _ hx) hkeys.1 (fun x hx=>cfind_none hf x (List.mem_append_left _ hx)) hk hlc HR5.o (HV.o.same hB) (fun x hx=>(H.o.vals x (List.mem_append_left _ hx)).same hB) hk5 (fun u=>?_)
  by_cases e:u=k
  ·rw[if_pos e,if_pos e]
  ·rw[if_neg e,if_neg e]
   by_cases e2:u=q.key
   ·rw[if_pos e2]
    have:cfind l u=none:=by
     unfold cfind
     rw[List.find?_eq_none]
     intro x hx
     simp
     rw[e2]
     exact hqn x hx
    unfold cget
    rw[this]
    rfl
   ·rw[if_neg e2]
    have:=cget_skip (l:=l) (r:=[]) e2
    rw[List.append_nil] at this
    exact this
 ·intro i hi hS
  rcases hS with rfl|rfl|hS
  ·exact .inl rfl
  ·exact .inr (.inl rfl)
  ·rw[List.map_cons,List.mem_cons] at hS
   rcases hS with e|hS
   ·have e:i=w2.heap.size:=e
    omega
   ·exact .inr (.inr (by rw[List.map_append];exact List.mem_append_left _ hS))
theorem cput_any (w:World) (g m:Nat) (c:Cch) (qs:List CEnt) (k:ByteArray) (a:Option Addr) (n cc:Nat) (dat:List UInt8) (h:CacheIs w g m c qs) (hv:OwnB w 0 (.slice a n cc) dat) (hk:k.size≤maxLen) (hlen:qs.length<maxLen) :
  Calls prog 145 #[.pointer (some ⟨g,0,none⟩),.string k,.slice a n cc] w (putPost w g m c qs k dat):=by
 by_cases h0:c.most=0
 ·exact cput_zero w g m c qs k _ dat h h0
 ·cases hf:cfind qs k with
  | some q=>
   obtain⟨rfl,l,r,rfl,_⟩:=cfind_split hf
   exact cput_have w g m c l r q a n cc dat h hv h0 hk hlen
  | none=>
   rcases Nat.lt_or_ge qs.length c.most with hlt|hge
   ·exact cput_room w g m c qs k a n cc dat h hv hk hlt hf
   ·have he:qs.length=c.most:=Nat.le_antisymm h.fits hge
    have hne:qs≠[]:=fun e=>by rw[e] at he;exact h0 he.symm
    rw[←List.dropLast_concat_getLast hne] at h hf he ⊢
    exact cput_full w g m c _ _ k a n cc dat h hv hk he hf
end
end
section
open Go.RowKit Go.Maps Go.ChangeMaps Go.WideMaps
section
theorem rememberQ_snoc:∀ (xs:List Kv) (c:Cch) (x:Kv),rememberQ c (xs ++ [x])=cachePut (rememberQ c xs) x.1 x.2
 | [],_,_=>have:=(inferInstance:Inhabited OutT);rfl
 | _ :: ys,c,x=>rememberQ_snoc ys _ x
variable [Inhabited OutT]
theorem KmAt.run_look {w:World} {k:TypeId} {b n:Nat} {get:ByteArray→Option Value} (h:KmAt w k b get n) (hk:prog.underlying k=some .string) {t e:TypeId} (ht:prog.underlying t=some (.map k e)) {z:Value} (hz:(zeroValue e).run prog w=.ok z w) (s:ByteArray) (hs:s.size≤maxLen) {v:Value} (hv:get s=some v) :
  (Instr.lookup t (.map (some b)) (.string s) false).run prog w=.ok v w:=by
 have:=(inferInstance:Inhabited OutT)
 obtain⟨D,hown,hn,hh,ha⟩:=h.ex
 obtain⟨v',ps,h1,h2⟩:=hown.lookup (string_keyed hk) ht hz (zd:=.held z) (zp:=[]) rfl (keyOf_string_mk hk hs)
 have e1:DataW.held v'=D.atKey (klit s) (.held z):=by
  have:=congrArg (Option.map Prod.fst) h2
  simp only[heldV,Option.map_some] at this
  exact Option.some.inj this
 rw[ha s v _ hv] at e1
 cases e1
 exact h1
theorem fget_at {vs:List FEnt} (hk:(vs.map (·.key)).Nodup) {j:Nat} {y:FEnt} (hj:vs[j]?=some y):fget vs y.key=some y.val:=by
 obtain⟨hlt,he⟩:=List.getElem?_eq_some_iff.1 hj
 cases hf:ffind vs y.key with
 | none=>exact absurd rfl (ffind_none hf y (List.mem_of_getElem? hj))
 | some z=>
  obtain⟨hz,hzk⟩:=ffind_mem hf
  have:z=y:=by
   obtain⟨i,hi,rfl⟩:=List.mem_iff_getElem.1 hz
   have e1:(vs.map (·.key))[i]'(by rw[List.length_map];exact hi)=(vs.map (·.key))[j]'(by rw[List.length_map];exact hlt):=by
    rw[List.getElem_map,List.getElem_map,hzk,he]
   have hij:i=j:=by
    rcases Nat.lt_trichotomy i j with h|h|h
    ·exact absurd e1 (List.pairwise_iff_getElem.1 hk i j (by rw[List.length_map];exact hi) (by rw[List.length_map];exact hlt) h)
    ·exact h
    ·exact absurd e1.symm (List.pairwise_iff_getElem.1 hk j i (by rw[List.length_map];exact hlt) (by rw[List.length_map];exact hi) h)
   subst hij
   exact he
  unfold fget
  rw[hf,this]
  rfl
structure RSt (w wr:World) (q:Qf) (x:Qv) (N:Nat) (s:Cs) (d:Dk) (j:Nat) (qs:List CEnt):Prop where
 is:QIs wr q { x with qs:=qs } N { s with cache:=rememberQ s.cache (s.files.take j) } d
 fr:Fr (cacheS q.gk q.mc x.qs) w wr
 sub:∀ i,i<w.heap.size→cacheS q.gk q.mc qs i→cacheS q.gk q.mc x.qs i
 len:qs.length≤x.qs.length+j
theorem rst_next {w wr wf:World} {q:Qf} {x:Qv} {N:Nat} {s:Cs} {d:Dk} {j:Nat} {qs qs':List CEnt} {y:FEnt} (h:RSt w wr q x N s d j qs) (hy:x.vs[j]?=some y) (hc:CacheIs wf q.gk q.mc (cachePut (rememberQ s.cache (s.files.take j)) y.key y.data) qs') (hl:qs'.length≤qs.length+1)
  (hf:Fr (cacheS q.gk q.mc qs) wr wf) (hs:∀ i,i<wr.heap.size→cacheS q.gk q.mc qs' i→cacheS q.gk q.mc qs i):RSt w wf q x N s d (j+1) qs':=by
 have hk:s.files[j]?=some (y.key,y.data):=by
  have:=h.is.files
  dsimp only at this
  rw[this,List.getElem?_map,hy]
  rfl
 refine⟨?_,h.fr.step hf h.sub,fun i hi e=>h.sub i hi (hs i (Nat.lt_of_lt_of_le hi h.fr.size) e),by have:=h.len;omega⟩
 have:=h.is.cacheStep hc hf
 rw[List.take_add_one,hk,Option.toList_some,rememberQ_snoc]
 exact this
theorem remember_any (w:World) (q:Qf) (x:Qv) (N:Nat) (s:Cs) (d:Dk) (h:QIs w q x N s d) (hlen:x.qs.length+x.vs.length<1099511627775) :
  Calls prog 91 #[.pointer (some ⟨q.gq,0,none⟩)] w fun e w'=>e=.returned (.tuple #[])∧∃ qs',QIs w' q { x with qs:=qs' } N { s with cache:=rememberQ s.cache s.files } d∧Fr (cacheS q.gk q.mc x.qs) w w'∧∀ i,i<w.heap.size→cacheS q.gk q.mc qs' i→cacheS q.gk q.mc x.qs i:=by
 obtain⟨ao,co,hvo⟩:=own_any h.ord
 have hst:RSt w w q x N s d 0 x.qs:=⟨h,Fr.refl _ _,fun _ _ e=>e,Nat.le_refl _⟩
 obtain⟨ln,hln⟩:∃ ln,ln=x.vs.length:=⟨_,rfl⟩
 rw[List.length_map,←hln] at hvo
 obtain⟨_,_,_,c3,_⟩:=h.heads
 rw[hvo] at c3
 have HST:=zh hst
 have HVO:=zh hvo
 have HLN:=zh hln
 have HKE:=zh h.keys
 have HFL:=zh h.files
 have hlen2:x.qs.length+ln<1099511627775:=by rw[hln];exact hlen
 clear h hst hvo hln hlen
 go_enter func91,ntmps91
 go_wp2
 go_loopw [9] (fun i wr=>∃ (j:Nat) (qs:List CEnt),j≤ln∧i=.int .i64 j∧Hid (RSt w wr q x N s d j qs)) (fun i _=>ln-(intOf i).toNat)
 case atStart=>exact⟨0,x.qs,Nat.zero_le _,rfl,HST⟩
 case round=>
  obtain⟨j,qs,hj,rfl,HR⟩:=hrel
  by_cases hlt:j<ln
  ·have hjl:(j:Int)<(ln:Int):=by omega
   have hj0:(0:Int)≤(j:Int):=by omega
   obtain⟨y,hy⟩:∃ y,x.vs[j]?=some y:=⟨_,List.getElem?_eq_getElem (by rw[←HLN.o];exact hlt)⟩
   obtain⟨_,_,hve,_,hcell⟩:=ownsRow_cells HR.o.is.ord
   have hg:((x.vs.map (·.key)).map Value.string)[j]?=some (.string y.key):=by rw[List.getElem?_map,List.getElem?_map,hy];rfl
   obtain⟨b,off,hbo,d1⟩:=hcell _ _ hg
   dsimp only at hve
   rw[HVO.o] at hve
   simp only[Value.slice.injEq] at hve
   have hae:=hve.1.trans hbo
   clear hve hbo hcell hg
   subst hae
   have hym:=List.mem_of_getElem? hy
   have hys:=HR.o.is.small y hym
   have hyv:=HR.o.is.vals y hym
   obtain⟨av,nv,cv,hval⟩:=ownB_any hyv.1
   have hfg:=fget_at HKE.o hy
   obtain⟨e0,e1,e2,e3,e4,e5,_⟩:=HR.o.is.heads
   have hlk:=HR.o.is.km.run_look (t:=248) (e:=94) underlying9 underlying248 (z:=.slice none 0 0) rfl y.key hys hfg
   have hlk2:=(HR.o.is.km.same (w':=wr.drew) rfl).run_look (t:=248) (e:=94) underlying9 underlying248 (z:=.slice none 0 0) rfl y.key hys hfg
   rw[hval] at hlk hlk2 hyv
   have hql:qs.length<maxLen:=by have:=HR.o.len;unfold maxLen;omega
   have hcall:=cput_any wr.drew q.gk q.mc _ qs y.key av nv cv y.data (HR.o.is.cache.fr (S:=fun _=>False) (Fr.ofBelow (below_drew wr)) (fun _ _=>id) (fun _ _ _ _=>id)) (OwnB.below hyv (below_drew wr)) hys hql
   have CALL:=zh hcall
   have HY:=zh hy
   clear hcall hy hym hys hyv hval hfg hql
   go_upto_region 3 with fail
   go_still_tail 14,(by kernel_rfl)
   change wpList _ _ _ _ _ wr.drew
   go_wp2_with (go_at_call 145;refine CALL.o.mono ?_;rintro e w1 ⟨rfl,qs1,hc1,hl1,hf1,hs1⟩;have HC1:=zh hc1;have HL1:=zh hl1;have HF1:=zh hf1;have HS1:=zh hs1;clear hc1 hl1 hf1 hs1)
   go_roundw
   case rel=>exact⟨j+1,qs1,by omega,by go_num,zh (rst_next HR.o HY.o HC1.o HL1.o ((Fr.ofBelow (below_drew wr)).trans HF1.o) HS1.o)⟩
   case measure=>simp[intOf];omega
  ·have hjl:¬ (j:Int)<(ln:Int):=by omega
   have hje:j=ln:=by omega
   have HJ:=zh hje
   clear hje
   go_wp2
   refine bodyPost_end (results_none rfl _ _ _) rfl ⟨rfl,qs,?_,HR.o.fr,HR.o.sub⟩
   have:=HR.o.is
   rw[List.take_of_length_le (by rw[HFL.o,List.length_map,←HLN.o,HJ.o];exact Nat.le_refl _)] at this
   exact this
end
end
section
abbrev muLink:Go.Conc.Locks.MuLink:={ lock:=83,unlock:=84,ilock:=138,iunlock:=139,lockSlow:=179,unlockSlow:=182,disable:=175,enable:=177,acquire:=178,relMerge:=180,cas32:=176,add32:=181,tMutex:=175,tIMutex:=173,tPMutex:=247,tPIMutex:=296,tPI32:=298,tUP:=228,tNoCopy:=170,tU32:=171 }
theorem muLib:Go.Conc.Locks.MuLib prog muLink:=
 ⟨func83,func84,func138,func139,func175,func177,func178,func180,func176,func181,
 underlying173,runUnderlying173,sizeOf173,isAgg173,zeroValue173,underlying175,runUnderlying175,sizeOf175,isAgg175,zeroValue175,underlying247,runUnderlying247,sizeOf247,isAgg247,zeroValue247,underlying296,runUnderlying296,sizeOf296,isAgg296,zeroValue296,underlying298,runUnderlying298,sizeOf298,isAgg298,zeroValue298,underlying228,runUnderlying228,sizeOf228,isAgg228,zeroValue228,underlying170,runUnderlying170,sizeOf170,isAgg170,zeroValue170,underlying21,runUnderlying21,sizeOf21,isAgg21,zeroValue21,(by kernel_rfl)⟩
end
section
def cutR (r:List (List UInt8)) (j w:Nat):List UInt8:=((r.drop (4*j)).take w).flatten
def TileOk (es:List (List UInt8)) (p:ByteArray) (b:List UInt8):Prop:=
 ∃ (m j w:Nat) (r:List (List UInt8)),(rowsOf es)[m]?=some r∧1≤w∧w≤4∧4*j+w≤r.length∧p=tileName ((m:Int)-1) j w∧b=cutR r j w
theorem tile_ok {es:List (List UInt8)} (hl:es.length≤1048576) {m j w:Nat} {r:List (List UInt8)} (hr:(rowsOf es)[m]?=some r) (h1:1≤w) (h4:w≤4) (hj:4*j+w≤r.length):nameOk ((m:Int)-1) j w∧(j:Int)<9223372036854775808:=by
 obtain⟨a1,a2,a3⟩:=rowsOf_small hl
 have hn:=(List.getElem?_eq_some_iff.1 hr).1
 have hlr:=a3 r (List.mem_of_getElem? hr)
 unfold nameOk
 omega
theorem tile_one {es:List (List UInt8)} (hl:es.length≤1048576) {m j w:Nat} {r:List (List UInt8)} (hr:(rowsOf es)[m]?=some r) (h1:1≤w) (h4:w≤4) (hj:4*j+w≤r.length) {b:List UInt8} (h:TileOk es (tileName ((m:Int)-1) j w) b):b=cutR r j w:=by
 obtain⟨m',j',w',r',k1,k2,k3,k4,k5,rfl⟩:=h
 have a:=tile_ok hl hr h1 h4 hj
 have c:=tile_ok hl k1 k2 k3 k4
 have e:=nameOf_inj a.1 c.1 a.2 c.2 (sOf_inj k5)
 obtain rfl:m=m':=by omega
 obtain rfl:j=j':=by omega
 obtain rfl:w=w':=by omega
 rw[hr] at k1
 cases k1
 rfl
def Steady (n:Nt):Prop:=∀ l∈n.lies,l.times≤0
theorem liveAt_steady {n n':Nt} (h:Steady n) (hl:n'.lies=n.lies) (p:ByteArray) (i:Nat):liveAt n' p i=liveAt n p i:=by
 unfold liveAt
 rw[hl]
 cases hi:n.lies[i]? with
 | none=>rfl
 | some l=>
  have h0:=h l (List.mem_of_getElem? hi)
  have:¬ 0<l.times:=by omega
  simp[this]
theorem lieFrom_steady {n n':Nt} (h:Steady n) (hl:n'.lies=n.lies) (p:ByteArray):∀ (k i:Nat),lieFrom n' p k i=lieFrom n p k i
 | 0,_=>rfl
 | k+1,i=>by rw[lieFrom,lieFrom,liveAt_steady h hl,lieFrom_steady h hl p k (i+1)]
theorem fetchA_steady {n n':Nt} (h:Steady n) (hl:n'.lies=n.lies) (hf:n'.files=n.files) (p:ByteArray):fetchA n' p=fetchA n p:=by
 unfold fetchA lieOf
 rw[hl,hf,lieFrom_steady h hl]
theorem fetchN_same (n:Nt) (q:ByteArray):(fetchN n q).lies=n.lies∧(fetchN n q).files=n.files∧(fetchN n q).fetches=n.fetches+1:=by
 unfold fetchN
 split <;> exact⟨rfl,rfl,rfl⟩
theorem fetchA_N {n:Nt} (h:Steady n) (q p:ByteArray):fetchA (fetchN n q) p=fetchA n p:=fetchA_steady h (fetchN_same n q).1 (fetchN_same n q).2.1 p
def fitsOf (m:Nat):FitsF:=if m=0 then fitsBun else fitsHash
structure NetTrue (es:List (List UInt8)) (n:Nt):Prop where
 steady:Steady n
 fits:∀ (m j w0 w:Nat) (r:List (List UInt8)) (data b:List UInt8),(rowsOf es)[m]?=some r→1≤w→w≤w0→w0≤4→4*j+w≤r.length→(w0=w∨w0=4)→fetchA n (tileName ((m:Int)-1) j w0)=some data→fitsOf m data w0 w=some b→b=cutR r j w
theorem NetTrue.next {es:List (List UInt8)} {n:Nt} (h:NetTrue es n) (q:ByteArray):NetTrue es (fetchN n q) where
 steady:=by rw[Steady,(fetchN_same n q).1];exact h.steady
 fits m j w0 w r data b h1 h2 h3 h4 h5 h6 h7 h8:=h.fits m j w0 w r data b h1 h2 h3 h4 h5 h6 (by rw[←fetchA_N h.steady q];exact h7) h8
def NetHas (es:List (List UInt8)) (N:Nat) (n:Nt):Prop:=
 ∀ (m j:Nat) (r:List (List UInt8)),(rowsOf (es.take N))[m]?=some r→4*j<r.length→fetchA n (tileName ((m:Int)-1) j (min 4 (r.length-4*j)))=some (cutR r j (min 4 (r.length-4*j)))
structure TrueQ (es:List (List UInt8)) (N:Nat) (av:Bool) (s:Cs):Prop where
 files:∀ x∈s.files,TileOk es x.1 x.2
 cache:∀ x∈s.cache.items,TileOk es x.1 x.2
 net:NetTrue es s.net
 has:av=true→NetHas es N s.net
theorem TrueQ.keep {es:List (List UInt8)} {N:Nat} {av:Bool} {s:Cs} (h:TrueQ es N av s) {p:ByteArray} {b:List UInt8} (hb:TileOk es p b):TrueQ es N av (keepQ p b s):=
 ⟨fun x hx=>by
  rcases List.mem_append.1 hx with h1|h1
  ·exact h.files x h1
  ·rw[List.mem_singleton.1 h1];exact hb,h.cache,h.net,h.has⟩
theorem TrueQ.fetched {es:List (List UInt8)} {N:Nat} {av:Bool} {s:Cs} (h:TrueQ es N av s) (q:ByteArray):TrueQ es N av (fetchedQ q s):=
 ⟨h.files,h.cache,h.net.next q,fun ha m j r h1 h2=>by
  show fetchA (fetchN s.net q) _=_
  rw[fetchA_N h.net.steady]
  exact h.has ha m j r h1 h2⟩
theorem kvGet_mem {l:List Kv} {p:ByteArray} {b:List UInt8} (h:kvGet l p=some b):(p,b)∈l:=by
 unfold kvGet at h
 obtain⟨x,hx,rfl⟩:=Option.map_eq_some_iff.1 h
 have h1:=List.find?_some hx
 have h2:=List.mem_of_find?_eq_some hx
 obtain rfl:x.1=p:=by simpa using h1
 exact h2
theorem cacheGet_mem {c:Cch} {p:ByteArray} {x:Kv} (h:x∈(cacheGet c p).items):x∈c.items:=by
 unfold cacheGet at h
 split at h
 ·rename_i v hv
  rcases List.mem_cons.1 h with h1|h1
  ·rw[h1];exact kvGet_mem hv
  ·exact (List.mem_filter.1 h1).1
 ·exact h
def Holds {α:Type} (I:Cs→Prop) (m:Qm α) (Q:α→Prop) (E:QErr→Prop):Prop:=∀ s,I s→I (m s).2∧(∀ a,(m s).1=.ok a→Q a)∧∀ e,(m s).1=.error e→E e
theorem Holds.pure {α:Type} {I:Cs→Prop} {Q:α→Prop} {E:QErr→Prop} {a:α} (h:Q a):Holds I (Qm.pure a) Q E:=fun s hs=>⟨hs,fun b hb=>by cases hb;exact h,fun e he=>by cases he⟩
theorem Holds.bind {α β:Type} {I:Cs→Prop} {m:Qm α} {f:α→Qm β} {Q:α→Prop} {R:β→Prop} {E:QErr→Prop} (h:Holds I m Q E) (k:∀ a,Q a→Holds I (f a) R E):Holds I (Qm.bind m f) R E:=fun s hs=>by
 obtain⟨h1,h2,h3⟩:=h s hs
 unfold Qm.bind
 cases hm:m s with
 | mk o s1=>
  rw[hm] at h1 h2 h3
  cases o with
  | ok a=>exact k a (h2 a rfl) s1 h1
  | error e=>exact⟨h1,fun a ha=>(by cases ha),fun e' he=>by cases he;exact h3 e rfl⟩
theorem Holds.mono {α:Type} {I:Cs→Prop} {m:Qm α} {Q R:α→Prop} {E:QErr→Prop} (h:Holds I m Q E) (k:∀ a,Q a→R a):Holds I m R E:=fun s hs=>⟨(h s hs).1,fun a ha=>k a ((h s hs).2.1 a ha),(h s hs).2.2⟩
def MissE (av:Bool) (e:QErr):Prop:=av=false∧∃ p,e=.miss p
theorem cutR_len {r:List (List UInt8)} {j w k:Nat} (h:4*j+w≤r.length) (hr:∀ x∈r,x.length=k):(cutR r j w).length=k*w:=by
 unfold cutR
 have:∀ (l:List (List UInt8)),(∀ x∈l,x.length=k)→l.flatten.length=k*l.length:=by
  intro l hl
  induction l with
  | nil=>simp
  | cons a l ih=>
   rw[List.flatten_cons,List.length_append,ih (fun x hx=>hl x (List.mem_cons_of_mem _ hx)),hl a List.mem_cons_self,List.length_cons,Nat.mul_add,Nat.mul_one]
   omega
 rw[this _ fun x hx=>hr x (List.mem_of_mem_drop (List.mem_of_mem_take hx)),List.length_take,List.length_drop,Nat.min_eq_left (by omega)]
theorem rows_take (es:List (List UInt8)) (N:Nat) {m:Nat} {r:List (List UInt8)} (h:(rowsOf (es.take N))[m]?=some r):∃ r0 s,(rowsOf es)[m]?=some r0∧r0=r++s:=by
 have key:∀ (k:Nat),(∃ r0 s,(rowsOf (es.take (N+k)))[m]?=some r0∧r0=r++s):=by
  intro k
  induction k with
  | zero=>exact⟨r,[],h,by simp⟩
  | succ k ih=>
   obtain⟨r0,s,h1,h2⟩:=ih
   rcases Nat.lt_or_ge (N+k) es.length with hlt|hge
   ·have e:es.take (N+(k+1))=es.take (N+k) ++ [es[N+k]]:=by rw[←Nat.add_assoc,List.take_succ_eq_append_getElem hlt]
    have hm:m<(rowsOf (es.take (N+k))).length:=(List.getElem?_eq_some_iff.1 h1).1
    have hm2:m<(rowsOf (es.take (N+k) ++ [es[N+k]])).length:=by
     rw[rowsOf_len] at hm ⊢
     have:=nLev_mono (es.take (N+k)).length
     rw[List.length_append,List.length_singleton]
     omega
    obtain⟨r1,s1,h3,h4⟩:=rows_prefix es[N+k] (List.getElem?_eq_getElem hm2) hm
    rw[h1] at h3
    cases h3
    rw[e]
    exact⟨_,s++s1,List.getElem?_eq_getElem hm2,by rw[h4,h2,List.append_assoc]⟩
   ·have e:es.take (N+(k+1))=es.take (N+k):=by rw[List.take_of_length_le (by omega),List.take_of_length_le (by omega)]
    rw[e]
    exact⟨r0,s,h1,h2⟩
 obtain⟨r0,s,h1,h2⟩:=key es.length
 rw[List.take_of_length_le (by omega)] at h1
 exact⟨r0,s,h1,h2⟩
theorem cutR_append {r s:List (List UInt8)} {j w:Nat} (h:4*j+w≤r.length):cutR (r++s) j w=cutR r j w:=by
 unfold cutR
 rw[List.drop_append_of_le_length (by omega),List.take_append_of_le_length (by simp;omega)]
theorem fetchQ_true {es:List (List UInt8)} (hl:es.length≤1048576) {N m j:Nat} {av:Bool} {r:List (List UInt8)} (hr:(rowsOf (es.take N))[m]?=some r) (hj:4*j<r.length) (hfit:∀ w,1≤w→w≤4→4*j+w≤r.length→fitsOf m (cutR r j w) w w=some (cutR r j w)) :
  Holds (TrueQ es N av) (fetchQ (fitsOf m) ((m:Int)-1) j (wideAt j r.length)) (fun b=>b=cutR r j (wideAt j r.length)) (MissE av):=by
 intro s hs
 obtain⟨r0,s0,hr0,he0⟩:=rows_take es N hr
 obtain⟨w,hw⟩:∃ w,w=wideAt j r.length:=⟨_,rfl⟩
 rw[←hw]
 have hw2:1≤w∧w≤4∧4*j+w≤r.length:=by unfold wideAt at hw;omega
 have hlr:4*j+w≤r0.length:=by rw[he0,List.length_append];omega
 have hcut:cutR r0 j w=cutR r j w:=by rw[he0];exact cutR_append hw2.2.2
 have tok:TileOk es (tileName ((m:Int)-1) j w) (cutR r j w):=⟨m,j,w,r0,hr0,hw2.1,hw2.2.1,hlr,rfl,hcut.symm⟩
 unfold fetchQ
 cases ht:tryQ (fitsOf m) (tileName ((m:Int)-1) j w) w w s with
 | some b=>
  have hb:b=cutR r j w:=by
   unfold tryQ at ht
   obtain⟨data,hd,hf⟩:=Option.bind_eq_some_iff.1 ht
   rw[←hcut]
   exact hs.net.fits m j w w r0 data b hr0 hw2.1 (Nat.le_refl _) hw2.2.1 hlr (.inl rfl) hd hf
  subst hb
  exact⟨(hs.fetched _).keep tok,fun a ha=>by cases ha;rfl,fun e he=>by cases he⟩
 | none=>
  have hav:av=false:=by
   cases hav:av with
   | false=>rfl
   | true=>
    exfalso
    have h1:=hs.has hav m j r hr hj
    rw[show min 4 (r.length-4*j)=w by rw[hw];rfl] at h1
    unfold tryQ at ht
    rw[h1,Option.bind_some,hfit w hw2.1 hw2.2.1 hw2.2.2] at ht
    cases ht
  by_cases h4:w=4
  ·dsimp only
   rw[if_pos h4]
   exact⟨hs.fetched _,fun a ha=>(by cases ha),fun e he=>by cases he;exact⟨hav,_,rfl⟩⟩
  ·dsimp only
   rw[if_neg h4]
   cases ht2:tryQ (fitsOf m) (tileName ((m:Int)-1) j 4) 4 w (fetchedQ (tileName ((m:Int)-1) j w) s) with
   | some b=>
    have hb:b=cutR r j w:=by
     unfold tryQ at ht2
     obtain⟨data,hd,hf⟩:=Option.bind_eq_some_iff.1 ht2
     rw[←hcut]
     exact (hs.fetched _).net.fits m j 4 w r0 data b hr0 hw2.1 hw2.2.1 (Nat.le_refl _) hlr (.inr rfl) hd hf
    subst hb
    exact⟨((hs.fetched _).fetched _).keep tok,fun a ha=>by cases ha;rfl,fun e he=>by cases he⟩
   | none=>exact⟨(hs.fetched _).fetched _,fun a ha=>(by cases ha),fun e he=>by cases he;exact⟨hav,_,rfl⟩⟩
theorem fileQ_true {es:List (List UInt8)} (hl:es.length≤1048576) {N m j:Nat} {av:Bool} {r:List (List UInt8)} (hr:(rowsOf (es.take N))[m]?=some r) (hj:4*j<r.length) (hfit:∀ w,1≤w→w≤4→4*j+w≤r.length→fitsOf m (cutR r j w) w w=some (cutR r j w)) :
  Holds (TrueQ es N av) (fileQ (fitsOf m) ((m:Int)-1) j r.length) (fun b=>b=cutR r j (wideAt j r.length)) (MissE av):=by
 intro s hs
 obtain⟨r0,s0,hr0,he0⟩:=rows_take es N hr
 obtain⟨w,hw⟩:∃ w,w=wideAt j r.length:=⟨_,rfl⟩
 have hw2:1≤w∧w≤4∧4*j+w≤r.length:=by unfold wideAt at hw;omega
 have hlr:4*j+w≤r0.length:=by rw[he0,List.length_append];omega
 have hcut:cutR r0 j w=cutR r j w:=by rw[he0];exact cutR_append hw2.2.2
 have tok:TileOk es (tileName ((m:Int)-1) j w) (cutR r j w):=⟨m,j,w,r0,hr0,hw2.1,hw2.2.1,hlr,rfl,hcut.symm⟩
 have hF:=fetchQ_true hl (av:=av) hr hj hfit s hs
 unfold fileQ
 rw[←hw] at hF ⊢
 cases h1:kvGet s.files (tileName ((m:Int)-1) j w) with
 | some b=>
  have hb:b=cutR r j w:=by rw[←hcut];exact tile_one hl hr0 hw2.1 hw2.2.1 hlr (hs.files _ (kvGet_mem h1))
  exact⟨hs,fun a ha=>by cases ha;exact hb,fun e he=>by cases he⟩
 | none=>
  dsimp only
  cases h2:kvGet s.cache.items (tileName ((m:Int)-1) j w) with
  | some b=>
   have hb:b=cutR r j w:=by rw[←hcut];exact tile_one hl hr0 hw2.1 hw2.2.1 hlr (hs.cache _ (kvGet_mem h2))
   subst hb
   have hs2:TrueQ es N av { s with cache:=cacheGet s.cache (tileName ((m:Int)-1) j w) }:=⟨hs.files,fun x hx=>hs.cache x (cacheGet_mem hx),hs.net,hs.has⟩
   exact⟨hs2.keep tok,fun a ha=>by cases ha;rfl,fun e he=>by cases he⟩
  | none=>exact hF
end
section
theorem eight_app (h:Hsh) (t:List UInt8):eightOf (h.toList++t)=h:=by
 have hl:h.toList.length=8:=by simp
 have hg:∀ i,i<8→(h.toList++t).getD i 0=h.toList.getD i 0:=fun i hi=>by
  rw[List.getD_eq_getElem?_getD,List.getD_eq_getElem?_getD,List.getElem?_append_left (by omega)]
 unfold eightOf
 rw[hg 0 (by decide),hg 1 (by decide),hg 2 (by decide),hg 3 (by decide),hg 4 (by decide),hg 5 (by decide),hg 6 (by decide),hg 7 (by decide)]
 apply Vector.ext
 intro i hi
 match i,hi with
 | 0,_=>simp[List.getD_eq_getElem?_getD]
 | 1,_=>simp[List.getD_eq_getElem?_getD]
 | 2,_=>simp[List.getD_eq_getElem?_getD]
 | 3,_=>simp[List.getD_eq_getElem?_getD]
 | 4,_=>simp[List.getD_eq_getElem?_getD]
 | 5,_=>simp[List.getD_eq_getElem?_getD]
 | 6,_=>simp[List.getD_eq_getElem?_getD]
 | 7,_=>simp[List.getD_eq_getElem?_getD]
theorem flat_drop {k:Nat}:∀ (l:List (List UInt8)) (q:Nat),(∀ x∈l,x.length=k)→l.flatten.drop (k*q)=(l.drop q).flatten
 | l,0,_=>by simp
 | [],q+1,_=>by simp
 | a :: l,q+1,h=>by
   rw[List.flatten_cons,List.drop_succ_cons,←flat_drop l q fun x hx=>h x (List.mem_cons_of_mem _ hx),Nat.mul_add,Nat.mul_one,Nat.add_comm,←List.drop_drop,List.drop_append_of_le_length (by rw[h a List.mem_cons_self];exact Nat.le_refl _)]
   rw[show List.drop k a = [] from List.drop_eq_nil_of_le (by rw[h a List.mem_cons_self];exact Nat.le_refl _),List.nil_append]
theorem hashAt_row {r:List Hsh} {j w q:Nat} (hq:q<w) (hw:4*j+w≤r.length):hashAt (cutR (r.map fun (h:Hsh)=>h.toList) j w) q=r.getD (4*j+q) zero8:=by
 unfold hashAt cutR
 have h8:∀ x∈((r.map fun (h:Hsh)=>h.toList).drop (4*j)).take w,x.length=8:=fun x hx=>by
  obtain⟨h,_,rfl⟩:=List.mem_map.1 (List.mem_of_mem_drop (List.mem_of_mem_take hx))
  simp
 rw[flat_drop _ q h8]
 have hl:q<(((r.map fun (h:Hsh)=>h.toList).drop (4*j)).take w).length:=by simp;omega
 rw[List.drop_eq_getElem_cons hl,List.flatten_cons]
 have hr:4*j+q<r.length:=by omega
 have e:(((r.map fun (h:Hsh)=>h.toList).drop (4*j)).take w)[q]=(r[4*j+q]).toList:=by simp
 rw[e,eight_app,List.getD_eq_getElem?_getD,List.getElem?_eq_getElem hr]
 rfl
section
variable {es:List (List UInt8)} {N:Nat} {av:Bool} (hl:es.length≤1048576) (hN:N≤es.length)
include hl hN
theorem evenQ_true {k index:Nat} (h:(index+1)*4 ^ k≤N):Holds (TrueQ es N av) (evenQ N (2*k) index) (fun a=>a=fullRoot (es.take N) (2*k) index) (MissE av):=by
 have hlen:(es.take N).length=N:=by rw[List.length_take,Nat.min_eq_left hN]
 have hp:0<4 ^ k:=Nat.pow_pos (by decide)
 have hlt:index<N / 4 ^ k:=(Nat.le_div_iff_mul_le hp).2 h
 have hk:k<nLev (es.take N).length:=by
  rw[nLev_iff,hlen]
  exact Nat.le_trans (Nat.le_mul_of_pos_left _ (by omega)) h
 have hr:=rowsOf_succ (es.take N) k hk
 have hlr:((levelRow (es.take N) k).map fun (x:Hsh)=>x.toList).length=N / 4 ^ k:=by rw[List.length_map,levelRow_len,hlen]
 have h8:∀ x∈(levelRow (es.take N) k).map (fun (x:Hsh)=>x.toList),x.length=8:=fun x hx=>by
  obtain⟨y,_,rfl⟩:=List.mem_map.1 hx
  simp
 have hfile:=fileQ_true hl (av:=av) hr (j:=index / 4) (by rw[hlr];omega) (fun w h1 h4 hw=>by
  have e:=cutR_len hw h8
  unfold fitsOf
  rw[if_neg (by omega)]
  unfold fitsHash
  rw[if_pos e,List.take_of_length_le (by omega)])
 rw[hlr] at hfile
 unfold evenQ
 rw[show 2*k / 2=k by omega,pow24]
 have hf:fitsOf (k+1)=fitsHash:=by unfold fitsOf;rw[if_neg (by omega)]
 rw[hf,show (((k+1:Nat):Int)-1)=((k:Nat):Int) by omega] at hfile
 refine hfile.bind fun b hb=>?_
 have hw:wideAt (index / 4) (N / 4 ^ k)=min 4 (N / 4 ^ k-4*(index / 4)):=rfl
 have hb2:b.length=8*wideAt (index / 4) (N / 4 ^ k):=by rw[hb];exact cutR_len (by rw[hlr,hw];omega) h8
 intro s hs
 unfold partQ
 rw[if_neg (by rw[hb2,hw];omega)]
 refine⟨hs,fun a ha=>?_,fun e he=>by cases he⟩
 cases ha
 rw[hb,hashAt_row (by rw[hw];omega) (by rw[levelRow_len,hlen,hw];omega),levelRow_get _ _ _ (by rw[hlen];omega)]
 congr 1
 omega
theorem fullQ_true {level index:Nat} (h:(index+1)*2 ^ level≤N):Holds (TrueQ es N av) (fullQ N level index) (fun a=>a=fullRoot (es.take N) level index) (MissE av):=by
 unfold fullQ
 by_cases ho:level%2=1
 ·rw[if_pos ho]
  obtain⟨k,rfl⟩:∃ k,level=2*k+1:=⟨level / 2,by omega⟩
  have hp:(index+1)*2 ^ (2*k+1)=(2*index+1+1)*4 ^ k:=by
   rw[Nat.pow_succ,pow24,Nat.mul_comm (4 ^ k) 2,←Nat.mul_assoc]
   congr 1
   omega
  rw[hp] at h
  have h2:(2*index+1)*4 ^ k≤N:=Nat.le_trans (Nat.mul_le_mul_right _ (by omega)) h
  rw[show 2*k+1-1=2*k by omega]
  refine (evenQ_true hl hN h2).bind fun a ha=>(evenQ_true hl hN h).bind fun b hb=>Holds.pure ?_
  rw[ha,hb]
  rfl
 ·rw[if_neg ho]
  obtain⟨k,rfl⟩:∃ k,level=2*k:=⟨level / 2,by omega⟩
  rw[pow24] at h
  exact evenQ_true hl hN h
theorem rootQ_true:∀ (f i n:Nat),n≤f→1≤n→i+n≤N→Holds (TrueQ es N av) (rootQ N f i n) (fun a=>a=rootOf (part (es.take N) i (i+n))) (MissE av)
 | 0,i,n,h0,h1,_=>by omega
 | f+1,i,n,h0,h1,h2=>by
  have hlen:(es.take N).length=N:=by rw[List.length_take,Nat.min_eq_left hN]
  rw[rootQ]
  by_cases hp:n &&& (n-1)=0∧i%n=0
  ·rw[if_pos hp]
   have hpw:=pow_of_and h1 (by omega) hp.1
   obtain⟨e,he⟩:∃ e,e=Lib.bitLen n-1:=⟨_,rfl⟩
   rw[←he] at hpw ⊢
   have he20:e≤62:=by
    rcases Nat.lt_or_ge 62 e with hlt|hge
    ·have:=Nat.pow_le_pow_right (n:=2) (by decide) hlt
     omega
    ·exact hge
   have hdiv:i / n*n=i:=by have:=Nat.div_add_mod i n;rw[hp.2] at this;rw[Nat.mul_comm];omega
   have hq:(i / n+1)*2 ^ e≤N:=by rw[←hpw,Nat.add_mul,hdiv];omega
   refine (fullQ_true hl hN hq).mono fun a ha=>?_
   rw[ha,fullRoot_eq _ _ _ he20 (by rw[hlen];exact hq),←hpw,hdiv]
   unfold part
   rw[show i+n-i=n by omega]
  ·rw[if_neg hp]
   have hn2:2≤n:=by
    rcases Nat.lt_or_ge n 2 with hlt|hge
    ·obtain rfl:n=1:=by omega
     exact absurd ⟨by decide,Nat.mod_one i⟩ hp
    ·exact hge
   have hb:=below_lt hn2
   refine (rootQ_true f i (below n) (by omega) (by omega) (by omega)).bind fun a ha=>(rootQ_true f (i+below n) (n-below n) (by omega) (by omega) (by omega)).bind fun b hb'=>Holds.pure ?_
   have hpl:(part (es.take N) i (i+n)).length=n:=by rw[part_len (by omega)];omega
   rw[rootOf_more (by omega),hpl,part_take (by omega),part_drop,ha,hb',show i+below n+(n-below n)=i+n by omega]
theorem gatherQ_true:∀ (rs:List (Nat×Nat)),(∀ x∈rs,x.1<x.2∧x.2≤N)→Holds (TrueQ es N av) (gatherQ N rs) (fun l=>l=rs.map fun x=>rootOf (part (es.take N) x.1 x.2)) (MissE av)
 | [],_=>Holds.pure rfl
 | x :: rs,h=>by
  obtain⟨h1,h2⟩:=h x List.mem_cons_self
  rw[gatherQ]
  refine (rootQ_true hl hN (x.2-x.1) x.1 (x.2-x.1) (Nat.le_refl _) (by omega) (by omega)).bind fun a ha=>(gatherQ_true rs fun y hy=>h y (List.mem_cons_of_mem _ hy)).bind fun l hl'=>Holds.pure ?_
  rw[ha,hl',show x.1+(x.2-x.1)=x.2 by omega]
  rfl
theorem part_all:part (es.take N) 0 N=es.take N:=by
 have:=hl
 unfold part
 rw[List.drop_zero,List.take_of_length_le (by simp;omega)]
theorem proofQ_true {m:Nat} (h1:1≤m) (h2:m≤N):Holds (TrueQ es N av) (proofQ m N) (fun l=>l=partOf m (es.take N) true) (MissE av):=by
 have hlen:(es.take N).length=N:=by rw[List.length_take,Nat.min_eq_left hN]
 refine (gatherQ_true hl hN _ fun x hx=>partR_mem N 0 N m (by omega) (by omega) h2 x (List.mem_reverse.1 hx)).mono fun l hl'=>?_
 rw[hl',partR_eq (es.take N) N 0 N m (by omega) (by omega) h2 (by omega),part_all hl hN]
 rfl
theorem readQ_true (hs20:∀ e∈es,e.length≤20) {i:Nat} (hi:i<N):Holds (TrueQ es N av) (readQ N i) (fun r=>r=((es.take N).getD i [],pathOf (es.take N) i)) (MissE av):=by
 have hlen:(es.take N).length=N:=by rw[List.length_take,Nat.min_eq_left hN]
 have hr:=rowsOf_zero (es.take N)
 have hlr:((es.take N).map encE).length=N:=by rw[List.length_map,hlen]
 have hsn:∀ e∈es.take N,e.length≤20:=fun e he=>hs20 e (List.mem_of_mem_take he)
 have hcut:∀ w,cutR ((es.take N).map encE) (i / 4) w=(((es.take N).drop (4*(i / 4))).take w).flatMap encE:=fun w=>by
  unfold cutR
  rw[←List.map_drop,←List.map_take,List.flatMap_def]
 have hun:∀ w,1≤w→w≤4→4*(i / 4)+w≤N→unbundleOf (cutR ((es.take N).map encE) (i / 4) w)=some (((es.take N).drop (4*(i / 4))).take w):=fun w h1 h4 hw=>by
  rw[hcut]
  have hll:(((es.take N).drop (4*(i / 4))).take w).length=w:=by rw[List.length_take,List.length_drop,hlen];omega
  refine unbundle_ok ?_ (by omega) (by omega) fun x hx=>hsn x (List.mem_of_mem_drop (List.mem_of_mem_take hx))
  have key:∀ l:List (List UInt8),(∀ x∈l,x.length≤20)→rawU (l.flatMap encE)=some l:=by
   intro l
   induction l with
   | nil=>intro _;rfl
   | cons a l ih=>
    intro h
    have ha:=h a List.mem_cons_self
    have h20:(UInt8.ofNat a.length).toNat=a.length:=by rw[UInt8.toNat_ofNat'];omega
    rw[List.flatMap_cons]
    show rawU (UInt8.ofNat a.length :: (a++l.flatMap encE))=_
    rw[rawU_cons,h20,if_pos (by simp),List.drop_left,List.take_left,ih fun x hx=>h x (List.mem_cons_of_mem _ hx)]
    rfl
  exact key _ fun x hx=>hsn x (List.mem_of_mem_drop (List.mem_of_mem_take hx))
 have hfile:=fileQ_true hl (av:=av) hr (j:=i / 4) (by rw[hlr];omega) (fun w h1 h4 hw=>by
  rw[hlr] at hw
  have hll:(((es.take N).drop (4*(i / 4))).take w).length=w:=by rw[List.length_take,List.length_drop,hlen];omega
  unfold fitsOf
  rw[if_pos rfl]
  unfold fitsBun
  rw[hun w h1 h4 hw,Option.bind_some,if_pos hll,List.take_of_length_le (by omega),bundle_some (by omega) (by omega) fun j l hjl=>hsn l (List.mem_of_mem_drop (List.mem_of_mem_take (List.mem_of_getElem? hjl))),hcut])
 rw[hlr] at hfile
 unfold readQ
 have hf:fitsOf 0=fitsBun:=by unfold fitsOf;rw[if_pos rfl]
 rw[hf,show (((0:Nat):Int)-1) = -1 by omega] at hfile
 refine hfile.bind fun b hb=>?_
 have hw:wideAt (i / 4) N=min 4 (N-4*(i / 4)):=rfl
 rw[hb,hun _ (by rw[hw];omega) (by rw[hw];omega) (by rw[hw];omega),Option.getD_some]
 have hge:(((es.take N).drop (4*(i / 4))).take (wideAt (i / 4) N))[i%4]?=some ((es.take N).getD i []):=by
  rw[List.getElem?_take_of_lt (by rw[hw];omega),List.getElem?_drop,show 4*(i / 4)+i%4=i by omega,List.getD_eq_getElem?_getD,List.getElem?_eq_getElem (by omega:i<(es.take N).length)]
  rfl
 rw[hge]
 refine (gatherQ_true hl hN _ fun x hx=>pathR_mem N 0 N i (by omega) (by omega) hi x (List.mem_reverse.1 hx)).bind fun p hp=>Holds.pure ?_
 rw[hp,pathR_eq (es.take N) N 0 N i (by omega) (by omega) hi (by omega),part_all hl hN]
 rfl
end
end
section
def evenT (n level index:Nat):List ByteArray:=[tileName ((level / 2:Nat):Int) (index / 4) (wideAt (index / 4) (n / 2 ^ level))]
def fullT (n level index:Nat):List ByteArray:=if level%2=1 then evenT n (level-1) (2*index)++evenT n (level-1) (2*index+1) else evenT n level index
def rootT (N:Nat):Nat→Nat→Nat→List ByteArray
 | 0,_,_=>[]
 | f+1,i,n=>if n &&& (n-1)=0∧i%n=0 then fullT N (Lib.bitLen n-1) (i / n) else rootT N f i (below n)++rootT N f (i+below n) (n-below n)
def gatherT (N:Nat) (rs:List (Nat×Nat)):List ByteArray:=rs.flatMap fun x=>rootT N (x.2-x.1) x.1 (x.2-x.1)
def bunT (N i:Nat):ByteArray:=tileName (-1) (i / 4) (wideAt (i / 4) N)
def readT (N i:Nat):List ByteArray:=bunT N i :: gatherT N (pathR N 0 N i).reverse
def Has1 (s:Cs) (p:ByteArray):Prop:=(kvGet s.files p).isSome=true∨(kvGet s.cache.items p).isSome=true
theorem kvGet_app (l k:List Kv) (p:ByteArray):kvGet (l++k) p=(kvGet l p).or (kvGet k p):=by
 unfold kvGet
 rw[List.find?_append]
 cases l.find? fun x=>decide (x.1=p) <;> rfl
theorem kvGet_one (p q:ByteArray) (b:List UInt8):kvGet [(p,b)] q=if p=q then some b else none:=by
 unfold kvGet
 rw[List.find?_cons]
 by_cases h:p=q
 ·simp[h]
 ·simp[h]
theorem kvGet_cons (p q:ByteArray) (b:List UInt8) (l:List Kv):kvGet ((p,b) :: l) q=if p=q then some b else kvGet l q:=by
 have:=kvGet_app [(p,b)] l q
 rw[List.singleton_append] at this
 rw[this,kvGet_one]
 split <;> rfl
theorem kvGet_drop (l:List Kv) (p q:ByteArray) (h:q≠p):kvGet (kvDrop l p) q=kvGet l q:=by
 unfold kvGet kvDrop
 rw[List.find?_filter]
 congr 1
 congr 1
 funext x
 by_cases hx:x.1=q
 ·simp[hx,h]
 ·simp[hx]
theorem kvGet_isSome {l:List Kv} {p:ByteArray}:(kvGet l p).isSome=true↔p∈l.map (·.1):=by
 unfold kvGet
 rw[Option.isSome_map,List.find?_isSome,List.mem_map]
 constructor
 ·rintro ⟨x,hx,he⟩;exact⟨x,hx,by simpa using he⟩
 ·rintro ⟨x,hx,he⟩;exact⟨x,hx,by simpa using he⟩
theorem cacheGet_keys (c:Cch) (p q:ByteArray):(kvGet (cacheGet c p).items q).isSome=(kvGet c.items q).isSome:=by
 unfold cacheGet
 split
 ·rename_i v hv
  show (kvGet ((p,v) :: kvDrop c.items p) q).isSome=_
  rw[kvGet_cons]
  by_cases h:p=q
  ·subst h;rw[if_pos rfl,hv]
  ·rw[if_neg h,kvGet_drop _ _ _ fun e=>h e.symm]
 ·rfl
def Calls0 {α:Type} (m:Qm α) (T:List ByteArray):Prop:=∀ s,(∀ p∈T,Has1 s p)→(m s).2.net=s.net∧∀ q,Has1 s q→Has1 (m s).2 q
theorem Calls0.pure {α:Type} (a:α):Calls0 (Qm.pure a) []:=fun s _=>⟨rfl,fun _ h=>h⟩
theorem Calls0.bind {α β:Type} {m:Qm α} {f:α→Qm β} {T U:List ByteArray} (h:Calls0 m T) (k:∀ a,Calls0 (f a) U):Calls0 (Qm.bind m f) (T++U):=fun s hs=>by
 obtain⟨h1,h2⟩:=h s fun p hp=>hs p (List.mem_append_left _ hp)
 unfold Qm.bind
 cases hm:m s with
 | mk o s1=>
  rw[hm] at h1 h2
  cases o with
  | ok a=>
   obtain⟨k1,k2⟩:=k a s1 fun p hp=>h2 p (hs p (List.mem_append_right _ hp))
   exact⟨k1.trans h1,fun q hq=>k2 q (h2 q hq)⟩
  | error e=>exact⟨h1,h2⟩
theorem fileQ_calls0 (fits:FitsF) (level:Int) (index count:Nat):Calls0 (fileQ fits level index count) [tileName level index (wideAt index count)]:=fun s hs=>by
 have h:=hs _ (List.mem_singleton.2 rfl)
 unfold fileQ
 cases h1:kvGet s.files (tileName level index (wideAt index count)) with
 | some b=>exact⟨rfl,fun q hq=>hq⟩
 | none=>
  dsimp only
  cases h2:kvGet s.cache.items (tileName level index (wideAt index count)) with
  | some b=>
   refine⟨rfl,fun q hq=>?_⟩
   rcases hq with hq|hq
   ·left
    show (kvGet (s.files++_) q).isSome=true
    rw[kvGet_app,Option.isSome_or,hq]
    rfl
   ·right
    show (kvGet (cacheGet s.cache _).items q).isSome=true
    rw[cacheGet_keys]
    exact hq
  | none=>
   rcases h with h|h
   ·rw[h1] at h;cases h
   ·rw[h2] at h;cases h
theorem partQ_calls0 (b:List UInt8) (k:Nat):Calls0 (partQ b k) []:=fun s _=>by
 unfold partQ
 split <;> exact⟨rfl,fun _ h=>h⟩
theorem evenQ_calls0 (n level index:Nat):Calls0 (evenQ n level index) (evenT n level index):=by
 have:=(fileQ_calls0 fitsHash ((level / 2:Nat):Int) (index / 4) (n / 2 ^ level)).bind fun b=>partQ_calls0 b (index%4)
 simpa [evenQ,evenT] using this
theorem fullQ_calls0 (n level index:Nat):Calls0 (fullQ n level index) (fullT n level index):=by
 unfold fullQ fullT
 split
 ·have:=(evenQ_calls0 n (level-1) (2*index)).bind fun a=>(evenQ_calls0 n (level-1) (2*index+1)).bind fun b=>Calls0.pure (nodeH a b)
  simpa using this
 ·exact evenQ_calls0 n level index
theorem rootQ_calls0 (N:Nat):∀ (f i n:Nat),Calls0 (rootQ N f i n) (rootT N f i n)
 | 0,_,_=>fun s _=>⟨rfl,fun _ h=>h⟩
 | f+1,i,n=>by
   rw[rootQ,rootT]
   split
   ·exact fullQ_calls0 _ _ _
   ·have:=(rootQ_calls0 N f i (below n)).bind fun a=>(rootQ_calls0 N f (i+below n) (n-below n)).bind fun b=>Calls0.pure (nodeH a b)
    simpa using this
theorem gatherQ_calls0 (N:Nat):∀ (rs:List (Nat×Nat)),Calls0 (gatherQ N rs) (gatherT N rs)
 | []=>Calls0.pure _
 | x :: rs=>by
   have:=(rootQ_calls0 N (x.2-x.1) x.1 (x.2-x.1)).bind fun h=>(gatherQ_calls0 N rs).bind fun l=>Calls0.pure (h :: l)
   rw[gatherQ]
   simpa [gatherT] using this
theorem readQ_calls0 (N i:Nat):Calls0 (readQ N i) (readT N i):=by
 have h2:∀ b,Calls0 (match ((unbundleOf b).getD [])[i%4]? with
  | none=>fun s=>(.error .panic,s)
  | some e=>Qm.bind (gatherQ N (pathR N 0 N i).reverse) fun p=>Qm.pure (e,p)) (gatherT N (pathR N 0 N i).reverse):=fun b=>by
  cases ((unbundleOf b).getD [])[i%4]? with
  | none=>exact fun s _=>⟨rfl,fun _ h=>h⟩
  | some e=>
   have:=(gatherQ_calls0 N (pathR N 0 N i).reverse).bind fun p=>Calls0.pure (e,p)
   simpa using this
 exact (fileQ_calls0 fitsBun (-1) (i / 4) N).bind h2
structure Grew (T:List ByteArray) (s s':Cs):Prop where
 keep:∀ p,(kvGet s.files p).isSome=true→(kvGet s'.files p).isSome=true
 only:∀ p,(kvGet s'.files p).isSome=true→(kvGet s.files p).isSome=true∨p∈T
 once:(s.files.map (·.1)).Nodup→(s'.files.map (·.1)).Nodup
 pre:∃ k,s'.files=s.files++k
 most:s'.cache.most=s.cache.most
 cache:∀ p,(kvGet s'.cache.items p).isSome=(kvGet s.cache.items p).isSome
 len:(s.cache.items.map (·.1)).Nodup→(s'.cache.items.map (·.1)).Nodup∧s'.cache.items.length=s.cache.items.length
 count:s.net.fetches≤s'.net.fetches
theorem Grew.refl (T:List ByteArray) (s:Cs):Grew T s s:=⟨fun _ h=>h,fun _ h=>.inl h,fun h=>h,⟨[],by simp⟩,rfl,fun _=>rfl,fun h=>⟨h,rfl⟩,Nat.le_refl _⟩
theorem Grew.trans {T U:List ByteArray} {a b c:Cs} (h:Grew T a b) (k:Grew U b c):Grew (T++U) a c where
 keep p hp:=k.keep p (h.keep p hp)
 only p hp:=by
  rcases k.only p hp with h1|h1
  ·exact (h.only p h1).imp id fun h2=>List.mem_append_left _ h2
  ·exact .inr (List.mem_append_right _ h1)
 once hn:=k.once (h.once hn)
 pre:=by
  obtain⟨x,hx⟩:=h.pre
  obtain⟨y,hy⟩:=k.pre
  exact⟨x++y,by rw[hy,hx,List.append_assoc]⟩
 most:=k.most.trans h.most
 cache p:=(k.cache p).trans (h.cache p)
 len hn:=⟨(k.len (h.len hn).1).1,(k.len (h.len hn).1).2.trans (h.len hn).2⟩
 count:=Nat.le_trans h.count k.count
theorem Grew.more {T T':List ByteArray} {s s':Cs} (h:Grew T s s') (ht:∀ p∈T,p∈T'):Grew T' s s':=⟨h.keep,fun p hp=>(h.only p hp).imp id (ht p),h.once,h.pre,h.most,h.cache,h.len,h.count⟩
def Asks {α:Type} (m:Qm α) (T:List ByteArray):Prop:=∀ s,Grew T s (m s).2∧∀ a,(m s).1=.ok a→∀ p∈T,(kvGet (m s).2.files p).isSome=true
theorem Asks.pure {α:Type} (a:α):Asks (Qm.pure a) []:=fun s=>⟨Grew.refl _ s,fun _ _ p hp=>by cases hp⟩
theorem Asks.bind {α β:Type} {m:Qm α} {f:α→Qm β} {T U:List ByteArray} (h:Asks m T) (k:∀ a,Asks (f a) U):Asks (Qm.bind m f) (T++U):=fun s=>by
 obtain⟨h1,h2⟩:=h s
 unfold Qm.bind
 cases hm:m s with
 | mk o s1=>
  rw[hm] at h1 h2
  cases o with
  | ok a=>
   obtain⟨k1,k2⟩:=k a s1
   refine⟨h1.trans k1,fun b hb p hp=>?_⟩
   rcases List.mem_append.1 hp with hp|hp
   ·exact k1.keep p (h2 a rfl p hp)
   ·exact k2 b hb p hp
  | error e=>exact⟨h1.more fun p hp=>List.mem_append_left _ hp,fun a ha=>by cases ha⟩
theorem grew_keep {T:List ByteArray} {s s1:Cs} {p:ByteArray} {b:List UInt8} (hp:p∈T) (hn:kvGet s.files p=none) (hf:s1.files=s.files) (hm:s1.cache.most=s.cache.most) (hc:∀ q,(kvGet s1.cache.items q).isSome=(kvGet s.cache.items q).isSome)
  (hl:(s.cache.items.map (·.1)).Nodup→(s1.cache.items.map (·.1)).Nodup∧s1.cache.items.length=s.cache.items.length) (hk:s.net.fetches≤s1.net.fetches):Grew T s (keepQ p b s1)∧(kvGet (keepQ p b s1).files p).isSome=true:=by
 have e:(keepQ p b s1).files=s.files ++ [(p,b)]:=by show s1.files++_=_;rw[hf]
 refine⟨⟨fun q hq=>?_,fun q hq=>?_,fun hd=>?_,⟨_,e⟩,hm,hc,hl,hk⟩,?_⟩
 ·rw[e,kvGet_app,Option.isSome_or,hq];rfl
 ·rw[e,kvGet_app,Option.isSome_or,Bool.or_eq_true] at hq
  rcases hq with hq|hq
  ·exact .inl hq
  ·rw[kvGet_one] at hq
   split at hq
   ·rename_i h;exact .inr (h ▸ hp)
   ·cases hq
 ·rw[e,List.map_append,List.nodup_append]
  refine⟨hd,by simp,fun a ha b' hb' e2=>?_⟩
  simp at hb'
  subst hb'
  subst e2
  have:=kvGet_isSome.2 ha
  rw[hn] at this
  cases this
 ·rw[e,kvGet_app,kvGet_one,if_pos rfl,Option.isSome_or];simp
theorem cacheGet_len {c:Cch} {p:ByteArray} (h:(c.items.map (·.1)).Nodup):((cacheGet c p).items.map (·.1)).Nodup∧(cacheGet c p).items.length=c.items.length:=by
 unfold cacheGet
 split
 ·rename_i v hv
  have hm:=kvGet_mem hv
  have key:∀ l:List Kv,(l.map (·.1)).Nodup→(p,v)∈l→((kvDrop l p).map (·.1)).Nodup∧(kvDrop l p).length+1=l.length∧p ∉ (kvDrop l p).map (·.1):=by
   intro l hl hml
   refine⟨?_,?_,?_⟩
   ·unfold kvDrop
    exact List.Nodup.sublist (List.Sublist.map _ List.filter_sublist) hl
   ·induction l with
    | nil=>cases hml
    | cons a l ih=>
     rw[List.map_cons,List.nodup_cons] at hl
     unfold kvDrop
     by_cases ha:a.1=p
     ·rw[List.filter_cons_of_neg (by simp[ha]),List.length_cons]
      have:l.filter (fun x=>!decide (x.1=p))=l:=by
       apply List.filter_eq_self.2
       intro x hx
       have hne:x.1≠p:=fun e=>hl.1 (by rw[ha,←e];exact List.mem_map_of_mem hx)
       simp[hne]
      rw[this]
     ·rw[List.filter_cons_of_pos (by simp[ha]),List.length_cons,List.length_cons]
      have:=ih hl.2 (by rcases List.mem_cons.1 hml with e|e;exact absurd (by rw[←e]) ha;exact e)
      unfold kvDrop at this
      omega
   ·intro hx
    obtain⟨x,hx,he⟩:=List.mem_map.1 hx
    unfold kvDrop at hx
    have:=(List.mem_filter.1 hx).2
    simp[he] at this
  obtain⟨k1,k2,k3⟩:=key c.items h hm
  refine⟨?_,?_⟩
  ·show (((p,v) :: kvDrop c.items p).map (·.1)).Nodup
   rw[List.map_cons,List.nodup_cons]
   exact⟨k3,k1⟩
  ·show ((p,v) :: kvDrop c.items p).length=_
   rw[List.length_cons]
   exact k2
 ·exact⟨h,rfl⟩
theorem fetched_grew (T:List ByteArray) (q:ByteArray) (s:Cs):Grew T s (fetchedQ q s):=⟨fun _ h=>h,fun _ h=>.inl h,fun h=>h,⟨[],by simp[fetchedQ]⟩,rfl,fun _=>rfl,fun h=>⟨h,rfl⟩,by show _≤(fetchN s.net q).fetches;rw[(fetchN_same _ _).2.2];omega⟩
theorem fileQ_asks (fits:FitsF) (level:Int) (index count:Nat):Asks (fileQ fits level index count) [tileName level index (wideAt index count)]:=fun s=>by
 unfold fileQ
 obtain⟨p,hp⟩:∃ p,p=tileName level index (wideAt index count):=⟨_,rfl⟩
 rw[←hp]
 have hpm:p ∈ [p]:=List.mem_singleton.2 rfl
 cases h1:kvGet s.files p with
 | some b=>
  refine⟨Grew.refl _ s,fun a ha q hq=>?_⟩
  rw[List.mem_singleton.1 hq]
  show (kvGet s.files p).isSome=true
  rw[h1]
  rfl
 | none=>
  dsimp only
  cases h2:kvGet s.cache.items p with
  | some b=>
   obtain⟨g1,g2⟩:=grew_keep (T:=[p]) (s:=s) (s1:={ s with cache:=cacheGet s.cache p }) (p:=p) (b:=b) hpm h1 rfl (by show (cacheGet s.cache p).most=_;unfold cacheGet;split <;> rfl) (fun q=>cacheGet_keys s.cache p q) cacheGet_len (Nat.le_refl _)
   exact⟨g1,fun a ha q hq=>by rw[List.mem_singleton.1 hq];exact g2⟩
  | none=>
   dsimp only
   unfold fetchQ
   rw[←hp]
   have hk1:s.net.fetches≤(fetchedQ p s).net.fetches:=(fetched_grew [] p s).count
   cases h3:tryQ fits p (wideAt index count) (wideAt index count) s with
   | some b=>
    obtain⟨g1,g2⟩:=grew_keep (T:=[p]) (s:=s) (s1:=fetchedQ p s) (p:=p) (b:=b) hpm h1 rfl rfl (fun _=>rfl) (fun h=>⟨h,rfl⟩) hk1
    exact⟨g1,fun a ha q hq=>by rw[List.mem_singleton.1 hq];exact g2⟩
   | none=>
    dsimp only
    split
    ·exact⟨fetched_grew _ _ _,fun a ha=>by cases ha⟩
    ·cases h4:tryQ fits (tileName level index 4) 4 (wideAt index count) (fetchedQ p s) with
     | some b=>
      obtain⟨g1,g2⟩:=grew_keep (T:=[p]) (s:=s) (s1:=fetchedQ (tileName level index 4) (fetchedQ p s)) (p:=p) (b:=b) hpm h1 rfl rfl (fun _=>rfl) (fun h=>⟨h,rfl⟩) (Nat.le_trans hk1 (fetched_grew [] _ _).count)
      exact⟨g1,fun a ha q hq=>by rw[List.mem_singleton.1 hq];exact g2⟩
     | none=>exact⟨((fetched_grew [p] p s).trans (fetched_grew [] _ _)).more (by simp),fun a ha=>by cases ha⟩
theorem partQ_asks (b:List UInt8) (k:Nat):Asks (partQ b k) []:=fun s=>by
 unfold partQ
 split <;> exact⟨Grew.refl _ s,fun _ _ p hp=>by cases hp⟩
theorem evenQ_asks (n level index:Nat):Asks (evenQ n level index) (evenT n level index):=by
 have:=(fileQ_asks fitsHash ((level / 2:Nat):Int) (index / 4) (n / 2 ^ level)).bind fun b=>partQ_asks b (index%4)
 simpa [evenQ,evenT] using this
theorem fullQ_asks (n level index:Nat):Asks (fullQ n level index) (fullT n level index):=by
 unfold fullQ fullT
 split
 ·have:=(evenQ_asks n (level-1) (2*index)).bind fun a=>(evenQ_asks n (level-1) (2*index+1)).bind fun b=>Asks.pure (nodeH a b)
  simpa using this
 ·exact evenQ_asks n level index
theorem rootQ_asks (N:Nat):∀ (f i n:Nat),Asks (rootQ N f i n) (rootT N f i n)
 | 0,_,_=>fun s=>⟨Grew.refl _ s,fun a ha=>by cases ha⟩
 | f+1,i,n=>by
   rw[rootQ,rootT]
   split
   ·exact fullQ_asks _ _ _
   ·have:=(rootQ_asks N f i (below n)).bind fun a=>(rootQ_asks N f (i+below n) (n-below n)).bind fun b=>Asks.pure (nodeH a b)
    simpa using this
theorem gatherQ_asks (N:Nat):∀ (rs:List (Nat×Nat)),Asks (gatherQ N rs) (gatherT N rs)
 | []=>Asks.pure _
 | x :: rs=>by
   have:=(rootQ_asks N (x.2-x.1) x.1 (x.2-x.1)).bind fun h=>(gatherQ_asks N rs).bind fun l=>Asks.pure (h :: l)
   rw[gatherQ]
   simpa [gatherT] using this
theorem readQ_asks (N i:Nat):Asks (readQ N i) (readT N i):=by
 have h2:∀ b,Asks (match ((unbundleOf b).getD [])[i%4]? with
  | none=>fun s=>(.error .panic,s)
  | some e=>Qm.bind (gatherQ N (pathR N 0 N i).reverse) fun p=>Qm.pure (e,p)) (gatherT N (pathR N 0 N i).reverse):=fun b=>by
  cases ((unbundleOf b).getD [])[i%4]? with
  | none=>exact fun s=>⟨Grew.refl _ s,fun a ha=>by cases ha⟩
  | some e=>
   have:=(gatherQ_asks N (pathR N 0 N i).reverse).bind fun p=>Asks.pure (e,p)
   simpa using this
 exact (fileQ_asks fitsBun (-1) (i / 4) N).bind h2
end
section
structure CacheOk (c:Cch):Prop where
 once:(c.items.map (·.1)).Nodup
 len:c.items.length≤c.most
theorem put_most (c:Cch) (p:ByteArray) (v:List UInt8):(cachePut c p v).most=c.most:=by
 unfold cachePut
 split
 ·rfl
 ·split
  ·rfl
  ·split <;> rfl
theorem remember_most:∀ (xs:List Kv) (c:Cch),(rememberQ c xs).most=c.most
 | [],_=>rfl
 | x :: xs,c=>by rw[rememberQ,remember_most xs,put_most]
theorem drop_keys (l:List Kv) (p:ByteArray):(kvDrop l p).map (·.1)=(l.map (·.1)).filter fun q=>!decide (q=p):=by
 unfold kvDrop
 rw[List.filter_map]
 rfl
theorem put_mem {c:Cch} {p:ByteArray} {v:List UInt8} {x:Kv} (h:x∈(cachePut c p v).items):x∈c.items∨x=(p,v):=by
 unfold cachePut at h
 split at h
 ·exact .inl h
 ·split at h
  ·rcases List.mem_cons.1 h with h|h
   ·exact .inr h
   ·exact .inl (List.mem_filter.1 h).1
  ·split at h
   ·rcases List.mem_cons.1 h with h|h
    ·exact .inr h
    ·exact .inl ((List.dropLast_sublist _).mem h)
   ·rcases List.mem_cons.1 h with h|h
    ·exact .inr h
    ·exact .inl h
theorem remember_mem:∀ (xs:List Kv) (c:Cch) (x:Kv),x∈(rememberQ c xs).items→x∈c.items∨x∈xs
 | [],_,_,h=>.inl h
 | y :: xs,c,x,h=>by
   rw[rememberQ] at h
   rcases remember_mem xs _ x h with h|h
   ·rcases put_mem h with h|h
    ·exact .inl h
    ·exact .inr (by rw[h];exact List.mem_cons_self)
   ·exact .inr (List.mem_cons_of_mem _ h)
theorem put_ok {c:Cch} (h:CacheOk c) (p:ByteArray) (v:List UInt8):CacheOk (cachePut c p v):=by
 unfold cachePut
 split
 ·exact h
 ·rename_i h0
  split
  ·rename_i hs
   have hm:=kvGet_isSome.1 hs
   have hlen:(kvDrop c.items p).length<c.items.length:=by
    unfold kvDrop
    obtain⟨x,hx,he⟩:=List.mem_map.1 hm
    refine Nat.lt_of_le_of_ne (List.length_filter_le _ _) ?_
    intro e
    have:=List.length_filter_eq_length_iff.1 e x hx
    simp[he] at this
   refine⟨?_,?_⟩
   ·show (((p,v) :: kvDrop c.items p).map (·.1)).Nodup
    rw[List.map_cons,List.nodup_cons,drop_keys]
    refine⟨fun hx=>?_,h.once.filter _⟩
    have:=(List.mem_filter.1 hx).2
    simp at this
   ·show ((p,v) :: kvDrop c.items p).length≤c.most
    have:=h.len
    rw[List.length_cons]
    omega
  ·rename_i hs
   have hm:p ∉ c.items.map (·.1):=fun hm=>hs (kvGet_isSome.2 hm)
   split
   ·rename_i hl
    refine⟨?_,?_⟩
    ·show (((p,v) :: c.items.dropLast).map (·.1)).Nodup
     rw[List.map_cons,List.nodup_cons]
     refine⟨fun hx=>?_,?_⟩
     ·obtain⟨x,hx,he⟩:=List.mem_map.1 hx
      exact hm (List.mem_map.2 ⟨x,(List.dropLast_sublist _).mem hx,he⟩)
     ·exact List.Nodup.sublist (List.Sublist.map _ (List.dropLast_sublist _)) h.once
    ·show ((p,v) :: c.items.dropLast).length≤c.most
     rw[List.length_cons,List.length_dropLast]
     omega
   ·rename_i hl
    refine⟨?_,?_⟩
    ·show (((p,v) :: c.items).map (·.1)).Nodup
     rw[List.map_cons,List.nodup_cons]
     exact⟨hm,h.once⟩
    ·show ((p,v) :: c.items).length≤c.most
     have:=h.len
     rw[List.length_cons]
     omega
theorem remember_ok:∀ (xs:List Kv) (c:Cch),CacheOk c→CacheOk (rememberQ c xs)
 | [],_,h=>h
 | x :: xs,c,h=>remember_ok xs _ (put_ok h x.1 x.2)
theorem put_front {c:Cch} {front:List ByteArray} {p:ByteArray} (v:List UInt8) (h:front <+: c.items.map (·.1)) (hp:p ∉ front) (hl:front.length+1≤c.most):p :: front <+: (cachePut c p v).items.map (·.1):=by
 unfold cachePut
 rw[if_neg (by omega)]
 split
 ·show _ <+: ((p,v) :: kvDrop c.items p).map (·.1)
  rw[List.map_cons,drop_keys]
  obtain⟨t,ht⟩:=h
  rw[←ht,List.filter_append]
  have:front.filter (fun q=>!decide (q=p))=front:=List.filter_eq_self.2 fun q hq=>by
   have:q≠p:=fun e=>hp (e ▸ hq)
   simp[this]
  rw[this]
  exact⟨_,rfl⟩
 ·split
  ·rename_i hl2
   show _ <+: ((p,v) :: c.items.dropLast).map (·.1)
   rw[List.map_cons,List.map_dropLast]
   obtain⟨t,ht⟩:=h
   rw[←ht]
   have hlen:front.length+t.length=c.most:=by
    have:=congrArg List.length ht
    rw[List.length_append,List.length_map,hl2] at this
    exact this
   have htn:t≠[]:=fun e=>by rw[e] at hlen;simp at hlen;omega
   rw[List.dropLast_append_of_ne_nil htn]
   exact⟨_,rfl⟩
  ·show _ <+: ((p,v) :: c.items).map (·.1)
   rw[List.map_cons]
   obtain⟨t,ht⟩:=h
   rw[←ht]
   exact⟨_,rfl⟩
theorem remember_front:∀ (xs:List Kv) (c:Cch) (front:List ByteArray),front <+: c.items.map (·.1)→(xs.map (·.1)).Nodup→(∀ x∈xs,x.1 ∉ front)→front.length+xs.length≤c.most→(xs.map (·.1)).reverse++front <+: (rememberQ c xs).items.map (·.1)
 | [],c,front,h,_,_,_=>by simpa [rememberQ] using h
 | x :: xs,c,front,h,hn,hd,hl=>by
   rw[List.map_cons,List.nodup_cons] at hn
   rw[List.length_cons] at hl
   have h1:=put_front x.2 h (hd x List.mem_cons_self) (by omega)
   have:=remember_front xs (cachePut c x.1 x.2) (x.1 :: front) h1 hn.2 (fun y hy hm=>by
    rcases List.mem_cons.1 hm with e|e
    ·exact hn.1 (by rw[←e];exact List.mem_map_of_mem hy)
    ·exact hd y (List.mem_cons_of_mem _ hy) e) (by rw[put_most,List.length_cons];omega)
   rw[rememberQ,List.map_cons,List.reverse_cons,List.append_assoc]
   exact this
theorem remember_all {xs:List Kv} {c:Cch} (hn:(xs.map (·.1)).Nodup) (hl:xs.length≤c.most) {p:ByteArray} (hp:(kvGet xs p).isSome=true):(kvGet (rememberQ c xs).items p).isSome=true:=by
 have h:=remember_front xs c [] ⟨_,rfl⟩ hn (fun _ _ h=>by cases h) (by simpa using hl)
 rw[kvGet_isSome] at hp ⊢
 exact h.subset (List.mem_append_left _ (List.mem_reverse.2 hp))
theorem remember_none:∀ (xs:List Kv) (c:Cch),c.most=0→rememberQ c xs=c
 | [],_,_=>rfl
 | x :: xs,c,h=>by
   have e:cachePut c x.1 x.2=c:=by unfold cachePut;rw[if_pos h]
   rw[rememberQ,e,remember_none xs c h]
theorem put_one {c:Cch} (h:CacheOk c) (hm:c.most=1) (p:ByteArray) (v:List UInt8):(cachePut c p v).items = [(p,v)]:=by
 have hl:=h.len
 unfold cachePut
 rw[if_neg (by omega)]
 split
 ·rename_i hs
  show (p,v) :: kvDrop c.items p=_
  have hk:=kvGet_isSome.1 hs
  match hi:c.items,hl,hk with
  | [],_,hk=>simp at hk
  | [x],_,hk=>
   simp at hk
   unfold kvDrop
   simp[←hk]
  | _ :: _ :: _,hl,_=>simp at hl;omega
 ·split
  ·show (p,v) :: c.items.dropLast=_
   rename_i h1
   rw[hm] at h1
   have:=List.length_dropLast (xs:=c.items)
   rw[h1] at this
   rw[List.eq_nil_of_length_eq_zero this]
  ·rename_i h1
   show (p,v) :: c.items=_
   rw[List.eq_nil_of_length_eq_zero (by omega:c.items.length=0)]
theorem remember_one:∀ (xs:List Kv) (c:Cch) (x:Kv),CacheOk c→c.most=1→(rememberQ c (xs ++ [x])).items = [x]
 | [],c,x,h,hm=>by
   show (cachePut c x.1 x.2).items=_
   rw[put_one h hm]
 | y :: xs,c,x,h,hm=>by
   rw[List.cons_append,rememberQ]
   exact remember_one xs _ x (put_ok h _ _) (by rw[put_most,hm])
theorem fileQ_counts {fits:FitsF} {level:Int} {index count:Nat} {s:Cs} (h1:kvGet s.files (tileName level index (wideAt index count))=none) (h2:kvGet s.cache.items (tileName level index (wideAt index count))=none):s.net.fetches<(fileQ fits level index count s).2.net.fetches:=by
 have hk:∀ q s,s.net.fetches+1=(fetchedQ q s).net.fetches:=fun q s=>(fetchN_same s.net q).2.2.symm
 unfold fileQ
 rw[h1,h2]
 dsimp only
 unfold fetchQ
 split
 ·have:=hk (tileName level index (wideAt index count)) s
  show _<(fetchedQ _ s).net.fetches
  omega
 ·split
  ·have:=hk (tileName level index (wideAt index count)) s
   show _<(fetchedQ _ s).net.fetches
   omega
  ·have h3:=hk (tileName level index (wideAt index count)) s
   have h4:=hk (tileName level index 4) (fetchedQ (tileName level index (wideAt index count)) s)
   split
   ·show _<(fetchedQ _ (fetchedQ _ s)).net.fetches
    omega
   ·show _<(fetchedQ _ (fetchedQ _ s)).net.fetches
    omega
theorem bind_counts {α β:Type} {m:Qm α} {f:α→Qm β} {T:List ByteArray} {s:Cs} (h:s.net.fetches<(m s).2.net.fetches) (k:∀ a,Asks (f a) T):s.net.fetches<(Qm.bind m f s).2.net.fetches:=by
 unfold Qm.bind
 cases hm:m s with
 | mk o s1=>
  rw[hm] at h
  cases o with
  | ok a=>exact Nat.lt_of_lt_of_le h (k a s1).1.count
  | error e=>exact h
theorem readQ_tail (N i:Nat) (b:List UInt8):Asks (match ((unbundleOf b).getD [])[i%4]? with
  | none=>fun s=>(.error .panic,s)
  | some e=>Qm.bind (gatherQ N (pathR N 0 N i).reverse) fun p=>Qm.pure (e,p)) (gatherT N (pathR N 0 N i).reverse):=by
 cases ((unbundleOf b).getD [])[i%4]? with
 | none=>exact fun s=>⟨Grew.refl _ s,fun a ha=>by cases ha⟩
 | some e=>
  have:=(gatherQ_asks N (pathR N 0 N i).reverse).bind fun p=>Asks.pure (e,p)
  simpa using this
theorem readQ_counts {N i:Nat} {s:Cs} (h1:kvGet s.files (bunT N i)=none) (h2:kvGet s.cache.items (bunT N i)=none):s.net.fetches<(readQ N i s).2.net.fetches:=
 bind_counts (fileQ_counts h1 h2) fun b=>readQ_tail N i b
theorem readQ_first {N i:Nat} {s:Cs} {r:List UInt8×List Hsh} (hf:s.files = []) (h:(readQ N i s).1=.ok r):∃ b k,(readQ N i s).2.files=(bunT N i,b) :: k:=by
 obtain⟨g,ga⟩:=fileQ_asks fitsBun (-1) (i / 4) N s
 unfold readQ at h ⊢
 unfold Qm.bind at h ⊢
 cases hm:fileQ fitsBun (-1) (i / 4) N s with
 | mk o s1=>
  rw[hm] at h g ga
  cases o with
  | error e=>cases h
  | ok a=>
   have h1:=ga a rfl _ (List.mem_singleton.2 rfl)
   obtain⟨k1,hk1⟩:=g.pre
   rw[hf,List.nil_append] at hk1
   have hone:∀ p,(kvGet k1 p).isSome=true→p=bunT N i:=fun p hp=>by
    rcases g.only p (by show (kvGet s1.files p).isSome=true;rw[hk1];exact hp) with h3|h3
    ·rw[hf] at h3;cases h3
    ·exact List.mem_singleton.1 h3
   obtain⟨k2,hk2⟩:=(readQ_tail N i a s1).1.pre
   show ∃ b k,(_:Except QErr _×Cs).2.files=_
   have e2:∀ o:Except QErr (List UInt8×List Hsh)×Cs,o.2.files=s1.files++k2→∃ b k,o.2.files=(bunT N i,b) :: k:=fun o ho=>by
    rw[ho,hk1]
    cases k1 with
    | nil=>rw[show (_:Cs).files=_ from hk1] at h1;cases h1
    | cons x k1=>
     have hx:=hone x.1 (by rw[kvGet_isSome];simp)
     exact⟨x.2,k1++k2,by rw[List.cons_append,←hx]⟩
   exact e2 _ hk2
theorem tile_not_bun {k index w j w':Nat} (h:nameOk (-1) j w'):tileName ((k:Nat):Int) index w≠tileName (-1) j w':=fun e=>by
 have e2:nameOf ((k:Nat):Int) index w=nameOf (-1) j w':=sOf_inj e
 rw[nameOf_body h] at e2
 unfold nameOf at e2
 split at e2
 ·have e3:nameBody ((k:Nat):Int) index w=kT++(dec k ++ [47]++dec index++(if (w:Int)<4 then kP++dec w else [])):=by
   unfold nameBody
   rw[if_pos (Int.natCast_nonneg k)]
   simp
  have e4:nameBody (-1) (j:Int) (w':Int)=kE++(dec j++(if (w':Int)<4 then kP++dec w' else [])):=by
   unfold nameBody
   rw[if_neg (by decide)]
   simp
  rw[e3,e4] at e2
  simp[kT,kE] at e2
 ·unfold nameBody at e2
  rw[if_neg (by decide)] at e2
  simp[kE] at e2
theorem rootT_some (N:Nat):∀ (f i n:Nat),n≤f→1≤n→∃ (k j w:Nat),tileName ((k:Nat):Int) j w∈rootT N f i n
 | 0,i,n,h,h1=>by omega
 | f+1,i,n,h,h1=>by
   rw[rootT]
   split
   ·unfold fullT
    split
    ·exact⟨_,_,_,List.mem_append_left _ (List.mem_singleton.2 rfl)⟩
    ·exact⟨_,_,_,List.mem_singleton.2 rfl⟩
   ·rename_i hp
    have hn2:2≤n:=by
     rcases Nat.lt_or_ge n 2 with hlt|hge
     ·obtain rfl:n=1:=by omega
      exact absurd ⟨by decide,Nat.mod_one i⟩ hp
     ·exact hge
    have hb:=below_lt hn2
    obtain⟨k,j,w,hm⟩:=rootT_some N f i (below n) (by omega) (by omega)
    exact⟨k,j,w,List.mem_append_left _ hm⟩
theorem gatherT_some {N i:Nat} (hN:2≤N) (hi:i<N):∃ (k j w:Nat),tileName ((k:Nat):Int) j w∈gatherT N (pathR N 0 N i).reverse:=by
 obtain⟨x,hx⟩:∃ x,x∈pathR N 0 N i:=by
  obtain⟨M,rfl⟩:∃ M,N=M+1:=⟨N-1,by omega⟩
  rw[pathR,if_neg (by omega)]
  split
  ·exact⟨_,List.mem_cons_self⟩
  ·exact⟨_,List.mem_cons_self⟩
 have h1:=pathR_mem N 0 N i (by omega) (by omega) hi x hx
 obtain⟨k,j,w,hm⟩:=rootT_some N (x.2-x.1) x.1 (x.2-x.1) (Nat.le_refl _) (by omega)
 exact⟨k,j,w,List.mem_flatMap.2 ⟨x,List.mem_reverse.2 hx,hm⟩⟩
theorem again {N i:Nat} {net:Nt} {c:Cch} {r:List UInt8×List Hsh} (hc:CacheOk c) (hN:N≤1048576) (hi:i<N) (h:(readQ N i (askQ net c)).1=.ok r) :
  let s1:=(readQ N i (askQ net c)).2
  let s2:=(readQ N i (askQ s1.net (rememberQ s1.cache s1.files))).2
  CacheOk (rememberQ s1.cache s1.files)∧(s1.files.length≤c.most→s2.net=s1.net)∧(c.most=0→s1.net.fetches<s2.net.fetches)∧(c.most≤1→2≤N→s1.net.fetches<s2.net.fetches):=by
 intro s1 s2
 obtain⟨g,ga⟩:=readQ_asks N i (askQ net c)
 have hok:CacheOk s1.cache:=⟨(g.len hc.once).1,by
  show s1.cache.items.length≤s1.cache.most
  rw[(g.len hc.once).2,g.most]
  exact hc.len⟩
 have hm:s1.cache.most=c.most:=g.most
 have hb:nameOk (-1) ((i / 4:Nat):Int) ((wideAt (i / 4) N:Nat):Int):=by unfold nameOk wideAt;omega
 have zero:c.most=0→s1.net.fetches<s2.net.fetches:=fun h0=>by
  refine readQ_counts (s:=askQ s1.net (rememberQ s1.cache s1.files)) rfl ?_
  show kvGet (rememberQ s1.cache s1.files).items _=none
  rw[remember_none _ _ (by rw[hm,h0])]
  have:=hok.len
  rw[hm,h0] at this
  rw[List.eq_nil_of_length_eq_zero (by omega:s1.cache.items.length=0)]
  rfl
 refine⟨remember_ok _ _ hok,fun hl=>?_,zero,fun h1 h2=>?_⟩
 ·refine (readQ_calls0 N i (askQ s1.net (rememberQ s1.cache s1.files)) fun p hp=>.inr ?_).1
  exact remember_all (g.once (by simp[askQ])) (by rw[hm];exact hl) (ga r h p hp)
 ·rcases Nat.eq_zero_or_pos c.most with h0|h0
  ·exact zero h0
  ·have hm1:s1.cache.most=1:=by omega
   refine readQ_counts (s:=askQ s1.net (rememberQ s1.cache s1.files)) rfl ?_
   show kvGet (rememberQ s1.cache s1.files).items _=none
   obtain⟨b,k,hk⟩:=readQ_first (s:=askQ net c) rfl h
   have hk':s1.files=(bunT N i,b) :: k:=hk
   have hnd:(s1.files.map (·.1)).Nodup:=g.once (by simp[askQ])
   obtain⟨tk,tj,tw,htm⟩:=gatherT_some h2 hi
   have hin:=kvGet_isSome.1 (ga r h _ (List.mem_cons_of_mem _ htm))
   have hin':tileName ((tk:Nat):Int) tj tw∈s1.files.map (·.1):=hin
   have hkn:k≠[]:=fun e=>by
    rw[hk',e] at hin'
    simp at hin'
    exact tile_not_bun hb hin'
   rw[hk'] at hnd ⊢
   rw[show (bunT N i,b) :: k=((bunT N i,b) :: k.dropLast) ++ [k.getLast hkn] by rw[List.cons_append,List.dropLast_concat_getLast hkn],remember_one _ _ _ hok hm1,kvGet_one_none]
   rw[List.map_cons,List.nodup_cons] at hnd
   intro e
   have e':(k.getLast hkn).1=bunT N i:=e
   exact hnd.1 (List.mem_map.2 ⟨_,List.getLast_mem hkn,e'⟩)
where
 kvGet_one_none {x:Kv} {q:ByteArray}:kvGet [x] q=none↔x.1≠q:=by
  have:=kvGet_one x.1 q x.2
  rw[show (x.1,x.2)=x from rfl] at this
  rw[this]
  split <;> simp_all
end
end Go.Proofs.YtefccfakhgdfbabGreatDoor
