/- The walk of tiles' look.full at odd levels; full at any. Conditions: the block is a question's; the part lies within its entries; no slice out of bounds. -/
import Derived.Test.YtefccfakhgdfbabGreatDoorSv16
set_option linter.unusedVariables false
set_option linter.unusedSimpArgs false
open Go.RowKit Go.Proofs.Tryz
set_option maxRecDepth 100000
set_option maxHeartbeats 4000000
namespace Go.Proofs.YtefccfakhgdfbabGreatDoor
section
section
variable [Inhabited OutT]
theorem info_str':(prog.info? 9).map (fun i=>(i.zero,i.size,i.bytes))=some (some (.string ⟨#[]⟩),1,16):=by have:=(inferInstance:Inhabited OutT);show _=_;kernel_rfl
theorem keep_any (w:World) (q:Qf) (x:Qv) (N:Nat) (s:Cs) (d:Dk) (h:QIs w q x N s d) (key:ByteArray) (a:Option Addr) (n c:Nat) (data:List UInt8) (hv:OwnB w 0 (.slice a n c) data) (hn:ffind x.vs key=none) (hs:key.size≤maxLen) (hlen:x.vs.length<1099511627775) :
  Calls prog 147 #[.pointer (some ⟨q.gq,0,none⟩),.string key,.slice a n c] w fun e w'=>e=.returned (.tuple #[])∧QStep w q x N d w' (keepQ key data s):=by
 obtain⟨c0,c1,c2,c3,_,_,c6⟩:=h.heads
 obtain⟨i0,hi0,hz0,hs0,hby0⟩:=info_parts info_str'
 have HI:=zh (⟨hi0,hz0,hs0,hby0⟩:_∧_∧_∧_)
 have hgq:q.gq<w.heap.size:=lt_of_heap h.look
 obtain⟨ao,co,hvo⟩:=own_any h.ord
 rw[hvo] at c3
 have hcg:fget x.vs key=none:=by unfold fget;rw[hn];rfl
 have H:=zh h
 have HV:=zh hv
 have HVO:=zh hvo
 have hmg:q.gq≠q.mq:=fun e=>by
  obtain⟨es,c,hb⟩:=km_obj h.km
  rw[←e,h.look] at hb;cases hb
 have hvl:(x.vs.map (·.key)).length=x.vs.length:=List.length_map _
 clear h hv hvo hi0 hz0 hs0 hby0
 go_enter func147,ntmps147
 go_upto_region 1 with (first|(at_mapUpdate;refine wpList_kmPut _ rfl _ _ _ 248 rfl 9 94 underlying9 underlying248 q.mq _ _ rfl H.o.km (by unfold maxLen;omega) key (.slice a n c) rfl hs rfl ?_;intro w1 hk1 hf1 hs1;have HK1:=zh hk1;have HF1:=zh hf1;have HS1:=zh hs1;clear hk1 hf1 hs1)|fail)
 have hl1:=HF1.o.heap H.o.look hmg
 have ho1:OwnStrs w1 0 x.vo (x.vs.map (·.key)):=ownsRow_fr H.o.ord HF1.o fun k hk e=>by
  obtain⟨es,cc,hb⟩:=km_obj H.o.km
  obtain⟨C,hC⟩:=ownBlock_type H.o.ord hk
  rw[e] at hC
  rw[hb] at hC
  cases hC
 obtain⟨ln,hln⟩:∃ ln,ln=x.vs.length:=⟨_,rfl⟩
 have hvo:x.vo=.slice ao ln co:=by rw[hln,←hvl];exact HVO.o
 have d3:w1.cell? ⟨q.gq,3,none⟩=some (.slice ao ln co):=by rw[←hvo];exact cell_heap hl1 3 rfl
 have dz:w1.frozen? ⟨q.gq,3,none⟩=false:=frozen_heap hl1 3
 have hgq1:q.gq<w1.heap.size:=lt_of_heap hl1
 have hoz:w1.ownsRow 0 9 1 (.slice ao ln co) ln ((x.vs.map (·.key)).map Value.string):=by
  have:=ho1
  unfold OwnStrs at this
  rw[hvl,←hln,hvo] at this
  exact this
 have hln2:ln+1≤1099511627776:=by omega
 have hqn:∀ k,x.vo.ownBlock=some k→k≠q.gq:=fun k hk e=>by
  obtain⟨C,hC⟩:=ownBlock_type H.o.ord hk
  exact heap_ne hC H.o.look (by decide) e
 have HQN:=zh hqn
 have HOZ:=zh hoz
 have HL1:=zh hl1
 have HVO2:=zh hvo
 have HLN:=zh hln
 clear ho1 hoz hl1 c0 c1 c2 c3 c6 hvo hln hqn hvl
 go_wp2_with (at_builtin;refine wpList_appM rfl _ _ _ rfl 0 9 i0 _ 1 16 underlying22 HI.o.1 HI.o.2.1 HI.o.2.2.1 HI.o.2.2.2 rfl (by decide) (by decide) (.slice ao ln co) ln _ rfl (ownsRow_below HOZ.o (below_alloc _ _)) ⟨w1.heap.size,0,none⟩ 1 1 [.string key] rfl rfl (by have:=cell_one_new w1 (.string key) 9;simpa using this) (by simp[Value.oneCell']) (by decide) hln2 (Nat.zero_le _) ?_;intro v' w2 g2 g3 g4 g5;have G2:=zh g2;have G3:=zh (Fr.ofGrown (S:=fun k=>x.vo.ownBlock=some k) g3 fun k _ e=>by rw[HVO2.o];exact e.symm ▸ rfl);have G4:=zh g4;obtain⟨gb,cpb,hvv,hgb⟩:=own_slice g2 g5;have hl2:=G3.o.heap (heap_alloc' HL1.o _) (fun e=>HQN.o _ e rfl);have e3:=cell_heap hl2 3 rfl;have ez:=frozen_heap hl2 3;have HL2:=zh hl2;subst hvv;clear g2 g3 g4 g5 hl2)
 have hF:Fr (lookS q x) w (w2.setCell ⟨q.gq,3,none⟩ (.slice (some ⟨gb,0,none⟩) (ln+1) cpb)):=
  (((HF1.o.weak fun _ _ e=>.inr (.inl e)).trans (Fr.ofBelow (below_alloc w1 (.cells #[.string key] 9)))).trans (G3.o.weak fun _ _ e=>.inr (.inr e))).trans ((Fr.set1 w2 q.gq 3 _).weak fun _ _ e=>.inl e)
 have hmo:∀ k,x.vo.ownBlock=some k→q.mq≠k:=fun k hk e=>by
  obtain⟨es,cc,hb⟩:=km_obj H.o.km
  obtain⟨C,hC⟩:=ownBlock_type H.o.ord hk
  rw[←e,hb] at hC
  cases hC
 have hk3:KmAt (w2.setCell ⟨q.gq,3,none⟩ (.slice (some ⟨gb,0,none⟩) (ln+1) cpb)) 9 q.mq (fun u=>if u=key then some (.slice a n c) else fget x.vs u) (x.vs.length+1):=by
  have k1:=HK1.o
  rw[hcg] at k1
  exact ((k1.below (below_alloc w1 (.cells #[.string key] 9)) k1.lt).fr G3.o fun e=>hmo _ e rfl).fr (Fr.set1 w2 q.gq 3 _) fun e=>hmg e.symm
 have ho3:OwnStrs (w2.setCell ⟨q.gq,3,none⟩ (.slice (some ⟨gb,0,none⟩) (ln+1) cpb)) 0 (.slice (some ⟨gb,0,none⟩) (ln+1) cpb) (x.vs.map (·.key) ++ [key]):=by
  have g:=G2.o
  have hg:gb≠q.gq:=fun e=>by
   obtain⟨C,hC⟩:=ownBlock_type g (k:=gb) rfl
   exact heap_ne hC HL2.o (by decide) e
  have g':=ownsRow_fr g (Fr.set1 w2 q.gq 3 (.slice (some ⟨gb,0,none⟩) (ln+1) cpb)) fun k hk e=>hg (by simp[Value.ownBlock] at hk;exact hk.trans e)
  unfold OwnStrs
  rw[List.length_append,List.length_singleton,List.length_map,←HLN.o,List.map_append]
  exact g'
 have hq:=H.o.lookStep hF (y:=⟨key,.slice a n c,data⟩) ((heap_setCell HL2.o _).trans (by simp[lkCells])) hk3 ho3 (bytes_keptB HV.o hF H.o.kindsLook (by decide)) hn hs
 refine bodyPost_end (results_none rfl _ _ _) rfl ⟨rfl,_,hq,hF.weak fun _ _ e=>.inl e,?_⟩
 intro k hk
 rcases hk with (e|e|e)|e|e
 ·exact .inl (.inl (.inl e))
 ·exact .inl (.inl (.inr (.inl e)))
 ·rcases G4.o k e with e|e
  ·exact .inl (.inl (.inr (.inr (by rw[HVO2.o];exact e))))
  ·have hz:w.heap.size=w1.heap.size:=HS1.o.symm
   exact .inr (by rw[hz];exact Nat.le_trans (Nat.le_succ _) (by simpa using e))
 ·exact .inl (.inr (.inl e))
 ·exact .inl (.inr (.inr e))
end
end
section
section
variable [Inhabited OutT]
theorem methodFetch (n:Nat) (v:Value) (w:World):(Go.method (n+1) 44 v "Fetch").run prog w=.ok (254,v) w:=by have:=(inferInstance:Inhabited OutT);show _=_;kernel_rfl
theorem cfetch0 (w:World) (gc g gd:Nat) (vl vt v:Value) (n:Nt) (d:Dk) (p:ByteArray) (h2:w.cell? ⟨gc,2,none⟩=some (.iface 44 (.pointer (some ⟨g,0,none⟩)))) (h:NetIs w g gd vl vt n) (hd:DiskAt w gd v d) (hf:d.files=n.files) (hc:n.fetches<1152921504606846976) :
  Calls prog 85 #[.pointer (some ⟨gc,0,none⟩),.string p] w (FetchPost w g gd vl vt n p):=by
 have HF:=zh (fetch_any w g gd vl vt v n d p h hd hf hc)
 clear h hd hf
 have hm:=fun n W=>methodFetch n (.pointer (some ⟨g,0,none⟩)) W
 go_enter func85,ntmps85
 go_wp2_with (go_at_call 254;refine HF.o.mono ?_;intro e w1 h1;obtain⟨hn1,hf1,u,y,rfl,ho1⟩:=h1;have HN1:=zh hn1;have HF1:=zh hf1;have HO1:=zh ho1;clear hn1 hf1 ho1)
 go_ret2
 exact⟨HN1.o,HF1.o,_,_,rfl,HO1.o⟩
def FetchedPost (w:World) (q:Qf) (x:Qv) (N:Nat) (s:Cs) (d:Dk) (p:ByteArray) (e:Ending) (w':World):Prop:=
 (QIs w' q x N (fetchedQ p s) d∧Fr (netS q.gn q.vt) w w')∧∃ u y,e=.returned (.tuple #[u,y])∧((∃ data,fetchA s.net p=some data∧y=.nilIface∧OwnBytes w' w.heap.size u data∧∃ a k c,u=.slice a k c)∨(fetchA s.net p=none∧(∃ t,y=.iface 152 (.pointer (some t)))∧∃ a k c,u=.slice a k c))
theorem cfetch_any (w:World) (q:Qf) (x:Qv) (N:Nat) (s:Cs) (d:Dk) (h:QIs w q x N s d) (p:ByteArray) (hc:s.net.fetches<1152921504606846976) :
  Calls prog 85 #[.pointer (some ⟨q.gc,0,none⟩),.string p] w (FetchedPost w q x N s d p):=
 (cfetch0 w q.gc q.gn q.gd q.vl q.vt q.v s.net d p h.heads.2.2.2.2.1 h.net h.disk h.dfiles hc).mono fun e w' hp=>by
  obtain⟨h1,h2,h3⟩:=hp
  exact⟨⟨h.netStep h1 h2 (fetchN_same s.net p).2.1,h2⟩,h3⟩
end
end
section
section
variable [Inhabited OutT]
structure Rnd (fits:FitsF) (level:Int) (index w:Nat) (s:Cs) (kk:Nat) (sk:Cs) (nm:ByteArray) (wd:Nat):Prop where
 name:nm=tileName level index wd
 wide:w≤wd∧wd≤4
 fit:∀ b,tryQ fits nm wd w sk=some b→fetchQ fits level index w s=(.ok b,keepQ (tileName level index w) b (fetchedQ nm sk))
 last:tryQ fits nm wd w sk=none→w=4∨kk=1→fetchQ fits level index w s=(.error (.miss (tileName level index w)),fetchedQ nm sk)
theorem rnd0 (fits:FitsF) (level:Int) (index w:Nat) (s:Cs) (hw:w≤4):Rnd fits level index w s 0 s (tileName level index w) w:=have:=(inferInstance:Inhabited OutT);⟨rfl,⟨Nat.le_refl _,hw⟩,fun b hb=>by unfold fetchQ;rw[hb],fun hn h=>by
  unfold fetchQ
  rw[hn]
  dsimp only
  rw[if_pos (by omega)]⟩
theorem rnd1 {fits:FitsF} {level:Int} {index w:Nat} {s:Cs} {nm:ByteArray} {wd:Nat} (h:nm=tileName level index w) (hwd:wd=w) (hn:tryQ fits nm wd w s=none) (h4:w≠4) (hw:w≤4):Rnd fits level index w s 1 (fetchedQ nm s) (tileName level index 4) 4:=by
 have:=(inferInstance:Inhabited OutT)
 subst h hwd
 refine⟨rfl,⟨hw,Nat.le_refl _⟩,fun b hb=>?_,fun hm _=>?_⟩
 ·unfold fetchQ
  rw[hn]
  dsimp only
  rw[if_neg h4,hb]
 ·unfold fetchQ
  rw[hn]
  dsimp only
  rw[if_neg h4,hm]
def MissErr (f:Nat→Addr) (w:World) (base:Nat) (p:ByteArray) (u:Value):Prop:=PathErr w base p (.iface 338 (.pointer (some (f 5)))) u
def FilePost (f:Nat→Addr) (w:World) (q:Qf) (x:Qv) (N:Nat) (d:Dk) (r:Except QErr (List UInt8)×Cs) (e:Ending) (w':World):Prop:=
 QStep w q x N d w' r.2∧((∃ b a n c,r.1=.ok b∧e=.returned (.tuple #[.slice a n c,.nilIface])∧OwnBytes w' 0 (.slice a n c) b)∨∃ p u,r.1=.error (.miss p)∧e=.returned (.tuple #[.slice none 0 0,u])∧MissErr f w' w.heap.size p u)
def NetSmall (n:Nt):Prop:=(∀ x∈n.files,x.2.size≤1099511627776)∧∀ l∈n.lies,l.data.size≤1099511627776
theorem fetch_small {n:Nt} (h:NetSmall n) {p:ByteArray} {data:List UInt8} (hd:fetchA n p=some data):data.length≤1099511627776:=by
 have:=(inferInstance:Inhabited OutT)
 unfold fetchA at hd
 cases hl:lieOf n p with
 | none=>
  rw[hl] at hd
  obtain⟨b,hb,rfl⟩:=Option.map_eq_some_iff.1 hd
  have:=h.1 _ (getF_some hb)
  simpa using this
 | some i=>
  rw[hl] at hd
  dsimp only at hd
  cases hx:n.lies[i]? with
  | none=>rw[hx] at hd;cases hd
  | some x=>
   rw[hx,Option.bind_some] at hd
   split at hd
   ·cases hd
   ·have:=h.2 x (List.mem_of_getElem? hx)
    rw[←Option.some.inj hd]
    simpa using this
theorem netSmall_fetch {n:Nt} (h:NetSmall n) (q:ByteArray):NetSmall (fetchN n q):=by
 have:=(inferInstance:Inhabited OutT)
 unfold NetSmall
 rw[(fetchN_same n q).1,(fetchN_same n q).2.1]
 exact h
theorem name_size (l:Int) (i w:Nat) (hi:i<9223372036854775808):(tileName l i w).size≤maxLen:=by
 have:=(inferInstance:Inhabited OutT)
 unfold tileName
 rw[sOf_size]
 unfold nameOf
 split
 ·rename_i h
  unfold nameOk at h
  unfold nameBody
  have h1:=dec_len19 (n:=l.toNat) (by omega)
  have h2:=dec_len19 (n:=(i:Int).toNat) (by omega)
  have h3:=dec_len19 (n:=(w:Int).toNat) (by omega)
  unfold maxLen
  simp only[List.length_append]
  split <;> split <;> simp only[List.length_append,List.length_cons,List.length_nil,kT,kE,kP] <;> omega
 ·exact Nat.zero_le _
theorem fe_own {w:World} {q:Qf} {x:Qv} {N:Nat} {s:Cs} {d:Dk} (h:QIs w q x N s d) {y:FEnt} (hy:y∈x.vs):∃ a n c,y.val=.slice a n c:=ownB_any (h.vals y hy).1
theorem ce_own {w:World} {g m:Nat} {c:Cch} {qs:List CEnt} (h:CacheIs w g m c qs) {y:CEnt} (hy:y∈qs):∃ a n c,y.val=.slice a n c:=ownB_any (h.vals y hy).1
theorem fileQ_files1 {fits:FitsF} {level:Int} {index count:Nat} {s:Cs} {b:List UInt8} (h:kvGet s.files (tileName level index (wideAt index count))=some b):fileQ fits level index count s=(.ok b,s):=by have:=(inferInstance:Inhabited OutT);unfold fileQ;rw[h]
theorem fileQ_cache {fits:FitsF} {level:Int} {index count:Nat} {s:Cs} {b:List UInt8} (h:kvGet s.files (tileName level index (wideAt index count))=none) (h2:kvGet s.cache.items (tileName level index (wideAt index count))=some b):fileQ fits level index count s=(.ok b,keepQ (tileName level index (wideAt index count)) b { s with cache:=cacheGet s.cache (tileName level index (wideAt index count)) }):=by have:=(inferInstance:Inhabited OutT);unfold fileQ;rw[h];dsimp only;rw[h2]
theorem fileQ_fetch {fits:FitsF} {level:Int} {index count:Nat} {s:Cs} (h:kvGet s.files (tileName level index (wideAt index count))=none) (h2:kvGet s.cache.items (tileName level index (wideAt index count))=none):fileQ fits level index count s=fetchQ fits level index (wideAt index count) s:=by have:=(inferInstance:Inhabited OutT);unfold fileQ;rw[h];dsimp only;rw[h2]
theorem get_hit1 {w:World} {g m:Nat} {c:Cch} {qs:List CEnt} {k:ByteArray} {z:CEnt} {e:Ending} {w':World} (hf:cfind qs k=some z) (h:getPost w g m c qs k e w') :
  e=.returned (.tuple #[z.val,.bool true])∧∃ qs',CacheIs w' g m (cacheGet c k) qs'∧Fr (cacheS g m qs) w w'∧w'.heap.size=w.heap.size∧(∀ i,cacheS g m qs' i↔cacheS g m qs i)∧OwnB w' 0 z.val z.data:=by
 rcases h with ⟨h,_⟩|⟨z',qs',h1,h2,h3,h4,h5,h6,h7⟩
 ·rw[hf] at h;cases h
 ·rw[hf] at h1
  cases h1
  exact⟨h2,qs',h3,h5,h6,h7,h3.vals z h4⟩
theorem get_miss1 {w:World} {g m:Nat} {c:Cch} {qs:List CEnt} {k:ByteArray} {e:Ending} {w':World} (hf:cfind qs k=none) (h:getPost w g m c qs k e w'):e=.returned (.tuple #[.slice none 0 0,.bool false])∧w'=w:=by
 rcases h with ⟨_,h1,h2⟩|⟨z',qs',h1,_⟩
 ·exact⟨h1,h2⟩
 ·rw[hf] at h1;cases h1
theorem qs_noBytes {w:World} {q:Qf} {x:Qv} {N:Nat} {s:Cs} {d:Dk} (h:QIs w q x N s d):NoBytes w (QS q x):=fun k C fz hk hs=>by
 rcases hs with hs|hs|hs
 ·exact kinds_not h.kindsLook hk (by decide) hs
 ·exact kinds_not (kinds_cache h.cache) hk (by decide) hs
 ·exact kinds_not (kinds_net h.net) hk (by decide) hs
theorem bytes_qs {w w':World} {q:Qf} {x:Qv} {N:Nat} {s:Cs} {d:Dk} {base:Nat} {v:Value} {l:List UInt8} (hb:OwnBytes w base v l) (hf:Fr (QS q x) w w') (h:QIs w q x N s d):OwnBytes w' base v l:=
 hb.same fun k C fz hk=>hf.block k (lt_of_heap hk) (qs_noBytes h k C fz hk)
theorem fetched_no {w:World} {q:Qf} {x:Qv} {N:Nat} {s:Cs} {d:Dk} {p:ByteArray} {e:Ending} {w':World} (hf:fetchA s.net p=none) (h:FetchedPost w q x N s d p e w') :
  QIs w' q x N (fetchedQ p s) d∧Fr (netS q.gn q.vt) w w'∧∃ a n c t,e=.returned (.tuple #[.slice a n c,.iface 152 (.pointer (some t))]):=by
 obtain⟨⟨h1,h2⟩,u,y,rfl,⟨data,h3,_⟩|⟨_,⟨t,rfl⟩,a,n,c,rfl⟩⟩:=h
 ·rw[hf] at h3;cases h3
 ·exact⟨h1,h2,a,n,c,t,rfl⟩
theorem fetched_yes {w:World} {q:Qf} {x:Qv} {N:Nat} {s:Cs} {d:Dk} {p:ByteArray} {data:List UInt8} {e:Ending} {w':World} (hf:fetchA s.net p=some data) (h:FetchedPost w q x N s d p e w') :
  QIs w' q x N (fetchedQ p s) d∧Fr (netS q.gn q.vt) w w'∧∃ a n c,∃ _:OwnBytes w' w.heap.size (.slice a n c) data,e=.returned (.tuple #[.slice a n c,.nilIface]):=by
 obtain⟨⟨h1,h2⟩,u,y,rfl,⟨data',h3,rfl,h4,a,n,c,rfl⟩|⟨h3,_⟩⟩:=h
 ·rw[hf] at h3
  cases h3
  exact⟨h1,h2,a,n,c,h4,rfl⟩
 ·rw[hf] at h3;cases h3
theorem fit_no {w w':World} {e:Ending} {o:Option (List UInt8)} (ho:o=none) (h:FitPost o w e w'):Below w.heap.size w w'∧∃ a n c,e=.returned (.tuple #[.slice a n c,.bool false]):=by
 have:=(inferInstance:Inhabited OutT)
 obtain⟨h1,⟨_,a,n,c,h2⟩|⟨b,a,n,c,h2,_⟩⟩:=h
 ·exact⟨h1,a,n,c,h2⟩
 ·rw[ho] at h2;cases h2
theorem fit_yes {w w':World} {e:Ending} {o:Option (List UInt8)} {b:List UInt8} (ho:o=some b) (h:FitPost o w e w'):Below w.heap.size w w'∧∃ a n c,∃ _:OwnBytes w' w.heap.size (.slice a n c) b,e=.returned (.tuple #[.slice a n c,.bool true]):=by
 have:=(inferInstance:Inhabited OutT)
 obtain⟨h1,⟨h2,_⟩|⟨b',a,n,c,h2,h3,h4⟩⟩:=h
 ·rw[ho] at h2;cases h2
 ·rw[ho] at h2
  cases h2
  exact⟨h1,a,n,c,h4,h3⟩
theorem file_next {fits:FitsF} {level:Int} {index w1:Nat} {s:Cs} {kk gg:Nat} {sk:Cs} {nm:ByteArray} {wd:Nat} {t0:ByteArray} {wb w5:World} {q:Qf} {x:Qv} {N:Nat} {d:Dk} {s63:Value} (hR:Rnd fits level index w1 s kk sk nm wd) (hQ:QIs w5 q x N (fetchedQ nm sk) d) (hn:NetSmall sk.net) (hfe:sk.net.fetches≤s.net.fetches+kk) (hwd:wd=(if kk=0 then w1 else 4)) (hs0:kk=0→sk=s) (ht0:t0=tileName level index w1)
  (hty:tryQ fits nm wd w1 sk=none) (h4:¬ w1=4) (hw:w1≤4) (hk:kk<2) (hF:Fr (netS q.gn q.vt) wb w5) (hg:2-(kk+1)≤gg) (hs:s63=.int .i64 ((kk+1:Nat):Int)) :
  ∃ kk:Nat,kk≤2∧2-kk≤gg∧s63=.int .i64 kk∧Aside (Fr (netS q.gn q.vt) wb w5)∧Aside ((∃ sk nm wd,kk<2∧Rnd fits level index w1 s kk sk nm wd∧QIs w5 q x N sk d∧sk.net.fetches≤s.net.fetches+kk∧NetSmall sk.net∧wd=(if kk=0 then w1 else 4)∧(kk=0→sk=s))∨(kk=2∧∃ sk,fetchQ fits level index w1 s=(.error (.miss t0),sk)∧QIs w5 q x N sk d)):=by
 refine⟨kk+1,by omega,hg,hs,hF,?_⟩
 rcases Nat.lt_or_ge kk 1 with h0|h0
 ·obtain rfl:kk=0:=by omega
  obtain rfl:=hs0 rfl
  refine .inl ⟨fetchedQ nm sk,tileName level index 4,4,by omega,rnd1 (by rw[hR.name,hwd,if_pos rfl]) (by rw[hwd,if_pos rfl]) hty h4 hw,hQ,?_,netSmall_fetch hn nm,by rw[if_neg (by decide)],fun h=>by cases h⟩
  show (fetchN sk.net nm).fetches≤_
  rw[(fetchN_same sk.net nm).2.2]
  omega
 ·obtain rfl:kk=1:=by omega
  exact .inr ⟨rfl,fetchedQ nm sk,by rw[ht0];exact hR.last hty (.inr rfl),hQ⟩
theorem file_hash (f:Nat→Addr) (w:World) (q:Qf) (x:Qv) (N:Nat) (s:Cs) (d:Dk) (h:QIs w q x N s d) (hE:EnvS f (QS q x) w) (level:Int) (index count:Nat) (hi:4*index<count) (hc:count<9223372036854775808) (hft:s.net.fetches<1152921504606846000) (hlen:x.vs.length<1099511627775) (hsm:NetSmall s.net) :
  Calls prog 92 #[.pointer (some ⟨q.gq,0,none⟩),.int .i64 level,.int .i64 index,.int .i64 count,.func (.func 143) #[] #[]] w (FilePost f w q x N d (fileQ fitsHash level index count s)):=by
 have hfitl:∀ (W:World) (v:Value) (data:List UInt8) (wd w1:Nat),BytesAt W v data→data.length≤1099511627776→1≤w1→w1≤wd→wd≤4→Calls prog 143 #[v,.int .i64 wd,.int .i64 w1] W (FitPost (fitsHash data wd w1) W):=fun W v data wd w1 hb hl _ _ _=>hfit_any W _ data wd w1 hb (by omega) (by omega) (by omega)
 obtain⟨w1,hw1⟩:∃ w1,w1=wideAt index count:=⟨_,rfl⟩
 have hwb:1≤w1∧w1≤4:=by unfold wideAt at hw1;omega
 obtain⟨t0,ht0⟩:∃ t0,t0=tileName level index w1:=⟨_,rfl⟩
 have hat:=fat_any level index count w hi hc hE.num
 rw[show min 4 (count-4*index)=w1 from hw1.symm] at hat
 have e0:sOf (nameOf level (index:Int) ((w1:Nat):Int))=t0:=ht0.symm
 rw[e0] at hat
 have ht0s:t0.size≤maxLen:=by rw[ht0];exact name_size level index w1 (by omega)
 have HFIT:=zh hfitl
 have HAT:=zh hat
 have HW1:=zh hw1
 have HT0:=zh ht0
 have H:=zh h
 have HE:=zh hE
 have hgw:q.gq<w.heap.size:=lt_of_heap h.look
 clear hfitl hat hw1 e0 h hE ht0
 obtain⟨k0,k1,k2,k3,k4,k5,k6⟩:=H.o.heads
 cases hff:ffind x.vs t0 with
 | some y=>
  obtain⟨hym,hyk⟩:=ffind_mem hff
  obtain⟨ya,yn,yc,hyv⟩:=fe_own H.o hym
  have hcg:fget x.vs t0=some (.slice ya yn yc):=by unfold fget;rw[hff,←hyv];rfl
  have hq:fileQ fitsHash level index count s=(.ok y.data,s):=fileQ_files1 (by rw[←HW1.o,←HT0.o,H.o.files,kvGet_fe,hff];rfl)
  have hob:=(H.o.vals y hym).1
  rw[hyv] at hob
  have HQ:=zh hq
  have HOB:=zh hob
  clear hq hob hyv hym hyk hff
  go_enter func92,ntmps92
  go_wp2_with (first|(go_at_call 123;refine HAT.o.mono ?_;rintro e w2 ⟨rfl,hb2⟩;have H2:=zh (H.o.below hb2);have HB2:=zh hb2;obtain⟨j0,j1,j2,j3,j4,j5,j6⟩:=H2.o.heads;clear hb2)|(at_lookup;refine wpList_kmLook _ rfl _ _ 248 rfl 9 94 underlying9 underlying248 (z:=.slice none 0 0) rfl q.mq x.vs.length (fget x.vs) rfl H2.o.km t0 rfl ht0s ?_;rw[hcg];simp only[Option.getD,Option.isSome])|fail)
  go_ret2
  rw[HQ.o]
  exact⟨(QStep.here H.o).below HB2.o,.inl ⟨_,_,_,_,rfl,rfl,HOB.o.same fun k C fz hk=>HB2.o.block k (lt_of_heap hk)⟩⟩
 | none=>
  have hcg:fget x.vs t0=none:=by unfold fget;rw[hff];rfl
  have hkv0:kvGet s.files (tileName level index (wideAt index count))=none:=by rw[←HW1.o,←HT0.o,H.o.files,kvGet_fe,hff];rfl
  have HFF:=zh hff
  cases hcf:cfind x.qs t0 with
  | some z=>
   obtain⟨hzk,lz,rz,hzs,_⟩:=cfind_split hcf
   have hzm:z∈x.qs:=by rw[hzs];simp
   obtain⟨ya,yn,yc,hyv⟩:=ce_own H.o.cache hzm
   have hq:fileQ fitsHash level index count s=(.ok z.data,keepQ t0 z.data { s with cache:=cacheGet s.cache t0 }):=by
    have:=fileQ_cache (fits:=fitsHash) hkv0 (b:=z.data) (by rw[←HW1.o,←HT0.o,H.o.cache.items,kvGet_kv,hcf];rfl)
    rw[←HW1.o,←HT0.o] at this
    exact this
   have HQ:=zh hq
   have HYV:=zh hyv
   have HCF:=zh hcf
   clear hq hyv hzk hzs hzm hkv0 hff hcf
   go_enter func92,ntmps92
   go_wp2_with (first|(go_at_call 123;refine HAT.o.mono ?_;rintro e w2 ⟨rfl,hb2⟩;have H2:=zh (H.o.below hb2);have HB2:=zh hb2;obtain⟨j0,j1,j2,j3,j4,j5,j6⟩:=H2.o.heads;clear hb2)|(at_lookup;refine wpList_kmLook _ rfl _ _ 248 rfl 9 94 underlying9 underlying248 (z:=.slice none 0 0) rfl q.mq x.vs.length (fget x.vs) rfl H2.o.km t0 rfl ht0s ?_;rw[hcg];simp only[Option.getD,Option.isSome])|(go_at_call 146;refine (cget_any _ q.gk q.mc s.cache x.qs t0 H2.o.cache ht0s).mono ?_;intro e w3 h3;have h3':=get_hit1 HCF.o h3;rw[HYV.o] at h3';obtain⟨rfl,qs',hc3,hf3,hz3,hiff,hv3⟩:=h3';have hq3:=H2.o.cacheStep hc3 hf3;have H3:=zh hq3;have HF3:=zh hf3;have HZ3:=zh hz3;have HI3:=zh hiff;have HV3:=zh hv3;clear h3 hc3 hf3 hz3 hiff hv3 hq3)|(go_at_call 147;refine (keep_any _ q _ N _ d H3.o t0 ya yn yc z.data HV3.o HFF.o ht0s hlen).mono ?_;rintro e w4 ⟨rfl,hq4⟩;have HQ4:=zh hq4;clear hq4)|fail)
   go_ret2
   rw[HQ.o]
   have hb4:=HQ4.o
   obtain⟨x4,h4,hf4,hs4⟩:=hb4
   refine⟨QStep.trans ((Fr.ofBelow HB2.o).trans (HF3.o.weak fun _ _ e=>.inr (.inl e))) ?_ ⟨x4,h4,hf4,hs4⟩,.inl ⟨_,_,_,_,rfl,rfl,?_⟩⟩
   ·intro k hk
    rcases hk with e|e|e
    ·exact .inl (.inl e)
    ·exact .inl (.inr (.inl ((HI3.o k).1 e)))
    ·exact .inl (.inr (.inr e))
   ·exact bytes_qs HV3.o.1 hf4 H3.o
  | none=>
   have hq:fileQ fitsHash level index count s=fetchQ fitsHash level index w1 s:=by
    have:=fileQ_fetch (fits:=fitsHash) hkv0 (by rw[←HW1.o,←HT0.o,H.o.cache.items,kvGet_kv,hcf];rfl)
    rw[←HW1.o] at this
    exact this
   have HQ:=zh hq
   have HCF:=zh hcf
   have HNS:=zh hsm
   clear hq hkv0 hff hcf hsm
   go_enter func92,ntmps92
   go_upto_region 9 with (first|(go_at_call 123;refine HAT.o.mono ?_;rintro e w2 ⟨rfl,hb2⟩;have H2:=zh (H.o.below hb2);have HB2:=zh hb2;obtain⟨j0,j1,j2,j3,j4,j5,j6⟩:=H2.o.heads;clear hb2)|(at_lookup;refine wpList_kmLook _ rfl _ _ 248 rfl 9 94 underlying9 underlying248 (z:=.slice none 0 0) rfl q.mq x.vs.length (fget x.vs) rfl H2.o.km t0 rfl ht0s ?_;rw[hcg];simp only[Option.getD,Option.isSome])|(go_at_call 146;refine (cget_any _ q.gk q.mc s.cache x.qs t0 H2.o.cache ht0s).mono ?_;intro e w3 h3;obtain⟨rfl,rfl⟩:=get_miss1 HCF.o h3;clear h3)|fail)
   go_wp2
   obtain⟨wb,hwb⟩:∃ wb,wb=w3.alloc (.cells #[.int .i64 w1,.int .i64 4] 3):=⟨_,rfl⟩
   rw[←hwb]
   have hbb:Below w.heap.size w wb:=by rw[hwb];exact HB2.o.trans ((below_alloc w3 _).mono HB2.o.size)
   have hgb:wb.heap[w3.heap.size]?=some (.cells #[.int .i64 w1,.int .i64 4] 3 (0,0)):=by rw[hwb];exact heap_alloc_new w3 _
   have hQb:QIs wb q x N s d:=H.o.below hbb
   have hgn:¬ netS q.gn q.vt w3.heap.size:=fun e=>by
    have hz:=HB2.o.size
    rcases e with e|e
    ·have:=H.o.net.lt;omega
    ·obtain⟨C,hC⟩:=ownBlock_type H.o.net.told e
     have:=lt_of_heap hC;omega
   have HBB:=zh hbb
   have HGB:=zh hgb
   have HGN:=zh hgn
   have HQB:=zh hQb
   clear hwb hbb hgb hQb hgn j0 j1 j2 j3 j4 j5 j6 k0 k1 k2 k3 k4 k5 k6
   go_loopg [63] 2 (fun gg s63 wr=>∃ kk:Nat,kk≤2∧2-kk≤gg∧s63=.int .i64 kk∧Aside (Fr (netS q.gn q.vt) wb wr)∧Aside ((∃ sk nm wd,kk<2∧Rnd fitsHash level index w1 s kk sk nm wd∧QIs wr q x N sk d∧sk.net.fetches≤s.net.fetches+kk∧NetSmall sk.net∧wd=(if kk=0 then w1 else 4)∧(kk=0→sk=s))∨(kk=2∧∃ sk,fetchQ fitsHash level index w1 s=(.error (.miss t0),sk)∧QIs wr q x N sk d)))
   case atStart=>exact⟨0,by omega,by omega,rfl,Fr.refl _ _,.inl ⟨s,tileName level index w1,w1,by omega,rnd0 _ _ _ _ _ hwb.2,HQB.o,Nat.le_refl _,HNS.o,rfl,fun _=>rfl⟩⟩
   case round=>
    obtain⟨kk,hkk,hg,rfl,HFW,HR⟩:=hrel
    have HEr:=zh ((HE.o.below HBB.o).fr (HFW.o.weak fun _ _ e=>.inr (.inr e)))
    obtain⟨_,_,_,_,_,g5,_⟩:=HEr.o.sents.cells
    rcases HR.o with ⟨sk,nm,wd,hk2,hR,hQ,hfe,hns,hwd,hs0⟩|⟨hk2,sk,hfq,hQ⟩
    ·have hcell:wr.cell? ⟨w3.heap.size,kk,none⟩=some (.int .i64 wd):=by
      refine HFW.o.cell (p:=⟨w3.heap.size,kk,none⟩) ?_ HGN.o
      rcases Nat.lt_or_ge kk 1 with h0|h0
      ·obtain rfl:kk=0:=by omega
       rw[hwd,if_pos rfl]
       exact cell_heap HGB.o 0 rfl
      ·obtain rfl:kk=1:=by omega
       rw[hwd,if_neg (by decide)]
       exact cell_heap HGB.o 1 rfl
     have hkz:(kk:Int)<2:=by omega
     have hk0:(0:Int)≤(kk:Int):=by omega
     have hwdb:=hR.wide
     have c0:=hQ.heads.1
     have c0d:wr.drew.cell? ⟨q.gq,0,none⟩=some (.pointer (some ⟨q.gc,0,none⟩)):=c0
     have hgr:q.gq<wr.heap.size:=cell_lt c0
     have hnm:=hR.name
     have hname:∀ W,Below wr.heap.size wr W→Calls prog 127 #[.int .i64 level,.int .i64 index,.int .i64 wd] W fun e w'=>e=.returned (.string nm)∧Below W.heap.size W w':=fun W hW=>by
      rw[hnm]
      exact fname_any level index wd W (by omega) ((HEr.o.below hW).num)
     have hfet:∀ W,Below wr.heap.size wr W→Calls prog 85 #[.pointer (some ⟨q.gc,0,none⟩),.string nm] W (FetchedPost W q x N sk d nm):=fun W hW=>cfetch_any W q x N sk d (hQ.below hW) nm (by omega)
     have HNAME:=zh hname
     have HFET:=zh hfet
     have HR0:=zh hR
     have HNS0:=zh hns
     have HFE:=zh hfe
     have HWD:=zh hwd
     have HS0:=zh hs0
     have HQ0:=zh hQ
     clear HR hR hns hfe hwd hs0 hQ hnm hname hfet
     go_upto_region 12 with fail
     cases hfa:fetchA sk.net nm with
     | none=>
      have HFA:=zh hfa
      clear hfa
      go_region_held3 (fun w'=>w'.cell? ⟨q.gq,0,none⟩=some (.pointer (some ⟨q.gc,0,none⟩))) (first|(with_reducible first|exact c0|exact c0d|exact m0|exact n0)|exact c0d|fail) (first|(go_at_call 127;refine (HNAME.o _ (below_drew wr)).mono ?_;rintro e w4 ⟨rfl,hb4⟩;have HB4:=zh (show Below wr.heap.size wr w4 from (below_drew wr).trans hb4);have m0:=(HB4.o.cell (p:=⟨q.gq,0,none⟩) hgr).trans c0;clear hb4)|(go_at_call 85;refine (HFET.o w4 HB4.o).mono ?_;intro e w5 h5;obtain⟨hq5,hf5,hy5⟩:=fetched_no HFA.o h5;have HQ5:=zh hq5;have HF5:=zh ((Fr.ofBelow HB4.o).trans hf5);have n0:=hq5.heads.1;obtain⟨a5,n5,c5,q5,rfl⟩:=hy5;clear h5 hq5 hf5)|fail)
      all_goals (
       have hty:tryQ fitsHash nm wd w1 sk=none:=by unfold tryQ;rw[HFA.o];rfl
       have HTY:=zh hty
       clear hty
       by_cases h4:w1=4
       ·have h4z:(w1:Int)=4:=by omega
        have HFQ:=zh (HR0.o.last HTY.o (.inl h4))
        rw[←HT0.o] at HFQ
        have HQK:=zh HQ5.o
        obtain⟨_,_,_,_,_,g5,_⟩:=(HEr.o.fr (HF5.o.weak fun _ _ e=>.inr (.inr e))).sents.cells
        clear h4
        have g5d:w5.drew.cell? ⟨6,0,none⟩=some (.iface 338 (.pointer (some (f 5)))):=g5
        go_wp2_with fail
        go_region
        all_goals (
         go_wp2
         go_ret2
         have hbf:Below w5.heap.size w5 (w5.alloc (.cells #[.string t0,.iface 338 (.pointer (some (f 5)))] 155)).drew:=(below_alloc w5 _).drew
         rw[HQ.o,HFQ.o]
         exact⟨(QStep.trans ((Fr.ofBelow HBB.o).trans ((HFW.o.trans HF5.o).weak fun _ _ e=>.inr (.inr e))) (Sub.refl _ _) (QStep.here HQK.o)).below hbf,.inr ⟨t0,_,rfl,rfl,w5.heap.size,rfl,Nat.le_trans HBB.o.size (HFW.o.trans HF5.o).size,heap_alloc_new w5 _⟩⟩)
       ·have h4z:¬ (w1:Int)=4:=by omega
        have H4:=zh h4
        clear h4
        go_wp2
        go_roundg (2-(kk+1))
        case measure=>omega
        case rel=>exact file_next HR0.o HQ5.o HNS0.o HFE.o HWD.o HS0.o HT0.o HTY.o H4.o hwb.2 (by omega) (HFW.o.trans HF5.o) (Nat.le_refl _) (by go_num))
     | some data=>
      have HFA:=zh hfa
      clear hfa
      go_region_held3 (fun w'=>w'.cell? ⟨q.gq,0,none⟩=some (.pointer (some ⟨q.gc,0,none⟩))) (first|(with_reducible first|exact c0|exact c0d|exact m0|exact n0)|exact c0d|fail) (first|(go_at_call 127;refine (HNAME.o _ (below_drew wr)).mono ?_;rintro e w4 ⟨rfl,hb4⟩;have HB4:=zh (show Below wr.heap.size wr w4 from (below_drew wr).trans hb4);have m0:=(HB4.o.cell (p:=⟨q.gq,0,none⟩) hgr).trans c0;clear hb4)|(go_at_call 85;refine (HFET.o w4 HB4.o).mono ?_;intro e w5 h5;obtain⟨hq5,hf5,hy5⟩:=fetched_yes HFA.o h5;have HQ5:=zh hq5;have HF5:=zh ((Fr.ofBelow HB4.o).trans hf5);have n0:=hq5.heads.1;obtain⟨a5,n5,c5,q5,rfl⟩:=hy5;clear h5 hq5 hf5)|fail)
      all_goals (
       have HO5:=zh q5
       clear q5
       cases hfv:fitsHash data wd w1 with
       | none=>
        have hty:tryQ fitsHash nm wd w1 sk=none:=by unfold tryQ;rw[HFA.o];exact hfv
        have HTY:=zh hty
        have HFV:=zh hfv
        clear hty hfv
        by_cases h4:w1=4
        ·have HFQ:=zh (HR0.o.last HTY.o (.inl h4))
         rw[←HT0.o] at HFQ
         have H4:=zh h4
         clear h4
         go_upto_region 15 with (first|(go_at_call 143;refine (HFIT.o _ _ data wd w1 HO5.o.at (fetch_small HNS0.o HFA.o) hwb.1 hwdb.1 hwdb.2).mono ?_;intro e w6 h6;obtain⟨hb6,a6,n6,c6,rfl⟩:=fit_no HFV.o h6;have HB6:=zh hb6;clear h6 hb6)|fail)
         have HQK:=zh (HQ5.o.below HB6.o)
         have h4z:(w1:Int)=4:=by have:=H4.o;omega
         obtain⟨_,_,_,_,_,g5,_⟩:=((HEr.o.fr (HF5.o.weak fun _ _ e=>.inr (.inr e))).below HB6.o).sents.cells
         have g5d:w6.drew.cell? ⟨6,0,none⟩=some (.iface 338 (.pointer (some (f 5)))):=g5
         go_wp2_with fail
         go_region
         all_goals (
          go_wp2
          go_ret2
          have hbf:Below w6.heap.size w6 (w6.alloc (.cells #[.string t0,.iface 338 (.pointer (some (f 5)))] 155)).drew:=(below_alloc w6 _).drew
          rw[HQ.o,HFQ.o]
          exact⟨(QStep.trans ((Fr.ofBelow HBB.o).trans (((HFW.o.trans HF5.o).trans (Fr.ofBelow HB6.o)).weak fun _ _ e=>.inr (.inr e))) (Sub.refl _ _) (QStep.here HQK.o)).below hbf,.inr ⟨t0,_,rfl,rfl,w6.heap.size,rfl,Nat.le_trans HBB.o.size ((HFW.o.trans HF5.o).trans (Fr.ofBelow HB6.o)).size,heap_alloc_new w6 _⟩⟩)
        ·have h4z:¬ (w1:Int)=4:=by omega
         have H4:=zh h4
         clear h4
         go_wp2_with (first|(go_at_call 143;refine (HFIT.o _ _ data wd w1 HO5.o.at (fetch_small HNS0.o HFA.o) hwb.1 hwdb.1 hwdb.2).mono ?_;intro e w6 h6;obtain⟨hb6,a6,n6,c6,rfl⟩:=fit_no HFV.o h6;have HB6:=zh hb6;clear h6 hb6)|fail)
         go_roundg (2-(kk+1))
         case measure=>omega
         case rel=>exact file_next HR0.o (HQ5.o.below HB6.o) HNS0.o HFE.o HWD.o HS0.o HT0.o HTY.o H4.o hwb.2 (by omega) ((HFW.o.trans HF5.o).trans (Fr.ofBelow HB6.o)) (Nat.le_refl _) (by go_num)
       | some b=>
        have hty:tryQ fitsHash nm wd w1 sk=some b:=by unfold tryQ;rw[HFA.o];exact hfv
        have hfq:=HR0.o.fit b hty
        rw[←HT0.o] at hfq
        have HFQ:=zh hfq
        have HFV:=zh hfv
        clear hty hfv hfq
        go_wp2_with (first|(go_at_call 143;refine (HFIT.o _ _ data wd w1 HO5.o.at (fetch_small HNS0.o HFA.o) hwb.1 hwdb.1 hwdb.2).mono ?_;intro e w6 h6;obtain⟨hb6,a6,n6,c6,ho6,rfl⟩:=fit_yes HFV.o h6;have HB6:=zh hb6;have HO6:=zh ho6;have HQ6:=zh (HQ5.o.below hb6);clear h6 hb6 ho6)|(go_at_call 147;refine (keep_any _ q x N _ d HQ6.o t0 a6 n6 c6 b (OwnB.new HO6.o HQ5.o.o) HFF.o ht0s hlen).mono ?_;rintro e w7 ⟨rfl,hq7⟩;have HQ7:=zh hq7;clear hq7)|fail)
        go_ret2
        rw[HQ.o,HFQ.o]
        obtain⟨x7,h7,hf7,hs7⟩:=HQ7.o
        exact⟨QStep.trans ((Fr.ofBelow HBB.o).trans (((HFW.o.trans HF5.o).trans (Fr.ofBelow HB6.o)).weak fun _ _ e=>.inr (.inr e))) (Sub.refl _ _) ⟨x7,h7,hf7,hs7⟩,.inl ⟨_,_,_,_,rfl,rfl,bytes_qs (HO6.o.mono (Nat.zero_le _)) hf7 HQ6.o⟩⟩)
    ·subst hk2
     have HQK:=zh hQ
     have HFQ:=zh hfq
     clear hQ hfq HR
     have g5d:wr.drew.cell? ⟨6,0,none⟩=some (.iface 338 (.pointer (some (f 5)))):=g5
     go_wp2_with fail
     go_region
     all_goals (
      go_wp2
      go_ret2
      have hbf:Below wr.heap.size wr (wr.alloc (.cells #[.string t0,.iface 338 (.pointer (some (f 5)))] 155)).drew:=(below_alloc wr _).drew
      rw[HQ.o,HFQ.o]
      exact⟨(QStep.trans ((Fr.ofBelow HBB.o).trans (HFW.o.weak fun _ _ e=>.inr (.inr e))) (Sub.refl _ _) (QStep.here HQK.o)).below hbf,.inr ⟨t0,_,rfl,rfl,wr.heap.size,rfl,Nat.le_trans HBB.o.size HFW.o.size,heap_alloc_new wr _⟩⟩)
theorem file_bun (f:Nat→Addr) (w:World) (q:Qf) (x:Qv) (N:Nat) (s:Cs) (d:Dk) (h:QIs w q x N s d) (hE:EnvS f (QS q x) w) (level:Int) (index count:Nat) (hi:4*index<count) (hc:count<9223372036854775808) (hft:s.net.fetches<1152921504606846000) (hlen:x.vs.length<1099511627775) (hsm:NetSmall s.net) :
  Calls prog 92 #[.pointer (some ⟨q.gq,0,none⟩),.int .i64 level,.int .i64 index,.int .i64 count,.func (.func 93) #[] #[]] w (FilePost f w q x N d (fileQ fitsBun level index count s)):=by
 have hfitl:∀ (W:World) (v:Value) (data:List UInt8) (wd w1:Nat),BytesAt W v data→data.length≤1099511627776→1≤w1→w1≤wd→wd≤4→Calls prog 93 #[v,.int .i64 wd,.int .i64 w1] W (FitPost (fitsBun data wd w1) W):=fun W v data wd w1 hb hl _ _ _=>bfit_any W _ data wd w1 hb hl (by omega) (by omega) (by omega)
 obtain⟨w1,hw1⟩:∃ w1,w1=wideAt index count:=⟨_,rfl⟩
 have hwb:1≤w1∧w1≤4:=by unfold wideAt at hw1;omega
 obtain⟨t0,ht0⟩:∃ t0,t0=tileName level index w1:=⟨_,rfl⟩
 have hat:=fat_any level index count w hi hc hE.num
 rw[show min 4 (count-4*index)=w1 from hw1.symm] at hat
 have e0:sOf (nameOf level (index:Int) ((w1:Nat):Int))=t0:=ht0.symm
 rw[e0] at hat
 have ht0s:t0.size≤maxLen:=by rw[ht0];exact name_size level index w1 (by omega)
 have HFIT:=zh hfitl
 have HAT:=zh hat
 have HW1:=zh hw1
 have HT0:=zh ht0
 have H:=zh h
 have HE:=zh hE
 have hgw:q.gq<w.heap.size:=lt_of_heap h.look
 clear hfitl hat hw1 e0 h hE ht0
 obtain⟨k0,k1,k2,k3,k4,k5,k6⟩:=H.o.heads
 cases hff:ffind x.vs t0 with
 | some y=>
  obtain⟨hym,hyk⟩:=ffind_mem hff
  obtain⟨ya,yn,yc,hyv⟩:=fe_own H.o hym
  have hcg:fget x.vs t0=some (.slice ya yn yc):=by unfold fget;rw[hff,←hyv];rfl
  have hq:fileQ fitsBun level index count s=(.ok y.data,s):=fileQ_files1 (by rw[←HW1.o,←HT0.o,H.o.files,kvGet_fe,hff];rfl)
  have hob:=(H.o.vals y hym).1
  rw[hyv] at hob
  have HQ:=zh hq
  have HOB:=zh hob
  clear hq hob hyv hym hyk hff
  go_enter func92,ntmps92
  go_wp2_with (first|(go_at_call 123;refine HAT.o.mono ?_;rintro e w2 ⟨rfl,hb2⟩;have H2:=zh (H.o.below hb2);have HB2:=zh hb2;obtain⟨j0,j1,j2,j3,j4,j5,j6⟩:=H2.o.heads;clear hb2)|(at_lookup;refine wpList_kmLook _ rfl _ _ 248 rfl 9 94 underlying9 underlying248 (z:=.slice none 0 0) rfl q.mq x.vs.length (fget x.vs) rfl H2.o.km t0 rfl ht0s ?_;rw[hcg];simp only[Option.getD,Option.isSome])|fail)
  go_ret2
  rw[HQ.o]
  exact⟨(QStep.here H.o).below HB2.o,.inl ⟨_,_,_,_,rfl,rfl,HOB.o.same fun k C fz hk=>HB2.o.block k (lt_of_heap hk)⟩⟩
 | none=>
  have hcg:fget x.vs t0=none:=by unfold fget;rw[hff];rfl
  have hkv0:kvGet s.files (tileName level index (wideAt index count))=none:=by rw[←HW1.o,←HT0.o,H.o.files,kvGet_fe,hff];rfl
  have HFF:=zh hff
  cases hcf:cfind x.qs t0 with
  | some z=>
   obtain⟨hzk,lz,rz,hzs,_⟩:=cfind_split hcf
   have hzm:z∈x.qs:=by rw[hzs];simp
   obtain⟨ya,yn,yc,hyv⟩:=ce_own H.o.cache hzm
   have hq:fileQ fitsBun level index count s=(.ok z.data,keepQ t0 z.data { s with cache:=cacheGet s.cache t0 }):=by
    have:=fileQ_cache (fits:=fitsBun) hkv0 (b:=z.data) (by rw[←HW1.o,←HT0.o,H.o.cache.items,kvGet_kv,hcf];rfl)
    rw[←HW1.o,←HT0.o] at this
    exact this
   have HQ:=zh hq
   have HYV:=zh hyv
   have HCF:=zh hcf
   clear hq hyv hzk hzs hzm hkv0 hff hcf
   go_enter func92,ntmps92
   go_wp2_with (first|(go_at_call 123;refine HAT.o.mono ?_;rintro e w2 ⟨rfl,hb2⟩;have H2:=zh (H.o.below hb2);have HB2:=zh hb2;obtain⟨j0,j1,j2,j3,j4,j5,j6⟩:=H2.o.heads;clear hb2)|(at_lookup;refine wpList_kmLook _ rfl _ _ 248 rfl 9 94 underlying9 underlying248 (z:=.slice none 0 0) rfl q.mq x.vs.length (fget x.vs) rfl H2.o.km t0 rfl ht0s ?_;rw[hcg];simp only[Option.getD,Option.isSome])|(go_at_call 146;refine (cget_any _ q.gk q.mc s.cache x.qs t0 H2.o.cache ht0s).mono ?_;intro e w3 h3;have h3':=get_hit1 HCF.o h3;rw[HYV.o] at h3';obtain⟨rfl,qs',hc3,hf3,hz3,hiff,hv3⟩:=h3';have hq3:=H2.o.cacheStep hc3 hf3;have H3:=zh hq3;have HF3:=zh hf3;have HZ3:=zh hz3;have HI3:=zh hiff;have HV3:=zh hv3;clear h3 hc3 hf3 hz3 hiff hv3 hq3)|(go_at_call 147;refine (keep_any _ q _ N _ d H3.o t0 ya yn yc z.data HV3.o HFF.o ht0s hlen).mono ?_;rintro e w4 ⟨rfl,hq4⟩;have HQ4:=zh hq4;clear hq4)|fail)
   go_ret2
   rw[HQ.o]
   have hb4:=HQ4.o
   obtain⟨x4,h4,hf4,hs4⟩:=hb4
   refine⟨QStep.trans ((Fr.ofBelow HB2.o).trans (HF3.o.weak fun _ _ e=>.inr (.inl e))) ?_ ⟨x4,h4,hf4,hs4⟩,.inl ⟨_,_,_,_,rfl,rfl,?_⟩⟩
   ·intro k hk
    rcases hk with e|e|e
    ·exact .inl (.inl e)
    ·exact .inl (.inr (.inl ((HI3.o k).1 e)))
    ·exact .inl (.inr (.inr e))
   ·exact bytes_qs HV3.o.1 hf4 H3.o
  | none=>
   have hq:fileQ fitsBun level index count s=fetchQ fitsBun level index w1 s:=by
    have:=fileQ_fetch (fits:=fitsBun) hkv0 (by rw[←HW1.o,←HT0.o,H.o.cache.items,kvGet_kv,hcf];rfl)
    rw[←HW1.o] at this
    exact this
   have HQ:=zh hq
   have HCF:=zh hcf
   have HNS:=zh hsm
   clear hq hkv0 hff hcf hsm
   go_enter func92,ntmps92
   go_upto_region 9 with (first|(go_at_call 123;refine HAT.o.mono ?_;rintro e w2 ⟨rfl,hb2⟩;have H2:=zh (H.o.below hb2);have HB2:=zh hb2;obtain⟨j0,j1,j2,j3,j4,j5,j6⟩:=H2.o.heads;clear hb2)|(at_lookup;refine wpList_kmLook _ rfl _ _ 248 rfl 9 94 underlying9 underlying248 (z:=.slice none 0 0) rfl q.mq x.vs.length (fget x.vs) rfl H2.o.km t0 rfl ht0s ?_;rw[hcg];simp only[Option.getD,Option.isSome])|(go_at_call 146;refine (cget_any _ q.gk q.mc s.cache x.qs t0 H2.o.cache ht0s).mono ?_;intro e w3 h3;obtain⟨rfl,rfl⟩:=get_miss1 HCF.o h3;clear h3)|fail)
   go_wp2
   obtain⟨wb,hwb⟩:∃ wb,wb=w3.alloc (.cells #[.int .i64 w1,.int .i64 4] 3):=⟨_,rfl⟩
   rw[←hwb]
   have hbb:Below w.heap.size w wb:=by rw[hwb];exact HB2.o.trans ((below_alloc w3 _).mono HB2.o.size)
   have hgb:wb.heap[w3.heap.size]?=some (.cells #[.int .i64 w1,.int .i64 4] 3 (0,0)):=by rw[hwb];exact heap_alloc_new w3 _
   have hQb:QIs wb q x N s d:=H.o.below hbb
   have hgn:¬ netS q.gn q.vt w3.heap.size:=fun e=>by
    have hz:=HB2.o.size
    rcases e with e|e
    ·have:=H.o.net.lt;omega
    ·obtain⟨C,hC⟩:=ownBlock_type H.o.net.told e
     have:=lt_of_heap hC;omega
   have HBB:=zh hbb
   have HGB:=zh hgb
   have HGN:=zh hgn
   have HQB:=zh hQb
   clear hwb hbb hgb hQb hgn j0 j1 j2 j3 j4 j5 j6 k0 k1 k2 k3 k4 k5 k6
   go_loopg [63] 2 (fun gg s63 wr=>∃ kk:Nat,kk≤2∧2-kk≤gg∧s63=.int .i64 kk∧Aside (Fr (netS q.gn q.vt) wb wr)∧Aside ((∃ sk nm wd,kk<2∧Rnd fitsBun level index w1 s kk sk nm wd∧QIs wr q x N sk d∧sk.net.fetches≤s.net.fetches+kk∧NetSmall sk.net∧wd=(if kk=0 then w1 else 4)∧(kk=0→sk=s))∨(kk=2∧∃ sk,fetchQ fitsBun level index w1 s=(.error (.miss t0),sk)∧QIs wr q x N sk d)))
   case atStart=>exact⟨0,by omega,by omega,rfl,Fr.refl _ _,.inl ⟨s,tileName level index w1,w1,by omega,rnd0 _ _ _ _ _ hwb.2,HQB.o,Nat.le_refl _,HNS.o,rfl,fun _=>rfl⟩⟩
   case round=>
    obtain⟨kk,hkk,hg,rfl,HFW,HR⟩:=hrel
    have HEr:=zh ((HE.o.below HBB.o).fr (HFW.o.weak fun _ _ e=>.inr (.inr e)))
    obtain⟨_,_,_,_,_,g5,_⟩:=HEr.o.sents.cells
    rcases HR.o with ⟨sk,nm,wd,hk2,hR,hQ,hfe,hns,hwd,hs0⟩|⟨hk2,sk,hfq,hQ⟩
    ·have hcell:wr.cell? ⟨w3.heap.size,kk,none⟩=some (.int .i64 wd):=by
      refine HFW.o.cell (p:=⟨w3.heap.size,kk,none⟩) ?_ HGN.o
      rcases Nat.lt_or_ge kk 1 with h0|h0
      ·obtain rfl:kk=0:=by omega
       rw[hwd,if_pos rfl]
       exact cell_heap HGB.o 0 rfl
      ·obtain rfl:kk=1:=by omega
       rw[hwd,if_neg (by decide)]
       exact cell_heap HGB.o 1 rfl
     have hkz:(kk:Int)<2:=by omega
     have hk0:(0:Int)≤(kk:Int):=by omega
     have hwdb:=hR.wide
     have c0:=hQ.heads.1
     have c0d:wr.drew.cell? ⟨q.gq,0,none⟩=some (.pointer (some ⟨q.gc,0,none⟩)):=c0
     have hgr:q.gq<wr.heap.size:=cell_lt c0
     have hnm:=hR.name
     have hname:∀ W,Below wr.heap.size wr W→Calls prog 127 #[.int .i64 level,.int .i64 index,.int .i64 wd] W fun e w'=>e=.returned (.string nm)∧Below W.heap.size W w':=fun W hW=>by
      rw[hnm]
      exact fname_any level index wd W (by omega) ((HEr.o.below hW).num)
     have hfet:∀ W,Below wr.heap.size wr W→Calls prog 85 #[.pointer (some ⟨q.gc,0,none⟩),.string nm] W (FetchedPost W q x N sk d nm):=fun W hW=>cfetch_any W q x N sk d (hQ.below hW) nm (by omega)
     have HNAME:=zh hname
     have HFET:=zh hfet
     have HR0:=zh hR
     have HNS0:=zh hns
     have HFE:=zh hfe
     have HWD:=zh hwd
     have HS0:=zh hs0
     have HQ0:=zh hQ
     clear HR hR hns hfe hwd hs0 hQ hnm hname hfet
     go_upto_region 12 with fail
     cases hfa:fetchA sk.net nm with
     | none=>
      have HFA:=zh hfa
      clear hfa
      go_region_held3 (fun w'=>w'.cell? ⟨q.gq,0,none⟩=some (.pointer (some ⟨q.gc,0,none⟩))) (first|(with_reducible first|exact c0|exact c0d|exact m0|exact n0)|exact c0d|fail) (first|(go_at_call 127;refine (HNAME.o _ (below_drew wr)).mono ?_;rintro e w4 ⟨rfl,hb4⟩;have HB4:=zh (show Below wr.heap.size wr w4 from (below_drew wr).trans hb4);have m0:=(HB4.o.cell (p:=⟨q.gq,0,none⟩) hgr).trans c0;clear hb4)|(go_at_call 85;refine (HFET.o w4 HB4.o).mono ?_;intro e w5 h5;obtain⟨hq5,hf5,hy5⟩:=fetched_no HFA.o h5;have HQ5:=zh hq5;have HF5:=zh ((Fr.ofBelow HB4.o).trans hf5);have n0:=hq5.heads.1;obtain⟨a5,n5,c5,q5,rfl⟩:=hy5;clear h5 hq5 hf5)|fail)
      all_goals (
       have hty:tryQ fitsBun nm wd w1 sk=none:=by unfold tryQ;rw[HFA.o];rfl
       have HTY:=zh hty
       clear hty
       by_cases h4:w1=4
       ·have h4z:(w1:Int)=4:=by omega
        have HFQ:=zh (HR0.o.last HTY.o (.inl h4))
        rw[←HT0.o] at HFQ
        have HQK:=zh HQ5.o
        obtain⟨_,_,_,_,_,g5,_⟩:=(HEr.o.fr (HF5.o.weak fun _ _ e=>.inr (.inr e))).sents.cells
        clear h4
        have g5d:w5.drew.cell? ⟨6,0,none⟩=some (.iface 338 (.pointer (some (f 5)))):=g5
        go_wp2_with fail
        go_region
        all_goals (
         go_wp2
         go_ret2
         have hbf:Below w5.heap.size w5 (w5.alloc (.cells #[.string t0,.iface 338 (.pointer (some (f 5)))] 155)).drew:=(below_alloc w5 _).drew
         rw[HQ.o,HFQ.o]
         exact⟨(QStep.trans ((Fr.ofBelow HBB.o).trans ((HFW.o.trans HF5.o).weak fun _ _ e=>.inr (.inr e))) (Sub.refl _ _) (QStep.here HQK.o)).below hbf,.inr ⟨t0,_,rfl,rfl,w5.heap.size,rfl,Nat.le_trans HBB.o.size (HFW.o.trans HF5.o).size,heap_alloc_new w5 _⟩⟩)
       ·have h4z:¬ (w1:Int)=4:=by omega
        have H4:=zh h4
        clear h4
        go_wp2
        go_roundg (2-(kk+1))
        case measure=>omega
        case rel=>exact file_next HR0.o HQ5.o HNS0.o HFE.o HWD.o HS0.o HT0.o HTY.o H4.o hwb.2 (by omega) (HFW.o.trans HF5.o) (Nat.le_refl _) (by go_num))
     | some data=>
      have HFA:=zh hfa
      clear hfa
      go_region_held3 (fun w'=>w'.cell? ⟨q.gq,0,none⟩=some (.pointer (some ⟨q.gc,0,none⟩))) (first|(with_reducible first|exact c0|exact c0d|exact m0|exact n0)|exact c0d|fail) (first|(go_at_call 127;refine (HNAME.o _ (below_drew wr)).mono ?_;rintro e w4 ⟨rfl,hb4⟩;have HB4:=zh (show Below wr.heap.size wr w4 from (below_drew wr).trans hb4);have m0:=(HB4.o.cell (p:=⟨q.gq,0,none⟩) hgr).trans c0;clear hb4)|(go_at_call 85;refine (HFET.o w4 HB4.o).mono ?_;intro e w5 h5;obtain⟨hq5,hf5,hy5⟩:=fetched_yes HFA.o h5;have HQ5:=zh hq5;have HF5:=zh ((Fr.ofBelow HB4.o).trans hf5);have n0:=hq5.heads.1;obtain⟨a5,n5,c5,q5,rfl⟩:=hy5;clear h5 hq5 hf5)|fail)
      all_goals (
       have HO5:=zh q5
       clear q5
       cases hfv:fitsBun data wd w1 with
       | none=>
        have hty:tryQ fitsBun nm wd w1 sk=none:=by unfold tryQ;rw[HFA.o];exact hfv
        have HTY:=zh hty
        have HFV:=zh hfv
        clear hty hfv
        by_cases h4:w1=4
        ·have HFQ:=zh (HR0.o.last HTY.o (.inl h4))
         rw[←HT0.o] at HFQ
         have H4:=zh h4
         clear h4
         go_upto_region 15 with (first|(go_at_call 93;refine (HFIT.o _ _ data wd w1 HO5.o.at (fetch_small HNS0.o HFA.o) hwb.1 hwdb.1 hwdb.2).mono ?_;intro e w6 h6;obtain⟨hb6,a6,n6,c6,rfl⟩:=fit_no HFV.o h6;have HB6:=zh hb6;clear h6 hb6)|fail)
         have HQK:=zh (HQ5.o.below HB6.o)
         have h4z:(w1:Int)=4:=by have:=H4.o;omega
         obtain⟨_,_,_,_,_,g5,_⟩:=((HEr.o.fr (HF5.o.weak fun _ _ e=>.inr (.inr e))).below HB6.o).sents.cells
         have g5d:w6.drew.cell? ⟨6,0,none⟩=some (.iface 338 (.pointer (some (f 5)))):=g5
         go_wp2_with fail
         go_region
         all_goals (
          go_wp2
          go_ret2
          have hbf:Below w6.heap.size w6 (w6.alloc (.cells #[.string t0,.iface 338 (.pointer (some (f 5)))] 155)).drew:=(below_alloc w6 _).drew
          rw[HQ.o,HFQ.o]
          exact⟨(QStep.trans ((Fr.ofBelow HBB.o).trans (((HFW.o.trans HF5.o).trans (Fr.ofBelow HB6.o)).weak fun _ _ e=>.inr (.inr e))) (Sub.refl _ _) (QStep.here HQK.o)).below hbf,.inr ⟨t0,_,rfl,rfl,w6.heap.size,rfl,Nat.le_trans HBB.o.size ((HFW.o.trans HF5.o).trans (Fr.ofBelow HB6.o)).size,heap_alloc_new w6 _⟩⟩)
        ·have h4z:¬ (w1:Int)=4:=by omega
         have H4:=zh h4
         clear h4
         go_wp2_with (first|(go_at_call 93;refine (HFIT.o _ _ data wd w1 HO5.o.at (fetch_small HNS0.o HFA.o) hwb.1 hwdb.1 hwdb.2).mono ?_;intro e w6 h6;obtain⟨hb6,a6,n6,c6,rfl⟩:=fit_no HFV.o h6;have HB6:=zh hb6;clear h6 hb6)|fail)
         go_roundg (2-(kk+1))
         case measure=>omega
         case rel=>exact file_next HR0.o (HQ5.o.below HB6.o) HNS0.o HFE.o HWD.o HS0.o HT0.o HTY.o H4.o hwb.2 (by omega) ((HFW.o.trans HF5.o).trans (Fr.ofBelow HB6.o)) (Nat.le_refl _) (by go_num)
       | some b=>
        have hty:tryQ fitsBun nm wd w1 sk=some b:=by unfold tryQ;rw[HFA.o];exact hfv
        have hfq:=HR0.o.fit b hty
        rw[←HT0.o] at hfq
        have HFQ:=zh hfq
        have HFV:=zh hfv
        clear hty hfv hfq
        go_wp2_with (first|(go_at_call 93;refine (HFIT.o _ _ data wd w1 HO5.o.at (fetch_small HNS0.o HFA.o) hwb.1 hwdb.1 hwdb.2).mono ?_;intro e w6 h6;obtain⟨hb6,a6,n6,c6,ho6,rfl⟩:=fit_yes HFV.o h6;have HB6:=zh hb6;have HO6:=zh ho6;have HQ6:=zh (HQ5.o.below hb6);clear h6 hb6 ho6)|(go_at_call 147;refine (keep_any _ q x N _ d HQ6.o t0 a6 n6 c6 b (OwnB.new HO6.o HQ5.o.o) HFF.o ht0s hlen).mono ?_;rintro e w7 ⟨rfl,hq7⟩;have HQ7:=zh hq7;clear hq7)|fail)
        go_ret2
        rw[HQ.o,HFQ.o]
        obtain⟨x7,h7,hf7,hs7⟩:=HQ7.o
        exact⟨QStep.trans ((Fr.ofBelow HBB.o).trans (((HFW.o.trans HF5.o).trans (Fr.ofBelow HB6.o)).weak fun _ _ e=>.inr (.inr e))) (Sub.refl _ _) ⟨x7,h7,hf7,hs7⟩,.inl ⟨_,_,_,_,rfl,rfl,bytes_qs (HO6.o.mono (Nat.zero_le _)) hf7 HQ6.o⟩⟩)
    ·subst hk2
     have HQK:=zh hQ
     have HFQ:=zh hfq
     clear hQ hfq HR
     have g5d:wr.drew.cell? ⟨6,0,none⟩=some (.iface 338 (.pointer (some (f 5)))):=g5
     go_wp2_with fail
     go_region
     all_goals (
      go_wp2
      go_ret2
      have hbf:Below wr.heap.size wr (wr.alloc (.cells #[.string t0,.iface 338 (.pointer (some (f 5)))] 155)).drew:=(below_alloc wr _).drew
      rw[HQ.o,HFQ.o]
      exact⟨(QStep.trans ((Fr.ofBelow HBB.o).trans (HFW.o.weak fun _ _ e=>.inr (.inr e))) (Sub.refl _ _) (QStep.here HQK.o)).below hbf,.inr ⟨t0,_,rfl,rfl,wr.heap.size,rfl,Nat.le_trans HBB.o.size HFW.o.size,heap_alloc_new wr _⟩⟩)
end
end
section
section
variable [Inhabited OutT]
theorem wpList_copyB8 {P:Program} {ops:Array Oper} {rest:List Oper} {o:Oper} {a:Act} {Q:Exit→Act→World→Prop} {w:World} (hgd:o.guard=none) (x y:Operand) (t ts:TypeId)
  (ho:o.op=.call { callee:=.builtin .copy,args:=#[x,y],argTypes:=#[t,ts] }) (e:TypeId) (ht:P.underlying t=some (.slice e)) (hsz:(P.info? e).map (·.size)=some 1)
  (g:Nat) (hx:a.eval x=.slice (some ⟨g,0,none⟩) 8 8) (ad:Option Addr) (n c:Nat) (l:List UInt8) (hy:a.eval y=.slice ad n c) (hb:BytesAt w (.slice ad n c) l) (hg:hashOf w g zero8)
  (h:∀ k w',hashOf w' g (eightOf l)→Fr (·=g) w w'→w'.heap.size=w.heap.size→wpList P ops Q rest (a.put o.dst k) w'):wpList P ops Q (o :: rest) a w:=by
 have:=(inferInstance:Inhabited OutT)
 obtain⟨ad',c',hv,hc,hcells⟩:=hb
 simp only[Value.slice.injEq] at hv
 obtain⟨rfl,rfl,rfl⟩:=hv
 cases l with
 | nil=>
  refine wpList_copy_nothing hgd x y t ts ho e ht hsz (some ⟨g,0,none⟩) ad 8 8 0 c hx hy rfl ?_
  exact h _ w (by rw[show eightOf []=zero8 from rfl];exact hg) (Fr.refl _ _) rfl
 | cons b l=>
  obtain⟨bk,off,rfl,_⟩:=hcells 0 (u8 b) (by simp)
  obtain⟨cs,hcs⟩:∃ cs,cs=((b :: l).take 8).map u8:=⟨_,rfl⟩
  have hg':w.heap[g]?=some (.cells (h8 zero8) 109 (0,0)):=hg
  refine wpList_copy_own hgd x y t ts ho e ht hsz g 0 8 8 ⟨bk,off,none⟩ _ c hx hy (h8 zero8) 109 hg' cs (by rw[hcs,List.length_map,List.length_take,Nat.min_comm]) (fun j v hj=>?_) (by rw[hcs,List.length_map,List.length_take,h8_size];omega) (fun v hv=>by
   rw[hcs] at hv
   obtain⟨z,_,rfl⟩:=List.mem_map.1 hv
   rfl) ?_
  ·rw[hcs,List.map_take] at hj
   have hj8:=(List.getElem?_eq_some_iff.1 hj).1
   rw[List.length_take] at hj8
   rw[List.getElem?_take_of_lt (by omega)] at hj
   obtain⟨bk',off',heq,h1⟩:=hcells j v hj
   cases heq
   rw[Addr.add_lit]
   exact h1
  ·have hrow:((h8 zero8).toList.take 0++(cs++(h8 zero8).toList.drop (0+cs.length))).toArray=h8 (eightOf (b :: l)):=by
    apply Array.ext'
    have hz:(h8 zero8).toList=List.replicate 8 (Value.int .u8 0):=by rw[h8_list];rfl
    rw[←eight_list,hcs,hz]
    simp[Nat.min_comm]
    rw[show min (l.length+1) 8=min l.length 7+1 by omega]
    rfl
   rw[hrow]
   refine h _ _ (hashOf_set hg _) ⟨rfl,rfl,rfl,by simp[World.setRow],fun k hk hs=>setRow_other w g k _ (fun e=>hs e)⟩ (by simp[World.setRow])
theorem bytes_cut {w:World} {b off n c k:Nat} {l:List UInt8} (h:BytesAt w (.slice (some ⟨b,off,none⟩) n c) l) (hk:k≤l.length) (hn:n=l.length) (hc:n≤c):BytesAt w (.slice (if c=k then some ⟨b,off,none⟩ else some ⟨b,off+k,none⟩) (n-k) (c-k)) (l.drop k):=by
 have:=(inferInstance:Inhabited OutT)
 by_cases e:c=k
 ·rw[if_pos e]
  refine⟨some ⟨b,off,none⟩,c-k,by rw[List.length_drop,hn],by rw[List.length_drop];omega,fun j u hu=>?_⟩
  have:=(List.getElem?_eq_some_iff.1 hu).1
  rw[List.length_map,List.length_drop] at this
  omega
 ·rw[if_neg e]
  obtain⟨a0,c0,hv,hc,hx⟩:=h
  simp only[Value.slice.injEq] at hv
  obtain⟨rfl,rfl,rfl⟩:=hv
  refine⟨some ⟨b,off+k,none⟩,c-k,by rw[List.length_drop],by rw[List.length_drop];omega,fun j u hu=>?_⟩
  rw[List.map_drop,List.getElem?_drop] at hu
  obtain⟨b',off',heq,h1⟩:=hx (k+j) u hu
  cases heq
  exact⟨b,off+k,rfl,by rw[Nat.add_assoc];exact h1⟩
theorem info_one:(prog.info? 5).map (·.size)=some 1:=by have:=(inferInstance:Inhabited OutT);show _=_;kernel_rfl
theorem bytes_len {w:World} {a:Option Addr} {n c:Nat} {l:List UInt8} (h:BytesAt w (.slice a n c) l):n=l.length∧n≤c:=by
 have:=(inferInstance:Inhabited OutT)
 obtain⟨a0,c0,hv,hc,hx⟩:=h
 simp only[Value.slice.injEq] at hv
 obtain⟨rfl,rfl,rfl⟩:=hv
 exact⟨rfl,hc⟩
theorem QIs.lt {w:World} {q:Qf} {x:Qv} {N:Nat} {s:Cs} {d:Dk} (h:QIs w q x N s d) {k:Nat} (hk:QS q x k):k<w.heap.size:=by
 rcases hk with (e|e|e)|(e|e|e)|(e|e)
 ·rw[e];exact lt_of_heap h.look
 ·rw[e];exact h.km.lt
 ·obtain⟨C,hC⟩:=ownBlock_type h.ord e
  exact lt_of_heap hC
 ·obtain⟨l,r,h2⟩:=h.cache.ring.ends
  rw[e];exact lt_of_heap h2
 ·rw[e];exact h.cache.km.lt
 ·exact h.cache.ring.lt (by rw[tri_fst];exact e)
 ·rw[e];exact h.net.lt
 ·obtain⟨C,hC⟩:=ownBlock_type h.net.told e
  exact lt_of_heap hC
theorem hash_drew {w:World} {g:Nat} {k:Hsh} (h:hashOf w g k):hashOf w.drew g k:=have:=(inferInstance:Inhabited OutT);h
theorem hash_fr {S:Nat→Prop} {w w':World} {g:Nat} {k:Hsh} (h:hashOf w g k) (hf:Fr S w w') (hg:¬ S g):hashOf w' g k:=have:=(inferInstance:Inhabited OutT);hf.heap h hg
def qTs:List TypeId:=[250,9,5,177,246,244,103,75,3,41,73]
theorem QIs.kept {S:Nat→Prop} {ts:List TypeId} {w w':World} {q:Qf} {x:Qv} {N:Nat} {s:Cs} {d:Dk} (h:QIs w q x N s d) (hf:Fr S w w') (hS:Kinds w S ts) (ht:∀ t∈qTs,t ∉ ts) (hm:∀ k es c,w.heap[k]?=some (.map es c)→¬ S k):QIs w' q x N s d where
 look:=heap_kept h.look hf hS (ht _ (by decide))
 km:=by obtain⟨es,c,hb⟩:=km_obj h.km;exact h.km.fr hf (hm _ _ _ hb)
 ord:=row_kept h.ord hf hS (ht _ (by decide))
 vals y hy:=bytes_keptB (h.vals y hy) hf hS (ht _ (by decide))
 keys:=h.keys
 small:=h.small
 files:=h.files
 cli:=heap_kept h.cli hf hS (ht _ (by decide))
 c2:=h.c2
 c13:=h.c13
 cache:=by obtain⟨es,c,hb⟩:=km_obj h.cache.km;exact cache_kept h.cache hf hS (hm _ _ _ hb) (ht _ (by decide)) (ht _ (by decide)) (ht _ (by decide))
 net:=net_kept h.net hf hS (ht _ (by decide)) (ht _ (by decide)) (ht _ (by decide))
 disk:=h.disk.kept hf hS (ht _ (by decide)) (ht _ (by decide))
 dfiles:=h.dfiles
 maps:=h.maps
 o z hz:=Nat.lt_of_lt_of_le (h.o z hz) hf.size
theorem QStep.own {a b c:World} {q:Qf} {x:Qv} {N:Nat} {d:Dk} {s:Cs} {g:Nat} {C:Array Value} {t:TypeId} (h:QStep a q x N d b s) (hf:Fr (·=g) b c) (hg:b.heap[g]?=some (.cells C t (0,0))) (ht:t ∉ qTs) (hga:a.heap.size≤g):QStep a q x N d c s:=by
 obtain⟨y,h1,h2,h3⟩:=h
 exact⟨y,h1.kept hf (kinds_one hg) (fun t' h' e=>ht (by rw[List.mem_singleton] at e;rw[←e];exact h')) (fun k es c' hk e=>by subst e;rw[hg] at hk;cases hk),h2.step hf fun i hi e=>by omega,h3⟩
theorem setRow_fr (w:World) (g:Nat) (cs:Array Value):Fr (·=g) w (w.setRow g cs):=have:=(inferInstance:Inhabited OutT);⟨rfl,rfl,rfl,by simp[World.setRow],fun k _ hs=>setRow_other w g k cs (fun e=>hs e)⟩
theorem MissErr.fr {S:Nat→Prop} {ts:List TypeId} {f:Nat→Addr} {w w':World} {base:Nat} {p:ByteArray} {u:Value} (h:MissErr f w base p u) (hf:Fr S w w') (hS:Kinds w S ts) (ht:155 ∉ ts):MissErr f w' base p u:=by
 have:=(inferInstance:Inhabited OutT)
 obtain⟨q,rfl,h1,h2⟩:=h
 exact⟨q,rfl,h1,heap_kept h2 hf hS ht⟩
theorem MissErr.low {f:Nat→Addr} {w:World} {base base':Nat} {p:ByteArray} {u:Value} (h:MissErr f w base p u) (hb:base'≤base):MissErr f w base' p u:=by
 have:=(inferInstance:Inhabited OutT)
 obtain⟨q,rfl,h1,h2⟩:=h
 exact⟨q,rfl,Nat.le_trans hb h1,h2⟩
def FullPost (f:Nat→Addr) (w:World) (q:Qf) (x:Qv) (N:Nat) (d:Dk) (r:Except QErr Hsh×Cs) (e:Ending) (w':World):Prop:=
 QStep w q x N d w' r.2∧((∃ h,r.1=.ok h∧e=.returned (.tuple #[.agg (h8 h),.nilIface]))∨∃ p u h,r.1=.error (.miss p)∧e=.returned (.tuple #[.agg (h8 h),u])∧MissErr f w' w.heap.size p u)
theorem full_even (f:Nat→Addr) (w:World) (q:Qf) (x:Qv) (N:Nat) (s:Cs) (d:Dk) (h:QIs w q x N s d) (hE:EnvS f (QS q x) w) (level index:Nat) (hev:level%2=0) (hlv:level≤62) (hi:(index+1)*2 ^ level≤N) (hN:N<9223372036854775808) (hft:s.net.fetches<1152921504606846000) (hlen:x.vs.length<1099511627775) (hsm:NetSmall s.net) (hp:(evenQ N level index s).1≠.error .panic) :
  Calls prog 89 #[.pointer (some ⟨q.gq,0,none⟩),.int .i64 level,.int .i64 index] w (FullPost f w q x N d (evenQ N level index s)):=by
 obtain⟨R,hRR⟩:∃ R,R=evenQ N level index s:=⟨_,rfl⟩
 rw[←hRR] at hp ⊢
 have HRR:=zh hRR
 clear hRR
 have hb0:=below_alloc w (.cells zc 109)
 have hpow:=Nat.two_pow_pos level
 have hilt:index<N / 2 ^ level:=(Nat.le_div_iff_mul_le hpow).2 hi
 have hNl:N / 2 ^ level≤N:=Nat.div_le_self _ _
 have HF:=zh (file_hash f _ q x N s d (h.below hb0) (hE.below hb0) ((level / 2:Nat):Int) (index / 4) (N / 2 ^ level) (by omega) (by omega) hft hlen hsm)
 have HQ:=zh (h.below hb0)
 have l0:(0:Int)≤(level:Int):=by omega
 have l1:(level:Int)≤62:=by omega
 have i0:(0:Int)≤(index:Int):=by omega
 have i1:(index:Int)<9223372036854775807:=by omega
 have hev2:((level:Int)%2 == 1)=false:=by rw[beq_eq_false_iff_ne];omega
 have k1:=HQ.o.heads.2.1
 have hgq:q.gq<(w.alloc (.cells zc 109)).heap.size:=cell_lt k1
 have h0:=h
 clear h hE hb0 hpow
 go_enter func89,ntmps89
 have hnl:w.heap.size<(w.alloc (.cells zc 109)).heap.size:=by simp
 have hnq:¬ QS q x w.heap.size:=fun e=>Nat.lt_irrefl _ (h0.lt e)
 have e1:(level:Int) / 2=((level / 2:Nat):Int):=rfl
 have e2:(index:Int) / 4=((index / 4:Nat):Int):=rfl
 have e3:(N:Int) / 2 ^ level=((N / 2 ^ level:Nat):Int):=by simp
 have HE123:=zh (And.intro e1 (And.intro e2 e3))
 have HNQ:=zh hnq
 clear e1 e2 e3 hnq h0
 go_wp2_with fail
 rw[HE123.o.1,HE123.o.2.1,HE123.o.2.2]
 refine HF.o.mono ?_
 intro e w1 h1
 obtain⟨hq1,h1⟩:=h1
 have hz1:hashOf w1 w.heap.size zero8:=by
  obtain⟨_,_,hf1,_⟩:=hq1
  exact hash_fr (hashOf_zero' rfl) hf1 HNQ.o
 obtain⟨r,hr⟩:∃ r,r=fileQ fitsHash ((level / 2:Nat):Int) (index / 4) (N / 2 ^ level) s:=⟨_,rfl⟩
 rw[←hr] at hq1 h1
 obtain⟨o,s1⟩:=r
 have HQ1:=zh hq1
 have HR:=zh hr
 clear hq1 hr
 have hsz0:w.heap.size≤(w.alloc (.cells zc 109)).heap.size:=by simp
 have fin:∀ (wx:World) (k:Hsh),Fr (·=w.heap.size) w1 wx→QStep w q x N d (wx.setRow w.heap.size (h8 k)) s1:=fun wx k hf=>
  (QStep.trans (Fr.ofBelow (below_alloc w _)) (Sub.refl _ _) HQ1.o).own (hf.trans (setRow_fr wx w.heap.size (h8 k))) hz1 (by decide) (Nat.le_refl _)
 have FIN:=zh fin
 clear fin
 rcases h1 with ⟨b,a,n,c,rfl,rfl,hob⟩|⟨p,u,rfl,rfl,hme⟩
 ·have hev3:R=partQ b (index%4) s1:=by
   rw[HRR.o]
   unfold evenQ Qm.bind
   rw[←HR.o]
  rw[hev3] at hp
  have hpb:¬ b.length<8*(index%4):=fun hlt=>hp (by unfold partQ;rw[if_pos hlt])
  have hpart:R=(.ok (hashAt b (index%4)),s1):=by rw[hev3];unfold partQ;rw[if_neg hpb]
  clear hev3
  obtain⟨hnb,hnc⟩:=bytes_len hob.at
  have HOB:=zh hob
  have HP:=zh hpart
  obtain⟨kk,hkk⟩:∃ kk,kk=8*(index%4):=⟨_,rfl⟩
  have hk13:IntKind.i64.wrap (8*(index:Int).tmod 4)=(kk:Int):=by
   rw[Int.tmod_eq_emod_of_nonneg i0,IntWalk.i64_in _ (by omega)]
   omega
  have hk15:kk≤n:=by omega
  have hk16:n≤c:=hnc
  have HKK:=zh hkk
  rw[←hkk] at hpb
  clear hp hpb hpart hkk
  rcases hob with ⟨hv,hb0⟩|⟨bk,off,c',C,fz,hv,_⟩
  ·simp only[Value.slice.injEq] at hv
   obtain⟨rfl,rfl,rfl⟩:=hv
   obtain rfl:kk=0:=by omega
   have hbn:BytesAt w1 (.slice none 0 0) (b.drop 0):=by rw[hb0];exact⟨none,0,rfl,Nat.le_refl _,fun j u hu=>by simp at hu⟩
   have HBF:=zh hbn
   clear hbn hnb
   go_upto_region 10 with fail
   go_still_tail 6,(by kernel_rfl)
   change wpList _ _ _ _ _ w1.drew
   refine wpList_copyB8 rfl _ _ 94 94 rfl 5 underlying94 info_one w.heap.size rfl _ _ _ _ rfl (HBF.o.below (below_drew w1)) (hash_drew hz1) ?_
   intro kx wx hx1 hx2 hx3
   have HX2:=zh hx2
   obtain⟨y8,hy8⟩:∃ y8,y8=eightOf (b.drop 0):=⟨_,rfl⟩
   rw[←hy8] at hx1
   have HY8:=zh hy8
   have HZ1:=zh hz1
   clear hx2 hx3 hy8 hz1 hk13 hk15 hk16 i0 i1 l0 l1 hev2 k1 hgq hnl hnc hilt hNl
   go_wp2_with (first|((first|refine wpList_load8 rfl 109 _ rfl _ rfl _ underlying109 info8 ?_ ?_ ?_|refine wpList_store8 rfl 109 _ _ rfl _ _ rfl rfl info8 ?_ ?_ ?_);rotate_left;focus((repeat(first|(with_reducible first|assumption|exact hashOf_set' ⟨_,by assumption⟩ _)|((with_reducible first|refine hashOf_zero' ?_|refine hashOf_at ?_|refine hashOf_set' (Is8_zero ?_) _);(first|rfl|(simp;done)|(simp;omega)))|with_reducible refine hashOf_old ?_ _|((with_reducible refine hashOf_other ?_ _ ?_);rotate_left;(focus(first|(simp;done)|(simp;omega)|omega)))|with_reducible first|refine hashOf_drew ?_|refine hashOf_below ?_ (by assumption)));done)))
   all_goals (
    refine ret8t w.heap.size y8 .nilIface rfl rfl rfl _ underlying109 info8 (hashOf_set hx1 _) rfl ?_
    rw[HP.o,HY8.o]
    exact⟨FIN.o wx _ ((Fr.ofBelow (below_drew w1)).trans HX2.o),.inl ⟨_,by unfold hashAt;rw[←HKK.o],rfl⟩⟩)
  ·simp only[Value.slice.injEq] at hv
   obtain⟨rfl,rfl,rfl⟩:=hv
   have hbf:=bytes_cut HOB.o.at (k:=kk) hk15 rfl hnc
   have HBF:=zh hbf
   clear hbf hnb
   go_upto_region 10 with fail
   go_still_tail 6,(by kernel_rfl)
   change wpList _ _ _ _ _ w1.drew
   refine wpList_copyB8 rfl _ _ 94 94 rfl 5 underlying94 info_one w.heap.size rfl _ _ _ _ rfl (HBF.o.below (below_drew w1)) (hash_drew hz1) ?_
   intro kx wx hx1 hx2 hx3
   have HX2:=zh hx2
   obtain⟨y8,hy8⟩:∃ y8,y8=eightOf (b.drop kk):=⟨_,rfl⟩
   rw[←hy8] at hx1
   have HY8:=zh hy8
   have HZ1:=zh hz1
   clear hx2 hx3 hy8 hz1 hk13 hk15 hk16 i0 i1 l0 l1 hev2 k1 hgq hnl hnc hilt hNl
   go_wp2_with (first|((first|refine wpList_load8 rfl 109 _ rfl _ rfl _ underlying109 info8 ?_ ?_ ?_|refine wpList_store8 rfl 109 _ _ rfl _ _ rfl rfl info8 ?_ ?_ ?_);rotate_left;focus((repeat(first|(with_reducible first|assumption|exact hashOf_set' ⟨_,by assumption⟩ _)|((with_reducible first|refine hashOf_zero' ?_|refine hashOf_at ?_|refine hashOf_set' (Is8_zero ?_) _);(first|rfl|(simp;done)|(simp;omega)))|with_reducible refine hashOf_old ?_ _|((with_reducible refine hashOf_other ?_ _ ?_);rotate_left;(focus(first|(simp;done)|(simp;omega)|omega)))|with_reducible first|refine hashOf_drew ?_|refine hashOf_below ?_ (by assumption)));done)))
   all_goals (
    refine ret8t w.heap.size y8 .nilIface rfl rfl rfl _ underlying109 info8 (hashOf_set hx1 _) rfl ?_
    rw[HP.o,HY8.o,HKK.o]
    exact⟨FIN.o wx _ ((Fr.ofBelow (below_drew w1)).trans HX2.o),.inl ⟨_,rfl,rfl⟩⟩)
 ·have HME:=zh hme
  obtain⟨q9,rfl,hq9,hh9⟩:=hme
  clear hh9
  go_wp2_with (first|((first|refine wpList_load8 rfl 109 _ rfl _ rfl _ underlying109 info8 ?_ ?_ ?_|refine wpList_store8 rfl 109 _ _ rfl _ _ rfl rfl info8 ?_ ?_ ?_);rotate_left;focus((repeat(first|(with_reducible first|assumption|exact hashOf_set' ⟨_,by assumption⟩ _)|((with_reducible first|refine hashOf_zero' ?_|refine hashOf_at ?_|refine hashOf_set' (Is8_zero ?_) _);(first|rfl|(simp;done)|(simp;omega)))|with_reducible refine hashOf_old ?_ _|((with_reducible refine hashOf_other ?_ _ ?_);rotate_left;(focus(first|(simp;done)|(simp;omega)|omega)))|with_reducible first|refine hashOf_drew ?_|refine hashOf_below ?_ (by assumption)));done)))
  refine ret8t w.heap.size zero8 _ rfl rfl rfl _ underlying109 info8 (hashOf_set hz1 _) rfl ?_
  have hev3:R=(.error (.miss p),s1):=by
   rw[HRR.o]
   unfold evenQ Qm.bind
   rw[←HR.o]
  rw[hev3]
  refine⟨FIN.o w1 _ (Fr.refl _ _),.inr ⟨p,_,zero8,rfl,rfl,?_⟩⟩
  exact ((HME.o.fr (setRow_fr w1 w.heap.size _) (kinds_one hz1) (by decide)).low hsz0)
end
end
section
open Go.RowKit Go.MuLone
abbrev cliC (mu:Int) (vf:Value) (key:ByteArray) (n:Int) (h:Hsh) (gk:Nat):Array Value:=#[.int .i32 mu,.int .u32 0,vf,.string key,.int .i64 n,bv h[0],bv h[1],bv h[2],bv h[3],bv h[4],bv h[5],bv h[6],bv h[7],.pointer (some ⟨gk,0,none⟩)]
section
variable [Inhabited OutT]
structure ClM (mu:Int) (w:World) (gc gk mc:Nat) (vf:Value) (c:Cl) (qs:List CEnt):Prop where
 cells:w.heap[gc]?=some (.cells (cliC mu vf c.key c.size c.root gk) 177 (0,0))
 cache:CacheIs w gk mc c.cache qs
abbrev ClIs (w:World) (gc gk mc:Nat) (vf:Value) (c:Cl) (qs:List CEnt):Prop:=ClM 0 w gc gk mc vf c qs
def clS (gc gk mc:Nat) (qs:List CEnt) (k:Nat):Prop:=k=gc∨cacheS gk mc qs k
section
variable {mu:Int} {w w':World} {gc gk mc:Nat} {vf:Value} {c:Cl} {qs:List CEnt}
theorem ClM.below (h:ClM mu w gc gk mc vf c qs) (hb:Below w.heap.size w w'):ClM mu w' gc gk mc vf c qs:=
 ⟨(hb.block _ (lt_of_heap h.cells)).trans h.cells,h.cache.fr (S:=fun _=>False) (Fr.ofBelow hb) (fun _ _=>id) (fun _ _ _ _=>id)⟩
theorem ClM.fr {S:Nat→Prop} (h:ClM mu w gc gk mc vf c qs) (hf:Fr S w w') (hs:∀ k,clS gc gk mc qs k→¬ S k) (hn:NoBytes w S):ClM mu w' gc gk mc vf c qs:=
 ⟨hf.heap h.cells (hs _ (.inl rfl)),h.cache.fr hf (fun i hi=>hs i (.inr hi)) hn⟩
theorem ClM.lt (h:ClM mu w gc gk mc vf c qs):gc<w.heap.size:=lt_of_heap h.cells
theorem ClM.noBytes (h:ClM mu w gc gk mc vf c qs):NoBytes w (·=gc):=fun k C fz hk e=>heap_ne hk h.cells (by decide) e
theorem ClM.apart (h:ClM mu w gc gk mc vf c qs):∀ k,cacheS gk mc qs k→¬ k=gc:=fun k hk e=>by
 rcases hk with e1|e1|e1
 ·obtain⟨l,r,h2⟩:=h.cache.ring.ends
  rw[←e1,e,h.cells] at h2;cases h2
 ·obtain⟨D,⟨es,cl,hb,_⟩,_⟩:=h.cache.km.ex
  rw[←e1,e,h.cells] at hb;cases hb
 ·obtain⟨k',v,_,l,r,h2⟩:=h.cache.ring.node (by rw[tri_fst];exact e1)
  rw[e,h.cells] at h2;cases h2
theorem ClM.ltS (h:ClM mu w gc gk mc vf c qs) {k:Nat} (hk:clS gc gk mc qs k):k<w.heap.size:=by
 rcases hk with rfl|rfl|rfl|hk
 ·exact h.lt
 ·obtain⟨l,r,h2⟩:=h.cache.ring.ends
  exact lt_of_heap h2
 ·exact h.cache.km.lt
 ·obtain⟨k',v,_,l,r,h2⟩:=h.cache.ring.node (by rw[tri_fst];exact hk)
  exact lt_of_heap h2
theorem ClM.turn (h:ClM mu w gc gk mc vf c qs) (mu':Int):ClM mu' (w.setCell ⟨gc,0,none⟩ (.int .i32 mu')) gc gk mc vf c qs:=
 ⟨(heap_setCell h.cells _).trans (by simp),h.cache.fr (Fr.set1 w gc 0 _) (fun i hi e=>h.apart i hi e) h.noBytes⟩
theorem lock_cl (h:ClM 0 w gc gk mc vf c qs):Calls prog 83 #[.pointer (some ⟨gc,0,none⟩)] w fun e w'=>e=.returned (.tuple #[])∧ClM 1 w' gc gk mc vf c qs∧Fr (·=gc) w w'∧w'.heap.size=w.heap.size:=
 (lock_free muLib ⟨gc,0,none⟩ w (cell_heap h.cells 0 rfl) (frozen_heap h.cells 0)).mono fun e w' hp=>by
  obtain⟨rfl,rfl⟩:=hp
  exact⟨rfl,h.turn 1,Fr.set1 w gc 0 _,by simp⟩
theorem unlock_cl (u:FrameMode) (h:ClM 1 w gc gk mc vf c qs):CallsD prog 84 #[.pointer (some ⟨gc,0,none⟩)] u w fun e u' w'=>u'=u∧e=.returned (.tuple #[])∧ClM 0 w' gc gk mc vf c qs∧Fr (·=gc) w w':=
 (unlock_deferred muLib ⟨gc,0,none⟩ u w (cell_heap h.cells 0 rfl) (frozen_heap h.cells 0)).mono fun e u' w' hp=>by
  obtain⟨rfl,rfl,rfl⟩:=hp
  exact⟨rfl,rfl,h.turn 0,Fr.set1 w gc 0 _⟩
end
theorem sum_lit (w:World):Calls prog 66 #[.slice none 0 0] w fun e w'=>e=.returned (.agg #[bv (hash [])[0],bv (hash [])[1],bv (hash [])[2],bv (hash [])[3],bv (hash [])[4],bv (hash [])[5],bv (hash [])[6],bv (hash [])[7]])∧Below w.heap.size w w':=by
 have:=(inferInstance:Inhabited OutT)
 have h:=sum_any (.slice none 0 0) [] w ⟨[],rfl,⟨none,0,rfl,Nat.le_refl _,fun j u h=>by cases h⟩,fun j u l h1 h2=>by cases h1⟩ (by simp) (fun l hl=>by cases hl)
 rw[h8_lit] at h
 exact h
theorem newClient_any (w:World) (vf:Value) (hvf:vf=.nilIface∨∃ a,vf=.iface 44 (.pointer (some a))) (key:ByteArray) (i:Int) (hi:i≤9223372036854775807) :
  Calls prog 41 #[vf,.string key,.int .i64 i] w fun e w'=>∃ gc gk mc,e=.returned (.pointer (some ⟨gc,0,none⟩))∧ClIs w' gc gk mc vf ⟨key,0,(hash []),⟨i.toNat,[]⟩⟩ []∧Below w.heap.size w w'∧w.heap.size≤gc∧w.heap.size≤gk∧w.heap.size≤mc:=by
 rcases hvf with rfl|⟨a,rfl⟩
 all_goals
  go_enter func41,ntmps41
  go_wp2_with (first
   | (go_at_call 66;refine (sum_lit w).mono ?_;rintro e w1 ⟨rfl,hb1⟩;have HB1:=zh hb1;clear hb1)
   | (go_at_call 82;refine (cnew_any w1 i hi).mono ?_;rintro e w2 ⟨gk,mc,rfl,hc2,hb2,hg2,hm2⟩;have HC2:=zh hc2;have HB2:=zh hb2;clear hc2 hb2)
   | fail)
  refine bodyPost_ret (results_tmp rfl _ _ _) rfl ⟨w2.heap.size,gk,mc,rfl,⟨heap_alloc_new w2 _,?_⟩,?_,?_,?_,?_⟩
  ·exact HC2.o.fr (S:=fun _=>False) (Fr.ofBelow (below_alloc w2 _)) (fun _ _=>id) (fun _ _ _ _=>id)
  ·have hz1:=HB1.o.size
   have hz2:=HB2.o.size
   exact (HB1.o.trans (HB2.o.mono hz1)).alloc (by omega) _
  ·exact Nat.le_trans HB1.o.size HB2.o.size
  ·exact Nat.le_trans HB1.o.size hg2
  ·exact Nat.le_trans HB1.o.size hm2
theorem ctrusted_any (w:World) (gc gk mc:Nat) (vf:Value) (c:Cl) (qs:List CEnt) (h:ClIs w gc gk mc vf c qs) :
  Calls prog 44 #[.pointer (some ⟨gc,0,none⟩)] w fun e w'=>e=.returned (trV c.size c.root)∧ClIs w' gc gk mc vf c qs∧Fr (·=gc) w w':=by
 have hlt:=h.lt
 obtain⟨W0,hW0⟩:∃ x,x=w.alloc (.cells (trC 0 zero8) 111):=⟨_,rfl⟩
 have T0:TrAt W0 w.heap.size 0 zero8:=by rw[hW0];exact heap_alloc_new w _
 have b0:Below w.heap.size w W0:=by rw[hW0];exact below_alloc w _
 have H:=zh (h.below b0)
 have H0:=zh h
 have HT:=zh T0
 have HB:=zh b0
 have HW:=zh hW0
 clear h hW0 T0 b0
 go_enter_defers func44,ntmps44
 go_upto_region 1 with fail
 rw[show w.alloc (.cells #[.int .i64 0,.int .u8 0,.int .u8 0,.int .u8 0,.int .u8 0,.int .u8 0,.int .u8 0,.int .u8 0,.int .u8 0] 111)=W0 from HW.o.symm]
 go_wp2_with (first
  | (go_at_call 83;refine (lock_cl H.o).mono ?_;rintro e w1 ⟨rfl,h1,hf1,hz1⟩;have H1:=zh h1;have HF1:=zh hf1;have d4:=cell_heap h1.cells 4 rfl;have d5:=cell_heap h1.cells 5 rfl;have d6:=cell_heap h1.cells 6 rfl;have d7:=cell_heap h1.cells 7 rfl;have d8:=cell_heap h1.cells 8 rfl;have d9:=cell_heap h1.cells 9 rfl;have d10:=cell_heap h1.cells 10 rfl;have d11:=cell_heap h1.cells 11 rfl;have d12:=cell_heap h1.cells 12 rfl;have hlt1:=h1.lt;have T1:TrAt w1 w.heap.size 0 zero8:=hf1.heap HT.o (Nat.ne_of_gt hlt);have HT1:=zh T1;clear h1 hf1 T1)
  | (refine wpList_storeT rfl _ _ rfl _ c.size c.root rfl rfl _ _ HT1.o ?_)
  | fail)
 have hT2:TrAt (w1.setRow w.heap.size (trC c.size c.root)) w.heap.size c.size c.root:=HT1.o.set _ _
 have hF2:Fr (·=w.heap.size) w1 (w1.setRow w.heap.size (trC c.size c.root)):=setRow_fr w1 w.heap.size _
 have h2:ClM 1 (w1.setRow w.heap.size (trC c.size c.root)) gc gk mc vf c qs:=H1.o.fr hF2 (fun k hk e=>by
  have:=H0.o.ltS hk
  have e:k=w.heap.size:=e
  omega) (fun k C fz hk e=>heap_ne hk HT1.o (by decide) e)
 refine leaves_cons (f:=84) (args:=#[.pointer (some ⟨gc,0,none⟩)]) (by simp) (by simp[go_sem]) ?_
 refine (unlock_cl .returning h2).mono ?_
 rintro e u' w3 ⟨rfl,rfl,h3,hf3⟩
 simp only[Leaves,settle]
 have hT3:TrAt w3 w.heap.size c.size c.root:=hf3.heap hT2 (Nat.ne_of_gt hlt)
 have hl:=run_loadVar_row (P:=prog) w3 w.heap.size _ 111 (trC c.size c.root) _ _ hT3 underlying111 rfl (by rw[infoT];rfl)
 refine⟨trV c.size c.root,?_,rfl,h3,?_⟩
 ·simp[results,results44,go_sem,asAddr,hl] at *
  try exact hl
 ·refine (((Fr.ofBelow HB.o).trans HF1.o).step hF2 fun i hi e=>?_).trans hf3
  have e:i=w.heap.size:=e
  omega
end
end
section
section
variable [Inhabited OutT]
structure Bnd (s:Cs) (k:Nat):Prop where
 fetches:s.net.fetches+2*k<1152921504606840000
 files:s.files.length+k<1099511627000
 small:NetSmall s.net
theorem Bnd.next {α:Type} {m:Qm α} {j k:Nat} {s:Cs} (h:Bnd s (j+k)) (hm:Costs m j) (hs:SameN s.net (m s).2.net):Bnd (m s).2 k:=by
 have:=(inferInstance:Inhabited OutT)
 have h1:=(hm s).fetches
 have h2:=(hm s).files
 have:=h.fetches
 have:=h.files
 exact⟨by omega,by omega,by unfold NetSmall;rw[hs.1,hs.2];exact h.small⟩
theorem Bnd.less {s:Cs} {j k:Nat} (h:Bnd s k) (hj:j≤k):Bnd s j:=have:=(inferInstance:Inhabited OutT);⟨by have:=h.fetches;omega,by have:=h.files;omega,h.small⟩
theorem QIs.vsLen {w:World} {q:Qf} {x:Qv} {N:Nat} {s:Cs} {d:Dk} (h:QIs w q x N s d):x.vs.length=s.files.length:=by rw[h.files,List.length_map]
theorem QStep.env {w w':World} {q:Qf} {x:Qv} {N:Nat} {d:Dk} {s:Cs} {f:Nat→Addr} (h:QStep w q x N d w' s) (hE:EnvS f (QS q x) w):∃ y,QIs w' q y N s d∧EnvS f (QS q y) w'∧Fr (QS q x) w w'∧Sub w (QS q x) (QS q y):=by
 obtain⟨y,h1,h2,h3⟩:=h
 exact⟨y,h1,hE.step h2 h3,h2,h3⟩
theorem full_even' (f:Nat→Addr) (w:World) (q:Qf) (x:Qv) (N:Nat) (s:Cs) (d:Dk) (h:QIs w q x N s d) (hE:EnvS f (QS q x) w) (level index:Nat) (hev:level%2=0) (hlv:level≤62) (hi:(index+1)*2 ^ level≤N) (hN:N<9223372036854775808) (hb:Bnd s 1) (hp:(evenQ N level index s).1≠.error .panic) :
  Calls prog 89 #[.pointer (some ⟨q.gq,0,none⟩),.int .i64 level,.int .i64 index] w (FullPost f w q x N d (evenQ N level index s)):=
 full_even f w q x N s d h hE level index hev hlv hi hN (by have:=hb.fetches;omega) (by have:=hb.files;rw[h.vsLen];omega) hb.small hp
theorem full_odd (f:Nat→Addr) (w:World) (q:Qf) (x:Qv) (N:Nat) (s:Cs) (d:Dk) (h:QIs w q x N s d) (hE:EnvS f (QS q x) w) (level index:Nat) (hod:level%2=1) (hlv:level≤62) (hi:(index+1)*2 ^ level≤N) (hN:N<9223372036854775808) (hb:Bnd s 2) (hp:(fullQ N level index s).1≠.error .panic) :
  Calls prog 89 #[.pointer (some ⟨q.gq,0,none⟩),.int .i64 level,.int .i64 index] w (FullPost f w q x N d (fullQ N level index s)):=by
 obtain⟨R,hRR⟩:∃ R,R=fullQ N level index s:=⟨_,rfl⟩
 rw[←hRR] at hp ⊢
 unfold fullQ at hRR
 rw[if_pos hod] at hRR
 unfold Qm.bind at hRR
 obtain⟨lv,hlv1⟩:∃ lv,level=lv+1:=⟨level-1,by omega⟩
 rw[show level-1=lv by omega] at hRR
 have hpw:2 ^ level=2*2 ^ lv:=by rw[hlv1,Nat.pow_succ];omega
 have hpow:=Nat.two_pow_pos lv
 have hi1:(2*index+1)*2 ^ lv≤N:=by
  refine Nat.le_trans ?_ hi
  rw[hpw,←Nat.mul_assoc]
  exact Nat.mul_le_mul_right _ (by omega)
 have hi2:(2*index+1+1)*2 ^ lv≤N:=by
  refine Nat.le_trans ?_ hi
  rw[hpw,←Nat.mul_assoc]
  exact Nat.mul_le_mul_right _ (by omega)
 have hiN:index+1≤N:=Nat.le_trans (Nat.le_mul_of_pos_right _ (Nat.two_pow_pos _)) hi
 have hb0:=below_alloc w (.cells zc 109)
 have hp1:(evenQ N lv (2*index) s).1≠.error .panic:=fun e=>by
  apply hp
  rw[hRR]
  cases hq:evenQ N lv (2*index) s with
  | mk o s1=>
   rw[hq] at e
   dsimp only at e
   subst e
   rfl
 have HF1:=zh (full_even' f _ q x N s d (h.below hb0) (hE.below hb0) lv (2*index) (by omega) (by omega) hi1 hN (hb.less (by decide)) hp1)
 have hq1:Bnd (evenQ N lv (2*index) s).2 1:=hb.next (j:=1) (evenQ_costs N lv (2*index)) (evenQ_kept (keepsQ_same s.net) N lv (2*index) s (SameN.refl _))
 obtain⟨r1,hr1⟩:∃ r1,r1=evenQ N lv (2*index) s:=⟨_,rfl⟩
 rw[←hr1] at HF1 hq1
 rw[←hr1] at hRR
 have l0:(0:Int)≤(lv:Int):=by omega
 have l1:(lv:Int)≤62:=by omega
 have i0:(0:Int)≤(index:Int):=by omega
 have i1:2*(index:Int)+1<9223372036854775807:=by
  have:2*index+1+1≤(2*index+1+1)*2 ^ lv:=Nat.le_mul_of_pos_right _ hpow
  omega
 have hod2:((level:Int)%2 == 1)=true:=by rw[beq_iff_eq];omega
 have l2:(0:Int)≤(level:Int):=by omega
 have l3:(level:Int)≤62:=by omega
 have e1:(level:Int)-1=(lv:Int):=by omega
 have e2:2*(index:Int)=((2*index:Nat):Int):=by omega
 have e3:2*(index:Int)+1=((2*index+1:Nat):Int):=by omega
 have hlv2:lv%2=0:=by omega
 have hlv3:lv≤62:=by omega
 have HLV:=zh (And.intro hlv2 hlv3)
 have HEQ:=zh (And.intro e1 (And.intro e2 e3))
 have H:=zh h
 have HE:=zh (hE.below hb0)
 have HRR:=zh hRR
 have HP:=zh hp
 have hgq:q.gq<w.heap.size:=lt_of_heap h.look
 have hnq:¬ QS q x w.heap.size:=fun e=>Nat.lt_irrefl _ (h.lt e)
 have HNQ:=zh hnq
 clear h hE hRR hb0 hr1 hp1 hpw hpow hp hnq hlv1 hlv2 hlv3 e1 e2 e3 l0 l1
 go_enter func89,ntmps89
 go_wp2_with fail
 rw[HEQ.o.1,HEQ.o.2.1]
 refine HF1.o.mono ?_
 intro e w1 h1
 obtain⟨hs1,h1⟩:=h1
 have hsz0:w.heap.size≤(w.alloc (.cells zc 109)).heap.size:=by simp
 have hsz00:(w.alloc (.cells zc 109)).heap.size=w.heap.size+1:=by simp
 have hsz1:w.heap.size<w1.heap.size:=by
  obtain⟨_,_,hf,_⟩:=hs1
  have:=hf.size
  simp at this
  omega
 have hz1:hashOf w1 w.heap.size zero8:=by
  obtain⟨_,_,hf,_⟩:=hs1
  exact hash_fr (hashOf_zero' rfl) hf HNQ.o
 obtain⟨x1,hq1',hE1,hf1,hsub1⟩:=hs1.env HE.o
 have hFR1:Fr (QS q x) w w1:=(Fr.ofBelow (below_alloc w _)).trans hf1
 have hSUB1:Sub w (QS q x) (QS q x1):=hsub1.mono hsz0
 have HFR1:=zh hFR1
 have HSUB1:=zh hSUB1
 have HNQ1:=zh (show ¬ QS q x1 w.heap.size from fun e=>(hsub1 _ e).elim (fun e=>HNQ.o e) (fun hle=>by rw[hsz00] at hle;omega))
 have HQ1:=zh hq1'
 have HE1:=zh hE1
 have HB1:=zh hq1
 have hgq1:q.gq<w1.heap.size:=lt_of_heap hq1'.look
 clear hs1 hq1' hE1 hf1 hsub1 hFR1 hSUB1 hq1 HF1 HE
 obtain⟨o1,s1⟩:=r1
 rcases h1 with ⟨ha,hr,rfl⟩|⟨p,u,hh,hr,rfl,hme⟩
 ·try dsimp only at hr
  subst hr
  obtain⟨W2,hW2⟩:∃ W2,W2=(w1.alloc (.cells zc 109)).setRow w1.heap.size (h8 ha):=⟨_,rfl⟩
  have hbW:Below w1.heap.size w1 W2:=by rw[hW2];exact below_setRow (below_alloc w1 _) (Nat.le_refl _) _
  have k1:hashOf W2 w1.heap.size ha:=by rw[hW2];exact hashOf_set (hashOf_zero' rfl) _
  have k0:hashOf W2 w.heap.size zero8:=hashOf_below hz1 hbW
  have kz:w1.heap.size<W2.heap.size:=by rw[hW2];simp
  have hp2:(evenQ N lv (2*index+1) s1).1≠.error .panic:=fun e=>by
   apply HP.o
   rw[HRR.o]
   dsimp only
   cases hq:evenQ N lv (2*index+1) s1 with
   | mk o s2=>
    rw[hq] at e
    dsimp only at e
    subst e
    rfl
  have HF2:=zh (full_even' f W2 q x1 N s1 d (HQ1.o.below hbW) (HE1.o.below hbW) lv (2*index+1) HLV.o.1 HLV.o.2 hi2 hN HB1.o hp2)
  have HBW:=zh hbW
  have K1:=zh k1
  have K0:=zh k0
  have HW2:=zh hW2
  have a1:hashOf ((w1.alloc (.cells zc 109)).setRow w1.heap.size (h8 ha)) w1.heap.size ha:=hashOf_set (hashOf_zero' rfl) _
  clear hbW k1 k0 hp2 hz1 hW2
  go_wp2_with (first|((first|refine wpList_load8 rfl 109 _ rfl _ rfl _ underlying109 info8 ?_ ?_ ?_|refine wpList_store8 rfl 109 _ _ rfl _ _ rfl rfl info8 ?_ ?_ ?_);rotate_left;focus((repeat(first|(with_reducible first|assumption|exact hashOf_set' ⟨_,by assumption⟩ _)|((with_reducible first|refine hashOf_zero' ?_|refine hashOf_at ?_|refine hashOf_set' (Is8_zero ?_) _);(first|rfl|(simp;done)|(simp;omega)))|with_reducible refine hashOf_old ?_ _|((with_reducible refine hashOf_other ?_ _ ?_);rotate_left;(focus(first|(simp;done)|(simp;omega)|omega)))|with_reducible first|refine hashOf_drew ?_|refine hashOf_below ?_ (by assumption)));done)))
  rw[HEQ.o.1,HEQ.o.2.2,←HW2.o]
  clear a1
  refine HF2.o.mono ?_
  intro e w2 h2
  obtain⟨hs2,h2⟩:=h2
  have hn1:¬ QS q x1 w1.heap.size:=fun e=>Nat.lt_irrefl _ (HQ1.o.lt e)
  obtain⟨x2,hq2',hf2,hsub2⟩:=hs2
  have hA2:hashOf w2 w1.heap.size ha:=hash_fr K1.o hf2 hn1
  have hZ2:hashOf w2 w.heap.size zero8:=hash_fr K0.o hf2 HNQ1.o
  have hst2:QStep w q x N d w2 (evenQ N lv (2*index+1) s1).2:=QStep.trans (b:=W2) (y:=x1) (HFR1.o.trans (Fr.ofBelow HBW.o)) HSUB1.o ⟨x2,hq2',hf2,hsub2⟩
  have hs12:w1.heap.size<w2.heap.size:=Nat.lt_of_lt_of_le kz hf2.size
  obtain⟨r2,hr2⟩:∃ r2,r2=evenQ N lv (2*index+1) s1:=⟨_,rfl⟩
  rw[←hr2] at h2 hst2
  have HR2:=zh hr2
  have HST2:=zh hst2
  clear hq2' hf2 hsub2 hst2 hr2 hn1
  obtain⟨o2,s2⟩:=r2
  have hfin:∀ (k bb:Hsh) (w3:World),Below w2.heap.size ((w2.alloc (.cells zc 109)).setRow w2.heap.size (h8 bb)) w3→QStep w q x N d (w3.setRow w.heap.size (h8 k)) s2∧hashOf w3 w.heap.size zero8∧Below w2.heap.size w2 w3:=fun k bb w3 hb3=>by
   have hb2:Below w2.heap.size w2 ((w2.alloc (.cells zc 109)).setRow w2.heap.size (h8 bb)):=below_setRow (below_alloc w2 _) (Nat.le_refl _) _
   have hb4:=hb2.trans hb3
   have hz3:=hashOf_below hZ2 hb4
   exact⟨(HST2.o.below hb4).own (setRow_fr w3 w.heap.size _) hz3 (by decide) (Nat.le_refl _),hz3,hb4⟩
  have HFIN:=zh hfin
  clear hfin
  rcases h2 with ⟨hbb,hr,rfl⟩|⟨p,u,hbb,hr,rfl,hme⟩
  ·try dsimp only at hr
   subst hr
   have q1:hashOf ((w2.alloc (.cells zc 109)).setRow w2.heap.size (h8 hbb)) w1.heap.size ha:=hashOf_other (hashOf_old hA2 _) _ (by omega)
   have q2:hashOf ((w2.alloc (.cells zc 109)).setRow w2.heap.size (h8 hbb)) w2.heap.size hbb:=hashOf_set (hashOf_zero' rfl) _
   have q3:hashOf ((w2.alloc (.cells zc 109)).setRow w2.heap.size (h8 hbb)) w.heap.size zero8:=hashOf_other (hashOf_old hZ2 _) _ (by omega)
   go_wp2_with (first|((first|refine wpList_load8 rfl 109 _ rfl _ rfl _ underlying109 info8 ?_ ?_ ?_|refine wpList_store8 rfl 109 _ _ rfl _ _ rfl rfl info8 ?_ ?_ ?_);rotate_left;focus((repeat(first|(with_reducible first|assumption|exact hashOf_set' ⟨_,by assumption⟩ _)|((with_reducible first|refine hashOf_zero' ?_|refine hashOf_at ?_|refine hashOf_set' (Is8_zero ?_) _);(first|rfl|(simp;done)|(simp;omega)))|with_reducible refine hashOf_old ?_ _|((with_reducible refine hashOf_other ?_ _ ?_);rotate_left;(focus(first|(simp;done)|(simp;omega)|omega)))|with_reducible first|refine hashOf_drew ?_|refine hashOf_below ?_ (by assumption)));done)))
   refine (node_any ha hbb _).mono ?_
   rintro e w3 ⟨rfl,hw3⟩
   have r1:=hashOf_below q3 hw3
   have HW3:=zh (hw3.mono (show w2.heap.size≤((w2.alloc (.cells zc 109)).setRow w2.heap.size (h8 hbb)).heap.size by simp))
   clear q1 q2 q3 hw3
   go_wp2_with (first|((first|refine wpList_load8 rfl 109 _ rfl _ rfl _ underlying109 info8 ?_ ?_ ?_|refine wpList_store8 rfl 109 _ _ rfl _ _ rfl rfl info8 ?_ ?_ ?_);rotate_left;focus((repeat(first|(with_reducible first|assumption|exact hashOf_set' ⟨_,by assumption⟩ _)|((with_reducible first|refine hashOf_zero' ?_|refine hashOf_at ?_|refine hashOf_set' (Is8_zero ?_) _);(first|rfl|(simp;done)|(simp;omega)))|with_reducible refine hashOf_old ?_ _|((with_reducible refine hashOf_other ?_ _ ?_);rotate_left;(focus(first|(simp;done)|(simp;omega)|omega)))|with_reducible first|refine hashOf_drew ?_|refine hashOf_below ?_ (by assumption)));done)))
   refine ret8t w.heap.size (nodeH ha hbb) .nilIface rfl rfl rfl _ underlying109 info8 (hashOf_set r1 _) rfl ?_
   rw[HRR.o,←HR2.o]
   exact⟨(HFIN.o _ hbb w3 HW3.o).1,.inl ⟨_,rfl,rfl⟩⟩
  ·try dsimp only at hr
   subst hr
   have HME:=zh hme
   obtain⟨q9,rfl,hq9,hh9⟩:=hme
   clear hh9
   have q1:hashOf ((w2.alloc (.cells zc 109)).setRow w2.heap.size (h8 hbb)) w1.heap.size ha:=hashOf_other (hashOf_old hA2 _) _ (by omega)
   have q2:hashOf ((w2.alloc (.cells zc 109)).setRow w2.heap.size (h8 hbb)) w2.heap.size hbb:=hashOf_set (hashOf_zero' rfl) _
   have q3:hashOf ((w2.alloc (.cells zc 109)).setRow w2.heap.size (h8 hbb)) w.heap.size zero8:=hashOf_other (hashOf_old hZ2 _) _ (by omega)
   go_wp2_with (first|((first|refine wpList_load8 rfl 109 _ rfl _ rfl _ underlying109 info8 ?_ ?_ ?_|refine wpList_store8 rfl 109 _ _ rfl _ _ rfl rfl info8 ?_ ?_ ?_);rotate_left;focus((repeat(first|(with_reducible first|assumption|exact hashOf_set' ⟨_,by assumption⟩ _)|((with_reducible first|refine hashOf_zero' ?_|refine hashOf_at ?_|refine hashOf_set' (Is8_zero ?_) _);(first|rfl|(simp;done)|(simp;omega)))|with_reducible refine hashOf_old ?_ _|((with_reducible refine hashOf_other ?_ _ ?_);rotate_left;(focus(first|(simp;done)|(simp;omega)|omega)))|with_reducible first|refine hashOf_drew ?_|refine hashOf_below ?_ (by assumption)));done)))
   refine (node_any ha hbb _).mono ?_
   rintro e w3 ⟨rfl,hw3⟩
   have r1:=hashOf_below q3 hw3
   have HW3:=zh (hw3.mono (show w2.heap.size≤((w2.alloc (.cells zc 109)).setRow w2.heap.size (h8 hbb)).heap.size by simp))
   clear q1 q2 q3 hw3
   go_wp2_with (first|((first|refine wpList_load8 rfl 109 _ rfl _ rfl _ underlying109 info8 ?_ ?_ ?_|refine wpList_store8 rfl 109 _ _ rfl _ _ rfl rfl info8 ?_ ?_ ?_);rotate_left;focus((repeat(first|(with_reducible first|assumption|exact hashOf_set' ⟨_,by assumption⟩ _)|((with_reducible first|refine hashOf_zero' ?_|refine hashOf_at ?_|refine hashOf_set' (Is8_zero ?_) _);(first|rfl|(simp;done)|(simp;omega)))|with_reducible refine hashOf_old ?_ _|((with_reducible refine hashOf_other ?_ _ ?_);rotate_left;(focus(first|(simp;done)|(simp;omega)|omega)))|with_reducible first|refine hashOf_drew ?_|refine hashOf_below ?_ (by assumption)));done)))
   refine ret8t w.heap.size (nodeH ha hbb) _ rfl rfl rfl _ underlying109 info8 (hashOf_set r1 _) rfl ?_
   rw[HRR.o,←HR2.o]
   obtain⟨f1,f2,f3⟩:=HFIN.o (nodeH ha hbb) hbb w3 HW3.o
   refine⟨f1,.inr ⟨p,_,_,rfl,rfl,?_⟩⟩
   have hm2:MissErr f w3 W2.heap.size p _:=HME.o.fr (S:=fun _=>False) (ts:=[]) (Fr.ofBelow f3) (fun _ _ _ _ h=>h.elim) (by decide)
   exact (hm2.fr (setRow_fr w3 w.heap.size _) (kinds_one f2) (by decide)).low (by omega)
 ·try dsimp only at hr
  subst hr
  have HME:=zh hme
  obtain⟨q9,rfl,hq9,hh9⟩:=hme
  have k1:hashOf ((w1.alloc (.cells zc 109)).setRow w1.heap.size (h8 hh)) w1.heap.size hh:=hashOf_set (hashOf_zero' rfl) _
  have hbW:Below w1.heap.size w1 ((w1.alloc (.cells zc 109)).setRow w1.heap.size (h8 hh)):=below_setRow (below_alloc w1 _) (Nat.le_refl _) _
  have k0:hashOf ((w1.alloc (.cells zc 109)).setRow w1.heap.size (h8 hh)) w.heap.size zero8:=hashOf_below hz1 hbW
  have HBW:=zh hbW
  clear hh9 hbW
  go_wp2_with (first|((first|refine wpList_load8 rfl 109 _ rfl _ rfl _ underlying109 info8 ?_ ?_ ?_|refine wpList_store8 rfl 109 _ _ rfl _ _ rfl rfl info8 ?_ ?_ ?_);rotate_left;focus((repeat(first|(with_reducible first|assumption|exact hashOf_set' ⟨_,by assumption⟩ _)|((with_reducible first|refine hashOf_zero' ?_|refine hashOf_at ?_|refine hashOf_set' (Is8_zero ?_) _);(first|rfl|(simp;done)|(simp;omega)))|with_reducible refine hashOf_old ?_ _|((with_reducible refine hashOf_other ?_ _ ?_);rotate_left;(focus(first|(simp;done)|(simp;omega)|omega)))|with_reducible first|refine hashOf_drew ?_|refine hashOf_below ?_ (by assumption)));done)))
  refine ret8t w.heap.size zero8 _ rfl rfl rfl _ underlying109 info8 (hashOf_set k0 _) rfl ?_
  rw[HRR.o]
  dsimp only
  refine⟨((QStep.trans HFR1.o HSUB1.o (QStep.here HQ1.o)).below HBW.o).own (setRow_fr _ w.heap.size _) k0 (by decide) (Nat.le_refl _),.inr ⟨p,_,zero8,rfl,rfl,?_⟩⟩
  have hm2:MissErr f _ _ p _:=HME.o.fr (S:=fun _=>False) (ts:=[]) (Fr.ofBelow HBW.o) (fun _ _ _ _ h=>h.elim) (by decide)
  exact (hm2.fr (setRow_fr _ w.heap.size _) (kinds_one k0) (by decide)).low hsz0
theorem fullT_one (N level index:Nat):1≤(fullT N level index).length∧(level%2=1→(fullT N level index).length=2):=by
 have:=(inferInstance:Inhabited OutT)
 unfold fullT
 split
 ·exact⟨by simp[evenT],fun _=>by simp[evenT]⟩
 ·exact⟨by simp[evenT],fun h=>by contradiction⟩
theorem full_any (f:Nat→Addr) (w:World) (q:Qf) (x:Qv) (N:Nat) (s:Cs) (d:Dk) (h:QIs w q x N s d) (hE:EnvS f (QS q x) w) (level index:Nat) (hlv:level≤62) (hi:(index+1)*2 ^ level≤N) (hN:N<9223372036854775808) (hb:Bnd s (fullT N level index).length) (hp:(fullQ N level index s).1≠.error .panic) :
  Calls prog 89 #[.pointer (some ⟨q.gq,0,none⟩),.int .i64 level,.int .i64 index] w (FullPost f w q x N d (fullQ N level index s)):=by
 obtain⟨h1,h2⟩:=fullT_one N level index
 by_cases ho:level%2=1
 ·rw[h2 ho] at hb
  exact full_odd f w q x N s d h hE level index ho hlv hi hN hb hp
 ·have e:fullQ N level index=evenQ N level index:=by unfold fullQ;rw[if_neg ho]
  rw[e] at hp ⊢
  exact full_even' f w q x N s d h hE level index (by omega) hlv hi hN (hb.less h1) hp
end
end
end Go.Proofs.YtefccfakhgdfbabGreatDoor
