/- The walks of merkle.Consistent, tiles.Consistent, plain.Consistent; tileslaw.Consists answers true. -/
import Derived.Test.YtefccfakhgdfbabGreatDoorHe19
set_option linter.unusedVariables false
set_option linter.unusedSimpArgs false
open Go.RowKit Go.Proofs.Tryz
set_option maxRecDepth 100000
set_option maxHeartbeats 4000000
namespace Go.Proofs.YtefccfakhgdfbabGreatDoor
section
theorem OwnBytes.same2 {w w':World} {base:Nat} {v:Value} {l:List UInt8} (h:OwnBytes w base v l) (hs:∀ (k:Nat) (C:Array Value) (fz:Nat×Nat),base≤k→w.heap[k]?=some (Obj.cells C 5 fz)→w'.heap[k]?=w.heap[k]?) (base':Nat) (hb:base'≤base):OwnBytes w' base' v l:=by
 rcases h with h|⟨b,off,c,C,fz,h1,h0,h2,h3,h4⟩
 ·exact .inl h
 ·exact .inr ⟨b,off,c,C,fz,h1,h0,Nat.le_trans hb h2,(hs b C fz h2 h3).trans h3,h4⟩
theorem ownsRow_one {w:World} {b b':Nat} {e:TypeId} {size:Nat} {v:Value} {n:Nat} {xs ys:List Value} (h:w.ownsRow b e size v n xs) (k:w.ownsRow b' e size v n ys):xs=ys:=by
 rcases h.2 with ⟨rfl,h0⟩|⟨g,cap,cur,rfl,_,hg,_,_,_,ht⟩
 ·have h1:=h.1
  have k1:=k.1
  subst h0
  have e1:xs = []:=List.eq_nil_of_length_eq_zero (by simpa using h1)
  have e2:ys = []:=List.eq_nil_of_length_eq_zero (by simpa using k1)
  rw[e1,e2]
 ·rcases k.2 with ⟨e,_⟩|⟨g',cap',cur',e,_,hg',_,_,_,ht'⟩
  ·cases e
  ·cases e
   rw[hg] at hg'
   cases hg'
   exact ht.symm.trans ht'
theorem took_clear {w w1 w2 w3:World} {g gd b1:Nat} {ve vl vp:Value} {vs:List Value} {L:Lg} {b:List UInt8} (h:LogIs w g gd ve vl vp vs L) (hb:Below w.heap.size w w1) (ht:Took w1 g gd ve vl vp vs L b w2) (hf:Fr (·=b1) w2 w3) (hw:w.heap.size≤b1) (hb1:b1<w1.heap.size) (hk:Kinds w2 (·=b1) [5]) :
  ∃ ve' vl' vs',LogIs w3 g gd ve' vl' vp vs' { L with entries:=L.entries ++ [b],levels:=levels (L.entries ++ [b]) }∧Fr (LogS g ve vl vp vs) w w3∧Sub w (LogS g ve vl vp vs) (LogS g ve' vl' vp vs'):=by
 obtain⟨ve',vl',vs',vs0,u,hl2,hf2,hs2,hr0,hr2,hu⟩:=ht
 have h1:=h.below hb
 obtain⟨vsw,hrw,hel⟩:=h.ents
 have hv0:vsw=vs0:=ownsRow_one (ownsRow_below hrw hb) hr0
 subst hv0
 have hrest:=hl2.rest hf 5 (fun k C s f hk' hc=>List.mem_singleton.1 (hk k C s f hk' hc))
 refine⟨ve',vl',vs',⟨(hrest.1 (by decide)).trans hl2.cells,?_,hrest.2.2.1 (by decide),hrest.2.2.2.1 (by decide),hl2.apart,hrest.2.2.2.2 (by decide)⟩,?_,hs2.mono hb.size⟩
 ·have hrow:w3.ownsRow 0 94 1 ve' (L.entries ++ [b]).length (vsw ++ [u]):=by
   rw[List.length_append,List.length_singleton]
   exact row_kept hr2 hf hk (by decide)
  refine⟨_,hrow,fun j x l hx hlj=>?_⟩
  have hlen:vsw.length=L.entries.length:=by simpa using hrw.1
  rcases Nat.lt_or_ge j vsw.length with hj|hj
  ·rw[List.getElem?_append_left hj] at hx
   rw[List.getElem?_append_left (by omega)] at hlj
   exact (hel j x l hx hlj).same fun k C fz hkC=>by
    have hlt:=lt_of_heap hkC
    have e1:=hb.block k hlt
    have hk1:w1.heap[k]?=some (.cells C 5 fz):=e1.trans hkC
    have e2:=hf2.block k (lt_of_heap hk1) fun hS=>h1.noBytes k C fz hk1 hS
    have e3:=hf.block k (Nat.lt_of_lt_of_le (lt_of_heap hk1) hf2.size) (fun e=>by subst e;omega)
    exact e3.trans (e2.trans e1)
  ·rw[List.getElem?_append_right hj] at hx
   rw[List.getElem?_append_right (by omega)] at hlj
   have hj0:j-vsw.length=0:=by
    rcases Nat.eq_zero_or_pos (j-vsw.length) with h0|h0
    ·exact h0
    ·rw[List.getElem?_eq_none (by simp;omega)] at hx;cases hx
   rw[hj0] at hx
   rw[show j-L.entries.length=0 by omega] at hlj
   cases hx
   cases hlj
   exact hu.same2 (fun k C fz hbk hkC=>hf.block k (lt_of_heap hkC) fun e=>by subst e;omega) 0 (Nat.zero_le _)
 ·exact ((Fr.ofBelow hb).trans hf2).step hf fun i hi e=>by subst e;omega
def pappPost (w:World) (g gd:Nat) (ve vl vp:Value) (vs:List Value) (L:Lg) (b:List UInt8) (e:Ending) (w':World):Prop:=
 if 20<b.length then e=.returned (.tuple #[.int .i64 0,toldV 1 ⟨#[]⟩])∧Below w.heap.size w w'
 else if L.failed=true then e=.returned (.tuple #[.int .i64 0,toldV 7 ⟨#[]⟩])∧Below w.heap.size w w'
 else e=.returned (.tuple #[.int .i64 L.entries.length,toldV 0 ⟨#[]⟩])∧∃ ve' vl' vs',LogIs w' g gd ve' vl' vp vs' { L with entries:=L.entries ++ [b],levels:=levels (L.entries ++ [b]) }∧Fr (LogS g ve vl vp vs) w w'∧Sub w (LogS g ve vl vp vs) (LogS g ve' vl' vp vs')
theorem pappend_any (f:Nat→Addr) (w:World) (gl g gd:Nat) (ve vl vp:Value) (vs:List Value) (L:Lg) (s:ByteArray) (hp:PlIs w gl g) (h:LogIs w g gd ve vl vp vs L) (hE:EnvS f (LogS g ve vl vp vs) w) (hlv:L.levels=levels L.entries) (hn:L.entries.length<1048576) :
  Calls prog 12 #[.pointer (some ⟨gl,0,none⟩),.string s] w (pappPost w g gd ve vl vp vs L s.data.toList):=by
 obtain⟨i0,hi,hz0,_,_⟩:=info_parts info_u8
 have c0:=cell_heap hp 0 rfl
 have hgl:=lt_of_heap hp
 have HE:=zh hE
 have HL:=zh h
 have HP:=zh hp
 have HLV:=zh hlv
 have hg:=lt_of_heap h.cells
 obtain⟨w0,hw0⟩:∃ w0,w0=w.alloc (.cells #[.int .i64 0,.string ⟨#[]⟩] 29):=⟨_,rfl⟩
 have HW0:=zh hw0
 have HB0:=zh (show Below w.heap.size w w0 by rw[hw0];exact below_alloc w _)
 have HT0:=zh (show ToldAt' w0 w.heap.size 0 ⟨#[]⟩ by rw[hw0];exact told_new w)
 have hz00:w0.heap.size=w.heap.size+1:=by rw[hw0];simp
 have hc0:=(HB0.o.cell (p:=⟨gl,0,none⟩) hgl).trans c0
 clear h hE hp hlv hw0
 go_enter func12,ntmps12
 go_upto_region 1 with fail
 rw[←HW0.o]
 go_upto_region 2 with (first|(refine wpList_sb rfl 9 94 5 _ rfl underlying9 underlying94 underlying5 rfl s rfl ?_;intro u w1 hu hb1 hw1 hv1;obtain⟨b1,c1,rfl⟩:=hv1;have HU:=zh hu;have HB1:=zh hb1;clear hu hb1 hw1)|fail)
 have hl1:=(HL.o.below HB0.o).below HB1.o
 have hE1:=(HE.o.below HB0.o).below HB1.o
 have hb1w:w0.heap.size≤b1∧b1<w1.heap.size∧∃ C fz,w1.heap[b1]?=some (.cells C 5 fz):=by
  rcases HU.o with ⟨e,_⟩|⟨b,off,c,C,fz,e,_,h2,h3,_⟩
  ·cases e
  ·cases e;exact⟨h2,lt_of_heap h3,C,fz,h3⟩
 have HB1W:=zh hb1w
 have HAP:=zh (append_any f w1 g gd ve vl vp vs L hl1 _ s.data.toList (HU.o.mono (Nat.zero_le _)) hn HLV.o hE1.sents)
 have HE1:=zh hE1
 have HL1:=zh hl1
 have HBW:=zh (HB0.o.trans (HB1.o.mono HB0.o.size))
 have hc1:=(HB1.o.cell (p:=⟨gl,0,none⟩) (cell_lt hc0)).trans hc0
 have HT1:=zh (HT0.o.below HB1.o)
 clear hl1 hE1 hb1w
 go_wp2_with fail
 go_at_call 39
 refine HAP.o.mono ?_
 intro e w2 h2
 unfold appendPost at h2
 have hz01:w.heap.size≤w1.heap.size:=HBW.o.size
 by_cases hlong:20<s.data.toList.length
 ·rw[if_pos hlong] at h2
  obtain⟨rfl,hb2⟩:=h2
  have HB2:=zh hb2
  have HU2:=zh ((HU.o.mono (Nat.zero_le _)).below hb2)
  have HT2:=zh (HT1.o.below hb2)
  have HK2:=zh (show Kinds w2 (·=b1) [5] from by obtain⟨_,_,C,fz,hC⟩:=HB1W.o;exact kinds_one ((hb2.block _ (lt_of_heap hC)).trans hC))
  have hz2:w.heap.size≤w2.heap.size:=Nat.le_trans hz01 hb2.size
  have HLONG:=zh hlong
  have hse:=fun (w3:World) (hf:Fr (LogS g ve vl vp vs) w w3)=>of_sent f w3 (HE.o w3 hf).2.1 0 (by decide) (by decide)
  rw[show ((ofCode 0:Nat):Int)=1 from rfl] at hse
  have HSE:=zh hse
  have hbw:w.heap.size≤b1:=Nat.le_trans (by omega) HB1W.o.1
  clear hb2 hlong hse
  go_wp2_with (first|(refine wpList_clearB rfl _ 94 rfl i0 underlying94 hi hz0 0 _ s.data.toList rfl HU2.o ?_;intro w3 n3 hg3 hsh3 hz3;have HF3:=zh (Fr.ofGrown (S:=(·=b1)) hg3 fun k _ e=>(Option.some.inj e).symm);have hz3':w.heap.size≤w3.heap.size:=Nat.le_trans hz2 HF3.o.size;clear hg3 hsh3 hz3)|(go_at_call 37;refine (HSE.o _ (((Fr.ofBelow (HBW.o.trans (HB2.o.mono hz01)))).step HF3.o fun i hi e=>by subst e;omega)).mono ?_;rintro e w4 ⟨rfl,hb4⟩;have HB4:=zh hb4;obtain⟨t0,t1,t2,t3,t4⟩:=((HT2.o.kept HF3.o HK2.o (by decide)).below hb4).facts;clear hb4)|fail)
  refine bodyPost_ret (v:=.tuple #[.int .i64 0,toldV 1 ⟨#[]⟩]) (by simp[results,results12,go_sem,t0,t1]) rfl ?_
  unfold pappPost
  rw[if_pos HLONG.o]
  have hb3:Below w.heap.size w w3:=(HBW.o.trans (HB2.o.mono hz01)).trans (HF3.o.below hz2 fun k hk e=>by omega)
  exact⟨rfl,((hb3.trans (HB4.o.mono hz3')).setCell (Nat.le_refl _) _).setCell (Nat.le_refl _) _⟩
 ·rw[if_neg hlong] at h2
  by_cases hfd:L.failed=true
  ·rw[if_pos hfd] at h2
   obtain⟨rfl,hb2⟩:=h2
   have HB2:=zh hb2
   have HU2:=zh ((HU.o.mono (Nat.zero_le _)).below hb2)
   have HT2:=zh (HT1.o.below hb2)
   have HK2:=zh (show Kinds w2 (·=b1) [5] from by obtain⟨_,_,C,fz,hC⟩:=HB1W.o;exact kinds_one ((hb2.block _ (lt_of_heap hC)).trans hC))
   have hz2:w.heap.size≤w2.heap.size:=Nat.le_trans hz01 hb2.size
   have HLONG:=zh hlong
   have HFD:=zh hfd
   have hse:=fun (w3:World) (hf:Fr (LogS g ve vl vp vs) w w3)=>of_sent f w3 (HE.o w3 hf).2.1 6 (by decide) (by decide)
   rw[show ((ofCode 6:Nat):Int)=7 from rfl] at hse
   have HSE:=zh hse
   have hbw:w.heap.size≤b1:=Nat.le_trans (by omega) HB1W.o.1
   clear hb2 hlong hse hfd
   go_wp2_with (first|(refine wpList_clearB rfl _ 94 rfl i0 underlying94 hi hz0 0 _ s.data.toList rfl HU2.o ?_;intro w3 n3 hg3 hsh3 hz3;have HF3:=zh (Fr.ofGrown (S:=(·=b1)) hg3 fun k _ e=>(Option.some.inj e).symm);have hz3':w.heap.size≤w3.heap.size:=Nat.le_trans hz2 HF3.o.size;clear hg3 hsh3 hz3)|(go_at_call 37;refine (HSE.o _ (((Fr.ofBelow (HBW.o.trans (HB2.o.mono hz01)))).step HF3.o fun i hi e=>by subst e;omega)).mono ?_;rintro e w4 ⟨rfl,hb4⟩;have HB4:=zh hb4;obtain⟨t0,t1,t2,t3,t4⟩:=((HT2.o.kept HF3.o HK2.o (by decide)).below hb4).facts;clear hb4)|fail)
   refine bodyPost_ret (v:=.tuple #[.int .i64 0,toldV 7 ⟨#[]⟩]) (by simp[results,results12,go_sem,t0,t1]) rfl ?_
   unfold pappPost
   rw[if_neg HLONG.o,if_pos HFD.o]
   have hb3:Below w.heap.size w w3:=(HBW.o.trans (HB2.o.mono hz01)).trans (HF3.o.below hz2 fun k hk e=>by omega)
   exact⟨rfl,((hb3.trans (HB4.o.mono hz3')).setCell (Nat.le_refl _) _).setCell (Nat.le_refl _) _⟩
  ·rw[if_neg hfd] at h2
   obtain⟨rfl,htook⟩:=h2
   obtain⟨ve2,vl2,vs2,vs0,u2,hl2,hf2,hs2,hr02,hr22,hu2⟩:=htook
   have HTK:=zh (show Took w1 g gd ve vl vp vs L s.data.toList w2 from ⟨ve2,vl2,vs2,vs0,u2,hl2,hf2,hs2,hr02,hr22,hu2⟩)
   have HF2:=zh hf2
   have HU2:=zh ((HU.o.mono (Nat.zero_le _)).same fun k C fz hk=>hf2.block k (lt_of_heap hk) fun hS=>HL1.o.noBytes k C fz hk hS)
   have HT2:=zh (HT1.o.kept hf2 (kinds_log HL1.o) (by decide))
   have HK2:=zh (show Kinds w2 (·=b1) [5] from by obtain⟨_,_,C,fz,hC⟩:=HB1W.o;exact kinds_one (hf2.heap hC (fun hS=>HL1.o.noBytes _ C fz hC hS)))
   have hz2:w.heap.size≤w2.heap.size:=Nat.le_trans hz01 hf2.size
   have HLONG:=zh hlong
   have HFD:=zh hfd
   have hse:=fun (w3:World) (hf:Fr (LogS g ve vl vp vs) w w3)=>of_nil f w3 (HE.o w3 hf).2.1
   have HSE:=zh hse
   have hbw:w.heap.size≤b1:=Nat.le_trans (by omega) HB1W.o.1
   have hb1lt:=HB1W.o.2.1
   clear hl2 hf2 hs2 hr02 hr22 hu2 hlong hse hfd
   go_wp2_with (first|(refine wpList_clearB rfl _ 94 rfl i0 underlying94 hi hz0 0 _ s.data.toList rfl HU2.o ?_;intro w3 n3 hg3 hsh3 hz3;have HF3:=zh (Fr.ofGrown (S:=(·=b1)) hg3 fun k _ e=>(Option.some.inj e).symm);have hz3':w.heap.size≤w3.heap.size:=Nat.le_trans hz2 HF3.o.size;clear hg3 hsh3 hz3)|(go_at_call 37;refine (HSE.o _ (((Fr.ofBelow HBW.o).trans HF2.o).step HF3.o fun i hi e=>by subst e;omega)).mono ?_;rintro e w4 ⟨rfl,hb4⟩;have HB4:=zh hb4;have HT4:=zh ((HT2.o.kept HF3.o HK2.o (by decide)).below hb4);obtain⟨t0,t1,t2,t3,t4⟩:=HT4.o.facts;clear hb4)|fail)
   refine bodyPost_ret (v:=.tuple #[.int .i64 L.entries.length,toldV 0 ⟨#[]⟩]) (by simp[results,results12,go_sem,t0,t1]) rfl ?_
   unfold pappPost
   rw[if_neg HLONG.o,if_neg HFD.o]
   obtain⟨ve',vl',vs',k1,k2,k3⟩:=took_clear HL.o HBW.o HTK.o HF3.o hbw hb1lt HK2.o
   have ts:=told_set (m:=0) (t:=⟨#[]⟩) HT4.o
   refine⟨rfl,ve',vl',vs',(k1.below HB4.o).kept ts.2 (kinds_one HT4.o) (by decide) (by decide),?_,k3⟩
   exact (k2.trans (Fr.ofBelow HB4.o)).step ts.2 fun i hi e=>by subst e;omega
end
section
def pickN (c:Int) (n:Nat):Nat:=(if c<0 then -(c+1) else c).toNat%n
theorem pickN_lt (c:Int) {n:Nat} (hn:0<n):pickN c n<n:=Nat.mod_lt _ hn
end
section
theorem readP_cost {c:Cl} {n:Nt} {i:Int} (hN:c.size≤8192):(readP c n i).2.2.2.fetches≤n.fetches+440000∧(readP c n i).2.2.1.cache.items.length≤c.cache.items.length+220000:=by
 unfold readP
 by_cases hi:i<0∨(c.size:Int)≤i
 ·rw[if_pos hi]
  exact⟨Nat.le_add_right _ _,Nat.le_add_right _ _⟩
 ·rw[if_neg hi]
  have hc:=readQ_costs c.size i.toNat (askQ n c.cache)
  have ht:=readT_small (N:=c.size) (i:=i.toNat) hN (by omega)
  have h1:=hc.files
  have h2:=hc.fetches
  have h3:=hc.items
  have e1:(askQ n c.cache).files.length=0:=rfl
  have e2:(askQ n c.cache).net.fetches=n.fetches:=rfl
  have e3:(askQ n c.cache).cache.items.length=c.cache.items.length:=rfl
  rcases hq:readQ c.size i.toNat (askQ n c.cache) with ⟨r|r,s⟩
  ·rw[hq] at h1 h2 h3
   cases r <;> exact⟨by dsimp only at h2 ⊢;omega,by dsimp only at h3 ⊢;omega⟩
  ·rw[hq] at h1 h2 h3
   have h4:=remember_len s.files s.cache
   dsimp only at h1 h2 h3 ⊢
   split
   ·exact⟨by dsimp only;omega,by dsimp only;omega⟩
   ·exact⟨by dsimp only;omega,by dsimp only;omega⟩
theorem updateP_cost {c:Cl} {n:Nt}:(updateP c n).2.2.2.fetches≤n.fetches+20000∧(updateP c n).2.2.1.cache.items.length≤c.cache.items.length+8192:=by
 have e0:(fetchN n (sOf kCp)).fetches=n.fetches+1:=(fetchN_same n (sOf kCp)).2.2
 unfold updateP
 cases hf:fetchA n (sOf kCp) with
 | none=>exact⟨by dsimp only;omega,by dsimp only;omega⟩
 | some data=>
  dsimp only
  have hs:=checkGo_sound data c.key.data.toList
  split
  ·exact⟨by dsimp only;omega,by dsimp only;omega⟩
  ·rename_i hok
   obtain⟨p1,p2,_⟩:=hs.1 (by simpa using hok)
   split
   ·exact⟨by dsimp only;omega,by dsimp only;omega⟩
   ·split
    ·split <;> exact⟨by dsimp only;omega,by dsimp only;omega⟩
    ·split
     ·exact⟨by dsimp only;omega,by dsimp only;omega⟩
     ·obtain⟨N,hN⟩:∃ N,N=(checkGo data c.key.data.toList).1.toNat:=⟨_,rfl⟩
      rw[←hN]
      have hc:=gatherQ_costs N (partR N 0 N c.size).reverse (askQ (fetchN n (sOf kCp)) c.cache)
      have ht:=proofT_log (N:=N) (m:=c.size) (by omega) (by omega) (by omega)
      have h1:=hc.files
      have h2:=hc.fetches
      have h3:=hc.items
      have e1:(askQ (fetchN n (sOf kCp)) c.cache).files.length=0:=rfl
      have e2:(askQ (fetchN n (sOf kCp)) c.cache).net.fetches=n.fetches+1:=e0
      have e3:(askQ (fetchN n (sOf kCp)) c.cache).cache.items.length=c.cache.items.length:=rfl
      unfold proofQ
      rcases hq:gatherQ N (partR N 0 N c.size).reverse (askQ (fetchN n (sOf kCp)) c.cache) with ⟨r|r,s⟩
      ·rw[hq] at h1 h2 h3
       cases r <;> exact⟨by dsimp only at h2 ⊢;omega,by dsimp only at h3 ⊢;omega⟩
      ·rw[hq] at h1 h2 h3
       have h4:=remember_len s.files s.cache
       dsimp only at h1 h2 h3 ⊢
       split
       ·exact⟨by dsimp only;omega,by dsimp only;omega⟩
       ·exact⟨by dsimp only;omega,by dsimp only;omega⟩
theorem bun_small {es:List (List UInt8)} (hl:es.length≤1048576) (hs:∀ e∈es,e.length≤20) {N i:Nat} (hN:N≤es.length) (hi:i<N) {av:Bool} {s s1:Cs} {b:List UInt8} (hT:TrueQ es N av s) (h:fileQ fitsBun (-1) (i / 4) N s=(.ok b,s1)):b.length≤84:=by
 have hlen:(es.take N).length=N:=by rw[List.length_take,Nat.min_eq_left hN]
 have hlr:((es.take N).map encE).length=N:=by rw[List.length_map,hlen]
 have hsn:∀ e∈es.take N,e.length≤20:=fun e he=>hs e (List.mem_of_mem_take he)
 have hf:fitsOf 0=fitsBun:=by unfold fitsOf;rw[if_pos rfl]
 have hfile:=fileQ_true hl (av:=av) (rowsOf_zero (es.take N)) (j:=i / 4) (by rw[hlr];omega) (fun w h1 h4 hw=>by
  rw[hlr] at hw
  rw[hf]
  unfold fitsBun
  rw[unbundle_cut hsn h1 h4 (by rw[hlen];exact hw),Option.bind_some,if_pos (by rw[List.length_take,List.length_drop,hlen];omega),List.take_take,Nat.min_self,bundle_cut hsn h1 h4 (by rw[hlen];exact hw)])
 rw[hlr,hf,show (((0:Nat):Int)-1) = -1 by omega] at hfile
 have hb:=(hfile s hT).2.1 b (by rw[h])
 rw[hb]
 unfold cutR
 have h1:=flatten_le ((((es.take N).map encE).drop (4*(i / 4))).take (wideAt (i / 4) N)) 21 fun x hx=>by
  obtain⟨e,he,rfl⟩:=List.mem_map.1 (List.mem_of_mem_drop (List.mem_of_mem_take hx))
  have:=hsn e he
  simp only[encE,List.length_cons]
  omega
 have h2:((((es.take N).map encE).drop (4*(i / 4))).take (wideAt (i / 4) N)).length≤4:=by
  rw[List.length_take]
  unfold wideAt
  omega
 have:=Nat.mul_le_mul_right 21 h2
 omega
end
section
def PubTrue (w:World) (e:Ending) (w':World):Prop:=e=.returned (.bool true)∧Below w.heap.size w w'
end
section
structure In14 (last x y n1 n2:Hsh) (g:Nat) (ok:Value) (W:World) (b:Nat→Bool) (a:Act) (w:World):Prop where
 d:a.defers = []
 s:103≤a.tmps.size
 t8:a.tmps.getD 8 undef=.pointer (some ⟨g,0,none⟩)
 t9:a.tmps.getD 9 undef=.pointer (some ⟨g+1,0,none⟩)
 t11:a.tmps.getD 11 undef=.pointer (some ⟨g+1+1,0,none⟩)
 t10:a.tmps.getD 10 undef=ok
 r0:b 0=true→a.tmps.getD 96 undef=.agg (h8 last)
 r1:b 1=true→a.tmps.getD 97 undef=.agg (h8 x)
 r2:b 2=true→a.tmps.getD 98 undef=.agg (h8 n1)
 r3:b 3=true→a.tmps.getD 99 undef=.agg (h8 last)
 r4:b 4=true→a.tmps.getD 100 undef=.agg (h8 y)
 r5:b 5=true→a.tmps.getD 101 undef=.agg (h8 n2)
 r6:b 6=true→a.tmps.getD 102 undef=ok
 h11:hashOf w (g+1+1) last
 e8:b 7=false→hashOf w g x
 f8:b 7=true→hashOf w g n1
 e9:b 8=false→hashOf w (g+1) y
 f9:b 8=true→hashOf w (g+1) n2
 bel:Below g W w
 c7:b 7=true→b 1=true
 c8:b 8=true→b 4=true
theorem draw14 (last x y n1 n2:Hsh) (g:Nat) (ok:Value) (W:World) {ops:Array Oper} {Q:Exit→Act→World→Prop}
  (r:∀ b:Nat→Bool,∀ i∈Region.ready .any ops (bs b),i<10∧b i=false∧(i=2→b 0=true∧b 1=true)∧(i=5→b 3=true∧b 4=true)∧(i=7→b 1=true∧b 2=true)∧(i=8→b 4=true∧b 5=true)∧(i=9→b 6=true))
  (r0:∀ b:Nat→Bool,left b=0→Region.ready .any ops (bs b) = []) (r1:∀ (b:Nat→Bool) (f:Nat),f+1=left b→Region.ready .any ops (bs b)≠[])
  (o0:∃ (o:Oper),ops[0]?=some o∧o.guard=none∧o.dst=some 96∧o.op=.load 109 (.tmp 11))
  (o1:∃ (o:Oper),ops[1]?=some o∧o.guard=none∧o.dst=some 97∧o.op=.load 109 (.tmp 8))
  (o2:∃ (o:Oper) (ts:Array TypeId),ops[2]?=some o∧o.guard=none∧o.dst=some 98∧o.op=.call { callee:=.value (.func 129),args:=#[.tmp 96,.tmp 97],argTypes:=ts })
  (o3:∃ (o:Oper),ops[3]?=some o∧o.guard=none∧o.dst=some 99∧o.op=.load 109 (.tmp 11))
  (o4:∃ (o:Oper),ops[4]?=some o∧o.guard=none∧o.dst=some 100∧o.op=.load 109 (.tmp 9))
  (o5:∃ (o:Oper) (ts:Array TypeId),ops[5]?=some o∧o.guard=none∧o.dst=some 101∧o.op=.call { callee:=.value (.func 129),args:=#[.tmp 99,.tmp 100],argTypes:=ts })
  (o6:∃ (o:Oper),ops[6]?=some o∧o.guard=none∧o.dst=some 102∧o.op=.move (.tmp 10))
  (o7:∃ (o:Oper),ops[7]?=some o∧o.guard=none∧o.dst=none∧o.op=.store 109 (.tmp 8) (.tmp 98))
  (o8:∃ (o:Oper),ops[8]?=some o∧o.guard=none∧o.dst=none∧o.op=.store 109 (.tmp 9) (.tmp 101))
  (o9:∃ (o:Oper),ops[9]?=some o∧o.guard=none∧o.dst=some 10∧o.op=.assign (.tmp 102))
  (hgW:g≤W.heap.size) (hcf:∀ args w,(callFunc 129 args).run prog w=.ok (.enter 129 args) w) (hn1:∀ w,Calls prog 129 #[.agg (h8 last),.agg (h8 x)] w fun e w'=>e=.returned (.agg (h8 n1))∧Below w.heap.size w w') (hn2:∀ w,Calls prog 129 #[.agg (h8 last),.agg (h8 y)] w fun e w'=>e=.returned (.agg (h8 n2))∧Below w.heap.size w w')
  (hQ:∀ b a w,In14 last x y n1 n2 g ok W b a w→b 7=true→b 8=true→Q .normal a w) :
  ∀ a w,In14 last x y n1 n2 g ok W (fun _=>false) a w→wpAny prog .any ops Q 10 (Array.replicate 10 false) a w:=by
 intro a w h
 refine wpAny_inv (fun f L a w=>∃ b,L=bs b∧f=left b∧In14 last x y n1 n2 g ok W b a w) ?_ ?_ 10 _ a w ⟨fun _=>false,rfl,rfl,h⟩
 ·rintro L a w ⟨b,rfl,hf,h⟩
  refine⟨r0 b hf.symm,hQ b a w h ?_ ?_⟩
  ·rcases hh:b 7 with _|_
   ·exfalso;simp only[left,hh,Bool.not_false,Bool.toNat_true] at hf;omega
   ·rfl
  ·rcases hh:b 8 with _|_
   ·exfalso;simp only[left,hh,Bool.not_false,Bool.toNat_true] at hf;omega
   ·rfl
 ·rintro f L a w ⟨b,rfl,hf,h⟩
  refine⟨r1 b f hf,fun i hi=>?_⟩
  obtain⟨hi10,hbi,d2,d5,d7,d8,d9⟩:=r b i hi
  have hL:=bs_upd b i hi10
  have hF:=left_upd b i hi10 hbi f hf
  have:i=0∨i=1∨i=2∨i=3∨i=4∨i=5∨i=6∨i=7∨i=8∨i=9:=by omega
  rcases this with rfl|rfl|rfl|rfl|rfl|rfl|rfl|rfl|rfl|rfl
  ·obtain⟨o,h1,h2,h3,h4⟩:=o0
   refine wpOp_of h1 h2 (wp_load_row _ _ h4 _ h.t11 _ (h8 last) _ _ h.h11 underlying109 rfl (by rw[info8,h8_size]) ⟨upd b 0,hL,hF,?_⟩)
   rw[h3]
   exact { h11:=h.h11,e8:=h.e8,f8:=h.f8,e9:=h.e9,f9:=h.f9,bel:=h.bel,c7:=h.c7,c8:=h.c8,d:=put_defers.trans h.d,s:=by rw[put_size];exact h.s,t8:=getD_put h.t8 (by decide),t9:=getD_put h.t9 (by decide),t11:=getD_put h.t11 (by decide),t10:=getD_put h.t10 (by decide),r0:=fun _=>getD_put_same (by have:=h.s;omega),r1:=fun hb=>getD_put (h.r1 hb) (by decide),r2:=fun hb=>getD_put (h.r2 hb) (by decide),r3:=fun hb=>getD_put (h.r3 hb) (by decide),r4:=fun hb=>getD_put (h.r4 hb) (by decide),r5:=fun hb=>getD_put (h.r5 hb) (by decide),r6:=fun hb=>getD_put (h.r6 hb) (by decide) }
  ·obtain⟨o,h1,h2,h3,h4⟩:=o1
   have n7:b 7=false:=by rcases hh:b 7 with _|_;rfl;exact absurd (h.c7 hh) (by rw[hbi];decide)
   refine wpOp_of h1 h2 (wp_load_row _ _ h4 _ h.t8 _ (h8 x) _ _ (h.e8 n7) underlying109 rfl (by rw[info8,h8_size]) ⟨upd b 1,hL,hF,?_⟩)
   rw[h3]
   exact { h11:=h.h11,e8:=h.e8,f8:=h.f8,e9:=h.e9,f9:=h.f9,bel:=h.bel,c7:=fun _=>rfl,c8:=h.c8,d:=put_defers.trans h.d,s:=by rw[put_size];exact h.s,t8:=getD_put h.t8 (by decide),t9:=getD_put h.t9 (by decide),t11:=getD_put h.t11 (by decide),t10:=getD_put h.t10 (by decide),r0:=fun hb=>getD_put (h.r0 hb) (by decide),r1:=fun _=>getD_put_same (by have:=h.s;omega),r2:=fun hb=>getD_put (h.r2 hb) (by decide),r3:=fun hb=>getD_put (h.r3 hb) (by decide),r4:=fun hb=>getD_put (h.r4 hb) (by decide),r5:=fun hb=>getD_put (h.r5 hb) (by decide),r6:=fun hb=>getD_put (h.r6 hb) (by decide) }
  ·obtain⟨o,ts,h1,h2,h3,h4⟩:=o2
   have dd:=d2 rfl
   refine wpOp_of h1 h2 (wp_call2 _ _ _ _ h4 hcf ?_)
   rw[show a.eval (.tmp 96)=.agg (h8 last) from h.r0 dd.1,show a.eval (.tmp 97)=.agg (h8 x) from h.r1 dd.2]
   refine (hn1 w).mono ?_
   rintro e w' ⟨rfl,hb⟩
   refine⟨_,rfl,upd b 2,hL,hF,?_⟩
   rw[h3]
   exact { h11:=hashOf_below h.h11 hb,e8:=fun k=>hashOf_below (h.e8 k) hb,f8:=fun k=>hashOf_below (h.f8 k) hb,e9:=fun k=>hashOf_below (h.e9 k) hb,f9:=fun k=>hashOf_below (h.f9 k) hb,bel:=h.bel.trans (hb.mono (Nat.le_trans hgW h.bel.size)),c7:=h.c7,c8:=h.c8,d:=put_defers.trans h.d,s:=by rw[put_size];exact h.s,t8:=getD_put h.t8 (by decide),t9:=getD_put h.t9 (by decide),t11:=getD_put h.t11 (by decide),t10:=getD_put h.t10 (by decide),r0:=fun hb=>getD_put (h.r0 hb) (by decide),r1:=fun hb=>getD_put (h.r1 hb) (by decide),r2:=fun _=>getD_put_same (by have:=h.s;omega),r3:=fun hb=>getD_put (h.r3 hb) (by decide),r4:=fun hb=>getD_put (h.r4 hb) (by decide),r5:=fun hb=>getD_put (h.r5 hb) (by decide),r6:=fun hb=>getD_put (h.r6 hb) (by decide) }
  ·obtain⟨o,h1,h2,h3,h4⟩:=o3
   refine wpOp_of h1 h2 (wp_load_row _ _ h4 _ h.t11 _ (h8 last) _ _ h.h11 underlying109 rfl (by rw[info8,h8_size]) ⟨upd b 3,hL,hF,?_⟩)
   rw[h3]
   exact { h11:=h.h11,e8:=h.e8,f8:=h.f8,e9:=h.e9,f9:=h.f9,bel:=h.bel,c7:=h.c7,c8:=h.c8,d:=put_defers.trans h.d,s:=by rw[put_size];exact h.s,t8:=getD_put h.t8 (by decide),t9:=getD_put h.t9 (by decide),t11:=getD_put h.t11 (by decide),t10:=getD_put h.t10 (by decide),r0:=fun hb=>getD_put (h.r0 hb) (by decide),r1:=fun hb=>getD_put (h.r1 hb) (by decide),r2:=fun hb=>getD_put (h.r2 hb) (by decide),r3:=fun _=>getD_put_same (by have:=h.s;omega),r4:=fun hb=>getD_put (h.r4 hb) (by decide),r5:=fun hb=>getD_put (h.r5 hb) (by decide),r6:=fun hb=>getD_put (h.r6 hb) (by decide) }
  ·obtain⟨o,h1,h2,h3,h4⟩:=o4
   have n8:b 8=false:=by rcases hh:b 8 with _|_;rfl;exact absurd (h.c8 hh) (by rw[hbi];decide)
   refine wpOp_of h1 h2 (wp_load_row _ _ h4 _ h.t9 _ (h8 y) _ _ (h.e9 n8) underlying109 rfl (by rw[info8,h8_size]) ⟨upd b 4,hL,hF,?_⟩)
   rw[h3]
   exact { h11:=h.h11,e8:=h.e8,f8:=h.f8,e9:=h.e9,f9:=h.f9,bel:=h.bel,c7:=h.c7,c8:=fun _=>rfl,d:=put_defers.trans h.d,s:=by rw[put_size];exact h.s,t8:=getD_put h.t8 (by decide),t9:=getD_put h.t9 (by decide),t11:=getD_put h.t11 (by decide),t10:=getD_put h.t10 (by decide),r0:=fun hb=>getD_put (h.r0 hb) (by decide),r1:=fun hb=>getD_put (h.r1 hb) (by decide),r2:=fun hb=>getD_put (h.r2 hb) (by decide),r3:=fun hb=>getD_put (h.r3 hb) (by decide),r4:=fun _=>getD_put_same (by have:=h.s;omega),r5:=fun hb=>getD_put (h.r5 hb) (by decide),r6:=fun hb=>getD_put (h.r6 hb) (by decide) }
  ·obtain⟨o,ts,h1,h2,h3,h4⟩:=o5
   have dd:=d5 rfl
   refine wpOp_of h1 h2 (wp_call2 _ _ _ _ h4 hcf ?_)
   rw[show a.eval (.tmp 99)=.agg (h8 last) from h.r3 dd.1,show a.eval (.tmp 100)=.agg (h8 y) from h.r4 dd.2]
   refine (hn2 w).mono ?_
   rintro e w' ⟨rfl,hb⟩
   refine⟨_,rfl,upd b 5,hL,hF,?_⟩
   rw[h3]
   exact { h11:=hashOf_below h.h11 hb,e8:=fun k=>hashOf_below (h.e8 k) hb,f8:=fun k=>hashOf_below (h.f8 k) hb,e9:=fun k=>hashOf_below (h.e9 k) hb,f9:=fun k=>hashOf_below (h.f9 k) hb,bel:=h.bel.trans (hb.mono (Nat.le_trans hgW h.bel.size)),c7:=h.c7,c8:=h.c8,d:=put_defers.trans h.d,s:=by rw[put_size];exact h.s,t8:=getD_put h.t8 (by decide),t9:=getD_put h.t9 (by decide),t11:=getD_put h.t11 (by decide),t10:=getD_put h.t10 (by decide),r0:=fun hb=>getD_put (h.r0 hb) (by decide),r1:=fun hb=>getD_put (h.r1 hb) (by decide),r2:=fun hb=>getD_put (h.r2 hb) (by decide),r3:=fun hb=>getD_put (h.r3 hb) (by decide),r4:=fun hb=>getD_put (h.r4 hb) (by decide),r5:=fun _=>getD_put_same (by have:=h.s;omega),r6:=fun hb=>getD_put (h.r6 hb) (by decide) }
  ·obtain⟨o,h1,h2,h3,h4⟩:=o6
   refine wpOp_of h1 h2 (BigFrame.wp_move _ h4 ⟨upd b 6,hL,hF,?_⟩)
   rw[h3,show a.eval (.tmp 10)=ok from h.t10]
   exact { h11:=h.h11,e8:=h.e8,f8:=h.f8,e9:=h.e9,f9:=h.f9,bel:=h.bel,c7:=h.c7,c8:=h.c8,d:=put_defers.trans h.d,s:=by rw[put_size];exact h.s,t8:=getD_put h.t8 (by decide),t9:=getD_put h.t9 (by decide),t11:=getD_put h.t11 (by decide),t10:=getD_put h.t10 (by decide),r0:=fun hb=>getD_put (h.r0 hb) (by decide),r1:=fun hb=>getD_put (h.r1 hb) (by decide),r2:=fun hb=>getD_put (h.r2 hb) (by decide),r3:=fun hb=>getD_put (h.r3 hb) (by decide),r4:=fun hb=>getD_put (h.r4 hb) (by decide),r5:=fun hb=>getD_put (h.r5 hb) (by decide),r6:=fun _=>getD_put_same (by have:=h.s;omega) }
  ·obtain⟨o,h1,h2,h3,h4⟩:=o7
   have dd:=d7 rfl
   refine wpOp_of h1 h2 (wp_store_row _ _ _ h4 _ (h8 n1) h.t8 (h.r2 dd.2) _ _ (h.e8 hbi) (by rw[info8,h8_size]) (by simp) (h8_one n1) ⟨upd b 7,hL,hF,?_⟩)
   rw[h3]
   exact { h11:=hashOf_other h.h11 _ (by omega),e8:=fun k=>absurd (show true=false from k) (by decide),f8:=fun _=>hashOf_set (h.e8 hbi) _,e9:=fun k=>hashOf_other (h.e9 k) _ (by omega),f9:=fun k=>hashOf_other (h.f9 k) _ (by omega),bel:=below_setRow h.bel (by omega) _,c7:=fun _=>dd.1,c8:=h.c8,d:=h.d,s:=h.s,t8:=h.t8,t9:=h.t9,t11:=h.t11,t10:=h.t10,r0:=h.r0,r1:=h.r1,r2:=h.r2,r3:=h.r3,r4:=h.r4,r5:=h.r5,r6:=h.r6 }
  ·obtain⟨o,h1,h2,h3,h4⟩:=o8
   have dd:=d8 rfl
   refine wpOp_of h1 h2 (wp_store_row _ _ _ h4 _ (h8 n2) h.t9 (h.r5 dd.2) _ _ (h.e9 hbi) (by rw[info8,h8_size]) (by simp) (h8_one n2) ⟨upd b 8,hL,hF,?_⟩)
   rw[h3]
   exact { h11:=hashOf_other h.h11 _ (by omega),e8:=fun k=>hashOf_other (h.e8 k) _ (by omega),f8:=fun k=>hashOf_other (h.f8 k) _ (by omega),e9:=fun k=>absurd (show true=false from k) (by decide),f9:=fun _=>hashOf_set (h.e9 hbi) _,bel:=below_setRow h.bel (by omega) _,c7:=h.c7,c8:=fun _=>dd.1,d:=h.d,s:=h.s,t8:=h.t8,t9:=h.t9,t11:=h.t11,t10:=h.t10,r0:=h.r0,r1:=h.r1,r2:=h.r2,r3:=h.r3,r4:=h.r4,r5:=h.r5,r6:=h.r6 }
  ·obtain⟨o,h1,h2,h3,h4⟩:=o9
   refine wpOp_of h1 h2 (BigFrame.wp_assign _ h4 ⟨upd b 9,hL,hF,?_⟩)
   rw[h3,show a.eval (.tmp 102)=ok from h.r6 (d9 rfl)]
   exact { h11:=h.h11,e8:=h.e8,f8:=h.f8,e9:=h.e9,f9:=h.f9,bel:=h.bel,c7:=h.c7,c8:=h.c8,d:=put_defers.trans h.d,s:=by rw[put_size];exact h.s,t8:=getD_put h.t8 (by decide),t9:=getD_put h.t9 (by decide),t11:=getD_put h.t11 (by decide),t10:=getD_put_same (by have:=h.s;omega),r0:=fun hb=>getD_put (h.r0 hb) (by decide),r1:=fun hb=>getD_put (h.r1 hb) (by decide),r2:=fun hb=>getD_put (h.r2 hb) (by decide),r3:=fun hb=>getD_put (h.r3 hb) (by decide),r4:=fun hb=>getD_put (h.r4 hb) (by decide),r5:=fun hb=>getD_put (h.r5 hb) (by decide),r6:=fun hb=>getD_put (h.r6 hb) (by decide) }
end
section
section
attribute [local go_sem] h8_0 h8_1 h8_2 h8_3 h8_4 h8_5 h8_6 h8_7 h8_fold h8_size cell_setRow_ne run_store8
theorem WholeAt.below {w w':World} {v:Value} {o:Option Hsh} (h:WholeAt w v o) (hb:Below w.heap.size w w'):WholeAt w' v o:=by
 rcases h with h|⟨g,x,h1,h2,h3⟩
 ·exact .inl h
 ·exact .inr ⟨g,x,h1,h2,hashOf_below h3 hb⟩
set_option maxHeartbeats 16000000 in
theorem extend_any (l:Nat):∀ (p:List Hsh) (m n:Int) (whole:Option Hsh) (v pv:Value) (w:World),p.length=l→HashesAt w v p→WholeAt w pv whole→1≤m→m≤n→n≤9223372036854775807→l≤1048576→
  Calls prog 144 #[.int .i64 m,.int .i64 n,v,pv] w (ExtendPost m.toNat n.toNat whole p w):=by
 induction l with
 | zero=>
  intro p m n whole v pv w hp h hw h1 hmn hn hl
  obtain rfl:p = []:=List.eq_nil_of_length_eq_zero hp
  by_cases he:m=n
  ·subst he
   rcases id hw with ⟨rfl,rfl⟩|⟨g,x,rfl,rfl,hh⟩
   ·exact extend_no m m _ none v [] w h hw hmn (.inl ⟨rfl,rfl,by simp⟩) h1
   ·exact extend_whole m g x v [] w h hh
  ·exact extend_no m n pv whole v [] w h hw hmn (.inr ⟨he,rfl⟩) h1
 | succ l ih=>
  intro p m n whole v pv w hp h hw h1 hmn hn hl
  by_cases he:m=n
  ·subst he
   rcases id hw with ⟨rfl,rfl⟩|⟨g,x,rfl,rfl,hh⟩
   ·by_cases hp1:p.length=1
    ·match p,hp1 with
     | [r],_=>exact extend_one m r v w h
    ·exact extend_no m m _ none v p w h hw hmn (.inl ⟨rfl,rfl,hp1⟩) h1
   ·exact extend_whole m g x v p w h hh
  ·obtain⟨q,last,rfl⟩:∃ q last,p=q ++ [last]:=⟨p.dropLast,p.getLast (by intro e;simp[e] at hp),(List.dropLast_concat_getLast _).symm⟩
   have hq:q.length=l:=by simpa using hp
   obtain⟨a,c,hv,_⟩:=id h
   rw[hp] at hv
   subst hv
   obtain⟨b,off,rfl,hcap,hcell,hinit⟩:=hashes_init h hq
   have hr:=roots_snoc m.toNat n.toNat whole q last
   rw[if_neg (by omega)] at hr
   have hbd:=below_bd (n:=n.toNat) (by omega) (by omega)
   obtain⟨k,hk⟩:∃ k,k=below n.toNat:=⟨_,rfl⟩
   rw[←hk] at hbd hr
   obtain⟨hb1,hb2,hb3⟩:=hbd
   have HR:=zh hr
   have HK:=zh hk
   have HW:=zh hw
   have HQ:=zh hinit
   have IH:=zh ih
   have HL:=zh hq
   clear hr hk hw hinit ih h hq hp
   have c0:w.cell? ⟨b,off+l*8,none⟩=some (u8 last[0]):=hcell 0 (by decide)
   have c1:=hcell 1 (by decide)
   have c2:=hcell 2 (by decide)
   have c3:=hcell 3 (by decide)
   have c4:=hcell 4 (by decide)
   have c5:=hcell 5 (by decide)
   have c6:=hcell 6 (by decide)
   have c7:=hcell 7 (by decide)
   have hbw:b<w.heap.size:=cell_lt c0
   have hbw1:b<w.heap.size+1:=by omega
   have hbw2:b<w.heap.size+1+1:=by omega
   have hz0:((l:Int)+1 == 0)=false:=by rw[beq_eq_false_iff_ne];omega
   have hd:(m == n)=false:=by rw[beq_eq_false_iff_ne];exact he
   have hI:Is8 (((w.alloc (.cells zc 109)).alloc (.cells zc 109)).alloc (.cells zc 109)).drew (w.heap.size+1+1):=⟨zero8,hashOf_drew (hashOf_zero' (by simp))⟩
   clear hcell
   go_enter func144,ntmps144
   go_wp2_with fail
   go_region
   have f1:hashOf ((((w.alloc (.cells zc 109)).alloc (.cells zc 109)).alloc (.cells zc 109)).drew.setRow (w.heap.size+1+1) (h8 last)) w.heap.size zero8:=hashOf_other (hashOf_drew (hashOf_old (hashOf_old (hashOf_zero' rfl) _) _)) _ (by omega)
   have f2:hashOf ((((w.alloc (.cells zc 109)).alloc (.cells zc 109)).alloc (.cells zc 109)).drew.setRow (w.heap.size+1+1) (h8 last)) (w.heap.size+1) zero8:=hashOf_other (hashOf_drew (hashOf_old (hashOf_zero' (by simp)) _)) _ (by omega)
   have f3:hashOf ((((w.alloc (.cells zc 109)).alloc (.cells zc 109)).alloc (.cells zc 109)).drew.setRow (w.heap.size+1+1) (h8 last)) (w.heap.size+1+1) last:=hashOf_set (hashOf_drew (hashOf_zero' (by simp))) _
   have f4:Below w.heap.size w ((((w.alloc (.cells zc 109)).alloc (.cells zc 109)).alloc (.cells zc 109)).drew.setRow (w.heap.size+1+1) (h8 last)):=below_setRow (((((below_alloc w _).alloc (by simp) _).alloc (by simp;omega) _).drew)) (by omega) _
   have f5:((((w.alloc (.cells zc 109)).alloc (.cells zc 109)).alloc (.cells zc 109)).drew.setRow (w.heap.size+1+1) (h8 last)).heap.size=w.heap.size+1+1+1:=by simp
   have F1:=zh f1
   have F2:=zh f2
   have F3:=zh f3
   have F4:=zh f4
   have F5:=zh f5
   clear f1 f2 f3 f4 f5 hI c0 c1 c2 c3 c4 c5 c6 c7
   generalize ((((w.alloc (.cells zc 109)).alloc (.cells zc 109)).alloc (.cells zc 109)).drew.setRow (w.heap.size+1+1) (h8 last))=W2 at *
   go_wp2_with fail
   refine (split_any _ _ (by omega) (by omega)).mono ?_
   rintro e w0 ⟨rfl,rfl⟩
   rw[←HK.o]
   have HW2:=zh (HW.o.below F4.o)
   by_cases hmk:m≤(k:Int)
   ·go_wp2_with fail
    refine (IH.o q m k whole _ _ _ HL.o (Cells.below HQ.o F4.o) HW2.o h1 hmk (by omega) (by omega)).mono ?_
    rintro e w1 ⟨x,y,rfl,hxy,hb⟩
    have hz:w.heap.size+3≤w1.heap.size:=by have:=hb.size;rw[F5.o] at this;omega
    have g1:=hashOf_below F1.o hb
    have g2:=hashOf_below F2.o hb
    have g3:=hashOf_below F3.o hb
    have j2:hashOf (w1.setRow w.heap.size (h8 x)) (w.heap.size+1) zero8:=hashOf_other g2 _ (by omega)
    have HXY:=zh hxy
    have G3:=zh g3
    have G1:=zh g1
    have F6:=zh (F4.o.trans (hb.mono F4.o.size))
    clear hxy hb g3
    obtain⟨rt,hrr⟩:∃ r,r=roots m.toNat (k:Int).toNat whole q:=⟨_,rfl⟩
    rw[←hrr]
    have HRR:=zh hrr
    clear hrr
    go_wp2_with (refine wpList_store8 rfl 109 _ _ rfl _ _ rfl rfl info8 ?_ ?_ ?_;rotate_left;focus ((repeat(first|(with_reducible first|assumption|exact hashOf_set' ⟨_,by assumption⟩ _)|((with_reducible first|refine hashOf_zero' ?_|refine hashOf_at ?_|refine hashOf_set' (Is8_zero ?_) _);(first|rfl|(simp;done)|(simp;omega)))|with_reducible refine hashOf_old ?_ _|((with_reducible refine hashOf_other ?_ _ ?_);rotate_left;(focus(first|(simp;done)|(simp;omega)|omega)))|with_reducible first|refine hashOf_drew ?_|refine hashOf_below ?_ (by assumption)));done))
    have a1:hashOf ((w1.setRow w.heap.size (h8 x)).setRow (w.heap.size+1) (h8 y)) w.heap.size x:=hashOf_other (hashOf_set G1.o _) _ (by omega)
    have a2:hashOf ((w1.setRow w.heap.size (h8 x)).setRow (w.heap.size+1) (h8 y)) (w.heap.size+1) y:=hashOf_set j2 _
    have a3:hashOf ((w1.setRow w.heap.size (h8 x)).setRow (w.heap.size+1) (h8 y)) (w.heap.size+1+1) last:=hashOf_other (hashOf_other G3.o _ (by omega)) _ (by omega)
    have a4:Below w.heap.size w ((w1.setRow w.heap.size (h8 x)).setRow (w.heap.size+1) (h8 y)):=below_setRow (below_setRow F6.o (Nat.le_refl _) _) (by omega) _
    have a5:((w1.setRow w.heap.size (h8 x)).setRow (w.heap.size+1) (h8 y)).heap.size=w1.heap.size:=by simp
    have A1:=zh a1
    have A2:=zh a2
    have A3:=zh a3
    have A4:=zh a4
    have A5:=zh a5
    clear a1 a2 a3 a4 a5 j2 g1 g2
    generalize ((w1.setRow w.heap.size (h8 x)).setRow (w.heap.size+1) (h8 y))=W3 at *
    have hz3:w.heap.size+3≤W3.heap.size:=by rw[A5.o];exact hz
    have hz31:w.heap.size<W3.heap.size:=by omega
    have hz32:w.heap.size+1<W3.heap.size:=by omega
    have hz33:w.heap.size+1+1<W3.heap.size:=by omega
    have x0:=hashOf_cell A1.o 0 (by decide)
    have x1:=hashOf_cell A1.o 1 (by decide)
    have x2:=hashOf_cell A1.o 2 (by decide)
    have x3:=hashOf_cell A1.o 3 (by decide)
    have x4:=hashOf_cell A1.o 4 (by decide)
    have x5:=hashOf_cell A1.o 5 (by decide)
    have x6:=hashOf_cell A1.o 6 (by decide)
    have x7:=hashOf_cell A1.o 7 (by decide)
    have y0:=hashOf_cell A2.o 0 (by decide)
    have y1:=hashOf_cell A2.o 1 (by decide)
    have y2:=hashOf_cell A2.o 2 (by decide)
    have y3:=hashOf_cell A2.o 3 (by decide)
    have y4:=hashOf_cell A2.o 4 (by decide)
    have y5:=hashOf_cell A2.o 5 (by decide)
    have y6:=hashOf_cell A2.o 6 (by decide)
    have y7:=hashOf_cell A2.o 7 (by decide)
    have z0:=hashOf_cell A3.o 0 (by decide)
    have z1:=hashOf_cell A3.o 1 (by decide)
    have z2:=hashOf_cell A3.o 2 (by decide)
    have z3:=hashOf_cell A3.o 3 (by decide)
    have z4:=hashOf_cell A3.o 4 (by decide)
    have z5:=hashOf_cell A3.o 5 (by decide)
    have z6:=hashOf_cell A3.o 6 (by decide)
    have z7:=hashOf_cell A3.o 7 (by decide)
    go_region_with (go_at_call 129;refine (node_any y last _).mono ?_;rintro e w4 ⟨rfl,hb4⟩;have k1:=hashOf_below (hashOf_drew A1.o) hb4;have k2:=hashOf_below (hashOf_drew A2.o) hb4;have hz4:w.heap.size+3≤w4.heap.size:=Nat.le_trans hz3 hb4.size;have i1:Is8 w4 w.heap.size:=⟨_,k1⟩;have i2:Is8 w4 (w.heap.size+1):=⟨_,k2⟩;have i3:Is8 (w4.setRow w.heap.size (h8 x)) (w.heap.size+1):=⟨_,hashOf_other k2 _ (by omega)⟩;have i4:Is8 (w4.setRow (w.heap.size+1) (h8 (nodeH y last))) w.heap.size:=⟨_,hashOf_other k1 _ (by omega)⟩;have HB4:=zh hb4;have d0:=hashOf_cell k1 0 (by decide);have d1:=hashOf_cell k1 1 (by decide);have d2:=hashOf_cell k1 2 (by decide);have d3:=hashOf_cell k1 3 (by decide);have d4:=hashOf_cell k1 4 (by decide);have d5:=hashOf_cell k1 5 (by decide);have d6:=hashOf_cell k1 6 (by decide);have d7:=hashOf_cell k1 7 (by decide);clear hb4 k1 k2)
    all_goals
     go_wp2
     have hre:roots m.toNat n.toNat whole (q ++ [last])=rt.map (fun z=>(z.1,nodeH z.2 last)):=by rw[HR.o,if_pos (by omega),HRR.o];rfl
     refine ret88t w.heap.size (w.heap.size+1) x (nodeH y last) (.bool rt.isSome) rfl rfl rfl rfl _ underlying109 info8 (hashOf_other (hashOf_set' i1 _) _ (by omega)) (hashOf_set' i3 _) rfl ⟨x,nodeH y last,by rw[hre,Option.isSome_map],?_,below_setRow (below_setRow ((A4.o.drew).trans (HB4.o.mono A4.o.drew.size)) (Nat.le_refl _) _) (by omega) _⟩
     intro z hzz
     rw[hre] at hzz
     obtain⟨z',hz',rfl⟩:=Option.map_eq_some_iff.1 hzz
     have:=HXY.o z' (by rw[←HRR.o];exact hz')
     subst this
     rfl
   ·go_wp2_with fail
    refine (IH.o q (m-k) (n-k) none _ _ _ HL.o (Cells.below HQ.o F4.o) (.inl ⟨rfl,rfl⟩) (by omega) (by omega) (by omega) (by omega)).mono ?_
    rintro e w1 ⟨x,y,rfl,hxy,hb⟩
    have hz:w.heap.size+3≤w1.heap.size:=by have:=hb.size;rw[F5.o] at this;omega
    have g1:=hashOf_below F1.o hb
    have g2:=hashOf_below F2.o hb
    have g3:=hashOf_below F3.o hb
    have j2:hashOf (w1.setRow w.heap.size (h8 x)) (w.heap.size+1) zero8:=hashOf_other g2 _ (by omega)
    have HXY:=zh hxy
    have G3:=zh g3
    have G1:=zh g1
    have F6:=zh (F4.o.trans (hb.mono F4.o.size))
    clear hxy hb g3
    obtain⟨rt,hrr⟩:∃ r,r=roots (m-k).toNat (n-k).toNat none q:=⟨_,rfl⟩
    rw[←hrr]
    have HRR:=zh hrr
    clear hrr
    go_wp2_with (refine wpList_store8 rfl 109 _ _ rfl _ _ rfl rfl info8 ?_ ?_ ?_;rotate_left;focus ((repeat(first|(with_reducible first|assumption|exact hashOf_set' ⟨_,by assumption⟩ _)|((with_reducible first|refine hashOf_zero' ?_|refine hashOf_at ?_|refine hashOf_set' (Is8_zero ?_) _);(first|rfl|(simp;done)|(simp;omega)))|with_reducible refine hashOf_old ?_ _|((with_reducible refine hashOf_other ?_ _ ?_);rotate_left;(focus(first|(simp;done)|(simp;omega)|omega)))|with_reducible first|refine hashOf_drew ?_|refine hashOf_below ?_ (by assumption)));done))
    have a1:hashOf ((w1.setRow w.heap.size (h8 x)).setRow (w.heap.size+1) (h8 y)) w.heap.size x:=hashOf_other (hashOf_set G1.o _) _ (by omega)
    have a2:hashOf ((w1.setRow w.heap.size (h8 x)).setRow (w.heap.size+1) (h8 y)) (w.heap.size+1) y:=hashOf_set j2 _
    have a3:hashOf ((w1.setRow w.heap.size (h8 x)).setRow (w.heap.size+1) (h8 y)) (w.heap.size+1+1) last:=hashOf_other (hashOf_other G3.o _ (by omega)) _ (by omega)
    have a4:Below w.heap.size w ((w1.setRow w.heap.size (h8 x)).setRow (w.heap.size+1) (h8 y)):=below_setRow (below_setRow F6.o (Nat.le_refl _) _) (by omega) _
    have a5:((w1.setRow w.heap.size (h8 x)).setRow (w.heap.size+1) (h8 y)).heap.size=w1.heap.size:=by simp
    have A1:=zh a1
    have A2:=zh a2
    have A3:=zh a3
    have A4:=zh a4
    have A5:=zh a5
    clear a1 a2 a3 a4 a5 j2 g1 g2
    generalize ((w1.setRow w.heap.size (h8 x)).setRow (w.heap.size+1) (h8 y))=W3 at *
    have hz3:w.heap.size+3≤W3.heap.size:=by rw[A5.o];exact hz
    have hz31:w.heap.size<W3.heap.size:=by omega
    have hz32:w.heap.size+1<W3.heap.size:=by omega
    have hz33:w.heap.size+1+1<W3.heap.size:=by omega
    refine wp_region_any (by kernel_rfl) ?_
    refine draw14 last x y (nodeH last x) (nodeH last y) w.heap.size (.bool rt.isSome) w ?_ ?_ ?_ ⟨_,rfl,rfl,rfl,rfl⟩ ⟨_,rfl,rfl,rfl,rfl⟩ ⟨_,_,rfl,rfl,rfl,rfl⟩ ⟨_,rfl,rfl,rfl,rfl⟩ ⟨_,rfl,rfl,rfl,rfl⟩ ⟨_,_,rfl,rfl,rfl,rfl⟩ ⟨_,rfl,rfl,rfl,rfl⟩ ⟨_,rfl,rfl,rfl,rfl⟩ ⟨_,rfl,rfl,rfl,rfl⟩ ⟨_,rfl,rfl,rfl,rfl⟩ (Nat.le_refl _) (fun _ _=>by rfl) (node_any last x) (node_any last y) ?_ _ _ ?_
    ·intro b i hi
     rw[Region.ready,List.mem_filter] at hi
     obtain⟨hi1,hi2⟩:=hi
     have hi10:i<10:=List.mem_range.1 hi1
     have:i=0∨i=1∨i=2∨i=3∨i=4∨i=5∨i=6∨i=7∨i=8∨i=9:=by omega
     clear hi1
     rcases this with rfl|rfl|rfl|rfl|rfl|rfl|rfl|rfl|rfl|rfl <;> simp[bs,Region.binds] at hi2 ⊢ <;> simp[hi2]
    ·intro b hb
     have hh:∀ c:Bool,(!c).toNat=0→c=true:=by intro c;cases c <;> simp
     unfold left at hb
     have k0:=hh (b 0) (by omega)
     have k1:=hh (b 1) (by omega)
     have k2:=hh (b 2) (by omega)
     have k3:=hh (b 3) (by omega)
     have k4:=hh (b 4) (by omega)
     have k5:=hh (b 5) (by omega)
     have k6:=hh (b 6) (by omega)
     have k7:=hh (b 7) (by omega)
     have k8:=hh (b 8) (by omega)
     have k9:=hh (b 9) (by omega)
     rw[show bs b=#[true,true,true,true,true,true,true,true,true,true] by simp only[bs,k0,k1,k2,k3,k4,k5,k6,k7,k8,k9]]
     rfl
    ·intro b f hf
     rcases k0:b 0 with _|_
     ·exact List.ne_nil_of_mem (a:=0) (by rw[Region.ready,List.mem_filter];exact⟨List.mem_range.2 (by show 0<10;decide),by simp[bs,Region.binds,k0]⟩)
     rcases k1:b 1 with _|_
     ·exact List.ne_nil_of_mem (a:=1) (by rw[Region.ready,List.mem_filter];exact⟨List.mem_range.2 (by show 1<10;decide),by simp[bs,Region.binds,k0,k1]⟩)
     rcases k2:b 2 with _|_
     ·exact List.ne_nil_of_mem (a:=2) (by rw[Region.ready,List.mem_filter];exact⟨List.mem_range.2 (by show 2<10;decide),by simp[bs,Region.binds,k0,k1,k2]⟩)
     rcases k3:b 3 with _|_
     ·exact List.ne_nil_of_mem (a:=3) (by rw[Region.ready,List.mem_filter];exact⟨List.mem_range.2 (by show 3<10;decide),by simp[bs,Region.binds,k0,k1,k2,k3]⟩)
     rcases k4:b 4 with _|_
     ·exact List.ne_nil_of_mem (a:=4) (by rw[Region.ready,List.mem_filter];exact⟨List.mem_range.2 (by show 4<10;decide),by simp[bs,Region.binds,k0,k1,k2,k3,k4]⟩)
     rcases k5:b 5 with _|_
     ·exact List.ne_nil_of_mem (a:=5) (by rw[Region.ready,List.mem_filter];exact⟨List.mem_range.2 (by show 5<10;decide),by simp[bs,Region.binds,k0,k1,k2,k3,k4,k5]⟩)
     rcases k6:b 6 with _|_
     ·exact List.ne_nil_of_mem (a:=6) (by rw[Region.ready,List.mem_filter];exact⟨List.mem_range.2 (by show 6<10;decide),by simp[bs,Region.binds,k0,k1,k2,k3,k4,k5,k6]⟩)
     rcases k7:b 7 with _|_
     ·exact List.ne_nil_of_mem (a:=7) (by rw[Region.ready,List.mem_filter];exact⟨List.mem_range.2 (by show 7<10;decide),by simp[bs,Region.binds,k0,k1,k2,k3,k4,k5,k6,k7]⟩)
     rcases k8:b 8 with _|_
     ·exact List.ne_nil_of_mem (a:=8) (by rw[Region.ready,List.mem_filter];exact⟨List.mem_range.2 (by show 8<10;decide),by simp[bs,Region.binds,k0,k1,k2,k3,k4,k5,k6,k7,k8]⟩)
     rcases k9:b 9 with _|_
     ·exact List.ne_nil_of_mem (a:=9) (by rw[Region.ready,List.mem_filter];exact⟨List.mem_range.2 (by show 9<10;decide),by simp[bs,Region.binds,k0,k1,k2,k3,k4,k5,k6,k7,k8,k9]⟩)
     exfalso
     simp only[left,k0,k1,k2,k3,k4,k5,k6,k7,k8,k9,Bool.not_true,Bool.toNat_false] at hf
     omega
    ·rintro c a5 w5 hin e7 e8
     go_wp2
     have hre:roots m.toNat n.toNat whole (q ++ [last])=rt.map (fun z=>(nodeH last z.1,nodeH last z.2)):=by
      rw[HR.o,if_neg (by omega),HRR.o]
      congr 2 <;> omega
     refine ret88t w.heap.size (w.heap.size+1) (nodeH last x) (nodeH last y) (.bool rt.isSome) rfl hin.t8 hin.t9 hin.t10 _ underlying109 info8 (hin.f8 e7) (hin.f9 e8) hin.d ⟨nodeH last x,nodeH last y,by rw[hre,Option.isSome_map],?_,hin.bel⟩
     intro z hzz
     rw[hre] at hzz
     obtain⟨z',hz',rfl⟩:=Option.map_eq_some_iff.1 hzz
     have:=HXY.o z' (by rw[←HRR.o];exact hz')
     subst this
     rfl
    ·have hdr:Below w.heap.size w W3.drew:=A4.o.drew
     exact { d:=rfl,s:=Nat.le_refl 103,t8:=rfl,t9:=rfl,t11:=rfl,t10:=rfl,r0:=fun k=>absurd k (by decide),r1:=fun k=>absurd k (by decide),r2:=fun k=>absurd k (by decide),r3:=fun k=>absurd k (by decide),r4:=fun k=>absurd k (by decide),r5:=fun k=>absurd k (by decide),r6:=fun k=>absurd k (by decide),h11:=hashOf_drew A3.o,e8:=fun _=>hashOf_drew A1.o,f8:=fun k=>absurd k (by decide),e9:=fun _=>hashOf_drew A2.o,f9:=fun k=>absurd k (by decide),bel:=hdr,c7:=fun k=>absurd k (by decide),c8:=fun k=>absurd k (by decide) }
end
end
section
theorem mconsistent_any (p:List Hsh) (a b:Hsh) (m n:Int) (v:Value) (w:World) (h:HashesAt w v p) (hm : -9223372036854775808≤m) (hn:n≤9223372036854775807) (hl:p.length≤1048576) :
  Calls prog 90 #[.int .i64 m,.int .i64 n,.agg (h8 a),.agg (h8 b),v] w fun e w'=>e=.returned (.bool (consistent m n a b p))∧Below w.heap.size w w':=by
 obtain⟨ad,c,hv,_⟩:=id h
 by_cases h1:1≤m
 ·have hd:decide (m<1)=false:=decide_eq_false (by omega)
  by_cases hmn:m≤n
  ·have hd2:decide (n<m)=false:=decide_eq_false (by omega)
   have hinc:consistent m n a b p=(roots m.toNat n.toNat (some a) p == some (a,b)):=by simp[consistent,h1,hmn]
   have HI:=zh hinc
   have HH:=zh h
   have HV:=zh hv
   clear hinc h hv
   go_enter func90,ntmps90
   go_wp2_with fail
   have b0:Below w.heap.size w ((w.alloc (.cells (h8 a) 109)).alloc (.cells (h8 b) 109)):=(below_alloc w _).alloc (by simp) _
   refine (extend_any p.length p m n (some a) v _ _ rfl (Cells.below HH.o b0) (.inr ⟨w.heap.size,a,rfl,rfl,hashOf_old (hashOf_at rfl) _⟩) h1 hmn hn hl).mono ?_
   rintro e w1 ⟨x,y,rfl,hz,hb⟩
   have hbb:Below w.heap.size w w1:=b0.trans (hb.mono b0.size)
   have hsz:w.heap.size+2≤w1.heap.size:=by have:=hb.size;simp at this;omega
   have g1:hashOf w1 w.heap.size a:=hashOf_below (hashOf_old (hashOf_at rfl) _) hb
   have g2:hashOf w1 (w.heap.size+1) b:=hashOf_below (hashOf_at (by simp)) hb
   have HBB:=zh hbb
   have HZ:=zh hz
   clear hz hb hbb b0
   obtain⟨r,hrr⟩:∃ r,r=roots m.toNat n.toNat (some a) p:=⟨_,rfl⟩
   rw[←hrr]
   have HRR:=zh hrr
   clear hrr
   have fin:∀ (cs ds:Array Value),Below w.heap.size w ((((w1.alloc (.cells zc 109)).alloc (.cells zc 109)).setRow w1.heap.size cs).setRow (w1.heap.size+1) ds):=fun cs ds=>
    below_setRow (below_setRow ((HBB.o.alloc HBB.o.size _).alloc (by simp;have:=HBB.o.size;omega) _) HBB.o.size _) (by have:=HBB.o.size;omega) _
   have FIN:=zh fin
   clear fin
   have i1:hashOf ((w1.alloc (.cells zc 109)).alloc (.cells zc 109)) w1.heap.size zero8:=hashOf_old (hashOf_zero' rfl) _
   have i2:hashOf (((w1.alloc (.cells zc 109)).alloc (.cells zc 109)).setRow w1.heap.size (h8 x)) (w1.heap.size+1) zero8:=hashOf_other (hashOf_zero' (by simp)) _ (by omega)
   have j1:hashOf ((((w1.alloc (.cells zc 109)).alloc (.cells zc 109)).setRow w1.heap.size (h8 x)).setRow (w1.heap.size+1) (h8 y)) w1.heap.size x:=hashOf_other (hashOf_set i1 x) _ (by omega)
   have j2:hashOf ((((w1.alloc (.cells zc 109)).alloc (.cells zc 109)).setRow w1.heap.size (h8 x)).setRow (w1.heap.size+1) (h8 y)) (w1.heap.size+1) y:=hashOf_set i2 y
   have j3:hashOf ((((w1.alloc (.cells zc 109)).alloc (.cells zc 109)).setRow w1.heap.size (h8 x)).setRow (w1.heap.size+1) (h8 y)) w.heap.size a:=hashOf_other (hashOf_other (hashOf_old (hashOf_old g1 _) _) _ (by omega)) _ (by omega)
   have j4:hashOf ((((w1.alloc (.cells zc 109)).alloc (.cells zc 109)).setRow w1.heap.size (h8 x)).setRow (w1.heap.size+1) (h8 y)) (w.heap.size+1) b:=hashOf_other (hashOf_other (hashOf_old (hashOf_old g2 _) _) _ (by omega)) _ (by omega)
   cases r with
   | none=>
    go_wp2_with (first|((first|refine wpList_load8 rfl 109 _ rfl _ rfl _ underlying109 info8 ?_ ?_ ?_|refine wpList_store8 rfl 109 _ _ rfl _ _ rfl rfl info8 ?_ ?_ ?_);rotate_left;focus((repeat(first|(with_reducible first|assumption|exact hashOf_set' ⟨_,by assumption⟩ _)|((with_reducible first|refine hashOf_zero' ?_|refine hashOf_at ?_|refine hashOf_set' (Is8_zero ?_) _);(first|rfl|(simp;done)|(simp;omega)))|with_reducible refine hashOf_old ?_ _|((with_reducible refine hashOf_other ?_ _ ?_);rotate_left;(focus(first|(simp;done)|(simp;omega)|omega)))|with_reducible first|refine hashOf_drew ?_|refine hashOf_below ?_ (by assumption)));done)))
    go_ret
    exact⟨ret_bool (by rw[HI.o,←HRR.o];rfl),FIN.o _ _⟩
   | some z=>
    obtain rfl:(x,y)=z:=HZ.o z HRR.o.symm
    by_cases hx:x=a
    ·subst hx
     have hq:∀ w,Sem.run prog (binOp .eql 109 (.agg (h8 x)) (.agg (h8 x))) w=.ok (Value.bool true) w:=fun w=>by
      rw[eql_hash,show (some x == some x)=true from by simp]
     have hq2:=fun w=>eql_hash w y b
     go_wp2_with (first|((first|refine wpList_load8 rfl 109 _ rfl _ rfl _ underlying109 info8 ?_ ?_ ?_|refine wpList_store8 rfl 109 _ _ rfl _ _ rfl rfl info8 ?_ ?_ ?_);rotate_left;focus((repeat(first|(with_reducible first|assumption|exact hashOf_set' ⟨_,by assumption⟩ _)|((with_reducible first|refine hashOf_zero' ?_|refine hashOf_at ?_|refine hashOf_set' (Is8_zero ?_) _);(first|rfl|(simp;done)|(simp;omega)))|with_reducible refine hashOf_old ?_ _|((with_reducible refine hashOf_other ?_ _ ?_);rotate_left;(focus(first|(simp;done)|(simp;omega)|omega)))|with_reducible first|refine hashOf_drew ?_|refine hashOf_below ?_ (by assumption)));done)))
     go_ret
     refine⟨ret_bool ?_,FIN.o _ _⟩
     rw[HI.o,←HRR.o]
     show (some y == some b)=(x == x && y == b)
     simp
    ·have hq:∀ w,Sem.run prog (binOp .eql 109 (.agg (h8 x)) (.agg (h8 a))) w=.ok (Value.bool false) w:=fun w=>by
      rw[eql_hash,show (some x == some a)=false from by simpa using hx]
     go_wp2_with (first|((first|refine wpList_load8 rfl 109 _ rfl _ rfl _ underlying109 info8 ?_ ?_ ?_|refine wpList_store8 rfl 109 _ _ rfl _ _ rfl rfl info8 ?_ ?_ ?_);rotate_left;focus((repeat(first|(with_reducible first|assumption|exact hashOf_set' ⟨_,by assumption⟩ _)|((with_reducible first|refine hashOf_zero' ?_|refine hashOf_at ?_|refine hashOf_set' (Is8_zero ?_) _);(first|rfl|(simp;done)|(simp;omega)))|with_reducible refine hashOf_old ?_ _|((with_reducible refine hashOf_other ?_ _ ?_);rotate_left;(focus(first|(simp;done)|(simp;omega)|omega)))|with_reducible first|refine hashOf_drew ?_|refine hashOf_below ?_ (by assumption)));done)))
     go_ret
     refine⟨ret_bool ?_,FIN.o _ _⟩
     rw[HI.o,←HRR.o]
     simp[hx]
  ·have hd2:decide (n<m)=true:=decide_eq_true (by omega)
   clear h
   subst hv
   go_enter func90,ntmps90
   go_wp2
   go_ret
   exact⟨ret_bool (by simp[consistent];omega),(below_alloc w _).alloc (by simp) _⟩
 ·have hd:decide (m<1)=true:=decide_eq_true (by omega)
  clear h
  subst hv
  go_enter func90,ntmps90
  go_wp2
  go_ret
  exact⟨ret_bool (by simp[consistent];omega),(below_alloc w _).alloc (by simp) _⟩
end
end Go.Proofs.YtefccfakhgdfbabGreatDoor
