/- The walk of files.Parse, tiles.Parse, plain.Parse. -/
import Derived.Test.YtefccfakhgdfbabGreatDoorHe16
set_option linter.unusedVariables false
set_option linter.unusedSimpArgs false
open Go.RowKit Go.Proofs.Tryz
set_option maxRecDepth 100000
set_option maxHeartbeats 4000000
namespace Go.Proofs.YtefccfakhgdfbabGreatDoor
section
def Took (w:World) (g gd:Nat) (ve vl vp:Value) (vs:List Value) (L:Lg) (b:List UInt8) (w':World):Prop:=
 ∃ ve' vl' vs' vs0 u,LogIs w' g gd ve' vl' vp vs' { L with entries:=L.entries ++ [b],levels:=levels (L.entries ++ [b]) }∧Fr (LogS g ve vl vp vs) w w'∧Sub w (LogS g ve vl vp vs) (LogS g ve' vl' vp vs')∧
  w.ownsRow 0 94 1 ve L.entries.length vs0∧w'.ownsRow 0 94 1 ve' (L.entries.length+1) (vs0 ++ [u])∧OwnBytes w' w.heap.size u b
theorem own_bytes_slice {w:World} {base:Nat} {v:Value} {l:List UInt8} (h:OwnBytes w base v l):∃ a n c,v=.slice a n c:=by
 rcases h with ⟨rfl,_⟩|⟨b,off,c,C,fz,rfl,_⟩
 ·exact⟨_,_,_,rfl⟩
 ·exact⟨_,_,_,rfl⟩
theorem levels_bd {es:List (List UInt8)} (h:es.length≤1048576):(levels es).length<1048576∧∀ r∈levels es,r.length<1099511627776:=by
 have h1:=nLev_small h
 refine⟨by simp[levels];omega,fun r hr=>?_⟩
 obtain⟨k,hk,rfl⟩:=List.mem_map.1 hr
 rw[levelRow_len]
 have:=Nat.div_le_self es.length (4 ^ k)
 omega
theorem lv_noEnts {w:World} {g gd k:Nat} {ve vl vp:Value} {vs:List Value} {L:Lg} (h:LogIs w g gd ve vl vp vs L) {C:Array Value} {f:Nat×Nat} (hk:w.heap[k]?=some (.cells C 94 f)) (hs:LvS g ve vl vp vs k):False:=by
 rcases hs with rfl|hs|⟨v,hv,hs⟩
 ·exact heap_ne hk h.cells (by decide) rfl
 ·obtain⟨C',h1⟩:=ownBlock_type h.rows hs
  exact heap_ne hk h1 (by decide) rfl
 ·obtain⟨j,hj⟩:=List.mem_iff_getElem?.1 hv
  have hl:vs.length=L.levels.length:=by simpa using h.rows.1
  have hjl:j<L.levels.length:=by have:=(List.getElem?_eq_some_iff.1 hj).1;omega
  obtain⟨C',h1⟩:=ownBlock_type (h.each j v _ hj (List.getElem?_eq_getElem hjl)) hs
  exact heap_ne hk h1 (by decide) rfl
def appendPost (f:Nat→Addr) (g gd:Nat) (ve vl vp:Value) (vs:List Value) (L:Lg) (b:List UInt8) (w:World) (e:Ending) (w':World):Prop:=
 if 20<b.length then e=.returned (.tuple #[.int .i64 0,.iface 338 (.pointer (some (f 0)))])∧Below w.heap.size w w'
 else if L.failed=true then e=.returned (.tuple #[.int .i64 0,.iface 338 (.pointer (some (f 6)))])∧Below w.heap.size w w'
 else e=.returned (.tuple #[.int .i64 L.entries.length,.nilIface])∧Took w g gd ve vl vp vs L b w'
theorem append_any (f:Nat→Addr) (w:World) (g gd:Nat) (ve vl vp:Value) (vs:List Value) (L:Lg) (h:LogIs w g gd ve vl vp vs L) (va:Value) (b:List UInt8) (hb:OwnBytes w 0 va b) (hn:L.entries.length<1048576) (hlv:L.levels=levels L.entries)
  (hS:Sents w f):Calls prog 39 #[.pointer (some ⟨g,0,none⟩),va] w (appendPost f g gd ve vl vp vs L b w):=by
 obtain⟨s0,_,_,_,_,_,s6⟩:=hS.cells
 obtain⟨a,c,rfl⟩:∃ a c,va=.slice a b.length c:=by obtain⟨a,c,h1,_,_⟩:=hb.at;exact⟨a,c,h1⟩
 have HB:=zh hb
 have HH:=zh h
 have hd:=h.heads
 obtain⟨⟨_,_,c2,_,_,c5⟩,f0⟩:=hd
 have hg:=lt_of_heap h.cells
 clear h hb hS
 by_cases hlong:20<b.length
 ·have hz:(20:Int)<(b.length:Int):=by omega
  go_enter func39,ntmps39
  go_wp2
  go_region
  all_goals (
   go_wp2
   go_ret2
   unfold appendPost
   rw[if_pos hlong]
   exact⟨rfl,below_drew w⟩)
 ·have hz:¬ (20:Int)<(b.length:Int):=by omega
  have hbl:b.length≤1048576:=by omega
  cases hfl:L.failed with
  | true=>
   rw[hfl] at c5
   go_enter func39,ntmps39
   go_wp2
   go_region
   all_goals (
    go_wp2
    go_ret2
    unfold appendPost
    rw[if_neg hlong,if_pos hfl]
    exact⟨rfl,below_drew w⟩)
  | false=>
   rw[hfl] at c5
   have HFL:=zh hfl
   have HLV:=zh hlv
   obtain⟨vs0,hrow,hrb⟩:=HH.o.ents
   obtain⟨a1,cp1,rfl⟩:=own_any hrow
   obtain⟨ln,hln⟩:∃ ln,ln=L.entries.length:=⟨_,rfl⟩
   rw[←hln] at c2 hn
   have hrow':w.ownsRow 0 94 1 (.slice a1 ln cp1) ln vs0:=by rw[hln];exact hrow
   have hne:¬ (Value.slice a1 ln cp1).ownBlock=some g:=fun e=>by
    obtain⟨C,hC⟩:=ownBlock_type hrow' e
    exact heap_ne HH.o.cells hC (by decide) rfl
   obtain⟨i0,hi0,hz0,hs0,hby0⟩:=info_bsE
   have HI:=zh (⟨hi0,hz0,hs0,hby0⟩:_∧_∧_∧_)
   have HLN:=zh hln
   have HROW:=zh hrow'
   have HRB:=zh hrb
   have HNE:=zh hne
   clear hfl hlv hrow hrb hln hrow' hne hi0 hz0 hs0 hby0
   go_enter func39,ntmps39
   go_upto_region 5 with fail
   go_cut [] from 17 to 27 (fun wx=>∃ ve',Aside (LogIs wx g gd ve' vl vp vs { L with entries:=L.entries ++ [b] })∧Aside (Fr (LogS g (.slice a1 L.entries.length cp1) vl vp vs) w wx)∧Aside (Sub w (LogS g (.slice a1 L.entries.length cp1) vl vp vs) (LogS g ve' vl vp vs))∧Aside (OwnBytes wx 0 (.slice a b.length c) b)∧∃ u,Aside (wx.ownsRow 0 94 1 ve' (ln+1) (vs0 ++ [u]))∧Aside (OwnBytes wx w.heap.size u b))
   case first=>
    go_region_law (first|(go_simp;go_at_call 75;refine (clone_any _ b _ (HB.o.at.below (below_drew w)) (by omega)).mono ?_;rintro e w2 ⟨v2,rfl,ho2,hb2⟩;obtain⟨q2,n2,k2,rfl⟩:=own_bytes_slice ho2;have HO2:=zh ho2;have HB2:=zh hb2;have c2':=(hb2.cell (p:=⟨g,2,none⟩) hg).trans c2;have f2':=(hb2.frozen (p:=⟨g,2,none⟩) hg).trans (f0 2);have hg2:g<w2.heap.size:=Nat.lt_of_lt_of_le hg hb2.size;clear ho2 hb2)|(refine step_appM rfl _ _ _ rfl 0 94 i0 _ 1 24 underlying135 HI.o.1 HI.o.2.1 HI.o.2.2.1 HI.o.2.2.2 rfl (by decide) (by decide) (.slice a1 ln cp1) ln vs0 rfl (ownsRow_below HROW.o (((below_drew w).trans HB2.o).alloc (Nat.le_trans (Nat.le_refl _) HB2.o.size) _)) ⟨w2.heap.size,0,none⟩ 1 1 [.slice q2 n2 k2] rfl rfl (cell_one_new _ _ _) (by simp[HO2.o.one]) (by decide) (by omega) (Nat.zero_le _) ?_;intro v' w' h2 h3 h4 h5;obtain⟨gb,cpb,rfl,hgb⟩:=own_slice h2 h5;have H2:=zh h2;have H3:=zh ((Fr.ofBelow (S:=fun k=>(Value.slice a1 ln cp1).ownBlock=some k) (((below_drew w).trans HB2.o).alloc (Nat.le_trans (Nat.le_refl _) HB2.o.size) (.cells #[.slice q2 n2 k2] 94))).trans (Fr.ofGrown h3 fun k _ e=>e));have H3b:=zh (Fr.ofGrown (S:=fun k=>(Value.slice a1 ln cp1).ownBlock=some k) h3 fun k _ e=>e);have H4:=zh ((Moved.refl w (.slice a1 ln cp1)).trans h4 (((below_drew w).trans HB2.o).alloc (Nat.le_trans (Nat.le_refl _) HB2.o.size) (.cells #[.slice q2 n2 k2] 94)).size);have k3:=H3.o.cell c2 HNE.o;have k4:=(H3.o.frozen (p:=⟨g,2,none⟩) hg HNE.o).trans (f0 2);clear h2 h3 h4 h5))
    all_goals (
     go_wp2_with fail
     go_meet
     have B2:Below w.heap.size w (w2.alloc (.cells #[.slice q2 n2 k2] 94)):=((below_drew w).trans HB2.o).alloc (Nat.le_trans (Nat.le_refl _) HB2.o.size) _
     have hown:OwnBss w' 0 (.slice (some ⟨gb,0,none⟩) (ln+1) cpb) (L.entries ++ [b]):=
      OwnBss.push (ls':=[b]) (ownsRow_below HROW.o B2) (fun j u l hu hl=>(HRB.o j u l hu hl).below B2) HLN.o H3b.o H2.o (by rw[HLN.o];rfl) (fun j u l hu hl=>by
       cases j with
       | zero=>cases hu;cases hl;exact (HO2.o.mono (Nat.zero_le _)).below (below_alloc _ _)
       | succ j=>simp at hu)
     have hmv:Moved w (.slice a1 L.entries.length cp1) (.slice (some ⟨gb,0,none⟩) (ln+1) cpb):=by rw[←HLN.o];exact H4.o
     have hfr:Fr (fun k=>(Value.slice a1 L.entries.length cp1).ownBlock=some k) w w':=by rw[←HLN.o];exact H3.o
     have hp:=HH.o.setEnts hfr hown hmv
     have hgw:w'.heap[g]?=some (.cells (lgCells gd (.slice a1 L.entries.length cp1) vl vp L) 138 (0,0)):=H3.o.heap HH.o.cells HNE.o
     refine⟨_,hp.1,hp.2.1,hp.2.2,?_,_,ownsRow_fr H2.o (Fr.set1 w' g 2 _) (fun k hk e=>?_),?_⟩
     ·exact HB.o.same fun k C fz hk=>hp.2.1.block k (lt_of_heap hk) fun hS=>HH.o.noBytes k C fz hk hS
     ·obtain⟨C,hC⟩:=ownBlock_type H2.o hk
      exact heap_ne hC hgw (by decide) e
     ·have o1:OwnBytes (w2.alloc (.cells #[.slice q2 n2 k2] 94)) w.heap.size (.slice q2 n2 k2) b:=(HO2.o.mono (below_drew w).size).below (below_alloc _ _)
      have o2:OwnBytes w' w.heap.size (.slice q2 n2 k2) b:=o1.same fun k C fz hk=>H3b.o.block k (lt_of_heap hk) fun e=>by
       obtain⟨C',hC'⟩:=ownBlock_type (ownsRow_below HROW.o B2) e
       exact heap_ne hk hC' (by decide) rfl
      exact o2.same fun k C fz hk=>(Fr.set1 w' g 2 _).block k (lt_of_heap hk) fun e=>heap_ne hk hgw (by decide) e)
   case rest=>
    obtain⟨ve',HL,HFr,HSb,HBc,u,HRU,HOU⟩:=hcut
    obtain⟨vse,hrowe,_⟩:=HL.o.ents
    obtain⟨ae,ce,rfl⟩:=own_any hrowe
    clear hrowe
    have hgl:=HL.o.heads
    have hn0:L.entries.length≤1048576:=by have:=HLN.o;omega
    have HBD:=zh (levels_bd hn0)
    clear hn0
    go_wp2_with (first
     | (go_at_call 72;refine (leaf_any _ b _ HBc.o.at (by omega)).mono ?_;rintro e w3 ⟨rfl,hb3⟩;have HL3:=zh (HL.o.below hb3);have HB3:=zh hb3;clear hb3)
     | (go_at_call 71;refine (grow_any w3 g gd _ _ _ _ _ HL3.o (leafH b) (by show L.levels.length<_;rw[HLV.o];exact HBD.o.1) (by show ∀ r∈L.levels,_;rw[HLV.o];exact HBD.o.2)).mono ?_;rintro e w4 ⟨rfl,vl4,vs4,hl4,hf4,hs4⟩;have HL4:=zh hl4;have HF4:=zh hf4;have HS4:=zh hs4;have hd4:=hl4.heads;clear hl4 hf4 hs4))
    obtain⟨⟨_,_,e2,_,_,_⟩,_⟩:=hd4
    go_wp2_with fail
    go_ret2
    unfold appendPost
    rw[if_neg hlong,if_neg (by rw[HFL.o];decide)]
    refine⟨?_,.slice ae (L.entries ++ [b]).length ce,vl4,vs4,vs0,u,?_,?_,?_,?_,?_,?_⟩
    ·simp
     have:=HLN.o
     unfold wrap64
     omega
    ·have:=HL4.o
     rw[show growP ({ L with entries:=L.entries ++ [b] }:Lg).levels (leafH b)=levels (L.entries ++ [b]) by show growP L.levels _=_;rw[HLV.o,grow_leaf]] at this
     exact this
    ·exact (Fr.sub (HFr.o.trans (Fr.ofBelow HB3.o)) (HF4.o.weak fun _ _ h=>h.log) HSb.o)
    ·exact HSb.o.trans (sub_lv HS4.o) (by have:=HFr.o.size;have:=HB3.o.size;omega)
    ·rw[←HLN.o];exact HROW.o
    ·rw[←HLN.o]
     exact ownsRow_fr (ownsRow_below HRU.o HB3.o) HF4.o fun k hk e=>by
      obtain⟨C,hC⟩:=ownBlock_type (ownsRow_below HRU.o HB3.o) hk
      exact lv_noEnts HL3.o hC e
    ·exact (HOU.o.below HB3.o).same fun k C fz hk=>HF4.o.block k (lt_of_heap hk) fun e=>HL3.o.noBytes k C fz hk e.log
end
section
theorem unhexL_step (d:UInt8→Option Nat) (a b:UInt8) (l:List UInt8):unhexL d (a :: b :: l)=(d a).bind fun x=>(d b).bind fun y=>(unhexL d l).map (UInt8.ofNat (16*x+y) :: ·):=by
 conv=>lhs;unfold unhexL
 cases d a <;> cases d b <;> rfl
end
section
def p16 (acc:Nat):List UInt8→Option Nat
 | []=>some acc
 | c :: r=>match unhexG c with
  | none=>none
  | some d=>p16 (acc*16+d) r
def lowV (c:UInt8):Int:=bits BinOp.or IntKind.u8 (c.toNat:Int) 32
theorem low_facts (c:UInt8):(48≤c.toNat∧c.toNat≤57∧unhexG c=some (c.toNat-48))∨
  (¬ (48≤c.toNat∧c.toNat≤57)∧c.toNat≠95∧97≤lowV c∧lowV c≤102∧unhexG c=some (lowV c-87).toNat)∨
  (¬ (48≤c.toNat∧c.toNat≤57)∧¬ (97≤lowV c∧lowV c≤102)∧0≤lowV c∧lowV c≤255∧unhexG c=none):=by
 have h:∀ n:Fin 256,(48≤(UInt8.ofNat n.1).toNat∧(UInt8.ofNat n.1).toNat≤57∧unhexG (UInt8.ofNat n.1)=some ((UInt8.ofNat n.1).toNat-48))∨
  (¬ (48≤(UInt8.ofNat n.1).toNat∧(UInt8.ofNat n.1).toNat≤57)∧(UInt8.ofNat n.1).toNat≠95∧97≤lowV (UInt8.ofNat n.1)∧lowV (UInt8.ofNat n.1)≤102∧unhexG (UInt8.ofNat n.1)=some (lowV (UInt8.ofNat n.1)-87).toNat)∨
  (¬ (48≤(UInt8.ofNat n.1).toNat∧(UInt8.ofNat n.1).toNat≤57)∧¬ (97≤lowV (UInt8.ofNat n.1)∧lowV (UInt8.ofNat n.1)≤102)∧0≤lowV (UInt8.ofNat n.1)∧lowV (UInt8.ofNat n.1)≤255∧unhexG (UInt8.ofNat n.1)=none):=by decide +kernel
 have:=h ⟨c.toNat,c.toNat_lt⟩
 simpa using this
def pu16T (T:TypeId):Option Nat→Value
 | some n=>.tuple #[.int .u64 n,.nilIface]
 | none=>.tuple #[.int .u64 0,.iface T (.int .i64 2)]
set_option maxHeartbeats 8000000 in
theorem pu16_in (t:ByteArray) (ht:t.size=2) (w:World) :
  Calls prog 170 #[.string t,.int .i64 16,.int .i64 8] w fun e w'=>e=.returned (pu16T 311 (p16 0 t.data.toList))∧w'=Lib.bytesWorld w 5 t:=by
 have hemp:t.toList.isEmpty=false:=by
  rw[←decide_eq_emptyBytes]
  exact decide_eq_false (fun h=>by rw[h] at ht;exact absurd ht (by decide))
 have hcv:=Lib.run_convert_string_bytes (P:=prog) w 9 94 5 t (u:=.string) underlying9 underlying94 underlying5
 have hB:∀ j,j<t.size→(Lib.bytesWorld w 5 t).cell? ⟨w.heap.size,j,none⟩=some (.int .u8 (t.data.toList.getD j 0).toNat):=fun j hj=>Lib.bytesWorld_cell w 5 t j hj
 obtain⟨W1,hW1⟩:∃ W1,W1=Lib.bytesWorld w 5 t:=⟨_,rfl⟩
 rw[←hW1] at hcv hB ⊢
 clear hW1
 obtain⟨bs,hL⟩:∃ bs,bs=t.data.toList:=⟨_,rfl⟩
 have hLn:bs.length=2:=by rw[hL];simpa using ht
 rw[←hL] at hB ⊢
 clear hL
 have hmv:IntKind.u64.wrap (IntKind.u64.wrap 256-1)=255:=by
  rw[IntKind.wrap_u64,IntKind.wrap_u64]
  decide
 obtain⟨res,hres⟩:∃ r,r=p16 0 bs:=⟨_,rfl⟩
 rw[←hres]
 have HRES:=zh hres
 clear hres
 go_enter func170,ntmps170
 go_wp2
 go_loop [12,13,101] (fun vu vn vi=>∃ (k acc:Nat) (a:Int),vu=.bool false∧vn=.int .u64 a∧vi=.int .i64 k∧k≤2∧Hid (a=(acc:Int)∧acc<16 ^ k∧res=p16 acc (bs.drop k)))
  (fun _ _ vi=>2-(intOf vi).toNat)
 case atStart=>exact⟨0,0,0,rfl,rfl,rfl,by omega,zh ⟨rfl,by decide,HRES.o⟩⟩
 case round=>
  obtain⟨k,acc,a,rfl,rfl,rfl,hk,hh⟩:=hrel
  obtain⟨ha,hacc,hdec⟩:=hh.o
  clear hh
  have hpow:16 ^ k≤256:=by
   have:k=0∨k=1∨k=2:=by omega
   rcases this with rfl|rfl|rfl <;> decide
  have a0:0≤a:=by omega
  have a1:a≤255:=by omega
  by_cases hkn:k<2
  ·have hc:=hB k (by omega)
   have hdrop:bs.drop k=bs[k]'(by omega) :: bs.drop (k+1):=List.drop_eq_getElem_cons (by omega)
   have hget:bs.getD k 0=bs[k]'(by omega):=by simp[List.getD,List.getElem?_eq_getElem (show k<bs.length by omega)]
   have hacc1:acc≤15:=by
    have:k=0∨k=1:=by omega
    rcases this with rfl|rfl <;> omega
   have hpow1:16 ^ (k+1)=16 ^ k*16:=Nat.pow_succ 16 k
   rw[hdrop] at hdec
   rw[hget] at hc
   generalize bs[k]'(by omega)=c at hc hdec
   have hc256:c.toNat<256:=c.toNat_lt
   unfold p16 at hdec
   have ia:a≤15:=by omega
   clear hB hdrop hget hpow
   have hfacts:=low_facts c
   obtain⟨lo,hlo⟩:∃ x,x=lowV c:=⟨_,rfl⟩
   rw[←hlo] at hfacts
   have hlo':bits BinOp.or IntKind.u8 (c.toNat:Int) 32=lo:=hlo.symm
   clear hlo
   rcases hfacts with ⟨hd0,hd1,hg⟩|⟨hnd,h95,hl0,hl1,hg⟩|⟨hnd,hnl,hl0,hl1,hg⟩
   ·rw[hg] at hdec
    simp only at hdec
    have HN:Hid (a*16+((c.toNat:Int)-48)=((acc*16+(c.toNat-48):Nat):Int)∧acc*16+(c.toNat-48)<16 ^ (k+1)∧res=p16 (acc*16+(c.toNat-48)) (bs.drop (k+1))):=zh ⟨by omega,by omega,hdec⟩
    have j0:(48:Int)≤c.toNat:=by omega
    have j1:(c.toNat:Int)≤57:=by omega
    clear hdec hg ha hacc hpow1 hacc1 hlo'
    go_wp2
    refine⟨⟨k+1,acc*16+(c.toNat-48),a*16+((c.toNat:Int)-48),rfl,(by first|rfl|(congr 1;omega)),(by first|rfl|(congr 1;omega)),by omega,HN⟩,by simp[intOf];omega⟩
   ·rw[hg] at hdec
    simp only at hdec
    have HN:Hid (a*16+(lo-97+10)=((acc*16+(lo-87).toNat:Nat):Int)∧acc*16+(lo-87).toNat<16 ^ (k+1)∧res=p16 (acc*16+(lo-87).toNat) (bs.drop (k+1))):=zh ⟨by omega,by omega,hdec⟩
    have e95:((c.toNat:Int) == 95)=false:=by rw[beq_eq_false_iff_ne];omega
    clear hdec hg ha hacc hpow1 hacc1
    go_wp2_with (go_at_call 198;refine (internal_strconv_lower _ _).mono ?_;rintro e w' ⟨rfl,rfl⟩)
    all_goals exact⟨⟨k+1,acc*16+(lo-87).toNat,a*16+(lo-97+10),rfl,rfl,rfl,by omega,HN⟩,by simp[intOf];omega⟩
   ·rw[hg] at hdec
    simp only at hdec
    clear hg ha hacc hpow1 hacc1
    go_wp2_with (go_at_call 198;refine (internal_strconv_lower _ _).mono ?_;rintro e w' ⟨rfl,rfl⟩)
    all_goals go_ret2
    all_goals first|exact⟨rfl,rfl⟩|exact⟨by rw[hdec];rfl,rfl⟩
  ·have hkk:k=2:=by omega
   subst hkk
   rw[List.drop_eq_nil_of_le (by omega)] at hdec
   unfold p16 at hdec
   subst ha
   clear hacc a0 a1 hpow
   go_wp2
   go_ret2
   first|exact⟨rfl,rfl⟩|exact⟨by rw[hdec];rfl,rfl⟩|exact⟨by subst hdec;rfl,rfl⟩
theorem p16_two (a b:UInt8):p16 0 [a,b]=(unhexG a).bind fun x=>(unhexG b).map fun y=>16*x+y:=by
 unfold p16
 cases unhexG a with
 | none=>rfl
 | some x=>
  simp only[Option.bind_some]
  unfold p16
  cases unhexG b with
  | none=>rfl
  | some y=>
   simp only[Option.map_some]
   unfold p16
   congr 1
   omega
theorem pu16_any (a b:UInt8) (w:World) (hE:NumEnv w) :
  Calls prog 122 #[.string (sOf [a,b]),.int .i64 16,.int .i64 8] w fun e w'=>Below w.heap.size w w'∧match (unhexG a).bind fun x=>(unhexG b).map fun y=>16*x+y with
   | some n=>e=.returned (.tuple #[.int .u64 n,.nilIface])
   | none=>∃ T p,e=.returned (.tuple #[.int .u64 0,.iface T p]):=by
 obtain⟨_,_,⟨ev,he1,he2⟩,_⟩:=hE
 have hI:=pu16_in (sOf [a,b]) (by rw[sOf_size];rfl) w
 rw[show (sOf [a,b]).data.toList = [a,b] from rfl,p16_two] at hI
 obtain⟨r,hr⟩:∃ r,r=(unhexG a).bind fun x=>(unhexG b).map fun y=>16*x+y:=⟨_,rfl⟩
 rw[←hr] at hI ⊢
 clear hr
 cases r with
 | some n=>
  have hI':Calls prog 170 #[.string (sOf [a,b]),.int .i64 16,.int .i64 8] w fun e w'=>e=.returned (.tuple #[.int .u64 n,.nilIface])∧w'=Lib.bytesWorld w 5 (sOf [a,b]):=hI
  clear hI
  go_enter func122,ntmps122
  go_wp2_with (go_at_call 170;refine hI'.mono ?_;rintro e w1 ⟨rfl,rfl⟩)
  go_ret2
  exact⟨Lib.bytesWorld_below _ _ _,rfl⟩
 | none=>
  have hI':Calls prog 170 #[.string (sOf [a,b]),.int .i64 16,.int .i64 8] w fun e w'=>e=.returned (.tuple #[.int .u64 0,.iface 311 (.int .i64 2)])∧w'=Lib.bytesWorld w 5 (sOf [a,b]):=hI
  have hb:=Lib.bytesWorld_below w 5 (sOf [a,b])
  have he3:=(hb.cell (cell_lt he1)).trans he1
  have HB:=zh hb
  have HE3:=zh he3
  clear hI hb he3 he1
  go_enter func122,ntmps122
  go_wp2_with (go_at_call 170;refine hI'.mono ?_;rintro e w1 ⟨rfl,rfl⟩)
  refine (strconv_toError_syntax ⟨#[80,97,114,115,101,85,105,110,116]⟩ (sOf [a,b]) 16 8 ev _ (by rw[sOf_size];simp) HE3.o he2).mono ?_
  rintro e w2 ⟨N,rfl,_,_,hb2⟩
  go_wp2
  go_ret2
  exact⟨HB.o.trans (hb2.mono HB.o.size),_,_,rfl⟩
end
section
theorem atoi_any (s:ByteArray) (w:World) (hs:s.size≤1048576) (h:NumEnv w) :
  Calls prog 121 #[.string s] w fun e w'=>∃ v ev,e=.returned (.tuple #[.int .i64 v,ev])∧((atoiO s.data.toList=some v∧ev=.nilIface)∨(atoiO s.data.toList=none∧∃ T p,ev=.iface T p))∧Below w.heap.size w w':=by
 obtain⟨_,_,⟨e1,h1,h1'⟩,⟨e2,h2,h2'⟩⟩:=h
 cases hr:Lib.atoiAll s.data.toList with
 | ok v=>
  refine (strconv_Atoi_ok s (by omega) v hr w).mono ?_
  rintro e w' ⟨rfl,hw⟩
  refine⟨v,.nilIface,rfl,.inl ⟨by unfold atoiO;rw[hr],rfl⟩,?_⟩
  rcases hw with rfl|⟨t,rfl⟩
  ·exact Below.refl _ _
  ·exact Lib.bytesWorld_below _ _ _
 | range=>
  refine (strconv_Atoi_range s (by omega) hr e2 w h2 h2').mono ?_
  rintro e w' ⟨N,rfl,_,_,hb⟩
  exact⟨_,_,rfl,.inr ⟨by unfold atoiO;rw[hr],_,_,rfl⟩,hb⟩
 | _=>
  refine (strconv_Atoi_syntax s (by omega) hr e1 w h1 h1').mono ?_
  rintro e w' ⟨N,rfl,_,_,hb⟩
  exact⟨_,_,rfl,.inr ⟨by unfold atoiO;rw[hr],_,_,rfl⟩,hb⟩
end
end Go.Proofs.YtefccfakhgdfbabGreatDoor
