/- The region with two calls of Node, by the invariant. -/
import Derived.Test.YtefccfakhgdfbabGreatDoorSv19
set_option linter.unusedVariables false
set_option linter.unusedSimpArgs false
open Go.RowKit Go.Proofs.Tryz
set_option maxRecDepth 100000
set_option maxHeartbeats 4000000
namespace Go.Proofs.YtefccfakhgdfbabGreatDoor
section
theorem wpList_storeAt8 {P:Program} {ops:Array Oper} {rest:List Oper} {o:Oper} {a:Act} {Q:Exit→Act→World→Prop} {w:World} (hw:Region.wanted o (yielded ops a.tmps)=true) (ty:TypeId) (x y:Operand) (ho:o.op=.store ty x y)
  (g off:Nat) (hx:a.eval x=.pointer (some ⟨g,off,none⟩)) (cs:Array Value) (hy:a.eval y=.agg cs) (hcs:cs.size=8) (h1:∀ u∈cs.toList,u.oneCell'=true) (hi:(P.info? ty).map (·.size)=some 8)
  (cur:Array Value) (t:TypeId) (hg:w.heap[g]?=some (.cells cur t (0,0))) (hl:off+8≤cur.size)
  (hk:∀ cur':Array Value,cur'.size=cur.size→(∀ j,off+8≤j→cur'[j]?=cur[j]?)→wpList P ops Q rest (a.put o.dst undef) (w.setRow g cur')):wpList P ops Q (o :: rest) a w:=by
 refine BigFrame.wpList_want hw fun K' hK'=>?_
 have hrun:=run_storeCells_at (P:=P) g off t cs.toList 0 cur w hg (by simp[hcs];omega) h1
 have hr:(storeVar ty ⟨g,off,none⟩ (.agg cs)).run P w=.ok () (w.setRow g (cur.toList.take (off+0)++cs.toList++cur.toList.drop (off+0+cs.toList.length)).toArray):=by
  cases hq:P.info? ty with
  | none=>simp[hq] at hi
  | some i=>
   have hs:i.size=8:=by simpa [hq] using hi
   have hrun':=hrun
   simp only[Nat.add_zero] at hrun'
   simp[storeVar,sizeOf,typeInfo,hq,Value.cells,hs,hcs,hrun']
 unfold Oper.wp execOp
 simp only[ho,hx,hy,Instr.storeAt,Instr.sureAddr,Sem.run_bind,Sem.run_pure,Result.andThen_ok,hr]
 refine hK' _ _ (hk _ ?_ ?_)
 ·simp[hcs];omega
 ·intro j hj
  have hc8:cs.toList.length=8:=by simpa using hcs
  rw[List.getElem?_toArray,Nat.add_zero,List.getElem?_append_right (by simp[hcs];omega)]
  rw[List.getElem?_drop,←Array.getElem?_toList]
  congr 1
  simp[hcs]
  omega
def Tail8 (w:World) (base:Nat) (v:Value) (hs:List Hsh) (k:Nat):Prop:=
 ∃ (g cap:Nat) (cur:Array Value),v=.slice (some ⟨g,0,none⟩) hs.length cap∧base≤g∧w.heap[g]?=some (.cells cur 109 (0,0))∧hs.length≤cap∧hs.length*8≤cur.size∧
  ∀ (j:Nat) (h:Hsh),k≤j→hs[j]?=some h→∀ (m:Nat) (hm:m<8),cur[j*8+m]?=some (u8 h[m])
theorem flat_at (hs:List Hsh):∀ (j:Nat) (h:Hsh),hs[j]?=some h→∀ (m:Nat) (hm:m<8),(hs.flatMap fun h=>(h8 h).toList)[j*8+m]?=some (u8 h[m]):=by
 induction hs with
 | nil=>intro j h hj;simp at hj
 | cons x hs ih=>
  intro j h hj m hm
  have hx:(h8 x).toList.length=8:=by simp
  cases j with
  | zero=>
   simp only[List.getElem?_cons_zero,Option.some.injEq] at hj
   subst hj
   rw[List.flatMap_cons,List.getElem?_append_left (by omega)]
   simp[h8,hm]
  | succ j=>
   rw[List.flatMap_cons,List.getElem?_append_right (by omega),hx,show (j+1)*8+m-8=j*8+m by omega]
   exact ih j h (by simpa using hj) m hm
theorem OwnHs.tail {w:World} {base:Nat} {v:Value} {hs:List Hsh} (h:OwnHs w base v hs):(v=.slice none 0 0∧hs = [])∨Tail8 w base v hs 0:=by
 obtain⟨h1,h2⟩:=h
 rcases h2 with ⟨rfl,h0⟩|⟨g,cap,cur,rfl,hb,hg,hn,hc,hsz,ht⟩
 ·exact .inl ⟨rfl,List.eq_nil_of_length_eq_zero h0⟩
 ·refine .inr ⟨g,cap,cur,rfl,hb,hg,hn,by omega,fun j h _ hj m hm=>?_⟩
  have:=flat_at hs j h hj m hm
  rw[←ht,List.getElem?_take] at this
  split at this
  ·simpa using this
  ·cases this
theorem tail8_bytes {w:World} {g k:Nat} {cur:Array Value} {x:Hsh} {t:TypeId} (hg:w.heap[g]?=some (.cells cur t (0,0))) (hall:∀ (m:Nat) (hm:m<8),cur[k*8+m]?=some (u8 x[m])):BytesAt w (.slice (some ⟨g,k*8,none⟩) 8 8) x.toList:=by
 unfold BytesAt
 refine⟨_,8,by simp,by simp,fun j y hy=>⟨g,k*8,rfl,?_⟩⟩
 have hj:j<8:=by have:=(List.getElem?_eq_some_iff.1 hy).1;simpa using this
 have h1:=hall j hj
 rw[show (x.toList.map u8)[j]?=some (u8 x[j]) by simp[hj]] at hy
 cases hy
 simp[World.cell?,hg,h1]
theorem ownsRow_setRow_other {w:World} {base g:Nat} {e e':TypeId} {size n:Nat} {v:Value} {xs:List Value} {cur:Array Value} {fz:Nat×Nat} (h:w.ownsRow base e size v n xs) (hg:w.heap[g]?=some (.cells cur e' fz)) (hne:e'≠e) (cs:Array Value):(w.setRow g cs).ownsRow base e size v n xs:=by
 obtain⟨h1,h2⟩:=h
 refine⟨h1,?_⟩
 rcases h2 with h2|⟨b,cap,cu,hv,hb,hh,r⟩
 ·exact .inl h2
 ·refine .inr ⟨b,cap,cu,hv,hb,?_,r⟩
  rw[setRow_other w g b cs (fun e1=>?_)]
  ·exact hh
  ·subst e1
   rw[hg] at hh
   simp only[Option.some.injEq,Obj.cells.injEq] at hh
   exact hne hh.2.1
theorem hs_texts_succ {hs:List Hsh} {k:Nat} {h:Hsh} (hh:hs[k]?=some h):((hs.take (k+1)).map HS)=(hs.take k).map HS ++ [HS h]:=by
 rw[List.take_add_one,hh];simp
end
section
theorem texts_fr (v:Value) (hs:List Hsh) (w:World) (h:OwnHs w 0 v hs) (hn:hs.length≤1048576) :
  Calls prog 43 #[v] w fun e w'=>∃ v',e=.returned v'∧OwnStrs w' w.heap.size v' (hs.map HS)∧Fr (fun k=>v.ownBlock=some k) w w':=by
 rcases h.tail with ⟨rfl,rfl⟩|ht
 ·clear h
  go_enter func43,ntmps43
  go_wp2
  refine wp_loop_rounds 1 ?_
  rw[rounds_succ]
  go_wp2
  go_ret
  exact⟨_,rfl,World.ownsRow_nil _ _ _ _,Fr.refl _ _⟩
 ·obtain⟨g,cap,cur0,rfl,hbg,hg0,hcap,hsz0,hall0⟩:=ht
  obtain⟨i0,hi,hz0,hz1,hz2⟩:=info_parts info_str
  have HT:=zh (show Tail8 w 0 (.slice (some ⟨g,0,none⟩) hs.length cap) hs 0 from ⟨g,cap,cur0,rfl,hbg,hg0,hcap,hsz0,hall0⟩)
  clear h hall0 hg0 hsz0
  go_enter func43,ntmps43
  go_wp2
  go_loopw [3,7] (fun v i wr=>∃ k:Nat,k≤hs.length∧i=.int .i64 k∧OwnStrs wr w.heap.size v ((hs.take k).map HS)∧Tail8 wr 0 (.slice (some ⟨g,0,none⟩) hs.length cap) hs k∧Fr (fun k=>k=g) w wr) (fun _ i _=>hs.length-(intOf i).toNat)
  case atStart=>exact⟨0,by omega,rfl,World.ownsRow_nil _ _ _ _,HT.o,Fr.refl _ _⟩
  case round=>
   obtain⟨k,hk,rfl,hown,htl,hbel⟩:=hrel
   by_cases hlt:k<hs.length
   ·obtain⟨x,hx⟩:∃ x,hs[k]?=some x:=⟨_,List.getElem?_eq_getElem hlt⟩
    obtain⟨g',cap',cur,hv,hbg',hg,hcap',hsz,hall⟩:=htl
    simp only[Value.slice.injEq,Option.some.injEq,Addr.mk.injEq,and_true,true_and] at hv
    obtain⟨rfl,rfl⟩:=hv
    have hbytes:=tail8_bytes hg (hall k x (Nat.le_refl _) hx)
    have hgw:=lt_of_heap hg
    have hsp:k*8+8≤cur.size:=by omega
    have HX:=zh hx
    unfold OwnStrs at hown
    have HR:=zh hown
    have HB:=zh hbel
    have HG:=zh hg
    have HALL:=zh hall
    have HBY:=zh hbytes
    have hwsz:w.heap.size≤wr.heap.size:=hbel.size
    have hlen:((hs.take k).map HS).length≤1048576:=by simp;omega
    clear hx hg hall hbytes hown hbel
    go_wp2_with (first|(refine wpList_bs rfl 94 9 _ rfl _ underlying94 underlying5 underlying9 _ ?_ rfl ?_ ?_;rotate_left;focus exact HBY.o)|(at_builtin;refine wpList_app1 rfl _ _ 22 rfl w.heap.size 9 i0 (.string ⟨#[]⟩) 16 underlying22 hi hz0 hz1 hz2 rfl (by decide) _ _ _ rfl HR.o _ rfl rfl (Nat.le_trans hlen (by decide)) hwsz ?_;intro v2 w2 hr2 hg2 hne2;have HR2:=zh hr2;have HG2:=zh hg2;have hgg:=(ownsRow_other HR.o hg2 (by decide) HG.o).trans HG.o;clear hr2 hg2 hne2)|(refine wpList_storeAt8 rfl 109 _ _ rfl g (k*8) rfl _ rfl rfl (by decide) info8 cur 109 hgg hsp ?_;intro cur' hsz' hcur';have HS2:=zh hsz';have HC2:=zh hcur';have HGG:=zh hgg;clear hsz' hcur' hgg))
    go_roundw
    case rel=>
     refine⟨k+1,by omega,by go_num,?_,?_,?_⟩
     ·rw[hs_texts_succ HX.o]
      unfold OwnStrs
      refine ownsRow_setRow_other ?_ HGG.o (by decide) _
      have hr:=HR2.o
      rw[show (⟨x.toList.toArray⟩:ByteArray)=HS x from rfl] at hr
      simpa using hr
     ·exact⟨g,cap,cur',rfl,hbg,setRow_heap _ g cur _ _ _ HGG.o,hcap,by rw[HS2.o];exact hsz,fun j h hj hh m hm=>(HC2.o (j*8+m) (by omega)).trans (HALL.o j h (by omega) hh m hm)⟩
     ·exact (HB.o.step (Fr.ofGrown (S:=fun k=>w.heap.size≤k) HG2.o fun j _ hj=>(HR.o.lt j hj).1) fun i h1 h2=>absurd h2 (by omega)).trans (Fr.ofGrown (setRow_grown w2 g cur') fun k _ e=>(Option.some.inj e).symm)
    case measure=>(simp[intOf] <;> omega)
   ·have ht:hs.take k=hs:=List.take_of_length_le (by omega)
    rw[ht] at hown
    go_wp2
    go_ret
    exact⟨_,rfl,hown,hbel.weak fun k _ e=>by rw[e];rfl⟩
end
section
abbrev PcAt (w:World) (ga gc:Nat):Prop:=w.heap[ga]?=some (.cells #[.pointer (some ⟨gc,0,none⟩)] 101 (0,0))
theorem pnewClient_any (w:World) (vn vf:Value) (hv:(vn=.pointer none∧vf=.nilIface)∨∃ a,vn=.pointer (some a)∧vf=.iface 44 (.pointer (some a))) (key:ByteArray) (i:Int) (hi:i≤9223372036854775807) :
  Calls prog 18 #[vn,.string key,.int .i64 i] w fun e w'=>∃ ga gc gk mc,e=.returned (.pointer (some ⟨ga,0,none⟩))∧PcAt w' ga gc∧ClIs w' gc gk mc vf ⟨key,0,hash [],⟨i.toNat,[]⟩⟩ []∧Below w.heap.size w w'∧w.heap.size≤ga∧w.heap.size≤gc∧w.heap.size≤gk∧w.heap.size≤mc:=by
 have HC:=zh (newClient_any w vf (hv.imp (fun h=>h.2) fun ⟨a,h⟩=>⟨a,h.2⟩) key i hi)
 rcases hv with ⟨rfl,rfl⟩|⟨a,rfl,rfl⟩
 all_goals
  go_enter func18,ntmps18
  go_wp2_with (first
   | (go_at_call 41;refine HC.o.mono ?_;rintro e w1 ⟨gc,gk,mc,rfl,hc1,hb1,hg1,hk1,hm1⟩;have HC1:=zh hc1;have HB1:=zh hb1;clear hc1 hb1)
   | fail)
  exact bodyPost_ret (results_tmp rfl _ _ _) rfl ⟨w1.heap.size,gc,gk,mc,rfl,heap_alloc_new w1 _,HC1.o.below (below_alloc w1 _),HB1.o.alloc HB1.o.size _,HB1.o.size,hg1,hk1,hm1⟩
theorem tr_bytesC {w:World} {g:Nat} {n:Int} {h:Hsh} (ht:TrAt w g n h):BytesAt w (.slice (some ⟨g,1,none⟩) 8 8) h.toList:=by
 unfold BytesAt
 refine⟨_,8,by simp,by simp,fun j x hx=>⟨g,1,rfl,?_⟩⟩
 have hj:j<8:=by have:=(List.getElem?_eq_some_iff.1 hx).1;simpa using this
 have h1:=trC_get n h j hj
 rw[show (h.toList.map u8)[j]?=some (u8 h[j]) by simp[hj]] at hx
 cases hx
 unfold TrAt at ht
 simp only[World.cell?,ht]
 exact h1
theorem ptrusted_any (w:World) (ga gc gk mc:Nat) (vf:Value) (c:Cl) (qs:List CEnt) (hga:PcAt w ga gc) (h:ClIs w gc gk mc vf c qs) :
  Calls prog 21 #[.pointer (some ⟨ga,0,none⟩)] w fun e w'=>e=.returned (.tuple #[.int .i64 c.size,.string (HS c.root)])∧ClIs w' gc gk mc vf c qs∧Fr (·=gc) w w':=by
 have c0:w.cell? ⟨ga,0,none⟩=some (.pointer (some ⟨gc,0,none⟩)):=cell_heap hga 0 rfl
 have HC:=zh (ctrusted_any w gc gk mc vf c qs h)
 obtain⟨n,hn⟩:∃ n:Int,n=c.size:=⟨_,rfl⟩
 obtain⟨k,hk⟩:∃ k,k=c.root:=⟨_,rfl⟩
 rw[←hn,←hk]
 have HN:=zh hn
 have HK:=zh hk
 rw[←hn,←hk] at HC
 clear hga h hn hk
 go_enter func21,ntmps21
 go_wp2_with fail
 refine HC.o.mono ?_
 rintro e w1 ⟨rfl,hc1,hf1⟩
 have T1:TrAt (w1.alloc (.cells (trC 0 zero8) 111)) w1.heap.size 0 zero8:=heap_alloc_new w1 _
 have T2:=T1.set n k
 have B2:=below_setRow ((Below.refl w1.heap.size w1).alloc (Nat.le_refl _) (.cells (trC 0 zero8) 111)) (g:=w1.heap.size) (Nat.le_refl _) (trC n k)
 have HT1:=zh T1
 obtain⟨W,hW⟩:∃ W,W=(w1.alloc (.cells (trC 0 zero8) 111)).setRow w1.heap.size (trC n k):=⟨_,rfl⟩
 rw[←hW] at T2 B2
 have HW:=zh hW
 have hcv:=run_bs (tr_bytesC (T2.below (below_drew _)))
 obtain⟨k0,_,_,_,_,_,_,_,_⟩:=(T2.below (below_drew _)).cells
 have hlt:=lt_of_heap T2
 have HB2:=zh B2
 have HC1:=zh hc1
 have HF1:=zh hf1
 clear T1 T2 B2 hW hc1 hf1
 go_wp2_with (refine wpList_storeT rfl _ _ rfl _ n k rfl rfl _ _ HT1.o ?_)
 rw[show (w1.alloc (.cells #[.int .i64 0,.int .u8 0,.int .u8 0,.int .u8 0,.int .u8 0,.int .u8 0,.int .u8 0,.int .u8 0,.int .u8 0] 111)).setRow w1.heap.size (trC n k)=W from HW.o.symm]
 go_region
 all_goals (
  go_wp2
  go_ret2
  exact⟨rfl,HC1.o.below HB2.o.drew,HF1.o.trans (Fr.ofBelow HB2.o.drew)⟩)
def PReadPost (w:World) (gc gk mc gn gd:Nat) (vl vt:Value) (qs:List CEnt) (r:Tld×(List UInt8×List Hsh)×Cl×Nt) (e:Ending) (w':World):Prop:=
 ∃ (nn:Bool) (v':Value),e=.returned (.tuple #[.string (sOf r.2.1.1),.bool nn,v',toldV r.1.1 r.1.2])∧(nn=true→r.2.1.1 = [])∧(r.1=tFine∨nn=true)∧OwnStrs w' w.heap.size v' (r.2.1.2.map HS)∧
  ∃ qs',ClIs w' gc gk mc (.iface 44 (.pointer (some ⟨gn,0,none⟩))) r.2.2.1 qs'∧NetIs w' gn gd vl vt r.2.2.2∧Fr (cnS gc gk mc gn vt qs) w w'∧Sub w (cnS gc gk mc gn vt qs) (cnS gc gk mc gn vt qs')
theorem ClM.kept {S:Nat→Prop} {ts:List TypeId} {mu:Int} {w w':World} {gc gk mc:Nat} {vf:Value} {c:Cl} {qs:List CEnt} (h:ClM mu w gc gk mc vf c qs) (hf:Fr S w w') (hS:Kinds w S ts) (hm:∀ k,S k→∃ C t fz,w.heap[k]?=some (.cells C t fz)) (h0:177 ∉ ts) (h1:246 ∉ ts) (h2:244 ∉ ts) (h3:5 ∉ ts):ClM mu w' gc gk mc vf c qs:=
 ⟨heap_kept h.cells hf hS h0,cache_kept h.cache hf hS (fun e=>by
  obtain⟨C,t,fz,hC⟩:=hm _ e
  obtain⟨D,⟨es,cl,hb,_⟩,_⟩:=h.cache.km.ex
  rw[hC] at hb;cases hb) h1 h2 h3⟩
theorem bytes_kinds {w:World} {base:Nat} {a:Option Addr} {n c:Nat} {l:List UInt8} (h:OwnBytes w base (.slice a n c) l):∀ z,(Value.slice a n c).ownBlock=some z→∃ C fz,w.heap[z]?=some (.cells C 5 fz):=fun z hz=>by
 rcases h with ⟨h1,_⟩|⟨b,off,c',C,fz,h1,_,_,h4,_⟩
 ·cases h1;cases hz
 ·cases h1
  have:b=z:=by simpa [Value.ownBlock] using hz
  subst this
  exact⟨C,fz,h4⟩
theorem pread_of (F:Nat→Addr) (w:World) (ga gc gk mc gn gd:Nat) (vl vt:Value) (i:Int) (qs:List CEnt) (r:Tld×(List UInt8×List Hsh)×Cl×Nt) (hga:PcAt w ga gc) (hE:EnvS F (cnS gc gk mc gn vt qs) w) (hlt:∀ k,cnS gc gk mc gn vt qs k→k<w.heap.size) (hlen:r.2.1.2.length≤1048576)
  (hc:Calls prog 45 #[.pointer (some ⟨gc,0,none⟩),.int .i64 i] (w.alloc (.cells #[.int .i64 0,.string ⟨#[]⟩] 29)) (ReadPost F (w.alloc (.cells #[.int .i64 0,.string ⟨#[]⟩] 29)) gc gk mc gn gd vl vt qs r)) :
  Calls prog 22 #[.pointer (some ⟨ga,0,none⟩),.int .i64 i] w (PReadPost w gc gk mc gn gd vl vt qs r):=by
 obtain⟨⟨tk,tp⟩,⟨bb,hh⟩,c1,n1⟩:=r
 obtain⟨W0,hW0⟩:∃ W0,W0=w.alloc (.cells #[.int .i64 0,.string ⟨#[]⟩] 29):=⟨_,rfl⟩
 have hb0:Below w.heap.size w W0:=by rw[hW0];exact below_alloc w _
 have ht0:ToldAt' W0 w.heap.size 0 ⟨#[]⟩:=by rw[hW0];exact told_new w
 have hz0:W0.heap.size=w.heap.size+1:=by rw[hW0];simp
 have c0:W0.cell? ⟨ga,0,none⟩=some (.pointer (some ⟨gc,0,none⟩)):=cell_heap ((hb0.block _ (lt_of_heap hga)).trans hga) 0 rfl
 obtain⟨i0,hi0,hy0,_,_⟩:=info_parts info_u8
 rw[←hW0] at hc
 have HW0:=zh hW0
 have HB0:=zh hb0
 have HT0:=zh ht0
 have HE:=zh hE
 have HLT:=zh hlt
 have HLEN:=zh hlen
 have HC:=zh hc
 clear hga hE hlt hlen hc hW0 hb0 ht0
 go_enter func22,ntmps22
 go_upto_region 1 with fail
 rw[show w.alloc (.cells #[.int .i64 0,.string ⟨#[]⟩] 29)=W0 from HW0.o.symm]
 go_upto_region 2 with (first
  | (go_at_call 45;refine HC.o.mono ?_;rintro e w1 ⟨u,v,y,rfl,hu,hv,hy,qs1,hcl,hn1,hf1,hs1,hz1⟩;obtain⟨ua,un,uc,rfl⟩:=ownB_any hu;have HU:=zh hu;have HV:=zh hv;have HY:=zh hy;have HCL:=zh hcl;have HN1:=zh hn1;have HF1:=zh hf1;have HS1:=zh hs1;have HZ1:=zh hz1;clear hu hv hy hcl hn1 hf1 hs1 hz1)
  | fail)
 have hu:=HU.o
 have hcv:=run_bs hu.at
 have hq:=Lib.run_eql_slice_nil (P:=prog) w1 94 5 ua un uc 0 0 underlying94
 have hk3:Kinds w1 (fun k=>(Value.slice ua un uc).ownBlock=some k) [5]:=fun k C t f hs hk=>by
  obtain⟨C',fz',h'⟩:=bytes_kinds hu k hs
  rw[hk] at h'
  cases h'
  simp
 have hlo3:=ownB_block hu
 have ht1:ToldAt' w1 w.heap.size 0 ⟨#[]⟩:=HF1.o.heap HT0.o fun e=>by have:=HLT.o _ e;omega
 have hfr1:Fr (cnS gc gk mc gn vt qs) w w1:=(Fr.ofBelow HB0.o).trans HF1.o
 have HK3:=zh hk3
 have HLO3:=zh hlo3
 have HT1:=zh ht1
 have HFR1:=zh hfr1
 have HUU:=zh hu
 clear hu hk3 hlo3 ht1 hfr1 c0
 go_wp2_with (first
  | (refine wpList_clearB rfl _ 94 rfl i0 underlying94 hi0 hy0 W0.heap.size _ bb rfl HUU.o ?_;intro w3 n3 hg3 hsh3 hz3;have HF3:=zh (Fr.ofGrown (S:=fun k=>(Value.slice ua un uc).ownBlock=some k) hg3 fun k _ e=>e);have HV3:=zh (show OwnHs w3 0 v hh from ownsRow_mono (row_kept HV.o HF3.o HK3.o (by decide)) (Nat.zero_le _));clear hg3 hsh3 hz3)
  | (go_at_call 43;refine (texts_fr v hh w3 HV3.o HLEN.o).mono ?_;rintro e w4 ⟨v4,rfl,ho4,hf4⟩;have HO4:=zh ho4;have HF4:=zh hf4;have HK4:=zh (kinds_row HV3.o);clear ho4 hf4)
  | (go_at_call 37;have hfr4:Fr (cnS gc gk mc gn vt qs) w w4:=(HFR1.o.step HF3.o fun i h1 h2=>absurd (HLO3.o i h2).1 (by omega)).step HF4.o (fun i h1 h2=>absurd (HV.o.lt i h2).1 (by omega));have HFR4:=zh hfr4;have hy4:=(HY.o.fr HF3.o (fun k C fz hC=>kinds_not HK3.o hC (by decide))).fr HF4.o (fun k C fz hC=>kinds_not HK4.o hC (by decide));have ht4:=(HT1.o.kept HF3.o HK3.o (by decide)).kept HF4.o HK4.o (by decide);refine (of_err (HE.o w4 hfr4).2.1 hy4).mono ?_;rintro e w5 ⟨rfl,hb5⟩;have HB5:=zh hb5;have HT5:=zh (ht4.below hb5);obtain⟨t0,t1,t2,t3,t4⟩:=HT5.o.facts;clear hfr4 hy4 ht4 hb5)
  | fail)
 have hts:=told_set (m:=tk) (t:=tp) HT5.o
 have hkt:=kinds_one HT5.o
 have hf5:=hts.2
 refine bodyPost_ret (v:=.tuple #[.string (sOf bb),.bool ua.isNone,v4,toldV tk tp]) (by simp[results,results22,go_sem,t0,t1,sOf]) rfl ⟨ua.isNone,v4,rfl,?_,?_,?_,qs1,?_,?_,?_,?_⟩
 ·intro hn
  rcases HUU.o with ⟨_,h1⟩|⟨b,off,cc,C,fz,h1,_⟩
  ·exact h1
  ·cases h1;cases hn
 ·rcases HZ1.o with h1|h1
  ·exact .inl h1
  ·cases h1;exact .inr rfl
 ·exact ownsRow_mono (row_kept (ownsRow_below HO4.o HB5.o) hf5 hkt (by decide)) (by have:=HF3.o.size;have:=HF1.o.size;omega)
 ·have h3:=ClM.back HCL.o HF3.o (bytes_kinds HUU.o)
  have h4:=h3.kept HF4.o HK4.o (fun k hk=>by obtain⟨C,hC⟩:=ownBlock_type HV3.o hk;exact⟨C,_,_,hC⟩) (by decide) (by decide) (by decide) (by decide)
  exact (h4.below HB5.o).kept hf5 hkt (fun k hk=>⟨_,_,_,(show w5.heap[k]?=_ from hk ▸ HT5.o)⟩) (by decide) (by decide) (by decide) (by decide)
 ·have h3:=net_kept HN1.o HF3.o HK3.o (by decide) (by decide) (by decide)
  have h4:=net_kept h3 HF4.o HK4.o (by decide) (by decide) (by decide)
  exact net_kept (h4.below HB5.o) hf5 hkt (by decide) (by decide) (by decide)
 ·exact (HFR4.o.trans (Fr.ofBelow HB5.o)).step hf5 fun i h1 h2=>by omega
 ·exact HS1.o.mono (by omega)
end
section
theorem newNet_any (w:World) (gd:Nat) (files:List Fil) :
  Calls prog 19 #[.pointer (some ⟨gd,0,none⟩)] w fun e w'=>∃ gn,e=.returned (.pointer (some ⟨gn,0,none⟩))∧NetIs w' gn gd (.slice none 0 0) (.slice none 0 0) ⟨files,[],[],0⟩∧Below w.heap.size w w'∧w.heap.size≤gn:=by
 go_enter func19,ntmps19
 go_wp2
 exact bodyPost_ret (results_tmp rfl _ _ _) rfl ⟨w.heap.size,rfl,⟨heap_alloc_new w _,World.ownsRow_nil _ _ _ _,World.ownsRow_nil _ _ _ _,rfl,fun k hk=>by simp at hk⟩,below_alloc w _,Nat.le_refl _⟩
theorem infoInt:(prog.info? 3).map (fun i=>(i.zero,i.size,i.bytes))=some (some (.int .i64 0),1,8):=by kernel_rfl
end
section
theorem rootT_two (N:Nat) {f c e:Nat} (hc:c%2 ^ e=0):(rootT N f c (2 ^ e)).length≤2:=by
 cases f with
 | zero=>simp[rootT]
 | succ f=>
  rw[rootT,if_pos ⟨pow_and e,hc⟩]
  exact fullT_len _ _ _
theorem below_exp {n mm:Nat} (h2:2≤n) (hn:n≤2 ^ mm) (hm:mm≤63):∃ e,e<mm∧below n=2 ^ e∧2 ^ e<n∧n-2 ^ e≤2 ^ e:=by
 have h63:(2:Nat) ^ mm≤2 ^ 63:=Nat.pow_le_pow_right (by decide) hm
 rcases Nat.lt_or_ge n 9223372036854775808 with hlt|hge
 ·obtain⟨e,he,he2,h4,h5⟩:=bl_bd h2 hlt
  have hb:below n=2 ^ e:=by unfold below;rw[he];rfl
  have hem:e<mm:=(Nat.pow_lt_pow_iff_right (a:=2) (by decide)).1 (Nat.lt_of_lt_of_le h4 hn)
  exact⟨e,hem,hb,h4,by omega⟩
 ·have he:n=2 ^ 63:=by omega
  have hmm:62<mm:=by
   rcases Nat.lt_or_ge 62 mm with h|h
   ·exact h
   ·have:(2:Nat) ^ mm≤2 ^ 62:=Nat.pow_le_pow_right (by decide) h
    omega
  refine⟨62,hmm,?_,?_,?_⟩
  ·subst he;decide
  ·subst he;decide
  ·subst he;decide
theorem mod_sub {a x y:Nat} (h:a%2 ^ y=0) (hx:x≤y):a%2 ^ x=0:=Nat.mod_eq_zero_of_dvd (Nat.dvd_trans (Nat.pow_dvd_pow 2 hx) (Nat.dvd_of_mod_eq_zero h))
theorem rootT_log (N:Nat):∀ (f i n mm:Nat),1≤n→n≤2 ^ mm→i%2 ^ mm=0→mm≤63→(rootT N f i n).length≤2*mm+2
 | 0,_,_,_,_,_,_,_=>by simp[rootT]
 | f+1,i,n,mm,h1,hn,hi,hm=>by
  rw[rootT]
  split
  ·have:=fullT_len N (Lib.bitLen n-1) (i / n)
   omega
  ·rename_i hne
   have h2:2≤n:=by
    rcases Nat.lt_or_ge n 2 with hlt|hge
    ·obtain rfl:n=1:=by omega
     exact absurd ⟨by decide,Nat.mod_one i⟩ hne
    ·exact hge
   obtain⟨e,he,hb,h4,h5⟩:=below_exp h2 hn hm
   have hie:=mod_sub hi (Nat.le_of_lt he)
   have h6:=rootT_two N (f:=f) hie
   have h7:=rootT_log N f (i+2 ^ e) (n-2 ^ e) e (by omega) h5 (by rw[Nat.add_mod_right];exact hie) (by omega)
   rw[hb,List.length_append]
   omega
theorem partR_fit:∀ (f a b m mm:Nat),a<b→a<m→b-a≤2 ^ mm→a%2 ^ mm=0→mm≤63→∀ x∈partR f a b m,x.1<x.2∧∃ z,z≤mm∧x.2-x.1≤2 ^ z∧x.1%2 ^ z=0
 | 0,_,_,_,_,_,_,_,_,_=>fun x hx=>by simp[partR] at hx
 | f+1,a,b,m,mm,hab,ham,hs,ha,hm=>fun x hx=>by
  unfold partR at hx
  by_cases h1:b≤m
  ·rw[if_pos h1] at hx
   split at hx
   ·rw[List.mem_singleton.1 hx]
    exact⟨hab,mm,Nat.le_refl _,hs,ha⟩
   ·simp at hx
  ·rw[if_neg h1] at hx
   obtain⟨e,he,hb,h4,h5⟩:=below_exp (show 2≤b-a by omega) hs hm
   have hae:=mod_sub ha (Nat.le_of_lt he)
   have hae2:(a+2 ^ e)%2 ^ e=0:=by rw[Nat.add_mod_right];exact hae
   have h0:=Nat.two_pow_pos e
   rw[hb] at hx
   split at hx
   ·rcases List.mem_cons.1 hx with rfl|hx
    ·exact⟨by dsimp only;omega,e,Nat.le_of_lt he,by dsimp only;omega,hae2⟩
    ·obtain⟨k1,z,k2,k3⟩:=partR_fit f a (a+2 ^ e) m e (by omega) ham (by omega) hae (by omega) x hx
     exact⟨k1,z,by omega,k3⟩
   ·rcases List.mem_cons.1 hx with rfl|hx
    ·exact⟨by dsimp only;omega,e,Nat.le_of_lt he,by dsimp only;omega,hae⟩
    ·obtain⟨k1,z,k2,k3⟩:=partR_fit f (a+2 ^ e) b m e (by omega) (by omega) (by omega) hae2 (by omega) x hx
     exact⟨k1,z,by omega,k3⟩
theorem gatherT_each (N K:Nat):∀ rs:List (Nat×Nat),(∀ x∈rs,(rootT N (x.2-x.1) x.1 (x.2-x.1)).length≤K)→(gatherT N rs).length≤rs.length*K
 | [],_=>by simp[gatherT]
 | x :: xs,h=>by
  have h1:=gatherT_each N K xs fun y hy=>h y (List.mem_cons_of_mem _ hy)
  have h2:=h x List.mem_cons_self
  have e:gatherT N (x :: xs)=rootT N (x.2-x.1) x.1 (x.2-x.1)++gatherT N xs:=rfl
  rw[e,List.length_append,List.length_cons,Nat.add_mul]
  omega
theorem proofT_log {N m:Nat} (hN:N≤2 ^ 63) (hm:1≤m) (hmN:m≤N):(gatherT N (partR N 0 N m).reverse).length≤8192:=by
 have h1:=partR_len N 63 0 N m (by omega) (Nat.le_refl _) (by omega)
 have h2:=gatherT_each N 128 (partR N 0 N m).reverse fun x hx=>by
  obtain⟨k1,z,k2,k3,k4⟩:=partR_fit N 0 N m 63 (by omega) (by omega) (by omega) (Nat.zero_mod _) (Nat.le_refl _) x (List.mem_reverse.1 hx)
  have:=rootT_log N (x.2-x.1) x.1 (x.2-x.1) z (by omega) k3 k4 k2
  omega
 rw[List.length_reverse] at h2
 have h3:(partR N 0 N m).length*128≤64*128:=Nat.mul_le_mul h1 (Nat.le_refl _)
 omega
end
section
theorem lists_take (ss:List ByteArray) (k:Nat):lists (ss.take k)=(lists ss).take k:=by simp[lists,List.map_take]
end
section
def PubTrue (w:World) (e:Ending) (w':World):Prop:=e=.returned (.bool true)∧Below w.heap.size w w'
end
section
def moreB:ByteArray:=⟨#[109,111,114,101]⟩
def lastB:ByteArray:=⟨#[108,97,115,116]⟩
theorem lists_app (a b:List ByteArray):lists (a++b)=lists a++lists b:=by simp[lists]
structure MoreAt (w0:World) (tb gl gd:Nat) (key:ByteArray) (ss:List ByteArray) (i kb:Nat) (w:World) (k:Nat) (p:Pl) (m:Wm) (L:Lg) (d1:Dk):Prop where
 pa:PubAt w0 tb gl gd key ss i kb w k p m L
 d:m.d=d1
 put:L.put = []
structure SvD (key:ByteArray) (ss:List ByteArray) (k:Nat) (ss3:List ByteArray) (n3:Nat) (d:Dk):Prop where
 lo:ss.length≤ss3.length
 hi:ss3.length≤ss.length+5
 eq:ss3=(ss++List.replicate 5 moreB).take ss3.length
 opens:OpensTo d.files key (.good (lists ss3) n3)
 tr:DiskTrue (lists ss3) d.files
 short:∀ e∈lists ss3,e.length≤20
 sane:∃ U,U.length≤k∧Sane d U ((k+1)*2097152)
 few:ss3.length≤k
def SvPub (w0:World) (tb gd:Nat) (key:ByteArray) (ss:List ByteArray) (k:Nat) (e:Ending) (w':World):Prop:=
 ∃ (nn tk:Nat) (tp:ByteArray) (v':Value) (d:Dk) (ss3:List ByteArray) (n3:Nat),e=.returned (.tuple #[.int .i64 nn,toldV tk tp])∧((tk=0∧d.hit=false)∨(tk=8∧nn=0∧d.hit=true))∧
  DiskAt w' gd v' d∧ToldAt' w' tb 0 ⟨#[]⟩∧Below w0.heap.size w0 w'∧(∀ i,dkS gd v' i→w0.heap.size≤i)∧SvD key ss k ss3 n3 d
theorem sv_publish {F:Nat→Addr} {w0 w w5:World} {tb gl gd:Nat} {key:ByteArray} {ss:List ByteArray} {kb k:Nat} {p:Pl} {m:Wm} {L:Lg} {d1:Dk} {a:Nat} {half on:Bool} (h:MoreAt w0 tb gl gd key (ss++List.replicate 5 moreB) (ss.length+5) kb w k p m L d1) (hk:kb≤7000) (hn:NumEnv w0) (hS:Sents w0 F) (hT:ErrT w0) (hkey:key.size≤9223372036854775807)
  (hT1:DiskTrue (lists ss) d1.files) (hH1:DiskHas (lists ss) ss.length d1.files) (hc1:getF d1.files (sOf kCp)=some (cpOf (lists ss) key)) (hD:DiskAt w5 gd p.v (faultD d1 a half on)) (hF:Fr (·=gd) w w5) :
  Calls prog 15 #[.pointer (some ⟨gl,0,none⟩)] w5 (SvPub w0 tb gd key ss (kb+1)):=by
 obtain⟨hp,rfl,hput⟩:=h
 obtain⟨hst,hes,rfl,rfl,htold,hkb⟩:=hp
 obtain⟨U,hU,hG⟩:=hst.good
 obtain⟨_,hmk,hen,hlv,hfl,hky⟩:=hG.run L hst.rdw.log
 have hall:m.es=ss++List.replicate 5 moreB:=by rw[hes,List.take_of_length_le (by simp)]
 have hel:m.es.length=ss.length+5:=by rw[hall];simp
 have hfew:=hst.few
 have hlen:L.entries.length=m.es.length:=by rw[hen,lists_len]
 have hkd:Kinds w (·=p.gd) [41]:=kinds_one hst.is.disk.1
 have hpl5:PlIs w5 p.gl p.g:=heap_kept hst.is.pl hF hkd (by decide)
 have hlg5:LogIs w5 p.g p.gd p.ve p.vl p.vp p.vs L:=hst.is.log.kept hF hkd (by decide) (by decide)
 have hb5:Below w0.heap.size w0 w5:=hst.below.trans (hF.below hst.below.size fun i hi e=>by have:=hst.new i (.inr (.inl (.inl e)));omega)
 have h1:=hG.sane.calls
 have h2:=hG.sane.len
 have hc:=ppublish_any F w5 p.gl p.g p.gd p.v p.ve p.vl p.vp p.vs (faultD m.d a half on) L hpl5 hlg5 hD (envS_of hb5 hn hS hT fun i hi=>hst.new i (.inr hi)) hlv (by omega) (by rw[hen];exact hst.rdw.short) hmk (by show m.d.calls<_;omega) (by show m.d.files.length<_;omega) (by rw[hky,hst.mkey];exact hkey)
 refine hc.mono fun e w' hq=>?_
 unfold ppubPost at hq
 rw[if_neg (by rw[hst.rdw.live];simp)] at hq
 obtain⟨v',vp',Q,hQ,hD',hL',hf,hsub,hend⟩:=hq
 have eL:L.entries=lists ss++lists (List.replicate 5 moreB):=by rw[hen,hall,lists_app]
 have hGp:=(good_publish (good_fault hG a half on) (by omega) hst.rdw.log hst.rdw.failed (show NoClash (filesP L.entries) m.d.files from rdw_noClash hst.rdw (by omega)) 0 false).sane
 dsimp only at hGp
 rw[hput,hky,hst.mkey,eL] at hQ hGp
 have hsv:=survive_law (es0:=lists ss) (more:=lists (List.replicate 5 moreB)) (key:=key) (d:=faultD m.d a half on) (by rw[←eL,hen];exact hst.rdw.short) (by rw[←eL,hlen];omega) hT1 (by rw[lists_len];exact hH1) hc1 ⟨rfl,rfl,hst.rdw.sound.fresh.turned,hst.rdw.sound.fresh.once⟩
 rw[←hQ] at hsv hGp
 obtain⟨⟨kk,n3,k1,k2,ho,ht3⟩,_,_,hhit,_,_⟩:=hsv
 have hz:=hb5.size
 have hl3:(lists ss++lists (List.replicate 5 moreB)).take kk=lists ((ss++List.replicate 5 moreB).take kk):=by rw[←lists_app,lists_take]
 rw[hl3] at ho ht3
 rw[lists_len] at k1
 rw[List.length_append,lists_len,lists_len,List.length_replicate] at k2
 have hll:((ss++List.replicate 5 moreB).take kk).length=kk:=by rw[List.length_take,List.length_append,List.length_replicate];omega
 have htold':ToldAt' w' tb 0 ⟨#[]⟩:=(htold.kept hF hkd (by decide)).kept hf ((kinds_disk hD).or (kinds_log hlg5)) (by decide)
 have hb':Below w0.heap.size w0 w':=hb5.trans (hf.below hz fun i hi e=>by have:=hst.new i (.inr e);omega)
 have hnew:∀ i,dkS p.gd v' i→w0.heap.size≤i:=fun i hi=>by
  rcases hsub i (.inl hi) with e|e
  ·exact hst.new i (.inr e)
  ·omega
 have hsvd:SvD key ss (kb+1) ((ss++List.replicate 5 moreB).take kk) n3 Q.1:=by
  refine⟨by rw[hll];exact k1,by rw[hll];exact k2,by rw[hll],ho,ht3,fun e he=>?_,⟨U,by omega,hGp.more (by omega)⟩,by rw[hll];omega⟩
  rw[lists_take] at he
  have:=List.mem_of_mem_take he
  rw[←hall] at this
  exact hst.rdw.short e this
 rcases hend with ⟨hno,he⟩|⟨q,hq2,he⟩
 ·have hh:Q.1.hit=false:=by
   rcases hhit with ⟨_,e1⟩|⟨q,e1,_⟩
   ·exact e1
   ·rw[hno] at e1;cases e1
  exact⟨_,0,_,v',Q.1,_,n3,he,.inl ⟨rfl,hh⟩,hD',htold',hb',hnew,hsvd⟩
 ·have hh:Q.1.hit=true:=by
   rcases hhit with ⟨e1,_⟩|⟨q,e1,e2⟩
   ·rw[hq2] at e1;cases e1
   ·exact e2
  exact⟨0,8,q,v',Q.1,_,n3,he,.inr ⟨rfl,rfl,hh⟩,hD',htold',hb',hnew,hsvd⟩
theorem sv_reopen {F:Nat→Addr} {w0 w:World} {gd:Nat} {key:ByteArray} {ss ss3:List ByteArray} {k n3:Nat} {v:Value} {d:Dk} (h:SvD key ss k ss3 n3 d) (hD:DiskAt w gd v (mendD d)) (hb:Below w0.heap.size w0 w) (hdn:∀ i,dkS gd v i→w0.heap.size≤i) (hk:k≤7000) (hn:NumEnv w0) (hS:Sents w0 F) (hT:ErrT w0) (hkey:key.size≤9223372036854775807) :
  Calls prog 10 #[.pointer (some ⟨gd,0,none⟩),.string key] w fun e w'=>∃ p m L,e=.returned (.tuple #[.pointer (some ⟨p.gl,0,none⟩),toldV 0 ⟨#[]⟩])∧p.gd=gd∧KpSt w0 w' (k+1) key p m L∧m.es=ss3∧Fr (·=gd) w w':=by
 obtain⟨U,hU,hs⟩:=h.sane
 refine (kp_reopen (m:=⟨key,mendD d,none,[],0,false,false⟩) (ss:=ss3) (n:=n3) (U:=U) (k:=k) hD hb hn hS hT hdn (quiet_mend d) (by omega) hU ⟨hs.mend,fun L hL=>by cases hL⟩ rfl hkey h.opens h.tr h.short (by have:=h.few;omega)).mono fun e w' hq=>?_
 obtain⟨p,d',j,he,h1,_,_,h2,hf⟩:=hq
 exact⟨p,_,_,he,h1,h2,rfl,hf⟩
theorem sv_open {F:Nat→Addr} {w0 w:World} {key:ByteArray} {ss:List ByteArray} {k:Nat} {p:Pl} {m:Wm} {L:Lg} (h:KpSt w0 w k key p m L) (hr:RdW m L ss.length) (hes:m.es=ss) (hc:getF m.d.files (sOf kCp)=some (cpOf (lists ss) key)) (hk:k≤7000) (hn:NumEnv w0) (hS:Sents w0 F) (hT:ErrT w0) (hkey:key.size≤9223372036854775807) :
  Calls prog 10 #[.pointer (some ⟨p.gd,0,none⟩),.string key] w fun e w'=>∃ p' m' L',e=.returned (.tuple #[.pointer (some ⟨p'.gl,0,none⟩),toldV 0 ⟨#[]⟩])∧p'.gd=p.gd∧KpSt w0 w' (k+1) key p' m' L'∧m'.es=ss∧L'.put = []∧
   DiskTrue (lists ss) m'.d.files∧DiskHas (lists ss) ss.length m'.d.files∧getF m'.d.files (sOf kCp)=some (cpOf (lists ss) key):=by
 obtain⟨U,hU,hG⟩:=h.good
 have hfew:=h.few
 have hT1:DiskTrue (lists ss) m.d.files:=by have:=h.rdw.sound.true';rw[hes] at this;exact this
 have hH1:DiskHas (lists ss) (lists ss).length m.d.files:=by have:=hr.has;rw[hes] at this;rw[lists_len];exact this
 have hs:∀ e∈lists ss,e.length≤20:=by have:=h.rdw.short;rw[hes] at this;exact this
 rw[hes] at hfew
 have ho:=opens_pub (es:=lists ss) (l:=m.d.files) (key:=key) (by rw[lists_len];omega) hs hT1 hH1 hc
 refine (kp_reopen (ss:=ss) (U:=U) (k:=k) h.is.disk h.below hn hS hT (fun i hi=>h.new i (.inr (.inl hi))) h.rdw.quiet (by omega) hU hG h.mkey hkey ho hT1 hs (by omega)).mono fun e w' hq=>?_
 obtain⟨p',d',j,he,h1,_,hcm,h2,_⟩:=hq
 have hf:=hcm.files
 rw[lists_len] at hH1
 exact⟨p',_,_,he,h1,h2,rfl,rfl,by show DiskTrue _ d'.files;rw[hf];exact hT1,by show DiskHas _ _ d'.files;rw[hf];exact hH1,by show getF d'.files _=_;rw[hf];exact hc⟩
theorem MoreAt.append {F:Nat→Addr} {w0 w:World} {tb gl gd:Nat} {key:ByteArray} {ss:List ByteArray} {i kb k:Nat} {p:Pl} {m:Wm} {L:Lg} {d1:Dk} (h:MoreAt w0 tb gl gd key ss i kb w k p m L d1) (hk:kb≤8000) (hn:NumEnv w0) (hS:Sents w0 F) (hT:ErrT w0) {s:ByteArray} (hs:ss[i]?=some s) (h20:s.size≤20) :
  Calls prog 12 #[.pointer (some ⟨gl,0,none⟩),.string s] w fun e w'=>e=.returned (.tuple #[.int .i64 (i:Nat),toldV 0 ⟨#[]⟩])∧∃ k' p' m' L',MoreAt w0 tb gl gd key ss (i+1) (kb+1) w' k' p' m' L' d1:=by
 refine (h.pa.append hk hn hS hT hs h20).mono fun e w' hq=>?_
 obtain⟨he,k',p',m',L',h1,h2,h3⟩:=hq
 exact⟨he,k',p',m',L',h1,h2.trans h.d,h3.trans h.put⟩
theorem sv_entry {ss ss3:List ByteArray} (hlo:ss.length≤ss3.length) (hhi:ss3.length≤ss.length+5) (he:ss3=(ss++List.replicate 5 moreB).take ss3.length) {i:Nat} (hi:i<ss3.length+1) :
  (i<ss.length∧∃ s,ss[i]?=some s∧sOf ((lists (ss3 ++ [lastB])).getD i [])=s)∨(ss.length≤i∧i<ss3.length∧sOf ((lists (ss3 ++ [lastB])).getD i [])=moreB)∨(i=ss3.length∧sOf ((lists (ss3 ++ [lastB])).getD i [])=lastB):=by
 have hg:∀ (l:List ByteArray) (s:ByteArray),l[i]?=some s→sOf ((lists l).getD i [])=s:=fun l s h=>by
  unfold lists
  rw[List.getD_eq_getElem?_getD,List.getElem?_map,h]
  exact ByteArray.ext (by simp[sOf])
 rcases Nat.lt_or_ge i ss3.length with h1|h1
 ·have h3:(ss3 ++ [lastB])[i]?=(ss++List.replicate 5 moreB)[i]?:=by
   rw[List.getElem?_append_left h1]
   rw[he,List.getElem?_take_of_lt h1]
  rcases Nat.lt_or_ge i ss.length with h2|h2
  ·refine .inl ⟨h2,ss[i],List.getElem?_eq_getElem h2,hg _ _ ?_⟩
   rw[h3,List.getElem?_append_left h2]
   exact List.getElem?_eq_getElem h2
  ·refine .inr (.inl ⟨h2,h1,hg _ _ ?_⟩)
   rw[h3,List.getElem?_append_right h2,List.getElem?_replicate,if_pos (by omega)]
 ·have:i=ss3.length:=by omega
  subst this
  exact .inr (.inr ⟨rfl,hg _ _ (by simp)⟩)
theorem PubAt.toldTo {w0 w w':World} {tb gl gd:Nat} {key:ByteArray} {ss:List ByteArray} {i kb k:Nat} {p:Pl} {m:Wm} {L:Lg} (h:PubAt w0 tb gl gd key ss i kb w k p m L) (htb:w0.heap.size≤tb) (ht:ToldAt' w' tb 0 ⟨#[]⟩) (hf:Fr (·=tb) w w'):PubAt w0 tb gl gd key ss i kb w' k p m L:=
 ⟨h.st.told h.told htb hf,h.es,h.gl,h.gd,ht,h.kb⟩
end
section
theorem readP_cost {c:Cl} {n:Nt} {i:Int} (hN:c.size≤8192):(readP c n i).2.2.2.fetches≤n.fetches+440000∧(readP c n i).2.2.1.cache.items.length≤c.cache.items.length+220000:=by
 unfold readP
 by_cases hi:i<0∨(c.size:Int)≤i
 ·rw[if_pos hi]
  exact⟨Nat.le_add_right _ _,Nat.le_add_right _ _⟩
 ·rw[if_neg hi]
  have hc:=readQ_costs c.size i.toNat (askQ n c.cache)
  have ht:=readT_small (N:=c.size) (i:=i.toNat) hN (by omega)
  have h1:=hc.files
  have h2:=hc.fetches
  have h3:=hc.items
  have e1:(askQ n c.cache).files.length=0:=rfl
  have e2:(askQ n c.cache).net.fetches=n.fetches:=rfl
  have e3:(askQ n c.cache).cache.items.length=c.cache.items.length:=rfl
  rcases hq:readQ c.size i.toNat (askQ n c.cache) with ⟨r|r,s⟩
  ·rw[hq] at h1 h2 h3
   cases r <;> exact⟨by dsimp only at h2 ⊢;omega,by dsimp only at h3 ⊢;omega⟩
  ·rw[hq] at h1 h2 h3
   have h4:=remember_len s.files s.cache
   dsimp only at h1 h2 h3 ⊢
   split
   ·exact⟨by dsimp only;omega,by dsimp only;omega⟩
   ·exact⟨by dsimp only;omega,by dsimp only;omega⟩
theorem updateP_cost {c:Cl} {n:Nt}:(updateP c n).2.2.2.fetches≤n.fetches+20000∧(updateP c n).2.2.1.cache.items.length≤c.cache.items.length+8192:=by
 have e0:(fetchN n (sOf kCp)).fetches=n.fetches+1:=(fetchN_same n (sOf kCp)).2.2
 unfold updateP
 cases hf:fetchA n (sOf kCp) with
 | none=>exact⟨by dsimp only;omega,by dsimp only;omega⟩
 | some data=>
  dsimp only
  have hs:=checkGo_sound data c.key.data.toList
  split
  ·exact⟨by dsimp only;omega,by dsimp only;omega⟩
  ·rename_i hok
   obtain⟨p1,p2,_⟩:=hs.1 (by simpa using hok)
   split
   ·exact⟨by dsimp only;omega,by dsimp only;omega⟩
   ·split
    ·split <;> exact⟨by dsimp only;omega,by dsimp only;omega⟩
    ·split
     ·exact⟨by dsimp only;omega,by dsimp only;omega⟩
     ·obtain⟨N,hN⟩:∃ N,N=(checkGo data c.key.data.toList).1.toNat:=⟨_,rfl⟩
      rw[←hN]
      have hc:=gatherQ_costs N (partR N 0 N c.size).reverse (askQ (fetchN n (sOf kCp)) c.cache)
      have ht:=proofT_log (N:=N) (m:=c.size) (by omega) (by omega) (by omega)
      have h1:=hc.files
      have h2:=hc.fetches
      have h3:=hc.items
      have e1:(askQ (fetchN n (sOf kCp)) c.cache).files.length=0:=rfl
      have e2:(askQ (fetchN n (sOf kCp)) c.cache).net.fetches=n.fetches+1:=e0
      have e3:(askQ (fetchN n (sOf kCp)) c.cache).cache.items.length=c.cache.items.length:=rfl
      unfold proofQ
      rcases hq:gatherQ N (partR N 0 N c.size).reverse (askQ (fetchN n (sOf kCp)) c.cache) with ⟨r|r,s⟩
      ·rw[hq] at h1 h2 h3
       cases r <;> exact⟨by dsimp only at h2 ⊢;omega,by dsimp only at h3 ⊢;omega⟩
      ·rw[hq] at h1 h2 h3
       have h4:=remember_len s.files s.cache
       dsimp only at h1 h2 h3 ⊢
       split
       ·exact⟨by dsimp only;omega,by dsimp only;omega⟩
       ·exact⟨by dsimp only;omega,by dsimp only;omega⟩
theorem bun_small {es:List (List UInt8)} (hl:es.length≤1048576) (hs:∀ e∈es,e.length≤20) {N i:Nat} (hN:N≤es.length) (hi:i<N) {av:Bool} {s s1:Cs} {b:List UInt8} (hT:TrueQ es N av s) (h:fileQ fitsBun (-1) (i / 4) N s=(.ok b,s1)):b.length≤84:=by
 have hlen:(es.take N).length=N:=by rw[List.length_take,Nat.min_eq_left hN]
 have hlr:((es.take N).map encE).length=N:=by rw[List.length_map,hlen]
 have hsn:∀ e∈es.take N,e.length≤20:=fun e he=>hs e (List.mem_of_mem_take he)
 have hf:fitsOf 0=fitsBun:=by unfold fitsOf;rw[if_pos rfl]
 have hfile:=fileQ_true hl (av:=av) (rowsOf_zero (es.take N)) (j:=i / 4) (by rw[hlr];omega) (fun w h1 h4 hw=>by
  rw[hlr] at hw
  rw[hf]
  unfold fitsBun
  rw[unbundle_cut hsn h1 h4 (by rw[hlen];exact hw),Option.bind_some,if_pos (by rw[List.length_take,List.length_drop,hlen];omega),List.take_take,Nat.min_self,bundle_cut hsn h1 h4 (by rw[hlen];exact hw)])
 rw[hlr,hf,show (((0:Nat):Int)-1) = -1 by omega] at hfile
 have hb:=(hfile s hT).2.1 b (by rw[h])
 rw[hb]
 unfold cutR
 have h1:=flatten_le ((((es.take N).map encE).drop (4*(i / 4))).take (wideAt (i / 4) N)) 21 fun x hx=>by
  obtain⟨e,he,rfl⟩:=List.mem_map.1 (List.mem_of_mem_drop (List.mem_of_mem_take hx))
  have:=hsn e he
  simp only[encE,List.length_cons]
  omega
 have h2:((((es.take N).map encE).drop (4*(i / 4))).take (wideAt (i / 4) N)).length≤4:=by
  rw[List.length_take]
  unfold wideAt
  omega
 have:=Nat.mul_le_mul_right 21 h2
 omega
end
section
structure In14 (last x y n1 n2:Hsh) (g:Nat) (ok:Value) (W:World) (b:Nat→Bool) (a:Act) (w:World):Prop where
 d:a.defers = []
 s:103≤a.tmps.size
 t8:a.tmps.getD 8 undef=.pointer (some ⟨g,0,none⟩)
 t9:a.tmps.getD 9 undef=.pointer (some ⟨g+1,0,none⟩)
 t11:a.tmps.getD 11 undef=.pointer (some ⟨g+1+1,0,none⟩)
 t10:a.tmps.getD 10 undef=ok
 r0:b 0=true→a.tmps.getD 96 undef=.agg (h8 last)
 r1:b 1=true→a.tmps.getD 97 undef=.agg (h8 x)
 r2:b 2=true→a.tmps.getD 98 undef=.agg (h8 n1)
 r3:b 3=true→a.tmps.getD 99 undef=.agg (h8 last)
 r4:b 4=true→a.tmps.getD 100 undef=.agg (h8 y)
 r5:b 5=true→a.tmps.getD 101 undef=.agg (h8 n2)
 r6:b 6=true→a.tmps.getD 102 undef=ok
 h11:hashOf w (g+1+1) last
 e8:b 7=false→hashOf w g x
 f8:b 7=true→hashOf w g n1
 e9:b 8=false→hashOf w (g+1) y
 f9:b 8=true→hashOf w (g+1) n2
 bel:Below g W w
 c7:b 7=true→b 1=true
 c8:b 8=true→b 4=true
theorem draw14 (last x y n1 n2:Hsh) (g:Nat) (ok:Value) (W:World) {ops:Array Oper} {Q:Exit→Act→World→Prop}
  (r:∀ b:Nat→Bool,∀ i∈Region.ready .any ops (bs b),i<10∧b i=false∧(i=2→b 0=true∧b 1=true)∧(i=5→b 3=true∧b 4=true)∧(i=7→b 1=true∧b 2=true)∧(i=8→b 4=true∧b 5=true)∧(i=9→b 6=true))
  (r0:∀ b:Nat→Bool,left b=0→Region.ready .any ops (bs b) = []) (r1:∀ (b:Nat→Bool) (f:Nat),f+1=left b→Region.ready .any ops (bs b)≠[])
  (o0:∃ (o:Oper),ops[0]?=some o∧o.guard=none∧o.dst=some 96∧o.op=.load 109 (.tmp 11))
  (o1:∃ (o:Oper),ops[1]?=some o∧o.guard=none∧o.dst=some 97∧o.op=.load 109 (.tmp 8))
  (o2:∃ (o:Oper) (ts:Array TypeId),ops[2]?=some o∧o.guard=none∧o.dst=some 98∧o.op=.call { callee:=.value (.func 129),args:=#[.tmp 96,.tmp 97],argTypes:=ts })
  (o3:∃ (o:Oper),ops[3]?=some o∧o.guard=none∧o.dst=some 99∧o.op=.load 109 (.tmp 11))
  (o4:∃ (o:Oper),ops[4]?=some o∧o.guard=none∧o.dst=some 100∧o.op=.load 109 (.tmp 9))
  (o5:∃ (o:Oper) (ts:Array TypeId),ops[5]?=some o∧o.guard=none∧o.dst=some 101∧o.op=.call { callee:=.value (.func 129),args:=#[.tmp 99,.tmp 100],argTypes:=ts })
  (o6:∃ (o:Oper),ops[6]?=some o∧o.guard=none∧o.dst=some 102∧o.op=.move (.tmp 10))
  (o7:∃ (o:Oper),ops[7]?=some o∧o.guard=none∧o.dst=none∧o.op=.store 109 (.tmp 8) (.tmp 98))
  (o8:∃ (o:Oper),ops[8]?=some o∧o.guard=none∧o.dst=none∧o.op=.store 109 (.tmp 9) (.tmp 101))
  (o9:∃ (o:Oper),ops[9]?=some o∧o.guard=none∧o.dst=some 10∧o.op=.assign (.tmp 102))
  (hgW:g≤W.heap.size) (hcf:∀ args w,(callFunc 129 args).run prog w=.ok (.enter 129 args) w) (hn1:∀ w,Calls prog 129 #[.agg (h8 last),.agg (h8 x)] w fun e w'=>e=.returned (.agg (h8 n1))∧Below w.heap.size w w') (hn2:∀ w,Calls prog 129 #[.agg (h8 last),.agg (h8 y)] w fun e w'=>e=.returned (.agg (h8 n2))∧Below w.heap.size w w')
  (hQ:∀ b a w,In14 last x y n1 n2 g ok W b a w→b 7=true→b 8=true→Q .normal a w) :
  ∀ a w,In14 last x y n1 n2 g ok W (fun _=>false) a w→wpAny prog .any ops Q 10 (Array.replicate 10 false) a w:=by
 intro a w h
 refine wpAny_inv (fun f L a w=>∃ b,L=bs b∧f=left b∧In14 last x y n1 n2 g ok W b a w) ?_ ?_ 10 _ a w ⟨fun _=>false,rfl,rfl,h⟩
 ·rintro L a w ⟨b,rfl,hf,h⟩
  refine⟨r0 b hf.symm,hQ b a w h ?_ ?_⟩
  ·rcases hh:b 7 with _|_
   ·exfalso;simp only[left,hh,Bool.not_false,Bool.toNat_true] at hf;omega
   ·rfl
  ·rcases hh:b 8 with _|_
   ·exfalso;simp only[left,hh,Bool.not_false,Bool.toNat_true] at hf;omega
   ·rfl
 ·rintro f L a w ⟨b,rfl,hf,h⟩
  refine⟨r1 b f hf,fun i hi=>?_⟩
  obtain⟨hi10,hbi,d2,d5,d7,d8,d9⟩:=r b i hi
  have hL:=bs_upd b i hi10
  have hF:=left_upd b i hi10 hbi f hf
  have:i=0∨i=1∨i=2∨i=3∨i=4∨i=5∨i=6∨i=7∨i=8∨i=9:=by omega
  rcases this with rfl|rfl|rfl|rfl|rfl|rfl|rfl|rfl|rfl|rfl
  ·obtain⟨o,h1,h2,h3,h4⟩:=o0
   refine wpOp_of h1 h2 (wp_load_row _ _ h4 _ h.t11 _ (h8 last) _ _ h.h11 underlying109 rfl (by rw[info8,h8_size]) ⟨upd b 0,hL,hF,?_⟩)
   rw[h3]
   exact { h11:=h.h11,e8:=h.e8,f8:=h.f8,e9:=h.e9,f9:=h.f9,bel:=h.bel,c7:=h.c7,c8:=h.c8,d:=put_defers.trans h.d,s:=by rw[put_size];exact h.s,t8:=getD_put h.t8 (by decide),t9:=getD_put h.t9 (by decide),t11:=getD_put h.t11 (by decide),t10:=getD_put h.t10 (by decide),r0:=fun _=>getD_put_same (by have:=h.s;omega),r1:=fun hb=>getD_put (h.r1 hb) (by decide),r2:=fun hb=>getD_put (h.r2 hb) (by decide),r3:=fun hb=>getD_put (h.r3 hb) (by decide),r4:=fun hb=>getD_put (h.r4 hb) (by decide),r5:=fun hb=>getD_put (h.r5 hb) (by decide),r6:=fun hb=>getD_put (h.r6 hb) (by decide) }
  ·obtain⟨o,h1,h2,h3,h4⟩:=o1
   have n7:b 7=false:=by rcases hh:b 7 with _|_;rfl;exact absurd (h.c7 hh) (by rw[hbi];decide)
   refine wpOp_of h1 h2 (wp_load_row _ _ h4 _ h.t8 _ (h8 x) _ _ (h.e8 n7) underlying109 rfl (by rw[info8,h8_size]) ⟨upd b 1,hL,hF,?_⟩)
   rw[h3]
   exact { h11:=h.h11,e8:=h.e8,f8:=h.f8,e9:=h.e9,f9:=h.f9,bel:=h.bel,c7:=fun _=>rfl,c8:=h.c8,d:=put_defers.trans h.d,s:=by rw[put_size];exact h.s,t8:=getD_put h.t8 (by decide),t9:=getD_put h.t9 (by decide),t11:=getD_put h.t11 (by decide),t10:=getD_put h.t10 (by decide),r0:=fun hb=>getD_put (h.r0 hb) (by decide),r1:=fun _=>getD_put_same (by have:=h.s;omega),r2:=fun hb=>getD_put (h.r2 hb) (by decide),r3:=fun hb=>getD_put (h.r3 hb) (by decide),r4:=fun hb=>getD_put (h.r4 hb) (by decide),r5:=fun hb=>getD_put (h.r5 hb) (by decide),r6:=fun hb=>getD_put (h.r6 hb) (by decide) }
  ·obtain⟨o,ts,h1,h2,h3,h4⟩:=o2
   have dd:=d2 rfl
   refine wpOp_of h1 h2 (wp_call2 _ _ _ _ h4 hcf ?_)
   rw[show a.eval (.tmp 96)=.agg (h8 last) from h.r0 dd.1,show a.eval (.tmp 97)=.agg (h8 x) from h.r1 dd.2]
   refine (hn1 w).mono ?_
   rintro e w' ⟨rfl,hb⟩
   refine⟨_,rfl,upd b 2,hL,hF,?_⟩
   rw[h3]
   exact { h11:=hashOf_below h.h11 hb,e8:=fun k=>hashOf_below (h.e8 k) hb,f8:=fun k=>hashOf_below (h.f8 k) hb,e9:=fun k=>hashOf_below (h.e9 k) hb,f9:=fun k=>hashOf_below (h.f9 k) hb,bel:=h.bel.trans (hb.mono (Nat.le_trans hgW h.bel.size)),c7:=h.c7,c8:=h.c8,d:=put_defers.trans h.d,s:=by rw[put_size];exact h.s,t8:=getD_put h.t8 (by decide),t9:=getD_put h.t9 (by decide),t11:=getD_put h.t11 (by decide),t10:=getD_put h.t10 (by decide),r0:=fun hb=>getD_put (h.r0 hb) (by decide),r1:=fun hb=>getD_put (h.r1 hb) (by decide),r2:=fun _=>getD_put_same (by have:=h.s;omega),r3:=fun hb=>getD_put (h.r3 hb) (by decide),r4:=fun hb=>getD_put (h.r4 hb) (by decide),r5:=fun hb=>getD_put (h.r5 hb) (by decide),r6:=fun hb=>getD_put (h.r6 hb) (by decide) }
  ·obtain⟨o,h1,h2,h3,h4⟩:=o3
   refine wpOp_of h1 h2 (wp_load_row _ _ h4 _ h.t11 _ (h8 last) _ _ h.h11 underlying109 rfl (by rw[info8,h8_size]) ⟨upd b 3,hL,hF,?_⟩)
   rw[h3]
   exact { h11:=h.h11,e8:=h.e8,f8:=h.f8,e9:=h.e9,f9:=h.f9,bel:=h.bel,c7:=h.c7,c8:=h.c8,d:=put_defers.trans h.d,s:=by rw[put_size];exact h.s,t8:=getD_put h.t8 (by decide),t9:=getD_put h.t9 (by decide),t11:=getD_put h.t11 (by decide),t10:=getD_put h.t10 (by decide),r0:=fun hb=>getD_put (h.r0 hb) (by decide),r1:=fun hb=>getD_put (h.r1 hb) (by decide),r2:=fun hb=>getD_put (h.r2 hb) (by decide),r3:=fun _=>getD_put_same (by have:=h.s;omega),r4:=fun hb=>getD_put (h.r4 hb) (by decide),r5:=fun hb=>getD_put (h.r5 hb) (by decide),r6:=fun hb=>getD_put (h.r6 hb) (by decide) }
  ·obtain⟨o,h1,h2,h3,h4⟩:=o4
   have n8:b 8=false:=by rcases hh:b 8 with _|_;rfl;exact absurd (h.c8 hh) (by rw[hbi];decide)
   refine wpOp_of h1 h2 (wp_load_row _ _ h4 _ h.t9 _ (h8 y) _ _ (h.e9 n8) underlying109 rfl (by rw[info8,h8_size]) ⟨upd b 4,hL,hF,?_⟩)
   rw[h3]
   exact { h11:=h.h11,e8:=h.e8,f8:=h.f8,e9:=h.e9,f9:=h.f9,bel:=h.bel,c7:=h.c7,c8:=fun _=>rfl,d:=put_defers.trans h.d,s:=by rw[put_size];exact h.s,t8:=getD_put h.t8 (by decide),t9:=getD_put h.t9 (by decide),t11:=getD_put h.t11 (by decide),t10:=getD_put h.t10 (by decide),r0:=fun hb=>getD_put (h.r0 hb) (by decide),r1:=fun hb=>getD_put (h.r1 hb) (by decide),r2:=fun hb=>getD_put (h.r2 hb) (by decide),r3:=fun hb=>getD_put (h.r3 hb) (by decide),r4:=fun _=>getD_put_same (by have:=h.s;omega),r5:=fun hb=>getD_put (h.r5 hb) (by decide),r6:=fun hb=>getD_put (h.r6 hb) (by decide) }
  ·obtain⟨o,ts,h1,h2,h3,h4⟩:=o5
   have dd:=d5 rfl
   refine wpOp_of h1 h2 (wp_call2 _ _ _ _ h4 hcf ?_)
   rw[show a.eval (.tmp 99)=.agg (h8 last) from h.r3 dd.1,show a.eval (.tmp 100)=.agg (h8 y) from h.r4 dd.2]
   refine (hn2 w).mono ?_
   rintro e w' ⟨rfl,hb⟩
   refine⟨_,rfl,upd b 5,hL,hF,?_⟩
   rw[h3]
   exact { h11:=hashOf_below h.h11 hb,e8:=fun k=>hashOf_below (h.e8 k) hb,f8:=fun k=>hashOf_below (h.f8 k) hb,e9:=fun k=>hashOf_below (h.e9 k) hb,f9:=fun k=>hashOf_below (h.f9 k) hb,bel:=h.bel.trans (hb.mono (Nat.le_trans hgW h.bel.size)),c7:=h.c7,c8:=h.c8,d:=put_defers.trans h.d,s:=by rw[put_size];exact h.s,t8:=getD_put h.t8 (by decide),t9:=getD_put h.t9 (by decide),t11:=getD_put h.t11 (by decide),t10:=getD_put h.t10 (by decide),r0:=fun hb=>getD_put (h.r0 hb) (by decide),r1:=fun hb=>getD_put (h.r1 hb) (by decide),r2:=fun hb=>getD_put (h.r2 hb) (by decide),r3:=fun hb=>getD_put (h.r3 hb) (by decide),r4:=fun hb=>getD_put (h.r4 hb) (by decide),r5:=fun _=>getD_put_same (by have:=h.s;omega),r6:=fun hb=>getD_put (h.r6 hb) (by decide) }
  ·obtain⟨o,h1,h2,h3,h4⟩:=o6
   refine wpOp_of h1 h2 (BigFrame.wp_move _ h4 ⟨upd b 6,hL,hF,?_⟩)
   rw[h3,show a.eval (.tmp 10)=ok from h.t10]
   exact { h11:=h.h11,e8:=h.e8,f8:=h.f8,e9:=h.e9,f9:=h.f9,bel:=h.bel,c7:=h.c7,c8:=h.c8,d:=put_defers.trans h.d,s:=by rw[put_size];exact h.s,t8:=getD_put h.t8 (by decide),t9:=getD_put h.t9 (by decide),t11:=getD_put h.t11 (by decide),t10:=getD_put h.t10 (by decide),r0:=fun hb=>getD_put (h.r0 hb) (by decide),r1:=fun hb=>getD_put (h.r1 hb) (by decide),r2:=fun hb=>getD_put (h.r2 hb) (by decide),r3:=fun hb=>getD_put (h.r3 hb) (by decide),r4:=fun hb=>getD_put (h.r4 hb) (by decide),r5:=fun hb=>getD_put (h.r5 hb) (by decide),r6:=fun _=>getD_put_same (by have:=h.s;omega) }
  ·obtain⟨o,h1,h2,h3,h4⟩:=o7
   have dd:=d7 rfl
   refine wpOp_of h1 h2 (wp_store_row _ _ _ h4 _ (h8 n1) h.t8 (h.r2 dd.2) _ _ (h.e8 hbi) (by rw[info8,h8_size]) (by simp) (h8_one n1) ⟨upd b 7,hL,hF,?_⟩)
   rw[h3]
   exact { h11:=hashOf_other h.h11 _ (by omega),e8:=fun k=>absurd (show true=false from k) (by decide),f8:=fun _=>hashOf_set (h.e8 hbi) _,e9:=fun k=>hashOf_other (h.e9 k) _ (by omega),f9:=fun k=>hashOf_other (h.f9 k) _ (by omega),bel:=below_setRow h.bel (by omega) _,c7:=fun _=>dd.1,c8:=h.c8,d:=h.d,s:=h.s,t8:=h.t8,t9:=h.t9,t11:=h.t11,t10:=h.t10,r0:=h.r0,r1:=h.r1,r2:=h.r2,r3:=h.r3,r4:=h.r4,r5:=h.r5,r6:=h.r6 }
  ·obtain⟨o,h1,h2,h3,h4⟩:=o8
   have dd:=d8 rfl
   refine wpOp_of h1 h2 (wp_store_row _ _ _ h4 _ (h8 n2) h.t9 (h.r5 dd.2) _ _ (h.e9 hbi) (by rw[info8,h8_size]) (by simp) (h8_one n2) ⟨upd b 8,hL,hF,?_⟩)
   rw[h3]
   exact { h11:=hashOf_other h.h11 _ (by omega),e8:=fun k=>hashOf_other (h.e8 k) _ (by omega),f8:=fun k=>hashOf_other (h.f8 k) _ (by omega),e9:=fun k=>absurd (show true=false from k) (by decide),f9:=fun _=>hashOf_set (h.e9 hbi) _,bel:=below_setRow h.bel (by omega) _,c7:=h.c7,c8:=fun _=>dd.1,d:=h.d,s:=h.s,t8:=h.t8,t9:=h.t9,t11:=h.t11,t10:=h.t10,r0:=h.r0,r1:=h.r1,r2:=h.r2,r3:=h.r3,r4:=h.r4,r5:=h.r5,r6:=h.r6 }
  ·obtain⟨o,h1,h2,h3,h4⟩:=o9
   refine wpOp_of h1 h2 (BigFrame.wp_assign _ h4 ⟨upd b 9,hL,hF,?_⟩)
   rw[h3,show a.eval (.tmp 102)=ok from h.r6 (d9 rfl)]
   exact { h11:=h.h11,e8:=h.e8,f8:=h.f8,e9:=h.e9,f9:=h.f9,bel:=h.bel,c7:=h.c7,c8:=h.c8,d:=put_defers.trans h.d,s:=by rw[put_size];exact h.s,t8:=getD_put h.t8 (by decide),t9:=getD_put h.t9 (by decide),t11:=getD_put h.t11 (by decide),t10:=getD_put_same (by have:=h.s;omega),r0:=fun hb=>getD_put (h.r0 hb) (by decide),r1:=fun hb=>getD_put (h.r1 hb) (by decide),r2:=fun hb=>getD_put (h.r2 hb) (by decide),r3:=fun hb=>getD_put (h.r3 hb) (by decide),r4:=fun hb=>getD_put (h.r4 hb) (by decide),r5:=fun hb=>getD_put (h.r5 hb) (by decide),r6:=fun hb=>getD_put (h.r6 hb) (by decide) }
end
end Go.Proofs.YtefccfakhgdfbabGreatDoor
