/- A Read of at most 256 entries needs few files: plain. Conditions: at most 256 entries. -/
import Derived.Test.YtefccfakhgdfbabGreatDoorHe13
import Derived.Shelf.SlSortCmp.WholeK
set_option linter.unusedVariables false
set_option linter.unusedSimpArgs false
open Go.RowKit Go.Proofs.Tryz
set_option maxRecDepth 100000
set_option maxHeartbeats 4000000
namespace Go.Proofs.YtefccfakhgdfbabGreatDoor
section
theorem wpList_storeAt8 {P:Program} {ops:Array Oper} {rest:List Oper} {o:Oper} {a:Act} {Q:Exit→Act→World→Prop} {w:World} (hw:Region.wanted o (yielded ops a.tmps)=true) (ty:TypeId) (x y:Operand) (ho:o.op=.store ty x y)
  (g off:Nat) (hx:a.eval x=.pointer (some ⟨g,off,none⟩)) (cs:Array Value) (hy:a.eval y=.agg cs) (hcs:cs.size=8) (h1:∀ u∈cs.toList,u.oneCell'=true) (hi:(P.info? ty).map (·.size)=some 8)
  (cur:Array Value) (t:TypeId) (hg:w.heap[g]?=some (.cells cur t (0,0))) (hl:off+8≤cur.size)
  (hk:∀ cur':Array Value,cur'.size=cur.size→(∀ j,off+8≤j→cur'[j]?=cur[j]?)→wpList P ops Q rest (a.put o.dst undef) (w.setRow g cur')):wpList P ops Q (o :: rest) a w:=by
 refine BigFrame.wpList_want hw fun K' hK'=>?_
 have hrun:=run_storeCells_at (P:=P) g off t cs.toList 0 cur w hg (by simp[hcs];omega) h1
 have hr:(storeVar ty ⟨g,off,none⟩ (.agg cs)).run P w=.ok () (w.setRow g (cur.toList.take (off+0)++cs.toList++cur.toList.drop (off+0+cs.toList.length)).toArray):=by
  cases hq:P.info? ty with
  | none=>simp[hq] at hi
  | some i=>
   have hs:i.size=8:=by simpa [hq] using hi
   have hrun':=hrun
   simp only[Nat.add_zero] at hrun'
   simp[storeVar,sizeOf,typeInfo,hq,Value.cells,hs,hcs,hrun']
 unfold Oper.wp execOp
 simp only[ho,hx,hy,Instr.storeAt,Instr.sureAddr,Sem.run_bind,Sem.run_pure,Result.andThen_ok,hr]
 refine hK' _ _ (hk _ ?_ ?_)
 ·simp[hcs];omega
 ·intro j hj
  have hc8:cs.toList.length=8:=by simpa using hcs
  rw[List.getElem?_toArray,Nat.add_zero,List.getElem?_append_right (by simp[hcs];omega)]
  rw[List.getElem?_drop,←Array.getElem?_toList]
  congr 1
  simp[hcs]
  omega
def Tail8 (w:World) (base:Nat) (v:Value) (hs:List Hsh) (k:Nat):Prop:=
 ∃ (g cap:Nat) (cur:Array Value),v=.slice (some ⟨g,0,none⟩) hs.length cap∧base≤g∧w.heap[g]?=some (.cells cur 109 (0,0))∧hs.length≤cap∧hs.length*8≤cur.size∧
  ∀ (j:Nat) (h:Hsh),k≤j→hs[j]?=some h→∀ (m:Nat) (hm:m<8),cur[j*8+m]?=some (u8 h[m])
theorem flat_at (hs:List Hsh):∀ (j:Nat) (h:Hsh),hs[j]?=some h→∀ (m:Nat) (hm:m<8),(hs.flatMap fun h=>(h8 h).toList)[j*8+m]?=some (u8 h[m]):=by
 induction hs with
 | nil=>intro j h hj;simp at hj
 | cons x hs ih=>
  intro j h hj m hm
  have hx:(h8 x).toList.length=8:=by simp
  cases j with
  | zero=>
   simp only[List.getElem?_cons_zero,Option.some.injEq] at hj
   subst hj
   rw[List.flatMap_cons,List.getElem?_append_left (by omega)]
   simp[h8,hm]
  | succ j=>
   rw[List.flatMap_cons,List.getElem?_append_right (by omega),hx,show (j+1)*8+m-8=j*8+m by omega]
   exact ih j h (by simpa using hj) m hm
theorem OwnHs.tail {w:World} {base:Nat} {v:Value} {hs:List Hsh} (h:OwnHs w base v hs):(v=.slice none 0 0∧hs = [])∨Tail8 w base v hs 0:=by
 obtain⟨h1,h2⟩:=h
 rcases h2 with ⟨rfl,h0⟩|⟨g,cap,cur,rfl,hb,hg,hn,hc,hsz,ht⟩
 ·exact .inl ⟨rfl,List.eq_nil_of_length_eq_zero h0⟩
 ·refine .inr ⟨g,cap,cur,rfl,hb,hg,hn,by omega,fun j h _ hj m hm=>?_⟩
  have:=flat_at hs j h hj m hm
  rw[←ht,List.getElem?_take] at this
  split at this
  ·simpa using this
  ·cases this
theorem tail8_bytes {w:World} {g k:Nat} {cur:Array Value} {x:Hsh} {t:TypeId} (hg:w.heap[g]?=some (.cells cur t (0,0))) (hall:∀ (m:Nat) (hm:m<8),cur[k*8+m]?=some (u8 x[m])):BytesAt w (.slice (some ⟨g,k*8,none⟩) 8 8) x.toList:=by
 unfold BytesAt
 refine⟨_,8,by simp,by simp,fun j y hy=>⟨g,k*8,rfl,?_⟩⟩
 have hj:j<8:=by have:=(List.getElem?_eq_some_iff.1 hy).1;simpa using this
 have h1:=hall j hj
 rw[show (x.toList.map u8)[j]?=some (u8 x[j]) by simp[hj]] at hy
 cases hy
 simp[World.cell?,hg,h1]
theorem ownsRow_setRow_other {w:World} {base g:Nat} {e e':TypeId} {size n:Nat} {v:Value} {xs:List Value} {cur:Array Value} {fz:Nat×Nat} (h:w.ownsRow base e size v n xs) (hg:w.heap[g]?=some (.cells cur e' fz)) (hne:e'≠e) (cs:Array Value):(w.setRow g cs).ownsRow base e size v n xs:=by
 obtain⟨h1,h2⟩:=h
 refine⟨h1,?_⟩
 rcases h2 with h2|⟨b,cap,cu,hv,hb,hh,r⟩
 ·exact .inl h2
 ·refine .inr ⟨b,cap,cu,hv,hb,?_,r⟩
  rw[setRow_other w g b cs (fun e1=>?_)]
  ·exact hh
  ·subst e1
   rw[hg] at hh
   simp only[Option.some.injEq,Obj.cells.injEq] at hh
   exact hne hh.2.1
theorem hs_texts_succ {hs:List Hsh} {k:Nat} {h:Hsh} (hh:hs[k]?=some h):((hs.take (k+1)).map HS)=(hs.take k).map HS ++ [HS h]:=by
 rw[List.take_add_one,hh];simp
end
section
theorem texts_fr (v:Value) (hs:List Hsh) (w:World) (h:OwnHs w 0 v hs) (hn:hs.length≤1048576) :
  Calls prog 43 #[v] w fun e w'=>∃ v',e=.returned v'∧OwnStrs w' w.heap.size v' (hs.map HS)∧Fr (fun k=>v.ownBlock=some k) w w':=by
 rcases h.tail with ⟨rfl,rfl⟩|ht
 ·clear h
  go_enter func43,ntmps43
  go_wp2
  refine wp_loop_rounds 1 ?_
  rw[rounds_succ]
  go_wp2
  go_ret
  exact⟨_,rfl,World.ownsRow_nil _ _ _ _,Fr.refl _ _⟩
 ·obtain⟨g,cap,cur0,rfl,hbg,hg0,hcap,hsz0,hall0⟩:=ht
  obtain⟨i0,hi,hz0,hz1,hz2⟩:=info_parts info_str
  have HT:=zh (show Tail8 w 0 (.slice (some ⟨g,0,none⟩) hs.length cap) hs 0 from ⟨g,cap,cur0,rfl,hbg,hg0,hcap,hsz0,hall0⟩)
  clear h hall0 hg0 hsz0
  go_enter func43,ntmps43
  go_wp2
  go_loopw [3,7] (fun v i wr=>∃ k:Nat,k≤hs.length∧i=.int .i64 k∧OwnStrs wr w.heap.size v ((hs.take k).map HS)∧Tail8 wr 0 (.slice (some ⟨g,0,none⟩) hs.length cap) hs k∧Fr (fun k=>k=g) w wr) (fun _ i _=>hs.length-(intOf i).toNat)
  case atStart=>exact⟨0,by omega,rfl,World.ownsRow_nil _ _ _ _,HT.o,Fr.refl _ _⟩
  case round=>
   obtain⟨k,hk,rfl,hown,htl,hbel⟩:=hrel
   by_cases hlt:k<hs.length
   ·obtain⟨x,hx⟩:∃ x,hs[k]?=some x:=⟨_,List.getElem?_eq_getElem hlt⟩
    obtain⟨g',cap',cur,hv,hbg',hg,hcap',hsz,hall⟩:=htl
    simp only[Value.slice.injEq,Option.some.injEq,Addr.mk.injEq,and_true,true_and] at hv
    obtain⟨rfl,rfl⟩:=hv
    have hbytes:=tail8_bytes hg (hall k x (Nat.le_refl _) hx)
    have hgw:=lt_of_heap hg
    have hsp:k*8+8≤cur.size:=by omega
    have HX:=zh hx
    unfold OwnStrs at hown
    have HR:=zh hown
    have HB:=zh hbel
    have HG:=zh hg
    have HALL:=zh hall
    have HBY:=zh hbytes
    have hwsz:w.heap.size≤wr.heap.size:=hbel.size
    have hlen:((hs.take k).map HS).length≤1048576:=by simp;omega
    clear hx hg hall hbytes hown hbel
    go_wp2_with (first|(refine wpList_bs rfl 94 9 _ rfl _ underlying94 underlying5 underlying9 _ ?_ rfl ?_ ?_;rotate_left;focus exact HBY.o)|(at_builtin;refine wpList_app1 rfl _ _ 22 rfl w.heap.size 9 i0 (.string ⟨#[]⟩) 16 underlying22 hi hz0 hz1 hz2 rfl (by decide) _ _ _ rfl HR.o _ rfl rfl (Nat.le_trans hlen (by decide)) hwsz ?_;intro v2 w2 hr2 hg2 hne2;have HR2:=zh hr2;have HG2:=zh hg2;have hgg:=(ownsRow_other HR.o hg2 (by decide) HG.o).trans HG.o;clear hr2 hg2 hne2)|(refine wpList_storeAt8 rfl 109 _ _ rfl g (k*8) rfl _ rfl rfl (by decide) info8 cur 109 hgg hsp ?_;intro cur' hsz' hcur';have HS2:=zh hsz';have HC2:=zh hcur';have HGG:=zh hgg;clear hsz' hcur' hgg))
    go_roundw
    case rel=>
     refine⟨k+1,by omega,by go_num,?_,?_,?_⟩
     ·rw[hs_texts_succ HX.o]
      unfold OwnStrs
      refine ownsRow_setRow_other ?_ HGG.o (by decide) _
      have hr:=HR2.o
      rw[show (⟨x.toList.toArray⟩:ByteArray)=HS x from rfl] at hr
      simpa using hr
     ·exact⟨g,cap,cur',rfl,hbg,setRow_heap _ g cur _ _ _ HGG.o,hcap,by rw[HS2.o];exact hsz,fun j h hj hh m hm=>(HC2.o (j*8+m) (by omega)).trans (HALL.o j h (by omega) hh m hm)⟩
     ·exact (HB.o.step (Fr.ofGrown (S:=fun k=>w.heap.size≤k) HG2.o fun j _ hj=>(HR.o.lt j hj).1) fun i h1 h2=>absurd h2 (by omega)).trans (Fr.ofGrown (setRow_grown w2 g cur') fun k _ e=>(Option.some.inj e).symm)
    case measure=>(simp[intOf] <;> omega)
   ·have ht:hs.take k=hs:=List.take_of_length_le (by omega)
    rw[ht] at hown
    go_wp2
    go_ret
    exact⟨_,rfl,hown,hbel.weak fun k _ e=>by rw[e];rfl⟩
end
section
theorem wpList_clearB {P:Program} {ops:Array Oper} {rest:List Oper} {o:Oper} {a:Act} {Q:Exit→Act→World→Prop} {w:World} (hgd:o.guard=none) (x:Operand) (t:TypeId)
  (ho:o.op=.call { callee:=.builtin .clear,args:=#[x],argTypes:=#[t] }) (i:TypeInfo) (ht:P.underlying t=some (.slice 5)) (hi:P.info? 5=some i) (hz:i.zero=some (.int .u8 0))
  (base:Nat) (v:Value) (l:List UInt8) (hx:a.eval x=v) (hown:OwnBytes w base v l)
  (h:∀ w' n,w.grownBy w' v.ownBlock→(∀ k,k<w.heap.size→(∃ C C' fz,w.heap[k]?=some (.cells C 5 fz)∧w'.heap[k]?=some (.cells C' 5 fz)∧C'.size=C.size)∨w'.heap[k]?=w.heap[k]?)→w'.heap.size=w.heap.size→wpList P ops Q rest (a.put o.dst n) w'):wpList P ops Q (o :: rest) a w:=by
 refine wpList_plain hgd fun K hK=>?_
 have noop:(Builtin.clear_ #[t] o.type #[v]).run P w=.ok (.tuple #[]) w→o.wp P a w K Q:=fun hr=>by
  unfold Oper.wp execOp
  simp only[ho,resolve,invoke,builtin,Sem.run_bind,Sem.run_pure,Result.andThen_ok,List.map_toArray,List.map_cons,List.map_nil,hx,hr]
  exact hK _ _ (h w _ ⟨rfl,rfl,rfl,Nat.le_refl _,fun _ _ _=>rfl⟩ (fun _ _=>.inr rfl) rfl)
 rcases hown with ⟨rfl,rfl⟩|⟨b,off,c,C,fz,rfl,hcap,hb,hg,hc,hsz,hf⟩
 ·exact noop (by simp[Builtin.clear_,run_underlying ht])
 ·by_cases h0:l.length=0
  ·obtain rfl:l = []:=List.eq_nil_of_length_eq_zero h0
   exact noop (by simp[Builtin.clear_,run_underlying ht])
  ·obtain⟨cur',hrun,hs⟩:=run_storeCells_any (P:=P) b off 5 fz ((Builtin.zeroCells #[Value.int .u8 0] l.length).toList) 0 C w hg (by simp[Builtin.zeroCells];omega) hf (fun u hu=>by
    simp[Builtin.zeroCells] at hu
    obtain⟨k,hk,rfl⟩:=hu
    simp[Nat.mod_one,Value.oneCell'])
   have hr:(Builtin.clear_ #[t] o.type #[.slice (some ⟨b,off,none⟩) l.length c]).run P w=.ok (.tuple #[]) (w.setRow b cur'):=by
    cases hl:l.length with
    | zero=>exact absurd hl h0
    | succ n=>
     rw[hl] at hrun
     simp[Builtin.clear_,run_underlying ht,zeroValue,typeInfo,hi,hz,Value.cells,hrun]
   unfold Oper.wp execOp
   simp only[ho,resolve,invoke,builtin,Sem.run_bind,Sem.run_pure,Result.andThen_ok,List.map_toArray,List.map_cons,List.map_nil,hx,hr]
   refine hK _ _ (h _ _ (setRow_grown w b cur') (fun k hk=>?_) (by simp))
   by_cases hkb:k=b
   ·subst hkb
    exact .inl ⟨C,cur',fz,hg,setRow_heap w k _ _ _ _ hg,hs⟩
   ·exact .inr (setRow_other w b k cur' hkb)
end
section
abbrev PcAt (w:World) (ga gc:Nat):Prop:=w.heap[ga]?=some (.cells #[.pointer (some ⟨gc,0,none⟩)] 101 (0,0))
theorem pnewClient_any (w:World) (vn vf:Value) (hv:(vn=.pointer none∧vf=.nilIface)∨∃ a,vn=.pointer (some a)∧vf=.iface 44 (.pointer (some a))) (key:ByteArray) (i:Int) (hi:i≤9223372036854775807) :
  Calls prog 18 #[vn,.string key,.int .i64 i] w fun e w'=>∃ ga gc gk mc,e=.returned (.pointer (some ⟨ga,0,none⟩))∧PcAt w' ga gc∧ClIs w' gc gk mc vf ⟨key,0,hash [],⟨i.toNat,[]⟩⟩ []∧Below w.heap.size w w'∧w.heap.size≤ga∧w.heap.size≤gc∧w.heap.size≤gk∧w.heap.size≤mc:=by
 have HC:=zh (newClient_any w vf (hv.imp (fun h=>h.2) fun ⟨a,h⟩=>⟨a,h.2⟩) key i hi)
 rcases hv with ⟨rfl,rfl⟩|⟨a,rfl,rfl⟩
 all_goals
  go_enter func18,ntmps18
  go_wp2_with (first
   | (go_at_call 41;refine HC.o.mono ?_;rintro e w1 ⟨gc,gk,mc,rfl,hc1,hb1,hg1,hk1,hm1⟩;have HC1:=zh hc1;have HB1:=zh hb1;clear hc1 hb1)
   | fail)
  exact bodyPost_ret (results_tmp rfl _ _ _) rfl ⟨w1.heap.size,gc,gk,mc,rfl,heap_alloc_new w1 _,HC1.o.below (below_alloc w1 _),HB1.o.alloc HB1.o.size _,HB1.o.size,hg1,hk1,hm1⟩
theorem tr_bytesC {w:World} {g:Nat} {n:Int} {h:Hsh} (ht:TrAt w g n h):BytesAt w (.slice (some ⟨g,1,none⟩) 8 8) h.toList:=by
 unfold BytesAt
 refine⟨_,8,by simp,by simp,fun j x hx=>⟨g,1,rfl,?_⟩⟩
 have hj:j<8:=by have:=(List.getElem?_eq_some_iff.1 hx).1;simpa using this
 have h1:=trC_get n h j hj
 rw[show (h.toList.map u8)[j]?=some (u8 h[j]) by simp[hj]] at hx
 cases hx
 unfold TrAt at ht
 simp only[World.cell?,ht]
 exact h1
theorem ptrusted_any (w:World) (ga gc gk mc:Nat) (vf:Value) (c:Cl) (qs:List CEnt) (hga:PcAt w ga gc) (h:ClIs w gc gk mc vf c qs) :
  Calls prog 21 #[.pointer (some ⟨ga,0,none⟩)] w fun e w'=>e=.returned (.tuple #[.int .i64 c.size,.string (HS c.root)])∧ClIs w' gc gk mc vf c qs∧Fr (·=gc) w w':=by
 have c0:w.cell? ⟨ga,0,none⟩=some (.pointer (some ⟨gc,0,none⟩)):=cell_heap hga 0 rfl
 have HC:=zh (ctrusted_any w gc gk mc vf c qs h)
 obtain⟨n,hn⟩:∃ n:Int,n=c.size:=⟨_,rfl⟩
 obtain⟨k,hk⟩:∃ k,k=c.root:=⟨_,rfl⟩
 rw[←hn,←hk]
 have HN:=zh hn
 have HK:=zh hk
 rw[←hn,←hk] at HC
 clear hga h hn hk
 go_enter func21,ntmps21
 go_wp2_with fail
 refine HC.o.mono ?_
 rintro e w1 ⟨rfl,hc1,hf1⟩
 have T1:TrAt (w1.alloc (.cells (trC 0 zero8) 111)) w1.heap.size 0 zero8:=heap_alloc_new w1 _
 have T2:=T1.set n k
 have B2:=below_setRow ((Below.refl w1.heap.size w1).alloc (Nat.le_refl _) (.cells (trC 0 zero8) 111)) (g:=w1.heap.size) (Nat.le_refl _) (trC n k)
 have HT1:=zh T1
 obtain⟨W,hW⟩:∃ W,W=(w1.alloc (.cells (trC 0 zero8) 111)).setRow w1.heap.size (trC n k):=⟨_,rfl⟩
 rw[←hW] at T2 B2
 have HW:=zh hW
 have hcv:=run_bs (tr_bytesC (T2.below (below_drew _)))
 obtain⟨k0,_,_,_,_,_,_,_,_⟩:=(T2.below (below_drew _)).cells
 have hlt:=lt_of_heap T2
 have HB2:=zh B2
 have HC1:=zh hc1
 have HF1:=zh hf1
 clear T1 T2 B2 hW hc1 hf1
 go_wp2_with (refine wpList_storeT rfl _ _ rfl _ n k rfl rfl _ _ HT1.o ?_)
 rw[show (w1.alloc (.cells #[.int .i64 0,.int .u8 0,.int .u8 0,.int .u8 0,.int .u8 0,.int .u8 0,.int .u8 0,.int .u8 0,.int .u8 0] 111)).setRow w1.heap.size (trC n k)=W from HW.o.symm]
 go_region
 all_goals (
  go_wp2
  go_ret2
  exact⟨rfl,HC1.o.below HB2.o.drew,HF1.o.trans (Fr.ofBelow HB2.o.drew)⟩)
def PReadPost (w:World) (gc gk mc gn gd:Nat) (vl vt:Value) (qs:List CEnt) (r:Tld×(List UInt8×List Hsh)×Cl×Nt) (e:Ending) (w':World):Prop:=
 ∃ (nn:Bool) (v':Value),e=.returned (.tuple #[.string (sOf r.2.1.1),.bool nn,v',toldV r.1.1 r.1.2])∧(nn=true→r.2.1.1 = [])∧(r.1=tFine∨nn=true)∧OwnStrs w' w.heap.size v' (r.2.1.2.map HS)∧
  ∃ qs',ClIs w' gc gk mc (.iface 44 (.pointer (some ⟨gn,0,none⟩))) r.2.2.1 qs'∧NetIs w' gn gd vl vt r.2.2.2∧Fr (cnS gc gk mc gn vt qs) w w'∧Sub w (cnS gc gk mc gn vt qs) (cnS gc gk mc gn vt qs')
theorem ClM.kept {S:Nat→Prop} {ts:List TypeId} {mu:Int} {w w':World} {gc gk mc:Nat} {vf:Value} {c:Cl} {qs:List CEnt} (h:ClM mu w gc gk mc vf c qs) (hf:Fr S w w') (hS:Kinds w S ts) (hm:∀ k,S k→∃ C t fz,w.heap[k]?=some (.cells C t fz)) (h0:177 ∉ ts) (h1:246 ∉ ts) (h2:244 ∉ ts) (h3:5 ∉ ts):ClM mu w' gc gk mc vf c qs:=
 ⟨heap_kept h.cells hf hS h0,cache_kept h.cache hf hS (fun e=>by
  obtain⟨C,t,fz,hC⟩:=hm _ e
  obtain⟨D,⟨es,cl,hb,_⟩,_⟩:=h.cache.km.ex
  rw[hC] at hb;cases hb) h1 h2 h3⟩
theorem bytes_kinds {w:World} {base:Nat} {a:Option Addr} {n c:Nat} {l:List UInt8} (h:OwnBytes w base (.slice a n c) l):∀ z,(Value.slice a n c).ownBlock=some z→∃ C fz,w.heap[z]?=some (.cells C 5 fz):=fun z hz=>by
 rcases h with ⟨h1,_⟩|⟨b,off,c',C,fz,h1,_,_,h4,_⟩
 ·cases h1;cases hz
 ·cases h1
  have:b=z:=by simpa [Value.ownBlock] using hz
  subst this
  exact⟨C,fz,h4⟩
theorem pread_of (F:Nat→Addr) (w:World) (ga gc gk mc gn gd:Nat) (vl vt:Value) (i:Int) (qs:List CEnt) (r:Tld×(List UInt8×List Hsh)×Cl×Nt) (hga:PcAt w ga gc) (hE:EnvS F (cnS gc gk mc gn vt qs) w) (hlt:∀ k,cnS gc gk mc gn vt qs k→k<w.heap.size) (hlen:r.2.1.2.length≤1048576)
  (hc:Calls prog 45 #[.pointer (some ⟨gc,0,none⟩),.int .i64 i] (w.alloc (.cells #[.int .i64 0,.string ⟨#[]⟩] 29)) (ReadPost F (w.alloc (.cells #[.int .i64 0,.string ⟨#[]⟩] 29)) gc gk mc gn gd vl vt qs r)) :
  Calls prog 22 #[.pointer (some ⟨ga,0,none⟩),.int .i64 i] w (PReadPost w gc gk mc gn gd vl vt qs r):=by
 obtain⟨⟨tk,tp⟩,⟨bb,hh⟩,c1,n1⟩:=r
 obtain⟨W0,hW0⟩:∃ W0,W0=w.alloc (.cells #[.int .i64 0,.string ⟨#[]⟩] 29):=⟨_,rfl⟩
 have hb0:Below w.heap.size w W0:=by rw[hW0];exact below_alloc w _
 have ht0:ToldAt' W0 w.heap.size 0 ⟨#[]⟩:=by rw[hW0];exact told_new w
 have hz0:W0.heap.size=w.heap.size+1:=by rw[hW0];simp
 have c0:W0.cell? ⟨ga,0,none⟩=some (.pointer (some ⟨gc,0,none⟩)):=cell_heap ((hb0.block _ (lt_of_heap hga)).trans hga) 0 rfl
 obtain⟨i0,hi0,hy0,_,_⟩:=info_parts info_u8
 rw[←hW0] at hc
 have HW0:=zh hW0
 have HB0:=zh hb0
 have HT0:=zh ht0
 have HE:=zh hE
 have HLT:=zh hlt
 have HLEN:=zh hlen
 have HC:=zh hc
 clear hga hE hlt hlen hc hW0 hb0 ht0
 go_enter func22,ntmps22
 go_upto_region 1 with fail
 rw[show w.alloc (.cells #[.int .i64 0,.string ⟨#[]⟩] 29)=W0 from HW0.o.symm]
 go_upto_region 2 with (first
  | (go_at_call 45;refine HC.o.mono ?_;rintro e w1 ⟨u,v,y,rfl,hu,hv,hy,qs1,hcl,hn1,hf1,hs1,hz1⟩;obtain⟨ua,un,uc,rfl⟩:=ownB_any hu;have HU:=zh hu;have HV:=zh hv;have HY:=zh hy;have HCL:=zh hcl;have HN1:=zh hn1;have HF1:=zh hf1;have HS1:=zh hs1;have HZ1:=zh hz1;clear hu hv hy hcl hn1 hf1 hs1 hz1)
  | fail)
 have hu:=HU.o
 have hcv:=run_bs hu.at
 have hq:=Lib.run_eql_slice_nil (P:=prog) w1 94 5 ua un uc 0 0 underlying94
 have hk3:Kinds w1 (fun k=>(Value.slice ua un uc).ownBlock=some k) [5]:=fun k C t f hs hk=>by
  obtain⟨C',fz',h'⟩:=bytes_kinds hu k hs
  rw[hk] at h'
  cases h'
  simp
 have hlo3:=ownB_block hu
 have ht1:ToldAt' w1 w.heap.size 0 ⟨#[]⟩:=HF1.o.heap HT0.o fun e=>by have:=HLT.o _ e;omega
 have hfr1:Fr (cnS gc gk mc gn vt qs) w w1:=(Fr.ofBelow HB0.o).trans HF1.o
 have HK3:=zh hk3
 have HLO3:=zh hlo3
 have HT1:=zh ht1
 have HFR1:=zh hfr1
 have HUU:=zh hu
 clear hu hk3 hlo3 ht1 hfr1 c0
 go_wp2_with (first
  | (refine wpList_clearB rfl _ 94 rfl i0 underlying94 hi0 hy0 W0.heap.size _ bb rfl HUU.o ?_;intro w3 n3 hg3 hsh3 hz3;have HF3:=zh (Fr.ofGrown (S:=fun k=>(Value.slice ua un uc).ownBlock=some k) hg3 fun k _ e=>e);have HV3:=zh (show OwnHs w3 0 v hh from ownsRow_mono (row_kept HV.o HF3.o HK3.o (by decide)) (Nat.zero_le _));clear hg3 hsh3 hz3)
  | (go_at_call 43;refine (texts_fr v hh w3 HV3.o HLEN.o).mono ?_;rintro e w4 ⟨v4,rfl,ho4,hf4⟩;have HO4:=zh ho4;have HF4:=zh hf4;have HK4:=zh (kinds_row HV3.o);clear ho4 hf4)
  | (go_at_call 37;have hfr4:Fr (cnS gc gk mc gn vt qs) w w4:=(HFR1.o.step HF3.o fun i h1 h2=>absurd (HLO3.o i h2).1 (by omega)).step HF4.o (fun i h1 h2=>absurd (HV.o.lt i h2).1 (by omega));have HFR4:=zh hfr4;have hy4:=(HY.o.fr HF3.o (fun k C fz hC=>kinds_not HK3.o hC (by decide))).fr HF4.o (fun k C fz hC=>kinds_not HK4.o hC (by decide));have ht4:=(HT1.o.kept HF3.o HK3.o (by decide)).kept HF4.o HK4.o (by decide);refine (of_err (HE.o w4 hfr4).2.1 hy4).mono ?_;rintro e w5 ⟨rfl,hb5⟩;have HB5:=zh hb5;have HT5:=zh (ht4.below hb5);obtain⟨t0,t1,t2,t3,t4⟩:=HT5.o.facts;clear hfr4 hy4 ht4 hb5)
  | fail)
 have hts:=told_set (m:=tk) (t:=tp) HT5.o
 have hkt:=kinds_one HT5.o
 have hf5:=hts.2
 refine bodyPost_ret (v:=.tuple #[.string (sOf bb),.bool ua.isNone,v4,toldV tk tp]) (by simp[results,results22,go_sem,t0,t1,sOf]) rfl ⟨ua.isNone,v4,rfl,?_,?_,?_,qs1,?_,?_,?_,?_⟩
 ·intro hn
  rcases HUU.o with ⟨_,h1⟩|⟨b,off,cc,C,fz,h1,_⟩
  ·exact h1
  ·cases h1;cases hn
 ·rcases HZ1.o with h1|h1
  ·exact .inl h1
  ·cases h1;exact .inr rfl
 ·exact ownsRow_mono (row_kept (ownsRow_below HO4.o HB5.o) hf5 hkt (by decide)) (by have:=HF3.o.size;have:=HF1.o.size;omega)
 ·have h3:=ClM.back HCL.o HF3.o (bytes_kinds HUU.o)
  have h4:=h3.kept HF4.o HK4.o (fun k hk=>by obtain⟨C,hC⟩:=ownBlock_type HV3.o hk;exact⟨C,_,_,hC⟩) (by decide) (by decide) (by decide) (by decide)
  exact (h4.below HB5.o).kept hf5 hkt (fun k hk=>⟨_,_,_,(show w5.heap[k]?=_ from hk ▸ HT5.o)⟩) (by decide) (by decide) (by decide) (by decide)
 ·have h3:=net_kept HN1.o HF3.o HK3.o (by decide) (by decide) (by decide)
  have h4:=net_kept h3 HF4.o HK4.o (by decide) (by decide) (by decide)
  exact net_kept (h4.below HB5.o) hf5 hkt (by decide) (by decide) (by decide)
 ·exact (HFR4.o.trans (Fr.ofBelow HB5.o)).step hf5 fun i h1 h2=>by omega
 ·exact HS1.o.mono (by omega)
end
section
open Go.RowKit Go.Sort
def cfF (x y:ByteArray×ByteArray):Int:=if Op.bytesLess x.1.toList y.1.toList=true then -1 else if Op.bytesLess y.1.toList x.1.toList=true then 1 else 0
theorem lt_cfF (x y:ByteArray×ByteArray):ltOf cfF x y=ltStr x.1.toList y.1.toList:=by
 unfold ltOf cfF ltStr
 rw[bytesLess_eq,bytesLess_eq]
 by_cases h:x.1.toList<y.1.toList
 ·simp[h]
 ·by_cases h2:y.1.toList<x.1.toList
  ·simp[h,h2]
  ·simp[h,h2]
theorem swo_cfF:SWO (ltOf cfF) where
 irrefl x:=by rw[lt_cfF];exact swo_ltStr.irrefl _
 trans x y z h1 h2:=by rw[lt_cfF] at *;exact swo_ltStr.trans _ _ _ h1 h2
 ntrans x y z h1 h2:=by rw[lt_cfF] at *;exact swo_ltStr.ntrans _ _ _ h1 h2
theorem get!_of {a:Array Value} {t:Nat} {v:Value} (h:a[t]?=some v):a[t]! = v:=by
 obtain⟨h1,h2⟩:=Array.getElem?_eq_some_iff.1 h
 rw[getElem!_pos a t h1,h2]
theorem flat_files (l:List (ByteArray×ByteArray)):flatK fileCells 2 l.toArray=(fileRow l).toArray:=by
 refine ext_get! (by simp[fileRow_length]) fun t ht=>?_
 have ht':t<l.length*2:=by simpa using ht
 have hj:t / 2<l.length:=by omega
 obtain⟨f,hf⟩:∃ f,l[t / 2]?=some f:=⟨_,List.getElem?_eq_getElem hj⟩
 obtain⟨h1,h2⟩:=fileRow_at l (t / 2) f hf
 rw[get_flatK _ _ _ _ (by simpa using ht')]
 have e:l.toArray[t / 2]! = f:=by
  rw[getElem!_pos l.toArray (t / 2) (by simpa using hj)]
  have:=(List.getElem?_eq_some_iff.1 hf).2
  simpa using this
 rw[e]
 rcases Nat.mod_two_eq_zero_or_one t with hm|hm
 ·rw[hm]
  have ht2:t / 2*2=t:=by omega
  rw[ht2] at h1
  rw[get!_of (v:=.string f.1) (by simpa using h1)]
  rfl
 ·rw[hm]
  have ht2:t / 2*2+1=t:=by omega
  rw[ht2] at h2
  rw[get!_of (v:=.string f.2) (by simpa using h2)]
  rfl
theorem holds_files {w:World} {blk:Nat} {cur:Array Value} {e:TypeId} {l:List (ByteArray×ByteArray)} (hb:w.heap[blk]?=some (.cells cur e (0,0))) (ht:cur.toList.take (l.length*2)=fileRow l):HoldsK fileCells 2 w blk 0 l.toArray:=by
 unfold HoldsK
 rw[flat_files]
 intro j hj
 have hj':j<l.length*2:=by simpa [fileRow_length] using hj
 refine⟨?_,by simp[World.frozen?,hb]⟩
 have h1:(cur.toList.take (l.length*2))[j]?=(fileRow l)[j]?:=by rw[ht]
 rw[List.getElem?_take_of_lt hj'] at h1
 rw[Nat.zero_add,cell_of_row w blk j cur e (0,0) hb,←Array.getElem?_toList,h1]
 have h2:(fileRow l)[j]?=some ((fileRow l)[j]'(by rw[fileRow_length];exact hj')):=List.getElem?_eq_getElem _
 rw[h2]
 have h3:(fileRow l).toArray[j]?=some ((fileRow l)[j]'(by rw[fileRow_length];exact hj')):=by rw[List.getElem?_toArray];exact h2
 rw[get!_of h3]
 rfl
theorem heap_sortedF {w:World} {blk m:Nat} {os:Array Obj} {cur:Array Value} {e:TypeId} {fr:Nat×Nat} (d:Array (ByteArray×ByteArray)) (hb:w.heap[blk]?=some (.cells cur e fr)) :
  (sortWorldK fileCells 2 w blk 0 m d os).heap[blk]?=some (.cells (putCells id 0 (flatK fileCells 2 d) cur) e fr):=by
 have hg:blk<w.heap.size:=(Array.getElem?_eq_some_iff.1 hb).1
 unfold sortWorldK putRowK
 rw[Go.Sort.heap_grow_old _ _ (by simpa [putRow,mapBlock,Sort.ahead] using hg)]
 simp[putRow,mapBlock,Sort.ahead,Array.getElem?_modify,hb,onCells]
theorem fr_sorted {w:World} {blk m:Nat} {os:Array Obj} (d:Array (ByteArray×ByteArray)):Fr (·=blk) w (sortWorldK fileCells 2 w blk 0 m d os):=by
 refine⟨rfl,rfl,rfl,by simp[sortWorldK,putRowK,putRow,mapBlock,Sort.ahead,grow],fun k hk hne=>?_⟩
 unfold sortWorldK putRowK
 rw[Go.Sort.heap_grow_old _ _ (by simpa [putRow,mapBlock,Sort.ahead] using hk)]
 have:blk≠k:=fun e=>hne e.symm
 simp[putRow,mapBlock,Sort.ahead,Array.getElem?_modify,this]
theorem take_putF (cur:Array Value) (xs:List Value) (h:xs.length≤cur.size):(putCells id 0 xs.toArray cur).toList.take xs.length=xs:=by
 apply List.ext_getElem?
 intro j
 by_cases hj:j<xs.length
 ·rw[List.getElem?_take_of_lt hj,Array.getElem?_toList]
  simp[putCells,hj,show j<cur.size by omega]
 ·rw[List.getElem?_take_eq_none (by omega),List.getElem?_eq_none (by omega)]
theorem ownsRow_sortedF {w:World} {base blk cap n m:Nat} {os:Array Obj} {l l':List (ByteArray×ByteArray)} {t:TypeId} (h:w.ownsRow base t 2 (.slice (some ⟨blk,0,none⟩) n cap) n (fileRow l)) (hn:n=l.length) (hl:l'.length=l.length) :
  (sortWorldK fileCells 2 w blk 0 m l'.toArray os).ownsRow base t 2 (.slice (some ⟨blk,0,none⟩) n cap) n (fileRow l'):=by
 rcases h.2 with ⟨e,_⟩|⟨b,cp,cur,e,hbase,hb,r1,r2,r3,r4⟩
 ·cases e
 ·cases e
  refine⟨by rw[fileRow_length,hl,hn],.inr ⟨_,_,_,rfl,hbase,heap_sortedF _ hb,r1,r2,by simp[putCells,r3],?_⟩⟩
  rw[flat_files]
  have h1:n*2=(fileRow l').length:=by rw[fileRow_length,hl,hn]
  rw[h1]
  refine take_putF cur (fileRow l') ?_
  rw[←h1,r3]
  exact Nat.mul_le_mul_right _ r1
theorem perm_sorted {d d':Array (ByteArray×ByteArray)} (h:PermIn 0 d.size d d'):d'.toList.Perm d.toList:=by
 obtain⟨h1,_,h2⟩:=h
 rw[show d'.extract 0 d.size=d' by rw[←h1];simp] at h2
 simpa using h2
end
end Go.Proofs.YtefccfakhgdfbabGreatDoor
namespace Go.Proofs
open Go.Shelf
def Tryz.sortFile_ren:Go.Shelf.Ren:=⟨fun|6=>55|15=>109|14=>108|28=>161|29=>162|20=>153|21=>154|22=>155|23=>156|24=>157|25=>158|26=>159|27=>160|46=>185|47=>186|48=>187|49=>188|50=>189|57=>208|n=>n,fun|22=>39|24=>73|25=>122|3=>3|39=>199|0=>0|53=>171|55=>210|4=>4|46=>267|45=>266|50=>271|5=>5|9=>9|66=>304|70=>238|76=>324|77=>325|n=>n,fun|n=>n⟩
theorem Tryz.sortFile:Go.Proofs.SlLaysF0.n6 prog sortFile_ren:={
 mixed:=by kernel_rfl
 f6:=⟨f55.name,by decide,func55.trans (congrArg some (by kernel_rfl))⟩
 f14:=⟨f108.name,by decide,func108.trans (congrArg some (by kernel_rfl))⟩
 f15:=func109.trans (congrArg some (by kernel_rfl))
 f20:=⟨f153.name,by decide,func153.trans (congrArg some (by kernel_rfl))⟩
 f21:=⟨f154.name,by decide,func154.trans (congrArg some (by kernel_rfl))⟩
 f22:=⟨f155.name,by decide,func155.trans (congrArg some (by kernel_rfl))⟩
 f23:=⟨f156.name,by decide,func156.trans (congrArg some (by kernel_rfl))⟩
 f24:=⟨f157.name,by decide,func157.trans (congrArg some (by kernel_rfl))⟩
 f25:=⟨f158.name,by decide,func158.trans (congrArg some (by kernel_rfl))⟩
 f26:=⟨f159.name,by decide,func159.trans (congrArg some (by kernel_rfl))⟩
 f27:=⟨f160.name,by decide,func160.trans (congrArg some (by kernel_rfl))⟩
 f28:=func161.trans (congrArg some (by kernel_rfl))
 f29:=func162.trans (congrArg some (by kernel_rfl))
 f46:=⟨f185.name,by decide,func185.trans (congrArg some (by kernel_rfl))⟩
 f47:=func186.trans (congrArg some (by kernel_rfl))
 f48:=func187.trans (congrArg some (by kernel_rfl))
 f49:=⟨f188.name,by decide,func188.trans (congrArg some (by kernel_rfl))⟩
 f50:=⟨f189.name,by decide,func189.trans (congrArg some (by kernel_rfl))⟩
 f57:=⟨f208.name,by decide,func208.trans (congrArg some (by kernel_rfl))⟩
 t0:=underlying0
 a0:=isAgg0
 z0:=sizeOf0
 v0:=zeroValue0
 t3:=underlying3
 a3:=isAgg3
 z3:=sizeOf3
 v3:=zeroValue3
 t4:=underlying4
 a4:=isAgg4
 z4:=sizeOf4
 v4:=zeroValue4
 t5:=underlying5
 a5:=isAgg5
 z5:=sizeOf5
 v5:=zeroValue5
 t9:=underlying9
 a9:=isAgg9
 z9:=sizeOf9
 v9:=zeroValue9
 t22:=underlying39
 a22:=isAgg39
 z22:=sizeOf39
 v22:=zeroValue39
 t25:=underlying122
 a25:=isAgg122
 z25:=sizeOf122
 v25:=zeroValue122
 t39:=underlying199
 a39:=isAgg199
 z39:=sizeOf199
 v39:=zeroValue199
 t45:=underlying266
 a45:=isAgg266
 z45:=sizeOf266
 v45:=zeroValue266
 t46:=underlying267
 a46:=isAgg267
 z46:=sizeOf267
 v46:=zeroValue267
 t50:=underlying271
 a50:=isAgg271
 z50:=sizeOf271
 v50:=zeroValue271
 t53:=underlying171
 a53:=isAgg171
 z53:=sizeOf171
 v53:=zeroValue171
 t55:=underlying210
 a55:=isAgg210
 z55:=sizeOf210
 v55:=zeroValue210
 t66:=underlying304
 a66:=isAgg304
 z66:=sizeOf304
 v66:=zeroValue304
 t70:=underlying238
 a70:=isAgg238
 z70:=sizeOf238
 v70:=zeroValue238
 t76:=underlying324
 a76:=isAgg324
 z76:=sizeOf324
 v76:=zeroValue324
 t77:=underlying325
 a77:=isAgg325
 z77:=sizeOf325
 v77:=zeroValue325 }
end Go.Proofs
namespace Go.Proofs.YtefccfakhgdfbabGreatDoor
section
open Go.RowKit Go.Sort
theorem own_filesAt {w:World} {base:Nat} {t:TypeId} {v:Value} {l:List (ByteArray×ByteArray)} (h:w.ownsRow base t 2 v l.length (fileRow l)):FilesAt w v l:=by
 rcases h.2 with ⟨rfl,h0⟩|⟨b,cap,cur,rfl,_,hb,r1,_,_,r4⟩
 ·exact⟨none,0,by rw[h0],by omega,fun j x hj=>by have:=(List.getElem?_eq_some_iff.1 hj).1;omega⟩
 ·refine⟨_,_,rfl,r1,fun j x hj=>⟨b,0,rfl,?_,?_⟩⟩
  ·have h1:=(fileRow_at l j x hj).1
   rw[←r4] at h1
   rw[cell_of_row w b _ cur _ _ hb]
   have h2:=List.getElem?_take_of_lt (l:=cur.toList) (i:=j*2) (j:=l.length*2) (by have:=(List.getElem?_eq_some_iff.1 hj).1;omega)
   rw[h2] at h1
   simpa using h1
  ·have h1:=(fileRow_at l j x hj).2
   rw[←r4] at h1
   rw[cell_of_row w b _ cur _ _ hb]
   have h2:=List.getElem?_take_of_lt (l:=cur.toList) (i:=j*2+1) (j:=l.length*2) (by have:=(List.getElem?_eq_some_iff.1 hj).1;omega)
   rw[h2] at h1
   simpa using h1
theorem fileRow_one {l:List (ByteArray×ByteArray)}:∀ u∈fileRow l,u.oneCell'=true:=by
 intro u hu
 unfold fileRow at hu
 obtain⟨f,_,hf⟩:=List.mem_flatMap.1 hu
 simp[fileCells] at hf
 rcases hf with rfl|rfl <;> rfl
theorem own_cells {w:World} {base:Nat} {t:TypeId} {b n c:Nat} {xs:List Value} (h:w.ownsRow base t 2 (.slice (some ⟨b,0,none⟩) n c) n xs):∀ j u,xs[j]?=some u→w.cell? ((⟨b,0,none⟩:Addr).add j)=some u:=h.cells (g:=b) rfl
theorem eql_flnil (w:World) (a:Option Addr) (n c:Nat):(binOp .eql 39 (.slice a n c) (.slice none 0 0)).run prog w=.ok (.bool a.isNone) w:=Lib.run_eql_slice_nil w _ _ a n c 0 0 underlying39
theorem own_empty (w:World) (t:TypeId) (size:Nat):(w.alloc (.cells #[] t)).ownsRow w.heap.size t size (.slice (some ⟨w.heap.size,0,none⟩) 0 0) 0 []:=
 ⟨by simp,.inr ⟨w.heap.size,0,#[],rfl,Nat.le_refl _,heap_alloc_new w _,Nat.le_refl _,by decide,by simp,by simp⟩⟩
theorem fclone_any (w:World) (v:Value) (l:List (ByteArray×ByteArray)) (hv:w.ownsRow 0 73 2 v l.length (fileRow l)) (hn:l.length≤1099511627776) :
  Calls prog 54 #[v] w fun e w'=>∃ v',e=.returned v'∧w'.ownsRow w.heap.size 73 2 v' l.length (fileRow l)∧Below w.heap.size w w':=by
 obtain⟨i,hi,hz,hs,hby⟩:=info_fileE
 rcases hv.2 with ⟨rfl,h0⟩|⟨b,cap,cur,rfl,_,hb,_⟩
 ·have hq:=eql_flnil w none 0 0
  have hl:l = []:=List.eq_nil_of_length_eq_zero h0
  subst hl
  clear hv h0
  go_enter func54,ntmps54
  go_wp2
  go_ret
  exact⟨_,rfl,World.ownsRow_nil _ _ _ _,Below.refl _ _⟩
 ·have hq:=eql_flnil w (some ⟨b,0,none⟩) l.length cap
  have HV:=zh hv
  have hbl:=lt_of_heap hb
  have HI:=zh (⟨hi,hz,hs,hby⟩:_∧_∧_∧_)
  have HN:=zh hn
  clear hv hb hi hz hs hby hn
  go_enter func54,ntmps54
  go_wp2_with (at_builtin;refine wpList_append_own _ rfl _ _ 39 rfl w.heap.size 73 i _ 2 32 underlying39 HI.o.1 HI.o.2.1 HI.o.2.2.1 HI.o.2.2.2 rfl (by decide) (.slice (some ⟨w.heap.size,0,none⟩) 0 0) 0 [] rfl (own_empty w 73 2) ⟨b,0,none⟩ l.length cap (fileRow l) rfl (fileRow_length l) (own_cells (ownsRow_below HV.o (below_alloc w _))) fileRow_one (by have:=HN.o;unfold maxLen;omega) (by have:=HN.o;omega) (by simp) ?_;intro v' w' h2 h3 _)
  go_ret
  refine⟨v',rfl,by simpa using h2,((below_alloc w _).grown h3 (by simp) fun k hk=>?_)⟩
  simp[Value.ownBlock] at hk
  omega
theorem less_other {a b:List UInt8} (h:Op.bytesLess a b=false) (hne:a≠b):Op.bytesLess b a=true:=by
 rw[bytesLess_eq] at h ⊢
 have h1:¬ a<b:=by simpa using h
 have h2:b≤a:=List.not_lt.1 h1
 have h3:b<a:=by
  rcases List.le_iff_lt_or_eq.1 h2 with h4|h4
  ·exact h4
  ·exact absurd h4.symm hne
 simpa using h3
theorem less_any (x y:ByteArray×ByteArray) (W:World):Calls prog 56 #[.agg #[.string x.1,.string x.2],.agg #[.string y.1,.string y.2]] W fun e w'=>e=.returned (.int .i64 (cfF x y))∧∃ q os',w'=grow (W.drewN q) os':=by
 obtain⟨r,hr⟩:∃ r,r=cfF x y:=⟨_,rfl⟩
 have HR:=zh hr
 rw[←hr]
 cases h1:Op.bytesLess x.1.toList y.1.toList with
 | true=>
  have hc:r = -1:=by rw[hr];unfold cfF;rw[h1];rfl
  clear hr
  subst hc
  go_enter func56,ntmps56
  go_wp2
  go_ret
  exact⟨rfl,0,_,by rw[alloc_eq_grow,alloc_eq_grow,grow_grow];rfl⟩
 | false=>
  by_cases he:x.1.toList=y.1.toList
  ·have hc:r=0:=by rw[hr];unfold cfF;rw[←he,if_neg (by rw[he] at h1 ⊢;simp[h1]),if_neg (by rw[he] at h1 ⊢;simp[h1])]
   have hb:(x.1.toList == y.1.toList)=true:=by simp[he]
   clear hr he
   subst hc
   go_enter func56,ntmps56
   go_wp2
   go_ret
   exact⟨rfl,0,_,by rw[alloc_eq_grow,alloc_eq_grow,grow_grow];rfl⟩
  ·have h2:Op.bytesLess y.1.toList x.1.toList=true:=less_other h1 he
   have hc:r=1:=by rw[hr];unfold cfF;rw[h1,h2];rfl
   have hb:(x.1.toList == y.1.toList)=false:=by rw[beq_eq_false_iff_ne];exact he
   clear hr he h2
   subst hc
   go_enter func56,ntmps56
   go_wp2
   go_ret
   exact⟨rfl,0,_,by rw[alloc_eq_grow,alloc_eq_grow,grow_grow];rfl⟩
theorem cmp_lays (blk off size:Nat) (w:World):Go.Proofs.CmpLays prog 56 #[] fileCells 2 cfF blk off size w:=fun _ _ _ _ x y=>less_any x y _
theorem insert_none (a:Option Addr) (c:Nat) (u:Value) (w:World):Calls prog 153 #[.slice a 0 c,.int .i64 0,.int .i64 0,u] w fun e w'=>e=.returned (.tuple #[])∧w=w':=by
 go_enter func153,ntmps153
 go_wp2
 go_loop [8] (fun i=>i=.int .i64 1) (fun _=>0)
 case atStart=>rfl
 case round=>
  subst hrel
  go_wp2
  go_end0
  exact⟨rfl,rfl⟩
theorem pdq_none (a:Option Addr) (c:Nat) (k:Int) (u:Value) (w:World):Calls prog 108 #[.slice a 0 c,.int .i64 0,.int .i64 0,.int .i64 k,u] w fun e w'=>e=.returned (.tuple #[])∧w=w':=by
 go_enter func108,ntmps108
 go_wp2
 refine wp_loop_rounds 1 ?_
 rw[rounds_succ]
 go_wp2_with (go_at_call 153;refine (insert_none a c u _).mono ?_;rintro e w' ⟨rfl,rfl⟩)
 (try simp only[Exit.inBlock,Exit.then,Exit.inLoop])
 refine bodyPost_ret (results_none rfl _ _ _) rfl ?_
 exact⟨rfl,rfl⟩
theorem sort_none (a:Option Addr) (c:Nat) (u:Value) (w:World):Calls prog 55 #[.slice a 0 c,u] w fun e w'=>e=.returned (.tuple #[])∧w=w':=by
 have hbl:=fun (w:World)=>bits_Len 0 w (by omega) (by omega)
 go_enter func55,ntmps55
 go_wp2_with (first|(go_at_call 109;refine (hbl _).mono ?_;rintro e w' ⟨rfl,rfl⟩)|(go_at_call 108;refine (pdq_none a c _ u _).mono ?_;rintro e w' ⟨rfl,rfl⟩))
 go_end0
 exact⟨rfl,rfl⟩
theorem sort_any (w:World) (base blk n cap:Nat) (l:List (ByteArray×ByteArray)) (h:w.ownsRow base 73 2 (.slice (some ⟨blk,0,none⟩) n cap) n (fileRow l)) (hn:n=l.length) (hlt:n<4611686018427387904) :
  Calls prog 55 #[.slice (some ⟨blk,0,none⟩) n cap,.func (.func 56) #[] #[]] w fun e w'=>e=.returned (.tuple #[])∧
   ∃ l':List (ByteArray×ByteArray),l'.Perm l∧w'.ownsRow base 73 2 (.slice (some ⟨blk,0,none⟩) n cap) n (fileRow l')∧Fr (·=blk) w w':=by
 rcases h.2 with ⟨e,_⟩|⟨b,cp,cur,e,hbase,hb,r1,r2,r3,r4⟩
 ·cases e
 ·cases e
  have eg:∀ args w,(callFunc 56 args).run prog w=.ok (.enter 56 args) w:=enters_of func56 (by kernel_rfl) rfl
  have hcon:=Go.Proofs.AnyQ.slices_SortFunc sortFile 2 isAgg73 sizeOf73 fileCells (fun _=>rfl) (fun x v hv=>by simp[fileCells] at hv;rcases hv with rfl|rfl <;> rfl) cfF swo_cfF 56 #[] blk 0 cap l.toArray w eg (cmp_lays blk 0 _ w) (holds_files hb (by rw[←hn];exact r4)) (lt_of_heap hb) (by simpa [←hn] using hlt)
  have hsz:l.toArray.size=n:=by simp[hn]
  rw[hsz] at hcon
  refine Calls.mono hcon ?_
  rintro e w' ⟨rfl,d',m,os,hp,_,rfl⟩
  have hp':d'.toList.Perm l:=by
   have:=perm_sorted (d:=l.toArray) (d':=d') (by rw[hsz];exact hp)
   simpa using this
  refine⟨rfl,d'.toList,hp',?_,fr_sorted _⟩
  have:=ownsRow_sortedF (m:=m) (os:=os) (l':=d'.toList) h hn hp'.length_eq
  simpa using this
theorem dfiles_any (w:World) (g:Nat) (v:Value) (d:Dk) (h:DiskAt w g v d) (hn:d.files.length≤1099511627776) :
  Calls prog 30 #[.pointer (some ⟨g,0,none⟩)] w fun e w'=>∃ v' l',e=.returned v'∧w'.ownsRow w.heap.size 73 2 v' l'.length (fileRow l')∧l'.Perm d.files∧Below w.heap.size w w':=by
 obtain⟨⟨c0,_⟩,_⟩:=h.cells
 have HC:=zh (fclone_any w v d.files h.2 hn)
 clear h
 go_enter func30,ntmps30
 go_wp2_with fail
 go_at_call 54
 refine HC.o.mono ?_
 rintro e w1 ⟨v1,rfl,ho,hb⟩
 have HB:=zh hb
 rcases ho.2 with ⟨rfl,h0⟩|⟨blk,cap,cur,rfl,hbase,hbk,_⟩
 ·have hl:d.files = []:=List.eq_nil_of_length_eq_zero h0
  have HL:=zh hl
  clear ho hb hl h0
  go_wp2_with (go_at_call 55;refine (sort_none _ _ _ _).mono ?_;rintro e w2 ⟨rfl,rfl⟩)
  go_ret
  exact⟨_,[],rfl,World.ownsRow_nil _ _ _ _,by rw[HL.o],HB.o⟩
 ·have HS:=zh (sort_any w1 _ blk _ cap d.files ho rfl (by omega))
  have hlt:=lt_of_heap hbk
  clear ho hb hbk
  go_wp2_with (go_at_call 55;refine HS.o.mono ?_;rintro e w2 ⟨rfl,l',hp,ho2,hf2⟩;have HP:=zh hp;have HO:=zh ho2;have HF:=zh hf2;clear hp ho2 hf2)
  go_ret
  exact⟨.slice (some ⟨blk,0,none⟩) d.files.length cap,l',rfl,by have:=HO.o;rw[←HP.o.length_eq] at this ⊢;exact this,HP.o,HB.o.trans (HF.o.below HB.o.size fun k hk e=>by omega)⟩
end
section
theorem newNet_any (w:World) (gd:Nat) (files:List Fil) :
  Calls prog 19 #[.pointer (some ⟨gd,0,none⟩)] w fun e w'=>∃ gn,e=.returned (.pointer (some ⟨gn,0,none⟩))∧NetIs w' gn gd (.slice none 0 0) (.slice none 0 0) ⟨files,[],[],0⟩∧Below w.heap.size w w'∧w.heap.size≤gn:=by
 go_enter func19,ntmps19
 go_wp2
 exact bodyPost_ret (results_tmp rfl _ _ _) rfl ⟨w.heap.size,rfl,⟨heap_alloc_new w _,World.ownsRow_nil _ _ _ _,World.ownsRow_nil _ _ _ _,rfl,fun k hk=>by simp at hk⟩,below_alloc w _,Nat.le_refl _⟩
theorem infoLie:(prog.info? 75).map (fun i=>(i.zero,i.size,i.bytes))=some (some (.agg #[.string ⟨#[]⟩,.string ⟨#[]⟩,.bool false,.int .i64 0]),4,48):=by kernel_rfl
theorem info_lieE:∃ i,prog.info? 75=some i∧i.zero=some (.agg #[.string ⟨#[]⟩,.string ⟨#[]⟩,.bool false,.int .i64 0])∧i.size=4∧i.bytes=48:=by
 have h:=infoLie
 cases hi:prog.info? 75 with
 | none=>rw[hi] at h;simp at h
 | some i=>rw[hi] at h;simp at h;exact⟨i,rfl,h.1,h.2.1,h.2.2⟩
theorem lieRow_one {l:List Lie1}:∀ u∈lieRow l,u.oneCell'=true:=by
 intro u hu
 unfold lieRow at hu
 obtain⟨f,_,hf⟩:=List.mem_flatMap.1 hu
 simp[lieCells] at hf
 rcases hf with rfl|rfl|rfl|rfl <;> rfl
theorem own_cells4 {w:World} {base:Nat} {t:TypeId} {b n c:Nat} {xs:List Value} (h:w.ownsRow base t 4 (.slice (some ⟨b,0,none⟩) n c) n xs):∀ j u,xs[j]?=some u→w.cell? ((⟨b,0,none⟩:Addr).add j)=some u:=h.cells (g:=b) rfl
theorem infoInt:(prog.info? 3).map (fun i=>(i.zero,i.size,i.bytes))=some (some (.int .i64 0),1,8):=by kernel_rfl
theorem info_intE:∃ i,prog.info? 3=some i∧i.zero=some (.int .i64 0)∧i.size=1∧i.bytes=8:=by
 have h:=infoInt
 cases hi:prog.info? 3 with
 | none=>rw[hi] at h;simp at h
 | some i=>rw[hi] at h;simp at h;exact⟨i,rfl,h.1,h.2.1,h.2.2⟩
theorem made_told (n:Nat):(madeCells (Value.int .i64 0).cells (n*1)).toList=toldRow (List.replicate n 0):=by
 have h:∀ m,List.map (fun x=>[Value.int IntKind.i64 0][x%1]?.getD default) (List.range m)=List.replicate m (Value.int IntKind.i64 0):=fun m=>by
  rw[List.eq_replicate_iff]
  refine⟨by simp,fun b hb=>?_⟩
  obtain⟨x,_,rfl⟩:=List.mem_map.1 hb
  rw[Nat.mod_one]
  rfl
 simp[madeCells,toldRow,Value.cells,h]
theorem eql_linil (w:World) (a:Option Addr) (n c:Nat):(binOp .eql 65 (.slice a n c) (.slice none 0 0)).run prog w=.ok (.bool a.isNone) w:=Lib.run_eql_slice_nil w _ _ a n c 0 0 underlying65
theorem lclone_any (w:World) (v:Value) (l:List Lie1) (hv:w.ownsRow 0 75 4 v l.length (lieRow l)) (hn:l.length≤1073741824) :
  Calls prog 50 #[v] w fun e w'=>∃ v',e=.returned v'∧w'.ownsRow w.heap.size 75 4 v' l.length (lieRow l)∧Below w.heap.size w w':=by
 obtain⟨i,hi,hz,hs,hby⟩:=info_lieE
 rcases hv.2 with ⟨rfl,h0⟩|⟨b,cap,cur,rfl,_,hb,_⟩
 ·have hq:=eql_linil w none 0 0
  have hl:l = []:=List.eq_nil_of_length_eq_zero h0
  subst hl
  clear hv h0
  go_enter func50,ntmps50
  go_wp2
  go_ret
  exact⟨_,rfl,World.ownsRow_nil _ _ _ _,Below.refl _ _⟩
 ·have hq:=eql_linil w (some ⟨b,0,none⟩) l.length cap
  have HV:=zh hv
  have hbl:=lt_of_heap hb
  have HI:=zh (⟨hi,hz,hs,hby⟩:_∧_∧_∧_)
  have HN:=zh hn
  clear hv hb hi hz hs hby hn
  go_enter func50,ntmps50
  go_wp2_with (at_builtin;refine wpList_append_own _ rfl _ _ 65 rfl w.heap.size 75 i _ 4 48 underlying65 HI.o.1 HI.o.2.1 HI.o.2.2.1 HI.o.2.2.2 rfl (by decide) (.slice (some ⟨w.heap.size,0,none⟩) 0 0) 0 [] rfl (own_empty w 75 4) ⟨b,0,none⟩ l.length cap (lieRow l) rfl (lieRow_len l) (own_cells4 (ownsRow_below HV.o (below_alloc w _))) lieRow_one (by have:=HN.o;unfold maxLen;omega) (by have:=HN.o;omega) (by simp) ?_;intro v' w' h2 h3 _)
  go_ret
  refine⟨v',rfl,by simpa using h2,((below_alloc w _).grown h3 (by simp) fun k hk=>?_)⟩
  simp[Value.ownBlock] at hk
  omega
theorem netLie_any (w:World) (gn gd:Nat) (vl vt v:Value) (n:Nt) (l:List Lie1) (h:NetIs w gn gd vl vt n) (hv:w.ownsRow 0 75 4 v l.length (lieRow l)) (hn:l.length≤1073741824) :
  Calls prog 27 #[.pointer (some ⟨gn,0,none⟩),v] w fun e w'=>∃ vl' vt',e=.returned (.tuple #[])∧NetIs w' gn gd vl' vt' { n with lies:=l,told:=List.replicate l.length 0 }∧Fr (netS gn vt) w w'∧Sub w (netS gn vt) (netS gn vt'):=by
 obtain⟨a,c,rfl⟩:∃ a c,v=.slice a l.length c:=own_any hv
 obtain⟨ln,hln⟩:∃ ln,ln=l.length:=⟨_,rfl⟩
 have HC:=zh (lclone_any w _ l hv hn)
 obtain⟨⟨c0,c1,c2,c3⟩,cf⟩:=h.heads
 have hlt:=h.lt
 have H:=zh h
 have hn2:ln≤1073741824:=by omega
 rw[←hln] at HC ⊢
 have HLN:=zh hln
 clear h hv hln hn
 go_enter func27,ntmps27
 go_upto_region 1 with (first|(go_at_call 50;refine HC.o.mono ?_;rintro e w1 ⟨v1,rfl,ho1,hb1⟩;have H1:=zh (H.o.below hb1);have HO1:=zh ho1;have HB1:=zh hb1;obtain⟨a1,k1,rfl⟩:=own_any ho1;obtain⟨⟨e0,e1,e2,e3⟩,ef⟩:=H1.o.heads;have hlt1:=H1.o.lt;clear ho1 hb1)|fail)
 obtain⟨i,hi,hz,hs,hby⟩:=info_intE
 have HI:=zh (⟨hi,hz,hs,hby⟩:_∧_∧_∧_)
 clear hi hz hs hby
 have hc1:(w1.setCell ⟨gn,1,none⟩ (.slice a1 ln k1)).heap[gn]?=some (.cells (ntCells gd (.slice a1 ln k1) vt n) 103 (0,0)):=(heap_setCell H1.o.cells _).trans (by simp[ntCells])
 have HC1:=zh hc1
 clear hc1
 go_wp2_with (refine wpList_make_full _ rfl _ _ _ rfl w1.heap.size 3 i _ 1 underlying23 HI.o.1 HI.o.2.1 HI.o.2.2.1 .i64 .i64 ln ln ln rfl rfl rfl rfl (by rw[HI.o.2.2.2];omega) (by unfold maxLen;omega) (by simp) ?_;intro w2 h2 h3;have H2:=zh h2;have b2:=(Below.refl (w1.setCell ⟨gn,1,none⟩ (.slice a1 ln k1)).heap.size _).grown h3 (Nat.le_refl _) (fun k hk=>by cases hk);have B2:=zh b2;have hc2:=(b2.block gn (by simp;exact hlt1)).trans HC1.o;have HC2:=zh hc2;have y2:=cell_heap hc2 2 rfl;have yf:=frozen_heap hc2 2;have ylt:=lt_of_heap hc2;clear h2 h3 b2 hc2)
 go_end0
 have f1:=Fr.set1 w1 gn 1 (.slice a1 ln k1)
 have f2:=Fr.set1 w2 gn 2 (.slice (some ⟨w1.heap.size,0,none⟩) ln ln)
 have k1':=kinds_one H1.o.cells
 have k2':=kinds_one HC2.o
 have ho:=row_kept (ownsRow_below (row_kept HO1.o f1 k1' (by decide)) B2.o) f2 k2' (by decide)
 have ht:=row_kept H2.o f2 k2' (by decide)
 refine⟨.slice a1 ln k1,.slice (some ⟨w1.heap.size,0,none⟩) ln ln,rfl,⟨(heap_setCell HC2.o _).trans (by simp[ntCells]),?_,?_,?_,?_⟩,?_,?_⟩
 ·rw[←HLN.o]
  exact ownsRow_mono ho (Nat.zero_le _)
 ·rw[List.length_replicate,←made_told]
  have:=ownsRow_mono ht (Nat.zero_le _)
  simpa using this
 ·rw[List.length_replicate];exact HLN.o
 ·intro k hk
  rw[List.eq_of_mem_replicate hk]
  exact Nat.zero_le _
 ·exact ((((Fr.ofBelow HB1.o).trans (f1.weak fun _ _ e=>.inl e)).trans (Fr.ofBelow B2.o)).trans (f2.weak fun _ _ e=>.inl e))
 ·intro k hk
  rcases hk with e|e
  ·exact .inl (.inl e)
  ·have:w1.heap.size=k:=by simpa [Value.ownBlock] using e
   exact .inr (by have:=HB1.o.size;omega)
end
section
theorem take_cut (es:List (List UInt8)) (k w:Nat):(es.take (4*k))++(es.drop (4*k)).take w=es.take (4*k+w):=by rw[List.take_add]
section
variable {es:List (List UInt8)} {l:List Fil} (hl:es.length≤1048576) (hs:∀ e∈es,e.length≤20) (hT:DiskTrue es l) (hB:HasBun es l)
include hl hs hT hB
theorem load_all {n:Nat} (hn:n≤es.length) (hBn:HasBun (es.take n) l):∀ (m i:Nat),4*(m+i)<n+4→n≤4*(m+i)→loadP l n m i (es.take (min n (4*i)))=(es.take n,none)
 | 0,i,h1,h2=>by have:=hl;have:=hT;have:=hB;rw[loadP,Nat.min_eq_left (by omega)]
 | m+1,i,h1,h2=>by
  have hlen:(es.take n).length=n:=by rw[List.length_take,Nat.min_eq_left hn]
  have hsn:∀ e∈es.take n,e.length≤20:=fun e he=>hs e (List.mem_of_mem_take he)
  have hg:=hBn i (by rw[hlen];omega)
  rw[hlen] at hg
  have hb:=bundleF_cut hsn (l:=l) (j:=i) (w:=min 4 (n-4*i)) (by omega) (by omega) (by rw[hlen];omega) hg
  rw[loadP,hb]
  dsimp only
  have e:es.take (min n (4*i))++((es.take n).drop (4*i)).take (min 4 (n-4*i))=es.take (min n (4*(i+1))):=by
   rw[Nat.min_eq_right (show 4*i≤n by omega)]
   rw[show es.take (4*i)=(es.take n).take (4*i) by rw[List.take_take,Nat.min_eq_left (by omega)],take_cut,List.take_take]
   congr 1
   omega
  rw[e]
  exact load_all hn hBn m (i+1) (by omega) (by omega)
theorem no_wider {k W:Nat} (hk:k≤es.length) (h1:1≤W) (h4:W≤4) (h:es.length<4*(k / 4)+W):getF l (bunName (k / 4) W)=none:=by
 have:=hs;have:=hB
 rw[getF_none]
 intro f hf e
 rcases hT f hf with h2|h2
 ·exact nameOf_cp _ _ _ (sOf_inj (e.symm.trans h2))
 ·rw[e] at h2
  obtain⟨m,j,w,r,k1,k2,k3,k4,k5,_⟩:=h2
  have c:=tile_ok hl k1 k2 k3 k4
  have a:nameOk (-1) ((k / 4:Nat):Int) W:=by unfold nameOk;omega
  have e2:=nameOf_inj a c.1 (by omega) c.2 (sOf_inj k5)
  obtain rfl:m=0:=by omega
  rw[rowsOf_zero] at k1
  cases k1
  rw[List.length_map] at k4
  omega
theorem further_down {k:Nat} (hk:k≤es.length) {w0:Nat} (h0:k%4≤w0) (hb:es.length<4*(k / 4)+(w0+1)):∀ (x:Nat),w0+x≤4→furtherW l (es.take k) (w0+x)=furtherW l (es.take k) w0
 | 0,_=>rfl
 | x+1,h=>by
  have hlen:(es.take k).length=k:=by rw[List.length_take,Nat.min_eq_left hk]
  rw[show w0+(x+1)=w0+x+1 by omega,furtherW,hlen,if_neg (by omega),no_wider hl hs hT hB hk (by omega) (by omega) (by omega),if_pos (show (none:Option ByteArray).isNone=true from rfl)]
  exact further_down hk h0 hb x (by omega)
theorem further_end:furtherP l es=([],false):=by
 have h:=further_down hl hs hT hB (Nat.le_refl es.length) (w0:=es.length%4) (Nat.le_refl _) (by omega) (4-es.length%4) (by omega)
 rw[List.take_length,show es.length%4+(4-es.length%4)=4 by omega] at h
 unfold furtherP
 rw[h]
 cases hm:es.length%4 with
 | zero=>rfl
 | succ x=>rw[furtherW,if_pos (by omega)]
theorem further_more {k:Nat} (hk:k<es.length):furtherP l (es.take k)=(((es.drop (4*(k / 4))).take (min 4 (es.length-4*(k / 4)))).drop (k%4),decide (min 4 (es.length-4*(k / 4))=4)):=by
 have hlen:(es.take k).length=k:=by rw[List.length_take,Nat.min_eq_left (by omega)]
 obtain⟨w,hw⟩:∃ w,w+1=min 4 (es.length-4*(k / 4)):=⟨min 4 (es.length-4*(k / 4))-1,by omega⟩
 have hg:=hB (k / 4) (by omega)
 rw[←hw] at hg ⊢
 have hd:furtherP l (es.take k)=furtherW l (es.take k) (w+1):=by
  unfold furtherP
  rcases Nat.lt_or_ge (w+1) 4 with h4|h4
  ·have h:=further_down hl hs hT hB (Nat.le_of_lt hk) (w0:=w+1) (by omega) (by omega) (4-(w+1)) (by omega)
   rw[show w+1+(4-(w+1))=4 by omega] at h
   exact h
  ·rw[show w+1=4 by omega]
 have hb:=bundleF_cut hs (l:=l) (j:=k / 4) (w:=w+1) (by omega) (by omega) (by omega) hg
 rw[hd,furtherW,hlen,if_neg (by omega),hg,if_neg (by simp),hb]
 dsimp only
 rw[if_pos]
 rw[List.take_take,List.drop_take,Nat.min_eq_left (by omega)]
 congr 1
 omega
theorem goes_all:∀ (x k:Nat),k+x=es.length→Goes l (es.take k) es
 | x,k,h=>by
  rcases Nat.lt_or_ge k es.length with hk|hk
  ·have hf:=further_more hl hs hT hB hk
   have e:es.take k++(((es.drop (4*(k / 4))).take (min 4 (es.length-4*(k / 4)))).drop (k%4))=es.take (min (4*(k / 4)+4) es.length):=by
    have e1:es.take k=es.take (4*(k / 4))++(es.drop (4*(k / 4))).take (k%4):=by rw[take_cut];congr 1;omega
    have e2:(es.drop (4*(k / 4))).take (k%4)=((es.drop (4*(k / 4))).take (min 4 (es.length-4*(k / 4)))).take (k%4):=by rw[List.take_take,Nat.min_eq_left (by omega)]
    rw[e1,e2,List.append_assoc,List.take_append_drop,take_cut]
    congr 1
    omega
   by_cases h4:min 4 (es.length-4*(k / 4))=4
   ·refine .more (by rw[hf];simp[h4]) ?_
    rw[hf]
    dsimp only
    rw[e,show min (4*(k / 4)+4) es.length=4*(k / 4)+4 by omega]
    exact goes_all (es.length-(4*(k / 4)+4)) (4*(k / 4)+4) (by omega)
   ·have h2:Goes l (es.take k) (es.take k++(furtherP l (es.take k)).1):=.stop (by rw[hf];simp[h4])
    rw[hf] at h2
    dsimp only at h2
    rw[e,show min (4*(k / 4)+4) es.length=es.length by omega,List.take_length] at h2
    exact h2
  ·obtain rfl:k=es.length:=by omega
   rw[List.take_length]
   have hf:=further_end hl hs hT hB
   have h2:Goes l es (es++(furtherP l es).1):=.stop (by rw[hf])
   rw[hf,List.append_nil] at h2
   exact h2
termination_by x=>x
decreasing_by omega
theorem opens_all {n:Nat} {key:ByteArray} (hn:n≤es.length) (hBn:HasBun (es.take n) l) (hc:openHead l key=some (n,rootOf (es.take n))):OpensTo l key (.good es n):=by
 refine .fine hc ?_ rfl (goes_all hl hs hT hB (es.length-n) n (by omega))
 have:=load_all hl hs hT hB hn hBn ((n+3) / 4) 0 (by omega) (by omega)
 rw[Nat.mul_zero,Nat.min_zero,List.take_zero] at this
 exact this
end
theorem head_none {l:List Fil} {key:ByteArray} (h:getF l (sOf kCp)=none):openHead l key=some (0,rootOf []):=by
 unfold openHead
 rw[h]
 rfl
end
section
structure Quiet (d:Dk):Prop where
 failAt:d.failAt=0
 dead:d.dead=false
 hit:d.hit=false
theorem Quiet.noHit {d:Dk} (h:Quiet d):enterHit d=false:=by unfold enterHit;rw[h.failAt];simp
theorem Quiet.enter {d:Dk} (h:Quiet d):Quiet (enterD d):=by
 unfold enterD
 rw[h.noHit]
 exact⟨h.failAt,h.dead,h.hit⟩
theorem Quiet.swap {d:Dk} (h:Quiet d) (p b:ByteArray):Quiet (swapD d p b):=by
 have:=h.enter
 unfold swapD
 split
 ·exact⟨this.failAt,this.dead,this.hit⟩
 ·exact this
theorem Quiet.put {d:Dk} (h:Quiet d) (p b:ByteArray):Quiet (putD d p b):=by
 have:=h.enter
 unfold putD
 split
 ·exact⟨this.failAt,this.dead,this.hit⟩
 ·exact h.swap p b
theorem Quiet.puts:∀ (fs:List Fil) {d:Dk},Quiet d→Quiet (putsD d fs).1
 | [],_,h=>h
 | f :: fs,d,h=>by
  unfold putsD
  split
  ·exact h.put _ _
  ·exact Quiet.puts fs (h.put _ _)
theorem Quiet.pubJ:∀ (rs:List (List (List UInt8))) (n:Nat) (put:List Nat) {d:Dk},Quiet d→Quiet (pubJ n rs put d).1
 | [],_,_,_,h=>h
 | r :: rs,n,put,d,h=>by
  unfold Proofs.YtefccfakhgdfbabGreatDoor.pubJ
  dsimp only
  split
  ·exact Quiet.puts _ h
  ·exact Quiet.pubJ rs (n+1) _ (Quiet.puts _ h)
theorem Quiet.pub {d:Dk} (h:Quiet d) (es:List (List UInt8)) (key:ByteArray) (put:List Nat):Quiet (pubD es key put d).1:=by
 unfold pubD
 split
 ·exact Quiet.pubJ _ _ _ h
 ·exact (Quiet.pubJ _ _ _ h).swap _ _
structure Sound1 (es:List (List UInt8)) (put:List Nat) (d:Dk):Prop where
 fresh:Fresh d
 true':DiskTrue es d.files
 puts:PutOk d.files (rowsOf es) put
theorem Sound1.append {es:List (List UInt8)} {put:List Nat} {d:Dk} (h:Sound1 es put d) (e:List UInt8):Sound1 (es ++ [e]) put d:=⟨h.fresh,h.true'.more _,putOk_more e h.puts⟩
theorem publish_quiet {es:List (List UInt8)} {put:List Nat} {d:Dk} (key:ByteArray) (hl:es.length≤1048576) (hq:Quiet d) (h:Sound1 es put d) :
  (pubD es key put d).2.2=none∧Quiet (pubD es key put d).1∧Sound1 es (pubD es key put d).2.1 (pubD es key put d).1∧DiskHas es es.length (pubD es key put d).1.files∧getF (pubD es key put d).1.files (sOf kCp)=some (cpOf es key)∧
   (∀ N,DiskHas es N d.files→DiskHas es N (pubD es key put d).1.files)∧(pubD es key put d).1.files.length≤d.files.length+12*(es.length+3)+1∧(pubD es key put d).1.calls≤d.calls+12*(es.length+3)+1:=by
 obtain⟨h1,h2,h3,h4,h5,h6,h7⟩:=publish_law key hl h.fresh (h.true'.noClash hl) h.puts
 have hQ:=hq.pub es key put
 rcases h7 with ⟨k1,k2,k3,k4,k5⟩|⟨p,k1,k2,_⟩
 ·refine⟨k1,hQ,⟨k2,fun f hf=>?_,k3⟩,?_,k5,fun N hN=>hN.kept h1,h5,h6⟩
  ·rcases h4 f hf with h8|h8|h8
   ·exact h.true' f h8
   ·exact .inr (tileOk_file h8)
   ·left;rw[h8]
  ·unfold DiskHas
   rw[List.take_length]
   exact k4
 ·have:=hQ.hit
  rw[k2] at this
  cases this
theorem sound_new (d:Dk) (hf:d.files = []) (hd:d.dead=false) (hh:d.hit=false) (ht:d.turned=false):Sound1 [] [] d:=
 ⟨⟨hd,hh,ht,by rw[hf];exact List.nodup_nil⟩,by rw[hf];exact DiskTrue.nil _,putOk_nil _ _⟩
end
section
def nmT (N k j:Nat):ByteArray:=tileName ((k:Nat):Int) j (wideAt j (N / 4 ^ k))
theorem even_names {N L idx:Nat} {p:ByteArray} (h:p∈fullT N L idx):p=nmT N (L / 2) (idx*2 ^ L / 4 ^ (L / 2+1)):=by
 unfold fullT at h
 by_cases ho:L%2=1
 ·obtain⟨k,rfl⟩:∃ k,L=2*k+1:=⟨L / 2,by omega⟩
  rw[if_pos ho,show 2*k+1-1=2*k by omega] at h
  have e:idx*2 ^ (2*k+1) / 4 ^ ((2*k+1) / 2+1)=idx / 2:=by
   rw[show (2*k+1) / 2=k by omega,Nat.pow_succ,pow24,Nat.pow_succ,show 4 ^ k*4=(4 ^ k*2)*2 by omega,←Nat.div_div_eq_div_mul,Nat.mul_div_cancel _ (by have:=Nat.pow_pos (n:=k) (show 0<4 by decide);omega)]
  rw[e,show (2*k+1) / 2=k by omega]
  rcases List.mem_append.1 h with h|h
  ·unfold evenT at h
   rw[List.mem_singleton] at h
   rw[h,show 2*k / 2=k by omega,pow24,show 2*idx / 4=idx / 2 by omega]
   rfl
  ·unfold evenT at h
   rw[List.mem_singleton] at h
   rw[h,show 2*k / 2=k by omega,pow24,show (2*idx+1) / 4=idx / 2 by omega]
   rfl
 ·obtain⟨k,rfl⟩:∃ k,L=2*k:=⟨L / 2,by omega⟩
  rw[if_neg ho] at h
  have e:idx*2 ^ (2*k) / 4 ^ (2*k / 2+1)=idx / 4:=by
   rw[show 2*k / 2=k by omega,pow24,Nat.pow_succ,←Nat.div_div_eq_div_mul,Nat.mul_div_cancel _ (Nat.pow_pos (show 0<4 by decide))]
  unfold evenT at h
  rw[List.mem_singleton] at h
  rw[h,e,show 2*k / 2=k by omega,pow24]
  rfl
theorem pow_and (L:Nat):2 ^ L &&& (2 ^ L-1)=0:=by rw[Nat.and_two_pow_sub_one_eq_mod,Nat.mod_self]
theorem two_inj {a b:Nat} (h:2 ^ a=2 ^ b):a=b:=by
 have h1:=(Nat.pow_le_pow_iff_right (a:=2) (by decide)).1 (Nat.le_of_eq h)
 have h2:=(Nat.pow_le_pow_iff_right (a:=2) (by decide)).1 (Nat.le_of_eq h.symm)
 omega
theorem full_names {N f c L:Nat} {p:ByteArray} (hL:L≤60) (hc:c%2 ^ L=0) (h:p∈rootT N f c (2 ^ L)):p=nmT N (L / 2) (c / 4 ^ (L / 2+1)):=by
 cases f with
 | zero=>simp[rootT] at h
 | succ f=>
  have hp:=Nat.two_pow_pos L
  rw[rootT,if_pos ⟨pow_and L,hc⟩] at h
  have h64:2 ^ L<2 ^ 64:=Nat.pow_lt_pow_right (by decide) (by omega)
  have hb:=two_inj (pow_of_and hp h64 (pow_and L))
  rw[←hb] at h
  have:=even_names h
  rw[Nat.div_mul_cancel (Nat.dvd_of_mod_eq_zero hc)] at this
  exact this
theorem below_two {n:Nat} (h:2≤n) (h2:n<2 ^ 60):∃ x,below n=2 ^ x∧2 ^ x<n∧n≤2 ^ (x+1):=by
 have hb:=Lib.bitLenAux_bounds 64 (n-1) (by omega) (by omega)
 have hs:Lib.bitLen (n-1)=Lib.bitLenAux 64 (n-1):=rfl
 refine⟨Lib.bitLen (n-1)-1,rfl,?_,?_⟩
 ·rw[hs];omega
 ·rw[hs,show Lib.bitLenAux 64 (n-1)-1+1=Lib.bitLenAux 64 (n-1) by omega];omega
theorem mod_pow {a x y:Nat} (h:a%2 ^ y=0) (hx:x≤y):a%2 ^ x=0:=
 Nat.mod_eq_zero_of_dvd (Nat.dvd_trans (Nat.pow_dvd_pow 2 hx) (Nat.dvd_of_mod_eq_zero h))
theorem add_mod0 {a x:Nat} (h:a%2 ^ x=0):(a+2 ^ x)%2 ^ x=0:=by rw[Nat.add_mod_right];exact h
theorem last_tile {N c n e:Nat} (hn:N=c+n) (h1:2 ^ e≤n) (h2:n≤2 ^ (e+1)) (hc:c%2 ^ e=0) (hc2:2 ^ e<n→c%2 ^ (e+1)=0):c / 4 ^ (e / 2+1)=(N / 4 ^ (e / 2)-1) / 4:=by
 obtain⟨k,hk⟩:∃ k,k=e / 2:=⟨_,rfl⟩
 rw[←hk]
 have hp:0<4 ^ k:=Nat.pow_pos (by decide)
 rw[Nat.pow_succ,←Nat.div_div_eq_div_mul]
 rcases Nat.mod_two_eq_zero_or_one e with h0|h0
 ·obtain rfl:e=2*k:=by omega
  rw[pow24] at h1 hc hc2
  rw[Nat.pow_succ,pow24] at h2 hc2
  obtain⟨q,rfl⟩:=Nat.dvd_of_mod_eq_zero hc
  rw[Nat.mul_div_cancel_left _ hp]
  have hN:N / 4 ^ k=q+n / 4 ^ k:=by rw[hn,Nat.mul_add_div hp]
  rw[hN]
  have a1:1≤n / 4 ^ k:=(Nat.le_div_iff_mul_le hp).2 (by omega)
  have a2:n / 4 ^ k≤2:=by
   have:=Nat.div_le_div_right (c:=4 ^ k) h2
   rw[Nat.mul_div_cancel_left _ hp] at this
   exact this
  rcases Nat.lt_or_ge (4 ^ k) n with h3|h3
  ·have h4:=hc2 h3
   have h5:q%2=0:=by
    rw[Nat.mul_mod_mul_left] at h4
    rcases Nat.mul_eq_zero.1 h4 with h|h
    ·omega
    ·exact h
   omega
  ·have:n / 4 ^ k=1:=by rw[show n=4 ^ k by omega];exact Nat.div_self hp
   omega
 ·obtain rfl:e=2*k+1:=by omega
  rw[Nat.pow_succ,pow24] at h1 hc hc2
  rw[Nat.pow_succ,Nat.pow_succ,pow24] at h2 hc2
  obtain⟨q,rfl⟩:=Nat.dvd_of_mod_eq_zero hc
  have hq:4 ^ k*2*q / 4 ^ k=2*q:=by rw[Nat.mul_assoc,Nat.mul_div_cancel_left _ hp]
  rw[hq]
  have hN:N / 4 ^ k=2*q+n / 4 ^ k:=by rw[hn,Nat.mul_assoc,Nat.mul_add_div hp]
  rw[hN]
  have a1:2≤n / 4 ^ k:=(Nat.le_div_iff_mul_le hp).2 (by omega)
  have a2:n / 4 ^ k≤4:=by
   have:=Nat.div_le_div_right (c:=4 ^ k) h2
   rw[Nat.mul_assoc,Nat.mul_div_cancel_left _ hp] at this
   exact this
  rcases Nat.lt_or_ge (4 ^ k*2) n with h3|h3
  ·have h4:=hc2 h3
   have h5:q%2=0:=by
    rw[Nat.mul_mod_mul_left] at h4
    rcases Nat.mul_eq_zero.1 h4 with h|h
    ·omega
    ·exact h
   omega
  ·have:n / 4 ^ k=2:=by rw[show n=4 ^ k*2 by omega,Nat.mul_div_cancel_left _ hp]
   omega
def Named (N i K:Nat) (p:ByteArray):Prop:=∃ k,4 ^ k<K∧(p=nmT N k (i / 4 ^ (k+1))∨p=nmT N k ((N / 4 ^ k-1) / 4))
theorem four_le {k x:Nat} (h:k=x / 2):4 ^ k≤2 ^ x:=by rw[←pow24];exact Nat.pow_le_pow_right (by decide) (by omega)
theorem edge_names {N i K:Nat} (hK:K<2 ^ 59):∀ (f c n z:Nat) (p:ByteArray),N=c+n→1≤n→n<K→n≤2 ^ z→c%2 ^ z=0→p∈rootT N f c n→Named N i K p
 | 0,c,n,z,p,_,_,_,_,_,h=>by simp[rootT] at h
 | f+1,c,n,z,p,hN,h1,hk,hz,hc,h=>by
   by_cases hp:n &&& (n-1)=0∧c%n=0
   ·have hpw:=pow_of_and h1 (by omega) hp.1
    obtain⟨e,he⟩:∃ e,e=Lib.bitLen n-1:=⟨_,rfl⟩
    rw[←he] at hpw
    have he60:e≤60:=by
     rcases Nat.lt_or_ge 60 e with hlt|hge
     ·have:=Nat.pow_le_pow_right (n:=2) (by decide) hlt
      omega
     ·exact hge
    have hcn:=hp.2
    rw[hpw] at h hcn
    refine⟨e / 2,by have:=four_le (x:=e) rfl;omega,.inr ?_⟩
    rw[full_names he60 hcn h,last_tile hN (by omega) (by rw[Nat.pow_succ];omega) hcn fun hlt=>by omega]
   ·rw[rootT,if_neg hp] at h
    have hn2:2≤n:=by
     rcases Nat.lt_or_ge n 2 with hlt|hge
     ·obtain rfl:n=1:=by omega
      exact absurd ⟨by decide,Nat.mod_one c⟩ hp
     ·exact hge
    obtain⟨x,hx,hx1,hx2⟩:=below_two hn2 (by omega)
    have hxz:x+1≤z:=by
     have:2 ^ x<2 ^ z:=by omega
     exact (Nat.pow_lt_pow_iff_right (by decide)).1 this
    have hx60:x≤60:=by
     rcases Nat.lt_or_ge 60 x with hlt|hge
     ·have:=Nat.pow_le_pow_right (n:=2) (by decide) hlt
      omega
     ·exact hge
    have hc1:=mod_pow hc hxz
    have hc0:=mod_pow hc (show x≤z by omega)
    rw[hx] at h
    rcases List.mem_append.1 h with h|h
    ·refine⟨x / 2,by have:=four_le (x:=x) rfl;omega,.inr ?_⟩
     rw[full_names hx60 hc0 h,last_tile hN (by omega) hx2 hc0 fun _=>hc1]
    ·exact edge_names hK f (c+2 ^ x) (n-2 ^ x) x p (by omega) (by omega) (by omega) (by rw[Nat.pow_succ] at hx2;omega) (add_mod0 hc0) h
theorem same_tile {a s i x:Nat} (ha:a%2 ^ (x+1)=0) (h1:a≤s) (h2:s<a+2 ^ (x+1)) (h3:a≤i) (h4:i<a+2 ^ (x+1)):s / 4 ^ (x / 2+1)=i / 4 ^ (x / 2+1):=by
 obtain⟨y,hy⟩:∃ y,2*(x / 2+1)=x+1+y:=⟨2*(x / 2+1)-(x+1),by omega⟩
 have e:4 ^ (x / 2+1)=2 ^ (x+1)*2 ^ y:=by rw[←pow24,hy,Nat.pow_add]
 have hp:=Nat.two_pow_pos (x+1)
 obtain⟨q,rfl⟩:=Nat.dvd_of_mod_eq_zero ha
 have k:∀ t,2 ^ (x+1)*q≤t→t<2 ^ (x+1)*q+2 ^ (x+1)→t / 2 ^ (x+1)=q:=fun t t1 t2=>by
  apply Nat.div_eq_of_lt_le
  ·rw[Nat.mul_comm];exact t1
  ·rw[Nat.add_mul,Nat.one_mul,Nat.mul_comm q];exact t2
 rw[e,←Nat.div_div_eq_div_mul,←Nat.div_div_eq_div_mul,k s h1 h2,k i h3 h4]
theorem path_names {N i K:Nat} (hK:K<2 ^ 59) (hNK:N≤K):∀ (f a b y:Nat) (p:ByteArray),b-a≤f→a≤i→i<b→b≤N→a%2 ^ y=0→b-a≤2 ^ y→(b=N∨b-a=2 ^ y)→(∃ x∈pathR f a b i,p∈rootT N (x.2-x.1) x.1 (x.2-x.1))→Named N i K p
 | 0,a,b,y,p,h0,h1,h2,_,_,_,_,_=>by omega
 | f+1,a,b,y,p,h0,h1,h2,h3,ha,hy,hb,h=>by
   obtain⟨r,hr,hp⟩:=h
   rw[pathR] at hr
   by_cases h4:b-a≤1
   ·rw[if_pos h4] at hr;cases hr
   ·rw[if_neg h4] at hr
    obtain⟨x,hx,hx1,hx2⟩:=below_two (n:=b-a) (by omega) (by omega)
    rw[hx] at hr
    have hxy:x+1≤y:=by
     have:2 ^ x<2 ^ y:=by omega
     exact (Nat.pow_lt_pow_iff_right (by decide)).1 this
    have hx60:x≤60:=by
     rcases Nat.lt_or_ge 60 x with hlt|hge
     ·have:=Nat.pow_le_pow_right (n:=2) (by decide) hlt
      omega
     ·exact hge
    have hpx:=Nat.two_pow_pos x
    have hx2':2 ^ (x+1)=2*2 ^ x:=by rw[Nat.pow_succ];omega
    have hfull:b-a=2 ^ y→y=x+1:=fun e=>by
     have h5:2 ^ y≤2 ^ (x+1):=by omega
     have:=(Nat.pow_le_pow_iff_right (by decide)).1 h5
     omega
    have ha0:=mod_pow ha (show x≤y by omega)
    have ha1:=mod_pow ha hxy
    by_cases h5:i<a+2 ^ x
    ·rw[if_pos h5] at hr
     rcases List.mem_cons.1 hr with rfl|hr
     ·dsimp only at hp
      rcases hb with hb|hb
      ·exact edge_names hK _ (a+2 ^ x) (b-(a+2 ^ x)) x p (by omega) (by omega) (by omega) (by omega) (add_mod0 ha0) hp
      ·have hyx:=hfull hb
       subst hyx
       rw[show b-(a+2 ^ x)=2 ^ x by omega] at hp
       refine⟨x / 2,by have:=four_le (x:=x) rfl;omega,.inl ?_⟩
       rw[full_names hx60 (add_mod0 ha0) hp,same_tile ha1 (by omega) (by omega) h1 (by omega)]
     ·exact path_names hK hNK f a (a+2 ^ x) x p (by omega) h1 h5 (by omega) ha0 (by omega) (.inr (by omega)) ⟨r,hr,hp⟩
    ·rw[if_neg h5] at hr
     rcases List.mem_cons.1 hr with rfl|hr
     ·dsimp only at hp
      rw[show a+2 ^ x-a=2 ^ x by omega] at hp
      refine⟨x / 2,by have:=four_le (x:=x) rfl;omega,.inl ?_⟩
      rw[full_names hx60 ha0 hp,same_tile ha1 (Nat.le_refl _) (by omega) h1 (by omega)]
     ·refine path_names hK hNK f (a+2 ^ x) b x p (by omega) (by omega) h2 h3 (add_mod0 ha0) (by omega) ?_ ⟨r,hr,hp⟩
      rcases hb with hb|hb
      ·exact .inl hb
      ·have hyx:=hfull hb
       subst hyx
       exact .inr (by omega)
def namesU (N i:Nat):List ByteArray:=bunT N i :: (List.range 4).flatMap fun k=>[nmT N k (i / 4 ^ (k+1)),nmT N k ((N / 4 ^ k-1) / 4)]
theorem read_names {N i:Nat} (hN:N≤256) (hi:i<N) {p:ByteArray} (h:p∈readT N i):p∈namesU N i:=by
 rcases List.mem_cons.1 h with rfl|h
 ·exact List.mem_cons_self
 ·refine List.mem_cons_of_mem _ ?_
  obtain⟨x,hx,hp⟩:=List.mem_flatMap.1 h
  have hx:=List.mem_reverse.1 hx
  have hN9:N≤2 ^ 8:=by omega
  obtain⟨k,hk,hp⟩:=path_names (K:=256) (by decide) hN N 0 N 8 p (by omega) (by omega) hi (Nat.le_refl _) (by simp) (by omega) (.inl rfl) ⟨x,hx,hp⟩
  have hk4:k<4:=by
   rcases Nat.lt_or_ge k 4 with h|h
   ·exact h
   ·have:=Nat.pow_le_pow_right (n:=4) (by decide) h
    omega
  refine List.mem_flatMap.2 ⟨k,List.mem_range.2 hk4,?_⟩
  rcases hp with rfl|rfl
  ·exact List.mem_cons_self
  ·exact List.mem_cons_of_mem _ List.mem_cons_self
theorem nodup_sub {α:Type} [DecidableEq α]:∀ (l U:List α),l.Nodup→(∀ x∈l,x∈U)→l.length≤U.length
 | [],_,_,_=>Nat.zero_le _
 | a :: l,U,h,hs=>by
   rw[List.nodup_cons] at h
   have:=nodup_sub l (U.erase a) h.2 fun x hx=>(List.mem_erase_of_ne (fun e=>h.1 (by rw[←e];exact hx))).2 (hs x (List.mem_cons_of_mem _ hx))
   have ha:=hs a List.mem_cons_self
   have h2:=List.length_erase_of_mem ha
   have h3:=List.length_pos_of_mem ha
   rw[List.length_cons]
   omega
theorem read_few {N i:Nat} (hN:N≤256) (hi:i<N) (net:Nt) (c:Cch):(readQ N i (askQ net c)).2.files.length≤16:=by
 obtain⟨g,_⟩:=readQ_asks N i (askQ net c)
 have hn:=g.once (by simp[askQ])
 have:=nodup_sub _ (namesU N i) hn fun x hx=>by
  rcases g.only x (kvGet_isSome.2 hx) with h|h
  ·cases h
  ·exact read_names hN hi h
 rw[List.length_map] at this
 have e:(namesU N i).length=9:=by simp[namesU,List.range,List.range.loop]
 omega
end
end Go.Proofs.YtefccfakhgdfbabGreatDoor
