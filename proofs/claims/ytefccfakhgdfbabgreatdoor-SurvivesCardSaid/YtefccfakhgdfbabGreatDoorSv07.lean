/- (*Log).load: the entries of a checkpoint. Conditions: bounds on calls, files, indices. -/
import Derived.Test.YtefccfakhgdfbabGreatDoorSv06
import Derived.Deep.DeepCutAuto
set_option linter.unusedVariables false
set_option linter.unusedSimpArgs false
open Go.RowKit Go.Proofs.Tryz
set_option maxRecDepth 100000
set_option maxHeartbeats 4000000
namespace Go.Proofs.YtefccfakhgdfbabGreatDoor
section
abbrev trC (n:Int) (h:Hsh):Array Value:=#[.int .i64 n,bv h[0],bv h[1],bv h[2],bv h[3],bv h[4],bv h[5],bv h[6],bv h[7]]
abbrev trV (n:Int) (h:Hsh):Value:=.agg (trC n h)
theorem h8_lit (h:Hsh):h8 h=#[bv h[0],bv h[1],bv h[2],bv h[3],bv h[4],bv h[5],bv h[6],bv h[7]]:=by
 apply Array.ext
 ·simp
 ·intro i h1 h2
  simp at h2
  have:i=0∨i=1∨i=2∨i=3∨i=4∨i=5∨i=6∨i=7:=by omega
  rcases this with rfl|rfl|rfl|rfl|rfl|rfl|rfl|rfl <;> simp[h8]
theorem hexed_lit (h:Hsh) (w:World) :
  Calls prog 137 #[.agg #[bv h[0],bv h[1],bv h[2],bv h[3],bv h[4],bv h[5],bv h[6],bv h[7]]] w fun e w'=>e=.returned (.string (sOf (hexOf h.toList)))∧Below w.heap.size w w':=by
 have:=hexed_any h w
 rw[h8_lit] at this
 exact this
def TrAt (w:World) (g:Nat) (n:Int) (h:Hsh):Prop:=w.heap[g]?=some (.cells (trC n h) 111 (0,0))
theorem TrAt.below {w w':World} {g:Nat} {n:Int} {h:Hsh} (ht:TrAt w g n h) (hb:Below w.heap.size w w'):TrAt w' g n h:=(hb.block g (lt_of_heap ht)).trans ht
theorem TrAt.cells {w:World} {g:Nat} {n:Int} {h:Hsh} (ht:TrAt w g n h):w.cell? ⟨g,0,none⟩=some (.int .i64 n)∧w.cell? ⟨g,1,none⟩=some (bv h[0])∧w.cell? ⟨g,2,none⟩=some (bv h[1])∧w.cell? ⟨g,3,none⟩=some (bv h[2])∧w.cell? ⟨g,4,none⟩=some (bv h[3])∧
  w.cell? ⟨g,5,none⟩=some (bv h[4])∧w.cell? ⟨g,6,none⟩=some (bv h[5])∧w.cell? ⟨g,7,none⟩=some (bv h[6])∧w.cell? ⟨g,8,none⟩=some (bv h[7]):=by
 unfold TrAt at ht
 refine⟨?_,?_,?_,?_,?_,?_,?_,?_,?_⟩ <;> simp[World.cell?,ht]
set_option maxHeartbeats 8000000 in
theorem fsign_any (n:Nat) (h:Hsh) (key:ByteArray) (w:World) (hn:n<9223372036854775808) (hk:key.size≤9223372036854775807) (hE:NumEnv w) :
  Calls prog 81 #[trV n h,.string key] w fun e w'=>e=.returned (.string (sOf (signOf n h key.data.toList)))∧Below w.heap.size w w':=by
 have hd:(dec n).length≤19:=dec_len19 hn
 have hx:(hexOf h.toList).length=16:=by rw[hexOf_len,toList_len]
 have T0:TrAt (w.alloc (.cells (trC n h) 111)) w.heap.size n h:=heap_alloc_new w _
 have HE:=zh (hE.below (below_alloc w (.cells (trC n h) 111)))
 have HT:=zh T0
 clear hE T0
 go_enter func81,ntmps81
 have c0:=(HT.o.below (below_drew _)).cells
 obtain⟨k0,k1,k2,k3,k4,k5,k6,k7,k8⟩:=c0
 have hhead:(ByteArray.mk #[116,105,108,101,115,10])++sOf (dec n)++(ByteArray.mk #[10])++sOf (hexOf h.toList)++(ByteArray.mk #[10])=sOf (headOf n h):=by
  apply ByteArray.ext
  simp[headOf,kTiles]
 have HH:=zh hhead
 clear hhead
 go_wp2_with fail
 go_cut [5] from 6 (fun s wx=>s=.string (sOf (headOf n h))∧Below w.heap.size w wx)
 case first=>
  go_region_with (first|(go_at_call 136;go_must (refine (itoa_any n _ hn (HE.o.below (below_drew _))).mono ?_;rintro e w1 ⟨rfl,hb1⟩;have HB1:=zh hb1;obtain⟨j0,j1,j2,j3,j4,j5,j6,j7,j8⟩:=((HT.o.below (below_drew _)).below hb1).cells;clear hb1))|(go_at_call 137;go_must (refine (hexed_lit h _).mono ?_;rintro e w2 ⟨rfl,hb2⟩;have HB2:=zh hb2;clear hb2)))
  all_goals
   go_wp2_with fail
   go_meet
   exact⟨by rw[HH.o],(((below_alloc w _).drew).trans (HB1.o.mono (below_alloc w (.cells (trC n h) 111)).size)).trans (HB2.o.mono (Nat.le_trans (below_alloc w (.cells (trC n h) 111)).size HB1.o.size))⟩
 case rest=>
  obtain⟨rfl,hbc⟩:=hcut
  have HBC:=zh hbc
  have hhl:=(signOf_len n h key.data.toList hn).1
  clear hbc k0 k1 k2 k3 k4 k5 k6 k7 k8
  obtain⟨hd',hdd⟩:∃ x,x=headOf n h:=⟨_,rfl⟩
  rw[←hdd] at hhl ⊢
  have HDD:=zh hdd
  clear hdd
  go_wp2_with (first|(refine wpList_sb rfl 9 94 5 _ rfl underlying9 underlying94 underlying5 rfl key rfl ?_;intro uk wk huk hbk hwk hvk;obtain⟨bk,ck,rfl⟩:=hvk;have HUK:=zh huk;have HBK:=zh hbk;clear huk hbk hwk)|(refine wpList_sb rfl 9 94 5 _ rfl underlying9 underlying94 underlying5 rfl (sOf hd') rfl ?_;intro us wsx hus hbs hws hvs;obtain⟨bs',cs',rfl⟩:=hvs;have HUS:=zh hus;have HBS:=zh hbs;clear hus hbs hws))
  refine (sum_any _ [key.data.toList,[0],hd'] _ (bss3 (fz:=(0,0)) (heap_alloc_new' _ _ _ rfl) ?_ ?_ ?_) (by simp) (by simp;omega)).mono ?_
  ·exact (((HUK.o.at.below (below_alloc _ _)).below HBS.o).below (below_alloc _ _))
  ·exact (((bytes1 (x:=0) (fz:=(0,0)) (heap_alloc_new' _ _ _ rfl)).below HBS.o).below (below_alloc _ _))
  ·exact HUS.o.at.below (below_alloc _ _)
  rintro e w3 ⟨rfl,hb3⟩
  have hfl : [key.data.toList,[0],hd'].flatten=key.data.toList++0 :: hd':=by simp
  rw[hfl]
  have hbx:=HBC.o.trans (HBK.o.mono HBC.o.size)
  have hby:=hbx.alloc hbx.size (.cells #[.int .u8 0] 5)
  have hbz:=hby.trans (HBS.o.mono hby.size)
  have hbw:=hbz.alloc hbz.size (.cells #[.slice (some ⟨bk,0,none⟩) key.size ck,.slice (some ⟨wk.heap.size,0,none⟩) 1 1,.slice (some ⟨bs',0,none⟩) hd'.length cs'] 94)
  have HB3:=zh (hbw.trans (hb3.mono hbw.size))
  clear hb3 hfl hbx hby hbz hbw
  obtain⟨m,hm⟩:∃ m,m=hash (key.data.toList++0 :: hd'):=⟨_,rfl⟩
  rw[←hm]
  have HM:=zh hm
  have hx2:(hexOf m.toList).length=16:=by rw[hexOf_len,toList_len]
  clear hm
  go_wp2_with fail
  refine (hexed_any m _).mono ?_
  rintro e w4 ⟨rfl,hb4⟩
  have HB4:=zh (HB3.o.trans (hb4.mono HB3.o.size))
  clear hb4
  go_wp2
  go_ret
  refine⟨ret_val (congrArg Value.string ?_),HB4.o⟩
  unfold signOf
  rw[←HDD.o,←HM.o]
  apply ByteArray.ext
  simp
end
section
theorem ssplit_any (s:ByteArray) (w:World) (hs:s.size≤1048576) (h:NumEnv w) :
  Calls prog 120 #[.string s,.string (sOf [10])] w fun e w'=>∃ (v:Value) (Ls:List ByteArray),e=.returned v∧StrsAt w' v Ls∧lists Ls=linesOf s.data.toList∧Below w.heap.size w w':=by
 obtain⟨m,hm⟩:=h.most
 refine (strings_Split s (sOf [10]) m w (by omega) hm (by decide)).mono ?_
 rintro e w' ⟨rfl,rfl⟩
 have hlen:=Lib.splitB_all (sOf [10]) (by decide) 0 (Lib.countB s (sOf [10])) s rfl
 obtain⟨Ls,hLs⟩:∃ Ls,Ls=Lib.splitB (sOf [10]) 0 (Lib.countB s (sOf [10])) s:=⟨_,rfl⟩
 rw[←hLs] at hlen ⊢
 refine⟨_,Ls,rfl,?_,?_,below_alloc _ _⟩
 ·rw[←hlen]
  unfold StrsAt
  refine⟨_,_,rfl,Nat.le_refl _,fun j x hx=>⟨w.heap.size,0,rfl,?_⟩⟩
  rw[Nat.zero_add,World.cell?_alloc_at _ _ _ _ rfl]
  simpa using hx
 ·rw[hLs]
  exact Lib.splitB_data (sOf [10]) 0 _ s
theorem grownBy_setCell (w:World) (a:Addr) (v:Value):w.grownBy (w.setCell a v) (some a.block):=by
 refine⟨rfl,rfl,rfl,by simp[World.setCell],fun k _ hk=>?_⟩
 exact Below.heap_setCell w a v k (fun e=>hk (by rw[e]))
theorem eightOf_get (r:List UInt8) (i:Nat) (hi:i<8):(eightOf r)[i]=r.getD i 0:=by
 have:i=0∨i=1∨i=2∨i=3∨i=4∨i=5∨i=6∨i=7:=by omega
 rcases this with rfl|rfl|rfl|rfl|rfl|rfl|rfl|rfl <;> rfl
theorem trC_get (n:Int) (h:Hsh) (i:Nat) (hi:i<8):(trC n h)[1+i]?=some (bv h[i]):=by
 have:i=0∨i=1∨i=2∨i=3∨i=4∨i=5∨i=6∨i=7:=by omega
 rcases this with rfl|rfl|rfl|rfl|rfl|rfl|rfl|rfl <;> rfl
theorem trC_step (n:Int) (r:List UInt8) (z:UInt8) (hr:r.length<8):(trC n (eightOf r)).setIfInBounds (1+r.length) (bv z)=trC n (eightOf (r ++ [z])):=by
 match r,hr with
 | [],_=>rfl
 | [a],_=>rfl
 | [a,b],_=>rfl
 | [a,b,c],_=>rfl
 | [a,b,c,d],_=>rfl
 | [a,b,c,d,e],_=>rfl
 | [a,b,c,d,e,f],_=>rfl
 | [a,b,c,d,e,f,g],_=>rfl
theorem TrAt.step {w:World} {g:Nat} {n:Int} {r:List UInt8} (h:TrAt w g n (eightOf r)) (z:UInt8) (hr:r.length<8):TrAt (w.setCell ⟨g,1+r.length,none⟩ (bv z)) g n (eightOf (r ++ [z])):=by
 have hlt:=lt_of_heap h
 unfold TrAt at *
 rw[←trC_step n r z hr]
 simp[World.setCell,Array.getElem?_modify,h]
theorem TrAt.at {w:World} {g:Nat} {n:Int} {r:List UInt8} (h:TrAt w g n (eightOf r)) (hr:r.length<8):(∃ y,w.cell? ⟨g,1+r.length,none⟩=some (bv y))∧w.frozen? ⟨g,1+r.length,none⟩=false:=by
 have:=trC_get n (eightOf r) r.length hr
 unfold TrAt at h
 exact⟨⟨_,by simp only[World.cell?,h];exact this⟩,by simp[World.frozen?,h]⟩
theorem infoT:(prog.info? 111).map (·.size)=some 9:=by kernel_rfl
section
variable {ops:Array Oper} {rest:List Oper} {o:Oper} {a:Act} {Q:Exit→Act→World→Prop} {w:World}
theorem wpList_loadT (hw:Region.wanted o (yielded ops a.tmps)=true) (x:Operand) (ho:o.op=.load 111 x) (g:Nat) (hx:a.eval x=.pointer (some ⟨g,0,none⟩))
  (n:Int) (h:Hsh) (hh:TrAt w g n h) (hk:wpList prog ops Q rest (a.put o.dst (trV n h)) w):wpList prog ops Q (o :: rest) a w:=
 BigFrame.wpList_want hw fun _ hK=>wp_load_row 111 x ho g hx _ (trC n h) _ _ hh underlying111 rfl (by rw[infoT];rfl) (hK _ _ hk)
theorem wpList_storeT (hw:Region.wanted o (yielded ops a.tmps)=true) (x y:Operand) (ho:o.op=.store 111 x y) (g:Nat) (n:Int) (k:Hsh) (hx:a.eval x=.pointer (some ⟨g,0,none⟩)) (hy:a.eval y=trV n k)
  (n0:Int) (h:Hsh) (hh:TrAt w g n0 h) (hk:wpList prog ops Q rest (a.put o.dst undef) (w.setRow g (trC n k))):wpList prog ops Q (o :: rest) a w:=
 BigFrame.wpList_want hw fun _ hK=>wp_store_row 111 x y ho g (trC n k) hx hy _ _ hh (by rw[infoT];rfl) rfl (by simp[Value.oneCell']) (hK _ _ hk)
theorem retT {fn:Func} {R:Ending→World→Prop} {p q:Tmp} (g:Nat) (n:Int) (k:Hsh) (x:Value) (h:fn.results=#[.cell p 111,.tmp q]) (hx:a.tmps.getD p undef=.pointer (some ⟨g,0,none⟩)) (hq:a.tmps.getD q undef=x)
  (hh:TrAt w g n k) (hd:a.defers = []) (hR:R (.returned (.tuple #[trV n k,x])) w):bodyPost prog fn R .ret a w:=by
 refine bodyPost_ret (v:=.tuple #[trV n k,x]) ?_ hd hR
 rw[results_cell_tmp h]
 have hl:=run_loadVar_row (P:=prog) w g _ 111 (trC n k) _ _ hh underlying111 rfl (by rw[infoT];rfl)
 simp[hx,hq,asAddr,hl] at *
end
theorem TrAt.set {w:World} {g:Nat} {n0:Int} {h0:Hsh} (h:TrAt w g n0 h0) (n:Int) (k:Hsh):TrAt (w.setRow g (trC n k)) g n k:=setRow_heap w g _ _ _ _ h
theorem splitK_le (sep:List UInt8):∀ (k:Nat) (s:List UInt8),∀ x∈Lib.splitK sep 0 k s,x.length≤s.length
 | 0,s,x,hx=>by simp only[Lib.splitK,List.mem_singleton] at hx;rw[hx];exact Nat.le_refl _
 | k+1,s,x,hx=>by
  unfold Lib.splitK at hx
  split at hx
  ·simp only[List.mem_singleton] at hx;rw[hx];exact Nat.le_refl _
  ·rcases List.mem_cons.1 hx with rfl|hx
   ·simp;omega
   ·have:=splitK_le sep k _ x hx
    simp at this
    omega
theorem linesOf_le (l:List UInt8):∀ x∈linesOf l,x.length≤l.length:=splitK_le [10] _ l
end
section
theorem ent1_any (L:Nat):∀ (i:Nat) (lv ix:Int) (g1 g3:Nat) (v:Value) (ls:List (List UInt8)) (w:World),lv=L→ix=i→L≤40→(i+1)*2 ^ L≤ls.length→ls.length≤1048576→(∀ l∈ls,l.length≤9223372036854775807)→
  w.cell? ⟨g1,0,none⟩=some v→w.cell? ⟨g3,0,none⟩=some (.func (.func 171) #[] #[.pointer (some ⟨g1,0,none⟩),.pointer (some ⟨g3,0,none⟩)])→BssAt w v ls→
  Calls prog 171 #[.int .i64 lv,.int .i64 ix,.pointer (some ⟨g1,0,none⟩),.pointer (some ⟨g3,0,none⟩)] w fun e w'=>e=.returned (.tuple #[.agg (h8 (fullRoot ls L i)),.nilIface])∧Below w.heap.size w w':=by
 induction L with
 | zero=>
  rintro i lv ix g1 g3 v ls w rfl rfl hL hi hl hs c1 c3 h
  simp only[Nat.pow_zero,Nat.mul_one] at hi
  have hb1:=cell_lt c1
  obtain⟨vs,hvl,⟨a,c,rfl,hcap,hc⟩,hall⟩:=h
  have hi':i<vs.length:=by omega
  obtain⟨b,off,rfl,hcell⟩:=hc i vs[i] (by simp[hi'])
  have hu:=hall i vs[i] ls[i] (by simp[hi']) (by simp)
  have hlen:=hs ls[i] (List.getElem_mem _)
  have hfr:fullRoot ls 0 i=leafH ls[i]:=by simp[fullRoot,List.getD,(by omega:i<ls.length)]
  have hbb:=cell_lt hcell
  have HU:=zh hu
  have HF:=zh hfr
  have HL:=zh hlen
  clear hc hall c3 hs hu hfr hlen
  generalize vs[i]=u at *
  generalize ls[i]=l at *
  have hin:i<ls.length:=by omega
  obtain⟨n,hn⟩:∃ n,n=ls.length:=⟨_,rfl⟩
  rw[←hn] at c1 hin hcap hl
  simp only[Int.ofNat_zero] at *
  go_enter func171,ntmps171
  go_wp2_with fail
  refine (leaf_any u l _ (HU.o.below (below_alloc w _)) HL.o).mono ?_
  rintro e w1 ⟨rfl,hb⟩
  have g1:hashOf w1 w.heap.size zero8:=hashOf_below (hashOf_zero' rfl) hb
  go_wp2_with (first|((first|refine wpList_load8 rfl 109 _ rfl _ rfl _ underlying109 info8 ?_ ?_ ?_|refine wpList_store8 rfl 109 _ _ rfl _ _ rfl rfl info8 ?_ ?_ ?_);rotate_left;focus((repeat(first|(with_reducible first|assumption|exact hashOf_set' ⟨_,by assumption⟩ _)|((with_reducible first|refine hashOf_zero' ?_|refine hashOf_at ?_|refine hashOf_set' (Is8_zero ?_) _);(first|rfl|(simp;done)|(simp;omega)))|with_reducible refine hashOf_old ?_ _|((with_reducible refine hashOf_other ?_ _ ?_);rotate_left;(focus(first|(simp;done)|(simp;omega)|omega)))|with_reducible first|refine hashOf_drew ?_|refine hashOf_below ?_ (by assumption)));done)))
  refine ret8t w.heap.size (leafH l) .nilIface rfl rfl rfl _ underlying109 info8 (hashOf_set g1 _) rfl ⟨by rw[HF.o],below_setRow ((below_alloc w _).trans (hb.mono (by simp))) (Nat.le_refl _) _⟩
 | succ L ih=>
  rintro i lv ix g1 g3 v ls w rfl rfl hL hi hl hs c1 c3 h
  have hp:2 ^ L≥1:=Nat.two_pow_pos L
  have e4:(i+1)*2 ^ (L+1)=(2*i)*2 ^ L+2 ^ L+2 ^ L:=by
   have e1:i*2 ^ (L+1)=(2*i)*2 ^ L:=by rw[Nat.pow_succ,Nat.mul_comm 2 i,Nat.mul_assoc,Nat.mul_comm (2 ^ L) 2]
   rw[Nat.add_mul,Nat.one_mul,e1,Nat.pow_succ];omega
  have e3:(2*i+1)*2 ^ L=(2*i)*2 ^ L+2 ^ L:=by rw[Nat.add_mul,Nat.one_mul]
  have hi1:(2*i+1)*2 ^ L≤ls.length:=by omega
  have hi2:(2*i+1+1)*2 ^ L≤ls.length:=by rw[Nat.add_mul (2*i+1),Nat.one_mul];omega
  have hii:2*i≤(2*i)*2 ^ L:=Nat.le_mul_of_pos_right _ hp
  have hib:i≤1048576:=by omega
  have hfr:fullRoot ls (L+1) i=nodeH (fullRoot ls L (2*i)) (fullRoot ls L (2*i+1)):=rfl
  obtain⟨x,hx⟩:∃ x,x=fullRoot ls L (2*i):=⟨_,rfl⟩
  obtain⟨y,hy⟩:∃ y,y=fullRoot ls L (2*i+1):=⟨_,rfl⟩
  rw[←hx,←hy] at hfr
  have I1:=zh (fun lv ix w e1 e2=>ih (2*i) lv ix g1 g3 v ls w e1 e2 (by omega) hi1 hl hs)
  have I2:=zh (fun lv ix w e1 e2=>ih (2*i+1) lv ix g1 g3 v ls w e1 e2 (by omega) hi2 hl hs)
  rw[←hx] at I1
  rw[←hy] at I2
  have HF:=zh hfr
  have HH:=zh h
  have C1:=zh c1
  have hb1:=cell_lt c1
  have hb3:=cell_lt c3
  clear ih hs h hfr hx hy e3 e4 hi hi1 hi2 hii hp c1 hl
  have hz0:(((L+1:Nat):Int) == 0)=false:=by rw[beq_eq_false_iff_ne];omega
  go_enter func171,ntmps171
  go_wp2_with fail
  have b0:=below_alloc w (.cells zc 109)
  refine (I1.o _ _ _ (by omega) (by omega) ((b0.cell (p:=⟨g1,0,none⟩) hb1).trans C1.o) ((b0.cell (p:=⟨g3,0,none⟩) hb3).trans c3) (HH.o.below b0)).mono ?_
  rintro e w1 ⟨rfl,hw1⟩
  have B1:=b0.trans (hw1.mono b0.size)
  have z1:hashOf w1 w.heap.size zero8:=hashOf_below (hashOf_zero' rfl) hw1
  have s1:w.heap.size+1≤w1.heap.size:=by have:=hw1.size;simpa using this
  have c3':=(B1.cell (p:=⟨g3,0,none⟩) hb3).trans c3
  have hb3':=cell_lt c3'
  have BB1:=zh B1
  clear b0 hw1 B1 c3 hb3
  have k1:hashOf ((w1.alloc (.cells zc 109)).setRow w1.heap.size (h8 x)) w1.heap.size x:=hashOf_set (hashOf_zero' rfl) _
  have k2:Below w.heap.size w ((w1.alloc (.cells zc 109)).setRow w1.heap.size (h8 x)):=below_setRow (BB1.o.alloc BB1.o.size _) BB1.o.size _
  have k3:hashOf ((w1.alloc (.cells zc 109)).setRow w1.heap.size (h8 x)) w.heap.size zero8:=hashOf_other (hashOf_old z1 _) _ (by omega)
  have k5:((w1.alloc (.cells zc 109)).setRow w1.heap.size (h8 x)).heap.size=w1.heap.size+1:=by simp
  have k4:((w1.alloc (.cells zc 109)).setRow w1.heap.size (h8 x)).cell? ⟨g3,0,none⟩=some (.func (.func 171) #[] #[.pointer (some ⟨g1,0,none⟩),.pointer (some ⟨g3,0,none⟩)]):=((below_setRow (below_alloc w1 _) (Nat.le_refl _) _).cell (p:=⟨g3,0,none⟩) hb3').trans c3'
  have K1:=zh k1
  have K2:=zh k2
  have K3:=zh k3
  have K5:=zh k5
  clear k1 k2 k3 k5 c3' z1
  go_wp2_with (first|((first|refine wpList_load8 rfl 109 _ rfl _ rfl _ underlying109 info8 ?_ ?_ ?_|refine wpList_store8 rfl 109 _ _ rfl _ _ rfl rfl info8 ?_ ?_ ?_);rotate_left;focus((repeat(first|(with_reducible first|assumption|exact hashOf_set' ⟨_,by assumption⟩ _)|((with_reducible first|refine hashOf_zero' ?_|refine hashOf_at ?_|refine hashOf_set' (Is8_zero ?_) _);(first|rfl|(simp;done)|(simp;omega)))|with_reducible refine hashOf_old ?_ _|((with_reducible refine hashOf_other ?_ _ ?_);rotate_left;(focus(first|(simp;done)|(simp;omega)|omega)))|with_reducible first|refine hashOf_drew ?_|refine hashOf_below ?_ (by assumption)));done)))
  generalize ((w1.alloc (.cells zc 109)).setRow w1.heap.size (h8 x))=W2 at *
  refine (I2.o _ _ W2 (by omega) (by omega) ((K2.o.cell (p:=⟨g1,0,none⟩) hb1).trans C1.o) k4 (HH.o.below K2.o)).mono ?_
  rintro e w2 ⟨rfl,hw2⟩
  have s2:w1.heap.size+1≤w2.heap.size:=by have:=hw2.size;rw[K5.o] at this;exact this
  have B2:=zh (K2.o.trans (hw2.mono K2.o.size))
  have q1:hashOf ((w2.alloc (.cells zc 109)).setRow w2.heap.size (h8 y)) w1.heap.size x:=hashOf_other (hashOf_old (hashOf_below K1.o hw2) _) _ (by omega)
  have q2:hashOf ((w2.alloc (.cells zc 109)).setRow w2.heap.size (h8 y)) w2.heap.size y:=hashOf_set (hashOf_zero' rfl) _
  have q3:hashOf ((w2.alloc (.cells zc 109)).setRow w2.heap.size (h8 y)) w.heap.size zero8:=hashOf_other (hashOf_old (hashOf_below K3.o hw2) _) _ (by omega)
  have q4:Below w.heap.size w ((w2.alloc (.cells zc 109)).setRow w2.heap.size (h8 y)):=below_setRow (B2.o.alloc B2.o.size _) B2.o.size _
  have Q4:=zh q4
  clear hw2 q4 k4
  go_wp2_with (first|((first|refine wpList_load8 rfl 109 _ rfl _ rfl _ underlying109 info8 ?_ ?_ ?_|refine wpList_store8 rfl 109 _ _ rfl _ _ rfl rfl info8 ?_ ?_ ?_);rotate_left;focus((repeat(first|(with_reducible first|assumption|exact hashOf_set' ⟨_,by assumption⟩ _)|((with_reducible first|refine hashOf_zero' ?_|refine hashOf_at ?_|refine hashOf_set' (Is8_zero ?_) _);(first|rfl|(simp;done)|(simp;omega)))|with_reducible refine hashOf_old ?_ _|((with_reducible refine hashOf_other ?_ _ ?_);rotate_left;(focus(first|(simp;done)|(simp;omega)|omega)))|with_reducible first|refine hashOf_drew ?_|refine hashOf_below ?_ (by assumption)));done)))
  refine (node_any x y _).mono ?_
  rintro e w3 ⟨rfl,hw3⟩
  have r1:=hashOf_below q3 hw3
  clear q1 q2 q3
  have R1:=zh (Q4.o.trans (hw3.mono Q4.o.size))
  clear hw3
  go_wp2_with (first|((first|refine wpList_load8 rfl 109 _ rfl _ rfl _ underlying109 info8 ?_ ?_ ?_|refine wpList_store8 rfl 109 _ _ rfl _ _ rfl rfl info8 ?_ ?_ ?_);rotate_left;focus((repeat(first|(with_reducible first|assumption|exact hashOf_set' ⟨_,by assumption⟩ _)|((with_reducible first|refine hashOf_zero' ?_|refine hashOf_at ?_|refine hashOf_set' (Is8_zero ?_) _);(first|rfl|(simp;done)|(simp;omega)))|with_reducible refine hashOf_old ?_ _|((with_reducible refine hashOf_other ?_ _ ?_);rotate_left;(focus(first|(simp;done)|(simp;omega)|omega)))|with_reducible first|refine hashOf_drew ?_|refine hashOf_below ?_ (by assumption)));done)))
  refine ret8t w.heap.size (nodeH x y) .nilIface rfl rfl rfl _ underlying109 info8 (hashOf_set r1 _) rfl ⟨by rw[HF.o],below_setRow R1.o (Nat.le_refl _) _⟩
end
section
theorem and_i64 (a b:Nat) (ha:a<9223372036854775808) (hb:b<9223372036854775808):bits .and .i64 (a:Int) (b:Int)=((a &&& b:Nat):Int):=by
 have h1:(BitVec.ofInt 64 (a:Int)).toNat=a:=by
  rw[BitVec.ofInt_natCast,BitVec.toNat_ofNat];exact Nat.mod_eq_of_lt (by omega)
 have h2:(BitVec.ofInt 64 (b:Int)).toNat=b:=by
  rw[BitVec.ofInt_natCast,BitVec.toNat_ofNat];exact Nat.mod_eq_of_lt (by omega)
 have h3:a &&& b≤a:=Nat.and_le_left
 show IntKind.i64.wrap ((BitVec.ofInt 64 (a:Int) &&& BitVec.ofInt 64 (b:Int)).toNat:Int)=_
 rw[BitVec.toNat_and,h1,h2]
 generalize a &&& b=c at *
 simp[IntKind.wrap,IntKind.bits,IntKind.signed]
 omega
theorem pow_of_and {n:Nat} (h1:1≤n) (hn:n<2 ^ 64) (h:n &&& (n-1)=0):n=2 ^ (Lib.bitLen n-1):=by
 obtain⟨e,he⟩:∃ e,e=Lib.bitLen n-1:=⟨_,rfl⟩
 have hb:=Lib.bitLenAux_bounds 64 n hn (by omega)
 have hb':2 ^ e≤n∧n<2 ^ e*2:=by
  rw[he]
  have hs:Lib.bitLen n=Lib.bitLenAux 64 n:=rfl
  rw[hs]
  obtain⟨a1,a2,a3⟩:=hb
  refine⟨a2,?_⟩
  rw[←Nat.pow_succ]
  have:(Lib.bitLenAux 64 n-1).succ=Lib.bitLenAux 64 n:=by omega
  rw[this]
  exact a3
 rw[←he]
 rcases Nat.lt_or_ge (2 ^ e) n with hlt|hge
 ·exfalso
  have t1:n.testBit e=true:=by
   rw[Nat.testBit_eq_decide_div_mod_eq,(Nat.div_eq_of_lt_le (k:=1) (by omega) (by omega):n / 2 ^ e=1)];rfl
  have t2:(n-1).testBit e=true:=by
   rw[Nat.testBit_eq_decide_div_mod_eq,(Nat.div_eq_of_lt_le (k:=1) (by omega) (by omega):(n-1) / 2 ^ e=1)];rfl
  have t3:(n &&& (n-1)).testBit e=true:=by rw[Nat.testBit_and,t1,t2];rfl
  rw[h] at t3
  simp at t3
 ·omega
end
section
section
attribute [local go_sem] h8_0 h8_1 h8_2 h8_3 h8_4 h8_5 h8_6 h8_7 h8_fold h8_size run_store8
theorem whole1_any (f:Nat):∀ (i n:Nat) (lo hi:Int) (e1 e3 g1 g3:Nat) (v:Value) (ls:List (List UInt8)) (w:World),lo=i→hi=i+n→n≤f→1≤n→i+n≤ls.length→ls.length≤1048576→(∀ l∈ls,l.length≤9223372036854775807)→
  w.cell? ⟨e1,0,none⟩=some v→w.cell? ⟨e3,0,none⟩=some (.func (.func 171) #[] #[.pointer (some ⟨e1,0,none⟩),.pointer (some ⟨e3,0,none⟩)])→BssAt w v ls→
  w.cell? ⟨g1,0,none⟩=some (.func (.func 171) #[] #[.pointer (some ⟨e1,0,none⟩),.pointer (some ⟨e3,0,none⟩)])→
  w.cell? ⟨g3,0,none⟩=some (.func (.func 142) #[] #[.pointer (some ⟨g1,0,none⟩),.pointer (some ⟨g3,0,none⟩)])→
  Calls prog 142 #[.int .i64 lo,.int .i64 hi,.pointer (some ⟨g1,0,none⟩),.pointer (some ⟨g3,0,none⟩)] w fun e w'=>e=.returned (.tuple #[.agg (h8 (rootOf ((ls.drop i).take n))),.nilIface])∧Below w.heap.size w w':=by
 induction f with
 | zero=>intros;omega
 | succ f ih=>
  intro i n lo hi e1 e3 g1 g3 v ls w hlo hhi hf h1 hin hl hs c1 c3 h d1 d3
  have hA:=and_i64 n (n-1) (by omega) (by omega)
  have hs1:((n-1:Nat):Int)=hi-lo-1:=by omega
  have hs0:(n:Int)=hi-lo:=by omega
  rw[hs1,hs0] at hA
  have hm:lo%(hi-lo)=((i%n:Nat):Int):=by
   rw[←hs0,hlo];rfl
  have l0:0≤lo:=by omega
  have l1:lo<hi:=by omega
  have l2:hi≤1048576:=by omega
  by_cases hpr:n &&& (n-1)=0∧i%n=0
  ·obtain⟨hp,hr⟩:=hpr
   rw[hp] at hA
   ·have tm:(lo%(hi-lo) == 0)=true:=by rw[hm,hr];rfl
    have ta:(bits .and .i64 (hi-lo) (hi-lo-1) == 0)=true:=by rw[hA];rfl
    have hpw:=pow_of_and h1 (by omega) hp
    obtain⟨e,he⟩:∃ e,Lib.bitLen n=e+1:=by
     refine⟨Lib.bitLen n-1,?_⟩
     have:=(Lib.bitLenAux_bounds 64 n (by omega) (by omega)).1
     have hb:Lib.bitLen n=Lib.bitLenAux 64 n:=rfl
     omega
    rw[he,Nat.add_sub_cancel] at hpw
    have he40:e≤20:=by
     rcases Nat.lt_or_ge 20 e with hlt|hge
     ·have:=Nat.pow_le_pow_right (n:=2) (by decide) hlt
      omega
     ·exact hge
    have HE:=zh he
    have hr0:decide (hi-lo=0)=false:=decide_eq_false (by omega)
    have hz:((hi-lo) == 0)=false:=by rw[beq_eq_false_iff_ne];omega
    have hdiv:i / n*n=i:=by have:=Nat.div_add_mod i n;rw[hr] at this;rw[Nat.mul_comm];omega
    have hq:(i / n+1)*2 ^ e≤ls.length:=by rw[←hpw,Nat.add_mul,hdiv];omega
    have hfull:fullRoot ls e (i / n)=rootOf ((ls.drop i).take n):=by
     rw[fullRoot_eq ls e (i / n) (by omega) hq,←hpw,hdiv]
    have HF:=zh hfull
    have HQ:=zh hq
    have HH:=zh h
    have HS':=zh hs
    have C1:=zh c1
    have C3:=zh c3
    have D3:=zh d3
    have IH:=zh ih
    have HPW:=zh hpw
    have gl:=cell_lt d1
    have hdv:=zh hdiv
    have HLO:=zh hlo
    have HHI:=zh hhi
    have HS0:=zh hs0
    clear hfull hq h hs c1 c3 d3 ih hpw hp hr hdiv he hs0 hs1 hA hm hlo hhi hz
    go_enter func142,ntmps142
    go_wp2_with fail
    refine (bits_Len _ _ (by omega) (by omega)).mono ?_
    rintro e' w1 ⟨rfl,rfl⟩
    have ht:Lib.bitLen (hi-lo).toNat=e+1:=by rw[←HE.o,←HS0.o];rfl
    rw[ht]
    clear ht
    go_wp2_with fail
    have b0:Below w.heap.size w (w.alloc (.cells zc 109)).drew:=(below_alloc w _).drew
    have k1:=(b0.cell (p:=⟨e1,0,none⟩) (cell_lt C1.o)).trans C1.o
    have k3:=(b0.cell (p:=⟨e3,0,none⟩) (cell_lt C3.o)).trans C3.o
    have K1:=zh k1
    have K3:=zh k3
    have HB:=zh (HH.o.below b0)
    have B0:=zh b0
    have hsh:lo / 2 ^ e=((i / n:Nat):Int):=by rw[HLO.o,HPW.o];simp
    have HSH:=zh hsh
    clear hsh k1 k3 b0
    go_region_with (go_at_call 171;refine (ent1_any e (i / n) _ _ e1 e3 v ls _ rfl HSH.o (by omega) HQ.o hl HS'.o K1.o K3.o HB.o).mono ?_;rintro e' w1 ⟨rfl,hb1⟩;have hz:w.heap.size<w1.heap.size:=(by have:=hb1.size;simp at this;omega);have hI8:Is8 w1 w.heap.size:=⟨zero8,hashOf_below (hashOf_drew (hashOf_zero' rfl)) hb1⟩;have B1:=zh (B0.o.trans (hb1.mono B0.o.size));clear hb1)
    go_wp2
    obtain⟨z,hz8⟩:=hI8
    refine ret8t w.heap.size (fullRoot ls e (i / n)) .nilIface rfl rfl rfl _ underlying109 info8 (hashOf_set hz8 _) rfl ⟨by rw[HF.o],below_setRow B1.o (Nat.le_refl _) _⟩
  ·have hcase:((bits .and .i64 (hi-lo) (hi-lo-1) == 0)=true∧(lo%(hi-lo) == 0)=false)∨(bits .and .i64 (hi-lo) (hi-lo-1) == 0)=false:=by
    by_cases hp:n &&& (n-1)=0
    ·refine .inl ⟨by rw[hA,hp];rfl,?_⟩
     have hr:¬ i%n=0:=fun e=>hpr ⟨hp,e⟩
     rw[hm,beq_eq_false_iff_ne]
     omega
    ·refine .inr ?_
     rw[hA,beq_eq_false_iff_ne]
     omega
   have hn2:2≤n:=by
    rcases Nat.lt_or_ge n 2 with hlt|hge
    ·obtain rfl:n=1:=by omega
     exact absurd ⟨rfl,Nat.mod_one i⟩ hpr
    ·exact hge
   have hr0:decide (hi-lo=0)=false:=decide_eq_false (by omega)
   have hbd:=below_lt hn2
   obtain⟨k,hk⟩:∃ k,k=below n:=⟨_,rfl⟩
   have hpl:((ls.drop i).take n).length=n:=by rw[List.length_take,List.length_drop];omega
   have hrt:rootOf ((ls.drop i).take n)=nodeH (rootOf ((ls.drop i).take k)) (rootOf ((ls.drop (i+k)).take (n-k))):=by
    rw[rootOf_more (by omega),hpl,←hk,List.take_take,List.drop_take,List.drop_drop,Nat.min_eq_left (by omega)]
   rw[←hk] at hbd
   obtain⟨x,hx⟩:∃ x,x=rootOf ((ls.drop i).take k):=⟨_,rfl⟩
   obtain⟨y,hy⟩:∃ y,y=rootOf ((ls.drop (i+k)).take (n-k)):=⟨_,rfl⟩
   rw[←hx,←hy] at hrt
   have I1:=zh (fun lo hi w e1' e2'=>ih i k lo hi e1 e3 g1 g3 v ls w e1' e2' (by omega) (by omega) (by omega) hl hs)
   have I2:=zh (fun lo hi w e1' e2'=>ih (i+k) (n-k) lo hi e1 e3 g1 g3 v ls w e1' e2' (by omega) (by omega) (by omega) hl hs)
   rw[←hx] at I1
   rw[←hy] at I2
   have hki:(k:Int)<hi-lo:=by omega
   have hk1:(1:Int)≤k:=by omega
   have HK:=zh (show (below (hi-lo).toNat:Int)=k by rw[←hs0,Int.toNat_natCast,hk])
   have HLO:=zh hlo
   have HHI:=zh (show hi=((i+k:Nat):Int)+((n-k:Nat):Int) by omega)
   have HLK:=zh (show lo+k=((i+k:Nat):Int) by omega)
   have HF:=zh hrt
   have HH:=zh h
   have C1:=zh c1
   have C3:=zh c3
   have D1:=zh d1
   have hb3:=cell_lt d3
   have hl2:2≤hi-lo:=by omega
   clear ih hs h hrt hx hy hpr hA hm hs0 hs1 hlo hhi hf h1 hin hl c1 c3 d1 hpl hk hbd hn2
   rcases hcase with ⟨ta,tm⟩|ta
   all_goals
    go_enter func142,ntmps142
    go_wp2_with fail
    refine (split_any _ _ (by omega) (by omega)).mono ?_
    rintro e w0 ⟨rfl,rfl⟩
    rw[HK.o]
    go_wp2_with fail
    have b0:=below_alloc w (.cells zc 109)
    refine (I1.o lo (lo+k) _ HLO.o (by rw[HLO.o]) ((b0.cell (p:=⟨e1,0,none⟩) (cell_lt C1.o)).trans C1.o) ((b0.cell (p:=⟨e3,0,none⟩) (cell_lt C3.o)).trans C3.o) (HH.o.below b0) ((b0.cell (p:=⟨g1,0,none⟩) (cell_lt D1.o)).trans D1.o) ((b0.cell (p:=⟨g3,0,none⟩) hb3).trans d3)).mono ?_
    rintro e w1 ⟨rfl,hw1⟩
    have B1:=b0.trans (hw1.mono b0.size)
    have z1:hashOf w1 w.heap.size zero8:=hashOf_below (hashOf_zero' rfl) hw1
    have s1:w.heap.size+1≤w1.heap.size:=by have:=hw1.size;simpa using this
    have d3':=(B1.cell (p:=⟨g3,0,none⟩) hb3).trans d3
    have hb3':=cell_lt d3'
    have BB1:=zh B1
    have D3:=zh d3
    clear b0 hw1 B1 d3
    have k1:hashOf ((w1.alloc (.cells zc 109)).setRow w1.heap.size (h8 x)) w1.heap.size x:=hashOf_set (hashOf_zero' rfl) _
    have k2:Below w.heap.size w ((w1.alloc (.cells zc 109)).setRow w1.heap.size (h8 x)):=below_setRow (BB1.o.alloc BB1.o.size _) BB1.o.size _
    have k3:hashOf ((w1.alloc (.cells zc 109)).setRow w1.heap.size (h8 x)) w.heap.size zero8:=hashOf_other (hashOf_old z1 _) _ (by omega)
    have k5:((w1.alloc (.cells zc 109)).setRow w1.heap.size (h8 x)).heap.size=w1.heap.size+1:=by simp
    have k4:((w1.alloc (.cells zc 109)).setRow w1.heap.size (h8 x)).cell? ⟨g3,0,none⟩=some (.func (.func 142) #[] #[.pointer (some ⟨g1,0,none⟩),.pointer (some ⟨g3,0,none⟩)]):=((below_setRow (below_alloc w1 _) (Nat.le_refl _) _).cell (p:=⟨g3,0,none⟩) hb3').trans d3'
    have KK1:=zh k1
    have KK2:=zh k2
    have KK3:=zh k3
    have KK5:=zh k5
    clear k1 k2 k3 k5 d3' z1
    go_wp2_with (first|((first|refine wpList_load8 rfl 109 _ rfl _ rfl _ underlying109 info8 ?_ ?_ ?_|refine wpList_store8 rfl 109 _ _ rfl _ _ rfl rfl info8 ?_ ?_ ?_);rotate_left;focus((repeat(first|(with_reducible first|assumption|exact hashOf_set' ⟨_,by assumption⟩ _)|((with_reducible first|refine hashOf_zero' ?_|refine hashOf_at ?_|refine hashOf_set' (Is8_zero ?_) _);(first|rfl|(simp;done)|(simp;omega)))|with_reducible refine hashOf_old ?_ _|((with_reducible refine hashOf_other ?_ _ ?_);rotate_left;(focus(first|(simp;done)|(simp;omega)|omega)))|with_reducible first|refine hashOf_drew ?_|refine hashOf_below ?_ (by assumption)));done)))
    generalize ((w1.alloc (.cells zc 109)).setRow w1.heap.size (h8 x))=W2 at *
    refine (I2.o (lo+k) hi W2 HLK.o HHI.o ((KK2.o.cell (p:=⟨e1,0,none⟩) (cell_lt C1.o)).trans C1.o) ((KK2.o.cell (p:=⟨e3,0,none⟩) (cell_lt C3.o)).trans C3.o) (HH.o.below KK2.o) ((KK2.o.cell (p:=⟨g1,0,none⟩) (cell_lt D1.o)).trans D1.o) k4).mono ?_
    rintro e w2 ⟨rfl,hw2⟩
    have s2:w1.heap.size+1≤w2.heap.size:=by have:=hw2.size;rw[KK5.o] at this;exact this
    have B2:=zh (KK2.o.trans (hw2.mono KK2.o.size))
    have q1:hashOf ((w2.alloc (.cells zc 109)).setRow w2.heap.size (h8 y)) w1.heap.size x:=hashOf_other (hashOf_old (hashOf_below KK1.o hw2) _) _ (by omega)
    have q2:hashOf ((w2.alloc (.cells zc 109)).setRow w2.heap.size (h8 y)) w2.heap.size y:=hashOf_set (hashOf_zero' rfl) _
    have q3:hashOf ((w2.alloc (.cells zc 109)).setRow w2.heap.size (h8 y)) w.heap.size zero8:=hashOf_other (hashOf_old (hashOf_below KK3.o hw2) _) _ (by omega)
    have q4:Below w.heap.size w ((w2.alloc (.cells zc 109)).setRow w2.heap.size (h8 y)):=below_setRow (B2.o.alloc B2.o.size _) B2.o.size _
    have Q4:=zh q4
    clear hw2 q4 k4
    go_wp2_with (first|((first|refine wpList_load8 rfl 109 _ rfl _ rfl _ underlying109 info8 ?_ ?_ ?_|refine wpList_store8 rfl 109 _ _ rfl _ _ rfl rfl info8 ?_ ?_ ?_);rotate_left;focus((repeat(first|(with_reducible first|assumption|exact hashOf_set' ⟨_,by assumption⟩ _)|((with_reducible first|refine hashOf_zero' ?_|refine hashOf_at ?_|refine hashOf_set' (Is8_zero ?_) _);(first|rfl|(simp;done)|(simp;omega)))|with_reducible refine hashOf_old ?_ _|((with_reducible refine hashOf_other ?_ _ ?_);rotate_left;(focus(first|(simp;done)|(simp;omega)|omega)))|with_reducible first|refine hashOf_drew ?_|refine hashOf_below ?_ (by assumption)));done)))
    refine (node_any x y _).mono ?_
    rintro e w3 ⟨rfl,hw3⟩
    have r1:=hashOf_below q3 hw3
    clear q1 q2 q3
    have R1:=zh (Q4.o.trans (hw3.mono Q4.o.size))
    clear hw3
    go_wp2_with (first|((first|refine wpList_load8 rfl 109 _ rfl _ rfl _ underlying109 info8 ?_ ?_ ?_|refine wpList_store8 rfl 109 _ _ rfl _ _ rfl rfl info8 ?_ ?_ ?_);rotate_left;focus((repeat(first|(with_reducible first|assumption|exact hashOf_set' ⟨_,by assumption⟩ _)|((with_reducible first|refine hashOf_zero' ?_|refine hashOf_at ?_|refine hashOf_set' (Is8_zero ?_) _);(first|rfl|(simp;done)|(simp;omega)))|with_reducible refine hashOf_old ?_ _|((with_reducible refine hashOf_other ?_ _ ?_);rotate_left;(focus(first|(simp;done)|(simp;omega)|omega)))|with_reducible first|refine hashOf_drew ?_|refine hashOf_below ?_ (by assumption)));done)))
    refine ret8t w.heap.size (nodeH x y) .nilIface rfl rfl rfl _ underlying109 info8 (hashOf_set r1 _) rfl ⟨by rw[HF.o],below_setRow R1.o (Nat.le_refl _) _⟩
end
end
section
theorem run_storeCells_any {P:Program} (g o:Nat) (t:TypeId) (fz:Nat×Nat):∀ (vs:List Value) (i:Nat) (cur:Array Value) (w:World),w.heap[g]?=some (.cells cur t fz)→o+i+vs.length≤cur.size→(fz=(0,0)∨cur.size≤fz.1)→(∀ v∈vs,v.oneCell'=true)→
  ∃ cur',(storeCells ⟨g,o,none⟩ vs i).run P w=.ok () (w.setRow g cur')∧cur'.size=cur.size
 | [],i,cur,w,hg,_,_,_=>⟨cur,by simp only[storeCells];rw[setRow_self w g cur t fz hg];rfl,rfl⟩
 | v :: rest,i,cur,w,hg,hl,hf,h1=>by
  have hi:o+i<cur.size:=by simp at hl;omega
  have hadd:(⟨g,o,none⟩:Addr).add i=⟨g,o+i,none⟩:=by unfold Addr.add;split <;> simp_all
  have hcell:w.cell? ⟨g,o+i,none⟩=some cur[o+i]:=by simp[World.cell?,hg,hi]
  have hfro:w.frozen? ⟨g,o+i,none⟩=false:=by
   simp only[World.frozen?,hg]
   rcases hf with rfl|hf
   ·simp
   ·simp;omega
  have hst:(store ((⟨g,o,none⟩:Addr).add i) v).run P w=.ok () (w.setRow g (cur.setIfInBounds (o+i) v)):=by
   rw[hadd,run_store P w _ v _ (h1 v (by simp)),hcell]
   simp[hfro,setCell_eq_setRow w g (o+i) cur t fz v hg]
  obtain⟨cur',ih,hs⟩:=run_storeCells_any (P:=P) g o t fz rest (i+1) (cur.setIfInBounds (o+i) v) (w.setRow g (cur.setIfInBounds (o+i) v)) (setRow_heap w g cur _ t _ hg) (by simp at hl ⊢;omega) (by simpa using hf) (fun x hx=>h1 x (by simp[hx]))
  refine⟨cur',?_,by simpa using hs⟩
  simp only[storeCells,Sem.run_bind,hst,Result.andThen_ok,ih,setRow_setRow]
theorem setRow_grown (w:World) (g:Nat) (cs:Array Value):w.grownBy (w.setRow g cs) (some g):=
 ⟨rfl,rfl,rfl,by simp,fun k _ hk=>setRow_other w g k cs (fun e=>hk (by rw[e]))⟩
end
section
def RangeOf (w:World) (rv:Value) (ls:List (List UInt8)):Prop:=
 ∃ (e1 e3 g1 g3:Nat) (v:Value),rv=.func (.func 142) #[] #[.pointer (some ⟨g1,0,none⟩),.pointer (some ⟨g3,0,none⟩)]∧
  w.cell? ⟨e1,0,none⟩=some v∧w.cell? ⟨e3,0,none⟩=some (.func (.func 171) #[] #[.pointer (some ⟨e1,0,none⟩),.pointer (some ⟨e3,0,none⟩)])∧BssAt w v ls∧
  w.cell? ⟨g1,0,none⟩=some (.func (.func 171) #[] #[.pointer (some ⟨e1,0,none⟩),.pointer (some ⟨e3,0,none⟩)])∧
  w.cell? ⟨g3,0,none⟩=some (.func (.func 142) #[] #[.pointer (some ⟨g1,0,none⟩),.pointer (some ⟨g3,0,none⟩)])
theorem mwhole_any (F:FuncId) (caps:Array Value) (w:World) :
  Calls prog 88 #[.func (.func F) #[] caps] w fun e w'=>e=.returned (.func (.func 142) #[] #[.pointer (some ⟨w.heap.size,0,none⟩),.pointer (some ⟨w.heap.size+1,0,none⟩)])∧
   w'.cell? ⟨w.heap.size,0,none⟩=some (.func (.func F) #[] caps)∧w'.cell? ⟨w.heap.size+1,0,none⟩=some (.func (.func 142) #[] #[.pointer (some ⟨w.heap.size,0,none⟩),.pointer (some ⟨w.heap.size+1,0,none⟩)])∧Below w.heap.size w w':=by
 go_enter func88,ntmps88
 go_wp2_with fail
 go_ret
 refine⟨rfl,?_,?_,(below_alloc w _).alloc (by simp) _⟩
 ·rw[World.cell?_alloc_old]
  ·exact World.cell?_alloc_at _ _ _ _ rfl
  ·simp
 ·exact World.cell?_alloc_at _ _ _ _ (by simp)
theorem mentries_any (v:Value) (ls:List (List UInt8)) (w:World) (h:BssAt w v ls) :
  Calls prog 126 #[v] w fun e w'=>∃ rv,e=.returned rv∧RangeOf w' rv ls∧Below w.heap.size w w':=by
 obtain⟨a,c,rfl⟩:∃ a c,v=.slice a ls.length c:=by obtain⟨_,_,⟨a,c,h1,_⟩,_⟩:=h;exact⟨a,c,h1⟩
 have HH:=zh h
 clear h
 go_enter func126,ntmps126
 go_wp2_with fail
 have b0:Below w.heap.size w ((w.alloc (.cells #[.slice a ls.length c] 135)).alloc (.cells #[.func (.func 171) #[] #[.pointer (some ⟨w.heap.size,0,none⟩),.pointer (some ⟨w.heap.size+1,0,none⟩)]] 181)):=(below_alloc w _).alloc (by simp) _
 refine (mwhole_any _ _ _).mono ?_
 rintro e w1 ⟨rfl,h1,h2,hb⟩
 have hsz:((w.alloc (.cells #[.slice a ls.length c] 135)).alloc (.cells #[.func (.func 171) #[] #[.pointer (some ⟨w.heap.size,0,none⟩),.pointer (some ⟨w.heap.size+1,0,none⟩)]] 181)).heap.size=w.heap.size+1+1:=by simp
 rw[hsz] at h1 h2
 clear hsz
 have B:=zh (b0.trans (hb.mono b0.size))
 have q1:w1.cell? ⟨w.heap.size,0,none⟩=some (.slice a ls.length c):=(hb.cell (p:=⟨w.heap.size,0,none⟩) (by simp;omega)).trans ((World.cell?_alloc_past _ _ _ (by simp)).trans (World.cell?_alloc_at _ _ _ _ rfl))
 have q2:w1.cell? ⟨w.heap.size+1,0,none⟩=some (.func (.func 171) #[] #[.pointer (some ⟨w.heap.size,0,none⟩),.pointer (some ⟨w.heap.size+1,0,none⟩)]):=(hb.cell (p:=⟨w.heap.size+1,0,none⟩) (by simp)).trans (World.cell?_alloc_at _ _ _ _ (by simp))
 have Q:=zh (show RangeOf w1 _ ls from ⟨_,_,_,_,_,rfl,q1,q2,HH.o.below B.o,h1,h2⟩)
 clear b0 hb q1 q2 h1 h2
 go_wp2
 go_ret
 exact⟨_,rfl,Q.o,B.o⟩
theorem mroot_any (n:Nat) (rv:Value) (ls:List (List UInt8)) (w:World) (h:RangeOf w rv ls) (hn:n≤ls.length) (hl:ls.length≤1048576) (hs:∀ l∈ls,l.length≤9223372036854775807) :
  Calls prog 125 #[rv,.int .i64 n] w fun e w'=>e=.returned (.tuple #[.agg (h8 (rootOf (ls.take n))),.nilIface])∧Below w.heap.size w w':=by
 by_cases h0:n=0
 ·subst h0
  obtain⟨e1,e3,g1,g3,v,rfl,_⟩:=h
  go_enter func125,ntmps125
  go_wp2_with fail
  refine (sum_any _ [] _ ⟨[],rfl,⟨none,0,rfl,Nat.le_refl _,fun j x hx=>by simp at hx⟩,fun j u l hu _=>by simp at hu⟩ (by simp) (by simp)).mono ?_
  rintro e w1 ⟨rfl,hb⟩
  have z1:hashOf w1 w.heap.size zero8:=hashOf_below (hashOf_zero' rfl) hb
  have B:=zh ((below_alloc w _).trans (hb.mono (by simp)))
  clear hb
  go_wp2_with (first|((first|refine wpList_load8 rfl 109 _ rfl _ rfl _ underlying109 info8 ?_ ?_ ?_|refine wpList_store8 rfl 109 _ _ rfl _ _ rfl rfl info8 ?_ ?_ ?_);rotate_left;focus((repeat(first|(with_reducible first|assumption|exact hashOf_set' ⟨_,by assumption⟩ _)|((with_reducible first|refine hashOf_zero' ?_|refine hashOf_at ?_|refine hashOf_set' (Is8_zero ?_) _);(first|rfl|(simp;done)|(simp;omega)))|with_reducible refine hashOf_old ?_ _|((with_reducible refine hashOf_other ?_ _ ?_);rotate_left;(focus(first|(simp;done)|(simp;omega)|omega)))|with_reducible first|refine hashOf_drew ?_|refine hashOf_below ?_ (by assumption)));done)))
  refine ret8t w.heap.size (hash []) .nilIface rfl rfl rfl _ underlying109 info8 (hashOf_set z1 _) rfl ⟨by rw[List.take_zero];rfl,below_setRow B.o (Nat.le_refl _) _⟩
 ·have hz:((n:Int) == 0)=false:=by rw[beq_eq_false_iff_ne];omega
  obtain⟨e1,e3,g1,g3,v,rfl,h1,h2,h3,h4,h5⟩:=h
  have b0:=below_alloc w (.cells zc 109)
  have W:=zh (whole1_any n 0 n 0 n e1 e3 g1 g3 v ls (w.alloc (.cells zc 109)) rfl (by simp) (Nat.le_refl _) (by omega) (by omega) hl hs ((b0.cell (p:=⟨e1,0,none⟩) (cell_lt h1)).trans h1) ((b0.cell (p:=⟨e3,0,none⟩) (cell_lt h2)).trans h2) (h3.below b0) ((b0.cell (p:=⟨g1,0,none⟩) (cell_lt h4)).trans h4) ((b0.cell (p:=⟨g3,0,none⟩) (cell_lt h5)).trans h5))
  have hd:(ls.drop 0).take n=ls.take n:=by rw[List.drop_zero]
  rw[hd] at W
  clear h1 h2 h3 h4 h5 hd hs hl hn
  go_enter func125,ntmps125
  go_wp2_with fail
  refine W.o.mono ?_
  rintro e w1 ⟨rfl,hb⟩
  have z1:hashOf w1 w.heap.size zero8:=hashOf_below (hashOf_zero' rfl) hb
  have B:=zh (b0.trans (hb.mono b0.size))
  clear hb b0 W
  go_wp2_with (first|((first|refine wpList_load8 rfl 109 _ rfl _ rfl _ underlying109 info8 ?_ ?_ ?_|refine wpList_store8 rfl 109 _ _ rfl _ _ rfl rfl info8 ?_ ?_ ?_);rotate_left;focus((repeat(first|(with_reducible first|assumption|exact hashOf_set' ⟨_,by assumption⟩ _)|((with_reducible first|refine hashOf_zero' ?_|refine hashOf_at ?_|refine hashOf_set' (Is8_zero ?_) _);(first|rfl|(simp;done)|(simp;omega)))|with_reducible refine hashOf_old ?_ _|((with_reducible refine hashOf_other ?_ _ ?_);rotate_left;(focus(first|(simp;done)|(simp;omega)|omega)))|with_reducible first|refine hashOf_drew ?_|refine hashOf_below ?_ (by assumption)));done)))
  refine ret8t w.heap.size _ .nilIface rfl rfl rfl _ underlying109 info8 (hashOf_set z1 _) rfl ⟨rfl,below_setRow B.o (Nat.le_refl _) _⟩
theorem troot_any (v:Value) (ls:List (List UInt8)) (w:World) (h:BssAt w v ls) (hl:ls.length≤1048576) (hs:∀ l∈ls,l.length≤9223372036854775807) :
  Calls prog 69 #[v] w fun e w'=>e=.returned (.agg (h8 (rootOf ls)))∧Below w.heap.size w w':=by
 obtain⟨a,c,rfl⟩:∃ a c,v=.slice a ls.length c:=by obtain⟨_,_,⟨a,c,h1,_⟩,_⟩:=h;exact⟨a,c,h1⟩
 have HH:=zh (h.below (below_alloc w (.cells zc 109)))
 have HS':=zh hs
 have ht:ls.take ls.length=ls:=List.take_of_length_le (Nat.le_refl _)
 have HT:=zh ht
 clear h hs ht
 go_enter func69,ntmps69
 go_wp2_with fail
 refine (mentries_any _ ls _ HH.o).mono ?_
 rintro e w1 ⟨rv,rfl,hr,hb1⟩
 have b1:=(below_alloc w (.cells zc 109)).trans (hb1.mono (by simp))
 have z1:hashOf w1 w.heap.size zero8:=hashOf_below (hashOf_zero' rfl) hb1
 have HR:=zh hr
 clear hr hb1
 go_wp2_with fail
 refine (mroot_any ls.length rv ls _ HR.o (Nat.le_refl _) hl HS'.o).mono ?_
 rintro e w2 ⟨rfl,hb2⟩
 rw[HT.o]
 have z2:=hashOf_below z1 hb2
 have hsz:w.heap.size+1≤w2.heap.size:=by have:=b1.size;have:=hb2.size;have:=(Array.getElem?_eq_some_iff.1 z1).1;omega
 have B2:=zh (b1.trans (hb2.mono b1.size))
 clear z1 hb2 b1
 have k1:hashOf ((w2.alloc (.cells zc 109)).setRow w2.heap.size (h8 (rootOf ls))) w2.heap.size (rootOf ls):=hashOf_set (hashOf_zero' rfl) _
 have k2:hashOf ((w2.alloc (.cells zc 109)).setRow w2.heap.size (h8 (rootOf ls))) w.heap.size zero8:=hashOf_other (hashOf_old z2 _) _ (by omega)
 have k3:Below w.heap.size w ((w2.alloc (.cells zc 109)).setRow w2.heap.size (h8 (rootOf ls))):=below_setRow (B2.o.alloc B2.o.size _) B2.o.size _
 have K3:=zh k3
 clear k3 z2
 go_wp2_with (first|((first|refine wpList_load8 rfl 109 _ rfl _ rfl _ underlying109 info8 ?_ ?_ ?_|refine wpList_store8 rfl 109 _ _ rfl _ _ rfl rfl info8 ?_ ?_ ?_);rotate_left;focus((repeat(first|(with_reducible first|assumption|exact hashOf_set' ⟨_,by assumption⟩ _)|((with_reducible first|refine hashOf_zero' ?_|refine hashOf_at ?_|refine hashOf_set' (Is8_zero ?_) _);(first|rfl|(simp;done)|(simp;omega)))|with_reducible refine hashOf_old ?_ _|((with_reducible refine hashOf_other ?_ _ ?_);rotate_left;(focus(first|(simp;done)|(simp;omega)|omega)))|with_reducible first|refine hashOf_drew ?_|refine hashOf_below ?_ (by assumption)));done)))
 refine ret8 w.heap.size (rootOf ls) rfl rfl _ underlying109 info8 (hashOf_set k2 _) rfl ⟨rfl,below_setRow K3.o (Nat.le_refl _) _⟩
end
section
theorem info_bsE:∃ i,prog.info? 94=some i∧i.zero=some (.slice none 0 0)∧i.size=1∧i.bytes=24:=by
 have h:(prog.info? 94).map (fun i=>(i.zero,i.size,i.bytes))=some (some (.slice none 0 0),1,24):=by kernel_rfl
 cases hi:prog.info? 94 with
 | none=>rw[hi] at h;simp at h
 | some i=>rw[hi] at h;simp at h;exact⟨i,rfl,h.1,h.2.1,h.2.2⟩
theorem eql_bsnil (w:World) (a:Option Addr) (n c:Nat):(binOp .eql 135 (.slice a n c) (.slice none 0 0)).run prog w=.ok (.bool a.isNone) w:=Lib.run_eql_slice_nil w _ _ a n c 0 0 underlying135
theorem bss_ones {w:World} {base:Nat} {us:List Value} {ls:List (List UInt8)} (hl:us.length=ls.length) (hb:∀ (j:Nat) (u:Value) (l:List UInt8),us[j]?=some u→ls[j]?=some l→OwnBytes w base u l):∀ u∈us,u.oneCell'=true:=by
 intro u hu
 obtain⟨j,hj⟩:=List.mem_iff_getElem?.1 hu
 have hjl:j<ls.length:=by have:=(List.getElem?_eq_some_iff.1 hj).1;omega
 exact (hb j u _ hj (List.getElem?_eq_getElem hjl)).one
theorem bundleF_unb {l:List Fil} {i w:Nat} {s:ByteArray} (h:getF l (bunName i w)=some s):bundleF l i w=unbW s w:=by unfold bundleF unbW;rw[h];rfl
structure Lkd (w:World) (g gd:Nat) (v ve vl vp:Value) (vs:List Value) (L:Lg) (ve':Value) (d':Dk) (es:List (List UInt8)) (w':World):Prop where
 disk:DiskAt w' gd v d'
 log:LogIs w' g gd ve' vl vp vs { L with entries:=es }
 fr:Fr (fun k=>k=gd∨LogS g ve vl vp vs k) w w'
 sub:Sub w (LogS g ve vl vp vs) (LogS g ve' vl vp vs)
theorem lks {w:World} {g gd:Nat} {ve vl vp ve':Value} {vs:List Value} (h:Sub w (LogS g ve vl vp vs) (LogS g ve' vl vp vs)):Sub w (fun k=>k=gd∨LogS g ve vl vp vs k) (fun k=>k=gd∨LogS g ve' vl vp vs k):=fun k hk=>by
 rcases hk with hk|hk
 ·exact .inl (.inl hk)
 ·exact (h k hk).imp (fun h=>.inr h) id
theorem Lkd.look {w w1 w2:World} {g gd:Nat} {v ve vl vp ve1:Value} {vs:List Value} {L:Lg} {d1 d2:Dk} {es:List (List UInt8)} (h:Lkd w g gd v ve vl vp vs L ve1 d1 es w1) (hd:DiskAt w2 gd v d2) (hf:Fr (·=gd) w1 w2):Lkd w g gd v ve vl vp vs L ve1 d2 es w2:=
 ⟨hd,h.log.fr hf (fun k hk e=>h.log.apartDisk h.disk k hk (.inl e)) (fun k C fz hk e=>by subst e;have:=h.disk.1;rw[hk] at this;simp at this),Fr.sub h.fr (hf.weak fun k _ hk=>(.inl hk:k=gd∨LogS g ve1 vl vp vs k)) (lks h.sub),h.sub⟩
theorem Lkd.below {w w1 w2:World} {g gd:Nat} {v ve vl vp ve1:Value} {vs:List Value} {L:Lg} {d1:Dk} {es:List (List UInt8)} (h:Lkd w g gd v ve vl vp vs L ve1 d1 es w1) (hb:Below w1.heap.size w1 w2):Lkd w g gd v ve vl vp vs L ve1 d1 es w2:=
 h.look (h.disk.below hb) (Fr.ofBelow hb)
theorem Lkd.ents {w w1 w2:World} {g gd:Nat} {v ve vl vp ve1 ve2:Value} {vs:List Value} {L:Lg} {d1:Dk} {es es2:List (List UInt8)} (h:Lkd w g gd v ve vl vp vs L ve1 d1 es w1) (hl:LogIs w2 g gd ve2 vl vp vs { L with entries:=es2 }) (hf:Fr (LogS g ve1 vl vp vs) w1 w2) (hs:Sub w1 (LogS g ve1 vl vp vs) (LogS g ve2 vl vp vs)) (hsz:w.heap.size≤w1.heap.size):Lkd w g gd v ve vl vp vs L ve2 d1 es2 w2:=
 ⟨h.disk.fr hf fun k hk hS=>h.log.apartDisk h.disk k hS hk,hl,Fr.sub h.fr (hf.weak fun k _ hk=>(.inr hk:k=gd∨LogS g ve1 vl vp vs k)) (lks h.sub),h.sub.trans hs hsz⟩
def loadPost (w:World) (g gd:Nat) (v ve vl vp:Value) (vs:List Value) (d:Dk) (L:Lg) (f:Nat→Addr) (n B:Nat) (e:Ending) (w':World):Prop:=
 (∃ ve' d' es' i q m r,Lkd w g gd v ve vl vp vs L ve' d' es' w'∧Hurt B d d'∧e=.returned (.iface 153 (.pointer (some ⟨r,0,none⟩)))∧w.heap.size≤q∧w.heap.size≤r∧w'.heap[q]?=some (.cells #[.int .i64 m] 366 (0,0))∧
   w'.heap[r]?=some (.cells #[.string (bunName i (min 4 (n-4*i))),.iface 152 (.pointer (some ⟨q,0,none⟩))] 155 (0,0)))∨
 (∃ ve' d' es' i r,Lkd w g gd v ve vl vp vs L ve' d' es' w'∧Calm B d d'∧loadP d.files n ((n+3) / 4) 0 []=(es',some i)∧e=.returned (.iface 153 (.pointer (some ⟨r,0,none⟩)))∧w.heap.size≤r∧
   w'.heap[r]?=some (.cells #[.string (bunName i (min 4 (n-4*i))),.iface 338 (.pointer (some (f 5)))] 155 (0,0)))∨
 (∃ ve' d' es',Lkd w g gd v ve vl vp vs L ve' d' es' w'∧Calm B d d'∧loadP d.files n ((n+3) / 4) 0 []=(es',none)∧e=.returned .nilIface)
theorem loadP_next {l:List Fil} {n i:Nat} {d:List (List UInt8)} (h:4*i<n):loadP l n ((n+3) / 4-i) i d=match bundleF l i (min 4 (n-4*i)) with
  | none=>(d,some i)
  | some e=>loadP l n ((n+3) / 4-(i+1)) (i+1) (d++e):=by
 obtain⟨m,hm⟩:∃ m,(n+3) / 4-i=m+1:=⟨(n+3) / 4-i-1,by omega⟩
 rw[hm,loadP,show (n+3) / 4-(i+1)=m by omega]
 cases bundleF l i (min 4 (n-4*i)) <;> rfl
theorem loadP_end {l:List Fil} {n i:Nat} {d:List (List UInt8)} (h:n≤4*i):loadP l n ((n+3) / 4-i) i d=(d,none):=by
 rw[show (n+3) / 4-i=0 by omega,loadP]
theorem load_any (f:Nat→Addr) (w:World) (g gd:Nat) (v ve vl vp:Value) (vs:List Value) (d:Dk) (L:Lg) (h:LogIs w g gd ve vl vp vs L) (hD:DiskAt w gd v d) (n N:Nat) (hE:EnvS f (fun k=>k=gd∨LogS g ve vl vp vs k) w)
  (hL:L.entries = []) (hn:n<9223372036854775808) (hN:FewB d.files N) (hN2:N≤1048576) (hc:d.calls<1000000000000) (hsz:∀ b∈d.files,b.2.size≤1048576) :
  Calls prog 68 #[.pointer (some ⟨g,0,none⟩),.int .i64 n] w (loadPost w g gd v ve vl vp vs d L f n (N+1)):=by
 have HE:=zh hE
 have HN:=zh hN
 have HZ:=zh hsz
 have hg:=lt_of_heap h.cells
 have hlk:Lkd w g gd v ve vl vp vs L ve d [] w:=⟨hD,by rw[←hL];exact h,Fr.refl _ _,Sub.refl _ _⟩
 have HL:=zh hlk
 clear h hD hE hL hN hsz hlk
 go_enter func68,ntmps68
 go_wp2
 go_loopg [5] (N+1) (fun gg s5 wr=>∃ i:Nat,i≤N∧N+1-i≤gg∧s5=.int .i64 i∧∃ ve1 d1 es1,Aside (Lkd w g gd v ve vl vp vs L ve1 d1 es1 wr)∧Aside (Calm i d d1)∧Aside (loadP d.files n ((n+3) / 4) 0 []=loadP d.files n ((n+3) / 4-i) i es1)∧Aside (es1.length=min n (4*i))∧Aside (Taken d.files es1)∧w.heap.size≤wr.heap.size)
 case atStart=>exact⟨0,Nat.zero_le _,by omega,rfl,ve,d,[],HL.o,Calm.refl d,rfl,by show [].length=_;simp,Taken.nil _,Nat.le_refl _⟩
 case round=>
  obtain⟨i,hi,hgg,rfl,ve1,d1,es1,HL1,HC1,HP1,HLEN,HT1,hsw⟩:=hrel
  obtain⟨⟨_,_,c2,_,_,_⟩,f0⟩:=HL1.o.log.heads
  have hents:=HL1.o.log.ents
  obtain⟨vsr,hrow,_⟩:=hents
  obtain⟨a1,cp1,rfl⟩:=own_any hrow
  clear hrow
  obtain⟨ln,hln⟩:∃ ln,ln=es1.length:=⟨_,rfl⟩
  have c2':wr.cell? ⟨g,2,none⟩=some (.slice a1 ln cp1):=by rw[hln];exact c2
  have hl4:ln=min n (4*i):=by rw[hln];exact HLEN.o
  have HLN:=zh hln
  clear c2 hln
  by_cases hlt:ln<n
  ·have hltz:(ln:Int)<(n:Int):=by omega
   have h4i:4*i<n:=by omega
   have hcon:=fat_any (-1) i n wr h4i hn (HE.o.step HL1.o.fr (lks HL1.o.sub)).num
   have HL4:=zh hl4
   have H4I:=zh h4i
   clear hl4 h4i
   obtain⟨k,hk⟩:∃ k,k=min 4 (n-4*i):=⟨_,rfl⟩
   rw[←hk] at hcon
   obtain⟨p,hp⟩:∃ p,p=bunName i k:=⟨_,rfl⟩
   rw[show sOf (nameOf (-1) (i:Int) (k:Int))=p from hp.symm] at hcon
   have hc1:d1.calls<1099511627776:=by have:=HC1.o.calls;omega
   have hfl:=HC1.o.files
   have HK:=zh hk
   have HP:=zh hp
   have HFL:=zh hfl
   clear hk hp
   rcases Nat.eq_zero_or_pos (enterK d1) with h0|h0
   ·have HC2:=zh (HC1.o.trans (calm_enter h0))
    cases hget:getF d1.files p with
    | none=>
     have HG:=zh hget
     clear hget hfl
     go_wp2_with (first
      | (go_at_call 123;refine hcon.mono ?_;rintro e w2 ⟨rfl,hb2⟩;have HL2:=zh (HL1.o.below hb2);have HB2:=zh hb2;clear hb2)
      | (go_at_call 124;refine (bun_miss w2 g gd v _ _ _ _ d1 _ HL2.o.log HL2.o.disk p k hc1 h0 HG.o).mono ?_;rintro e w3 ⟨rfl,hd3,hf3⟩;have HL3:=zh (HL2.o.look hd3 hf3);have HF3:=zh hf3;have hn3:=neq_nils w3;have hq3:=eql_bsnil w3 none 0 0;have s5:=(HE.o.step HL3.o.fr (lks HL3.o.sub)).sents.cells.2.2.2.2.2.1;clear hd3 hf3)
      | (go_at_call 65;refine (at_any _ _ _ _).mono ?_;rintro e w4 ⟨u,rfl,⟨r,rfl,hr,hhr⟩,hb4⟩;have HR:=zh hhr;have HL4':=zh (HL3.o.below hb4);clear hhr hb4))
     go_ret
     refine .inr (.inl ⟨_,_,es1,i,r,HL4'.o,HC2.o.more (by omega),?_,rfl,?_,?_⟩)
     ·rw[HP1.o,loadP_next H4I.o,←HK.o,bundleF_none (by rw[←HP.o,←HFL.o];exact HG.o)]
     ·have:=HB2.o.size;have:=HF3.o.size;omega
     ·rw[←HK.o,←HP.o];exact HR.o
    | some s=>
     have hs20:s.size≤1048576:=by have:=HZ.o _ (getF_some (by rw[←hfl];exact hget));exact this
     cases hu:unbW s k with
     | none=>
      have HG:=zh hget
      have HU:=zh hu
      clear hget hfl hu
      go_wp2_with (first
       | (go_at_call 123;refine hcon.mono ?_;rintro e w2 ⟨rfl,hb2⟩;have HL2:=zh (HL1.o.below hb2);have HB2:=zh hb2;clear hb2)
       | (go_at_call 124;refine (bun_bad w2 g gd v _ _ _ _ d1 _ HL2.o.log HL2.o.disk p k hc1 h0 HG.o hs20 HU.o).mono ?_;rintro e w3 ⟨rfl,hd3,hf3⟩;have HL3:=zh (HL2.o.look hd3 hf3);have HF3:=zh hf3;have hn3:=neq_nils w3;have hq3:=eql_bsnil w3 none 0 0;have s5:=(HE.o.step HL3.o.fr (lks HL3.o.sub)).sents.cells.2.2.2.2.2.1;clear hd3 hf3)
       | (go_at_call 65;refine (at_any _ _ _ _).mono ?_;rintro e w4 ⟨u,rfl,⟨r,rfl,hr,hhr⟩,hb4⟩;have HR:=zh hhr;have HL4':=zh (HL3.o.below hb4);clear hhr hb4))
      go_ret
      refine .inr (.inl ⟨_,_,es1,i,r,HL4'.o,HC2.o.more (by omega),?_,rfl,?_,?_⟩)
      ·rw[HP1.o,loadP_next H4I.o,←HK.o,bundleF_unb (s:=s) (by rw[←HP.o,←HFL.o];exact HG.o),HU.o]
      ·have:=HB2.o.size;have:=HF3.o.size;omega
      ·rw[←HK.o,←HP.o];exact HR.o
     | some ls=>
      have hbun:bundleF d.files i k=some ls:=by rw[bundleF_unb (s:=s) (by rw[←HP.o,←HFL.o];exact hget)];exact hu
      have hlens:=bundleF_some hbun
      have htk:=HT1.o.step (w:=k) (e:=ls) (i:=i) (by rw[HLEN.o];have:=H4I.o;omega) hbun
      have hfew:=htk.few HN.o
      have hfew2:es1.length+ls.length≤1099511627776:=by rw[List.length_append] at hfew;omega
      have hlp:0<ls.length:=by omega
      have HTK:=zh htk
      have HBUN:=zh hbun
      have HFEW:=zh hfew
      have HLL:=zh hlens.1
      have HG:=zh hget
      have HU:=zh hu
      obtain⟨i0,hi0,hz0,hs0,hby0⟩:=info_bsE
      have HI:=zh (⟨hi0,hz0,hs0,hby0⟩:_∧_∧_∧_)
      clear hget hfl hu hbun hlens htk hfew hi0 hz0 hs0 hby0
      go_wp2_with (first
       | (go_at_call 123;refine hcon.mono ?_;rintro e w2 ⟨rfl,hb2⟩;have HL2:=zh (HL1.o.below hb2);have HB2:=zh hb2;clear hb2)
       | (go_at_call 124;refine (bun_good w2 g gd v _ _ _ _ d1 _ HL2.o.log HL2.o.disk p k hc1 h0 HG.o hs20 HU.o).mono ?_;rintro e w3 ⟨b3,c3,rfl,ho3,hd3,hf3⟩;have HL3:=zh (HL2.o.look hd3 hf3);have HF3:=zh hf3;have hn3:=neq_nils w3;have hq3:=eql_bsnil w3 (some ⟨b3,0,none⟩) ls.length c3;have hd3':=HL3.o.log.heads;have c3g:=hd3'.1.2.2.1;have f3g:=hd3'.2 2;have HO3:=zh ho3;have c3g':w3.cell? ⟨g,2,none⟩=some (.slice a1 ln cp1):=(by rw[HLN.o];exact c3g);have hg3:=lt_of_heap HL3.o.log.cells;clear hd3 hf3 ho3 hd3' c3g)
       | (at_builtin;obtain⟨vsx,hrx,hbx⟩:=HL3.o.log.ents;obtain⟨us,hus,hub⟩:=HO3.o;have hrx':w3.ownsRow 0 94 1 (.slice a1 ln cp1) ln vsx:=(by rw[HLN.o];exact hrx);have hul:us.length=ls.length:=(by simpa using hus.1);refine wpList_appM rfl _ _ _ rfl 0 94 i0 _ 1 24 underlying135 HI.o.1 HI.o.2.1 HI.o.2.2.1 HI.o.2.2.2 rfl (by decide) (by decide) (.slice a1 ln cp1) ln vsx (by rfl) hrx' ⟨b3,0,none⟩ ls.length c3 us rfl (by omega) (hus.cells (g:=b3) rfl) (bss_ones hul hub) hlp (by rw[HLN.o];exact hfew2) (Nat.zero_le _) ?_;intro v' w' h2 h3 h4 h5;obtain⟨gb,cpb,rfl,hgb⟩:=own_slice h2 h5;have H2:=zh h2;have H3:=zh (Fr.ofGrown (S:=fun k=>(Value.slice a1 ln cp1).ownBlock=some k) h3 fun k _ e=>e);have H4:=zh h4;have hne:¬ (Value.slice a1 ln cp1).ownBlock=some g:=(fun e=>by obtain⟨C,hC⟩:=ownBlock_type hrx' e;exact heap_ne HL3.o.log.cells hC (by decide) rfl);have HUL:=zh hul;have HUB:=zh hub;have HRX:=zh hrx';have HBX:=zh hbx;go_must (have k3:=H3.o.cell c3g' hne;have k4:=(H3.o.frozen (p:=⟨g,2,none⟩) hg3 hne).trans f3g;clear h2 h3 h4 h5 hul hub hrx' hbx hrx hus hne)))
      go_roundg (N+1-(i+1))
      case measure=>omega
      case rel=>
       have hown:OwnBss w' 0 (.slice (some ⟨gb,0,none⟩) (ln+ls.length) cpb) (es1++ls):=by
        exact OwnBss.push HRX.o HBX.o HLN.o H3.o H2.o (by rw[HLN.o]) (fun j u l hu hl=>(HUB.o j u l hu hl).mono (Nat.zero_le _))
       have hmv:Moved w3 (.slice a1 es1.length cp1) (.slice (some ⟨gb,0,none⟩) (ln+ls.length) cpb):=by rw[←HLN.o];exact H4.o
       have hfr:Fr (fun k=>(Value.slice a1 es1.length cp1).ownBlock=some k) w3 w':=by rw[←HLN.o];exact H3.o
       have hp:=HL3.o.log.setEnts hfr hown hmv
       have hw23:w.heap.size≤w3.heap.size:=by have:=HB2.o.size;have:=HF3.o.size;omega
       have hw3':w3.heap.size≤(w'.setCell ⟨g,2,none⟩ (.slice (some ⟨gb,0,none⟩) (ln+ls.length) cpb)).heap.size:=hp.2.1.size
       refine⟨i+1,?_,by omega,by go_num,_,_,_,HL3.o.ents hp.1 hp.2.1 hp.2.2 hw23,HC2.o,?_,?_,HTK.o,by omega⟩
       ·have:=HFEW.o;have:=HN.o (i+1) fun j hj=>HTK.o.has j (by rw[List.length_append,HLEN.o,HLL.o,HK.o];have:=H4I.o;omega);exact this
       ·show loadP _ _ _ _ _=_
        rw[HP1.o,loadP_next H4I.o,←HK.o,HBUN.o]
       ·show (es1++ls).length=_
        rw[List.length_append,HLEN.o,HLL.o,HK.o]
        have:=H4I.o
        omega
   ·have HHU:=zh (HC1.o.hurt (hurt_enter h0))
    clear hfl
    go_wp2_with (first
     | (go_at_call 123;refine hcon.mono ?_;rintro e w2 ⟨rfl,hb2⟩;have HL2:=zh (HL1.o.below hb2);have HB2:=zh hb2;clear hb2)
     | (go_at_call 124;refine (bun_err w2 g gd v _ _ _ _ d1 _ HL2.o.log HL2.o.disk p k hc1 h0).mono ?_;rintro e w3 ⟨q,m,r,rfl,hq,hr,hh3,hhr,hd3,hf3⟩;have HL3:=zh (HL2.o.look hd3 hf3);have HQ:=zh hh3;have HR:=zh hhr;have hn3:=neq_nil w3 153 (.pointer (some ⟨r,0,none⟩));clear hd3 hf3 hh3 hhr))
    go_ret
    refine .inl ⟨_,_,es1,i,q,m,r,HL3.o,HHU.o.more (by omega),rfl,?_,?_,HQ.o,?_⟩
    ·have:=HB2.o.size;omega
    ·have:=HB2.o.size;omega
    ·rw[←HK.o,←HP.o];exact HR.o
  ·have hltz:¬ (ln:Int)<(n:Int):=by omega
   have hend:n≤4*i:=by omega
   have HEN:=zh hend
   clear hl4 hend
   go_wp2
   go_ret
   refine .inr (.inr ⟨_,d1,es1,HL1.o,HC1.o.more (by omega),?_,rfl⟩)
   rw[HP1.o,loadP_end HEN.o]
end
end Go.Proofs.YtefccfakhgdfbabGreatDoor
