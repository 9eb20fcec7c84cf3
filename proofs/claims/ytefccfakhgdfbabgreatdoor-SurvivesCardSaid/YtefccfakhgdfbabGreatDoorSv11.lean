/- plain.Of at path errors: of ErrTile, and of a store's own error. The sentinels and errors.errorType stand. -/
import Derived.Test.YtefccfakhgdfbabGreatDoorSv10
import Derived.Stop.Asserts
set_option linter.unusedVariables false
set_option linter.unusedSimpArgs false
open Go.RowKit Go.Proofs.Tryz
set_option maxRecDepth 100000
set_option maxHeartbeats 4000000
namespace Go.Proofs.YtefccfakhgdfbabGreatDoor
section
theorem putsD_bd:∀ (fs:List Fil) (d:Dk),(putsD d fs).1.calls≤d.calls+fs.length∧(putsD d fs).1.files.length≤d.files.length+fs.length
 | [],d=>⟨Nat.le_refl _,Nat.le_refl _⟩
 | f :: fs,d=>by
   have h:=putD_bd d f.1 f.2
   have h2:=putsD_bd fs (putD d f.1 f.2)
   rw[putsD]
   split
   ·simp only[List.length_cons];omega
   ·simp only[List.length_cons];omega
theorem writeJ_bd (t:Int) (row:List (List UInt8)) (j:Nat) (d:Dk):(writeJ t row j d).1.calls≤d.calls+(row.length+3) / 4∧(writeJ t row j d).1.files.length≤d.files.length+(row.length+3) / 4:=by
 have h:=putsD_bd ((levelF t row).drop j) d
 have hl:((levelF t row).drop j).length≤(row.length+3) / 4:=by rw[List.length_drop,levelF_len];omega
 unfold writeJ
 simp only[]
 omega
def pubPost (f:Nat→Addr) (w:World) (g gd:Nat) (v ve vl vp:Value) (vs:List Value) (d:Dk) (L:Lg) (e:Ending) (w':World):Prop:=
 if L.failed=true then e=.returned (.tuple #[.int .i64 0,.iface 338 (.pointer (some (f 6)))])∧Below w.heap.size w w'
 else ∃ v' vp' Q,Q=pubD L.entries L.key L.put d∧DiskAt w' gd v' Q.1∧LogIs w' g gd ve vl vp' vs { L with put:=Q.2.1,failed:=Q.2.2.isSome }∧Fr (bothS g gd v ve vl vp vs) w w'∧Sub w (bothS g gd v ve vl vp vs) (bothS g gd v' ve vl vp' vs)∧
  ((Q.2.2=none∧e=.returned (.tuple #[.int .i64 L.entries.length,.nilIface]))∨∃ p r u m,Q.2.2=some p∧e=.returned (.tuple #[.int .i64 0,.iface 153 (.pointer (some ⟨r,0,none⟩))])∧w.heap.size≤r∧w.heap.size≤u∧w'.heap[u]?=some (.cells #[.int .i64 m] 366 (0,0))∧
   w'.heap[r]?=some (.cells #[.string p,.iface 152 (.pointer (some ⟨u,0,none⟩))] 155 (0,0)))
structure Vars (w:World) (g pl:Nat) (n:Int) (ev:Value):Prop where
 l:w.heap[pl]?=some (.cells #[.pointer (some ⟨g,0,none⟩)] 86 (0,0))
 n:w.heap[pl+1]?=some (.cells #[.int .i64 n] 3 (0,0))
 e:w.heap[pl+1+1]?=some (.cells #[ev] 88 (0,0))
theorem Vars.below {w w':World} {g pl:Nat} {n:Int} {ev:Value} (h:Vars w g pl n ev) (hb:Below w.heap.size w w'):Vars w' g pl n ev:=
 ⟨(hb.block _ (lt_of_heap h.l)).trans h.l,(hb.block _ (lt_of_heap h.n)).trans h.n,(hb.block _ (lt_of_heap h.e)).trans h.e⟩
theorem Vars.cells {w:World} {g pl:Nat} {n:Int} {ev:Value} (h:Vars w g pl n ev):w.cell? ⟨pl,0,none⟩=some (.pointer (some ⟨g,0,none⟩))∧w.cell? ⟨pl+1,0,none⟩=some (.int .i64 n)∧w.cell? ⟨pl+1+1,0,none⟩=some ev∧
  w.frozen? ⟨pl+1,0,none⟩=false∧w.frozen? ⟨pl+1+1,0,none⟩=false:=⟨cell_heap h.l 0 rfl,cell_heap h.n 0 rfl,cell_heap h.e 0 rfl,frozen_heap h.n 0,frozen_heap h.e 0⟩
theorem Vars.err {w:World} {g pl:Nat} {n:Int} {ev:Value} (h:Vars w g pl n ev) (x:Value):Vars (w.setCell ⟨pl+1+1,0,none⟩ x) g pl n x:=
 ⟨heap_setCell' h.l (show pl≠pl+1+1 by omega) _,heap_setCell' h.n (show pl+1≠pl+1+1 by omega) _,(heap_setCell h.e _).trans (by simp)⟩
theorem Vars.num {w:World} {g pl:Nat} {n:Int} {ev:Value} (h:Vars w g pl n ev) (x:Int):Vars (w.setCell ⟨pl+1,0,none⟩ (.int .i64 x)) g pl x ev:=
 ⟨heap_setCell' h.l (show pl≠pl+1 by omega) _,(heap_setCell h.n _).trans (by simp),heap_setCell' h.e (show pl+1+1≠pl+1 by omega) _⟩
def PubSt (w:World) (g gd:Nat) (v ve vl vp:Value) (vs:List Value) (L:Lg) (d:Dk) (pl k:Nat) (wx:World):Prop:=
 ∃ v1 vp1 d1 ps ev,Pk w (pl+3) g gd v ve vl vp vs L v1 vp1 d1 ps wx∧Vars wx g pl 0 ev∧MarkOk (rowsOf L.entries) ps∧d1.calls≤d.calls+k*1048576∧d1.files.length≤d.files.length+k*1048576∧
  ((ev=.nilIface∧pubJ 0 (rowsOf L.entries) L.put d=pubJ k ((rowsOf L.entries).drop k) ps d1)∨
     ∃ p r u m,ev=.iface 153 (.pointer (some ⟨r,0,none⟩))∧w.heap.size≤r∧w.heap.size≤u∧wx.heap[u]?=some (.cells #[.int .i64 m] 366 (0,0))∧
   wx.heap[r]?=some (.cells #[.string p,.iface 152 (.pointer (some ⟨u,0,none⟩))] 155 (0,0))∧pubJ 0 (rowsOf L.entries) L.put d=(d1,ps,some p))
theorem pub_next {w wr w5:World} {g gd:Nat} {v ve vl vp v1 vp1 u:Value} {vs:List Value} {L:Lg} {d d1:Dk} {pl k:Nat} {ps:List Nat} {row:List (List UInt8)} {t:Int} (hp:Pk w (pl+3) g gd v ve vl vp vs L v1 vp1 d1 ps wr) (hv:Vars wr g pl 0 .nilIface)
  (hm:MarkOk (rowsOf L.entries) ps) (hr:(rowsOf L.entries)[k]?=some row) (hl:row.length≤1048576) (hJ:pubJ 0 (rowsOf L.entries) L.put d=pubJ k ((rowsOf L.entries).drop k) ps d1) (ht:t=(k:Int)-1)
  (hw:writePost wr g gd v1 ve vl vp1 vs d1 { L with put:=ps } t k row (.returned u) w5) (hc:d1.calls≤d.calls+k*1048576) (hf:d1.files.length≤d.files.length+k*1048576) (hpl:pl=w.heap.size):PubSt w g gd v ve vl vp vs L d pl (k+1) (w5.setCell ⟨pl+1+1,0,none⟩ u):=by
 obtain⟨p1,q,hp1,hq,v',vp',hwk,hend⟩:=hw
 subst ht
 have hbd:=writeJ_bd ((k:Int)-1) row (p1.getD k 0 / 4) d1
 have hmk:=writeJ_mark ((k:Int)-1) row (p1.getD k 0 / 4) d1
 rw[←hq] at hbd hmk
 have hst:=pubJ_step hr ps d1 hp1 hq
 have hP:=hp.write hwk
 have h1:=hp.keeps hwk.fr (b:=pl) (by omega) (by omega) hv.l
 have h2:=hp.keeps hwk.fr (b:=pl+1) (by omega) (by omega) hv.n
 have h3:=hp.keeps hwk.fr (b:=pl+1+1) (by omega) (by omega) hv.e
 have hFs:=Fr.set1 w5 (pl+1+1) 0 u
 have hP2:=hP.var (b:=pl+1+1) (by omega) (by omega) h3 (by decide) hFs
 have hV2:Vars (w5.setCell ⟨pl+1+1,0,none⟩ u) g pl 0 u:=Vars.err ⟨h1,h2,h3⟩ u
 have hM2:MarkOk (rowsOf L.entries) (p1.set k q.2.1):=by rw[hp1];exact hm.next hr hmk
 refine⟨v',vp',q.1,p1.set k q.2.1,u,hP2,hV2,hM2,by omega,by omega,?_⟩
 rcases hend with ⟨hq2,he⟩|⟨p,r,x,m,hq2,he,hr1,hx1,hhx,hhr⟩
 ·left
  rw[hq2] at hst
  cases he
  exact⟨rfl,by rw[hJ,hst]⟩
 ·right
  rw[hq2] at hst
  cases he
  have hsz:=hp.size
  exact⟨p,r,x,m,rfl,by omega,by omega,hFs.heap hhx (by omega),hFs.heap hhr (by omega),by rw[hJ,hst]⟩
theorem vars_new (w:World) (g:Nat):Vars (((w.alloc (.cells #[.pointer (some ⟨g,0,none⟩)] 86)).alloc (.cells #[.int .i64 0] 3)).alloc (.cells #[.nilIface] 88)) g w.heap.size 0 .nilIface:=by
 refine⟨?_,?_,?_⟩
 ·rw[heap_alloc_old _ _ (by simp;omega),heap_alloc_old _ _ (by simp),heap_alloc_new]
 ·rw[heap_alloc_old _ _ (by simp)]
  have:=heap_alloc_new (w.alloc (.cells #[.pointer (some ⟨g,0,none⟩)] 86)) (.cells #[.int .i64 0] 3)
  simpa using this
 ·have:=heap_alloc_new ((w.alloc (.cells #[.pointer (some ⟨g,0,none⟩)] 86)).alloc (.cells #[.int .i64 0] 3)) (.cells #[.nilIface] 88)
  simpa using this
theorem pub_fail {f:Nat→Addr} {w W9:World} {g gd:Nat} {v ve vl vp v1 vp1:Value} {vs:List Value} {L:Lg} {d d1:Dk} {pl r u:Nat} {m x:Int} {p:ByteArray} {ps:List Nat} (hP:Pk w (pl+3) g gd v ve vl vp vs L v1 vp1 d1 ps W9) (hV:Vars W9 g pl x (.iface 153 (.pointer (some ⟨r,0,none⟩))))
  (hpl:pl=w.heap.size) (hg:g<w.heap.size) (hr:w.heap.size≤r) (hu:w.heap.size≤u) (hhu:W9.heap[u]?=some (.cells #[.int .i64 m] 366 (0,0))) (hhr:W9.heap[r]?=some (.cells #[.string p,.iface 152 (.pointer (some ⟨u,0,none⟩))] 155 (0,0)))
  (hfd:L.failed=false) (hQ:pubD L.entries L.key L.put d=(d1,ps,some p)) :
  pubPost f w g gd v ve vl vp vs d L (.returned (.tuple #[.int .i64 0,.iface 153 (.pointer (some ⟨r,0,none⟩))])) ((W9.setCell ⟨pl+1,0,none⟩ (.int .i64 0)).setCell ⟨g,5,none⟩ (.bool true))∧
   ((W9.setCell ⟨pl+1,0,none⟩ (.int .i64 0)).setCell ⟨g,5,none⟩ (.bool true)).cell? ⟨pl+1,0,none⟩=some (.int .i64 0)∧((W9.setCell ⟨pl+1,0,none⟩ (.int .i64 0)).setCell ⟨g,5,none⟩ (.bool true)).cell? ⟨pl+1+1,0,none⟩=some (.iface 153 (.pointer (some ⟨r,0,none⟩))):=by
 have hF1:=Fr.set1 W9 (pl+1) 0 (.int .i64 0)
 have hP1:=hP.var (b:=pl+1) (by omega) (by omega) hV.n (by decide) hF1
 have hV1:=hV.num 0
 have hl:=hP1.log.fail true
 have hF2:=hl.2
 have hF3:Fr (bothS g gd v1 ve vl vp1 vs) (W9.setCell ⟨pl+1,0,none⟩ (.int .i64 0)) ((W9.setCell ⟨pl+1,0,none⟩ (.int .i64 0)).setCell ⟨g,5,none⟩ (.bool true)):=hF2.weak fun k _ hk=>.inr hk
 have hn:=hP1.keeps hF3 (b:=pl+1) (by omega) (by omega) hV1.n
 have he:=hP1.keeps hF3 (b:=pl+1+1) (by omega) (by omega) hV1.e
 refine⟨?_,cell_heap hn 0 rfl,cell_heap he 0 rfl⟩
 unfold pubPost
 rw[if_neg (by rw[hfd];decide)]
 have hFg:=Fr.set1 (W9.setCell ⟨pl+1,0,none⟩ (.int .i64 0)) g 5 (.bool true)
 have h1:=hF1.heap hhu fun e=>by subst e;rw[hV.n] at hhu;simp at hhu
 have h2:=hF1.heap hhr fun e=>by subst e;rw[hV.n] at hhr;simp at hhr
 refine⟨v1,vp1,(d1,ps,some p),hQ.symm,?_,hl.1,Fr.sub hP1.fr hF3 hP1.subw,hP1.subw,.inr ⟨p,r,u,m,rfl,rfl,hr,hu,hFg.heap h1 (by omega),hFg.heap h2 (by omega)⟩⟩
 exact hP1.disk.fr hF2 fun k hk hS=>hP1.log.apartDisk hP1.disk k hS hk
theorem pub_door_err {f:Nat→Addr} {w W9:World} {g gd:Nat} {v ve vl vp v1 vp1:Value} {vs:List Value} {L:Lg} {d d1:Dk} {pl r u:Nat} {m x:Int} {p:ByteArray} {ps:List Nat} {T:Array Value} (hP:Pk w (pl+3) g gd v ve vl vp vs L v1 vp1 d1 ps W9) (hV:Vars W9 g pl x (.iface 153 (.pointer (some ⟨r,0,none⟩))))
  (hpl:pl=w.heap.size) (hg:g<w.heap.size) (hr:w.heap.size≤r) (hu:w.heap.size≤u) (hhu:W9.heap[u]?=some (.cells #[.int .i64 m] 366 (0,0))) (hhr:W9.heap[r]?=some (.cells #[.string p,.iface 152 (.pointer (some ⟨u,0,none⟩))] 155 (0,0)))
  (hfd:L.failed=false) (hQ:pubD L.entries L.key L.put d=(d1,ps,some p)) (hT2:T.getD 2 undef=.pointer (some ⟨pl+1,0,none⟩)) (hT3:T.getD 3 undef=.pointer (some ⟨pl+1+1,0,none⟩)) :
  bodyPostD prog f40 (pubPost f w g gd v ve vl vp vs d L) Exit.ret { tmps:=T,defers:=[{ target:=.fn (.func 76) #[.pointer (some ⟨pl+1+1,0,none⟩),.pointer (some ⟨pl+1,0,none⟩),.pointer (some ⟨pl,0,none⟩)],args:=#[] }] } W9:=by
 obtain⟨x1,x2,x3,xf2,_⟩:=hV.cells
 have xg:=hP.log.heads.1.2.2.2.2.2
 have xgf:=hP.log.heads.2 5
 obtain⟨pf1,pf2,pf3⟩:=pub_fail (f:=f) hP hV hpl hg hr hu hhu hhr hfd hQ
 refine leaves_cons (f:=76) (args:=#[.pointer (some ⟨pl+1+1,0,none⟩),.pointer (some ⟨pl+1,0,none⟩),.pointer (some ⟨pl,0,none⟩)]) (by simp) (by simp[go_sem]) ?_
 refine (pub1_err (pl+1+1) (pl+1) pl g .returning W9 x3 x1 x2 ⟨_,rfl⟩ xf2 xg xgf (by omega)).mono ?_
 rintro e u' w'' ⟨rfl,rfl,rfl⟩
 simp only[Leaves,settle]
 refine⟨.tuple #[.int .i64 0,.iface 153 (.pointer (some ⟨r,0,none⟩))],?_,pf1⟩
 have hT2':T[2]?.getD undef=.pointer (some ⟨pl+1,0,none⟩):=by simpa [Array.getD_eq_getD_getElem?] using hT2
 have hT3':T[3]?.getD undef=.pointer (some ⟨pl+1+1,0,none⟩):=by simpa [Array.getD_eq_getD_getElem?] using hT3
 simp[results,results40,go_sem,hT2',hT3',pf2,pf3]
theorem pub_door_fine {f:Nat→Addr} {w W9:World} {g gd:Nat} {v ve vl vp v1 vp1:Value} {vs:List Value} {L:Lg} {d d1:Dk} {pl:Nat} {ps:List Nat} {T:Array Value} (hP:Pk w (pl+3) g gd v ve vl vp vs L v1 vp1 d1 ps W9) (hV:Vars W9 g pl (L.entries.length:Int) .nilIface)
  (hfd:L.failed=false) (hQ:pubD L.entries L.key L.put d=(d1,ps,none)) (hT2:T.getD 2 undef=.pointer (some ⟨pl+1,0,none⟩)) (hT3:T.getD 3 undef=.pointer (some ⟨pl+1+1,0,none⟩)) :
  bodyPostD prog f40 (pubPost f w g gd v ve vl vp vs d L) Exit.ret { tmps:=T,defers:=[{ target:=.fn (.func 76) #[.pointer (some ⟨pl+1+1,0,none⟩),.pointer (some ⟨pl+1,0,none⟩),.pointer (some ⟨pl,0,none⟩)],args:=#[] }] } W9:=by
 obtain⟨x1,x2,x3,_,_⟩:=hV.cells
 refine leaves_cons (f:=76) (args:=#[.pointer (some ⟨pl+1+1,0,none⟩),.pointer (some ⟨pl+1,0,none⟩),.pointer (some ⟨pl,0,none⟩)]) (by simp) (by simp[go_sem]) ?_
 refine (pub1_nil (pl+1+1) (pl+1) pl .returning W9 x3).mono ?_
 rintro e u' w'' ⟨rfl,rfl,rfl⟩
 simp only[Leaves,settle]
 refine⟨.tuple #[.int .i64 L.entries.length,.nilIface],?_,?_⟩
 ·have hT2':T[2]?.getD undef=.pointer (some ⟨pl+1,0,none⟩):=by simpa [Array.getD_eq_getD_getElem?] using hT2
  have hT3':T[3]?.getD undef=.pointer (some ⟨pl+1+1,0,none⟩):=by simpa [Array.getD_eq_getD_getElem?] using hT3
  simp[results,results40,go_sem,hT2',hT3',x2,x3]
 ·unfold pubPost
  rw[if_neg (by rw[hfd];decide)]
  have hl:=hP.log
  refine⟨v1,vp1,(d1,ps,none),hQ.symm,hP.disk,?_,hP.fr,hP.subw,.inl ⟨rfl,rfl⟩⟩
  have e:({ L with put:=ps,failed:=false }:Lg)={ L with put:=ps }:=by rw[←hfd]
  show LogIs _ _ _ _ _ _ _ { L with put:=ps,failed:=false }
  rw[e]
  exact hl
theorem pub_bd {a b k:Nat} (h:a≤b+(k+1)*1048576) (hb:b<900000000000) (hk:k≤12):a<1000000000000:=by omega
theorem h9_zip2 (n:Int) (y:Hsh):Array.foldl (fun (cs:Array Value) (x:Value×Nat)=>cs.setIfInBounds (1+x.snd) x.fst) #[.int .i64 n,.int .u8 0,.int .u8 0,.int .u8 0,.int .u8 0,.int .u8 0,.int .u8 0,.int .u8 0,.int .u8 0] (h8 y).zipIdx 0 8=trC n y:=by
 rw[h8_lit]
 simp
theorem tr_sfr (w:World) (g:Nat) (n:Int) (k:Hsh):Fr (·=g) w (((((((((w.setCell ⟨g,0,none⟩ (.int .i64 n)).setCell ⟨g,1,none⟩ (u8 k[0])).setCell ⟨g,2,none⟩ (u8 k[1])).setCell ⟨g,3,none⟩ (u8 k[2])).setCell ⟨g,4,none⟩ (u8 k[3])).setCell ⟨g,5,none⟩ (u8 k[4])).setCell ⟨g,6,none⟩ (u8 k[5])).setCell ⟨g,7,none⟩ (u8 k[6])).setCell ⟨g,8,none⟩ (u8 k[7])):=(((((((((Fr.set1 w g 0 (.int .i64 n)).set 1 (u8 k[0])).set 2 (u8 k[1])).set 3 (u8 k[2])).set 4 (u8 k[3])).set 5 (u8 k[4])).set 6 (u8 k[5])).set 7 (u8 k[6])).set 8 (u8 k[7]))
theorem tr_stores {w:World} {g:Nat} (h:TrAt w g 0 zero8) (n:Int) (k:Hsh):TrAt (((((((((w.setCell ⟨g,0,none⟩ (.int .i64 n)).setCell ⟨g,1,none⟩ (u8 k[0])).setCell ⟨g,2,none⟩ (u8 k[1])).setCell ⟨g,3,none⟩ (u8 k[2])).setCell ⟨g,4,none⟩ (u8 k[3])).setCell ⟨g,5,none⟩ (u8 k[4])).setCell ⟨g,6,none⟩ (u8 k[5])).setCell ⟨g,7,none⟩ (u8 k[6])).setCell ⟨g,8,none⟩ (u8 k[7])) g n k:=
 (heap_setCell (i:=8) (heap_setCell (i:=7) (heap_setCell (i:=6) (heap_setCell (i:=5) (heap_setCell (i:=4) (heap_setCell (i:=3) (heap_setCell (i:=2) (heap_setCell (i:=1) (heap_setCell (i:=0) h (.int .i64 n)) (u8 k[0])) (u8 k[1])) (u8 k[2])) (u8 k[3])) (u8 k[4])) (u8 k[5])) (u8 k[6])) (u8 k[7])).trans (by simp[trC,bv])
theorem run_sb (w:World) (s:ByteArray):∃ b c w',Sem.run prog (convert 9 94 (.string s)) w=.ok (.slice (some ⟨b,0,none⟩) s.size c) w'∧OwnBytes w' w.heap.size (.slice (some ⟨b,0,none⟩) s.size c) s.data.toList∧Below w.heap.size w w':=by
 have hr:=Lib.run_convert_string_bytes (P:=prog) w 9 94 5 s underlying9 underlying94 underlying5
 refine⟨_,_,_,hr,?_,?_⟩
 ·refine .inr ⟨w.heap.size,0,grownCap w s.size 0 5,Lib.bytesCells w 5 s,_,by simp,by have:=grownCap_ge w s.size 0 5;simpa using this,Nat.le_refl _,Lib.bytesWorld_at_new w _ s,fun j y hy=>?_,?_,.inr (Nat.le_refl _)⟩
  ·have hj:j<s.size:=by
    have:=(List.getElem?_eq_some_iff.1 hy).1
    simpa using this
   have h2:s.data[j]?=some y:=by simpa using hy
   have h3:s.data[j]=y:=by rw[Array.getElem?_eq_getElem hj,Option.some.injEq] at h2;exact h2
   simp[Lib.bytesCells,Array.getElem?_append,hj,h3]
  ·simp[Lib.bytesCells]
 ·exact⟨by simp[Lib.bytesWorld,World.freeze,World.alloc,World.drew,-World.alloc_eq,-World.drew_eq],by simp[Lib.bytesWorld,World.freeze,World.alloc,World.drew,-World.alloc_eq,-World.drew_eq],by simp[Lib.bytesWorld,World.freeze,World.alloc,World.drew,-World.alloc_eq,-World.drew_eq],by rw[Lib.bytesWorld_size];omega,fun k hk=>Lib.bytesWorld_at_old w 5 s k hk⟩
theorem eql_nils (w:World):(binOp .eql 88 .nilIface .nilIface).run prog w=.ok (.bool true) w:=by
 have h:∀ d:Nat,(Op.equalIn (d+1) 88 .nilIface .nilIface).run prog w=.ok true w:=fun d=>by simp[Op.equalIn,run_underlying underlying88]
 simp only[binOp]
 simp[Op.equal,Op.maxDepth,h 9999]
theorem writePost_ret {w:World} {g gd:Nat} {v ve vl vp:Value} {vs:List Value} {d:Dk} {L:Lg} {t:Int} {n:Nat} {row:List (List UInt8)} {e:Ending} {w':World} (h:writePost w g gd v ve vl vp vs d L t n row e w'):∃ u,e=.returned u∧(u=.nilIface∨∃ t x,u=.iface t x):=by
 obtain⟨_,_,_,_,_,_,_,h⟩:=h
 rcases h with ⟨_,rfl⟩|⟨_,_,_,_,_,rfl,_⟩
 ·exact⟨_,rfl,.inl rfl⟩
 ·exact⟨_,rfl,.inr ⟨_,_,rfl⟩⟩
def cvPub:Op:=.convert 9 94 (.tmp 71)
theorem cvPub_eq:Op.convert 9 94 (.tmp 71)=cvPub:=rfl
section
attribute [local go_sem] cvPub h9_zip2 h8_0 h8_1 h8_2 h8_3 h8_4 h8_5 h8_6 h8_7 h8_fold h8_size
theorem publish_any (f:Nat→Addr) (w:World) (g gd:Nat) (v ve vl vp:Value) (vs:List Value) (d:Dk) (L:Lg) (h:LogIs w g gd ve vl vp vs L) (hD:DiskAt w gd v d) (hE:EnvS f (bothS g gd v ve vl vp vs) w) (hlv:L.levels=levels L.entries) (hn:L.entries.length≤1048576)
  (hs:∀ e∈L.entries,e.length≤20) (hm:MarkOk (rowsOf L.entries) L.put) (hc:d.calls<900000000000) (hfl:d.files.length<900000000000) (hkey:L.key.size≤9223372036854775807) :
  Calls prog 40 #[.pointer (some ⟨g,0,none⟩)] w (pubPost f w g gd v ve vl vp vs d L):=by
 have hmf:∀ (fn:Fn) (first cap:Array Value) (w:World),(Instr.makeFunc fn first cap).run prog w=.ok (.func fn first cap) w:=fun _ _ _ _=>rfl
 have hg:=lt_of_heap h.cells
 obtain⟨_,_,_,_,_,_,s6⟩:=hE.sents.cells
 have b6:=cell_lt s6
 obtain⟨⟨_,_,_,_,_,c5⟩,f0⟩:=h.heads
 obtain⟨W0,hW0⟩:∃ W0,W0=((w.alloc (.cells #[.pointer (some ⟨g,0,none⟩)] 86)).alloc (.cells #[.int .i64 0] 3)).alloc (.cells #[.nilIface] 88):=⟨_,rfl⟩
 have hb0:Below w.heap.size w W0:=by rw[hW0];exact ((below_alloc w _).alloc (by simp) _).alloc (by simp;omega) _
 have hv0:Vars W0 g w.heap.size 0 .nilIface:=by rw[hW0];exact vars_new w g
 have hp0:Pk w W0.heap.size g gd v ve vl vp vs L v vp d L.put W0:=⟨hD.below hb0,h.below hb0,Fr.ofBelow hb0,fun k hk=>.inl hk,fun k hk=>bothS_lt h hD hk,Nat.le_refl _,hb0.size⟩
 obtain⟨pl,hpl⟩:∃ pl,pl=w.heap.size:=⟨_,rfl⟩
 have hszW:W0.heap.size=w.heap.size+3:=by rw[hW0];simp
 have hHl:=hp0.log.heads
 obtain⟨⟨_,_,_,_,_,c50⟩,_⟩:=hHl
 have hgW:g<W0.heap.size:=by omega
 have s60:=(hb0.cell (p:=⟨0,0,none⟩) b6).trans s6
 have b60:=cell_lt s60
 obtain⟨k1,k2,k3,kf2,kf3⟩:=hv0.cells
 have HW0:=zh hW0
 have HPL:=zh hpl
 have HSZ:=zh hszW
 have HB0:=zh hb0
 have HFL:=zh hfl
 have hpb1:=lt_of_heap hv0.l
 have hpb2:=lt_of_heap hv0.n
 have hpb3:=lt_of_heap hv0.e
 rw[←hpl] at k1 k2 k3 kf2 kf3 hpb1 hpb2 hpb3 hv0
 cases hfd:L.failed with
 | true=>
  have c50':W0.cell? ⟨g,5,none⟩=some (.bool true):=by rw[←hfd];exact c50
  clear h hD hE hW0 hpl hszW hb0 hp0 c50 c5 s6 b6 f0
  go_enter_defers func40,ntmps40
  go_upto_region 1 with fail
  rw[←HW0.o,←HPL.o]
  go_wp2
  go_region
  all_goals (
   go_wp2
   have hV:=((hv0.num 0).err (.iface 338 (.pointer (some (f 6))))).below (below_drew _)
   obtain⟨_,r2,r3,_,_⟩:=hV.cells
   have hBB:Below w.heap.size w ((W0.setCell ⟨pl+1,0,none⟩ (.int .i64 0)).setCell ⟨pl+1+1,0,none⟩ (.iface 338 (.pointer (some (f 6))))).drew:=by
    have hp:=HPL.o
    exact ((HB0.o.setCell (by show _≤pl+1;omega) _).setCell (by show _≤pl+1+1;omega) _).drew
   simp only[bodyPostD,Leaves]
   refine⟨.tuple #[.int .i64 0,.iface 338 (.pointer (some (f 6)))],?_,?_⟩
   ·simp[results,results40,go_sem,r2,r3]
   ·unfold pubPost
    rw[if_pos hfd]
    exact⟨rfl,hBB⟩)
 | false=>
  have c50':W0.cell? ⟨g,5,none⟩=some (.bool false):=by rw[←hfd];exact c50
  have HE:=zh hE
  have HP0:=zh hp0
  have HV0:=zh hv0
  have HLV:=zh hlv
  have HS:=zh hs
  have HM:=zh hm
  have HFD:=zh hfd
  clear h hD hE hlv hs hm hfd hp0 hv0 hb0 hW0 hpl hszW c50 c5 s6 b6 f0 hfl
  go_enter_defers func40,ntmps40
  go_upto_region 1 with fail
  rw[←HW0.o,←HPL.o]
  obtain⟨vse,hrowe,_⟩:=HP0.o.log.ents
  obtain⟨ae,ce,rfl⟩:=own_any hrowe
  have ce2:=HP0.o.log.heads.1.2.2.1
  obtain⟨ln,hln⟩:∃ ln,ln=L.entries.length:=⟨_,rfl⟩
  have ce2':W0.cell? ⟨g,2,none⟩=some (.slice ae ln ce):=by rw[hln];exact ce2
  have HLN:=zh hln
  clear hrowe ce2 hln
  go_upto_region 4 with fail
  go_cut [] from 14 to 21 (fun wx=>Aside (PubSt w g gd v (.slice ae L.entries.length ce) vl vp vs L d pl 1 wx))
  case first=>
   go_still_tail 7,(by kernel_rfl)
   change wpList _ _ _ _ _ W0.drew
   obtain⟨W1,hW1⟩:∃ W1,W1=W0.drew:=⟨_,rfl⟩
   rw[←hW1]
   have hP1:Pk w (pl+3) g gd v (.slice ae L.entries.length ce) vl vp vs L v vp d L.put W1:=by
    rw[hW1,show pl+3=W0.heap.size by rw[HSZ.o,HPL.o]]
    exact HP0.o.below (below_drew _)
   have hV1:Vars W1 g pl 0 .nilIface:=by rw[hW1];exact HV0.o.below (below_drew _)
   clear hW1
   obtain⟨j1,j2,j3,jf2,jf3⟩:=hV1.cells
   have jc:=hP1.log.heads.1.2.2.1
   have hlen:(L.entries.map encE).length=L.entries.length:=by simp
   have hwr:=write_any f W1 g gd v (.slice ae L.entries.length ce) vl vp vs d { L with put:=L.put } hP1.log hP1.disk (HE.o.step hP1.fr hP1.subw) (-1) 0 (by decide) (by decide) (by show L.put.length≤_;have:=HM.o.1;rw[rowsOf_len] at this;have:=nLev_small hn;omega) (L.entries.map encE) (by rw[hlen];exact hn)
    (fun a ha=>HM.o.2 0 a _ ha (rowsOf_zero _)) (fun x hx=>by obtain⟨e,he,rfl⟩:=List.mem_map.1 hx;have:=HS.o e he;simp only[encE,List.length_cons];omega) (by omega) (by have:=HFL.o;omega)
    78 pl (enters_of func78 (by kernel_rfl) rfl) (fun w1 vp1 ps hl hfr j hj=>by
     rw[hlen] at hj ⊢
     exact pub2_any w1 g gd _ vl vp1 vs { L with put:=ps } hl pl (hfr.cell j1 (hP1.o (b:=pl) (by rw[HPL.o];exact Nat.le_refl _) (by omega))) j hj hn HS.o)
   rw[hlen] at hwr
   have HWR:=zh hwr
   have HP1:=zh hP1
   have HV1:=zh hV1
   clear hwr hlen hP1 hV1
   go_wp2_with fail
   refine HWR.o.mono ?_
   rintro e w5 hw5
   obtain⟨u,rfl,hu⟩:=writePost_ret hw5
   have HST:=zh (pub_next (k:=0) HP1.o HV1.o HM.o (rowsOf_zero _) (by rw[List.length_map];exact hn) rfl (by decide) hw5 (by omega) (by omega) HPL.o)
   obtain⟨jz,hjz⟩:∃ c,w5.cell? ⟨pl+1+1,0,none⟩=some c∧w5.frozen? ⟨pl+1+1,0,none⟩=false:=by
    obtain⟨_,_,_,_,_,_,hwk,_⟩:=hw5
    have h3:=HP1.o.keeps hwk.fr (b:=pl+1+1) (by rw[HPL.o];omega) (by omega) HV1.o.e
    exact⟨_,cell_heap h3 0 rfl,frozen_heap h3 0⟩
   obtain⟨jz1,jz2⟩:=hjz
   clear hw5
   rcases hu with rfl|⟨tu,xu,rfl⟩
   ·go_wp2_with fail
    go_meet
    exact HST.o
   ·go_wp2_with fail
    go_meet
    exact HST.o
  case rest=>
   have HST0:=hcut
   clear hcut k1 k2 k3 kf2 kf3 c50' s60 ce2'
   go_wp2_with fail
   go_loopg [4] (nLev L.entries.length+2) (fun gg s4 wr=>∃ k:Nat,k≤nLev L.entries.length∧nLev L.entries.length+1-k≤gg∧s4=.int .i64 k∧Aside (PubSt w g gd v (.slice ae L.entries.length ce) vl vp vs L d pl (k+1) wr))
   case atStart=>exact⟨0,by omega,by omega,rfl,HST0⟩
   case round=>
    obtain⟨k,hk,hgg,rfl,HST⟩:=hrel
    obtain⟨v1,vp1,d1,ps,ev,hP,hV,hM,hdc,hdf,hend⟩:=HST.o
    have HP:=zh hP
    have HV:=zh hV
    have HM2:=zh hM
    obtain⟨j1,j2,j3,jf2,jf3⟩:=hV.cells
    have jc3:=hP.log.heads.1.2.2.2.1
    have jg:=lt_of_heap hP.log.cells
    obtain⟨al,cl,hvl⟩:∃ al cl,vl=.slice al L.levels.length cl:=own_any hP.log.rows
    obtain⟨nl,hnl⟩:∃ nl,nl=L.levels.length:=⟨_,rfl⟩
    have hnl2:nl=nLev L.entries.length:=by rw[hnl,HLV.o];simp[levels]
    rw[hvl,←hnl] at jc3
    have HVL:=zh hvl
    have HNL:=zh hnl
    have HNL2:=zh hnl2
    have hpb1:=lt_of_heap hV.l
    have hpb2:=lt_of_heap hV.n
    have hpb3:=lt_of_heap hV.e
    clear hP hV hM hvl hnl hnl2 HST0 HST
    rcases hend with ⟨rfl,hJ⟩|⟨p,r,u,m,rfl,hr,hu,hhu,hhr,hJ⟩
    ·have hee:=eql_nils wr
     have HJ:=zh hJ
     clear hJ
     by_cases hlt:k<nl
     ·have hltz:(k:Int)<(nl:Int):=by omega
      have hkl:k<L.levels.length:=by have:=HNL.o;omega
      have hvsl:vs.length=L.levels.length:=by simpa using HP.o.log.rows.1
      obtain⟨r,hr⟩:∃ r,L.levels[k]?=some r:=⟨_,List.getElem?_eq_getElem hkl⟩
      obtain⟨vk,hvk⟩:∃ vk,vs[k]?=some vk:=⟨_,List.getElem?_eq_getElem (by omega)⟩
      have hown:=HP.o.log.each k vk r hvk hr
      obtain⟨ak,ck,rfl⟩:=own_any hown
      obtain⟨bl,rfl⟩:∃ bl,al=some ⟨bl,0,none⟩:=by
       rcases HP.o.log.rows.2 with ⟨_,h0⟩|⟨b,cap,cur,e,_⟩
       ·have h00:L.levels.length=0:=h0
        omega
       ·rw[HVL.o] at e;simp at e;exact⟨b,e.1⟩
      have jbl:wr.cell? ⟨bl,k,none⟩=some (.slice ak r.length ck):=by
       have hrw:=HP.o.log.rows
       rw[HVL.o] at hrw
       have h1:=hrw.cells (g:=bl) rfl k _ hvk
       rw[Addr.add_lit] at h1
       simpa using h1
      have hlr:L.levels[k]?=some (levelRow L.entries k):=by
       rw[HLV.o]
       unfold levels
       rw[List.getElem?_map,List.getElem?_range (by have:=HNL2.o;omega)]
       rfl
      have hre:r=levelRow L.entries k:=by rw[hr] at hlr;exact Option.some.inj hlr
      obtain⟨row,hrow⟩:∃ row,row=r.map fun (x:Hsh)=>x.toList:=⟨_,rfl⟩
      have hrowl:row.length=r.length:=by rw[hrow];simp
      have hrr:(rowsOf L.entries)[k+1]?=some row:=by rw[rowsOf_succ L.entries k (by have:=HNL2.o;omega),hrow,hre]
      have hrl:r.length≤1048576:=by rw[hre,levelRow_len];have:=Nat.div_le_self L.entries.length (4 ^ k);omega
      have hk0:(0:Int)≤(k:Int):=by omega
      have HRR:=zh hrr
      have HROW:=zh hrow
      have HRL:=zh hrowl
      have HR0:=zh hr
      have HVK:=zh hvk
      clear hkl hvsl hr hvk hown hlr hre hrow hrowl hrr
      go_wp2_with fail
      obtain⟨W2,hW2⟩:∃ W2,W2=wr.alloc (.cells #[.slice ak r.length ck] 104):=⟨_,rfl⟩
      rw[←hW2]
      have hb2:Below wr.heap.size wr W2:=by rw[hW2];exact below_alloc _ _
      have hph:W2.heap[wr.heap.size]?=some (.cells #[.slice ak r.length ck] 104 (0,0)):=by rw[hW2];exact heap_alloc_new _ _
      have hP2:=HP.o.below hb2
      have hV2:=HV.o.below hb2
      have hkb:k≤12:=by have:=nLev_small hn;omega
      have hpout:¬ bothS g gd v1 (.slice ae L.entries.length ce) vl vp1 vs wr.heap.size:=fun hk'=>by
       have:=bothS_lt HP.o.log HP.o.disk hk'
       omega
      have hwr:=write_any f W2 g gd v1 (.slice ae L.entries.length ce) vl vp1 vs d1 { L with put:=ps } hP2.log hP2.disk (HE.o.step hP2.fr hP2.subw) (k:Int) (k+1) (by omega) (by omega) (by show ps.length≤_;have:=HM2.o.1;rw[rowsOf_len] at this;have:=nLev_small hn;omega) row (by rw[HRL.o];exact hrl)
       (fun a ha=>HM2.o.2 (k+1) a row ha HRR.o) (fun x hx=>by rw[HROW.o] at hx;obtain⟨e,he,rfl⟩:=List.mem_map.1 hx;simp) (pub_bd hdc hc hkb) (pub_bd hdf (by have:=HFL.o;exact this) hkb)
       80 wr.heap.size (enters_of func80 (by kernel_rfl) rfl) (fun w1 vp1' ps' hl hfr j hj=>by
        have hcw:w1.cell? ⟨wr.heap.size,0,none⟩=some (.slice ak r.length ck):=cell_heap (hfr.heap hph hpout) 0 rfl
        have hp3:=pub3_any w1 wr.heap.size _ r hcw (hl.each k _ r HVK.o HR0.o) j (by rw[←HRL.o];exact hj) hrl
        rw[←HROW.o,←HRL.o] at hp3
        exact hp3)
      rw[HRL.o] at hwr
      refine hwr.mono ?_
      rintro e w5 hw5
      obtain⟨u,rfl,hu⟩:=writePost_ret hw5
      have HST5:=zh (pub_next (k:=k+1) hP2 hV2 HM2.o HRR.o (by rw[HRL.o];exact hrl) HJ.o (by omega) hw5 hdc hdf HPL.o)
      obtain⟨jz1,jz2⟩:(∃ c,w5.cell? ⟨pl+1+1,0,none⟩=some c)∧w5.frozen? ⟨pl+1+1,0,none⟩=false:=by
       obtain⟨_,_,_,_,_,_,hwk,_⟩:=hw5
       have h3:=hP2.keeps hwk.fr (b:=pl+1+1) (by rw[HPL.o];omega) (by omega) hV2.e
       exact⟨⟨_,cell_heap h3 0 rfl⟩,frozen_heap h3 0⟩
      obtain⟨jc0,jz1⟩:=jz1
      clear hw5 hwr hP2 hV2 hph hW2 hb2 hpout
      rcases hu with rfl|⟨tu,xu,rfl⟩
      ·go_wp2_with fail
       go_roundg (nLev L.entries.length+1-(k+1))
       case measure=>have:=HNL2.o;omega
       case rel=>exact⟨k+1,by have:=HNL2.o;omega,by omega,by go_num,HST5.o⟩
      ·go_wp2_with fail
       go_roundg (nLev L.entries.length+1-(k+1))
       case measure=>have:=HNL2.o;omega
       case rel=>exact⟨k+1,by have:=HNL2.o;omega,by omega,by go_num,HST5.o⟩
     ·have hltz:¬ (k:Int)<(nl:Int):=by omega
      have hfin:pubJ 0 (rowsOf L.entries) L.put d=(d1,ps,none):=by
       rw[HJ.o,pubJ_out]
       rw[rowsOf_len]
       have:=HNL2.o
       omega
      have HFIN:=zh hfin
      have hnn:=neq_nils wr
      have jc2:=HP.o.log.heads.1.2.2.1
      have hbs0:=HP.o.log.ents.at
      clear hfin
      obtain⟨ln,hln⟩:∃ ln,ln=L.entries.length:=⟨_,rfl⟩
      have hlnb:ln≤1048576:=by omega
      have jc2':wr.cell? ⟨g,2,none⟩=some (.slice ae ln ce):=by rw[hln];exact jc2
      have hbs1:BssAt wr (.slice ae ln ce) L.entries:=by rw[hln];exact hbs0
      have HBS:=zh hbs1
      have HLN:=zh hln
      have hbs:∀ l∈L.entries,l.length≤9223372036854775807:=fun l hl=>by have:=HS.o l hl;omega
      have HBL:=zh hbs
      clear hln jc2 hbs hbs0 hbs1
      go_upto_region 12 with fail
      go_cut [6] from 51 to 61 (fun s6 wx=>∃ q6,s6=.pointer (some ⟨q6,0,none⟩)∧Aside (TrAt wx q6 ln (rootOf L.entries))∧Aside (Below wr.heap.size wr wx)∧wr.heap.size≤q6)
      case first=>
       have hne1:¬ pl=wr.heap.size:=by omega
       have j1d:wr.drew.cell? ⟨pl,0,none⟩=some (.pointer (some ⟨g,0,none⟩)):=j1
       have j2d:wr.drew.cell? ⟨g,2,none⟩=some (.slice ae ln ce):=jc2'
       have ja1:(wr.alloc (.cells #[.int .i64 0,.int .u8 0,.int .u8 0,.int .u8 0,.int .u8 0,.int .u8 0,.int .u8 0,.int .u8 0,.int .u8 0] 111)).drew.cell? ⟨pl,0,none⟩=some (.pointer (some ⟨g,0,none⟩)):=((below_alloc wr _).cell (p:=⟨pl,0,none⟩) hpb1).trans j1
       have ja2:(wr.alloc (.cells #[.int .i64 0,.int .u8 0,.int .u8 0,.int .u8 0,.int .u8 0,.int .u8 0,.int .u8 0,.int .u8 0,.int .u8 0] 111)).drew.cell? ⟨g,2,none⟩=some (.slice ae ln ce):=((below_alloc wr _).cell (p:=⟨g,2,none⟩) jg).trans jc2'
       have hne2:¬ g=wr.heap.size:=by omega
       go_region_held3 (fun w'=>w'.cell? ⟨pl,0,none⟩=some (.pointer (some ⟨g,0,none⟩))∧w'.cell? ⟨g,2,none⟩=some (.slice ae ln ce)) (first|with_reducible exact⟨j1d,j2d⟩|with_reducible exact⟨m1,m2⟩|with_reducible exact⟨ja1,ja2⟩|with_reducible exact⟨mz1,mz2⟩|with_reducible exact⟨(tr_sfr w7 _ _ _).cell m1 hne1,(tr_sfr w7 _ _ _).cell m2 hne2⟩|exact⟨((below_alloc w7 _).cell (p:=⟨pl,0,none⟩) mb1).trans m1,((below_alloc w7 _).cell (p:=⟨g,2,none⟩) mb2).trans m2⟩) (first|(go_at_call 69;refine (troot_any _ L.entries _ (HBS.o.below (below_drew wr)) hn HBL.o).mono ?_;rintro e w7 ⟨rfl,hb7⟩;have HB7:=zh (show Below wr.heap.size wr w7 from (below_drew wr).trans hb7);have m1:=(HB7.o.cell (p:=⟨pl,0,none⟩) hpb1).trans j1;have m2:=(HB7.o.cell (p:=⟨g,2,none⟩) jg).trans jc2';have mb1:=Nat.lt_of_lt_of_le hpb1 HB7.o.size;have mb2:=Nat.lt_of_lt_of_le jg HB7.o.size;have mz1:(w7.alloc (.cells #[.int .i64 0,.int .u8 0,.int .u8 0,.int .u8 0,.int .u8 0,.int .u8 0,.int .u8 0,.int .u8 0,.int .u8 0] 111)).cell? ⟨pl,0,none⟩=some (.pointer (some ⟨g,0,none⟩)):=((below_alloc w7 _).cell (p:=⟨pl,0,none⟩) mb1).trans m1;have mz2:(w7.alloc (.cells #[.int .i64 0,.int .u8 0,.int .u8 0,.int .u8 0,.int .u8 0,.int .u8 0,.int .u8 0,.int .u8 0,.int .u8 0] 111)).cell? ⟨g,2,none⟩=some (.slice ae ln ce):=((below_alloc w7 _).cell (p:=⟨g,2,none⟩) mb2).trans m2;clear hb7)|(go_at_call 69;refine (troot_any _ L.entries _ ((HBS.o.below (below_drew wr)).below (below_alloc _ _)) hn HBL.o).mono ?_;rintro e w7 ⟨rfl,hb7⟩;have HB7:=zh (show Below wr.heap.size wr w7 from ((below_drew wr).alloc (Nat.le_refl _) _).trans (hb7.mono (by simp)));have m1:=(HB7.o.cell (p:=⟨pl,0,none⟩) hpb1).trans j1;have m2:=(HB7.o.cell (p:=⟨g,2,none⟩) jg).trans jc2';have mb1:=Nat.lt_of_lt_of_le hpb1 HB7.o.size;have mb2:=Nat.lt_of_lt_of_le jg HB7.o.size;have mz1:(w7.alloc (.cells #[.int .i64 0,.int .u8 0,.int .u8 0,.int .u8 0,.int .u8 0,.int .u8 0,.int .u8 0,.int .u8 0,.int .u8 0] 111)).cell? ⟨pl,0,none⟩=some (.pointer (some ⟨g,0,none⟩)):=((below_alloc w7 _).cell (p:=⟨pl,0,none⟩) mb1).trans m1;have mz2:(w7.alloc (.cells #[.int .i64 0,.int .u8 0,.int .u8 0,.int .u8 0,.int .u8 0,.int .u8 0,.int .u8 0,.int .u8 0,.int .u8 0] 111)).cell? ⟨g,2,none⟩=some (.slice ae ln ce):=((below_alloc w7 _).cell (p:=⟨g,2,none⟩) mb2).trans m2;have HT7:=zh (TrAt.below (show TrAt (wr.drew.alloc (.cells (trC 0 zero8) 111)) wr.heap.size 0 zero8 from heap_alloc_new wr.drew _) hb7);have ⟨n0,n1,n2,n3,n4,n5,n6,n7,n8⟩:=HT7.o.cells;have nf:=(fun i=>frozen_heap HT7.o i:∀ i,w7.frozen? ⟨wr.heap.size,i,none⟩=false);have nb:=lt_of_heap HT7.o;clear hb7))
       all_goals (
        go_wp2_with fail
        go_meet
        show ∃ q6,_∧Aside (TrAt _ q6 ln (rootOf L.entries))∧Aside (Below wr.heap.size wr _)∧wr.heap.size≤q6
        first
         | (
           refine⟨w7.heap.size,rfl,?_,?_,HB7.o.size⟩
           ·show TrAt _ _ _ _
            generalize rootOf L.entries=rt
            exact heap_alloc_new w7 _
           ·show Below _ _ _
            exact HB7.o.alloc HB7.o.size _)
         | (
           refine⟨wr.heap.size,rfl,?_,?_,Nat.le_refl _⟩
           ·show TrAt _ _ _ _
            generalize rootOf L.entries=rt
            exact tr_stores HT7.o ln rt
           ·show Below _ _ _
            generalize rootOf L.entries=rt
            exact HB7.o.trans ((tr_sfr w7 wr.heap.size ln rt).below HB7.o.size fun k hk e=>by omega)))
      case rest=>
       obtain⟨q6,rfl,HT6,HB6,hq6⟩:=hcut
       have hP6:=HP.o.below HB6.o
       have hV6:=HV.o.below HB6.o
       obtain⟨rt,hrt⟩:∃ rt,rt=rootOf L.entries:=⟨_,rfl⟩
       have hT6:TrAt wc q6 ln rt:=by rw[hrt];exact HT6.o
       have hPd:=hP6.below (below_drew wc)
       have hVd:=hV6.below (below_drew wc)
       have hTd:=hT6.below (below_drew wc)
       obtain⟨cp,hcp⟩:∃ cp,cp=cpOf L.entries L.key:=⟨_,rfl⟩
       have hsg:=fsign_any ln rt L.key wc.drew (by omega) hkey (HE.o.step hPd.fr hPd.subw).num
       rw[show sOf (signOf ln rt L.key.data.toList)=cp by rw[hcp,hrt,HLN.o];rfl] at hsg
       have hdout:∀ k,dkS gd v1 k→k<wr.heap.size:=fun k hk=>bothS_lt HP.o.log HP.o.disk (.inl hk)
       have hdplo:¬ dkS gd v1 pl:=fun hk=>HP.o.o (b:=pl) (by have:=HPL.o;omega) (by omega) (.inl hk)
       have hc12:=pub_bd hdc hc (by have:=nLev_small hn;have:=HNL2.o;omega)
       have hf12:=pub_bd hdf HFL.o (by have:=nLev_small hn;have:=HNL2.o;omega)
       have HSG:=zh hsg
       have HPD:=zh hPd
       have HVD:=zh hVd
       have HTD:=zh hTd
       have HDO:=zh hdout
       have HDP:=zh hdplo
       have HCP:=zh hcp
       have hpl0:w.heap.size≤pl:=by rw[HPL.o];exact Nat.le_refl _
       have hpl1:w.heap.size≤pl+1:=Nat.le_succ_of_le hpl0
       have hpl2:w.heap.size≤pl+1+1:=Nat.le_succ_of_le hpl1
       have hpl3:pl<pl+3:=by omega
       have hpl4:pl+1<pl+3:=by omega
       have hpl5:pl+1+1<pl+3:=by omega
       have hq6n:¬ dkS gd v1 q6:=fun hk=>by have:=HDO.o q6 hk;omega
       have za:=(hVd).cells.1
       have zb:=(hPd.log).heads.1.1
       have zc:=(hPd.log).heads.1.2.1
       have ⟨z0,z1,z2,z3,z4,z5,z6,z7,z8⟩:=(hTd).cells
       clear hP6 hV6 hT6 hPd hVd hTd hcp hrt hsg hdout hdplo
       go_upto_region 13 with fail
       go_cut [7] from 62 to 75 (fun s7 wx=>∃ v2,Aside (Pk w (pl+3) g gd v (.slice ae L.entries.length ce) vl vp vs L v2 vp1 (swapD d1 (sOf kCp) cp) ps wx)∧Aside (Vars wx g pl 0 .nilIface)∧wx.cell? ⟨q6,0,none⟩=some (.int .i64 ln)∧Aside (∃ bs,w.heap.size≤bs∧MayErr wx bs (decide (0<enterK d1)) s7))
       case first=>
        rw[cvPub_eq]
        go_region_held3 (fun w'=>w'.cell? ⟨pl,0,none⟩=some (.pointer (some ⟨g,0,none⟩))∧w'.cell? ⟨g,0,none⟩=some (.iface 25 (.pointer (some ⟨gd,0,none⟩)))∧w'.cell? ⟨g,1,none⟩=some (.string L.key)∧w'.cell? ⟨q6,0,none⟩=some (.int .i64 ln)∧w'.cell? ⟨q6,1,none⟩=some (bv rt[0])∧w'.cell? ⟨q6,2,none⟩=some (bv rt[1])∧w'.cell? ⟨q6,3,none⟩=some (bv rt[2])∧w'.cell? ⟨q6,4,none⟩=some (bv rt[3])∧w'.cell? ⟨q6,5,none⟩=some (bv rt[4])∧w'.cell? ⟨q6,6,none⟩=some (bv rt[5])∧w'.cell? ⟨q6,7,none⟩=some (bv rt[6])∧w'.cell? ⟨q6,8,none⟩=some (bv rt[7])) (first|with_reducible exact⟨za,zb,zc,z0,z1,z2,z3,z4,z5,z6,z7,z8⟩|with_reducible exact⟨ya,yb,yc,y0,y1,y2,y3,y4,y5,y6,y7,y8⟩|with_reducible exact⟨xa,xb,xc,x0,x1,x2,x3,x4,x5,x6,x7,x8⟩|with_reducible exact⟨va,vb,vc,v0,v1',v2',v3',v4',v5',v6',v7',v8'⟩) (first|(go_at_call 81;refine HSG.o.mono ?_;rintro e w7 ⟨rfl,hb7⟩;have HP7:=zh (HPD.o.below hb7);have HV7:=zh (HVD.o.below hb7);have HT7:=zh (HTD.o.below hb7);have ya:=(HV7.o).cells.1;have yb:=(HP7.o.log).heads.1.1;have yc:=(HP7.o.log).heads.1.2.1;have ⟨y0,y1,y2,y3,y4,y5,y6,y7,y8⟩:=(HT7.o).cells;obtain⟨b8,c8,w8,hcv,hob,hb8⟩:=run_sb w7 cp;have HP8:=zh (HP7.o.below hb8);have HV8:=zh (HV7.o.below hb8);have HT8:=zh (HT7.o.below hb8);have HOB:=zh hob;have xa:=(HV8.o).cells.1;have xb:=(HP8.o.log).heads.1.1;have xc:=(HP8.o.log).heads.1.2.1;have ⟨x0,x1,x2,x3,x4,x5,x6,x7,x8⟩:=(HT8.o).cells;clear hb7 hb8 hob)|(go_at_call 251;refine (swap_any w8 gd v1 d1 HP8.o.disk (sOf kCp) _ _ HOB.o.at (Nat.lt_trans hc12 (by decide)) (Nat.lt_trans hf12 (by decide))).mono ?_;rintro e w9 ⟨u,rfl,hme,v2,hd9,hf9,hm9⟩;rw[show (ByteArray.mk cp.data.toList.toArray)=cp from sOf_self cp] at hd9;have HME:=zh hme;have HP9:=zh (HP8.o.write (HP8.o.wk.put hd9 hf9 hm9 (Nat.le_refl _)));have HV9:=zh (⟨hf9.heap HV8.o.l (fun hk=>HP8.o.o (b:=pl) hpl0 hpl3 (.inl hk)),hf9.heap HV8.o.n (fun hk=>HP8.o.o (b:=pl+1) hpl1 hpl4 (.inl hk)),hf9.heap HV8.o.e (fun hk=>HP8.o.o (b:=pl+1+1) hpl2 hpl5 (.inl hk))⟩:Vars w9 g pl 0 .nilIface);have HT9:=zh (show TrAt w9 q6 ln rt from hf9.heap HT8.o hq6n);have HF9:=zh hf9;have va:=HV9.o.cells.1;have vb:=HP9.o.log.heads.1.1;have vc:=HP9.o.log.heads.1.2.1;have ⟨v0,v1',v2',v3',v4',v5',v6',v7',v8'⟩:=HT9.o.cells;clear hme hd9 hf9 hm9))
        all_goals (
         go_wp2_with fail
         go_meet
         have hw8:w.heap.size≤w8.heap.size:=HP8.o.fr.size
         exact⟨v2,HP9.o,HV9.o,v0,⟨w8.heap.size,hw8,HME.o⟩⟩)
       case rest=>
        obtain⟨v2,HPA,HVA,hq60,HMA⟩:=hcut
        have hma:=HMA.o
        obtain⟨bs,hbs,hma⟩:=hma
        obtain⟨y1,y2,y3,yf2,yf3⟩:=HVA.o.cells
        have hqb:=cell_lt hq60
        have ya:=lt_of_heap HVA.o.l
        have yb:=lt_of_heap HVA.o.n
        have yc:=lt_of_heap HVA.o.e
        clear HMA
        rcases Nat.eq_zero_or_pos (enterK d1) with h0|h0
        ·have hu7:u7=.nilIface:=by
          unfold MayErr at hma
          rw[if_neg (by simp[h0])] at hma
          exact hma
         subst hu7
         have hnn7:=neq_nils wc
         clear hma
         go_wp2_with fail
         have hW1:=(HPA.o.var (b:=pl+1) hpl1 hpl4 HVA.o.n (by decide) (Fr.set1 wc (pl+1) 0 (.int .i64 ln))).var (b:=pl+1+1) hpl2 hpl5 (HVA.o.num ln).e (by decide) (Fr.set1 (wc.setCell ⟨pl+1,0,none⟩ (.int .i64 ln)) (pl+1+1) 0 .nilIface)
         have hVW:=(HVA.o.num ln).err .nilIface
         have hQ:pubD L.entries L.key L.put d=(swapD d1 (sOf kCp) cp,ps,none):=by
          unfold pubD
          rw[HFIN.o,HCP.o]
          simp[h0]
         have hVW2:Vars ((wc.setCell ⟨pl+1,0,none⟩ (.int .i64 ln)).setCell ⟨pl+1+1,0,none⟩ .nilIface) g pl (L.entries.length:Int) .nilIface:=by
          have e:(L.entries.length:Int)=(ln:Int):=by rw[HLN.o]
          rw[e]
          exact hVW
         exact pub_door_fine hW1 hVW2 HFD.o hQ rfl rfl
        ·have hme:OwnErr wc bs u7:=by
          unfold MayErr at hma
          rw[if_pos (by simpa using h0)] at hma
          exact hma
         obtain⟨q,nn,rfl,hq,hh⟩:=hme
         have hnn7:=neq_nil wc 152 (.pointer (some ⟨q,0,none⟩))
         have HH:=zh hh
         clear hma hh
         go_wp2_with (go_at_call 65;refine (at_any _ _ _ _).mono ?_;rintro e wA ⟨u,rfl,⟨r,rfl,hr,hhr⟩,hbA⟩;have HR:=zh hhr;have HBA:=zh hbA;have HPB:=zh (HPA.o.below hbA);have HVB:=zh (HVA.o.below hbA);have ⟨t1,t2,t3,tf2,tf3⟩:=HVB.o.cells;clear hhr hbA)
         have hW1:=(HPB.o.var (b:=pl+1) hpl1 hpl4 HVB.o.n (by decide) (Fr.set1 wA (pl+1) 0 (.int .i64 0))).var (b:=pl+1+1) hpl2 hpl5 (HVB.o.num 0).e (by decide) (Fr.set1 (wA.setCell ⟨pl+1,0,none⟩ (.int .i64 0)) (pl+1+1) 0 (.iface 153 (.pointer (some ⟨r,0,none⟩))))
         have hVW:=(HVB.o.num 0).err (.iface 153 (.pointer (some ⟨r,0,none⟩)))
         have hQ:pubD L.entries L.key L.put d=(swapD d1 (sOf kCp) cp,ps,some (sOf kCp)):=by
          unfold pubD
          rw[HFIN.o,HCP.o]
          simp[h0]
         have hhA:wA.heap[q]?=some (.cells #[.int .i64 nn] 366 (0,0)):=(HBA.o.block _ (lt_of_heap HH.o)).trans HH.o
         have hrA:wA.heap[r]?=some (.cells #[.string (sOf kCp),.iface 152 (.pointer (some ⟨q,0,none⟩))] 155 (0,0)):=HR.o
         have hh1:=(Fr.set1 wA (pl+1) 0 (.int .i64 0)).heap hhA fun e=>by subst e;have:=HVB.o.n;rw[hhA] at this;simp at this
         have hh2:=(Fr.set1 (wA.setCell ⟨pl+1,0,none⟩ (.int .i64 0)) (pl+1+1) 0 (.iface 153 (.pointer (some ⟨r,0,none⟩)))).heap hh1 fun e=>by subst e;have:=HVB.o.e;rw[hhA] at this;simp at this
         have hr1:=(Fr.set1 wA (pl+1) 0 (.int .i64 0)).heap hrA fun e=>by subst e;have:=HVB.o.n;rw[hrA] at this;simp at this
         have hr2:=(Fr.set1 (wA.setCell ⟨pl+1,0,none⟩ (.int .i64 0)) (pl+1+1) 0 (.iface 153 (.pointer (some ⟨r,0,none⟩)))).heap hr1 fun e=>by subst e;have:=HVB.o.e;rw[hrA] at this;simp at this
         have hwc:w.heap.size≤wc.heap.size:=HPA.o.fr.size
         exact pub_door_err hW1 hVW HPL.o hg (Nat.le_trans hwc hr) (Nat.le_trans hbs hq) hh2 hr2 HFD.o hQ rfl rfl
    ·have hee:=eql_nil wr 153 (.pointer (some ⟨r,0,none⟩))
     have hne:=neq_nil wr 153 (.pointer (some ⟨r,0,none⟩))
     have HJ:=zh hJ
     have HU:=zh hhu
     have HR:=zh hhr
     clear hJ hhu hhr
     by_cases hlt:k<nl
     ·have hltz:(k:Int)<(nl:Int):=by omega
      go_upto_region 11 with fail
      go_region
      all_goals (
       go_wp2
       have hW1:=((HP.o.var (b:=pl+1) (by have:=HPL.o;omega) (by omega) HV.o.n (by decide) (Fr.set1 wr (pl+1) 0 (.int .i64 0))).var (b:=pl+1+1) (by have:=HPL.o;omega) (by omega) (HV.o.num 0).e (by decide) (Fr.set1 (wr.setCell ⟨pl+1,0,none⟩ (.int .i64 0)) (pl+1+1) 0 (.iface 153 (.pointer (some ⟨r,0,none⟩))))).below (below_drew _)
       have hVW:=((HV.o.num 0).err (.iface 153 (.pointer (some ⟨r,0,none⟩)))).below (below_drew _)
       have hh1:=(Fr.set1 wr (pl+1) 0 (.int .i64 0)).heap HU.o fun e=>by subst e;have:=HV.o.n;rw[HU.o] at this;simp at this
       have hh2:=(Fr.set1 (wr.setCell ⟨pl+1,0,none⟩ (.int .i64 0)) (pl+1+1) 0 (.iface 153 (.pointer (some ⟨r,0,none⟩)))).heap hh1 fun e=>by subst e;have:=HV.o.e;rw[HU.o] at this;simp at this
       have hr1:=(Fr.set1 wr (pl+1) 0 (.int .i64 0)).heap HR.o fun e=>by subst e;have:=HV.o.n;rw[HR.o] at this;simp at this
       have hr2:=(Fr.set1 (wr.setCell ⟨pl+1,0,none⟩ (.int .i64 0)) (pl+1+1) 0 (.iface 153 (.pointer (some ⟨r,0,none⟩)))).heap hr1 fun e=>by subst e;have:=HV.o.e;rw[HR.o] at this;simp at this
       exact pub_door_err hW1 hVW HPL.o hg hr hu hh2 hr2 HFD.o (by unfold pubD;rw[HJ.o]) rfl rfl)
     ·have hltz:¬ (k:Int)<(nl:Int):=by omega
      go_upto_region 11 with fail
      go_region
      all_goals (
       go_wp2
       have hW1:=((HP.o.var (b:=pl+1) (by have:=HPL.o;omega) (by omega) HV.o.n (by decide) (Fr.set1 wr (pl+1) 0 (.int .i64 0))).var (b:=pl+1+1) (by have:=HPL.o;omega) (by omega) (HV.o.num 0).e (by decide) (Fr.set1 (wr.setCell ⟨pl+1,0,none⟩ (.int .i64 0)) (pl+1+1) 0 (.iface 153 (.pointer (some ⟨r,0,none⟩))))).below (below_drew _)
       have hVW:=((HV.o.num 0).err (.iface 153 (.pointer (some ⟨r,0,none⟩)))).below (below_drew _)
       have hh1:=(Fr.set1 wr (pl+1) 0 (.int .i64 0)).heap HU.o fun e=>by subst e;have:=HV.o.n;rw[HU.o] at this;simp at this
       have hh2:=(Fr.set1 (wr.setCell ⟨pl+1,0,none⟩ (.int .i64 0)) (pl+1+1) 0 (.iface 153 (.pointer (some ⟨r,0,none⟩)))).heap hh1 fun e=>by subst e;have:=HV.o.e;rw[HU.o] at this;simp at this
       have hr1:=(Fr.set1 wr (pl+1) 0 (.int .i64 0)).heap HR.o fun e=>by subst e;have:=HV.o.n;rw[HR.o] at this;simp at this
       have hr2:=(Fr.set1 (wr.setCell ⟨pl+1,0,none⟩ (.int .i64 0)) (pl+1+1) 0 (.iface 153 (.pointer (some ⟨r,0,none⟩)))).heap hr1 fun e=>by subst e;have:=HV.o.e;rw[HR.o] at this;simp at this
       exact pub_door_err hW1 hVW HPL.o hg hr hu hh2 hr2 HFD.o (by unfold pubD;rw[HJ.o]) rfl rfl)
end
end
section
open Go.RowKit Go.Extern.Stop Go.Stop Go.Extern
theorem isTypeOf (v:Value) (w:World):(Extern.ReflectliteType.typeOf #[.iface 338 v]).run prog w=.ok (.iface 282 (.agg #[.pointer (some ⟨17,338,none⟩)])) w:=by kernel_rfl
theorem isComparable (w:World):((Extern.ReflectliteType.method fun t=>do Extern.Rtype.noPackHeld "Comparable" t;Functor.map (fun a=>Value.bool a.comparable) (typeInfo t)) #[.agg #[.pointer (some ⟨17,338,none⟩)]]).run prog w=.ok (.bool true) w:=by kernel_rfl
theorem methodComparable (n:Nat) (h:Value) (w:World):(Go.method (n+1) 282 (.agg #[h]) "Comparable").run prog w=.ok (263,.agg #[h]) w:=by kernel_rfl
theorem methodUnwrap (n:Nat) (v:Value) (w:World):(Go.method (n+1) 153 v "Unwrap").run prog w=.ok (257,v) w:=by kernel_rfl
theorem isComp:(prog.info? 338).map (·.comparable)=some true:=by kernel_rfl
theorem isSize:(prog.info? 340).map (·.size)=some 1:=by kernel_rfl
theorem pathNoIs (v:Value) (xT:TypeId) (w:World):(Instr.typeAssert (.iface 153 v) xT 284 true).run prog w=.ok (.tuple #[.nilIface,.bool false]) w:=run_typeAssert_lacksB underlying284 (by kernel_rfl) (by kernel_rfl) v xT w
theorem pathHasUnwrap (v:Value) (xT:TypeId) (w:World):(Instr.typeAssert (.iface 153 v) xT 287 true).run prog w=.ok (.tuple #[.iface 153 v,.bool true]) w:=run_typeAssert_hasB underlying287 (by kernel_rfl) v xT w
theorem unwrap_any (w:World) (r:Nat) (x:Value) (h1:w.cell? ⟨r,1,none⟩=some x):Calls prog 257 #[.pointer (some ⟨r,0,none⟩)] w fun e w'=>e=.returned x∧w'=w:=by
 go_enter func257,ntmps257
 go_wp2
 go_ret
 exact⟨rfl,rfl⟩
theorem isw_path (a:Addr) (r:Nat) (w:World) (h1:w.cell? ⟨r,1,none⟩=some (.iface 338 (.pointer (some a)))) :
  Calls prog 131 #[.iface 153 (.pointer (some ⟨r,0,none⟩)),.iface 338 (.pointer (some a)),.bool true] w fun e w'=>e=.returned (.bool true)∧w'=w:=by
 obtain⟨i,hi,hcmp⟩:=Option.map_eq_some_iff.1 isComp
 obtain⟨j,hj,hjs⟩:=Option.map_eq_some_iff.1 isSize
 have nP:=pathNoIs
 have uP:=pathHasUnwrap
 have mU:=methodUnwrap
 have heq:=run_eql_iface_ptr_same (P:=prog) w a underlying88 underlying338 hi hcmp hj
 have hty:=run_eql_iface_types (P:=prog) 153 338 (.pointer (some ⟨r,0,none⟩)) (.pointer (some a)) underlying88 (by decide) w
 have hnl:=neq_nil w 338 (.pointer (some a))
 have hql:=eql_nil w 338 (.pointer (some a))
 go_enter func131,ntmps131
 go_wp2_with fail
 refine wp_loop_rounds 2 ?_
 rw[rounds_succ]
 go_wp2_with (go_at_call 257;refine (unwrap_any w r _ h1).mono ?_;rintro e w2 ⟨rfl,rfl⟩)
 rw[rounds_succ]
 go_wp2
 go_ret
 exact⟨rfl,rfl⟩
theorem is_path (a:Addr) (r:Nat) (w:World) (h1:w.cell? ⟨r,1,none⟩=some (.iface 338 (.pointer (some a)))) :
  Calls prog 73 #[.iface 153 (.pointer (some ⟨r,0,none⟩)),.iface 338 (.pointer (some a))] w fun e w'=>e=.returned (.bool true)∧w'=w:=by
 obtain⟨i,hi,hcmp⟩:=Option.map_eq_some_iff.1 isComp
 obtain⟨j,hj,hjs⟩:=Option.map_eq_some_iff.1 isSize
 have h8:=@run_callFunc_extern prog 130 _ Extern.ReflectliteType.typeOf func130 (by kernel_rfl) (by kernel_rfl) (by kernel_rfl) (by kernel_rfl)
 have h32:=@run_callFunc_extern prog 263 _ (Extern.ReflectliteType.method fun t=>do Extern.Rtype.noPackHeld "Comparable" t;pure (.bool (←typeInfo t).comparable)) func263 (by kernel_rfl) (by kernel_rfl) (by kernel_rfl) (by kernel_rfl)
 have tT:=isTypeOf
 have cT:=isComparable
 have mR:=methodComparable
 have mU:=methodUnwrap
 have nP:=pathNoIs
 have uP:=pathHasUnwrap
 have heq:=run_eql_iface_ptr_same (P:=prog) w a underlying88 underlying338 hi hcmp hj
 have hty:=run_eql_iface_types (P:=prog) 153 338 (.pointer (some ⟨r,0,none⟩)) (.pointer (some a)) underlying88 (by decide) w
 go_enter func73,ntmps73
 go_wp2_with fail
 refine (isw_path a r w h1).mono ?_
 rintro e w2 ⟨rfl,rfl⟩
 go_wp2
 go_ret
 exact⟨rfl,rfl⟩
theorem valueOfT (t:Addr) (w:World):(ReflectliteValue.unpack (.iface 158 (.pointer (some t)))).run prog w
  = .ok (.agg #[.pointer (some ⟨17,158,none⟩),.pointer (some ⟨w.heap.size,0,none⟩),.int .u64 150]) (w.alloc (.cells #[.pointer (some t)] 158)):=by kernel_rfl
theorem typeOfV (a:Addr) (w:World):(ReflectliteValue.methodAny (ReflectliteValue.valueError "reflectlite.Value.Type" 0) (fun t _ _ _=>ReflectliteType.toType t) #[.agg #[.pointer (some ⟨17,158,none⟩),.pointer (some a),.int .u64 150]]).run prog w
  = .ok (.iface 282 (.agg #[.pointer (some ⟨17,158,none⟩)])) w:=by kernel_rfl
theorem kindPP (w:World):((ReflectliteType.abiMethod fun t=>Functor.map (fun a:Nat=>Value.int IntKind.u8 (a:Int)) (Rtype.kind t)) #[.pointer (some ⟨17,158,none⟩)]).run prog w=.ok (.int .u8 22) w:=by kernel_rfl
theorem kindP (w:World):((ReflectliteType.abiMethod fun t=>Functor.map (fun a:Nat=>Value.int IntKind.u8 (a:Int)) (Rtype.kind t)) #[.pointer (some ⟨17,152,none⟩)]).run prog w=.ok (.int .u8 22) w:=by kernel_rfl
theorem rlm (z:Sem Value) (f:TypeId→Addr→Nat→Nat→Sem Value) (v:Value) :
  ReflectliteValue.method z f #[v]=(do match ←ReflectliteValue.parts v with|none=>z|some (t,a,fl)=>f t a fl (fl%32)):=rfl
theorem partsPP (a:Addr) (w:World):(ReflectliteValue.parts (.agg #[.pointer (some ⟨17,158,none⟩),.pointer (some a),.int .u64 150])).run prog w=.ok (some (158,a,150)) w:=by kernel_rfl
theorem isNilPP (a p:Addr) (W:World) (ha:W.cell? a=some (.pointer (some p))) :
  (ReflectliteValue.method (ReflectliteValue.valueError "reflectlite.Value.IsNil" 0) ReflectliteValue.isNil #[.agg #[.pointer (some ⟨17,158,none⟩),.pointer (some a),.int .u64 150]]).run prog W=.ok (.bool false) W:=by
 rw[rlm]
 simp only[Sem.run_bind,partsPP,Result.andThen]
 simp[ReflectliteValue.isNil,loadVar,isAgg,underlying,underlying158,ha,Result.andThen]
theorem methodKind (n:Nat) (h:Value) (w:World):(Go.method (n+1) 282 (.agg #[h]) "Kind").run prog w=.ok (246,h) w:=by kernel_rfl
theorem methodElem (n:Nat) (h:Value) (w:World):(Go.method (n+1) 282 (.agg #[h]) "Elem").run prog w=.ok (264,.agg #[h]) w:=by kernel_rfl
theorem methodAssignableTo (n:Nat) (h:Value) (w:World):(Go.method (n+1) 282 (.agg #[h]) "AssignableTo").run prog w=.ok (262,.agg #[h]) w:=by kernel_rfl
theorem methodImplements (n:Nat) (h:Value) (w:World):(Go.method (n+1) 282 (.agg #[h]) "Implements").run prog w=.ok (265,.agg #[h]) w:=by kernel_rfl
theorem elemPP (w:World):(ReflectliteType.method ReflectliteType.elem #[.agg #[.pointer (some ⟨17,158,none⟩)]]).run prog w=.ok (.iface 282 (.agg #[.pointer (some ⟨17,152,none⟩)])) w:=by kernel_rfl
theorem implementsP (w:World):(ReflectliteType.relation "Implements" ReflectliteType.implements_ #[.agg #[.pointer (some ⟨17,152,none⟩)],.iface 282 (.agg #[.pointer (some ⟨17,88,none⟩)])]).run prog w=.ok (.bool true) w:=by kernel_rfl
theorem typeOfPath (v:Value) (w:World):(ReflectliteType.typeOf #[.iface 153 v]).run prog w=.ok (.iface 282 (.agg #[.pointer (some ⟨17,153,none⟩)])) w:=by kernel_rfl
theorem typeOfOwn (v:Value) (w:World):(ReflectliteType.typeOf #[.iface 152 v]).run prog w=.ok (.iface 282 (.agg #[.pointer (some ⟨17,152,none⟩)])) w:=by kernel_rfl
theorem assignPath (w:World):(ReflectliteType.relation "AssignableTo" ReflectliteType.assignableTo #[.agg #[.pointer (some ⟨17,153,none⟩)],.iface 282 (.agg #[.pointer (some ⟨17,152,none⟩)])]).run prog w=.ok (.bool false) w:=by kernel_rfl
theorem assignOwn (w:World):(ReflectliteType.relation "AssignableTo" ReflectliteType.assignableTo #[.agg #[.pointer (some ⟨17,152,none⟩)],.iface 282 (.agg #[.pointer (some ⟨17,152,none⟩)])]).run prog w=.ok (.bool true) w:=by kernel_rfl
theorem valueOfOwn (e:Addr) (w:World):(ReflectliteValue.unpack (.iface 152 (.pointer (some e)))).run prog w
  = .ok (.agg #[.pointer (some ⟨17,152,none⟩),.pointer (some ⟨w.heap.size,0,none⟩),.int .u64 150]) (w.alloc (.cells #[.pointer (some e)] 152)):=by kernel_rfl
theorem elemOfPP (w:World):(Rtype.elem? 158).run prog w=.ok (some 152) w:=by kernel_rfl
theorem mkP (p:Addr) (w:World):(ReflectliteValue.mk 152 p ReflectliteValue.flagAddr).run prog w=.ok (.agg #[.pointer (some ⟨17,152,none⟩),.pointer (some p),.int .u64 406]) w:=by kernel_rfl
theorem elemV (a p:Addr) (W:World) (ha:W.cell? a=some (.pointer (some p))) :
  (ReflectliteValue.method (ReflectliteValue.valueError "reflectlite.Value.Elem" 0) ReflectliteValue.elem #[.agg #[.pointer (some ⟨17,158,none⟩),.pointer (some a),.int .u64 150]]).run prog W
   = .ok (.agg #[.pointer (some ⟨17,152,none⟩),.pointer (some p),.int .u64 406]) W:=by
 rw[rlm]
 simp only[Sem.run_bind,partsPP,Result.andThen]
 simp[ReflectliteValue.elem,loadVar,isAgg,underlying,underlying158,ha,Result.andThen,elemOfPP,mkP]
theorem rls (v x:Value):ReflectliteValue.set #[v,x]=(do
  let (some (dst,a,fl),some (src,b,_)):=(←ReflectliteValue.parts v,←ReflectliteValue.parts x)
   | unsupported (.noEntry "extern/(internal/reflectlite.Value).Set.zeroValue")
  if fl / ReflectliteValue.flagAddr%2 == 0 then unsupported (.noEntry "extern/(internal/reflectlite.Value).Set.unaddressable")
  let val ←loadVar src b
  if ←Rtype.directlyAssignable dst src then storeVar dst a val
  else if ←Rtype.implements dst src then
   if (←Rtype.kind src) == 20 then
    match val with
    | .nilIface=>unsupported (.noEntry "extern/reflectlite: a nil value of one interface type handed on as a value of another")
    | _=>storeVar dst a val
   else storeVar dst a (.iface src val)
  else panicString ("reflectlite.Set: value of type "++(←Rtype.spelt src) ++ " is not assignable to type "++(←Rtype.spelt dst))
  pure (.tuple #[])):=rfl
theorem partsPa (a:Addr) (w:World):(ReflectliteValue.parts (.agg #[.pointer (some ⟨17,152,none⟩),.pointer (some a),.int .u64 406])).run prog w=.ok (some (152,a,406)) w:=by kernel_rfl
theorem partsP (a:Addr) (w:World):(ReflectliteValue.parts (.agg #[.pointer (some ⟨17,152,none⟩),.pointer (some a),.int .u64 150])).run prog w=.ok (some (152,a,150)) w:=by kernel_rfl
theorem directP (w:World):(Rtype.directlyAssignable 152 152).run prog w=.ok true w:=by kernel_rfl
theorem setP (ta b e:Addr) (old:Value) (W:World) (hb:W.cell? b=some (.pointer (some e))) (ht:W.cell? ta=some old) (hf:W.frozen? ta=false) :
  (ReflectliteValue.set #[.agg #[.pointer (some ⟨17,152,none⟩),.pointer (some ta),.int .u64 406],.agg #[.pointer (some ⟨17,152,none⟩),.pointer (some b),.int .u64 150]]).run prog W
   = .ok (.tuple #[]) (W.setCell ta (.pointer (some e))):=by
 rw[rls]
 simp only[Sem.run_bind,partsPa,partsP,Result.andThen]
 simp[ReflectliteValue.flagAddr,loadVar,isAgg,underlying,underlying152,hb,Result.andThen,directP,storeVar,Value.cells,storeCells,Addr.add]
 rw[run_store prog W ta _ _ (by rfl)]
 simp[ht,hf]
end
section
open Go.RowKit Go.Extern.Stop Go.Stop Go.Extern
theorem pathNoAs (v:Value) (xT:TypeId) (w:World):(Instr.typeAssert (.iface 153 v) xT 293 true).run prog w=.ok (.tuple #[.nilIface,.bool false]) w:=run_typeAssert_lacksB underlying293 (by kernel_rfl) (by kernel_rfl) v xT w
abbrev rvT (b:Nat):Array Value:=#[.pointer (some ⟨17,158,none⟩),.pointer (some ⟨b,0,none⟩),.int .u64 150]
theorem asw_path (q r t:Nat) (w:World) (b:Nat) (old:Value) (hb:w.cell? ⟨b,0,none⟩=some (.pointer (some ⟨t,0,none⟩)))
  (h1:w.cell? ⟨r,1,none⟩=some (.iface 152 (.pointer (some ⟨q,0,none⟩)))) (ht0:w.cell? ⟨t,0,none⟩=some old) (hf0:w.frozen? ⟨t,0,none⟩=false) :
  Calls prog 135 #[.iface 153 (.pointer (some ⟨r,0,none⟩)),.iface 158 (.pointer (some ⟨t,0,none⟩)),.agg (rvT b),.iface 282 (.agg #[.pointer (some ⟨17,152,none⟩)])] w
   fun ev w'=>ev=.returned (.bool true)∧w'.cell? ⟨t,0,none⟩=some (.pointer (some ⟨q,0,none⟩))∧Fr (·=t) w w':=by
 have h6:=@run_callFunc_extern prog 132 _ (fun args=>ReflectliteValue.unpack (args.getD 0 (.tuple #[]))) func132 (by kernel_rfl) (by kernel_rfl) (by kernel_rfl) (by kernel_rfl)
 have h10:=@run_callFunc_extern prog 130 _ ReflectliteType.typeOf func130 (by kernel_rfl) (by kernel_rfl) (by kernel_rfl) (by kernel_rfl)
 have h35:=@run_callFunc_extern prog 262 _ (ReflectliteType.relation "AssignableTo" ReflectliteType.assignableTo) func262 (by kernel_rfl) (by kernel_rfl) (by kernel_rfl) (by kernel_rfl)
 have h11:=@run_callFunc_extern prog 172 _ (ReflectliteValue.method (ReflectliteValue.valueError "reflectlite.Value.Elem" 0) ReflectliteValue.elem) func172 (by kernel_rfl) (by kernel_rfl) (by kernel_rfl) (by kernel_rfl)
 have h12:=@run_callFunc_extern prog 173 _ ReflectliteValue.set func173 (by kernel_rfl) (by kernel_rfl) (by kernel_rfl) (by kernel_rfl)
 have tP:=typeOfPath
 have tO:=typeOfOwn
 have mA:=methodAssignableTo
 have aP:=assignPath
 have aO:=assignOwn
 have vO:=valueOfOwn
 have nA:=pathNoAs
 have uP:=pathHasUnwrap
 have mU:=methodUnwrap
 obtain⟨w3,hw3⟩:∃ w3,w3=w.alloc (.cells (rvT b) 231):=⟨_,rfl⟩
 have hB3:Below w.heap.size w w3:=by rw[hw3];exact below_alloc _ _
 have hs3:w3.heap.size=w.heap.size+1:=by rw[hw3];simp
 have htl:=cell_lt ht0
 have el:=elemV ⟨b,0,none⟩ ⟨t,0,none⟩ w3 ((hB3.cell (cell_lt hb)).trans hb)
 have hr3:=(hB3.cell (cell_lt h1)).trans h1
 have ht3:=(hB3.cell (cell_lt ht0)).trans ht0
 have st:=setP ⟨t,0,none⟩ ⟨w.heap.size+1,0,none⟩ ⟨q,0,none⟩ old (w3.alloc (.cells #[.pointer (some ⟨q,0,none⟩)] 152))
  (by rw[World.cell?_alloc_at _ _ _ _ hs3.symm];rfl)
  (((below_alloc w3 _).cell (cell_lt ht3)).trans ht3)
  (by rw[(below_alloc w3 _).frozen (cell_lt ht3),hB3.frozen htl];exact hf0)
 have hql:=eql_nil w3 152 (.pointer (some ⟨q,0,none⟩))
 have hl0:w3.cell? ⟨w.heap.size,0,none⟩=some (.pointer (some ⟨17,158,none⟩)):=by rw[hw3,World.cell?_alloc_at _ _ _ _ (by simp)];rfl
 have hl1:w3.cell? ⟨w.heap.size,1,none⟩=some (.pointer (some ⟨b,0,none⟩)):=by rw[hw3,World.cell?_alloc_at _ _ _ _ (by simp)];rfl
 have hl2:w3.cell? ⟨w.heap.size,2,none⟩=some (.int .u64 150):=by rw[hw3,World.cell?_alloc_at _ _ _ _ (by simp)];rfl
 have HW3:=zh hw3
 have HB3:=zh hB3
 go_enter func135,ntmps135
 go_wp2_with fail
 rw[←hw3]
 clear hw3 hB3
 refine wp_loop_rounds 2 ?_
 rw[rounds_succ]
 go_wp2_with (go_at_call 257;refine (unwrap_any w3 r _ hr3).mono ?_;rintro e w2 ⟨rfl,rfl⟩)
 rw[rounds_succ]
 go_wp2
 go_ret
 have hf:=((Fr.ofBelow HB3.o:Fr (·=t) w w2).setCell (p:=⟨t,0,none⟩) (fun _=>rfl) (.pointer (some ⟨q,0,none⟩)))
 refine⟨rfl,?_,hf.alloc _⟩
 refine (Below.cell (below_alloc _ _) (p:=⟨t,0,none⟩) ?_).trans ?_
 ·exact Nat.lt_of_lt_of_le htl hf.size
 ·exact World.cell?_setCell_same' _ _ _ (by rw[ht3];rfl)
end
section
open Go.RowKit Go.Extern.Stop Go.Stop Go.Extern
theorem as_path (q r t:Nat) (w:World) (old:Value) (hg:w.cell? ⟨7,0,none⟩=some (.iface 282 (.agg #[.pointer (some ⟨17,88,none⟩)])))
  (h1:w.cell? ⟨r,1,none⟩=some (.iface 152 (.pointer (some ⟨q,0,none⟩)))) (ht0:w.cell? ⟨t,0,none⟩=some old) (hf0:w.frozen? ⟨t,0,none⟩=false) :
  Calls prog 74 #[.iface 153 (.pointer (some ⟨r,0,none⟩)),.iface 158 (.pointer (some ⟨t,0,none⟩))] w
   fun ev w'=>ev=.returned (.bool true)∧w'.cell? ⟨t,0,none⟩=some (.pointer (some ⟨q,0,none⟩))∧Fr (·=t) w w':=by
 have h6:=@run_callFunc_extern prog 132 _ (fun args=>ReflectliteValue.unpack (args.getD 0 (.tuple #[]))) func132 (by kernel_rfl) (by kernel_rfl) (by kernel_rfl) (by kernel_rfl)
 have h7:=@run_callFunc_extern prog 133 _ (ReflectliteValue.methodAny (ReflectliteValue.valueError "reflectlite.Value.Type" 0) (fun t _ _ _=>ReflectliteType.toType t)) func133 (by kernel_rfl) (by kernel_rfl) (by kernel_rfl) (by kernel_rfl)
 have h8:=@run_callFunc_extern prog 134 _ (ReflectliteValue.method (ReflectliteValue.valueError "reflectlite.Value.IsNil" 0) ReflectliteValue.isNil) func134 (by kernel_rfl) (by kernel_rfl) (by kernel_rfl) (by kernel_rfl)
 have h27:=@run_callFunc_extern prog 246 _ (ReflectliteType.abiMethod fun t=>do pure (.int .u8 (←Rtype.kind t))) func246 (by kernel_rfl) (by kernel_rfl) (by kernel_rfl) (by kernel_rfl)
 have h37:=@run_callFunc_extern prog 264 _ (ReflectliteType.method ReflectliteType.elem) func264 (by kernel_rfl) (by kernel_rfl) (by kernel_rfl) (by kernel_rfl)
 have h38:=@run_callFunc_extern prog 265 _ (ReflectliteType.relation "Implements" ReflectliteType.implements_) func265 (by kernel_rfl) (by kernel_rfl) (by kernel_rfl) (by kernel_rfl)
 have mK:=methodKind
 have mE:=methodElem
 have mI:=methodImplements
 have kPP:=kindPP
 have kP:=kindP
 have eP:=elemPP
 have iP:=implementsP
 have vT:=valueOfT ⟨t,0,none⟩ w
 have tV:=typeOfV
 obtain⟨w1,hw1⟩:∃ w1,w1=w.alloc (.cells #[.pointer (some ⟨t,0,none⟩)] 158):=⟨_,rfl⟩
 have hs1:w1.heap.size=w.heap.size+1:=by rw[hw1];simp
 have hB1:Below w.heap.size w w1:=by rw[hw1];exact below_alloc _ _
 have hc1:w1.cell? ⟨w.heap.size,0,none⟩=some (.pointer (some ⟨t,0,none⟩)):=by rw[hw1,World.cell?_alloc_at _ _ _ _ (by simp)];rfl
 obtain⟨w2,hw2⟩:∃ w2,w2=w1.alloc (.cells (rvT w.heap.size) 231):=⟨_,rfl⟩
 have hB2:Below w.heap.size w w2:=by rw[hw2];exact hB1.alloc (by omega) _
 have hc2:w2.cell? ⟨w.heap.size,0,none⟩=some (.pointer (some ⟨t,0,none⟩)):=by
  rw[hw2]
  exact ((below_alloc w1 _).cell (cell_lt hc1)).trans hc1
 have n8:=isNilPP ⟨w.heap.size,0,none⟩ ⟨t,0,none⟩ w2 hc2
 have hl0:w2.cell? ⟨w.heap.size+1,0,none⟩=some (.pointer (some ⟨17,158,none⟩)):=by rw[hw2,World.cell?_alloc_at _ _ _ _ (by first|exact hs1|exact hs1.symm)];rfl
 have hl1:w2.cell? ⟨w.heap.size+1,1,none⟩=some (.pointer (some ⟨w.heap.size,0,none⟩)):=by rw[hw2,World.cell?_alloc_at _ _ _ _ (by first|exact hs1|exact hs1.symm)];rfl
 have hl2:w2.cell? ⟨w.heap.size+1,2,none⟩=some (.int .u64 150):=by rw[hw2,World.cell?_alloc_at _ _ _ _ (by first|exact hs1|exact hs1.symm)];rfl
 have hcon:=asw_path q r t w2 w.heap.size old hc2 ((hB2.cell (cell_lt h1)).trans h1) ((hB2.cell (cell_lt ht0)).trans ht0) ((hB2.frozen (cell_lt ht0)).trans hf0)
 have hg2:=(hB2.cell (cell_lt hg)).trans hg
 have HW1:=zh hw1
 have HW2:=zh hw2
 have HB2:=zh hB2
 have HCON:=zh hcon
 clear hB1 hB2 hcon h1 ht0 hf0 hg hc1
 go_enter func74,ntmps74
 go_upto_region 6 with fail
 rw[←hw1,←hw2]
 clear hw2 hw1
 go_wp2_with (go_at_call 135;refine HCON.o.mono ?_;rintro e w3 ⟨rfl,h31,h32⟩;have H31:=zh h31;have H32:=zh h32;clear h31 h32)
 go_ret
 exact⟨rfl,H31.o,(Fr.ofBelow HB2.o).trans H32.o⟩
end
section
theorem ofPathIs (v:Value) (w:World):(Instr.typeAssert (.iface 153 v) 88 153 true).run prog w=.ok (.tuple #[v,.bool true]) w:=by kernel_rfl
theorem of_tile (f:Nat→Addr) (w:World) (h:Sents w f) (r:Nat) (p:ByteArray) (hr:w.heap[r]?=some (.cells #[.string p,.iface 338 (.pointer (some (f 5)))] 155 (0,0))) :
  Calls prog 37 #[.iface 153 (.pointer (some ⟨r,0,none⟩))] w fun e w'=>e=.returned (toldV 6 p)∧Below w.heap.size w w':=by
 obtain⟨c0,c1,c2,c3,c4,c5,c6⟩:=h.cells
 have b0:3<w.heap.size:=cell_lt c0
 have b1:4<w.heap.size:=cell_lt c1
 have b2:1<w.heap.size:=cell_lt c2
 have b3:5<w.heap.size:=cell_lt c3
 have b4:2<w.heap.size:=cell_lt c4
 have b5:6<w.heap.size:=cell_lt c5
 have b6:0<w.heap.size:=cell_lt c6
 have hta:=ofPathIs (.pointer (some ⟨r,0,none⟩))
 have hq:=fun w=>eql_nil w 153 (.pointer (some ⟨r,0,none⟩))
 have he:=fun w=>eql_same w (f 5)
 obtain⟨W1,hW1⟩:∃ W1,W1=((w.alloc (.cells #[.int .i64 0,.string ⟨#[]⟩] 29)).alloc (.cells #[.nilIface,.iface 338 (.pointer (some (f 0))),.iface 338 (.pointer (some (f 1))),.iface 338 (.pointer (some (f 2))),.iface 338 (.pointer (some (f 3))),.iface 338 (.pointer (some (f 4))),.nilIface,.iface 338 (.pointer (some (f 6)))] 88)).alloc (.cells #[.pointer none] 152):=⟨_,rfl⟩
 have hB1:Below w.heap.size w W1:=by rw[hW1];exact ((below_alloc w _).alloc (by simp) _).alloc (by simp;omega) _
 have hT1:W1.heap[w.heap.size]?=some (.cells #[.int .i64 0,.string ⟨#[]⟩] 29 (0,0)):=by
  rw[hW1,heap_alloc_old _ _ (by simp;omega),heap_alloc_old _ _ (by simp),heap_alloc_new]
 have hr1:=(hB1.block _ (lt_of_heap hr)).trans hr
 have k0:W1.cell? ⟨r,0,none⟩=some (.string p):=cell_heap hr1 0 rfl
 have k1:W1.cell? ⟨r,1,none⟩=some (.iface 338 (.pointer (some (f 5)))):=cell_heap hr1 1 rfl
 have k5:=(hB1.cell b5).trans c5
 have d0:=cell_heap hT1 0 rfl
 have d1:=cell_heap hT1 1 rfl
 have g0:=frozen_heap hT1 0
 have g1:=frozen_heap hT1 1
 have HIS:=zh (fun n=>is_path (f 5) r (W1.drewN n) k1)
 have HB1:=zh hB1
 have hsz1:w.heap.size<W1.heap.size:=lt_of_heap hT1
 have HW1:=zh hW1
 clear h hB1 hT1 hr1 hW1 hr
 go_enter func37,ntmps37
 go_upto_region 9 with fail
 rw[←HW1.o]
 clear HW1 c0 c1 c2 c3 c4 c5 c6 b0 b1 b2 b3 b4 b5 b6
 go_quiet ((go_at_call 73;exact Calls.quiet_of_same ((HIS.o _).mono fun _ _ ⟨he,hm⟩=>⟨he,hm⟩)))
 go_wp2
 refine bodyPost_ret (v:=toldV 6 p) (by simp[results,results37,go_sem,d0,d1]) rfl ⟨rfl,?_⟩
 exact ((below_drewN HB1.o _).setCell (Nat.le_refl _) _).setCell (Nat.le_refl _) _
theorem ownComp:(prog.info? 152).map (·.comparable)=some true:=by kernel_rfl
theorem ownSize:(prog.info? 366).map (·.size)=some 1:=by kernel_rfl
theorem of_own (f:Nat→Addr) (w:World) (h:Sents w f) (hg:ErrT w) (r q:Nat) (p:ByteArray) (hr:w.heap[r]?=some (.cells #[.string p,.iface 152 (.pointer (some ⟨q,0,none⟩))] 155 (0,0))) :
  Calls prog 37 #[.iface 153 (.pointer (some ⟨r,0,none⟩))] w fun e w'=>e=.returned (toldV 8 p)∧Below w.heap.size w w':=by
 obtain⟨ic,hic,hcmp⟩:=Option.map_eq_some_iff.1 ownComp
 obtain⟨jc,hjc,hjs⟩:=Option.map_eq_some_iff.1 ownSize
 obtain⟨c0,c1,c2,c3,c4,c5,c6⟩:=h.cells
 have b0:3<w.heap.size:=cell_lt c0
 have b1:4<w.heap.size:=cell_lt c1
 have b2:1<w.heap.size:=cell_lt c2
 have b3:5<w.heap.size:=cell_lt c3
 have b4:2<w.heap.size:=cell_lt c4
 have b5:6<w.heap.size:=cell_lt c5
 have b6:0<w.heap.size:=cell_lt c6
 have hta:=ofPathIs (.pointer (some ⟨r,0,none⟩))
 have hq:=fun w=>eql_nil w 153 (.pointer (some ⟨r,0,none⟩))
 have hty:=fun w=>run_eql_iface_types (P:=prog) 152 338 (.pointer (some ⟨q,0,none⟩)) (.pointer (some (f 5))) underlying88 (by decide) w
 have he:=fun w=>run_eql_iface_ptr_same (P:=prog) w ⟨q,0,none⟩ underlying88 underlying152 hic hcmp hjc
 obtain⟨W1,hW1⟩:∃ W1,W1=((w.alloc (.cells #[.int .i64 0,.string ⟨#[]⟩] 29)).alloc (.cells #[.nilIface,.iface 338 (.pointer (some (f 0))),.iface 338 (.pointer (some (f 1))),.iface 338 (.pointer (some (f 2))),.iface 338 (.pointer (some (f 3))),.iface 338 (.pointer (some (f 4))),.nilIface,.iface 338 (.pointer (some (f 6)))] 88)).alloc (.cells #[.pointer none] 152):=⟨_,rfl⟩
 have hB1:Below w.heap.size w W1:=by rw[hW1];exact ((below_alloc w _).alloc (by simp) _).alloc (by simp;omega) _
 have hT1:W1.heap[w.heap.size]?=some (.cells #[.int .i64 0,.string ⟨#[]⟩] 29 (0,0)):=by
  rw[hW1,heap_alloc_old _ _ (by simp;omega),heap_alloc_old _ _ (by simp),heap_alloc_new]
 have hO1:W1.heap[w.heap.size+1+1]?=some (.cells #[.pointer none] 152 (0,0)):=by
  have e:=heap_alloc_new ((w.alloc (.cells #[.int .i64 0,.string ⟨#[]⟩] 29)).alloc (.cells #[.nilIface,.iface 338 (.pointer (some (f 0))),.iface 338 (.pointer (some (f 1))),.iface 338 (.pointer (some (f 2))),.iface 338 (.pointer (some (f 3))),.iface 338 (.pointer (some (f 4))),.nilIface,.iface 338 (.pointer (some (f 6)))] 88)) (.cells #[.pointer none] 152)
  rw[←hW1] at e
  rw[show w.heap.size+1+1=((w.alloc (.cells #[.int .i64 0,.string ⟨#[]⟩] 29)).alloc (.cells #[.nilIface,.iface 338 (.pointer (some (f 0))),.iface 338 (.pointer (some (f 1))),.iface 338 (.pointer (some (f 2))),.iface 338 (.pointer (some (f 3))),.iface 338 (.pointer (some (f 4))),.nilIface,.iface 338 (.pointer (some (f 6)))] 88)).heap.size by simp]
  exact e
 have hr1:=(hB1.block _ (lt_of_heap hr)).trans hr
 have hrl:=lt_of_heap hr
 have k1:W1.cell? ⟨r,1,none⟩=some (.iface 152 (.pointer (some ⟨q,0,none⟩))):=cell_heap hr1 1 rfl
 have k5:=(hB1.cell b5).trans c5
 have kg:ErrT W1:=(hB1.cell (cell_lt hg)).trans hg
 have HB1:=zh hB1
 have HR1:=zh hr1
 have HT1:=zh hT1
 have HO1:=zh hO1
 have HG1:=zh kg
 have hsz1:w.heap.size<W1.heap.size:=lt_of_heap hT1
 have HW1:=zh hW1
 clear h hB1 hT1 hr1 hW1 hr hO1 kg hg
 go_enter func37,ntmps37
 go_upto_region 9 with fail
 rw[←HW1.o]
 clear HW1 c0 c1 c2 c3 c4 c5 c6 b0 b1 b2 b3 b4 b5 b6
 go_quiet (fail)
 go_upto_region 11 with fail
 obtain⟨W2,hW2⟩:∃ W2,W2=W1.drewN nq:=⟨_,rfl⟩
 have HW2:=zh hW2
 rw[←hW2]
 have k2:W2.cell? ⟨r,1,none⟩=some (.iface 152 (.pointer (some ⟨q,0,none⟩))):=by rw[hW2];exact k1
 have AS:=zh (as_path q r (w.heap.size+1+1) W2.drew (.pointer none) (show W2.cell? _=_ by rw[hW2];exact HG1.o) k2 (show W2.cell? _=_ by rw[hW2];exact cell_heap HO1.o 0 rfl) (show W2.frozen? _=_ by rw[hW2];exact frozen_heap HO1.o 0))
 clear hW2 k1 k5
 go_cut [39] from 39 to 51 (fun s39 wx=>s39=.bool true∧Aside (Fr (·=w.heap.size+1+1) W2 wx))
 case first=>
  go_region_law (go_simp;go_at_call 74;go_must (refine (AS.o).mono ?_;rintro e w3 ⟨rfl,k31,k32⟩;have hf3:=(Fr.refl (·=w.heap.size+1+1) W2).drew.trans k32;have K32:=zh hf3;have k33:=hf3.cell k2 (show ¬ r=w.heap.size+1+1 by omega);clear k32 hf3))
  all_goals (
   go_wp2_with fail
   go_meet
   exact⟨rfl,K32.o⟩)
 case rest=>
  obtain⟨rfl,HF⟩:=hcut
  have hb:Fr (·=w.heap.size+1+1) W1 wc:=by
   have:=HF.o
   rw[HW2.o] at this
   exact ((Fr.refl _ W1).drewN nq).trans this
  have hT2:=hb.heap HT1.o (show ¬ w.heap.size=w.heap.size+1+1 by omega)
  have hR2:=hb.heap HR1.o (show ¬ r=w.heap.size+1+1 by omega)
  have HB2:=zh (HB1.o.trans (hb.below HB1.o.size fun k hk e=>by omega))
  have d0:=cell_heap hT2 0 rfl
  have d1:=cell_heap hT2 1 rfl
  have g0:=frozen_heap hT2 0
  have g1:=frozen_heap hT2 1
  have m0:=cell_heap hR2 0 rfl
  clear hT2 hR2 hb k2
  go_wp2
  refine bodyPost_ret (v:=toldV 8 p) (by simp[results,results37,go_sem,d0,d1]) rfl ⟨rfl,?_⟩
  exact (HB2.o.setCell (Nat.le_refl _) _).setCell (Nat.le_refl _) _
end
end Go.Proofs.YtefccfakhgdfbabGreatDoor
