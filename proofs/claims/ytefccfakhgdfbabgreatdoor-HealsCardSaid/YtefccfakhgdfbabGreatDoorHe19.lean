/- plain's publisher: a Log's Publish and Append; OpenNone. Conditions: those of the publisher's own functions. -/
import Derived.Test.YtefccfakhgdfbabGreatDoorHe18
set_option linter.unusedVariables false
set_option linter.unusedSimpArgs false
open Go.RowKit Go.Proofs.Tryz
set_option maxRecDepth 100000
set_option maxHeartbeats 4000000
namespace Go.Proofs.YtefccfakhgdfbabGreatDoor
section
theorem putsD_bd:∀ (fs:List Fil) (d:Dk),(putsD d fs).1.calls≤d.calls+fs.length∧(putsD d fs).1.files.length≤d.files.length+fs.length
 | [],d=>⟨Nat.le_refl _,Nat.le_refl _⟩
 | f :: fs,d=>by
   have h:=putD_bd d f.1 f.2
   have h2:=putsD_bd fs (putD d f.1 f.2)
   rw[putsD]
   split
   ·simp only[List.length_cons];omega
   ·simp only[List.length_cons];omega
theorem writeJ_bd (t:Int) (row:List (List UInt8)) (j:Nat) (d:Dk):(writeJ t row j d).1.calls≤d.calls+(row.length+3) / 4∧(writeJ t row j d).1.files.length≤d.files.length+(row.length+3) / 4:=by
 have h:=putsD_bd ((levelF t row).drop j) d
 have hl:((levelF t row).drop j).length≤(row.length+3) / 4:=by rw[List.length_drop,levelF_len];omega
 unfold writeJ
 simp only[]
 omega
def pubPost (f:Nat→Addr) (w:World) (g gd:Nat) (v ve vl vp:Value) (vs:List Value) (d:Dk) (L:Lg) (e:Ending) (w':World):Prop:=
 if L.failed=true then e=.returned (.tuple #[.int .i64 0,.iface 338 (.pointer (some (f 6)))])∧Below w.heap.size w w'
 else ∃ v' vp' Q,Q=pubD L.entries L.key L.put d∧DiskAt w' gd v' Q.1∧LogIs w' g gd ve vl vp' vs { L with put:=Q.2.1,failed:=Q.2.2.isSome }∧Fr (bothS g gd v ve vl vp vs) w w'∧Sub w (bothS g gd v ve vl vp vs) (bothS g gd v' ve vl vp' vs)∧
  ((Q.2.2=none∧e=.returned (.tuple #[.int .i64 L.entries.length,.nilIface]))∨∃ p r u m,Q.2.2=some p∧e=.returned (.tuple #[.int .i64 0,.iface 153 (.pointer (some ⟨r,0,none⟩))])∧w.heap.size≤r∧w.heap.size≤u∧w'.heap[u]?=some (.cells #[.int .i64 m] 366 (0,0))∧
   w'.heap[r]?=some (.cells #[.string p,.iface 152 (.pointer (some ⟨u,0,none⟩))] 155 (0,0)))
structure Vars (w:World) (g pl:Nat) (n:Int) (ev:Value):Prop where
 l:w.heap[pl]?=some (.cells #[.pointer (some ⟨g,0,none⟩)] 86 (0,0))
 n:w.heap[pl+1]?=some (.cells #[.int .i64 n] 3 (0,0))
 e:w.heap[pl+1+1]?=some (.cells #[ev] 88 (0,0))
theorem Vars.below {w w':World} {g pl:Nat} {n:Int} {ev:Value} (h:Vars w g pl n ev) (hb:Below w.heap.size w w'):Vars w' g pl n ev:=
 ⟨(hb.block _ (lt_of_heap h.l)).trans h.l,(hb.block _ (lt_of_heap h.n)).trans h.n,(hb.block _ (lt_of_heap h.e)).trans h.e⟩
theorem Vars.cells {w:World} {g pl:Nat} {n:Int} {ev:Value} (h:Vars w g pl n ev):w.cell? ⟨pl,0,none⟩=some (.pointer (some ⟨g,0,none⟩))∧w.cell? ⟨pl+1,0,none⟩=some (.int .i64 n)∧w.cell? ⟨pl+1+1,0,none⟩=some ev∧
  w.frozen? ⟨pl+1,0,none⟩=false∧w.frozen? ⟨pl+1+1,0,none⟩=false:=⟨cell_heap h.l 0 rfl,cell_heap h.n 0 rfl,cell_heap h.e 0 rfl,frozen_heap h.n 0,frozen_heap h.e 0⟩
theorem Vars.err {w:World} {g pl:Nat} {n:Int} {ev:Value} (h:Vars w g pl n ev) (x:Value):Vars (w.setCell ⟨pl+1+1,0,none⟩ x) g pl n x:=
 ⟨heap_setCell' h.l (show pl≠pl+1+1 by omega) _,heap_setCell' h.n (show pl+1≠pl+1+1 by omega) _,(heap_setCell h.e _).trans (by simp)⟩
theorem Vars.num {w:World} {g pl:Nat} {n:Int} {ev:Value} (h:Vars w g pl n ev) (x:Int):Vars (w.setCell ⟨pl+1,0,none⟩ (.int .i64 x)) g pl x ev:=
 ⟨heap_setCell' h.l (show pl≠pl+1 by omega) _,(heap_setCell h.n _).trans (by simp),heap_setCell' h.e (show pl+1+1≠pl+1 by omega) _⟩
def PubSt (w:World) (g gd:Nat) (v ve vl vp:Value) (vs:List Value) (L:Lg) (d:Dk) (pl k:Nat) (wx:World):Prop:=
 ∃ v1 vp1 d1 ps ev,Pk w (pl+3) g gd v ve vl vp vs L v1 vp1 d1 ps wx∧Vars wx g pl 0 ev∧MarkOk (rowsOf L.entries) ps∧d1.calls≤d.calls+k*1048576∧d1.files.length≤d.files.length+k*1048576∧
  ((ev=.nilIface∧pubJ 0 (rowsOf L.entries) L.put d=pubJ k ((rowsOf L.entries).drop k) ps d1)∨
     ∃ p r u m,ev=.iface 153 (.pointer (some ⟨r,0,none⟩))∧w.heap.size≤r∧w.heap.size≤u∧wx.heap[u]?=some (.cells #[.int .i64 m] 366 (0,0))∧
   wx.heap[r]?=some (.cells #[.string p,.iface 152 (.pointer (some ⟨u,0,none⟩))] 155 (0,0))∧pubJ 0 (rowsOf L.entries) L.put d=(d1,ps,some p))
theorem pub_next {w wr w5:World} {g gd:Nat} {v ve vl vp v1 vp1 u:Value} {vs:List Value} {L:Lg} {d d1:Dk} {pl k:Nat} {ps:List Nat} {row:List (List UInt8)} {t:Int} (hp:Pk w (pl+3) g gd v ve vl vp vs L v1 vp1 d1 ps wr) (hv:Vars wr g pl 0 .nilIface)
  (hm:MarkOk (rowsOf L.entries) ps) (hr:(rowsOf L.entries)[k]?=some row) (hl:row.length≤1048576) (hJ:pubJ 0 (rowsOf L.entries) L.put d=pubJ k ((rowsOf L.entries).drop k) ps d1) (ht:t=(k:Int)-1)
  (hw:writePost wr g gd v1 ve vl vp1 vs d1 { L with put:=ps } t k row (.returned u) w5) (hc:d1.calls≤d.calls+k*1048576) (hf:d1.files.length≤d.files.length+k*1048576) (hpl:pl=w.heap.size):PubSt w g gd v ve vl vp vs L d pl (k+1) (w5.setCell ⟨pl+1+1,0,none⟩ u):=by
 obtain⟨p1,q,hp1,hq,v',vp',hwk,hend⟩:=hw
 subst ht
 have hbd:=writeJ_bd ((k:Int)-1) row (p1.getD k 0 / 4) d1
 have hmk:=writeJ_mark ((k:Int)-1) row (p1.getD k 0 / 4) d1
 rw[←hq] at hbd hmk
 have hst:=pubJ_step hr ps d1 hp1 hq
 have hP:=hp.write hwk
 have h1:=hp.keeps hwk.fr (b:=pl) (by omega) (by omega) hv.l
 have h2:=hp.keeps hwk.fr (b:=pl+1) (by omega) (by omega) hv.n
 have h3:=hp.keeps hwk.fr (b:=pl+1+1) (by omega) (by omega) hv.e
 have hFs:=Fr.set1 w5 (pl+1+1) 0 u
 have hP2:=hP.var (b:=pl+1+1) (by omega) (by omega) h3 (by decide) hFs
 have hV2:Vars (w5.setCell ⟨pl+1+1,0,none⟩ u) g pl 0 u:=Vars.err ⟨h1,h2,h3⟩ u
 have hM2:MarkOk (rowsOf L.entries) (p1.set k q.2.1):=by rw[hp1];exact hm.next hr hmk
 refine⟨v',vp',q.1,p1.set k q.2.1,u,hP2,hV2,hM2,by omega,by omega,?_⟩
 rcases hend with ⟨hq2,he⟩|⟨p,r,x,m,hq2,he,hr1,hx1,hhx,hhr⟩
 ·left
  rw[hq2] at hst
  cases he
  exact⟨rfl,by rw[hJ,hst]⟩
 ·right
  rw[hq2] at hst
  cases he
  have hsz:=hp.size
  exact⟨p,r,x,m,rfl,by omega,by omega,hFs.heap hhx (by omega),hFs.heap hhr (by omega),by rw[hJ,hst]⟩
theorem vars_new (w:World) (g:Nat):Vars (((w.alloc (.cells #[.pointer (some ⟨g,0,none⟩)] 86)).alloc (.cells #[.int .i64 0] 3)).alloc (.cells #[.nilIface] 88)) g w.heap.size 0 .nilIface:=by
 refine⟨?_,?_,?_⟩
 ·rw[heap_alloc_old _ _ (by simp;omega),heap_alloc_old _ _ (by simp),heap_alloc_new]
 ·rw[heap_alloc_old _ _ (by simp)]
  have:=heap_alloc_new (w.alloc (.cells #[.pointer (some ⟨g,0,none⟩)] 86)) (.cells #[.int .i64 0] 3)
  simpa using this
 ·have:=heap_alloc_new ((w.alloc (.cells #[.pointer (some ⟨g,0,none⟩)] 86)).alloc (.cells #[.int .i64 0] 3)) (.cells #[.nilIface] 88)
  simpa using this
theorem pub_fail {f:Nat→Addr} {w W9:World} {g gd:Nat} {v ve vl vp v1 vp1:Value} {vs:List Value} {L:Lg} {d d1:Dk} {pl r u:Nat} {m x:Int} {p:ByteArray} {ps:List Nat} (hP:Pk w (pl+3) g gd v ve vl vp vs L v1 vp1 d1 ps W9) (hV:Vars W9 g pl x (.iface 153 (.pointer (some ⟨r,0,none⟩))))
  (hpl:pl=w.heap.size) (hg:g<w.heap.size) (hr:w.heap.size≤r) (hu:w.heap.size≤u) (hhu:W9.heap[u]?=some (.cells #[.int .i64 m] 366 (0,0))) (hhr:W9.heap[r]?=some (.cells #[.string p,.iface 152 (.pointer (some ⟨u,0,none⟩))] 155 (0,0)))
  (hfd:L.failed=false) (hQ:pubD L.entries L.key L.put d=(d1,ps,some p)) :
  pubPost f w g gd v ve vl vp vs d L (.returned (.tuple #[.int .i64 0,.iface 153 (.pointer (some ⟨r,0,none⟩))])) ((W9.setCell ⟨pl+1,0,none⟩ (.int .i64 0)).setCell ⟨g,5,none⟩ (.bool true))∧
   ((W9.setCell ⟨pl+1,0,none⟩ (.int .i64 0)).setCell ⟨g,5,none⟩ (.bool true)).cell? ⟨pl+1,0,none⟩=some (.int .i64 0)∧((W9.setCell ⟨pl+1,0,none⟩ (.int .i64 0)).setCell ⟨g,5,none⟩ (.bool true)).cell? ⟨pl+1+1,0,none⟩=some (.iface 153 (.pointer (some ⟨r,0,none⟩))):=by
 have hF1:=Fr.set1 W9 (pl+1) 0 (.int .i64 0)
 have hP1:=hP.var (b:=pl+1) (by omega) (by omega) hV.n (by decide) hF1
 have hV1:=hV.num 0
 have hl:=hP1.log.fail true
 have hF2:=hl.2
 have hF3:Fr (bothS g gd v1 ve vl vp1 vs) (W9.setCell ⟨pl+1,0,none⟩ (.int .i64 0)) ((W9.setCell ⟨pl+1,0,none⟩ (.int .i64 0)).setCell ⟨g,5,none⟩ (.bool true)):=hF2.weak fun k _ hk=>.inr hk
 have hn:=hP1.keeps hF3 (b:=pl+1) (by omega) (by omega) hV1.n
 have he:=hP1.keeps hF3 (b:=pl+1+1) (by omega) (by omega) hV1.e
 refine⟨?_,cell_heap hn 0 rfl,cell_heap he 0 rfl⟩
 unfold pubPost
 rw[if_neg (by rw[hfd];decide)]
 have hFg:=Fr.set1 (W9.setCell ⟨pl+1,0,none⟩ (.int .i64 0)) g 5 (.bool true)
 have h1:=hF1.heap hhu fun e=>by subst e;rw[hV.n] at hhu;simp at hhu
 have h2:=hF1.heap hhr fun e=>by subst e;rw[hV.n] at hhr;simp at hhr
 refine⟨v1,vp1,(d1,ps,some p),hQ.symm,?_,hl.1,Fr.sub hP1.fr hF3 hP1.subw,hP1.subw,.inr ⟨p,r,u,m,rfl,rfl,hr,hu,hFg.heap h1 (by omega),hFg.heap h2 (by omega)⟩⟩
 exact hP1.disk.fr hF2 fun k hk hS=>hP1.log.apartDisk hP1.disk k hS hk
theorem pub_door_err {f:Nat→Addr} {w W9:World} {g gd:Nat} {v ve vl vp v1 vp1:Value} {vs:List Value} {L:Lg} {d d1:Dk} {pl r u:Nat} {m x:Int} {p:ByteArray} {ps:List Nat} {T:Array Value} (hP:Pk w (pl+3) g gd v ve vl vp vs L v1 vp1 d1 ps W9) (hV:Vars W9 g pl x (.iface 153 (.pointer (some ⟨r,0,none⟩))))
  (hpl:pl=w.heap.size) (hg:g<w.heap.size) (hr:w.heap.size≤r) (hu:w.heap.size≤u) (hhu:W9.heap[u]?=some (.cells #[.int .i64 m] 366 (0,0))) (hhr:W9.heap[r]?=some (.cells #[.string p,.iface 152 (.pointer (some ⟨u,0,none⟩))] 155 (0,0)))
  (hfd:L.failed=false) (hQ:pubD L.entries L.key L.put d=(d1,ps,some p)) (hT2:T.getD 2 undef=.pointer (some ⟨pl+1,0,none⟩)) (hT3:T.getD 3 undef=.pointer (some ⟨pl+1+1,0,none⟩)) :
  bodyPostD prog f40 (pubPost f w g gd v ve vl vp vs d L) Exit.ret { tmps:=T,defers:=[{ target:=.fn (.func 76) #[.pointer (some ⟨pl+1+1,0,none⟩),.pointer (some ⟨pl+1,0,none⟩),.pointer (some ⟨pl,0,none⟩)],args:=#[] }] } W9:=by
 obtain⟨x1,x2,x3,xf2,_⟩:=hV.cells
 have xg:=hP.log.heads.1.2.2.2.2.2
 have xgf:=hP.log.heads.2 5
 obtain⟨pf1,pf2,pf3⟩:=pub_fail (f:=f) hP hV hpl hg hr hu hhu hhr hfd hQ
 refine leaves_cons (f:=76) (args:=#[.pointer (some ⟨pl+1+1,0,none⟩),.pointer (some ⟨pl+1,0,none⟩),.pointer (some ⟨pl,0,none⟩)]) (by simp) (by simp[go_sem]) ?_
 refine (pub1_err (pl+1+1) (pl+1) pl g .returning W9 x3 x1 x2 ⟨_,rfl⟩ xf2 xg xgf (by omega)).mono ?_
 rintro e u' w'' ⟨rfl,rfl,rfl⟩
 simp only[Leaves,settle]
 refine⟨.tuple #[.int .i64 0,.iface 153 (.pointer (some ⟨r,0,none⟩))],?_,pf1⟩
 have hT2':T[2]?.getD undef=.pointer (some ⟨pl+1,0,none⟩):=by simpa [Array.getD_eq_getD_getElem?] using hT2
 have hT3':T[3]?.getD undef=.pointer (some ⟨pl+1+1,0,none⟩):=by simpa [Array.getD_eq_getD_getElem?] using hT3
 simp[results,results40,go_sem,hT2',hT3',pf2,pf3]
theorem pub_door_fine {f:Nat→Addr} {w W9:World} {g gd:Nat} {v ve vl vp v1 vp1:Value} {vs:List Value} {L:Lg} {d d1:Dk} {pl:Nat} {ps:List Nat} {T:Array Value} (hP:Pk w (pl+3) g gd v ve vl vp vs L v1 vp1 d1 ps W9) (hV:Vars W9 g pl (L.entries.length:Int) .nilIface)
  (hfd:L.failed=false) (hQ:pubD L.entries L.key L.put d=(d1,ps,none)) (hT2:T.getD 2 undef=.pointer (some ⟨pl+1,0,none⟩)) (hT3:T.getD 3 undef=.pointer (some ⟨pl+1+1,0,none⟩)) :
  bodyPostD prog f40 (pubPost f w g gd v ve vl vp vs d L) Exit.ret { tmps:=T,defers:=[{ target:=.fn (.func 76) #[.pointer (some ⟨pl+1+1,0,none⟩),.pointer (some ⟨pl+1,0,none⟩),.pointer (some ⟨pl,0,none⟩)],args:=#[] }] } W9:=by
 obtain⟨x1,x2,x3,_,_⟩:=hV.cells
 refine leaves_cons (f:=76) (args:=#[.pointer (some ⟨pl+1+1,0,none⟩),.pointer (some ⟨pl+1,0,none⟩),.pointer (some ⟨pl,0,none⟩)]) (by simp) (by simp[go_sem]) ?_
 refine (pub1_nil (pl+1+1) (pl+1) pl .returning W9 x3).mono ?_
 rintro e u' w'' ⟨rfl,rfl,rfl⟩
 simp only[Leaves,settle]
 refine⟨.tuple #[.int .i64 L.entries.length,.nilIface],?_,?_⟩
 ·have hT2':T[2]?.getD undef=.pointer (some ⟨pl+1,0,none⟩):=by simpa [Array.getD_eq_getD_getElem?] using hT2
  have hT3':T[3]?.getD undef=.pointer (some ⟨pl+1+1,0,none⟩):=by simpa [Array.getD_eq_getD_getElem?] using hT3
  simp[results,results40,go_sem,hT2',hT3',x2,x3]
 ·unfold pubPost
  rw[if_neg (by rw[hfd];decide)]
  have hl:=hP.log
  refine⟨v1,vp1,(d1,ps,none),hQ.symm,hP.disk,?_,hP.fr,hP.subw,.inl ⟨rfl,rfl⟩⟩
  have e:({ L with put:=ps,failed:=false }:Lg)={ L with put:=ps }:=by rw[←hfd]
  show LogIs _ _ _ _ _ _ _ { L with put:=ps,failed:=false }
  rw[e]
  exact hl
theorem pub_bd {a b k:Nat} (h:a≤b+(k+1)*1048576) (hb:b<900000000000) (hk:k≤12):a<1000000000000:=by omega
theorem h9_zip2 (n:Int) (y:Hsh):Array.foldl (fun (cs:Array Value) (x:Value×Nat)=>cs.setIfInBounds (1+x.snd) x.fst) #[.int .i64 n,.int .u8 0,.int .u8 0,.int .u8 0,.int .u8 0,.int .u8 0,.int .u8 0,.int .u8 0,.int .u8 0] (h8 y).zipIdx 0 8=trC n y:=by
 rw[h8_lit]
 simp
theorem tr_sfr (w:World) (g:Nat) (n:Int) (k:Hsh):Fr (·=g) w (((((((((w.setCell ⟨g,0,none⟩ (.int .i64 n)).setCell ⟨g,1,none⟩ (u8 k[0])).setCell ⟨g,2,none⟩ (u8 k[1])).setCell ⟨g,3,none⟩ (u8 k[2])).setCell ⟨g,4,none⟩ (u8 k[3])).setCell ⟨g,5,none⟩ (u8 k[4])).setCell ⟨g,6,none⟩ (u8 k[5])).setCell ⟨g,7,none⟩ (u8 k[6])).setCell ⟨g,8,none⟩ (u8 k[7])):=(((((((((Fr.set1 w g 0 (.int .i64 n)).set 1 (u8 k[0])).set 2 (u8 k[1])).set 3 (u8 k[2])).set 4 (u8 k[3])).set 5 (u8 k[4])).set 6 (u8 k[5])).set 7 (u8 k[6])).set 8 (u8 k[7]))
theorem tr_stores {w:World} {g:Nat} (h:TrAt w g 0 zero8) (n:Int) (k:Hsh):TrAt (((((((((w.setCell ⟨g,0,none⟩ (.int .i64 n)).setCell ⟨g,1,none⟩ (u8 k[0])).setCell ⟨g,2,none⟩ (u8 k[1])).setCell ⟨g,3,none⟩ (u8 k[2])).setCell ⟨g,4,none⟩ (u8 k[3])).setCell ⟨g,5,none⟩ (u8 k[4])).setCell ⟨g,6,none⟩ (u8 k[5])).setCell ⟨g,7,none⟩ (u8 k[6])).setCell ⟨g,8,none⟩ (u8 k[7])) g n k:=
 (heap_setCell (i:=8) (heap_setCell (i:=7) (heap_setCell (i:=6) (heap_setCell (i:=5) (heap_setCell (i:=4) (heap_setCell (i:=3) (heap_setCell (i:=2) (heap_setCell (i:=1) (heap_setCell (i:=0) h (.int .i64 n)) (u8 k[0])) (u8 k[1])) (u8 k[2])) (u8 k[3])) (u8 k[4])) (u8 k[5])) (u8 k[6])) (u8 k[7])).trans (by simp[trC,bv])
theorem run_sb (w:World) (s:ByteArray):∃ b c w',Sem.run prog (convert 9 94 (.string s)) w=.ok (.slice (some ⟨b,0,none⟩) s.size c) w'∧OwnBytes w' w.heap.size (.slice (some ⟨b,0,none⟩) s.size c) s.data.toList∧Below w.heap.size w w':=by
 have hr:=Lib.run_convert_string_bytes (P:=prog) w 9 94 5 s underlying9 underlying94 underlying5
 refine⟨_,_,_,hr,?_,?_⟩
 ·refine .inr ⟨w.heap.size,0,grownCap w s.size 0 5,Lib.bytesCells w 5 s,_,by simp,by have:=grownCap_ge w s.size 0 5;simpa using this,Nat.le_refl _,Lib.bytesWorld_at_new w _ s,fun j y hy=>?_,?_,.inr (Nat.le_refl _)⟩
  ·have hj:j<s.size:=by
    have:=(List.getElem?_eq_some_iff.1 hy).1
    simpa using this
   have h2:s.data[j]?=some y:=by simpa using hy
   have h3:s.data[j]=y:=by rw[Array.getElem?_eq_getElem hj,Option.some.injEq] at h2;exact h2
   simp[Lib.bytesCells,Array.getElem?_append,hj,h3]
  ·simp[Lib.bytesCells]
 ·exact⟨by simp[Lib.bytesWorld,World.freeze,World.alloc,World.drew,-World.alloc_eq,-World.drew_eq],by simp[Lib.bytesWorld,World.freeze,World.alloc,World.drew,-World.alloc_eq,-World.drew_eq],by simp[Lib.bytesWorld,World.freeze,World.alloc,World.drew,-World.alloc_eq,-World.drew_eq],by rw[Lib.bytesWorld_size];omega,fun k hk=>Lib.bytesWorld_at_old w 5 s k hk⟩
theorem eql_nils (w:World):(binOp .eql 88 .nilIface .nilIface).run prog w=.ok (.bool true) w:=by
 have h:∀ d:Nat,(Op.equalIn (d+1) 88 .nilIface .nilIface).run prog w=.ok true w:=fun d=>by simp[Op.equalIn,run_underlying underlying88]
 simp only[binOp]
 simp[Op.equal,Op.maxDepth,h 9999]
theorem writePost_ret {w:World} {g gd:Nat} {v ve vl vp:Value} {vs:List Value} {d:Dk} {L:Lg} {t:Int} {n:Nat} {row:List (List UInt8)} {e:Ending} {w':World} (h:writePost w g gd v ve vl vp vs d L t n row e w'):∃ u,e=.returned u∧(u=.nilIface∨∃ t x,u=.iface t x):=by
 obtain⟨_,_,_,_,_,_,_,h⟩:=h
 rcases h with ⟨_,rfl⟩|⟨_,_,_,_,_,rfl,_⟩
 ·exact⟨_,rfl,.inl rfl⟩
 ·exact⟨_,rfl,.inr ⟨_,_,rfl⟩⟩
def cvPub:Op:=.convert 9 94 (.tmp 71)
theorem cvPub_eq:Op.convert 9 94 (.tmp 71)=cvPub:=rfl
section
attribute [local go_sem] cvPub h9_zip2 h8_0 h8_1 h8_2 h8_3 h8_4 h8_5 h8_6 h8_7 h8_fold h8_size
theorem publish_any (f:Nat→Addr) (w:World) (g gd:Nat) (v ve vl vp:Value) (vs:List Value) (d:Dk) (L:Lg) (h:LogIs w g gd ve vl vp vs L) (hD:DiskAt w gd v d) (hE:EnvS f (bothS g gd v ve vl vp vs) w) (hlv:L.levels=levels L.entries) (hn:L.entries.length≤1048576)
  (hs:∀ e∈L.entries,e.length≤20) (hm:MarkOk (rowsOf L.entries) L.put) (hc:d.calls<900000000000) (hfl:d.files.length<900000000000) (hkey:L.key.size≤9223372036854775807) :
  Calls prog 40 #[.pointer (some ⟨g,0,none⟩)] w (pubPost f w g gd v ve vl vp vs d L):=by
 have hmf:∀ (fn:Fn) (first cap:Array Value) (w:World),(Instr.makeFunc fn first cap).run prog w=.ok (.func fn first cap) w:=fun _ _ _ _=>rfl
 have hg:=lt_of_heap h.cells
 obtain⟨_,_,_,_,_,_,s6⟩:=hE.sents.cells
 have b6:=cell_lt s6
 obtain⟨⟨_,_,_,_,_,c5⟩,f0⟩:=h.heads
 obtain⟨W0,hW0⟩:∃ W0,W0=((w.alloc (.cells #[.pointer (some ⟨g,0,none⟩)] 86)).alloc (.cells #[.int .i64 0] 3)).alloc (.cells #[.nilIface] 88):=⟨_,rfl⟩
 have hb0:Below w.heap.size w W0:=by rw[hW0];exact ((below_alloc w _).alloc (by simp) _).alloc (by simp;omega) _
 have hv0:Vars W0 g w.heap.size 0 .nilIface:=by rw[hW0];exact vars_new w g
 have hp0:Pk w W0.heap.size g gd v ve vl vp vs L v vp d L.put W0:=⟨hD.below hb0,h.below hb0,Fr.ofBelow hb0,fun k hk=>.inl hk,fun k hk=>bothS_lt h hD hk,Nat.le_refl _,hb0.size⟩
 obtain⟨pl,hpl⟩:∃ pl,pl=w.heap.size:=⟨_,rfl⟩
 have hszW:W0.heap.size=w.heap.size+3:=by rw[hW0];simp
 have hHl:=hp0.log.heads
 obtain⟨⟨_,_,_,_,_,c50⟩,_⟩:=hHl
 have hgW:g<W0.heap.size:=by omega
 have s60:=(hb0.cell (p:=⟨0,0,none⟩) b6).trans s6
 have b60:=cell_lt s60
 obtain⟨k1,k2,k3,kf2,kf3⟩:=hv0.cells
 have HW0:=zh hW0
 have HPL:=zh hpl
 have HSZ:=zh hszW
 have HB0:=zh hb0
 have HFL:=zh hfl
 have hpb1:=lt_of_heap hv0.l
 have hpb2:=lt_of_heap hv0.n
 have hpb3:=lt_of_heap hv0.e
 rw[←hpl] at k1 k2 k3 kf2 kf3 hpb1 hpb2 hpb3 hv0
 cases hfd:L.failed with
 | true=>
  have c50':W0.cell? ⟨g,5,none⟩=some (.bool true):=by rw[←hfd];exact c50
  clear h hD hE hW0 hpl hszW hb0 hp0 c50 c5 s6 b6 f0
  go_enter_defers func40,ntmps40
  go_upto_region 1 with fail
  rw[←HW0.o,←HPL.o]
  go_wp2
  go_region
  all_goals (
   go_wp2
   have hV:=((hv0.num 0).err (.iface 338 (.pointer (some (f 6))))).below (below_drew _)
   obtain⟨_,r2,r3,_,_⟩:=hV.cells
   have hBB:Below w.heap.size w ((W0.setCell ⟨pl+1,0,none⟩ (.int .i64 0)).setCell ⟨pl+1+1,0,none⟩ (.iface 338 (.pointer (some (f 6))))).drew:=by
    have hp:=HPL.o
    exact ((HB0.o.setCell (by show _≤pl+1;omega) _).setCell (by show _≤pl+1+1;omega) _).drew
   simp only[bodyPostD,Leaves]
   refine⟨.tuple #[.int .i64 0,.iface 338 (.pointer (some (f 6)))],?_,?_⟩
   ·simp[results,results40,go_sem,r2,r3]
   ·unfold pubPost
    rw[if_pos hfd]
    exact⟨rfl,hBB⟩)
 | false=>
  have c50':W0.cell? ⟨g,5,none⟩=some (.bool false):=by rw[←hfd];exact c50
  have HE:=zh hE
  have HP0:=zh hp0
  have HV0:=zh hv0
  have HLV:=zh hlv
  have HS:=zh hs
  have HM:=zh hm
  have HFD:=zh hfd
  clear h hD hE hlv hs hm hfd hp0 hv0 hb0 hW0 hpl hszW c50 c5 s6 b6 f0 hfl
  go_enter_defers func40,ntmps40
  go_upto_region 1 with fail
  rw[←HW0.o,←HPL.o]
  obtain⟨vse,hrowe,_⟩:=HP0.o.log.ents
  obtain⟨ae,ce,rfl⟩:=own_any hrowe
  have ce2:=HP0.o.log.heads.1.2.2.1
  obtain⟨ln,hln⟩:∃ ln,ln=L.entries.length:=⟨_,rfl⟩
  have ce2':W0.cell? ⟨g,2,none⟩=some (.slice ae ln ce):=by rw[hln];exact ce2
  have HLN:=zh hln
  clear hrowe ce2 hln
  go_upto_region 4 with fail
  go_cut [] from 14 to 21 (fun wx=>Aside (PubSt w g gd v (.slice ae L.entries.length ce) vl vp vs L d pl 1 wx))
  case first=>
   go_still_tail 7,(by kernel_rfl)
   change wpList _ _ _ _ _ W0.drew
   obtain⟨W1,hW1⟩:∃ W1,W1=W0.drew:=⟨_,rfl⟩
   rw[←hW1]
   have hP1:Pk w (pl+3) g gd v (.slice ae L.entries.length ce) vl vp vs L v vp d L.put W1:=by
    rw[hW1,show pl+3=W0.heap.size by rw[HSZ.o,HPL.o]]
    exact HP0.o.below (below_drew _)
   have hV1:Vars W1 g pl 0 .nilIface:=by rw[hW1];exact HV0.o.below (below_drew _)
   clear hW1
   obtain⟨j1,j2,j3,jf2,jf3⟩:=hV1.cells
   have jc:=hP1.log.heads.1.2.2.1
   have hlen:(L.entries.map encE).length=L.entries.length:=by simp
   have hwr:=write_any f W1 g gd v (.slice ae L.entries.length ce) vl vp vs d { L with put:=L.put } hP1.log hP1.disk (HE.o.step hP1.fr hP1.subw) (-1) 0 (by decide) (by decide) (by show L.put.length≤_;have:=HM.o.1;rw[rowsOf_len] at this;have:=nLev_small hn;omega) (L.entries.map encE) (by rw[hlen];exact hn)
    (fun a ha=>HM.o.2 0 a _ ha (rowsOf_zero _)) (fun x hx=>by obtain⟨e,he,rfl⟩:=List.mem_map.1 hx;have:=HS.o e he;simp only[encE,List.length_cons];omega) (by omega) (by have:=HFL.o;omega)
    78 pl (enters_of func78 (by kernel_rfl) rfl) (fun w1 vp1 ps hl hfr j hj=>by
     rw[hlen] at hj ⊢
     exact pub2_any w1 g gd _ vl vp1 vs { L with put:=ps } hl pl (hfr.cell j1 (hP1.o (b:=pl) (by rw[HPL.o];exact Nat.le_refl _) (by omega))) j hj hn HS.o)
   rw[hlen] at hwr
   have HWR:=zh hwr
   have HP1:=zh hP1
   have HV1:=zh hV1
   clear hwr hlen hP1 hV1
   go_wp2_with fail
   refine HWR.o.mono ?_
   rintro e w5 hw5
   obtain⟨u,rfl,hu⟩:=writePost_ret hw5
   have HST:=zh (pub_next (k:=0) HP1.o HV1.o HM.o (rowsOf_zero _) (by rw[List.length_map];exact hn) rfl (by decide) hw5 (by omega) (by omega) HPL.o)
   obtain⟨jz,hjz⟩:∃ c,w5.cell? ⟨pl+1+1,0,none⟩=some c∧w5.frozen? ⟨pl+1+1,0,none⟩=false:=by
    obtain⟨_,_,_,_,_,_,hwk,_⟩:=hw5
    have h3:=HP1.o.keeps hwk.fr (b:=pl+1+1) (by rw[HPL.o];omega) (by omega) HV1.o.e
    exact⟨_,cell_heap h3 0 rfl,frozen_heap h3 0⟩
   obtain⟨jz1,jz2⟩:=hjz
   clear hw5
   rcases hu with rfl|⟨tu,xu,rfl⟩
   ·go_wp2_with fail
    go_meet
    exact HST.o
   ·go_wp2_with fail
    go_meet
    exact HST.o
  case rest=>
   have HST0:=hcut
   clear hcut k1 k2 k3 kf2 kf3 c50' s60 ce2'
   go_wp2_with fail
   go_loopg [4] (nLev L.entries.length+2) (fun gg s4 wr=>∃ k:Nat,k≤nLev L.entries.length∧nLev L.entries.length+1-k≤gg∧s4=.int .i64 k∧Aside (PubSt w g gd v (.slice ae L.entries.length ce) vl vp vs L d pl (k+1) wr))
   case atStart=>exact⟨0,by omega,by omega,rfl,HST0⟩
   case round=>
    obtain⟨k,hk,hgg,rfl,HST⟩:=hrel
    obtain⟨v1,vp1,d1,ps,ev,hP,hV,hM,hdc,hdf,hend⟩:=HST.o
    have HP:=zh hP
    have HV:=zh hV
    have HM2:=zh hM
    obtain⟨j1,j2,j3,jf2,jf3⟩:=hV.cells
    have jc3:=hP.log.heads.1.2.2.2.1
    have jg:=lt_of_heap hP.log.cells
    obtain⟨al,cl,hvl⟩:∃ al cl,vl=.slice al L.levels.length cl:=own_any hP.log.rows
    obtain⟨nl,hnl⟩:∃ nl,nl=L.levels.length:=⟨_,rfl⟩
    have hnl2:nl=nLev L.entries.length:=by rw[hnl,HLV.o];simp[levels]
    rw[hvl,←hnl] at jc3
    have HVL:=zh hvl
    have HNL:=zh hnl
    have HNL2:=zh hnl2
    have hpb1:=lt_of_heap hV.l
    have hpb2:=lt_of_heap hV.n
    have hpb3:=lt_of_heap hV.e
    clear hP hV hM hvl hnl hnl2 HST0 HST
    rcases hend with ⟨rfl,hJ⟩|⟨p,r,u,m,rfl,hr,hu,hhu,hhr,hJ⟩
    ·have hee:=eql_nils wr
     have HJ:=zh hJ
     clear hJ
     by_cases hlt:k<nl
     ·have hltz:(k:Int)<(nl:Int):=by omega
      have hkl:k<L.levels.length:=by have:=HNL.o;omega
      have hvsl:vs.length=L.levels.length:=by simpa using HP.o.log.rows.1
      obtain⟨r,hr⟩:∃ r,L.levels[k]?=some r:=⟨_,List.getElem?_eq_getElem hkl⟩
      obtain⟨vk,hvk⟩:∃ vk,vs[k]?=some vk:=⟨_,List.getElem?_eq_getElem (by omega)⟩
      have hown:=HP.o.log.each k vk r hvk hr
      obtain⟨ak,ck,rfl⟩:=own_any hown
      obtain⟨bl,rfl⟩:∃ bl,al=some ⟨bl,0,none⟩:=by
       rcases HP.o.log.rows.2 with ⟨_,h0⟩|⟨b,cap,cur,e,_⟩
       ·have h00:L.levels.length=0:=h0
        omega
       ·rw[HVL.o] at e;simp at e;exact⟨b,e.1⟩
      have jbl:wr.cell? ⟨bl,k,none⟩=some (.slice ak r.length ck):=by
       have hrw:=HP.o.log.rows
       rw[HVL.o] at hrw
       have h1:=hrw.cells (g:=bl) rfl k _ hvk
       rw[Addr.add_lit] at h1
       simpa using h1
      have hlr:L.levels[k]?=some (levelRow L.entries k):=by
       rw[HLV.o]
       unfold levels
       rw[List.getElem?_map,List.getElem?_range (by have:=HNL2.o;omega)]
       rfl
      have hre:r=levelRow L.entries k:=by rw[hr] at hlr;exact Option.some.inj hlr
      obtain⟨row,hrow⟩:∃ row,row=r.map fun (x:Hsh)=>x.toList:=⟨_,rfl⟩
      have hrowl:row.length=r.length:=by rw[hrow];simp
      have hrr:(rowsOf L.entries)[k+1]?=some row:=by rw[rowsOf_succ L.entries k (by have:=HNL2.o;omega),hrow,hre]
      have hrl:r.length≤1048576:=by rw[hre,levelRow_len];have:=Nat.div_le_self L.entries.length (4 ^ k);omega
      have hk0:(0:Int)≤(k:Int):=by omega
      have HRR:=zh hrr
      have HROW:=zh hrow
      have HRL:=zh hrowl
      have HR0:=zh hr
      have HVK:=zh hvk
      clear hkl hvsl hr hvk hown hlr hre hrow hrowl hrr
      go_wp2_with fail
      obtain⟨W2,hW2⟩:∃ W2,W2=wr.alloc (.cells #[.slice ak r.length ck] 104):=⟨_,rfl⟩
      rw[←hW2]
      have hb2:Below wr.heap.size wr W2:=by rw[hW2];exact below_alloc _ _
      have hph:W2.heap[wr.heap.size]?=some (.cells #[.slice ak r.length ck] 104 (0,0)):=by rw[hW2];exact heap_alloc_new _ _
      have hP2:=HP.o.below hb2
      have hV2:=HV.o.below hb2
      have hkb:k≤12:=by have:=nLev_small hn;omega
      have hpout:¬ bothS g gd v1 (.slice ae L.entries.length ce) vl vp1 vs wr.heap.size:=fun hk'=>by
       have:=bothS_lt HP.o.log HP.o.disk hk'
       omega
      have hwr:=write_any f W2 g gd v1 (.slice ae L.entries.length ce) vl vp1 vs d1 { L with put:=ps } hP2.log hP2.disk (HE.o.step hP2.fr hP2.subw) (k:Int) (k+1) (by omega) (by omega) (by show ps.length≤_;have:=HM2.o.1;rw[rowsOf_len] at this;have:=nLev_small hn;omega) row (by rw[HRL.o];exact hrl)
       (fun a ha=>HM2.o.2 (k+1) a row ha HRR.o) (fun x hx=>by rw[HROW.o] at hx;obtain⟨e,he,rfl⟩:=List.mem_map.1 hx;simp) (pub_bd hdc hc hkb) (pub_bd hdf (by have:=HFL.o;exact this) hkb)
       80 wr.heap.size (enters_of func80 (by kernel_rfl) rfl) (fun w1 vp1' ps' hl hfr j hj=>by
        have hcw:w1.cell? ⟨wr.heap.size,0,none⟩=some (.slice ak r.length ck):=cell_heap (hfr.heap hph hpout) 0 rfl
        have hp3:=pub3_any w1 wr.heap.size _ r hcw (hl.each k _ r HVK.o HR0.o) j (by rw[←HRL.o];exact hj) hrl
        rw[←HROW.o,←HRL.o] at hp3
        exact hp3)
      rw[HRL.o] at hwr
      refine hwr.mono ?_
      rintro e w5 hw5
      obtain⟨u,rfl,hu⟩:=writePost_ret hw5
      have HST5:=zh (pub_next (k:=k+1) hP2 hV2 HM2.o HRR.o (by rw[HRL.o];exact hrl) HJ.o (by omega) hw5 hdc hdf HPL.o)
      obtain⟨jz1,jz2⟩:(∃ c,w5.cell? ⟨pl+1+1,0,none⟩=some c)∧w5.frozen? ⟨pl+1+1,0,none⟩=false:=by
       obtain⟨_,_,_,_,_,_,hwk,_⟩:=hw5
       have h3:=hP2.keeps hwk.fr (b:=pl+1+1) (by rw[HPL.o];omega) (by omega) hV2.e
       exact⟨⟨_,cell_heap h3 0 rfl⟩,frozen_heap h3 0⟩
      obtain⟨jc0,jz1⟩:=jz1
      clear hw5 hwr hP2 hV2 hph hW2 hb2 hpout
      rcases hu with rfl|⟨tu,xu,rfl⟩
      ·go_wp2_with fail
       go_roundg (nLev L.entries.length+1-(k+1))
       case measure=>have:=HNL2.o;omega
       case rel=>exact⟨k+1,by have:=HNL2.o;omega,by omega,by go_num,HST5.o⟩
      ·go_wp2_with fail
       go_roundg (nLev L.entries.length+1-(k+1))
       case measure=>have:=HNL2.o;omega
       case rel=>exact⟨k+1,by have:=HNL2.o;omega,by omega,by go_num,HST5.o⟩
     ·have hltz:¬ (k:Int)<(nl:Int):=by omega
      have hfin:pubJ 0 (rowsOf L.entries) L.put d=(d1,ps,none):=by
       rw[HJ.o,pubJ_out]
       rw[rowsOf_len]
       have:=HNL2.o
       omega
      have HFIN:=zh hfin
      have hnn:=neq_nils wr
      have jc2:=HP.o.log.heads.1.2.2.1
      have hbs0:=HP.o.log.ents.at
      clear hfin
      obtain⟨ln,hln⟩:∃ ln,ln=L.entries.length:=⟨_,rfl⟩
      have hlnb:ln≤1048576:=by omega
      have jc2':wr.cell? ⟨g,2,none⟩=some (.slice ae ln ce):=by rw[hln];exact jc2
      have hbs1:BssAt wr (.slice ae ln ce) L.entries:=by rw[hln];exact hbs0
      have HBS:=zh hbs1
      have HLN:=zh hln
      have hbs:∀ l∈L.entries,l.length≤9223372036854775807:=fun l hl=>by have:=HS.o l hl;omega
      have HBL:=zh hbs
      clear hln jc2 hbs hbs0 hbs1
      go_upto_region 12 with fail
      go_cut [6] from 51 to 61 (fun s6 wx=>∃ q6,s6=.pointer (some ⟨q6,0,none⟩)∧Aside (TrAt wx q6 ln (rootOf L.entries))∧Aside (Below wr.heap.size wr wx)∧wr.heap.size≤q6)
      case first=>
       have hne1:¬ pl=wr.heap.size:=by omega
       have j1d:wr.drew.cell? ⟨pl,0,none⟩=some (.pointer (some ⟨g,0,none⟩)):=j1
       have j2d:wr.drew.cell? ⟨g,2,none⟩=some (.slice ae ln ce):=jc2'
       have ja1:(wr.alloc (.cells #[.int .i64 0,.int .u8 0,.int .u8 0,.int .u8 0,.int .u8 0,.int .u8 0,.int .u8 0,.int .u8 0,.int .u8 0] 111)).drew.cell? ⟨pl,0,none⟩=some (.pointer (some ⟨g,0,none⟩)):=((below_alloc wr _).cell (p:=⟨pl,0,none⟩) hpb1).trans j1
       have ja2:(wr.alloc (.cells #[.int .i64 0,.int .u8 0,.int .u8 0,.int .u8 0,.int .u8 0,.int .u8 0,.int .u8 0,.int .u8 0,.int .u8 0] 111)).drew.cell? ⟨g,2,none⟩=some (.slice ae ln ce):=((below_alloc wr _).cell (p:=⟨g,2,none⟩) jg).trans jc2'
       have hne2:¬ g=wr.heap.size:=by omega
       go_region_held3 (fun w'=>w'.cell? ⟨pl,0,none⟩=some (.pointer (some ⟨g,0,none⟩))∧w'.cell? ⟨g,2,none⟩=some (.slice ae ln ce)) (first|with_reducible exact⟨j1d,j2d⟩|with_reducible exact⟨m1,m2⟩|with_reducible exact⟨ja1,ja2⟩|with_reducible exact⟨mz1,mz2⟩|with_reducible exact⟨(tr_sfr w7 _ _ _).cell m1 hne1,(tr_sfr w7 _ _ _).cell m2 hne2⟩|exact⟨((below_alloc w7 _).cell (p:=⟨pl,0,none⟩) mb1).trans m1,((below_alloc w7 _).cell (p:=⟨g,2,none⟩) mb2).trans m2⟩) (first|(go_at_call 69;refine (troot_any _ L.entries _ (HBS.o.below (below_drew wr)) hn HBL.o).mono ?_;rintro e w7 ⟨rfl,hb7⟩;have HB7:=zh (show Below wr.heap.size wr w7 from (below_drew wr).trans hb7);have m1:=(HB7.o.cell (p:=⟨pl,0,none⟩) hpb1).trans j1;have m2:=(HB7.o.cell (p:=⟨g,2,none⟩) jg).trans jc2';have mb1:=Nat.lt_of_lt_of_le hpb1 HB7.o.size;have mb2:=Nat.lt_of_lt_of_le jg HB7.o.size;have mz1:(w7.alloc (.cells #[.int .i64 0,.int .u8 0,.int .u8 0,.int .u8 0,.int .u8 0,.int .u8 0,.int .u8 0,.int .u8 0,.int .u8 0] 111)).cell? ⟨pl,0,none⟩=some (.pointer (some ⟨g,0,none⟩)):=((below_alloc w7 _).cell (p:=⟨pl,0,none⟩) mb1).trans m1;have mz2:(w7.alloc (.cells #[.int .i64 0,.int .u8 0,.int .u8 0,.int .u8 0,.int .u8 0,.int .u8 0,.int .u8 0,.int .u8 0,.int .u8 0] 111)).cell? ⟨g,2,none⟩=some (.slice ae ln ce):=((below_alloc w7 _).cell (p:=⟨g,2,none⟩) mb2).trans m2;clear hb7)|(go_at_call 69;refine (troot_any _ L.entries _ ((HBS.o.below (below_drew wr)).below (below_alloc _ _)) hn HBL.o).mono ?_;rintro e w7 ⟨rfl,hb7⟩;have HB7:=zh (show Below wr.heap.size wr w7 from ((below_drew wr).alloc (Nat.le_refl _) _).trans (hb7.mono (by simp)));have m1:=(HB7.o.cell (p:=⟨pl,0,none⟩) hpb1).trans j1;have m2:=(HB7.o.cell (p:=⟨g,2,none⟩) jg).trans jc2';have mb1:=Nat.lt_of_lt_of_le hpb1 HB7.o.size;have mb2:=Nat.lt_of_lt_of_le jg HB7.o.size;have mz1:(w7.alloc (.cells #[.int .i64 0,.int .u8 0,.int .u8 0,.int .u8 0,.int .u8 0,.int .u8 0,.int .u8 0,.int .u8 0,.int .u8 0] 111)).cell? ⟨pl,0,none⟩=some (.pointer (some ⟨g,0,none⟩)):=((below_alloc w7 _).cell (p:=⟨pl,0,none⟩) mb1).trans m1;have mz2:(w7.alloc (.cells #[.int .i64 0,.int .u8 0,.int .u8 0,.int .u8 0,.int .u8 0,.int .u8 0,.int .u8 0,.int .u8 0,.int .u8 0] 111)).cell? ⟨g,2,none⟩=some (.slice ae ln ce):=((below_alloc w7 _).cell (p:=⟨g,2,none⟩) mb2).trans m2;have HT7:=zh (TrAt.below (show TrAt (wr.drew.alloc (.cells (trC 0 zero8) 111)) wr.heap.size 0 zero8 from heap_alloc_new wr.drew _) hb7);have ⟨n0,n1,n2,n3,n4,n5,n6,n7,n8⟩:=HT7.o.cells;have nf:=(fun i=>frozen_heap HT7.o i:∀ i,w7.frozen? ⟨wr.heap.size,i,none⟩=false);have nb:=lt_of_heap HT7.o;clear hb7))
       all_goals (
        go_wp2_with fail
        go_meet
        show ∃ q6,_∧Aside (TrAt _ q6 ln (rootOf L.entries))∧Aside (Below wr.heap.size wr _)∧wr.heap.size≤q6
        first
         | (
           refine⟨w7.heap.size,rfl,?_,?_,HB7.o.size⟩
           ·show TrAt _ _ _ _
            generalize rootOf L.entries=rt
            exact heap_alloc_new w7 _
           ·show Below _ _ _
            exact HB7.o.alloc HB7.o.size _)
         | (
           refine⟨wr.heap.size,rfl,?_,?_,Nat.le_refl _⟩
           ·show TrAt _ _ _ _
            generalize rootOf L.entries=rt
            exact tr_stores HT7.o ln rt
           ·show Below _ _ _
            generalize rootOf L.entries=rt
            exact HB7.o.trans ((tr_sfr w7 wr.heap.size ln rt).below HB7.o.size fun k hk e=>by omega)))
      case rest=>
       obtain⟨q6,rfl,HT6,HB6,hq6⟩:=hcut
       have hP6:=HP.o.below HB6.o
       have hV6:=HV.o.below HB6.o
       obtain⟨rt,hrt⟩:∃ rt,rt=rootOf L.entries:=⟨_,rfl⟩
       have hT6:TrAt wc q6 ln rt:=by rw[hrt];exact HT6.o
       have hPd:=hP6.below (below_drew wc)
       have hVd:=hV6.below (below_drew wc)
       have hTd:=hT6.below (below_drew wc)
       obtain⟨cp,hcp⟩:∃ cp,cp=cpOf L.entries L.key:=⟨_,rfl⟩
       have hsg:=fsign_any ln rt L.key wc.drew (by omega) hkey (HE.o.step hPd.fr hPd.subw).num
       rw[show sOf (signOf ln rt L.key.data.toList)=cp by rw[hcp,hrt,HLN.o];rfl] at hsg
       have hdout:∀ k,dkS gd v1 k→k<wr.heap.size:=fun k hk=>bothS_lt HP.o.log HP.o.disk (.inl hk)
       have hdplo:¬ dkS gd v1 pl:=fun hk=>HP.o.o (b:=pl) (by have:=HPL.o;omega) (by omega) (.inl hk)
       have hc12:=pub_bd hdc hc (by have:=nLev_small hn;have:=HNL2.o;omega)
       have hf12:=pub_bd hdf HFL.o (by have:=nLev_small hn;have:=HNL2.o;omega)
       have HSG:=zh hsg
       have HPD:=zh hPd
       have HVD:=zh hVd
       have HTD:=zh hTd
       have HDO:=zh hdout
       have HDP:=zh hdplo
       have HCP:=zh hcp
       have hpl0:w.heap.size≤pl:=by rw[HPL.o];exact Nat.le_refl _
       have hpl1:w.heap.size≤pl+1:=Nat.le_succ_of_le hpl0
       have hpl2:w.heap.size≤pl+1+1:=Nat.le_succ_of_le hpl1
       have hpl3:pl<pl+3:=by omega
       have hpl4:pl+1<pl+3:=by omega
       have hpl5:pl+1+1<pl+3:=by omega
       have hq6n:¬ dkS gd v1 q6:=fun hk=>by have:=HDO.o q6 hk;omega
       have za:=(hVd).cells.1
       have zb:=(hPd.log).heads.1.1
       have zc:=(hPd.log).heads.1.2.1
       have ⟨z0,z1,z2,z3,z4,z5,z6,z7,z8⟩:=(hTd).cells
       clear hP6 hV6 hT6 hPd hVd hTd hcp hrt hsg hdout hdplo
       go_upto_region 13 with fail
       go_cut [7] from 62 to 75 (fun s7 wx=>∃ v2,Aside (Pk w (pl+3) g gd v (.slice ae L.entries.length ce) vl vp vs L v2 vp1 (swapD d1 (sOf kCp) cp) ps wx)∧Aside (Vars wx g pl 0 .nilIface)∧wx.cell? ⟨q6,0,none⟩=some (.int .i64 ln)∧Aside (∃ bs,w.heap.size≤bs∧MayErr wx bs (decide (0<enterK d1)) s7))
       case first=>
        rw[cvPub_eq]
        go_region_held3 (fun w'=>w'.cell? ⟨pl,0,none⟩=some (.pointer (some ⟨g,0,none⟩))∧w'.cell? ⟨g,0,none⟩=some (.iface 25 (.pointer (some ⟨gd,0,none⟩)))∧w'.cell? ⟨g,1,none⟩=some (.string L.key)∧w'.cell? ⟨q6,0,none⟩=some (.int .i64 ln)∧w'.cell? ⟨q6,1,none⟩=some (bv rt[0])∧w'.cell? ⟨q6,2,none⟩=some (bv rt[1])∧w'.cell? ⟨q6,3,none⟩=some (bv rt[2])∧w'.cell? ⟨q6,4,none⟩=some (bv rt[3])∧w'.cell? ⟨q6,5,none⟩=some (bv rt[4])∧w'.cell? ⟨q6,6,none⟩=some (bv rt[5])∧w'.cell? ⟨q6,7,none⟩=some (bv rt[6])∧w'.cell? ⟨q6,8,none⟩=some (bv rt[7])) (first|with_reducible exact⟨za,zb,zc,z0,z1,z2,z3,z4,z5,z6,z7,z8⟩|with_reducible exact⟨ya,yb,yc,y0,y1,y2,y3,y4,y5,y6,y7,y8⟩|with_reducible exact⟨xa,xb,xc,x0,x1,x2,x3,x4,x5,x6,x7,x8⟩|with_reducible exact⟨va,vb,vc,v0,v1',v2',v3',v4',v5',v6',v7',v8'⟩) (first|(go_at_call 81;refine HSG.o.mono ?_;rintro e w7 ⟨rfl,hb7⟩;have HP7:=zh (HPD.o.below hb7);have HV7:=zh (HVD.o.below hb7);have HT7:=zh (HTD.o.below hb7);have ya:=(HV7.o).cells.1;have yb:=(HP7.o.log).heads.1.1;have yc:=(HP7.o.log).heads.1.2.1;have ⟨y0,y1,y2,y3,y4,y5,y6,y7,y8⟩:=(HT7.o).cells;obtain⟨b8,c8,w8,hcv,hob,hb8⟩:=run_sb w7 cp;have HP8:=zh (HP7.o.below hb8);have HV8:=zh (HV7.o.below hb8);have HT8:=zh (HT7.o.below hb8);have HOB:=zh hob;have xa:=(HV8.o).cells.1;have xb:=(HP8.o.log).heads.1.1;have xc:=(HP8.o.log).heads.1.2.1;have ⟨x0,x1,x2,x3,x4,x5,x6,x7,x8⟩:=(HT8.o).cells;clear hb7 hb8 hob)|(go_at_call 251;refine (swap_any w8 gd v1 d1 HP8.o.disk (sOf kCp) _ _ HOB.o.at (Nat.lt_trans hc12 (by decide)) (Nat.lt_trans hf12 (by decide))).mono ?_;rintro e w9 ⟨u,rfl,hme,v2,hd9,hf9,hm9⟩;rw[show (ByteArray.mk cp.data.toList.toArray)=cp from sOf_self cp] at hd9;have HME:=zh hme;have HP9:=zh (HP8.o.write (HP8.o.wk.put hd9 hf9 hm9 (Nat.le_refl _)));have HV9:=zh (⟨hf9.heap HV8.o.l (fun hk=>HP8.o.o (b:=pl) hpl0 hpl3 (.inl hk)),hf9.heap HV8.o.n (fun hk=>HP8.o.o (b:=pl+1) hpl1 hpl4 (.inl hk)),hf9.heap HV8.o.e (fun hk=>HP8.o.o (b:=pl+1+1) hpl2 hpl5 (.inl hk))⟩:Vars w9 g pl 0 .nilIface);have HT9:=zh (show TrAt w9 q6 ln rt from hf9.heap HT8.o hq6n);have HF9:=zh hf9;have va:=HV9.o.cells.1;have vb:=HP9.o.log.heads.1.1;have vc:=HP9.o.log.heads.1.2.1;have ⟨v0,v1',v2',v3',v4',v5',v6',v7',v8'⟩:=HT9.o.cells;clear hme hd9 hf9 hm9))
        all_goals (
         go_wp2_with fail
         go_meet
         have hw8:w.heap.size≤w8.heap.size:=HP8.o.fr.size
         exact⟨v2,HP9.o,HV9.o,v0,⟨w8.heap.size,hw8,HME.o⟩⟩)
       case rest=>
        obtain⟨v2,HPA,HVA,hq60,HMA⟩:=hcut
        have hma:=HMA.o
        obtain⟨bs,hbs,hma⟩:=hma
        obtain⟨y1,y2,y3,yf2,yf3⟩:=HVA.o.cells
        have hqb:=cell_lt hq60
        have ya:=lt_of_heap HVA.o.l
        have yb:=lt_of_heap HVA.o.n
        have yc:=lt_of_heap HVA.o.e
        clear HMA
        rcases Nat.eq_zero_or_pos (enterK d1) with h0|h0
        ·have hu7:u7=.nilIface:=by
          unfold MayErr at hma
          rw[if_neg (by simp[h0])] at hma
          exact hma
         subst hu7
         have hnn7:=neq_nils wc
         clear hma
         go_wp2_with fail
         have hW1:=(HPA.o.var (b:=pl+1) hpl1 hpl4 HVA.o.n (by decide) (Fr.set1 wc (pl+1) 0 (.int .i64 ln))).var (b:=pl+1+1) hpl2 hpl5 (HVA.o.num ln).e (by decide) (Fr.set1 (wc.setCell ⟨pl+1,0,none⟩ (.int .i64 ln)) (pl+1+1) 0 .nilIface)
         have hVW:=(HVA.o.num ln).err .nilIface
         have hQ:pubD L.entries L.key L.put d=(swapD d1 (sOf kCp) cp,ps,none):=by
          unfold pubD
          rw[HFIN.o,HCP.o]
          simp[h0]
         have hVW2:Vars ((wc.setCell ⟨pl+1,0,none⟩ (.int .i64 ln)).setCell ⟨pl+1+1,0,none⟩ .nilIface) g pl (L.entries.length:Int) .nilIface:=by
          have e:(L.entries.length:Int)=(ln:Int):=by rw[HLN.o]
          rw[e]
          exact hVW
         exact pub_door_fine hW1 hVW2 HFD.o hQ rfl rfl
        ·have hme:OwnErr wc bs u7:=by
          unfold MayErr at hma
          rw[if_pos (by simpa using h0)] at hma
          exact hma
         obtain⟨q,nn,rfl,hq,hh⟩:=hme
         have hnn7:=neq_nil wc 152 (.pointer (some ⟨q,0,none⟩))
         have HH:=zh hh
         clear hma hh
         go_wp2_with (go_at_call 65;refine (at_any _ _ _ _).mono ?_;rintro e wA ⟨u,rfl,⟨r,rfl,hr,hhr⟩,hbA⟩;have HR:=zh hhr;have HBA:=zh hbA;have HPB:=zh (HPA.o.below hbA);have HVB:=zh (HVA.o.below hbA);have ⟨t1,t2,t3,tf2,tf3⟩:=HVB.o.cells;clear hhr hbA)
         have hW1:=(HPB.o.var (b:=pl+1) hpl1 hpl4 HVB.o.n (by decide) (Fr.set1 wA (pl+1) 0 (.int .i64 0))).var (b:=pl+1+1) hpl2 hpl5 (HVB.o.num 0).e (by decide) (Fr.set1 (wA.setCell ⟨pl+1,0,none⟩ (.int .i64 0)) (pl+1+1) 0 (.iface 153 (.pointer (some ⟨r,0,none⟩))))
         have hVW:=(HVB.o.num 0).err (.iface 153 (.pointer (some ⟨r,0,none⟩)))
         have hQ:pubD L.entries L.key L.put d=(swapD d1 (sOf kCp) cp,ps,some (sOf kCp)):=by
          unfold pubD
          rw[HFIN.o,HCP.o]
          simp[h0]
         have hhA:wA.heap[q]?=some (.cells #[.int .i64 nn] 366 (0,0)):=(HBA.o.block _ (lt_of_heap HH.o)).trans HH.o
         have hrA:wA.heap[r]?=some (.cells #[.string (sOf kCp),.iface 152 (.pointer (some ⟨q,0,none⟩))] 155 (0,0)):=HR.o
         have hh1:=(Fr.set1 wA (pl+1) 0 (.int .i64 0)).heap hhA fun e=>by subst e;have:=HVB.o.n;rw[hhA] at this;simp at this
         have hh2:=(Fr.set1 (wA.setCell ⟨pl+1,0,none⟩ (.int .i64 0)) (pl+1+1) 0 (.iface 153 (.pointer (some ⟨r,0,none⟩)))).heap hh1 fun e=>by subst e;have:=HVB.o.e;rw[hhA] at this;simp at this
         have hr1:=(Fr.set1 wA (pl+1) 0 (.int .i64 0)).heap hrA fun e=>by subst e;have:=HVB.o.n;rw[hrA] at this;simp at this
         have hr2:=(Fr.set1 (wA.setCell ⟨pl+1,0,none⟩ (.int .i64 0)) (pl+1+1) 0 (.iface 153 (.pointer (some ⟨r,0,none⟩)))).heap hr1 fun e=>by subst e;have:=HVB.o.e;rw[hrA] at this;simp at this
         have hwc:w.heap.size≤wc.heap.size:=HPA.o.fr.size
         exact pub_door_err hW1 hVW HPL.o hg (Nat.le_trans hwc hr) (Nat.le_trans hbs hq) hh2 hr2 HFD.o hQ rfl rfl
    ·have hee:=eql_nil wr 153 (.pointer (some ⟨r,0,none⟩))
     have hne:=neq_nil wr 153 (.pointer (some ⟨r,0,none⟩))
     have HJ:=zh hJ
     have HU:=zh hhu
     have HR:=zh hhr
     clear hJ hhu hhr
     by_cases hlt:k<nl
     ·have hltz:(k:Int)<(nl:Int):=by omega
      go_upto_region 11 with fail
      go_region
      all_goals (
       go_wp2
       have hW1:=((HP.o.var (b:=pl+1) (by have:=HPL.o;omega) (by omega) HV.o.n (by decide) (Fr.set1 wr (pl+1) 0 (.int .i64 0))).var (b:=pl+1+1) (by have:=HPL.o;omega) (by omega) (HV.o.num 0).e (by decide) (Fr.set1 (wr.setCell ⟨pl+1,0,none⟩ (.int .i64 0)) (pl+1+1) 0 (.iface 153 (.pointer (some ⟨r,0,none⟩))))).below (below_drew _)
       have hVW:=((HV.o.num 0).err (.iface 153 (.pointer (some ⟨r,0,none⟩)))).below (below_drew _)
       have hh1:=(Fr.set1 wr (pl+1) 0 (.int .i64 0)).heap HU.o fun e=>by subst e;have:=HV.o.n;rw[HU.o] at this;simp at this
       have hh2:=(Fr.set1 (wr.setCell ⟨pl+1,0,none⟩ (.int .i64 0)) (pl+1+1) 0 (.iface 153 (.pointer (some ⟨r,0,none⟩)))).heap hh1 fun e=>by subst e;have:=HV.o.e;rw[HU.o] at this;simp at this
       have hr1:=(Fr.set1 wr (pl+1) 0 (.int .i64 0)).heap HR.o fun e=>by subst e;have:=HV.o.n;rw[HR.o] at this;simp at this
       have hr2:=(Fr.set1 (wr.setCell ⟨pl+1,0,none⟩ (.int .i64 0)) (pl+1+1) 0 (.iface 153 (.pointer (some ⟨r,0,none⟩)))).heap hr1 fun e=>by subst e;have:=HV.o.e;rw[HR.o] at this;simp at this
       exact pub_door_err hW1 hVW HPL.o hg hr hu hh2 hr2 HFD.o (by unfold pubD;rw[HJ.o]) rfl rfl)
     ·have hltz:¬ (k:Int)<(nl:Int):=by omega
      go_upto_region 11 with fail
      go_region
      all_goals (
       go_wp2
       have hW1:=((HP.o.var (b:=pl+1) (by have:=HPL.o;omega) (by omega) HV.o.n (by decide) (Fr.set1 wr (pl+1) 0 (.int .i64 0))).var (b:=pl+1+1) (by have:=HPL.o;omega) (by omega) (HV.o.num 0).e (by decide) (Fr.set1 (wr.setCell ⟨pl+1,0,none⟩ (.int .i64 0)) (pl+1+1) 0 (.iface 153 (.pointer (some ⟨r,0,none⟩))))).below (below_drew _)
       have hVW:=((HV.o.num 0).err (.iface 153 (.pointer (some ⟨r,0,none⟩)))).below (below_drew _)
       have hh1:=(Fr.set1 wr (pl+1) 0 (.int .i64 0)).heap HU.o fun e=>by subst e;have:=HV.o.n;rw[HU.o] at this;simp at this
       have hh2:=(Fr.set1 (wr.setCell ⟨pl+1,0,none⟩ (.int .i64 0)) (pl+1+1) 0 (.iface 153 (.pointer (some ⟨r,0,none⟩)))).heap hh1 fun e=>by subst e;have:=HV.o.e;rw[HU.o] at this;simp at this
       have hr1:=(Fr.set1 wr (pl+1) 0 (.int .i64 0)).heap HR.o fun e=>by subst e;have:=HV.o.n;rw[HR.o] at this;simp at this
       have hr2:=(Fr.set1 (wr.setCell ⟨pl+1,0,none⟩ (.int .i64 0)) (pl+1+1) 0 (.iface 153 (.pointer (some ⟨r,0,none⟩)))).heap hr1 fun e=>by subst e;have:=HV.o.e;rw[HR.o] at this;simp at this
       exact pub_door_err hW1 hVW HPL.o hg hr hu hh2 hr2 HFD.o (by unfold pubD;rw[HJ.o]) rfl rfl)
end
end
section
def PlIs (w:World) (gl g:Nat):Prop:=w.heap[gl]?=some (.cells #[.pointer (some ⟨g,0,none⟩)] 93 (0,0))
def popPost (w:World) (gd:Nat) (v:Value) (d:Dk) (key:ByteArray) (B:Nat) (e:Ending) (w':World):Prop:=
 ∃ d',DiskAt w' gd v d'∧Fr (·=gd) w w'∧
  ((∃ p,Hurt B d d'∧e=.returned (.tuple #[.pointer none,toldV 8 p]))∨
     (∃ (k:Nat) (p:ByteArray),Calm B d d'∧OpensTo d.files key (.bad k p)∧e=.returned (.tuple #[.pointer none,toldV k p]))∨
     (∃ es n gl g,Calm B d d'∧OpensTo d.files key (.good es n)∧e=.returned (.tuple #[.pointer (some ⟨gl,0,none⟩),toldV 0 ⟨#[]⟩])∧PlIs w' gl g∧w.heap.size≤gl∧Fresh0 w gd key es g w'))
theorem Fresh0.kept {w w1 w2:World} {gd g:Nat} {key:ByteArray} {es:List (List UInt8)} {S:Nat→Prop} {ts:List TypeId} (h:Fresh0 w gd key es g w1) (hf:Fr S w1 w2) (hS:Kinds w1 S ts) (h1:∀ t∈logTs,t ∉ ts) (h2:5 ∉ ts):Fresh0 w gd key es g w2:=by
 obtain⟨ve,vl,vs,a,b,c⟩:=h
 exact⟨ve,vl,vs,a.kept hf hS h1 h2,b,c⟩
theorem Fresh0.below {w w1 w2:World} {gd g:Nat} {key:ByteArray} {es:List (List UInt8)} (h:Fresh0 w gd key es g w1) (hb:Below w1.heap.size w1 w2):Fresh0 w gd key es g w2:=by
 obtain⟨ve,vl,vs,a,b,c⟩:=h
 exact⟨ve,vl,vs,a.below hb,b,c⟩
theorem told_end {w w0 w1 w2 w3:World} {gd:Nat} {v:Value} {d':Dk} (hw0:w0=w.alloc (.cells #[.int .i64 0,.string ⟨#[]⟩] 29)) (hD:DiskAt w1 gd v d') (hF:Fr (·=gd) w0 w1) (hg:gd<w.heap.size) (hk:Kinds w0 (·=gd) [41]) (h2:Below w1.heap.size w1 w2) :
  ToldAt' w2 w.heap.size 0 ⟨#[]⟩∧∀ n s,w3=(w2.setCell ⟨w.heap.size,0,none⟩ (.int .i64 n)).setCell ⟨w.heap.size,1,none⟩ (.string s)→DiskAt w3 gd v d'∧Fr (·=gd) w w3∧Fr (·=w.heap.size) w2 w3∧Kinds w2 (·=w.heap.size) [29]:=by
 have t0:ToldAt' w0 w.heap.size 0 ⟨#[]⟩:=by rw[hw0];exact told_new w
 have t1:ToldAt' w1 w.heap.size 0 ⟨#[]⟩:=t0.kept hF hk (by decide)
 have t2:=t1.below h2
 refine⟨t2,fun n s e=>?_⟩
 have ts:=told_set (m:=n) (t:=s) t2
 rw[←e] at ts
 have hk2:=kinds_one t2
 refine⟨(hD.below h2).kept ts.2 hk2 (by decide) (by decide),?_,ts.2,hk2⟩
 have hb0:Fr (·=gd) w w0:=by rw[hw0];exact Fr.ofBelow (below_alloc w _)
 exact (hb0.trans (hF.trans (Fr.ofBelow h2))).step ts.2 fun k hk e=>by subst e;omega
theorem popen_any (f:Nat→Addr) (w:World) (gd:Nat) (v:Value) (d:Dk) (key:ByteArray) (hD:DiskAt w gd v d) (N:Nat) (hE:EnvS f (·=gd) w) (hN:FewB d.files N) (hN2:N≤262144) (hc:d.calls<900000000000) (hsz:∀ b∈d.files,b.2.size≤1048576) (hkey:key.size≤9223372036854775807) :
  Calls prog 10 #[.pointer (some ⟨gd,0,none⟩),.string key] w (popPost w gd v d key (8*N+16)):=by
 obtain⟨w0,hw0⟩:∃ w0,w0=w.alloc (.cells #[.int .i64 0,.string ⟨#[]⟩] 29):=⟨_,rfl⟩
 have hb0:Below w.heap.size w w0:=by rw[hw0];exact below_alloc w _
 have hE0:=hE.below hb0
 have hD0:=hD.below hb0
 have hg:=hD.lt
 have hz0:w.heap.size≤w0.heap.size:=hb0.size
 have HK:=zh (kinds_one hD0.1)
 have HE:=zh hE0
 have HC:=zh (topen_any f w0 gd v d key hD0 N hE0 hN hN2 hc hsz hkey)
 have HW0:=zh hw0
 clear hD hE hE0 hD0 hN hsz hb0
 go_enter func10,ntmps10
 go_wp2_with fail
 rw[←hw0]
 clear hw0
 go_at_call 36
 refine HC.o.mono ?_
 rintro e w1 ⟨d',hD',hF',h⟩
 have HD:=zh hD'
 have HF:=zh hF'
 have hE1:=HE.o.fr hF'
 have HE1:=zh hE1
 have hz1:=hF'.size
 clear hD' hF' hE1
 rcases h with ⟨q,m,r,p,h1,rfl,_,_,h2,h3⟩|⟨h1,h2,rfl⟩|⟨h1,h2,rfl⟩|⟨p,r,h1,h2,rfl,_,h3⟩|⟨es,n,g,h1,h2,rfl,h3⟩
 ·have HX:=zh (of_own f w1 HE1.o.sents HE1.o.errT r q p h3)
  have H1:=zh h1
  clear h1 h2 h3
  go_wp2_with (go_at_call 37;refine HX.o.mono ?_;rintro e w2 ⟨rfl,hb2⟩;have HB2:=zh hb2;clear hb2;obtain⟨ht2,hen⟩:=told_end (w3:=(w2.setCell ⟨w.heap.size,0,none⟩ (.int .i64 8)).setCell ⟨w.heap.size,1,none⟩ (.string p)) HW0.o HD.o HF.o hg HK.o HB2.o;have HEN:=zh (hen 8 p rfl);obtain⟨t0,t1,t2,t3,t4⟩:=ht2.facts;clear ht2 hen)
  refine bodyPost_ret (v:=.tuple #[.pointer none,toldV 8 p]) (by simp[results,results10,go_sem,t0,t1]) rfl ⟨d',HEN.o.1,HEN.o.2.1,.inl ⟨p,H1.o,rfl⟩⟩
 ·have hx0:=of_sent f w1 HE1.o.sents 2 (by decide) (by decide)
  rw[show ((ofCode 2:Nat):Int)=3 from rfl] at hx0
  have HX:=zh hx0
  clear hx0
  have H1:=zh h1
  have H2:=zh h2
  clear h1 h2
  go_wp2_with (go_at_call 37;refine HX.o.mono ?_;rintro e w2 ⟨rfl,hb2⟩;have HB2:=zh hb2;clear hb2;obtain⟨ht2,hen⟩:=told_end (w3:=(w2.setCell ⟨w.heap.size,0,none⟩ (.int .i64 3)).setCell ⟨w.heap.size,1,none⟩ (.string ⟨#[]⟩)) HW0.o HD.o HF.o hg HK.o HB2.o;have HEN:=zh (hen 3 _ rfl);obtain⟨t0,t1,t2,t3,t4⟩:=ht2.facts;clear ht2 hen)
  refine bodyPost_ret (v:=.tuple #[.pointer none,toldV 3 ⟨#[]⟩]) (by simp[results,results10,go_sem,t0,t1]) rfl ⟨d',HEN.o.1,HEN.o.2.1,.inr (.inl ⟨3,_,H1.o,H2.o,rfl⟩)⟩
 ·have hx0:=of_sent f w1 HE1.o.sents 4 (by decide) (by decide)
  rw[show ((ofCode 4:Nat):Int)=5 from rfl] at hx0
  have HX:=zh hx0
  clear hx0
  have H1:=zh h1
  have H2:=zh h2
  clear h1 h2
  go_wp2_with (go_at_call 37;refine HX.o.mono ?_;rintro e w2 ⟨rfl,hb2⟩;have HB2:=zh hb2;clear hb2;obtain⟨ht2,hen⟩:=told_end (w3:=(w2.setCell ⟨w.heap.size,0,none⟩ (.int .i64 5)).setCell ⟨w.heap.size,1,none⟩ (.string ⟨#[]⟩)) HW0.o HD.o HF.o hg HK.o HB2.o;have HEN:=zh (hen 5 _ rfl);obtain⟨t0,t1,t2,t3,t4⟩:=ht2.facts;clear ht2 hen)
  refine bodyPost_ret (v:=.tuple #[.pointer none,toldV 5 ⟨#[]⟩]) (by simp[results,results10,go_sem,t0,t1]) rfl ⟨d',HEN.o.1,HEN.o.2.1,.inr (.inl ⟨5,_,H1.o,H2.o,rfl⟩)⟩
 ·have HX:=zh (of_tile f w1 HE1.o.sents r p h3)
  have H1:=zh h1
  have H2:=zh h2
  clear h1 h2 h3
  go_wp2_with (go_at_call 37;refine HX.o.mono ?_;rintro e w2 ⟨rfl,hb2⟩;have HB2:=zh hb2;clear hb2;obtain⟨ht2,hen⟩:=told_end (w3:=(w2.setCell ⟨w.heap.size,0,none⟩ (.int .i64 6)).setCell ⟨w.heap.size,1,none⟩ (.string p)) HW0.o HD.o HF.o hg HK.o HB2.o;have HEN:=zh (hen 6 p rfl);obtain⟨t0,t1,t2,t3,t4⟩:=ht2.facts;clear ht2 hen)
  refine bodyPost_ret (v:=.tuple #[.pointer none,toldV 6 p]) (by simp[results,results10,go_sem,t0,t1]) rfl ⟨d',HEN.o.1,HEN.o.2.1,.inr (.inl ⟨6,_,H1.o,H2.o,rfl⟩)⟩
 ·have HX:=fun w2 (hb:Below w1.heap.size w1 w2)=>of_nil f w2 (HE1.o.below hb).sents
  have HX:=zh HX
  have H1:=zh h1
  have H2:=zh h2
  have H3:=zh h3
  clear h1 h2 h3
  go_wp2_with (go_at_call 37;refine (HX.o _ (below_alloc w1 _)).mono ?_;rintro e w2 ⟨rfl,hb2⟩;have HB2:=zh hb2;have HB3:=zh ((below_alloc w1 (.cells #[.pointer (some ⟨g,0,none⟩)] 93)).trans (hb2.mono (by simp)));clear hb2;obtain⟨ht2,hen⟩:=told_end (w3:=(w2.setCell ⟨w.heap.size,0,none⟩ (.int .i64 0)).setCell ⟨w.heap.size,1,none⟩ (.string ⟨#[]⟩)) HW0.o HD.o HF.o hg HK.o HB3.o;have HEN:=zh (hen 0 _ rfl);obtain⟨t0,t1,t2,t3,t4⟩:=ht2.facts;clear ht2 hen)
  refine bodyPost_ret (v:=.tuple #[.pointer (some ⟨w1.heap.size,0,none⟩),toldV 0 ⟨#[]⟩]) (by simp[results,results10,go_sem,t0,t1]) rfl ⟨d',HEN.o.1,HEN.o.2.1,.inr (.inr ⟨es,n,w1.heap.size,g,H1.o,H2.o,rfl,?_,Nat.le_trans hz0 hz1,?_⟩)⟩
  ·have hp:PlIs w2 w1.heap.size g:=(HB2.o.block _ (by simp)).trans (heap_alloc_new w1 _)
   exact heap_kept hp HEN.o.2.2.1 HEN.o.2.2.2 (by decide)
  ·obtain⟨ve,vl,vs,a,b,c⟩:=(H3.o.below HB3.o).kept HEN.o.2.2.1 HEN.o.2.2.2 (by decide) (by decide)
   exact⟨ve,vl,vs,a,Nat.le_trans hz0 b,fun k hk=>Nat.le_trans hz0 (c k hk)⟩
end
section
structure Pl where
 gw:Nat
 gd:Nat
 v:Value
 en:Value
 gl:Nat
 g:Nat
 ve:Value
 vl:Value
 vp:Value
 vs:List Value
end
section
def ppubPost (w:World) (g gd:Nat) (v ve vl vp:Value) (vs:List Value) (d:Dk) (L:Lg) (e:Ending) (w':World):Prop:=
 if L.failed=true then e=.returned (.tuple #[.int .i64 0,toldV 7 ⟨#[]⟩])∧Below w.heap.size w w'
 else ∃ v' vp' Q,Q=pubD L.entries L.key L.put d∧DiskAt w' gd v' Q.1∧LogIs w' g gd ve vl vp' vs { L with put:=Q.2.1,failed:=Q.2.2.isSome }∧Fr (bothS g gd v ve vl vp vs) w w'∧Sub w (bothS g gd v ve vl vp vs) (bothS g gd v' ve vl vp' vs)∧
  ((Q.2.2=none∧e=.returned (.tuple #[.int .i64 L.entries.length,toldV 0 ⟨#[]⟩]))∨∃ p,Q.2.2=some p∧e=.returned (.tuple #[.int .i64 0,toldV 8 p]))
theorem told_pub {w w0 w1 w2 w3:World} {g gd:Nat} {v ve vl vp v' vp':Value} {vs:List Value} {L L':Lg} {d d':Dk} (hw0:w0=w.alloc (.cells #[.int .i64 0,.string ⟨#[]⟩] 29)) (hl:LogIs w0 g gd ve vl vp vs L) (hd:DiskAt w0 gd v d)
  (hbs:∀ k,bothS g gd v ve vl vp vs k→k<w.heap.size) (hD:DiskAt w1 gd v' d') (hL:LogIs w1 g gd ve vl vp' vs L') (hF:Fr (bothS g gd v ve vl vp vs) w0 w1) (hS:Sub w0 (bothS g gd v ve vl vp vs) (bothS g gd v' ve vl vp' vs)) (h2:Below w1.heap.size w1 w2) :
  ToldAt' w2 w.heap.size 0 ⟨#[]⟩∧∀ n s,w3=(w2.setCell ⟨w.heap.size,0,none⟩ (.int .i64 n)).setCell ⟨w.heap.size,1,none⟩ (.string s)→
   DiskAt w3 gd v' d'∧LogIs w3 g gd ve vl vp' vs L'∧Fr (bothS g gd v ve vl vp vs) w w3∧Sub w (bothS g gd v ve vl vp vs) (bothS g gd v' ve vl vp' vs):=by
 have t0:ToldAt' w0 w.heap.size 0 ⟨#[]⟩:=by rw[hw0];exact told_new w
 have t1:ToldAt' w1 w.heap.size 0 ⟨#[]⟩:=t0.kept hF ((kinds_disk hd).or (kinds_log hl)) (by decide)
 have t2:=t1.below h2
 have hb0:Below w.heap.size w w0:=by rw[hw0];exact below_alloc w _
 refine⟨t2,fun n s e=>?_⟩
 have ts:=told_set (m:=n) (t:=s) t2
 rw[←e] at ts
 have hk2:=kinds_one t2
 refine⟨(hD.below h2).kept ts.2 hk2 (by decide) (by decide),(hL.below h2).kept ts.2 hk2 (by decide) (by decide),?_,hS.mono hb0.size⟩
 exact ((Fr.ofBelow hb0).trans (hF.trans (Fr.ofBelow h2))).step ts.2 fun k hk e=>by subst e;omega
theorem ppublish_any (f:Nat→Addr) (w:World) (gl g gd:Nat) (v ve vl vp:Value) (vs:List Value) (d:Dk) (L:Lg) (hp:PlIs w gl g) (h:LogIs w g gd ve vl vp vs L) (hD:DiskAt w gd v d) (hE:EnvS f (bothS g gd v ve vl vp vs) w) (hlv:L.levels=levels L.entries) (hn:L.entries.length≤1048576)
  (hs:∀ e∈L.entries,e.length≤20) (hm:MarkOk (rowsOf L.entries) L.put) (hc:d.calls<900000000000) (hfl:d.files.length<900000000000) (hkey:L.key.size≤9223372036854775807) :
  Calls prog 15 #[.pointer (some ⟨gl,0,none⟩)] w (ppubPost w g gd v ve vl vp vs d L):=by
 obtain⟨w0,hw0⟩:∃ w0,w0=w.alloc (.cells #[.int .i64 0,.string ⟨#[]⟩] 29):=⟨_,rfl⟩
 have hb0:Below w.heap.size w w0:=by rw[hw0];exact below_alloc w _
 have hbs:∀ k,bothS g gd v ve vl vp vs k→k<w.heap.size:=fun k hk=>bothS_lt h hD hk
 have h0:=h.below hb0
 have hD0:=hD.below hb0
 have hp0:PlIs w0 gl g:=(hb0.block _ (lt_of_heap hp)).trans hp
 have c0:=cell_heap hp 0 rfl
 have hgl:=lt_of_heap hp
 have HB0:=zh hb0
 have HE:=zh (hE.below hb0)
 have HL:=zh h0
 have HD:=zh hD0
 have HBS:=zh hbs
 have HC:=zh (publish_any f w0 g gd v ve vl vp vs d L h0 hD0 (hE.below hb0) hlv hn hs hm hc hfl hkey)
 have HT:=zh (show ToldAt' w0 w.heap.size 0 ⟨#[]⟩ by rw[hw0];exact told_new w)
 have HW0:=zh hw0
 clear hp h hD hE hlv hs hm hb0 hbs h0 hD0 hp0 hw0
 go_enter func15,ntmps15
 go_wp2_with fail
 rw[←HW0.o]
 go_at_call 40
 refine HC.o.mono ?_
 intro e w1 h1
 unfold pubPost at h1
 by_cases hf:L.failed=true
 ·rw[if_pos hf] at h1
  obtain⟨rfl,hb⟩:=h1
  have hx0:=of_sent f w1 (HE.o.below hb).sents 6 (by decide) (by decide)
  rw[show ((ofCode 6:Nat):Int)=7 from rfl] at hx0
  have HX:=zh hx0
  clear hx0
  have HB:=zh hb
  have HF:=zh hf
  clear hb hf
  go_wp2_with (go_at_call 37;refine HX.o.mono ?_;rintro e w2 ⟨rfl,hb2⟩;have HB2:=zh hb2;clear hb2;obtain⟨t0,t1,t2,t3,t4⟩:=((HT.o.below HB.o).below HB2.o).facts)
  refine bodyPost_ret (v:=.tuple #[.int .i64 0,toldV 7 ⟨#[]⟩]) (by simp[results,results15,go_sem,t0,t1]) rfl ?_
  unfold ppubPost
  rw[if_pos HF.o]
  have hz:w.heap.size≤w1.heap.size:=Nat.le_trans HB0.o.size HB.o.size
  exact⟨rfl,(((HB0.o.trans (HB.o.mono HB0.o.size)).trans (HB2.o.mono hz)).setCell (Nat.le_refl _) _).setCell (Nat.le_refl _) _⟩
 ·rw[if_neg hf] at h1
  obtain⟨v',vp',Q,hQ,h2,h3,h4,h5,h6⟩:=h1
  have HQ:=zh hQ
  have H2:=zh h2
  have H3:=zh h3
  have H4:=zh h4
  have H5:=zh h5
  have HF:=zh hf
  have hE1:=HE.o.step h4 h5
  have HE1:=zh hE1
  clear hQ h2 h3 h4 h5 hf hE1
  rcases h6 with ⟨h7,rfl⟩|⟨p,r,u,m,h7,rfl,_,_,h8,h9⟩
  ·have H7:=zh h7
   have HX:=zh (of_nil f w1 HE1.o.sents)
   clear h7
   go_wp2_with (go_at_call 37;refine HX.o.mono ?_;rintro e w2 ⟨rfl,hb2⟩;have HB2:=zh hb2;clear hb2;obtain⟨ht2,hen⟩:=told_pub (w3:=(w2.setCell ⟨w.heap.size,0,none⟩ (.int .i64 0)).setCell ⟨w.heap.size,1,none⟩ (.string ⟨#[]⟩)) HW0.o HL.o HD.o HBS.o H2.o H3.o H4.o H5.o HB2.o;have HEN:=zh (hen 0 _ rfl);obtain⟨t0,t1,t2,t3,t4⟩:=ht2.facts;clear ht2 hen)
   refine bodyPost_ret (v:=.tuple #[.int .i64 L.entries.length,toldV 0 ⟨#[]⟩]) (by simp[results,results15,go_sem,t0,t1]) rfl ?_
   unfold ppubPost
   rw[if_neg HF.o]
   exact⟨v',vp',Q,HQ.o,HEN.o.1,HEN.o.2.1,HEN.o.2.2.1,HEN.o.2.2.2,.inl ⟨H7.o,rfl⟩⟩
  ·have H7:=zh h7
   have HX:=zh (of_own f w1 HE1.o.sents HE1.o.errT r u p h9)
   clear h7 h8 h9
   go_wp2_with (go_at_call 37;refine HX.o.mono ?_;rintro e w2 ⟨rfl,hb2⟩;have HB2:=zh hb2;clear hb2;obtain⟨ht2,hen⟩:=told_pub (w3:=(w2.setCell ⟨w.heap.size,0,none⟩ (.int .i64 8)).setCell ⟨w.heap.size,1,none⟩ (.string p)) HW0.o HL.o HD.o HBS.o H2.o H3.o H4.o H5.o HB2.o;have HEN:=zh (hen 8 p rfl);obtain⟨t0,t1,t2,t3,t4⟩:=ht2.facts;clear ht2 hen)
   refine bodyPost_ret (v:=.tuple #[.int .i64 0,toldV 8 p]) (by simp[results,results15,go_sem,t0,t1]) rfl ?_
   unfold ppubPost
   rw[if_neg HF.o]
   exact⟨v',vp',Q,HQ.o,HEN.o.1,HEN.o.2.1,HEN.o.2.2.1,HEN.o.2.2.2,.inr ⟨p,H7.o,rfl⟩⟩
end
end Go.Proofs.YtefccfakhgdfbabGreatDoor
