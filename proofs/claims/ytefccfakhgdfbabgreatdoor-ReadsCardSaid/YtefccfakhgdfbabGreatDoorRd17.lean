/- tilesref.level: the files of one level behind some files. Conditions: fewer than 2^30 files; short texts. -/
import Derived.Test.YtefccfakhgdfbabGreatDoorRd16
set_option linter.unusedVariables false
set_option linter.unusedSimpArgs false
open Go.RowKit Go.Proofs.Tryz
set_option maxRecDepth 100000
set_option maxHeartbeats 4000000
namespace Go.Proofs.YtefccfakhgdfbabGreatDoor
section
theorem Qwd:∀ (fs:List Fil) (d:Dk),(putsD d fs).1.calls≤d.calls+fs.length∧(putsD d fs).1.files.length≤d.files.length+fs.length
 | [],d=>⟨Nat.le_refl _,Nat.le_refl _⟩
 | f :: fs,d=>by
   have h:=Q07 d f.1 f.2
   have h2:=Qwd fs (putD d f.1 f.2)
   rw[putsD]
   split
   ·simp only[List.length_cons];omega
   ·simp only[List.length_cons];omega
theorem Qr6 (t:Int) (row:List (List UInt8)) (j:Nat) (d:Dk):(J1 t row j d).1.calls≤d.calls+(row.length+3) / 4∧(J1 t row j d).1.files.length≤d.files.length+(row.length+3) / 4:=by
 have h:=Qwd ((Ys t row).drop j) d;have hl:((Ys t row).drop j).length≤(row.length+3) / 4:=by rw[List.length_drop,Qbi];omega
 unfold J1;simp only[];omega
def Qfm (f:Nat→Addr) (w:World) (g gd:Nat) (v ve vl vp:Value) (vs:List Value) (d:Dk) (L:Lg) (e:Ending) (w':World):Prop:=
 if L.failed=true then e=.returned (.tuple #[.int .i64 0,.iface 338 (.pointer (some (f 6)))])∧Below w.heap.size w w'
 else ∃ v' vp' Q,Q=pubD L.entries L.key L.put d∧Q3 w' gd v' Q.1∧Zn w' g gd ve vl vp' vs { L with put:=Q.2.1,failed:=Q.2.2.isSome }∧Fr (Jo g gd v ve vl vp vs) w w'∧Sub w (Jo g gd v ve vl vp vs) (Jo g gd v' ve vl vp' vs)∧
  ((Q.2.2=none∧e=.returned (.tuple #[.int .i64 L.entries.length,.nilIface]))∨∃ p r u m,Q.2.2=some p∧e=.returned (.tuple #[.int .i64 0,.iface 153 (.pointer (some ⟨r,0,none⟩))])∧w.heap.size≤r∧w.heap.size≤u∧w'.heap[u]?=some (.cells #[.int .i64 m] 366 (0,0))∧
   w'.heap[r]?=some (.cells #[.string p,.iface 152 (.pointer (some ⟨u,0,none⟩))] 155 (0,0)))
structure Vars (w:World) (g pl:Nat) (n:Int) (ev:Value):Prop where
 l:w.heap[pl]?=some (.cells #[.pointer (some ⟨g,0,none⟩)] 86 (0,0))
 n:w.heap[pl+1]?=some (.cells #[.int .i64 n] 3 (0,0))
 e:w.heap[pl+1+1]?=some (.cells #[ev] 88 (0,0))
variable {w w':World} {g pl:Nat} {n:Int} {ev:Value}
theorem Vars.below (h:Vars w g pl n ev) (hb:Below w.heap.size w w'):Vars w' g pl n ev:=
 ⟨(hb.block _ (Qc h.l)).trans h.l,(hb.block _ (Qc h.n)).trans h.n,(hb.block _ (Qc h.e)).trans h.e⟩
theorem Vars.cells (h:Vars w g pl n ev):w.cell? ⟨pl,0,none⟩=some (.pointer (some ⟨g,0,none⟩))∧w.cell? ⟨pl+1,0,none⟩=some (.int .i64 n)∧w.cell? ⟨pl+1+1,0,none⟩=some ev∧
  w.frozen? ⟨pl+1,0,none⟩=false∧w.frozen? ⟨pl+1+1,0,none⟩=false:=⟨Qd h.l 0 rfl,Qd h.n 0 rfl,Qd h.e 0 rfl,Qq h.n 0,Qq h.e 0⟩
theorem Vars.err (h:Vars w g pl n ev) (x:Value):Vars (w.setCell ⟨pl+1+1,0,none⟩ x) g pl n x:=
 ⟨Jg h.l (show pl≠pl+1+1 by omega) _,Jg h.n (show pl+1≠pl+1+1 by omega) _,(heap_setCell h.e _).trans (by simp)⟩
theorem Vars.num (h:Vars w g pl n ev) (x:Int):Vars (w.setCell ⟨pl+1,0,none⟩ (.int .i64 x)) g pl x ev:=
 ⟨Jg h.l (show pl≠pl+1 by omega) _,(heap_setCell h.n _).trans (by simp),Jg h.e (show pl+1+1≠pl+1 by omega) _⟩
def Q69 (w:World) (g gd:Nat) (v ve vl vp:Value) (vs:List Value) (L:Lg) (d:Dk) (pl k:Nat) (wx:World):Prop:=
 ∃ v1 vp1 d1 ps ev,Pk w (pl+3) g gd v ve vl vp vs L v1 vp1 d1 ps wx∧Vars wx g pl 0 ev∧Qdw (Zc L.entries) ps∧d1.calls≤d.calls+k*1048576∧d1.files.length≤d.files.length+k*1048576∧
  ((ev=.nilIface∧pubJ 0 (Zc L.entries) L.put d=pubJ k ((Zc L.entries).drop k) ps d1)∨
     ∃ p r u m,ev=.iface 153 (.pointer (some ⟨r,0,none⟩))∧w.heap.size≤r∧w.heap.size≤u∧wx.heap[u]?=some (.cells #[.int .i64 m] 366 (0,0))∧
   wx.heap[r]?=some (.cells #[.string p,.iface 152 (.pointer (some ⟨u,0,none⟩))] 155 (0,0))∧pubJ 0 (Zc L.entries) L.put d=(d1,ps,some p))
variable {gd k:Nat} {v ve vl vp v1 vp1:Value} {vs:List Value} {L:Lg} {d d1:Dk} {ps:List Nat} {row:List (List UInt8)} {t:Int}
theorem Qv3 {wr w5:World} {u:Value} (hp:Pk w (pl+3) g gd v ve vl vp vs L v1 vp1 d1 ps wr) (hv:Vars wr g pl 0 .nilIface)
  (hm:Qdw (Zc L.entries) ps) (hr:(Zc L.entries)[k]?=some row) (hl:row.length≤1048576) (hJ:pubJ 0 (Zc L.entries) L.put d=pubJ k ((Zc L.entries).drop k) ps d1) (ht:t=(k:Int)-1)
  (hw:Qns wr g gd v1 ve vl vp1 vs d1 { L with put:=ps } t k row (.returned u) w5) (hc:d1.calls≤d.calls+k*1048576) (hf:d1.files.length≤d.files.length+k*1048576) (hpl:pl=w.heap.size):Q69 w g gd v ve vl vp vs L d pl (k+1) (w5.setCell ⟨pl+1+1,0,none⟩ u):=by
 obtain⟨p1,q,hp1,hq,v',vp',hwk,hend⟩:=hw;subst ht;have hbd:=Qr6 ((k:Int)-1) row (p1.getD k 0 / 4) d1;have hmk:=Qlp ((k:Int)-1) row (p1.getD k 0 / 4) d1;rw[←hq] at hbd hmk;have hst:=Qzd hr ps d1 hp1 hq;have hP:=hp.write hwk;have h1:=hp.keeps hwk.fr (b:=pl) (by omega) (by omega) hv.l;have h2:=hp.keeps hwk.fr (b:=pl+1) (by omega) (by omega) hv.n;have h3:=hp.keeps hwk.fr (b:=pl+1+1) (by omega) (by omega) hv.e;have hFs:=Fr.set1 w5 (pl+1+1) 0 u;have hP2:=hP.var (b:=pl+1+1) (by omega) (by omega) h3 (by decide) hFs;have hV2:Vars (w5.setCell ⟨pl+1+1,0,none⟩ u) g pl 0 u:=Vars.err ⟨h1,h2,h3⟩ u;have hM2:Qdw (Zc L.entries) (p1.set k q.2.1):=by rw[hp1];exact hm.next hr hmk
 refine⟨v',vp',q.1,p1.set k q.2.1,u,hP2,hV2,hM2,by omega,by omega,?_⟩;rcases hend with ⟨hq2,he⟩|⟨p,r,x,m,hq2,he,hr1,hx1,hhx,hhr⟩
 ·left
  rw[hq2] at hst;cases he;exact⟨rfl,by rw[hJ,hst]⟩
 ·right
  rw[hq2] at hst;cases he;have hsz:=hp.size;exact⟨p,r,x,m,rfl,by omega,by omega,hFs.heap hhx (by omega),hFs.heap hhr (by omega),by rw[hJ,hst]⟩
theorem Q3i (w:World) (g:Nat):Vars (((w.alloc (.cells #[.pointer (some ⟨g,0,none⟩)] 86)).alloc (.cells #[.int .i64 0] 3)).alloc (.cells #[.nilIface] 88)) g w.heap.size 0 .nilIface:=by
 refine⟨?_,?_,?_⟩
 ·rw[heap_alloc_old _ _ (by simp;omega),heap_alloc_old _ _ (by simp),heap_alloc_new]
 ·rw[heap_alloc_old _ _ (by simp)]
  have:=heap_alloc_new (w.alloc (.cells #[.pointer (some ⟨g,0,none⟩)] 86)) (.cells #[.int .i64 0] 3)
  simpa using this
 ·have:=heap_alloc_new ((w.alloc (.cells #[.pointer (some ⟨g,0,none⟩)] 86)).alloc (.cells #[.int .i64 0] 3)) (.cells #[.nilIface] 88)
  simpa using this
variable {f:Nat→Addr} {W9:World} {r u:Nat} {m x:Int} {p:ByteArray}
theorem Q3v (hP:Pk w (pl+3) g gd v ve vl vp vs L v1 vp1 d1 ps W9) (hV:Vars W9 g pl x (.iface 153 (.pointer (some ⟨r,0,none⟩))))
  (hpl:pl=w.heap.size) (hg:g<w.heap.size) (hr:w.heap.size≤r) (hu:w.heap.size≤u) (hhu:W9.heap[u]?=some (.cells #[.int .i64 m] 366 (0,0))) (hhr:W9.heap[r]?=some (.cells #[.string p,.iface 152 (.pointer (some ⟨u,0,none⟩))] 155 (0,0)))
  (hfd:L.failed=false) (hQ:pubD L.entries L.key L.put d=(d1,ps,some p)) :
  Qfm f w g gd v ve vl vp vs d L (.returned (.tuple #[.int .i64 0,.iface 153 (.pointer (some ⟨r,0,none⟩))])) ((W9.setCell ⟨pl+1,0,none⟩ (.int .i64 0)).setCell ⟨g,5,none⟩ (.bool true))∧
   ((W9.setCell ⟨pl+1,0,none⟩ (.int .i64 0)).setCell ⟨g,5,none⟩ (.bool true)).cell? ⟨pl+1,0,none⟩=some (.int .i64 0)∧((W9.setCell ⟨pl+1,0,none⟩ (.int .i64 0)).setCell ⟨g,5,none⟩ (.bool true)).cell? ⟨pl+1+1,0,none⟩=some (.iface 153 (.pointer (some ⟨r,0,none⟩))):=by
 have hF1:=Fr.set1 W9 (pl+1) 0 (.int .i64 0);have hP1:=hP.var (b:=pl+1) (by omega) (by omega) hV.n (by decide) hF1;have hV1:=hV.num 0;have hl:=hP1.log.fail true;have hF2:=hl.2;have hF3:Fr (Jo g gd v1 ve vl vp1 vs) (W9.setCell ⟨pl+1,0,none⟩ (.int .i64 0)) ((W9.setCell ⟨pl+1,0,none⟩ (.int .i64 0)).setCell ⟨g,5,none⟩ (.bool true)):=hF2.weak fun k _ hk=>.inr hk
 have hn:=hP1.keeps hF3 (b:=pl+1) (by omega) (by omega) hV1.n;have he:=hP1.keeps hF3 (b:=pl+1+1) (by omega) (by omega) hV1.e;refine⟨?_,Qd hn 0 rfl,Qd he 0 rfl⟩;unfold Qfm;rw[if_neg (by rw[hfd];decide)];have hFg:=Fr.set1 (W9.setCell ⟨pl+1,0,none⟩ (.int .i64 0)) g 5 (.bool true);have h1:=hF1.heap hhu fun e=>by subst e;rw[hV.n] at hhu;simp at hhu
 have h2:=hF1.heap hhr fun e=>by subst e;rw[hV.n] at hhr;simp at hhr
 refine⟨v1,vp1,(d1,ps,some p),hQ.symm,?_,hl.1,Fr.sub hP1.fr hF3 hP1.subw,hP1.subw,.inr ⟨p,r,u,m,rfl,rfl,hr,hu,hFg.heap h1 (by omega),hFg.heap h2 (by omega)⟩⟩;exact hP1.disk.fr hF2 fun k hk hS=>hP1.log.apartDisk hP1.disk k hS hk
variable {T:Array Value}
theorem Qge (hP:Pk w (pl+3) g gd v ve vl vp vs L v1 vp1 d1 ps W9) (hV:Vars W9 g pl x (.iface 153 (.pointer (some ⟨r,0,none⟩))))
  (hpl:pl=w.heap.size) (hg:g<w.heap.size) (hr:w.heap.size≤r) (hu:w.heap.size≤u) (hhu:W9.heap[u]?=some (.cells #[.int .i64 m] 366 (0,0))) (hhr:W9.heap[r]?=some (.cells #[.string p,.iface 152 (.pointer (some ⟨u,0,none⟩))] 155 (0,0)))
  (hfd:L.failed=false) (hQ:pubD L.entries L.key L.put d=(d1,ps,some p)) (hT2:T.getD 2 undef=.pointer (some ⟨pl+1,0,none⟩)) (hT3:T.getD 3 undef=.pointer (some ⟨pl+1+1,0,none⟩)) :
  bodyPostD prog f40 (Qfm f w g gd v ve vl vp vs d L) Exit.ret { tmps:=T,defers:=[{ target:=.fn (.func 76) #[.pointer (some ⟨pl+1+1,0,none⟩),.pointer (some ⟨pl+1,0,none⟩),.pointer (some ⟨pl,0,none⟩)],args:=#[] }] } W9:=by
 obtain⟨x1,x2,x3,xf2,_⟩:=hV.cells;have xg:=hP.log.heads.1.2.2.2.2.2;have xgf:=hP.log.heads.2 5;obtain⟨pf1,pf2,pf3⟩:=Q3v (f:=f) hP hV hpl hg hr hu hhu hhr hfd hQ;refine leaves_cons (f:=76) (args:=#[.pointer (some ⟨pl+1+1,0,none⟩),.pointer (some ⟨pl+1,0,none⟩),.pointer (some ⟨pl,0,none⟩)]) (by simp) (by simp[go_sem]) ?_;refine (Q3t (pl+1+1) (pl+1) pl g .returning W9 x3 x1 x2 ⟨_,rfl⟩ xf2 xg xgf (by omega)).mono ?_;rintro e u' w'' ⟨rfl,rfl,rfl⟩;simp only[Leaves,settle];refine⟨.tuple #[.int .i64 0,.iface 153 (.pointer (some ⟨r,0,none⟩))],?_,pf1⟩;have hT2':T[2]?.getD undef=.pointer (some ⟨pl+1,0,none⟩):=by simpa [Array.getD_eq_getD_getElem?] using hT2
 have hT3':T[3]?.getD undef=.pointer (some ⟨pl+1+1,0,none⟩):=by simpa [Array.getD_eq_getD_getElem?] using hT3
 simp[results,results40,go_sem,hT2',hT3',pf2,pf3]
theorem Qpk (hP:Pk w (pl+3) g gd v ve vl vp vs L v1 vp1 d1 ps W9) (hV:Vars W9 g pl (L.entries.length:Int) .nilIface)
  (hfd:L.failed=false) (hQ:pubD L.entries L.key L.put d=(d1,ps,none)) (hT2:T.getD 2 undef=.pointer (some ⟨pl+1,0,none⟩)) (hT3:T.getD 3 undef=.pointer (some ⟨pl+1+1,0,none⟩)) :
  bodyPostD prog f40 (Qfm f w g gd v ve vl vp vs d L) Exit.ret { tmps:=T,defers:=[{ target:=.fn (.func 76) #[.pointer (some ⟨pl+1+1,0,none⟩),.pointer (some ⟨pl+1,0,none⟩),.pointer (some ⟨pl,0,none⟩)],args:=#[] }] } W9:=by
 obtain⟨x1,x2,x3,_,_⟩:=hV.cells;refine leaves_cons (f:=76) (args:=#[.pointer (some ⟨pl+1+1,0,none⟩),.pointer (some ⟨pl+1,0,none⟩),.pointer (some ⟨pl,0,none⟩)]) (by simp) (by simp[go_sem]) ?_;refine (Q32 (pl+1+1) (pl+1) pl .returning W9 x3).mono ?_;rintro e u' w'' ⟨rfl,rfl,rfl⟩;simp only[Leaves,settle];refine⟨.tuple #[.int .i64 L.entries.length,.nilIface],?_,?_⟩
 ·have hT2':T[2]?.getD undef=.pointer (some ⟨pl+1,0,none⟩):=by simpa [Array.getD_eq_getD_getElem?] using hT2
  have hT3':T[3]?.getD undef=.pointer (some ⟨pl+1+1,0,none⟩):=by simpa [Array.getD_eq_getD_getElem?] using hT3
  simp[results,results40,go_sem,hT2',hT3',x2,x3]
 ·unfold Qfm
  rw[if_neg (by rw[hfd];decide)];have hl:=hP.log;refine⟨v1,vp1,(d1,ps,none),hQ.symm,hP.disk,?_,hP.fr,hP.subw,.inl ⟨rfl,rfl⟩⟩;have e:({ L with put:=ps,failed:=false }:Lg)={ L with put:=ps }:=by rw[←hfd]
  show Zn _ _ _ _ _ _ _ { L with put:=ps,failed:=false };rw[e];exact hl
theorem Qwa {a b:Nat} (h:a≤b+(k+1)*1048576) (hb:b<900000000000) (hk:k≤12):a<1000000000000:=by omega
theorem Q5l (n:Int) (y:Hsh):Array.foldl (fun (cs:Array Value) (x:Value×Nat)=>cs.setIfInBounds (1+x.snd) x.fst) #[.int .i64 n,.int .u8 0,.int .u8 0,.int .u8 0,.int .u8 0,.int .u8 0,.int .u8 0,.int .u8 0,.int .u8 0] (h8 y).zipIdx 0 8=trC n y:=by rw[Qgb];simp
theorem Q0j (w:World) (g:Nat) (n:Int) (k:Hsh):Fr (·=g) w (((((((((w.setCell ⟨g,0,none⟩ (.int .i64 n)).setCell ⟨g,1,none⟩ (u8 k[0])).setCell ⟨g,2,none⟩ (u8 k[1])).setCell ⟨g,3,none⟩ (u8 k[2])).setCell ⟨g,4,none⟩ (u8 k[3])).setCell ⟨g,5,none⟩ (u8 k[4])).setCell ⟨g,6,none⟩ (u8 k[5])).setCell ⟨g,7,none⟩ (u8 k[6])).setCell ⟨g,8,none⟩ (u8 k[7])):=(((((((((Fr.set1 w g 0 (.int .i64 n)).set 1 (u8 k[0])).set 2 (u8 k[1])).set 3 (u8 k[2])).set 4 (u8 k[3])).set 5 (u8 k[4])).set 6 (u8 k[5])).set 7 (u8 k[6])).set 8 (u8 k[7]))
theorem Q1b (h:TrAt w g 0 zero8) (n:Int) (k:Hsh):TrAt (((((((((w.setCell ⟨g,0,none⟩ (.int .i64 n)).setCell ⟨g,1,none⟩ (u8 k[0])).setCell ⟨g,2,none⟩ (u8 k[1])).setCell ⟨g,3,none⟩ (u8 k[2])).setCell ⟨g,4,none⟩ (u8 k[3])).setCell ⟨g,5,none⟩ (u8 k[4])).setCell ⟨g,6,none⟩ (u8 k[5])).setCell ⟨g,7,none⟩ (u8 k[6])).setCell ⟨g,8,none⟩ (u8 k[7])) g n k:=
 (heap_setCell (i:=8) (heap_setCell (i:=7) (heap_setCell (i:=6) (heap_setCell (i:=5) (heap_setCell (i:=4) (heap_setCell (i:=3) (heap_setCell (i:=2) (heap_setCell (i:=1) (heap_setCell (i:=0) h (.int .i64 n)) (u8 k[0])) (u8 k[1])) (u8 k[2])) (u8 k[3])) (u8 k[4])) (u8 k[5])) (u8 k[6])) (u8 k[7])).trans (by simp[trC,bv])
theorem Q7g (w:World) (s:ByteArray):∃ b c w',Sem.run prog (convert 9 94 (.string s)) w=.ok (.slice (some ⟨b,0,none⟩) s.size c) w'∧Qz w' w.heap.size (.slice (some ⟨b,0,none⟩) s.size c) s.data.toList∧Below w.heap.size w w':=by
 have hr:=Lib.run_convert_string_bytes (P:=prog) w 9 94 5 s underlying9 underlying94 underlying5;refine⟨_,_,_,hr,?_,?_⟩
 ·refine .inr ⟨w.heap.size,0,grownCap w s.size 0 5,Lib.bytesCells w 5 s,_,by simp,by have:=grownCap_ge w s.size 0 5;simpa using this,Nat.le_refl _,Lib.bytesWorld_at_new w _ s,fun j y hy=>?_,?_,.inr (Nat.le_refl _)⟩
  ·have hj:j<s.size:=by
    have:=(List.getElem?_eq_some_iff.1 hy).1
    simpa using this
   have h2:s.data[j]?=some y:=by simpa using hy
   have h3:s.data[j]=y:=by rw[Array.getElem?_eq_getElem hj,Option.some.injEq] at h2;exact h2
   simp[Lib.bytesCells,Array.getElem?_append,hj,h3]
  ·simp[Lib.bytesCells]
 ·exact⟨by simp[Lib.bytesWorld,World.freeze,World.alloc,World.drew,-World.alloc_eq,-World.drew_eq],by simp[Lib.bytesWorld,World.freeze,World.alloc,World.drew,-World.alloc_eq,-World.drew_eq],by simp[Lib.bytesWorld,World.freeze,World.alloc,World.drew,-World.alloc_eq,-World.drew_eq],by rw[Lib.bytesWorld_size];omega,fun k hk=>Lib.bytesWorld_at_old w 5 s k hk⟩
theorem Q42 (w:World):(binOp .eql 88 .nilIface .nilIface).run prog w=.ok (.bool true) w:=by
 have h:∀ d:Nat,(Op.equalIn (d+1) 88 .nilIface .nilIface).run prog w=.ok true w:=fun d=>by simp[Op.equalIn,run_underlying underlying88]
 simp only[binOp];simp[Op.equal,Op.maxDepth,h 9999]
theorem Qja {n:Nat} {e:Ending} (h:Qns w g gd v ve vl vp vs d L t n row e w'):∃ u,e=.returned u∧(u=.nilIface∨∃ t x,u=.iface t x):=by
 obtain⟨_,_,_,_,_,_,_,h⟩:=h;rcases h with ⟨_,rfl⟩|⟨_,_,_,_,_,rfl,_⟩
 ·exact⟨_,rfl,.inl rfl⟩
 ·exact⟨_,rfl,.inr ⟨_,_,rfl⟩⟩
def Q7x:Op:=.convert 9 94 (.tmp 71)
theorem Q3c:Op.convert 9 94 (.tmp 71)=Q7x:=rfl
section
attribute [local go_sem] Q7x Q5l h8_0 h8_1 h8_2 h8_3 h8_4 h8_5 h8_6 h8_7 Qbg h8_size
theorem Qts (f:Nat→Addr) (w:World) (g gd:Nat) (v ve vl vp:Value) (vs:List Value) (d:Dk) (L:Lg) (h:Zn w g gd ve vl vp vs L) (hD:Q3 w gd v d) (hE:EnvS f (Jo g gd v ve vl vp vs) w) (hlv:L.levels=levels L.entries) (hn:L.entries.length≤1048576)
  (hs:∀ e∈L.entries,e.length≤20) (hm:Qdw (Zc L.entries) L.put) (hc:d.calls<900000000000) (hfl:d.files.length<900000000000) (hkey:L.key.size≤9223372036854775807) :
  Calls prog 40 #[.pointer (some ⟨g,0,none⟩)] w (Qfm f w g gd v ve vl vp vs d L):=by
 have hmf:∀ (fn:Fn) (first cap:Array Value) (w:World),(Instr.makeFunc fn first cap).run prog w=.ok (.func fn first cap) w:=fun _ _ _ _=>rfl
 have hg:=Qc h.cells;obtain⟨_,_,_,_,_,_,s6⟩:=hE.sents.cells;have b6:=Qk s6;obtain⟨⟨_,_,_,_,_,c5⟩,f0⟩:=h.heads;obtain⟨W0,hW0⟩:∃ W0,W0=((w.alloc (.cells #[.pointer (some ⟨g,0,none⟩)] 86)).alloc (.cells #[.int .i64 0] 3)).alloc (.cells #[.nilIface] 88):=⟨_,rfl⟩
 have hb0:Below w.heap.size w W0:=by rw[hW0];exact ((Qa w _).alloc (by simp) _).alloc (by simp;omega) _
 have hv0:Vars W0 g w.heap.size 0 .nilIface:=by rw[hW0];exact Q3i w g
 have hp0:Pk w W0.heap.size g gd v ve vl vp vs L v vp d L.put W0:=⟨hD.below hb0,h.below hb0,Fr.ofBelow hb0,fun k hk=>.inl hk,fun k hk=>Qk4 h hD hk,Nat.le_refl _,hb0.size⟩
 obtain⟨pl,hpl⟩:∃ pl,pl=w.heap.size:=⟨_,rfl⟩
 have hszW:W0.heap.size=w.heap.size+3:=by rw[hW0];simp
 have hHl:=hp0.log.heads;obtain⟨⟨_,_,_,_,_,c50⟩,_⟩:=hHl;have hgW:g<W0.heap.size:=by omega
 have s60:=(hb0.cell (p:=⟨0,0,none⟩) b6).trans s6;have b60:=Qk s60;obtain⟨k1,k2,k3,kf2,kf3⟩:=hv0.cells;have HW0:=zh hW0;have HPL:=zh hpl;have HSZ:=zh hszW;have HB0:=zh hb0;have HFL:=zh hfl;have hpb1:=Qc hv0.l;have hpb2:=Qc hv0.n;have hpb3:=Qc hv0.e;rw[←hpl] at k1 k2 k3 kf2 kf3 hpb1 hpb2 hpb3 hv0;cases hfd:L.failed with
 | true=>
  have c50':W0.cell? ⟨g,5,none⟩=some (.bool true):=by rw[←hfd];exact c50
  clear h hD hE hW0 hpl hszW hb0 hp0 c50 c5 s6 b6 f0
  go_enter_defers func40,ntmps40
  go_upto_region 1 with fail
  rw[←HW0.o,←HPL.o];go_wp2;go_region
  all_goals (
   go_wp2
   have hV:=((hv0.num 0).err (.iface 338 (.pointer (some (f 6))))).below (Ql _)
   obtain⟨_,r2,r3,_,_⟩:=hV.cells
   have hBB:Below w.heap.size w ((W0.setCell ⟨pl+1,0,none⟩ (.int .i64 0)).setCell ⟨pl+1+1,0,none⟩ (.iface 338 (.pointer (some (f 6))))).drew:=by
    have hp:=HPL.o
    exact ((HB0.o.setCell (by show _≤pl+1;omega) _).setCell (by show _≤pl+1+1;omega) _).drew
   simp only[bodyPostD,Leaves]
   refine⟨.tuple #[.int .i64 0,.iface 338 (.pointer (some (f 6)))],?_,?_⟩
   ·simp[results,results40,go_sem,r2,r3]
   ·unfold Qfm
    rw[if_pos hfd]
    exact⟨rfl,hBB⟩)
 | false=>
  have c50':W0.cell? ⟨g,5,none⟩=some (.bool false):=by rw[←hfd];exact c50
  have HE:=zh hE;have HP0:=zh hp0;have HV0:=zh hv0;have HLV:=zh hlv;have HS:=zh hs;have HM:=zh hm;have HFD:=zh hfd;clear h hD hE hlv hs hm hfd hp0 hv0 hb0 hW0 hpl hszW c50 c5 s6 b6 f0 hfl
  go_enter_defers func40,ntmps40
  go_upto_region 1 with fail
  rw[←HW0.o,←HPL.o];obtain⟨vse,hrowe,_⟩:=HP0.o.log.ents;obtain⟨ae,ce,rfl⟩:=Zs hrowe;have ce2:=HP0.o.log.heads.1.2.2.1;obtain⟨ln,hln⟩:∃ ln,ln=L.entries.length:=⟨_,rfl⟩
  have ce2':W0.cell? ⟨g,2,none⟩=some (.slice ae ln ce):=by rw[hln];exact ce2
  have HLN:=zh hln;clear hrowe ce2 hln
  go_upto_region 4 with fail
  go_cut [] from 14 to 21 (fun wx=>Aside (Q69 w g gd v (.slice ae L.entries.length ce) vl vp vs L d pl 1 wx))
  case first=>
   go_still_tail 7,(by kernel_rfl)
   change wpList _ _ _ _ _ W0.drew
   obtain⟨W1,hW1⟩:∃ W1,W1=W0.drew:=⟨_,rfl⟩
   rw[←hW1];have hP1:Pk w (pl+3) g gd v (.slice ae L.entries.length ce) vl vp vs L v vp d L.put W1:=by rw[hW1,show pl+3=W0.heap.size by rw[HSZ.o,HPL.o]];exact HP0.o.below (Ql _)
   have hV1:Vars W1 g pl 0 .nilIface:=by rw[hW1];exact HV0.o.below (Ql _)
   clear hW1;obtain⟨j1,j2,j3,jf2,jf3⟩:=hV1.cells;have jc:=hP1.log.heads.1.2.2.1;have hlen:(L.entries.map encE).length=L.entries.length:=by simp
   have hwr:=Qq5 f W1 g gd v (.slice ae L.entries.length ce) vl vp vs d { L with put:=L.put } hP1.log hP1.disk (HE.o.step hP1.fr hP1.subw) (-1) 0 (by decide) (by decide) (by show L.put.length≤_;have:=HM.o.1;rw[Jv] at this;have:=Qay hn;omega) (L.entries.map encE) (by rw[hlen];exact hn)
    (fun a ha=>HM.o.2 0 a _ ha (Qbb _)) (fun x hx=>by obtain⟨e,he,rfl⟩:=List.mem_map.1 hx;have:=HS.o e he;simp only[encE,List.length_cons];omega) (by omega) (by have:=HFL.o;omega)
    78 pl (enters_of func78 (by kernel_rfl) rfl) (fun w1 vp1 ps hl hfr j hj=>by
     rw[hlen] at hj ⊢
     exact Q3e w1 g gd _ vl vp1 vs { L with put:=ps } hl pl (hfr.cell j1 (hP1.o (b:=pl) (by rw[HPL.o];exact Nat.le_refl _) (by omega))) j hj hn HS.o)
   rw[hlen] at hwr;have HWR:=zh hwr;have HP1:=zh hP1;have HV1:=zh hV1;clear hwr hlen hP1 hV1
   go_wp2_with fail
   refine HWR.o.mono ?_;rintro e w5 hw5;obtain⟨u,rfl,hu⟩:=Qja hw5;have HST:=zh (Qv3 (k:=0) HP1.o HV1.o HM.o (Qbb _) (by rw[List.length_map];exact hn) rfl (by decide) hw5 (by omega) (by omega) HPL.o);obtain⟨jz,hjz⟩:∃ c,w5.cell? ⟨pl+1+1,0,none⟩=some c∧w5.frozen? ⟨pl+1+1,0,none⟩=false:=by obtain⟨_,_,_,_,_,_,hwk,_⟩:=hw5;have h3:=HP1.o.keeps hwk.fr (b:=pl+1+1) (by rw[HPL.o];omega) (by omega) HV1.o.e;exact⟨_,Qd h3 0 rfl,Qq h3 0⟩
   obtain⟨jz1,jz2⟩:=hjz;clear hw5;rcases hu with rfl|⟨tu,xu,rfl⟩
   ·go_wp2_with fail
    go_meet;exact HST.o
   ·go_wp2_with fail
    go_meet;exact HST.o
  case rest=>
   have HST0:=hcut;clear hcut k1 k2 k3 kf2 kf3 c50' s60 ce2'
   go_wp2_with fail
   go_loopg [4] (nLev L.entries.length+2) (fun gg s4 wr=>∃ k:Nat,k≤nLev L.entries.length∧nLev L.entries.length+1-k≤gg∧s4=.int .i64 k∧Aside (Q69 w g gd v (.slice ae L.entries.length ce) vl vp vs L d pl (k+1) wr))
   case atStart=>exact⟨0,by omega,by omega,rfl,HST0⟩
   case round=>
    obtain⟨k,hk,hgg,rfl,HST⟩:=hrel;obtain⟨v1,vp1,d1,ps,ev,hP,hV,hM,hdc,hdf,hend⟩:=HST.o;have HP:=zh hP;have HV:=zh hV;have HM2:=zh hM;obtain⟨j1,j2,j3,jf2,jf3⟩:=hV.cells;have jc3:=hP.log.heads.1.2.2.2.1;have jg:=Qc hP.log.cells;obtain⟨al,cl,hvl⟩:∃ al cl,vl=.slice al L.levels.length cl:=Zs hP.log.rows;obtain⟨nl,hnl⟩:∃ nl,nl=L.levels.length:=⟨_,rfl⟩
    have hnl2:nl=nLev L.entries.length:=by rw[hnl,HLV.o];simp[levels]
    rw[hvl,←hnl] at jc3;have HVL:=zh hvl;have HNL:=zh hnl;have HNL2:=zh hnl2;have hpb1:=Qc hV.l;have hpb2:=Qc hV.n;have hpb3:=Qc hV.e;clear hP hV hM hvl hnl hnl2 HST0 HST;rcases hend with ⟨rfl,hJ⟩|⟨p,r,u,m,rfl,hr,hu,hhu,hhr,hJ⟩
    ·have hee:=Q42 wr
     have HJ:=zh hJ;clear hJ;by_cases hlt:k<nl
     ·have hltz:(k:Int)<(nl:Int):=by omega
      have hkl:k<L.levels.length:=by have:=HNL.o;omega
      have hvsl:vs.length=L.levels.length:=by simpa using HP.o.log.rows.1
      obtain⟨r,hr⟩:∃ r,L.levels[k]?=some r:=⟨_,List.getElem?_eq_getElem hkl⟩
      obtain⟨vk,hvk⟩:∃ vk,vs[k]?=some vk:=⟨_,List.getElem?_eq_getElem (by omega)⟩
      have hown:=HP.o.log.each k vk r hvk hr;obtain⟨ak,ck,rfl⟩:=Zs hown;obtain⟨bl,rfl⟩:∃ bl,al=some ⟨bl,0,none⟩:=by
       rcases HP.o.log.rows.2 with ⟨_,h0⟩|⟨b,cap,cur,e,_⟩
       ·have h00:L.levels.length=0:=h0
        omega
       ·rw[HVL.o] at e;simp at e;exact⟨b,e.1⟩
      have jbl:wr.cell? ⟨bl,k,none⟩=some (.slice ak r.length ck):=by have hrw:=HP.o.log.rows;rw[HVL.o] at hrw;have h1:=hrw.cells (g:=bl) rfl k _ hvk;rw[Addr.add_lit] at h1;simpa using h1
      have hlr:L.levels[k]?=some (Zy L.entries k):=by rw[HLV.o];unfold levels;rw[List.getElem?_map,List.getElem?_range (by have:=HNL2.o;omega)];rfl
      have hre:r=Zy L.entries k:=by rw[hr] at hlr;exact Option.some.inj hlr
      obtain⟨row,hrow⟩:∃ row,row=r.map fun (x:Hsh)=>x.toList:=⟨_,rfl⟩
      have hrowl:row.length=r.length:=by rw[hrow];simp
      have hrr:(Zc L.entries)[k+1]?=some row:=by rw[Qdg L.entries k (by have:=HNL2.o;omega),hrow,hre]
      have hrl:r.length≤1048576:=by rw[hre,Jz];have:=Nat.div_le_self L.entries.length (4 ^ k);omega
      have hk0:(0:Int)≤(k:Int):=by omega
      have HRR:=zh hrr;have HROW:=zh hrow;have HRL:=zh hrowl;have HR0:=zh hr;have HVK:=zh hvk;clear hkl hvsl hr hvk hown hlr hre hrow hrowl hrr
      go_wp2_with fail
      obtain⟨W2,hW2⟩:∃ W2,W2=wr.alloc (.cells #[.slice ak r.length ck] 104):=⟨_,rfl⟩
      rw[←hW2];have hb2:Below wr.heap.size wr W2:=by rw[hW2];exact Qa _ _
      have hph:W2.heap[wr.heap.size]?=some (.cells #[.slice ak r.length ck] 104 (0,0)):=by rw[hW2];exact heap_alloc_new _ _
      have hP2:=HP.o.below hb2;have hV2:=HV.o.below hb2;have hkb:k≤12:=by have:=Qay hn;omega
      have hpout:¬ Jo g gd v1 (.slice ae L.entries.length ce) vl vp1 vs wr.heap.size:=fun hk'=>by
       have:=Qk4 HP.o.log HP.o.disk hk'
       omega
      have hwr:=Qq5 f W2 g gd v1 (.slice ae L.entries.length ce) vl vp1 vs d1 { L with put:=ps } hP2.log hP2.disk (HE.o.step hP2.fr hP2.subw) (k:Int) (k+1) (by omega) (by omega) (by show ps.length≤_;have:=HM2.o.1;rw[Jv] at this;have:=Qay hn;omega) row (by rw[HRL.o];exact hrl)
       (fun a ha=>HM2.o.2 (k+1) a row ha HRR.o) (fun x hx=>by rw[HROW.o] at hx;obtain⟨e,he,rfl⟩:=List.mem_map.1 hx;simp) (Qwa hdc hc hkb) (Qwa hdf (by have:=HFL.o;exact this) hkb)
       80 wr.heap.size (enters_of func80 (by kernel_rfl) rfl) (fun w1 vp1' ps' hl hfr j hj=>by
        have hcw:w1.cell? ⟨wr.heap.size,0,none⟩=some (.slice ak r.length ck):=Qd (hfr.heap hph hpout) 0 rfl
        have hp3:=Q4n w1 wr.heap.size _ r hcw (hl.each k _ r HVK.o HR0.o) j (by rw[←HRL.o];exact hj) hrl
        rw[←HROW.o,←HRL.o] at hp3
        exact hp3)
      rw[HRL.o] at hwr;refine hwr.mono ?_;rintro e w5 hw5;obtain⟨u,rfl,hu⟩:=Qja hw5;have HST5:=zh (Qv3 (k:=k+1) hP2 hV2 HM2.o HRR.o (by rw[HRL.o];exact hrl) HJ.o (by omega) hw5 hdc hdf HPL.o);obtain⟨jz1,jz2⟩:(∃ c,w5.cell? ⟨pl+1+1,0,none⟩=some c)∧w5.frozen? ⟨pl+1+1,0,none⟩=false:=by obtain⟨_,_,_,_,_,_,hwk,_⟩:=hw5;have h3:=hP2.keeps hwk.fr (b:=pl+1+1) (by rw[HPL.o];omega) (by omega) hV2.e;exact⟨⟨_,Qd h3 0 rfl⟩,Qq h3 0⟩
      obtain⟨jc0,jz1⟩:=jz1;clear hw5 hwr hP2 hV2 hph hW2 hb2 hpout;rcases hu with rfl|⟨tu,xu,rfl⟩
      ·go_wp2_with fail
       go_roundg (nLev L.entries.length+1-(k+1))
       case measure=>have:=HNL2.o;omega
       case rel=>exact⟨k+1,by have:=HNL2.o;omega,by omega,by go_num,HST5.o⟩
      ·go_wp2_with fail
       go_roundg (nLev L.entries.length+1-(k+1))
       case measure=>have:=HNL2.o;omega
       case rel=>exact⟨k+1,by have:=HNL2.o;omega,by omega,by go_num,HST5.o⟩
     ·have hltz:¬ (k:Int)<(nl:Int):=by omega
      have hfin:pubJ 0 (Zc L.entries) L.put d=(d1,ps,none):=by
       rw[HJ.o,Q3p];rw[Jv]
       have:=HNL2.o
       omega
      have HFIN:=zh hfin;have hnn:=Y2 wr;have jc2:=HP.o.log.heads.1.2.2.1;have hbs0:=HP.o.log.ents.at;clear hfin;obtain⟨ln,hln⟩:∃ ln,ln=L.entries.length:=⟨_,rfl⟩
      have hlnb:ln≤1048576:=by omega
      have jc2':wr.cell? ⟨g,2,none⟩=some (.slice ae ln ce):=by rw[hln];exact jc2
      have hbs1:Qes wr (.slice ae ln ce) L.entries:=by rw[hln];exact hbs0
      have HBS:=zh hbs1;have HLN:=zh hln;have hbs:∀ l∈L.entries,l.length≤9223372036854775807:=fun l hl=>by have:=HS.o l hl;omega
      have HBL:=zh hbs;clear hln jc2 hbs hbs0 hbs1
      go_upto_region 12 with fail
      go_cut [6] from 51 to 61 (fun s6 wx=>∃ q6,s6=.pointer (some ⟨q6,0,none⟩)∧Aside (TrAt wx q6 ln (rootOf L.entries))∧Aside (Below wr.heap.size wr wx)∧wr.heap.size≤q6)
      case first=>
       have hne1:¬ pl=wr.heap.size:=by omega
       have j1d:wr.drew.cell? ⟨pl,0,none⟩=some (.pointer (some ⟨g,0,none⟩)):=j1;have j2d:wr.drew.cell? ⟨g,2,none⟩=some (.slice ae ln ce):=jc2';have ja1:(wr.alloc (.cells #[.int .i64 0,.int .u8 0,.int .u8 0,.int .u8 0,.int .u8 0,.int .u8 0,.int .u8 0,.int .u8 0,.int .u8 0] 111)).drew.cell? ⟨pl,0,none⟩=some (.pointer (some ⟨g,0,none⟩)):=((Qa wr _).cell (p:=⟨pl,0,none⟩) hpb1).trans j1;have ja2:(wr.alloc (.cells #[.int .i64 0,.int .u8 0,.int .u8 0,.int .u8 0,.int .u8 0,.int .u8 0,.int .u8 0,.int .u8 0,.int .u8 0] 111)).drew.cell? ⟨g,2,none⟩=some (.slice ae ln ce):=((Qa wr _).cell (p:=⟨g,2,none⟩) jg).trans jc2';have hne2:¬ g=wr.heap.size:=by omega
       go_region_held3 (fun w'=>w'.cell? ⟨pl,0,none⟩=some (.pointer (some ⟨g,0,none⟩))∧w'.cell? ⟨g,2,none⟩=some (.slice ae ln ce)) (first|with_reducible exact⟨j1d,j2d⟩|with_reducible exact⟨m1,m2⟩|with_reducible exact⟨ja1,ja2⟩|with_reducible exact⟨mz1,mz2⟩|with_reducible exact⟨(Q0j w7 _ _ _).cell m1 hne1,(Q0j w7 _ _ _).cell m2 hne2⟩|exact⟨((Qa w7 _).cell (p:=⟨pl,0,none⟩) mb1).trans m1,((Qa w7 _).cell (p:=⟨g,2,none⟩) mb2).trans m2⟩) (first|(go_at_call 69;refine (Qm5 _ L.entries _ (HBS.o.below (Ql wr)) hn HBL.o).mono ?_;rintro e w7 ⟨rfl,hb7⟩;have HB7:=zh (show Below wr.heap.size wr w7 from (Ql wr).trans hb7);have m1:=(HB7.o.cell (p:=⟨pl,0,none⟩) hpb1).trans j1;have m2:=(HB7.o.cell (p:=⟨g,2,none⟩) jg).trans jc2';have mb1:=Nat.lt_of_lt_of_le hpb1 HB7.o.size;have mb2:=Nat.lt_of_lt_of_le jg HB7.o.size;have mz1:(w7.alloc (.cells #[.int .i64 0,.int .u8 0,.int .u8 0,.int .u8 0,.int .u8 0,.int .u8 0,.int .u8 0,.int .u8 0,.int .u8 0] 111)).cell? ⟨pl,0,none⟩=some (.pointer (some ⟨g,0,none⟩)):=((Qa w7 _).cell (p:=⟨pl,0,none⟩) mb1).trans m1;have mz2:(w7.alloc (.cells #[.int .i64 0,.int .u8 0,.int .u8 0,.int .u8 0,.int .u8 0,.int .u8 0,.int .u8 0,.int .u8 0,.int .u8 0] 111)).cell? ⟨g,2,none⟩=some (.slice ae ln ce):=((Qa w7 _).cell (p:=⟨g,2,none⟩) mb2).trans m2;clear hb7)|(go_at_call 69;refine (Qm5 _ L.entries _ ((HBS.o.below (Ql wr)).below (Qa _ _)) hn HBL.o).mono ?_;rintro e w7 ⟨rfl,hb7⟩;have HB7:=zh (show Below wr.heap.size wr w7 from ((Ql wr).alloc (Nat.le_refl _) _).trans (hb7.mono (by simp)));have m1:=(HB7.o.cell (p:=⟨pl,0,none⟩) hpb1).trans j1;have m2:=(HB7.o.cell (p:=⟨g,2,none⟩) jg).trans jc2';have mb1:=Nat.lt_of_lt_of_le hpb1 HB7.o.size;have mb2:=Nat.lt_of_lt_of_le jg HB7.o.size;have mz1:(w7.alloc (.cells #[.int .i64 0,.int .u8 0,.int .u8 0,.int .u8 0,.int .u8 0,.int .u8 0,.int .u8 0,.int .u8 0,.int .u8 0] 111)).cell? ⟨pl,0,none⟩=some (.pointer (some ⟨g,0,none⟩)):=((Qa w7 _).cell (p:=⟨pl,0,none⟩) mb1).trans m1;have mz2:(w7.alloc (.cells #[.int .i64 0,.int .u8 0,.int .u8 0,.int .u8 0,.int .u8 0,.int .u8 0,.int .u8 0,.int .u8 0,.int .u8 0] 111)).cell? ⟨g,2,none⟩=some (.slice ae ln ce):=((Qa w7 _).cell (p:=⟨g,2,none⟩) mb2).trans m2;have HT7:=zh (TrAt.below (show TrAt (wr.drew.alloc (.cells (trC 0 zero8) 111)) wr.heap.size 0 zero8 from heap_alloc_new wr.drew _) hb7);have ⟨n0,n1,n2,n3,n4,n5,n6,n7,n8⟩:=HT7.o.cells;have nf:=(fun i=>Qq HT7.o i:∀ i,w7.frozen? ⟨wr.heap.size,i,none⟩=false);have nb:=Qc HT7.o;clear hb7))
       all_goals (
        go_wp2_with fail
        go_meet
        show ∃ q6,_∧Aside (TrAt _ q6 ln (rootOf L.entries))∧Aside (Below wr.heap.size wr _)∧wr.heap.size≤q6
        first
         | (
           refine⟨w7.heap.size,rfl,?_,?_,HB7.o.size⟩
           ·show TrAt _ _ _ _
            generalize rootOf L.entries=rt
            exact heap_alloc_new w7 _
           ·show Below _ _ _
            exact HB7.o.alloc HB7.o.size _)
         | (
           refine⟨wr.heap.size,rfl,?_,?_,Nat.le_refl _⟩
           ·show TrAt _ _ _ _
            generalize rootOf L.entries=rt
            exact Q1b HT7.o ln rt
           ·show Below _ _ _
            generalize rootOf L.entries=rt
            exact HB7.o.trans ((Q0j w7 wr.heap.size ln rt).below HB7.o.size fun k hk e=>by omega)))
      case rest=>
       obtain⟨q6,rfl,HT6,HB6,hq6⟩:=hcut;have hP6:=HP.o.below HB6.o;have hV6:=HV.o.below HB6.o;obtain⟨rt,hrt⟩:∃ rt,rt=rootOf L.entries:=⟨_,rfl⟩
       have hT6:TrAt wc q6 ln rt:=by rw[hrt];exact HT6.o
       have hPd:=hP6.below (Ql wc);have hVd:=hV6.below (Ql wc);have hTd:=hT6.below (Ql wc);obtain⟨cp,hcp⟩:∃ cp,cp=cpOf L.entries L.key:=⟨_,rfl⟩
       have hsg:=Qsi ln rt L.key wc.drew (by omega) hkey (HE.o.step hPd.fr hPd.subw).num;rw[show sOf (J5 ln rt L.key.data.toList)=cp by rw[hcp,hrt,HLN.o];rfl] at hsg;have hdout:∀ k,dkS gd v1 k→k<wr.heap.size:=fun k hk=>Qk4 HP.o.log HP.o.disk (.inl hk)
       have hdplo:¬ dkS gd v1 pl:=fun hk=>HP.o.o (b:=pl) (by have:=HPL.o;omega) (by omega) (.inl hk)
       have hc12:=Qwa hdc hc (by have:=Qay hn;have:=HNL2.o;omega);have hf12:=Qwa hdf HFL.o (by have:=Qay hn;have:=HNL2.o;omega);have HSG:=zh hsg;have HPD:=zh hPd;have HVD:=zh hVd;have HTD:=zh hTd;have HDO:=zh hdout;have HDP:=zh hdplo;have HCP:=zh hcp;have hpl0:w.heap.size≤pl:=by rw[HPL.o];exact Nat.le_refl _
       have hpl1:w.heap.size≤pl+1:=Nat.le_succ_of_le hpl0;have hpl2:w.heap.size≤pl+1+1:=Nat.le_succ_of_le hpl1;have hpl3:pl<pl+3:=by omega
       have hpl4:pl+1<pl+3:=by omega
       have hpl5:pl+1+1<pl+3:=by omega
       have hq6n:¬ dkS gd v1 q6:=fun hk=>by have:=HDO.o q6 hk;omega
       have za:=(hVd).cells.1;have zb:=(hPd.log).heads.1.1;have zc:=(hPd.log).heads.1.2.1;have ⟨z0,z1,z2,z3,z4,z5,z6,z7,z8⟩:=(hTd).cells;clear hP6 hV6 hT6 hPd hVd hTd hcp hrt hsg hdout hdplo
       go_upto_region 13 with fail
       go_cut [7] from 62 to 75 (fun s7 wx=>∃ v2,Aside (Pk w (pl+3) g gd v (.slice ae L.entries.length ce) vl vp vs L v2 vp1 (Qb2 d1 (sOf kCp) cp) ps wx)∧Aside (Vars wx g pl 0 .nilIface)∧wx.cell? ⟨q6,0,none⟩=some (.int .i64 ln)∧Aside (∃ bs,w.heap.size≤bs∧Qcs wx bs (decide (0<Zr d1)) s7))
       case first=>
        rw[Q3c]
        go_region_held3 (fun w'=>w'.cell? ⟨pl,0,none⟩=some (.pointer (some ⟨g,0,none⟩))∧w'.cell? ⟨g,0,none⟩=some (.iface 25 (.pointer (some ⟨gd,0,none⟩)))∧w'.cell? ⟨g,1,none⟩=some (.string L.key)∧w'.cell? ⟨q6,0,none⟩=some (.int .i64 ln)∧w'.cell? ⟨q6,1,none⟩=some (bv rt[0])∧w'.cell? ⟨q6,2,none⟩=some (bv rt[1])∧w'.cell? ⟨q6,3,none⟩=some (bv rt[2])∧w'.cell? ⟨q6,4,none⟩=some (bv rt[3])∧w'.cell? ⟨q6,5,none⟩=some (bv rt[4])∧w'.cell? ⟨q6,6,none⟩=some (bv rt[5])∧w'.cell? ⟨q6,7,none⟩=some (bv rt[6])∧w'.cell? ⟨q6,8,none⟩=some (bv rt[7])) (first|with_reducible exact⟨za,zb,zc,z0,z1,z2,z3,z4,z5,z6,z7,z8⟩|with_reducible exact⟨ya,yb,yc,y0,y1,y2,y3,y4,y5,y6,y7,y8⟩|with_reducible exact⟨xa,xb,xc,x0,x1,x2,x3,x4,x5,x6,x7,x8⟩|with_reducible exact⟨va,vb,vc,v0,v1',v2',v3',v4',v5',v6',v7',v8'⟩) (first|(go_at_call 81;refine HSG.o.mono ?_;rintro e w7 ⟨rfl,hb7⟩;have HP7:=zh (HPD.o.below hb7);have HV7:=zh (HVD.o.below hb7);have HT7:=zh (HTD.o.below hb7);have ya:=(HV7.o).cells.1;have yb:=(HP7.o.log).heads.1.1;have yc:=(HP7.o.log).heads.1.2.1;have ⟨y0,y1,y2,y3,y4,y5,y6,y7,y8⟩:=(HT7.o).cells;obtain⟨b8,c8,w8,hcv,hob,hb8⟩:=Q7g w7 cp;have HP8:=zh (HP7.o.below hb8);have HV8:=zh (HV7.o.below hb8);have HT8:=zh (HT7.o.below hb8);have HOB:=zh hob;have xa:=(HV8.o).cells.1;have xb:=(HP8.o.log).heads.1.1;have xc:=(HP8.o.log).heads.1.2.1;have ⟨x0,x1,x2,x3,x4,x5,x6,x7,x8⟩:=(HT8.o).cells;clear hb7 hb8 hob)|(go_at_call 251;refine (Q3g w8 gd v1 d1 HP8.o.disk (sOf kCp) _ _ HOB.o.at (Nat.lt_trans hc12 (by decide)) (Nat.lt_trans hf12 (by decide))).mono ?_;rintro e w9 ⟨u,rfl,hme,v2,hd9,hf9,hm9⟩;rw[show (ByteArray.mk cp.data.toList.toArray)=cp from Qat cp] at hd9;have HME:=zh hme;have HP9:=zh (HP8.o.write (HP8.o.wk.put hd9 hf9 hm9 (Nat.le_refl _)));have HV9:=zh (⟨hf9.heap HV8.o.l (fun hk=>HP8.o.o (b:=pl) hpl0 hpl3 (.inl hk)),hf9.heap HV8.o.n (fun hk=>HP8.o.o (b:=pl+1) hpl1 hpl4 (.inl hk)),hf9.heap HV8.o.e (fun hk=>HP8.o.o (b:=pl+1+1) hpl2 hpl5 (.inl hk))⟩:Vars w9 g pl 0 .nilIface);have HT9:=zh (show TrAt w9 q6 ln rt from hf9.heap HT8.o hq6n);have HF9:=zh hf9;have va:=HV9.o.cells.1;have vb:=HP9.o.log.heads.1.1;have vc:=HP9.o.log.heads.1.2.1;have ⟨v0,v1',v2',v3',v4',v5',v6',v7',v8'⟩:=HT9.o.cells;clear hme hd9 hf9 hm9))
        all_goals (
         go_wp2_with fail
         go_meet
         have hw8:w.heap.size≤w8.heap.size:=HP8.o.fr.size
         exact⟨v2,HP9.o,HV9.o,v0,⟨w8.heap.size,hw8,HME.o⟩⟩)
       case rest=>
        obtain⟨v2,HPA,HVA,hq60,HMA⟩:=hcut;have hma:=HMA.o;obtain⟨bs,hbs,hma⟩:=hma;obtain⟨y1,y2,y3,yf2,yf3⟩:=HVA.o.cells;have hqb:=Qk hq60;have ya:=Qc HVA.o.l;have yb:=Qc HVA.o.n;have yc:=Qc HVA.o.e;clear HMA;rcases Nat.eq_zero_or_pos (Zr d1) with h0|h0
        ·have hu7:u7=.nilIface:=by unfold Qcs at hma;rw[if_neg (by simp[h0])] at hma;exact hma
         subst hu7;have hnn7:=Y2 wc;clear hma
         go_wp2_with fail
         have hW1:=(HPA.o.var (b:=pl+1) hpl1 hpl4 HVA.o.n (by decide) (Fr.set1 wc (pl+1) 0 (.int .i64 ln))).var (b:=pl+1+1) hpl2 hpl5 (HVA.o.num ln).e (by decide) (Fr.set1 (wc.setCell ⟨pl+1,0,none⟩ (.int .i64 ln)) (pl+1+1) 0 .nilIface);have hVW:=(HVA.o.num ln).err .nilIface;have hQ:pubD L.entries L.key L.put d=(Qb2 d1 (sOf kCp) cp,ps,none):=by unfold pubD;rw[HFIN.o,HCP.o];simp[h0]
         have hVW2:Vars ((wc.setCell ⟨pl+1,0,none⟩ (.int .i64 ln)).setCell ⟨pl+1+1,0,none⟩ .nilIface) g pl (L.entries.length:Int) .nilIface:=by
          have e:(L.entries.length:Int)=(ln:Int):=by rw[HLN.o]
          rw[e];exact hVW
         exact Qpk hW1 hVW2 HFD.o hQ rfl rfl
        ·have hme:Qll wc bs u7:=by unfold Qcs at hma;rw[if_pos (by simpa using h0)] at hma;exact hma
         obtain⟨q,nn,rfl,hq,hh⟩:=hme;have hnn7:=Qak wc 152 (.pointer (some ⟨q,0,none⟩));have HH:=zh hh;clear hma hh
         go_wp2_with (go_at_call 65;refine (Qoh _ _ _ _).mono ?_;rintro e wA ⟨u,rfl,⟨r,rfl,hr,hhr⟩,hbA⟩;have HR:=zh hhr;have HBA:=zh hbA;have HPB:=zh (HPA.o.below hbA);have HVB:=zh (HVA.o.below hbA);have ⟨t1,t2,t3,tf2,tf3⟩:=HVB.o.cells;clear hhr hbA)
         have hW1:=(HPB.o.var (b:=pl+1) hpl1 hpl4 HVB.o.n (by decide) (Fr.set1 wA (pl+1) 0 (.int .i64 0))).var (b:=pl+1+1) hpl2 hpl5 (HVB.o.num 0).e (by decide) (Fr.set1 (wA.setCell ⟨pl+1,0,none⟩ (.int .i64 0)) (pl+1+1) 0 (.iface 153 (.pointer (some ⟨r,0,none⟩))));have hVW:=(HVB.o.num 0).err (.iface 153 (.pointer (some ⟨r,0,none⟩)));have hQ:pubD L.entries L.key L.put d=(Qb2 d1 (sOf kCp) cp,ps,some (sOf kCp)):=by unfold pubD;rw[HFIN.o,HCP.o];simp[h0]
         have hhA:wA.heap[q]?=some (.cells #[.int .i64 nn] 366 (0,0)):=(HBA.o.block _ (Qc HH.o)).trans HH.o;have hrA:wA.heap[r]?=some (.cells #[.string (sOf kCp),.iface 152 (.pointer (some ⟨q,0,none⟩))] 155 (0,0)):=HR.o;have hh1:=(Fr.set1 wA (pl+1) 0 (.int .i64 0)).heap hhA fun e=>by subst e;have:=HVB.o.n;rw[hhA] at this;simp at this
         have hh2:=(Fr.set1 (wA.setCell ⟨pl+1,0,none⟩ (.int .i64 0)) (pl+1+1) 0 (.iface 153 (.pointer (some ⟨r,0,none⟩)))).heap hh1 fun e=>by subst e;have:=HVB.o.e;rw[hhA] at this;simp at this
         have hr1:=(Fr.set1 wA (pl+1) 0 (.int .i64 0)).heap hrA fun e=>by subst e;have:=HVB.o.n;rw[hrA] at this;simp at this
         have hr2:=(Fr.set1 (wA.setCell ⟨pl+1,0,none⟩ (.int .i64 0)) (pl+1+1) 0 (.iface 153 (.pointer (some ⟨r,0,none⟩)))).heap hr1 fun e=>by subst e;have:=HVB.o.e;rw[hrA] at this;simp at this
         have hwc:w.heap.size≤wc.heap.size:=HPA.o.fr.size;exact Qge hW1 hVW HPL.o hg (Nat.le_trans hwc hr) (Nat.le_trans hbs hq) hh2 hr2 HFD.o hQ rfl rfl
    ·have hee:=Qj0 wr 153 (.pointer (some ⟨r,0,none⟩))
     have hne:=Qak wr 153 (.pointer (some ⟨r,0,none⟩));have HJ:=zh hJ;have HU:=zh hhu;have HR:=zh hhr;clear hJ hhu hhr;by_cases hlt:k<nl
     ·have hltz:(k:Int)<(nl:Int):=by omega
      go_upto_region 11 with fail
      go_region
      all_goals (
       go_wp2
       have hW1:=((HP.o.var (b:=pl+1) (by have:=HPL.o;omega) (by omega) HV.o.n (by decide) (Fr.set1 wr (pl+1) 0 (.int .i64 0))).var (b:=pl+1+1) (by have:=HPL.o;omega) (by omega) (HV.o.num 0).e (by decide) (Fr.set1 (wr.setCell ⟨pl+1,0,none⟩ (.int .i64 0)) (pl+1+1) 0 (.iface 153 (.pointer (some ⟨r,0,none⟩))))).below (Ql _)
       have hVW:=((HV.o.num 0).err (.iface 153 (.pointer (some ⟨r,0,none⟩)))).below (Ql _)
       have hh1:=(Fr.set1 wr (pl+1) 0 (.int .i64 0)).heap HU.o fun e=>by subst e;have:=HV.o.n;rw[HU.o] at this;simp at this
       have hh2:=(Fr.set1 (wr.setCell ⟨pl+1,0,none⟩ (.int .i64 0)) (pl+1+1) 0 (.iface 153 (.pointer (some ⟨r,0,none⟩)))).heap hh1 fun e=>by subst e;have:=HV.o.e;rw[HU.o] at this;simp at this
       have hr1:=(Fr.set1 wr (pl+1) 0 (.int .i64 0)).heap HR.o fun e=>by subst e;have:=HV.o.n;rw[HR.o] at this;simp at this
       have hr2:=(Fr.set1 (wr.setCell ⟨pl+1,0,none⟩ (.int .i64 0)) (pl+1+1) 0 (.iface 153 (.pointer (some ⟨r,0,none⟩)))).heap hr1 fun e=>by subst e;have:=HV.o.e;rw[HR.o] at this;simp at this
       exact Qge hW1 hVW HPL.o hg hr hu hh2 hr2 HFD.o (by unfold pubD;rw[HJ.o]) rfl rfl)
     ·have hltz:¬ (k:Int)<(nl:Int):=by omega
      go_upto_region 11 with fail
      go_region
      all_goals (
       go_wp2
       have hW1:=((HP.o.var (b:=pl+1) (by have:=HPL.o;omega) (by omega) HV.o.n (by decide) (Fr.set1 wr (pl+1) 0 (.int .i64 0))).var (b:=pl+1+1) (by have:=HPL.o;omega) (by omega) (HV.o.num 0).e (by decide) (Fr.set1 (wr.setCell ⟨pl+1,0,none⟩ (.int .i64 0)) (pl+1+1) 0 (.iface 153 (.pointer (some ⟨r,0,none⟩))))).below (Ql _)
       have hVW:=((HV.o.num 0).err (.iface 153 (.pointer (some ⟨r,0,none⟩)))).below (Ql _)
       have hh1:=(Fr.set1 wr (pl+1) 0 (.int .i64 0)).heap HU.o fun e=>by subst e;have:=HV.o.n;rw[HU.o] at this;simp at this
       have hh2:=(Fr.set1 (wr.setCell ⟨pl+1,0,none⟩ (.int .i64 0)) (pl+1+1) 0 (.iface 153 (.pointer (some ⟨r,0,none⟩)))).heap hh1 fun e=>by subst e;have:=HV.o.e;rw[HU.o] at this;simp at this
       have hr1:=(Fr.set1 wr (pl+1) 0 (.int .i64 0)).heap HR.o fun e=>by subst e;have:=HV.o.n;rw[HR.o] at this;simp at this
       have hr2:=(Fr.set1 (wr.setCell ⟨pl+1,0,none⟩ (.int .i64 0)) (pl+1+1) 0 (.iface 153 (.pointer (some ⟨r,0,none⟩)))).heap hr1 fun e=>by subst e;have:=HV.o.e;rw[HR.o] at this;simp at this
       exact Qge hW1 hVW HPL.o hg hr hu hh2 hr2 HFD.o (by unfold pubD;rw[HJ.o]) rfl rfl)
end
end
section
def PlIs (w:World) (gl g:Nat):Prop:=w.heap[gl]?=some (.cells #[.pointer (some ⟨g,0,none⟩)] 93 (0,0))
def Qp6 (w:World) (gd:Nat) (v:Value) (d:Dk) (key:ByteArray) (B:Nat) (e:Ending) (w':World):Prop:=
 ∃ d',Q3 w' gd v d'∧Fr (·=gd) w w'∧
  ((∃ p,Hurt B d d'∧e=.returned (.tuple #[.pointer none,Jn 8 p]))∨
     (∃ (k:Nat) (p:ByteArray),Calm B d d'∧Yf d.files key (.bad k p)∧e=.returned (.tuple #[.pointer none,Jn k p]))∨
     (∃ es n gl g,Calm B d d'∧Yf d.files key (.good es n)∧e=.returned (.tuple #[.pointer (some ⟨gl,0,none⟩),Jn 0 ⟨#[]⟩])∧PlIs w' gl g∧w.heap.size≤gl∧Qg8 w gd key es g w'))
variable {w w1 w2:World} {gd g:Nat} {key:ByteArray} {es:List (List UInt8)}
theorem Qg8.kept {S:Nat→Prop} {ts:List TypeId} (h:Qg8 w gd key es g w1) (hf:Fr S w1 w2) (hS:Qae w1 S ts) (h1:∀ t∈Qzl,t ∉ ts) (h2:5 ∉ ts):Qg8 w gd key es g w2:=by obtain⟨ve,vl,vs,a,b,c⟩:=h;exact⟨ve,vl,vs,a.kept hf hS h1 h2,b,c⟩
theorem Qg8.below (h:Qg8 w gd key es g w1) (hb:Below w1.heap.size w1 w2):Qg8 w gd key es g w2:=by obtain⟨ve,vl,vs,a,b,c⟩:=h;exact⟨ve,vl,vs,a.below hb,b,c⟩
theorem Qip {w0 w3:World} {v:Value} {d':Dk} (hw0:w0=w.alloc (.cells #[.int .i64 0,.string ⟨#[]⟩] 29)) (hD:Q3 w1 gd v d') (hF:Fr (·=gd) w0 w1) (hg:gd<w.heap.size) (hk:Qae w0 (·=gd) [41]) (h2:Below w1.heap.size w1 w2) :
  Z4 w2 w.heap.size 0 ⟨#[]⟩∧∀ n s,w3=(w2.setCell ⟨w.heap.size,0,none⟩ (.int .i64 n)).setCell ⟨w.heap.size,1,none⟩ (.string s)→Q3 w3 gd v d'∧Fr (·=gd) w w3∧Fr (·=w.heap.size) w2 w3∧Qae w2 (·=w.heap.size) [29]:=by
 have t0:Z4 w0 w.heap.size 0 ⟨#[]⟩:=by rw[hw0];exact Qch w
 have t1:Z4 w1 w.heap.size 0 ⟨#[]⟩:=t0.kept hF hk (by decide);have t2:=t1.below h2;refine⟨t2,fun n s e=>?_⟩;have ts:=Qdv (m:=n) (t:=s) t2;rw[←e] at ts;have hk2:=Qw t2;refine⟨(hD.below h2).kept ts.2 hk2 (by decide) (by decide),?_,ts.2,hk2⟩;have hb0:Fr (·=gd) w w0:=by rw[hw0];exact Fr.ofBelow (Qa w _)
 exact (hb0.trans (hF.trans (Fr.ofBelow h2))).step ts.2 fun k hk e=>by subst e;omega
theorem Q0g (f:Nat→Addr) (w:World) (gd:Nat) (v:Value) (d:Dk) (key:ByteArray) (hD:Q3 w gd v d) (N:Nat) (hE:EnvS f (·=gd) w) (hN:FewB d.files N) (hN2:N≤262144) (hc:d.calls<900000000000) (hsz:∀ b∈d.files,b.2.size≤1048576) (hkey:key.size≤9223372036854775807) :
  Calls prog 10 #[.pointer (some ⟨gd,0,none⟩),.string key] w (Qp6 w gd v d key (8*N+16)):=by
 obtain⟨w0,hw0⟩:∃ w0,w0=w.alloc (.cells #[.int .i64 0,.string ⟨#[]⟩] 29):=⟨_,rfl⟩
 have hb0:Below w.heap.size w w0:=by rw[hw0];exact Qa w _
 have hE0:=hE.below hb0;have hD0:=hD.below hb0;have hg:=hD.lt;have hz0:w.heap.size≤w0.heap.size:=hb0.size;have HK:=zh (Qw hD0.1);have HE:=zh hE0;have HC:=zh (Q1a f w0 gd v d key hD0 N hE0 hN hN2 hc hsz hkey);have HW0:=zh hw0;clear hD hE hE0 hD0 hN hsz hb0
 go_enter func10,ntmps10
 go_wp2_with fail
 rw[←hw0];clear hw0
 go_at_call 36
 refine HC.o.mono ?_;rintro e w1 ⟨d',hD',hF',h⟩;have HD:=zh hD';have HF:=zh hF';have hE1:=HE.o.fr hF';have HE1:=zh hE1;have hz1:=hF'.size;clear hD' hF' hE1;rcases h with ⟨q,m,r,p,h1,rfl,_,_,h2,h3⟩|⟨h1,h2,rfl⟩|⟨h1,h2,rfl⟩|⟨p,r,h1,h2,rfl,_,h3⟩|⟨es,n,g,h1,h2,rfl,h3⟩
 ·have HX:=zh (Q45 f w1 HE1.o.sents HE1.o.errT r q p h3)
  have H1:=zh h1;clear h1 h2 h3
  go_wp2_with (go_at_call 37;refine HX.o.mono ?_;rintro e w2 ⟨rfl,hb2⟩;have HB2:=zh hb2;clear hb2;obtain⟨ht2,hen⟩:=Qip (w3:=(w2.setCell ⟨w.heap.size,0,none⟩ (.int .i64 8)).setCell ⟨w.heap.size,1,none⟩ (.string p)) HW0.o HD.o HF.o hg HK.o HB2.o;have HEN:=zh (hen 8 p rfl);obtain⟨t0,t1,t2,t3,t4⟩:=ht2.facts;clear ht2 hen)
  refine bodyPost_ret (v:=.tuple #[.pointer none,Jn 8 p]) (by simp[results,results10,go_sem,t0,t1]) rfl ⟨d',HEN.o.1,HEN.o.2.1,.inl ⟨p,H1.o,rfl⟩⟩
 ·have hx0:=Qjn f w1 HE1.o.sents 2 (by decide) (by decide)
  rw[show ((Qcn 2:Nat):Int)=3 from rfl] at hx0;have HX:=zh hx0;clear hx0;have H1:=zh h1;have H2:=zh h2;clear h1 h2
  go_wp2_with (go_at_call 37;refine HX.o.mono ?_;rintro e w2 ⟨rfl,hb2⟩;have HB2:=zh hb2;clear hb2;obtain⟨ht2,hen⟩:=Qip (w3:=(w2.setCell ⟨w.heap.size,0,none⟩ (.int .i64 3)).setCell ⟨w.heap.size,1,none⟩ (.string ⟨#[]⟩)) HW0.o HD.o HF.o hg HK.o HB2.o;have HEN:=zh (hen 3 _ rfl);obtain⟨t0,t1,t2,t3,t4⟩:=ht2.facts;clear ht2 hen)
  refine bodyPost_ret (v:=.tuple #[.pointer none,Jn 3 ⟨#[]⟩]) (by simp[results,results10,go_sem,t0,t1]) rfl ⟨d',HEN.o.1,HEN.o.2.1,.inr (.inl ⟨3,_,H1.o,H2.o,rfl⟩)⟩
 ·have hx0:=Qjn f w1 HE1.o.sents 4 (by decide) (by decide)
  rw[show ((Qcn 4:Nat):Int)=5 from rfl] at hx0;have HX:=zh hx0;clear hx0;have H1:=zh h1;have H2:=zh h2;clear h1 h2
  go_wp2_with (go_at_call 37;refine HX.o.mono ?_;rintro e w2 ⟨rfl,hb2⟩;have HB2:=zh hb2;clear hb2;obtain⟨ht2,hen⟩:=Qip (w3:=(w2.setCell ⟨w.heap.size,0,none⟩ (.int .i64 5)).setCell ⟨w.heap.size,1,none⟩ (.string ⟨#[]⟩)) HW0.o HD.o HF.o hg HK.o HB2.o;have HEN:=zh (hen 5 _ rfl);obtain⟨t0,t1,t2,t3,t4⟩:=ht2.facts;clear ht2 hen)
  refine bodyPost_ret (v:=.tuple #[.pointer none,Jn 5 ⟨#[]⟩]) (by simp[results,results10,go_sem,t0,t1]) rfl ⟨d',HEN.o.1,HEN.o.2.1,.inr (.inl ⟨5,_,H1.o,H2.o,rfl⟩)⟩
 ·have HX:=zh (Q1f f w1 HE1.o.sents r p h3)
  have H1:=zh h1;have H2:=zh h2;clear h1 h2 h3
  go_wp2_with (go_at_call 37;refine HX.o.mono ?_;rintro e w2 ⟨rfl,hb2⟩;have HB2:=zh hb2;clear hb2;obtain⟨ht2,hen⟩:=Qip (w3:=(w2.setCell ⟨w.heap.size,0,none⟩ (.int .i64 6)).setCell ⟨w.heap.size,1,none⟩ (.string p)) HW0.o HD.o HF.o hg HK.o HB2.o;have HEN:=zh (hen 6 p rfl);obtain⟨t0,t1,t2,t3,t4⟩:=ht2.facts;clear ht2 hen)
  refine bodyPost_ret (v:=.tuple #[.pointer none,Jn 6 p]) (by simp[results,results10,go_sem,t0,t1]) rfl ⟨d',HEN.o.1,HEN.o.2.1,.inr (.inl ⟨6,_,H1.o,H2.o,rfl⟩)⟩
 ·have HX:=fun w2 (hb:Below w1.heap.size w1 w2)=>Qwe f w2 (HE1.o.below hb).sents
  have HX:=zh HX;have H1:=zh h1;have H2:=zh h2;have H3:=zh h3;clear h1 h2 h3
  go_wp2_with (go_at_call 37;refine (HX.o _ (Qa w1 _)).mono ?_;rintro e w2 ⟨rfl,hb2⟩;have HB2:=zh hb2;have HB3:=zh ((Qa w1 (.cells #[.pointer (some ⟨g,0,none⟩)] 93)).trans (hb2.mono (by simp)));clear hb2;obtain⟨ht2,hen⟩:=Qip (w3:=(w2.setCell ⟨w.heap.size,0,none⟩ (.int .i64 0)).setCell ⟨w.heap.size,1,none⟩ (.string ⟨#[]⟩)) HW0.o HD.o HF.o hg HK.o HB3.o;have HEN:=zh (hen 0 _ rfl);obtain⟨t0,t1,t2,t3,t4⟩:=ht2.facts;clear ht2 hen)
  refine bodyPost_ret (v:=.tuple #[.pointer (some ⟨w1.heap.size,0,none⟩),Jn 0 ⟨#[]⟩]) (by simp[results,results10,go_sem,t0,t1]) rfl ⟨d',HEN.o.1,HEN.o.2.1,.inr (.inr ⟨es,n,w1.heap.size,g,H1.o,H2.o,rfl,?_,Nat.le_trans hz0 hz1,?_⟩)⟩
  ·have hp:PlIs w2 w1.heap.size g:=(HB2.o.block _ (by simp)).trans (heap_alloc_new w1 _)
   exact Ze hp HEN.o.2.2.1 HEN.o.2.2.2 (by decide)
  ·obtain⟨ve,vl,vs,a,b,c⟩:=(H3.o.below HB3.o).kept HEN.o.2.2.1 HEN.o.2.2.2 (by decide) (by decide)
   exact⟨ve,vl,vs,a,Nat.le_trans hz0 b,fun k hk=>Nat.le_trans hz0 (c k hk)⟩
theorem Q1e (w:World) (gl g gd:Nat) (ve vl vp:Value) (vs:List Value) (L:Lg) (hp:PlIs w gl g) (h:Zn w g gd ve vl vp vs L) :
  Calls prog 11 #[.pointer (some ⟨gl,0,none⟩)] w fun e w'=>e=.returned (.int .i64 L.entries.length)∧w=w':=by
 have c0:=Qd hp 0 rfl;have HC:=zh (Qyu w g gd ve vl vp vs L h);clear hp h
 go_enter func11,ntmps11
 go_wp2_with (go_at_call 38;refine HC.o.mono ?_;rintro e w' ⟨rfl,rfl⟩)
 go_ret;exact⟨rfl,rfl⟩
end
section
structure Pl where
 gw:Nat
 gd:Nat
 v:Value
 en:Value
 gl:Nat
 g:Nat
 ve:Value
 vl:Value
 vp:Value
 vs:List Value
def plV (p:Pl):Option Lg→Value
 | none=>.pointer none
 | some _=>.pointer (some ⟨p.gl,0,none⟩)
def Qc9 (p:Pl) (m:Wm):Array Value:=#[.pointer (some ⟨p.gd,0,none⟩),.string m.key,plV p m.l,p.en,.int .i64 m.pub,.bool m.failed,.bool m.foreign]
structure WdIs (w:World) (p:Pl) (m:Wm):Prop where
 cells:w.heap[p.gw]?=some (.cells (Qc9 p m) 78 (0,0))
 disk:Q3 w p.gd p.v m.d
 ents:Q5 w 0 p.en m.es
 log:∀ L,m.l=some L→PlIs w p.gl p.g∧Zn w p.g p.gd p.ve p.vl p.vp p.vs L
def WdS (p:Pl) (m:Wm) (k:Nat):Prop:=k=p.gw∨dkS p.gd p.v k∨p.en.ownBlock=some k∨(m.l.isSome=true∧(k=p.gl∨LogS p.g p.ve p.vl p.vp p.vs k))
variable {w w':World} {p:Pl} {m:Wm}
theorem WdIs.below (h:WdIs w p m) (hb:Below w.heap.size w w'):WdIs w' p m where
 cells:=(hb.block _ (Qc h.cells)).trans h.cells
 disk:=h.disk.below hb
 ents:=Qn h.ents hb
 log L hL:=⟨(hb.block _ (Qc (h.log L hL).1)).trans (h.log L hL).1,(h.log L hL).2.below hb⟩
theorem WdIs.fr {S:Nat→Prop} (h:WdIs w p m) (hf:Fr S w w') (hS:∀ k,WdS p m k→¬ S k) (hn:Qb7 w S):WdIs w' p m where
 cells:=hf.heap h.cells (hS _ (.inl rfl))
 disk:=h.disk.fr hf fun k hk=>hS k (.inr (.inl hk))
 ents:=Zb h.ents hf fun k hk=>hS k (.inr (.inr (.inl hk)))
 log L hL:=⟨hf.heap (h.log L hL).1 (hS _ (.inr (.inr (.inr ⟨by rw[hL];rfl,.inl rfl⟩)))),
  (h.log L hL).2.fr hf (fun k hk=>hS k (.inr (.inr (.inr ⟨by rw[hL];rfl,.inr hk⟩)))) hn⟩
theorem WdIs.noBytes (h:WdIs w p m):Qb7 w (WdS p m):=by
 intro k C fz hk hs;rcases hs with rfl|hs|hs|⟨hl,rfl|hs⟩
 ·exact Zp hk h.cells (by decide) rfl
 ·exact h.disk.noBytes k C fz hk hs
 ·obtain⟨C',hC⟩:=Qh h.ents hs
  exact Zp hk hC (by decide) rfl
 ·obtain⟨L,hL⟩:=Option.isSome_iff_exists.1 hl
  exact Zp hk (h.log L hL).1 (by decide) rfl
 ·obtain⟨L,hL⟩:=Option.isSome_iff_exists.1 hl
  exact (h.log L hL).2.noBytes k C fz hk hs
theorem WdIs.heads (h:WdIs w p m) :
  (w.cell? ⟨p.gw,0,none⟩=some (.pointer (some ⟨p.gd,0,none⟩))∧w.cell? ⟨p.gw,1,none⟩=some (.string m.key)∧w.cell? ⟨p.gw,2,none⟩=some (plV p m.l)∧w.cell? ⟨p.gw,3,none⟩=some p.en∧w.cell? ⟨p.gw,4,none⟩=some (.int .i64 m.pub)∧
   w.cell? ⟨p.gw,5,none⟩=some (.bool m.failed)∧w.cell? ⟨p.gw,6,none⟩=some (.bool m.foreign))∧∀ i,w.frozen? ⟨p.gw,i,none⟩=false:=
 ⟨⟨Qd h.cells 0 rfl,Qd h.cells 1 rfl,Qd h.cells 2 rfl,Qd h.cells 3 rfl,Qd h.cells 4 rfl,Qd h.cells 5 rfl,Qd h.cells 6 rfl⟩,fun i=>Qq h.cells i⟩
variable {v':Value} {d':Dk}
theorem WdIs.diskStep (h:WdIs w p m) (hd:Q3 w' p.gd v' d') (hf:Fr (dkS p.gd p.v) w w'):WdIs w' { p with v:=v' } { m with d:=d' } where
 cells:=Ze h.cells hf (Qb8 h.disk) (by decide)
 disk:=hd
 ents:=Zi h.ents hf (Qb8 h.disk) (by decide)
 log L hL:=⟨Ze (h.log L hL).1 hf (Qb8 h.disk) (by decide),(h.log L hL).2.kept hf (Qb8 h.disk) (by decide) (by decide)⟩
theorem Q73 {g:Nat} {v:Value} (h:Fr (·=g) w w'):Fr (dkS g v) w w':=h.weak fun _ _ e=>.inl e
variable {m':Wm}
theorem WdIs.ownStep {p':Pl} (h:WdIs w p m) (hf:Fr (·=p.gw) w w') (hc:w'.heap[p.gw]?=some (.cells (Qc9 p' m') 78 (0,0)))
  (hp:p'.gw=p.gw∧p'.gd=p.gd∧p'.v=p.v∧m'.d=m.d) (he:Q5 w 0 p'.en m'.es) (hl:∀ L,m'.l=some L→PlIs w p'.gl p'.g∧Zn w p'.g p'.gd p'.ve p'.vl p'.vp p'.vs L):WdIs w' p' m' where
 cells:=by rw[hp.1];exact hc
 disk:=by rw[hp.2.1,hp.2.2.1,hp.2.2.2];exact h.disk.kept hf (Qw h.cells) (by decide) (by decide)
 ents:=Zi he hf (Qw h.cells) (by decide)
 log L hL:=⟨Ze (hl L hL).1 hf (Qw h.cells) (by decide),(hl L hL).2.kept hf (Qw h.cells) (by decide) (by decide)⟩
variable {ve' vl' vp':Value} {vs':List Value}
theorem WdIs.bothStep {L L':Lg} (h:WdIs w p m) (hL:m.l=some L) (hd:Q3 w' p.gd v' d') (hl:Zn w' p.g p.gd ve' vl' vp' vs' L') (hf:Fr (Jo p.g p.gd p.v p.ve p.vl p.vp p.vs) w w') :
  WdIs w' { p with v:=v',ve:=ve',vl:=vl',vp:=vp',vs:=vs' } { m with d:=d',l:=some L' }:=by
 have hk:Qae w (Jo p.g p.gd p.v p.ve p.vl p.vp p.vs) _:=(Qb8 h.disk).or (Qfp (h.log L hL).2);refine⟨?_,hd,Zi h.ents hf hk (by decide),fun L2 hL2=>?_⟩
 ·have h1:=Ze h.cells hf hk (by decide)
  rw[h1];unfold Qc9;rw[hL];rfl
 ·cases hL2
  exact⟨Ze (h.log L hL).1 hf hk (by decide),hl⟩
theorem Q4b (h:Sub w (Jo p.g p.gd p.v p.ve p.vl p.vp p.vs) (Jo p.g p.gd v' ve' vl' vp' vs')) (hm:m.l.isSome=true):Sub w (WdS p m) (WdS { p with v:=v',ve:=ve',vl:=vl',vp:=vp',vs:=vs' } m'):=fun k hk=>by
 rcases hk with hk|hk|hk|⟨_,hk|hk⟩
 ·exact .inl (.inl hk)
 ·rcases h k (.inl hk) with (h1|h1)|h1
  ·exact .inl (.inr (.inl h1))
  ·exact .inl (.inr (.inr (.inr ⟨hm,.inr h1⟩)))
  ·exact .inr h1
 ·exact .inl (.inr (.inr (.inl hk)))
 ·exact .inl (.inr (.inr (.inr ⟨hm,.inl hk⟩)))
 ·rcases h k (.inr hk) with (h1|h1)|h1
  ·exact .inl (.inr (.inl h1))
  ·exact .inl (.inr (.inr (.inr ⟨hm,.inr h1⟩)))
  ·exact .inr h1
theorem Q2f (hm:m.l.isSome=true) {k:Nat} (hk:Jo p.g p.gd p.v p.ve p.vl p.vp p.vs k):WdS p m k:=by
 rcases hk with hk|hk
 ·exact .inr (.inl hk)
 ·exact .inr (.inr (.inr ⟨hm,.inr hk⟩))
end
section
theorem Yx (w:World) (va:Value) (l:List (ByteArray×ByteArray)) (p:ByteArray) (h:Jf w va l) (hn:l.length≤1099511627776) :
  Calls prog 59 #[va,.string p] w fun e w'=>e=.returned (.int .i64 (Jk l p))∧w=w':=by
 obtain⟨a,c,rfl,hc,hx⟩:=h;have HX:=zh hx;clear hx
 go_enter func59,ntmps59
 go_wp2
 go_loopg [5] l.length (fun gg s5 wr=>∃ kk:Nat,kk≤l.length∧l.length-kk≤gg∧s5=.int .i64 kk∧w=wr∧Aside (∀ j,j<kk→∀ y,l[j]?=some y→¬ y.1=p))
 case atStart=>
  refine⟨0,Nat.zero_le _,by omega,rfl,rfl,?_⟩;show ∀ j,j<0→_;intro j hj;omega
 case round=>
  obtain⟨kk,hkk,hg,rfl,rfl,HM⟩:=hrel;by_cases hlt:kk<l.length
  ·obtain⟨x,hx⟩:∃ x,x=l[kk]:=⟨_,rfl⟩
   have hlx:l[kk]?=some x:=by rw[hx,List.getElem?_eq_getElem hlt]
   obtain⟨b,off,rfl,c1,_⟩:=HX.o kk x hlx;have hb:b<w.heap.size:=Qk c1;have hltz:(kk:Int)<(l.length:Int):=by omega
   have hk0:(0:Int)≤(kk:Int):=by omega
   have HLX:=zh hlx;clear hx hlx;by_cases he:x.1=p
   ·have e:(x.1.toList == p.toList)=true:=Qao he
    have HE:=zh he;clear he;go_wp2;go_ret;exact⟨Qbc (by rw[Qrj HLX.o HE.o HM.o];rfl),rfl⟩
   ·have e:(x.1.toList == p.toList)=false:=J3 he
    have HE:=zh he;clear he;go_wp2
    go_roundg (l.length-(kk+1))
    case measure=>omega
    case rel=>
     refine⟨kk+1,by omega,by omega,by go_num,rfl,?_⟩;show ∀ j,j<kk+1→_;intro j hj y hy;by_cases hjk:j=kk
     ·subst hjk
      rw[HLX.o] at hy;cases hy;exact HE.o
     ·exact HM.o j (by omega) y hy
  ·have hltz:¬ (kk:Int)<(l.length:Int):=by omega
   have hkl:kk=l.length:=by omega
   have HK:=zh hkl;clear hkl;go_wp2;go_ret;exact⟨Qbc (by rw[Qoi fun j hj y hy=>HM.o j (by have:=HK.o;omega) y hy];rfl),rfl⟩
end
section
def Qcj (w:World) (v:Value) (l:List Fil):Prop:=w.ownsRow 0 194 2 v l.length (Zh l)
theorem Q8f:(prog.info? 194).map (fun i=>(i.zero,i.size,i.bytes))=some (some (.agg #[.string ⟨#[]⟩,.string ⟨#[]⟩]),2,32):=by kernel_rfl
theorem Qov:∃ i,prog.info? 194=some i∧i.zero=some (.agg #[.string ⟨#[]⟩,.string ⟨#[]⟩])∧i.size=2∧i.bytes=32:=by
 have h:=Q8f;cases hi:prog.info? 194 with
 | none=>rw[hi] at h;simp at h
 | some i=>rw[hi] at h;simp at h;exact⟨i,rfl,h.1,h.2.1,h.2.2⟩
theorem Qj9 (ds:List ByteArray) (k:Nat):(lists ds)[k]?=(ds[k]?).map (·.data.toList):=by simp[lists]
theorem Qsy {α:Type} (ls:List (List α)) (i k:Nat) (x:List α) (hi:i≤k) (h:ls[k]?=some x):((ls.drop i).take (k+1-i)).flatten=((ls.drop i).take (k-i)).flatten++x:=by
 have e:k+1-i=k-i+1:=by omega
 rw[e,List.take_add_one,List.getElem?_drop,show i+(k-i)=k by omega,h];simp
theorem Qvn (a:List UInt8) (s:ByteArray):sOf a++s=sOf (a++s.data.toList):=by
 conv=>lhs;rw[←Qat s]
 exact Qef a _
theorem Qvf {ds:List ByteArray} (h:∀ s∈ds,s.size≤1048576) (a i:Nat) (hi:i≤4):(sOf (((lists ds).drop a).take i).flatten).size≤4194304:=by
 rw[Qbo];have h1:=Qel (((lists ds).drop a).take i) 1048576 fun x hx=>by obtain⟨s,hs,rfl⟩:=List.mem_map.1 (List.mem_of_mem_drop (List.mem_of_mem_take hx));exact h s hs
 have h2:(((lists ds).drop a).take i).length≤4:=by rw[List.length_take];omega
 have:=Nat.mul_le_mul_right 1048576 h2
 omega
variable {len j m wd:Nat}
theorem Q30 (hwd:wd=min 4 (len-4*j)) (hm:m=len-4*j) (h:4<m):(4:Int)<(m:Int)∧wd=4:=by omega
theorem Q4c (hwd:wd=min 4 (len-4*j)) (hm:m=len-4*j) (h:¬ 4<m):¬ (4:Int)<(m:Int)∧m=wd:=by omega
theorem Qn9 (n:Nat) (h:n≤1073741824):wrap64 (n:Int)=(n:Int):=by unfold wrap64;omega
theorem Qog (w:World) (v:Value) (l:List Fil) (h:Qcj w v l) (t:Int) (vd:Value) (ds:List ByteArray) (hd:Q5 w 0 vd ds) (hn:l.length+ds.length≤1073741824) (hsz:∀ s∈ds,s.size≤1048576) :
  Calls prog 150 #[v,.int .i64 t,vd] w fun e w'=>∃ v',e=.returned v'∧Qcj w' v' (l++Ys t (lists ds))∧Fr (fun k=>v.ownBlock=some k) w w'∧J7 w v v':=by
 obtain⟨ad,cd,rfl⟩:=Zs hd;obtain⟨a0,c0,hv⟩:=Zs h;have HH:=zh h;have HD:=zh hd;have HZ:=zh hsz;have HN:=zh hn;have HV:=zh hv;clear h hd hsz hn hv;obtain⟨i0,hi,hz,hs,hby⟩:=Qov;have HI:=zh (⟨hi,hz,hs,hby⟩:_∧_∧_∧_);clear hi hz hs hby
 go_enter func150,ntmps150
 go_wp2
 go_loopg [0,7] (ds.length+4) (fun gg s0 s7 wr=>∃ j:Nat,4*j<ds.length+4∧ds.length+4-4*j≤gg∧s7=.int .i64 (4*(j:Int))∧∃ v1,s0=v1∧Aside (Qcj wr v1 (l++(Ys t (lists ds)).take j))∧Aside (Fr (fun k=>v.ownBlock=some k) w wr)∧Aside (J7 w v v1))
 case atStart=>
  refine⟨0,by omega,by omega,rfl,v,rfl,?_,Fr.refl _ _,J7.refl _ _⟩;show Qcj _ _ _;rw[List.take_zero,List.append_nil];exact HH.o
 case round=>
  obtain⟨j,hj,hgg,rfl,v1,rfl,HF1,HFr,HM⟩:=hrel;by_cases hlt:4*j<ds.length
  ·have hltz:4*(j:Int)<(ds.length:Int):=by omega
   obtain⟨wd,hwd⟩:∃ wd,wd=min 4 (ds.length-4*j):=⟨_,rfl⟩
   have hwd4:wd≤4:=by omega
   have hwd1:0<wd:=by omega
   have hjw:4*j+wd≤ds.length:=by omega
   have hq:4*(j:Int) / 4=(j:Int):=by omega
   have hcon:=Qi6 t (j:Int) (wd:Int) wr (by have:=HN.o;omega);obtain⟨p,hp⟩:∃ p,p=(Ye t (lists ds) j).1:=⟨_,rfl⟩
   have hpe:sOf (Y6 t (j:Int) (wd:Int))=p:=by rw[hp,hwd,←Q0 ds];rfl
   rw[hpe] at hcon;have htk:((lists ds).drop (4*j)).take wd=((lists ds).drop (4*j)).take 4:=by
    have hl:((lists ds).drop (4*j)).length=ds.length-4*j:=by rw[List.length_drop,Q0]
    rcases Nat.lt_or_ge (ds.length-4*j) 4 with h|h
    ·rw[List.take_of_length_le (i:=wd) (by omega),List.take_of_length_le (i:=4) (by omega)]
    ·rw[show wd=4 by omega]
   have HP:=zh hp;have HCON:=zh hcon;have HTK:=zh htk;obtain⟨m,hm⟩:∃ m,m=ds.length-4*j:=⟨_,rfl⟩
   have hw0:(ds.length:Int)-4*(j:Int)=(m:Int):=by omega
   have hdl:ds.length≤1073741824:=Nat.le_trans (Nat.le_add_left _ _) HN.o;have hwj:=Qn9 j (by clear hq hcon hw0;omega);have hwm:=Qn9 m (by clear hq hcon hw0;omega);by_cases h4:4<m
   ·obtain⟨h4z,hw4⟩:=Q30 hwd hm h4
    have hcon4:Calls prog 113 #[.int .i64 t,.int .i64 j,.int .i64 4] wr fun e w'=>e=.returned (.string p)∧Below wr.heap.size wr w':=by have h:=HCON.o;rw[hw4,show ((4:Nat):Int)=4 from rfl] at h;exact h
    have HCON:=zh hcon4;have HW4:=zh hw4;clear hp hpe hcon hm hwd htk hw4 hcon4
    go_wp2_with (go_at_call 113;refine HCON.o.mono ?_;rintro e w2 ⟨rfl,hb2⟩;have HB2:=zh hb2;clear hb2)
    have HWD4:=zh hwd4;clear hq hwj hwm hw0 h4z hwd4
    go_loopg [10,11] wd (fun gg s10 s11 wx=>∃ i:Nat,i≤wd∧wd-i≤gg∧s11=.int .i64 (4*(j:Int)+(i:Int))∧s10=.string (sOf (((lists ds).drop (4*j)).take i).flatten)∧w2=wx)
    case atStart=>exact⟨0,by omega,by omega,by simp,by simp,rfl⟩
    case round=>
     obtain⟨i,hi,hgi,rfl,rfl,rfl⟩:=hrel;by_cases hil:i<wd
     ·have hilz:4*(j:Int)+(i:Int)<4*(j:Int)+4:=by have:=HW4.o;omega
      have hd2:Q5 w2 0 (.slice ad ds.length cd) ds:=Qn (Zb HD.o HFr.o fun k hk e=>by
       obtain⟨C,hC⟩:=Qh HD.o hk
       obtain⟨C',hC'⟩:=Qh HH.o e
       rw[hC] at hC'
       simp at hC') HB2.o
      obtain⟨s,hs⟩:∃ s,ds[4*j+i]?=some s:=⟨_,List.getElem?_eq_getElem (by omega)⟩
      obtain⟨bd,rfl⟩:∃ bd,ad=some ⟨bd,0,none⟩:=by
       rcases hd2.2 with ⟨_,h0⟩|⟨b,cap,cur,e,_⟩
       ·omega
       ·simp at e;exact⟨b,e.1⟩
      have kc:w2.cell? ⟨bd,4*j+i,none⟩=some (.string s):=by have h1:=hd2.cells (g:=bd) rfl (4*j+i) (.string s) (by rw[List.getElem?_map,hs];rfl);rw[Addr.add_lit] at h1;simpa using h1
      have hi0:(0:Int)≤4*(j:Int)+(i:Int):=by omega
      have hi1:4*(j:Int)+(i:Int)<(ds.length:Int):=by omega
      have hi2:(4*(j:Int)+(i:Int)).toNat=4*j+i:=by omega
      have hfs:=Qsy (lists ds) (4*j) (4*j+i) s.data.toList (by omega) (by rw[Qj9,hs];rfl);rw[show 4*j+i+1-4*j=i+1 by omega,show 4*j+i-4*j=i by omega] at hfs;have HFS:=zh hfs;have hzs:s.size≤1048576:=HZ.o s (List.mem_of_getElem? hs);have hzf:=Qvf HZ.o (4*j) i (Nat.le_trans hi HWD4.o);clear hd2 hs hfs
      go_wp2_with fail
      go_roundg (wd-(i+1))
      case measure=>omega
      case rel=>exact⟨i+1,by omega,by omega,by go_num,by rw[HFS.o,Qvn],rfl⟩
     ·have hilz:¬ 4*(j:Int)+(i:Int)<4*(j:Int)+4:=by have:=HW4.o;omega
      have hiw:i=wd:=by omega
      subst hiw;have hdat:sOf (((lists ds).drop (4*j)).take i).flatten=(Ye t (lists ds) j).2:=by have e:(((lists ds).drop (4*j)).take i)=(((lists ds).drop (4*j)).take 4):=HTK.o;rw[e];rfl
      have hrow1:=Qn HF1.o HB2.o;obtain⟨n1,hn1⟩:∃ n1,n1=(l++(Ys t (lists ds)).take j).length:=⟨_,rfl⟩
      have hrow1':w2.ownsRow 0 194 2 u0 n1 (Zh (l++(Ys t (lists ds)).take j)):=by rw[hn1];exact hrow1
      have hn1b:n1+1≤1099511627776:=by rw[hn1,List.length_append,List.length_take];have:=HN.o;omega
      have HDAT:=zh hdat;have HROW:=zh hrow1';have HN1:=zh hn1;clear hdat hrow1 hrow1' hn1
      go_wp2_with (at_builtin;refine Qbe rfl _ _ _ rfl 0 194 i0 _ 2 32 underlying123 HI.o.1 HI.o.2.1 HI.o.2.2.1 HI.o.2.2.2 rfl (by decide) (by decide) u0 n1 _ (by rfl) (Qn HROW.o (Qa _ _)) ⟨w2.heap.size,0,none⟩ 1 1 [.string p,.string (sOf (((lists ds).drop (4*j)).take i).flatten)] rfl rfl (Qeq _ _ _ _ _ rfl) (by simp[Value.oneCell']) (by decide) hn1b (Nat.zero_le _) ?_;intro v' w' h2 h3 h4 h5;have H2:=zh h2;have H3:=zh ((Fr.ofBelow (S:=fun k=>u0.ownBlock=some k) (Qa w2 _)).trans (Fr.ofGrown h3 fun k _ e=>e));have H4:=zh ((J7.refl w2 u0).trans h4 (by simp));clear h2 h3 h4)
      go_roundg (ds.length+4-4*(j+1))
      case measure=>omega
      case rel=>
       refine⟨j+1,by omega,Nat.le_refl _,by go_num,v',rfl,?_,?_,?_⟩
       ·have h1:=H2.o
        have e:(Ys t (lists ds)).take (j+1)=(Ys t (lists ds)).take j ++ [Ye t (lists ds) j]:=by rw[List.take_add_one,Qc6 t (lists ds) j (by rw[Q0];omega)];rfl
        show w'.ownsRow _ _ _ _ _ _;rw[e,←List.append_assoc,Qcp,List.length_append,←HN1.o,←HP.o,←HDAT.o];exact h1
       ·show Fr _ _ _
        exact (HFr.o.trans (Fr.ofBelow HB2.o)).step H3.o fun k hk hS=>by
         rcases HM.o k hS with h1|h1
         ·exact h1
         ·omega
       ·show J7 _ _ _
        intro k hk;rcases H4.o k hk with h1|h1
        ·exact HM.o k h1
        ·exact .inr (by have:=HFr.o.size;have:=HB2.o.size;omega)
   ·obtain⟨h4z,hw4⟩:=Q4c hwd hm h4
    rw[hw4] at hw0 hwm h4z;have HW4:=zh (rfl:wd=wd);clear hp hpe hcon hm hwd htk hw4 h4
    go_wp2_with (go_at_call 113;refine HCON.o.mono ?_;rintro e w2 ⟨rfl,hb2⟩;have HB2:=zh hb2;clear hb2)
    have HWD4:=zh hwd4;clear hq hwj hwm hw0 h4z hwd4
    go_loopg [10,11] wd (fun gg s10 s11 wx=>∃ i:Nat,i≤wd∧wd-i≤gg∧s11=.int .i64 (4*(j:Int)+(i:Int))∧s10=.string (sOf (((lists ds).drop (4*j)).take i).flatten)∧w2=wx)
    case atStart=>exact⟨0,by omega,by omega,by simp,by simp,rfl⟩
    case round=>
     obtain⟨i,hi,hgi,rfl,rfl,rfl⟩:=hrel;by_cases hil:i<wd
     ·have hilz:4*(j:Int)+(i:Int)<4*(j:Int)+(wd:Int):=by have:=HW4.o;omega
      have hd2:Q5 w2 0 (.slice ad ds.length cd) ds:=Qn (Zb HD.o HFr.o fun k hk e=>by
       obtain⟨C,hC⟩:=Qh HD.o hk
       obtain⟨C',hC'⟩:=Qh HH.o e
       rw[hC] at hC'
       simp at hC') HB2.o
      obtain⟨s,hs⟩:∃ s,ds[4*j+i]?=some s:=⟨_,List.getElem?_eq_getElem (by omega)⟩
      obtain⟨bd,rfl⟩:∃ bd,ad=some ⟨bd,0,none⟩:=by
       rcases hd2.2 with ⟨_,h0⟩|⟨b,cap,cur,e,_⟩
       ·omega
       ·simp at e;exact⟨b,e.1⟩
      have kc:w2.cell? ⟨bd,4*j+i,none⟩=some (.string s):=by have h1:=hd2.cells (g:=bd) rfl (4*j+i) (.string s) (by rw[List.getElem?_map,hs];rfl);rw[Addr.add_lit] at h1;simpa using h1
      have hi0:(0:Int)≤4*(j:Int)+(i:Int):=by omega
      have hi1:4*(j:Int)+(i:Int)<(ds.length:Int):=by omega
      have hi2:(4*(j:Int)+(i:Int)).toNat=4*j+i:=by omega
      have hfs:=Qsy (lists ds) (4*j) (4*j+i) s.data.toList (by omega) (by rw[Qj9,hs];rfl);rw[show 4*j+i+1-4*j=i+1 by omega,show 4*j+i-4*j=i by omega] at hfs;have HFS:=zh hfs;have hzs:s.size≤1048576:=HZ.o s (List.mem_of_getElem? hs);have hzf:=Qvf HZ.o (4*j) i (Nat.le_trans hi HWD4.o);clear hd2 hs hfs
      go_wp2_with fail
      go_roundg (wd-(i+1))
      case measure=>omega
      case rel=>exact⟨i+1,by omega,by omega,by go_num,by rw[HFS.o,Qvn],rfl⟩
     ·have hilz:¬ 4*(j:Int)+(i:Int)<4*(j:Int)+(wd:Int):=by have:=HW4.o;omega
      have hiw:i=wd:=by omega
      subst hiw;have hdat:sOf (((lists ds).drop (4*j)).take i).flatten=(Ye t (lists ds) j).2:=by have e:(((lists ds).drop (4*j)).take i)=(((lists ds).drop (4*j)).take 4):=HTK.o;rw[e];rfl
      have hrow1:=Qn HF1.o HB2.o;obtain⟨n1,hn1⟩:∃ n1,n1=(l++(Ys t (lists ds)).take j).length:=⟨_,rfl⟩
      have hrow1':w2.ownsRow 0 194 2 u0 n1 (Zh (l++(Ys t (lists ds)).take j)):=by rw[hn1];exact hrow1
      have hn1b:n1+1≤1099511627776:=by rw[hn1,List.length_append,List.length_take];have:=HN.o;omega
      have HDAT:=zh hdat;have HROW:=zh hrow1';have HN1:=zh hn1;clear hdat hrow1 hrow1' hn1
      go_wp2_with (at_builtin;refine Qbe rfl _ _ _ rfl 0 194 i0 _ 2 32 underlying123 HI.o.1 HI.o.2.1 HI.o.2.2.1 HI.o.2.2.2 rfl (by decide) (by decide) u0 n1 _ (by rfl) (Qn HROW.o (Qa _ _)) ⟨w2.heap.size,0,none⟩ 1 1 [.string p,.string (sOf (((lists ds).drop (4*j)).take i).flatten)] rfl rfl (Qeq _ _ _ _ _ rfl) (by simp[Value.oneCell']) (by decide) hn1b (Nat.zero_le _) ?_;intro v' w' h2 h3 h4 h5;have H2:=zh h2;have H3:=zh ((Fr.ofBelow (S:=fun k=>u0.ownBlock=some k) (Qa w2 _)).trans (Fr.ofGrown h3 fun k _ e=>e));have H4:=zh ((J7.refl w2 u0).trans h4 (by simp));clear h2 h3 h4)
      go_roundg (ds.length+4-4*(j+1))
      case measure=>omega
      case rel=>
       refine⟨j+1,by omega,Nat.le_refl _,by go_num,v',rfl,?_,?_,?_⟩
       ·have h1:=H2.o
        have e:(Ys t (lists ds)).take (j+1)=(Ys t (lists ds)).take j ++ [Ye t (lists ds) j]:=by rw[List.take_add_one,Qc6 t (lists ds) j (by rw[Q0];omega)];rfl
        show w'.ownsRow _ _ _ _ _ _;rw[e,←List.append_assoc,Qcp,List.length_append,←HN1.o,←HP.o,←HDAT.o];exact h1
       ·show Fr _ _ _
        exact (HFr.o.trans (Fr.ofBelow HB2.o)).step H3.o fun k hk hS=>by
         rcases HM.o k hS with h1|h1
         ·exact h1
         ·omega
       ·show J7 _ _ _
        intro k hk;rcases H4.o k hk with h1|h1
        ·exact HM.o k h1
        ·exact .inr (by have:=HFr.o.size;have:=HB2.o.size;omega)
  ·have hltz:¬ 4*(j:Int)<(ds.length:Int):=by omega
   go_wp2;go_ret;refine⟨_,rfl,?_,HFr.o,HM.o⟩
   have:=HF1.o
   rw[List.take_of_length_le (by rw[Qbi,Q0];omega)] at this;exact this
end
end Go.Proofs.YtefccfakhgdfbabGreatDoor
