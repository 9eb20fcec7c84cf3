/- tilesref.further: the entries behind some that are there. Conditions: fewer than 2^40 files of at most 2^20 bytes; at most 2^20 entries. -/
import Derived.Test.YtefccfakhgdfbaaGreatDoorLi17
set_option linter.unusedVariables false
set_option linter.unusedSimpArgs false
open Go.RowKit Go.Proofs.Tryz
set_option maxRecDepth 100000
set_option maxHeartbeats 4000000
namespace Go.Proofs.YtefccfakhgdfbaaGreatDoor
section
theorem Qwh:∀ (fs:List Fil) (d:Dk),(putsD d fs).1.calls≤d.calls+fs.length∧(putsD d fs).1.files.length≤d.files.length+fs.length
 | [],d=>⟨Nat.le_refl _,Nat.le_refl _⟩
 | f :: fs,d=>by
   have h:=Q2u d f.1 f.2
   have h2:=Qwh fs (putD d f.1 f.2)
   rw[putsD]
   split
   ·simp only[List.length_cons];omega
   ·simp only[List.length_cons];omega
theorem Qrf (t:Int) (row:List (List UInt8)) (j:Nat) (d:Dk):(Qae t row j d).1.calls≤d.calls+(row.length+3) / 4∧(Qae t row j d).1.files.length≤d.files.length+(row.length+3) / 4:=by
 have h:=Qwh ((Yu t row).drop j) d;have hl:((Yu t row).drop j).length≤(row.length+3) / 4:=by rw[List.length_drop,Qbp];omega
 unfold Qae;simp only[];omega
def Qf1 (f:Nat→Addr) (w:World) (g gd:Nat) (v ve vl vp:Value) (vs:List Value) (d:Dk) (L:Lg) (e:Ending) (w':World):Prop:=
 if L.failed=true then e=.returned (.tuple #[.int .i64 0,.iface 370 (.pointer (some (f 6)))])∧Below w.heap.size w w'
 else ∃ v' vp' Q,Q=pubD L.entries L.key L.put d∧Q1 w' gd v' Q.1∧Zq w' g gd ve vl vp' vs { L with put:=Q.2.1,failed:=Q.2.2.isSome }∧Fr (Jz g gd v ve vl vp vs) w w'∧Sub w (Jz g gd v ve vl vp vs) (Jz g gd v' ve vl vp' vs)∧
  ((Q.2.2=none∧e=.returned (.tuple #[.int .i64 L.entries.length,.nilIface]))∨∃ p r u m,Q.2.2=some p∧e=.returned (.tuple #[.int .i64 0,.iface 219 (.pointer (some ⟨r,0,none⟩))])∧w.heap.size≤r∧w.heap.size≤u∧w'.heap[u]?=some (.cells #[.int .i64 m] 398 (0,0))∧
   w'.heap[r]?=some (.cells #[.string p,.iface 218 (.pointer (some ⟨u,0,none⟩))] 221 (0,0)))
structure Vars (w:World) (g pl:Nat) (n:Int) (ev:Value):Prop where
 l:w.heap[pl]?=some (.cells #[.pointer (some ⟨g,0,none⟩)] 179 (0,0))
 n:w.heap[pl+1]?=some (.cells #[.int .i64 n] 3 (0,0))
 e:w.heap[pl+1+1]?=some (.cells #[ev] 135 (0,0))
variable {w w':World} {g pl:Nat} {n:Int} {ev:Value}
theorem Vars.below (h:Vars w g pl n ev) (hb:Below w.heap.size w w'):Vars w' g pl n ev:=
 ⟨(hb.block _ (Qc h.l)).trans h.l,(hb.block _ (Qc h.n)).trans h.n,(hb.block _ (Qc h.e)).trans h.e⟩
theorem Vars.cells (h:Vars w g pl n ev):w.cell? ⟨pl,0,none⟩=some (.pointer (some ⟨g,0,none⟩))∧w.cell? ⟨pl+1,0,none⟩=some (.int .i64 n)∧w.cell? ⟨pl+1+1,0,none⟩=some ev∧
  w.frozen? ⟨pl+1,0,none⟩=false∧w.frozen? ⟨pl+1+1,0,none⟩=false:=⟨Qd h.l 0 rfl,Qd h.n 0 rfl,Qd h.e 0 rfl,Qs h.n 0,Qs h.e 0⟩
theorem Vars.err (h:Vars w g pl n ev) (x:Value):Vars (w.setCell ⟨pl+1+1,0,none⟩ x) g pl n x:=
 ⟨Jr h.l (show pl≠pl+1+1 by omega) _,Jr h.n (show pl+1≠pl+1+1 by omega) _,(heap_setCell h.e _).trans (by simp)⟩
theorem Vars.num (h:Vars w g pl n ev) (x:Int):Vars (w.setCell ⟨pl+1,0,none⟩ (.int .i64 x)) g pl x ev:=
 ⟨Jr h.l (show pl≠pl+1 by omega) _,(heap_setCell h.n _).trans (by simp),Jr h.e (show pl+1+1≠pl+1 by omega) _⟩
def Q8w (w:World) (g gd:Nat) (v ve vl vp:Value) (vs:List Value) (L:Lg) (d:Dk) (pl k:Nat) (wx:World):Prop:=
 ∃ v1 vp1 d1 ps ev,Pk w (pl+3) g gd v ve vl vp vs L v1 vp1 d1 ps wx∧Vars wx g pl 0 ev∧Qea (Zd L.entries) ps∧d1.calls≤d.calls+k*1048576∧d1.files.length≤d.files.length+k*1048576∧
  ((ev=.nilIface∧pubJ 0 (Zd L.entries) L.put d=pubJ k ((Zd L.entries).drop k) ps d1)∨
     ∃ p r u m,ev=.iface 219 (.pointer (some ⟨r,0,none⟩))∧w.heap.size≤r∧w.heap.size≤u∧wx.heap[u]?=some (.cells #[.int .i64 m] 398 (0,0))∧
   wx.heap[r]?=some (.cells #[.string p,.iface 218 (.pointer (some ⟨u,0,none⟩))] 221 (0,0))∧pubJ 0 (Zd L.entries) L.put d=(d1,ps,some p))
variable {gd k:Nat} {v ve vl vp v1 vp1:Value} {vs:List Value} {L:Lg} {d d1:Dk} {ps:List Nat} {row:List (List UInt8)} {t:Int}
theorem Qwr {wr w5:World} {u:Value} (hp:Pk w (pl+3) g gd v ve vl vp vs L v1 vp1 d1 ps wr) (hv:Vars wr g pl 0 .nilIface)
  (hm:Qea (Zd L.entries) ps) (hr:(Zd L.entries)[k]?=some row) (hl:row.length≤1048576) (hJ:pubJ 0 (Zd L.entries) L.put d=pubJ k ((Zd L.entries).drop k) ps d1) (ht:t=(k:Int)-1)
  (hw:Qm7 wr g gd v1 ve vl vp1 vs d1 { L with put:=ps } t k row (.returned u) w5) (hc:d1.calls≤d.calls+k*1048576) (hf:d1.files.length≤d.files.length+k*1048576) (hpl:pl=w.heap.size):Q8w w g gd v ve vl vp vs L d pl (k+1) (w5.setCell ⟨pl+1+1,0,none⟩ u):=by
 obtain⟨p1,q,i,hq,v',vp',a,o⟩:=hw;subst ht;have C:=Qrf ((k:Int)-1) row (p1.getD k 0 / 4) d1;have j:=Qmr ((k:Int)-1) row (p1.getD k 0 / 4) d1;rw[←hq] at C j;have c:=Q3t hr ps d1 i hq;have hP:=hp.write a;have h1:=hp.keeps a.fr (b:=pl) (by omega) (by omega) hv.l;have h2:=hp.keeps a.fr (b:=pl+1) (by omega) (by omega) hv.n;have h3:=hp.keeps a.fr (b:=pl+1+1) (by omega) (by omega) hv.e;have h:=Fr.set1 w5 (pl+1+1) 0 u;have z:=hP.var (b:=pl+1+1) (by omega) (by omega) h3 (by decide) h;have A:Vars (w5.setCell ⟨pl+1+1,0,none⟩ u) g pl 0 u:=Vars.err ⟨h1,h2,h3⟩ u;have s:Qea (Zd L.entries) (p1.set k q.2.1):=by rw[i];exact hm.next hr j
 refine⟨v',vp',q.1,p1.set k q.2.1,u,z,A,s,by omega,by omega,?_⟩;rcases o with ⟨f,he⟩|⟨p,r,x,m,f,he,E,D,B,y⟩
 ·left
  rw[f] at c;cases he;exact⟨rfl,by rw[hJ,c]⟩
 ·right
  rw[f] at c;cases he;have F:=hp.size;exact⟨p,r,x,m,rfl,by omega,by omega,h.heap B (by omega),h.heap y (by omega),by rw[hJ,c]⟩
theorem Q5x (w:World) (g:Nat):Vars (((w.alloc (.cells #[.pointer (some ⟨g,0,none⟩)] 179)).alloc (.cells #[.int .i64 0] 3)).alloc (.cells #[.nilIface] 135)) g w.heap.size 0 .nilIface:=by
 refine⟨?_,?_,?_⟩
 ·rw[heap_alloc_old _ _ (by simp;omega),heap_alloc_old _ _ (by simp),heap_alloc_new]
 ·rw[heap_alloc_old _ _ (by simp)]
  have:=heap_alloc_new (w.alloc (.cells #[.pointer (some ⟨g,0,none⟩)] 179)) (.cells #[.int .i64 0] 3)
  simpa using this
 ·have:=heap_alloc_new ((w.alloc (.cells #[.pointer (some ⟨g,0,none⟩)] 179)).alloc (.cells #[.int .i64 0] 3)) (.cells #[.nilIface] 135)
  simpa using this
variable {f:Nat→Addr} {W9:World} {r u:Nat} {m x:Int} {p:ByteArray}
theorem Q5w (hP:Pk w (pl+3) g gd v ve vl vp vs L v1 vp1 d1 ps W9) (hV:Vars W9 g pl x (.iface 219 (.pointer (some ⟨r,0,none⟩))))
  (hpl:pl=w.heap.size) (hg:g<w.heap.size) (hr:w.heap.size≤r) (hu:w.heap.size≤u) (hhu:W9.heap[u]?=some (.cells #[.int .i64 m] 398 (0,0))) (hhr:W9.heap[r]?=some (.cells #[.string p,.iface 218 (.pointer (some ⟨u,0,none⟩))] 221 (0,0)))
  (hfd:L.failed=false) (hQ:pubD L.entries L.key L.put d=(d1,ps,some p)) :
  Qf1 f w g gd v ve vl vp vs d L (.returned (.tuple #[.int .i64 0,.iface 219 (.pointer (some ⟨r,0,none⟩))])) ((W9.setCell ⟨pl+1,0,none⟩ (.int .i64 0)).setCell ⟨g,5,none⟩ (.bool true))∧
   ((W9.setCell ⟨pl+1,0,none⟩ (.int .i64 0)).setCell ⟨g,5,none⟩ (.bool true)).cell? ⟨pl+1,0,none⟩=some (.int .i64 0)∧((W9.setCell ⟨pl+1,0,none⟩ (.int .i64 0)).setCell ⟨g,5,none⟩ (.bool true)).cell? ⟨pl+1+1,0,none⟩=some (.iface 219 (.pointer (some ⟨r,0,none⟩))):=by
 have c:=Fr.set1 W9 (pl+1) 0 (.int .i64 0);have a:=hP.var (b:=pl+1) (by omega) (by omega) hV.n (by decide) c;have j:=hV.num 0;have hl:=a.log.fail true;have l:=hl.2;have h:Fr (Jz g gd v1 ve vl vp1 vs) (W9.setCell ⟨pl+1,0,none⟩ (.int .i64 0)) ((W9.setCell ⟨pl+1,0,none⟩ (.int .i64 0)).setCell ⟨g,5,none⟩ (.bool true)):=l.weak fun k _ hk=>.inr hk
 have hn:=a.keeps h (b:=pl+1) (by omega) (by omega) j.n;have he:=a.keeps h (b:=pl+1+1) (by omega) (by omega) j.e;refine⟨?_,Qd hn 0 rfl,Qd he 0 rfl⟩;unfold Qf1;rw[if_neg (by rw[hfd];decide)];have i:=Fr.set1 (W9.setCell ⟨pl+1,0,none⟩ (.int .i64 0)) g 5 (.bool true);have h1:=c.heap hhu fun e=>by subst e;rw[hV.n] at hhu;simp at hhu
 have h2:=c.heap hhr fun e=>by subst e;rw[hV.n] at hhr;simp at hhr
 refine⟨v1,vp1,(d1,ps,some p),hQ.symm,?_,hl.1,Fr.sub a.fr h a.subw,a.subw,.inr ⟨p,r,u,m,rfl,rfl,hr,hu,i.heap h1 (by omega),i.heap h2 (by omega)⟩⟩;exact a.disk.fr l fun k hk hS=>a.log.apartDisk a.disk k hS hk
variable {T:Array Value}
theorem Qfy (hP:Pk w (pl+3) g gd v ve vl vp vs L v1 vp1 d1 ps W9) (hV:Vars W9 g pl x (.iface 219 (.pointer (some ⟨r,0,none⟩))))
  (hpl:pl=w.heap.size) (hg:g<w.heap.size) (hr:w.heap.size≤r) (hu:w.heap.size≤u) (hhu:W9.heap[u]?=some (.cells #[.int .i64 m] 398 (0,0))) (hhr:W9.heap[r]?=some (.cells #[.string p,.iface 218 (.pointer (some ⟨u,0,none⟩))] 221 (0,0)))
  (hfd:L.failed=false) (hQ:pubD L.entries L.key L.put d=(d1,ps,some p)) (hT2:T.getD 2 undef=.pointer (some ⟨pl+1,0,none⟩)) (hT3:T.getD 3 undef=.pointer (some ⟨pl+1+1,0,none⟩)) :
  bodyPostD prog f126 (Qf1 f w g gd v ve vl vp vs d L) Exit.ret { tmps:=T,defers:=[{ target:=.fn (.func 166) #[.pointer (some ⟨pl+1+1,0,none⟩),.pointer (some ⟨pl+1,0,none⟩),.pointer (some ⟨pl,0,none⟩)],args:=#[] }] } W9:=by
 obtain⟨x1,x2,x3,j,_⟩:=hV.cells;have xg:=hP.log.heads.1.2.2.2.2.2;have xgf:=hP.log.heads.2 5;obtain⟨c,i,h⟩:=Q5w (f:=f) hP hV hpl hg hr hu hhu hhr hfd hQ;refine leaves_cons (f:=166) (args:=#[.pointer (some ⟨pl+1+1,0,none⟩),.pointer (some ⟨pl+1,0,none⟩),.pointer (some ⟨pl,0,none⟩)]) (by simp) (by simp[go_sem]) ?_;refine (Q36 (pl+1+1) (pl+1) pl g .returning W9 x3 x1 x2 ⟨_,rfl⟩ j xg xgf (by omega)).mono ?_;rintro e u' w'' ⟨rfl,rfl,rfl⟩;simp only[Leaves,settle];refine⟨.tuple #[.int .i64 0,.iface 219 (.pointer (some ⟨r,0,none⟩))],?_,c⟩;have a:T[2]?.getD undef=.pointer (some ⟨pl+1,0,none⟩):=by simpa [Array.getD_eq_getD_getElem?] using hT2
 have b:T[3]?.getD undef=.pointer (some ⟨pl+1+1,0,none⟩):=by simpa [Array.getD_eq_getD_getElem?] using hT3
 simp[results,results126,go_sem,a,b,i,h]
theorem Qpv (hP:Pk w (pl+3) g gd v ve vl vp vs L v1 vp1 d1 ps W9) (hV:Vars W9 g pl (L.entries.length:Int) .nilIface)
  (hfd:L.failed=false) (hQ:pubD L.entries L.key L.put d=(d1,ps,none)) (hT2:T.getD 2 undef=.pointer (some ⟨pl+1,0,none⟩)) (hT3:T.getD 3 undef=.pointer (some ⟨pl+1+1,0,none⟩)) :
  bodyPostD prog f126 (Qf1 f w g gd v ve vl vp vs d L) Exit.ret { tmps:=T,defers:=[{ target:=.fn (.func 166) #[.pointer (some ⟨pl+1+1,0,none⟩),.pointer (some ⟨pl+1,0,none⟩),.pointer (some ⟨pl,0,none⟩)],args:=#[] }] } W9:=by
 obtain⟨x1,x2,x3,_,_⟩:=hV.cells;refine leaves_cons (f:=166) (args:=#[.pointer (some ⟨pl+1+1,0,none⟩),.pointer (some ⟨pl+1,0,none⟩),.pointer (some ⟨pl,0,none⟩)]) (by simp) (by simp[go_sem]) ?_;refine (Q47 (pl+1+1) (pl+1) pl .returning W9 x3).mono ?_;rintro e u' w'' ⟨rfl,rfl,rfl⟩;simp only[Leaves,settle];refine⟨.tuple #[.int .i64 L.entries.length,.nilIface],?_,?_⟩
 ·have a:T[2]?.getD undef=.pointer (some ⟨pl+1,0,none⟩):=by simpa [Array.getD_eq_getD_getElem?] using hT2
  have b:T[3]?.getD undef=.pointer (some ⟨pl+1+1,0,none⟩):=by simpa [Array.getD_eq_getD_getElem?] using hT3
  simp[results,results126,go_sem,a,b,x2,x3]
 ·unfold Qf1
  rw[if_neg (by rw[hfd];decide)];have hl:=hP.log;refine⟨v1,vp1,(d1,ps,none),hQ.symm,hP.disk,?_,hP.fr,hP.subw,.inl ⟨rfl,rfl⟩⟩;have e:({ L with put:=ps,failed:=false }:Lg)={ L with put:=ps }:=by rw[←hfd]
  show Zq _ _ _ _ _ _ _ { L with put:=ps,failed:=false };rw[e];exact hl
theorem Qwt {a b:Nat} (h:a≤b+(k+1)*1048576) (hb:b<900000000000) (hk:k≤12):a<1000000000000:=by omega
theorem Q7w (n:Int) (y:Hsh):Array.foldl (fun (cs:Array Value) (x:Value×Nat)=>cs.setIfInBounds (1+x.snd) x.fst) #[.int .i64 n,.int .u8 0,.int .u8 0,.int .u8 0,.int .u8 0,.int .u8 0,.int .u8 0,.int .u8 0,.int .u8 0] (h8 y).zipIdx 0 8=trC n y:=by rw[Qgh];simp
theorem Q3e (w:World) (g:Nat) (n:Int) (k:Hsh):Fr (·=g) w (((((((((w.setCell ⟨g,0,none⟩ (.int .i64 n)).setCell ⟨g,1,none⟩ (u8 k[0])).setCell ⟨g,2,none⟩ (u8 k[1])).setCell ⟨g,3,none⟩ (u8 k[2])).setCell ⟨g,4,none⟩ (u8 k[3])).setCell ⟨g,5,none⟩ (u8 k[4])).setCell ⟨g,6,none⟩ (u8 k[5])).setCell ⟨g,7,none⟩ (u8 k[6])).setCell ⟨g,8,none⟩ (u8 k[7])):=(((((((((Fr.set1 w g 0 (.int .i64 n)).set 1 (u8 k[0])).set 2 (u8 k[1])).set 3 (u8 k[2])).set 4 (u8 k[3])).set 5 (u8 k[4])).set 6 (u8 k[5])).set 7 (u8 k[6])).set 8 (u8 k[7]))
theorem Q2z (h:TrAt w g 0 zero8) (n:Int) (k:Hsh):TrAt (((((((((w.setCell ⟨g,0,none⟩ (.int .i64 n)).setCell ⟨g,1,none⟩ (u8 k[0])).setCell ⟨g,2,none⟩ (u8 k[1])).setCell ⟨g,3,none⟩ (u8 k[2])).setCell ⟨g,4,none⟩ (u8 k[3])).setCell ⟨g,5,none⟩ (u8 k[4])).setCell ⟨g,6,none⟩ (u8 k[5])).setCell ⟨g,7,none⟩ (u8 k[6])).setCell ⟨g,8,none⟩ (u8 k[7])) g n k:=
 (heap_setCell (i:=8) (heap_setCell (i:=7) (heap_setCell (i:=6) (heap_setCell (i:=5) (heap_setCell (i:=4) (heap_setCell (i:=3) (heap_setCell (i:=2) (heap_setCell (i:=1) (heap_setCell (i:=0) h (.int .i64 n)) (u8 k[0])) (u8 k[1])) (u8 k[2])) (u8 k[3])) (u8 k[4])) (u8 k[5])) (u8 k[6])) (u8 k[7])).trans (by simp[trC,bv])
theorem Q91 (w:World) (s:ByteArray):∃ b c w',Sem.run prog (convert 9 147 (.string s)) w=.ok (.slice (some ⟨b,0,none⟩) s.size c) w'∧Qy w' w.heap.size (.slice (some ⟨b,0,none⟩) s.size c) s.data.toList∧Below w.heap.size w w':=by
 have hr:=Lib.run_convert_string_bytes (P:=prog) w 9 147 5 s underlying9 underlying147 underlying5;refine⟨_,_,_,hr,?_,?_⟩
 ·refine .inr ⟨w.heap.size,0,grownCap w s.size 0 5,Lib.bytesCells w 5 s,_,by simp,by have:=grownCap_ge w s.size 0 5;simpa using this,Nat.le_refl _,Lib.bytesWorld_at_new w _ s,fun j y hy=>?_,?_,.inr (Nat.le_refl _)⟩
  ·have hj:j<s.size:=by
    have:=(List.getElem?_eq_some_iff.1 hy).1
    simpa using this
   have h2:s.data[j]?=some y:=by simpa using hy
   have h3:s.data[j]=y:=by rw[Array.getElem?_eq_getElem hj,Option.some.injEq] at h2;exact h2
   simp[Lib.bytesCells,Array.getElem?_append,hj,h3]
  ·simp[Lib.bytesCells]
 ·exact⟨by simp[Lib.bytesWorld,World.freeze,World.alloc,World.drew,-World.alloc_eq,-World.drew_eq],by simp[Lib.bytesWorld,World.freeze,World.alloc,World.drew,-World.alloc_eq,-World.drew_eq],by simp[Lib.bytesWorld,World.freeze,World.alloc,World.drew,-World.alloc_eq,-World.drew_eq],by rw[Lib.bytesWorld_size];omega,fun k hk=>Lib.bytesWorld_at_old w 5 s k hk⟩
theorem Q6j (w:World):(binOp .eql 135 .nilIface .nilIface).run prog w=.ok (.bool true) w:=by
 have h:∀ d:Nat,(Op.equalIn (d+1) 135 .nilIface .nilIface).run prog w=.ok true w:=fun d=>by simp[Op.equalIn,run_underlying underlying135]
 simp only[binOp];simp[Op.equal,Op.maxDepth,h 9999]
theorem Qiw {n:Nat} {e:Ending} (h:Qm7 w g gd v ve vl vp vs d L t n row e w'):∃ u,e=.returned u∧(u=.nilIface∨∃ t x,u=.iface t x):=by
 obtain⟨_,_,_,_,_,_,_,h⟩:=h;rcases h with ⟨_,rfl⟩|⟨_,_,_,_,_,rfl,_⟩
 ·exact⟨_,rfl,.inl rfl⟩
 ·exact⟨_,rfl,.inr ⟨_,_,rfl⟩⟩
def Q9z:Op:=.convert 9 147 (.tmp 71)
theorem Q59:Op.convert 9 147 (.tmp 71)=Q9z:=rfl
section
attribute [local go_sem] Q9z Q7w h8_0 h8_1 h8_2 h8_3 h8_4 h8_5 h8_6 h8_7 Qbm h8_size
theorem Quz (f:Nat→Addr) (w:World) (g gd:Nat) (v ve vl vp:Value) (vs:List Value) (d:Dk) (L:Lg) (h:Zq w g gd ve vl vp vs L) (hD:Q1 w gd v d) (hE:EnvS f (Jz g gd v ve vl vp vs) w) (hlv:L.levels=levels L.entries) (hn:L.entries.length≤1048576)
  (hs:∀ e∈L.entries,e.length≤20) (hm:Qea (Zd L.entries) L.put) (hc:d.calls<900000000000) (hfl:d.files.length<900000000000) (hkey:L.key.size≤9223372036854775807) :
  Calls prog 126 #[.pointer (some ⟨g,0,none⟩)] w (Qf1 f w g gd v ve vl vp vs d L):=by
 have e8:∀ (fn:Fn) (first cap:Array Value) (w:World),(Instr.makeFunc fn first cap).run prog w=.ok (.func fn first cap) w:=fun _ _ _ _=>rfl
 have hg:=Qc h.cells;obtain⟨_,_,_,_,_,_,s6⟩:=hE.sents.cells;have b6:=Qk s6;obtain⟨⟨_,_,_,_,_,c5⟩,f0⟩:=h.heads;obtain⟨W0,R⟩:∃ W0,W0=((w.alloc (.cells #[.pointer (some ⟨g,0,none⟩)] 179)).alloc (.cells #[.int .i64 0] 3)).alloc (.cells #[.nilIface] 135):=⟨_,rfl⟩
 have H:Below w.heap.size w W0:=by rw[R];exact ((Qa w _).alloc (by simp) _).alloc (by simp;omega) _
 have K:Vars W0 g w.heap.size 0 .nilIface:=by rw[R];exact Q5x w g
 have ay:Pk w W0.heap.size g gd v ve vl vp vs L v vp d L.put W0:=⟨hD.below H,h.below H,Fr.ofBelow H,fun k hk=>.inl hk,fun k hk=>Qla h hD hk,Nat.le_refl _,H.size⟩
 obtain⟨pl,X⟩:∃ pl,pl=w.heap.size:=⟨_,rfl⟩
 have ai:W0.heap.size=w.heap.size+3:=by rw[R];simp
 have eh:=ay.log.heads;obtain⟨⟨_,_,_,_,_,a6⟩,_⟩:=eh;have fd:g<W0.heap.size:=by omega
 have s60:=(H.cell (p:=⟨5,0,none⟩) b6).trans s6;have fc:=Qk s60;have e7:5<pl:=by rw[X];exact b6
 obtain⟨k1,k2,k3,dd,c3⟩:=K.cells;have dg:=zh R;have s:=zh X;have er:=zh ai;have es:=zh H;have bq:=zh hfl;have C:=Qc K.l;have bp:=Qc K.n;have bo:=Qc K.e;rw[←X] at k1 k2 k3 dd c3 C bp bo K;cases hfd:L.failed with
 | true=>
  have bw:W0.cell? ⟨g,5,none⟩=some (.bool true):=by rw[←hfd];exact a6
  clear h hD hE R X ai H ay a6 c5 s6 b6 f0
  go_enter_defers func126,ntmps126
  go_upto_region 1 with fail
  rw[←dg.o,←s.o];go_wp2;go_region
  all_goals (
   go_wp2
   have hV:=((K.num 0).err (.iface 370 (.pointer (some (f 6))))).below (Qn _)
   obtain⟨_,r2,r3,_,_⟩:=hV.cells
   have d4:Below w.heap.size w ((W0.setCell ⟨pl+1,0,none⟩ (.int .i64 0)).setCell ⟨pl+1+1,0,none⟩ (.iface 370 (.pointer (some (f 6))))).drew:=by
    have hp:=s.o
    exact ((es.o.setCell (by show _≤pl+1;omega) _).setCell (by show _≤pl+1+1;omega) _).drew
   simp only[bodyPostD,Leaves]
   refine⟨.tuple #[.int .i64 0,.iface 370 (.pointer (some (f 6)))],?_,?_⟩
   ·simp[results,results126,go_sem,r2,r3]
   ·unfold Qf1
    rw[if_pos hfd]
    exact⟨rfl,d4⟩)
 | false=>
  have bw:W0.cell? ⟨g,5,none⟩=some (.bool false):=by rw[←hfd];exact a6
  have HE:=zh hE;have cg:=zh ay;have d5:=zh K;have c4:=zh hlv;have HS:=zh hs;have HM:=zh hm;have a2:=zh hfd;clear h hD hE hlv hs hm hfd ay K H R X ai a6 c5 s6 b6 f0 hfl
  go_enter_defers func126,ntmps126
  go_upto_region 1 with fail
  rw[←dg.o,←s.o];obtain⟨vse,aw,_⟩:=cg.o.log.ents;obtain⟨ae,ce,rfl⟩:=Zi aw;have c0:=cg.o.log.heads.1.2.2.1;obtain⟨ln,F⟩:∃ ln,ln=L.entries.length:=⟨_,rfl⟩
  have ds:W0.cell? ⟨g,2,none⟩=some (.slice ae ln ce):=by rw[F];exact c0
  have cd:=zh F;clear aw c0 F
  go_upto_region 4 with fail
  go_cut [] from 14 to 21 (fun wx=>Aside (Q8w w g gd v (.slice ae L.entries.length ce) vl vp vs L d pl 1 wx))
  case first=>
   go_still_tail 7,(by kernel_rfl)
   change wpList _ _ _ _ _ W0.drew
   obtain⟨W1,z⟩:∃ W1,W1=W0.drew:=⟨_,rfl⟩
   rw[←z];have J:Pk w (pl+3) g gd v (.slice ae L.entries.length ce) vl vp vs L v vp d L.put W1:=by rw[z,show pl+3=W0.heap.size by rw[er.o,s.o]];exact cg.o.below (Qn _)
   have b4:Vars W1 g pl 0 .nilIface:=by rw[z];exact d5.o.below (Qn _)
   clear z;obtain⟨j1,j2,j3,eb,em⟩:=b4.cells;have jc:=J.log.heads.1.2.2.1;have V:(L.entries.map encE).length=L.entries.length:=by simp
   have Q:=Qsz f W1 g gd v (.slice ae L.entries.length ce) vl vp vs d { L with put:=L.put } J.log J.disk (HE.o.step J.fr J.subw) (-1) 0 (by decide) (by decide) (by show L.put.length≤_;have:=HM.o.1;rw[J4] at this;have:=Qa3 hn;omega) (L.entries.map encE) (by rw[V];exact hn)
    (fun a ha=>HM.o.2 0 a _ ha (Qcb _)) (fun x hx=>by obtain⟨e,he,rfl⟩:=List.mem_map.1 hx;have:=HS.o e he;simp only[encE,List.length_cons];omega) (by omega) (by have:=bq.o;omega)
    168 pl (enters_of func168 (by kernel_rfl) rfl) (fun w1 af ps hl hfr j hj=>by
     rw[V] at hj ⊢
     exact Q6i w1 g gd _ vl af vs { L with put:=ps } hl pl (hfr.cell j1 (J.o (b:=pl) (by rw[s.o];exact Nat.le_refl _) (by omega))) j hj hn HS.o)
   rw[V] at Q;have ef:=zh Q;have ct:=zh J;have cw:=zh b4;clear Q V J b4
   go_wp2_with fail
   refine ef.o.mono ?_;rintro e w5 E;obtain⟨u,rfl,hu⟩:=Qiw E;have aa:=zh (Qwr (k:=0) ct.o cw.o HM.o (Qcb _) (by rw[List.length_map];exact hn) rfl (by decide) E (by omega) (by omega) s.o);obtain⟨jz,d8⟩:∃ c,w5.cell? ⟨pl+1+1,0,none⟩=some c∧w5.frozen? ⟨pl+1+1,0,none⟩=false:=by obtain⟨_,_,_,_,_,_,cf,_⟩:=E;have h3:=ct.o.keeps cf.fr (b:=pl+1+1) (by rw[s.o];omega) (by omega) cw.o.e;exact⟨_,Qd h3 0 rfl,Qs h3 0⟩
   obtain⟨ch,ei⟩:=d8;clear E;rcases hu with rfl|⟨tu,xu,rfl⟩
   ·go_wp2_with fail
    go_meet;exact aa.o
   ·go_wp2_with fail
    go_meet;exact aa.o
  case rest=>
   have bu:=hcut;clear hcut k1 k2 k3 dd c3 bw s60 ds
   go_wp2_with fail
   go_loopg [4] (nLev L.entries.length+2) (fun gg s4 wr=>∃ k:Nat,k≤nLev L.entries.length∧nLev L.entries.length+1-k≤gg∧s4=.int .i64 k∧Aside (Q8w w g gd v (.slice ae L.entries.length ce) vl vp vs L d pl (k+1) wr))
   case atStart=>exact⟨0,by omega,by omega,rfl,bu⟩
   case round=>
    obtain⟨k,hk,ey,rfl,aa⟩:=hrel;obtain⟨v1,af,d1,ps,ev,hP,hV,hM,bc,b3,dr⟩:=aa.o;have HP:=zh hP;have HV:=zh hV;have bf:=zh hM;obtain⟨j1,j2,j3,eb,em⟩:=hV.cells;have ee:=hP.log.heads.1.2.2.2.1;have jg:=Qc hP.log.cells;obtain⟨al,cl,bk⟩:∃ al cl,vl=.slice al L.levels.length cl:=Zi hP.log.rows;obtain⟨nl,au⟩:∃ nl,nl=L.levels.length:=⟨_,rfl⟩
    have bj:nl=nLev L.entries.length:=by rw[au,c4.o];simp[levels]
    rw[bk,←au] at ee;have di:=zh bk;have d7:=zh au;have y:=zh bj;have C:=Qc hV.l;have bp:=Qc hV.n;have bo:=Qc hV.e;clear hP hV hM bk au bj bu aa;rcases dr with ⟨rfl,hJ⟩|⟨p,r,u,m,rfl,hr,hu,cz,Z,hJ⟩
    ·have eo:=Q6j wr
     have HJ:=zh hJ;clear hJ;by_cases hlt:k<nl
     ·have am:(k:Int)<(nl:Int):=by omega
      have cj:k<L.levels.length:=by have:=d7.o;omega
      have dl:vs.length=L.levels.length:=by simpa using HP.o.log.rows.1
      obtain⟨r,hr⟩:∃ r,L.levels[k]?=some r:=⟨_,List.getElem?_eq_getElem cj⟩
      obtain⟨vk,av⟩:∃ vk,vs[k]?=some vk:=⟨_,List.getElem?_eq_getElem (by omega)⟩
      have cb:=HP.o.log.each k vk r av hr;obtain⟨ak,ck,rfl⟩:=Zi cb;obtain⟨bl,rfl⟩:∃ bl,al=some ⟨bl,0,none⟩:=by
       rcases HP.o.log.rows.2 with ⟨_,h0⟩|⟨b,cap,cur,e,_⟩
       ·have fa:L.levels.length=0:=h0
        omega
       ·rw[di.o] at e;simp at e;exact⟨b,e.1⟩
      have jbl:wr.cell? ⟨bl,k,none⟩=some (.slice ak r.length ck):=by have da:=HP.o.log.rows;rw[di.o] at da;have h1:=da.cells (g:=bl) rfl k _ av;rw[Addr.add_lit] at h1;simpa using h1
      have a9:L.levels[k]?=some (Z5 L.entries k):=by rw[c4.o];unfold levels;rw[List.getElem?_map,List.getElem?_range (by have:=y.o;omega)];rfl
      have bx:r=Z5 L.entries k:=by rw[hr] at a9;exact Option.some.inj a9
      obtain⟨row,U⟩:∃ row,row=r.map fun (x:Hsh)=>x.toList:=⟨_,rfl⟩
      have ap:row.length=r.length:=by rw[U];simp
      have cy:(Zd L.entries)[k+1]?=some row:=by rw[Qdj L.entries k (by have:=y.o;omega),U,bx]
      have bz:r.length≤1048576:=by rw[bx,Qac];have:=Nat.div_le_self L.entries.length (4 ^ k);omega
      have fb:(0:Int)≤(k:Int):=by omega
      have c1:=zh cy;have bh:=zh U;have ab:=zh ap;have eq:=zh hr;have dy:=zh av;clear cj dl hr av cb a9 bx U ap cy
      go_wp2_with fail
      obtain⟨W2,ao⟩:∃ W2,W2=wr.alloc (.cells #[.slice ak r.length ck] 133):=⟨_,rfl⟩
      rw[←ao];have b5:Below wr.heap.size wr W2:=by rw[ao];exact Qa _ _
      have co:W2.heap[wr.heap.size]?=some (.cells #[.slice ak r.length ck] 133 (0,0)):=by rw[ao];exact heap_alloc_new _ _
      have M:=HP.o.below b5;have bm:=HV.o.below b5;have dh:k≤12:=by have:=Qa3 hn;omega
      have a7:¬ Jz g gd v1 (.slice ae L.entries.length ce) vl af vs wr.heap.size:=fun hk'=>by
       have:=Qla HP.o.log HP.o.disk hk'
       omega
      have Q:=Qsz f W2 g gd v1 (.slice ae L.entries.length ce) vl af vs d1 { L with put:=ps } M.log M.disk (HE.o.step M.fr M.subw) (k:Int) (k+1) (by omega) (by omega) (by show ps.length≤_;have:=bf.o.1;rw[J4] at this;have:=Qa3 hn;omega) row (by rw[ab.o];exact bz)
       (fun a ha=>bf.o.2 (k+1) a row ha c1.o) (fun x hx=>by rw[bh.o] at hx;obtain⟨e,he,rfl⟩:=List.mem_map.1 hx;simp) (Qwt bc hc dh) (Qwt b3 (by have:=bq.o;exact this) dh)
       169 wr.heap.size (enters_of func169 (by kernel_rfl) rfl) (fun w1 vp1' ps' hl hfr j hj=>by
        have ed:w1.cell? ⟨wr.heap.size,0,none⟩=some (.slice ak r.length ck):=Qd (hfr.heap co a7) 0 rfl
        have ci:=Q54 w1 wr.heap.size _ r ed (hl.each k _ r dy.o eq.o) j (by rw[←ab.o];exact hj) bz
        rw[←bh.o,←ab.o] at ci
        exact ci)
      rw[ab.o] at Q;refine Q.mono ?_;rintro e w5 E;obtain⟨u,rfl,hu⟩:=Qiw E;have bd:=zh (Qwr (k:=k+1) M bm bf.o c1.o (by rw[ab.o];exact bz) HJ.o (by omega) E bc b3 s.o);obtain⟨ch,ei⟩:(∃ c,w5.cell? ⟨pl+1+1,0,none⟩=some c)∧w5.frozen? ⟨pl+1+1,0,none⟩=false:=by obtain⟨_,_,_,_,_,_,cf,_⟩:=E;have h3:=M.keeps cf.fr (b:=pl+1+1) (by rw[s.o];omega) (by omega) bm.e;exact⟨⟨_,Qd h3 0 rfl⟩,Qs h3 0⟩
      obtain⟨e5,ch⟩:=ch;clear E Q M bm co ao b5 a7;rcases hu with rfl|⟨tu,xu,rfl⟩
      ·go_wp2_with fail
       go_roundg (nLev L.entries.length+1-(k+1))
       case measure=>have:=y.o;omega
       case rel=>exact⟨k+1,by have:=y.o;omega,by omega,by go_num,bd.o⟩
      ·go_wp2_with fail
       go_roundg (nLev L.entries.length+1-(k+1))
       case measure=>have:=y.o;omega
       case rel=>exact⟨k+1,by have:=y.o;omega,by omega,by go_num,bd.o⟩
     ·have am:¬ (k:Int)<(nl:Int):=by omega
      have ba:pubJ 0 (Zd L.entries) L.put d=(d1,ps,none):=by
       rw[HJ.o,Q6b];rw[J4]
       have:=y.o
       omega
      have bn:=zh ba;have ex:=Y3 wr;have df:=HP.o.log.heads.1.2.2.1;have bb:=HP.o.log.ents.at;clear ba;obtain⟨ln,F⟩:∃ ln,ln=L.entries.length:=⟨_,rfl⟩
      have ew:ln≤1048576:=by omega
      have W:wr.cell? ⟨g,2,none⟩=some (.slice ae ln ce):=by rw[F];exact df
      have be:Qem wr (.slice ae ln ce) L.entries:=by rw[F];exact bb
      have cr:=zh be;have cd:=zh F;have ax:∀ l∈L.entries,l.length≤9223372036854775807:=fun l hl=>by have:=HS.o l hl;omega
      have c9:=zh ax;clear F df ax bb be
      go_upto_region 12 with fail
      go_cut [6] from 51 to 61 (fun s6 wx=>∃ q6,s6=.pointer (some ⟨q6,0,none⟩)∧Aside (TrAt wx q6 ln (rootOf L.entries))∧Aside (Below wr.heap.size wr wx)∧wr.heap.size≤q6)
      case first=>
       have dp:¬ pl=wr.heap.size:=by omega
       have d6:wr.drew.cell? ⟨pl,0,none⟩=some (.pointer (some ⟨g,0,none⟩)):=j1;have dz:wr.drew.cell? ⟨g,2,none⟩=some (.slice ae ln ce):=W;have ek:(wr.alloc (.cells #[.int .i64 0,.int .u8 0,.int .u8 0,.int .u8 0,.int .u8 0,.int .u8 0,.int .u8 0,.int .u8 0,.int .u8 0] 145)).drew.cell? ⟨pl,0,none⟩=some (.pointer (some ⟨g,0,none⟩)):=((Qa wr _).cell (p:=⟨pl,0,none⟩) C).trans j1;have el:(wr.alloc (.cells #[.int .i64 0,.int .u8 0,.int .u8 0,.int .u8 0,.int .u8 0,.int .u8 0,.int .u8 0,.int .u8 0,.int .u8 0] 145)).drew.cell? ⟨g,2,none⟩=some (.slice ae ln ce):=((Qa wr _).cell (p:=⟨g,2,none⟩) jg).trans W;have dv:¬ g=wr.heap.size:=by omega
       go_region_held3 (fun w'=>w'.cell? ⟨pl,0,none⟩=some (.pointer (some ⟨g,0,none⟩))∧w'.cell? ⟨g,2,none⟩=some (.slice ae ln ce)) (first|with_reducible exact⟨d6,dz⟩|with_reducible exact⟨m1,m2⟩|with_reducible exact⟨ek,el⟩|with_reducible exact⟨cu,cs⟩|with_reducible exact⟨(Q3e w7 _ _ _).cell m1 dp,(Q3e w7 _ _ _).cell m2 dv⟩|exact⟨((Qa w7 _).cell (p:=⟨pl,0,none⟩) ar).trans m1,((Qa w7 _).cell (p:=⟨g,2,none⟩) a5).trans m2⟩) (first|(go_at_call 98;refine (Qlj _ L.entries _ (cr.o.below (Qn wr)) hn c9.o).mono ?_;rintro e w7 ⟨rfl,A⟩;have t:=zh (show Below wr.heap.size wr w7 from (Qn wr).trans A);have m1:=(t.o.cell (p:=⟨pl,0,none⟩) C).trans j1;have m2:=(t.o.cell (p:=⟨g,2,none⟩) jg).trans W;have ar:=Nat.lt_of_lt_of_le C t.o.size;have a5:=Nat.lt_of_lt_of_le jg t.o.size;have cu:(w7.alloc (.cells #[.int .i64 0,.int .u8 0,.int .u8 0,.int .u8 0,.int .u8 0,.int .u8 0,.int .u8 0,.int .u8 0,.int .u8 0] 145)).cell? ⟨pl,0,none⟩=some (.pointer (some ⟨g,0,none⟩)):=((Qa w7 _).cell (p:=⟨pl,0,none⟩) ar).trans m1;have cs:(w7.alloc (.cells #[.int .i64 0,.int .u8 0,.int .u8 0,.int .u8 0,.int .u8 0,.int .u8 0,.int .u8 0,.int .u8 0,.int .u8 0] 145)).cell? ⟨g,2,none⟩=some (.slice ae ln ce):=((Qa w7 _).cell (p:=⟨g,2,none⟩) a5).trans m2;clear A)|(go_at_call 98;refine (Qlj _ L.entries _ ((cr.o.below (Qn wr)).below (Qa _ _)) hn c9.o).mono ?_;rintro e w7 ⟨rfl,A⟩;have t:=zh (show Below wr.heap.size wr w7 from ((Qn wr).alloc (Nat.le_refl _) _).trans (A.mono (by simp)));have m1:=(t.o.cell (p:=⟨pl,0,none⟩) C).trans j1;have m2:=(t.o.cell (p:=⟨g,2,none⟩) jg).trans W;have ar:=Nat.lt_of_lt_of_le C t.o.size;have a5:=Nat.lt_of_lt_of_le jg t.o.size;have cu:(w7.alloc (.cells #[.int .i64 0,.int .u8 0,.int .u8 0,.int .u8 0,.int .u8 0,.int .u8 0,.int .u8 0,.int .u8 0,.int .u8 0] 145)).cell? ⟨pl,0,none⟩=some (.pointer (some ⟨g,0,none⟩)):=((Qa w7 _).cell (p:=⟨pl,0,none⟩) ar).trans m1;have cs:(w7.alloc (.cells #[.int .i64 0,.int .u8 0,.int .u8 0,.int .u8 0,.int .u8 0,.int .u8 0,.int .u8 0,.int .u8 0,.int .u8 0] 145)).cell? ⟨g,2,none⟩=some (.slice ae ln ce):=((Qa w7 _).cell (p:=⟨g,2,none⟩) a5).trans m2;have N:=zh (TrAt.below (show TrAt (wr.drew.alloc (.cells (trC 0 zero8) 145)) wr.heap.size 0 zero8 from heap_alloc_new wr.drew _) A);have ⟨n0,n1,n2,n3,n4,n5,n6,n7,n8⟩:=N.o.cells;have nf:=(fun i=>Qs N.o i:∀ i,w7.frozen? ⟨wr.heap.size,i,none⟩=false);have nb:=Qc N.o;clear A))
       all_goals (
        go_wp2_with fail
        go_meet
        show ∃ q6,_∧Aside (TrAt _ q6 ln (rootOf L.entries))∧Aside (Below wr.heap.size wr _)∧wr.heap.size≤q6
        first
         | (
           refine⟨w7.heap.size,rfl,?_,?_,t.o.size⟩
           ·show TrAt _ _ _ _
            generalize rootOf L.entries=rt
            exact heap_alloc_new w7 _
           ·show Below _ _ _
            exact t.o.alloc t.o.size _)
         | (
           refine⟨wr.heap.size,rfl,?_,?_,Nat.le_refl _⟩
           ·show TrAt _ _ _ _
            generalize rootOf L.entries=rt
            exact Q2z N.o ln rt
           ·show Below _ _ _
            generalize rootOf L.entries=rt
            exact t.o.trans ((Q3e w7 wr.heap.size ln rt).below t.o.size fun k hk e=>by omega)))
      case rest=>
       obtain⟨q6,rfl,ep,c7,e2⟩:=hcut;have cn:=HP.o.below c7.o;have db:=HV.o.below c7.o;obtain⟨rt,a8⟩:∃ rt,rt=rootOf L.entries:=⟨_,rfl⟩
       have de:TrAt wc q6 ln rt:=by rw[a8];exact ep.o
       have S:=cn.below (Qn wc);have bg:=db.below (Qn wc);have bi:=de.below (Qn wc);obtain⟨cp,bt⟩:∃ cp,cp=cpOf L.entries L.key:=⟨_,rfl⟩
       have b7:=Qq7 ln rt L.key wc.drew (by omega) hkey (HE.o.step S.fr S.subw).num;rw[show sOf (Qao ln rt L.key.data.toList)=cp by rw[bt,a8,cd.o];rfl] at b7;have az:∀ k,dkS gd v1 k→k<wr.heap.size:=fun k hk=>Qla HP.o.log HP.o.disk (.inl hk)
       have a1:¬ dkS gd v1 pl:=fun hk=>HP.o.o (b:=pl) (by have:=s.o;omega) (by omega) (.inl hk)
       have dm:=Qwt bc hc (by have:=Qa3 hn;have:=y.o;omega);have dk:=Qwt b3 bq.o (by have:=Qa3 hn;have:=y.o;omega);have en:=zh b7;have ej:=zh S;have d0:=zh bg;have ec:=zh bi;have dw:=zh az;have e4:=zh a1;have c6:=zh bt;have b2:w.heap.size≤pl:=by rw[s.o];exact Nat.le_refl _
       have T:w.heap.size≤pl+1:=Nat.le_succ_of_le b2;have ah:w.heap.size≤pl+1+1:=Nat.le_succ_of_le T;have dq:pl<pl+3:=by omega
       have an:pl+1<pl+3:=by omega
       have aj:pl+1+1<pl+3:=by omega
       have dt:¬ dkS gd v1 q6:=fun hk=>by have:=dw.o q6 hk;omega
       have za:=(bg).cells.1;have zb:=(S.log).heads.1.1;have zc:=(S.log).heads.1.2.1;have ⟨z0,z1,z2,z3,z4,z5,z6,z7,z8⟩:=(bi).cells;clear cn db de S bg bi bt a8 b7 az a1
       go_upto_region 13 with fail
       go_cut [7] from 62 to 75 (fun s7 wx=>∃ v2,Aside (Pk w (pl+3) g gd v (.slice ae L.entries.length ce) vl vp vs L v2 af (Qb6 d1 (sOf kCp) cp) ps wx)∧Aside (Vars wx g pl 0 .nilIface)∧wx.cell? ⟨q6,0,none⟩=some (.int .i64 ln)∧Aside (∃ bs,w.heap.size≤bs∧Qcr wx bs (decide (0<Zv d1)) s7))
       case first=>
        rw[Q59]
        go_region_held3 (fun w'=>w'.cell? ⟨pl,0,none⟩=some (.pointer (some ⟨g,0,none⟩))∧w'.cell? ⟨g,0,none⟩=some (.iface 50 (.pointer (some ⟨gd,0,none⟩)))∧w'.cell? ⟨g,1,none⟩=some (.string L.key)∧w'.cell? ⟨q6,0,none⟩=some (.int .i64 ln)∧w'.cell? ⟨q6,1,none⟩=some (bv rt[0])∧w'.cell? ⟨q6,2,none⟩=some (bv rt[1])∧w'.cell? ⟨q6,3,none⟩=some (bv rt[2])∧w'.cell? ⟨q6,4,none⟩=some (bv rt[3])∧w'.cell? ⟨q6,5,none⟩=some (bv rt[4])∧w'.cell? ⟨q6,6,none⟩=some (bv rt[5])∧w'.cell? ⟨q6,7,none⟩=some (bv rt[6])∧w'.cell? ⟨q6,8,none⟩=some (bv rt[7])) (first|with_reducible exact⟨za,zb,zc,z0,z1,z2,z3,z4,z5,z6,z7,z8⟩|with_reducible exact⟨ya,yb,yc,y0,y1,y2,y3,y4,y5,y6,y7,y8⟩|with_reducible exact⟨xa,xb,xc,x0,x1,x2,x3,x4,x5,x6,x7,x8⟩|with_reducible exact⟨va,vb,vc,v0,v1',v2',v3',v4',v5',v6',v7',v8'⟩) (first|(go_at_call 159;refine en.o.mono ?_;rintro e w7 ⟨rfl,A⟩;have b1:=zh (ej.o.below A);have c2:=zh (d0.o.below A);have N:=zh (ec.o.below A);have ya:=(c2.o).cells.1;have yb:=(b1.o.log).heads.1.1;have yc:=(b1.o.log).heads.1.2.1;have ⟨y0,y1,y2,y3,y4,y5,y6,y7,y8⟩:=(N.o).cells;obtain⟨b8,c8,w8,e0,dc,a3⟩:=Q91 w7 cp;have D:=zh (b1.o.below a3);have aq:=zh (c2.o.below a3);have cv:=zh (N.o.below a3);have eg:=zh dc;have xa:=(aq.o).cells.1;have xb:=(D.o.log).heads.1.1;have xc:=(D.o.log).heads.1.2.1;have ⟨x0,x1,x2,x3,x4,x5,x6,x7,x8⟩:=(cv.o).cells;clear A a3 dc)|(go_at_call 301;refine (Q6q w8 gd v1 d1 D.o.disk (sOf kCp) _ _ eg.o.at (Nat.lt_trans dm (by decide)) (Nat.lt_trans dk (by decide))).mono ?_;rintro e w9 ⟨u,rfl,a4,v2,b0,O,cx⟩;rw[show (ByteArray.mk cp.data.toList.toArray)=cp from Qag cp] at b0;have ea:=zh a4;have b9:=zh (D.o.write (D.o.wk.put b0 O cx (Nat.le_refl _)));have cm:=zh (⟨O.heap aq.o.l (fun hk=>D.o.o (b:=pl) b2 dq (.inl hk)),O.heap aq.o.n (fun hk=>D.o.o (b:=pl+1) T an (.inl hk)),O.heap aq.o.e (fun hk=>D.o.o (b:=pl+1+1) ah aj (.inl hk))⟩:Vars w9 g pl 0 .nilIface);have eu:=zh (show TrAt w9 q6 ln rt from O.heap cv.o dt);have e6:=zh O;have va:=cm.o.cells.1;have vb:=b9.o.log.heads.1.1;have vc:=b9.o.log.heads.1.2.1;have ⟨v0,v1',v2',v3',v4',v5',v6',v7',v8'⟩:=eu.o.cells;clear a4 b0 O cx))
        all_goals (
         go_wp2_with fail
         go_meet
         have d9:w.heap.size≤w8.heap.size:=D.o.fr.size
         exact⟨v2,b9.o,cm.o,v0,⟨w8.heap.size,d9,ea.o⟩⟩)
       case rest=>
        obtain⟨v2,cc,I,dn,cq⟩:=hcut;have B:=cq.o;obtain⟨bs,ax,B⟩:=B;obtain⟨y1,y2,y3,e1,e3⟩:=I.o.cells;have e9:=Qk dn;have ya:=Qc I.o.l;have yb:=Qc I.o.n;have yc:=Qc I.o.e;clear cq;rcases Nat.eq_zero_or_pos (Zv d1) with h0|h0
        ·have d3:u7=.nilIface:=by unfold Qcr at B;rw[if_neg (by simp[h0])] at B;exact B
         subst d3;have du:=Y3 wc;clear B
         go_wp2_with fail
         have z:=(cc.o.var (b:=pl+1) T an I.o.n (by decide) (Fr.set1 wc (pl+1) 0 (.int .i64 ln))).var (b:=pl+1+1) ah aj (I.o.num ln).e (by decide) (Fr.set1 (wc.setCell ⟨pl+1,0,none⟩ (.int .i64 ln)) (pl+1+1) 0 .nilIface);have P:=(I.o.num ln).err .nilIface;have hQ:pubD L.entries L.key L.put d=(Qb6 d1 (sOf kCp) cp,ps,none):=by unfold pubD;rw[bn.o,c6.o];simp[h0]
         have dj:Vars ((wc.setCell ⟨pl+1,0,none⟩ (.int .i64 ln)).setCell ⟨pl+1+1,0,none⟩ .nilIface) g pl (L.entries.length:Int) .nilIface:=by
          have e:(L.entries.length:Int)=(ln:Int):=by rw[cd.o]
          rw[e];exact P
         exact Qpv z dj a2.o hQ rfl rfl
        ·have a4:Ql2 wc bs u7:=by unfold Qcr at B;rw[if_pos (by simpa using h0)] at B;exact B
         obtain⟨q,nn,rfl,hq,hh⟩:=a4;have du:=Qax wc 218 (.pointer (some ⟨q,0,none⟩));have HH:=zh hh;clear B hh
         go_wp2_with (go_at_call 160;refine (Qot _ _ _ _).mono ?_;rintro e wA ⟨u,rfl,⟨r,rfl,hr,Z⟩,a0⟩;have HR:=zh Z;have d2:=zh a0;have et:=zh (cc.o.below a0);have G:=zh (I.o.below a0);have ⟨t1,t2,t3,tf2,tf3⟩:=G.o.cells;clear Z a0)
         have z:=(et.o.var (b:=pl+1) T an G.o.n (by decide) (Fr.set1 wA (pl+1) 0 (.int .i64 0))).var (b:=pl+1+1) ah aj (G.o.num 0).e (by decide) (Fr.set1 (wA.setCell ⟨pl+1,0,none⟩ (.int .i64 0)) (pl+1+1) 0 (.iface 219 (.pointer (some ⟨r,0,none⟩))));have P:=(G.o.num 0).err (.iface 219 (.pointer (some ⟨r,0,none⟩)));have hQ:pubD L.entries L.key L.put d=(Qb6 d1 (sOf kCp) cp,ps,some (sOf kCp)):=by unfold pubD;rw[bn.o,c6.o];simp[h0]
         have ca:wA.heap[q]?=some (.cells #[.int .i64 nn] 398 (0,0)):=(d2.o.block _ (Qc HH.o)).trans HH.o;have br:wA.heap[r]?=some (.cells #[.string (sOf kCp),.iface 218 (.pointer (some ⟨q,0,none⟩))] 221 (0,0)):=HR.o;have Y:=(Fr.set1 wA (pl+1) 0 (.int .i64 0)).heap ca fun e=>by subst e;have:=G.o.n;rw[ca] at this;simp at this
         have ag:=(Fr.set1 (wA.setCell ⟨pl+1,0,none⟩ (.int .i64 0)) (pl+1+1) 0 (.iface 219 (.pointer (some ⟨r,0,none⟩)))).heap Y fun e=>by subst e;have:=G.o.e;rw[ca] at this;simp at this
         have ad:=(Fr.set1 wA (pl+1) 0 (.int .i64 0)).heap br fun e=>by subst e;have:=G.o.n;rw[br] at this;simp at this
         have ac:=(Fr.set1 (wA.setCell ⟨pl+1,0,none⟩ (.int .i64 0)) (pl+1+1) 0 (.iface 219 (.pointer (some ⟨r,0,none⟩)))).heap ad fun e=>by subst e;have:=G.o.e;rw[br] at this;simp at this
         have dx:w.heap.size≤wc.heap.size:=cc.o.fr.size;exact Qfy z P s.o hg (Nat.le_trans dx hr) (Nat.le_trans ax hq) ag ac a2.o hQ rfl rfl
    ·have eo:=Qj9 wr 219 (.pointer (some ⟨r,0,none⟩))
     have ez:=Qax wr 219 (.pointer (some ⟨r,0,none⟩));have HJ:=zh hJ;have HU:=zh cz;have HR:=zh Z;clear hJ cz Z;by_cases hlt:k<nl
     ·have am:(k:Int)<(nl:Int):=by omega
      go_upto_region 11 with fail
      go_region
      all_goals (
       go_wp2
       have z:=((HP.o.var (b:=pl+1) (by have:=s.o;omega) (by omega) HV.o.n (by decide) (Fr.set1 wr (pl+1) 0 (.int .i64 0))).var (b:=pl+1+1) (by have:=s.o;omega) (by omega) (HV.o.num 0).e (by decide) (Fr.set1 (wr.setCell ⟨pl+1,0,none⟩ (.int .i64 0)) (pl+1+1) 0 (.iface 219 (.pointer (some ⟨r,0,none⟩))))).below (Qn _)
       have P:=((HV.o.num 0).err (.iface 219 (.pointer (some ⟨r,0,none⟩)))).below (Qn _)
       have Y:=(Fr.set1 wr (pl+1) 0 (.int .i64 0)).heap HU.o fun e=>by subst e;have:=HV.o.n;rw[HU.o] at this;simp at this
       have ag:=(Fr.set1 (wr.setCell ⟨pl+1,0,none⟩ (.int .i64 0)) (pl+1+1) 0 (.iface 219 (.pointer (some ⟨r,0,none⟩)))).heap Y fun e=>by subst e;have:=HV.o.e;rw[HU.o] at this;simp at this
       have ad:=(Fr.set1 wr (pl+1) 0 (.int .i64 0)).heap HR.o fun e=>by subst e;have:=HV.o.n;rw[HR.o] at this;simp at this
       have ac:=(Fr.set1 (wr.setCell ⟨pl+1,0,none⟩ (.int .i64 0)) (pl+1+1) 0 (.iface 219 (.pointer (some ⟨r,0,none⟩)))).heap ad fun e=>by subst e;have:=HV.o.e;rw[HR.o] at this;simp at this
       exact Qfy z P s.o hg hr hu ag ac a2.o (by unfold pubD;rw[HJ.o]) rfl rfl)
     ·have am:¬ (k:Int)<(nl:Int):=by omega
      go_upto_region 11 with fail
      go_region
      all_goals (
       go_wp2
       have z:=((HP.o.var (b:=pl+1) (by have:=s.o;omega) (by omega) HV.o.n (by decide) (Fr.set1 wr (pl+1) 0 (.int .i64 0))).var (b:=pl+1+1) (by have:=s.o;omega) (by omega) (HV.o.num 0).e (by decide) (Fr.set1 (wr.setCell ⟨pl+1,0,none⟩ (.int .i64 0)) (pl+1+1) 0 (.iface 219 (.pointer (some ⟨r,0,none⟩))))).below (Qn _)
       have P:=((HV.o.num 0).err (.iface 219 (.pointer (some ⟨r,0,none⟩)))).below (Qn _)
       have Y:=(Fr.set1 wr (pl+1) 0 (.int .i64 0)).heap HU.o fun e=>by subst e;have:=HV.o.n;rw[HU.o] at this;simp at this
       have ag:=(Fr.set1 (wr.setCell ⟨pl+1,0,none⟩ (.int .i64 0)) (pl+1+1) 0 (.iface 219 (.pointer (some ⟨r,0,none⟩)))).heap Y fun e=>by subst e;have:=HV.o.e;rw[HU.o] at this;simp at this
       have ad:=(Fr.set1 wr (pl+1) 0 (.int .i64 0)).heap HR.o fun e=>by subst e;have:=HV.o.n;rw[HR.o] at this;simp at this
       have ac:=(Fr.set1 (wr.setCell ⟨pl+1,0,none⟩ (.int .i64 0)) (pl+1+1) 0 (.iface 219 (.pointer (some ⟨r,0,none⟩)))).heap ad fun e=>by subst e;have:=HV.o.e;rw[HR.o] at this;simp at this
       exact Qfy z P s.o hg hr hu ag ac a2.o (by unfold pubD;rw[HJ.o]) rfl rfl)
end
end
section
def PlIs (w:World) (gl g:Nat):Prop:=w.heap[gl]?=some (.cells #[.pointer (some ⟨g,0,none⟩)] 187 (0,0))
def Qp2 (w:World) (gd:Nat) (v:Value) (d:Dk) (key:ByteArray) (B:Nat) (e:Ending) (w':World):Prop:=
 ∃ d',Q1 w' gd v d'∧Fr (·=gd) w w'∧
  ((∃ p,Hurt B d d'∧e=.returned (.tuple #[.pointer none,Qaa 8 p]))∨
     (∃ (k:Nat) (p:ByteArray),Calm B d d'∧Yh d.files key (.bad k p)∧e=.returned (.tuple #[.pointer none,Qaa k p]))∨
     (∃ es n gl g,Calm B d d'∧Yh d.files key (.good es n)∧e=.returned (.tuple #[.pointer (some ⟨gl,0,none⟩),Qaa 0 ⟨#[]⟩])∧PlIs w' gl g∧w.heap.size≤gl∧Qhi w gd key es g w'))
variable {w w1 w2:World} {gd g:Nat} {key:ByteArray} {es:List (List UInt8)}
theorem Qhi.kept {S:Nat→Prop} {ts:List TypeId} (h:Qhi w gd key es g w1) (hf:Fr S w1 w2) (hS:Qa0 w1 S ts) (h1:∀ t∈Q0r,t ∉ ts) (h2:5 ∉ ts):Qhi w gd key es g w2:=by obtain⟨ve,vl,vs,a,b,c⟩:=h;exact⟨ve,vl,vs,a.kept hf hS h1 h2,b,c⟩
theorem Qhi.below (h:Qhi w gd key es g w1) (hb:Below w1.heap.size w1 w2):Qhi w gd key es g w2:=by obtain⟨ve,vl,vs,a,b,c⟩:=h;exact⟨ve,vl,vs,a.below hb,b,c⟩
theorem Qiy {w0 w3:World} {v:Value} {d':Dk} (hw0:w0=w.alloc (.cells #[.int .i64 0,.string ⟨#[]⟩] 63)) (hD:Q1 w1 gd v d') (hF:Fr (·=gd) w0 w1) (hg:gd<w.heap.size) (hk:Qa0 w0 (·=gd) [116]) (h2:Below w1.heap.size w1 w2) :
  Zr w2 w.heap.size 0 ⟨#[]⟩∧∀ n s,w3=(w2.setCell ⟨w.heap.size,0,none⟩ (.int .i64 n)).setCell ⟨w.heap.size,1,none⟩ (.string s)→Q1 w3 gd v d'∧Fr (·=gd) w w3∧Fr (·=w.heap.size) w2 w3∧Qa0 w2 (·=w.heap.size) [63]:=by
 have t0:Zr w0 w.heap.size 0 ⟨#[]⟩:=by rw[hw0];exact Qc6 w
 have t1:Zr w1 w.heap.size 0 ⟨#[]⟩:=t0.kept hF hk (by decide);have t2:=t1.below h2;refine⟨t2,fun n s e=>?_⟩;have ts:=Qc2 (m:=n) (t:=s) t2;rw[←e] at ts;have a:=Q5 t2;refine⟨(hD.below h2).kept ts.2 a (by decide) (by decide),?_,ts.2,a⟩;have b:Fr (·=gd) w w0:=by rw[hw0];exact Fr.ofBelow (Qa w _)
 exact (b.trans (hF.trans (Fr.ofBelow h2))).step ts.2 fun k hk e=>by subst e;omega
theorem Q1r (f:Nat→Addr) (w:World) (gd:Nat) (v:Value) (d:Dk) (key:ByteArray) (hD:Q1 w gd v d) (N:Nat) (hE:EnvS f (·=gd) w) (hN:FewB d.files N) (hN2:N≤262144) (hc:d.calls<900000000000) (hsz:∀ b∈d.files,b.2.size≤1048576) (hkey:key.size≤9223372036854775807) :
  Calls prog 73 #[.pointer (some ⟨gd,0,none⟩),.string key] w (Qp2 w gd v d key (8*N+16)):=by
 obtain⟨w0,z⟩:∃ w0,w0=w.alloc (.cells #[.int .i64 0,.string ⟨#[]⟩] 63):=⟨_,rfl⟩
 have B:Below w.heap.size w w0:=by rw[z];exact Qa w _
 have E:=hE.below B;have D:=hD.below B;have hg:=hD.lt;have C:w.heap.size≤w0.heap.size:=B.size;have HK:=zh (Q5 D.1);have HE:=zh E;have HC:=zh (Qz6 f w0 gd v d key D N E hN hN2 hc hsz hkey);have y:=zh z;clear hD hE E D hN hsz B
 go_enter func73,ntmps73
 go_wp2_with fail
 rw[←z];clear z
 go_at_call 119
 refine HC.o.mono ?_;rintro e w1 ⟨d',G,A,h⟩;have HD:=zh G;have HF:=zh A;have H:=HE.o.fr A;have x:=zh H;have I:=A.size;clear G A H;rcases h with ⟨q,m,r,p,h1,rfl,_,_,h2,h3⟩|⟨h1,h2,rfl⟩|⟨h1,h2,rfl⟩|⟨p,r,h1,h2,rfl,_,h3⟩|⟨es,n,g,h1,h2,rfl,h3⟩
 ·have HX:=zh (Q62 f w1 x.o.sents x.o.errT r q p h3)
  have H1:=zh h1;clear h1 h2 h3
  go_wp2_with (go_at_call 87;refine HX.o.mono ?_;rintro e w2 ⟨rfl,j⟩;have t:=zh j;clear j;obtain⟨l,s⟩:=Qiy (w3:=(w2.setCell ⟨w.heap.size,0,none⟩ (.int .i64 8)).setCell ⟨w.heap.size,1,none⟩ (.string p)) y.o HD.o HF.o hg HK.o t.o;have i:=zh (s 8 p rfl);obtain⟨t0,t1,t2,t3,t4⟩:=l.facts;clear l s)
  refine bodyPost_ret (v:=.tuple #[.pointer none,Qaa 8 p]) (by simp[results,results73,go_sem,t0,t1]) rfl ⟨d',i.o.1,i.o.2.1,.inl ⟨p,H1.o,rfl⟩⟩
 ·have u:=Qjo f w1 x.o.sents 2 (by decide) (by decide)
  rw[show ((Qcz 2:Nat):Int)=3 from rfl] at u;have HX:=zh u;clear u;have H1:=zh h1;have H2:=zh h2;clear h1 h2
  go_wp2_with (go_at_call 87;refine HX.o.mono ?_;rintro e w2 ⟨rfl,j⟩;have t:=zh j;clear j;obtain⟨l,s⟩:=Qiy (w3:=(w2.setCell ⟨w.heap.size,0,none⟩ (.int .i64 3)).setCell ⟨w.heap.size,1,none⟩ (.string ⟨#[]⟩)) y.o HD.o HF.o hg HK.o t.o;have i:=zh (s 3 _ rfl);obtain⟨t0,t1,t2,t3,t4⟩:=l.facts;clear l s)
  refine bodyPost_ret (v:=.tuple #[.pointer none,Qaa 3 ⟨#[]⟩]) (by simp[results,results73,go_sem,t0,t1]) rfl ⟨d',i.o.1,i.o.2.1,.inr (.inl ⟨3,_,H1.o,H2.o,rfl⟩)⟩
 ·have u:=Qjo f w1 x.o.sents 4 (by decide) (by decide)
  rw[show ((Qcz 4:Nat):Int)=5 from rfl] at u;have HX:=zh u;clear u;have H1:=zh h1;have H2:=zh h2;clear h1 h2
  go_wp2_with (go_at_call 87;refine HX.o.mono ?_;rintro e w2 ⟨rfl,j⟩;have t:=zh j;clear j;obtain⟨l,s⟩:=Qiy (w3:=(w2.setCell ⟨w.heap.size,0,none⟩ (.int .i64 5)).setCell ⟨w.heap.size,1,none⟩ (.string ⟨#[]⟩)) y.o HD.o HF.o hg HK.o t.o;have i:=zh (s 5 _ rfl);obtain⟨t0,t1,t2,t3,t4⟩:=l.facts;clear l s)
  refine bodyPost_ret (v:=.tuple #[.pointer none,Qaa 5 ⟨#[]⟩]) (by simp[results,results73,go_sem,t0,t1]) rfl ⟨d',i.o.1,i.o.2.1,.inr (.inl ⟨5,_,H1.o,H2.o,rfl⟩)⟩
 ·have HX:=zh (Q1n f w1 x.o.sents r p h3)
  have H1:=zh h1;have H2:=zh h2;clear h1 h2 h3
  go_wp2_with (go_at_call 87;refine HX.o.mono ?_;rintro e w2 ⟨rfl,j⟩;have t:=zh j;clear j;obtain⟨l,s⟩:=Qiy (w3:=(w2.setCell ⟨w.heap.size,0,none⟩ (.int .i64 6)).setCell ⟨w.heap.size,1,none⟩ (.string p)) y.o HD.o HF.o hg HK.o t.o;have i:=zh (s 6 p rfl);obtain⟨t0,t1,t2,t3,t4⟩:=l.facts;clear l s)
  refine bodyPost_ret (v:=.tuple #[.pointer none,Qaa 6 p]) (by simp[results,results73,go_sem,t0,t1]) rfl ⟨d',i.o.1,i.o.2.1,.inr (.inl ⟨6,_,H1.o,H2.o,rfl⟩)⟩
 ·have HX:=fun w2 (hb:Below w1.heap.size w1 w2)=>Qvy f w2 (x.o.below hb).sents
  have HX:=zh HX;have H1:=zh h1;have H2:=zh h2;have H3:=zh h3;clear h1 h2 h3
  go_wp2_with (go_at_call 87;refine (HX.o _ (Qa w1 _)).mono ?_;rintro e w2 ⟨rfl,j⟩;have t:=zh j;have F:=zh ((Qa w1 (.cells #[.pointer (some ⟨g,0,none⟩)] 187)).trans (j.mono (by simp)));clear j;obtain⟨l,s⟩:=Qiy (w3:=(w2.setCell ⟨w.heap.size,0,none⟩ (.int .i64 0)).setCell ⟨w.heap.size,1,none⟩ (.string ⟨#[]⟩)) y.o HD.o HF.o hg HK.o F.o;have i:=zh (s 0 _ rfl);obtain⟨t0,t1,t2,t3,t4⟩:=l.facts;clear l s)
  refine bodyPost_ret (v:=.tuple #[.pointer (some ⟨w1.heap.size,0,none⟩),Qaa 0 ⟨#[]⟩]) (by simp[results,results73,go_sem,t0,t1]) rfl ⟨d',i.o.1,i.o.2.1,.inr (.inr ⟨es,n,w1.heap.size,g,H1.o,H2.o,rfl,?_,Nat.le_trans C I,?_⟩)⟩
  ·have hp:PlIs w2 w1.heap.size g:=(t.o.block _ (by simp)).trans (heap_alloc_new w1 _)
   exact Zl hp i.o.2.2.1 i.o.2.2.2 (by decide)
  ·obtain⟨ve,vl,vs,a,b,c⟩:=(H3.o.below F.o).kept i.o.2.2.1 i.o.2.2.2 (by decide) (by decide)
   exact⟨ve,vl,vs,a,Nat.le_trans C b,fun k hk=>Nat.le_trans C (c k hk)⟩
theorem Q1d (w:World) (gl g gd:Nat) (ve vl vp:Value) (vs:List Value) (L:Lg) (hp:PlIs w gl g) (h:Zq w g gd ve vl vp vs L) :
  Calls prog 74 #[.pointer (some ⟨gl,0,none⟩)] w fun e w'=>e=.returned (.int .i64 L.entries.length)∧w=w':=by
 have c0:=Qd hp 0 rfl;have HC:=zh (Qxq w g gd ve vl vp vs L h);clear hp h
 go_enter func74,ntmps74
 go_wp2_with (go_at_call 125;refine HC.o.mono ?_;rintro e w' ⟨rfl,rfl⟩)
 go_ret;exact⟨rfl,rfl⟩
end
section
structure Pl where
 gw:Nat
 gd:Nat
 v:Value
 en:Value
 gl:Nat
 g:Nat
 ve:Value
 vl:Value
 vp:Value
 vs:List Value
def plV (p:Pl):Option Lg→Value
 | none=>.pointer none
 | some _=>.pointer (some ⟨p.gl,0,none⟩)
def Qdp (p:Pl) (m:Wm):Array Value:=#[.pointer (some ⟨p.gd,0,none⟩),.string m.key,plV p m.l,p.en,.int .i64 m.pub,.bool m.failed,.bool m.foreign]
structure WdIs (w:World) (p:Pl) (m:Wm):Prop where
 cells:w.heap[p.gw]?=some (.cells (Qdp p m) 53 (0,0))
 disk:Q1 w p.gd p.v m.d
 ents:Q0 w 0 p.en m.es
 log:∀ L,m.l=some L→PlIs w p.gl p.g∧Zq w p.g p.gd p.ve p.vl p.vp p.vs L
def WdS (p:Pl) (m:Wm) (k:Nat):Prop:=k=p.gw∨dkS p.gd p.v k∨p.en.ownBlock=some k∨(m.l.isSome=true∧(k=p.gl∨LogS p.g p.ve p.vl p.vp p.vs k))
variable {w w':World} {p:Pl} {m:Wm}
theorem WdIs.below (h:WdIs w p m) (hb:Below w.heap.size w w'):WdIs w' p m where
 cells:=(hb.block _ (Qc h.cells)).trans h.cells
 disk:=h.disk.below hb
 ents:=Ql h.ents hb
 log L hL:=⟨(hb.block _ (Qc (h.log L hL).1)).trans (h.log L hL).1,(h.log L hL).2.below hb⟩
theorem WdIs.heads (h:WdIs w p m) :
  (w.cell? ⟨p.gw,0,none⟩=some (.pointer (some ⟨p.gd,0,none⟩))∧w.cell? ⟨p.gw,1,none⟩=some (.string m.key)∧w.cell? ⟨p.gw,2,none⟩=some (plV p m.l)∧w.cell? ⟨p.gw,3,none⟩=some p.en∧w.cell? ⟨p.gw,4,none⟩=some (.int .i64 m.pub)∧
   w.cell? ⟨p.gw,5,none⟩=some (.bool m.failed)∧w.cell? ⟨p.gw,6,none⟩=some (.bool m.foreign))∧∀ i,w.frozen? ⟨p.gw,i,none⟩=false:=
 ⟨⟨Qd h.cells 0 rfl,Qd h.cells 1 rfl,Qd h.cells 2 rfl,Qd h.cells 3 rfl,Qd h.cells 4 rfl,Qd h.cells 5 rfl,Qd h.cells 6 rfl⟩,fun i=>Qs h.cells i⟩
variable {v':Value} {d':Dk}
theorem WdIs.diskStep (h:WdIs w p m) (hd:Q1 w' p.gd v' d') (hf:Fr (dkS p.gd p.v) w w'):WdIs w' { p with v:=v' } { m with d:=d' } where
 cells:=Zl h.cells hf (Qcc h.disk) (by decide)
 disk:=hd
 ents:=Zk h.ents hf (Qcc h.disk) (by decide)
 log L hL:=⟨Zl (h.log L hL).1 hf (Qcc h.disk) (by decide),(h.log L hL).2.kept hf (Qcc h.disk) (by decide) (by decide)⟩
theorem Q96 {g:Nat} {v:Value} (h:Fr (·=g) w w'):Fr (dkS g v) w w':=h.weak fun _ _ e=>.inl e
variable {m':Wm}
theorem WdIs.ownStep {p':Pl} (h:WdIs w p m) (hf:Fr (·=p.gw) w w') (hc:w'.heap[p.gw]?=some (.cells (Qdp p' m') 53 (0,0)))
  (hp:p'.gw=p.gw∧p'.gd=p.gd∧p'.v=p.v∧m'.d=m.d) (he:Q0 w 0 p'.en m'.es) (hl:∀ L,m'.l=some L→PlIs w p'.gl p'.g∧Zq w p'.g p'.gd p'.ve p'.vl p'.vp p'.vs L):WdIs w' p' m' where
 cells:=by rw[hp.1];exact hc
 disk:=by rw[hp.2.1,hp.2.2.1,hp.2.2.2];exact h.disk.kept hf (Q5 h.cells) (by decide) (by decide)
 ents:=Zk he hf (Q5 h.cells) (by decide)
 log L hL:=⟨Zl (hl L hL).1 hf (Q5 h.cells) (by decide),(hl L hL).2.kept hf (Q5 h.cells) (by decide) (by decide)⟩
variable {ve' vl' vp':Value} {vs':List Value}
theorem WdIs.bothStep {L L':Lg} (h:WdIs w p m) (hL:m.l=some L) (hd:Q1 w' p.gd v' d') (hl:Zq w' p.g p.gd ve' vl' vp' vs' L') (hf:Fr (Jz p.g p.gd p.v p.ve p.vl p.vp p.vs) w w') :
  WdIs w' { p with v:=v',ve:=ve',vl:=vl',vp:=vp',vs:=vs' } { m with d:=d',l:=some L' }:=by
 have hk:Qa0 w (Jz p.g p.gd p.v p.ve p.vl p.vp p.vs) _:=(Qcc h.disk).or (Qga (h.log L hL).2);refine⟨?_,hd,Zk h.ents hf hk (by decide),fun L2 hL2=>?_⟩
 ·have h1:=Zl h.cells hf hk (by decide)
  rw[h1];unfold Qdp;rw[hL];rfl
 ·cases hL2
  exact⟨Zl (h.log L hL).1 hf hk (by decide),hl⟩
theorem Q42 (h:Sub w (Jz p.g p.gd p.v p.ve p.vl p.vp p.vs) (Jz p.g p.gd v' ve' vl' vp' vs')) (hm:m.l.isSome=true):Sub w (WdS p m) (WdS { p with v:=v',ve:=ve',vl:=vl',vp:=vp',vs:=vs' } m'):=fun k hk=>by
 rcases hk with hk|hk|hk|⟨_,hk|hk⟩
 ·exact .inl (.inl hk)
 ·rcases h k (.inl hk) with (h1|h1)|h1
  ·exact .inl (.inr (.inl h1))
  ·exact .inl (.inr (.inr (.inr ⟨hm,.inr h1⟩)))
  ·exact .inr h1
 ·exact .inl (.inr (.inr (.inl hk)))
 ·exact .inl (.inr (.inr (.inr ⟨hm,.inl hk⟩)))
 ·rcases h k (.inr hk) with (h1|h1)|h1
  ·exact .inl (.inr (.inl h1))
  ·exact .inl (.inr (.inr (.inr ⟨hm,.inr h1⟩)))
  ·exact .inr h1
theorem Q12 (hm:m.l.isSome=true) {k:Nat} (hk:Jz p.g p.gd p.v p.ve p.vl p.vp p.vs k):WdS p m k:=by
 rcases hk with hk|hk
 ·exact .inr (.inl hk)
 ·exact .inr (.inr (.inr ⟨hm,.inr hk⟩))
end
section
theorem Yf (w:World) (va:Value) (l:List (ByteArray×ByteArray)) (p:ByteArray) (h:Jv w va l) (hn:l.length≤1099511627776) :
  Calls prog 27 #[va,.string p] w fun e w'=>e=.returned (.int .i64 (Jc l p))∧w=w':=by
 obtain⟨a,c,rfl,hc,hx⟩:=h;have HX:=zh hx;clear hx
 go_enter func27,ntmps27
 go_wp2
 go_loopg [5] l.length (fun gg s5 wr=>∃ kk:Nat,kk≤l.length∧l.length-kk≤gg∧s5=.int .i64 kk∧w=wr∧Aside (∀ j,j<kk→∀ y,l[j]?=some y→¬ y.1=p))
 case atStart=>
  refine⟨0,Nat.zero_le _,by omega,rfl,rfl,?_⟩;show ∀ j,j<0→_;intro j hj;omega
 case round=>
  obtain⟨kk,m,hg,rfl,rfl,HM⟩:=hrel;by_cases hlt:kk<l.length
  ·obtain⟨x,hx⟩:∃ x,x=l[kk]:=⟨_,rfl⟩
   have d:l[kk]?=some x:=by rw[hx,List.getElem?_eq_getElem hlt]
   obtain⟨b,off,rfl,c1,_⟩:=HX.o kk x d;have hb:b<w.heap.size:=Qk c1;have i:(kk:Int)<(l.length:Int):=by omega
   have k:(0:Int)≤(kk:Int):=by omega
   have f:=zh d;clear hx d;by_cases he:x.1=p
   ·have e:(x.1.toList == p.toList)=true:=Jp he
    have HE:=zh he;clear he;go_wp2;go_ret;exact⟨Qbk (by rw[Qnf f.o HE.o HM.o];rfl),rfl⟩
   ·have e:(x.1.toList == p.toList)=false:=Y9 he
    have HE:=zh he;clear he;go_wp2
    go_roundg (l.length-(kk+1))
    case measure=>omega
    case rel=>
     refine⟨kk+1,by omega,by omega,by go_num,rfl,?_⟩;show ∀ j,j<kk+1→_;intro j hj y hy;by_cases hjk:j=kk
     ·subst hjk
      rw[f.o] at hy;cases hy;exact HE.o
     ·exact HM.o j (by omega) y hy
  ·have i:¬ (kk:Int)<(l.length:Int):=by omega
   have g:kk=l.length:=by omega
   have HK:=zh g;clear g;go_wp2;go_ret;exact⟨Qbk (by rw[Qjl fun j hj y hy=>HM.o j (by have:=HK.o;omega) y hy];rfl),rfl⟩
end
section
def Qcj (w:World) (v:Value) (l:List Fil):Prop:=w.ownsRow 0 61 2 v l.length (Zg l)
theorem Zag:(prog.info? 61).map (fun i=>(i.zero,i.size,i.bytes))=some (some (.agg #[.string ⟨#[]⟩,.string ⟨#[]⟩]),2,32):=by kernel_rfl
theorem Qj4:∃ i,prog.info? 61=some i∧i.zero=some (.agg #[.string ⟨#[]⟩,.string ⟨#[]⟩])∧i.size=2∧i.bytes=32:=by
 have h:=Zag;cases hi:prog.info? 61 with
 | none=>rw[hi] at h;simp at h
 | some i=>rw[hi] at h;simp at h;exact⟨i,rfl,h.1,h.2.1,h.2.2⟩
theorem Qjg (ds:List ByteArray) (k:Nat):(lists ds)[k]?=(ds[k]?).map (·.data.toList):=by simp[lists]
theorem Qrl {α:Type} (ls:List (List α)) (i k:Nat) (x:List α) (hi:i≤k) (h:ls[k]?=some x):((ls.drop i).take (k+1-i)).flatten=((ls.drop i).take (k-i)).flatten++x:=by
 have e:k+1-i=k-i+1:=by omega
 rw[e,List.take_add_one,List.getElem?_drop,show i+(k-i)=k by omega,h];simp
theorem Qww (a:List UInt8) (s:ByteArray):sOf a++s=sOf (a++s.data.toList):=by
 conv=>lhs;rw[←Qag s]
 exact Qez a _
theorem Qv0 {ds:List ByteArray} (h:∀ s∈ds,s.size≤1048576) (a i:Nat) (hi:i≤4):(sOf (((lists ds).drop a).take i).flatten).size≤4194304:=by
 rw[Qb0];have h1:=Qg4 (((lists ds).drop a).take i) 1048576 fun x hx=>by obtain⟨s,hs,rfl⟩:=List.mem_map.1 (List.mem_of_mem_drop (List.mem_of_mem_take hx));exact h s hs
 have h2:(((lists ds).drop a).take i).length≤4:=by rw[List.length_take];omega
 have:=Nat.mul_le_mul_right 1048576 h2
 omega
variable {len j m wd:Nat}
theorem Q4j (hwd:wd=min 4 (len-4*j)) (hm:m=len-4*j) (h:4<m):(4:Int)<(m:Int)∧wd=4:=by omega
theorem Q6e (hwd:wd=min 4 (len-4*j)) (hm:m=len-4*j) (h:¬ 4<m):¬ (4:Int)<(m:Int)∧m=wd:=by omega
theorem Qoc (n:Nat) (h:n≤1073741824):wrap64 (n:Int)=(n:Int):=by unfold wrap64;omega
theorem Qok (w:World) (v:Value) (l:List Fil) (h:Qcj w v l) (t:Int) (vd:Value) (ds:List ByteArray) (hd:Q0 w 0 vd ds) (hn:l.length+ds.length≤1073741824) (hsz:∀ s∈ds,s.size≤1048576) :
  Calls prog 127 #[v,.int .i64 t,vd] w fun e w'=>∃ v',e=.returned v'∧Qcj w' v' (l++Yu t (lists ds))∧Fr (fun k=>v.ownBlock=some k) w w'∧J2 w v v':=by
 obtain⟨ad,cd,rfl⟩:=Zi hd;obtain⟨a0,c0,hv⟩:=Zi h;have HH:=zh h;have HD:=zh hd;have HZ:=zh hsz;have HN:=zh hn;have HV:=zh hv;clear h hd hsz hn hv;obtain⟨i0,hi,hz,hs,Y⟩:=Qj4;have HI:=zh (⟨hi,hz,hs,Y⟩:_∧_∧_∧_);clear hi hz hs Y
 go_enter func127,ntmps127
 go_wp2
 go_loopg [0,7] (ds.length+4) (fun gg s0 s7 wr=>∃ j:Nat,4*j<ds.length+4∧ds.length+4-4*j≤gg∧s7=.int .i64 (4*(j:Int))∧∃ v1,s0=v1∧Aside (Qcj wr v1 (l++(Yu t (lists ds)).take j))∧Aside (Fr (fun k=>v.ownBlock=some k) w wr)∧Aside (J2 w v v1))
 case atStart=>
  refine⟨0,by omega,by omega,rfl,v,rfl,?_,Fr.refl _ _,J2.refl _ _⟩;show Qcj _ _ _;rw[List.take_zero,List.append_nil];exact HH.o
 case round=>
  obtain⟨j,hj,ai,rfl,v1,rfl,T,r,HM⟩:=hrel;by_cases hlt:4*j<ds.length
  ·have Z:4*(j:Int)<(ds.length:Int):=by omega
   obtain⟨wd,E⟩:∃ wd,wd=min 4 (ds.length-4*j):=⟨_,rfl⟩
   have z:wd≤4:=by omega
   have ah:0<wd:=by omega
   have ak:4*j+wd≤ds.length:=by omega
   have hq:4*(j:Int) / 4=(j:Int):=by omega
   have n:=Qck t (j:Int) (wd:Int) wr (by have:=HN.o;omega);obtain⟨p,hp⟩:∃ p,p=(Ye t (lists ds) j).1:=⟨_,rfl⟩
   have R:sOf (Y4 t (j:Int) (wd:Int))=p:=by rw[hp,E,←Q9 ds];rfl
   rw[R] at n;have Q:((lists ds).drop (4*j)).take wd=((lists ds).drop (4*j)).take 4:=by
    have hl:((lists ds).drop (4*j)).length=ds.length-4*j:=by rw[List.length_drop,Q9]
    rcases Nat.lt_or_ge (ds.length-4*j) 4 with h|h
    ·rw[List.take_of_length_le (i:=wd) (by omega),List.take_of_length_le (i:=4) (by omega)]
    ·rw[show wd=4 by omega]
   have HP:=zh hp;have A:=zh n;have W:=zh Q;obtain⟨m,hm⟩:∃ m,m=ds.length-4*j:=⟨_,rfl⟩
   have D:(ds.length:Int)-4*(j:Int)=(m:Int):=by omega
   have aj:ds.length≤1073741824:=Nat.le_trans (Nat.le_add_left _ _) HN.o;have X:=Qoc j (by clear hq n D;omega);have P:=Qoc m (by clear hq n D;omega);by_cases h4:4<m
   ·obtain⟨N,y⟩:=Q4j E hm h4
    have M:Calls prog 53 #[.int .i64 t,.int .i64 j,.int .i64 4] wr fun e w'=>e=.returned (.string p)∧Below wr.heap.size wr w':=by have h:=A.o;rw[y,show ((4:Nat):Int)=4 from rfl] at h;exact h
    have A:=zh M;have B:=zh y;clear hp R n hm E Q y M
    go_wp2_with (go_at_call 53;refine A.o.mono ?_;rintro e w2 ⟨rfl,F⟩;have d:=zh F;clear F)
    have H:=zh z;clear hq X P D N z
    go_loopg [10,11] wd (fun gg s10 s11 wx=>∃ i:Nat,i≤wd∧wd-i≤gg∧s11=.int .i64 (4*(j:Int)+(i:Int))∧s10=.string (sOf (((lists ds).drop (4*j)).take i).flatten)∧w2=wx)
    case atStart=>exact⟨0,by omega,by omega,by simp,by simp,rfl⟩
    case round=>
     obtain⟨i,hi,ab,rfl,rfl,rfl⟩:=hrel;by_cases hil:i<wd
     ·have K:4*(j:Int)+(i:Int)<4*(j:Int)+4:=by have:=B.o;omega
      have q:Q0 w2 0 (.slice ad ds.length cd) ds:=Ql (Q3 HD.o r.o fun k hk e=>by
       obtain⟨C,hC⟩:=Qe HD.o hk
       obtain⟨C',G⟩:=Qe HH.o e
       rw[hC] at G
       simp at G) d.o
      obtain⟨s,hs⟩:∃ s,ds[4*j+i]?=some s:=⟨_,List.getElem?_eq_getElem (by omega)⟩
      obtain⟨bd,rfl⟩:∃ bd,ad=some ⟨bd,0,none⟩:=by
       rcases q.2 with ⟨_,h0⟩|⟨b,cap,cur,e,_⟩
       ·omega
       ·simp at e;exact⟨b,e.1⟩
      have kc:w2.cell? ⟨bd,4*j+i,none⟩=some (.string s):=by have h1:=q.cells (g:=bd) rfl (4*j+i) (.string s) (by rw[List.getElem?_map,hs];rfl);rw[Addr.add_lit] at h1;simpa using h1
      have ae:(0:Int)≤4*(j:Int)+(i:Int):=by omega
      have ac:4*(j:Int)+(i:Int)<(ds.length:Int):=by omega
      have ag:(4*(j:Int)+(i:Int)).toNat=4*j+i:=by omega
      have u:=Qrl (lists ds) (4*j) (4*j+i) s.data.toList (by omega) (by rw[Qjg,hs];rfl);rw[show 4*j+i+1-4*j=i+1 by omega,show 4*j+i-4*j=i by omega] at u;have U:=zh u;have af:s.size≤1048576:=HZ.o s (List.mem_of_getElem? hs);have aa:=Qv0 HZ.o (4*j) i (Nat.le_trans hi H.o);clear q hs u
      go_wp2_with fail
      go_roundg (wd-(i+1))
      case measure=>omega
      case rel=>exact⟨i+1,by omega,by omega,by go_num,by rw[U.o,Qww],rfl⟩
     ·have K:¬ 4*(j:Int)+(i:Int)<4*(j:Int)+4:=by have:=B.o;omega
      have V:i=wd:=by omega
      subst V;have x:sOf (((lists ds).drop (4*j)).take i).flatten=(Ye t (lists ds) j).2:=by have e:(((lists ds).drop (4*j)).take i)=(((lists ds).drop (4*j)).take 4):=W.o;rw[e];rfl
      have c:=Ql T.o d.o;obtain⟨n1,f⟩:∃ n1,n1=(l++(Yu t (lists ds)).take j).length:=⟨_,rfl⟩
      have a:w2.ownsRow 0 61 2 u0 n1 (Zg (l++(Yu t (lists ds)).take j)):=by rw[f];exact c
      have I:n1+1≤1099511627776:=by rw[f,List.length_append,List.length_take];have:=HN.o;omega
      have J:=zh x;have L:=zh a;have O:=zh f;clear x c a f
      go_wp2_with (at_builtin;refine Yr rfl _ _ _ rfl 0 61 i0 _ 2 32 underlying56 HI.o.1 HI.o.2.1 HI.o.2.2.1 HI.o.2.2.2 rfl (by decide) (by decide) u0 n1 _ (by rfl) (Ql L.o (Qa _ _)) ⟨w2.heap.size,0,none⟩ 1 1 [.string p,.string (sOf (((lists ds).drop (4*j)).take i).flatten)] rfl rfl (Qdf _ _ _ _ _ rfl) (by simp[Value.oneCell']) (by decide) I (Nat.zero_le _) ?_;intro v' w' h2 h3 h4 h5;have H2:=zh h2;have H3:=zh ((Fr.ofBelow (S:=fun k=>u0.ownBlock=some k) (Qa w2 _)).trans (Fr.ofGrown h3 fun k _ e=>e));have H4:=zh ((J2.refl w2 u0).trans h4 (by simp));clear h2 h3 h4)
      go_roundg (ds.length+4-4*(j+1))
      case measure=>omega
      case rel=>
       refine⟨j+1,by omega,Nat.le_refl _,by go_num,v',rfl,?_,?_,?_⟩
       ·have h1:=H2.o
        have e:(Yu t (lists ds)).take (j+1)=(Yu t (lists ds)).take j ++ [Ye t (lists ds) j]:=by rw[List.take_add_one,Qdg t (lists ds) j (by rw[Q9];omega)];rfl
        show w'.ownsRow _ _ _ _ _ _;rw[e,←List.append_assoc,Qbo,List.length_append,←O.o,←HP.o,←J.o];exact h1
       ·show Fr _ _ _
        exact (r.o.trans (Fr.ofBelow d.o)).step H3.o fun k hk hS=>by
         rcases HM.o k hS with h1|h1
         ·exact h1
         ·omega
       ·show J2 _ _ _
        intro k hk;rcases H4.o k hk with h1|h1
        ·exact HM.o k h1
        ·exact .inr (by have:=r.o.size;have:=d.o.size;omega)
   ·obtain⟨N,y⟩:=Q6e E hm h4
    rw[y] at D P N;have B:=zh (rfl:wd=wd);clear hp R n hm E Q y h4
    go_wp2_with (go_at_call 53;refine A.o.mono ?_;rintro e w2 ⟨rfl,F⟩;have d:=zh F;clear F)
    have H:=zh z;clear hq X P D N z
    go_loopg [10,11] wd (fun gg s10 s11 wx=>∃ i:Nat,i≤wd∧wd-i≤gg∧s11=.int .i64 (4*(j:Int)+(i:Int))∧s10=.string (sOf (((lists ds).drop (4*j)).take i).flatten)∧w2=wx)
    case atStart=>exact⟨0,by omega,by omega,by simp,by simp,rfl⟩
    case round=>
     obtain⟨i,hi,ab,rfl,rfl,rfl⟩:=hrel;by_cases hil:i<wd
     ·have K:4*(j:Int)+(i:Int)<4*(j:Int)+(wd:Int):=by have:=B.o;omega
      have q:Q0 w2 0 (.slice ad ds.length cd) ds:=Ql (Q3 HD.o r.o fun k hk e=>by
       obtain⟨C,hC⟩:=Qe HD.o hk
       obtain⟨C',G⟩:=Qe HH.o e
       rw[hC] at G
       simp at G) d.o
      obtain⟨s,hs⟩:∃ s,ds[4*j+i]?=some s:=⟨_,List.getElem?_eq_getElem (by omega)⟩
      obtain⟨bd,rfl⟩:∃ bd,ad=some ⟨bd,0,none⟩:=by
       rcases q.2 with ⟨_,h0⟩|⟨b,cap,cur,e,_⟩
       ·omega
       ·simp at e;exact⟨b,e.1⟩
      have kc:w2.cell? ⟨bd,4*j+i,none⟩=some (.string s):=by have h1:=q.cells (g:=bd) rfl (4*j+i) (.string s) (by rw[List.getElem?_map,hs];rfl);rw[Addr.add_lit] at h1;simpa using h1
      have ae:(0:Int)≤4*(j:Int)+(i:Int):=by omega
      have ac:4*(j:Int)+(i:Int)<(ds.length:Int):=by omega
      have ag:(4*(j:Int)+(i:Int)).toNat=4*j+i:=by omega
      have u:=Qrl (lists ds) (4*j) (4*j+i) s.data.toList (by omega) (by rw[Qjg,hs];rfl);rw[show 4*j+i+1-4*j=i+1 by omega,show 4*j+i-4*j=i by omega] at u;have U:=zh u;have af:s.size≤1048576:=HZ.o s (List.mem_of_getElem? hs);have aa:=Qv0 HZ.o (4*j) i (Nat.le_trans hi H.o);clear q hs u
      go_wp2_with fail
      go_roundg (wd-(i+1))
      case measure=>omega
      case rel=>exact⟨i+1,by omega,by omega,by go_num,by rw[U.o,Qww],rfl⟩
     ·have K:¬ 4*(j:Int)+(i:Int)<4*(j:Int)+(wd:Int):=by have:=B.o;omega
      have V:i=wd:=by omega
      subst V;have x:sOf (((lists ds).drop (4*j)).take i).flatten=(Ye t (lists ds) j).2:=by have e:(((lists ds).drop (4*j)).take i)=(((lists ds).drop (4*j)).take 4):=W.o;rw[e];rfl
      have c:=Ql T.o d.o;obtain⟨n1,f⟩:∃ n1,n1=(l++(Yu t (lists ds)).take j).length:=⟨_,rfl⟩
      have a:w2.ownsRow 0 61 2 u0 n1 (Zg (l++(Yu t (lists ds)).take j)):=by rw[f];exact c
      have I:n1+1≤1099511627776:=by rw[f,List.length_append,List.length_take];have:=HN.o;omega
      have J:=zh x;have L:=zh a;have O:=zh f;clear x c a f
      go_wp2_with (at_builtin;refine Yr rfl _ _ _ rfl 0 61 i0 _ 2 32 underlying56 HI.o.1 HI.o.2.1 HI.o.2.2.1 HI.o.2.2.2 rfl (by decide) (by decide) u0 n1 _ (by rfl) (Ql L.o (Qa _ _)) ⟨w2.heap.size,0,none⟩ 1 1 [.string p,.string (sOf (((lists ds).drop (4*j)).take i).flatten)] rfl rfl (Qdf _ _ _ _ _ rfl) (by simp[Value.oneCell']) (by decide) I (Nat.zero_le _) ?_;intro v' w' h2 h3 h4 h5;have H2:=zh h2;have H3:=zh ((Fr.ofBelow (S:=fun k=>u0.ownBlock=some k) (Qa w2 _)).trans (Fr.ofGrown h3 fun k _ e=>e));have H4:=zh ((J2.refl w2 u0).trans h4 (by simp));clear h2 h3 h4)
      go_roundg (ds.length+4-4*(j+1))
      case measure=>omega
      case rel=>
       refine⟨j+1,by omega,Nat.le_refl _,by go_num,v',rfl,?_,?_,?_⟩
       ·have h1:=H2.o
        have e:(Yu t (lists ds)).take (j+1)=(Yu t (lists ds)).take j ++ [Ye t (lists ds) j]:=by rw[List.take_add_one,Qdg t (lists ds) j (by rw[Q9];omega)];rfl
        show w'.ownsRow _ _ _ _ _ _;rw[e,←List.append_assoc,Qbo,List.length_append,←O.o,←HP.o,←J.o];exact h1
       ·show Fr _ _ _
        exact (r.o.trans (Fr.ofBelow d.o)).step H3.o fun k hk hS=>by
         rcases HM.o k hS with h1|h1
         ·exact h1
         ·omega
       ·show J2 _ _ _
        intro k hk;rcases H4.o k hk with h1|h1
        ·exact HM.o k h1
        ·exact .inr (by have:=r.o.size;have:=d.o.size;omega)
  ·have Z:¬ 4*(j:Int)<(ds.length:Int):=by omega
   go_wp2;go_ret;refine⟨_,rfl,?_,r.o,HM.o⟩
   have:=T.o
   rw[List.take_of_length_le (by rw[Qbp,Q9];omega)] at this;exact this
end
section
variable {l:List Fil} {p:ByteArray}
theorem Qjw (h:getF l p=none):Jc l p = -1:=by unfold Jc;rw[if_neg];intro hl;rw[Qiz hl] at h;cases h
theorem Qj0 {b:ByteArray} (h:getF l p=some b):∃ k x,Jc l p=((k:Nat):Int)∧k<l.length∧l[k]?=some x∧x.2=b:=by
 by_cases hl:Ya l p<l.length
 ·rw[Qiz hl] at h
  exact⟨Ya l p,_,by unfold Jc;rw[if_pos hl],hl,List.getElem?_eq_getElem hl,Option.some.inj h⟩
 ·rw[Qdv hl] at h;cases h
variable {s:ByteArray} {w:World}
theorem Q1s (hn:s.size≤1099511627776) (hu:Qr s.data.toList=none) :
  Calls prog 59 #[.string s] w fun e w'=>e=.returned (.tuple #[.slice none 0 0,.bool false])∧Below w.heap.size w w':=
 (Qfe s w hn).mono fun e w' hp=>by
  obtain⟨v',h1,h2,⟨_,h4⟩|⟨ls,h3,_⟩⟩:=hp
  ·rw[hu] at h1
   subst h4
   exact⟨h1,h2⟩
  ·rw[hu] at h3;cases h3
theorem Qrs {ls:List (List UInt8)} (hn:s.size≤1099511627776) (hu:Qr s.data.toList=some ls) :
  Calls prog 59 #[.string s] w fun e w'=>∃ b c ss,e=.returned (.tuple #[.slice (some ⟨b,0,none⟩) ss.length c,.bool true])∧Q0 w' w.heap.size (.slice (some ⟨b,0,none⟩) ss.length c) ss∧bss ss=ls∧Below w.heap.size w w':=
 (Qfe s w hn).mono fun e w' hp=>by
  obtain⟨v',h1,h2,⟨h3,_⟩|⟨ss,h3,h4⟩⟩:=hp
  ·rw[hu] at h3;cases h3
  ·rw[hu] at h1 h3
   have h3:=Option.some.inj h3
   have hl:=(Yq hu).1
   have a:ls.length=ss.length:=by rw[h3];simp[bss]
   have h5:=h4
   rcases h4.2 with ⟨_,h0⟩|⟨b,cap,cur,rfl,_⟩
   ·omega
   ·exact⟨b,cap,ss,h1,h5,h3.symm,h2⟩
def Q4q (l:List Fil) (i k:Nat) (w:World) (e:Ending) (w':World):Prop:=
 Below w.heap.size w w'∧((Z9 l i k=none∧∃ u,e=.returned (.tuple #[u,.bool false]))∨∃ ls b c ss,Z9 l i k=some ls∧e=.returned (.tuple #[.slice (some ⟨b,0,none⟩) ss.length c,.bool true])∧Q0 w' w.heap.size (.slice (some ⟨b,0,none⟩) ss.length c) ss∧bss ss=ls)
theorem Qkh (w:World) (va:Value) (l:List Fil) (h:Jv w va l) (hn:l.length≤1099511627776) (hsz:∀ f∈l,f.2.size≤1048576) (i k:Nat) (hi:i<9223372036854775808) (hk:k<9223372036854775808) :
  Calls prog 123 #[va,.int .i64 i,.int .i64 k] w (Q4q l i k w):=by
 have HH:=zh h;obtain⟨a,c,rfl,hc,hx⟩:=h;have HX:=zh hx;clear hx;obtain⟨p,hp⟩:∃ p,p=Yp i k:=⟨_,rfl⟩
 have n:=Qck (-1) (i:Int) (k:Int) w (by omega);rw[show sOf (Y4 (-1) (i:Int) (k:Int))=p from hp.symm] at n;have HP:=zh hp;cases hg:getF l p with
 | none=>
  have hf:=Qjw hg;have HF:=zh hf;have t:Z9 l i k=none:=Qfv (by rw[←hp];exact hg);have D:=zh t;clear hf hg hp t
  go_enter func123,ntmps123
  go_wp2_with (first
   | (go_at_call 53;refine n.mono ?_;rintro e w2 ⟨rfl,d⟩;have q:=zh (HH.o.below d);have g:=zh d;clear d)
   | (go_at_call 27;refine (Yf w2 _ l p q.o hn).mono ?_;rintro e w3 ⟨rfl,rfl⟩;rw[HF.o]))
  go_ret2;exact⟨g.o,.inl ⟨D.o,_,rfl⟩⟩
 | some b=>
  obtain⟨j,x,hf,H,A,z⟩:=Qj0 hg;obtain⟨bb,off,rfl,_,d2⟩:=HX.o j x A;have C:b.size≤1099511627776:=by have:=hsz x (List.mem_of_getElem? A);rw[z] at this;omega
  have B:bb<w.heap.size:=Qk d2;rw[z] at d2;have v:getF l (Yp i k)=some b:=by rw[←hp];exact hg
  have L:(0:Int)≤(j:Int):=by omega
  have M:(j:Int)<(l.length:Int):=by omega
  have O:¬ (j:Int)<0:=by omega
  have HF:=zh hf;clear hf hg hp A z H hsz;cases hu:Qr b.data.toList with
  | none=>
   have t:Z9 l i k=none:=Qmj v hu;have D:=zh t;have HU:=zh hu;clear t hu v
   go_enter func123,ntmps123
   go_wp2_with (first
    | (go_at_call 53;refine n.mono ?_;rintro e w2 ⟨rfl,d⟩;have q:=zh (HH.o.below d);have g:=zh d;have d3:=(d.cell (p:=⟨bb,off+j*2+1,none⟩) B).trans d2;clear d)
    | (go_at_call 27;refine (Yf w2 _ l p q.o hn).mono ?_;rintro e w3 ⟨rfl,rfl⟩;rw[HF.o])
    | (go_at_call 59;refine (Q1s C HU.o).mono ?_;rintro e w4 ⟨rfl,m⟩;have s:=zh m;clear m))
   go_ret2;exact⟨g.o.trans (s.o.mono g.o.size),.inl ⟨D.o,_,rfl⟩⟩
  | some ls=>
   have F:=Qjx v hu;have G:=zh F;have HU:=zh hu;have E:((ls.length:Int) == (k:Int))=decide (ls.length=k):=by rw[Bool.eq_iff_iff];simp;omega
   have N:=zh E;clear F hu v E;by_cases hlk:ls.length=k
   ·have u:=zh hlk
    clear hlk
    go_enter func123,ntmps123
    go_wp2_with (first
     | (go_at_call 53;refine n.mono ?_;rintro e w2 ⟨rfl,d⟩;have q:=zh (HH.o.below d);have g:=zh d;have d3:=(d.cell (p:=⟨bb,off+j*2+1,none⟩) B).trans d2;clear d)
     | (go_at_call 27;refine (Yf w2 _ l p q.o hn).mono ?_;rintro e w3 ⟨rfl,rfl⟩;rw[HF.o])
     | (go_at_call 59;refine (Qrs C HU.o).mono ?_;rintro e w4 ⟨b5,c5,ss,rfl,y,r,m⟩;have J:=(show ((ss.length:Int) == (k:Int))=true by rw[←u.o,←r];simp[bss]);have I:=zh y;have K:=zh r;have s:=zh m;clear m y r))
    go_ret2;refine⟨g.o.trans (s.o.mono g.o.size),.inr ⟨ls,b5,c5,ss,?_,rfl,?_,K.o⟩⟩
    ·rw[G.o,if_pos u.o]
    ·exact Zs I.o g.o.size
   ·have u:=zh hlk
    clear hlk
    go_enter func123,ntmps123
    go_wp2_with (first
     | (go_at_call 53;refine n.mono ?_;rintro e w2 ⟨rfl,d⟩;have q:=zh (HH.o.below d);have g:=zh d;have d3:=(d.cell (p:=⟨bb,off+j*2+1,none⟩) B).trans d2;clear d)
     | (go_at_call 27;refine (Yf w2 _ l p q.o hn).mono ?_;rintro e w3 ⟨rfl,rfl⟩;rw[HF.o])
     | (go_at_call 59;refine (Qrs C HU.o).mono ?_;rintro e w4 ⟨b5,c5,ss,rfl,y,r,m⟩;have J:=(show ((ss.length:Int) == (k:Int))=false by rw[beq_eq_false_iff_ne];intro e;apply u.o;rw[←r];simp[bss];omega);have s:=zh m;clear m y r))
    go_ret2;exact⟨g.o.trans (s.o.mono g.o.size),.inl ⟨by rw[G.o,if_neg u.o],_,rfl⟩⟩
end
section
variable {w:World} {va:Value} {l:List Fil} {i k:Nat}
theorem Qrg (h:Jv w va l) (hn:l.length≤1099511627776) (hsz:∀ f∈l,f.2.size≤1048576) (hi:i<9223372036854775808) (hk:k<9223372036854775808) (hb:Z9 l i k=none) :
  Calls prog 123 #[va,.int .i64 i,.int .i64 k] w fun e w'=>(∃ u,e=.returned (.tuple #[u,.bool false]))∧Below w.heap.size w w':=
 (Qkh w va l h hn hsz i k hi hk).mono fun e w' hp=>by
  obtain⟨h1,⟨_,h2⟩|⟨ls,_,_,_,h2,_⟩⟩:=hp
  ·exact⟨h2,h1⟩
  ·rw[hb] at h2;cases h2
theorem Qr7 (h:Jv w va l) (hn:l.length≤1099511627776) (hsz:∀ f∈l,f.2.size≤1048576) {ls:List (List UInt8)} (hi:i<9223372036854775808) (hk:k<9223372036854775808) (hb:Z9 l i k=some ls) :
  Calls prog 123 #[va,.int .i64 i,.int .i64 k] w fun e w'=>∃ b c ss,e=.returned (.tuple #[.slice (some ⟨b,0,none⟩) ss.length c,.bool true])∧Q0 w' w.heap.size (.slice (some ⟨b,0,none⟩) ss.length c) ss∧lists ss=ls∧Below w.heap.size w w':=
 (Qkh w va l h hn hsz i k hi hk).mono fun e w' hp=>by
  obtain⟨h1,⟨h2,_⟩|⟨ls',b,c,ss,h2,h3,h4,h5⟩⟩:=hp
  ·rw[hb] at h2;cases h2
  ·rw[hb] at h2
   cases h2
   exact⟨b,c,ss,h3,h4,h5,h1⟩
def Qpt (l:List Fil) (d:List (List UInt8)) (w:World) (e:Ending) (w':World):Prop:=
 Below w.heap.size w w'∧∃ v' ss,e=.returned (.tuple #[v',.bool (Zo l d).2])∧lists ss=(Zo l d).1∧Zn w' v' ss
theorem Qm2 {d:List (List UInt8)} {w':World} (hb:Below w.heap.size w w') (hf:Zo l d=([],false)):Qpt l d w (.returned (.tuple #[.slice none 0 0,.bool false])) w':=
 ⟨hb,_,[],by rw[hf];rfl,by rw[hf];rfl,none,0,rfl,Nat.le_refl _,fun j x hx=>by simp at hx⟩
theorem Qs3 (w:World) (va:Value) (l:List Fil) (h:Jv w va l) (hn:l.length≤1099511627776) (hsz:∀ f∈l,f.2.size≤1048576) (vd:Value) (ds:List ByteArray) (hd:Zn w vd ds) (hdl:ds.length≤1073741824) :
  Calls prog 124 #[va,vd] w (Qpt l (lists ds) w):=by
 have HH:=zh h;have HZ:=zh hsz;have HN:=zh hn;obtain⟨av,cv,rfl⟩:∃ a c,va=.slice a l.length c:=by obtain⟨a,c,h1,_⟩:=h;exact⟨a,c,h1⟩
 obtain⟨ad,cd,rfl,am,hx⟩:=hd;have HX:=zh hx;obtain⟨ln,t⟩:∃ ln,ln=ds.length:=⟨_,rfl⟩
 rw[←t] at hdl am;obtain⟨q,hq⟩:∃ q,q=ln / 4:=⟨_,rfl⟩
 obtain⟨m,hm⟩:∃ m,m=ln%4:=⟨_,rfl⟩
 have aw:(ln:Int) / 4=(q:Int):=by omega
 have ax:(ln:Int)-(q:Int)*4=(m:Int):=by omega
 have ah:q<9223372036854775808:=by omega
 have be:m<4:=by omega
 have O:(lists ds).length%4=m:=by rw[Q9,←t];exact hm.symm
 have hdiv:(lists ds).length / 4=q:=by rw[Q9,←t];exact hq.symm
 have M:=zh t;have A:=zh O;have v:=zh hdiv;have HQ:=zh hq;have HM:=zh hm;rw[←t];clear h hsz hn hx hq hm O hdiv t
 go_enter func124,ntmps124
 go_wp2_with fail
 clear aw ax
 go_loopg [8] 4 (fun gg s8 wr=>∃ k:Nat,k≤4∧k≤gg∧s8=.int .i64 k∧m≤k∧Aside (Below w.heap.size w wr)∧Aside (Zo l (lists ds)=Z0 l (lists ds) k))
 case atStart=>exact⟨4,by omega,by omega,rfl,by omega,Below.refl _ _,rfl⟩
 case round=>
  obtain⟨k,ba,az,rfl,bb,HB,HP⟩:=hrel;by_cases hlt:m<k
  ·have ak:(m:Int)<(k:Int):=by omega
   have B:=Qck (-1) (q:Int) (k:Int) wr (by omega);obtain⟨p,hp⟩:∃ p,p=Yp q k:=⟨_,rfl⟩
   rw[show sOf (Y4 (-1) (q:Int) (k:Int))=p from hp.symm] at B;have Y:p=Yp ((lists ds).length / 4) k:=by rw[hp,v.o]
   have L:(lists ds).length%4<k:=by rw[A.o];exact hlt
   have ai:k<9223372036854775808:=by omega
   have ag:=zh Y;have N:=zh L;have C:=zh B;clear hp Y L B;cases hg:getF l p with
   | none=>
    have HF:=zh (Qjw hg);have HG:=zh hg;clear hg
    go_wp2_with (first
     | (go_at_call 53;refine C.o.mono ?_;rintro e w2 ⟨rfl,n⟩;have d:=zh (HB.o.trans (n.mono HB.o.size));have r:=zh (HH.o.below d.o);clear n)
     | (go_at_call 27;refine (Yf w2 _ l p r.o HN.o).mono ?_;rintro e w3 ⟨rfl,rfl⟩;rw[HF.o]))
    go_roundg (k-1)
    case measure=>omega
    case rel=>
     refine⟨k-1,by omega,by omega,by go_num,by omega,d.o,?_⟩;show Zo _ _=_;rw[HP.o,Qi5 N.o (by rw[←ag.o];exact HG.o)]
   | some b=>
    obtain⟨j,x,hf,ao,_,_⟩:=Qj0 hg;have bc:¬ (j:Int)<0:=by omega
    have HF:=zh hf;have HG:=zh (show getF l (Yp ((lists ds).length / 4) k)=some b by rw[←ag.o];exact hg);clear hf hg ao;cases hbn:Z9 l q k with
    | none=>
     have g:Zo l (lists ds)=([],false):=by rw[HP.o,Qkq N.o HG.o (by rw[v.o];exact hbn)]
     have E:=zh g;have S:=zh hbn;clear g hbn
     go_wp2_with (first
      | (go_at_call 53;refine C.o.mono ?_;rintro e w2 ⟨rfl,n⟩;have d:=zh (HB.o.trans (n.mono HB.o.size));have r:=zh (HH.o.below d.o);clear n)
      | (go_at_call 27;refine (Yf w2 _ l p r.o HN.o).mono ?_;rintro e w3 ⟨rfl,rfl⟩;rw[HF.o])
      | (go_at_call 123;refine (Qrg r.o HN.o HZ.o ah ai S.o).mono ?_;rintro e w4 ⟨⟨u,rfl⟩,z⟩;have H:=zh (d.o.trans (z.mono d.o.size));clear z))
     go_ret2;exact Qm2 H.o E.o
    | some ls=>
     have W:=(Qaw hbn).1;have g:Zo l (lists ds)=if ls.take ((lists ds).length%4)=(lists ds).drop (4*((lists ds).length / 4)) then (ls.drop ((lists ds).length%4),decide (k=4)) else ([],false):=by rw[HP.o,Qi8 N.o HG.o (by rw[v.o];exact hbn)]
     rw[A.o,v.o] at g;have E:=zh g;have S:=zh hbn;have ay:=zh W;clear g hbn W
     go_wp2_with (first
      | (go_at_call 53;refine C.o.mono ?_;rintro e w2 ⟨rfl,n⟩;have d:=zh (HB.o.trans (n.mono HB.o.size));have r:=zh (HH.o.below d.o);clear n)
      | (go_at_call 27;refine (Yf w2 _ l p r.o HN.o).mono ?_;rintro e w3 ⟨rfl,rfl⟩;rw[HF.o])
      | (go_at_call 123;refine (Qr7 r.o HN.o HZ.o ah ai S.o).mono ?_;rintro e w4 ⟨b5,c5,ss,rfl,ac,i,z⟩;have H:=zh (d.o.trans (z.mono d.o.size));have K:=zh ac;have F:=zh i;clear z ac i))
     have X:ss.length=k:=by have:=F.o;have h2:=ay.o;rw[←this,Q9] at h2;exact h2
     have D:=zh X;clear X
     go_loopg [13] m (fun gg s13 wx=>∃ jj:Nat,jj≤m∧m-jj≤gg∧s13=.int .i64 jj∧Aside (Below w4.heap.size w4 wx)∧Aside (∀ j,j<jj→ss[j]?=ds[4*q+j]?))
     case atStart=>
      refine⟨0,by omega,by omega,rfl,Below.refl _ _,?_⟩;show ∀ j,j<0→_;intro j hj;omega
     case round=>
      obtain⟨jj,a3,a7,rfl,y,HJ⟩:=hrel;have I:=zh (H.o.trans (y.o.mono H.o.size));by_cases hlt2:jj<m
      ·have T:(jj:Int)<(m:Int):=by omega
       have ab:4*q+jj<ds.length:=by have:=HQ.o;have:=HM.o;have:=M.o;omega
       have aa:jj<ss.length:=by have:=D.o;omega
       obtain⟨s1,G⟩:∃ s,ds[4*q+jj]?=some s:=⟨_,List.getElem?_eq_getElem ab⟩
       obtain⟨s2,R⟩:∃ s,ss[jj]?=some s:=⟨_,List.getElem?_eq_getElem aa⟩
       obtain⟨bd,od,an,J⟩:=HX.o (4*q+jj) (.string s1) (by rw[List.getElem?_map,G];rfl);subst an;have k1:wr.cell? ⟨bd,od+(q*4+jj),none⟩=some (.string s1):=by
        have:=(I.o.cell (Qk J)).trans J
        rwa [Nat.mul_comm 4 q] at this
       have k2:wr.cell? ⟨b5,jj,none⟩=some (.string s2):=by obtain⟨a',c',he,_,hc⟩:=K.o.at;cases he;obtain⟨b',o',he,af⟩:=hc jj (.string s2) (by rw[List.getElem?_map,R];rfl);cases he;have h2:=(y.o.cell (Qk af)).trans af;simpa using h2
       have a2:(0:Int)≤(jj:Int):=by omega
       have a0:(jj:Int)<(ss.length:Int):=by omega
       have bf:(0:Int)≤(q:Int)*4+(jj:Int):=by omega
       have a1:(q:Int)*4+(jj:Int)<(ln:Int):=by have:=M.o;omega
       have a6:((q:Int)*4+(jj:Int)).toNat=q*4+jj:=by omega
       have V:=zh G;have U:=zh R;clear ab aa G R J;by_cases i:s2=s1
       ·have ap:=Jp i
        have Q:=zh i;clear i
        go_wp2_with fail
        go_region
        go_wp2_with fail
        go_roundg (m-(jj+1))
        case measure=>omega
        case rel=>
         refine⟨jj+1,by omega,by omega,by go_num,y.o.trans ((Qn _).mono y.o.size),?_⟩;show ∀ j,j<jj+1→_;intro j hj;by_cases hjk:j=jj
         ·subst hjk
          rw[V.o,U.o,Q.o]
         ·exact HJ.o j (by omega)
       ·have ap:=Y9 i
        have Q:=zh i;clear i
        go_wp2_with fail
        go_region
        go_wp2_with fail
        go_ret2;refine Qm2 (I.o.trans ((Qn _).mono I.o.size)) ?_;rw[E.o,if_neg];intro e;have h1:(ls.take m)[jj]?=((lists ds).drop (4*q))[jj]?:=by rw[e]
        have e1:ls[jj]?=some s2.data.toList:=by rw[←F.o];unfold lists;rw[List.getElem?_map,U.o];rfl
        have e2:(lists ds)[4*q+jj]?=some s1.data.toList:=by unfold lists;rw[List.getElem?_map,V.o];rfl
        rw[List.getElem?_take_of_lt hlt2,List.getElem?_drop,e1,e2] at h1;exact Q.o (Go.WideShapes.bytes_inj (Option.some.inj h1))
      ·have T:¬ (jj:Int)<(m:Int):=by omega
       have Z:jj=m:=by omega
       have aq:=zh Z;clear Z;have a8:ss.length≤c5:=by obtain⟨a',c',he,hc,_⟩:=K.o.at;cases he;exact hc
       have G:(m:Int)≤(ss.length:Int):=by have:=D.o;omega
       have a5:(0:Int)≤(m:Int):=by omega
       have a9:¬ c5=m:=by have:=D.o;omega
       obtain⟨ck,a4,P⟩:∃ ck,((k:Int) == 4)=ck∧ck=decide (k=4):=⟨_,rfl,by rw[Bool.eq_iff_iff];simp;omega⟩
       have ar:=zh P;clear P
       go_wp2_with fail
       go_ret2;have g:Zo l (lists ds)=(lists (ss.drop m),ck):=by
        rw[E.o,if_pos,ar.o]
        ·rw[←F.o];unfold lists;rw[List.map_drop]
        ·apply List.ext_getElem?
         intro j;by_cases hj:j<m
         ·rw[List.getElem?_take_of_lt hj,List.getElem?_drop,←F.o]
          unfold lists;rw[List.getElem?_map,List.getElem?_map,HJ.o j (by rw[aq.o];exact hj)]
         ·rw[List.getElem?_eq_none (by rw[List.length_take];omega),List.getElem?_eq_none (by rw[List.length_drop,Q9];have:=M.o;have:=HM.o;have:=HQ.o;omega)]
       have al:=K.o;have aj:m<ss.length:=by rw[D.o];exact hlt
       refine⟨I.o,.slice (some ⟨b5,m,none⟩) (ss.length-m) (c5-m),ss.drop m,?_,?_,?_⟩
       ·rw[g];rfl
       ·rw[g]
       ·have h1:=Qi6 (al.at.below y.o) (Nat.le_of_lt aj)
        simpa using h1
  ·have ak:¬ (m:Int)<(k:Int):=by omega
   have ae:k≤(lists ds).length%4:=by rw[A.o];omega
   have au:=zh ae;clear ae
   go_wp2_with fail
   go_ret2;exact Qm2 HB.o (by rw[HP.o];exact Qh7 au.o)
end
end Go.Proofs.YtefccfakhgdfbaaGreatDoor
