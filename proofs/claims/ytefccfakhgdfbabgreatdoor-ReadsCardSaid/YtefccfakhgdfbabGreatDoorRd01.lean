/- plain.NewDisk: a store with the first file of each path. Conditions: fewer than 2^30 files. -/
import Derived.Test.YtefccfakhgdfbabGreatDoorRows
import Derived.WalkSpells
import Derived.WalkLawsBesides
import Derived.Lib.Hide
import Derived.Lib.ConvBytes
import Derived.BigQuiet
import Derived.Shelf.Abstract
import Derived.Deep.RegionLaw
import Derived.Deep.CutRange
set_option linter.unusedVariables false
set_option linter.unusedSimpArgs false
open Go.RowKit Go.Proofs.Tryz
set_option maxRecDepth 100000
set_option maxHeartbeats 4000000
namespace Go.Proofs.YtefccfakhgdfbabGreatDoor
theorem zh {p : Prop} (h : p) : RowKit.Hid p := Lib.hid h
theorem _root_.Go.RowKit.Hid.o {p : Prop} (h : RowKit.Hid p) : p := h.out
theorem _root_.Go.Aside.o {p : Prop} (h : Aside p) : p := h.out
abbrev zc : Array Value := #[.int .u8 0,.int .u8 0,.int .u8 0,.int .u8 0,.int .u8 0,.int .u8 0,.int .u8 0,.int .u8 0]
section
theorem Qa (w:World) (o:Obj):Below w.heap.size w (w.alloc o):=(Below.refl _ _).alloc (Nat.le_refl _) o
theorem Ql (w:World):Below w.heap.size w w.drew:=(Below.refl _ _).drew
variable {w w':World}
theorem Za {B:Nat} (h:Below B w w') (n:Nat):Below B w (w'.drewN n):=⟨h.os,h.tape,h.output,h.size,h.block⟩
theorem Qa8 {a b:Bool} (h:a=b):Ending.returned (.bool a)=.returned (.bool b):=by rw[h]
theorem Qbc {a b:Value} (h:a=b):Ending.returned a=.returned b:=by rw[h]
abbrev u8 (x:UInt8):Value:=.int .u8 x.toNat
def Qfh (w:World) (v:Value) (n:Nat) (xs:List Value):Prop:=
 ∃ a c,v=.slice a n c∧n≤c∧∀ j x,xs[j]?=some x→∃ b off,a=some ⟨b,off,none⟩∧w.cell? ⟨b,off+j,none⟩=some x
variable {v:Value}
theorem Qk {a:Addr} (h:w.cell? a=some v):a.block<w.heap.size:=World.block_lt_of_cell? w a h
variable {n:Nat} {xs:List Value}
theorem Qfh.below (h:Qfh w v n xs) (hb:Below w.heap.size w w'):Qfh w' v n xs:=by obtain⟨a,c,hv,hcap,hc⟩:=h;refine⟨a,c,hv,hcap,fun j x hx=>?_⟩;obtain⟨b,off,ha,hcell⟩:=hc j x hx;exact⟨b,off,ha,(hb.cell (p:=⟨b,off+j,none⟩) (Qk hcell)).trans hcell⟩
def Q6 (w:World) (v:Value) (l:List UInt8):Prop:=Qfh w v l.length (l.map u8)
def Jd (w:World) (v:Value) (ss:List ByteArray):Prop:=Qfh w v ss.length (ss.map Value.string)
def Qes (w:World) (v:Value) (ls:List (List UInt8)):Prop:=
 ∃ vs:List Value,vs.length=ls.length∧Qfh w v ls.length vs∧∀ (j:Nat) (u:Value) (l:List UInt8),vs[j]?=some u→ls[j]?=some l→Q6 w u l
variable {l:List UInt8}
theorem Q6.below (h:Q6 w v l) (hb:Below w.heap.size w w'):Q6 w' v l:=Qfh.below h hb
theorem Jd.below {l:List ByteArray} (h:Jd w v l) (hb:Below w.heap.size w w'):Jd w' v l:=Qfh.below h hb
theorem Qes.below {l:List (List UInt8)} (h:Qes w v l) (hb:Below w.heap.size w w'):Qes w' v l:=by obtain⟨vs,hl,hc,hj⟩:=h;exact⟨vs,hl,hc.below hb,fun j u l h1 h2=>(hj j u l h1 h2).below hb⟩
def Qz (w:World) (base:Nat) (v:Value) (l:List UInt8):Prop:=
 (v=.slice none 0 0∧l = [])∨
 ∃ b off c C fz,v=.slice (some ⟨b,off,none⟩) l.length c∧l.length≤c∧base≤b∧w.heap[b]?=some (.cells C 5 fz)∧(∀ j x,l[j]?=some x→C[off+j]?=some (u8 x))∧off+l.length≤C.size∧(fz=(0,0)∨C.size≤fz.1)
variable {base:Nat}
theorem Qz.at (h:Qz w base v l):Q6 w v l:=by
 rcases h with ⟨rfl,rfl⟩|⟨b,off,c,C,fz,rfl,hcap,_,hb,hc,_,_⟩
 ·exact⟨none,0,rfl,Nat.le_refl _,fun j x hx=>by simp at hx⟩
 ·refine⟨_,c,rfl,hcap,fun j x hx=>⟨b,off,rfl,?_⟩⟩
  rw[List.getElem?_map,Option.map_eq_some_iff] at hx;obtain⟨y,hy,rfl⟩:=hx;simp[World.cell?,hb,hc j y hy]
variable {base':Nat}
theorem Qz.mono (h:Qz w base v l) (hb:base'≤base):Qz w base' v l:=by
 rcases h with h|⟨b,off,c,C,fz,h1,h0,h2,h3⟩
 ·exact .inl h
 ·exact .inr ⟨b,off,c,C,fz,h1,h0,Nat.le_trans hb h2,h3⟩
theorem Qz.same (h:Qz w base v l) (hs:∀ (k:Nat) (C:Array Value) (fz:Nat×Nat),w.heap[k]?=some (Obj.cells C 5 fz)→w'.heap[k]?=w.heap[k]?):Qz w' base v l:=by
 rcases h with h|⟨b,off,c,C,fz,h1,h0,h2,h3,h4⟩
 ·exact .inl h
 ·exact .inr ⟨b,off,c,C,fz,h1,h0,h2,(hs b C fz h3).trans h3,h4⟩
variable {k:Nat}
theorem Qc {o:Obj} (h:w.heap[k]?=some o):k<w.heap.size:=(Array.getElem?_eq_some_iff.1 h).1
theorem Qz.below (h:Qz w base v l) (hb:Below w.heap.size w w'):Qz w' base v l:=
 h.same fun _ _ _ hk=>hb.block _ (Qc hk)
theorem Qz.one (h:Qz w base v l):v.oneCell'=true:=by rcases h with ⟨rfl,_⟩|⟨b,off,c,C,fz,rfl,_⟩ <;> rfl
def Y8 (w:World) (base:Nat) (v:Value) (ls:List (List UInt8)):Prop:=
 ∃ vs:List Value,w.ownsRow base 94 1 v ls.length vs∧∀ (j:Nat) (u:Value) (l:List UInt8),vs[j]?=some u→ls[j]?=some l→Qz w base u l
variable {e:TypeId} {size:Nat}
theorem Ya (h:w.ownsRow base e size v n xs):Qfh w v n xs:=by
 obtain⟨h1,h2⟩:=h;rcases h2 with ⟨rfl,rfl⟩|⟨g,cap,cur,rfl,hb,hg,hn,hc,hs,ht⟩
 ·refine⟨none,0,rfl,Nat.le_refl _,fun j x hx=>?_⟩
  have:xs = []:=List.eq_nil_of_length_eq_zero (by simpa using h1)
  simp[this] at hx
 ·refine⟨_,cap,rfl,hn,fun j x hx=>⟨g,0,rfl,?_⟩⟩
  rw[←ht,List.getElem?_take] at hx
  split at hx
  ·simpa [World.cell?,hg] using hx
  ·cases hx
variable {ls:List (List UInt8)}
theorem Y8.at (h:Y8 w base v ls):Qes w v ls:=by obtain⟨vs,h1,h2⟩:=h;exact⟨vs,by simpa using h1.1,Ya h1,fun j u l hu hl=>(h2 j u l hu hl).at⟩
theorem Qn (h:w.ownsRow base e size v n xs) (hb:Below w.heap.size w w'):w'.ownsRow base e size v n xs:=by
 obtain⟨h1,h2⟩:=h;refine⟨h1,?_⟩;rcases h2 with h2|⟨g,cap,cur,hv,hg,hh,r⟩
 ·exact .inl h2
 ·exact .inr ⟨g,cap,cur,hv,hg,(hb.block g (Qc hh)).trans hh,r⟩
theorem Z2 (h:w.ownsRow base e size v n xs) (hb:base'≤base):w.ownsRow base' e size v n xs:=by
 obtain⟨h1,h2⟩:=h;refine⟨h1,?_⟩;rcases h2 with h2|⟨g,cap,cur,hv,hg,r⟩
 ·exact .inl h2
 ·exact .inr ⟨g,cap,cur,hv,Nat.le_trans hb hg,r⟩
theorem Y8.mono (h:Y8 w base v ls) (hb:base'≤base):Y8 w base' v ls:=by obtain⟨vs,h1,h2⟩:=h;exact⟨vs,Z2 h1 hb,fun j u l hu hl=>(h2 j u l hu hl).mono hb⟩
theorem Qh4 {e':TypeId} (h:w.ownsRow base e size v n xs) (hg:w.grownBy w' v.ownBlock) (hne:e'≠e) {C:Array Value} {fz:Nat×Nat} (hk:w.heap[k]?=some (.cells C e' fz)):w'.heap[k]?=w.heap[k]?:=by
 refine hg.block k (Qc hk) fun hc=>?_
 rcases h.2 with ⟨rfl,_⟩|⟨g,cap,cur,rfl,_,hh,_⟩
 ·simp[Value.ownBlock] at hc
 ·simp[Value.ownBlock] at hc
  subst hc;rw[hk] at hh;simp only[Option.some.injEq,Obj.cells.injEq] at hh;exact hne hh.2.1
variable {P:Program} {ops:Array Oper} {rest:List Oper} {o:Oper} {a:Act} {Q:Exit→Act→World→Prop}
theorem Qde (hgd:o.guard=none) (src dst e:TypeId) (x:Operand)
  (ho:o.op=.convert src dst x) (hs:P.underlying src=some .string) (hd:P.underlying dst=some (.slice e)) (he:P.underlying e=some (.int .u8)) (hu:e=5)
  (s:ByteArray) (hx:a.eval x=.string s)
  (h:∀ v' w',Qz w' w.heap.size v' s.data.toList→Below w.heap.size w w'→w'.heap.size=w.heap.size+1→(∃ b c,v'=.slice (some ⟨b,0,none⟩) s.size c)→wpList P ops Q rest (a.put o.dst v') w'):wpList P ops Q (o :: rest) a w:=by
 refine wpList_plain hgd fun K' hK'=>?_
 have hr:=Lib.run_convert_string_bytes (P:=P) w src dst e s hs hd he;unfold Oper.wp execOp;simp only[ho,hx,Sem.run_bind,Sem.run_pure,Result.andThen_ok,hr];refine hK' _ _ (h _ _ ?_ ?_ (Lib.bytesWorld_size w e s) ⟨_,_,rfl⟩)
 ·subst hu
  refine .inr ⟨w.heap.size,0,grownCap w s.size 0 5,Lib.bytesCells w 5 s,_,by simp,by have:=grownCap_ge w s.size 0 5;simpa using this,Nat.le_refl _,Lib.bytesWorld_at_new w _ s,fun j y hy=>?_,?_,.inr (Nat.le_refl _)⟩
  ·have hj:j<s.size:=by
    have:=(List.getElem?_eq_some_iff.1 hy).1
    simpa using this
   have h2:s.data[j]?=some y:=by simpa using hy
   have h3:s.data[j]=y:=by rw[Array.getElem?_eq_getElem hj,Option.some.injEq] at h2;exact h2
   simp[Lib.bytesCells,Array.getElem?_append,hj,h3]
  ·simp[Lib.bytesCells]
 ·exact⟨by simp[Lib.bytesWorld,World.freeze,World.alloc,World.drew,-World.alloc_eq,-World.drew_eq],by simp[Lib.bytesWorld,World.freeze,World.alloc,World.drew,-World.alloc_eq,-World.drew_eq],by simp[Lib.bytesWorld,World.freeze,World.alloc,World.drew,-World.alloc_eq,-World.drew_eq],by rw[Lib.bytesWorld_size];omega,fun k hk=>Lib.bytesWorld_at_old w e s k hk⟩
def Q5 (w:World) (base:Nat) (v:Value) (ss:List ByteArray):Prop:=w.ownsRow base 9 1 v ss.length (ss.map Value.string)
theorem Q5.at {ss:List ByteArray} (h:Q5 w base v ss):Jd w v ss:=Ya h
abbrev Hsh:=Vector UInt8 8
def lists (ss:List ByteArray):List (List UInt8):=ss.map (·.data.toList)
structure Lg where
 key:ByteArray
 entries:List (List UInt8)
 levels:List (List Hsh)
 put:List Nat
 failed:Bool
def h8 (a:Hsh):Array Value:=a.toArray.map u8
def HV (a:Hsh):Value:=.agg (h8 a)
@[simp] theorem h8_size (a:Hsh):(h8 a).size=8:=by simp[h8]
def Qu (w:World) (g:Nat) (h:Hsh):Prop:=w.heap[g]?=some (.cells (h8 h) 109 (0,0))
theorem Qoz (a:Hsh):(h8 a).all (·.oneCell')=true:=by simp only[h8,Array.all_map];rw[Array.all_eq_true];intro i hi;rfl
theorem Zu (w:World) (o:Obj) (g:Nat) (e:g=w.heap.size):(w.alloc o).heap[g]?=some o:=by subst e;exact heap_alloc_new w o
theorem Qeo (w:World) (h:Hsh):Qu (w.alloc (.cells (h8 h) 109)) w.heap.size h:=heap_alloc_new w _
variable {g:Nat} {h:Hsh}
theorem Qp (hh:Qu w g h) (o:Obj):Qu (w.alloc o) g h:=(heap_alloc_old w o (Array.getElem?_eq_some_iff.1 hh).1).trans hh
theorem Qy (hh:Qu w g h) (k:Hsh):Qu (w.setRow g (h8 k)) g k:=setRow_heap w g _ _ _ _ hh
theorem Qi (hh:Qu w g h) (cs:Array Value) (hne:g≠k):Qu (w.setRow k cs) g h:=(setRow_other w k g cs hne).trans hh
theorem Qg (hh:Qu w g h) (hb:Below w.heap.size w w'):Qu w' g h:=(hb.block g (Array.getElem?_eq_some_iff.1 hh).1).trans hh
theorem Qo (hh:Qu w g h):Qu w.drew g h:=hh
section
variable {P:Program} {ops:Array Oper} {rest:List Oper} {o:Oper} {a:Act} {Q:Exit→Act→World→Prop} {w:World}
theorem Q1 (hw:Region.wanted o (yielded ops a.tmps)=true) (ty:TypeId) (x:Operand) (ho:o.op=.load ty x) (g:Nat) (hx:a.eval x=.pointer (some ⟨g,0,none⟩))
  (e:TypeId) (hu:P.underlying ty=some (.array 8 e)) (hi:(P.info? ty).map (·.size)=some 8) (h:Hsh) (hh:Qu w g h)
  (hk:wpList P ops Q rest (a.put o.dst (.agg (h8 h))) w):wpList P ops Q (o :: rest) a w:=
 BigFrame.wpList_want hw fun _ hK=>wp_load_row ty x ho g hx _ (h8 h) _ _ hh hu rfl (by rw[hi,h8_size]) (hK _ _ hk)
theorem Qt (hw:Region.wanted o (yielded ops a.tmps)=true) (ty:TypeId) (x y:Operand) (ho:o.op=.store ty x y) (g:Nat) (k:Hsh) (hx:a.eval x=.pointer (some ⟨g,0,none⟩)) (hy:a.eval y=.agg (h8 k))
  (hi:(P.info? ty).map (·.size)=some 8) (h:Hsh) (hh:Qu w g h)
  (hk:wpList P ops Q rest (a.put o.dst undef) (w.setRow g (h8 k))):wpList P ops Q (o :: rest) a w:=
 BigFrame.wpList_want hw fun _ hK=>wp_store_row ty x y ho g (h8 k) hx hy _ _ hh (by rw[hi,h8_size]) (by simp) (Qoz k) (hK _ _ hk)
end
variable {fn:Func} {R:Ending→World→Prop} {p:Tmp} {ty:TypeId}
theorem ret8 (g:Nat) (k:Hsh) (h:fn.results=#[.cell p ty]) (hx:a.tmps.getD p undef=.pointer (some ⟨g,0,none⟩))
  (e:TypeId) (hu:P.underlying ty=some (.array 8 e)) (hi:(P.info? ty).map (·.size)=some 8) (hh:Qu w g k) (hd:a.defers = []) (hR:R (.returned (.agg (h8 k))) w):bodyPost P fn R .ret a w:=
 bodyPost_ret (results_cell_row h a.tmps w g _ (h8 k) _ _ hx hh hu rfl (by rw[hi,h8_size])) hd hR
variable {q:Tmp}
theorem ret8t (g:Nat) (k:Hsh) (x:Value) (h:fn.results=#[.cell p ty,.tmp q]) (hx:a.tmps.getD p undef=.pointer (some ⟨g,0,none⟩)) (hq:a.tmps.getD q undef=x)
  (e:TypeId) (hu:P.underlying ty=some (.array 8 e)) (hi:(P.info? ty).map (·.size)=some 8) (hh:Qu w g k) (hd:a.defers = []) (hR:R (.returned (.tuple #[.agg (h8 k),x])) w):bodyPost P fn R .ret a w:=by
 refine bodyPost_ret (v:=.tuple #[.agg (h8 k),x]) ?_ hd hR;rw[results_cell_tmp h];have hl:=run_loadVar_row (P:=P) w g _ ty (h8 k) _ _ hh hu rfl (by rw[hi,h8_size]);simp[hx,hq,asAddr,hl] at *
theorem ret88t {p':Tmp} (g g':Nat) (k k':Hsh) (x:Value) (h:fn.results=#[.cell p ty,.cell p' ty,.tmp q])
  (hx:a.tmps.getD p undef=.pointer (some ⟨g,0,none⟩)) (hx':a.tmps.getD p' undef=.pointer (some ⟨g',0,none⟩)) (hq:a.tmps.getD q undef=x)
  (e:TypeId) (hu:P.underlying ty=some (.array 8 e)) (hi:(P.info? ty).map (·.size)=some 8) (hh:Qu w g k) (hh':Qu w g' k') (hd:a.defers = []) (hR:R (.returned (.tuple #[.agg (h8 k),.agg (h8 k'),x])) w):bodyPost P fn R .ret a w:=by
 refine bodyPost_ret (v:=.tuple #[.agg (h8 k),.agg (h8 k'),x]) ?_ hd hR;have hl:=run_loadVar_row (P:=P) w g _ ty (h8 k) _ _ hh hu rfl (by rw[hi,h8_size]);have hl':=run_loadVar_row (P:=P) w g' _ ty (h8 k') _ _ hh' hu rfl (by rw[hi,h8_size]);simp only[results,h];simp only[Array.getD_eq_getD_getElem?] at hx hx' hq;simp[hx,hx',hq,asAddr,hl,hl']
def zero8:Hsh:=#v[0,0,0,0,0,0,0,0]
theorem Qlu:h8 zero8=zc:=by simp[h8,zero8]
theorem Qtv (w:World):Qu (w.alloc (.cells zc 109)) w.heap.size zero8:=by rw[←Qlu];exact Qeo w zero8
theorem Qe (e:g=w.heap.size):Qu (w.alloc (.cells zc 109)) g zero8:=by subst e;exact Qtv w
theorem Qm2 (hw:Region.wanted o (yielded ops a.tmps)=true) (src dst:TypeId) (x:Operand)
  (ho:o.op=.convert src dst x) (e:TypeId) (hs:P.underlying src=some (.slice e)) (he:P.underlying e=some (.int .u8)) (hd:P.underlying dst=some .string)
  (v:Value) (l:List UInt8) (hx:a.eval x=v) (hb:Q6 w v l)
  (h:wpList P ops Q rest (a.put o.dst (.string ⟨l.toArray⟩)) w):wpList P ops Q (o :: rest) a w:=by
 refine BigFrame.wpList_want hw fun K' hK'=>?_
 obtain⟨ad,c,rfl,_,hc⟩:=hb;have hr:(convert src dst (.slice ad l.length c)).run P w=.ok (.string ⟨l.toArray⟩) w:=by
  cases l with
  | nil=>
   rw[run_convert_bytes_string w src dst e ad _ c hs he hd];cases ad <;> simp[Conv.bytesToString,loadCells,loadCellsFrom] <;> rfl
  | cons x l=>
   obtain⟨b,off,rfl,_⟩:=hc 0 (u8 x) (by simp);refine run_convert_bytes_back w src dst e ⟨b,off,none⟩ c (x :: l) hs he hd fun j hj=>?_
   obtain⟨b',off',heq,hcell⟩:=hc j (u8 (x :: l)[j]) (by rw[List.getElem?_map,List.getElem?_eq_getElem hj];rfl);cases heq;rw[Addr.add_lit];exact hcell
 unfold Oper.wp execOp;simp only[ho,hx,Sem.run_bind,Sem.run_pure,Result.andThen_ok,hr];exact hK' _ _ h
def Is8 (w:World) (g:Nat):Prop:=∃ h,Qu w g h
theorem Q9 (h:g=w.heap.size):Is8 (w.alloc (.cells zc 109)) g:=⟨zero8,Qe h⟩
theorem Qj (h:Is8 w g) (k:Hsh):Qu (w.setRow g (h8 k)) g k:=by obtain⟨_,hh⟩:=h;exact Qy hh k
variable {b:World}
theorem Qar {a c:World} {row:Option Nat} (h:a.grownBy b row) (k:b.grownBy c row):a.grownBy c row:=
 ⟨k.os.trans h.os,k.tape.trans h.tape,k.output.trans h.output,Nat.le_trans h.size k.size,fun i hi hr=>(k.block i (Nat.lt_of_lt_of_le hi h.size) hr).trans (h.block i hi hr)⟩
theorem Qfe {a:World} (h:Below a.heap.size a b) (row:Option Nat):a.grownBy b row:=⟨h.os,h.tape,h.output,h.size,fun k hk _=>h.block k hk⟩
theorem Y3 (hgd:o.guard=none) (s x:Operand) (t:TypeId)
  (ho:o.op=.call { callee:=.builtin .append,args:=#[s,x],argTypes:=#[t,t] })
  (base:Nat) (e:TypeId) (i:TypeInfo) (z:Value) (bytes:Nat) (ht:P.underlying t=some (.slice e)) (hi:P.info? e=some i) (hz:i.zero=some z)
  (hsize:i.size=1) (hby:i.bytes=bytes) (hzs:z.cells.size=1) (hbb:bytes≤64)
  (v:Value) (n:Nat) (xs:List Value) (hs:a.eval s=v) (hown:w.ownsRow base e 1 v n xs) (u:Value)
  (hx:a.eval x=.slice (some ⟨w.heap.size,0,none⟩) 1 1) (h1:u.oneCell'=true)
  (hn:n≤1099511627776) (hbase:base≤w.heap.size)
  (h:∀ v' w',w'.ownsRow base e 1 v' (n+1) (xs ++ [u])→w.grownBy w' v.ownBlock→(v'≠.slice none 0 0)→wpList P ops Q rest (a.put o.dst v') w') :
  wpList P ops Q (o :: rest) a (w.alloc (.cells #[u] e)):=by
 refine wpList_append_own _ hgd s x t ho base e i z 1 bytes ht hi hz hsize hby hzs (by decide) v n xs hs (hown.alloc _) ⟨w.heap.size,0,none⟩ 1 1 [u] hx rfl (cell_one_new _ _ _) (by simpa using h1) (by unfold maxLen;omega) ?_ (by simp;omega) fun v' w' h2 h3 h4=>?_
 ·refine Nat.le_trans (Nat.mul_le_mul_left _ hbb) ?_
  omega
 ·exact h v' w' h2 (Qar (World.grownBy_alloc w _ _) h3) (by simp[h4])
theorem Qtc (hgd:o.guard=none) (s x:Operand) (t:TypeId)
  (ho:o.op=.call { callee:=.builtin .append,args:=#[s,x],argTypes:=#[t,t] })
  (base:Nat) (i:TypeInfo) (ht:P.underlying t=some (.slice 109)) (hi:P.info? 109=some i) (hz:i.zero=some (.agg (h8 zero8)))
  (hsize:i.size=8) (hby:i.bytes=8)
  (v:Value) (hs:List Hsh) (hsv:a.eval s=v) (hown:w.ownsRow base 109 8 v hs.length (hs.flatMap fun h=>(h8 h).toList)) (h:Hsh)
  (hx:a.eval x=.slice (some ⟨w.heap.size,0,none⟩) 1 1)
  (hn:hs.length≤1099511627776) (hbase:base≤w.heap.size)
  (hk:∀ v' w',w'.ownsRow base 109 8 v' (hs ++ [h]).length ((hs ++ [h]).flatMap fun h=>(h8 h).toList)→w.grownBy w' v.ownBlock→(v'≠.slice none 0 0)→wpList P ops Q rest (a.put o.dst v') w') :
  wpList P ops Q (o :: rest) a (w.alloc (.cells (h8 h) 109)):=by
 refine wpList_append_own _ hgd s x t ho base 109 i _ 8 8 ht hi hz hsize hby (by simp[Value.cells]) (by decide) v _ _ hsv (hown.alloc _) ⟨w.heap.size,0,none⟩ 1 1 (h8 h).toList hx (by simp) (fun j u hu=>?_) (fun u hu=>?_) (by unfold maxLen;omega) (by omega) (by simp;omega) fun v' w' h2 h3 h4=>?_
 ·rw[Addr.add_lit,World.cell?_alloc_at _ _ _ _ rfl]
  simpa using hu
 ·have:=Qoz h
  rw[Array.all_eq_true'] at this;exact this u (by simpa using hu)
 ·exact hk v' w' (by simpa using h2) (Qar (World.grownBy_alloc w _ _) h3) (by simp[h4])
theorem Y8.grow {v' u:Value} {vs:List Value} (h:w.ownsRow base 94 1 v ls.length vs)
  (hj:∀ (j:Nat) (u:Value) (l:List UInt8),vs[j]?=some u→ls[j]?=some l→Qz w base u l) (hu:Qz w base u l)
  (h':w'.ownsRow base 94 1 v' (ls.length+1) (vs ++ [u])) (hg:w.grownBy w' v.ownBlock):Y8 w' base v' (ls ++ [l]):=by
 have hlen:vs.length=ls.length:=by simpa using h.1
 have hs:∀ (k:Nat) (C:Array Value) (fz:Nat×Nat),w.heap[k]?=some (Obj.cells C 5 fz)→w'.heap[k]?=w.heap[k]?:=fun k C fz hk=>Qh4 h hg (by decide) hk
 refine⟨vs ++ [u],by simpa using h',fun j u' l' hu' hl'=>?_⟩;by_cases hlt:j<vs.length
 ·rw[List.getElem?_append_left hlt] at hu'
  rw[List.getElem?_append_left (by omega)] at hl';exact (hj j u' l' hu' hl').same hs
 ·rw[List.getElem?_append_right (by omega)] at hu' hl'
  by_cases hz:j-vs.length=0
  ·have hz':j-ls.length=0:=by omega
   simp[hz] at hu';simp[hz'] at hl';subst hu' hl';exact hu.same hs
  ·simp[List.getElem?_eq_none (show [u].length≤j-vs.length by simp;omega)] at hu'
end
section
structure Fr (S:Nat→Prop) (w w':World):Prop where
 os:w'.os=w.os
 tape:w'.tape=w.tape
 output:w'.output=w.output
 size:w.heap.size≤w'.heap.size
 block:∀ k,k<w.heap.size→¬ S k→w'.heap[k]?=w.heap[k]?
theorem Fr.refl (S:Nat→Prop) (w:World):Fr S w w:=⟨rfl,rfl,rfl,Nat.le_refl _,fun _ _ _=>rfl⟩
variable {S:Nat→Prop} {a b c:World}
theorem Fr.trans (h:Fr S a b) (k:Fr S b c):Fr S a c:=
 ⟨k.os.trans h.os,k.tape.trans h.tape,k.output.trans h.output,Nat.le_trans h.size k.size,fun i hi hs=>(k.block i (Nat.lt_of_lt_of_le hi h.size) hs).trans (h.block i hi hs)⟩
variable {T:Nat→Prop} {w w':World}
theorem Fr.weak (h:Fr S w w') (hST:∀ k,k<w.heap.size→S k→T k):Fr T w w':=
 ⟨h.os,h.tape,h.output,h.size,fun k hk ht=>h.block k hk fun hs=>ht (hST k hk hs)⟩
theorem Fr.step (h:Fr S a b) (k:Fr T b c) (hT:∀ i,i<a.heap.size→T i→S i):Fr S a c:=
 ⟨k.os.trans h.os,k.tape.trans h.tape,k.output.trans h.output,Nat.le_trans h.size k.size,fun i hi hs=>(k.block i (Nat.lt_of_lt_of_le hi h.size) fun ht=>hs (hT i hi ht)).trans (h.block i hi hs)⟩
theorem Fr.ofBelow (h:Below w.heap.size w w'):Fr S w w':=⟨h.os,h.tape,h.output,h.size,fun k hk _=>h.block k hk⟩
theorem Fr.ofGrown {r:Option Nat} (h:w.grownBy w' r) (hr:∀ k,k<w.heap.size→r=some k→S k):Fr S w w':=
 ⟨h.os,h.tape,h.output,h.size,fun k hk hs=>h.block k hk fun e=>hs (hr k hk e.symm)⟩
theorem Fr.below (h:Fr S w w') {B:Nat} (hB:B≤w.heap.size) (hS:∀ k,k<B→¬ S k):Below B w w':=⟨h.os,h.tape,h.output,h.size,fun k hk=>h.block k (by omega) (hS k hk)⟩
variable {p:Addr}
theorem Fr.cell (h:Fr S w w') {v:Value} (hv:w.cell? p=some v) (hs:¬ S p.block):w'.cell? p=some v:=
 (World.cell?_of_block (w:=w) (h.block p.block (Qk hv) hs)).trans hv
theorem Fr.frozen (h:Fr S w w') (hb:p.block<w.heap.size) (hs:¬ S p.block):w'.frozen? p=w.frozen? p:=World.frozen?_of_block (w:=w) (h.block p.block hb hs)
variable {o:Obj}
theorem Fr.heap (h:Fr S w w') {k:Nat} (hv:w.heap[k]?=some o) (hs:¬ S k):w'.heap[k]?=some o:=(h.block k (Qc hv) hs).trans hv
theorem Fr.setCell1 (w:World) (p:Addr) (u:Value):Fr (·=p.block) w (w.setCell p u):=
 ⟨rfl,rfl,rfl,by simp[World.setCell],fun _ _ hs=>Below.heap_setCell _ _ _ _ hs⟩
theorem Fr.setCell (h:Fr S a w) (hp:p.block<a.heap.size→S p.block) (u:Value):Fr S a (w.setCell p u):=
 h.step (Fr.setCell1 w p u) fun i hi e=>by subst e;exact hp hi
theorem Fr.alloc (h:Fr S a w) (o:Obj):Fr S a (w.alloc o):=h.trans (Fr.ofBelow (Qa w o))
theorem Fr.drew (h:Fr S a w):Fr S a w.drew:=h.trans (Fr.ofBelow (Ql w))
theorem Fr.drewN (h:Fr S a w) (n:Nat):Fr S a (w.drewN n):=⟨h.os,h.tape,h.output,h.size,h.block⟩
variable {g:Nat} {cs:Array Value} {t:TypeId}
theorem heap_setCell {i:Nat} {fz:Nat×Nat} (h:w.heap[g]?=some (.cells cs t fz)) (u:Value) :
  (w.setCell ⟨g,i,none⟩ u).heap[g]?=some (.cells (cs.setIfInBounds i u) t fz):=by
 simp[World.setCell,Array.getElem?_modify,h]
theorem Jg (h:w.heap[g]?=some o) (hne:g≠p.block) (u:Value):(w.setCell p u).heap[g]?=some o:=
 (Below.heap_setCell _ _ _ _ hne).trans h
theorem Qu4 {x:Obj} (h:w.heap[g]?=some x) (o:Obj):(w.alloc o).heap[g]?=some x:=(heap_alloc_old _ _ (Qc h)).trans h
theorem Qd (h:w.heap[g]?=some (.cells cs t (0,0))) (i:Nat) {u:Value} (hu:cs[i]?=some u):w.cell? ⟨g,i,none⟩=some u:=by rw[cell_of_row w g i cs t (0,0) h,hu]
theorem Qq (h:w.heap[g]?=some (.cells cs t (0,0))) (i:Nat):w.frozen? ⟨g,i,none⟩=false:=by simp[World.frozen?,h]
theorem Fr.set1 (w:World) (g i:Nat) (u:Value):Fr (·=g) w (w.setCell ⟨g,i,none⟩ u):=Fr.setCell1 w ⟨g,i,none⟩ u
theorem Fr.set (h:Fr (·=g) a w) (i:Nat) (u:Value):Fr (·=g) a (w.setCell ⟨g,i,none⟩ u):=h.trans (Fr.set1 w g i u)
end
section
structure Dk where
 files:List (ByteArray×ByteArray)
 calls:Nat
 failAt:Int
 dead:Bool
 once:Bool
 half:Bool
 hit:Bool
 turned:Bool
def Jt (f:ByteArray×ByteArray):List Value:=[.string f.1,.string f.2]
def Zh (l:List (ByteArray×ByteArray)):List Value:=l.flatMap Jt
def Js (v:Value) (d:Dk):Array Value:=#[v,.int .i64 d.calls,.int .i64 d.failAt,.bool d.dead,.bool d.once,.bool d.half,.bool d.hit,.bool d.turned]
def Q3 (w:World) (g:Nat) (v:Value) (d:Dk):Prop:=
 w.heap[g]?=some (.cells (Js v d) 41 (0,0))∧w.ownsRow 0 73 2 v d.files.length (Zh d.files)
def dkS (g:Nat) (v:Value) (k:Nat):Prop:=k=g∨v.ownBlock=some k
theorem Y7 (l:List (ByteArray×ByteArray)):(Zh l).length=l.length*2:=by
 induction l with
 | nil=>rfl
 | cons a l ih=>simp only[Zh,List.flatMap_cons,List.length_append,List.length_cons] at ih ⊢;rw[ih];simp[Jt];omega
theorem J8:∀ (l:List (ByteArray×ByteArray)) (j:Nat) (f:ByteArray×ByteArray),l[j]?=some f→(Zh l)[j*2]?=some (.string f.1)∧(Zh l)[j*2+1]?=some (.string f.2)
 | [],j,f,h=>by simp at h
 | a :: l,0,f,h=>by simp at h;subst h;exact⟨rfl,rfl⟩
 | a :: l,j+1,f,h=>by
   have:=J8 l j f (by simpa using h)
   have e:(Zh (a :: l))=.string a.1 :: .string a.2 :: Zh l:=rfl
   rw[e,show (j+1)*2=j*2+1+1 by omega]
   simpa using this
variable {w:World} {g:Nat} {v:Value} {d:Dk}
theorem Q3.parts (h:Q3 w g v d):v.ownBlock≠some g:=by
 intro e;rcases h.2.2 with ⟨rfl,_⟩|⟨b,cap,cur,rfl,_,hb,_⟩
 ·simp[Value.ownBlock] at e
 ·simp[Value.ownBlock] at e
  subst e
  have:=h.1
  rw[hb] at this;simp at this
theorem Q3.lt (h:Q3 w g v d):g<w.heap.size:=Qc h.1
variable {w':World}
theorem Q3.below (h:Q3 w g v d) (hb:Below w.heap.size w w'):Q3 w' g v d:=
 ⟨(hb.block g h.lt).trans h.1,Qn h.2 hb⟩
variable {S:Nat→Prop}
theorem Q3.fr (h:Q3 w g v d) (hf:Fr S w w') (hS:∀ k,dkS g v k→¬ S k):Q3 w' g v d:=by
 refine⟨hf.heap h.1 (hS g (.inl rfl)),h.2.1,?_⟩;rcases h.2.2 with hn|⟨b,cap,cur,rfl,hbb,hb,hr⟩
 ·exact .inl hn
 ·exact .inr ⟨b,cap,cur,rfl,hbb,hf.heap hb (hS b (.inr rfl)),hr⟩
theorem Q3.cells (h:Q3 w g v d) :
  (w.cell? ⟨g,0,none⟩=some v∧w.cell? ⟨g,1,none⟩=some (.int .i64 d.calls)∧w.cell? ⟨g,2,none⟩=some (.int .i64 d.failAt)∧w.cell? ⟨g,3,none⟩=some (.bool d.dead)∧w.cell? ⟨g,4,none⟩=some (.bool d.once)∧
   w.cell? ⟨g,5,none⟩=some (.bool d.half)∧w.cell? ⟨g,6,none⟩=some (.bool d.hit)∧w.cell? ⟨g,7,none⟩=some (.bool d.turned))∧∀ i,w.frozen? ⟨g,i,none⟩=false:=
 ⟨⟨Qd h.1 0 rfl,Qd h.1 1 rfl,Qd h.1 2 rfl,Qd h.1 3 rfl,Qd h.1 4 rfl,Qd h.1 5 rfl,Qd h.1 6 rfl,Qd h.1 7 rfl⟩,fun i=>Qq h.1 i⟩
def Y1 (d:Dk):Bool:=!d.dead && (decide (0<d.failAt) && decide ((d.calls:Int)+1=d.failAt))
def Zj (d:Dk):Dk:=if Y1 d=true then { d with calls:=d.calls+1,dead:=!d.once,hit:=true } else { d with calls:=d.calls+1 }
def Zr (d:Dk):Nat:=if d.dead=true then 2 else if Y1 d=true then (if d.half=true then 1 else 2) else 0
theorem Zb {base:Nat} {e:TypeId} {size:Nat} {n:Nat} {xs:List Value} (h:w.ownsRow base e size v n xs) (hf:Fr S w w') (hS:∀ k,v.ownBlock=some k→¬ S k):w'.ownsRow base e size v n xs:=by
 refine⟨h.1,?_⟩;rcases h.2 with hn|⟨b,cap,cur,rfl,hbb,hb,hr⟩
 ·exact .inl hn
 ·exact .inr ⟨b,cap,cur,rfl,hbb,hf.heap hb (hS b rfl),hr⟩
theorem Q3.set {d':Dk} (h:Q3 w g v d) (hf:Fr (·=g) w w') (hc:w'.heap[g]?=some (.cells (Js v d') 41 (0,0))) (hfl:d'.files=d.files):Q3 w' g v d':=by refine⟨hc,?_⟩;rw[hfl];exact Zb h.2 hf fun k hk e=>h.parts (by rw[hk,e])
theorem Qur (h:d.dead=true):Zr d=2:=by simp[Zr,h]
theorem Ql1 (w:World) (g:Nat) (v:Value) (d:Dk) (h:Q3 w g v d) (hc:d.calls<1099511627776) :
  Calls prog 252 #[.pointer (some ⟨g,0,none⟩)] w fun e w'=>e=.returned (.int .i64 (Zr d))∧Q3 w' g v (Zj d)∧Fr (·=g) w w':=by
 obtain⟨⟨c0,c1,c2,c3,c4,c5,c6,c7⟩,f0⟩:=h.cells;have HH:=zh h;have hw:wrap64 ((d.calls:Int)+1)=(d.calls:Int)+1:=by unfold wrap64;omega
 clear h;have F1:=Fr.setCell1 w ⟨g,1,none⟩ (.int .i64 ((d.calls:Int)+1));have H1:=heap_setCell (i:=1) HH.o.1 (.int .i64 ((d.calls:Int)+1));have HF:=zh F1;have HH1:=zh H1;clear F1 H1;cases hdead:d.dead with
 | true=>
  rw[hdead] at c3;have HD:=zh hdead;clear hdead
  go_enter func252,ntmps252
  go_wp2;go_ret;exact⟨Qbc (by rw[Qur HD.o];rfl),HH.o.set HF.o (HH1.o.trans (by simp[Js,Zj,Y1,HD.o])) (by simp[Zj,Y1,HD.o]),HF.o⟩
 | false=>
  rw[hdead] at c3;have HD:=zh hdead;clear hdead;cases hgt:decide (0<d.failAt) with
  | true=>
   cases heq:((d.calls:Int)+1 == d.failAt) with
   | false=>
    have hb:Y1 d=false:=by simp[Y1,HD.o];intro _;simpa using heq
    have HFin:=zh (show Zr d=0∧Q3 (w.setCell ⟨g,1,none⟩ (.int .i64 ((d.calls:Int)+1))) g v (Zj d) from
     ⟨by simp[Zr,HD.o,hb],HH.o.set HF.o (HH1.o.trans (by simp[Js,Zj,hb])) (by simp[Zj,hb])⟩)
    clear hb
    go_enter func252,ntmps252
    go_wp2
    go_quiet (fail)
    go_wp2;go_ret;exact⟨Qbc (by rw[HFin.o.1];rfl),HFin.o.2,HF.o.drewN _⟩
   | true=>
    have hb:Y1 d=true:=by
     have h1:=of_decide_eq_true hgt;have h2:(d.calls:Int)+1=d.failAt:=by simpa using heq
     simp[Y1,HD.o,h1,h2]
    have F2:=((Fr.setCell1 w ⟨g,1,none⟩ (.int .i64 ((d.calls:Int)+1))).setCell (p:=⟨g,3,none⟩) (fun _=>rfl) (.bool (!d.once))).setCell (p:=⟨g,6,none⟩) (fun _=>rfl) (.bool true);have H2:=heap_setCell (i:=6) (heap_setCell (i:=3) HH1.o (.bool (!d.once))) (.bool true);have HF2:=zh F2;have HH2:=zh H2;clear F2 H2;cases hhalf:d.half with
    | false=>
     rw[hhalf] at c5;have HFin:=zh (show Zr d=2∧Q3 (((w.setCell ⟨g,1,none⟩ (.int .i64 ((d.calls:Int)+1))).setCell ⟨g,3,none⟩ (.bool (!d.once))).setCell ⟨g,6,none⟩ (.bool true)) g v (Zj d) from
      ⟨by simp[Zr,HD.o,hb,hhalf],HH.o.set HF2.o (HH2.o.trans (by simp[Js,Zj,hb])) (by simp[Zj,hb])⟩)
     clear hb hhalf
     go_enter func252,ntmps252
     go_wp2
     go_quiet (fail)
     go_wp2;go_ret;exact⟨Qbc (by rw[HFin.o.1];rfl),HFin.o.2,HF2.o.drewN _⟩
    | true=>
     rw[hhalf] at c5;have HFin:=zh (show Zr d=1∧Q3 (((w.setCell ⟨g,1,none⟩ (.int .i64 ((d.calls:Int)+1))).setCell ⟨g,3,none⟩ (.bool (!d.once))).setCell ⟨g,6,none⟩ (.bool true)) g v (Zj d) from
      ⟨by simp[Zr,HD.o,hb,hhalf],HH.o.set HF2.o (HH2.o.trans (by simp[Js,Zj,hb])) (by simp[Zj,hb])⟩)
     clear hb hhalf
     go_enter func252,ntmps252
     go_wp2
     go_quiet (fail)
     go_wp2;go_ret;exact⟨Qbc (by rw[HFin.o.1];rfl),HFin.o.2,HF2.o.drewN _⟩
  | false=>
   have hb:Y1 d=false:=by simp[Y1,hgt]
   have HFin:=zh (show Zr d=0∧Q3 (w.setCell ⟨g,1,none⟩ (.int .i64 ((d.calls:Int)+1))) g v (Zj d) from
    ⟨by simp[Zr,HD.o,hb],HH.o.set HF.o (HH1.o.trans (by simp[Js,Zj,hb])) (by simp[Zj,hb])⟩)
   clear hb
   go_enter func252,ntmps252
   go_wp2
   go_quiet (fail)
   go_wp2;go_ret;exact⟨Qbc (by rw[HFin.o.1];rfl),HFin.o.2,HF.o.drewN _⟩
end
section
theorem Q6u:(prog.info? 94).map (fun i=>(i.zero,i.size,i.bytes))=some (some (.slice none 0 0),1,24):=by kernel_rfl
end
section
theorem Qg0 (v1 v2:Value) (s1 s2:List ByteArray) (w:World) (h1:Jd w v1 s1) (h2:Jd w v2 s2) (hn:s1.length≤1048576) :
  Calls prog 61 #[v1,v2] w fun e w'=>e=.returned (.bool (decide (s1=s2)))∧Below w.heap.size w w':=by
 obtain⟨a1,c1,rfl,hcap1,hc1⟩:=h1;obtain⟨a2,c2,rfl,hcap2,hc2⟩:=h2;by_cases hl:s1.length=s2.length
 ·have hd:((s1.length:Int) != (s2.length:Int))=false:=by rw[hl];simp
  have H1:=zh hc1;have H2:=zh hc2;have HL:=zh hl;have hn2:s2.length≤1048576:=by omega
  clear hc1 hc2 hl
  go_enter func61,ntmps61
  go_wp2
  go_loopw [5] (fun i wr=>∃ (k n:Nat),k≤s1.length∧i=.int .i64 k∧wr=w.drewN n∧s1.take k=s2.take k) (fun i _=>s1.length-(intOf i).toNat)
  case atStart=>exact⟨0,0,by omega,rfl,rfl,rfl⟩
  case round=>
   obtain⟨k,nd,hk,rfl,rfl,heq⟩:=hrel;have HEQ:=zh heq;clear heq;by_cases hlt:k<s1.length
   ·obtain⟨x,hx⟩:∃ s,s1[k]?=some s:=⟨_,List.getElem?_eq_getElem hlt⟩
    obtain⟨y,hy⟩:∃ s,s2[k]?=some s:=⟨_,List.getElem?_eq_getElem (by rw[←HL.o];exact hlt)⟩
    obtain⟨b1,off1,rfl,cell1⟩:=H1.o k (.string x) (by simp[hx]);obtain⟨b2,off2,rfl,cell2⟩:=H2.o k (.string y) (by simp[hy]);have hlt2:k<s2.length:=by rw[←HL.o];exact hlt
    have HX:=zh hx;have HY:=zh hy;have hk0:(0:Int)≤(k:Int):=by omega
    have hk1:(k:Int)<(s1.length:Int):=by omega
    have hk2:(k:Int)<(s2.length:Int):=by omega
    clear hx hy;go_wp2
    go_quiet (fail)
    go_wp2
    ·have hne:(!x.toList == y.toList)=true:=by assumption
     go_ret;refine⟨Qa8 ?_,Za (Za (Below.refl _ _) _) _⟩;rw[eq_comm,decide_eq_false_iff_not];rintro rfl
     have:=HX.o
     rw[HY.o] at this;cases this;simp at hne
    ·have hne:(!x.toList == y.toList)=false:=by assumption
     have hxy:x=y:=by rw[ByteArray.toList_eq,ByteArray.toList_eq] at hne;exact Go.WideShapes.bytes_inj (by simpa using hne)
     subst hxy;go_roundw
     case rel=>exact⟨k+1,_,by omega,by go_num,rfl,by rw[List.take_add_one,List.take_add_one,HEQ.o,HX.o,HY.o]⟩
     case measure=>simp[intOf];omega
   ·go_wp2
    go_ret;have e1:s1.take k=s1:=List.take_of_length_le (by omega);have e2:s2.take k=s2:=List.take_of_length_le (by rw[←HL.o];omega);exact⟨Qa8 (by rw[eq_comm,decide_eq_true_eq,←e1,←e2];exact HEQ.o),Za (Below.refl _ _) _⟩
 ·have hd:((s1.length:Int) != (s2.length:Int))=true:=by rw[bne_iff_ne];omega
  clear hc1 hc2
  go_enter func61,ntmps61
  go_wp2;go_ret;exact⟨Qa8 (by rw[eq_comm,decide_eq_false_iff_not];intro h;exact hl (by rw[h])),Below.refl _ _⟩
theorem Qep {w:World} {v:Value} {l:List UInt8} (hb:Q6 w v l):Sem.run prog (convert 94 9 v) w=.ok (.string ⟨l.toArray⟩) w:=by
 obtain⟨ad,c,rfl,_,hc⟩:=hb;cases l with
 | nil=>
  have h:=run_convert_bytes_string (P:=prog) w 94 9 5 ad 0 c underlying94 underlying5 underlying9;rw[show ([]:List UInt8).length=0 from rfl,h];cases ad <;> simp[Conv.bytesToString,loadCells,loadCellsFrom] <;> rfl
 | cons x l=>
  obtain⟨b,off,rfl,_⟩:=hc 0 (u8 x) (by simp);refine run_convert_bytes_back w 94 9 5 ⟨b,off,none⟩ c (x :: l) underlying94 underlying5 underlying9 fun j hj=>?_
  obtain⟨b',off',heq,hcell⟩:=hc j (u8 (x :: l)[j]) (by rw[List.getElem?_map,List.getElem?_eq_getElem hj];rfl);cases heq;rw[Addr.add_lit];exact hcell
theorem Qh0 (n:Nat) (h:n≤255):(Value.int .u8 (n:Int))=u8 (UInt8.ofNat n):=by
 show _=Value.int .u8 _;rw[UInt8.toNat_ofNat']
 congr 1
 omega
abbrev sOf (l:List UInt8):ByteArray:=⟨l.toArray⟩
theorem Qef (a b:List UInt8):sOf a++sOf b=sOf (a++b):=by apply ByteArray.ext;simp
theorem Qwg (x:UInt8) (r:List UInt8):(ByteArray.mk #[x])++sOf r=sOf (x :: r):=Qef [x] r
variable {a b:ByteArray}
theorem Qao (h:a=b):(a.toList == b.toList)=true:=by subst h;simp
theorem J3 (h:a≠b):(a.toList == b.toList)=false:=by rw[beq_eq_false_iff_ne,ByteArray.toList_eq,ByteArray.toList_eq];intro e;exact h (Go.WideShapes.bytes_inj e)
theorem Qat (s:ByteArray):sOf s.data.toList=s:=by apply ByteArray.ext;simp
theorem Qbo (l:List UInt8):(sOf l).size=l.length:=by simp[ByteArray.size]
theorem Qcw {a b:List UInt8} (h:sOf a=sOf b):a=b:=by
 have:=congrArg (fun x=>x.data.toList) h
 simpa using this
end
section
def Z9 (l:List (ByteArray×ByteArray)) (p:ByteArray):Nat:=l.findIdx fun f=>decide (f.1=p)
def Jk (l:List (ByteArray×ByteArray)) (p:ByteArray):Int:=if Z9 l p<l.length then Z9 l p else -1
variable {l:List (ByteArray×ByteArray)} {p:ByteArray}
theorem Qrj {k:Nat} {f:ByteArray×ByteArray} (hk:l[k]?=some f) (hf:f.1=p)
  (h:∀ j,j<k→∀ y,l[j]?=some y→¬ y.1=p):Jk l p=k:=by
 obtain⟨hlt,rfl⟩:=List.getElem?_eq_some_iff.1 hk;have e:Z9 l p=k:=by
  unfold Z9;rw[List.findIdx_eq hlt];exact⟨by simpa using hf,fun j hj=>by
   have:=h j hj _ (List.getElem?_eq_getElem (by omega))
   simpa using this⟩
 simp[Jk,e,hlt]
theorem Qoi (h:∀ j,j<l.length→∀ y,l[j]?=some y→¬ y.1=p):Jk l p = -1:=by
 have e:Z9 l p=l.length:=by unfold Z9;rw[List.findIdx_eq_length];intro x hx;obtain⟨j,hj,rfl⟩:=List.mem_iff_getElem.1 hx;simpa using h j hj _ (List.getElem?_eq_getElem hj)
 simp[Jk,e]
theorem Q01 (a b:ByteArray):(a.toList == b.toList)=decide (a=b):=by
 by_cases h:a=b
 ·rw[Qao h];simp[h]
 ·rw[J3 h];simp[h]
theorem Qt3 (w:World) (pb:Nat) (p:ByteArray) (hp:w.cell? ⟨pb,0,none⟩=some (.string p)) (f:ByteArray×ByteArray) :
  Calls prog 119 #[.agg #[.string f.1,.string f.2],.pointer (some ⟨pb,0,none⟩)] w fun e w'=>e=.returned (.bool (decide (f.1=p)))∧Below w.heap.size w w':=by
 have hb:pb<w.heap.size:=Qk hp;obtain⟨f1,f2⟩:=f;have e:=Q01 f1 p
 go_enter func119,ntmps119
 go_wp2;go_ret;exact⟨rfl,Qa w _⟩
theorem Qp0 (w:World) (v:Value) (l:List (ByteArray×ByteArray)) (pb:Nat) (p:ByteArray) (hv:w.ownsRow 0 73 2 v l.length (Zh l)) (hp:w.cell? ⟨pb,0,none⟩=some (.string p)) :
  Calls prog 118 #[v,.func (.func 119) #[] #[.pointer (some ⟨pb,0,none⟩)]] w fun e w'=>e=.returned (.int .i64 (Jk l p))∧Below w.heap.size w w':=by
 have eg:∀ args w,(callFunc 119 args).run prog w=.ok (.enter 119 args) w:=enters_of func119 (by kernel_rfl) rfl;obtain⟨a,c,rfl,hc⟩:∃ a c,v=.slice a l.length c∧∀ j x,l[j]?=some x→∃ b,a=some ⟨b,0,none⟩∧w.cell? ⟨b,j*2,none⟩=some (.string x.1)∧w.cell? ⟨b,j*2+1,none⟩=some (.string x.2)∧b<w.heap.size:=by
  rcases hv.2 with ⟨rfl,h0⟩|⟨b,cap,cur,rfl,_,hb,_,_,_,ht⟩
  ·exact⟨none,0,by rw[h0],fun j x hj=>by have:=(List.getElem?_eq_some_iff.1 hj).1;omega⟩
  ·refine⟨some ⟨b,0,none⟩,cap,rfl,fun j x hj=>⟨b,rfl,?_,?_,Qc hb⟩⟩
   ·have h1:=(J8 l j x hj).1
    rw[←ht] at h1;rw[cell_of_row w b _ cur _ _ hb];have h2:=List.getElem?_take_of_lt (l:=cur.toList) (i:=j*2) (j:=l.length*2) (by have:=(List.getElem?_eq_some_iff.1 hj).1;omega);rw[h2] at h1;simpa using h1
   ·have h1:=(J8 l j x hj).2
    rw[←ht] at h1;rw[cell_of_row w b _ cur _ _ hb];have h2:=List.getElem?_take_of_lt (l:=cur.toList) (i:=j*2+1) (j:=l.length*2) (by have:=(List.getElem?_eq_some_iff.1 hj).1;omega);rw[h2] at h1;simpa using h1
 have hmax:l.length≤9223372036854775807:=by
  rcases hv.2 with ⟨_,h0⟩|⟨_,_,_,_,_,_,h1,h2,_⟩
  ·omega
  ·unfold maxLen at h2;omega
 have HC:=zh hc;have HP:=zh hp;clear hc hv hp
 go_enter func118,ntmps118
 go_wp2
 go_loopg [5,8] l.length (fun gg _ s8 wr=>∃ kk:Nat,kk≤l.length∧l.length-kk≤gg∧s8=.int .i64 kk∧Aside (Below w.heap.size w wr)∧Aside (∀ j,j<kk→∀ y,l[j]?=some y→¬ y.1=p))
 case atStart=>exact⟨0,Nat.zero_le _,by omega,rfl,Below.refl _ w,fun j hj=>absurd hj (Nat.not_lt_zero _)⟩
 case round=>
  obtain⟨kk,hkk,hg,rfl,BW,A⟩:=hrel;by_cases hlt:kk<l.length
  ·obtain⟨b,rfl,c1,c2,hb⟩:=HC.o kk _ (List.getElem?_eq_getElem hlt)
   obtain⟨x,hx⟩:∃ x,x=l[kk]:=⟨_,rfl⟩
   rw[←hx] at c1 c2;have hlx:l[kk]?=some x:=by rw[hx,List.getElem?_eq_getElem hlt]
   have d1:wr.cell? ⟨b,kk*2,none⟩=some (.string x.1):=(BW.o.cell (p:=⟨b,kk*2,none⟩) hb).trans c1;have d2:wr.cell? ⟨b,kk*2+1,none⟩=some (.string x.2):=(BW.o.cell (p:=⟨b,kk*2+1,none⟩) hb).trans c2;have hltz:(kk:Int)<(l.length:Int):=by omega
   have hcon:=Qt3 wr pb p ((BW.o.cell (p:=⟨pb,0,none⟩) (Qk HP.o)).trans HP.o) x;have HX:=zh hlx;clear hx hlx c1 c2;cases hq:decide (x.1=p) with
   | true=>
    rw[hq] at hcon;have HQ:=zh hq;clear hq
    go_wp2_with (go_at_fn 119;refine hcon.mono ?_;rintro e w' ⟨rfl,hb'⟩)
    go_ret;exact⟨Qbc (by rw[Qrj HX.o (of_decide_eq_true HQ.o) A.o];rfl),BW.o.trans (hb'.mono BW.o.size)⟩
   | false=>
    rw[hq] at hcon;have HQ:=zh hq;clear hq
    go_wp2_with (go_at_fn 119;refine hcon.mono ?_;rintro e w' ⟨rfl,hb'⟩)
    go_roundg (l.length-(kk+1))
    case measure=>omega
    case rel=>
     refine⟨kk+1,by omega,by omega,by go_num,BW.o.trans (hb'.mono BW.o.size),(show Aside _ from fun j hj y hy=>?_)⟩;by_cases e:j=kk
     ·subst e
      rw[HX.o] at hy;cases hy;exact of_decide_eq_false HQ.o
     ·exact A.o j (by omega) y hy
  ·have hltz:¬ (kk:Int)<(l.length:Int):=by omega
   have:kk=l.length:=by omega
   go_wp2;go_ret;exact⟨Qbc (by rw[Qoi (fun j hj=>A.o j (by omega))];rfl),BW.o⟩
theorem Qi5 (w:World) (g:Nat) (v:Value) (d:Dk) (h:Q3 w g v d) (p:ByteArray) :
  Calls prog 64 #[.pointer (some ⟨g,0,none⟩),.string p] w fun e w'=>e=.returned (.int .i64 (Jk d.files p))∧Below w.heap.size w w':=by
 obtain⟨⟨c0,_⟩,_⟩:=h.cells;have hg:=h.lt;have hcon:=Qp0 (w.alloc (.cells #[.string p] 9)) v d.files w.heap.size p ((h.below (Qa w _)).2) (by simp);clear h
 go_enter func64,ntmps64
 go_wp2_with (go_at_call 118;refine hcon.mono ?_;rintro e w' ⟨rfl,hb'⟩)
 go_ret;exact⟨rfl,(Qa w _).trans (hb'.mono (by simp))⟩
end
section
def J7 (w:World) (v v':Value):Prop:=∀ k,v'.ownBlock=some k→v.ownBlock=some k∨w.heap.size≤k
theorem J7.refl (w:World) (v:Value):J7 w v v:=fun _ h=>.inl h
variable {w:World}
theorem J7.trans {w':World} {a b c:Value} (h:J7 w a b) (k:J7 w' b c) (hs:w.heap.size≤w'.heap.size):J7 w a c:=fun i hi=>by
 rcases k i hi with h1|h1
 ·exact h i h1
 ·exact .inr (Nat.le_trans hs h1)
variable {base size n:Nat} {e:TypeId} {v:Value} {xs:List Value}
theorem Qa3 (h:w.ownsRow base e size v n xs) (hne:v≠.slice none 0 0):∃ g cap,v=.slice (some ⟨g,0,none⟩) n cap∧g<w.heap.size:=by
 rcases h.2 with ⟨rfl,_⟩|⟨g,cap,cur,rfl,_,hg,_⟩
 ·exact absurd rfl hne
 ·exact⟨g,cap,rfl,Qc hg⟩
theorem Zs (h:w.ownsRow base e size v n xs):∃ a cap,v=.slice a n cap:=by
 rcases h.2 with ⟨rfl,rfl⟩|⟨g,cap,cur,rfl,_,hg,_⟩
 ·exact⟨_,_,rfl⟩
 ·exact⟨_,_,rfl⟩
variable {P:Program}
theorem Qkp (w:World) (base:Nat) (t ty e:TypeId) (i:TypeInfo) (z:Value) (size bytes:Nat) (ht:P.underlying t=some (.slice e)) (hi:P.info? e=some i) (hz:i.zero=some z)
  (hsize:i.size=size) (hby:i.bytes=bytes) (v:Value) (n:Nat) (xs:List Value) (hown:w.ownsRow base e size v n xs)
  (a:Addr) (m c:Nat) (news:List Value) (hl:news.length=m*size) (hnews:∀ j u,news[j]?=some u→w.cell? (a.add j)=some u) (h1:∀ u∈news,u.oneCell'=true) (hm:0<m)
  (h63:n+m≤maxLen) (hbytes:(n+m)*bytes≤140737488355328) (v':Value) (w':World)
  (hr:(Builtin.append_ #[t,t] ty #[v,.slice (some a) m c]).run P w=.ok v' w'):J7 w v v':=by
 subst hsize;subst hby;have hsmall:n+m≤9223372036854775807:=by simp only[maxLen] at h63;omega
 rcases hown.2 with ⟨rfl,rfl⟩|⟨g,cap,cur,rfl,hbg,hg,hnc,hcm,hcs,htake⟩
 ·have hr':=run_append_nil (P:=P) w t ty e i z ht hi hz a m c news hl hnews (by omega) (by omega) (by have hb:=hbytes;simp only[Nat.zero_add] at hb;omega)
  rw[hr] at hr';cases hr';intro k hk;simp[Value.ownBlock] at hk;exact .inr (by omega)
 ·by_cases hroom:n+m≤cap
  ·have hfit:n*i.size+news.length≤cur.size:=by rw[hl,hcs,←Nat.add_mul];exact Nat.mul_le_mul_right _ hroom
   have hr':=run_append_room (P:=P) w t ty e i ht hi g n cap cur hg a m c news hl hnews h1 hroom hfit;rw[hr] at hr';cases hr';intro k hk;exact .inl hk
  ·have holds:∀ j u,xs[j]?=some u→w.cell? ((⟨g,0,none⟩:Addr).add j)=some u:=hown.cells (g:=g) rfl
   have hr':=run_append_grow (P:=P) w t ty e i z ht hi hz ⟨g,0,none⟩ n cap xs hown.1 holds a m c news hl hnews (by omega) (by omega) (growslice_fits (by omega) hbytes);rw[hr] at hr';cases hr';intro k hk;simp[Value.ownBlock] at hk;exact .inr (by omega)
variable {ops:Array Oper} {o:Oper} {a:Act} {Q:Exit→Act→World→Prop}
theorem Qbe {rest:List Oper} (hgd:o.guard=none) (s x:Operand) (t:TypeId)
  (ho:o.op=.call { callee:=.builtin .append,args:=#[s,x],argTypes:=#[t,t] })
  (base:Nat) (e:TypeId) (i:TypeInfo) (z:Value) (size bytes:Nat) (ht:P.underlying t=some (.slice e)) (hi:P.info? e=some i) (hz:i.zero=some z)
  (hsize:i.size=size) (hby:i.bytes=bytes) (hzs:z.cells.size=size) (hsz:0<size) (hbb:bytes≤64)
  (v:Value) (n:Nat) (xs:List Value) (hs:a.eval s=v) (hown:w.ownsRow base e size v n xs)
  (ad:Addr) (m c:Nat) (news:List Value) (hx:a.eval x=.slice (some ad) m c) (hl:news.length=m*size) (hnews:∀ j u,news[j]?=some u→w.cell? (ad.add j)=some u) (h1:∀ u∈news,u.oneCell'=true) (hm:0<m)
  (hn:n+m≤1099511627776) (hbase:base≤w.heap.size)
  (h:∀ v' w',w'.ownsRow base e size v' (n+m) (xs++news)→w.grownBy w' v.ownBlock→J7 w v v'→v'≠.slice none 0 0→wpList P ops Q rest (a.put o.dst v') w') :
  wpList P ops Q (o :: rest) a w:=by
 have hbyt:(n+m)*bytes≤140737488355328:=by refine Nat.le_trans (Nat.mul_le_mul_left _ hbb) ?_;omega
 have h63:n+m≤maxLen:=by unfold maxLen;omega
 obtain⟨v',w',hr,h2,h3,h4⟩:=run_append_own (P:=P) w base t o.type e i z size bytes ht hi hz hsize hby hzs hsz v n xs hown ad m c news hl hnews h1 h63 hbyt hbase;have hk:=Qkp (P:=P) w base t o.type e i z size bytes ht hi hz hsize hby v n xs hown ad m c news hl hnews h1 hm h63 hbyt v' w' hr;refine wpList_plain hgd fun K hK=>?_
 unfold Oper.wp execOp;simp only[ho,resolve,invoke,builtin,Sem.run_bind,Sem.run_pure,Result.andThen_ok,List.map_toArray,List.map_cons,List.map_nil,hs,hx,hr];exact hK _ _ (h v' w' h2 h3 hk (fun e=>by have:=(h4.1 e).2;omega))
theorem Qeg {K:Act→World→Prop} {E:Prop} (hg:o.guard=none) (s x:Operand) (t:TypeId)
  (ho:o.op=.call { callee:=.builtin .append,args:=#[s,x],argTypes:=#[t,t] })
  (base:Nat) (e:TypeId) (i:TypeInfo) (z:Value) (size bytes:Nat) (ht:P.underlying t=some (.slice e)) (hi:P.info? e=some i) (hz:i.zero=some z)
  (hsize:i.size=size) (hby:i.bytes=bytes) (hzs:z.cells.size=size) (hsz:0<size) (hbb:bytes≤64)
  (v:Value) (n:Nat) (xs:List Value) (hs:a.eval s=v) (hown:w.ownsRow base e size v n xs)
  (ad:Addr) (m c:Nat) (news:List Value) (hx:a.eval x=.slice (some ad) m c) (hl:news.length=m*size) (hnews:∀ j u,news[j]?=some u→w.cell? (ad.add j)=some u) (h1:∀ u∈news,u.oneCell'=true) (hm:0<m)
  (hn:n+m≤1099511627776) (hbase:base≤w.heap.size)
  (h:∀ v' w',w'.ownsRow base e size v' (n+m) (xs++news)→w.grownBy w' v.ownBlock→J7 w v v'→v'≠.slice none 0 0→K (a.put o.dst v') w') :
  if Region.wanted o (yielded ops a.tmps)=true then Oper.wp P o a w K Q else E:=by
 have hw:Region.wanted o (yielded ops a.tmps)=true:=by simp[Region.wanted,hg]
 rw[if_pos hw];have hbyt:(n+m)*bytes≤140737488355328:=by refine Nat.le_trans (Nat.mul_le_mul_left _ hbb) ?_;omega
 have h63:n+m≤maxLen:=by unfold maxLen;omega
 obtain⟨v',w',hr,h2,h3,h4⟩:=run_append_own (P:=P) w base t o.type e i z size bytes ht hi hz hsize hby hzs hsz v n xs hown ad m c news hl hnews h1 h63 hbyt hbase;have hk:=Qkp (P:=P) w base t o.type e i z size bytes ht hi hz hsize hby v n xs hown ad m c news hl hnews h1 hm h63 hbyt v' w' hr;unfold Oper.wp execOp;simp only[ho,resolve,invoke,builtin,Sem.run_bind,Sem.run_pure,Result.andThen_ok,List.map_toArray,List.map_cons,List.map_nil,hs,hx,hr];exact h v' w' h2 h3 hk (fun e=>by have:=(h4.1 e).2;omega)
end
section
def putF (l:List (ByteArray×ByteArray)) (p b:ByteArray):List (ByteArray×ByteArray):=if Z9 l p<l.length then l.set (Z9 l p) (p,b) else l ++ [(p,b)]
theorem Q8b:(prog.info? 73).map (fun i=>(i.zero,i.size,i.bytes))=some (some (.agg #[.string ⟨#[]⟩,.string ⟨#[]⟩]),2,32):=by kernel_rfl
theorem Qjq:∃ i,prog.info? 73=some i∧i.zero=some (.agg #[.string ⟨#[]⟩,.string ⟨#[]⟩])∧i.size=2∧i.bytes=32:=by
 have h:=Q8b;cases hi:prog.info? 73 with
 | none=>rw[hi] at h;simp at h
 | some i=>rw[hi] at h;simp at h;exact⟨i,rfl,h.1,h.2.1,h.2.2⟩
theorem Qcp (l:List (ByteArray×ByteArray)) (f:ByteArray×ByteArray):Zh (l ++ [f])=Zh l ++ [.string f.1,.string f.2]:=by simp[Zh,Jt]
theorem Qm7:∀ (l:List (ByteArray×ByteArray)) (j:Nat) (f:ByteArray×ByteArray) (b:ByteArray),l[j]?=some f→(Zh l).set (j*2+1) (.string b)=Zh (l.set j (f.1,b))
 | [],j,f,b,h=>by simp at h
 | a :: l,0,f,b,h=>by simp at h;subst h;rfl
 | a :: l,j+1,f,b,h=>by
   have ih:=Qm7 l j f b (by simpa using h)
   have e:∀ a l,(Zh (a :: l))=.string a.1 :: .string a.2 :: Zh l:=fun _ _=>rfl
   rw[List.set_cons_succ,e,e,←ih,show (j+1)*2+1=j*2+1+1+1 by omega]
   rfl
theorem Qea {l:List (ByteArray×ByteArray)} {p:ByteArray} (h:Z9 l p<l.length):(l[Z9 l p]'h).1=p:=by
 have:=List.findIdx_getElem (xs:=l) (p:=fun (f:ByteArray×ByteArray)=>decide (f.1=p)) (w:=h)
 exact of_decide_eq_true this
theorem Qeq (w:World) (x y:Value) (t:TypeId) (n:Nat) (hn:n=w.heap.size):∀ (j:Nat) (u:Value),[x,y][j]?=some u→(w.alloc (.cells #[x,y] t)).cell? ((⟨n,0,none⟩:Addr).add j)=some u:=by intro j u hu;rw[Addr.add_lit,World.cell?_alloc_at _ _ _ _ hn];simpa using hu
theorem Q0m (w:World) (g:Nat) (v:Value) (d:Dk) (h:Q3 w g v d) (p:ByteArray) (dv:Value) (b:List UInt8) (hdv:Q6 w dv b) (hn:d.files.length<1099511627776) :
  Calls prog 253 #[.pointer (some ⟨g,0,none⟩),.string p,dv] w fun e w'=>e=.returned (.tuple #[])∧
   ∃ v',Q3 w' g v' { d with files:=putF d.files p ⟨b.toArray⟩ }∧Fr (dkS g v) w w'∧J7 w v v':=by
 have hcon:=Qi5 w g v d h p;have HH:=zh h;have HD:=zh hdv;have hg:=h.lt;obtain⟨⟨c0,_⟩,f0⟩:=h.cells;clear h hdv;by_cases hf:Z9 d.files p<d.files.length
 ·have hF:Jk d.files p=Z9 d.files p:=by unfold Jk;rw[if_pos hf]
  rw[hF] at hcon;obtain⟨j,hj⟩:∃ j,j=Z9 d.files p:=⟨_,rfl⟩
  rw[←hj] at hcon hf;obtain⟨bk,cap,cur,rfl,hbk,hcs,htk⟩:∃ bk cap cur,v=.slice (some ⟨bk,0,none⟩) d.files.length cap∧w.heap[bk]?=some (.cells cur 73 (0,0))∧d.files.length*2≤cur.size∧cur.toList.take (d.files.length*2)=Zh d.files:=by
   rcases HH.o.2.2 with ⟨_,h0⟩|⟨bk,cap,cur,rfl,_,hb,hnc,_,hcs,ht⟩
   ·omega
   ·exact⟨bk,cap,cur,rfl,hb,by rw[hcs];exact Nat.mul_le_mul_right _ hnc,ht⟩
  have hjz:(0:Int)≤(j:Int):=by omega
  have hjl:(j:Int)<(d.files.length:Int):=by omega
  have hbg:bk≠g:=fun e=>HH.o.parts (by simp[Value.ownBlock,e])
  have hbl:bk<w.heap.size:=Qc hbk;have HBK:=zh hbk;have HJ:=zh hj;obtain⟨x,hx⟩:∃ x,x=d.files[j]'hf:=⟨_,rfl⟩
  have hxj:d.files[j]?=some x:=by rw[hx,List.getElem?_eq_getElem hf]
  have hce:w.cell? ⟨bk,j*2+1,none⟩=some (.string x.2):=by have h1:=(J8 _ j x hxj).2;rw[←htk] at h1;rw[cell_of_row w bk _ cur _ _ hbk];rw[List.getElem?_take_of_lt (by omega)] at h1;simpa using h1
  have HCE:=zh hce;have HFE:=zh (Qq hbk (j*2+1));have HXJ:=zh hxj;have HTK:=zh htk;clear hj hF hbk htk hce hx hxj
  go_enter func253,ntmps253
  go_wp2_with (go_at_call 64;refine hcon.mono ?_;rintro e w1 ⟨rfl,hb1⟩;have HB1:=zh hb1;have k0:=(hb1.cell (p:=⟨g,0,none⟩) hg).trans c0;have k1:=(hb1.cell (p:=⟨bk,j*2+1,none⟩) hbl).trans HCE.o;have k2:=(hb1.frozen (p:=⟨bk,j*2+1,none⟩) hbl).trans HFE.o;have hcv:=Qep (w:=w1.drew) (HD.o.below (hb1.trans ((Ql w1).mono hb1.size)));clear hb1)
  go_region;go_wp2;go_end0;have B1:=HB1.o;refine⟨rfl,_,⟨Jg (p:=⟨bk,j*2+1,none⟩) ((B1.block g hg).trans HH.o.1) (fun e=>hbg e.symm) _,?_⟩,(Fr.ofBelow B1).trans ((Fr.setCell1 w1 ⟨bk,j*2+1,none⟩ _).weak fun k _ hk=>.inr (by rw[hk];rfl)) |>.drew,J7.refl _ _⟩;have hput:putF d.files p ⟨b.toArray⟩=d.files.set j (p,⟨b.toArray⟩):=by unfold putF;rw[if_pos (by rw[←HJ.o];exact hf),←HJ.o]
  have hxp:x.1=p:=by have h1:=Qea (l:=d.files) (p:=p) (by rw[←HJ.o];exact hf);have h2:=HXJ.o;rw[HJ.o,List.getElem?_eq_getElem (by rw[←HJ.o];exact hf)] at h2;rw[←Option.some.inj h2];exact h1
  show World.ownsRow _ 0 73 2 _ (putF d.files p ⟨b.toArray⟩).length (Zh (putF d.files p ⟨b.toArray⟩));rw[hput,List.length_set];refine⟨by rw[Y7,List.length_set],.inr ⟨bk,cap,_,rfl,Nat.zero_le _,heap_setCell ((B1.block bk hbl).trans HBK.o) _,?_⟩⟩;rcases HH.o.2.2 with ⟨e,_⟩|⟨bk',cap',cur',e,_,hb,hnc,hcm,hcz,ht⟩
  ·cases e
  ·cases e
   rw[HBK.o] at hb;cases hb;refine⟨hnc,hcm,by simpa using hcz,?_⟩;rw[Array.toList_setIfInBounds,List.take_set,HTK.o,←hxp];exact Qm7 _ j x _ HXJ.o
 ·have hF:Jk d.files p = -1:=by unfold Jk;rw[if_neg hf]
  rw[hF] at hcon;have hjz:¬ (0:Int)≤(-1:Int):=by omega
  obtain⟨i,hi,hz,hs,hby⟩:=Qjq;have HI:=zh (⟨hi,hz,hs,hby⟩:_∧_∧_∧_);clear hi hz hs hby hF
  go_enter func253,ntmps253
  go_wp2_with (go_at_call 64;refine hcon.mono ?_;rintro e w1 ⟨rfl,hb1⟩;have HB1:=zh hb1;have k0:=(hb1.cell (p:=⟨g,0,none⟩) hg).trans c0;have hg1:g<w1.heap.size:=Nat.lt_of_lt_of_le hg hb1.size;have hcv:=Qep (w:=w1.drew) (HD.o.below (hb1.trans ((Ql w1).mono hb1.size)));clear hb1)
  go_region_law (refine Qeg rfl _ _ _ rfl 0 73 i _ 2 32 underlying39 HI.o.1 HI.o.2.1 HI.o.2.2.1 HI.o.2.2.2 rfl (by decide) (by decide) v d.files.length (Zh d.files) rfl (Qn HH.o.2 (HB1.o.trans (((Ql w1).alloc (Nat.le_refl _) _).mono HB1.o.size))) ⟨w1.heap.size,0,none⟩ 1 1 [.string p,.string ⟨b.toArray⟩] rfl rfl (Qeq _ _ _ _ _ rfl) (by simp[Value.oneCell']) (by decide) (by omega) (Nat.zero_le _) ?_;intro v' w' h2 h3 h4 h5;obtain⟨gb,cp,rfl,hgb⟩:=Qa3 h2 h5;have H2:=zh h2;have H3:=zh ((Fr.ofBelow (S:=fun k=>v.ownBlock=some k) (HB1.o.trans (((Ql w1).alloc (Nat.le_refl _) _).mono HB1.o.size))).trans (Fr.ofGrown h3 fun k _ e=>e));have H4:=zh ((J7.refl w v).trans h4 (Nat.le_trans HB1.o.size (by simp)));have k3:=H3.o.cell c0 HH.o.parts;have k4:=(H3.o.frozen (p:=⟨g,0,none⟩) hg HH.o.parts).trans (f0 0);clear h2 h3 h4 h5)
  all_goals (
   go_wp2
   go_end0
   have hput:putF d.files p ⟨b.toArray⟩=d.files ++ [(p,⟨b.toArray⟩)]:=by unfold putF;rw[if_neg hf]
   have hgw:=H3.o.heap HH.o.1 HH.o.parts
   have hne:gb≠g:=by
    rintro rfl
    rcases H2.o.2 with ⟨e,_⟩|⟨bk,cap',cur',e,_,hb,_⟩
    ·cases e
    ·cases e
     rw[hgw] at hb
     simp at hb
   refine⟨rfl,_,⟨(heap_setCell hgw _).trans (by simp[Js]),?_⟩,(H3.o.weak fun k _ hk=>.inr hk).trans ((Fr.setCell1 w' ⟨g,0,none⟩ _).weak fun k _ hk=>.inl hk),H4.o⟩
   show World.ownsRow _ 0 73 2 _ (putF d.files p ⟨b.toArray⟩).length (Zh (putF d.files p ⟨b.toArray⟩))
   rw[hput,List.length_append,Qcp]
   exact Zb H2.o (Fr.setCell1 w' ⟨g,0,none⟩ _) fun k hk e=>by
    simp[Value.ownBlock] at hk
    exact hne (hk.trans e))
end
section
def Qll (w:World) (base:Nat) (u:Value):Prop:=∃ q n,u=.iface 152 (.pointer (some ⟨q,0,none⟩))∧base≤q∧w.heap[q]?=some (.cells #[.int .i64 n] 366 (0,0))
def getF (l:List (ByteArray×ByteArray)) (p:ByteArray):Option ByteArray:=(l[Z9 l p]?).map (·.2)
variable {l:List (ByteArray×ByteArray)} {p:ByteArray}
theorem Qi3 (h:Z9 l p<l.length):getF l p=some (l[Z9 l p]'h).2:=by simp[getF,List.getElem?_eq_getElem h]
theorem Qdl (h:¬ Z9 l p<l.length):getF l p=none:=by simp[getF,List.getElem?_eq_none (Nat.le_of_not_lt h)]
theorem Ql0 (d:Dk):Zr d=0∨Zr d=1∨Zr d=2:=by unfold Zr;split <;> (try split) <;> (try split) <;> simp
theorem Yy (d:Dk):(Zj d).files=d.files:=by unfold Zj;split <;> rfl
theorem Qkc (d:Dk):(Zj d).calls=d.calls+1:=by unfold Zj;split <;> rfl
variable {w:World} {g:Nat} {v:Value} {d:Dk}
theorem Q3.data (h:Q3 w g v d) {j:Nat} {x:ByteArray×ByteArray} (hx:d.files[j]?=some x) :
  ∃ bk cap,v=.slice (some ⟨bk,0,none⟩) d.files.length cap∧bk<w.heap.size∧bk≠g∧w.cell? ⟨bk,j*2,none⟩=some (.string x.1)∧w.cell? ⟨bk,j*2+1,none⟩=some (.string x.2):=by
 have hlt:=(List.getElem?_eq_some_iff.1 hx).1;have hp:=h.parts;rcases h.2.2 with ⟨_,h0⟩|⟨bk,cap,cur,rfl,_,hb,_,_,_,ht⟩
 ·omega
 ·refine⟨bk,cap,rfl,Qc hb,fun e=>hp (by simp[Value.ownBlock,e]),?_,?_⟩
  ·have h1:=(J8 _ j x hx).1
   rw[←ht,List.getElem?_take_of_lt (by omega)] at h1;rw[cell_of_row w bk _ cur _ _ hb];simpa using h1
  ·have h1:=(J8 _ j x hx).2
   rw[←ht,List.getElem?_take_of_lt (by omega)] at h1;rw[cell_of_row w bk _ cur _ _ hb];simpa using h1
def Q5p (w:World) (g:Nat) (v:Value) (d:Dk) (p:ByteArray) (e:Ending) (w':World):Prop:=
 Q3 w' g v (Zj d)∧Fr (·=g) w w'∧
 ((0<Zr d∧∃ u,e=.returned (.tuple #[.slice none 0 0,u])∧Qll w' w.heap.size u)∨
   (Zr d=0∧∃ s v',getF d.files p=some s∧e=.returned (.tuple #[v',.nilIface])∧Qz w' w.heap.size v' s.data.toList∧∃ b c,v'=.slice (some ⟨b,0,none⟩) s.size c)∨
   (Zr d=0∧getF d.files p=none∧e=.returned (.tuple #[.slice none 0 0,.nilIface])))
theorem Qu1 (w:World) (g:Nat) (v:Value) (d:Dk) (h:Q3 w g v d) (p:ByteArray) (hc:d.calls<1099511627776) :
  Calls prog 249 #[.pointer (some ⟨g,0,none⟩),.string p] w fun e w'=>Q5p w g v d p e w':=by
 have hcon:=Ql1 w g v d h hc;have hg:=h.lt;clear h;obtain⟨k,hk⟩:∃ k,k=Zr d:=⟨_,rfl⟩
 rw[←hk] at hcon;have hk3:=Ql0 d;rw[←hk] at hk3;have HK:=zh hk;clear hk;by_cases h0:0<k
 ·have hz:(0:Int)<(k:Int):=by omega
  go_enter func249,ntmps249
  go_wp2_with (go_at_call 252;refine hcon.mono ?_;rintro e w1 ⟨rfl,hd1,hf1⟩;have HD1:=zh hd1;have HF1:=zh hf1;have c1:=hd1.cells.1.2.1;have hg1:=hd1.lt;clear hd1 hf1)
  go_region;go_wp2;go_ret2;have hb:Below w1.heap.size w1 (w1.alloc (.cells #[.int .i64 ((Zj d).calls:Int)] 366)).drew:=(Qa w1 _).drew;exact⟨HD1.o.below hb,HF1.o.trans (Fr.ofBelow hb),.inl ⟨by rw[←HK.o];exact h0,_,rfl,w1.heap.size,_,rfl,HF1.o.size,heap_alloc_new w1 _⟩⟩
 ·have hz:¬ (0:Int)<(k:Int):=by omega
  have hk0:Zr d=0:=by rw[←HK.o];omega
  have HK0:=zh hk0;have hfc:=fun w1 hd1=>Qi5 w1 g v (Zj d) hd1 p
  rw[Yy] at hfc;clear hk0 hk3;by_cases hf:Z9 d.files p<d.files.length
  ·have hF:Jk d.files p=Z9 d.files p:=by unfold Jk;rw[if_pos hf]
   rw[hF] at hfc;obtain⟨x,hx⟩:∃ x,x=d.files[Z9 d.files p]'hf:=⟨_,rfl⟩
   have hxj:d.files[Z9 d.files p]?=some x:=by rw[hx,List.getElem?_eq_getElem hf]
   have hgf:getF d.files p=some x.2:=by rw[Qi3 hf,hx]
   obtain⟨j,hj⟩:∃ j,j=Z9 d.files p:=⟨_,rfl⟩
   rw[←hj] at hfc hf hxj;have hjz:(0:Int)≤(j:Int):=by omega
   have hjl:(j:Int)<(d.files.length:Int):=by omega
   have HX:=zh hxj;have HG:=zh hgf;clear hj hF hx hxj hgf
   go_enter func249,ntmps249
   go_wp2_with (first|(go_at_call 252;refine hcon.mono ?_;rintro e w1 ⟨rfl,hd1,hf1⟩;have HD1:=zh hd1;have HF1:=zh hf1;clear hd1 hf1)|(go_at_call 64;refine (hfc _ HD1.o).mono ?_;rintro e w2 ⟨rfl,hb2⟩;have HB2:=zh hb2;have hd2:=HD1.o.below hb2;have HD2:=zh hd2;have c0:=hd2.cells.1.1;obtain⟨bk,cap,rfl,hbl,hbg,_,c1⟩:=hd2.data (j:=j) (x:=x) ((by rw[Yy];exact HX.o));rw[Yy] at c0;clear hb2 hd2)|(refine Qde rfl _ _ _ _ rfl underlying9 underlying94 underlying5 rfl _ rfl ?_;rintro v' w3 h1 h2 h3 ⟨b',c',h4⟩;have H1:=zh h1;have H2:=zh h2;subst h4;clear h1 h2 h3))
   go_ret2;exact⟨HD2.o.below H2.o,HF1.o.trans (Fr.ofBelow (HB2.o.trans (H2.o.mono HB2.o.size))),.inr (.inl ⟨HK0.o,x.2,_,HG.o,rfl,H1.o.mono (Nat.le_trans HF1.o.size HB2.o.size),b',c',rfl⟩)⟩
  ·have hF:Jk d.files p = -1:=by unfold Jk;rw[if_neg hf]
   have hgf:=Qdl hf;rw[hF] at hfc;have HG:=zh hgf;clear hF hgf hf
   go_enter func249,ntmps249
   go_wp2_with (first|(go_at_call 252;refine hcon.mono ?_;rintro e w1 ⟨rfl,hd1,hf1⟩;have HD1:=zh hd1;have HF1:=zh hf1;clear hd1 hf1)|(go_at_call 64;refine (hfc _ HD1.o).mono ?_;rintro e w2 ⟨rfl,hb2⟩;have HB2:=zh hb2;clear hb2))
   go_ret2;exact⟨HD1.o.below HB2.o,HF1.o.trans (Fr.ofBelow HB2.o),.inr (.inr ⟨HK0.o,HG.o,rfl⟩)⟩
def Qb2 (d:Dk) (p b:ByteArray):Dk:=if Zr d<2 then { Zj d with files:=putF d.files p b } else Zj d
def Qbl (l:List (ByteArray×ByteArray)) (p b:ByteArray):Bool:=match getF l p with|some x=>decide (x≠b)|none=>false
def putD (d:Dk) (p b:ByteArray):Dk:=if Qbl d.files p b=true then { Zj d with turned:=true } else Qb2 d p b
def Qcs (w:World) (base:Nat) (bad:Bool) (u:Value):Prop:=if bad=true then Qll w base u else u=.nilIface
variable {base:Nat} {b:Bool}
theorem Qcs.bad {u:Value} (h:Qll w base u) (hb:b=true):Qcs w base b u:=by subst hb;exact h
theorem Qcs.fine (hb:b=false):Qcs w base b .nilIface:=by subst hb;rfl
theorem Q3.noByte (h:Q3 w g v d) (i:Nat) (x:UInt8):w.cell? ⟨g,i,none⟩≠some (u8 x):=by
 obtain⟨a,c,rfl⟩:=Zs h.2;rw[cell_of_row w g i _ _ _ h.1]
 match i with
 | 0=>simp[Js,u8]
 | 1=>simp[Js,u8]
 | 2=>simp[Js,u8]
 | 3=>simp[Js,u8]
 | 4=>simp[Js,u8]
 | 5=>simp[Js,u8]
 | 6=>simp[Js,u8]
 | 7=>simp[Js,u8]
 | i+8=>simp[Js]
theorem Q3.bytes {w':World} (h:Q3 w g v d) (hf:Fr (·=g) w w') {dv:Value} {b:List UInt8} (hb:Q6 w dv b):Q6 w' dv b:=by obtain⟨a,c,hv,hl,hc⟩:=hb;refine⟨a,c,hv,hl,fun j x hx=>?_⟩;obtain⟨q,off,ha,hcell⟩:=hc j x hx;refine⟨q,off,ha,hf.cell hcell ?_⟩;rintro rfl;obtain⟨y,_,rfl⟩:=List.mem_map.1 (List.mem_of_getElem? hx);exact h.noByte _ _ hcell
theorem Qit (w:World) (n:Int) (base:Nat) (hb:base≤w.heap.size):Qll (w.alloc (.cells #[.int .i64 n] 366)) base (.iface 152 (.pointer (some ⟨w.heap.size,0,none⟩))):=
 ⟨w.heap.size,n,rfl,hb,heap_alloc_new w _⟩
theorem Q1g (w:World) (n:Int) (base q:Nat) (hb:base≤w.heap.size) (hq:q=w.heap.size):Qll (w.alloc (.cells #[.int .i64 n] 366)) base (.iface 152 (.pointer (some ⟨q,0,none⟩))):=by subst hq;exact Qit w n base hb
theorem Q3g (w:World) (g:Nat) (v:Value) (d:Dk) (h:Q3 w g v d) (p:ByteArray) (dv:Value) (b:List UInt8) (hdv:Q6 w dv b) (hc:d.calls<1099511627776) (hn:d.files.length<1099511627776) :
  Calls prog 251 #[.pointer (some ⟨g,0,none⟩),.string p,dv] w fun e w'=>∃ u,e=.returned u∧Qcs w' w.heap.size (decide (0<Zr d)) u∧∃ v',Q3 w' g v' (Qb2 d p ⟨b.toArray⟩)∧Fr (dkS g v) w w'∧J7 w v v':=by
 have hcon:=Ql1 w g v d h hc;have hg:=h.lt;have HH:=zh h;have HD:=zh hdv;clear h hdv;have hset:=fun w1 (hd1:Q3 w1 g v (Zj d)) (hb:Q6 w1 dv b)=>Q0m w1 g v (Zj d) hd1 p dv b hb (by rw[Yy];exact hn)
 rw[Yy] at hset;rcases Ql0 d with hk|hk|hk
 ·rw[hk] at hcon
  have HK:=zh hk;have hkc:((0:Nat):Int)=0:=rfl;rw[hkc] at hcon;clear hk hkc
  go_enter func251,ntmps251
  go_wp2_with (first|(go_at_call 252;refine hcon.mono ?_;rintro e w1 ⟨rfl,hd1,hf1⟩;have HD1:=zh hd1;have HF1:=zh hf1;clear hd1 hf1)|(go_at_call 253;refine (hset _ HD1.o (HH.o.bytes HF1.o HD.o)).mono ?_;rintro e w2 ⟨rfl,v2,hd2,hf2,hm2⟩;have HD2:=zh hd2;have HF2:=zh hf2;have HM2:=zh hm2;clear hd2 hf2 hm2))
  go_ret;refine⟨_,rfl,Qcs.fine (by rw[HK.o];rfl),v2,?_,(HF1.o.weak fun k _ hk=>.inl hk).trans HF2.o,fun k hk=>(HM2.o k hk).imp id (Nat.le_trans HF1.o.size)⟩;rw[Qb2,HK.o];exact HD2.o
 ·rw[hk] at hcon
  have HK:=zh hk;have hkc:((1:Nat):Int)=1:=rfl;rw[hkc] at hcon;clear hk hkc
  go_enter func251,ntmps251
  go_wp2_with (first|(go_at_call 252;refine hcon.mono ?_;rintro e w1 ⟨rfl,hd1,hf1⟩;have HD1:=zh hd1;have HF1:=zh hf1;clear hd1 hf1)|(go_at_call 253;refine (hset _ HD1.o (HH.o.bytes HF1.o HD.o)).mono ?_;rintro e w2 ⟨rfl,v2,hd2,hf2,hm2⟩;have HD2:=zh hd2;have HF2:=zh hf2;have HM2:=zh hm2;have c1:=hd2.cells.1.2.1;clear hd2 hf2 hm2))
  go_ret;have hsz:w.heap.size≤w2.heap.size:=Nat.le_trans HF1.o.size HF2.o.size;refine⟨_,rfl,Qcs.bad (Qit w2 _ _ hsz) (by rw[HK.o];rfl),v2,?_,((HF1.o.weak fun k _ hk=>.inl hk).trans HF2.o).alloc _,fun k hk=>(HM2.o k hk).imp id (Nat.le_trans HF1.o.size)⟩;rw[Qb2,HK.o];exact HD2.o.below (Qa _ _)
 ·rw[hk] at hcon
  have HK:=zh hk;have hkc:((2:Nat):Int)=2:=rfl;rw[hkc] at hcon;clear hk hkc
  go_enter func251,ntmps251
  go_wp2_with (first|(go_at_call 252;refine hcon.mono ?_;rintro e w1 ⟨rfl,hd1,hf1⟩;have HD1:=zh hd1;have HF1:=zh hf1;have c1:=hd1.cells.1.2.1;clear hd1 hf1))
  go_ret;refine⟨_,rfl,Qcs.bad (Qit w1 _ _ HF1.o.size) (by rw[HK.o];rfl),v,?_,(HF1.o.weak fun k _ hk=>.inl hk).alloc _,J7.refl _ _⟩;rw[Qb2,HK.o];exact HD1.o.below (Qa _ _)
end
section
variable {l:List (ByteArray×ByteArray)} {p b:ByteArray}
theorem Qxu (h:¬ Z9 l p<l.length):Qbl l p b=false:=by simp[Qbl,Qdl h]
theorem Q2d {x:ByteArray×ByteArray} (h:l[Z9 l p]?=some x):Qbl l p b=decide (x.2≠b):=by simp[Qbl,getF,h]
theorem Q6h (w:World) (g:Nat) (v:Value) (d:Dk) (h:Q3 w g v d) (p:ByteArray) (dv:Value) (b:List UInt8) (hdv:Q6 w dv b) (hc:d.calls<1099511627776) (hn:d.files.length<1099511627776) :
  Calls prog 250 #[.pointer (some ⟨g,0,none⟩),.string p,dv] w fun e w'=>∃ u,e=.returned u∧Qcs w' w.heap.size (Qbl d.files p ⟨b.toArray⟩ || decide (0<Zr d)) u∧∃ v',Q3 w' g v' (putD d p ⟨b.toArray⟩)∧Fr (dkS g v) w w'∧J7 w v v':=by
 have hcon:=Ql1 w g v d h hc;have hg:=h.lt;have HH:=zh h;have HD:=zh hdv;clear h hdv;have hset:=fun w1 (hd1:Q3 w1 g v (Zj d)) (hb:Q6 w1 dv b)=>Q0m w1 g v (Zj d) hd1 p dv b hb (by rw[Yy];exact hn)
 have hfc:=fun w1 hd1=>Qi5 w1 g v (Zj d) hd1 p
 rw[Yy] at hset hfc;obtain⟨k,hk⟩:∃ k,k=Zr d:=⟨_,rfl⟩
 have hk3:=Ql0 d;rw[←hk] at hcon hk3;have HK:=zh hk;clear hk
 go_enter func250,ntmps250
 go_upto_region 3 with (first|(go_at_call 252;refine hcon.mono ?_;rintro e w1 ⟨rfl,hd1,hf1⟩;have HD1:=zh hd1;have HF1:=zh hf1;clear hd1 hf1)|(go_at_call 64;refine (hfc _ HD1.o).mono ?_;rintro e w2 ⟨rfl,hb2⟩;have HB2:=zh hb2;have HD2:=zh (HD1.o.below hb2);have HF2:=zh (HF1.o.trans (Fr.ofBelow hb2));clear hb2))
 go_cut [8,13,28] from 14 (fun _ _ c wx=>c=.bool (Qbl d.files p ⟨b.toArray⟩)∧Q3 wx g v (Zj d)∧Fr (·=g) w wx)
 case first=>
  have hd2:=HD2.o;have c0:=hd2.cells.1.1;have hcv:=fun n=>Qep (w:=w2.drewN n) ((HH.o.bytes HF2.o HD.o).below (Za (Below.refl _ w2) n))
  by_cases hf:Z9 d.files p<d.files.length
  ·have hF:Jk d.files p=Z9 d.files p:=by unfold Jk;rw[if_pos hf]
   obtain⟨x,hx⟩:∃ x,x=d.files[Z9 d.files p]'hf:=⟨_,rfl⟩
   have hxj:d.files[Z9 d.files p]?=some x:=by rw[hx,List.getElem?_eq_getElem hf]
   have hcl:=Q2d (b:=⟨b.toArray⟩) hxj;obtain⟨bk,cap,rfl,hbl,hbg,_,c1⟩:=hd2.data (x:=x) (by rw[Yy];exact hxj);rw[Yy] at c0;obtain⟨j,hj⟩:∃ j,j=Z9 d.files p:=⟨_,rfl⟩
   rw[hF];rw[←hj] at c1 hf ⊢;have hjz:decide ((0:Int)≤(j:Int))=true:=by simp
   have hjl:(j:Int)<(d.files.length:Int):=by omega
   have hj0:(0:Int)≤(j:Int):=by omega
   have hq:(x.2.toList == b)=decide (x.2=⟨b.toArray⟩):=by have:=Q01 x.2 ⟨b.toArray⟩;simpa using this
   have HQ:=zh hq;have HCL:=zh hcl;clear hj hF hx hxj hcl hd2
   go_quiet (fail)
   go_wp2_with fail
   go_meet;exact⟨by rw[HCL.o];simp[HQ.o],HD2.o.below (Za (Below.refl _ w2) _),HF2.o.drewN _⟩
  ·have hF:Jk d.files p = -1:=by unfold Jk;rw[if_neg hf]
   have HCL:=zh (Qxu (b:=⟨b.toArray⟩) hf);rw[hF];have hjz:decide ((0:Int)≤(-1:Int))=false:=by decide
   clear hF hf hd2
   go_quiet (fail)
   go_wp2_with fail
   go_meet;exact⟨by rw[HCL.o],HD2.o.below (Za (Below.refl _ w2) _),HF2.o.drewN _⟩
 case rest=>
  obtain⟨rfl,hdc,hfc'⟩:=hcut;have HDC:=zh hdc;have HFC:=zh hfc';have c1:=hdc.cells.1.2.1;have hgc:=hdc.lt;have hfz:=hdc.cells.2 7;have c7:=hdc.cells.1.2.2.2.2.2.2.2;clear hdc hfc';cases hcl:Qbl d.files p ⟨b.toArray⟩ with
  | true=>
   have HCL:=zh hcl;have hne:(⟨g,7,none⟩:Addr)≠⟨g,1,none⟩:=by simp
   clear hcl
   go_wp2_with fail
   go_ret;refine⟨_,rfl,Qcs.bad (b:=Qbl d.files p ⟨b.toArray⟩ || decide (0<Zr d)) (Q1g (wc.setCell ⟨g,7,none⟩ (.bool true)) _ _ _ (by simpa using HFC.o.size) (by simp)) (by rw[HCL.o];rfl),v,?_,((HFC.o.weak fun k _ hk=>.inl hk).setCell (p:=⟨g,7,none⟩) (fun _=>.inl rfl) _).alloc _,J7.refl _ _⟩;refine Q3.below (w:=wc.setCell ⟨g,7,none⟩ (.bool true)) ?_ (Qa _ _);rw[putD,if_pos HCL.o];exact HDC.o.set (Fr.setCell1 wc ⟨g,7,none⟩ _) ((heap_setCell HDC.o.1 _).trans (by simp[Js])) rfl
  | false=>
   have HCL:=zh hcl;clear hcl;have hp:putD d p ⟨b.toArray⟩=Qb2 d p ⟨b.toArray⟩:=by rw[putD,if_neg (by rw[HCL.o];decide)]
   have HP:=zh hp;clear hp;have hcon2:=hset wc HDC.o (HH.o.bytes HFC.o HD.o);clear hset hfc hcon;rcases hk3 with rfl|rfl|rfl
   ·go_wp2_with (go_at_call 253;refine hcon2.mono ?_;rintro e w3 ⟨rfl,v3,hd3,hf3,hm3⟩;have HD3:=zh hd3;have HF3:=zh hf3;have HM3:=zh hm3;clear hd3 hf3 hm3)
    go_ret;refine⟨_,rfl,Qcs.fine (by rw[HCL.o,←HK.o];rfl),v3,?_,(HFC.o.weak fun k _ hk=>.inl hk).trans HF3.o,fun k hk=>(HM3.o k hk).imp id (Nat.le_trans HFC.o.size)⟩;rw[HP.o,Qb2,←HK.o];exact HD3.o
   ·go_wp2_with (go_at_call 253;refine hcon2.mono ?_;rintro e w3 ⟨rfl,v3,hd3,hf3,hm3⟩;have HD3:=zh hd3;have HF3:=zh hf3;have HM3:=zh hm3;have c3:=hd3.cells.1.2.1;clear hd3 hf3 hm3)
    go_ret;refine⟨_,rfl,Qcs.bad (Qit w3 _ _ (Nat.le_trans HFC.o.size HF3.o.size)) (by rw[HCL.o,←HK.o];rfl),v3,?_,((HFC.o.weak fun k _ hk=>.inl hk).trans HF3.o).alloc _,fun k hk=>(HM3.o k hk).imp id (Nat.le_trans HFC.o.size)⟩;rw[HP.o,Qb2,←HK.o];exact HD3.o.below (Qa _ _)
   ·go_wp2_with fail
    go_ret;refine⟨_,rfl,Qcs.bad (Qit wc _ _ HFC.o.size) (by rw[HCL.o,←HK.o];rfl),v,?_,(HFC.o.weak fun k _ hk=>.inl hk).alloc _,J7.refl _ _⟩;rw[HP.o,Qb2,←HK.o];exact HDC.o.below (Qa _ _)
end
section
def Qiz (d:Dk):Dk:={ d with failAt:=0,dead:=false,hit:=false }
theorem Q4m (w:World) (g:Nat) (v:Value) (d:Dk) (h:Q3 w g v d) :
  Calls prog 17 #[.pointer (some ⟨g,0,none⟩)] w fun e w'=>e=.returned (.tuple #[])∧Q3 w' g v (Qiz d)∧Fr (·=g) w w':=by
 obtain⟨⟨c0,c1,c2,c3,c4,c5,c6,c7⟩,f0⟩:=h.cells;have HH:=zh h;clear h;have HC:=zh (heap_setCell (i:=6) (heap_setCell (i:=3) (heap_setCell (i:=2) HH.o.1 (.int .i64 0)) (.bool false)) (.bool false));have HF:=zh (((Fr.set1 w g 2 (.int .i64 0)).set 3 (.bool false)).set 6 (.bool false))
 go_enter func17,ntmps17
 go_wp2;go_end0;exact⟨rfl,HH.o.set HF.o (HC.o.trans (by simp[Js,Qiz])) rfl,HF.o⟩
theorem Q5x (w:World) (g:Nat) (v:Value) (d:Dk) (h:Q3 w g v d) :
  Calls prog 16 #[.pointer (some ⟨g,0,none⟩)] w fun e w'=>e=.returned (.bool d.hit)∧w=w':=by
 obtain⟨⟨c0,c1,c2,c3,c4,c5,c6,c7⟩,f0⟩:=h.cells;clear h
 go_enter func16,ntmps16
 go_wp2;go_ret;exact⟨rfl,rfl⟩
end
section
def Jf (w:World) (v:Value) (l:List (ByteArray×ByteArray)):Prop:=
 ∃ a c,v=.slice a l.length c∧l.length≤c∧∀ j x,l[j]?=some x→∃ b off,a=some ⟨b,off,none⟩∧w.cell? ⟨b,off+j*2,none⟩=some (.string x.1)∧w.cell? ⟨b,off+j*2+1,none⟩=some (.string x.2)
variable {w w':World} {v:Value} {l:List (ByteArray×ByteArray)}
theorem Jf.below (h:Jf w v l) (hb:Below w.heap.size w w'):Jf w' v l:=by obtain⟨a,c,hv,hc,hx⟩:=h;refine⟨a,c,hv,hc,fun j x hj=>?_⟩;obtain⟨b,off,ha,h1,h2⟩:=hx j x hj;exact⟨b,off,ha,(hb.cell (Qk h1)).trans h1,(hb.cell (Qk h2)).trans h2⟩
def addF (acc:List (ByteArray×ByteArray)) (f:ByteArray×ByteArray):List (ByteArray×ByteArray):=if Z9 acc f.1<acc.length then acc else acc ++ [f]
def firsts (l:List (ByteArray×ByteArray)):List (ByteArray×ByteArray):=l.foldl addF []
def dk0 (l:List (ByteArray×ByteArray)):Dk:=⟨l,0,0,false,false,false,false,false⟩
theorem Qoa (l:List (ByteArray×ByteArray)):(firsts l).length≤l.length:=by
 have h:∀ (l acc:List (ByteArray×ByteArray)),(l.foldl addF acc).length≤acc.length+l.length:=by
  intro l
  induction l with
  | nil=>intro acc;simp
  | cons a l ih=>
   intro acc;rw[List.foldl_cons];refine Nat.le_trans (ih _) ?_;unfold addF
   split <;> simp <;> omega
 simpa [firsts] using h l []
theorem Qtg {k:Nat} {x:ByteArray×ByteArray} (h:l[k]?=some x):firsts (l.take (k+1))=addF (firsts (l.take k)) x:=by
 have e:l.take (k+1)=l.take k ++ [x]:=by rw[List.take_add_one,h];rfl
 rw[e,firsts,List.foldl_append];rfl
theorem Q3.pushed {g:Nat} {d:Dk} (h:Q3 w g v d) (x:ByteArray×ByteArray) {gb cp:Nat} (hf:Fr (fun k=>v.ownBlock=some k) w w')
  (h2:w'.ownsRow 0 73 2 (.slice (some ⟨gb,0,none⟩) (d.files.length+1) cp) (d.files.length+1) (Zh d.files ++ [.string x.1,.string x.2])) :
  Q3 (w'.setCell ⟨g,0,none⟩ (.slice (some ⟨gb,0,none⟩) (d.files.length+1) cp)) g (.slice (some ⟨gb,0,none⟩) (d.files.length+1) cp) { d with files:=d.files ++ [x] }∧
   Fr (dkS g v) w (w'.setCell ⟨g,0,none⟩ (.slice (some ⟨gb,0,none⟩) (d.files.length+1) cp)):=by
 have hgw:=hf.heap h.1 h.parts;have hne:gb≠g:=by
  rintro rfl;rcases h2.2 with ⟨e,_⟩|⟨bk,cap',cur',e,_,hb,_⟩
  ·cases e
  ·cases e
   rw[hgw] at hb;simp at hb
 refine⟨⟨(heap_setCell hgw _).trans (by simp[Js]),?_⟩,(hf.weak fun k _ hk=>.inr hk).trans ((Fr.setCell1 w' ⟨g,0,none⟩ _).weak fun k _ hk=>.inl hk)⟩;show World.ownsRow _ 0 73 2 _ (d.files ++ [x]).length (Zh (d.files ++ [x]));rw[List.length_append,Qcp];exact Zb h2 (Fr.setCell1 w' ⟨g,0,none⟩ _) fun k hk e=>by simp[Value.ownBlock] at hk;exact hne (hk.trans e)
theorem Quf (w:World) (va:Value) (l:List (ByteArray×ByteArray)) (h:Jf w va l) (hn:l.length≤1073741824) :
  Calls prog 35 #[va] w fun e w'=>∃ g v,e=.returned (.pointer (some ⟨g,0,none⟩))∧Q3 w' g v (dk0 (firsts l))∧Below w.heap.size w w'∧w.heap.size≤g∧(∀ k,v.ownBlock=some k→w.heap.size≤k):=by
 have HH:=zh h;obtain⟨a,c,rfl,hc,hx⟩:=h;have HX:=zh hx;clear hx;obtain⟨i,hi,hz,hs,hby⟩:=Qjq;have HI:=zh (⟨hi,hz,hs,hby⟩:_∧_∧_∧_);clear hi hz hs hby
 go_enter func35,ntmps35
 go_wp2
 go_loopg [5,10] l.length (fun gg _ s10 wr=>∃ kk:Nat,kk≤l.length∧l.length-kk≤gg∧s10=.int .i64 kk∧Aside (Below w.heap.size w wr)∧∃ v,Aside (Q3 wr w.heap.size v (dk0 (firsts (l.take kk))))∧Aside (∀ k,v.ownBlock=some k→w.heap.size≤k))
 case atStart=>exact⟨0,Nat.zero_le _,by omega,rfl,Qa _ _,.slice none 0 0,⟨heap_alloc_new w _,World.ownsRow_nil _ _ _ _⟩,fun k hk=>by simp[Value.ownBlock] at hk⟩
 case round=>
  obtain⟨kk,hkk,hg,rfl,BW,v,HDk,HV⟩:=hrel;by_cases hlt:kk<l.length
  ·obtain⟨x,hx⟩:∃ x,x=l[kk]:=⟨_,rfl⟩
   have hlx:l[kk]?=some x:=by rw[hx,List.getElem?_eq_getElem hlt]
   obtain⟨b,off,rfl,c1,c2⟩:=HX.o kk x hlx;have hb:b<w.heap.size:=Qk c1;have d1:wr.cell? ⟨b,off+kk*2,none⟩=some (.string x.1):=(BW.o.cell (p:=⟨b,off+kk*2,none⟩) hb).trans c1;have d2:wr.cell? ⟨b,off+kk*2+1,none⟩=some (.string x.2):=(BW.o.cell (p:=⟨b,off+kk*2+1,none⟩) hb).trans c2;have hltz:(kk:Int)<(l.length:Int):=by omega
   have hbr:b<wr.heap.size:=Nat.lt_of_lt_of_le hb BW.o.size;have HLX:=zh hlx;clear hx hlx c1 c2;obtain⟨acc,hacc⟩:∃ acc,acc=firsts (l.take kk):=⟨_,rfl⟩
   have hal:acc.length≤kk:=by rw[hacc];refine Nat.le_trans (Qoa _) ?_;simp;omega
   have hsucc:firsts (l.take (kk+1))=addF acc x:=by rw[hacc];exact Qtg HLX.o
   rw[←hacc] at HDk;have HS:=zh hsucc;clear hacc hsucc;have hd1:=HDk.o.below (Qa wr (.cells #[.string x.1,.string x.2] 73));have hcon:=Qi5 _ w.heap.size v (dk0 acc) hd1 x.1;have HD1:=zh hd1;clear hd1;by_cases hf:Z9 acc x.1<acc.length
   ·have hF:Jk acc x.1=Z9 acc x.1:=by unfold Jk;rw[if_pos hf]
    have hadd:addF acc x=acc:=by unfold addF;rw[if_pos hf]
    rw[show Jk (dk0 acc).files x.1=Z9 acc x.1 from hF] at hcon;have hz:¬ ((Z9 acc x.1:Nat):Int)<0:=by omega
    have HA:=zh hadd;clear hF hf hadd
    go_wp2_with (go_at_call 64;refine hcon.mono ?_;rintro e w2 ⟨rfl,hb2⟩;have HB2:=zh hb2;clear hb2)
    go_roundg (l.length-(kk+1))
    case measure=>omega
    case rel=>
     refine⟨kk+1,by omega,by omega,by go_num,(BW.o.trans ((Qa wr _).mono BW.o.size)).trans (HB2.o.mono (Nat.le_trans BW.o.size (by simp))),v,?_,HV⟩;show Q3 _ _ _ (dk0 (firsts (l.take (kk+1))));rw[HS.o,HA.o];exact HD1.o.below HB2.o
   ·have hF:Jk acc x.1 = -1:=by unfold Jk;rw[if_neg hf]
    have hadd:addF acc x=acc ++ [x]:=by unfold addF;rw[if_neg hf]
    rw[show Jk (dk0 acc).files x.1 = -1 from hF] at hcon;have HA:=zh hadd;clear hF hf hadd
    go_wp2_with (go_at_call 64;refine hcon.mono ?_;rintro e w2 ⟨rfl,hb2⟩;have HB2:=zh hb2;have hd2:=HD1.o.below hb2;have HD2:=zh hd2;have c0:=hd2.cells.1.1;have hfz:=hd2.cells.2 0;have hg2:=hd2.lt;have e1:=(hb2.cell (p:=⟨wr.heap.size,0,none⟩) (by simp)).trans (World.cell?_alloc_at #[.string x.1,.string x.2] 73 wr.heap.size 0 rfl);have e2:=(hb2.cell (p:=⟨wr.heap.size,1,none⟩) (by simp)).trans (World.cell?_alloc_at #[.string x.1,.string x.2] 73 wr.heap.size 1 rfl);have hg3:wr.heap.size<w2.heap.size:=Nat.lt_of_lt_of_le (by simp) hb2.size;clear hb2 hd2)
    go_region_law (refine Qeg rfl _ _ _ rfl 0 73 i _ 2 32 underlying39 HI.o.1 HI.o.2.1 HI.o.2.2.1 HI.o.2.2.2 rfl (by decide) (by decide) v acc.length (Zh acc) rfl (Qn HD2.o.2 ((Ql w2).alloc (Nat.le_refl _) _)) ⟨w2.heap.size,0,none⟩ 1 1 [.string x.1,.string x.2] rfl rfl (Qeq _ _ _ _ _ rfl) (by simp[Value.oneCell']) (by decide) (by omega) (Nat.zero_le _) ?_;intro v' w' h2 h3 h4 h5;obtain⟨gb,cp,rfl,hgb⟩:=Qa3 h2 h5;have H2:=zh h2;have H3:=zh ((Fr.ofBelow (S:=fun k=>v.ownBlock=some k) ((Ql w2).alloc (Nat.le_refl _) _)).trans (Fr.ofGrown h3 fun k _ e=>e));have H4:=zh ((J7.refl w2 v).trans h4 (by simp));have k3:=H3.o.cell c0 HD2.o.parts;have k4:=(H3.o.frozen (p:=⟨w.heap.size,0,none⟩) hg2 HD2.o.parts).trans hfz;clear h2 h3 h4 h5)
    all_goals (
     go_wp2_with fail
     go_roundg (l.length-(kk+1))
     case measure=>omega
     case rel=>
      have hp:=HD2.o.pushed x H3.o H2.o
      have hg0:w.heap.size≤w2.heap.size:=Nat.le_trans BW.o.size (Nat.le_of_lt hg3)
      refine⟨kk+1,by omega,by omega,by go_num,((BW.o.trans ((Qa wr _).mono BW.o.size)).trans (HB2.o.mono (Nat.le_trans BW.o.size (by simp)))).trans (hp.2.below hg0 ?_),.slice (some ⟨gb,0,none⟩) (acc.length+1) cp,?_,?_⟩
      ·intro k hk hd
       rcases hd with rfl|hd
       ·omega
       ·have:=HV.o k hd
        omega
      ·show Q3 _ _ _ (dk0 (firsts (l.take (kk+1))))
       rw[HS.o,HA.o]
       exact hp.1
      ·show ∀ k,_→_
       intro k hk
       rcases H4.o k hk with hk' | hk'
       ·exact HV.o k hk'
       ·omega)
  ·have hltz:¬ (kk:Int)<(l.length:Int):=by omega
   have:kk=l.length:=by omega
   subst this;go_wp2;go_ret;refine⟨_,rfl,v,?_,BW.o,Nat.le_refl _,HV.o⟩
   have:=HDk.o
   rw[List.take_length] at this;exact this
end
end Go.Proofs.YtefccfakhgdfbabGreatDoor
