/- plain.NewDisk: a store with the first file of each path. Conditions: fewer than 2^30 files. -/
import Derived.Test.YtefccfakhgdfbaaGreatDoorRows
import Derived.WalkSpells
import Derived.WalkLawsBesides
import Derived.Lib.Hide
import Derived.Lib.ConvBytes
import Derived.BigQuiet
import Derived.Shelf.Abstract
import Derived.Deep.RegionLaw
import Derived.Deep.CutRange
set_option linter.unusedVariables false
set_option linter.unusedSimpArgs false
open Go.RowKit Go.Proofs.Tryz
set_option maxRecDepth 100000
set_option maxHeartbeats 4000000
namespace Go.Proofs.YtefccfakhgdfbaaGreatDoor
theorem zh {p : Prop} (h : p) : RowKit.Hid p := Lib.hid h
theorem _root_.Go.RowKit.Hid.o {p : Prop} (h : RowKit.Hid p) : p := h.out
theorem _root_.Go.Aside.o {p : Prop} (h : Aside p) : p := h.out
abbrev zc : Array Value := #[.int .u8 0,.int .u8 0,.int .u8 0,.int .u8 0,.int .u8 0,.int .u8 0,.int .u8 0,.int .u8 0]
section
theorem Qa (w:World) (o:Obj):Below w.heap.size w (w.alloc o):=(Below.refl _ _).alloc (Nat.le_refl _) o
theorem Qn (w:World):Below w.heap.size w w.drew:=(Below.refl _ _).drew
variable {w w':World}
theorem Ze {B:Nat} (h:Below B w w') (n:Nat):Below B w (w'.drewN n):=⟨h.os,h.tape,h.output,h.size,h.block⟩
theorem Ym {a b:Bool} (h:a=b):Ending.returned (.bool a)=.returned (.bool b):=by rw[h]
theorem Qbk {a b:Value} (h:a=b):Ending.returned a=.returned b:=by rw[h]
abbrev u8 (x:UInt8):Value:=.int .u8 x.toNat
def Qe2 (w:World) (v:Value) (n:Nat) (xs:List Value):Prop:=
 ∃ a c,v=.slice a n c∧n≤c∧∀ j x,xs[j]?=some x→∃ b off,a=some ⟨b,off,none⟩∧w.cell? ⟨b,off+j,none⟩=some x
variable {v:Value}
theorem Qk {a:Addr} (h:w.cell? a=some v):a.block<w.heap.size:=World.block_lt_of_cell? w a h
variable {n:Nat} {xs:List Value}
theorem Qe2.below (h:Qe2 w v n xs) (hb:Below w.heap.size w w'):Qe2 w' v n xs:=by obtain⟨a,c,hv,e,hc⟩:=h;refine⟨a,c,hv,e,fun j x hx=>?_⟩;obtain⟨b,off,ha,d⟩:=hc j x hx;exact⟨b,off,ha,(hb.cell (p:=⟨b,off+j,none⟩) (Qk d)).trans d⟩
def Q8 (w:World) (v:Value) (l:List UInt8):Prop:=Qe2 w v l.length (l.map u8)
def Zn (w:World) (v:Value) (ss:List ByteArray):Prop:=Qe2 w v ss.length (ss.map Value.string)
def Qem (w:World) (v:Value) (ls:List (List UInt8)):Prop:=
 ∃ vs:List Value,vs.length=ls.length∧Qe2 w v ls.length vs∧∀ (j:Nat) (u:Value) (l:List UInt8),vs[j]?=some u→ls[j]?=some l→Q8 w u l
variable {l:List UInt8}
theorem Q8.below (h:Q8 w v l) (hb:Below w.heap.size w w'):Q8 w' v l:=Qe2.below h hb
theorem Zn.below {l:List ByteArray} (h:Zn w v l) (hb:Below w.heap.size w w'):Zn w' v l:=Qe2.below h hb
theorem Qem.below {l:List (List UInt8)} (h:Qem w v l) (hb:Below w.heap.size w w'):Qem w' v l:=by obtain⟨vs,hl,hc,hj⟩:=h;exact⟨vs,hl,hc.below hb,fun j u l h1 h2=>(hj j u l h1 h2).below hb⟩
def Qy (w:World) (base:Nat) (v:Value) (l:List UInt8):Prop:=
 (v=.slice none 0 0∧l = [])∨
 ∃ b off c C fz,v=.slice (some ⟨b,off,none⟩) l.length c∧l.length≤c∧base≤b∧w.heap[b]?=some (.cells C 5 fz)∧(∀ j x,l[j]?=some x→C[off+j]?=some (u8 x))∧off+l.length≤C.size∧(fz=(0,0)∨C.size≤fz.1)
variable {base:Nat}
theorem Qy.at (h:Qy w base v l):Q8 w v l:=by
 rcases h with ⟨rfl,rfl⟩|⟨b,off,c,C,fz,rfl,a,_,hb,hc,_,_⟩
 ·exact⟨none,0,rfl,Nat.le_refl _,fun j x hx=>by simp at hx⟩
 ·refine⟨_,c,rfl,a,fun j x hx=>⟨b,off,rfl,?_⟩⟩
  rw[List.getElem?_map,Option.map_eq_some_iff] at hx;obtain⟨y,hy,rfl⟩:=hx;simp[World.cell?,hb,hc j y hy]
variable {base':Nat}
theorem Qy.mono (h:Qy w base v l) (hb:base'≤base):Qy w base' v l:=by
 rcases h with h|⟨b,off,c,C,fz,h1,h0,h2,h3⟩
 ·exact .inl h
 ·exact .inr ⟨b,off,c,C,fz,h1,h0,Nat.le_trans hb h2,h3⟩
theorem Qy.same (h:Qy w base v l) (hs:∀ (k:Nat) (C:Array Value) (fz:Nat×Nat),w.heap[k]?=some (Obj.cells C 5 fz)→w'.heap[k]?=w.heap[k]?):Qy w' base v l:=by
 rcases h with h|⟨b,off,c,C,fz,h1,h0,h2,h3,h4⟩
 ·exact .inl h
 ·exact .inr ⟨b,off,c,C,fz,h1,h0,h2,(hs b C fz h3).trans h3,h4⟩
variable {k:Nat}
theorem Qc {o:Obj} (h:w.heap[k]?=some o):k<w.heap.size:=(Array.getElem?_eq_some_iff.1 h).1
theorem Qy.below (h:Qy w base v l) (hb:Below w.heap.size w w'):Qy w' base v l:=
 h.same fun _ _ _ hk=>hb.block _ (Qc hk)
theorem Qy.one (h:Qy w base v l):v.oneCell'=true:=by rcases h with ⟨rfl,_⟩|⟨b,off,c,C,fz,rfl,_⟩ <;> rfl
def Ja (w:World) (base:Nat) (v:Value) (ls:List (List UInt8)):Prop:=
 ∃ vs:List Value,w.ownsRow base 147 1 v ls.length vs∧∀ (j:Nat) (u:Value) (l:List UInt8),vs[j]?=some u→ls[j]?=some l→Qy w base u l
variable {e:TypeId} {size:Nat}
theorem Z4 (h:w.ownsRow base e size v n xs):Qe2 w v n xs:=by
 obtain⟨h1,h2⟩:=h;rcases h2 with ⟨rfl,rfl⟩|⟨g,cap,cur,rfl,hb,hg,hn,hc,hs,ht⟩
 ·refine⟨none,0,rfl,Nat.le_refl _,fun j x hx=>?_⟩
  have:xs = []:=List.eq_nil_of_length_eq_zero (by simpa using h1)
  simp[this] at hx
 ·refine⟨_,cap,rfl,hn,fun j x hx=>⟨g,0,rfl,?_⟩⟩
  rw[←ht,List.getElem?_take] at hx
  split at hx
  ·simpa [World.cell?,hg] using hx
  ·cases hx
variable {ls:List (List UInt8)}
theorem Ja.at (h:Ja w base v ls):Qem w v ls:=by obtain⟨vs,h1,h2⟩:=h;exact⟨vs,by simpa using h1.1,Z4 h1,fun j u l hu hl=>(h2 j u l hu hl).at⟩
theorem Ql (h:w.ownsRow base e size v n xs) (hb:Below w.heap.size w w'):w'.ownsRow base e size v n xs:=by
 obtain⟨h1,h2⟩:=h;refine⟨h1,?_⟩;rcases h2 with h2|⟨g,cap,cur,hv,hg,hh,r⟩
 ·exact .inl h2
 ·exact .inr ⟨g,cap,cur,hv,hg,(hb.block g (Qc hh)).trans hh,r⟩
theorem Zs (h:w.ownsRow base e size v n xs) (hb:base'≤base):w.ownsRow base' e size v n xs:=by
 obtain⟨h1,h2⟩:=h;refine⟨h1,?_⟩;rcases h2 with h2|⟨g,cap,cur,hv,hg,r⟩
 ·exact .inl h2
 ·exact .inr ⟨g,cap,cur,hv,Nat.le_trans hb hg,r⟩
theorem Ja.mono (h:Ja w base v ls) (hb:base'≤base):Ja w base' v ls:=by obtain⟨vs,h1,h2⟩:=h;exact⟨vs,Zs h1 hb,fun j u l hu hl=>(h2 j u l hu hl).mono hb⟩
theorem Qi9 {e':TypeId} (h:w.ownsRow base e size v n xs) (hg:w.grownBy w' v.ownBlock) (hne:e'≠e) {C:Array Value} {fz:Nat×Nat} (hk:w.heap[k]?=some (.cells C e' fz)):w'.heap[k]?=w.heap[k]?:=by
 refine hg.block k (Qc hk) fun hc=>?_
 rcases h.2 with ⟨rfl,_⟩|⟨g,cap,cur,rfl,_,hh,_⟩
 ·simp[Value.ownBlock] at hc
 ·simp[Value.ownBlock] at hc
  subst hc;rw[hk] at hh;simp only[Option.some.injEq,Obj.cells.injEq] at hh;exact hne hh.2.1
variable {P:Program} {ops:Array Oper} {rest:List Oper} {o:Oper} {a:Act} {Q:Exit→Act→World→Prop}
theorem Qdz (hgd:o.guard=none) (src dst e:TypeId) (x:Operand)
  (ho:o.op=.convert src dst x) (hs:P.underlying src=some .string) (hd:P.underlying dst=some (.slice e)) (he:P.underlying e=some (.int .u8)) (hu:e=5)
  (s:ByteArray) (hx:a.eval x=.string s)
  (h:∀ v' w',Qy w' w.heap.size v' s.data.toList→Below w.heap.size w w'→w'.heap.size=w.heap.size+1→(∃ b c,v'=.slice (some ⟨b,0,none⟩) s.size c)→wpList P ops Q rest (a.put o.dst v') w'):wpList P ops Q (o :: rest) a w:=by
 refine wpList_plain hgd fun K' hK'=>?_
 have hr:=Lib.run_convert_string_bytes (P:=P) w src dst e s hs hd he;unfold Oper.wp execOp;simp only[ho,hx,Sem.run_bind,Sem.run_pure,Result.andThen_ok,hr];refine hK' _ _ (h _ _ ?_ ?_ (Lib.bytesWorld_size w e s) ⟨_,_,rfl⟩)
 ·subst hu
  refine .inr ⟨w.heap.size,0,grownCap w s.size 0 5,Lib.bytesCells w 5 s,_,by simp,by have:=grownCap_ge w s.size 0 5;simpa using this,Nat.le_refl _,Lib.bytesWorld_at_new w _ s,fun j y hy=>?_,?_,.inr (Nat.le_refl _)⟩
  ·have hj:j<s.size:=by
    have:=(List.getElem?_eq_some_iff.1 hy).1
    simpa using this
   have h2:s.data[j]?=some y:=by simpa using hy
   have h3:s.data[j]=y:=by rw[Array.getElem?_eq_getElem hj,Option.some.injEq] at h2;exact h2
   simp[Lib.bytesCells,Array.getElem?_append,hj,h3]
  ·simp[Lib.bytesCells]
 ·exact⟨by simp[Lib.bytesWorld,World.freeze,World.alloc,World.drew,-World.alloc_eq,-World.drew_eq],by simp[Lib.bytesWorld,World.freeze,World.alloc,World.drew,-World.alloc_eq,-World.drew_eq],by simp[Lib.bytesWorld,World.freeze,World.alloc,World.drew,-World.alloc_eq,-World.drew_eq],by rw[Lib.bytesWorld_size];omega,fun k hk=>Lib.bytesWorld_at_old w e s k hk⟩
def Q0 (w:World) (base:Nat) (v:Value) (ss:List ByteArray):Prop:=w.ownsRow base 9 1 v ss.length (ss.map Value.string)
theorem Q0.at {ss:List ByteArray} (h:Q0 w base v ss):Zn w v ss:=Z4 h
abbrev Hsh:=Vector UInt8 8
def HS (h:Hsh):ByteArray:=⟨h.toArray⟩
def lists (ss:List ByteArray):List (List UInt8):=ss.map (·.data.toList)
structure Lg where
 key:ByteArray
 entries:List (List UInt8)
 levels:List (List Hsh)
 put:List Nat
 failed:Bool
def h8 (a:Hsh):Array Value:=a.toArray.map u8
@[simp] theorem h8_size (a:Hsh):(h8 a).size=8:=by simp[h8]
def Qw (w:World) (g:Nat) (h:Hsh):Prop:=w.heap[g]?=some (.cells (h8 h) 143 (0,0))
theorem Qpb (a:Hsh):(h8 a).all (·.oneCell')=true:=by simp only[h8,Array.all_map];rw[Array.all_eq_true];intro i hi;rfl
theorem Zz (w:World) (o:Obj) (g:Nat) (e:g=w.heap.size):(w.alloc o).heap[g]?=some o:=by subst e;exact heap_alloc_new w o
theorem Qe3 (w:World) (h:Hsh):Qw (w.alloc (.cells (h8 h) 143)) w.heap.size h:=heap_alloc_new w _
variable {g:Nat} {h:Hsh}
theorem Qp (hh:Qw w g h) (o:Obj):Qw (w.alloc o) g h:=(heap_alloc_old w o (Array.getElem?_eq_some_iff.1 hh).1).trans hh
theorem Qx (hh:Qw w g h) (k:Hsh):Qw (w.setRow g (h8 k)) g k:=setRow_heap w g _ _ _ _ hh
theorem Qi (hh:Qw w g h) (cs:Array Value) (hne:g≠k):Qw (w.setRow k cs) g h:=(setRow_other w k g cs hne).trans hh
theorem Qg (hh:Qw w g h) (hb:Below w.heap.size w w'):Qw w' g h:=(hb.block g (Array.getElem?_eq_some_iff.1 hh).1).trans hh
theorem Qo (hh:Qw w g h):Qw w.drew g h:=hh
section
variable {P:Program} {ops:Array Oper} {rest:List Oper} {o:Oper} {a:Act} {Q:Exit→Act→World→Prop} {w:World}
theorem Qz (hw:Region.wanted o (yielded ops a.tmps)=true) (ty:TypeId) (x:Operand) (ho:o.op=.load ty x) (g:Nat) (hx:a.eval x=.pointer (some ⟨g,0,none⟩))
  (e:TypeId) (hu:P.underlying ty=some (.array 8 e)) (hi:(P.info? ty).map (·.size)=some 8) (h:Hsh) (hh:Qw w g h)
  (hk:wpList P ops Q rest (a.put o.dst (.agg (h8 h))) w):wpList P ops Q (o :: rest) a w:=
 BigFrame.wpList_want hw fun _ hK=>wp_load_row ty x ho g hx _ (h8 h) _ _ hh hu rfl (by rw[hi,h8_size]) (hK _ _ hk)
theorem Qt (hw:Region.wanted o (yielded ops a.tmps)=true) (ty:TypeId) (x y:Operand) (ho:o.op=.store ty x y) (g:Nat) (k:Hsh) (hx:a.eval x=.pointer (some ⟨g,0,none⟩)) (hy:a.eval y=.agg (h8 k))
  (hi:(P.info? ty).map (·.size)=some 8) (h:Hsh) (hh:Qw w g h)
  (hk:wpList P ops Q rest (a.put o.dst undef) (w.setRow g (h8 k))):wpList P ops Q (o :: rest) a w:=
 BigFrame.wpList_want hw fun _ hK=>wp_store_row ty x y ho g (h8 k) hx hy _ _ hh (by rw[hi,h8_size]) (by simp) (Qpb k) (hK _ _ hk)
end
variable {fn:Func} {R:Ending→World→Prop} {p:Tmp} {ty:TypeId}
theorem ret8 (g:Nat) (k:Hsh) (h:fn.results=#[.cell p ty]) (hx:a.tmps.getD p undef=.pointer (some ⟨g,0,none⟩))
  (e:TypeId) (hu:P.underlying ty=some (.array 8 e)) (hi:(P.info? ty).map (·.size)=some 8) (hh:Qw w g k) (hd:a.defers = []) (hR:R (.returned (.agg (h8 k))) w):bodyPost P fn R .ret a w:=
 bodyPost_ret (results_cell_row h a.tmps w g _ (h8 k) _ _ hx hh hu rfl (by rw[hi,h8_size])) hd hR
variable {q:Tmp}
theorem ret8t (g:Nat) (k:Hsh) (x:Value) (h:fn.results=#[.cell p ty,.tmp q]) (hx:a.tmps.getD p undef=.pointer (some ⟨g,0,none⟩)) (hq:a.tmps.getD q undef=x)
  (e:TypeId) (hu:P.underlying ty=some (.array 8 e)) (hi:(P.info? ty).map (·.size)=some 8) (hh:Qw w g k) (hd:a.defers = []) (hR:R (.returned (.tuple #[.agg (h8 k),x])) w):bodyPost P fn R .ret a w:=by
 refine bodyPost_ret (v:=.tuple #[.agg (h8 k),x]) ?_ hd hR;rw[results_cell_tmp h];have hl:=run_loadVar_row (P:=P) w g _ ty (h8 k) _ _ hh hu rfl (by rw[hi,h8_size]);simp[hx,hq,asAddr,hl] at *
theorem ret88t {p':Tmp} (g g':Nat) (k k':Hsh) (x:Value) (h:fn.results=#[.cell p ty,.cell p' ty,.tmp q])
  (hx:a.tmps.getD p undef=.pointer (some ⟨g,0,none⟩)) (hx':a.tmps.getD p' undef=.pointer (some ⟨g',0,none⟩)) (hq:a.tmps.getD q undef=x)
  (e:TypeId) (hu:P.underlying ty=some (.array 8 e)) (hi:(P.info? ty).map (·.size)=some 8) (hh:Qw w g k) (hh':Qw w g' k') (hd:a.defers = []) (hR:R (.returned (.tuple #[.agg (h8 k),.agg (h8 k'),x])) w):bodyPost P fn R .ret a w:=by
 refine bodyPost_ret (v:=.tuple #[.agg (h8 k),.agg (h8 k'),x]) ?_ hd hR;have hl:=run_loadVar_row (P:=P) w g _ ty (h8 k) _ _ hh hu rfl (by rw[hi,h8_size]);have b:=run_loadVar_row (P:=P) w g' _ ty (h8 k') _ _ hh' hu rfl (by rw[hi,h8_size]);simp only[results,h];simp only[Array.getD_eq_getD_getElem?] at hx hx' hq;simp[hx,hx',hq,asAddr,hl,b]
def zero8:Hsh:=#v[0,0,0,0,0,0,0,0]
theorem Qmw:h8 zero8=zc:=by simp[h8,zero8]
theorem Qve (w:World):Qw (w.alloc (.cells zc 143)) w.heap.size zero8:=by rw[←Qmw];exact Qe3 w zero8
theorem Qh (e:g=w.heap.size):Qw (w.alloc (.cells zc 143)) g zero8:=by subst e;exact Qve w
theorem Qnd (hw:Region.wanted o (yielded ops a.tmps)=true) (src dst:TypeId) (x:Operand)
  (ho:o.op=.convert src dst x) (e:TypeId) (hs:P.underlying src=some (.slice e)) (he:P.underlying e=some (.int .u8)) (hd:P.underlying dst=some .string)
  (v:Value) (l:List UInt8) (hx:a.eval x=v) (hb:Q8 w v l)
  (h:wpList P ops Q rest (a.put o.dst (.string ⟨l.toArray⟩)) w):wpList P ops Q (o :: rest) a w:=by
 refine BigFrame.wpList_want hw fun K' hK'=>?_
 obtain⟨ad,c,rfl,_,hc⟩:=hb;have hr:(convert src dst (.slice ad l.length c)).run P w=.ok (.string ⟨l.toArray⟩) w:=by
  cases l with
  | nil=>
   rw[run_convert_bytes_string w src dst e ad _ c hs he hd];cases ad <;> simp[Conv.bytesToString,loadCells,loadCellsFrom] <;> rfl
  | cons x l=>
   obtain⟨b,off,rfl,_⟩:=hc 0 (u8 x) (by simp);refine run_convert_bytes_back w src dst e ⟨b,off,none⟩ c (x :: l) hs he hd fun j hj=>?_
   obtain⟨b',off',f,d⟩:=hc j (u8 (x :: l)[j]) (by rw[List.getElem?_map,List.getElem?_eq_getElem hj];rfl);cases f;rw[Addr.add_lit];exact d
 unfold Oper.wp execOp;simp only[ho,hx,Sem.run_bind,Sem.run_pure,Result.andThen_ok,hr];exact hK' _ _ h
def Is8 (w:World) (g:Nat):Prop:=∃ h,Qw w g h
theorem Zb (h:g=w.heap.size):Is8 (w.alloc (.cells zc 143)) g:=⟨zero8,Qh h⟩
theorem Qj (h:Is8 w g) (k:Hsh):Qw (w.setRow g (h8 k)) g k:=by obtain⟨_,hh⟩:=h;exact Qx hh k
variable {b:World}
theorem Qa5 {a c:World} {row:Option Nat} (h:a.grownBy b row) (k:b.grownBy c row):a.grownBy c row:=
 ⟨k.os.trans h.os,k.tape.trans h.tape,k.output.trans h.output,Nat.le_trans h.size k.size,fun i hi hr=>(k.block i (Nat.lt_of_lt_of_le hi h.size) hr).trans (h.block i hi hr)⟩
theorem Qfp {a:World} (h:Below a.heap.size a b) (row:Option Nat):a.grownBy b row:=⟨h.os,h.tape,h.output,h.size,fun k hk _=>h.block k hk⟩
theorem Jd (hgd:o.guard=none) (s x:Operand) (t:TypeId)
  (ho:o.op=.call { callee:=.builtin .append,args:=#[s,x],argTypes:=#[t,t] })
  (base:Nat) (e:TypeId) (i:TypeInfo) (z:Value) (bytes:Nat) (ht:P.underlying t=some (.slice e)) (hi:P.info? e=some i) (hz:i.zero=some z)
  (hsize:i.size=1) (hby:i.bytes=bytes) (hzs:z.cells.size=1) (hbb:bytes≤64)
  (v:Value) (n:Nat) (xs:List Value) (hs:a.eval s=v) (hown:w.ownsRow base e 1 v n xs) (u:Value)
  (hx:a.eval x=.slice (some ⟨w.heap.size,0,none⟩) 1 1) (h1:u.oneCell'=true)
  (hn:n≤1099511627776) (hbase:base≤w.heap.size)
  (h:∀ v' w',w'.ownsRow base e 1 v' (n+1) (xs ++ [u])→w.grownBy w' v.ownBlock→(v'≠.slice none 0 0)→wpList P ops Q rest (a.put o.dst v') w') :
  wpList P ops Q (o :: rest) a (w.alloc (.cells #[u] e)):=by
 refine wpList_append_own _ hgd s x t ho base e i z 1 bytes ht hi hz hsize hby hzs (by decide) v n xs hs (hown.alloc _) ⟨w.heap.size,0,none⟩ 1 1 [u] hx rfl (cell_one_new _ _ _) (by simpa using h1) (by unfold maxLen;omega) ?_ (by simp;omega) fun v' w' h2 h3 h4=>?_
 ·refine Nat.le_trans (Nat.mul_le_mul_left _ hbb) ?_
  omega
 ·exact h v' w' h2 (Qa5 (World.grownBy_alloc w _ _) h3) (by simp[h4])
theorem Qud (hgd:o.guard=none) (s x:Operand) (t:TypeId)
  (ho:o.op=.call { callee:=.builtin .append,args:=#[s,x],argTypes:=#[t,t] })
  (base:Nat) (i:TypeInfo) (ht:P.underlying t=some (.slice 143)) (hi:P.info? 143=some i) (hz:i.zero=some (.agg (h8 zero8)))
  (hsize:i.size=8) (hby:i.bytes=8)
  (v:Value) (hs:List Hsh) (hsv:a.eval s=v) (hown:w.ownsRow base 143 8 v hs.length (hs.flatMap fun h=>(h8 h).toList)) (h:Hsh)
  (hx:a.eval x=.slice (some ⟨w.heap.size,0,none⟩) 1 1)
  (hn:hs.length≤1099511627776) (hbase:base≤w.heap.size)
  (hk:∀ v' w',w'.ownsRow base 143 8 v' (hs ++ [h]).length ((hs ++ [h]).flatMap fun h=>(h8 h).toList)→w.grownBy w' v.ownBlock→(v'≠.slice none 0 0)→wpList P ops Q rest (a.put o.dst v') w') :
  wpList P ops Q (o :: rest) a (w.alloc (.cells (h8 h) 143)):=by
 refine wpList_append_own _ hgd s x t ho base 143 i _ 8 8 ht hi hz hsize hby (by simp[Value.cells]) (by decide) v _ _ hsv (hown.alloc _) ⟨w.heap.size,0,none⟩ 1 1 (h8 h).toList hx (by simp) (fun j u hu=>?_) (fun u hu=>?_) (by unfold maxLen;omega) (by omega) (by simp;omega) fun v' w' h2 h3 h4=>?_
 ·rw[Addr.add_lit,World.cell?_alloc_at _ _ _ _ rfl]
  simpa using hu
 ·have:=Qpb h
  rw[Array.all_eq_true'] at this;exact this u (by simpa using hu)
 ·exact hk v' w' (by simpa using h2) (Qa5 (World.grownBy_alloc w _ _) h3) (by simp[h4])
theorem Ja.grow {v' u:Value} {vs:List Value} (h:w.ownsRow base 147 1 v ls.length vs)
  (hj:∀ (j:Nat) (u:Value) (l:List UInt8),vs[j]?=some u→ls[j]?=some l→Qy w base u l) (hu:Qy w base u l)
  (h':w'.ownsRow base 147 1 v' (ls.length+1) (vs ++ [u])) (hg:w.grownBy w' v.ownBlock):Ja w' base v' (ls ++ [l]):=by
 have b:vs.length=ls.length:=by simpa using h.1
 have hs:∀ (k:Nat) (C:Array Value) (fz:Nat×Nat),w.heap[k]?=some (Obj.cells C 5 fz)→w'.heap[k]?=w.heap[k]?:=fun k C fz hk=>Qi9 h hg (by decide) hk
 refine⟨vs ++ [u],by simpa using h',fun j u' l' hu' hl'=>?_⟩;by_cases hlt:j<vs.length
 ·rw[List.getElem?_append_left hlt] at hu'
  rw[List.getElem?_append_left (by omega)] at hl';exact (hj j u' l' hu' hl').same hs
 ·rw[List.getElem?_append_right (by omega)] at hu' hl'
  by_cases hz:j-vs.length=0
  ·have a:j-ls.length=0:=by omega
   simp[hz] at hu';simp[a] at hl';subst hu' hl';exact hu.same hs
  ·simp[List.getElem?_eq_none (show [u].length≤j-vs.length by simp;omega)] at hu'
end
section
structure Fr (S:Nat→Prop) (w w':World):Prop where
 os:w'.os=w.os
 tape:w'.tape=w.tape
 output:w'.output=w.output
 size:w.heap.size≤w'.heap.size
 block:∀ k,k<w.heap.size→¬ S k→w'.heap[k]?=w.heap[k]?
theorem Fr.refl (S:Nat→Prop) (w:World):Fr S w w:=⟨rfl,rfl,rfl,Nat.le_refl _,fun _ _ _=>rfl⟩
variable {S:Nat→Prop} {a b c:World}
theorem Fr.trans (h:Fr S a b) (k:Fr S b c):Fr S a c:=
 ⟨k.os.trans h.os,k.tape.trans h.tape,k.output.trans h.output,Nat.le_trans h.size k.size,fun i hi hs=>(k.block i (Nat.lt_of_lt_of_le hi h.size) hs).trans (h.block i hi hs)⟩
variable {T:Nat→Prop} {w w':World}
theorem Fr.weak (h:Fr S w w') (hST:∀ k,k<w.heap.size→S k→T k):Fr T w w':=
 ⟨h.os,h.tape,h.output,h.size,fun k hk ht=>h.block k hk fun hs=>ht (hST k hk hs)⟩
theorem Fr.step (h:Fr S a b) (k:Fr T b c) (hT:∀ i,i<a.heap.size→T i→S i):Fr S a c:=
 ⟨k.os.trans h.os,k.tape.trans h.tape,k.output.trans h.output,Nat.le_trans h.size k.size,fun i hi hs=>(k.block i (Nat.lt_of_lt_of_le hi h.size) fun ht=>hs (hT i hi ht)).trans (h.block i hi hs)⟩
theorem Fr.ofBelow (h:Below w.heap.size w w'):Fr S w w':=⟨h.os,h.tape,h.output,h.size,fun k hk _=>h.block k hk⟩
theorem Fr.ofGrown {r:Option Nat} (h:w.grownBy w' r) (hr:∀ k,k<w.heap.size→r=some k→S k):Fr S w w':=
 ⟨h.os,h.tape,h.output,h.size,fun k hk hs=>h.block k hk fun e=>hs (hr k hk e.symm)⟩
theorem Fr.below (h:Fr S w w') {B:Nat} (hB:B≤w.heap.size) (hS:∀ k,k<B→¬ S k):Below B w w':=⟨h.os,h.tape,h.output,h.size,fun k hk=>h.block k (by omega) (hS k hk)⟩
variable {p:Addr}
theorem Fr.cell (h:Fr S w w') {v:Value} (hv:w.cell? p=some v) (hs:¬ S p.block):w'.cell? p=some v:=
 (World.cell?_of_block (w:=w) (h.block p.block (Qk hv) hs)).trans hv
theorem Fr.frozen (h:Fr S w w') (hb:p.block<w.heap.size) (hs:¬ S p.block):w'.frozen? p=w.frozen? p:=World.frozen?_of_block (w:=w) (h.block p.block hb hs)
variable {o:Obj}
theorem Fr.heap (h:Fr S w w') {k:Nat} (hv:w.heap[k]?=some o) (hs:¬ S k):w'.heap[k]?=some o:=(h.block k (Qc hv) hs).trans hv
theorem Fr.setCell1 (w:World) (p:Addr) (u:Value):Fr (·=p.block) w (w.setCell p u):=
 ⟨rfl,rfl,rfl,by simp[World.setCell],fun _ _ hs=>Below.heap_setCell _ _ _ _ hs⟩
theorem Fr.setCell (h:Fr S a w) (hp:p.block<a.heap.size→S p.block) (u:Value):Fr S a (w.setCell p u):=
 h.step (Fr.setCell1 w p u) fun i hi e=>by subst e;exact hp hi
theorem Fr.alloc (h:Fr S a w) (o:Obj):Fr S a (w.alloc o):=h.trans (Fr.ofBelow (Qa w o))
theorem Fr.drew (h:Fr S a w):Fr S a w.drew:=h.trans (Fr.ofBelow (Qn w))
theorem Fr.drewN (h:Fr S a w) (n:Nat):Fr S a (w.drewN n):=⟨h.os,h.tape,h.output,h.size,h.block⟩
variable {g:Nat} {cs:Array Value} {t:TypeId}
theorem heap_setCell {i:Nat} {fz:Nat×Nat} (h:w.heap[g]?=some (.cells cs t fz)) (u:Value) :
  (w.setCell ⟨g,i,none⟩ u).heap[g]?=some (.cells (cs.setIfInBounds i u) t fz):=by
 simp[World.setCell,Array.getElem?_modify,h]
theorem Jr (h:w.heap[g]?=some o) (hne:g≠p.block) (u:Value):(w.setCell p u).heap[g]?=some o:=
 (Below.heap_setCell _ _ _ _ hne).trans h
theorem Qvn {x:Obj} (h:w.heap[g]?=some x) (o:Obj):(w.alloc o).heap[g]?=some x:=(heap_alloc_old _ _ (Qc h)).trans h
theorem Qd (h:w.heap[g]?=some (.cells cs t (0,0))) (i:Nat) {u:Value} (hu:cs[i]?=some u):w.cell? ⟨g,i,none⟩=some u:=by rw[cell_of_row w g i cs t (0,0) h,hu]
theorem Qs (h:w.heap[g]?=some (.cells cs t (0,0))) (i:Nat):w.frozen? ⟨g,i,none⟩=false:=by simp[World.frozen?,h]
theorem Fr.set1 (w:World) (g i:Nat) (u:Value):Fr (·=g) w (w.setCell ⟨g,i,none⟩ u):=Fr.setCell1 w ⟨g,i,none⟩ u
theorem Fr.set (h:Fr (·=g) a w) (i:Nat) (u:Value):Fr (·=g) a (w.setCell ⟨g,i,none⟩ u):=h.trans (Fr.set1 w g i u)
end
section
structure Dk where
 files:List (ByteArray×ByteArray)
 calls:Nat
 failAt:Int
 dead:Bool
 once:Bool
 half:Bool
 hit:Bool
 turned:Bool
def J6 (f:ByteArray×ByteArray):List Value:=[.string f.1,.string f.2]
def Zg (l:List (ByteArray×ByteArray)):List Value:=l.flatMap J6
def J8 (v:Value) (d:Dk):Array Value:=#[v,.int .i64 d.calls,.int .i64 d.failAt,.bool d.dead,.bool d.once,.bool d.half,.bool d.hit,.bool d.turned]
def Q1 (w:World) (g:Nat) (v:Value) (d:Dk):Prop:=
 w.heap[g]?=some (.cells (J8 v d) 116 (0,0))∧w.ownsRow 0 132 2 v d.files.length (Zg d.files)
def dkS (g:Nat) (v:Value) (k:Nat):Prop:=k=g∨v.ownBlock=some k
theorem Jb (l:List (ByteArray×ByteArray)):(Zg l).length=l.length*2:=by
 induction l with
 | nil=>rfl
 | cons a l ih=>simp only[Zg,List.flatMap_cons,List.length_append,List.length_cons] at ih ⊢;rw[ih];simp[J6];omega
theorem Qak:∀ (l:List (ByteArray×ByteArray)) (j:Nat) (f:ByteArray×ByteArray),l[j]?=some f→(Zg l)[j*2]?=some (.string f.1)∧(Zg l)[j*2+1]?=some (.string f.2)
 | [],j,f,h=>by simp at h
 | a :: l,0,f,h=>by simp at h;subst h;exact⟨rfl,rfl⟩
 | a :: l,j+1,f,h=>by
   have:=Qak l j f (by simpa using h)
   have e:(Zg (a :: l))=.string a.1 :: .string a.2 :: Zg l:=rfl
   rw[e,show (j+1)*2=j*2+1+1 by omega]
   simpa using this
variable {w:World} {g:Nat} {v:Value} {d:Dk}
theorem Q1.parts (h:Q1 w g v d):v.ownBlock≠some g:=by
 intro e;rcases h.2.2 with ⟨rfl,_⟩|⟨b,cap,cur,rfl,_,hb,_⟩
 ·simp[Value.ownBlock] at e
 ·simp[Value.ownBlock] at e
  subst e
  have:=h.1
  rw[hb] at this;simp at this
theorem Q1.lt (h:Q1 w g v d):g<w.heap.size:=Qc h.1
variable {w':World}
theorem Q1.below (h:Q1 w g v d) (hb:Below w.heap.size w w'):Q1 w' g v d:=
 ⟨(hb.block g h.lt).trans h.1,Ql h.2 hb⟩
variable {S:Nat→Prop}
theorem Q1.fr (h:Q1 w g v d) (hf:Fr S w w') (hS:∀ k,dkS g v k→¬ S k):Q1 w' g v d:=by
 refine⟨hf.heap h.1 (hS g (.inl rfl)),h.2.1,?_⟩;rcases h.2.2 with hn|⟨b,cap,cur,rfl,a,hb,hr⟩
 ·exact .inl hn
 ·exact .inr ⟨b,cap,cur,rfl,a,hf.heap hb (hS b (.inr rfl)),hr⟩
theorem Q1.cells (h:Q1 w g v d) :
  (w.cell? ⟨g,0,none⟩=some v∧w.cell? ⟨g,1,none⟩=some (.int .i64 d.calls)∧w.cell? ⟨g,2,none⟩=some (.int .i64 d.failAt)∧w.cell? ⟨g,3,none⟩=some (.bool d.dead)∧w.cell? ⟨g,4,none⟩=some (.bool d.once)∧
   w.cell? ⟨g,5,none⟩=some (.bool d.half)∧w.cell? ⟨g,6,none⟩=some (.bool d.hit)∧w.cell? ⟨g,7,none⟩=some (.bool d.turned))∧∀ i,w.frozen? ⟨g,i,none⟩=false:=
 ⟨⟨Qd h.1 0 rfl,Qd h.1 1 rfl,Qd h.1 2 rfl,Qd h.1 3 rfl,Qd h.1 4 rfl,Qd h.1 5 rfl,Qd h.1 6 rfl,Qd h.1 7 rfl⟩,fun i=>Qs h.1 i⟩
def Y2 (d:Dk):Bool:=!d.dead && (decide (0<d.failAt) && decide ((d.calls:Int)+1=d.failAt))
def Zj (d:Dk):Dk:=if Y2 d=true then { d with calls:=d.calls+1,dead:=!d.once,hit:=true } else { d with calls:=d.calls+1 }
def Zv (d:Dk):Nat:=if d.dead=true then 2 else if Y2 d=true then (if d.half=true then 1 else 2) else 0
theorem Q3 {base:Nat} {e:TypeId} {size:Nat} {n:Nat} {xs:List Value} (h:w.ownsRow base e size v n xs) (hf:Fr S w w') (hS:∀ k,v.ownBlock=some k→¬ S k):w'.ownsRow base e size v n xs:=by
 refine⟨h.1,?_⟩;rcases h.2 with hn|⟨b,cap,cur,rfl,a,hb,hr⟩
 ·exact .inl hn
 ·exact .inr ⟨b,cap,cur,rfl,a,hf.heap hb (hS b rfl),hr⟩
theorem Q1.set {d':Dk} (h:Q1 w g v d) (hf:Fr (·=g) w w') (hc:w'.heap[g]?=some (.cells (J8 v d') 116 (0,0))) (hfl:d'.files=d.files):Q1 w' g v d':=by refine⟨hc,?_⟩;rw[hfl];exact Q3 h.2 hf fun k hk e=>h.parts (by rw[hk,e])
theorem Qt5 (h:d.dead=true):Zv d=2:=by simp[Zv,h]
theorem Qnh (w:World) (g:Nat) (v:Value) (d:Dk) (h:Q1 w g v d) (hc:d.calls<1099511627776) :
  Calls prog 302 #[.pointer (some ⟨g,0,none⟩)] w fun e w'=>e=.returned (.int .i64 (Zv d))∧Q1 w' g v (Zj d)∧Fr (·=g) w w':=by
 obtain⟨⟨c0,c1,c2,c3,c4,c5,c6,c7⟩,f0⟩:=h.cells;have HH:=zh h;have hw:wrap64 ((d.calls:Int)+1)=(d.calls:Int)+1:=by unfold wrap64;omega
 clear h;have F1:=Fr.setCell1 w ⟨g,1,none⟩ (.int .i64 ((d.calls:Int)+1));have H1:=heap_setCell (i:=1) HH.o.1 (.int .i64 ((d.calls:Int)+1));have HF:=zh F1;have c:=zh H1;clear F1 H1;cases hdead:d.dead with
 | true=>
  rw[hdead] at c3;have HD:=zh hdead;clear hdead
  go_enter func302,ntmps302
  go_wp2;go_ret;exact⟨Qbk (by rw[Qt5 HD.o];rfl),HH.o.set HF.o (c.o.trans (by simp[J8,Zj,Y2,HD.o])) (by simp[Zj,Y2,HD.o]),HF.o⟩
 | false=>
  rw[hdead] at c3;have HD:=zh hdead;clear hdead;cases hgt:decide (0<d.failAt) with
  | true=>
   cases heq:((d.calls:Int)+1 == d.failAt) with
   | false=>
    have hb:Y2 d=false:=by simp[Y2,HD.o];intro _;simpa using heq
    have a:=zh (show Zv d=0∧Q1 (w.setCell ⟨g,1,none⟩ (.int .i64 ((d.calls:Int)+1))) g v (Zj d) from
     ⟨by simp[Zv,HD.o,hb],HH.o.set HF.o (c.o.trans (by simp[J8,Zj,hb])) (by simp[Zj,hb])⟩)
    clear hb
    go_enter func302,ntmps302
    go_wp2
    go_quiet (fail)
    go_wp2;go_ret;exact⟨Qbk (by rw[a.o.1];rfl),a.o.2,HF.o.drewN _⟩
   | true=>
    have hb:Y2 d=true:=by
     have h1:=of_decide_eq_true hgt;have h2:(d.calls:Int)+1=d.failAt:=by simpa using heq
     simp[Y2,HD.o,h1,h2]
    have F2:=((Fr.setCell1 w ⟨g,1,none⟩ (.int .i64 ((d.calls:Int)+1))).setCell (p:=⟨g,3,none⟩) (fun _=>rfl) (.bool (!d.once))).setCell (p:=⟨g,6,none⟩) (fun _=>rfl) (.bool true);have H2:=heap_setCell (i:=6) (heap_setCell (i:=3) c.o (.bool (!d.once))) (.bool true);have b:=zh F2;have f:=zh H2;clear F2 H2;cases hhalf:d.half with
    | false=>
     rw[hhalf] at c5;have a:=zh (show Zv d=2∧Q1 (((w.setCell ⟨g,1,none⟩ (.int .i64 ((d.calls:Int)+1))).setCell ⟨g,3,none⟩ (.bool (!d.once))).setCell ⟨g,6,none⟩ (.bool true)) g v (Zj d) from
      ⟨by simp[Zv,HD.o,hb,hhalf],HH.o.set b.o (f.o.trans (by simp[J8,Zj,hb])) (by simp[Zj,hb])⟩)
     clear hb hhalf
     go_enter func302,ntmps302
     go_wp2
     go_quiet (fail)
     go_wp2;go_ret;exact⟨Qbk (by rw[a.o.1];rfl),a.o.2,b.o.drewN _⟩
    | true=>
     rw[hhalf] at c5;have a:=zh (show Zv d=1∧Q1 (((w.setCell ⟨g,1,none⟩ (.int .i64 ((d.calls:Int)+1))).setCell ⟨g,3,none⟩ (.bool (!d.once))).setCell ⟨g,6,none⟩ (.bool true)) g v (Zj d) from
      ⟨by simp[Zv,HD.o,hb,hhalf],HH.o.set b.o (f.o.trans (by simp[J8,Zj,hb])) (by simp[Zj,hb])⟩)
     clear hb hhalf
     go_enter func302,ntmps302
     go_wp2
     go_quiet (fail)
     go_wp2;go_ret;exact⟨Qbk (by rw[a.o.1];rfl),a.o.2,b.o.drewN _⟩
  | false=>
   have hb:Y2 d=false:=by simp[Y2,hgt]
   have a:=zh (show Zv d=0∧Q1 (w.setCell ⟨g,1,none⟩ (.int .i64 ((d.calls:Int)+1))) g v (Zj d) from
    ⟨by simp[Zv,HD.o,hb],HH.o.set HF.o (c.o.trans (by simp[J8,Zj,hb])) (by simp[Zj,hb])⟩)
   clear hb
   go_enter func302,ntmps302
   go_wp2
   go_quiet (fail)
   go_wp2;go_ret;exact⟨Qbk (by rw[a.o.1];rfl),a.o.2,HF.o.drewN _⟩
end
section
theorem Q7e:(prog.info? 147).map (fun i=>(i.zero,i.size,i.bytes))=some (some (.slice none 0 0),1,24):=by kernel_rfl
end
section
theorem Qqi (v1 v2:Value) (s1 s2:List ByteArray) (w:World) (h1:Zn w v1 s1) (h2:Zn w v2 s2) (hn:s1.length≤1048576) :
  Calls prog 35 #[v1,v2] w fun e w'=>e=.returned (.bool (decide (s1=s2)))∧Below w.heap.size w w':=by
 obtain⟨a1,c1,rfl,m,c⟩:=h1;obtain⟨a2,c2,rfl,j,b⟩:=h2;by_cases hl:s1.length=s2.length
 ·have hd:((s1.length:Int) != (s2.length:Int))=false:=by rw[hl];simp
  have H1:=zh c;have H2:=zh b;have HL:=zh hl;have A:s2.length≤1048576:=by omega
  clear c b hl
  go_enter func35,ntmps35
  go_wp2
  go_loopw [5] (fun i wr=>∃ (k n:Nat),k≤s1.length∧i=.int .i64 k∧wr=w.drewN n∧s1.take k=s2.take k) (fun i _=>s1.length-(intOf i).toNat)
  case atStart=>exact⟨0,0,by omega,rfl,rfl,rfl⟩
  case round=>
   obtain⟨k,nd,hk,rfl,rfl,d⟩:=hrel;have f:=zh d;clear d;by_cases hlt:k<s1.length
   ·obtain⟨x,hx⟩:∃ s,s1[k]?=some s:=⟨_,List.getElem?_eq_getElem hlt⟩
    obtain⟨y,hy⟩:∃ s,s2[k]?=some s:=⟨_,List.getElem?_eq_getElem (by rw[←HL.o];exact hlt)⟩
    obtain⟨b1,q,rfl,p⟩:=H1.o k (.string x) (by simp[hx]);obtain⟨b2,r,rfl,l⟩:=H2.o k (.string y) (by simp[hy]);have t:k<s2.length:=by rw[←HL.o];exact hlt
    have HX:=zh hx;have HY:=zh hy;have v:(0:Int)≤(k:Int):=by omega
    have z:(k:Int)<(s1.length:Int):=by omega
    have u:(k:Int)<(s2.length:Int):=by omega
    clear hx hy;go_wp2
    go_quiet (fail)
    go_wp2
    ·have a:(!x.toList == y.toList)=true:=by assumption
     go_ret;refine⟨Ym ?_,Ze (Ze (Below.refl _ _) _) _⟩;rw[eq_comm,decide_eq_false_iff_not];rintro rfl
     have:=HX.o
     rw[HY.o] at this;cases this;simp at a
    ·have a:(!x.toList == y.toList)=false:=by assumption
     have g:x=y:=by rw[ByteArray.toList_eq,ByteArray.toList_eq] at a;exact Go.WideShapes.bytes_inj (by simpa using a)
     subst g;go_roundw
     case rel=>exact⟨k+1,_,by omega,by go_num,rfl,by rw[List.take_add_one,List.take_add_one,f.o,HX.o,HY.o]⟩
     case measure=>simp[intOf];omega
   ·go_wp2
    go_ret;have e1:s1.take k=s1:=List.take_of_length_le (by omega);have e2:s2.take k=s2:=List.take_of_length_le (by rw[←HL.o];omega);exact⟨Ym (by rw[eq_comm,decide_eq_true_eq,←e1,←e2];exact f.o),Ze (Below.refl _ _) _⟩
 ·have hd:((s1.length:Int) != (s2.length:Int))=true:=by rw[bne_iff_ne];omega
  clear c b
  go_enter func35,ntmps35
  go_wp2;go_ret;exact⟨Ym (by rw[eq_comm,decide_eq_false_iff_not];intro h;exact hl (by rw[h])),Below.refl _ _⟩
theorem Qeu {w:World} {v:Value} {l:List UInt8} (hb:Q8 w v l):Sem.run prog (convert 147 9 v) w=.ok (.string ⟨l.toArray⟩) w:=by
 obtain⟨ad,c,rfl,_,hc⟩:=hb;cases l with
 | nil=>
  have h:=run_convert_bytes_string (P:=prog) w 147 9 5 ad 0 c underlying147 underlying5 underlying9;rw[show ([]:List UInt8).length=0 from rfl,h];cases ad <;> simp[Conv.bytesToString,loadCells,loadCellsFrom] <;> rfl
 | cons x l=>
  obtain⟨b,off,rfl,_⟩:=hc 0 (u8 x) (by simp);refine run_convert_bytes_back w 147 9 5 ⟨b,off,none⟩ c (x :: l) underlying147 underlying5 underlying9 fun j hj=>?_
  obtain⟨b',off',d,a⟩:=hc j (u8 (x :: l)[j]) (by rw[List.getElem?_map,List.getElem?_eq_getElem hj];rfl);cases d;rw[Addr.add_lit];exact a
theorem Qip (n:Nat) (h:n≤255):(Value.int .u8 (n:Int))=u8 (UInt8.ofNat n):=by
 show _=Value.int .u8 _;rw[UInt8.toNat_ofNat']
 congr 1
 omega
abbrev sOf (l:List UInt8):ByteArray:=⟨l.toArray⟩
theorem Qez (a b:List UInt8):sOf a++sOf b=sOf (a++b):=by apply ByteArray.ext;simp
theorem Qxj (x:UInt8) (r:List UInt8):(ByteArray.mk #[x])++sOf r=sOf (x :: r):=Qez [x] r
variable {a b:ByteArray}
theorem Jp (h:a=b):(a.toList == b.toList)=true:=by subst h;simp
theorem Y9 (h:a≠b):(a.toList == b.toList)=false:=by rw[beq_eq_false_iff_ne,ByteArray.toList_eq,ByteArray.toList_eq];intro e;exact h (Go.WideShapes.bytes_inj e)
theorem Qag (s:ByteArray):sOf s.data.toList=s:=by apply ByteArray.ext;simp
theorem Qb0 (l:List UInt8):(sOf l).size=l.length:=by simp[ByteArray.size]
theorem Qcu {a b:List UInt8} (h:sOf a=sOf b):a=b:=by
 have:=congrArg (fun x=>x.data.toList) h
 simpa using this
end
section
def Ya (l:List (ByteArray×ByteArray)) (p:ByteArray):Nat:=l.findIdx fun f=>decide (f.1=p)
def Jc (l:List (ByteArray×ByteArray)) (p:ByteArray):Int:=if Ya l p<l.length then Ya l p else -1
variable {l:List (ByteArray×ByteArray)} {p:ByteArray}
theorem Qnf {k:Nat} {f:ByteArray×ByteArray} (hk:l[k]?=some f) (hf:f.1=p)
  (h:∀ j,j<k→∀ y,l[j]?=some y→¬ y.1=p):Jc l p=k:=by
 obtain⟨a,rfl⟩:=List.getElem?_eq_some_iff.1 hk;have e:Ya l p=k:=by
  unfold Ya;rw[List.findIdx_eq a];exact⟨by simpa using hf,fun j hj=>by
   have:=h j hj _ (List.getElem?_eq_getElem (by omega))
   simpa using this⟩
 simp[Jc,e,a]
theorem Qjl (h:∀ j,j<l.length→∀ y,l[j]?=some y→¬ y.1=p):Jc l p = -1:=by
 have e:Ya l p=l.length:=by unfold Ya;rw[List.findIdx_eq_length];intro x hx;obtain⟨j,hj,rfl⟩:=List.mem_iff_getElem.1 hx;simpa using h j hj _ (List.getElem?_eq_getElem hj)
 simp[Jc,e]
theorem Q0m (a b:ByteArray):(a.toList == b.toList)=decide (a=b):=by
 by_cases h:a=b
 ·rw[Jp h];simp[h]
 ·rw[Y9 h];simp[h]
theorem Qtm (w:World) (pb:Nat) (p:ByteArray) (hp:w.cell? ⟨pb,0,none⟩=some (.string p)) (f:ByteArray×ByteArray) :
  Calls prog 165 #[.agg #[.string f.1,.string f.2],.pointer (some ⟨pb,0,none⟩)] w fun e w'=>e=.returned (.bool (decide (f.1=p)))∧Below w.heap.size w w':=by
 have hb:pb<w.heap.size:=Qk hp;obtain⟨f1,f2⟩:=f;have e:=Q0m f1 p
 go_enter func165,ntmps165
 go_wp2;go_ret;exact⟨rfl,Qa w _⟩
theorem Qps (w:World) (v:Value) (l:List (ByteArray×ByteArray)) (pb:Nat) (p:ByteArray) (hv:w.ownsRow 0 132 2 v l.length (Zg l)) (hp:w.cell? ⟨pb,0,none⟩=some (.string p)) :
  Calls prog 164 #[v,.func (.func 165) #[] #[.pointer (some ⟨pb,0,none⟩)]] w fun e w'=>e=.returned (.int .i64 (Jc l p))∧Below w.heap.size w w':=by
 have eg:∀ args w,(callFunc 165 args).run prog w=.ok (.enter 165 args) w:=enters_of func165 (by kernel_rfl) rfl;obtain⟨a,c,rfl,hc⟩:∃ a c,v=.slice a l.length c∧∀ j x,l[j]?=some x→∃ b,a=some ⟨b,0,none⟩∧w.cell? ⟨b,j*2,none⟩=some (.string x.1)∧w.cell? ⟨b,j*2+1,none⟩=some (.string x.2)∧b<w.heap.size:=by
  rcases hv.2 with ⟨rfl,h0⟩|⟨b,cap,cur,rfl,_,hb,_,_,_,ht⟩
  ·exact⟨none,0,by rw[h0],fun j x hj=>by have:=(List.getElem?_eq_some_iff.1 hj).1;omega⟩
  ·refine⟨some ⟨b,0,none⟩,cap,rfl,fun j x hj=>⟨b,rfl,?_,?_,Qc hb⟩⟩
   ·have h1:=(Qak l j x hj).1
    rw[←ht] at h1;rw[cell_of_row w b _ cur _ _ hb];have h2:=List.getElem?_take_of_lt (l:=cur.toList) (i:=j*2) (j:=l.length*2) (by have:=(List.getElem?_eq_some_iff.1 hj).1;omega);rw[h2] at h1;simpa using h1
   ·have h1:=(Qak l j x hj).2
    rw[←ht] at h1;rw[cell_of_row w b _ cur _ _ hb];have h2:=List.getElem?_take_of_lt (l:=cur.toList) (i:=j*2+1) (j:=l.length*2) (by have:=(List.getElem?_eq_some_iff.1 hj).1;omega);rw[h2] at h1;simpa using h1
 have k:l.length≤9223372036854775807:=by
  rcases hv.2 with ⟨_,h0⟩|⟨_,_,_,_,_,_,h1,h2,_⟩
  ·omega
  ·unfold maxLen at h2;omega
 have HC:=zh hc;have HP:=zh hp;clear hc hv hp
 go_enter func164,ntmps164
 go_wp2
 go_loopg [5,8] l.length (fun gg _ s8 wr=>∃ kk:Nat,kk≤l.length∧l.length-kk≤gg∧s8=.int .i64 kk∧Aside (Below w.heap.size w wr)∧Aside (∀ j,j<kk→∀ y,l[j]?=some y→¬ y.1=p))
 case atStart=>exact⟨0,Nat.zero_le _,by omega,rfl,Below.refl _ w,fun j hj=>absurd hj (Nat.not_lt_zero _)⟩
 case round=>
  obtain⟨kk,m,hg,rfl,BW,A⟩:=hrel;by_cases hlt:kk<l.length
  ·obtain⟨b,rfl,c1,c2,hb⟩:=HC.o kk _ (List.getElem?_eq_getElem hlt)
   obtain⟨x,hx⟩:∃ x,x=l[kk]:=⟨_,rfl⟩
   rw[←hx] at c1 c2;have g:l[kk]?=some x:=by rw[hx,List.getElem?_eq_getElem hlt]
   have d1:wr.cell? ⟨b,kk*2,none⟩=some (.string x.1):=(BW.o.cell (p:=⟨b,kk*2,none⟩) hb).trans c1;have d2:wr.cell? ⟨b,kk*2+1,none⟩=some (.string x.2):=(BW.o.cell (p:=⟨b,kk*2+1,none⟩) hb).trans c2;have h:(kk:Int)<(l.length:Int):=by omega
   have d:=Qtm wr pb p ((BW.o.cell (p:=⟨pb,0,none⟩) (Qk HP.o)).trans HP.o) x;have HX:=zh g;clear hx g c1 c2;cases hq:decide (x.1=p) with
   | true=>
    rw[hq] at d;have HQ:=zh hq;clear hq
    go_wp2_with (go_at_fn 165;refine d.mono ?_;rintro e w' ⟨rfl,f⟩)
    go_ret;exact⟨Qbk (by rw[Qnf HX.o (of_decide_eq_true HQ.o) A.o];rfl),BW.o.trans (f.mono BW.o.size)⟩
   | false=>
    rw[hq] at d;have HQ:=zh hq;clear hq
    go_wp2_with (go_at_fn 165;refine d.mono ?_;rintro e w' ⟨rfl,f⟩)
    go_roundg (l.length-(kk+1))
    case measure=>omega
    case rel=>
     refine⟨kk+1,by omega,by omega,by go_num,BW.o.trans (f.mono BW.o.size),(show Aside _ from fun j hj y hy=>?_)⟩;by_cases e:j=kk
     ·subst e
      rw[HX.o] at hy;cases hy;exact of_decide_eq_false HQ.o
     ·exact A.o j (by omega) y hy
  ·have h:¬ (kk:Int)<(l.length:Int):=by omega
   have:kk=l.length:=by omega
   go_wp2;go_ret;exact⟨Qbk (by rw[Qjl (fun j hj=>A.o j (by omega))];rfl),BW.o⟩
theorem Qih (w:World) (g:Nat) (v:Value) (d:Dk) (h:Q1 w g v d) (p:ByteArray) :
  Calls prog 122 #[.pointer (some ⟨g,0,none⟩),.string p] w fun e w'=>e=.returned (.int .i64 (Jc d.files p))∧Below w.heap.size w w':=by
 obtain⟨⟨c0,_⟩,_⟩:=h.cells;have hg:=h.lt;have a:=Qps (w.alloc (.cells #[.string p] 9)) v d.files w.heap.size p ((h.below (Qa w _)).2) (by simp);clear h
 go_enter func122,ntmps122
 go_wp2_with (go_at_call 164;refine a.mono ?_;rintro e w' ⟨rfl,b⟩)
 go_ret;exact⟨rfl,(Qa w _).trans (b.mono (by simp))⟩
end
section
def J2 (w:World) (v v':Value):Prop:=∀ k,v'.ownBlock=some k→v.ownBlock=some k∨w.heap.size≤k
theorem J2.refl (w:World) (v:Value):J2 w v v:=fun _ h=>.inl h
variable {w:World}
theorem J2.trans {w':World} {a b c:Value} (h:J2 w a b) (k:J2 w' b c) (hs:w.heap.size≤w'.heap.size):J2 w a c:=fun i hi=>by
 rcases k i hi with h1|h1
 ·exact h i h1
 ·exact .inr (Nat.le_trans hs h1)
variable {base size n:Nat} {e:TypeId} {v:Value} {xs:List Value}
theorem Jm (h:w.ownsRow base e size v n xs) (hne:v≠.slice none 0 0):∃ g cap,v=.slice (some ⟨g,0,none⟩) n cap∧g<w.heap.size:=by
 rcases h.2 with ⟨rfl,_⟩|⟨g,cap,cur,rfl,_,hg,_⟩
 ·exact absurd rfl hne
 ·exact⟨g,cap,rfl,Qc hg⟩
theorem Zi (h:w.ownsRow base e size v n xs):∃ a cap,v=.slice a n cap:=by
 rcases h.2 with ⟨rfl,rfl⟩|⟨g,cap,cur,rfl,_,hg,_⟩
 ·exact⟨_,_,rfl⟩
 ·exact⟨_,_,rfl⟩
variable {P:Program}
theorem Qkb (w:World) (base:Nat) (t ty e:TypeId) (i:TypeInfo) (z:Value) (size bytes:Nat) (ht:P.underlying t=some (.slice e)) (hi:P.info? e=some i) (hz:i.zero=some z)
  (hsize:i.size=size) (hby:i.bytes=bytes) (v:Value) (n:Nat) (xs:List Value) (d:w.ownsRow base e size v n xs)
  (a:Addr) (m c:Nat) (news:List Value) (hl:news.length=m*size) (hnews:∀ j u,news[j]?=some u→w.cell? (a.add j)=some u) (h1:∀ u∈news,u.oneCell'=true) (hm:0<m)
  (h63:n+m≤maxLen) (hbytes:(n+m)*bytes≤140737488355328) (v':Value) (w':World)
  (hr:(Builtin.append_ #[t,t] ty #[v,.slice (some a) m c]).run P w=.ok v' w'):J2 w v v':=by
 subst hsize;subst hby;have l:n+m≤9223372036854775807:=by simp only[maxLen] at h63;omega
 rcases d.2 with ⟨rfl,rfl⟩|⟨g,cap,cur,rfl,r,hg,s,q,o,p⟩
 ·have b:=run_append_nil (P:=P) w t ty e i z ht hi hz a m c news hl hnews (by omega) (by omega) (by have hb:=hbytes;simp only[Nat.zero_add] at hb;omega)
  rw[hr] at b;cases b;intro k hk;simp[Value.ownBlock] at hk;exact .inr (by omega)
 ·by_cases hroom:n+m≤cap
  ·have h:n*i.size+news.length≤cur.size:=by rw[hl,o,←Nat.add_mul];exact Nat.mul_le_mul_right _ hroom
   have b:=run_append_room (P:=P) w t ty e i ht hi g n cap cur hg a m c news hl hnews h1 hroom h;rw[hr] at b;cases b;intro k hk;exact .inl hk
  ·have f:∀ j u,xs[j]?=some u→w.cell? ((⟨g,0,none⟩:Addr).add j)=some u:=d.cells (g:=g) rfl
   have b:=run_append_grow (P:=P) w t ty e i z ht hi hz ⟨g,0,none⟩ n cap xs d.1 f a m c news hl hnews (by omega) (by omega) (growslice_fits (by omega) hbytes);rw[hr] at b;cases b;intro k hk;simp[Value.ownBlock] at hk;exact .inr (by omega)
variable {ops:Array Oper} {o:Oper} {a:Act} {Q:Exit→Act→World→Prop}
theorem Yr {rest:List Oper} (hgd:o.guard=none) (s x:Operand) (t:TypeId)
  (ho:o.op=.call { callee:=.builtin .append,args:=#[s,x],argTypes:=#[t,t] })
  (base:Nat) (e:TypeId) (i:TypeInfo) (z:Value) (size bytes:Nat) (ht:P.underlying t=some (.slice e)) (hi:P.info? e=some i) (hz:i.zero=some z)
  (hsize:i.size=size) (hby:i.bytes=bytes) (hzs:z.cells.size=size) (hsz:0<size) (hbb:bytes≤64)
  (v:Value) (n:Nat) (xs:List Value) (hs:a.eval s=v) (hown:w.ownsRow base e size v n xs)
  (ad:Addr) (m c:Nat) (news:List Value) (hx:a.eval x=.slice (some ad) m c) (hl:news.length=m*size) (hnews:∀ j u,news[j]?=some u→w.cell? (ad.add j)=some u) (h1:∀ u∈news,u.oneCell'=true) (hm:0<m)
  (hn:n+m≤1099511627776) (hbase:base≤w.heap.size)
  (h:∀ v' w',w'.ownsRow base e size v' (n+m) (xs++news)→w.grownBy w' v.ownBlock→J2 w v v'→v'≠.slice none 0 0→wpList P ops Q rest (a.put o.dst v') w') :
  wpList P ops Q (o :: rest) a w:=by
 have b:(n+m)*bytes≤140737488355328:=by refine Nat.le_trans (Nat.mul_le_mul_left _ hbb) ?_;omega
 have d:n+m≤maxLen:=by unfold maxLen;omega
 obtain⟨v',w',hr,h2,h3,h4⟩:=run_append_own (P:=P) w base t o.type e i z size bytes ht hi hz hsize hby hzs hsz v n xs hown ad m c news hl hnews h1 d b hbase;have hk:=Qkb (P:=P) w base t o.type e i z size bytes ht hi hz hsize hby v n xs hown ad m c news hl hnews h1 hm d b v' w' hr;refine wpList_plain hgd fun K hK=>?_
 unfold Oper.wp execOp;simp only[ho,resolve,invoke,builtin,Sem.run_bind,Sem.run_pure,Result.andThen_ok,List.map_toArray,List.map_cons,List.map_nil,hs,hx,hr];exact hK _ _ (h v' w' h2 h3 hk (fun e=>by have:=(h4.1 e).2;omega))
theorem Qcp {K:Act→World→Prop} {E:Prop} (hg:o.guard=none) (s x:Operand) (t:TypeId)
  (ho:o.op=.call { callee:=.builtin .append,args:=#[s,x],argTypes:=#[t,t] })
  (base:Nat) (e:TypeId) (i:TypeInfo) (z:Value) (size bytes:Nat) (ht:P.underlying t=some (.slice e)) (hi:P.info? e=some i) (hz:i.zero=some z)
  (hsize:i.size=size) (hby:i.bytes=bytes) (hzs:z.cells.size=size) (hsz:0<size) (hbb:bytes≤64)
  (v:Value) (n:Nat) (xs:List Value) (hs:a.eval s=v) (hown:w.ownsRow base e size v n xs)
  (ad:Addr) (m c:Nat) (news:List Value) (hx:a.eval x=.slice (some ad) m c) (hl:news.length=m*size) (hnews:∀ j u,news[j]?=some u→w.cell? (ad.add j)=some u) (h1:∀ u∈news,u.oneCell'=true) (hm:0<m)
  (hn:n+m≤1099511627776) (hbase:base≤w.heap.size)
  (h:∀ v' w',w'.ownsRow base e size v' (n+m) (xs++news)→w.grownBy w' v.ownBlock→J2 w v v'→v'≠.slice none 0 0→K (a.put o.dst v') w') :
  if Region.wanted o (yielded ops a.tmps)=true then Oper.wp P o a w K Q else E:=by
 have hw:Region.wanted o (yielded ops a.tmps)=true:=by simp[Region.wanted,hg]
 rw[if_pos hw];have b:(n+m)*bytes≤140737488355328:=by refine Nat.le_trans (Nat.mul_le_mul_left _ hbb) ?_;omega
 have d:n+m≤maxLen:=by unfold maxLen;omega
 obtain⟨v',w',hr,h2,h3,h4⟩:=run_append_own (P:=P) w base t o.type e i z size bytes ht hi hz hsize hby hzs hsz v n xs hown ad m c news hl hnews h1 d b hbase;have hk:=Qkb (P:=P) w base t o.type e i z size bytes ht hi hz hsize hby v n xs hown ad m c news hl hnews h1 hm d b v' w' hr;unfold Oper.wp execOp;simp only[ho,resolve,invoke,builtin,Sem.run_bind,Sem.run_pure,Result.andThen_ok,List.map_toArray,List.map_cons,List.map_nil,hs,hx,hr];exact h v' w' h2 h3 hk (fun e=>by have:=(h4.1 e).2;omega)
end
section
def putF (l:List (ByteArray×ByteArray)) (p b:ByteArray):List (ByteArray×ByteArray):=if Ya l p<l.length then l.set (Ya l p) (p,b) else l ++ [(p,b)]
theorem Zab:(prog.info? 132).map (fun i=>(i.zero,i.size,i.bytes))=some (some (.agg #[.string ⟨#[]⟩,.string ⟨#[]⟩]),2,32):=by kernel_rfl
theorem Qji:∃ i,prog.info? 132=some i∧i.zero=some (.agg #[.string ⟨#[]⟩,.string ⟨#[]⟩])∧i.size=2∧i.bytes=32:=by
 have h:=Zab;cases hi:prog.info? 132 with
 | none=>rw[hi] at h;simp at h
 | some i=>rw[hi] at h;simp at h;exact⟨i,rfl,h.1,h.2.1,h.2.2⟩
theorem Qbo (l:List (ByteArray×ByteArray)) (f:ByteArray×ByteArray):Zg (l ++ [f])=Zg l ++ [.string f.1,.string f.2]:=by simp[Zg,J6]
theorem Qlo:∀ (l:List (ByteArray×ByteArray)) (j:Nat) (f:ByteArray×ByteArray) (b:ByteArray),l[j]?=some f→(Zg l).set (j*2+1) (.string b)=Zg (l.set j (f.1,b))
 | [],j,f,b,h=>by simp at h
 | a :: l,0,f,b,h=>by simp at h;subst h;rfl
 | a :: l,j+1,f,b,h=>by
   have ih:=Qlo l j f b (by simpa using h)
   have e:∀ a l,(Zg (a :: l))=.string a.1 :: .string a.2 :: Zg l:=fun _ _=>rfl
   rw[List.set_cons_succ,e,e,←ih,show (j+1)*2+1=j*2+1+1+1 by omega]
   rfl
theorem Qe0 {l:List (ByteArray×ByteArray)} {p:ByteArray} (h:Ya l p<l.length):(l[Ya l p]'h).1=p:=by
 have:=List.findIdx_getElem (xs:=l) (p:=fun (f:ByteArray×ByteArray)=>decide (f.1=p)) (w:=h)
 exact of_decide_eq_true this
theorem Qdf (w:World) (x y:Value) (t:TypeId) (n:Nat) (hn:n=w.heap.size):∀ (j:Nat) (u:Value),[x,y][j]?=some u→(w.alloc (.cells #[x,y] t)).cell? ((⟨n,0,none⟩:Addr).add j)=some u:=by intro j u hu;rw[Addr.add_lit,World.cell?_alloc_at _ _ _ _ hn];simpa using hu
theorem Q23 (w:World) (g:Nat) (v:Value) (d:Dk) (h:Q1 w g v d) (p:ByteArray) (dv:Value) (b:List UInt8) (hdv:Q8 w dv b) (hn:d.files.length<1099511627776) :
  Calls prog 303 #[.pointer (some ⟨g,0,none⟩),.string p,dv] w fun e w'=>e=.returned (.tuple #[])∧
   ∃ v',Q1 w' g v' { d with files:=putF d.files p ⟨b.toArray⟩ }∧Fr (dkS g v) w w'∧J2 w v v':=by
 have f:=Qih w g v d h p;have HH:=zh h;have HD:=zh hdv;have hg:=h.lt;obtain⟨⟨c0,_⟩,f0⟩:=h.cells;clear h hdv;by_cases hf:Ya d.files p<d.files.length
 ·have hF:Jc d.files p=Ya d.files p:=by unfold Jc;rw[if_pos hf]
  rw[hF] at f;obtain⟨j,hj⟩:∃ j,j=Ya d.files p:=⟨_,rfl⟩
  rw[←hj] at f hf;obtain⟨bk,cap,cur,rfl,m,A,r⟩:∃ bk cap cur,v=.slice (some ⟨bk,0,none⟩) d.files.length cap∧w.heap[bk]?=some (.cells cur 132 (0,0))∧d.files.length*2≤cur.size∧cur.toList.take (d.files.length*2)=Zg d.files:=by
   rcases HH.o.2.2 with ⟨_,h0⟩|⟨bk,cap,cur,rfl,_,hb,q,_,A,ht⟩
   ·omega
   ·exact⟨bk,cap,cur,rfl,hb,by rw[A];exact Nat.mul_le_mul_right _ q,ht⟩
  have L:(0:Int)≤(j:Int):=by omega
  have N:(j:Int)<(d.files.length:Int):=by omega
  have E:bk≠g:=fun e=>HH.o.parts (by simp[Value.ownBlock,e])
  have t:bk<w.heap.size:=Qc m;have y:=zh m;have HJ:=zh hj;obtain⟨x,hx⟩:∃ x,x=d.files[j]'hf:=⟨_,rfl⟩
  have s:d.files[j]?=some x:=by rw[hx,List.getElem?_eq_getElem hf]
  have z:w.cell? ⟨bk,j*2+1,none⟩=some (.string x.2):=by have h1:=(Qak _ j x s).2;rw[←r] at h1;rw[cell_of_row w bk _ cur _ _ m];rw[List.getElem?_take_of_lt (by omega)] at h1;simpa using h1
  have K:=zh z;have H:=zh (Qs m (j*2+1));have u:=zh s;have F:=zh r;clear hj hF m r z hx s
  go_enter func303,ntmps303
  go_wp2_with (go_at_call 122;refine f.mono ?_;rintro e w1 ⟨rfl,a⟩;have c:=zh a;have k0:=(a.cell (p:=⟨g,0,none⟩) hg).trans c0;have k1:=(a.cell (p:=⟨bk,j*2+1,none⟩) t).trans K.o;have k2:=(a.frozen (p:=⟨bk,j*2+1,none⟩) t).trans H.o;have D:=Qeu (w:=w1.drew) (HD.o.below (a.trans ((Qn w1).mono a.size)));clear a)
  go_region;go_wp2;go_end0;have B1:=c.o;refine⟨rfl,_,⟨Jr (p:=⟨bk,j*2+1,none⟩) ((B1.block g hg).trans HH.o.1) (fun e=>E e.symm) _,?_⟩,(Fr.ofBelow B1).trans ((Fr.setCell1 w1 ⟨bk,j*2+1,none⟩ _).weak fun k _ hk=>.inr (by rw[hk];rfl)) |>.drew,J2.refl _ _⟩;have n:putF d.files p ⟨b.toArray⟩=d.files.set j (p,⟨b.toArray⟩):=by unfold putF;rw[if_pos (by rw[←HJ.o];exact hf),←HJ.o]
  have J:x.1=p:=by have h1:=Qe0 (l:=d.files) (p:=p) (by rw[←HJ.o];exact hf);have h2:=u.o;rw[HJ.o,List.getElem?_eq_getElem (by rw[←HJ.o];exact hf)] at h2;rw[←Option.some.inj h2];exact h1
  show World.ownsRow _ 0 132 2 _ (putF d.files p ⟨b.toArray⟩).length (Zg (putF d.files p ⟨b.toArray⟩));rw[n,List.length_set];refine⟨by rw[Jb,List.length_set],.inr ⟨bk,cap,_,rfl,Nat.zero_le _,heap_setCell ((B1.block bk t).trans y.o) _,?_⟩⟩;rcases HH.o.2.2 with ⟨e,_⟩|⟨bk',cap',cur',e,_,hb,q,G,M,ht⟩
  ·cases e
  ·cases e
   rw[y.o] at hb;cases hb;refine⟨q,G,by simpa using M,?_⟩;rw[Array.toList_setIfInBounds,List.take_set,F.o,←J];exact Qlo _ j x _ u.o
 ·have hF:Jc d.files p = -1:=by unfold Jc;rw[if_neg hf]
  rw[hF] at f;have L:¬ (0:Int)≤(-1:Int):=by omega
  obtain⟨i,hi,hz,hs,C⟩:=Qji;have HI:=zh (⟨hi,hz,hs,C⟩:_∧_∧_∧_);clear hi hz hs C hF
  go_enter func303,ntmps303
  go_wp2_with (go_at_call 122;refine f.mono ?_;rintro e w1 ⟨rfl,a⟩;have c:=zh a;have k0:=(a.cell (p:=⟨g,0,none⟩) hg).trans c0;have P:g<w1.heap.size:=Nat.lt_of_lt_of_le hg a.size;have D:=Qeu (w:=w1.drew) (HD.o.below (a.trans ((Qn w1).mono a.size)));clear a)
  go_region_law (refine Qcp rfl _ _ _ rfl 0 132 i _ 2 32 underlying32 HI.o.1 HI.o.2.1 HI.o.2.2.1 HI.o.2.2.2 rfl (by decide) (by decide) v d.files.length (Zg d.files) rfl (Ql HH.o.2 (c.o.trans (((Qn w1).alloc (Nat.le_refl _) _).mono c.o.size))) ⟨w1.heap.size,0,none⟩ 1 1 [.string p,.string ⟨b.toArray⟩] rfl rfl (Qdf _ _ _ _ _ rfl) (by simp[Value.oneCell']) (by decide) (by omega) (Nat.zero_le _) ?_;intro v' w' h2 h3 h4 h5;obtain⟨gb,cp,rfl,O⟩:=Jm h2 h5;have H2:=zh h2;have H3:=zh ((Fr.ofBelow (S:=fun k=>v.ownBlock=some k) (c.o.trans (((Qn w1).alloc (Nat.le_refl _) _).mono c.o.size))).trans (Fr.ofGrown h3 fun k _ e=>e));have H4:=zh ((J2.refl w v).trans h4 (Nat.le_trans c.o.size (by simp)));have k3:=H3.o.cell c0 HH.o.parts;have k4:=(H3.o.frozen (p:=⟨g,0,none⟩) hg HH.o.parts).trans (f0 0);clear h2 h3 h4 h5)
  all_goals (
   go_wp2
   go_end0
   have n:putF d.files p ⟨b.toArray⟩=d.files ++ [(p,⟨b.toArray⟩)]:=by unfold putF;rw[if_neg hf]
   have B:=H3.o.heap HH.o.1 HH.o.parts
   have I:gb≠g:=by
    rintro rfl
    rcases H2.o.2 with ⟨e,_⟩|⟨bk,cap',cur',e,_,hb,_⟩
    ·cases e
    ·cases e
     rw[B] at hb
     simp at hb
   refine⟨rfl,_,⟨(heap_setCell B _).trans (by simp[J8]),?_⟩,(H3.o.weak fun k _ hk=>.inr hk).trans ((Fr.setCell1 w' ⟨g,0,none⟩ _).weak fun k _ hk=>.inl hk),H4.o⟩
   show World.ownsRow _ 0 132 2 _ (putF d.files p ⟨b.toArray⟩).length (Zg (putF d.files p ⟨b.toArray⟩))
   rw[n,List.length_append,Qbo]
   exact Q3 H2.o (Fr.setCell1 w' ⟨g,0,none⟩ _) fun k hk e=>by
    simp[Value.ownBlock] at hk
    exact I (hk.trans e))
end
section
def Ql2 (w:World) (base:Nat) (u:Value):Prop:=∃ q n,u=.iface 218 (.pointer (some ⟨q,0,none⟩))∧base≤q∧w.heap[q]?=some (.cells #[.int .i64 n] 398 (0,0))
def getF (l:List (ByteArray×ByteArray)) (p:ByteArray):Option ByteArray:=(l[Ya l p]?).map (·.2)
variable {l:List (ByteArray×ByteArray)} {p:ByteArray}
theorem Qiz (h:Ya l p<l.length):getF l p=some (l[Ya l p]'h).2:=by simp[getF,List.getElem?_eq_getElem h]
theorem Qdv (h:¬ Ya l p<l.length):getF l p=none:=by simp[getF,List.getElem?_eq_none (Nat.le_of_not_lt h)]
theorem Qls (d:Dk):Zv d=0∨Zv d=1∨Zv d=2:=by unfold Zv;split <;> (try split) <;> (try split) <;> simp
theorem Yy (d:Dk):(Zj d).files=d.files:=by unfold Zj;split <;> rfl
theorem Qks (d:Dk):(Zj d).calls=d.calls+1:=by unfold Zj;split <;> rfl
variable {w:World} {g:Nat} {v:Value} {d:Dk}
theorem Q1.data (h:Q1 w g v d) {j:Nat} {x:ByteArray×ByteArray} (hx:d.files[j]?=some x) :
  ∃ bk cap,v=.slice (some ⟨bk,0,none⟩) d.files.length cap∧bk<w.heap.size∧bk≠g∧w.cell? ⟨bk,j*2,none⟩=some (.string x.1)∧w.cell? ⟨bk,j*2+1,none⟩=some (.string x.2):=by
 have a:=(List.getElem?_eq_some_iff.1 hx).1;have hp:=h.parts;rcases h.2.2 with ⟨_,h0⟩|⟨bk,cap,cur,rfl,_,hb,_,_,_,ht⟩
 ·omega
 ·refine⟨bk,cap,rfl,Qc hb,fun e=>hp (by simp[Value.ownBlock,e]),?_,?_⟩
  ·have h1:=(Qak _ j x hx).1
   rw[←ht,List.getElem?_take_of_lt (by omega)] at h1;rw[cell_of_row w bk _ cur _ _ hb];simpa using h1
  ·have h1:=(Qak _ j x hx).2
   rw[←ht,List.getElem?_take_of_lt (by omega)] at h1;rw[cell_of_row w bk _ cur _ _ hb];simpa using h1
def Q85 (w:World) (g:Nat) (v:Value) (d:Dk) (p:ByteArray) (e:Ending) (w':World):Prop:=
 Q1 w' g v (Zj d)∧Fr (·=g) w w'∧
 ((0<Zv d∧∃ u,e=.returned (.tuple #[.slice none 0 0,u])∧Ql2 w' w.heap.size u)∨
   (Zv d=0∧∃ s v',getF d.files p=some s∧e=.returned (.tuple #[v',.nilIface])∧Qy w' w.heap.size v' s.data.toList∧∃ b c,v'=.slice (some ⟨b,0,none⟩) s.size c)∨
   (Zv d=0∧getF d.files p=none∧e=.returned (.tuple #[.slice none 0 0,.nilIface])))
theorem Qu1 (w:World) (g:Nat) (v:Value) (d:Dk) (h:Q1 w g v d) (p:ByteArray) (hc:d.calls<1099511627776) :
  Calls prog 299 #[.pointer (some ⟨g,0,none⟩),.string p] w fun e w'=>Q85 w g v d p e w':=by
 have n:=Qnh w g v d h hc;have hg:=h.lt;clear h;obtain⟨k,hk⟩:∃ k,k=Zv d:=⟨_,rfl⟩
 rw[←hk] at n;have t:=Qls d;rw[←hk] at t;have HK:=zh hk;clear hk;by_cases h0:0<k
 ·have hz:(0:Int)<(k:Int):=by omega
  go_enter func299,ntmps299
  go_wp2_with (go_at_call 302;refine n.mono ?_;rintro e w1 ⟨rfl,a,b⟩;have c:=zh a;have f:=zh b;have c1:=a.cells.1.2.1;have C:=a.lt;clear a b)
  go_region;go_wp2;go_ret2;have hb:Below w1.heap.size w1 (w1.alloc (.cells #[.int .i64 ((Zj d).calls:Int)] 398)).drew:=(Qa w1 _).drew;exact⟨c.o.below hb,f.o.trans (Fr.ofBelow hb),.inl ⟨by rw[←HK.o];exact h0,_,rfl,w1.heap.size,_,rfl,f.o.size,heap_alloc_new w1 _⟩⟩
 ·have hz:¬ (0:Int)<(k:Int):=by omega
  have u:Zv d=0:=by rw[←HK.o];omega
  have y:=zh u;have m:=fun w1 a=>Qih w1 g v (Zj d) a p
  rw[Yy] at m;clear u t;by_cases hf:Ya d.files p<d.files.length
  ·have hF:Jc d.files p=Ya d.files p:=by unfold Jc;rw[if_pos hf]
   rw[hF] at m;obtain⟨x,hx⟩:∃ x,x=d.files[Ya d.files p]'hf:=⟨_,rfl⟩
   have s:d.files[Ya d.files p]?=some x:=by rw[hx,List.getElem?_eq_getElem hf]
   have q:getF d.files p=some x.2:=by rw[Qiz hf,hx]
   obtain⟨j,hj⟩:∃ j,j=Ya d.files p:=⟨_,rfl⟩
   rw[←hj] at m hf s;have E:(0:Int)≤(j:Int):=by omega
   have A:(j:Int)<(d.files.length:Int):=by omega
   have HX:=zh s;have HG:=zh q;clear hj hF hx s q
   go_enter func299,ntmps299
   go_wp2_with (first|(go_at_call 302;refine n.mono ?_;rintro e w1 ⟨rfl,a,b⟩;have c:=zh a;have f:=zh b;clear a b)|(go_at_call 122;refine (m _ c.o).mono ?_;rintro e w2 ⟨rfl,i⟩;have l:=zh i;have r:=c.o.below i;have z:=zh r;have c0:=r.cells.1.1;obtain⟨bk,cap,rfl,D,B,_,c1⟩:=r.data (j:=j) (x:=x) ((by rw[Yy];exact HX.o));rw[Yy] at c0;clear i r)|(refine Qdz rfl _ _ _ _ rfl underlying9 underlying147 underlying5 rfl _ rfl ?_;rintro v' w3 h1 h2 h3 ⟨b',c',h4⟩;have H1:=zh h1;have H2:=zh h2;subst h4;clear h1 h2 h3))
   go_ret2;exact⟨z.o.below H2.o,f.o.trans (Fr.ofBelow (l.o.trans (H2.o.mono l.o.size))),.inr (.inl ⟨y.o,x.2,_,HG.o,rfl,H1.o.mono (Nat.le_trans f.o.size l.o.size),b',c',rfl⟩)⟩
  ·have hF:Jc d.files p = -1:=by unfold Jc;rw[if_neg hf]
   have q:=Qdv hf;rw[hF] at m;have HG:=zh q;clear hF q hf
   go_enter func299,ntmps299
   go_wp2_with (first|(go_at_call 302;refine n.mono ?_;rintro e w1 ⟨rfl,a,b⟩;have c:=zh a;have f:=zh b;clear a b)|(go_at_call 122;refine (m _ c.o).mono ?_;rintro e w2 ⟨rfl,i⟩;have l:=zh i;clear i))
   go_ret2;exact⟨c.o.below l.o,f.o.trans (Fr.ofBelow l.o),.inr (.inr ⟨y.o,HG.o,rfl⟩)⟩
def Qb6 (d:Dk) (p b:ByteArray):Dk:=if Zv d<2 then { Zj d with files:=putF d.files p b } else Zj d
def Qbv (l:List (ByteArray×ByteArray)) (p b:ByteArray):Bool:=match getF l p with|some x=>decide (x≠b)|none=>false
def putD (d:Dk) (p b:ByteArray):Dk:=if Qbv d.files p b=true then { Zj d with turned:=true } else Qb6 d p b
def Qcr (w:World) (base:Nat) (bad:Bool) (u:Value):Prop:=if bad=true then Ql2 w base u else u=.nilIface
variable {base:Nat} {b:Bool}
theorem Qcr.bad {u:Value} (h:Ql2 w base u) (hb:b=true):Qcr w base b u:=by subst hb;exact h
theorem Qcr.fine (hb:b=false):Qcr w base b .nilIface:=by subst hb;rfl
theorem Q1.noByte (h:Q1 w g v d) (i:Nat) (x:UInt8):w.cell? ⟨g,i,none⟩≠some (u8 x):=by
 obtain⟨a,c,rfl⟩:=Zi h.2;rw[cell_of_row w g i _ _ _ h.1]
 match i with
 | 0=>simp[J8,u8]
 | 1=>simp[J8,u8]
 | 2=>simp[J8,u8]
 | 3=>simp[J8,u8]
 | 4=>simp[J8,u8]
 | 5=>simp[J8,u8]
 | 6=>simp[J8,u8]
 | 7=>simp[J8,u8]
 | i+8=>simp[J8]
theorem Q1.bytes {w':World} (h:Q1 w g v d) (hf:Fr (·=g) w w') {dv:Value} {b:List UInt8} (hb:Q8 w dv b):Q8 w' dv b:=by obtain⟨a,c,hv,hl,hc⟩:=hb;refine⟨a,c,hv,hl,fun j x hx=>?_⟩;obtain⟨q,off,ha,e⟩:=hc j x hx;refine⟨q,off,ha,hf.cell e ?_⟩;rintro rfl;obtain⟨y,_,rfl⟩:=List.mem_map.1 (List.mem_of_getElem? hx);exact h.noByte _ _ e
theorem Qin (w:World) (n:Int) (base:Nat) (hb:base≤w.heap.size):Ql2 (w.alloc (.cells #[.int .i64 n] 398)) base (.iface 218 (.pointer (some ⟨w.heap.size,0,none⟩))):=
 ⟨w.heap.size,n,rfl,hb,heap_alloc_new w _⟩
theorem Q02 (w:World) (n:Int) (base q:Nat) (hb:base≤w.heap.size) (hq:q=w.heap.size):Ql2 (w.alloc (.cells #[.int .i64 n] 398)) base (.iface 218 (.pointer (some ⟨q,0,none⟩))):=by subst hq;exact Qin w n base hb
theorem Q6q (w:World) (g:Nat) (v:Value) (d:Dk) (h:Q1 w g v d) (p:ByteArray) (dv:Value) (b:List UInt8) (hdv:Q8 w dv b) (hc:d.calls<1099511627776) (hn:d.files.length<1099511627776) :
  Calls prog 301 #[.pointer (some ⟨g,0,none⟩),.string p,dv] w fun e w'=>∃ u,e=.returned u∧Qcr w' w.heap.size (decide (0<Zv d)) u∧∃ v',Q1 w' g v' (Qb6 d p ⟨b.toArray⟩)∧Fr (dkS g v) w w'∧J2 w v v':=by
 have a:=Qnh w g v d h hc;have hg:=h.lt;have HH:=zh h;have HD:=zh hdv;clear h hdv;have r:=fun w1 (f:Q1 w1 g v (Zj d)) (hb:Q8 w1 dv b)=>Q23 w1 g v (Zj d) f p dv b hb (by rw[Yy];exact hn)
 rw[Yy] at r;rcases Qls d with hk|hk|hk
 ·rw[hk] at a
  have HK:=zh hk;have j:((0:Nat):Int)=0:=rfl;rw[j] at a;clear hk j
  go_enter func301,ntmps301
  go_wp2_with (first|(go_at_call 302;refine a.mono ?_;rintro e w1 ⟨rfl,f,i⟩;have n:=zh f;have c:=zh i;clear f i)|(go_at_call 303;refine (r _ n.o (HH.o.bytes c.o HD.o)).mono ?_;rintro e w2 ⟨rfl,v2,l,m,q⟩;have x:=zh l;have s:=zh m;have t:=zh q;clear l m q))
  go_ret;refine⟨_,rfl,Qcr.fine (by rw[HK.o];rfl),v2,?_,(c.o.weak fun k _ hk=>.inl hk).trans s.o,fun k hk=>(t.o k hk).imp id (Nat.le_trans c.o.size)⟩;rw[Qb6,HK.o];exact x.o
 ·rw[hk] at a
  have HK:=zh hk;have j:((1:Nat):Int)=1:=rfl;rw[j] at a;clear hk j
  go_enter func301,ntmps301
  go_wp2_with (first|(go_at_call 302;refine a.mono ?_;rintro e w1 ⟨rfl,f,i⟩;have n:=zh f;have c:=zh i;clear f i)|(go_at_call 303;refine (r _ n.o (HH.o.bytes c.o HD.o)).mono ?_;rintro e w2 ⟨rfl,v2,l,m,q⟩;have x:=zh l;have s:=zh m;have t:=zh q;have c1:=l.cells.1.2.1;clear l m q))
  go_ret;have y:w.heap.size≤w2.heap.size:=Nat.le_trans c.o.size s.o.size;refine⟨_,rfl,Qcr.bad (Qin w2 _ _ y) (by rw[HK.o];rfl),v2,?_,((c.o.weak fun k _ hk=>.inl hk).trans s.o).alloc _,fun k hk=>(t.o k hk).imp id (Nat.le_trans c.o.size)⟩;rw[Qb6,HK.o];exact x.o.below (Qa _ _)
 ·rw[hk] at a
  have HK:=zh hk;have j:((2:Nat):Int)=2:=rfl;rw[j] at a;clear hk j
  go_enter func301,ntmps301
  go_wp2_with (first|(go_at_call 302;refine a.mono ?_;rintro e w1 ⟨rfl,f,i⟩;have n:=zh f;have c:=zh i;have c1:=f.cells.1.2.1;clear f i))
  go_ret;refine⟨_,rfl,Qcr.bad (Qin w1 _ _ c.o.size) (by rw[HK.o];rfl),v,?_,(c.o.weak fun k _ hk=>.inl hk).alloc _,J2.refl _ _⟩;rw[Qb6,HK.o];exact n.o.below (Qa _ _)
end
section
variable {l:List (ByteArray×ByteArray)} {p b:ByteArray}
theorem Qy6 (h:¬ Ya l p<l.length):Qbv l p b=false:=by simp[Qbv,Qdv h]
theorem Q1b {x:ByteArray×ByteArray} (h:l[Ya l p]?=some x):Qbv l p b=decide (x.2≠b):=by simp[Qbv,getF,h]
theorem Q8a (w:World) (g:Nat) (v:Value) (d:Dk) (h:Q1 w g v d) (p:ByteArray) (dv:Value) (b:List UInt8) (hdv:Q8 w dv b) (hc:d.calls<1099511627776) (hn:d.files.length<1099511627776) :
  Calls prog 300 #[.pointer (some ⟨g,0,none⟩),.string p,dv] w fun e w'=>∃ u,e=.returned u∧Qcr w' w.heap.size (Qbv d.files p ⟨b.toArray⟩ || decide (0<Zv d)) u∧∃ v',Q1 w' g v' (putD d p ⟨b.toArray⟩)∧Fr (dkS g v) w w'∧J2 w v v':=by
 have t:=Qnh w g v d h hc;have hg:=h.lt;have HH:=zh h;have HD:=zh hdv;clear h hdv;have y:=fun w1 (m:Q1 w1 g v (Zj d)) (hb:Q8 w1 dv b)=>Q23 w1 g v (Zj d) m p dv b hb (by rw[Yy];exact hn)
 have H:=fun w1 m=>Qih w1 g v (Zj d) m p
 rw[Yy] at y H;obtain⟨k,hk⟩:∃ k,k=Zv d:=⟨_,rfl⟩
 have L:=Qls d;rw[←hk] at t L;have HK:=zh hk;clear hk
 go_enter func300,ntmps300
 go_upto_region 3 with (first|(go_at_call 302;refine t.mono ?_;rintro e w1 ⟨rfl,m,N⟩;have M:=zh m;have O:=zh N;clear m N)|(go_at_call 122;refine (H _ M.o).mono ?_;rintro e w2 ⟨rfl,B⟩;have V:=zh B;have I:=zh (M.o.below B);have K:=zh (O.o.trans (Fr.ofBelow B));clear B))
 go_cut [8,13,28] from 14 (fun _ _ c wx=>c=.bool (Qbv d.files p ⟨b.toArray⟩)∧Q1 wx g v (Zj d)∧Fr (·=g) w wx)
 case first=>
  have A:=I.o;have c0:=A.cells.1.1;have Q:=fun n=>Qeu (w:=w2.drewN n) ((HH.o.bytes K.o HD.o).below (Ze (Below.refl _ w2) n))
  by_cases hf:Ya d.files p<d.files.length
  ·have hF:Jc d.files p=Ya d.files p:=by unfold Jc;rw[if_pos hf]
   obtain⟨x,hx⟩:∃ x,x=d.files[Ya d.files p]'hf:=⟨_,rfl⟩
   have F:d.files[Ya d.files p]?=some x:=by rw[hx,List.getElem?_eq_getElem hf]
   have i:=Q1b (b:=⟨b.toArray⟩) F;obtain⟨bk,cap,rfl,Y,T,_,c1⟩:=A.data (x:=x) (by rw[Yy];exact F);rw[Yy] at c0;obtain⟨j,hj⟩:∃ j,j=Ya d.files p:=⟨_,rfl⟩
   rw[hF];rw[←hj] at c1 hf ⊢;have P:decide ((0:Int)≤(j:Int))=true:=by simp
   have R:(j:Int)<(d.files.length:Int):=by omega
   have S:(0:Int)≤(j:Int):=by omega
   have hq:(x.2.toList == b)=decide (x.2=⟨b.toArray⟩):=by have:=Q0m x.2 ⟨b.toArray⟩;simpa using this
   have HQ:=zh hq;have a:=zh i;clear hj hF hx F i A
   go_quiet (fail)
   go_wp2_with fail
   go_meet;exact⟨by rw[a.o];simp[HQ.o],I.o.below (Ze (Below.refl _ w2) _),K.o.drewN _⟩
  ·have hF:Jc d.files p = -1:=by unfold Jc;rw[if_neg hf]
   have a:=zh (Qy6 (b:=⟨b.toArray⟩) hf);rw[hF];have P:decide ((0:Int)≤(-1:Int))=false:=by decide
   clear hF hf A
   go_quiet (fail)
   go_wp2_with fail
   go_meet;exact⟨by rw[a.o],I.o.below (Ze (Below.refl _ w2) _),K.o.drewN _⟩
 case rest=>
  obtain⟨rfl,l,J⟩:=hcut;have C:=zh l;have f:=zh J;have c1:=l.cells.1.2.1;have U:=l.lt;have X:=l.cells.2 7;have c7:=l.cells.1.2.2.2.2.2.2.2;clear l J;cases i:Qbv d.files p ⟨b.toArray⟩ with
  | true=>
   have a:=zh i;have W:(⟨g,7,none⟩:Addr)≠⟨g,1,none⟩:=by simp
   clear i
   go_wp2_with fail
   go_ret;refine⟨_,rfl,Qcr.bad (b:=Qbv d.files p ⟨b.toArray⟩ || decide (0<Zv d)) (Q02 (wc.setCell ⟨g,7,none⟩ (.bool true)) _ _ _ (by simpa using f.o.size) (by simp)) (by rw[a.o];rfl),v,?_,((f.o.weak fun k _ hk=>.inl hk).setCell (p:=⟨g,7,none⟩) (fun _=>.inl rfl) _).alloc _,J2.refl _ _⟩;refine Q1.below (w:=wc.setCell ⟨g,7,none⟩ (.bool true)) ?_ (Qa _ _);rw[putD,if_pos a.o];exact C.o.set (Fr.setCell1 wc ⟨g,7,none⟩ _) ((heap_setCell C.o.1 _).trans (by simp[J8])) rfl
  | false=>
   have a:=zh i;clear i;have hp:putD d p ⟨b.toArray⟩=Qb6 d p ⟨b.toArray⟩:=by rw[putD,if_neg (by rw[a.o];decide)]
   have HP:=zh hp;clear hp;have z:=y wc C.o (HH.o.bytes f.o HD.o);clear y H t;rcases L with rfl|rfl|rfl
   ·go_wp2_with (go_at_call 303;refine z.mono ?_;rintro e w3 ⟨rfl,v3,q,r,s⟩;have G:=zh q;have D:=zh r;have E:=zh s;clear q r s)
    go_ret;refine⟨_,rfl,Qcr.fine (by rw[a.o,←HK.o];rfl),v3,?_,(f.o.weak fun k _ hk=>.inl hk).trans D.o,fun k hk=>(E.o k hk).imp id (Nat.le_trans f.o.size)⟩;rw[HP.o,Qb6,←HK.o];exact G.o
   ·go_wp2_with (go_at_call 303;refine z.mono ?_;rintro e w3 ⟨rfl,v3,q,r,s⟩;have G:=zh q;have D:=zh r;have E:=zh s;have c3:=q.cells.1.2.1;clear q r s)
    go_ret;refine⟨_,rfl,Qcr.bad (Qin w3 _ _ (Nat.le_trans f.o.size D.o.size)) (by rw[a.o,←HK.o];rfl),v3,?_,((f.o.weak fun k _ hk=>.inl hk).trans D.o).alloc _,fun k hk=>(E.o k hk).imp id (Nat.le_trans f.o.size)⟩;rw[HP.o,Qb6,←HK.o];exact G.o.below (Qa _ _)
   ·go_wp2_with fail
    go_ret;refine⟨_,rfl,Qcr.bad (Qin wc _ _ f.o.size) (by rw[a.o,←HK.o];rfl),v,?_,(f.o.weak fun k _ hk=>.inl hk).alloc _,J2.refl _ _⟩;rw[HP.o,Qb6,←HK.o];exact C.o.below (Qa _ _)
end
section
def Qif (d:Dk):Dk:={ d with failAt:=0,dead:=false,hit:=false }
theorem Q5s (w:World) (g:Nat) (v:Value) (d:Dk) (h:Q1 w g v d) :
  Calls prog 71 #[.pointer (some ⟨g,0,none⟩)] w fun e w'=>e=.returned (.tuple #[])∧Q1 w' g v (Qif d)∧Fr (·=g) w w':=by
 obtain⟨⟨c0,c1,c2,c3,c4,c5,c6,c7⟩,f0⟩:=h.cells;have HH:=zh h;clear h;have HC:=zh (heap_setCell (i:=6) (heap_setCell (i:=3) (heap_setCell (i:=2) HH.o.1 (.int .i64 0)) (.bool false)) (.bool false));have HF:=zh (((Fr.set1 w g 2 (.int .i64 0)).set 3 (.bool false)).set 6 (.bool false))
 go_enter func71,ntmps71
 go_wp2;go_end0;exact⟨rfl,HH.o.set HF.o (HC.o.trans (by simp[J8,Qif])) rfl,HF.o⟩
theorem Q7k (w:World) (g:Nat) (v:Value) (d:Dk) (h:Q1 w g v d) :
  Calls prog 76 #[.pointer (some ⟨g,0,none⟩)] w fun e w'=>e=.returned (.bool d.hit)∧w=w':=by
 obtain⟨⟨c0,c1,c2,c3,c4,c5,c6,c7⟩,f0⟩:=h.cells;clear h
 go_enter func76,ntmps76
 go_wp2;go_ret;exact⟨rfl,rfl⟩
end
section
def Jv (w:World) (v:Value) (l:List (ByteArray×ByteArray)):Prop:=
 ∃ a c,v=.slice a l.length c∧l.length≤c∧∀ j x,l[j]?=some x→∃ b off,a=some ⟨b,off,none⟩∧w.cell? ⟨b,off+j*2,none⟩=some (.string x.1)∧w.cell? ⟨b,off+j*2+1,none⟩=some (.string x.2)
variable {w w':World} {v:Value} {l:List (ByteArray×ByteArray)}
theorem Jv.below (h:Jv w v l) (hb:Below w.heap.size w w'):Jv w' v l:=by obtain⟨a,c,hv,hc,hx⟩:=h;refine⟨a,c,hv,hc,fun j x hj=>?_⟩;obtain⟨b,off,ha,h1,h2⟩:=hx j x hj;exact⟨b,off,ha,(hb.cell (Qk h1)).trans h1,(hb.cell (Qk h2)).trans h2⟩
def addF (acc:List (ByteArray×ByteArray)) (f:ByteArray×ByteArray):List (ByteArray×ByteArray):=if Ya acc f.1<acc.length then acc else acc ++ [f]
def firsts (l:List (ByteArray×ByteArray)):List (ByteArray×ByteArray):=l.foldl addF []
def dk0 (l:List (ByteArray×ByteArray)):Dk:=⟨l,0,0,false,false,false,false,false⟩
theorem Qom (l:List (ByteArray×ByteArray)):(firsts l).length≤l.length:=by
 have h:∀ (l acc:List (ByteArray×ByteArray)),(l.foldl addF acc).length≤acc.length+l.length:=by
  intro l
  induction l with
  | nil=>intro acc;simp
  | cons a l ih=>
   intro acc;rw[List.foldl_cons];refine Nat.le_trans (ih _) ?_;unfold addF
   split <;> simp <;> omega
 simpa [firsts] using h l []
theorem Qtn {k:Nat} {x:ByteArray×ByteArray} (h:l[k]?=some x):firsts (l.take (k+1))=addF (firsts (l.take k)) x:=by
 have e:l.take (k+1)=l.take k ++ [x]:=by rw[List.take_add_one,h];rfl
 rw[e,firsts,List.foldl_append];rfl
theorem Q1.pushed {g:Nat} {d:Dk} (h:Q1 w g v d) (x:ByteArray×ByteArray) {gb cp:Nat} (hf:Fr (fun k=>v.ownBlock=some k) w w')
  (h2:w'.ownsRow 0 132 2 (.slice (some ⟨gb,0,none⟩) (d.files.length+1) cp) (d.files.length+1) (Zg d.files ++ [.string x.1,.string x.2])) :
  Q1 (w'.setCell ⟨g,0,none⟩ (.slice (some ⟨gb,0,none⟩) (d.files.length+1) cp)) g (.slice (some ⟨gb,0,none⟩) (d.files.length+1) cp) { d with files:=d.files ++ [x] }∧
   Fr (dkS g v) w (w'.setCell ⟨g,0,none⟩ (.slice (some ⟨gb,0,none⟩) (d.files.length+1) cp)):=by
 have a:=hf.heap h.1 h.parts;have b:gb≠g:=by
  rintro rfl;rcases h2.2 with ⟨e,_⟩|⟨bk,cap',cur',e,_,hb,_⟩
  ·cases e
  ·cases e
   rw[a] at hb;simp at hb
 refine⟨⟨(heap_setCell a _).trans (by simp[J8]),?_⟩,(hf.weak fun k _ hk=>.inr hk).trans ((Fr.setCell1 w' ⟨g,0,none⟩ _).weak fun k _ hk=>.inl hk)⟩;show World.ownsRow _ 0 132 2 _ (d.files ++ [x]).length (Zg (d.files ++ [x]));rw[List.length_append,Qbo];exact Q3 h2 (Fr.setCell1 w' ⟨g,0,none⟩ _) fun k hk e=>by simp[Value.ownBlock] at hk;exact b (hk.trans e)
theorem Qui (w:World) (va:Value) (l:List (ByteArray×ByteArray)) (h:Jv w va l) (hn:l.length≤1073741824) :
  Calls prog 70 #[va] w fun e w'=>∃ g v,e=.returned (.pointer (some ⟨g,0,none⟩))∧Q1 w' g v (dk0 (firsts l))∧Below w.heap.size w w'∧w.heap.size≤g∧(∀ k,v.ownBlock=some k→w.heap.size≤k):=by
 have HH:=zh h;obtain⟨a,c,rfl,hc,hx⟩:=h;have HX:=zh hx;clear hx;obtain⟨i,hi,hz,hs,B⟩:=Qji;have HI:=zh (⟨hi,hz,hs,B⟩:_∧_∧_∧_);clear hi hz hs B
 go_enter func70,ntmps70
 go_wp2
 go_loopg [5,10] l.length (fun gg _ s10 wr=>∃ kk:Nat,kk≤l.length∧l.length-kk≤gg∧s10=.int .i64 kk∧Aside (Below w.heap.size w wr)∧∃ v,Aside (Q1 wr w.heap.size v (dk0 (firsts (l.take kk))))∧Aside (∀ k,v.ownBlock=some k→w.heap.size≤k))
 case atStart=>exact⟨0,Nat.zero_le _,by omega,rfl,Qa _ _,.slice none 0 0,⟨heap_alloc_new w _,World.ownsRow_nil _ _ _ _⟩,fun k hk=>by simp[Value.ownBlock] at hk⟩
 case round=>
  obtain⟨kk,L,hg,rfl,BW,v,u,HV⟩:=hrel;by_cases hlt:kk<l.length
  ·obtain⟨x,hx⟩:∃ x,x=l[kk]:=⟨_,rfl⟩
   have t:l[kk]?=some x:=by rw[hx,List.getElem?_eq_getElem hlt]
   obtain⟨b,off,rfl,c1,c2⟩:=HX.o kk x t;have hb:b<w.heap.size:=Qk c1;have d1:wr.cell? ⟨b,off+kk*2,none⟩=some (.string x.1):=(BW.o.cell (p:=⟨b,off+kk*2,none⟩) hb).trans c1;have d2:wr.cell? ⟨b,off+kk*2+1,none⟩=some (.string x.2):=(BW.o.cell (p:=⟨b,off+kk*2+1,none⟩) hb).trans c2;have C:(kk:Int)<(l.length:Int):=by omega
   have I:b<wr.heap.size:=Nat.lt_of_lt_of_le hb BW.o.size;have G:=zh t;clear hx t c1 c2;obtain⟨acc,j⟩:∃ acc,acc=firsts (l.take kk):=⟨_,rfl⟩
   have K:acc.length≤kk:=by rw[j];refine Nat.le_trans (Qom _) ?_;simp;omega
   have q:firsts (l.take (kk+1))=addF acc x:=by rw[j];exact Qtn G.o
   rw[←j] at u;have HS:=zh q;clear j q;have y:=u.o.below (Qa wr (.cells #[.string x.1,.string x.2] 132));have m:=Qih _ w.heap.size v (dk0 acc) y x.1;have z:=zh y;clear y;by_cases hf:Ya acc x.1<acc.length
   ·have hF:Jc acc x.1=Ya acc x.1:=by unfold Jc;rw[if_pos hf]
    have f:addF acc x=acc:=by unfold addF;rw[if_pos hf]
    rw[show Jc (dk0 acc).files x.1=Ya acc x.1 from hF] at m;have hz:¬ ((Ya acc x.1:Nat):Int)<0:=by omega
    have HA:=zh f;clear hF hf f
    go_wp2_with (go_at_call 122;refine m.mono ?_;rintro e w2 ⟨rfl,d⟩;have r:=zh d;clear d)
    go_roundg (l.length-(kk+1))
    case measure=>omega
    case rel=>
     refine⟨kk+1,by omega,by omega,by go_num,(BW.o.trans ((Qa wr _).mono BW.o.size)).trans (r.o.mono (Nat.le_trans BW.o.size (by simp))),v,?_,HV⟩;show Q1 _ _ _ (dk0 (firsts (l.take (kk+1))));rw[HS.o,HA.o];exact z.o.below r.o
   ·have hF:Jc acc x.1 = -1:=by unfold Jc;rw[if_neg hf]
    have f:addF acc x=acc ++ [x]:=by unfold addF;rw[if_neg hf]
    rw[show Jc (dk0 acc).files x.1 = -1 from hF] at m;have HA:=zh f;clear hF hf f
    go_wp2_with (go_at_call 122;refine m.mono ?_;rintro e w2 ⟨rfl,d⟩;have r:=zh d;have n:=z.o.below d;have s:=zh n;have c0:=n.cells.1.1;have H:=n.cells.2 0;have F:=n.lt;have e1:=(d.cell (p:=⟨wr.heap.size,0,none⟩) (by simp)).trans (World.cell?_alloc_at #[.string x.1,.string x.2] 132 wr.heap.size 0 rfl);have e2:=(d.cell (p:=⟨wr.heap.size,1,none⟩) (by simp)).trans (World.cell?_alloc_at #[.string x.1,.string x.2] 132 wr.heap.size 1 rfl);have D:wr.heap.size<w2.heap.size:=Nat.lt_of_lt_of_le (by simp) d.size;clear d n)
    go_region_law (refine Qcp rfl _ _ _ rfl 0 132 i _ 2 32 underlying32 HI.o.1 HI.o.2.1 HI.o.2.2.1 HI.o.2.2.2 rfl (by decide) (by decide) v acc.length (Zg acc) rfl (Ql s.o.2 ((Qn w2).alloc (Nat.le_refl _) _)) ⟨w2.heap.size,0,none⟩ 1 1 [.string x.1,.string x.2] rfl rfl (Qdf _ _ _ _ _ rfl) (by simp[Value.oneCell']) (by decide) (by omega) (Nat.zero_le _) ?_;intro v' w' h2 h3 h4 h5;obtain⟨gb,cp,rfl,J⟩:=Jm h2 h5;have H2:=zh h2;have H3:=zh ((Fr.ofBelow (S:=fun k=>v.ownBlock=some k) ((Qn w2).alloc (Nat.le_refl _) _)).trans (Fr.ofGrown h3 fun k _ e=>e));have H4:=zh ((J2.refl w2 v).trans h4 (by simp));have k3:=H3.o.cell c0 s.o.parts;have k4:=(H3.o.frozen (p:=⟨w.heap.size,0,none⟩) F s.o.parts).trans H;clear h2 h3 h4 h5)
    all_goals (
     go_wp2_with fail
     go_roundg (l.length-(kk+1))
     case measure=>omega
     case rel=>
      have hp:=s.o.pushed x H3.o H2.o
      have E:w.heap.size≤w2.heap.size:=Nat.le_trans BW.o.size (Nat.le_of_lt D)
      refine⟨kk+1,by omega,by omega,by go_num,((BW.o.trans ((Qa wr _).mono BW.o.size)).trans (r.o.mono (Nat.le_trans BW.o.size (by simp)))).trans (hp.2.below E ?_),.slice (some ⟨gb,0,none⟩) (acc.length+1) cp,?_,?_⟩
      ·intro k hk hd
       rcases hd with rfl|hd
       ·omega
       ·have:=HV.o k hd
        omega
      ·show Q1 _ _ _ (dk0 (firsts (l.take (kk+1))))
       rw[HS.o,HA.o]
       exact hp.1
      ·show ∀ k,_→_
       intro k hk
       rcases H4.o k hk with A | A
       ·exact HV.o k A
       ·omega)
  ·have C:¬ (kk:Int)<(l.length:Int):=by omega
   have:kk=l.length:=by omega
   subst this;go_wp2;go_ret;refine⟨_,rfl,v,?_,BW.o,Nat.le_refl _,HV.o⟩
   have:=u.o
   rw[List.take_length] at this;exact this
end
end Go.Proofs.YtefccfakhgdfbaaGreatDoor
