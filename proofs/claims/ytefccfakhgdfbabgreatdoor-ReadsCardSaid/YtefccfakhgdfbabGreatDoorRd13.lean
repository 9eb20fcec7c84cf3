/- (*Log).write: the files of one level, but for whole ones that are put. Conditions: the marks are of whole files; bounds on calls, files, the row; the closure answers with each file's bytes. -/
import Derived.Test.YtefccfakhgdfbabGreatDoorRd12
set_option linter.unusedVariables false
set_option linter.unusedSimpArgs false
open Go.RowKit Go.Proofs.Tryz
set_option maxRecDepth 100000
set_option maxHeartbeats 4000000
namespace Go.Proofs.YtefccfakhgdfbabGreatDoor
section
open Go.RowKit Go.Sort
variable {w:World} {base:Nat} {t:TypeId} {l:List (ByteArray×ByteArray)}
theorem Yb {v:Value} (h:w.ownsRow base t 2 v l.length (Zh l)):Jf w v l:=by
 rcases h.2 with ⟨rfl,h0⟩|⟨b,cap,cur,rfl,_,hb,r1,_,_,r4⟩
 ·exact⟨none,0,by rw[h0],by omega,fun j x hj=>by have:=(List.getElem?_eq_some_iff.1 hj).1;omega⟩
 ·refine⟨_,_,rfl,r1,fun j x hj=>⟨b,0,rfl,?_,?_⟩⟩
  ·have h1:=(J8 l j x hj).1
   rw[←r4] at h1;rw[cell_of_row w b _ cur _ _ hb];have h2:=List.getElem?_take_of_lt (l:=cur.toList) (i:=j*2) (j:=l.length*2) (by have:=(List.getElem?_eq_some_iff.1 hj).1;omega);rw[h2] at h1;simpa using h1
  ·have h1:=(J8 l j x hj).2
   rw[←r4] at h1;rw[cell_of_row w b _ cur _ _ hb];have h2:=List.getElem?_take_of_lt (l:=cur.toList) (i:=j*2+1) (j:=l.length*2) (by have:=(List.getElem?_eq_some_iff.1 hj).1;omega);rw[h2] at h1;simpa using h1
theorem Qt8:∀ u∈Zh l,u.oneCell'=true:=by intro u hu;unfold Zh at hu;obtain⟨f,_,hf⟩:=List.mem_flatMap.1 hu;simp[Jt] at hf;rcases hf with rfl|rfl <;> rfl
theorem Qlq {b n c:Nat} {xs:List Value} (h:w.ownsRow base t 2 (.slice (some ⟨b,0,none⟩) n c) n xs):∀ j u,xs[j]?=some u→w.cell? ((⟨b,0,none⟩:Addr).add j)=some u:=h.cells (g:=b) rfl
theorem Qrw (w:World) (a:Option Addr) (n c:Nat):(binOp .eql 39 (.slice a n c) (.slice none 0 0)).run prog w=.ok (.bool a.isNone) w:=Lib.run_eql_slice_nil w _ _ a n c 0 0 underlying39
theorem Q1o (w:World) (t:TypeId) (size:Nat):(w.alloc (.cells #[] t)).ownsRow w.heap.size t size (.slice (some ⟨w.heap.size,0,none⟩) 0 0) 0 []:=
 ⟨by simp,.inr ⟨w.heap.size,0,#[],rfl,Nat.le_refl _,heap_alloc_new w _,Nat.le_refl _,by decide,by simp,by simp⟩⟩
theorem Qxl (w:World) (v:Value) (l:List (ByteArray×ByteArray)) (hv:w.ownsRow 0 73 2 v l.length (Zh l)) (hn:l.length≤1099511627776) :
  Calls prog 54 #[v] w fun e w'=>∃ v',e=.returned v'∧w'.ownsRow w.heap.size 73 2 v' l.length (Zh l)∧Below w.heap.size w w':=by
 obtain⟨i,hi,hz,hs,hby⟩:=Qjq;rcases hv.2 with ⟨rfl,h0⟩|⟨b,cap,cur,rfl,_,hb,_⟩
 ·have hq:=Qrw w none 0 0
  have hl:l = []:=List.eq_nil_of_length_eq_zero h0;subst hl;clear hv h0
  go_enter func54,ntmps54
  go_wp2;go_ret;exact⟨_,rfl,World.ownsRow_nil _ _ _ _,Below.refl _ _⟩
 ·have hq:=Qrw w (some ⟨b,0,none⟩) l.length cap
  have HV:=zh hv;have hbl:=Qc hb;have HI:=zh (⟨hi,hz,hs,hby⟩:_∧_∧_∧_);have HN:=zh hn;clear hv hb hi hz hs hby hn
  go_enter func54,ntmps54
  go_wp2_with (at_builtin;refine wpList_append_own _ rfl _ _ 39 rfl w.heap.size 73 i _ 2 32 underlying39 HI.o.1 HI.o.2.1 HI.o.2.2.1 HI.o.2.2.2 rfl (by decide) (.slice (some ⟨w.heap.size,0,none⟩) 0 0) 0 [] rfl (Q1o w 73 2) ⟨b,0,none⟩ l.length cap (Zh l) rfl (Y7 l) (Qlq (Qn HV.o (Qa w _))) Qt8 (by have:=HN.o;unfold maxLen;omega) (by have:=HN.o;omega) (by simp) ?_;intro v' w' h2 h3 _)
  go_ret;refine⟨v',rfl,by simpa using h2,((Qa w _).grown h3 (by simp) fun k hk=>?_)⟩;simp[Value.ownBlock] at hk;omega
theorem Qxp {a b:List UInt8} (h:Op.bytesLess a b=false) (hne:a≠b):Op.bytesLess b a=true:=by
 rw[bytesLess_eq] at h ⊢;have h1:¬ a<b:=by simpa using h
 have h2:b≤a:=List.not_lt.1 h1;have h3:b<a:=by
  rcases List.le_iff_lt_or_eq.1 h2 with h4|h4
  ·exact h4
  ·exact absurd h4.symm hne
 simpa using h3
theorem Q24 (x y:ByteArray×ByteArray) (W:World):Calls prog 56 #[.agg #[.string x.1,.string x.2],.agg #[.string y.1,.string y.2]] W fun e w'=>e=.returned (.int .i64 (cfF x y))∧∃ q os',w'=grow (W.drewN q) os':=by
 obtain⟨r,hr⟩:∃ r,r=cfF x y:=⟨_,rfl⟩
 have HR:=zh hr;rw[←hr];cases h1:Op.bytesLess x.1.toList y.1.toList with
 | true=>
  have hc:r = -1:=by rw[hr];unfold cfF;rw[h1];rfl
  clear hr;subst hc
  go_enter func56,ntmps56
  go_wp2;go_ret;exact⟨rfl,0,_,by rw[alloc_eq_grow,alloc_eq_grow,grow_grow];rfl⟩
 | false=>
  by_cases he:x.1.toList=y.1.toList
  ·have hc:r=0:=by rw[hr];unfold cfF;rw[←he,if_neg (by rw[he] at h1 ⊢;simp[h1]),if_neg (by rw[he] at h1 ⊢;simp[h1])]
   have hb:(x.1.toList == y.1.toList)=true:=by simp[he]
   clear hr he;subst hc
   go_enter func56,ntmps56
   go_wp2;go_ret;exact⟨rfl,0,_,by rw[alloc_eq_grow,alloc_eq_grow,grow_grow];rfl⟩
  ·have h2:Op.bytesLess y.1.toList x.1.toList=true:=Qxp h1 he
   have hc:r=1:=by rw[hr];unfold cfF;rw[h1,h2];rfl
   have hb:(x.1.toList == y.1.toList)=false:=by rw[beq_eq_false_iff_ne];exact he
   clear hr he h2;subst hc
   go_enter func56,ntmps56
   go_wp2;go_ret;exact⟨rfl,0,_,by rw[alloc_eq_grow,alloc_eq_grow,grow_grow];rfl⟩
theorem Q2o (blk off size:Nat) (w:World):Go.Proofs.CmpLays prog 56 #[] Jt 2 cfF blk off size w:=fun _ _ _ _ x y=>Q24 x y _
theorem Qug (a:Option Addr) (c:Nat) (u:Value) (w:World):Calls prog 153 #[.slice a 0 c,.int .i64 0,.int .i64 0,u] w fun e w'=>e=.returned (.tuple #[])∧w=w':=by
 go_enter func153,ntmps153
 go_wp2
 go_loop [8] (fun i=>i=.int .i64 1) (fun _=>0)
 case atStart=>rfl
 case round=>
  subst hrel;go_wp2;go_end0;exact⟨rfl,rfl⟩
theorem Q4v (a:Option Addr) (c:Nat) (k:Int) (u:Value) (w:World):Calls prog 108 #[.slice a 0 c,.int .i64 0,.int .i64 0,.int .i64 k,u] w fun e w'=>e=.returned (.tuple #[])∧w=w':=by
 go_enter func108,ntmps108
 go_wp2;refine wp_loop_rounds 1 ?_;rw[rounds_succ]
 go_wp2_with (go_at_call 153;refine (Qug a c u _).mono ?_;rintro e w' ⟨rfl,rfl⟩)
 (try simp only[Exit.inBlock,Exit.then,Exit.inLoop])
 refine bodyPost_ret (results_none rfl _ _ _) rfl ?_;exact⟨rfl,rfl⟩
theorem Qy5 (a:Option Addr) (c:Nat) (u:Value) (w:World):Calls prog 55 #[.slice a 0 c,u] w fun e w'=>e=.returned (.tuple #[])∧w=w':=by
 have hbl:=fun (w:World)=>bits_Len 0 w (by omega) (by omega)
 go_enter func55,ntmps55
 go_wp2_with (first|(go_at_call 109;refine (hbl _).mono ?_;rintro e w' ⟨rfl,rfl⟩)|(go_at_call 108;refine (Q4v a c _ u _).mono ?_;rintro e w' ⟨rfl,rfl⟩))
 go_end0;exact⟨rfl,rfl⟩
theorem Q3k (w:World) (base blk n cap:Nat) (l:List (ByteArray×ByteArray)) (h:w.ownsRow base 73 2 (.slice (some ⟨blk,0,none⟩) n cap) n (Zh l)) (hn:n=l.length) (hlt:n<4611686018427387904) :
  Calls prog 55 #[.slice (some ⟨blk,0,none⟩) n cap,.func (.func 56) #[] #[]] w fun e w'=>e=.returned (.tuple #[])∧
   ∃ l':List (ByteArray×ByteArray),l'.Perm l∧w'.ownsRow base 73 2 (.slice (some ⟨blk,0,none⟩) n cap) n (Zh l')∧Fr (·=blk) w w':=by
 rcases h.2 with ⟨e,_⟩|⟨b,cp,cur,e,hbase,hb,r1,r2,r3,r4⟩
 ·cases e
 ·cases e
  have eg:∀ args w,(callFunc 56 args).run prog w=.ok (.enter 56 args) w:=enters_of func56 (by kernel_rfl) rfl;have hcon:=Go.Proofs.AnyQ.slices_SortFunc sortFile 2 isAgg73 sizeOf73 Jt (fun _=>rfl) (fun x v hv=>by simp[Jt] at hv;rcases hv with rfl|rfl <;> rfl) cfF Q6m 56 #[] blk 0 cap l.toArray w eg (Q2o blk 0 _ w) (Quc hb (by rw[←hn];exact r4)) (Qc hb) (by simpa [←hn] using hlt);have hsz:l.toArray.size=n:=by simp[hn]
  rw[hsz] at hcon;refine Calls.mono hcon ?_;rintro e w' ⟨rfl,d',m,os,hp,_,rfl⟩;have hp':d'.toList.Perm l:=by
   have:=Qt6 (d:=l.toArray) (d':=d') (by rw[hsz];exact hp)
   simpa using this
  refine⟨rfl,d'.toList,hp',?_,Q1y _⟩
  have:=Qmp (m:=m) (os:=os) (l':=d'.toList) h hn hp'.length_eq
  simpa using this
theorem Qxy (w:World) (g:Nat) (v:Value) (d:Dk) (h:Q3 w g v d) (hn:d.files.length≤1099511627776) :
  Calls prog 30 #[.pointer (some ⟨g,0,none⟩)] w fun e w'=>∃ v' l',e=.returned v'∧w'.ownsRow w.heap.size 73 2 v' l'.length (Zh l')∧l'.Perm d.files∧Below w.heap.size w w':=by
 obtain⟨⟨c0,_⟩,_⟩:=h.cells;have HC:=zh (Qxl w v d.files h.2 hn);clear h
 go_enter func30,ntmps30
 go_wp2_with fail
 go_at_call 54
 refine HC.o.mono ?_;rintro e w1 ⟨v1,rfl,ho,hb⟩;have HB:=zh hb;rcases ho.2 with ⟨rfl,h0⟩|⟨blk,cap,cur,rfl,hbase,hbk,_⟩
 ·have hl:d.files = []:=List.eq_nil_of_length_eq_zero h0
  have HL:=zh hl;clear ho hb hl h0
  go_wp2_with (go_at_call 55;refine (Qy5 _ _ _ _).mono ?_;rintro e w2 ⟨rfl,rfl⟩)
  go_ret;exact⟨_,[],rfl,World.ownsRow_nil _ _ _ _,by rw[HL.o],HB.o⟩
 ·have HS:=zh (Q3k w1 _ blk _ cap d.files ho rfl (by omega))
  have hlt:=Qc hbk;clear ho hb hbk
  go_wp2_with (go_at_call 55;refine HS.o.mono ?_;rintro e w2 ⟨rfl,l',hp,ho2,hf2⟩;have HP:=zh hp;have HO:=zh ho2;have HF:=zh hf2;clear hp ho2 hf2)
  go_ret;exact⟨.slice (some ⟨blk,0,none⟩) d.files.length cap,l',rfl,by have:=HO.o;rw[←HP.o.length_eq] at this ⊢;exact this,HP.o,HB.o.trans (HF.o.below HB.o.size fun k hk e=>by omega)⟩
end
section
theorem Qx5 (w:World) (gd:Nat) (files:List Fil) :
  Calls prog 19 #[.pointer (some ⟨gd,0,none⟩)] w fun e w'=>∃ gn,e=.returned (.pointer (some ⟨gn,0,none⟩))∧Yk w' gn gd (.slice none 0 0) (.slice none 0 0) ⟨files,[],[],0⟩∧Below w.heap.size w w'∧w.heap.size≤gn:=by
 go_enter func19,ntmps19
 go_wp2;exact bodyPost_ret (results_tmp rfl _ _ _) rfl ⟨w.heap.size,rfl,⟨heap_alloc_new w _,World.ownsRow_nil _ _ _ _,World.ownsRow_nil _ _ _ _,rfl,fun k hk=>by simp at hk⟩,Qa w _,Nat.le_refl _⟩
theorem Q68:(prog.info? 3).map (fun i=>(i.zero,i.size,i.bytes))=some (some (.int .i64 0),1,8):=by kernel_rfl
theorem Qqn:∃ i,prog.info? 3=some i∧i.zero=some (.int .i64 0)∧i.size=1∧i.bytes=8:=by
 have h:=Q68;cases hi:prog.info? 3 with
 | none=>rw[hi] at h;simp at h
 | some i=>rw[hi] at h;simp at h;exact⟨i,rfl,h.1,h.2.1,h.2.2⟩
end
section
theorem Qpe (es:List (List UInt8)) (k w:Nat):(es.take (4*k))++(es.drop (4*k)).take w=es.take (4*k+w):=by rw[List.take_add]
section
variable {es:List (List UInt8)} {l:List Fil} (hl:es.length≤1048576) (hs:∀ e∈es,e.length≤20) (hT:Qa6 es l) (hB:Qza es l)
include hl hs hT hB
variable {n:Nat}
theorem Qv0 (hn:n≤es.length) (hBn:Qza (es.take n) l):∀ (m i:Nat),4*(m+i)<n+4→n≤4*(m+i)→Qb0 l n m i (es.take (min n (4*i)))=(es.take n,none)
 | 0,i,h1,h2=>by have:=hl;have:=hT;have:=hB;rw[Qb0,Nat.min_eq_left (by omega)]
 | m+1,i,h1,h2=>by
  have hlen:(es.take n).length=n:=by rw[List.length_take,Nat.min_eq_left hn]
  have hsn:∀ e∈es.take n,e.length≤20:=fun e he=>hs e (List.mem_of_mem_take he)
  have hg:=hBn i (by rw[hlen];omega)
  rw[hlen] at hg
  have hb:=Qlm hsn (l:=l) (j:=i) (w:=min 4 (n-4*i)) (by omega) (by omega) (by rw[hlen];omega) hg
  rw[Qb0,hb]
  dsimp only
  have e:es.take (min n (4*i))++((es.take n).drop (4*i)).take (min 4 (n-4*i))=es.take (min n (4*(i+1))):=by
   rw[Nat.min_eq_right (show 4*i≤n by omega)]
   rw[show es.take (4*i)=(es.take n).take (4*i) by rw[List.take_take,Nat.min_eq_left (by omega)],Qpe,List.take_take]
   congr 1
   omega
  rw[e]
  exact Qv0 hn hBn m (i+1) (by omega) (by omega)
variable {k:Nat}
theorem Q27 {W:Nat} (hk:k≤es.length) (h1:1≤W) (h4:W≤4) (h:es.length<4*(k / 4)+W):getF l (Ym (k / 4) W)=none:=by
 have:=hs;have:=hB
 rw[Qc8];intro f hf e;rcases hT f hf with h2|h2
 ·exact Qer _ _ _ (Qcw (e.symm.trans h2))
 ·rw[e] at h2
  obtain⟨m,j,w,r,k1,k2,k3,k4,k5,_⟩:=h2;have c:=Qnr hl k1 k2 k3 k4;have a:Jm (-1) ((k / 4:Nat):Int) W:=by unfold Jm;omega
  have e2:=Qed a c.1 (by omega) c.2 (Qcw k5);obtain rfl:m=0:=by omega
  rw[Qbb] at k1;cases k1;rw[List.length_map] at k4;omega
theorem Qft (hk:k≤es.length) {w0:Nat} (h0:k%4≤w0) (hb:es.length<4*(k / 4)+(w0+1)):∀ (x:Nat),w0+x≤4→Zw l (es.take k) (w0+x)=Zw l (es.take k) w0
 | 0,_=>rfl
 | x+1,h=>by
  have hlen:(es.take k).length=k:=by rw[List.length_take,Nat.min_eq_left hk]
  rw[show w0+(x+1)=w0+x+1 by omega,Zw,hlen,if_neg (by omega),Q27 hl hs hT hB hk (by omega) (by omega) (by omega),if_pos (show (none:Option ByteArray).isNone=true from rfl)]
  exact Qft hk h0 hb x (by omega)
theorem Qt5:Zk l es=([],false):=by
 have h:=Qft hl hs hT hB (Nat.le_refl es.length) (w0:=es.length%4) (Nat.le_refl _) (by omega) (4-es.length%4) (by omega);rw[List.take_length,show es.length%4+(4-es.length%4)=4 by omega] at h;unfold Zk;rw[h];cases hm:es.length%4 with
 | zero=>rfl
 | succ x=>rw[Zw,if_pos (by omega)]
theorem Qro (hk:k<es.length):Zk l (es.take k)=(((es.drop (4*(k / 4))).take (min 4 (es.length-4*(k / 4)))).drop (k%4),decide (min 4 (es.length-4*(k / 4))=4)):=by
 have hlen:(es.take k).length=k:=by rw[List.length_take,Nat.min_eq_left (by omega)]
 obtain⟨w,hw⟩:∃ w,w+1=min 4 (es.length-4*(k / 4)):=⟨min 4 (es.length-4*(k / 4))-1,by omega⟩
 have hg:=hB (k / 4) (by omega);rw[←hw] at hg ⊢;have hd:Zk l (es.take k)=Zw l (es.take k) (w+1):=by
  unfold Zk;rcases Nat.lt_or_ge (w+1) 4 with h4|h4
  ·have h:=Qft hl hs hT hB (Nat.le_of_lt hk) (w0:=w+1) (by omega) (by omega) (4-(w+1)) (by omega)
   rw[show w+1+(4-(w+1))=4 by omega] at h;exact h
  ·rw[show w+1=4 by omega]
 have hb:=Qlm hs (l:=l) (j:=k / 4) (w:=w+1) (by omega) (by omega) (by omega) hg;rw[hd,Zw,hlen,if_neg (by omega),hg,if_neg (by simp),hb];dsimp only;rw[if_pos];rw[List.take_take,List.drop_take,Nat.min_eq_left (by omega)]
 congr 1
 omega
theorem Qvb:∀ (x k:Nat),k+x=es.length→Goes l (es.take k) es
 | x,k,h=>by
  rcases Nat.lt_or_ge k es.length with hk|hk
  ·have hf:=Qro hl hs hT hB hk
   have e:es.take k++(((es.drop (4*(k / 4))).take (min 4 (es.length-4*(k / 4)))).drop (k%4))=es.take (min (4*(k / 4)+4) es.length):=by
    have e1:es.take k=es.take (4*(k / 4))++(es.drop (4*(k / 4))).take (k%4):=by rw[Qpe];congr 1;omega
    have e2:(es.drop (4*(k / 4))).take (k%4)=((es.drop (4*(k / 4))).take (min 4 (es.length-4*(k / 4)))).take (k%4):=by rw[List.take_take,Nat.min_eq_left (by omega)]
    rw[e1,e2,List.append_assoc,List.take_append_drop,Qpe]
    congr 1
    omega
   by_cases h4:min 4 (es.length-4*(k / 4))=4
   ·refine .more (by rw[hf];simp[h4]) ?_
    rw[hf]
    dsimp only
    rw[e,show min (4*(k / 4)+4) es.length=4*(k / 4)+4 by omega]
    exact Qvb (es.length-(4*(k / 4)+4)) (4*(k / 4)+4) (by omega)
   ·have h2:Goes l (es.take k) (es.take k++(Zk l (es.take k)).1):=.stop (by rw[hf];simp[h4])
    rw[hf] at h2
    dsimp only at h2
    rw[e,show min (4*(k / 4)+4) es.length=es.length by omega,List.take_length] at h2
    exact h2
  ·obtain rfl:k=es.length:=by omega
   rw[List.take_length]
   have hf:=Qt5 hl hs hT hB
   have h2:Goes l es (es++(Zk l es).1):=.stop (by rw[hf])
   rw[hf,List.append_nil] at h2
   exact h2
termination_by x=>x
decreasing_by omega
variable {key:ByteArray}
theorem Q0y (hn:n≤es.length) (hBn:Qza (es.take n) l) (hc:Yr l key=some (n,rootOf (es.take n))):Yf l key (.good es n):=by
 refine .fine hc ?_ rfl (Qvb hl hs hT hB (es.length-n) n (by omega))
 have:=Qv0 hl hs hT hB hn hBn ((n+3) / 4) 0 (by omega) (by omega)
 rw[Nat.mul_zero,Nat.min_zero,List.take_zero] at this;exact this
end
variable {key:ByteArray}
theorem Qz9 {l:List Fil} (h:getF l (sOf kCp)=none):Yr l key=some (0,rootOf []):=by unfold Yr;rw[h];rfl
end
section
structure Qas (d:Dk):Prop where
 failAt:d.failAt=0
 dead:d.dead=false
 hit:d.hit=false
variable {d:Dk}
theorem Qas.noHit (h:Qas d):Y1 d=false:=by unfold Y1;rw[h.failAt];simp
theorem Qas.enter (h:Qas d):Qas (Zj d):=by unfold Zj;rw[h.noHit];exact⟨h.failAt,h.dead,h.hit⟩
theorem Qas.swap (h:Qas d) (p b:ByteArray):Qas (Qb2 d p b):=by
 have:=h.enter
 unfold Qb2
 split
 ·exact⟨this.failAt,this.dead,this.hit⟩
 ·exact this
theorem Qas.put (h:Qas d) (p b:ByteArray):Qas (putD d p b):=by
 have:=h.enter
 unfold putD
 split
 ·exact⟨this.failAt,this.dead,this.hit⟩
 ·exact h.swap p b
theorem Qas.puts:∀ (fs:List Fil) {d:Dk},Qas d→Qas (putsD d fs).1
 | [],_,h=>h
 | f :: fs,d,h=>by
  unfold putsD
  split
  ·exact h.put _ _
  ·exact Qas.puts fs (h.put _ _)
theorem Qas.pubJ:∀ (rs:List (List (List UInt8))) (n:Nat) (put:List Nat) {d:Dk},Qas d→Qas (pubJ n rs put d).1
 | [],_,_,_,h=>h
 | r :: rs,n,put,d,h=>by
  unfold Proofs.YtefccfakhgdfbabGreatDoor.pubJ
  dsimp only
  split
  ·exact Qas.puts _ h
  ·exact Qas.pubJ rs (n+1) _ (Qas.puts _ h)
theorem Qas.pub (h:Qas d) (es:List (List UInt8)) (key:ByteArray) (put:List Nat):Qas (pubD es key put d).1:=by
 unfold pubD
 split
 ·exact Qas.pubJ _ _ _ h
 ·exact (Qas.pubJ _ _ _ h).swap _ _
structure Qih (es:List (List UInt8)) (put:List Nat) (d:Dk):Prop where
 fresh:Qje d
 true':Qa6 es d.files
 puts:Qho d.files (Zc es) put
variable {es:List (List UInt8)} {put:List Nat}
theorem Qih.append (h:Qih es put d) (e:List UInt8):Qih (es ++ [e]) put d:=⟨h.fresh,h.true'.more _,Qoq e h.puts⟩
theorem Qe8 (key:ByteArray) (hl:es.length≤1048576) (hq:Qas d) (h:Qih es put d) :
  (pubD es key put d).2.2=none∧Qas (pubD es key put d).1∧Qih es (pubD es key put d).2.1 (pubD es key put d).1∧Y4 es es.length (pubD es key put d).1.files∧getF (pubD es key put d).1.files (sOf kCp)=some (cpOf es key)∧
   (∀ N,Y4 es N d.files→Y4 es N (pubD es key put d).1.files)∧(pubD es key put d).1.files.length≤d.files.length+12*(es.length+3)+1∧(pubD es key put d).1.calls≤d.calls+12*(es.length+3)+1:=by
 obtain⟨h1,h2,h3,h4,h5,h6,h7⟩:=Qht key hl h.fresh (h.true'.noClash hl) h.puts;have hQ:=hq.pub es key put;rcases h7 with ⟨k1,k2,k3,k4,k5⟩|⟨p,k1,k2,_⟩
 ·refine⟨k1,hQ,⟨k2,fun f hf=>?_,k3⟩,?_,k5,fun N hN=>hN.kept h1,h5,h6⟩
  ·rcases h4 f hf with h8|h8|h8
   ·exact h.true' f h8
   ·exact .inr (Qe2 h8)
   ·left;rw[h8]
  ·unfold Y4
   rw[List.take_length];exact k4
 ·have:=hQ.hit
  rw[k2] at this;cases this
theorem Qy8 (d:Dk) (hf:d.files = []) (hd:d.dead=false) (hh:d.hit=false) (ht:d.turned=false):Qih [] [] d:=
 ⟨⟨hd,hh,ht,by rw[hf];exact List.nodup_nil⟩,by rw[hf];exact Qa6.nil _,Qrv _ _⟩
end
section
def nmT (N k j:Nat):ByteArray:=Qr ((k:Nat):Int) j (Zt j (N / 4 ^ k))
variable {N L:Nat} {p:ByteArray}
theorem Qyr {idx:Nat} (h:p∈Qfq N L idx):p=nmT N (L / 2) (idx*2 ^ L / 4 ^ (L / 2+1)):=by
 unfold Qfq at h;by_cases ho:L%2=1
 ·obtain⟨k,rfl⟩:∃ k,L=2*k+1:=⟨L / 2,by omega⟩
  rw[if_pos ho,show 2*k+1-1=2*k by omega] at h;have e:idx*2 ^ (2*k+1) / 4 ^ ((2*k+1) / 2+1)=idx / 2:=by rw[show (2*k+1) / 2=k by omega,Nat.pow_succ,pow24,Nat.pow_succ,show 4 ^ k*4=(4 ^ k*2)*2 by omega,←Nat.div_div_eq_div_mul,Nat.mul_div_cancel _ (by have:=Nat.pow_pos (n:=k) (show 0<4 by decide);omega)]
  rw[e,show (2*k+1) / 2=k by omega];rcases List.mem_append.1 h with h|h
  ·unfold Qi4 at h
   rw[List.mem_singleton] at h;rw[h,show 2*k / 2=k by omega,pow24,show 2*idx / 4=idx / 2 by omega];rfl
  ·unfold Qi4 at h
   rw[List.mem_singleton] at h;rw[h,show 2*k / 2=k by omega,pow24,show (2*idx+1) / 4=idx / 2 by omega];rfl
 ·obtain⟨k,rfl⟩:∃ k,L=2*k:=⟨L / 2,by omega⟩
  rw[if_neg ho] at h;have e:idx*2 ^ (2*k) / 4 ^ (2*k / 2+1)=idx / 4:=by rw[show 2*k / 2=k by omega,pow24,Nat.pow_succ,←Nat.div_div_eq_div_mul,Nat.mul_div_cancel _ (Nat.pow_pos (show 0<4 by decide))]
  unfold Qi4 at h;rw[List.mem_singleton] at h;rw[h,e,show 2*k / 2=k by omega,pow24];rfl
theorem Qs7 (L:Nat):2 ^ L &&& (2 ^ L-1)=0:=by rw[Nat.and_two_pow_sub_one_eq_mod,Nat.mod_self]
variable {a:Nat}
theorem Q6q {b:Nat} (h:2 ^ a=2 ^ b):a=b:=by have h1:=(Nat.pow_le_pow_iff_right (a:=2) (by decide)).1 (Nat.le_of_eq h);have h2:=(Nat.pow_le_pow_iff_right (a:=2) (by decide)).1 (Nat.le_of_eq h.symm);omega
variable {c:Nat}
theorem Qgs {f:Nat} (hL:L≤60) (hc:c%2 ^ L=0) (h:p∈J9 N f c (2 ^ L)):p=nmT N (L / 2) (c / 4 ^ (L / 2+1)):=by
 cases f with
 | zero=>simp[J9] at h
 | succ f=>
  have hp:=Nat.two_pow_pos L;rw[J9,if_pos ⟨Qs7 L,hc⟩] at h;have h64:2 ^ L<2 ^ 64:=Nat.pow_lt_pow_right (by decide) (by omega);have hb:=Q6q (Qej hp h64 (Qs7 L));rw[←hb] at h
  have:=Qyr h
  rw[Nat.div_mul_cancel (Nat.dvd_of_mod_eq_zero hc)] at this;exact this
variable {n:Nat}
theorem Qsk (h:2≤n) (h2:n<2 ^ 60):∃ x,below n=2 ^ x∧2 ^ x<n∧n≤2 ^ (x+1):=by
 have hb:=Lib.bitLenAux_bounds 64 (n-1) (by omega) (by omega);have hs:Lib.bitLen (n-1)=Lib.bitLenAux 64 (n-1):=rfl;refine⟨Lib.bitLen (n-1)-1,rfl,?_,?_⟩
 ·rw[hs];omega
 ·rw[hs,show Lib.bitLenAux 64 (n-1)-1+1=Lib.bitLenAux 64 (n-1) by omega];omega
variable {x:Nat}
theorem Qpf {y:Nat} (h:a%2 ^ y=0) (hx:x≤y):a%2 ^ x=0:=
 Nat.mod_eq_zero_of_dvd (Nat.dvd_trans (Nat.pow_dvd_pow 2 hx) (Nat.dvd_of_mod_eq_zero h))
theorem Qlj (h:a%2 ^ x=0):(a+2 ^ x)%2 ^ x=0:=by rw[Nat.add_mod_right];exact h
theorem Qq2 {e:Nat} (hn:N=c+n) (h1:2 ^ e≤n) (h2:n≤2 ^ (e+1)) (hc:c%2 ^ e=0) (hc2:2 ^ e<n→c%2 ^ (e+1)=0):c / 4 ^ (e / 2+1)=(N / 4 ^ (e / 2)-1) / 4:=by
 obtain⟨k,hk⟩:∃ k,k=e / 2:=⟨_,rfl⟩
 rw[←hk];have hp:0<4 ^ k:=Nat.pow_pos (by decide);rw[Nat.pow_succ,←Nat.div_div_eq_div_mul];rcases Nat.mod_two_eq_zero_or_one e with h0|h0
 ·obtain rfl:e=2*k:=by omega
  rw[pow24] at h1 hc hc2;rw[Nat.pow_succ,pow24] at h2 hc2;obtain⟨q,rfl⟩:=Nat.dvd_of_mod_eq_zero hc;rw[Nat.mul_div_cancel_left _ hp];have hN:N / 4 ^ k=q+n / 4 ^ k:=by rw[hn,Nat.mul_add_div hp]
  rw[hN];have a1:1≤n / 4 ^ k:=(Nat.le_div_iff_mul_le hp).2 (by omega);have a2:n / 4 ^ k≤2:=by
   have:=Nat.div_le_div_right (c:=4 ^ k) h2
   rw[Nat.mul_div_cancel_left _ hp] at this;exact this
  rcases Nat.lt_or_ge (4 ^ k) n with h3|h3
  ·have h4:=hc2 h3
   have h5:q%2=0:=by
    rw[Nat.mul_mod_mul_left] at h4;rcases Nat.mul_eq_zero.1 h4 with h|h
    ·omega
    ·exact h
   omega
  ·have:n / 4 ^ k=1:=by rw[show n=4 ^ k by omega];exact Nat.div_self hp
   omega
 ·obtain rfl:e=2*k+1:=by omega
  rw[Nat.pow_succ,pow24] at h1 hc hc2;rw[Nat.pow_succ,Nat.pow_succ,pow24] at h2 hc2;obtain⟨q,rfl⟩:=Nat.dvd_of_mod_eq_zero hc;have hq:4 ^ k*2*q / 4 ^ k=2*q:=by rw[Nat.mul_assoc,Nat.mul_div_cancel_left _ hp]
  rw[hq];have hN:N / 4 ^ k=2*q+n / 4 ^ k:=by rw[hn,Nat.mul_assoc,Nat.mul_add_div hp]
  rw[hN];have a1:2≤n / 4 ^ k:=(Nat.le_div_iff_mul_le hp).2 (by omega);have a2:n / 4 ^ k≤4:=by
   have:=Nat.div_le_div_right (c:=4 ^ k) h2
   rw[Nat.mul_assoc,Nat.mul_div_cancel_left _ hp] at this;exact this
  rcases Nat.lt_or_ge (4 ^ k*2) n with h3|h3
  ·have h4:=hc2 h3
   have h5:q%2=0:=by
    rw[Nat.mul_mod_mul_left] at h4;rcases Nat.mul_eq_zero.1 h4 with h|h
    ·omega
    ·exact h
   omega
  ·have:n / 4 ^ k=2:=by rw[show n=4 ^ k*2 by omega,Nat.mul_div_cancel_left _ hp]
   omega
def Q7e (N i K:Nat) (p:ByteArray):Prop:=∃ k,4 ^ k<K∧(p=nmT N k (i / 4 ^ (k+1))∨p=nmT N k ((N / 4 ^ k-1) / 4))
theorem Qp7 {k:Nat} (h:k=x / 2):4 ^ k≤2 ^ x:=by rw[←pow24];exact Nat.pow_le_pow_right (by decide) (by omega)
variable {i K:Nat}
theorem Qoo (hK:K<2 ^ 59):∀ (f c n z:Nat) (p:ByteArray),N=c+n→1≤n→n<K→n≤2 ^ z→c%2 ^ z=0→p∈J9 N f c n→Q7e N i K p
 | 0,c,n,z,p,_,_,_,_,_,h=>by simp[J9] at h
 | f+1,c,n,z,p,hN,h1,hk,hz,hc,h=>by
   by_cases hp:n &&& (n-1)=0∧c%n=0
   ·have hpw:=Qej h1 (by omega) hp.1
    obtain⟨e,he⟩:∃ e,e=Lib.bitLen n-1:=⟨_,rfl⟩
    rw[←he] at hpw
    have he60:e≤60:=by
     rcases Nat.lt_or_ge 60 e with hlt|hge
     ·have:=Nat.pow_le_pow_right (n:=2) (by decide) hlt
      omega
     ·exact hge
    have hcn:=hp.2
    rw[hpw] at h hcn
    refine⟨e / 2,by have:=Qp7 (x:=e) rfl;omega,.inr ?_⟩
    rw[Qgs he60 hcn h,Qq2 hN (by omega) (by rw[Nat.pow_succ];omega) hcn fun hlt=>by omega]
   ·rw[J9,if_neg hp] at h
    have hn2:2≤n:=by
     rcases Nat.lt_or_ge n 2 with hlt|hge
     ·obtain rfl:n=1:=by omega
      exact absurd ⟨by decide,Nat.mod_one c⟩ hp
     ·exact hge
    obtain⟨x,hx,hx1,hx2⟩:=Qsk hn2 (by omega)
    have hxz:x+1≤z:=by
     have:2 ^ x<2 ^ z:=by omega
     exact (Nat.pow_lt_pow_iff_right (by decide)).1 this
    have hx60:x≤60:=by
     rcases Nat.lt_or_ge 60 x with hlt|hge
     ·have:=Nat.pow_le_pow_right (n:=2) (by decide) hlt
      omega
     ·exact hge
    have hc1:=Qpf hc hxz
    have hc0:=Qpf hc (show x≤z by omega)
    rw[hx] at h
    rcases List.mem_append.1 h with h|h
    ·refine⟨x / 2,by have:=Qp7 (x:=x) rfl;omega,.inr ?_⟩
     rw[Qgs hx60 hc0 h,Qq2 hN (by omega) hx2 hc0 fun _=>hc1]
    ·exact Qoo hK f (c+2 ^ x) (n-2 ^ x) x p (by omega) (by omega) (by omega) (by rw[Nat.pow_succ] at hx2;omega) (Qlj hc0) h
theorem Qrx {s:Nat} (ha:a%2 ^ (x+1)=0) (h1:a≤s) (h2:s<a+2 ^ (x+1)) (h3:a≤i) (h4:i<a+2 ^ (x+1)):s / 4 ^ (x / 2+1)=i / 4 ^ (x / 2+1):=by
 obtain⟨y,hy⟩:∃ y,2*(x / 2+1)=x+1+y:=⟨2*(x / 2+1)-(x+1),by omega⟩
 have e:4 ^ (x / 2+1)=2 ^ (x+1)*2 ^ y:=by rw[←pow24,hy,Nat.pow_add]
 have hp:=Nat.two_pow_pos (x+1);obtain⟨q,rfl⟩:=Nat.dvd_of_mod_eq_zero ha;have k:∀ t,2 ^ (x+1)*q≤t→t<2 ^ (x+1)*q+2 ^ (x+1)→t / 2 ^ (x+1)=q:=fun t t1 t2=>by
  apply Nat.div_eq_of_lt_le
  ·rw[Nat.mul_comm];exact t1
  ·rw[Nat.add_mul,Nat.one_mul,Nat.mul_comm q];exact t2
 rw[e,←Nat.div_div_eq_div_mul,←Nat.div_div_eq_div_mul,k s h1 h2,k i h3 h4]
theorem Qka (hK:K<2 ^ 59) (hNK:N≤K):∀ (f a b y:Nat) (p:ByteArray),b-a≤f→a≤i→i<b→b≤N→a%2 ^ y=0→b-a≤2 ^ y→(b=N∨b-a=2 ^ y)→(∃ x∈Ja f a b i,p∈J9 N (x.2-x.1) x.1 (x.2-x.1))→Q7e N i K p
 | 0,a,b,y,p,h0,h1,h2,_,_,_,_,_=>by omega
 | f+1,a,b,y,p,h0,h1,h2,h3,ha,hy,hb,h=>by
   obtain⟨r,hr,hp⟩:=h
   rw[Ja] at hr
   by_cases h4:b-a≤1
   ·rw[if_pos h4] at hr;cases hr
   ·rw[if_neg h4] at hr
    obtain⟨x,hx,hx1,hx2⟩:=Qsk (n:=b-a) (by omega) (by omega)
    rw[hx] at hr
    have hxy:x+1≤y:=by
     have:2 ^ x<2 ^ y:=by omega
     exact (Nat.pow_lt_pow_iff_right (by decide)).1 this
    have hx60:x≤60:=by
     rcases Nat.lt_or_ge 60 x with hlt|hge
     ·have:=Nat.pow_le_pow_right (n:=2) (by decide) hlt
      omega
     ·exact hge
    have hpx:=Nat.two_pow_pos x
    have hx2':2 ^ (x+1)=2*2 ^ x:=by rw[Nat.pow_succ];omega
    have hfull:b-a=2 ^ y→y=x+1:=fun e=>by
     have h5:2 ^ y≤2 ^ (x+1):=by omega
     have:=(Nat.pow_le_pow_iff_right (by decide)).1 h5
     omega
    have ha0:=Qpf ha (show x≤y by omega)
    have ha1:=Qpf ha hxy
    by_cases h5:i<a+2 ^ x
    ·rw[if_pos h5] at hr
     rcases List.mem_cons.1 hr with rfl|hr
     ·dsimp only at hp
      rcases hb with hb|hb
      ·exact Qoo hK _ (a+2 ^ x) (b-(a+2 ^ x)) x p (by omega) (by omega) (by omega) (by omega) (Qlj ha0) hp
      ·have hyx:=hfull hb
       subst hyx
       rw[show b-(a+2 ^ x)=2 ^ x by omega] at hp
       refine⟨x / 2,by have:=Qp7 (x:=x) rfl;omega,.inl ?_⟩
       rw[Qgs hx60 (Qlj ha0) hp,Qrx ha1 (by omega) (by omega) h1 (by omega)]
     ·exact Qka hK hNK f a (a+2 ^ x) x p (by omega) h1 h5 (by omega) ha0 (by omega) (.inr (by omega)) ⟨r,hr,hp⟩
    ·rw[if_neg h5] at hr
     rcases List.mem_cons.1 hr with rfl|hr
     ·dsimp only at hp
      rw[show a+2 ^ x-a=2 ^ x by omega] at hp
      refine⟨x / 2,by have:=Qp7 (x:=x) rfl;omega,.inl ?_⟩
      rw[Qgs hx60 ha0 hp,Qrx ha1 (Nat.le_refl _) (by omega) h1 (by omega)]
     ·refine Qka hK hNK f (a+2 ^ x) b x p (by omega) (by omega) h2 h3 (Qlj ha0) (by omega) ?_ ⟨r,hr,hp⟩
      rcases hb with hb|hb
      ·exact .inl hb
      ·have hyx:=hfull hb
       subst hyx
       exact .inr (by omega)
def Qws (N i:Nat):List ByteArray:=bunT N i :: (List.range 4).flatMap fun k=>[nmT N k (i / 4 ^ (k+1)),nmT N k ((N / 4 ^ k-1) / 4)]
theorem Qye (hN:N≤256) (hi:i<N) (h:p∈Qkz N i):p∈Qws N i:=by
 rcases List.mem_cons.1 h with rfl|h
 ·exact List.mem_cons_self
 ·refine List.mem_cons_of_mem _ ?_
  obtain⟨x,hx,hp⟩:=List.mem_flatMap.1 h;have hx:=List.mem_reverse.1 hx;have hN9:N≤2 ^ 8:=by omega
  obtain⟨k,hk,hp⟩:=Qka (K:=256) (by decide) hN N 0 N 8 p (by omega) (by omega) hi (Nat.le_refl _) (by simp) (by omega) (.inl rfl) ⟨x,hx,hp⟩;have hk4:k<4:=by
   rcases Nat.lt_or_ge k 4 with h|h
   ·exact h
   ·have:=Nat.pow_le_pow_right (n:=4) (by decide) h
    omega
  refine List.mem_flatMap.2 ⟨k,List.mem_range.2 hk4,?_⟩;rcases hp with rfl|rfl
  ·exact List.mem_cons_self
  ·exact List.mem_cons_of_mem _ List.mem_cons_self
theorem Qrn {α:Type} [DecidableEq α]:∀ (l U:List α),l.Nodup→(∀ x∈l,x∈U)→l.length≤U.length
 | [],_,_,_=>Nat.zero_le _
 | a :: l,U,h,hs=>by
   rw[List.nodup_cons] at h
   have:=Qrn l (U.erase a) h.2 fun x hx=>(List.mem_erase_of_ne (fun e=>h.1 (by rw[←e];exact hx))).2 (hs x (List.mem_cons_of_mem _ hx))
   have ha:=hs a List.mem_cons_self
   have h2:=List.length_erase_of_mem ha
   have h3:=List.length_pos_of_mem ha
   rw[List.length_cons]
   omega
theorem Q3o (hN:N≤256) (hi:i<N) (net:Nt) (c:Cch):(Qbr N i (askQ net c)).2.files.length≤16:=by
 obtain⟨g,_⟩:=Qj3 N i (askQ net c);have hn:=g.once (by simp[askQ])
 have:=Qrn _ (Qws N i) hn fun x hx=>by
  rcases g.only x (J2.2 hx) with h|h
  ·cases h
  ·exact Qye hN hi h
 rw[List.length_map] at this;have e:(Qws N i).length=9:=by simp[Qws,List.range,List.range.loop]
 omega
end
section
variable {l l':List Fil}
theorem Qnq (h:Once l) (hp:l'.Perm l):Once l':=(List.Perm.nodup_iff (hp.map (Prod.fst))).2 h
theorem Qdn (h:Once l) (hp:l'.Perm l):getF l'=getF l:=by
 funext p
 cases hg:getF l p with
 | none=>exact Qc8.2 fun f hf=>Qc8.1 hg f (hp.mem_iff.1 hf)
 | some b=>exact Qld (Qnq h hp) (hp.mem_iff.2 (Qah hg))
section
variable {l l':List Fil} (h:getF l'=getF l)
include h
theorem Ql5 (i w:Nat):Z8 l' i w=Z8 l i w:=by unfold Z8;rw[h]
theorem Qie (n:Nat):∀ (m i:Nat) (d:List (List UInt8)),Qb0 l' n m i d=Qb0 l n m i d
 | 0,_,_=>rfl
 | m+1,i,d=>by
   rw[Qb0,Qb0,Ql5 h]
   cases Z8 l i (min 4 (n-4*i)) with
   | none=>rfl
   | some e=>exact Qie n m (i+1) (d++e)
theorem Qks (d:List (List UInt8)):∀ w,Zw l' d w=Zw l d w
 | 0=>rfl
 | w+1=>by rw[Zw,Zw,Qks d w,Ql5 h,h]
theorem Qkx (d:List (List UInt8)):Zk l' d=Zk l d:=Qks h d 4
theorem Q4j {d r:List (List UInt8)} (g:Goes l' d r):Goes l d r:=by
 induction g with
 | stop h1=>rw[Qkx h] at h1 ⊢;exact .stop h1
 | more h1 _ ih=>rw[Qkx h] at h1 ih;exact .more h1 ih
theorem Qdr (key:ByteArray):Yr l' key=Yr l key:=by unfold Yr;rw[h]
theorem Qnc {key:ByteArray} {o:Opn} (g:Yf l' key o):Yf l key o:=by
 cases g with
 | checkpoint h1=>rw[Qdr h] at h1;exact .checkpoint h1
 | tile h1 h2=>rw[Qdr h] at h1;rw[Qie h] at h2;exact .tile h1 h2
 | proof h1 h2 h3=>rw[Qdr h] at h1;rw[Qie h] at h2;exact .proof h1 h2 h3
 | fine h1 h2 h3 h4=>rw[Qdr h] at h1;rw[Qie h] at h2;exact .fine h1 h2 h3 (Q4j h h4)
theorem Q5o {N:Nat} (g:FewB l N):FewB l' N:=fun m hm=>g m fun i hi=>by
 obtain⟨w,h1,h2,b,h3⟩:=hm i hi
 exact⟨w,h1,h2,b,by rw[←h];exact h3⟩
end
def Qfu (l W:List Fil):Bool:=W.any fun f=>Qbl l f.1 f.2
variable {W:List Fil}
theorem Qyv (h:Qfu l W=false):Qa0 W l:=fun f hf=>by
 unfold Qfu at h
 have:=List.any_eq_false.1 h f hf
 simpa using this
theorem Q0w (h:Qa0 W l):Qfu l W=false:=List.any_eq_false.2 fun f hf=>by rw[h f hf];decide
theorem Qxk (h:getF l'=getF l) (W:List Fil):Qfu l' W=Qfu l W:=by unfold Qfu Qbl;rw[h]
theorem Qs5 (es:List (List UInt8)) (k j:Nat) (hk:k≤30) (h:(j+1)*4 ^ k≤es.length):rootOf ((es.drop (j*4 ^ k)).take (4 ^ k))=Zq es (2*k) j:=by
 have e:=pow24 k
 have:=Qda es (2*k) j (by omega) (by rw[e];exact h)
 rw[e] at this;exact this.symm
theorem Qne {ls:List (List UInt8)} (h0:ls.length≠0) (h4:ls.length≤4) (h:∀ l∈ls,l.length≤20):Yj ls=some (ls.map encE).flatten:=by rw[Qba h0 h4 fun j l hl=>h l (List.mem_of_getElem? hl),List.flatMap_def]
theorem Qym {l:List UInt8} (h:l.length≤20):Yj [l]=some (encE l):=by rw[Qne (by simp) (by simp) (by simpa using h)];simp
end
section
theorem Qaw (l:List Fil) (p:ByteArray):(Jk l p = -1∧getF l p=none)∨∃ (k:Nat) (b:ByteArray),k<l.length∧Jk l p=(k:Int)∧l[k]?=some (p,b)∧getF l p=some b:=by
 by_cases h:Z9 l p<l.length
 ·refine .inr ⟨Z9 l p,(l[Z9 l p]'h).2,h,by unfold Jk;rw[if_pos h],?_,Qi3 h⟩
  have h2:(l[Z9 l p]'h).1=p:=by
   have:=List.findIdx_getElem (w:=h)
   exact of_decide_eq_true this
  rw[List.getElem?_eq_getElem h];exact congrArg some (Prod.ext h2 rfl)
 ·exact .inl ⟨by unfold Jk;rw[if_neg h],Qdl h⟩
variable {l l' W:List Fil} {c:ByteArray} {f:Fil}
theorem Q4g (h:Qsp l l' W c) (ho:Once l) (hf:f∈l):∃ b,getF l' f.1=some b∧(b=f.2∨(f.1=sOf kCp∧b=c)):=by
 have hg:=Qld ho hf;rcases h f.1 with e|⟨e,_⟩|⟨e,e2⟩
 ·exact⟨f.2,e.trans hg,.inl rfl⟩
 ·rw[hg] at e;cases e
 ·exact⟨c,e2,.inr ⟨e,rfl⟩⟩
theorem Q2q (h:Qsp l l' W c) (ho:Once l') (hW:Qtq W) (hf:f∈l'):getF l f.1≠none∨getF W f.1=some f.2∨(f.1=sOf kCp∧f.2=c):=by
 have hg:=Qld ho hf;rcases h f.1 with e|⟨_,b,e1,e2⟩|⟨e,e2⟩
 ·exact .inl (by rw[←e,hg];simp)
 ·rw[hg] at e2
  cases e2;refine .inr (.inl ?_);cases hx:getF W f.1 with
  | none=>exact absurd rfl (Qc8.1 hx _ e1)
  | some b=>rw[hW _ _ _ e1 (Qah hx)]
 ·rw[hg] at e2
  cases e2;exact .inr (.inr ⟨e,rfl⟩)
theorem Q2y {k k':List Fil} (h:Qsp l l' W c) (e:getF k=getF l) (e':getF k'=getF l'):Qsp k k' W c:=fun p=>by
 rw[e,e']
 exact h p
end
section
structure Wm where
 key:ByteArray
 d:Dk
 l:Option Lg
 es:List ByteArray
 pub:Int
 failed:Bool
 foreign:Bool
structure Good (m:Wm) (U:List Nat) (K:Nat):Prop where
 sane:Sane m.d U K
 run:∀ L,m.l=some L→Runs m.d L.entries L.put m.failed U∧Qdw (Zc L.entries) L.put∧L.entries=lists m.es∧L.levels=levels L.entries∧L.failed=m.failed∧L.key=m.key
variable {m:Wm} {U:List Nat} {K K':Nat}
theorem Good.more (h:Good m U K) (x:Nat) (hK:K≤K'):Good m (x :: U) K':=
 ⟨h.sane.grow x hK,fun L hL=>⟨(h.run L hL).1.more x,(h.run L hL).2⟩⟩
theorem Good.bound (h:Good m U K) (hK:K≤K'):Good m U K':=⟨h.sane.more hK,h.run⟩
variable {d':Dk} {k:Nat}
theorem Qpp {d:Dk} (h:Hurt k (Qiz d) d'):False:=by
 have:=h.why
 simp[Qiz] at this
theorem Q06 {n:Nat} {ss:List ByteArray} (h:Good m U K) (hU:U.length<1048576) (c:Calm k (Qiz m.d) d') (ho:Yf m.d.files m.key (.good (lists ss) n)) (fo:Bool) :
  Good ⟨m.key,d',some ⟨m.key,lists ss,levels (lists ss),[],false⟩,ss,n,false,fo⟩ U (K+k):=by
 have hs:Sane d' U (K+k):=h.sane.mend.calm c;refine⟨hs,fun L hL=>?_⟩;cases hL;have hf:d'.files=m.d.files:=c.files;exact⟨Q04 hs c.dead c.hit hU (by rw[hf];exact ho),⟨Nat.zero_le _,fun a b r ha=>by simp at ha⟩,rfl,rfl,rfl,rfl⟩
theorem Q1s (h:Good m U K) (c:Calm k (Qiz m.d) d') (fo:Bool):Good ⟨m.key,d',none,m.es,m.pub,false,fo⟩ U (K+k):=
 ⟨h.sane.mend.calm c,fun L hL=>by cases hL⟩
variable {L:Lg}
theorem Qua {s:ByteArray} (h:Good m U K) (hL:m.l=some L) (hf:m.failed=false) (hs:s.size≤20) :
  Good { m with l:=some { L with entries:=L.entries ++ [s.data.toList],levels:=levels (L.entries ++ [s.data.toList]) },es:=m.es ++ [s] } (L.entries.length / 4 :: U) K:=by
 obtain⟨h1,h2,h3,h4,h5,h6⟩:=h.run L hL;refine⟨h.sane.grow _ (Nat.le_refl _),fun L2 hL2=>?_⟩;cases hL2;rw[hf] at h1;have hr:=Qu6 s.data.toList h1 (by simpa using hs);refine⟨by show Runs m.d _ _ m.failed _;rw[hf];exact hr,(hr.live rfl).2.mark,?_,rfl,h5,h6⟩;show L.entries ++ [s.data.toList]=lists (m.es ++ [s]);rw[h3];simp[lists]
theorem Qrp (R:List (List (List UInt8))):∀ (k n:Nat) (put:List Nat) (d:Dk),k+n=R.length→Qdw R put→Qdw R (pubJ n (R.drop n) put d).2.1
 | 0,n,put,d,hn,h=>by
   rw[List.drop_of_length_le (by omega)]
   exact h
 | k+1,n,put,d,hn,h=>by
   have hlt:n<R.length:=by omega
   rw[List.drop_eq_getElem_cons hlt,pubJ]
   have hr:R[n]?=some R[n]:=List.getElem?_eq_getElem hlt
   have hx:=h.next hr (Qlp ((n:Int)-1) R[n] ((put++List.replicate (n+1-put.length) 0).getD n 0 / 4) d)
   split
   ·exact hx
   ·exact Qrp R k (n+1) _ _ (by omega) hx
theorem Qz2 {es:List (List UInt8)} {put:List Nat} (key:ByteArray) (d:Dk) (h:Qdw (Zc es) put):Qdw (Zc es) (pubD es key put d).2.1:=by
 have:=Qrp (Zc es) (Zc es).length 0 put d (by omega) h
 rw[List.drop_zero] at this;unfold pubD
 split <;> exact this
theorem Qst (h:Good m U K) (hU:U.length≤16384) (hL:m.l=some L) (hf:m.failed=false) (hn:Qa0 (Yu L.entries) m.d.files) (pub:Int) (fo:Bool) :
  Good ⟨m.key,(pubD L.entries L.key L.put m.d).1,some { L with put:=(pubD L.entries L.key L.put m.d).2.1,failed:=(pubD L.entries L.key L.put m.d).2.2.isSome },m.es,pub,(pubD L.entries L.key L.put m.d).2.2.isSome,fo⟩ U (K+1048576):=by
 obtain⟨h1,h2,h3,h4,h5,h6⟩:=h.run L hL;rw[hf] at h1;obtain⟨r1,r2⟩:=Qsu L.key h.sane h1 hU hn;refine⟨r1,fun L2 hL2=>?_⟩;cases hL2;exact⟨r2,Qz2 _ _ h2,h3,h4,rfl,h6⟩
def Q47 (m:Wm) (U:List Nat) (K:Nat):Prop:=m.foreign=true∨(m.foreign=false∧Good m U K)
abbrev Q21 (m:Wm) (L:Lg) (s:ByteArray):Wm:={ m with l:=some { L with entries:=L.entries ++ [s.data.toList],levels:=levels (L.entries ++ [s.data.toList]) },es:=m.es ++ [s] }
abbrev pubW (m:Wm) (L:Lg):Wm:=⟨m.key,(pubD L.entries L.key L.put m.d).1,some { L with put:=(pubD L.entries L.key L.put m.d).2.1,failed:=(pubD L.entries L.key L.put m.d).2.2.isSome },m.es,m.es.length,m.failed,false⟩
def AppQ (m:Wm) (L:Lg) (s:ByteArray) (m':Wm):Prop:=(20<s.size∧m'=m)∨(L.failed=true∧m'=m)∨(s.size≤20∧m'=Q21 m L s)
def PubQ (m:Wm) (L:Lg) (m':Wm):Prop:=Qa0 (Yu L.entries) m.d.files→(pubD L.entries L.key L.put m.d).2.2=none→m'=pubW m L
def Q7p (m m':Wm):Prop:=∃ d' k,Calm k (Qiz m.d) d'∧((∃ ss n,Yf m.d.files m.key (.good (lists ss) n)∧m'=⟨m.key,d',some ⟨m.key,lists ss,levels (lists ss),[],false⟩,ss,n,false,m.foreign⟩)∨((∃ kn q,Yf m.d.files m.key (.bad kn q))∧m'=⟨m.key,d',none,m.es,m.pub,false,m.foreign⟩))
end
section
structure RdW0 (m:Wm) (L:Lg):Prop where
 log:m.l=some L
 live:L.failed=false
 failed:m.failed=false
 foreign:m.foreign=false
 ents:L.entries=lists m.es
 key:L.key=m.key
 quiet:Qas m.d
 sound:Qih (lists m.es) L.put m.d
 short:∀ e∈lists m.es,e.length≤20
structure RdW (m:Wm) (L:Lg) (P:Nat):Prop extends RdW0 m L where
 pub:m.pub=P
 le:P≤(lists m.es).length
 has:Y4 (lists m.es) P m.d.files
 cp:(P=0∧getF m.d.files (sOf kCp)=none)∨getF m.d.files (sOf kCp)=some (cpOf ((lists m.es).take P) m.key)
structure RdC (m:Wm) (P:Nat) (c:Cl):Prop where
 tr:Qqp (lists m.es) c
 le:c.size≤P
 has:Y4 (lists m.es) c.size m.d.files
 key:c.key=m.key
theorem Qbh (es:List ByteArray) (s:ByteArray):lists (es ++ [s])=lists es ++ [s.data.toList]:=by simp[lists]
theorem Q0 (es:List ByteArray):(lists es).length=es.length:=by simp[lists]
variable {m:Wm} {L:Lg} {s:ByteArray}
theorem Q1j (h:RdW0 m L) (hs:s.size≤20):RdW0 (Q21 m L s) { L with entries:=L.entries ++ [s.data.toList],levels:=levels (L.entries ++ [s.data.toList]) } where
 log:=rfl
 live:=h.live
 failed:=h.failed
 foreign:=h.foreign
 ents:=by show L.entries++_=_;rw[Qbh,h.ents]
 key:=h.key
 quiet:=h.quiet
 sound:=by show Qih (lists (m.es ++ [s])) _ _;rw[Qbh];exact h.sound.append _
 short e he:=by
  have he':e∈lists (m.es ++ [s]):=he
  rw[Qbh,List.mem_append] at he'
  rcases he' with he|he
  ·exact h.short e he
  ·rw[List.mem_singleton.1 he];simpa using hs
variable {P:Nat}
theorem Q38 (h:RdW m L P) (hs:s.size≤20):RdW (Q21 m L s) { L with entries:=L.entries ++ [s.data.toList],levels:=levels (L.entries ++ [s.data.toList]) } P where
 toRdW0:=Q1j h.toRdW0 hs
 pub:=h.pub
 le:=by show P≤(lists (m.es ++ [s])).length;rw[Qbh,List.length_append];have:=h.le;omega
 has:=by show Y4 (lists (m.es ++ [s])) _ _;rw[Qbh];exact h.has.more h.le _
 cp:=by
  show (P=0∧getF m.d.files (sOf kCp)=none)∨getF m.d.files (sOf kCp)=some (cpOf ((lists (m.es ++ [s])).take P) m.key)
  rw[Qbh,List.take_append_of_le_length h.le]
  exact h.cp
variable {c:Cl}
theorem Qvk (h:RdW m L P) (k:RdC m P c) (s:ByteArray):RdC (Q21 m L s) P c where
 tr:=by show Qqp (lists (m.es ++ [s])) c;rw[Qbh];exact k.tr.more _
 le:=k.le
 has:=by show Y4 (lists (m.es ++ [s])) _ _;rw[Qbh];exact k.has.more k.tr.size _
 key:=k.key
variable {n:Nt} {i:Nat}
theorem Qox (hi:i<c.size) (hf:(Yp c n i).1=Qcb):∃ r,(Qbr c.size i (askQ n c.cache)).1=.ok r∧Yp c n i=(Qcb,r,{ c with cache:=Zf (Qbr c.size i (askQ n c.cache)).2.cache (Qbr c.size i (askQ n c.cache)).2.files },(Qbr c.size i (askQ n c.cache)).2.net):=by
 revert hf
 unfold Yp;rw[if_neg (by omega),Int.toNat_natCast];have no:∀ {a b:Nat} {x:ByteArray},a≠b→(a,x)=((b,⟨#[]⟩):Tld)→False:=fun hab e=>hab (congrArg Prod.fst e)
 rcases hq:Qbr c.size i (askQ n c.cache) with ⟨r|r,s⟩
 ·cases r with
  | miss p=>intro hf;exact (no (by decide) hf).elim
  | panic=>intro hf;exact (no (by decide) hf).elim
 ·dsimp only
  split
  ·intro _;exact⟨r,rfl,rfl⟩
  ·intro hf;exact (no (by decide) hf).elim
section
variable {m:Wm} {L:Lg} (h:RdW0 m L) (hl:m.es.length≤1048576)
include h hl
theorem Q6d:RdW (pubW m L) { L with put:=(pubD L.entries L.key L.put m.d).2.1,failed:=(pubD L.entries L.key L.put m.d).2.2.isSome } m.es.length:=by
 have hq:=Qe8 (es:=lists m.es) L.key (by rw[Q0];exact hl) h.quiet h.sound;rw[←h.ents] at hq;obtain⟨q1,q2,q3,q4,q5,q6,q7,q8⟩:=hq;have hen:lists m.es=L.entries:=h.ents.symm;have hle:L.entries.length=m.es.length:=by rw[h.ents,Q0]
 refine⟨⟨rfl,by show Option.isSome _=false;rw[q1];rfl,h.failed,rfl,h.ents,h.key,q2,?_,h.short⟩,rfl,?_,?_,.inr ?_⟩
 ·show Qih (lists m.es) _ _
  rw[hen];exact q3
 ·show m.es.length≤(lists m.es).length
  rw[Q0];exact Nat.le_refl _
 ·show Y4 (lists m.es) _ _
  rw[hen,←hle];exact q4
 ·show getF (pubD L.entries L.key L.put m.d).1.files (sOf kCp)=some (cpOf ((lists m.es).take m.es.length) m.key)
  rw[hen,←hle,List.take_length,←h.key];exact q5
theorem Qup:Qa0 (Yu L.entries) m.d.files:=by rw[h.ents];exact h.sound.true'.noClash (by rw[Q0];exact hl)
theorem Q41:(pubD L.entries L.key L.put m.d).2.2=none∧(pubD L.entries L.key L.put m.d).1.files.length≤m.d.files.length+12*(m.es.length+3)+1:=by
 have hq:=Qe8 (es:=lists m.es) L.key (by rw[Q0];exact hl) h.quiet h.sound;rw[←h.ents] at hq;refine⟨hq.1,?_⟩
 have:=hq.2.2.2.2.2.2.1
 rw[h.ents,Q0] at this;rw[h.ents];exact this
end
section
variable {m:Wm} {L:Lg} {P:Nat} (h:RdW m L P) (hl:m.es.length≤1048576)
include h hl
theorem Qy4 (k:RdC m P c):RdC (pubW m L) m.es.length c where
 tr:=k.tr
 le:=by have:=k.tr.size;rw[Q0] at this;exact this
 has:=by
  have hq:=Qe8 (es:=lists m.es) L.key (by rw[Q0];exact hl) h.quiet h.sound
  rw[←h.ents] at hq
  show Y4 (lists m.es) _ (pubD L.entries L.key L.put m.d).1.files
  rw[←h.ents]
  exact hq.2.2.2.2.2.1 _ (by rw[h.ents];exact k.has)
 key:=k.key
theorem Qgp (hn:n.files=m.d.files) (h0:n.lies = []):Qd3 (lists m.es) n:=
 Qpx (by rw[Q0];exact hl) h.short (by rw[hn];exact h.sound.true') h0
theorem Qri (k:RdC m P c) (hn:n.files=m.d.files) (h0:n.lies = []) :
  Qbk n (Zz c n).2.2.2∧(Zz c n).2.2.1.cache.most=c.cache.most∧RdC m P (Zz c n).2.2.1∧
   ((P=0∧getF m.d.files (sOf kCp)=none∧(Zz c n).1=(3,⟨#[]⟩)∧(Zz c n).2.1 = []∧(Zz c n).2.2.1.size=0)∨
       ((P=0→getF m.d.files (sOf kCp)≠none)∧(Zz c n).1=Qcb∧(Zz c n).2.1=(if 0<c.size∧c.size<P then Qam c.size ((lists m.es).take P) true else [])∧(Zz c n).2.2.1.size=P)):=by
 have hle:(lists m.es).length≤1048576:=by rw[Q0];exact hl
 have hnt:=Qgp h hl hn h0;have upd:∀ {x:ByteArray},getF m.d.files (sOf kCp)=some x→x=cpOf ((lists m.es).take P) m.key→Qbk n (Zz c n).2.2.2∧(Zz c n).2.2.1.cache.most=c.cache.most∧RdC m P (Zz c n).2.2.1∧(Zz c n).1=Qcb∧(Zz c n).2.1=(if 0<c.size∧c.size<P then Qam c.size ((lists m.es).take P) true else [])∧(Zz c n).2.2.1.size=P:=fun {x} hx he=>by obtain⟨u1,u2,u3,u4,u5,u6,u7⟩:=Qr0 hle h.short k.tr hnt (M:=P) h.le k.le (by rw[k.key,Qpl (by rw[hn];exact hx) h0,he]) (Qco (by rw[hn];exact h.has) h0);exact⟨u7,u6,⟨u3,by rw[u4];exact Nat.le_refl _,by rw[u4];exact h.has,u5.trans k.key⟩,u1,u2,u4⟩
 rcases h.cp with ⟨hp,hc⟩|hc
 ·have hf:Yt n (sOf kCp)=none:=by unfold Yt;rw[show Qc4 n (sOf kCp)=none by unfold Qc4;rw[h0];rfl,hn,hc];rfl
  have hz:c.size=0:=by have:=k.le;omega
  have e:Zz c n=((3,⟨#[]⟩),[],c,Zm n (sOf kCp)):=by unfold Zz;rw[hf]
  rw[e];exact⟨Qap _ _,rfl,k,.inl ⟨hp,hc,rfl,rfl,hz⟩⟩
 ·obtain⟨a1,a2,a3,a4,a5,a6⟩:=upd hc rfl
  exact⟨a1,a2,a3,.inr ⟨fun _ e=>(by rw[hc] at e;cases e),a4,a5,a6⟩⟩
theorem Qu7 (k:RdC m P c) (hn:n.files=m.d.files) (h0:n.lies = []) (hi:i<c.size) :
  Qbk n (Yp c n i).2.2.2∧RdC m P (Yp c n i).2.2.1∧(Yp c n i).2.2.1.size=c.size∧(Yp c n i).2.2.1.cache.most=c.cache.most∧(Yp c n i).1=Qcb∧
   (Yp c n i).2.1=((lists m.es).getD i [],J4 ((lists m.es).take c.size) i)∧
   ((c.cache.most<16∨256<c.size∨(Yp (Yp c n i).2.2.1 (Yp c n i).2.2.2 i).2.2.2.fetches=(Yp c n i).2.2.2.fetches)∧
       (0<c.cache.most∨(Yp c n i).2.2.2.fetches<(Yp (Yp c n i).2.2.1 (Yp c n i).2.2.2 i).2.2.2.fetches)∧
       (1<c.cache.most∨c.size<2∨(Yp c n i).2.2.2.fetches<(Yp (Yp c n i).2.2.1 (Yp c n i).2.2.2 i).2.2.2.fetches)):=by
 have hle:(lists m.es).length≤1048576:=by rw[Q0];exact hl
 have hcs:=k.tr.size;have one:∀ (c:Cl) (k:RdC m P c) (n:Nt) (hn:n.files=m.d.files) (h0:n.lies = []) (hi:i<c.size),Qbk n (Yp c n i).2.2.2∧RdC m P (Yp c n i).2.2.1∧(Yp c n i).2.2.1.size=c.size∧(Yp c n i).2.2.1.cache.most=c.cache.most∧(Yp c n i).1=Qcb∧
   (Yp c n i).2.1=((lists m.es).getD i [],J4 ((lists m.es).take c.size) i):=fun c k n hn h0 hi=>by
  obtain⟨u1,u2,u3,u4,u5,u6,u7⟩:=Qxr hle h.short k.tr (Qgp h hl hn h0) hi (av:=true) (fun _=>Qco (by rw[hn];exact k.has) h0);obtain⟨v1,v2⟩|⟨v,_⟩:=u7
  ·refine⟨u2,⟨u1,by rw[u4];exact k.le,by rw[u4];exact k.has,u3.trans k.key⟩,u4,u6,v1,?_⟩
   rw[v2]
   congr 1
   rw[List.getD_eq_getElem?_getD,List.getD_eq_getElem?_getD,List.getElem?_take_of_lt hi]
  ·cases v
 obtain⟨a1,a2,a3,a4,a5,a6⟩:=one c k n hn h0 hi;refine⟨a1,a2,a3,a4,a5,a6,?_⟩;obtain⟨r,hr,hre⟩:=Qox hi a5;obtain⟨b1,b2,b3,b4⟩:=again k.tr.ok (by omega) hi hr;have hi2:i<(Yp c n i).2.2.1.size:=by rw[a3];exact hi
 obtain⟨_,_,_,_,e5,_⟩:=one _ a2 (Yp c n i).2.2.2 (a1.2.trans hn) (a1.1.trans h0) hi2;obtain⟨r2,hr2,hre2⟩:=Qox hi2 e5;have hfew:=fun h256=>Q3o (N:=c.size) (i:=i) h256 hi n c.cache
 rw[hre2,hre];dsimp only at b2 b3 b4 ⊢;refine⟨?_,?_,?_⟩
 ·by_cases h1:c.cache.most<16
  ·exact .inl h1
  ·by_cases h2:256<c.size
   ·exact .inr (.inl h2)
   ·exact .inr (.inr (by rw[b2 (Nat.le_trans (hfew (by omega)) (by omega))]))
 ·rcases Nat.eq_zero_or_pos c.cache.most with h1|h1
  ·exact .inr (b3 h1)
  ·exact .inl h1
 ·by_cases h1:1<c.cache.most
  ·exact .inl h1
  ·by_cases h2:c.size<2
   ·exact .inr (.inl h2)
   ·exact .inr (.inr (b4 (by omega) (by omega)))
end
theorem Q7a (key:ByteArray) (hL:m.l=some L) (hk:m.key=key) (hlk:L.key=key) (he:m.es = []) (hle:L.entries = []) (hlp:L.put = []) (hlf:L.failed=false) (hf:m.failed=false) (hfo:m.foreign=false) (hp:m.pub=0)
  (hq:Qas m.d) (ht:m.d.turned=false) (hd:m.d.files = []):RdW m L 0 where
 toRdW0:=⟨hL,hlf,hf,hfo,by rw[hle,he];rfl,hlk.trans hk.symm,hq,by rw[he,hlp];exact Qy8 m.d hd hq.dead hq.hit ht,fun e he'=>by rw[he] at he';simp[lists] at he'⟩
 pub:=hp
 le:=Nat.zero_le _
 has:=Y4.zero _ _
 cp:=.inl ⟨rfl,by rw[hd];rfl⟩
theorem Qz6 (key:ByteArray) (hk:m.key=key) (P most:Nat):RdC m P ⟨key,0,hash [],⟨most,[]⟩⟩ where
 tr:=⟨Nat.zero_le _,by show hash []=rootOf (List.take 0 _);rw[List.take_zero];rfl,fun x hx=>by simp at hx,⟨List.nodup_nil,Nat.zero_le _⟩⟩
 le:=Nat.zero_le _
 has:=Y4.zero _ _
 key:=hk.symm
end
section
theorem Qzh (N:Nat) {f c e:Nat} (hc:c%2 ^ e=0):(J9 N f c (2 ^ e)).length≤2:=by
 cases f with
 | zero=>simp[J9]
 | succ f=>
  rw[J9,if_pos ⟨Qs7 e,hc⟩];exact Qm1 _ _ _
theorem Qry {n mm:Nat} (h2:2≤n) (hn:n≤2 ^ mm) (hm:mm≤63):∃ e,e<mm∧below n=2 ^ e∧2 ^ e<n∧n-2 ^ e≤2 ^ e:=by
 have h63:(2:Nat) ^ mm≤2 ^ 63:=Nat.pow_le_pow_right (by decide) hm;rcases Nat.lt_or_ge n 9223372036854775808 with hlt|hge
 ·obtain⟨e,he,he2,h4,h5⟩:=Qy3 h2 hlt
  have hb:below n=2 ^ e:=by unfold below;rw[he];rfl
  have hem:e<mm:=(Nat.pow_lt_pow_iff_right (a:=2) (by decide)).1 (Nat.lt_of_lt_of_le h4 hn);exact⟨e,hem,hb,h4,by omega⟩
 ·have he:n=2 ^ 63:=by omega
  have hmm:62<mm:=by
   rcases Nat.lt_or_ge 62 mm with h|h
   ·exact h
   ·have:(2:Nat) ^ mm≤2 ^ 62:=Nat.pow_le_pow_right (by decide) h
    omega
  refine⟨62,hmm,?_,?_,?_⟩
  ·subst he;decide
  ·subst he;decide
  ·subst he;decide
theorem Qze {a x y:Nat} (h:a%2 ^ y=0) (hx:x≤y):a%2 ^ x=0:=Nat.mod_eq_zero_of_dvd (Nat.dvd_trans (Nat.pow_dvd_pow 2 hx) (Nat.dvd_of_mod_eq_zero h))
theorem Qrr (N:Nat):∀ (f i n mm:Nat),1≤n→n≤2 ^ mm→i%2 ^ mm=0→mm≤63→(J9 N f i n).length≤2*mm+2
 | 0,_,_,_,_,_,_,_=>by simp[J9]
 | f+1,i,n,mm,h1,hn,hi,hm=>by
  rw[J9]
  split
  ·have:=Qm1 N (Lib.bitLen n-1) (i / n)
   omega
  ·rename_i hne
   have h2:2≤n:=by
    rcases Nat.lt_or_ge n 2 with hlt|hge
    ·obtain rfl:n=1:=by omega
     exact absurd ⟨by decide,Nat.mod_one i⟩ hne
    ·exact hge
   obtain⟨e,he,hb,h4,h5⟩:=Qry h2 hn hm
   have hie:=Qze hi (Nat.le_of_lt he)
   have h6:=Qzh N (f:=f) hie
   have h7:=Qrr N f (i+2 ^ e) (n-2 ^ e) e (by omega) h5 (by rw[Nat.add_mod_right];exact hie) (by omega)
   rw[hb,List.length_append]
   omega
theorem Qlw:∀ (f a b m mm:Nat),a<b→a<m→b-a≤2 ^ mm→a%2 ^ mm=0→mm≤63→∀ x∈Jy f a b m,x.1<x.2∧∃ z,z≤mm∧x.2-x.1≤2 ^ z∧x.1%2 ^ z=0
 | 0,_,_,_,_,_,_,_,_,_=>fun x hx=>by simp[Jy] at hx
 | f+1,a,b,m,mm,hab,ham,hs,ha,hm=>fun x hx=>by
  unfold Jy at hx
  by_cases h1:b≤m
  ·rw[if_pos h1] at hx
   split at hx
   ·rw[List.mem_singleton.1 hx]
    exact⟨hab,mm,Nat.le_refl _,hs,ha⟩
   ·simp at hx
  ·rw[if_neg h1] at hx
   obtain⟨e,he,hb,h4,h5⟩:=Qry (show 2≤b-a by omega) hs hm
   have hae:=Qze ha (Nat.le_of_lt he)
   have hae2:(a+2 ^ e)%2 ^ e=0:=by rw[Nat.add_mod_right];exact hae
   have h0:=Nat.two_pow_pos e
   rw[hb] at hx
   split at hx
   ·rcases List.mem_cons.1 hx with rfl|hx
    ·exact⟨by dsimp only;omega,e,Nat.le_of_lt he,by dsimp only;omega,hae2⟩
    ·obtain⟨k1,z,k2,k3⟩:=Qlw f a (a+2 ^ e) m e (by omega) ham (by omega) hae (by omega) x hx
     exact⟨k1,z,by omega,k3⟩
   ·rcases List.mem_cons.1 hx with rfl|hx
    ·exact⟨by dsimp only;omega,e,Nat.le_of_lt he,by dsimp only;omega,hae⟩
    ·obtain⟨k1,z,k2,k3⟩:=Qlw f (a+2 ^ e) b m e (by omega) (by omega) (by omega) hae2 (by omega) x hx
     exact⟨k1,z,by omega,k3⟩
theorem Qkn (N K:Nat):∀ rs:List (Nat×Nat),(∀ x∈rs,(J9 N (x.2-x.1) x.1 (x.2-x.1)).length≤K)→(Zl N rs).length≤rs.length*K
 | [],_=>by simp[Zl]
 | x :: xs,h=>by
  have h1:=Qkn N K xs fun y hy=>h y (List.mem_cons_of_mem _ hy)
  have h2:=h x List.mem_cons_self
  have e:Zl N (x :: xs)=J9 N (x.2-x.1) x.1 (x.2-x.1)++Zl N xs:=rfl
  rw[e,List.length_append,List.length_cons,Nat.add_mul]
  omega
theorem Qop {N m:Nat} (hN:N≤2 ^ 63) (hm:1≤m) (hmN:m≤N):(Zl N (Jy N 0 N m).reverse).length≤8192:=by
 have h1:=Qia N 63 0 N m (by omega) (Nat.le_refl _) (by omega);have h2:=Qkn N 128 (Jy N 0 N m).reverse fun x hx=>by
  obtain⟨k1,z,k2,k3,k4⟩:=Qlw N 0 N m 63 (by omega) (by omega) (by omega) (Nat.zero_mod _) (Nat.le_refl _) x (List.mem_reverse.1 hx)
  have:=Qrr N (x.2-x.1) x.1 (x.2-x.1) z (by omega) k3 k4 k2
  omega
 rw[List.length_reverse] at h2;have h3:(Jy N 0 N m).length*128≤64*128:=Nat.mul_le_mul h1 (Nat.le_refl _);omega
end
section
theorem Qif (w:World) (a:Option Addr) (n c:Nat):(binOp .neq 94 (.slice a n c) (.slice none 0 0)).run prog w=.ok (.bool (!a.isNone)) w:=run_neq_slice_nil_any w _ _ a n c 0 0 underlying94
def unbW (s:ByteArray) (k:Nat):Option (List (List UInt8)):=(Qx s.data.toList).bind fun e=>if e.length=k then some e else none
section
variable (w:World) (g gd:Nat) (v ve vl vp:Value) (vs:List Value) (d:Dk) (L:Lg) (h:Zn w g gd ve vl vp vs L) (hD:Q3 w gd v d) (p:ByteArray) (k:Nat) (hc:d.calls<1099511627776)
include h hD hc
theorem Qzn (hk:0<Zr d):Calls prog 124 #[.pointer (some ⟨g,0,none⟩),.string p,.int .i64 k] w fun e w'=>
  ∃ q n r,e=.returned (.tuple #[.slice none 0 0,.bool false,.iface 153 (.pointer (some ⟨r,0,none⟩))])∧w.heap.size≤q∧w.heap.size≤r∧w'.heap[q]?=some (.cells #[.int .i64 n] 366 (0,0))∧
   w'.heap[r]?=some (.cells #[.string p,.iface 152 (.pointer (some ⟨q,0,none⟩))] 155 (0,0))∧Q3 w' gd v (Zj d)∧Fr (·=gd) w w':=by
 obtain⟨⟨c0,_⟩,f0⟩:=h.heads;have hcon:=Q13 (p:=p) hD hc hk;clear h hD
 go_enter func124,ntmps124
 go_wp2_with (first
  | (go_at_call 249;refine hcon.mono ?_;rintro e w2 ⟨q,n,rfl,hq,hh,hd2,hf2⟩;have hn:=Qak w2 152 (.pointer (some ⟨q,0,none⟩));have HD:=zh hd2;have HF:=zh hf2;have HH:=zh hh;clear hd2 hf2 hh)
  | (go_at_call 65;refine (Qoh _ _ _ _).mono ?_;rintro e w3 ⟨u,rfl,⟨r,rfl,hr,hhr⟩,hb3⟩;have HR:=zh hhr;have HB:=zh hb3;clear hhr hb3))
 go_returns
 exact⟨_,_,_,rfl,hq,Nat.le_trans HF.o.size hr,(HB.o.block _ (Qc HH.o)).trans HH.o,HR.o,HD.o.below HB.o,HF.o.trans (Fr.ofBelow HB.o)⟩
theorem Qv4 (hk:Zr d=0) (hg:getF d.files p=none):Calls prog 124 #[.pointer (some ⟨g,0,none⟩),.string p,.int .i64 k] w fun e w'=>
  e=.returned (.tuple #[.slice none 0 0,.bool false,.nilIface])∧Q3 w' gd v (Zj d)∧Fr (·=gd) w w':=by
 obtain⟨⟨c0,_⟩,f0⟩:=h.heads;have hcon:=Qwj (p:=p) hD hc hk hg;clear h hD hg
 go_enter func124,ntmps124
 go_wp2_with (first
  | (go_at_call 249;refine hcon.mono ?_;rintro e w2 ⟨rfl,hd2,hf2⟩;have hn:=Y2 w2;have HD:=zh hd2;have HF:=zh hf2;clear hd2 hf2)
  | (go_at_call 94;refine (Qpv (data:=[]) ⟨none,0,rfl,Nat.le_refl _,fun j x hx=>by simp at hx⟩ (by simp) Qny).mono ?_;rintro e w3 ⟨rfl,hb3⟩;have hq:=Qif w3 none 0 0;have HB:=zh hb3;clear hb3))
 go_returns
 exact⟨rfl,HD.o.below HB.o,HF.o.trans (Fr.ofBelow HB.o)⟩
variable {s:ByteArray}
theorem Q0h (hk:Zr d=0) (hg:getF d.files p=some s) (hs:s.size≤1048576) (hu:unbW s k=none):Calls prog 124 #[.pointer (some ⟨g,0,none⟩),.string p,.int .i64 k] w fun e w'=>
  e=.returned (.tuple #[.slice none 0 0,.bool true,.nilIface])∧Q3 w' gd v (Zj d)∧Fr (·=gd) w w':=by
 obtain⟨⟨c0,_⟩,f0⟩:=h.heads;have hcon:=Qu5 (p:=p) hD hc hk hg;clear h hD hg;cases hb:Qx s.data.toList with
 | none=>
  have HU:=zh hb;clear hb hu
  go_enter func124,ntmps124
  go_wp2_with (first
   | (go_at_call 249;refine hcon.mono ?_;rintro e w2 ⟨b,c,rfl,ho,hd2,hf2⟩;have hn:=Y2 w2;have HO:=zh ho.at;have HD:=zh hd2;have HF:=zh hf2;clear hd2 hf2 ho)
   | (go_at_call 94;refine (Qpv HO.o (by simpa using Nat.le_trans hs (by decide)) HU.o).mono ?_;rintro e w3 ⟨rfl,hb3⟩;have hq:=Qif w3 (some ⟨b,0,none⟩) s.size c;have HB:=zh hb3;clear hb3))
  go_returns
  exact⟨rfl,HD.o.below HB.o,HF.o.trans (Fr.ofBelow HB.o)⟩
 | some ls=>
  have hne:ls.length≠k:=by intro e;unfold unbW at hu;rw[hb,Option.bind_some,if_pos e] at hu;cases hu
  have hnz:((ls.length:Int) != (k:Int))=true:=by simp;omega
  have HU:=zh hb;clear hb hu hne
  go_enter func124,ntmps124
  go_wp2_with (first
   | (go_at_call 249;refine hcon.mono ?_;rintro e w2 ⟨b,c,rfl,ho,hd2,hf2⟩;have hn:=Y2 w2;have HO:=zh ho.at;have HD:=zh hd2;have HF:=zh hf2;clear hd2 hf2 ho)
   | (go_at_call 94;refine (Qqc HO.o (by simpa using Nat.le_trans hs (by decide)) HU.o).mono ?_;rintro e w3 ⟨b3,c3,rfl,_,hb3⟩;have hq:=Qif w3 (some ⟨b,0,none⟩) s.size c;have HB:=zh hb3;clear hb3))
  go_returns
  exact⟨rfl,HD.o.below HB.o,HF.o.trans (Fr.ofBelow HB.o)⟩
theorem Qv2 {ls:List (List UInt8)} (hk:Zr d=0) (hg:getF d.files p=some s) (hs:s.size≤1048576) (hu:unbW s k=some ls):Calls prog 124 #[.pointer (some ⟨g,0,none⟩),.string p,.int .i64 k] w fun e w'=>
  ∃ b c,e=.returned (.tuple #[.slice (some ⟨b,0,none⟩) ls.length c,.bool true,.nilIface])∧Y8 w' w.heap.size (.slice (some ⟨b,0,none⟩) ls.length c) ls∧Q3 w' gd v (Zj d)∧Fr (·=gd) w w':=by
 obtain⟨⟨c0,_⟩,f0⟩:=h.heads;have hcon:=Qu5 (p:=p) hD hc hk hg;clear h hD hg;obtain⟨hb,hl⟩:Qx s.data.toList=some ls∧ls.length=k:=by
  unfold unbW at hu;cases hb:Qx s.data.toList with
  | none=>rw[hb] at hu;cases hu
  | some ls'=>
   rw[hb,Option.bind_some] at hu
   split at hu
   ·rename_i e;cases hu;exact⟨rfl,e⟩
   ·cases hu
 have hnz:((ls.length:Int) != (k:Int))=false:=by simp;omega
 have HU:=zh hb;clear hb hu hl
 go_enter func124,ntmps124
 go_wp2_with (first
  | (go_at_call 249;refine hcon.mono ?_;rintro e w2 ⟨b,c,rfl,ho,hd2,hf2⟩;have hn:=Y2 w2;have HO:=zh ho.at;have HD:=zh hd2;have HF:=zh hf2;clear hd2 hf2 ho)
  | (go_at_call 94;refine (Qqc HO.o (by simpa using Nat.le_trans hs (by decide)) HU.o).mono ?_;rintro e w3 ⟨b3,c3,rfl,ho3,hb3⟩;have hq:=Qif w3 (some ⟨b,0,none⟩) s.size c;have HO3:=zh ho3;have HB:=zh hb3;clear hb3 ho3))
 go_returns
 refine⟨_,_,rfl,?_,HD.o.below HB.o,HF.o.trans (Fr.ofBelow HB.o)⟩;exact HO3.o.mono HF.o.size
end
end
section
def Jo (g gd:Nat) (v ve vl vp:Value) (vs:List Value) (k:Nat):Prop:=dkS gd v k∨LogS g ve vl vp vs k
structure Wk (w:World) (g gd:Nat) (v ve vl vp:Value) (vs:List Value) (L:Lg) (v' vp':Value) (d':Dk) (ps:List Nat) (w':World):Prop where
 disk:Q3 w' gd v' d'
 log:Zn w' g gd ve vl vp' vs { L with put:=ps }
 fr:Fr (Jo g gd v ve vl vp vs) w w'
 sub:Sub w (Jo g gd v ve vl vp vs) (Jo g gd v' ve vl vp' vs)
section
variable {w w1 w2:World} {g gd:Nat} {v v1 v2 ve vl vp vp1 vp2:Value} {vs:List Value} {L:Lg} {d1 d2:Dk} {ps ps2:List Nat}
theorem Wk.put (h:Wk w g gd v ve vl vp vs L v1 vp1 d1 ps w1) (hd:Q3 w2 gd v2 d2) (hf:Fr (dkS gd v1) w1 w2) (hm:J7 w1 v1 v2) (hsz:w.heap.size≤w1.heap.size):Wk w g gd v ve vl vp vs L v2 vp1 d2 ps w2:=by
 refine⟨hd,h.log.fr hf (fun k hk=>h.log.apartDisk h.disk k hk) h.disk.noBytes,Fr.sub h.fr (hf.weak fun k _ hk=>(.inl hk:Jo g gd v1 ve vl vp1 vs k)) h.sub,h.sub.trans (fun k hk=>?_) hsz⟩;rcases hk with (hk|hk)|hk
 ·exact .inl (.inl (.inl hk))
 ·exact (hm k hk).imp (fun h=>.inl (.inr h)) id
 ·exact .inl (.inr hk)
theorem Wk.below (h:Wk w g gd v ve vl vp vs L v1 vp1 d1 ps w1) (hb:Below w1.heap.size w1 w2):Wk w g gd v ve vl vp vs L v1 vp1 d1 ps w2:=
 ⟨h.disk.below hb,h.log.below hb,h.fr.trans (Fr.ofBelow hb),h.sub⟩
theorem Wk.marks (h:Wk w g gd v ve vl vp vs L v1 vp1 d1 ps w1) (hl:Zn w2 g gd ve vl vp2 vs { L with put:=ps2 }) (hf:Fr (LogS g ve vl vp1 vs) w1 w2) (hs:Sub w1 (LogS g ve vl vp1 vs) (LogS g ve vl vp2 vs)) (hsz:w.heap.size≤w1.heap.size):Wk w g gd v ve vl vp vs L v1 vp2 d1 ps2 w2:=by
 refine⟨h.disk.fr hf fun k hk hS=>h.log.apartDisk h.disk k hS hk,hl,Fr.sub h.fr (hf.weak fun k _ hk=>(.inr hk:Jo g gd v1 ve vl vp1 vs k)) h.sub,h.sub.trans (fun k hk=>?_) hsz⟩;rcases hk with hk|hk
 ·exact .inl (.inl hk)
 ·exact (hs k hk).imp (fun h=>.inr h) id
end
def Qns (w:World) (g gd:Nat) (v ve vl vp:Value) (vs:List Value) (d:Dk) (L:Lg) (t:Int) (n:Nat) (row:List (List UInt8)) (e:Ending) (w':World):Prop:=
 ∃ p1 q,p1=L.put++List.replicate (n+1-L.put.length) 0∧q=J1 t row (p1.getD n 0 / 4) d∧∃ v' vp',Wk w g gd v ve vl vp vs L v' vp' q.1 (p1.set n q.2.1) w'∧
  ((q.2.2=none∧e=.returned .nilIface)∨∃ p r u m,q.2.2=some p∧e=.returned (.iface 153 (.pointer (some ⟨r,0,none⟩)))∧w.heap.size≤r∧w.heap.size≤u∧w'.heap[u]?=some (.cells #[.int .i64 m] 366 (0,0))∧
   w'.heap[r]?=some (.cells #[.string p,.iface 152 (.pointer (some ⟨u,0,none⟩))] 155 (0,0)))
theorem Q8h (j len k:Nat) (hk:k=min 4 (len-4*j)) (h:4*j<len):4*min (j+1) (len / 4)=if k=4 then 4*j+4 else 4*min j (len / 4):=by split <;> omega
theorem Q6b (k:Nat):((k:Int) == 4)=decide (k=4):=by rw[Bool.eq_iff_iff];simp;omega
theorem Q7d (j len k:Nat) (hl:len≤1048576) (hk:k=min 4 (len-4*j)) (h:4*j<len):wrap64 (4*(j:Int)+(k:Int))=4*(j:Int)+(k:Int):=by unfold wrap64;omega
variable {a b j j0 len:Nat}
theorem Q70 (h:a≤b+(j-j0)) (hb:b<1000000000000) (hj:4*j<len) (hl:len≤1048576):a<1099511627776:=by omega
theorem Q5k (j len k:Nat) (hl:len≤1048576) (hk:k=min 4 (len-4*j)) (h:4*j<len):IntKind.i64.wrap (4*(j:Int)+(k:Int))=4*(j:Int)+(k:Int):=by rw[IntKind.wrap_i64];omega
theorem Q07 (d:Dk) (p b:ByteArray):(putD d p b).calls=d.calls+1∧(putD d p b).files.length≤d.files.length+1:=by
 unfold putD
 split
 ·exact⟨Qkc d,by show (Zj d).files.length≤_;rw[Yy];omega⟩
 ·refine⟨(Qly d p b).2.2.2,?_⟩
  rw[Qev]
  split
  ·exact (Qk3 _ _ _).2
  ·omega
theorem Qp2 {a':Nat} (h:a≤b+(j-j0)) (h':a'≤a+1) (hj:j0≤j):a'≤b+(j+1-j0):=by omega
theorem Q1n {gk:Nat} (hj:4*j<len):len+4-4*(j+1)<len+4-4*j:=by omega
theorem Q36 (ps:List Nat) (x:Nat):(ps ++ [x]).map (fun (n:Nat)=>Value.int .i64 (n:Int))=ps.map (fun (n:Nat)=>Value.int .i64 (n:Int)) ++ [.int .i64 (x:Int)]:=by simp
theorem Qq5 (f:Nat→Addr) (w:World) (g gd:Nat) (v ve vl vp:Value) (vs:List Value) (d:Dk) (L:Lg) (h:Zn w g gd ve vl vp vs L) (hD:Q3 w gd v d) (hE:EnvS f (Jo g gd v ve vl vp vs) w) (t:Int) (n:Nat) (ht:t+1=n) (hn:n≤1048576) (hpl:L.put.length≤1048576)
  (row:List (List UInt8)) (hrow:row.length≤1048576) (hmark:∀ a,L.put[n]?=some a→a%4=0∧a≤row.length) (hshort:∀ x∈row,x.length≤64) (hc:d.calls<1000000000000) (hfl:d.files.length<1000000000000)
  (F:FuncId) (gc:Nat) (hen:∀ args w,(callFunc F args).run prog w=.ok (.enter F args) w)
  (hF:∀ (w1:World) (vp1:Value) (ps:List Nat),Zn w1 g gd ve vl vp1 vs { L with put:=ps }→Fr (Jo g gd v ve vl vp vs) w w1→∀ j,4*j<row.length→
   Calls prog F #[.int .i64 (4*(j:Int)),.int .i64 (4*(j:Int)+((min 4 (row.length-4*j):Nat):Int)),.pointer (some ⟨gc,0,none⟩)] w1 fun e w2=>∃ vb,e=.returned vb∧Q6 w2 vb ((row.drop (4*j)).take 4).flatten∧Below w1.heap.size w1 w2) :
  Calls prog 77 #[.pointer (some ⟨g,0,none⟩),.int .i64 t,.int .i64 row.length,.func (.func F) #[] #[.pointer (some ⟨gc,0,none⟩)]] w (Qns w g gd v ve vl vp vs d L t n row):=by
 have HE:=zh hE;have HF:=zh hF;have HM:=zh hmark;have HSH:=zh hshort;have hg:=Qc h.cells;have HW0:=zh (⟨hD,h,Fr.refl _ _,Sub.refl _ _⟩:Wk w g gd v ve vl vp vs L v vp d L.put w);have htw:wrap64 (t+1)=(n:Int):=by rw[ht];unfold wrap64;omega
 have HT:=zh ht;clear h hD hE hF hmark hshort ht;obtain⟨i0,hi0,hz0,hs0,hby0⟩:=Qqn;have HI:=zh (⟨hi0,hz0,hs0,hby0⟩:_∧_∧_∧_);clear hi0 hz0 hs0 hby0
 go_enter func77,ntmps77
 go_wp2_with fail
 go_loopg [] (n+2) (fun gg wr=>∃ (k:Nat) (vp1:Value),k≤n+1-L.put.length∧n+2-k≤gg∧Aside (Wk w g gd v ve vl vp vs L v vp1 d (L.put++List.replicate k 0) wr)∧w.heap.size≤wr.heap.size)
 case atStart=>
  refine⟨0,vp,Nat.zero_le _,by omega,?_,Nat.le_refl _⟩;show Wk _ _ _ _ _ _ _ _ _ _ _ _ _ _;rw[List.replicate_zero,List.append_nil];exact HW0.o
 case round=>
  obtain⟨k,vp1,hk,hgg,HW1,hsw⟩:=hrel;have hd1:=HW1.o.log.heads;have c4:=hd1.1.2.2.2.2.1;have f4:=hd1.2 4;have hg1:=Qc HW1.o.log.cells;obtain⟨a1,cp1,rfl⟩:=Zs HW1.o.log.puts;obtain⟨np,hnp⟩:∃ np,np=({ L with put:=L.put++List.replicate k 0 }:Lg).put.length:=⟨_,rfl⟩
  have hnp2:np=L.put.length+k:=by rw[hnp];simp
  have hrow1:=HW1.o.log.puts;rw[←hnp] at c4 hrow1;have hne:¬ (Value.slice a1 np cp1).ownBlock=some g:=fun e=>by obtain⟨C,hC⟩:=Qh hrow1 e;exact Zp HW1.o.log.cells hC (by decide) rfl
  have HNP:=zh hnp;have HROW1:=zh hrow1;have HNE:=zh hne;have HNP2:=zh hnp2;clear hd1 hnp hrow1 hne;by_cases hlt:np≤n
  ·have hltz:(np:Int)≤(n:Int):=by omega
   have hnb:np+1≤1099511627776:=by omega
   clear hnp2
   go_wp2_with (at_builtin;refine Qbe rfl _ _ _ rfl 0 3 i0 _ 1 8 underlying23 HI.o.1 HI.o.2.1 HI.o.2.2.1 HI.o.2.2.2 rfl (by decide) (by decide) (.slice a1 np cp1) np _ (by rfl) (Qn HROW1.o (Qa wr (.cells #[.int .i64 0] 3))) ⟨wr.heap.size,0,none⟩ 1 1 [.int .i64 0] rfl rfl (cell_one_new _ _ _) (by simp[Value.oneCell']) (by decide) hnb (Nat.zero_le _) ?_;intro v' w' h2 h3 h4 h5;obtain⟨gb,cpb,rfl,hgb⟩:=Qa3 h2 h5;have H2:=zh h2;have H3:=zh ((Fr.ofBelow (S:=fun k=>(Value.slice a1 np cp1).ownBlock=some k) (Qa wr (.cells #[.int .i64 0] 3))).trans (Fr.ofGrown h3 fun k _ e=>e));have H4:=zh ((J7.refl wr (.slice a1 np cp1)).trans h4 (by simp));go_must (have k3:=H3.o.cell c4 HNE.o;have k4:=(H3.o.frozen (p:=⟨g,4,none⟩) hg1 HNE.o).trans f4;clear h2 h3 h4 h5))
   go_roundg (n+2-(k+1))
   case measure=>omega
   case rel=>
    have hp:=HW1.o.log.setPuts (ps:=L.put++List.replicate (k+1) 0) (vp':=.slice (some ⟨gb,0,none⟩) (np+1) cpb) (by rw[←HNP.o];exact H3.o) (by
     have e:L.put++List.replicate (k+1) 0=L.put++List.replicate k 0 ++ [0]:=by rw[List.append_assoc,List.replicate_succ']
     rw[e,Q36]
     have e2:(L.put++List.replicate k 0 ++ [0]).length=np+1:=by have:=HNP2.o;simp only[List.length_append,List.length_replicate,List.length_cons,List.length_nil];omega
     rw[e2]
     exact H2.o) (by rw[←HNP.o];exact H4.o)
    exact⟨k+1,.slice (some ⟨gb,0,none⟩) (np+1) cpb,by have:=HNP2.o;omega,by omega,HW1.o.marks hp.1 hp.2.1 hp.2.2 hsw,by have:=hp.2.1.size;omega⟩
  ·have hltz:¬ (np:Int)≤(n:Int):=by omega
   have hkk:k=n+1-L.put.length:=by omega
   obtain⟨p1,hp1⟩:∃ p1,p1=L.put++List.replicate k 0:=⟨_,rfl⟩
   have hpl1:p1.length=np:=by rw[hp1,HNP.o]
   obtain⟨a,ha⟩:∃ a,p1[n]?=some a:=⟨_,List.getElem?_eq_getElem (by omega)⟩
   have ham:a%4=0∧a≤row.length:=by
    rw[hp1] at ha;by_cases hl:n<L.put.length
    ·rw[List.getElem?_append_left hl] at ha
     exact HM.o a ha
    ·rw[List.getElem?_append_right (by omega),List.getElem?_replicate] at ha
     split at ha
     ·cases ha;exact⟨rfl,by omega⟩
     ·cases ha
   obtain⟨bp,rfl⟩:∃ bp,a1=some ⟨bp,0,none⟩:=by
    rcases HROW1.o.2 with ⟨e,h0⟩|⟨b,cap,cur,e,_⟩
    ·omega
    ·simp at e;exact⟨b,e.1⟩
   have cbp:wr.cell? ⟨bp,n,none⟩=some (.int .i64 (a:Int)):=by have h1:=HROW1.o.cells (g:=bp) rfl n (.int .i64 (a:Int)) (by show ((L.put++List.replicate k 0).map _)[n]?=_;rw[←hp1,List.getElem?_map,ha];rfl);rw[Addr.add_lit] at h1;simpa using h1
   obtain⟨j0,hj0⟩:∃ j0,j0=a / 4:=⟨_,rfl⟩
   have haj:a=4*j0:=by omega
   have hset:p1.set n (4*min j0 (row.length / 4))=p1:=by
    have e:4*min j0 (row.length / 4)=a:=by omega
    rw[e];obtain⟨hlt',he⟩:=List.getElem?_eq_some_iff.1 ha;rw[←he];exact List.set_getElem_self hlt'
   have hgetD:p1.getD n 0 / 4=j0:=by rw[List.getD_eq_getElem?_getD,ha];exact hj0.symm
   have hnz:(n:Int)<(np:Int):=by omega
   have hn0:(0:Int)≤(n:Int):=by omega
   have cbp':wr.cell? ⟨bp,n,none⟩=some (.int .i64 (4*(j0:Int))):=by rw[cbp,haj];congr 2
   have HSET:=zh hset;have HGET:=zh hgetD;have HKK:=zh hkk;have HP1:=zh hp1;have HPL1:=zh hpl1;have hjr:4*j0≤row.length:=by omega
   clear hset hgetD hkk hp1 hpl1 ha cbp haj hj0 ham hnp2
   go_wp2_with fail
   go_loopg [10] (row.length+4) (fun gg s10 wx=>∃ j:Nat,j0≤j∧4*j<row.length+4∧row.length+4-4*j≤gg∧s10=.int .i64 (4*(j:Int))∧∃ v1 d1,Aside (Wk w g gd v ve vl vp vs L v1 (.slice (some ⟨bp,0,none⟩) p1.length cp1) d1 (p1.set n (4*min j (row.length / 4))) wx)∧
    Aside (J1 t row j0 d=J1 t row j d1)∧d1.calls≤d.calls+(j-j0)∧d1.files.length≤d.files.length+(j-j0)∧w.heap.size≤wx.heap.size)
   case atStart=>
    refine⟨j0,Nat.le_refl _,by omega,by omega,rfl,v,d,?_,rfl,by omega,by omega,hsw⟩;show Wk _ _ _ _ _ _ _ _ _ _ _ _ _ _;rw[HSET.o,HPL1.o,HP1.o,HNP.o];exact HW1.o
   case round=>
    obtain⟨j,hj0,hj4,hg2,rfl,v1,d1,HW2,HJ,hdc,hdf,hsx⟩:=hrel;by_cases hlt2:4*j<row.length
    ·have hltz2:4*(j:Int)<(row.length:Int):=by omega
     have hq4:4*(j:Int) / 4=(j:Int):=by omega
     obtain⟨k',hk'⟩:∃ k',k'=min 4 (row.length-4*j):=⟨_,rfl⟩
     obtain⟨p,hp⟩:∃ p,p=(Ye t row j).1:=⟨_,rfl⟩
     have hcon:=Qpa t j row.length wr hlt2 (by omega) (HE.o.step HW2.o.fr HW2.o.sub).num;rw[show sOf (Y6 t (j:Int) ((min 4 (row.length-4*j):Nat):Int))=p from hp.symm,←hk'] at hcon;have hwr:=Q7d j row.length k' hrow hk' hlt2;have hwr2:IntKind.i64.wrap (4*(j:Int)+(k':Int))=4*(j:Int)+(k':Int):=Q5k j row.length k' hrow hk' hlt2;have hk4:=Q8h j row.length k' hk' hlt2;have hkb:k'≤4:=hk' ▸ Nat.min_le_left _ _;obtain⟨ck,hck,hck2⟩:∃ ck,((k':Int) == 4)=ck∧ck=decide (k'=4):=⟨_,rfl,Q6b k'⟩
     have HK:=zh hk';have HP:=zh hp;have HK4:=zh hk4;have HCK:=zh hck2;have hc1:d1.calls<1099511627776:=Q70 hdc hc hlt2 hrow;have hf1:d1.files.length<1099511627776:=Q70 hdf hfl hlt2 hrow;clear hk' hp hk4 hck2
     go_wp2_with (go_at_call 123;refine hcon.mono ?_;rintro e w3 ⟨rfl,hb3⟩;have HW3:=zh (HW2.o.below hb3);have HB3:=zh hb3;have hd3:=HW3.o.log.heads;clear hb3)
     have c30:=hd3.1.1;have hg3:=Qc HW3.o.log.cells;clear hd3
     go_cut [13] from 54 to 67 (fun s13 wy=>∃ v2,Aside (Wk w g gd v ve vl vp vs L v2 (.slice (some ⟨bp,0,none⟩) p1.length cp1) (putD d1 p (Ye t row j).2) (p1.set n (4*min j (row.length / 4))) wy)∧Aside (∃ bs,w.heap.size≤bs∧Qcs wy bs (Qfc d1 (Ye t row j)) s13)∧w.heap.size≤wy.heap.size)
     case first=>
      go_region_law (first|(go_simp;have hcF:=HF.o _ _ _ (HW3.o.below (Ql w3)).log (HW3.o.below (Ql w3)).fr j hlt2;rw[←HK.o] at hcF;refine hcF.mono ?_;rintro e w4 ⟨vb,rfl,hvb,hb4⟩;have HVB:=zh hvb;have HW4:=zh ((HW3.o.below (Ql w3)).below hb4);have HB4:=zh hb4;have c40:=(hb4.cell (p:=⟨g,0,none⟩) hg3).trans c30;have hg4:g<w4.heap.size:=Nat.lt_of_lt_of_le hg3 hb4.size;clear hb4 hvb)|(go_simp;go_invoke;go_simp;go_at_call 250;refine (Q6h w4 gd v1 d1 HW4.o.disk p vb _ HVB.o hc1 hf1).mono ?_;rintro e w5 ⟨u,rfl,hme,v2,hd5,hf5,hm5⟩;have HME:=zh hme;have HW5:=zh (HW4.o.put hd5 hf5 hm5 (by have:=HW3.o.fr.size;have:=HB4.o.size;exact Nat.le_trans ‹w.heap.size≤w3.heap.size› this));have HF5:=zh hf5;clear hme hd5 hf5 hm5))
      all_goals (
       go_wp2_with fail
       go_meet
       have hw34:w.heap.size≤w4.heap.size:=by have:=HW4.o.fr.size;exact this
       refine⟨v2,HW5.o,⟨w4.heap.size,hw34,?_⟩,Nat.le_trans hw34 HF5.o.size⟩
       unfold Qfc
       rw[←HP.o]
       exact HME.o)
     case rest=>
      obtain⟨v2,HW6,HME6,hwc⟩:=hcut;have HME7:=HME6.o;clear HME6;obtain⟨bs,hbs,HME7⟩:=HME7;cases hbad:Qfc d1 (Ye t row j) with
      | true=>
       rw[hbad] at HME7;have HBAD:=zh hbad;obtain⟨q,nn,rfl,hq,hh⟩:Qll wc bs u13:=HME7;have HH:=zh hh;have hnn:=Qak wc 152 (.pointer (some ⟨q,0,none⟩));clear hbad hh
       go_wp2_with (go_at_call 65;refine (Qoh _ _ _ _).mono ?_;rintro e w7 ⟨u,rfl,⟨r,rfl,hr,hhr⟩,hb7⟩;have HR:=zh hhr;have HB7:=zh hb7;clear hhr hb7)
       go_ret;have hw:=Qw1 t row j d1 hlt2 HBAD.o;refine⟨p1,J1 t row j0 d,?_,?_,v2,.slice (some ⟨bp,0,none⟩) p1.length cp1,?_,.inr ⟨p,r,q,nn,?_,rfl,Nat.le_trans hwc hr,Nat.le_trans hbs hq,(HB7.o.block _ (Qc HH.o)).trans HH.o,HR.o⟩⟩
       ·rw[HP1.o,HKK.o]
       ·rw[HGET.o]
       ·rw[HJ.o,hw,←HP.o]
        exact HW6.o.below HB7.o
       ·rw[HJ.o,hw,←HP.o]
      | false=>
       rw[hbad] at HME7;have hu13:u13=.nilIface:=HME7;subst hu13;have hnn:=Y2 wc;have hstep:=Qt1 t row j d1 hlt2 hbad;rw[←HP.o] at hstep;have HSTEP:=zh hstep;have hpd:=Q07 d1 p (Ye t row j).2;have HPD:=zh hpd;have hlp:wc.ownsRow 0 3 1 (.slice (some ⟨bp,0,none⟩) p1.length cp1) p1.length ((p1.set n (4*min j (row.length / 4))).map fun (n:Nat)=>.int .i64 (n:Int)):=by have h1:=HW6.o.log.puts;have e:({ L with put:=p1.set n (4*min j (row.length / 4)) }:Lg).put.length=p1.length:=List.length_set;rw[e] at h1;exact h1
       have hnp:n<p1.length:=by rw[HPL1.o];omega
       have hcel:wc.cell? ⟨bp,n,none⟩=some (.int .i64 ((4*min j (row.length / 4):Nat):Int)):=by have h1:=hlp.cells (g:=bp) rfl n (.int .i64 ((4*min j (row.length / 4):Nat):Int)) (by rw[List.getElem?_map,List.getElem?_set_self hnp];rfl);rw[Addr.add_lit] at h1;simpa using h1
       obtain⟨C,hC⟩:=Qh hlp (k:=bp) rfl;have hfz:=Qq hC n;have hbp:=Qc hC;clear hbad hstep hpd HME7 hlp hC hnp;cases ck with
       | true=>
        have hk44:k'=4:=by have:=HCK.o;simpa using this
        have HK44:=zh hk44;clear hk44;obtain⟨old,hold⟩:∃ old,old=((4*min j (row.length / 4):Nat):Int):=⟨_,rfl⟩
        rw[←hold] at hcel;clear hold
        go_wp2_with fail
        go_roundg (row.length+4-4*(j+1))
        case measure=>exact Nat.lt_of_lt_of_le (Q1n (gk:=0) hlt2) hg2
        case rel=>
         have hsp:=HW6.o.log.setPut (bp:=bp) (cp:=cp1) (by show _=Value.slice _ (p1.set n _).length _;rw[List.length_set]) n (4*j+k');have hxx:((4*j+k':Nat):Int)=4*(j:Int)+(k':Int):=by omega
         rw[hxx] at hsp;have hmk:(p1.set n (4*min j (row.length / 4))).set n (4*j+k')=p1.set n (4*min (j+1) (row.length / 4)):=by rw[List.set_set,HK4.o,if_pos HK44.o,HK44.o]
         refine⟨j+1,Nat.le_succ_of_le hj0,by omega,Nat.le_refl _,by go_num,v2,putD d1 p (Ye t row j).2,?_,?_,Qp2 hdc (Nat.le_of_eq HPD.o.1) hj0,Qp2 hdf HPD.o.2 hj0,?_⟩
         ·show Wk _ _ _ _ _ _ _ _ _ _ _ _ _ _
          rw[←hmk];exact HW6.o.marks hsp.1 hsp.2 (Sub.refl _ _) hwc
         ·show J1 _ _ _ _=_
          rw[HJ.o,HSTEP.o]
         ·have:=hsp.2.size;exact Nat.le_trans hwc this
       | false=>
        have hk44:k'≠4:=by have:=HCK.o;simpa using this
        have HK44:=zh hk44;clear hk44 hcel hfz hbp
        go_wp2_with fail
        go_roundg (row.length+4-4*(j+1))
        case measure=>exact Nat.lt_of_lt_of_le (Q1n (gk:=0) hlt2) hg2
        case rel=>
         refine⟨j+1,Nat.le_succ_of_le hj0,by omega,Nat.le_refl _,by go_num,v2,putD d1 p (Ye t row j).2,?_,?_,Qp2 hdc (Nat.le_of_eq HPD.o.1) hj0,Qp2 hdf HPD.o.2 hj0,hwc⟩
         ·show Wk _ _ _ _ _ _ _ _ _ _ _ _ _ _
          rw[HK4.o,if_neg HK44.o];exact HW6.o
         ·show J1 _ _ _ _=_
          rw[HJ.o,HSTEP.o]
    ·have hltz2:¬ 4*(j:Int)<(row.length:Int):=by omega
     have hend:row.length≤4*j:=by omega
     have HEND:=zh hend;clear hend
     go_wp2_with fail
     go_ret;have hw:=Qxz t row j d1 HEND.o;have hmin:4*min j (row.length / 4)=4*(row.length / 4):=by have:=HEND.o;omega
     refine⟨p1,J1 t row j0 d,?_,?_,v1,.slice (some ⟨bp,0,none⟩) p1.length cp1,?_,.inl ⟨?_,rfl⟩⟩
     ·rw[HP1.o,HKK.o]
     ·rw[HGET.o]
     ·rw[HJ.o,hw,←hmin]
      exact HW2.o
     ·rw[HJ.o,hw]
end
end Go.Proofs.YtefccfakhgdfbabGreatDoor
