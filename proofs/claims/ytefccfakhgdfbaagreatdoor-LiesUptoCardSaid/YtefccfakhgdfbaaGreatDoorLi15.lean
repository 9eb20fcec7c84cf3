/- (*Log).bundle: one look for a bundle. Conditions: fewer than 2^40 calls; files of at most 2^20 bytes. -/
import Derived.Test.YtefccfakhgdfbaaGreatDoorLi14
import Derived.Shelf.SlSortCmp.WholeK
set_option linter.unusedVariables false
set_option linter.unusedSimpArgs false
open Go.RowKit Go.Proofs.Tryz
set_option maxRecDepth 100000
set_option maxHeartbeats 4000000
namespace Go.Proofs.YtefccfakhgdfbaaGreatDoor
section
def Q5v (w:World) (gc gk mc gn gd:Nat) (vl vt:Value) (qs:List CEnt) (r:Tld×List Hsh×Cl×Nt) (e:Ending) (w':World):Prop:=
 ∃ v',e=.returned (.tuple #[v',Qaa r.1.1 r.1.2])∧Q0 w' w.heap.size v' (r.2.1.map HS)∧
  ∃ qs',ClIs w' gc gk mc (.iface 48 (.pointer (some ⟨gn,0,none⟩))) r.2.2.1 qs'∧Y1 w' gn gd vl vt r.2.2.2∧Fr (cnS gc gk mc gn vt qs) w w'∧Sub w (cnS gc gk mc gn vt qs) (cnS gc gk mc gn vt qs')
theorem Qzb (F:Nat→Addr) (w:World) (ga gc gk mc gn gd:Nat) (vl vt:Value) (qs:List CEnt) (r:Tld×List Hsh×Cl×Nt) (hga:PcAt w ga gc) (hE:EnvS F (cnS gc gk mc gn vt qs) w) (hlt:∀ k,cnS gc gk mc gn vt qs k→k<w.heap.size) (hlen:r.2.1.length≤1048576)
  (hc:Calls prog 85 #[.pointer (some ⟨gc,0,none⟩)] (w.alloc (.cells #[.int .i64 0,.string ⟨#[]⟩] 63)) (Qvo F (w.alloc (.cells #[.int .i64 0,.string ⟨#[]⟩] 63)) gc gk mc gn gd vl vt qs r)) :
  Calls prog 29 #[.pointer (some ⟨ga,0,none⟩)] w (Q5v w gc gk mc gn gd vl vt qs r):=by
 obtain⟨⟨tk,tp⟩,hh,c1,n1⟩:=r;obtain⟨W0,a⟩:∃ W0,W0=w.alloc (.cells #[.int .i64 0,.string ⟨#[]⟩] 63):=⟨_,rfl⟩
 have n:Below w.heap.size w W0:=by rw[a];exact Qa w _
 have x:Zr W0 w.heap.size 0 ⟨#[]⟩:=by rw[a];exact Qc6 w
 have X:W0.heap.size=w.heap.size+1:=by rw[a];simp
 have c0:W0.cell? ⟨ga,0,none⟩=some (.pointer (some ⟨gc,0,none⟩)):=Qd ((n.block _ (Qc hga)).trans hga) 0 rfl;rw[←a] at hc;have W:=zh a;have U:=zh n;have S:=zh x;have HE:=zh hE;have R:=zh hlt;have L:=zh hlen;have HC:=zh hc;clear hga hE hlt hlen hc a n x
 go_enter func29,ntmps29
 go_upto_region 1 with fail
 rw[show w.alloc (.cells #[.int .i64 0,.string ⟨#[]⟩] 63)=W0 from W.o.symm]
 go_upto_region 2 with (first
  | (go_at_call 85;refine HC.o.mono ?_;rintro e w3 ⟨v,y,rfl,hv,hy,T,H,G,D,B⟩;have HV:=zh hv;have j:=zh (show Qcs w3 0 v hh from Zs hv (Nat.zero_le _));have HY:=zh hy;have V:=zh H;have O:=zh G;have p:=zh D;have P:=zh B;clear hv hy H G D B)
  | fail)
 have E:Zr w3 w.heap.size 0 ⟨#[]⟩:=p.o.heap S.o fun e=>by have:=R.o _ e;omega
 have u:Fr (cnS gc gk mc gn vt qs) w w3:=(Fr.ofBelow U.o).trans p.o;have N:=zh E;have K:=zh u;clear E u c0
 go_wp2_with (first
  | (go_at_call 86;refine (Qvx v hh w3 j.o L.o).mono ?_;rintro e w4 ⟨v4,rfl,q,A⟩;obtain⟨va,vc,rfl⟩:=Zi q;have Q:=zh q;have b:=zh A;have d:=zh (Qd4 j.o);clear q A)
  | (go_at_call 87;have c:Fr (cnS gc gk mc gn vt qs) w w4:=K.o.step b.o (fun i h1 h2=>absurd (HV.o.lt i h2).1 (by omega));have J:=zh c;have z:=HY.o.fr b.o (fun k C fz hC=>Yk d.o hC (by decide));have I:=N.o.kept b.o d.o (by decide);refine (Q61 (HE.o w4 c).2.1 z).mono ?_;rintro e w5 ⟨rfl,l⟩;have f:=zh l;have h:=zh (I.below l);obtain⟨t0,t1,t2,t3,t4⟩:=h.o.facts;clear c z I l)
  | fail)
 have M:=Qc2 (m:=tk) (t:=tp) h.o;have s:=Q5 h.o;have g:=M.2;have e4:Value.slice va (hh.map HS).length vc=Value.slice va hh.length vc:=by rw[List.length_map]
 refine bodyPost_ret (v:=.tuple #[.slice va hh.length vc,Qaa tk tp]) (by simp[results,results29,go_sem,t0,t1]) rfl ⟨_,rfl,?_,T,?_,?_,?_,?_⟩
 ·rw[←e4]
  exact Zs (Zk (Ql Q.o f.o) g s (by decide)) (by have:=p.o.size;omega)
 ·have h4:=V.o.kept b.o d.o (fun k hk=>by obtain⟨C,hC⟩:=Qe j.o hk;exact⟨C,_,_,hC⟩) (by decide) (by decide) (by decide) (by decide)
  exact (h4.below f.o).kept g s (fun k hk=>⟨_,_,_,(show w5.heap[k]?=_ from hk ▸ h.o)⟩) (by decide) (by decide) (by decide) (by decide)
 ·have h4:=J1 O.o b.o d.o (by decide) (by decide) (by decide)
  exact J1 (h4.below f.o) g s (by decide) (by decide) (by decide)
 ·exact (J.o.trans (Fr.ofBelow f.o)).step g fun i h1 h2=>by omega
 ·exact P.o.mono (by omega)
end
section
open Go.RowKit Go.Sort
def cfF (x y:ByteArray×ByteArray):Int:=if Op.bytesLess x.1.toList y.1.toList=true then -1 else if Op.bytesLess y.1.toList x.1.toList=true then 1 else 0
theorem Q3q (x y:ByteArray×ByteArray):ltOf cfF x y=ltStr x.1.toList y.1.toList:=by
 unfold ltOf cfF ltStr;rw[bytesLess_eq,bytesLess_eq];by_cases h:x.1.toList<y.1.toList
 ·simp[h]
 ·by_cases h2:y.1.toList<x.1.toList
  ·simp[h,h2]
  ·simp[h,h2]
theorem Q8s:SWO (ltOf cfF) where
 irrefl x:=by rw[Q3q];exact swo_ltStr.irrefl _
 trans x y z h1 h2:=by rw[Q3q] at *;exact swo_ltStr.trans _ _ _ h1 h2
 ntrans x y z h1 h2:=by rw[Q3q] at *;exact swo_ltStr.ntrans _ _ _ h1 h2
theorem Qti {a:Array Value} {t:Nat} {v:Value} (h:a[t]?=some v):a[t]! = v:=by obtain⟨h1,h2⟩:=Array.getElem?_eq_some_iff.1 h;rw[getElem!_pos a t h1,h2]
theorem Qpc (l:List (ByteArray×ByteArray)):flatK J6 2 l.toArray=(Zg l).toArray:=by
 refine ext_get! (by simp[Jb]) fun t ht=>?_
 have b:t<l.length*2:=by simpa using ht
 have hj:t / 2<l.length:=by omega
 obtain⟨f,hf⟩:∃ f,l[t / 2]?=some f:=⟨_,List.getElem?_eq_getElem hj⟩
 obtain⟨h1,h2⟩:=Qak l (t / 2) f hf;rw[get_flatK _ _ _ _ (by simpa using b)];have e:l.toArray[t / 2]! = f:=by
  rw[getElem!_pos l.toArray (t / 2) (by simpa using hj)]
  have:=(List.getElem?_eq_some_iff.1 hf).2
  simpa using this
 rw[e];rcases Nat.mod_two_eq_zero_or_one t with hm|hm
 ·rw[hm]
  have a:t / 2*2=t:=by omega
  rw[a] at h1;rw[Qti (v:=.string f.1) (by simpa using h1)];rfl
 ·rw[hm]
  have a:t / 2*2+1=t:=by omega
  rw[a] at h2;rw[Qti (v:=.string f.2) (by simpa using h2)];rfl
variable {w:World} {blk:Nat} {cur:Array Value} {e:TypeId} {l:List (ByteArray×ByteArray)}
theorem Quv (hb:w.heap[blk]?=some (.cells cur e (0,0))) (ht:cur.toList.take (l.length*2)=Zg l):HoldsK J6 2 w blk 0 l.toArray:=by
 unfold HoldsK;rw[Qpc];intro j hj;have a:j<l.length*2:=by simpa [Jb] using hj
 refine⟨?_,by simp[World.frozen?,hb]⟩;have h1:(cur.toList.take (l.length*2))[j]?=(Zg l)[j]?:=by rw[ht]
 rw[List.getElem?_take_of_lt a] at h1;rw[Nat.zero_add,cell_of_row w blk j cur e (0,0) hb,←Array.getElem?_toList,h1];have h2:(Zg l)[j]?=some ((Zg l)[j]'(by rw[Jb];exact a)):=List.getElem?_eq_getElem _;rw[h2];have h3:(Zg l).toArray[j]?=some ((Zg l)[j]'(by rw[Jb];exact a)):=by rw[List.getElem?_toArray];exact h2
 rw[Qti h3];rfl
variable {m:Nat} {os:Array Obj}
theorem Qro {fr:Nat×Nat} (d:Array (ByteArray×ByteArray)) (hb:w.heap[blk]?=some (.cells cur e fr)) :
  (sortWorldK J6 2 w blk 0 m d os).heap[blk]?=some (.cells (putCells id 0 (flatK J6 2 d) cur) e fr):=by
 have hg:blk<w.heap.size:=(Array.getElem?_eq_some_iff.1 hb).1;unfold sortWorldK putRowK;rw[Go.Sort.heap_grow_old _ _ (by simpa [putRow,mapBlock,Sort.ahead] using hg)];simp[putRow,mapBlock,Sort.ahead,Array.getElem?_modify,hb,onCells]
theorem Q1k (d:Array (ByteArray×ByteArray)):Fr (·=blk) w (sortWorldK J6 2 w blk 0 m d os):=by
 refine⟨rfl,rfl,rfl,by simp[sortWorldK,putRowK,putRow,mapBlock,Sort.ahead,grow],fun k hk hne=>?_⟩;unfold sortWorldK putRowK;rw[Go.Sort.heap_grow_old _ _ (by simpa [putRow,mapBlock,Sort.ahead] using hk)]
 have:blk≠k:=fun e=>hne e.symm
 simp[putRow,mapBlock,Sort.ahead,Array.getElem?_modify,this]
theorem Q3d (cur:Array Value) (xs:List Value) (h:xs.length≤cur.size):(putCells id 0 xs.toArray cur).toList.take xs.length=xs:=by
 apply List.ext_getElem?;intro j;by_cases hj:j<xs.length
 ·rw[List.getElem?_take_of_lt hj,Array.getElem?_toList]
  simp[putCells,hj,show j<cur.size by omega]
 ·rw[List.getElem?_take_eq_none (by omega),List.getElem?_eq_none (by omega)]
theorem Qmz {base cap n:Nat} {l':List (ByteArray×ByteArray)} {t:TypeId} (h:w.ownsRow base t 2 (.slice (some ⟨blk,0,none⟩) n cap) n (Zg l)) (hn:n=l.length) (hl:l'.length=l.length) :
  (sortWorldK J6 2 w blk 0 m l'.toArray os).ownsRow base t 2 (.slice (some ⟨blk,0,none⟩) n cap) n (Zg l'):=by
 rcases h.2 with ⟨e,_⟩|⟨b,cp,cur,e,a,hb,r1,r2,r3,r4⟩
 ·cases e
 ·cases e
  refine⟨by rw[Jb,hl,hn],.inr ⟨_,_,_,rfl,a,Qro _ hb,r1,r2,by simp[putCells,r3],?_⟩⟩;rw[Qpc];have h1:n*2=(Zg l').length:=by rw[Jb,hl,hn]
  rw[h1];refine Q3d cur (Zg l') ?_;rw[←h1,r3];exact Nat.mul_le_mul_right _ r1
theorem Qtp {d d':Array (ByteArray×ByteArray)} (h:PermIn 0 d.size d d'):d'.toList.Perm d.toList:=by obtain⟨h1,_,h2⟩:=h;rw[show d'.extract 0 d.size=d' by rw[←h1];simp] at h2;simpa using h2
end
end Go.Proofs.YtefccfakhgdfbaaGreatDoor
namespace Go.Proofs
open Go.Shelf
def Tryz.sortFile_ren:Go.Shelf.Ren:=⟨fun|6=>132|15=>172|14=>171|28=>212|29=>213|20=>204|21=>205|22=>206|23=>207|24=>208|25=>209|26=>210|27=>211|46=>233|47=>234|48=>235|49=>236|50=>237|57=>258|n=>n,fun|22=>32|24=>132|25=>208|3=>3|39=>226|0=>0|53=>199|55=>225|4=>4|46=>302|45=>301|50=>306|5=>5|9=>9|66=>335|70=>299|76=>356|77=>357|n=>n,fun|n=>n⟩
theorem Tryz.sortFile:Go.Proofs.SlLaysF0.n6 prog sortFile_ren:={
 mixed:=by kernel_rfl
 f6:=⟨f132.name,by decide,func132.trans (congrArg some (by kernel_rfl))⟩
 f14:=⟨f171.name,by decide,func171.trans (congrArg some (by kernel_rfl))⟩
 f15:=func172.trans (congrArg some (by kernel_rfl))
 f20:=⟨f204.name,by decide,func204.trans (congrArg some (by kernel_rfl))⟩
 f21:=⟨f205.name,by decide,func205.trans (congrArg some (by kernel_rfl))⟩
 f22:=⟨f206.name,by decide,func206.trans (congrArg some (by kernel_rfl))⟩
 f23:=⟨f207.name,by decide,func207.trans (congrArg some (by kernel_rfl))⟩
 f24:=⟨f208.name,by decide,func208.trans (congrArg some (by kernel_rfl))⟩
 f25:=⟨f209.name,by decide,func209.trans (congrArg some (by kernel_rfl))⟩
 f26:=⟨f210.name,by decide,func210.trans (congrArg some (by kernel_rfl))⟩
 f27:=⟨f211.name,by decide,func211.trans (congrArg some (by kernel_rfl))⟩
 f28:=func212.trans (congrArg some (by kernel_rfl))
 f29:=func213.trans (congrArg some (by kernel_rfl))
 f46:=⟨f233.name,by decide,func233.trans (congrArg some (by kernel_rfl))⟩
 f47:=func234.trans (congrArg some (by kernel_rfl))
 f48:=func235.trans (congrArg some (by kernel_rfl))
 f49:=⟨f236.name,by decide,func236.trans (congrArg some (by kernel_rfl))⟩
 f50:=⟨f237.name,by decide,func237.trans (congrArg some (by kernel_rfl))⟩
 f57:=⟨f258.name,by decide,func258.trans (congrArg some (by kernel_rfl))⟩
 t0:=underlying0
 a0:=isAgg0
 z0:=sizeOf0
 v0:=zeroValue0
 t3:=underlying3
 a3:=isAgg3
 z3:=sizeOf3
 v3:=zeroValue3
 t4:=underlying4
 a4:=isAgg4
 z4:=sizeOf4
 v4:=zeroValue4
 t5:=underlying5
 a5:=isAgg5
 z5:=sizeOf5
 v5:=zeroValue5
 t9:=underlying9
 a9:=isAgg9
 z9:=sizeOf9
 v9:=zeroValue9
 t22:=underlying32
 a22:=isAgg32
 z22:=sizeOf32
 v22:=zeroValue32
 t25:=underlying208
 a25:=isAgg208
 z25:=sizeOf208
 v25:=zeroValue208
 t39:=underlying226
 a39:=isAgg226
 z39:=sizeOf226
 v39:=zeroValue226
 t45:=underlying301
 a45:=isAgg301
 z45:=sizeOf301
 v45:=zeroValue301
 t46:=underlying302
 a46:=isAgg302
 z46:=sizeOf302
 v46:=zeroValue302
 t50:=underlying306
 a50:=isAgg306
 z50:=sizeOf306
 v50:=zeroValue306
 t53:=underlying199
 a53:=isAgg199
 z53:=sizeOf199
 v53:=zeroValue199
 t55:=underlying225
 a55:=isAgg225
 z55:=sizeOf225
 v55:=zeroValue225
 t66:=underlying335
 a66:=isAgg335
 z66:=sizeOf335
 v66:=zeroValue335
 t70:=underlying299
 a70:=isAgg299
 z70:=sizeOf299
 v70:=zeroValue299
 t76:=underlying356
 a76:=isAgg356
 z76:=sizeOf356
 v76:=zeroValue356
 t77:=underlying357
 a77:=isAgg357
 z77:=sizeOf357
 v77:=zeroValue357 }
end Go.Proofs
namespace Go.Proofs.YtefccfakhgdfbaaGreatDoor
section
open Go.RowKit Go.Sort
variable {w:World} {base:Nat} {t:TypeId} {l:List (ByteArray×ByteArray)}
theorem Z7 {v:Value} (h:w.ownsRow base t 2 v l.length (Zg l)):Jv w v l:=by
 rcases h.2 with ⟨rfl,h0⟩|⟨b,cap,cur,rfl,_,hb,r1,_,_,r4⟩
 ·exact⟨none,0,by rw[h0],by omega,fun j x hj=>by have:=(List.getElem?_eq_some_iff.1 hj).1;omega⟩
 ·refine⟨_,_,rfl,r1,fun j x hj=>⟨b,0,rfl,?_,?_⟩⟩
  ·have h1:=(Qak l j x hj).1
   rw[←r4] at h1;rw[cell_of_row w b _ cur _ _ hb];have h2:=List.getElem?_take_of_lt (l:=cur.toList) (i:=j*2) (j:=l.length*2) (by have:=(List.getElem?_eq_some_iff.1 hj).1;omega);rw[h2] at h1;simpa using h1
  ·have h1:=(Qak l j x hj).2
   rw[←r4] at h1;rw[cell_of_row w b _ cur _ _ hb];have h2:=List.getElem?_take_of_lt (l:=cur.toList) (i:=j*2+1) (j:=l.length*2) (by have:=(List.getElem?_eq_some_iff.1 hj).1;omega);rw[h2] at h1;simpa using h1
theorem Qvd:∀ u∈Zg l,u.oneCell'=true:=by intro u hu;unfold Zg at hu;obtain⟨f,_,hf⟩:=List.mem_flatMap.1 hu;simp[J6] at hf;rcases hf with rfl|rfl <;> rfl
theorem Qnn {b n c:Nat} {xs:List Value} (h:w.ownsRow base t 2 (.slice (some ⟨b,0,none⟩) n c) n xs):∀ j u,xs[j]?=some u→w.cell? ((⟨b,0,none⟩:Addr).add j)=some u:=h.cells (g:=b) rfl
theorem Qr6 (w:World) (a:Option Addr) (n c:Nat):(binOp .eql 32 (.slice a n c) (.slice none 0 0)).run prog w=.ok (.bool a.isNone) w:=Lib.run_eql_slice_nil w _ _ a n c 0 0 underlying32
theorem Qq5 (w:World) (t:TypeId) (size:Nat):(w.alloc (.cells #[] t)).ownsRow w.heap.size t size (.slice (some ⟨w.heap.size,0,none⟩) 0 0) 0 []:=
 ⟨by simp,.inr ⟨w.heap.size,0,#[],rfl,Nat.le_refl _,heap_alloc_new w _,Nat.le_refl _,by decide,by simp,by simp⟩⟩
theorem Qx2 (w:World) (v:Value) (l:List (ByteArray×ByteArray)) (hv:w.ownsRow 0 132 2 v l.length (Zg l)) (hn:l.length≤1099511627776) :
  Calls prog 131 #[v] w fun e w'=>∃ v',e=.returned v'∧w'.ownsRow w.heap.size 132 2 v' l.length (Zg l)∧Below w.heap.size w w':=by
 obtain⟨i,hi,hz,hs,a⟩:=Qji;rcases hv.2 with ⟨rfl,h0⟩|⟨b,cap,cur,rfl,_,hb,_⟩
 ·have hq:=Qr6 w none 0 0
  have hl:l = []:=List.eq_nil_of_length_eq_zero h0;subst hl;clear hv h0
  go_enter func131,ntmps131
  go_wp2;go_ret;exact⟨_,rfl,World.ownsRow_nil _ _ _ _,Below.refl _ _⟩
 ·have hq:=Qr6 w (some ⟨b,0,none⟩) l.length cap
  have HV:=zh hv;have c:=Qc hb;have HI:=zh (⟨hi,hz,hs,a⟩:_∧_∧_∧_);have HN:=zh hn;clear hv hb hi hz hs a hn
  go_enter func131,ntmps131
  go_wp2_with (at_builtin;refine wpList_append_own _ rfl _ _ 32 rfl w.heap.size 132 i _ 2 32 underlying32 HI.o.1 HI.o.2.1 HI.o.2.2.1 HI.o.2.2.2 rfl (by decide) (.slice (some ⟨w.heap.size,0,none⟩) 0 0) 0 [] rfl (Qq5 w 132 2) ⟨b,0,none⟩ l.length cap (Zg l) rfl (Jb l) (Qnn (Ql HV.o (Qa w _))) Qvd (by have:=HN.o;unfold maxLen;omega) (by have:=HN.o;omega) (by simp) ?_;intro v' w' h2 h3 _)
  go_ret;refine⟨v',rfl,by simpa using h2,((Qa w _).grown h3 (by simp) fun k hk=>?_)⟩;simp[Value.ownBlock] at hk;omega
theorem Qxu {a b:List UInt8} (h:Op.bytesLess a b=false) (hne:a≠b):Op.bytesLess b a=true:=by
 rw[bytesLess_eq] at h ⊢;have h1:¬ a<b:=by simpa using h
 have h2:b≤a:=List.not_lt.1 h1;have h3:b<a:=by
  rcases List.le_iff_lt_or_eq.1 h2 with h4|h4
  ·exact h4
  ·exact absurd h4.symm hne
 simpa using h3
theorem Q6y (x y:ByteArray×ByteArray) (W:World):Calls prog 133 #[.agg #[.string x.1,.string x.2],.agg #[.string y.1,.string y.2]] W fun e w'=>e=.returned (.int .i64 (cfF x y))∧∃ q os',w'=grow (W.drewN q) os':=by
 obtain⟨r,hr⟩:∃ r,r=cfF x y:=⟨_,rfl⟩
 have HR:=zh hr;rw[←hr];cases h1:Op.bytesLess x.1.toList y.1.toList with
 | true=>
  have hc:r = -1:=by rw[hr];unfold cfF;rw[h1];rfl
  clear hr;subst hc
  go_enter func133,ntmps133
  go_wp2;go_ret;exact⟨rfl,0,_,by rw[alloc_eq_grow,alloc_eq_grow,grow_grow];rfl⟩
 | false=>
  by_cases he:x.1.toList=y.1.toList
  ·have hc:r=0:=by rw[hr];unfold cfF;rw[←he,if_neg (by rw[he] at h1 ⊢;simp[h1]),if_neg (by rw[he] at h1 ⊢;simp[h1])]
   have hb:(x.1.toList == y.1.toList)=true:=by simp[he]
   clear hr he;subst hc
   go_enter func133,ntmps133
   go_wp2;go_ret;exact⟨rfl,0,_,by rw[alloc_eq_grow,alloc_eq_grow,grow_grow];rfl⟩
  ·have h2:Op.bytesLess y.1.toList x.1.toList=true:=Qxu h1 he
   have hc:r=1:=by rw[hr];unfold cfF;rw[h1,h2];rfl
   have hb:(x.1.toList == y.1.toList)=false:=by rw[beq_eq_false_iff_ne];exact he
   clear hr he h2;subst hc
   go_enter func133,ntmps133
   go_wp2;go_ret;exact⟨rfl,0,_,by rw[alloc_eq_grow,alloc_eq_grow,grow_grow];rfl⟩
theorem Q6p (blk off size:Nat) (w:World):Go.Proofs.CmpLays prog 133 #[] J6 2 cfF blk off size w:=fun _ _ _ _ x y=>Q6y x y _
theorem Quy (a:Option Addr) (c:Nat) (u:Value) (w:World):Calls prog 204 #[.slice a 0 c,.int .i64 0,.int .i64 0,u] w fun e w'=>e=.returned (.tuple #[])∧w=w':=by
 go_enter func204,ntmps204
 go_wp2
 go_loop [8] (fun i=>i=.int .i64 1) (fun _=>0)
 case atStart=>rfl
 case round=>
  subst hrel;go_wp2;go_end0;exact⟨rfl,rfl⟩
theorem Q33 (a:Option Addr) (c:Nat) (k:Int) (u:Value) (w:World):Calls prog 171 #[.slice a 0 c,.int .i64 0,.int .i64 0,.int .i64 k,u] w fun e w'=>e=.returned (.tuple #[])∧w=w':=by
 go_enter func171,ntmps171
 go_wp2;refine wp_loop_rounds 1 ?_;rw[rounds_succ]
 go_wp2_with (go_at_call 204;refine (Quy a c u _).mono ?_;rintro e w' ⟨rfl,rfl⟩)
 (try simp only[Exit.inBlock,Exit.then,Exit.inLoop])
 refine bodyPost_ret (results_none rfl _ _ _) rfl ?_;exact⟨rfl,rfl⟩
theorem Q1v (a:Option Addr) (c:Nat) (u:Value) (w:World):Calls prog 132 #[.slice a 0 c,u] w fun e w'=>e=.returned (.tuple #[])∧w=w':=by
 have b:=fun (w:World)=>bits_Len 0 w (by omega) (by omega)
 go_enter func132,ntmps132
 go_wp2_with (first|(go_at_call 172;refine (b _).mono ?_;rintro e w' ⟨rfl,rfl⟩)|(go_at_call 171;refine (Q33 a c _ u _).mono ?_;rintro e w' ⟨rfl,rfl⟩))
 go_end0;exact⟨rfl,rfl⟩
theorem Q40 (w:World) (base blk n cap:Nat) (l:List (ByteArray×ByteArray)) (h:w.ownsRow base 132 2 (.slice (some ⟨blk,0,none⟩) n cap) n (Zg l)) (hn:n=l.length) (hlt:n<4611686018427387904) :
  Calls prog 132 #[.slice (some ⟨blk,0,none⟩) n cap,.func (.func 133) #[] #[]] w fun e w'=>e=.returned (.tuple #[])∧
   ∃ l':List (ByteArray×ByteArray),l'.Perm l∧w'.ownsRow base 132 2 (.slice (some ⟨blk,0,none⟩) n cap) n (Zg l')∧Fr (·=blk) w w':=by
 rcases h.2 with ⟨e,_⟩|⟨b,cp,cur,e,g,hb,r1,r2,r3,r4⟩
 ·cases e
 ·cases e
  have eg:∀ args w,(callFunc 133 args).run prog w=.ok (.enter 133 args) w:=enters_of func133 (by kernel_rfl) rfl;have a:=Go.Proofs.AnyQ.slices_SortFunc sortFile 2 isAgg132 sizeOf132 J6 (fun _=>rfl) (fun x v hv=>by simp[J6] at hv;rcases hv with rfl|rfl <;> rfl) cfF Q8s 133 #[] blk 0 cap l.toArray w eg (Q6p blk 0 _ w) (Quv hb (by rw[←hn];exact r4)) (Qc hb) (by simpa [←hn] using hlt);have f:l.toArray.size=n:=by simp[hn]
  rw[f] at a;refine Calls.mono a ?_;rintro e w' ⟨rfl,d',m,os,hp,_,rfl⟩;have c:d'.toList.Perm l:=by
   have:=Qtp (d:=l.toArray) (d':=d') (by rw[f];exact hp)
   simpa using this
  refine⟨rfl,d'.toList,c,?_,Q1k _⟩
  have:=Qmz (m:=m) (os:=os) (l':=d'.toList) h hn c.length_eq
  simpa using this
theorem Qxx (w:World) (g:Nat) (v:Value) (d:Dk) (h:Q1 w g v d) (hn:d.files.length≤1099511627776) :
  Calls prog 83 #[.pointer (some ⟨g,0,none⟩)] w fun e w'=>∃ v' l',e=.returned v'∧w'.ownsRow w.heap.size 132 2 v' l'.length (Zg l')∧l'.Perm d.files∧Below w.heap.size w w':=by
 obtain⟨⟨c0,_⟩,_⟩:=h.cells;have HC:=zh (Qx2 w v d.files h.2 hn);clear h
 go_enter func83,ntmps83
 go_wp2_with fail
 go_at_call 131
 refine HC.o.mono ?_;rintro e w1 ⟨v1,rfl,ho,hb⟩;have HB:=zh hb;rcases ho.2 with ⟨rfl,h0⟩|⟨blk,cap,cur,rfl,f,b,_⟩
 ·have hl:d.files = []:=List.eq_nil_of_length_eq_zero h0
  have HL:=zh hl;clear ho hb hl h0
  go_wp2_with (go_at_call 132;refine (Q1v _ _ _ _).mono ?_;rintro e w2 ⟨rfl,rfl⟩)
  go_ret;exact⟨_,[],rfl,World.ownsRow_nil _ _ _ _,by rw[HL.o],HB.o⟩
 ·have HS:=zh (Q40 w1 _ blk _ cap d.files ho rfl (by omega))
  have i:=Qc b;clear ho hb b
  go_wp2_with (go_at_call 132;refine HS.o.mono ?_;rintro e w2 ⟨rfl,l',hp,c,a⟩;have HP:=zh hp;have HO:=zh c;have HF:=zh a;clear hp c a)
  go_ret;exact⟨.slice (some ⟨blk,0,none⟩) d.files.length cap,l',rfl,by have:=HO.o;rw[←HP.o.length_eq] at this ⊢;exact this,HP.o,HB.o.trans (HF.o.below HB.o.size fun k hk e=>by omega)⟩
end
section
theorem Qpe (w:World) (gd:Nat) (files:List Fil) :
  Calls prog 24 #[.pointer (some ⟨gd,0,none⟩)] w fun e w'=>∃ gn,e=.returned (.pointer (some ⟨gn,0,none⟩))∧Y1 w' gn gd (.slice none 0 0) (.slice none 0 0) ⟨files,[],[],0⟩∧Below w.heap.size w w'∧w.heap.size≤gn:=by
 go_enter func24,ntmps24
 go_wp2;exact bodyPost_ret (results_tmp rfl _ _ _) rfl ⟨w.heap.size,rfl,⟨heap_alloc_new w _,World.ownsRow_nil _ _ _ _,World.ownsRow_nil _ _ _ _,rfl,fun k hk=>by simp at hk⟩,Qa w _,Nat.le_refl _⟩
theorem Q8o:(prog.info? 47).map (fun i=>(i.zero,i.size,i.bytes))=some (some (.agg #[.string ⟨#[]⟩,.string ⟨#[]⟩,.bool false,.int .i64 0]),4,48):=by kernel_rfl
theorem Qrr:∃ i,prog.info? 47=some i∧i.zero=some (.agg #[.string ⟨#[]⟩,.string ⟨#[]⟩,.bool false,.int .i64 0])∧i.size=4∧i.bytes=48:=by
 have h:=Q8o;cases hi:prog.info? 47 with
 | none=>rw[hi] at h;simp at h
 | some i=>rw[hi] at h;simp at h;exact⟨i,rfl,h.1,h.2.1,h.2.2⟩
theorem Qx3 {l:List Lie1}:∀ u∈Qar l,u.oneCell'=true:=by intro u hu;unfold Qar at hu;obtain⟨f,_,hf⟩:=List.mem_flatMap.1 hu;simp[Qk1] at hf;rcases hf with rfl|rfl|rfl|rfl <;> rfl
theorem Qev {w:World} {base:Nat} {t:TypeId} {b n c:Nat} {xs:List Value} (h:w.ownsRow base t 4 (.slice (some ⟨b,0,none⟩) n c) n xs):∀ j u,xs[j]?=some u→w.cell? ((⟨b,0,none⟩:Addr).add j)=some u:=h.cells (g:=b) rfl
theorem Q83:(prog.info? 3).map (fun i=>(i.zero,i.size,i.bytes))=some (some (.int .i64 0),1,8):=by kernel_rfl
theorem Qsc:∃ i,prog.info? 3=some i∧i.zero=some (.int .i64 0)∧i.size=1∧i.bytes=8:=by
 have h:=Q83;cases hi:prog.info? 3 with
 | none=>rw[hi] at h;simp at h
 | some i=>rw[hi] at h;simp at h;exact⟨i,rfl,h.1,h.2.1,h.2.2⟩
theorem Q0j (n:Nat):(madeCells (Value.int .i64 0).cells (n*1)).toList=Qgj (List.replicate n 0):=by
 have h:∀ m,List.map (fun x=>[Value.int IntKind.i64 0][x%1]?.getD default) (List.range m)=List.replicate m (Value.int IntKind.i64 0):=fun m=>by rw[List.eq_replicate_iff];refine⟨by simp,fun b hb=>?_⟩;obtain⟨x,_,rfl⟩:=List.mem_map.1 hb;rw[Nat.mod_one];rfl
 simp[madeCells,Qgj,Value.cells,h]
theorem Qra (w:World) (a:Option Addr) (n c:Nat):(binOp .eql 23 (.slice a n c) (.slice none 0 0)).run prog w=.ok (.bool a.isNone) w:=Lib.run_eql_slice_nil w _ _ a n c 0 0 underlying23
theorem Qya (w:World) (v:Value) (l:List Lie1) (hv:w.ownsRow 0 47 4 v l.length (Qar l)) (hn:l.length≤1073741824) :
  Calls prog 84 #[v] w fun e w'=>∃ v',e=.returned v'∧w'.ownsRow w.heap.size 47 4 v' l.length (Qar l)∧Below w.heap.size w w':=by
 obtain⟨i,hi,hz,hs,a⟩:=Qrr;rcases hv.2 with ⟨rfl,h0⟩|⟨b,cap,cur,rfl,_,hb,_⟩
 ·have hq:=Qra w none 0 0
  have hl:l = []:=List.eq_nil_of_length_eq_zero h0;subst hl;clear hv h0
  go_enter func84,ntmps84
  go_wp2;go_ret;exact⟨_,rfl,World.ownsRow_nil _ _ _ _,Below.refl _ _⟩
 ·have hq:=Qra w (some ⟨b,0,none⟩) l.length cap
  have HV:=zh hv;have c:=Qc hb;have HI:=zh (⟨hi,hz,hs,a⟩:_∧_∧_∧_);have HN:=zh hn;clear hv hb hi hz hs a hn
  go_enter func84,ntmps84
  go_wp2_with (at_builtin;refine wpList_append_own _ rfl _ _ 23 rfl w.heap.size 47 i _ 4 48 underlying23 HI.o.1 HI.o.2.1 HI.o.2.2.1 HI.o.2.2.2 rfl (by decide) (.slice (some ⟨w.heap.size,0,none⟩) 0 0) 0 [] rfl (Qq5 w 47 4) ⟨b,0,none⟩ l.length cap (Qar l) rfl (Qyz l) (Qev (Ql HV.o (Qa w _))) Qx3 (by have:=HN.o;unfold maxLen;omega) (by have:=HN.o;omega) (by simp) ?_;intro v' w' h2 h3 _)
  go_ret;refine⟨v',rfl,by simpa using h2,((Qa w _).grown h3 (by simp) fun k hk=>?_)⟩;simp[Value.ownBlock] at hk;omega
theorem Qgr (w:World) (gn gd:Nat) (vl vt v:Value) (n:Nt) (l:List Lie1) (h:Y1 w gn gd vl vt n) (hv:w.ownsRow 0 47 4 v l.length (Qar l)) (hn:l.length≤1073741824) :
  Calls prog 28 #[.pointer (some ⟨gn,0,none⟩),v] w fun e w'=>∃ vl' vt',e=.returned (.tuple #[])∧Y1 w' gn gd vl' vt' { n with lies:=l,told:=List.replicate l.length 0 }∧Fr (netS gn vt) w w'∧Sub w (netS gn vt) (netS gn vt'):=by
 obtain⟨a,c,rfl⟩:∃ a c,v=.slice a l.length c:=Zi hv;obtain⟨ln,f⟩:∃ ln,ln=l.length:=⟨_,rfl⟩
 have HC:=zh (Qya w _ l hv hn);obtain⟨⟨c0,c1,c2,c3⟩,cf⟩:=h.heads;have A:=h.lt;have H:=zh h;have z:ln≤1073741824:=by omega
 rw[←f] at HC ⊢;have s:=zh f;clear h hv f hn
 go_enter func28,ntmps28
 go_upto_region 1 with (first|(go_at_call 84;refine HC.o.mono ?_;rintro e w1 ⟨v1,rfl,g,d⟩;have H1:=zh (H.o.below d);have u:=zh g;have m:=zh d;obtain⟨a1,k1,rfl⟩:=Zi g;obtain⟨⟨e0,e1,e2,e3⟩,ef⟩:=H1.o.heads;have t:=H1.o.lt;clear g d)|fail)
 obtain⟨i,hi,hz,hs,j⟩:=Qsc;have HI:=zh (⟨hi,hz,hs,j⟩:_∧_∧_∧_);clear hi hz hs j;have p:(w1.setCell ⟨gn,1,none⟩ (.slice a1 ln k1)).heap[gn]?=some (.cells (Qnw gd (.slice a1 ln k1) vt n) 126 (0,0)):=(heap_setCell H1.o.cells _).trans (by simp[Qnw]);have y:=zh p;clear p
 go_wp2_with (refine wpList_make_full _ rfl _ _ _ rfl w1.heap.size 3 i _ 1 underlying124 HI.o.1 HI.o.2.1 HI.o.2.2.1 .i64 .i64 ln ln ln rfl rfl rfl rfl (by rw[HI.o.2.2.2];omega) (by unfold maxLen;omega) (by simp) ?_;intro w2 h2 h3;have H2:=zh h2;have b2:=(Below.refl (w1.setCell ⟨gn,1,none⟩ (.slice a1 ln k1)).heap.size _).grown h3 (Nat.le_refl _) (fun k hk=>by cases hk);have B2:=zh b2;have b:=(b2.block gn (by simp;exact t)).trans y.o;have r:=zh b;have y2:=Qd b 2 rfl;have yf:=Qs b 2;have ylt:=Qc b;clear h2 h3 b2 b)
 go_end0;have f1:=Fr.set1 w1 gn 1 (.slice a1 ln k1);have f2:=Fr.set1 w2 gn 2 (.slice (some ⟨w1.heap.size,0,none⟩) ln ln);have x:=Q5 H1.o.cells;have q:=Q5 r.o;have ho:=Zk (Ql (Zk u.o f1 x (by decide)) B2.o) f2 q (by decide);have ht:=Zk H2.o f2 q (by decide);refine⟨.slice a1 ln k1,.slice (some ⟨w1.heap.size,0,none⟩) ln ln,rfl,⟨(heap_setCell r.o _).trans (by simp[Qnw]),?_,?_,?_,?_⟩,?_,?_⟩
 ·rw[←s.o]
  exact Zs ho (Nat.zero_le _)
 ·rw[List.length_replicate,←Q0j]
  have:=Zs ht (Nat.zero_le _)
  simpa using this
 ·rw[List.length_replicate];exact s.o
 ·intro k hk
  rw[List.eq_of_mem_replicate hk];exact Nat.zero_le _
 ·exact ((((Fr.ofBelow m.o).trans (f1.weak fun _ _ e=>.inl e)).trans (Fr.ofBelow B2.o)).trans (f2.weak fun _ _ e=>.inl e))
 ·intro k hk
  rcases hk with e|e
  ·exact .inl (.inl e)
  ·have:w1.heap.size=k:=by simpa [Value.ownBlock] using e
   exact .inr (by have:=m.o.size;omega)
end
section
theorem Qql (es:List (List UInt8)) (k w:Nat):(es.take (4*k))++(es.drop (4*k)).take w=es.take (4*k+w):=by rw[List.take_add]
section
variable {es:List (List UInt8)} {l:List Fil} (hl:es.length≤1048576) (hs:∀ e∈es,e.length≤20) (hT:Qbg es l) (hB:Q0o es l)
include hl hs hT hB
variable {n:Nat}
theorem Qw6 (hn:n≤es.length) (hBn:Q0o (es.take n) l):∀ (m i:Nat),4*(m+i)<n+4→n≤4*(m+i)→Qbx l n m i (es.take (min n (4*i)))=(es.take n,none)
 | 0,i,h1,h2=>by have:=hl;have:=hT;have:=hB;rw[Qbx,Nat.min_eq_left (by omega)]
 | m+1,i,h1,h2=>by
  have a:(es.take n).length=n:=by rw[List.length_take,Nat.min_eq_left hn]
  have b:∀ e∈es.take n,e.length≤20:=fun e he=>hs e (List.mem_of_mem_take he)
  have hg:=hBn i (by rw[a];omega)
  rw[a] at hg
  have hb:=Qni b (l:=l) (j:=i) (w:=min 4 (n-4*i)) (by omega) (by omega) (by rw[a];omega) hg
  rw[Qbx,hb]
  dsimp only
  have e:es.take (min n (4*i))++((es.take n).drop (4*i)).take (min 4 (n-4*i))=es.take (min n (4*(i+1))):=by
   rw[Nat.min_eq_right (show 4*i≤n by omega)]
   rw[show es.take (4*i)=(es.take n).take (4*i) by rw[List.take_take,Nat.min_eq_left (by omega)],Qql,List.take_take]
   congr 1
   omega
  rw[e]
  exact Qw6 hn hBn m (i+1) (by omega) (by omega)
variable {k:Nat}
theorem Q6r {W:Nat} (hk:k≤es.length) (h1:1≤W) (h4:W≤4) (h:es.length<4*(k / 4)+W):getF l (Yp (k / 4) W)=none:=by
 have:=hs;have:=hB
 rw[Qdi];intro f hf e;rcases hT f hf with h2|h2
 ·exact Qel _ _ _ (Qcu (e.symm.trans h2))
 ·rw[e] at h2
  obtain⟨m,j,w,r,k1,k2,k3,k4,k5,_⟩:=h2;have c:=Ql1 hl k1 k2 k3 k4;have a:Jl (-1) ((k / 4:Nat):Int) W:=by unfold Jl;omega
  have e2:=Qde a c.1 (by omega) c.2 (Qcu k5);obtain rfl:m=0:=by omega
  rw[Qcb] at k1;cases k1;rw[List.length_map] at k4;omega
theorem Qfs (hk:k≤es.length) {w0:Nat} (h0:k%4≤w0) (hb:es.length<4*(k / 4)+(w0+1)):∀ (x:Nat),w0+x≤4→Z0 l (es.take k) (w0+x)=Z0 l (es.take k) w0
 | 0,_=>rfl
 | x+1,h=>by
  have a:(es.take k).length=k:=by rw[List.length_take,Nat.min_eq_left hk]
  rw[show w0+(x+1)=w0+x+1 by omega,Z0,a,if_neg (by omega),Q6r hl hs hT hB hk (by omega) (by omega) (by omega),if_pos (show (none:Option ByteArray).isNone=true from rfl)]
  exact Qfs hk h0 hb x (by omega)
theorem Qvl:Zo l es=([],false):=by
 have h:=Qfs hl hs hT hB (Nat.le_refl es.length) (w0:=es.length%4) (Nat.le_refl _) (by omega) (4-es.length%4) (by omega);rw[List.take_length,show es.length%4+(4-es.length%4)=4 by omega] at h;unfold Zo;rw[h];cases hm:es.length%4 with
 | zero=>rfl
 | succ x=>rw[Z0,if_pos (by omega)]
theorem Qsk (hk:k<es.length):Zo l (es.take k)=(((es.drop (4*(k / 4))).take (min 4 (es.length-4*(k / 4)))).drop (k%4),decide (min 4 (es.length-4*(k / 4))=4)):=by
 have a:(es.take k).length=k:=by rw[List.length_take,Nat.min_eq_left (by omega)]
 obtain⟨w,hw⟩:∃ w,w+1=min 4 (es.length-4*(k / 4)):=⟨min 4 (es.length-4*(k / 4))-1,by omega⟩
 have hg:=hB (k / 4) (by omega);rw[←hw] at hg ⊢;have hd:Zo l (es.take k)=Z0 l (es.take k) (w+1):=by
  unfold Zo;rcases Nat.lt_or_ge (w+1) 4 with h4|h4
  ·have h:=Qfs hl hs hT hB (Nat.le_of_lt hk) (w0:=w+1) (by omega) (by omega) (4-(w+1)) (by omega)
   rw[show w+1+(4-(w+1))=4 by omega] at h;exact h
  ·rw[show w+1=4 by omega]
 have hb:=Qni hs (l:=l) (j:=k / 4) (w:=w+1) (by omega) (by omega) (by omega) hg;rw[hd,Z0,a,if_neg (by omega),hg,if_neg (by simp),hb];dsimp only;rw[if_pos];rw[List.take_take,List.drop_take,Nat.min_eq_left (by omega)]
 congr 1
 omega
theorem Qwz:∀ (x k:Nat),k+x=es.length→Goes l (es.take k) es
 | x,k,h=>by
  rcases Nat.lt_or_ge k es.length with hk|hk
  ·have hf:=Qsk hl hs hT hB hk
   have e:es.take k++(((es.drop (4*(k / 4))).take (min 4 (es.length-4*(k / 4)))).drop (k%4))=es.take (min (4*(k / 4)+4) es.length):=by
    have e1:es.take k=es.take (4*(k / 4))++(es.drop (4*(k / 4))).take (k%4):=by rw[Qql];congr 1;omega
    have e2:(es.drop (4*(k / 4))).take (k%4)=((es.drop (4*(k / 4))).take (min 4 (es.length-4*(k / 4)))).take (k%4):=by rw[List.take_take,Nat.min_eq_left (by omega)]
    rw[e1,e2,List.append_assoc,List.take_append_drop,Qql]
    congr 1
    omega
   by_cases h4:min 4 (es.length-4*(k / 4))=4
   ·refine .more (by rw[hf];simp[h4]) ?_
    rw[hf]
    dsimp only
    rw[e,show min (4*(k / 4)+4) es.length=4*(k / 4)+4 by omega]
    exact Qwz (es.length-(4*(k / 4)+4)) (4*(k / 4)+4) (by omega)
   ·have h2:Goes l (es.take k) (es.take k++(Zo l (es.take k)).1):=.stop (by rw[hf];simp[h4])
    rw[hf] at h2
    dsimp only at h2
    rw[e,show min (4*(k / 4)+4) es.length=es.length by omega,List.take_length] at h2
    exact h2
  ·obtain rfl:k=es.length:=by omega
   rw[List.take_length]
   have hf:=Qvl hl hs hT hB
   have h2:Goes l es (es++(Zo l es).1):=.stop (by rw[hf])
   rw[hf,List.append_nil] at h2
   exact h2
termination_by x=>x
decreasing_by omega
variable {key:ByteArray}
theorem Q04 (hn:n≤es.length) (hBn:Q0o (es.take n) l) (hc:Yt l key=some (n,rootOf (es.take n))):Yh l key (.good es n):=by
 refine .fine hc ?_ rfl (Qwz hl hs hT hB (es.length-n) n (by omega))
 have:=Qw6 hl hs hT hB hn hBn ((n+3) / 4) 0 (by omega) (by omega)
 rw[Nat.mul_zero,Nat.min_zero,List.take_zero] at this;exact this
end
variable {key:ByteArray}
theorem Q1e {l:List Fil} (h:getF l (sOf kCp)=none):Yt l key=some (0,rootOf []):=by unfold Yt;rw[h];rfl
end
section
structure Qa2 (d:Dk):Prop where
 failAt:d.failAt=0
 dead:d.dead=false
 hit:d.hit=false
variable {d:Dk}
theorem Qa2.noHit (h:Qa2 d):Y2 d=false:=by unfold Y2;rw[h.failAt];simp
theorem Qa2.enter (h:Qa2 d):Qa2 (Zj d):=by unfold Zj;rw[h.noHit];exact⟨h.failAt,h.dead,h.hit⟩
theorem Qa2.swap (h:Qa2 d) (p b:ByteArray):Qa2 (Qb6 d p b):=by
 have:=h.enter
 unfold Qb6
 split
 ·exact⟨this.failAt,this.dead,this.hit⟩
 ·exact this
theorem Qa2.put (h:Qa2 d) (p b:ByteArray):Qa2 (putD d p b):=by
 have:=h.enter
 unfold putD
 split
 ·exact⟨this.failAt,this.dead,this.hit⟩
 ·exact h.swap p b
theorem Qa2.puts:∀ (fs:List Fil) {d:Dk},Qa2 d→Qa2 (putsD d fs).1
 | [],_,h=>h
 | f :: fs,d,h=>by
  unfold putsD
  split
  ·exact h.put _ _
  ·exact Qa2.puts fs (h.put _ _)
theorem Qa2.pubJ:∀ (rs:List (List (List UInt8))) (n:Nat) (put:List Nat) {d:Dk},Qa2 d→Qa2 (pubJ n rs put d).1
 | [],_,_,_,h=>h
 | r :: rs,n,put,d,h=>by
  unfold Proofs.YtefccfakhgdfbaaGreatDoor.pubJ
  dsimp only
  split
  ·exact Qa2.puts _ h
  ·exact Qa2.pubJ rs (n+1) _ (Qa2.puts _ h)
theorem Qa2.pub (h:Qa2 d) (es:List (List UInt8)) (key:ByteArray) (put:List Nat):Qa2 (pubD es key put d).1:=by
 unfold pubD
 split
 ·exact Qa2.pubJ _ _ _ h
 ·exact (Qa2.pubJ _ _ _ h).swap _ _
structure Qi3 (es:List (List UInt8)) (put:List Nat) (d:Dk):Prop where
 fresh:Qjn d
 true':Qbg es d.files
 puts:Qhs d.files (Zd es) put
variable {es:List (List UInt8)} {put:List Nat}
theorem Qi3.append (h:Qi3 es put d) (e:List UInt8):Qi3 (es ++ [e]) put d:=⟨h.fresh,h.true'.more _,Qo9 e h.puts⟩
theorem Qh9 (key:ByteArray) (hl:es.length≤1048576) (hq:Qa2 d) (h:Qi3 es put d) :
  (pubD es key put d).2.2=none∧Qa2 (pubD es key put d).1∧Qi3 es (pubD es key put d).2.1 (pubD es key put d).1∧Qam es es.length (pubD es key put d).1.files∧getF (pubD es key put d).1.files (sOf kCp)=some (cpOf es key)∧
   (∀ N,Qam es N d.files→Qam es N (pubD es key put d).1.files)∧(pubD es key put d).1.files.length≤d.files.length+12*(es.length+3)+1∧(pubD es key put d).1.calls≤d.calls+12*(es.length+3)+1:=by
 obtain⟨h1,h2,h3,h4,h5,h6,h7⟩:=Qhx key hl h.fresh (h.true'.noClash hl) h.puts;have hQ:=hq.pub es key put;rcases h7 with ⟨k1,k2,k3,k4,k5⟩|⟨p,k1,k2,_⟩
 ·refine⟨k1,hQ,⟨k2,fun f hf=>?_,k3⟩,?_,k5,fun N hN=>hN.kept h1,h5,h6⟩
  ·rcases h4 f hf with h8|h8|h8
   ·exact h.true' f h8
   ·exact .inr (Qfk h8)
   ·left;rw[h8]
  ·unfold Qam
   rw[List.take_length];exact k4
 ·have:=hQ.hit
  rw[k2] at this;cases this
theorem Q2q (d:Dk) (hf:d.files = []) (hd:d.dead=false) (hh:d.hit=false) (ht:d.turned=false):Qi3 [] [] d:=
 ⟨⟨hd,hh,ht,by rw[hf];exact List.nodup_nil⟩,by rw[hf];exact Qbg.nil _,Qta _ _⟩
end
section
theorem Qaj (l:List Fil) (p:ByteArray):(Jc l p = -1∧getF l p=none)∨∃ (k:Nat) (b:ByteArray),k<l.length∧Jc l p=(k:Int)∧l[k]?=some (p,b)∧getF l p=some b:=by
 by_cases h:Ya l p<l.length
 ·refine .inr ⟨Ya l p,(l[Ya l p]'h).2,h,by unfold Jc;rw[if_pos h],?_,Qiz h⟩
  have h2:(l[Ya l p]'h).1=p:=by
   have:=List.findIdx_getElem (w:=h)
   exact of_decide_eq_true this
  rw[List.getElem?_eq_getElem h];exact congrArg some (Prod.ext h2 rfl)
 ·exact .inl ⟨by unfold Jc;rw[if_neg h],Qdv h⟩
variable {l l' W:List Fil} {c:ByteArray} {f:Fil}
theorem Q4g (h:Qsf l l' W c) (ho:Once l) (hf:f∈l):∃ b,getF l' f.1=some b∧(b=f.2∨(f.1=sOf kCp∧b=c)):=by
 have hg:=Qk5 ho hf;rcases h f.1 with e|⟨e,_⟩|⟨e,e2⟩
 ·exact⟨f.2,e.trans hg,.inl rfl⟩
 ·rw[hg] at e;cases e
 ·exact⟨c,e2,.inr ⟨e,rfl⟩⟩
theorem Q4c (h:Qsf l l' W c) (ho:Once l') (hW:Qvh W) (hf:f∈l'):getF l f.1≠none∨getF W f.1=some f.2∨(f.1=sOf kCp∧f.2=c):=by
 have hg:=Qk5 ho hf;rcases h f.1 with e|⟨_,b,e1,e2⟩|⟨e,e2⟩
 ·exact .inl (by rw[←e,hg];simp)
 ·rw[hg] at e2
  cases e2;refine .inr (.inl ?_);cases hx:getF W f.1 with
  | none=>exact absurd rfl (Qdi.1 hx _ e1)
  | some b=>rw[hW _ _ _ e1 (Qai hx)]
 ·rw[hg] at e2
  cases e2;exact .inr (.inr ⟨e,rfl⟩)
theorem Q5m {k k':List Fil} (h:Qsf l l' W c) (e:getF k=getF l) (e':getF k'=getF l'):Qsf k k' W c:=fun p=>by
 rw[e,e']
 exact h p
end
section
structure Wm where
 key:ByteArray
 d:Dk
 l:Option Lg
 es:List ByteArray
 pub:Int
 failed:Bool
 foreign:Bool
structure Good (m:Wm) (U:List Nat) (K:Nat):Prop where
 sane:Sane m.d U K
 run:∀ L,m.l=some L→Runs m.d L.entries L.put m.failed U∧Qea (Zd L.entries) L.put∧L.entries=lists m.es∧L.levels=levels L.entries∧L.failed=m.failed∧L.key=m.key
variable {m:Wm} {U:List Nat} {K K':Nat}
theorem Good.more (h:Good m U K) (x:Nat) (hK:K≤K'):Good m (x :: U) K':=
 ⟨h.sane.grow x hK,fun L hL=>⟨(h.run L hL).1.more x,(h.run L hL).2⟩⟩
theorem Good.bound (h:Good m U K) (hK:K≤K'):Good m U K':=⟨h.sane.more hK,h.run⟩
variable {d':Dk} {k:Nat}
theorem Qqc {d:Dk} (h:Hurt k (Qif d) d'):False:=by
 have:=h.why
 simp[Qif] at this
theorem Q2k {n:Nat} {ss:List ByteArray} (h:Good m U K) (hU:U.length<1048576) (c:Calm k (Qif m.d) d') (ho:Yh m.d.files m.key (.good (lists ss) n)) (fo:Bool) :
  Good ⟨m.key,d',some ⟨m.key,lists ss,levels (lists ss),[],false⟩,ss,n,false,fo⟩ U (K+k):=by
 have hs:Sane d' U (K+k):=h.sane.mend.calm c;refine⟨hs,fun L hL=>?_⟩;cases hL;have hf:d'.files=m.d.files:=c.files;exact⟨Q11 hs c.dead c.hit hU (by rw[hf];exact ho),⟨Nat.zero_le _,fun a b r ha=>by simp at ha⟩,rfl,rfl,rfl,rfl⟩
theorem Q24 (h:Good m U K) (c:Calm k (Qif m.d) d') (fo:Bool):Good ⟨m.key,d',none,m.es,m.pub,false,fo⟩ U (K+k):=
 ⟨h.sane.mend.calm c,fun L hL=>by cases hL⟩
variable {L:Lg}
theorem Qt2 {s:ByteArray} (h:Good m U K) (hL:m.l=some L) (hf:m.failed=false) (hs:s.size≤20) :
  Good { m with l:=some { L with entries:=L.entries ++ [s.data.toList],levels:=levels (L.entries ++ [s.data.toList]) },es:=m.es ++ [s] } (L.entries.length / 4 :: U) K:=by
 obtain⟨h1,h2,h3,h4,h5,h6⟩:=h.run L hL;refine⟨h.sane.grow _ (Nat.le_refl _),fun L2 hL2=>?_⟩;cases hL2;rw[hf] at h1;have hr:=Qvj s.data.toList h1 (by simpa using hs);refine⟨by show Runs m.d _ _ m.failed _;rw[hf];exact hr,(hr.live rfl).2.mark,?_,rfl,h5,h6⟩;show L.entries ++ [s.data.toList]=lists (m.es ++ [s]);rw[h3];simp[lists]
theorem Qrt (R:List (List (List UInt8))):∀ (k n:Nat) (put:List Nat) (d:Dk),k+n=R.length→Qea R put→Qea R (pubJ n (R.drop n) put d).2.1
 | 0,n,put,d,hn,h=>by
   rw[List.drop_of_length_le (by omega)]
   exact h
 | k+1,n,put,d,hn,h=>by
   have a:n<R.length:=by omega
   rw[List.drop_eq_getElem_cons a,pubJ]
   have hr:R[n]?=some R[n]:=List.getElem?_eq_getElem a
   have hx:=h.next hr (Qmr ((n:Int)-1) R[n] ((put++List.replicate (n+1-put.length) 0).getD n 0 / 4) d)
   split
   ·exact hx
   ·exact Qrt R k (n+1) _ _ (by omega) hx
theorem Q17 {es:List (List UInt8)} {put:List Nat} (key:ByteArray) (d:Dk) (h:Qea (Zd es) put):Qea (Zd es) (pubD es key put d).2.1:=by
 have:=Qrt (Zd es) (Zd es).length 0 put d (by omega) h
 rw[List.drop_zero] at this;unfold pubD
 split <;> exact this
theorem Qq6 (h:Good m U K) (hU:U.length≤16384) (hL:m.l=some L) (hf:m.failed=false) (hn:Qba (Yv L.entries) m.d.files) (pub:Int) (fo:Bool) :
  Good ⟨m.key,(pubD L.entries L.key L.put m.d).1,some { L with put:=(pubD L.entries L.key L.put m.d).2.1,failed:=(pubD L.entries L.key L.put m.d).2.2.isSome },m.es,pub,(pubD L.entries L.key L.put m.d).2.2.isSome,fo⟩ U (K+1048576):=by
 obtain⟨h1,h2,h3,h4,h5,h6⟩:=h.run L hL;rw[hf] at h1;obtain⟨r1,r2⟩:=Qtf L.key h.sane h1 hU hn;refine⟨r1,fun L2 hL2=>?_⟩;cases hL2;exact⟨r2,Q17 _ _ h2,h3,h4,rfl,h6⟩
def Q90 (m:Wm) (U:List Nat) (K:Nat):Prop:=m.foreign=true∨(m.foreign=false∧Good m U K)
abbrev Q0z (m:Wm) (L:Lg) (s:ByteArray):Wm:={ m with l:=some { L with entries:=L.entries ++ [s.data.toList],levels:=levels (L.entries ++ [s.data.toList]) },es:=m.es ++ [s] }
abbrev pubW (m:Wm) (L:Lg):Wm:=⟨m.key,(pubD L.entries L.key L.put m.d).1,some { L with put:=(pubD L.entries L.key L.put m.d).2.1,failed:=(pubD L.entries L.key L.put m.d).2.2.isSome },m.es,m.es.length,m.failed,false⟩
def AppQ (m:Wm) (L:Lg) (s:ByteArray) (m':Wm):Prop:=(20<s.size∧m'=m)∨(L.failed=true∧m'=m)∨(s.size≤20∧m'=Q0z m L s)
def PubQ (m:Wm) (L:Lg) (m':Wm):Prop:=Qba (Yv L.entries) m.d.files→(pubD L.entries L.key L.put m.d).2.2=none→m'=pubW m L
def Q7h (m m':Wm):Prop:=∃ d' k,Calm k (Qif m.d) d'∧((∃ ss n,Yh m.d.files m.key (.good (lists ss) n)∧m'=⟨m.key,d',some ⟨m.key,lists ss,levels (lists ss),[],false⟩,ss,n,false,m.foreign⟩)∨((∃ kn q,Yh m.d.files m.key (.bad kn q))∧m'=⟨m.key,d',none,m.es,m.pub,false,m.foreign⟩))
end
section
structure RdW0 (m:Wm) (L:Lg):Prop where
 log:m.l=some L
 live:L.failed=false
 failed:m.failed=false
 foreign:m.foreign=false
 ents:L.entries=lists m.es
 key:L.key=m.key
 quiet:Qa2 m.d
 sound:Qi3 (lists m.es) L.put m.d
 short:∀ e∈lists m.es,e.length≤20
structure RdW (m:Wm) (L:Lg) (P:Nat):Prop extends RdW0 m L where
 pub:m.pub=P
 le:P≤(lists m.es).length
 has:Qam (lists m.es) P m.d.files
 cp:(P=0∧getF m.d.files (sOf kCp)=none)∨getF m.d.files (sOf kCp)=some (cpOf ((lists m.es).take P) m.key)
theorem Qdd (es:List ByteArray) (s:ByteArray):lists (es ++ [s])=lists es ++ [s.data.toList]:=by simp[lists]
theorem Q9 (es:List ByteArray):(lists es).length=es.length:=by simp[lists]
variable {m:Wm} {L:Lg} {s:ByteArray}
theorem Q29 (h:RdW0 m L) (hs:s.size≤20):RdW0 (Q0z m L s) { L with entries:=L.entries ++ [s.data.toList],levels:=levels (L.entries ++ [s.data.toList]) } where
 log:=rfl
 live:=h.live
 failed:=h.failed
 foreign:=h.foreign
 ents:=by show L.entries++_=_;rw[Qdd,h.ents]
 key:=h.key
 quiet:=h.quiet
 sound:=by show Qi3 (lists (m.es ++ [s])) _ _;rw[Qdd];exact h.sound.append _
 short e he:=by
  have a:e∈lists (m.es ++ [s]):=he
  rw[Qdd,List.mem_append] at a
  rcases a with he|he
  ·exact h.short e he
  ·rw[List.mem_singleton.1 he];simpa using hs
theorem Q5r {P:Nat} (h:RdW m L P) (hs:s.size≤20):RdW (Q0z m L s) { L with entries:=L.entries ++ [s.data.toList],levels:=levels (L.entries ++ [s.data.toList]) } P where
 toRdW0:=Q29 h.toRdW0 hs
 pub:=h.pub
 le:=by show P≤(lists (m.es ++ [s])).length;rw[Qdd,List.length_append];have:=h.le;omega
 has:=by show Qam (lists (m.es ++ [s])) _ _;rw[Qdd];exact h.has.more h.le _
 cp:=by
  show (P=0∧getF m.d.files (sOf kCp)=none)∨getF m.d.files (sOf kCp)=some (cpOf ((lists (m.es ++ [s])).take P) m.key)
  rw[Qdd,List.take_append_of_le_length h.le]
  exact h.cp
section
variable {m:Wm} {L:Lg} (h:RdW0 m L) (hl:m.es.length≤1048576)
include h hl
theorem Q8i:RdW (pubW m L) { L with put:=(pubD L.entries L.key L.put m.d).2.1,failed:=(pubD L.entries L.key L.put m.d).2.2.isSome } m.es.length:=by
 have hq:=Qh9 (es:=lists m.es) L.key (by rw[Q9];exact hl) h.quiet h.sound;rw[←h.ents] at hq;obtain⟨q1,q2,q3,q4,q5,q6,q7,q8⟩:=hq;have a:lists m.es=L.entries:=h.ents.symm;have b:L.entries.length=m.es.length:=by rw[h.ents,Q9]
 refine⟨⟨rfl,by show Option.isSome _=false;rw[q1];rfl,h.failed,rfl,h.ents,h.key,q2,?_,h.short⟩,rfl,?_,?_,.inr ?_⟩
 ·show Qi3 (lists m.es) _ _
  rw[a];exact q3
 ·show m.es.length≤(lists m.es).length
  rw[Q9];exact Nat.le_refl _
 ·show Qam (lists m.es) _ _
  rw[a,←b];exact q4
 ·show getF (pubD L.entries L.key L.put m.d).1.files (sOf kCp)=some (cpOf ((lists m.es).take m.es.length) m.key)
  rw[a,←b,List.take_length,←h.key];exact q5
theorem Qu2:Qba (Yv L.entries) m.d.files:=by rw[h.ents];exact h.sound.true'.noClash (by rw[Q9];exact hl)
theorem Q49:(pubD L.entries L.key L.put m.d).2.2=none∧(pubD L.entries L.key L.put m.d).1.files.length≤m.d.files.length+12*(m.es.length+3)+1:=by
 have hq:=Qh9 (es:=lists m.es) L.key (by rw[Q9];exact hl) h.quiet h.sound;rw[←h.ents] at hq;refine⟨hq.1,?_⟩
 have:=hq.2.2.2.2.2.2.1
 rw[h.ents,Q9] at this;rw[h.ents];exact this
end
section
variable {m:Wm} {L:Lg} {P:Nat} (h:RdW m L P) (hl:m.es.length≤1048576)
include h hl
theorem Q6c {n:Nt} (hn:n.files=m.d.files) (h0:n.lies = []):Qh1 (lists m.es) n:=
 Qpr (by rw[Q9];exact hl) h.short (by rw[hn];exact h.sound.true') h0
end
theorem Q7z (key:ByteArray) (hL:m.l=some L) (hk:m.key=key) (hlk:L.key=key) (he:m.es = []) (hle:L.entries = []) (hlp:L.put = []) (hlf:L.failed=false) (hf:m.failed=false) (hfo:m.foreign=false) (hp:m.pub=0)
  (hq:Qa2 m.d) (ht:m.d.turned=false) (hd:m.d.files = []):RdW m L 0 where
 toRdW0:=⟨hL,hlf,hf,hfo,by rw[hle,he];rfl,hlk.trans hk.symm,hq,by rw[he,hlp];exact Q2q m.d hd hq.dead hq.hit ht,fun e he'=>by rw[he] at he';simp[lists] at he'⟩
 pub:=hp
 le:=Nat.zero_le _
 has:=Qam.zero _ _
 cp:=.inl ⟨rfl,by rw[hd];rfl⟩
end
section
variable {c:Cl} {n:Nt}
theorem Qze {i:Int} (hN:c.size≤8192):(Qcx c n i).2.2.2.fetches≤n.fetches+440000∧(Qcx c n i).2.2.1.cache.items.length≤c.cache.items.length+220000:=by
 unfold Qcx;by_cases hi:i<0∨(c.size:Int)≤i
 ·rw[if_pos hi]
  exact⟨Nat.le_add_right _ _,Nat.le_add_right _ _⟩
 ·rw[if_neg hi]
  have hc:=Qmi c.size i.toNat (askQ n c.cache);have ht:=Qho (N:=c.size) (i:=i.toNat) hN (by omega);have h1:=hc.files;have h2:=hc.fetches;have h3:=hc.items;have e1:(askQ n c.cache).files.length=0:=rfl;have e2:(askQ n c.cache).net.fetches=n.fetches:=rfl;have e3:(askQ n c.cache).cache.items.length=c.cache.items.length:=rfl;rcases hq:Qfq c.size i.toNat (askQ n c.cache) with ⟨r|r,s⟩
  ·rw[hq] at h1 h2 h3
   cases r <;> exact⟨by dsimp only at h2 ⊢;omega,by dsimp only at h3 ⊢;omega⟩
  ·rw[hq] at h1 h2 h3
   have h4:=Qfx s.files s.cache;dsimp only at h1 h2 h3 ⊢
   split
   ·exact⟨by dsimp only;omega,by dsimp only;omega⟩
   ·exact⟨by dsimp only;omega,by dsimp only;omega⟩
theorem Qr2:(Y0 c n).2.2.2.fetches≤n.fetches+20000∧(Y0 c n).2.2.1.cache.items.length≤c.cache.items.length+8192:=by
 have e0:(Zy n (sOf kCp)).fetches=n.fetches+1:=(Yj n (sOf kCp)).2.2;unfold Y0;cases hf:Q6 n (sOf kCp) with
 | none=>exact⟨by dsimp only;omega,by dsimp only;omega⟩
 | some data=>
  dsimp only;have hs:=Js data c.key.data.toList
  split
  ·exact⟨by dsimp only;omega,by dsimp only;omega⟩
  ·rename_i hok
   obtain⟨p1,p2,_⟩:=hs.1 (by simpa using hok)
   split
   ·exact⟨by dsimp only;omega,by dsimp only;omega⟩
   ·split
    ·split <;> exact⟨by dsimp only;omega,by dsimp only;omega⟩
    ·split
     ·exact⟨by dsimp only;omega,by dsimp only;omega⟩
     ·obtain⟨N,hN⟩:∃ N,N=(Zw data c.key.data.toList).1.toNat:=⟨_,rfl⟩
      rw[←hN];have hc:=Qda N (Yb N 0 N c.size).reverse (askQ (Zy n (sOf kCp)) c.cache);have ht:=Qgy (N:=N) (m:=c.size) (by omega) (by omega) (by omega);have h1:=hc.files;have h2:=hc.fetches;have h3:=hc.items;have e1:(askQ (Zy n (sOf kCp)) c.cache).files.length=0:=rfl;have e2:(askQ (Zy n (sOf kCp)) c.cache).net.fetches=n.fetches+1:=e0;have e3:(askQ (Zy n (sOf kCp)) c.cache).cache.items.length=c.cache.items.length:=rfl;unfold Qc0;rcases hq:Zf N (Yb N 0 N c.size).reverse (askQ (Zy n (sOf kCp)) c.cache) with ⟨r|r,s⟩
      ·rw[hq] at h1 h2 h3
       cases r <;> exact⟨by dsimp only at h2 ⊢;omega,by dsimp only at h3 ⊢;omega⟩
      ·rw[hq] at h1 h2 h3
       have h4:=Qfx s.files s.cache;dsimp only at h1 h2 h3 ⊢
       split
       ·exact⟨by dsimp only;omega,by dsimp only;omega⟩
       ·exact⟨by dsimp only;omega,by dsimp only;omega⟩
end
section
theorem Qii (w:World) (a:Option Addr) (n c:Nat):(binOp .neq 147 (.slice a n c) (.slice none 0 0)).run prog w=.ok (.bool (!a.isNone)) w:=run_neq_slice_nil_any w _ _ a n c 0 0 underlying147
def unbW (s:ByteArray) (k:Nat):Option (List (List UInt8)):=(Qr s.data.toList).bind fun e=>if e.length=k then some e else none
section
variable (w:World) (g gd:Nat) (v ve vl vp:Value) (vs:List Value) (d:Dk) (L:Lg) (h:Zq w g gd ve vl vp vs L) (hD:Q1 w gd v d) (p:ByteArray) (k:Nat) (hc:d.calls<1099511627776)
include h hD hc
theorem Q3i (hk:0<Zv d):Calls prog 202 #[.pointer (some ⟨g,0,none⟩),.string p,.int .i64 k] w fun e w'=>
  ∃ q n r,e=.returned (.tuple #[.slice none 0 0,.bool false,.iface 219 (.pointer (some ⟨r,0,none⟩))])∧w.heap.size≤q∧w.heap.size≤r∧w'.heap[q]?=some (.cells #[.int .i64 n] 398 (0,0))∧
   w'.heap[r]?=some (.cells #[.string p,.iface 218 (.pointer (some ⟨q,0,none⟩))] 221 (0,0))∧Q1 w' gd v (Zj d)∧Fr (·=gd) w w':=by
 obtain⟨⟨c0,_⟩,f0⟩:=h.heads;have i:=Q1i (p:=p) hD hc hk;clear h hD
 go_enter func202,ntmps202
 go_wp2_with (first
  | (go_at_call 299;refine i.mono ?_;rintro e w2 ⟨q,n,rfl,hq,hh,b,a⟩;have hn:=Qax w2 218 (.pointer (some ⟨q,0,none⟩));have HD:=zh b;have HF:=zh a;have HH:=zh hh;clear b a hh)
  | (go_at_call 160;refine (Qot _ _ _ _).mono ?_;rintro e w3 ⟨u,rfl,⟨r,rfl,hr,f⟩,c⟩;have HR:=zh f;have HB:=zh c;clear f c))
 go_returns
 exact⟨_,_,_,rfl,hq,Nat.le_trans HF.o.size hr,(HB.o.block _ (Qc HH.o)).trans HH.o,HR.o,HD.o.below HB.o,HF.o.trans (Fr.ofBelow HB.o)⟩
theorem Qxa (hk:Zv d=0) (hg:getF d.files p=none):Calls prog 202 #[.pointer (some ⟨g,0,none⟩),.string p,.int .i64 k] w fun e w'=>
  e=.returned (.tuple #[.slice none 0 0,.bool false,.nilIface])∧Q1 w' gd v (Zj d)∧Fr (·=gd) w w':=by
 obtain⟨⟨c0,_⟩,f0⟩:=h.heads;have f:=Qw9 (p:=p) hD hc hk hg;clear h hD hg
 go_enter func202,ntmps202
 go_wp2_with (first
  | (go_at_call 299;refine f.mono ?_;rintro e w2 ⟨rfl,b,c⟩;have hn:=Y3 w2;have HD:=zh b;have HF:=zh c;clear b c)
  | (go_at_call 148;refine (Qp8 (data:=[]) ⟨none,0,rfl,Nat.le_refl _,fun j x hx=>by simp at hx⟩ (by simp) Qnz).mono ?_;rintro e w3 ⟨rfl,a⟩;have hq:=Qii w3 none 0 0;have HB:=zh a;clear a))
 go_returns
 exact⟨rfl,HD.o.below HB.o,HF.o.trans (Fr.ofBelow HB.o)⟩
variable {s:ByteArray}
theorem Q3c (hk:Zv d=0) (hg:getF d.files p=some s) (hs:s.size≤1048576) (hu:unbW s k=none):Calls prog 202 #[.pointer (some ⟨g,0,none⟩),.string p,.int .i64 k] w fun e w'=>
  e=.returned (.tuple #[.slice none 0 0,.bool true,.nilIface])∧Q1 w' gd v (Zj d)∧Fr (·=gd) w w':=by
 obtain⟨⟨c0,_⟩,f0⟩:=h.heads;have j:=Qvc (p:=p) hD hc hk hg;clear h hD hg;cases hb:Qr s.data.toList with
 | none=>
  have HU:=zh hb;clear hb hu
  go_enter func202,ntmps202
  go_wp2_with (first
   | (go_at_call 299;refine j.mono ?_;rintro e w2 ⟨b,c,rfl,ho,f,a⟩;have hn:=Y3 w2;have HO:=zh ho.at;have HD:=zh f;have HF:=zh a;clear f a ho)
   | (go_at_call 148;refine (Qp8 HO.o (by simpa using Nat.le_trans hs (by decide)) HU.o).mono ?_;rintro e w3 ⟨rfl,i⟩;have hq:=Qii w3 (some ⟨b,0,none⟩) s.size c;have HB:=zh i;clear i))
  go_returns
  exact⟨rfl,HD.o.below HB.o,HF.o.trans (Fr.ofBelow HB.o)⟩
 | some ls=>
  have l:ls.length≠k:=by intro e;unfold unbW at hu;rw[hb,Option.bind_some,if_pos e] at hu;cases hu
  have m:((ls.length:Int) != (k:Int))=true:=by simp;omega
  have HU:=zh hb;clear hb hu l
  go_enter func202,ntmps202
  go_wp2_with (first
   | (go_at_call 299;refine j.mono ?_;rintro e w2 ⟨b,c,rfl,ho,f,a⟩;have hn:=Y3 w2;have HO:=zh ho.at;have HD:=zh f;have HF:=zh a;clear f a ho)
   | (go_at_call 148;refine (Qpx HO.o (by simpa using Nat.le_trans hs (by decide)) HU.o).mono ?_;rintro e w3 ⟨b3,c3,rfl,_,i⟩;have hq:=Qii w3 (some ⟨b,0,none⟩) s.size c;have HB:=zh i;clear i))
  go_returns
  exact⟨rfl,HD.o.below HB.o,HF.o.trans (Fr.ofBelow HB.o)⟩
theorem Qwv {ls:List (List UInt8)} (hk:Zv d=0) (hg:getF d.files p=some s) (hs:s.size≤1048576) (hu:unbW s k=some ls):Calls prog 202 #[.pointer (some ⟨g,0,none⟩),.string p,.int .i64 k] w fun e w'=>
  ∃ b c,e=.returned (.tuple #[.slice (some ⟨b,0,none⟩) ls.length c,.bool true,.nilIface])∧Ja w' w.heap.size (.slice (some ⟨b,0,none⟩) ls.length c) ls∧Q1 w' gd v (Zj d)∧Fr (·=gd) w w':=by
 obtain⟨⟨c0,_⟩,f0⟩:=h.heads;have l:=Qvc (p:=p) hD hc hk hg;clear h hD hg;obtain⟨hb,hl⟩:Qr s.data.toList=some ls∧ls.length=k:=by
  unfold unbW at hu;cases hb:Qr s.data.toList with
  | none=>rw[hb] at hu;cases hu
  | some ls'=>
   rw[hb,Option.bind_some] at hu
   split at hu
   ·rename_i e;cases hu;exact⟨rfl,e⟩
   ·cases hu
 have n:((ls.length:Int) != (k:Int))=false:=by simp;omega
 have HU:=zh hb;clear hb hu hl
 go_enter func202,ntmps202
 go_wp2_with (first
  | (go_at_call 299;refine l.mono ?_;rintro e w2 ⟨b,c,rfl,ho,i,f⟩;have hn:=Y3 w2;have HO:=zh ho.at;have HD:=zh i;have HF:=zh f;clear i f ho)
  | (go_at_call 148;refine (Qpx HO.o (by simpa using Nat.le_trans hs (by decide)) HU.o).mono ?_;rintro e w3 ⟨b3,c3,rfl,a,j⟩;have hq:=Qii w3 (some ⟨b,0,none⟩) s.size c;have m:=zh a;have HB:=zh j;clear j a))
 go_returns
 refine⟨_,_,rfl,?_,HD.o.below HB.o,HF.o.trans (Fr.ofBelow HB.o)⟩;exact m.o.mono HF.o.size
end
end
end Go.Proofs.YtefccfakhgdfbaaGreatDoor
