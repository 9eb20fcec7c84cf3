/- The walks of tilesref.Name and tilesref.Parse. -/
import Derived.Test.YtefccfakhgdfbabGreatDoorRd02
import Derived.Laws.CopyOwn
import Derived.Great.BuildSlice
set_option linter.unusedVariables false
set_option linter.unusedSimpArgs false
open Go.RowKit Go.Proofs.Tryz
set_option maxRecDepth 100000
set_option maxHeartbeats 4000000
namespace Go.Proofs.YtefccfakhgdfbabGreatDoor
section
variable {n:Nat}
theorem Qay (h:n≤1048576):nLev n≤11:=by
 rcases Nat.lt_or_ge 11 (nLev n) with h1|h1
 ·have:=(Qac n 11).1 h1
  have e:4 ^ 11=4194304:=rfl;omega
 ·exact h1
theorem Jv (es:List (List UInt8)):(Zc es).length=nLev es.length+1:=by simp[Zc,levels]
theorem Qbb (es:List (List UInt8)):(Zc es)[0]?=some (es.map encE):=rfl
theorem Qdg (es:List (List UInt8)) (k:Nat) (h:k<nLev es.length):(Zc es)[k+1]?=some ((Zy es k).map fun (x:Hsh)=>x.toList):=by unfold Zc levels;rw[List.getElem?_cons_succ,List.getElem?_map,List.getElem?_map,List.getElem?_range h];rfl
variable {es r:List (List UInt8)} {m:Nat}
theorem Qd5 (h:(Zc es)[m]?=some r):(m=0∧r=es.map encE)∨∃ k,m=k+1∧k<nLev es.length∧r=(Zy es k).map fun (x:Hsh)=>x.toList:=by
 cases m with
 | zero=>rw[Qbb] at h;cases h;exact .inl ⟨rfl,rfl⟩
 | succ k=>
  have hk:k<nLev es.length:=by
   have:=(List.getElem?_eq_some_iff.1 h).1
   rw[Jv] at this;omega
  rw[Qdg es k hk] at h;cases h;exact .inr ⟨k,rfl,hk,rfl⟩
theorem Qal (h:r∈Zc es):r.length≤es.length:=by
 obtain⟨m,hm⟩:=List.mem_iff_getElem?.1 h;rcases Qd5 hm with ⟨_,rfl⟩|⟨k,_,_,rfl⟩
 ·simp
 ·rw[List.length_map,Jz]
  exact Nat.div_le_self _ _
theorem Qct (h:es.length≤1048576):Q37 (-1) (Zc es):=by
 have:=Qay h
 refine⟨by omega,by rw[Jv];omega,fun r hr=>by have:=Qal hr;omega⟩
theorem Qoy (h:es.length≤1048576):Qtq (Yu es):=fun _ _ _ ha hb=>Qyn (Qct h) ha hb
def cpOf (es:List (List UInt8)) (key:ByteArray):ByteArray:=sOf (J5 es.length (rootOf es) key.data.toList)
def pubD (es:List (List UInt8)) (key:ByteArray) (put:List Nat) (d:Dk):Dk×List Nat×Option ByteArray:=
 match (pubJ 0 (Zc es) put d).2.2 with
 | some p=>((pubJ 0 (Zc es) put d).1,(pubJ 0 (Zc es) put d).2.1,some p)
 | none=>(Qb2 (pubJ 0 (Zc es) put d).1 (sOf kCp) (cpOf es key),(pubJ 0 (Zc es) put d).2.1,if 0<Zr (pubJ 0 (Zc es) put d).1 then some (sOf kCp) else none)
def Qsp (l l' W:List Fil) (c:ByteArray):Prop:=∀ p,getF l' p=getF l p∨(getF l p=none∧∃ b,(p,b)∈W∧getF l' p=some b)∨(p=sOf kCp∧getF l' p=some c)
theorem Q4w (R:List (List (List UInt8))) (k:Nat) (h:∀ r∈R,r.length≤k):Qpn R≤R.length*(k+3):=by
 induction R with
 | nil=>simp[Qpn]
 | cons a R ih=>
  have h1:=ih fun r hr=>h r (List.mem_cons_of_mem _ hr)
  have h2:=h a List.mem_cons_self;have e:Qpn (a :: R)=(a.length+3) / 4+Qpn R:=rfl;rw[e,List.length_cons,Nat.add_mul];omega
theorem Q00 (h:es.length≤1048576):Qpn (Zc es)≤12*(es.length+3):=by
 refine Nat.le_trans (Q4w _ es.length fun r hr=>Qal hr) (Nat.mul_le_mul_right _ ?_);rw[Jv]
 have:=Qay h
 omega
variable {put:List Nat}
theorem Qht (key:ByteArray) {d:Dk} (hl:es.length≤1048576) (hd:Qje d) (hn:Qa0 (Yu es) d.files) (hp:Qho d.files (Zc es) put) :
  Qsp d.files (pubD es key put d).1.files (Yu es) (cpOf es key)∧Once (pubD es key put d).1.files∧(pubD es key put d).1.turned=false∧
  (∀ f∈(pubD es key put d).1.files,f∈d.files∨f∈Yu es∨f=(sOf kCp,cpOf es key))∧(pubD es key put d).1.files.length≤d.files.length+12*(es.length+3)+1∧(pubD es key put d).1.calls≤d.calls+12*(es.length+3)+1∧
  (((pubD es key put d).2.2=none∧Qje (pubD es key put d).1∧Qho (pubD es key put d).1.files (Zc es) (pubD es key put d).2.1∧(∀ f∈Yu es,getF (pubD es key put d).1.files f.1=some f.2)∧getF (pubD es key put d).1.files (sOf kCp)=some (cpOf es key))∨
     (∃ p,(pubD es key put d).2.2=some p∧(pubD es key put d).1.hit=true∧((∃ b,(p,b)∈Yu es)∨p=sOf kCp))):=by
 have ho:=Qoy hl;have hr:=Q00 hl;have h:=Q5s ho (Zc es) (Zc es).length 0 put d (by omega) (fun f hf=>hf) hd hn hp;rw[List.drop_zero] at h;unfold pubD;generalize pubJ 0 (Zc es) put d=q at h ⊢;obtain⟨h1,h2⟩:=h;have hkeep:∀ p,getF q.1.files p=getF d.files p∨(getF d.files p=none∧∃ b,(p,b)∈Yu es∧getF q.1.files p=some b):=h1.ext;rcases h2 with ⟨e1,e2,e3,e4⟩|⟨p,b,e1,e2,e3⟩
 ·rw[e1]
  simp only[];obtain⟨s1,s2,s3,s4⟩:=Qly q.1 (sOf kCp) (cpOf es key);have s5:=Qev q.1 (sOf kCp) (cpOf es key);have hget:∀ p,getF (Qb2 q.1 (sOf kCp) (cpOf es key)).files p=getF q.1.files p∨(p=sOf kCp∧getF (Qb2 q.1 (sOf kCp) (cpOf es key)).files p=some (cpOf es key)):=by
   intro p;rw[s5]
   split
   ·rw[Qgn]
    split
    ·rename_i h;exact .inr ⟨h,rfl⟩
    ·exact .inl rfl
   ·exact .inl rfl
  refine⟨fun p=>?_,?_,?_,?_,?_,?_,?_⟩
  ·rcases hget p with h3|h3
   ·rw[h3]
    rcases hkeep p with h4|h4
    ·exact .inl h4
    ·exact .inr (.inl h4)
   ·exact .inr (.inr h3)
  ·rw[s5]
   split
   ·exact Qib h1.once _ _
   ·exact h1.once
  ·rw[s3]
   rcases Nat.eq_zero_or_pos (Zr q.1) with h|h
   ·exact (Qgq e2 h).2.2
   ·exact (Qic e2 h).2
  ·intro f hf
   rw[s5] at hf
   split at hf
   ·rcases Qzt hf with h3|h3
    ·rcases h1.mem f h3 with h4|h4
     ·exact .inl h4
     ·exact .inr (.inl h4)
    ·exact .inr (.inr h3)
   ·rcases h1.mem f hf with h4|h4
    ·exact .inl h4
    ·exact .inr (.inl h4)
  ·have:=h1.len
   rw[s5]
   split
   ·have:=(Qk3 q.1.files (sOf kCp) (cpOf es key)).2;omega
   ·omega
  ·have:=h1.calls;omega
  ·rcases Nat.eq_zero_or_pos (Zr q.1) with h|h
   ·left
    obtain⟨t1,t2,t3⟩:=Qgq e2 h;have hfl:(Qb2 q.1 (sOf kCp) (cpOf es key)).files=putF q.1.files (sOf kCp) (cpOf es key):=by rw[s5,if_pos (by omega)]
    have hcp:∀ f∈Yu es,f.1≠sOf kCp:=fun f hf=>Q1h hf
    refine⟨if_neg (by omega),⟨by rw[s2,t2],by rw[s1,t1],by rw[s3,t3],by rw[hfl];exact Qib h1.once _ _⟩,⟨e3.1,fun m a r ha hr=>?_⟩,fun f hf=>?_,by rw[hfl,Qgn,if_pos rfl]⟩
    ·obtain⟨k1,k2,k3⟩:=e3.2 m a r ha hr
     refine⟨k1,k2,fun j hj=>?_⟩;rw[hfl,Qgn,if_neg]
     ·exact k3 j hj
     ·exact fun e=>Qer _ _ _ (Qcw e)
    ·rw[hfl,Qgn,if_neg (hcp f hf)]
     exact e4 f hf
   ·right
    exact⟨sOf kCp,if_pos h,by rw[s1];exact (Qic e2 h).1,.inr rfl⟩
 ·rw[e1]
  simp only[];refine⟨fun p=>?_,h1.once,h1.turned,fun f hf=>?_,by have:=h1.len;omega,by have:=h1.calls;omega,.inr ⟨p,rfl,e3,.inl ⟨b,e2⟩⟩⟩
  ·rcases hkeep p with h4|h4
   ·exact .inl h4
   ·exact .inr (.inl h4)
  ·rcases h1.mem f hf with h4|h4
   ·exact .inl h4
   ·exact .inr (.inl h4)
theorem Qti (t:Int) (r s:List (List UInt8)) (j:Nat) (h:4*j+4≤r.length):Ye t (r++s) j=Ye t r j:=by
 unfold Ye;have e:min 4 ((r++s).length-4*j)=min 4 (r.length-4*j):=by rw[List.length_append];omega
 rw[e,List.drop_append_of_le_length (by omega),List.take_append_of_le_length (by rw[List.length_drop];omega)]
theorem Qmz (es:List (List UInt8)) (e:List UInt8) (k:Nat):∃ s,Zy (es ++ [e]) k=Zy es k++s:=by
 have hp:0<4 ^ k:=Nat.pow_pos (by decide);by_cases h:(es.length+1) / 4 ^ k=es.length / 4 ^ k
 ·exact⟨[],by rw[Qin es e k h,List.append_nil]⟩
 ·refine⟨_,Qe9 es e k (es.length / 4 ^ k) rfl ?_⟩
  rw[Nat.succ_div] at h ⊢
  split
  ·rfl
  ·rename_i hd
   rw[if_neg hd] at h;exact absurd rfl h
theorem Qsa (n:Nat):nLev n≤nLev (n+1):=by
 rcases Nat.lt_or_ge (nLev (n+1)) (nLev n) with h|h
 ·have a:=(Qac n _).1 h
  have b:=(Qac (n+1) (nLev (n+1))).2 (by omega);omega
 ·exact h
theorem Qmt (e:List UInt8) (h:(Zc (es ++ [e]))[m]?=some r) (hm:m<(Zc es).length):∃ r0 s,(Zc es)[m]?=some r0∧r=r0++s:=by
 rw[Jv] at hm;rcases Qd5 h with ⟨rfl,rfl⟩|⟨k,rfl,hk,rfl⟩
 ·exact⟨_,[encE e],Qbb es,by simp⟩
 ·obtain⟨s,hs⟩:=Qmz es e k
  exact⟨_,s.map fun (x:Hsh)=>x.toList,Qdg es k (by omega),by rw[hs,List.map_append]⟩
variable {l:List Fil}
theorem Qoq (e:List UInt8) (h:Qho l (Zc es) put):Qho l (Zc (es ++ [e])) put:=by
 refine⟨?_,fun m a r ha hr=>?_⟩
 ·have:=h.1
  rw[Jv] at this ⊢
  have:=Qsa es.length
  simp only[List.length_append,List.length_cons,List.length_nil,Nat.zero_add] at *;omega
 ·have hm:=(List.getElem?_eq_some_iff.1 ha).1
  obtain⟨r0,s,h0,rfl⟩:=Qmt e hr (by have:=h.1;omega);obtain⟨k1,k2,k3⟩:=h.2 m a r0 ha h0;refine⟨k1,by rw[List.length_append];omega,fun j hj=>?_⟩;rw[Qti _ _ _ _ (by omega)];exact k3 j hj
theorem Qrv (l:List Fil) (es:List (List UInt8)):Qho l (Zc es) []:=⟨by simp,fun m a r ha=>by simp at ha⟩
def Qdw (R:List (List (List UInt8))) (put:List Nat):Prop:=put.length≤R.length∧∀ (m a:Nat) (r:List (List UInt8)),put[m]?=some a→R[m]?=some r→a%4=0∧a≤r.length
variable {R:List (List (List UInt8))}
theorem Qho.mark (h:Qho l R put):Qdw R put:=⟨h.1,fun m a r h1 h2=>⟨(h.2 m a r h1 h2).1,(h.2 m a r h1 h2).2.1⟩⟩
theorem Qdw.next (h:Qdw R put) {x:Nat} (hr:R[n]?=some r) (hx:x%4=0∧x≤r.length):Qdw R ((put++List.replicate (n+1-put.length) 0).set n x):=by
 have hn:=(List.getElem?_eq_some_iff.1 hr).1;refine⟨by simp;have:=h.1;omega,fun m a q ha hq=>?_⟩;rw[List.getElem?_set] at ha
 split at ha
 ·rename_i hnm
  subst hnm
  split at ha
  ·cases ha;rw[hr] at hq;cases hq;exact hx
  ·cases ha
 ·rcases Nat.lt_or_ge m put.length with hm|hm
  ·rw[List.getElem?_append_left hm] at ha
   exact h.2 m a q ha hq
  ·rw[List.getElem?_append_right hm,List.getElem?_replicate] at ha
   split at ha
   ·cases ha;exact⟨rfl,by omega⟩
   ·cases ha
theorem Qlp (t:Int) (row:List (List UInt8)) (j:Nat) (d:Dk):(J1 t row j d).2.1%4=0∧(J1 t row j d).2.1≤row.length:=by unfold J1;simp only[];omega
theorem Qzd (hr:R[n]?=some r) (put:List Nat) (d:Dk) {p1:List Nat} {q:Dk×Nat×Option ByteArray} (hp:p1=put++List.replicate (n+1-put.length) 0) (hq:q=J1 ((n:Int)-1) r (p1.getD n 0 / 4) d) :
  pubJ n (R.drop n) put d=match q.2.2 with|some p=>(q.1,p1.set n q.2.1,some p)|none=>pubJ (n+1) (R.drop (n+1)) (p1.set n q.2.1) q.1:=by
 obtain⟨hlt,he⟩:=List.getElem?_eq_some_iff.1 hr;rw[List.drop_eq_getElem_cons hlt,he];simp only[pubJ];rw[←hp,←hq] <;> cases q.2.2 <;> rfl
theorem Q3p (h:R.length≤n) (put:List Nat) (d:Dk):pubJ n (R.drop n) put d=(d,put,none):=by rw[List.drop_eq_nil_of_le h];rfl
end
section
def Ym (i w:Nat):ByteArray:=sOf (Y6 (-1) i w)
def Z8 (l:List Fil) (i w:Nat):Option (List (List UInt8)):=(getF l (Ym i w)).bind fun b=>(Qx b.data.toList).bind fun e=>if e.length=w then some e else none
variable {l:List Fil} {i w:Nat}
theorem Qf2 (h:getF l (Ym i w)=none):Z8 l i w=none:=by unfold Z8;rw[h];rfl
variable {b:ByteArray}
theorem Qml (h:getF l (Ym i w)=some b) (hb:Qx b.data.toList=none):Z8 l i w=none:=by unfold Z8;rw[h,Option.bind_some,hb];rfl
variable {e:List (List UInt8)}
theorem Qjg (h:getF l (Ym i w)=some b) (hb:Qx b.data.toList=some e):Z8 l i w=if e.length=w then some e else none:=by unfold Z8;rw[h,Option.bind_some,hb];rfl
theorem Qag {b:List UInt8} (h:Qx b=some e):0<e.length∧e.length≤4∧∀ x∈e,x.length≤20:=by
 unfold Qx at h;cases hr:rawU b with
 | none=>rw[hr] at h;simp at h
 | some ls=>
  rw[hr,Option.bind_some] at h
  split at h
  ·rename_i hs
   cases h;unfold Yj at hs
   split at hs
   ·simp at hs
   ·rename_i h0
    split at hs
    ·rename_i ha
     refine⟨by omega,by omega,fun x hx=>?_⟩;exact of_decide_eq_true (List.all_eq_true.1 ha x hx)
    ·simp at hs
  ·cases h
theorem Qaj (h:Z8 l i w=some e):e.length=w∧0<w∧w≤4∧(∀ x∈e,x.length≤20)∧∃ b,getF l (Ym i w)=some b:=by
 cases hg:getF l (Ym i w) with
 | none=>rw[Qf2 hg] at h;cases h
 | some b=>
  cases hb:Qx b.data.toList with
  | none=>rw[Qml hg hb] at h;cases h
  | some e'=>
   rw[Qjg hg hb] at h
   split at h
   ·rename_i hw
    cases h;obtain⟨h1,h2,h3⟩:=Qag hb;exact⟨hw,by omega,by omega,h3,b,rfl⟩
   ·cases h
def Qb0 (l:List Fil) (n:Nat):Nat→Nat→List (List UInt8)→List (List UInt8)×Option Nat
 | 0,_,d=>(d,none)
 | m+1,i,d=>match Z8 l i (min 4 (n-4*i)) with
  | none=>(d,some i)
  | some e=>Qb0 l n m (i+1) (d++e)
def Zw (l:List Fil) (d:List (List UInt8)):Nat→List (List UInt8)×Bool
 | 0=>([],false)
 | w+1=>if w+1≤d.length%4 then ([],false) else
   if (getF l (Ym (d.length / 4) (w+1))).isNone then Zw l d w else
   match Z8 l (d.length / 4) (w+1) with
   | none=>([],false)
   | some e=>if e.take (d.length%4)=d.drop (4*(d.length / 4)) then (e.drop (d.length%4),decide (w+1=4)) else ([],false)
def Zk (l:List Fil) (d:List (List UInt8)):List (List UInt8)×Bool:=Zw l d 4
inductive Goes (l:List Fil):List (List UInt8)→List (List UInt8)→Prop where
 | stop {d:List (List UInt8)}:(Zk l d).2=false→Goes l d (d++(Zk l d).1)
 | more {d r:List (List UInt8)}:(Zk l d).2=true→Goes l (d++(Zk l d).1) r→Goes l d r
variable {d:List (List UInt8)}
theorem Goes.one {a b:List (List UInt8)} (h:Goes l d a) (k:Goes l d b):a=b:=by
 induction h with
 | stop h1=>
  cases k with
  | stop=>rfl
  | more k1 _=>rw[h1] at k1;cases k1
 | more h1 _ ih=>
  cases k with
  | stop k1=>rw[h1] at k1;cases k1
  | more _ k2=>exact ih k2
def Yr (l:List Fil) (key:ByteArray):Option (Nat×Hsh):=match getF l (sOf kCp) with
 | none=>some (0,hash [])
 | some b=>if (Yc b.data.toList key.data.toList).2.2=true then some ((Yc b.data.toList key.data.toList).1.toNat,(Yc b.data.toList key.data.toList).2.1) else none
inductive Opn where
 | bad (k:Nat) (p:ByteArray)
 | good (es:List (List UInt8)) (n:Nat)
inductive Yf (l:List Fil) (key:ByteArray):Opn→Prop where
 | checkpoint:Yr l key=none→Yf l key (.bad 3 ⟨#[]⟩)
 | tile {n:Nat} {root:Hsh} {d:List (List UInt8)} {i:Nat}:Yr l key=some (n,root)→Qb0 l n ((n+3) / 4) 0 []=(d,some i)→Yf l key (.bad 6 (Ym i (min 4 (n-4*i))))
 | proof {n:Nat} {root:Hsh} {d:List (List UInt8)}:Yr l key=some (n,root)→Qb0 l n ((n+3) / 4) 0 []=(d,none)→rootOf d≠root→Yf l key (.bad 5 ⟨#[]⟩)
 | fine {n:Nat} {root:Hsh} {d r:List (List UInt8)}:Yr l key=some (n,root)→Qb0 l n ((n+3) / 4) 0 []=(d,none)→rootOf d=root→Goes l d r→Yf l key (.good r n)
variable {key:ByteArray}
theorem Yf.one {a b:Opn} (h:Yf l key a) (k:Yf l key b):a=b:=by
 cases h with
 | checkpoint h1=>
  cases k with
  | checkpoint=>rfl
  | tile k1=>rw[h1] at k1;cases k1
  | proof k1=>rw[h1] at k1;cases k1
  | fine k1=>rw[h1] at k1;cases k1
 | tile h1 h2=>
  cases k with
  | checkpoint k1=>rw[h1] at k1;cases k1
  | tile k1 k2=>rw[h1] at k1;cases k1;rw[h2] at k2;cases k2;rfl
  | proof k1 k2=>rw[h1] at k1;cases k1;rw[h2] at k2;cases k2
  | fine k1 k2=>rw[h1] at k1;cases k1;rw[h2] at k2;cases k2
 | proof h1 h2 h3=>
  cases k with
  | checkpoint k1=>rw[h1] at k1;cases k1
  | tile k1 k2=>rw[h1] at k1;cases k1;rw[h2] at k2;cases k2
  | proof k1 k2=>rfl
  | fine k1 k2 k3=>rw[h1] at k1;cases k1;rw[h2] at k2;cases k2;exact absurd k3 h3
 | fine h1 h2 h3 h4=>
  cases k with
  | checkpoint k1=>rw[h1] at k1;cases k1
  | tile k1 k2=>rw[h1] at k1;cases k1;rw[h2] at k2;cases k2
  | proof k1 k2 k3=>rw[h1] at k1;cases k1;rw[h2] at k2;cases k2;exact absurd h3 k3
  | fine k1 k2 k3 k4=>rw[h1] at k1;cases k1;rw[h2] at k2;cases k2;rw[h4.one k4]
def Has (l:List Fil) (i:Nat):Prop:=∃ w,1≤w∧w≤4∧∃ b,getF l (Ym i w)=some b
def FewB (l:List Fil) (N:Nat):Prop:=∀ m,(∀ i,i<m→Has l i)→m≤N
theorem pigeon:∀ (U:List Nat) (m:Nat),(∀ i,i<m→i∈U)→m≤U.length:=by
 intro U m
 induction m generalizing U with
 | zero=>intro _;omega
 | succ m ih=>
  intro h;have hm:=h m (by omega)
  have:=ih (U.erase m) fun i hi=>by rw[List.mem_erase_of_ne (by omega)];exact h i (by omega)
  rw[List.length_erase_of_mem hm] at this
  have:=List.length_pos_of_mem hm
  omega
theorem Q59 {U:List Nat} (h:∀ i,i<9223372036854775808→Has l i→i∈U) (hU:U.length<9223372036854775808):FewB l U.length:=by
 intro m hm;rcases Nat.lt_or_ge m 9223372036854775808 with h1|h1
 ·exact pigeon U m fun i hi=>h i (by omega) (hm i hi)
 ·have:=pigeon U 9223372036854775808 fun i hi=>h i hi (hm i (by omega))
  omega
structure Qa1 (l:List Fil) (d:List (List UInt8)):Prop where
 short:∀ e∈d,e.length≤20
 has:∀ i,4*i<d.length→Has l i
theorem Qa1.few {N:Nat} (h:Qa1 l d) (hN:FewB l N):d.length≤4*N:=by
 have:=hN ((d.length+3) / 4) fun i hi=>h.has i (by omega)
 omega
theorem Qa1.nil (l:List Fil):Qa1 l []:=⟨fun _ h=>by simp at h,fun i h=>by simp at h⟩
theorem Qa1.step (h:Qa1 l d) (hd:d.length=4*i) (hb:Z8 l i w=some e):Qa1 l (d++e):=by
 obtain⟨h1,h2,h3,h4,b,h5⟩:=Qaj hb;refine⟨fun x hx=>?_,fun j hj=>?_⟩
 ·rcases List.mem_append.1 hx with hx|hx
  ·exact h.short x hx
  ·exact h4 x hx
 ·rw[List.length_append] at hj
  rcases Nat.lt_or_ge j i with hji|hji
  ·exact h.has j (by omega)
  ·exact⟨w,h2,h3,b,by rw[show j=i by omega];exact h5⟩
theorem Qa1.further (h:Qa1 l d):∀ w,w≤4→Qa1 l (d++(Zw l d w).1)∧((Zw l d w).2=true→(d++(Zw l d w).1).length=4*(d.length / 4+1))
 | 0,_=>by simp only[Zw,List.append_nil];exact⟨h,fun h=>by cases h⟩
 | w+1,hw=>by
   rw[Zw]
   split
   ·rw[List.append_nil];exact⟨h,fun h=>by cases h⟩
   ·rename_i h0
    split
    ·exact h.further w (by omega)
    ·cases hb:Z8 l (d.length / 4) (w+1) with
     | none=>simp only[List.append_nil];exact⟨h,fun h=>by cases h⟩
     | some e=>
      simp only[]
      split
      ·rename_i he
       obtain⟨h1,h2,h3,h4,b,h5⟩:=Qaj hb
       refine⟨⟨fun x hx=>?_,fun j hj=>?_⟩,fun ht=>?_⟩
       ·rcases List.mem_append.1 hx with hx|hx
        ·exact h.short x hx
        ·exact h4 x (List.mem_of_mem_drop hx)
       ·rw[List.length_append,List.length_drop] at hj
        rcases Nat.lt_or_ge j (d.length / 4) with hji|hji
        ·exact h.has j (by omega)
        ·exact⟨w+1,h2,h3,b,by rw[show j=d.length / 4 by omega];exact h5⟩
       ·have:=of_decide_eq_true ht
        rw[List.length_append,List.length_drop]
        omega
      ·rw[List.append_nil];exact⟨h,fun h=>by cases h⟩
theorem Qa1.goes {r:List (List UInt8)} (h:Qa1 l d) (hg:Goes l d r):Qa1 l r:=by
 induction hg with
 | stop _=>exact (h.further 4 (by omega)).1
 | more _ _ ih=>exact ih (h.further 4 (by omega)).1
variable {n:Nat}
theorem Qa1.load:∀ (m i:Nat) (d:List (List UInt8)),Qa1 l d→d.length=min n (4*i)→4*(m+i)<n+4→Qa1 l (Qb0 l n m i d).1
 | 0,_,d,h,_,_=>h
 | m+1,i,d,h,hd,hm=>by
   rw[Qb0]
   cases hb:Z8 l i (min 4 (n-4*i)) with
   | none=>exact h
   | some e=>
    obtain⟨h1,h2,h3,h4,b,h5⟩:=Qaj hb
    exact Qa1.load m (i+1) (d++e) (h.step (by omega) hb) (by rw[List.length_append];omega) (by omega)
theorem Yf.taken {es:List (List UInt8)} (h:Yf l key (.good es n)):Qa1 l es:=by
 cases h with
 | fine h1 h2 h3 h4=>
  have:=Qa1.load (l:=l) (n:=n) ((n+3) / 4) 0 [] (Qa1.nil l) (by simp) (by omega)
  rw[h2] at this;exact this.goes h4
end
section
theorem Qxm (m n:Nat) (whole:Option Hsh):roots m n whole []=if m=n then whole.map fun a=>(a,a) else none:=by simp[roots,Qmf]
theorem Qex (m n:Nat) (whole:Option Hsh) (q:List Hsh) (r:Hsh):roots m n whole (q ++ [r])=if m=n then (match whole with|some _=>none|none=>if q = [] then some (r,r) else none)
   else if m≤below n then (roots m (below n) whole q).map fun x=>(x.1,Z0 x.2 r) else (roots (m-below n) (n-below n) none q).map fun x=>(Z0 r x.1,Z0 r x.2):=by
 unfold roots below;rw[List.reverse_append];simp only[List.reverse_cons,List.reverse_nil,List.nil_append,List.singleton_append,Qmf];cases whole <;> simp
theorem Qsg (m:Nat) (a:Hsh) (p:List Hsh):roots m m (some a) p=if p.length=0 then some (a,a) else none:=by
 rcases List.eq_nil_or_concat p with rfl|⟨q,r,rfl⟩
 ·simp[Qxm]
 ·rw[List.concat_eq_append] at *
  rw[Qex,if_pos rfl];simp
theorem Qwy (m:Nat) (r:Hsh):roots m m none [r]=some (r,r):=by
 have:=Qex m m none [] r
 simpa using this
end
section
def Qky:Nat→List (List UInt8)→Nat→List Hsh
 | 0,_,_=>[]
 | f+1,l,i=>if l.length≤1 then [] else if i<below l.length then Qky f (l.take (below l.length)) i ++ [rootOf (l.drop (below l.length))]
   else Qky f (l.drop (below l.length)) (i-below l.length) ++ [rootOf (l.take (below l.length))]
def J4 (l:List (List UInt8)) (i:Nat):List Hsh:=Qky l.length l i
def Qnw:Nat→Nat→List (List UInt8)→Bool→List Hsh
 | 0,_,_,_=>[]
 | f+1,m,l,whole=>if m=l.length then (if whole then [] else [rootOf l]) else if m≤below l.length then Qnw f m (l.take (below l.length)) whole ++ [rootOf (l.drop (below l.length))]
   else Qnw f (m-below l.length) (l.drop (below l.length)) false ++ [rootOf (l.take (below l.length))]
def Qam (m:Nat) (l:List (List UInt8)) (whole:Bool):List Hsh:=Qnw l.length m l whole
theorem Qgx:∀ (f g:Nat) (l:List (List UInt8)) (i:Nat),l.length≤f→l.length≤g→Qky f l i=Qky g l i
 | 0,0,_,_,_,_=>rfl
 | 0,g+1,l,i,h,_=>by
  have:l.length=0:=by omega
  simp[Qky,this]
 | f+1,0,l,i,_,h=>by
  have:l.length=0:=by omega
  simp[Qky,this]
 | f+1,g+1,l,i,h1,h2=>by
  simp only[Qky]
  split
  ·rfl
  ·have hb:=Yl (n:=l.length) (by omega)
   rw[Qgx f g _ i (by simp;omega) (by simp;omega),Qgx f g (l.drop _) _ (by simp;omega) (by simp;omega)]
theorem Qgt:∀ (f g m:Nat) (l:List (List UInt8)) (b:Bool),1≤m→m≤l.length→l.length≤f→l.length≤g→Qnw f m l b=Qnw g m l b
 | 0,_,_,l,_,h0,_,h,_=>by omega
 | f+1,0,_,l,_,h0,_,_,h=>by omega
 | f+1,g+1,m,l,b,h0,hm,h1,h2=>by
  simp only[Qnw]
  split
  ·rfl
  ·have hb:=Yl (n:=l.length) (by omega)
   split
   ·rw[Qgt f g m _ b h0 (by simp;omega) (by simp;omega) (by simp;omega)]
   ·rw[Qgt f g _ (l.drop _) _ (by omega) (by simp;omega) (by simp;omega) (by simp;omega)]
theorem Qmb:∀ (f:Nat) (l:List (List UInt8)) (i:Nat),(Qky f l i).length≤f
 | 0,_,_=>Nat.le_refl _
 | f+1,l,i=>by
  simp only[Qky]
  split
  ·simp
  ·split
   ·have:=Qmb f (l.take (below l.length)) i;simp;omega
   ·have:=Qmb f (l.drop (below l.length)) (i-below l.length);simp;omega
theorem Qlx:∀ (f m:Nat) (l:List (List UInt8)) (b:Bool),(Qnw f m l b).length≤f
 | 0,_,_,_=>Nat.le_refl _
 | f+1,m,l,b=>by
  simp only[Qnw]
  split
  ·split <;> simp
  ·split
   ·have:=Qlx f m (l.take (below l.length)) b;simp;omega
   ·have:=Qlx f (m-below l.length) (l.drop (below l.length)) false;simp;omega
theorem Qgy (l:List (List UInt8)) (i:Nat):(J4 l i).length≤l.length:=Qmb _ _ _
theorem Qgr (m:Nat) (l:List (List UInt8)) (b:Bool):(Qam m l b).length≤l.length:=Qlx _ _ _ _
variable {l:List (List UInt8)}
theorem Qn2 (h:l.length≤1) (i:Nat):J4 l i = []:=by
 unfold J4;rcases Nat.lt_or_ge 0 l.length with h0|h0
 ·obtain⟨n,hn⟩:∃ n,l.length=n+1:=⟨l.length-1,by omega⟩
  rw[hn];simp only[Qky];rw[if_pos h]
 ·rw[show l.length=0 by omega];rfl
theorem Qhy (h:2≤l.length) (i:Nat):J4 l i=if i<below l.length then J4 (l.take (below l.length)) i ++ [rootOf (l.drop (below l.length))]
   else J4 (l.drop (below l.length)) (i-below l.length) ++ [rootOf (l.take (below l.length))]:=by
 unfold J4;have hb:=Yl h;obtain⟨n,hn⟩:∃ n,l.length=n+1:=⟨l.length-1,by omega⟩
 rw[hn];simp only[Qky];rw[if_neg (by omega),hn];rw[hn] at hb;rw[Qgx n _ (l.take _) i (by simp;omega) (Nat.le_refl _),Qgx n _ (l.drop _) _ (by simp;omega) (Nat.le_refl _)]
theorem Qjl (l:List (List UInt8)) (b:Bool) (h:1≤l.length):Qam l.length l b=if b then [] else [rootOf l]:=by
 unfold Qam;obtain⟨n,hn⟩:∃ n,l.length=n+1:=⟨l.length-1,by omega⟩
 rw[hn];simp only[Qnw];rw[if_pos hn.symm]
theorem Qhx {m:Nat} (h1:1≤m) (h:m<l.length) (b:Bool):Qam m l b=if m≤below l.length then Qam m (l.take (below l.length)) b ++ [rootOf (l.drop (below l.length))]
   else Qam (m-below l.length) (l.drop (below l.length)) false ++ [rootOf (l.take (below l.length))]:=by
 unfold Qam;have hb:=Yl (n:=l.length) (by omega);obtain⟨n,hn⟩:∃ n,l.length=n+1:=⟨l.length-1,by omega⟩
 rw[hn];simp only[Qnw];rw[if_neg (by omega),hn];rw[hn] at hb
 split
 ·rw[Qgt n _ m (l.take _) b h1 (by simp;omega) (by simp;omega) (Nat.le_refl _)]
 ·rw[Qgt n _ _ (l.drop _) _ (by omega) (by simp;omega) (by simp;omega) (Nat.le_refl _)]
def Ja:Nat→Nat→Nat→Nat→List (Nat×Nat)
 | 0,_,_,_=>[]
 | f+1,a,b,i=>if b-a≤1 then [] else if i<a+below (b-a) then (a+below (b-a),b) :: Ja f a (a+below (b-a)) i else (a,a+below (b-a)) :: Ja f (a+below (b-a)) b i
def Jy:Nat→Nat→Nat→Nat→List (Nat×Nat)
 | 0,_,_,_=>[]
 | f+1,a,b,m=>if b≤m then (if 0<a then [(a,b)] else []) else if m≤a+below (b-a) then (a+below (b-a),b) :: Jy f a (a+below (b-a)) m else (a,a+below (b-a)) :: Jy f (a+below (b-a)) b m
def part (l:List (List UInt8)) (a b:Nat):List (List UInt8):=(l.drop a).take (b-a)
variable {a b:Nat}
theorem Qp3 (hb:b≤l.length):(part l a b).length=b-a:=by unfold part;rw[List.length_take,List.length_drop];omega
variable {k:Nat}
theorem Qfy (hk:a+k≤b):(part l a b).take k=part l a (a+k):=by unfold part;rw[List.take_take];congr 1;omega
theorem Qfr:(part l a b).drop k=part l (a+k) b:=by unfold part;rw[List.drop_take,List.drop_drop];congr 1;omega
theorem Qqe (l:List (List UInt8)):∀ (f a b i:Nat),b-a≤f→a≤i→i<b→b≤l.length→(Ja f a b i).reverse.map (fun x=>rootOf (part l x.1 x.2))=J4 (part l a b) (i-a)
 | 0,a,b,i,h,h1,h2,_=>by omega
 | f+1,a,b,i,h,h1,h2,h3=>by
  have hl:=Qp3 (l:=l) (a:=a) h3
  simp only[Ja]
  by_cases h4:b-a≤1
  ·rw[if_pos h4,Qn2 (by omega)];rfl
  ·rw[if_neg h4,Qhy (by omega),hl]
   have hb:=Yl (n:=b-a) (by omega)
   by_cases h5:i<a+below (b-a)
   ·rw[if_pos h5,if_pos (by omega),List.reverse_cons,List.map_append,Qqe l f a _ i (by omega) h1 h5 (by omega),Qfy (by omega),Qfr]
    rfl
   ·rw[if_neg h5,if_neg (by omega),List.reverse_cons,List.map_append,Qqe l f _ b i (by omega) (by omega) h2 h3,Qfy (by omega),Qfr]
    rw[show i-(a+below (b-a))=i-a-below (b-a) by omega]
    rfl
theorem Qpw (l:List (List UInt8)):∀ (f a b m:Nat),b-a≤f→a<m→m≤b→b≤l.length→(Jy f a b m).reverse.map (fun x=>rootOf (part l x.1 x.2))=Qam (m-a) (part l a b) (a == 0)
 | 0,a,b,m,h,h1,h2,_=>by omega
 | f+1,a,b,m,h,h1,h2,h3=>by
  have hl:=Qp3 (l:=l) (a:=a) h3
  simp only[Jy]
  by_cases h4:b≤m
  ·obtain rfl:b=m:=by omega
   have:=Qjl (part l a b) (a == 0) (by omega)
   rw[hl] at this
   rw[if_pos h4,this]
   rcases Nat.eq_zero_or_pos a with rfl|h0
   ·simp
   ·have:(a == 0)=false:=by simp;omega
    simp[this,h0]
  ·have hb:=Yl (n:=b-a) (by omega)
   rw[if_neg h4,Qhx (by omega) (by omega),hl]
   by_cases h5:m≤a+below (b-a)
   ·rw[if_pos h5,if_pos (by omega),List.reverse_cons,List.map_append,Qpw l f a _ m (by omega) h1 h5 (by omega),Qfy (by omega),Qfr]
    rfl
   ·rw[if_neg h5,if_neg (by omega),List.reverse_cons,List.map_append,Qpw l f _ b m (by omega) (by omega) h2 h3,Qfy (by omega),Qfr]
    rw[show m-(a+below (b-a))=m-a-below (b-a) by omega,show (a+below (b-a) == 0)=false by simp;omega]
    rfl
theorem Qd8:∀ (f a b i:Nat),b-a≤f→a≤i→i<b→∀ x∈Ja f a b i,x.1<x.2∧x.2≤b
 | 0,a,b,i,h,h1,h2,x,hx=>by simp[Ja] at hx
 | f+1,a,b,i,h,h1,h2,x,hx=>by
  simp only[Ja] at hx
  split at hx
  ·simp at hx
  ·have hb:=Yl (n:=b-a) (by omega)
   split at hx
   ·rcases List.mem_cons.1 hx with rfl|hx
    ·exact⟨by show a+below (b-a)<b;omega,Nat.le_refl _⟩
    ·have:=Qd8 f a _ i (by omega) h1 (by assumption) x hx
     exact⟨this.1,by omega⟩
   ·rcases List.mem_cons.1 hx with rfl|hx
    ·exact⟨by show a<a+below (b-a);omega,by show a+below (b-a)≤b;omega⟩
    ·exact Qd8 f _ b i (by omega) (by omega) h2 x hx
theorem Qi1:∀ (f a b m:Nat),b-a≤f→a<m→m≤b→∀ x∈Jy f a b m,x.1<x.2∧x.2≤b
 | 0,a,b,m,h,h1,h2,x,hx=>by simp[Jy] at hx
 | f+1,a,b,m,h,h1,h2,x,hx=>by
  simp only[Jy] at hx
  split at hx
  ·split at hx
   ·simp at hx;subst hx;exact⟨by show a<b;omega,Nat.le_refl _⟩
   ·simp at hx
  ·have hb:=Yl (n:=b-a) (by omega)
   split at hx
   ·rcases List.mem_cons.1 hx with rfl|hx
    ·exact⟨by show a+below (b-a)<b;omega,Nat.le_refl _⟩
    ·have:=Qi1 f a _ m (by omega) h1 (by assumption) x hx
     exact⟨this.1,by omega⟩
   ·rcases List.mem_cons.1 hx with rfl|hx
    ·exact⟨by show a<a+below (b-a);omega,by show a+below (b-a)≤b;omega⟩
    ·exact Qi1 f _ b m (by omega) (by omega) h2 x hx
theorem Qh2 (leaf last:Hsh) (i n:Nat) (q:List Hsh):rebuild leaf i n (q ++ [last])=if n=1 then none else if i<below n then (rebuild leaf i (below n) q).map (Z0 · last) else (rebuild leaf (i-below n) (n-below n) q).map (Z0 last ·):=by unfold rebuild below;rw[List.reverse_append];rfl
theorem Qf1:∀ (f:Nat) (l:List (List UInt8)) (i:Nat),l.length≤f→i<l.length→rebuild (Qaf (l.getD i [])) i l.length (J4 l i)=some (rootOf l)
 | 0,l,i,h1,h=>by omega
 | f+1,l,i,h1,h=>by
  by_cases h2:2≤l.length
  ·have hb:=Yl h2
   rw[Qhy h2,Qbd h2]
   by_cases h3:i<below l.length
   ·rw[if_pos h3,Qh2,if_neg (by omega),if_pos h3]
    have:=Qf1 f (l.take (below l.length)) i (by simp;omega) (by simp;omega)
    have he:(l.take (below l.length)).getD i []=l.getD i []:=by simp[List.getD_eq_getElem?_getD,h3]
    rw[he,List.length_take,Nat.min_eq_left (by omega)] at this
    rw[this];rfl
   ·rw[if_neg h3,Qh2,if_neg (by omega),if_neg h3]
    have:=Qf1 f (l.drop (below l.length)) (i-below l.length) (by simp;omega) (by simp;omega)
    have he:(l.drop (below l.length)).getD (i-below l.length) []=l.getD i []:=by rw[List.getD_eq_getElem?_getD,List.getD_eq_getElem?_getD,List.getElem?_drop];congr 2;omega
    rw[he,List.length_drop] at this
    rw[this];rfl
  ·obtain⟨e,rfl⟩:∃ e,l = [e]:=List.length_eq_one_iff.1 (by omega)
   simp only[List.length_cons,List.length_nil] at h
   obtain rfl:i=0:=by omega
   rfl
theorem Qjb:∀ (f:Nat) (l:List (List UInt8)) (m:Nat) (b:Bool),l.length≤f→l.length<9223372036854775808→1≤m→m≤l.length→roots m l.length (if b then some (rootOf (l.take m)) else none) (Qam m l b)=some (rootOf (l.take m),rootOf l)
 | 0,l,m,b,h1,hx,h,h2=>by omega
 | f+1,l,m,b,h1,hx,h,h2=>by
  rcases Nat.lt_or_ge m l.length with hlt|hge
  ·have hb:=Yl (n:=l.length) (by omega)
   rw[Qhx h hlt,Qbd (l:=l) (by omega)]
   by_cases h3:m≤below l.length
   ·rw[if_pos h3,Qex,if_neg (by omega),if_pos h3]
    have:=Qjb f (l.take (below l.length)) m b (by simp;omega) (by simp;omega) h (by simp;omega)
    rw[List.take_take,List.length_take,Nat.min_eq_left h3,Nat.min_eq_left (by omega:below l.length≤l.length)] at this
    rw[this];rfl
   ·rw[if_neg h3,Qex,if_neg (by omega),if_neg h3]
    have:=Qjb f (l.drop (below l.length)) (m-below l.length) false (by simp;omega) (by simp;omega) (by omega) (by simp;omega)
    rw[List.length_drop] at this
    simp only[Bool.false_eq_true,if_false] at this
    rw[this]
    have e1:rootOf (l.take m)=Z0 (rootOf (l.take (below l.length))) (rootOf ((l.drop (below l.length)).take (m-below l.length))):=by
     have hlm:(l.take m).length=m:=by simp;omega
     have hbm:below m=below l.length:=by
      obtain⟨e,he,_,h6,h7⟩:=Qy3 (n:=l.length) (by omega) hx
      have hbl:below l.length=2 ^ e:=by unfold below;rw[he,Nat.add_sub_cancel]
      rw[hbl] at h3 ⊢
      exact Qjr (by omega) (by omega) (by omega) (by omega)
     rw[Qbd (by omega),hlm,hbm,List.take_take,Nat.min_eq_left (by omega),List.drop_take]
    rw[e1];rfl
  ·obtain rfl:m=l.length:=by omega
   rw[Qjl l b h,List.take_of_length_le (Nat.le_refl _)]
   cases b
   ·simp only[Bool.false_eq_true,if_false];rw[Qwy]
   ·simp only[if_true];rw[Qsg];rfl
end
section
theorem Qu0 (a b:Nat) (ha:a<9223372036854775808) (hb:b<9223372036854775808):bits .and .i64 (a:Int) (b:Int)=((a &&& b:Nat):Int):=by
 have h1:(BitVec.ofInt 64 (a:Int)).toNat=a:=by rw[BitVec.ofInt_natCast,BitVec.toNat_ofNat];exact Nat.mod_eq_of_lt (by omega)
 have h2:(BitVec.ofInt 64 (b:Int)).toNat=b:=by rw[BitVec.ofInt_natCast,BitVec.toNat_ofNat];exact Nat.mod_eq_of_lt (by omega)
 have h3:a &&& b≤a:=Nat.and_le_left;show IntKind.i64.wrap ((BitVec.ofInt 64 (a:Int) &&& BitVec.ofInt 64 (b:Int)).toNat:Int)=_;rw[BitVec.toNat_and,h1,h2];generalize a &&& b=c at *;simp[IntKind.wrap,IntKind.bits,IntKind.signed];omega
theorem Qej {n:Nat} (h1:1≤n) (hn:n<2 ^ 64) (h:n &&& (n-1)=0):n=2 ^ (Lib.bitLen n-1):=by
 obtain⟨e,he⟩:∃ e,e=Lib.bitLen n-1:=⟨_,rfl⟩
 have hb:=Lib.bitLenAux_bounds 64 n hn (by omega);have hb':2 ^ e≤n∧n<2 ^ e*2:=by
  rw[he];have hs:Lib.bitLen n=Lib.bitLenAux 64 n:=rfl;rw[hs];obtain⟨a1,a2,a3⟩:=hb;refine⟨a2,?_⟩;rw[←Nat.pow_succ]
  have:(Lib.bitLenAux 64 n-1).succ=Lib.bitLenAux 64 n:=by omega
  rw[this];exact a3
 rw[←he];rcases Nat.lt_or_ge (2 ^ e) n with hlt|hge
 ·exfalso
  have t1:n.testBit e=true:=by rw[Nat.testBit_eq_decide_div_mod_eq,(Nat.div_eq_of_lt_le (k:=1) (by omega) (by omega):n / 2 ^ e=1)];rfl
  have t2:(n-1).testBit e=true:=by rw[Nat.testBit_eq_decide_div_mod_eq,(Nat.div_eq_of_lt_le (k:=1) (by omega) (by omega):(n-1) / 2 ^ e=1)];rfl
  have t3:(n &&& (n-1)).testBit e=true:=by rw[Nat.testBit_and,t1,t2];rfl
  rw[h] at t3;simp at t3
 ·omega
end
section
structure Lie1 where
 path:ByteArray
 data:ByteArray
 fails:Bool
 times:Int
structure Nt where
 files:List Fil
 lies:List Lie1
 told:List Nat
 fetches:Nat
def Qdx (n:Nt) (p:ByteArray) (i:Nat):Bool:=match n.lies[i]? with
 | some l=>decide (l.path=p) && !(decide (0<l.times) && decide (l.times≤((n.told.getD i 0:Nat):Int)))
 | none=>false
def Qbu (n:Nt) (p:ByteArray):Nat→Nat→Option Nat
 | 0,_=>none
 | k+1,i=>if Qdx n p i=true then some i else Qbu n p k (i+1)
def Qc4 (n:Nt) (p:ByteArray):Option Nat:=Qbu n p n.lies.length 0
def Yt (n:Nt) (p:ByteArray):Option (List UInt8):=match Qc4 n p with
 | some i=>(n.lies[i]?).bind fun l=>if l.fails=true then none else some l.data.data.toList
 | none=>(getF n.files p).map (·.data.toList)
def Zm (n:Nt) (p:ByteArray):Nt:=match Qc4 n p with
 | some i=>{ n with fetches:=n.fetches+1,told:=n.told.set i (n.told.getD i 0+1) }
 | none=>{ n with fetches:=n.fetches+1 }
abbrev Kv:=ByteArray×List UInt8
structure Cch where
 most:Nat
 items:List Kv
def Z3 (l:List Kv) (p:ByteArray):Option (List UInt8):=(l.find? fun x=>decide (x.1=p)).map (·.2)
def Jb (l:List Kv) (p:ByteArray):List Kv:=l.filter fun x=>!decide (x.1=p)
def Yi (c:Cch) (p:ByteArray):Cch:=match Z3 c.items p with
 | some v=>{ c with items:=(p,v) :: Jb c.items p }
 | none=>c
def Z1 (c:Cch) (p:ByteArray) (v:List UInt8):Cch:=
 if c.most=0 then c else
 if (Z3 c.items p).isSome=true then { c with items:=(p,v) :: Jb c.items p } else
 if c.items.length=c.most then { c with items:=(p,v) :: c.items.dropLast } else { c with items:=(p,v) :: c.items }
structure Cs where
 net:Nt
 cache:Cch
 files:List Kv
inductive QErr where
 | miss (p:ByteArray)
 | panic
abbrev Qm (α:Type):=Cs→Except QErr α×Cs
def Qm.pure {α:Type} (a:α):Qm α:=fun s=>(.ok a,s)
def Qm.bind {α β:Type} (m:Qm α) (f:α→Qm β):Qm β:=fun s=>match m s with
 | (.ok a,s1)=>f a s1
 | (.error p,s1)=>(.error p,s1)
def Qgi (p:ByteArray) (b:List UInt8) (s:Cs):Cs:={ s with files:=s.files ++ [(p,b)] }
abbrev Qir:=List UInt8→Nat→Nat→Option (List UInt8)
def tryQ (fits:Qir) (q:ByteArray) (have' want:Nat) (s:Cs):Option (List UInt8):=(Yt s.net q).bind fun data=>fits data have' want
def Zd (q:ByteArray) (s:Cs):Cs:={ s with net:=Zm s.net q }
def Qr (level:Int) (index w:Nat):ByteArray:=sOf (Y6 level index w)
def Zt (index count:Nat):Nat:=min 4 (count-4*index)
def Qbq (fits:Qir) (level:Int) (index w:Nat):Qm (List UInt8):=fun s=>
 match tryQ fits (Qr level index w) w w s with
 | some b=>(.ok b,Qgi (Qr level index w) b (Zd (Qr level index w) s))
 | none=>if w=4 then (.error (.miss (Qr level index w)),Zd (Qr level index w) s) else
  match tryQ fits (Qr level index 4) 4 w (Zd (Qr level index w) s) with
  | some b=>(.ok b,Qgi (Qr level index w) b (Zd (Qr level index 4) (Zd (Qr level index w) s)))
  | none=>(.error (.miss (Qr level index w)),Zd (Qr level index 4) (Zd (Qr level index w) s))
def Qau (fits:Qir) (level:Int) (index count:Nat):Qm (List UInt8):=fun s=>
 match Z3 s.files (Qr level index (Zt index count)) with
 | some b=>(.ok b,s)
 | none=>match Z3 s.cache.items (Qr level index (Zt index count)) with
  | some b=>(.ok b,Qgi (Qr level index (Zt index count)) b { s with cache:=Yi s.cache (Qr level index (Zt index count)) })
  | none=>Qbq fits level index (Zt index count) s
def Z5:Qir:=fun data have' want=>if data.length=8*have' then some (data.take (8*want)) else none
def Zv:Qir:=fun data have' want=>(Qx data).bind fun l=>if l.length=have' then Yj (l.take want) else none
def Qss (b:List UInt8) (k:Nat):Hsh:=Yw (b.drop (8*k))
def Qk2 (b:List UInt8) (k:Nat):Qm Hsh:=fun s=>if b.length<8*k then (.error .panic,s) else (.ok (Qss b k),s)
def Qcd (n level index:Nat):Qm Hsh:=Qm.bind (Qau Z5 ((level / 2:Nat):Int) (index / 4) (n / 2 ^ level)) fun b=>Qk2 b (index%4)
def Qdq (n level index:Nat):Qm Hsh:=
 if level%2=1 then Qm.bind (Qcd n (level-1) (2*index)) fun a=>Qm.bind (Qcd n (level-1) (2*index+1)) fun b=>Qm.pure (Z0 a b)
 else Qcd n level index
def rootQ (N:Nat):Nat→Nat→Nat→Qm Hsh
 | 0,_,_=>fun s=>(.error .panic,s)
 | f+1,i,n=>if n &&& (n-1)=0∧i%n=0 then Qdq N (Lib.bitLen n-1) (i / n)
  else Qm.bind (rootQ N f i (below n)) fun a=>Qm.bind (rootQ N f (i+below n) (n-below n)) fun b=>Qm.pure (Z0 a b)
def Zg (N:Nat):List (Nat×Nat)→Qm (List Hsh)
 | []=>Qm.pure []
 | x :: xs=>Qm.bind (rootQ N (x.2-x.1) x.1 (x.2-x.1)) fun h=>Qm.bind (Zg N xs) fun l=>Qm.pure (h :: l)
def askQ (net:Nt) (cache:Cch):Cs:=⟨net,cache,[]⟩
def Zf (c:Cch):List Kv→Cch
 | []=>c
 | x :: xs=>Zf (Z1 c x.1 x.2) xs
def Qbr (N i:Nat):Qm (List UInt8×List Hsh):=
 Qm.bind (Qau Zv (-1) (i / 4) N) fun b=>match ((Qx b).getD [])[i%4]? with
  | none=>fun s=>(.error .panic,s)
  | some e=>Qm.bind (Zg N (Ja N 0 N i).reverse) fun p=>Qm.pure (e,p)
def Qgc (m N:Nat):Qm (List Hsh):=Zg N (Jy N 0 N m).reverse
end
section
def HS (h:Hsh):ByteArray:=⟨h.toArray⟩
def Qh3 (w:World) (g:Nat) (h:Hsh):Prop:=(w.heap[g]?).map (fun | .cells c _ _=>c|_=>#[])=some (h8 h)
theorem Ql7 {w:World} {g:Nat} {h:Hsh} (hh:Qh3 w g h) (c:Nat) (hcap:8≤c:=by decide):Q6 w (.slice (some ⟨g,0,none⟩) 8 c) h.toList:=by
 unfold Qh3 at hh;rw[Option.map_eq_some_iff] at hh;obtain⟨o,ho,hc⟩:=hh;cases o <;> simp at hc
 case cells cs e fz=>
  subst hc
  have:=Qdd (n:=8) (c:=c) hcap ho
  rw[Qqm] at this;unfold Q6;simpa using this
 all_goals (have:=congrArg Array.size hc;simp at this)
theorem Qfs (s:ByteArray) (w:World) (hs:s.size≤1099511627776) :
  Calls prog 110 #[.string s] w fun e w'=>e=.returned (.string (HS (hash s.data.toList)))∧Below w.heap.size w w':=by
 have hmk:∀ w,(Instr.makeSlice 94 (.int .i64 8) (.int .i64 8)).run prog w=.ok (.slice (some ⟨w.heap.size,0,none⟩) 8 8) (w.alloc (.cells zc 5)):=fun _=>by kernel_rfl
 go_enter func110,ntmps110
 go_wp2
 go_loop [3,4] (fun x i=>∃ k:Nat,k≤s.size∧i=.int .i64 k∧x=.int .u64 (hfold (s.data.toList.take k))) (fun _ i=>s.size-(intOf i).toNat)
 case atStart=>exact⟨0,by omega,rfl,rfl⟩
 case round=>
  obtain⟨k,hk,rfl,rfl⟩:=hrel;by_cases hlt:k<s.size
  ·have hst:hfold (s.data.toList.take (k+1))=hstep (hfold (s.data.toList.take k)) s[k]:=by rw[Qom (x:=s[k]) (by simp[hlt];rfl),Qob]
   have HST:=zh hst;clear hst;go_wp2
   go_round
   case rel=>exact⟨k+1,by omega,by go_num,by rw[HST.o];rfl⟩
   case measure=>simp[intOf];omega
  ·have ht:s.data.toList.take k=s.data.toList:=List.take_of_length_le (by simp;omega)
   rw[ht];have hbd:=Qv1 s.data.toList;obtain⟨y,hy⟩:∃ y,y=hfold s.data.toList:=⟨_,rfl⟩
   rw[←hy] at hbd ⊢;have HY:=zh hy;clear hy ht;obtain⟨hb0,hb1⟩:=hbd;go_wp2;refine wp_loop_rounds 9 ?_
   iterate 8
    rw[rounds_succ];go_wp2
   rw[rounds_succ];have d2:y / 256 / 256=y / 65536:=by omega
   have d3:y / 65536 / 256=y / 16777216:=by omega
   have d4:y / 16777216 / 256=y / 4294967296:=by omega
   have d5:y / 4294967296 / 256=y / 1099511627776:=by omega
   have d6:y / 1099511627776 / 256=y / 281474976710656:=by omega
   have d7:y / 281474976710656 / 256=y / 72057594037927936:=by omega
   have d8:y / 72057594037927936%256=y / 72057594037927936:=by omega
   have key:Qh3 (w.alloc (.cells #[.int .u8 (y / 256 / 256 / 256 / 256 / 256 / 256 / 256),.int .u8 (y / 256 / 256 / 256 / 256 / 256 / 256%256),.int .u8 (y / 256 / 256 / 256 / 256 / 256%256),.int .u8 (y / 256 / 256 / 256 / 256%256),.int .u8 (y / 256 / 256 / 256%256),.int .u8 (y / 256 / 256%256),.int .u8 (y / 256%256),.int .u8 (y%256)] 5)) w.heap.size (hash s.data.toList):=by unfold Qh3;rw[Zu _ _ _ rfl];simp only[d2,d3,d4,d5,d6,d7];unfold hash;rw[←HY.o,Qq4,d8];rfl
   have KEY:=zh key;clear d2 d3 d4 d5 d6 d7 d8 key
   go_wp2_with (refine Qm2 rfl 94 9 _ rfl _ underlying94 underlying5 underlying9 _ ?_ rfl ?_ ?_;rotate_left;focus exact Ql7 KEY.o 8)
   go_ret;exact⟨rfl,(Below.refl _ _).alloc (Nat.le_refl _) _⟩
theorem Qpb (h:Hsh):(HS h).size=8:=by simp[HS,ByteArray.size]
theorem Q0l (s:ByteArray) (w:World) (hs:s.size≤1099511627000) :
  Calls prog 116 #[.string s] w fun e w'=>e=.returned (.string (HS (Qaf s.data.toList)))∧Below w.heap.size w w':=by
 have he:(({ data:=#[0] }:ByteArray)++s).data.toList=0 :: s.data.toList:=by simp
 have HE:=zh he;clear he
 go_enter func116,ntmps116
 go_wp2_with fail
 refine (Qfs _ _ (by simp only[ByteArray.size_append];have:(ByteArray.mk #[0]).size=1:=rfl;omega)).mono ?_;rintro e w1 ⟨rfl,hb⟩;rw[HE.o];go_wp2;go_ret;exact⟨rfl,hb⟩
theorem Q1i (a b:ByteArray) (w:World) (ha:a.size≤8) (hb:b.size≤8) :
  Calls prog 117 #[.string a,.string b] w fun e w'=>e=.returned (.string (HS (hash (1 :: (a.data.toList++b.data.toList)))))∧Below w.heap.size w w':=by
 have he:(({ data:=#[1] }:ByteArray)++a++b).data.toList=1 :: (a.data.toList++b.data.toList):=by simp
 have HE:=zh he;clear he
 go_enter func117,ntmps117
 go_wp2_with fail
 refine (Qfs _ _ (by simp only[ByteArray.size_append];have:(ByteArray.mk #[1]).size=1:=rfl;omega)).mono ?_;rintro e w1 ⟨rfl,hb⟩;rw[HE.o];go_wp2;go_ret;exact⟨rfl,hb⟩
end
section
theorem info8:(prog.info? 109).map (·.size)=some 8:=by kernel_rfl
theorem h8_0 (a:Hsh):(h8 a)[0]?=some (u8 a[0]):=by simp[h8]
theorem h8_1 (a:Hsh):(h8 a)[1]?=some (u8 a[1]):=by simp[h8]
theorem h8_2 (a:Hsh):(h8 a)[2]?=some (u8 a[2]):=by simp[h8]
theorem h8_3 (a:Hsh):(h8 a)[3]?=some (u8 a[3]):=by simp[h8]
theorem h8_4 (a:Hsh):(h8 a)[4]?=some (u8 a[4]):=by simp[h8]
theorem h8_5 (a:Hsh):(h8 a)[5]?=some (u8 a[5]):=by simp[h8]
theorem h8_6 (a:Hsh):(h8 a)[6]?=some (u8 a[6]):=by simp[h8]
theorem h8_7 (a:Hsh):(h8 a)[7]?=some (u8 a[7]):=by simp[h8]
theorem Qbg (a:Hsh):(#[u8 a[0],u8 a[1],u8 a[2],u8 a[3],u8 a[4],u8 a[5],u8 a[6],u8 a[7]]:Array Value)=h8 a:=by
 apply Array.ext
 ·simp
 ·intro i h1 h2
  have:i=0∨i=1∨i=2∨i=3∨i=4∨i=5∨i=6∨i=7:=by simp at h1;omega
  rcases this with rfl|rfl|rfl|rfl|rfl|rfl|rfl|rfl <;> simp[h8]
theorem Qzo (a:Hsh):(h8 a).toList = [u8 a[0],u8 a[1],u8 a[2],u8 a[3],u8 a[4],u8 a[5],u8 a[6],u8 a[7]]:=by rw[←Qbg]
theorem Qax {P:Program} {w:World} {g:Nat} (k:Hsh) (h:Is8 w g):Sem.run P (storeCells ⟨g,0,none⟩ (h8 k).toList) w=.ok () (w.setRow g (h8 k)):=by
 obtain⟨h0,hh⟩:=h;have hst:=run_storeCells_at P g 0 109 (h8 k).toList 0 (h8 h0) w hh (by simp) (fun u hu=>by
  have:=Qoz k
  rw[Array.all_eq_true'] at this
  exact this u (by simpa using hu))
 simp only[Nat.zero_add,Nat.add_zero] at hst;rw[hst]
 congr 2
 apply Array.ext';simp
theorem Qtk (w:World) (a b c d e:Obj):Below w.heap.size w (((((w.alloc a).alloc b).alloc c).alloc d).alloc e).drew:=
 ((((((Below.refl _ _).alloc (Nat.le_refl _) _).alloc (by simp) _).alloc (by simp;omega) _).alloc (by simp;omega) _).alloc (by simp;omega) _).drew
section
attribute [local go_sem] h8_0 h8_1 h8_2 h8_3 h8_4 h8_5 h8_6 h8_7 Qbg h8_size Qax
theorem Qlh (v:Value) (l:List UInt8) (w:World) (h:Q6 w v l) (hn:l.length≤9223372036854775807) :
  Calls prog 72 #[v] w fun e w'=>e=.returned (.agg (h8 (Qaf l)))∧Below w.heap.size w w':=by
 obtain⟨a,c,rfl⟩:∃ a c,v=.slice a l.length c:=by obtain⟨a,c,h1,_,_⟩:=h;exact⟨a,c,h1⟩
 have HH:=zh h;clear h
 go_enter func72,ntmps72
 go_wp2_with fail
 refine (Qjv _ [[0],l] _ (bss2 (fz:=(0,0)) (Zu _ _ _ (by simp)) ?_ ?_) (by simp) (by simp;omega)).mono ?_
 ·exact (bytes1 (x:=0) (fz:=(0,0)) (Zu _ _ _ (by simp))).below (Qa _ _)
 ·exact ((HH.o.below (Qa _ _)).below (Qa _ _)).below (Qa _ _)
 rintro e w1 ⟨rfl,hb⟩
 go_wp2_with (first|(refine Qt rfl 109 _ _ rfl _ _ rfl rfl info8 ?_ ?_ ?_;rotate_left;focus ((repeat(first|(with_reducible first|assumption|exact Qj ⟨_,by assumption⟩ _)|((with_reducible first|refine Qe ?_|refine Q2 ?_|refine Qj (Q9 ?_) _);(first|rfl|(simp;done)|(simp;omega)))|with_reducible refine Qp ?_ _|((with_reducible refine Qi ?_ _ ?_);rotate_left;(focus(first|(simp;done)|(simp;omega)|omega)))|with_reducible first|refine Qo ?_|refine Qg ?_ (by assumption)));done)))
 have hz:Qu w1 w.heap.size zero8:=by
  (repeat(first|(with_reducible first|assumption|exact Qj ⟨_,by assumption⟩ _)|((with_reducible first|refine Qe ?_|refine Q2 ?_|refine Qj (Q9 ?_) _);(first|rfl|(simp;done)|(simp;omega)))|with_reducible refine Qp ?_ _|((with_reducible refine Qi ?_ _ ?_);rotate_left;(focus(first|(simp;done)|(simp;omega)|omega)))|with_reducible first|refine Qo ?_|refine Qg ?_ (by assumption)))
 refine ret8 w.heap.size (Qaf l) rfl rfl _ underlying109 info8 (by simpa [Qaf] using Qy hz _) rfl ⟨rfl,?_⟩;exact below_setRow ((((Qa w _).alloc (by simp) _).alloc (by simp;omega) _).trans (hb.mono (by simp;omega))) (by omega) _
theorem Qbz (a b:Hsh) (w:World) :
  Calls prog 129 #[.agg (h8 a),.agg (h8 b)] w fun e w'=>e=.returned (.agg (h8 (Z0 a b)))∧Below w.heap.size w w':=by
 go_enter func129,ntmps129
 go_wp2_with fail
 go_region_with (go_at_call 66;refine (Qjv _ _ _ (Q20 w a b _) (by simp) (by simp)).mono ?_;rintro e w1 ⟨rfl,hb⟩;have HB:=zh hb;have hz:w.heap.size+4<w1.heap.size:=(by have:=hb.size;simp at this;omega);have hI8:Is8 w1 (w.heap.size+1+1):=⟨zero8,Qg (Qo (Qp (Qp (Qe (by simp)) _) _)) hb⟩;clear hb)
 go_wp2;obtain⟨z,hz8⟩:=hI8;refine ret8 (w.heap.size+1+1) (Z0 a b) rfl rfl _ underlying109 info8 (Qy hz8 _) rfl ⟨rfl,?_⟩;exact below_setRow ((Qtk w _ _ _ _ _).trans (HB.o.mono (by simp;omega))) (by omega) _
end
end
section
theorem Qyc (l:List UInt8):(l.take 8).map u8++(List.replicate 8 (Value.int .u8 0)).drop (min l.length 8)=(h8 (Yw l)).toList:=by
 rw[Qzo]
 match l with
 | []=>rfl
 | [_]=>rfl
 | [_,_]=>rfl
 | [_,_,_]=>rfl
 | [_,_,_,_]=>rfl
 | [_,_,_,_,_]=>rfl
 | [_,_,_,_,_,_]=>rfl
 | [_,_,_,_,_,_,_]=>rfl
 | a0 :: a1 :: a2 :: a3 :: a4 :: a5 :: a6 :: a7 :: r=>
  have:min (a0 :: a1 :: a2 :: a3 :: a4 :: a5 :: a6 :: a7 :: r).length 8=8:=by simp
  rw[this];rfl
theorem Qj8:(prog.info? 5).map (fun i=>(i.zero,i.size,i.bytes))=some (some (.int .u8 0),1,1):=by kernel_rfl
end
section
def Qbs (w:World) (v:Value) (hs:List Hsh):Prop:=Qfh w v hs.length (hs.flatMap fun h=>(h8 h).toList)
def Qcu (w:World) (base:Nat) (v:Value) (hs:List Hsh):Prop:=w.ownsRow base 109 8 v hs.length (hs.flatMap fun h=>(h8 h).toList)
variable {w:World}
theorem Qcu.at {base:Nat} {v:Value} {hs:List Hsh} (h:Qcu w base v hs):Qbs w v hs:=Ya h
theorem Qe7:(prog.info? 9).map (fun i=>(i.zero,i.size,i.bytes))=some (some (.string ⟨#[]⟩),1,16):=by kernel_rfl
theorem Q0e:(prog.info? 109).map (fun i=>(i.zero,i.size,i.bytes))=some (some (.agg zc),8,8):=by kernel_rfl
theorem fill8 (h:Hsh) (sz:Nat) (hs:sz=8) (Z:Array Value) (hZ:Z.size=8):Instr.fill (fun i=>some (i*sz,sz)) Z [(0,.agg (h8 h))]=some (h8 h):=by
 subst hs;obtain⟨l⟩:=Z
 match l,hZ with
 | [a0,a1,a2,a3,a4,a5,a6,a7],_=>
  rw[←Qbg h];simp[Instr.fill,Value.cells]
theorem Qyi {P:Program} {ops:Array Oper} {rest:List Oper} {o:Oper} {a:Act} {Q:Exit→Act→World→Prop} (hg:o.guard=none) (t:TypeId) (x:Operand) (ho:o.op=.buildSlice t 1 #[(0,x)])
  (i:TypeInfo) (hu:P.underlying t=some (.slice 109)) (hi:P.info? 109=some i) (hz:i.zero=some (.agg (h8 zero8))) (hsize:i.size=8) (h:Hsh) (hx:a.eval x=.agg (h8 h))
  (hk:wpList P ops Q rest (a.put o.dst (.slice (some ⟨w.heap.size,0,none⟩) 1 1)) (w.alloc (.cells (h8 h) 109))):wpList P ops Q (o :: rest) a w:=
 wpList_plain hg fun _ hK=>wp_buildSlice t 109 1 _ ho (h8 h) i _ hu hi hz (by omega) (by omega) (by
  simp only[List.map_toArray,List.map_cons,List.map_nil,hx]
  exact fill8 h _ hsize _ (by simp[hsize])) (hK _ _ hk)
end
section
def Qjw (gd:Nat) (ve vl vp:Value) (L:Lg):Array Value:=#[.iface 25 (.pointer (some ⟨gd,0,none⟩)),.string L.key,ve,vl,vp,.bool L.failed]
def LogS (g:Nat) (ve vl vp:Value) (vs:List Value) (k:Nat):Prop:=k=g∨ve.ownBlock=some k∨vl.ownBlock=some k∨vp.ownBlock=some k∨∃ v∈vs,v.ownBlock=some k
structure Zn (w:World) (g gd:Nat) (ve vl vp:Value) (vs:List Value) (L:Lg):Prop where
 cells:w.heap[g]?=some (.cells (Qjw gd ve vl vp L) 138 (0,0))
 ents:Y8 w 0 ve L.entries
 rows:w.ownsRow 0 104 1 vl L.levels.length vs
 each:∀ (j:Nat) (v:Value) (r:List Hsh),vs[j]?=some v→L.levels[j]?=some r→Qcu w 0 v r
 apart:∀ (i j:Nat) (a b:Value) (k:Nat),vs[i]?=some a→vs[j]?=some b→a.ownBlock=some k→b.ownBlock=some k→i=j
 puts:w.ownsRow 0 3 1 vp L.put.length (L.put.map fun (n:Nat)=>.int .i64 (n:Int))
def Qb7 (w:World) (T:Nat→Prop):Prop:=∀ k C fz,w.heap[k]?=some (.cells C 5 fz)→¬ T k
variable {w:World} {base k:Nat} {v:Value}
theorem Qh {e:TypeId} {size:Nat} {n:Nat} {xs:List Value} (h:w.ownsRow base e size v n xs) (hk:v.ownBlock=some k):∃ C,w.heap[k]?=some (.cells C e (0,0)):=by
 rcases h.2 with ⟨rfl,_⟩|⟨b,cap,cur,rfl,_,hb,_⟩
 ·simp[Value.ownBlock] at hk
 ·simp[Value.ownBlock] at hk
  subst hk;exact⟨cur,hb⟩
variable {T:Nat→Prop} {w':World}
theorem Y8.fr {ls:List (List UInt8)} (h:Y8 w base v ls) (hf:Fr T w w') (hT:∀ k,v.ownBlock=some k→¬ T k) (hn:Qb7 w T):Y8 w' base v ls:=by obtain⟨vs,h1,h2⟩:=h;exact⟨vs,Zb h1 hf hT,fun j u l hu hl=>(h2 j u l hu hl).same fun k C fz hk=>hf.block k (Qc hk) (hn k C fz hk)⟩
variable {g gd:Nat} {ve vl vp:Value} {vs:List Value} {L:Lg}
theorem Zn.fr (h:Zn w g gd ve vl vp vs L) (hf:Fr T w w') (hT:∀ k,LogS g ve vl vp vs k→¬ T k) (hn:Qb7 w T):Zn w' g gd ve vl vp vs L where
 cells:=hf.heap h.cells (hT g (.inl rfl))
 ents:=h.ents.fr hf (fun k hk=>hT k (.inr (.inl hk))) hn
 rows:=Zb h.rows hf fun k hk=>hT k (.inr (.inr (.inl hk)))
 each j v r hv hr:=Zb (h.each j v r hv hr) hf fun k hk=>hT k (.inr (.inr (.inr (.inr ⟨v,List.mem_of_getElem? hv,hk⟩))))
 apart:=h.apart
 puts:=Zb h.puts hf fun k hk=>hT k (.inr (.inr (.inr (.inl hk))))
theorem Zn.below (h:Zn w g gd ve vl vp vs L) (hb:Below w.heap.size w w'):Zn w' g gd ve vl vp vs L:=
 h.fr (T:=fun _=>False) (Fr.ofBelow hb) (fun _ _ h=>h) (fun _ _ _ _ h=>h)
theorem Zn.kinds (h:Zn w g gd ve vl vp vs L) (hk:LogS g ve vl vp vs k) :
  ∃ C t,w.heap[k]?=some (.cells C t (0,0))∧(t=138∨t=94∨t=104∨t=3∨t=109):=by
 rcases hk with rfl|hk|hk|hk|⟨v,hv,hk⟩
 ·exact⟨_,_,h.cells,.inl rfl⟩
 ·obtain⟨vs',h1,_⟩:=h.ents
  obtain⟨C,hC⟩:=Qh h1 hk;exact⟨C,_,hC,.inr (.inl rfl)⟩
 ·obtain⟨C,hC⟩:=Qh h.rows hk
  exact⟨C,_,hC,.inr (.inr (.inl rfl))⟩
 ·obtain⟨C,hC⟩:=Qh h.puts hk
  exact⟨C,_,hC,.inr (.inr (.inr (.inl rfl)))⟩
 ·obtain⟨j,hj⟩:=List.mem_iff_getElem?.1 hv
  have hl:vs.length=L.levels.length:=by simpa using h.rows.1
  have hjl:j<L.levels.length:=by have:=(List.getElem?_eq_some_iff.1 hj).1;omega
  obtain⟨C,hC⟩:=Qh (h.each j v _ hj (List.getElem?_eq_getElem hjl)) hk;exact⟨C,_,hC,.inr (.inr (.inr (.inr rfl)))⟩
theorem Zn.noBytes (h:Zn w g gd ve vl vp vs L):Qb7 w (LogS g ve vl vp vs):=by
 intro k C fz hk hs;obtain⟨C',t,h1,h2⟩:=h.kinds hs;rw[hk] at h1;cases h1
 revert h2
 decide
variable {d:Dk}
theorem Q3.noBytes (h:Q3 w g v d):Qb7 w (dkS g v):=by
 intro k C fz hk hs;rcases hs with rfl|hs
 ·have:=h.1
  rw[hk] at this;simp at this
 ·obtain⟨C',h1⟩:=Qh h.2 hs
  rw[hk] at h1;simp at h1
theorem Zn.apartDisk {g':Nat} (h:Zn w g gd ve vl vp vs L) (hd:Q3 w g' v d):∀ k,LogS g ve vl vp vs k→¬ dkS g' v k:=by
 intro k hk hs;obtain⟨C',t,h1,h2⟩:=h.kinds hk;rcases hs with rfl|hs
 ·rw[hd.1] at h1
  cases h1
  revert h2
  decide
 ·obtain⟨C,h3⟩:=Qh hd.2 hs
  rw[h3] at h1;cases h1
  revert h2
  decide
theorem Zn.heads (h:Zn w g gd ve vl vp vs L) :
  (w.cell? ⟨g,0,none⟩=some (.iface 25 (.pointer (some ⟨gd,0,none⟩)))∧w.cell? ⟨g,1,none⟩=some (.string L.key)∧w.cell? ⟨g,2,none⟩=some ve∧w.cell? ⟨g,3,none⟩=some vl∧w.cell? ⟨g,4,none⟩=some vp∧w.cell? ⟨g,5,none⟩=some (.bool L.failed))∧∀ i,w.frozen? ⟨g,i,none⟩=false:=
 ⟨⟨Qd h.cells 0 rfl,Qd h.cells 1 rfl,Qd h.cells 2 rfl,Qd h.cells 3 rfl,Qd h.cells 4 rfl,Qd h.cells 5 rfl⟩,fun i=>Qq h.cells i⟩
theorem Qyu (w:World) (g gd:Nat) (ve vl vp:Value) (vs:List Value) (L:Lg) (h:Zn w g gd ve vl vp vs L) :
  Calls prog 38 #[.pointer (some ⟨g,0,none⟩)] w fun e w'=>e=.returned (.int .i64 L.entries.length)∧w=w':=by
 obtain⟨⟨_,_,c2,_⟩,_⟩:=h.heads;obtain⟨vs',h1,_⟩:=h.ents;obtain⟨a,c,rfl⟩:=Zs h1;clear h
 go_enter func38,ntmps38
 go_wp2;go_ret;exact⟨rfl,rfl⟩
def Q0s (w:World) (base:Nat) (p:ByteArray) (e u:Value):Prop:=∃ q,u=.iface 153 (.pointer (some ⟨q,0,none⟩))∧base≤q∧w.heap[q]?=some (.cells #[.string p,e] 155 (0,0))
theorem Qoh (w:World) (p:ByteArray) (t:TypeId) (x:Value) :
  Calls prog 65 #[.string p,.iface t x] w fun e w'=>∃ u,e=.returned u∧Q0s w' w.heap.size p (.iface t x) u∧Below w.heap.size w w':=by
 go_enter func65,ntmps65
 go_wp2;go_ret;exact⟨_,rfl,⟨w.heap.size,rfl,Nat.le_refl _,heap_alloc_new w _⟩,Qa w _⟩
end
section
variable {n:Nat}
theorem Qmg (h:n<10):dec n = [UInt8.ofNat (48+n)]:=by unfold dec;rw[Lib.decDigits,dif_pos h]
theorem Qwn (h:¬ n<10):dec n=dec (n / 10) ++ [UInt8.ofNat (48+n%10)]:=by
 unfold dec
 conv=>lhs;rw[Lib.decDigits,dif_neg h]
theorem Q03:∀ (k n:Nat),n<10 ^ (k+1)→(dec n).length≤k+1
 | 0,n,h=>by rw[Qmg (by omega)];simp
 | k+1,n,h=>by
  by_cases h9:n<10
  ·rw[Qmg h9];simp
  ·rw[Qwn h9,List.length_append]
   have:=Q03 k (n / 10) (by rw[Nat.pow_succ] at h;omega)
   simp only[List.length_cons,List.length_nil]
   omega
theorem Jj (h:n<9223372036854775808):(dec n).length≤19:=Q03 18 n (by omega)
theorem Qaq (n:Nat) (w:World) (hn:n<9223372036854775808) :
  Calls prog 151 #[.int .i64 n] w fun e w'=>e=.returned (.string (sOf (dec n)))∧Below w.heap.size w w':=by
 go_enter func151,ntmps151
 go_wp2
 go_loopw [0,3] (fun m s wr=>∃ (k:Nat) (r:List UInt8),k≤n∧m=.int .i64 k∧s=.string (sOf r)∧dec k++r=dec n∧Below w.heap.size w wr) (fun m _ _=>(intOf m).toNat)
 case atStart=>exact⟨n,[],Nat.le_refl _,rfl,rfl,by simp,Below.refl _ _⟩
 case round=>
  obtain⟨k,r,hk,rfl,rfl,hd,hbel⟩:=hrel;have hrl:r.length≤19:=by
   have:=Jj hn
   rw[←hd,List.length_append] at this;omega
  have HD:=zh hd;have HB:=zh hbel;clear hd hbel;by_cases h9:9<k
  ·have e1:((k:Int) / 10)=((k / 10:Nat):Int):=by omega
   have e2:((k:Int)%10)=((k%10:Nat):Int):=by omega
   obtain⟨x,hx⟩:∃ x,x=UInt8.ofNat (48+k%10):=⟨_,rfl⟩
   have hb:Q6 (wr.alloc (.cells #[.int .u8 (48+(k:Int)%10)] 5)) (.slice (some ⟨wr.heap.size,0,none⟩) 1 1) [x]:=by rw[e2,show (48+((k%10:Nat):Int))=((48+k%10:Nat):Int) by omega,Qh0 _ (by omega),←hx];exact bytes1 (fz:=(0,0)) (Zu _ _ _ rfl)
   have hcv:=Qep hb;have HX:=zh hx;have HE:=zh e1;clear hb e1 e2 hx;go_wp2;refine⟨⟨k / 10,x :: r,by omega,by rw[HE.o],by rw[Qwg],?_,HB.o.alloc HB.o.size _⟩,by simp[intOf];omega⟩;rw[←HD.o,Qwn (n:=k) (by omega),←HX.o];simp
  ·obtain⟨x,hx⟩:∃ x,x=UInt8.ofNat (48+k):=⟨_,rfl⟩
   have hb:Q6 (wr.alloc (.cells #[.int .u8 (48+(k:Int))] 5)) (.slice (some ⟨wr.heap.size,0,none⟩) 1 1) [x]:=by rw[show (48+(k:Int))=((48+k:Nat):Int) by omega,Qh0 _ (by omega),←hx];exact bytes1 (fz:=(0,0)) (Zu _ _ _ rfl)
   have hcv:=Qep hb;have HX:=zh hx;clear hb hx;go_wp2;go_ret;refine⟨?_,HB.o.alloc HB.o.size _⟩;rw[Qwg,←HD.o,Qmg (n:=k) (by omega),←HX.o];rfl
theorem Qjo (s p:ByteArray):Lib.hasPrefix s.data.toList p.data.toList=true↔p.size≤s.size∧s.extract 0 p.size=p:=by
 unfold Lib.hasPrefix;rw[List.isPrefixOf_iff_prefix];have hx:(s.extract 0 p.size).data.toList=s.data.toList.take p.size:=by simp
 constructor
 ·intro h
  have hl:=h.length_le;have h2:=List.prefix_iff_eq_take.1 h;refine⟨by simpa using hl,?_⟩;rw[←Qat (s.extract 0 p.size),hx,show p.size=p.data.toList.length by simp,←h2,Qat]
 ·rintro ⟨hl,h⟩
  rw[List.prefix_iff_eq_take,show p.data.toList.length=p.size by simp,←hx,h]
theorem Qyj (s p:ByteArray) (w:World) :
  Calls prog 163 #[.string s,.string p] w fun e w'=>e=.returned (.tuple #[.string (sOf (Jq s.data.toList p.data.toList).1),.bool (Jq s.data.toList p.data.toList).2])∧w=w':=by
 have hiff:=Qjo s p;unfold Jq;by_cases hl:s.size<p.size
 ·have hn:¬ Lib.hasPrefix s.data.toList p.data.toList=true:=fun h=>by have:=(hiff.1 h).1;omega
  have hd:decide ((s.size:Int)<(p.size:Int))=true:=decide_eq_true (by omega);rw[if_neg hn];clear hiff hn
  go_enter func163,ntmps163
  go_wp2;go_ret2;refine⟨?_,rfl⟩;show Ending.returned (.tuple #[.string s,.bool false])=_;rw[Qat]
 ·have hd:decide ((s.size:Int)<(p.size:Int))=false:=decide_eq_false (by omega)
  have hle:p.size≤s.size:=by omega
  by_cases he:s.extract 0 p.size=p
  ·rw[if_pos (hiff.2 ⟨hle,he⟩)]
   have hne:=Qao he;have hx:s.extract p.size s.size=sOf (s.data.toList.drop p.data.toList.length):=by
    rw[←Qat (s.extract p.size s.size)]
    congr 1
    simp;exact List.take_of_length_le (by simp)
   have HX:=zh hx;clear hiff he hx
   go_enter func163,ntmps163
   go_wp2;go_ret2;refine⟨?_,rfl⟩;rw[←HX.o];rfl
  ·have hn:¬ Lib.hasPrefix s.data.toList p.data.toList=true:=fun h=>he (hiff.1 h).2
   have hne:=J3 he;rw[if_neg hn];clear hiff hn he
   go_enter func163,ntmps163
   go_wp2;go_ret2;refine⟨?_,rfl⟩;show Ending.returned (.tuple #[.string s,.bool false])=_;rw[Qat]
variable {c:UInt8} {r:List UInt8} {a:Nat}
theorem Qw2 (h:Qad c) (hv:¬ (9223372036854775807-(c.toNat-48)) / 10<a):Qcx a (c :: r)=Qcx (10*a+(c.toNat-48)) r:=by unfold Qad at h;simp only[Qcx];rw[if_pos h,if_neg hv]
theorem Qxs (h:Qad c) (hv:(9223372036854775807-(c.toNat-48)) / 10<a):Qcx a (c :: r)=none:=by unfold Qad at h;simp only[Qcx];rw[if_pos h,if_pos hv]
theorem Qx6 (h:¬ Qad c):Qcx a (c :: r)=some (a,c :: r):=by unfold Qad at h;simp only[Qcx];rw[if_neg h]
variable {l:List UInt8}
theorem Qhj {k:Nat} (hk:k≤l.length) (h:Qcx 0 l=some (a,l.drop k)):Y0 l=(a,l.drop k,decide (0<k)):=by
 unfold Y0;rw[h];simp only[List.length_drop,Prod.mk.injEq,true_and];by_cases h0:0<k
 ·rw[decide_eq_true h0,decide_eq_true (by omega)]
 ·rw[decide_eq_false h0,decide_eq_false (by omega)]
theorem Qqh (h:Qcx 0 l=none):Y0 l=(0,l,false):=by unfold Y0;rw[h]
def Qmo (l:List UInt8) (w:World) (e:Ending) (w':World):Prop:=
 e=.returned (.tuple #[.int .i64 (Y0 l).1,.string (sOf (Y0 l).2.1),.bool (Y0 l).2.2])∧Below w.heap.size w w'
theorem Qy0 (s:ByteArray) (w:World) (hs:s.size≤9223372036854775806) :
  Calls prog 164 #[.string s] w (Qmo s.data.toList w):=by
 obtain⟨l,hl⟩:∃ l,l=s.data.toList:=⟨_,rfl⟩
 have hlen:l.length=s.size:=by rw[hl];simp
 have hget:∀ (k:Nat) (hk:k<s.size),l.drop k=s[k] :: l.drop (k+1):=by
  intro k hk;rw[List.drop_eq_getElem_cons (by omega)]
  congr 1
  subst hl;simp;rfl
 have hext:∀ k,s.extract k s.size=sOf (l.drop k):=by
  intro k;rw[←Qat (s.extract k s.size)]
  congr 1
  rw[hl];simp;exact List.take_of_length_le (by simp)
 have hself:s=sOf l:=by rw[hl,Qat]
 rw[←hl];have HG:=zh hget;have HE:=zh hext;have HL:=zh hlen;have HSF:=zh hself;clear hl hget hext hlen hself
 go_enter func164,ntmps164
 go_wp2
 go_loop [5,6,7] (fun vn vi _=>∃ (k a:Nat),k≤s.size∧vi=.int .i64 k∧vn=.int .i64 a∧a≤9223372036854775807∧Hid (Qcx 0 l=Qcx a (l.drop k))) (fun _ vi _=>s.size-(intOf vi).toNat)
 case atStart=>exact⟨0,0,by omega,rfl,rfl,by omega,zh rfl⟩
 case round=>
  obtain⟨k,a,hk,rfl,rfl,ha,hh⟩:=hrel;by_cases hlt:k<s.size
  ·have hd:=HG.o k hlt
   have hx:∀ (j:Nat) (hj:j<s.size),j=k→s[j].toNat=s[k].toNat:=by intro j hj e;subst e;rfl
   have hr:=hh.o;rw[hd] at hr;have HX:=zh (rfl:s[k]=s[k]);by_cases hdig:Qad s[k]
   ·obtain⟨h48,h57⟩:=id hdig
    have hc0:decide ((48:Int)≤(s[k].toNat:Int))=true:=decide_eq_true (by omega);have hc1:decide ((s[k].toNat:Int)≤(57:Int))=true:=decide_eq_true (by omega);by_cases hov:(9223372036854775807-(s[k].toNat-48)) / 10<a
    ·have hov':decide ((9223372036854775807-((s[k].toNat:Int)-48)) / 10<(a:Int))=true:=decide_eq_true (by omega)
     rw[Qxs hdig hov] at hr;have HR:=zh hr;clear hr hd hx hdig hov;go_wp2
     go_ret3
     unfold Qmo;rw[Qqh HR.o,←HSF.o];exact⟨rfl,Below.refl _ _⟩
    ·have hov':decide ((9223372036854775807-((s[k].toNat:Int)-48)) / 10<(a:Int))=false:=decide_eq_false (by omega)
     rw[Qw2 hdig hov] at hr;have hn:10*(a:Int)+((s[k].toNat:Int)-48)=((10*a+(s[k].toNat-48):Nat):Int):=by omega
     have hn2:10*a+(s[k].toNat-48)≤9223372036854775807:=by omega
     have HR:=zh hr;have HN:=zh hn;clear hr hd hx hdig hn;go_wp2;exact⟨⟨k+1,10*a+(s[k].toNat-48),by omega,by go_num,by rw[HN.o],hn2,HR⟩,by simp[intOf];omega⟩
   ·rw[Qx6 hdig,←hd] at hr
    have HR:=zh hr;by_cases h48:48≤s[k].toNat
    ·have hc0:decide ((48:Int)≤(s[k].toNat:Int))=true:=decide_eq_true (by omega)
     have hc1:decide ((s[k].toNat:Int)≤(57:Int))=false:=decide_eq_false (by unfold Qad at hdig;omega);clear hr hd hx hdig
     go_wp2_with fail
     go_region;go_wp2
     go_ret3
     unfold Qmo;rw[Qhj (by rw[HL.o];exact hk) HR.o,HE.o];exact⟨rfl,Za (Below.refl _ _) _⟩
    ·have hc0:decide ((48:Int)≤(s[k].toNat:Int))=false:=decide_eq_false (by omega)
     clear hr hd hx hdig
     go_wp2_with fail
     go_region;go_wp2
     go_ret3
     unfold Qmo;rw[Qhj (by rw[HL.o];exact hk) HR.o,HE.o];exact⟨rfl,Za (Below.refl _ _) _⟩
  ·have hnil:Qcx a (l.drop k)=some (a,l.drop k):=by rw[List.drop_eq_nil_of_le (by rw[HL.o];omega)];rfl
   have HR:=zh (hh.o.trans hnil);clear hnil
   go_wp2_with fail
   go_region;go_wp2
   go_ret3
   unfold Qmo;rw[Qhj (by rw[HL.o];exact hk) HR.o,HE.o];exact⟨rfl,Za (Below.refl _ _) _⟩
end
section
theorem Qgg {a b:ByteArray} (h:a=b):Ending.returned (.string a)=.returned (.string b):=by rw[h]
theorem Qi6 (l i wd:Int) (w:World) (hi:i<9223372036854775808) :
  Calls prog 113 #[.int .i64 l,.int .i64 i,.int .i64 wd] w fun e w'=>e=.returned (.string (sOf (Y6 l i wd)))∧Below w.heap.size w w':=by
 by_cases hok:Jm l i wd
 ·have hbody:=Qbf hok
  obtain⟨h1,h2,h3,h4,h5⟩:=hok;have d1:decide (l < -1)=false:=decide_eq_false (by omega);have d2:decide (20<l)=false:=decide_eq_false (by omega);have d3:decide (i<0)=false:=decide_eq_false (by omega);have d4:decide (wd<1)=false:=decide_eq_false (by omega);have d5:decide (4<wd)=false:=decide_eq_false (by omega);obtain⟨k,rfl⟩:∃ k:Nat,i=k:=⟨i.toNat,by omega⟩
  obtain⟨x,rfl⟩:∃ x:Nat,wd=x:=⟨wd.toNat,by omega⟩
  have hk:(dec k).length≤19:=Jj (by omega);have hx:(dec x).length≤19:=Jj (by omega);have hkb:k<9223372036854775808:=by omega
  have hxb:x<9223372036854775808:=by omega
  unfold Ji at hbody;rw[Int.toNat_natCast,Int.toNat_natCast] at hbody;by_cases hl:0≤l
  ·obtain⟨j,rfl⟩:∃ j:Nat,l=j:=⟨l.toNat,by omega⟩
   have hj:(dec j).length≤19:=Jj (by omega);have hjb:j<9223372036854775808:=by omega
   rw[if_pos hl,Int.toNat_natCast] at hbody;by_cases h4':(x:Int)<4
   ·have d6:decide ((x:Int)<4)=true:=decide_eq_true h4'
    have d7:decide ((0:Int)≤(j:Int))=true:=decide_eq_true hl;rw[if_pos h4'] at hbody;have HBody:=zh hbody;clear hbody
    go_enter func113,ntmps113
    go_wp2_with fail
    refine (Qaq j _ hjb).mono ?_;rintro e w1 ⟨rfl,hb1⟩
    go_wp2_with fail
    refine (Qaq k _ hkb).mono ?_;rintro e w2 ⟨rfl,hb2⟩
    go_wp2_with fail
    refine (Qaq x _ hxb).mono ?_;rintro e w3 ⟨rfl,hb3⟩;go_wp2;go_ret;refine⟨?_,(hb1.trans (hb2.mono hb1.size)).trans (hb3.mono (Nat.le_trans hb1.size hb2.size))⟩;rw[HBody.o];refine Qgg ?_;apply ByteArray.ext;simp[kT,kP]
   ·have d6:decide ((x:Int)<4)=false:=decide_eq_false h4'
    have d7:decide ((0:Int)≤(j:Int))=true:=decide_eq_true hl;rw[if_neg h4'] at hbody;have HBody:=zh hbody;clear hbody
    go_enter func113,ntmps113
    go_wp2_with fail
    refine (Qaq j _ hjb).mono ?_;rintro e w1 ⟨rfl,hb1⟩
    go_wp2_with fail
    refine (Qaq k _ hkb).mono ?_;rintro e w2 ⟨rfl,hb2⟩;go_wp2;go_ret;refine⟨?_,hb1.trans (hb2.mono hb1.size)⟩;rw[HBody.o];refine Qgg ?_;apply ByteArray.ext;simp[kT]
  ·rw[if_neg hl] at hbody
   have d7:decide ((0:Int)≤l)=false:=decide_eq_false hl;by_cases h4':(x:Int)<4
   ·have d6:decide ((x:Int)<4)=true:=decide_eq_true h4'
    rw[if_pos h4'] at hbody;have HBody:=zh hbody;clear hbody
    go_enter func113,ntmps113
    go_wp2_with fail
    refine (Qaq k _ hkb).mono ?_;rintro e w2 ⟨rfl,hb2⟩
    go_wp2_with fail
    refine (Qaq x _ hxb).mono ?_;rintro e w3 ⟨rfl,hb3⟩;go_wp2;go_ret;refine⟨?_,hb2.trans (hb3.mono hb2.size)⟩;rw[HBody.o];refine Qgg ?_;apply ByteArray.ext;simp[kE,kP]
   ·have d6:decide ((x:Int)<4)=false:=decide_eq_false h4'
    rw[if_neg h4'] at hbody;have HBody:=zh hbody;clear hbody
    go_enter func113,ntmps113
    go_wp2_with fail
    refine (Qaq k _ hkb).mono ?_;rintro e w2 ⟨rfl,hb2⟩;go_wp2;go_ret;refine⟨?_,hb2⟩;rw[HBody.o];refine Qgg ?_;apply ByteArray.ext;simp[kE]
 ·have hno:Y6 l i wd = []:=by unfold Y6;rw[if_neg hok]
  rw[hno];have hway:(decide (l < -1)=true)∨(decide (l < -1)=false∧decide (20<l)=true)∨(decide (l < -1)=false∧decide (20<l)=false∧decide (i<0)=true)∨
    (decide (l < -1)=false∧decide (20<l)=false∧decide (i<0)=false∧decide (wd<1)=true)∨
    (decide (l < -1)=false∧decide (20<l)=false∧decide (i<0)=false∧decide (wd<1)=false∧decide (4<wd)=true):=by
   unfold Jm at hok;simp only[decide_eq_true_eq,decide_eq_false_iff_not];omega
  clear hok hno;rcases hway with h|⟨h,h'⟩|⟨h,h',h''⟩|⟨h,h',h'',h3⟩|⟨h,h',h'',h3,h4⟩
  all_goals
   go_enter func113,ntmps113
   go_wp2;go_ret;exact⟨rfl,Below.refl _ _⟩
end
end Go.Proofs.YtefccfakhgdfbabGreatDoor
