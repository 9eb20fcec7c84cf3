/- What stands in a store that has been published to, and what a transport of it tells: plain. Conditions: at most 2^20 entries of at most 20 bytes. -/
import Derived.Test.YtefccfakhgdfbaaGreatDoorLi02
set_option linter.unusedVariables false
set_option linter.unusedSimpArgs false
open Go.RowKit Go.Proofs.Tryz
set_option maxRecDepth 100000
set_option maxHeartbeats 4000000
namespace Go.Proofs.YtefccfakhgdfbaaGreatDoor
section
def Yp (i w:Nat):ByteArray:=sOf (Y4 (-1) i w)
def Z9 (l:List Fil) (i w:Nat):Option (List (List UInt8)):=(getF l (Yp i w)).bind fun b=>(Qr b.data.toList).bind fun e=>if e.length=w then some e else none
variable {l:List Fil} {i w:Nat}
theorem Qfv (h:getF l (Yp i w)=none):Z9 l i w=none:=by unfold Z9;rw[h];rfl
variable {b:ByteArray}
theorem Qmj (h:getF l (Yp i w)=some b) (hb:Qr b.data.toList=none):Z9 l i w=none:=by unfold Z9;rw[h,Option.bind_some,hb];rfl
variable {e:List (List UInt8)}
theorem Qjx (h:getF l (Yp i w)=some b) (hb:Qr b.data.toList=some e):Z9 l i w=if e.length=w then some e else none:=by unfold Z9;rw[h,Option.bind_some,hb];rfl
theorem Yq {b:List UInt8} (h:Qr b=some e):0<e.length∧e.length≤4∧∀ x∈e,x.length≤20:=by
 unfold Qr at h;cases hr:rawU b with
 | none=>rw[hr] at h;simp at h
 | some ls=>
  rw[hr,Option.bind_some] at h
  split at h
  ·rename_i hs
   cases h;unfold Yn at hs
   split at hs
   ·simp at hs
   ·rename_i h0
    split at hs
    ·rename_i ha
     refine⟨by omega,by omega,fun x hx=>?_⟩;exact of_decide_eq_true (List.all_eq_true.1 ha x hx)
    ·simp at hs
  ·cases h
theorem Qaw (h:Z9 l i w=some e):e.length=w∧0<w∧w≤4∧(∀ x∈e,x.length≤20)∧∃ b,getF l (Yp i w)=some b:=by
 cases hg:getF l (Yp i w) with
 | none=>rw[Qfv hg] at h;cases h
 | some b=>
  cases hb:Qr b.data.toList with
  | none=>rw[Qmj hg hb] at h;cases h
  | some e'=>
   rw[Qjx hg hb] at h
   split at h
   ·rename_i hw
    cases h;obtain⟨h1,h2,h3⟩:=Yq hb;exact⟨hw,by omega,by omega,h3,b,rfl⟩
   ·cases h
def Qbx (l:List Fil) (n:Nat):Nat→Nat→List (List UInt8)→List (List UInt8)×Option Nat
 | 0,_,d=>(d,none)
 | m+1,i,d=>match Z9 l i (min 4 (n-4*i)) with
  | none=>(d,some i)
  | some e=>Qbx l n m (i+1) (d++e)
def Z0 (l:List Fil) (d:List (List UInt8)):Nat→List (List UInt8)×Bool
 | 0=>([],false)
 | w+1=>if w+1≤d.length%4 then ([],false) else
   if (getF l (Yp (d.length / 4) (w+1))).isNone then Z0 l d w else
   match Z9 l (d.length / 4) (w+1) with
   | none=>([],false)
   | some e=>if e.take (d.length%4)=d.drop (4*(d.length / 4)) then (e.drop (d.length%4),decide (w+1=4)) else ([],false)
def Zo (l:List Fil) (d:List (List UInt8)):List (List UInt8)×Bool:=Z0 l d 4
inductive Goes (l:List Fil):List (List UInt8)→List (List UInt8)→Prop where
 | stop {d:List (List UInt8)}:(Zo l d).2=false→Goes l d (d++(Zo l d).1)
 | more {d r:List (List UInt8)}:(Zo l d).2=true→Goes l (d++(Zo l d).1) r→Goes l d r
variable {d:List (List UInt8)}
theorem Goes.one {a b:List (List UInt8)} (h:Goes l d a) (k:Goes l d b):a=b:=by
 induction h with
 | stop h1=>
  cases k with
  | stop=>rfl
  | more k1 _=>rw[h1] at k1;cases k1
 | more h1 _ ih=>
  cases k with
  | stop k1=>rw[h1] at k1;cases k1
  | more _ k2=>exact ih k2
def Yt (l:List Fil) (key:ByteArray):Option (Nat×Hsh):=match getF l (sOf kCp) with
 | none=>some (0,hash [])
 | some b=>if (Zw b.data.toList key.data.toList).2.2=true then some ((Zw b.data.toList key.data.toList).1.toNat,(Zw b.data.toList key.data.toList).2.1) else none
inductive Opn where
 | bad (k:Nat) (p:ByteArray)
 | good (es:List (List UInt8)) (n:Nat)
inductive Yh (l:List Fil) (key:ByteArray):Opn→Prop where
 | checkpoint:Yt l key=none→Yh l key (.bad 3 ⟨#[]⟩)
 | tile {n:Nat} {root:Hsh} {d:List (List UInt8)} {i:Nat}:Yt l key=some (n,root)→Qbx l n ((n+3) / 4) 0 []=(d,some i)→Yh l key (.bad 6 (Yp i (min 4 (n-4*i))))
 | proof {n:Nat} {root:Hsh} {d:List (List UInt8)}:Yt l key=some (n,root)→Qbx l n ((n+3) / 4) 0 []=(d,none)→rootOf d≠root→Yh l key (.bad 5 ⟨#[]⟩)
 | fine {n:Nat} {root:Hsh} {d r:List (List UInt8)}:Yt l key=some (n,root)→Qbx l n ((n+3) / 4) 0 []=(d,none)→rootOf d=root→Goes l d r→Yh l key (.good r n)
variable {key:ByteArray}
theorem Yh.one {a b:Opn} (h:Yh l key a) (k:Yh l key b):a=b:=by
 cases h with
 | checkpoint h1=>
  cases k with
  | checkpoint=>rfl
  | tile k1=>rw[h1] at k1;cases k1
  | proof k1=>rw[h1] at k1;cases k1
  | fine k1=>rw[h1] at k1;cases k1
 | tile h1 h2=>
  cases k with
  | checkpoint k1=>rw[h1] at k1;cases k1
  | tile k1 k2=>rw[h1] at k1;cases k1;rw[h2] at k2;cases k2;rfl
  | proof k1 k2=>rw[h1] at k1;cases k1;rw[h2] at k2;cases k2
  | fine k1 k2=>rw[h1] at k1;cases k1;rw[h2] at k2;cases k2
 | proof h1 h2 h3=>
  cases k with
  | checkpoint k1=>rw[h1] at k1;cases k1
  | tile k1 k2=>rw[h1] at k1;cases k1;rw[h2] at k2;cases k2
  | proof k1 k2=>rfl
  | fine k1 k2 k3=>rw[h1] at k1;cases k1;rw[h2] at k2;cases k2;exact absurd k3 h3
 | fine h1 h2 h3 h4=>
  cases k with
  | checkpoint k1=>rw[h1] at k1;cases k1
  | tile k1 k2=>rw[h1] at k1;cases k1;rw[h2] at k2;cases k2
  | proof k1 k2 k3=>rw[h1] at k1;cases k1;rw[h2] at k2;cases k2;exact absurd h3 k3
  | fine k1 k2 k3 k4=>rw[h1] at k1;cases k1;rw[h2] at k2;cases k2;rw[h4.one k4]
def Has (l:List Fil) (i:Nat):Prop:=∃ w,1≤w∧w≤4∧∃ b,getF l (Yp i w)=some b
def FewB (l:List Fil) (N:Nat):Prop:=∀ m,(∀ i,i<m→Has l i)→m≤N
theorem pigeon:∀ (U:List Nat) (m:Nat),(∀ i,i<m→i∈U)→m≤U.length:=by
 intro U m
 induction m generalizing U with
 | zero=>intro _;omega
 | succ m ih=>
  intro h;have hm:=h m (by omega)
  have:=ih (U.erase m) fun i hi=>by rw[List.mem_erase_of_ne (by omega)];exact h i (by omega)
  rw[List.length_erase_of_mem hm] at this
  have:=List.length_pos_of_mem hm
  omega
theorem Q86 {U:List Nat} (h:∀ i,i<9223372036854775808→Has l i→i∈U) (hU:U.length<9223372036854775808):FewB l U.length:=by
 intro m hm;rcases Nat.lt_or_ge m 9223372036854775808 with h1|h1
 ·exact pigeon U m fun i hi=>h i (by omega) (hm i hi)
 ·have:=pigeon U 9223372036854775808 fun i hi=>h i hi (hm i (by omega))
  omega
structure Qa9 (l:List Fil) (d:List (List UInt8)):Prop where
 short:∀ e∈d,e.length≤20
 has:∀ i,4*i<d.length→Has l i
theorem Qa9.few {N:Nat} (h:Qa9 l d) (hN:FewB l N):d.length≤4*N:=by
 have:=hN ((d.length+3) / 4) fun i hi=>h.has i (by omega)
 omega
theorem Qa9.nil (l:List Fil):Qa9 l []:=⟨fun _ h=>by simp at h,fun i h=>by simp at h⟩
theorem Qa9.step (h:Qa9 l d) (hd:d.length=4*i) (hb:Z9 l i w=some e):Qa9 l (d++e):=by
 obtain⟨h1,h2,h3,h4,b,h5⟩:=Qaw hb;refine⟨fun x hx=>?_,fun j hj=>?_⟩
 ·rcases List.mem_append.1 hx with hx|hx
  ·exact h.short x hx
  ·exact h4 x hx
 ·rw[List.length_append] at hj
  rcases Nat.lt_or_ge j i with a|a
  ·exact h.has j (by omega)
  ·exact⟨w,h2,h3,b,by rw[show j=i by omega];exact h5⟩
theorem Qa9.further (h:Qa9 l d):∀ w,w≤4→Qa9 l (d++(Z0 l d w).1)∧((Z0 l d w).2=true→(d++(Z0 l d w).1).length=4*(d.length / 4+1))
 | 0,_=>by simp only[Z0,List.append_nil];exact⟨h,fun h=>by cases h⟩
 | w+1,hw=>by
   rw[Z0]
   split
   ·rw[List.append_nil];exact⟨h,fun h=>by cases h⟩
   ·rename_i h0
    split
    ·exact h.further w (by omega)
    ·cases hb:Z9 l (d.length / 4) (w+1) with
     | none=>simp only[List.append_nil];exact⟨h,fun h=>by cases h⟩
     | some e=>
      simp only[]
      split
      ·rename_i he
       obtain⟨h1,h2,h3,h4,b,h5⟩:=Qaw hb
       refine⟨⟨fun x hx=>?_,fun j hj=>?_⟩,fun ht=>?_⟩
       ·rcases List.mem_append.1 hx with hx|hx
        ·exact h.short x hx
        ·exact h4 x (List.mem_of_mem_drop hx)
       ·rw[List.length_append,List.length_drop] at hj
        rcases Nat.lt_or_ge j (d.length / 4) with a|a
        ·exact h.has j (by omega)
        ·exact⟨w+1,h2,h3,b,by rw[show j=d.length / 4 by omega];exact h5⟩
       ·have:=of_decide_eq_true ht
        rw[List.length_append,List.length_drop]
        omega
      ·rw[List.append_nil];exact⟨h,fun h=>by cases h⟩
theorem Qa9.goes {r:List (List UInt8)} (h:Qa9 l d) (hg:Goes l d r):Qa9 l r:=by
 induction hg with
 | stop _=>exact (h.further 4 (by omega)).1
 | more _ _ ih=>exact ih (h.further 4 (by omega)).1
variable {n:Nat}
theorem Qa9.load:∀ (m i:Nat) (d:List (List UInt8)),Qa9 l d→d.length=min n (4*i)→4*(m+i)<n+4→Qa9 l (Qbx l n m i d).1
 | 0,_,d,h,_,_=>h
 | m+1,i,d,h,hd,hm=>by
   rw[Qbx]
   cases hb:Z9 l i (min 4 (n-4*i)) with
   | none=>exact h
   | some e=>
    obtain⟨h1,h2,h3,h4,b,h5⟩:=Qaw hb
    exact Qa9.load m (i+1) (d++e) (h.step (by omega) hb) (by rw[List.length_append];omega) (by omega)
theorem Yh.taken {es:List (List UInt8)} (h:Yh l key (.good es n)):Qa9 l es:=by
 cases h with
 | fine h1 h2 h3 h4=>
  have:=Qa9.load (l:=l) (n:=n) ((n+3) / 4) 0 [] (Qa9.nil l) (by simp) (by omega)
  rw[h2] at this;exact this.goes h4
end
section
theorem Qjr (m n:Nat) (whole:Option Hsh):roots m n whole []=if m=n then whole.map fun a=>(a,a) else none:=by simp[roots,Ql5]
theorem Qfm (m n:Nat) (whole:Option Hsh) (q:List Hsh) (r:Hsh):roots m n whole (q ++ [r])=if m=n then (match whole with|some _=>none|none=>if q = [] then some (r,r) else none)
   else if m≤below n then (roots m (below n) whole q).map fun x=>(x.1,Z1 x.2 r) else (roots (m-below n) (n-below n) none q).map fun x=>(Z1 r x.1,Z1 r x.2):=by
 unfold roots below;rw[List.reverse_append];simp only[List.reverse_cons,List.reverse_nil,List.nil_append,List.singleton_append,Ql5];cases whole <;> simp
theorem Qke (m:Nat) (a:Hsh) (p:List Hsh):roots m m (some a) p=if p.length=0 then some (a,a) else none:=by
 rcases List.eq_nil_or_concat p with rfl|⟨q,r,rfl⟩
 ·simp[Qjr]
 ·rw[List.concat_eq_append] at *
  rw[Qfm,if_pos rfl];simp
theorem Qo2 (m:Nat) (r:Hsh):roots m m none [r]=some (r,r):=by
 have:=Qfm m m none [] r
 simpa using this
theorem Qsa (m:Nat) (p:List Hsh) (h:p.length≠1):roots m m none p=none:=by
 rcases List.eq_nil_or_concat p with rfl|⟨q,r,rfl⟩
 ·simp[Qjr]
 ·rw[List.concat_eq_append] at *
  rw[Qfm,if_pos rfl]
  have:q≠[]:=by intro e;subst e;simp at h
  simp[this]
end
section
def Qky:Nat→List (List UInt8)→Nat→List Hsh
 | 0,_,_=>[]
 | f+1,l,i=>if l.length≤1 then [] else if i<below l.length then Qky f (l.take (below l.length)) i ++ [rootOf (l.drop (below l.length))]
   else Qky f (l.drop (below l.length)) (i-below l.length) ++ [rootOf (l.take (below l.length))]
def Qav (l:List (List UInt8)) (i:Nat):List Hsh:=Qky l.length l i
def Qq0:Nat→Nat→List (List UInt8)→Bool→List Hsh
 | 0,_,_,_=>[]
 | f+1,m,l,whole=>if m=l.length then (if whole then [] else [rootOf l]) else if m≤below l.length then Qq0 f m (l.take (below l.length)) whole ++ [rootOf (l.drop (below l.length))]
   else Qq0 f (m-below l.length) (l.drop (below l.length)) false ++ [rootOf (l.take (below l.length))]
def Qkg (m:Nat) (l:List (List UInt8)) (whole:Bool):List Hsh:=Qq0 l.length m l whole
theorem Qgv:∀ (f g:Nat) (l:List (List UInt8)) (i:Nat),l.length≤f→l.length≤g→Qky f l i=Qky g l i
 | 0,0,_,_,_,_=>rfl
 | 0,g+1,l,i,h,_=>by
  have:l.length=0:=by omega
  simp[Qky,this]
 | f+1,0,l,i,_,h=>by
  have:l.length=0:=by omega
  simp[Qky,this]
 | f+1,g+1,l,i,h1,h2=>by
  simp only[Qky]
  split
  ·rfl
  ·have hb:=Yi (n:=l.length) (by omega)
   rw[Qgv f g _ i (by simp;omega) (by simp;omega),Qgv f g (l.drop _) _ (by simp;omega) (by simp;omega)]
theorem Qgl:∀ (f g m:Nat) (l:List (List UInt8)) (b:Bool),1≤m→m≤l.length→l.length≤f→l.length≤g→Qq0 f m l b=Qq0 g m l b
 | 0,_,_,l,_,h0,_,h,_=>by omega
 | f+1,0,_,l,_,h0,_,_,h=>by omega
 | f+1,g+1,m,l,b,h0,hm,h1,h2=>by
  simp only[Qq0]
  split
  ·rfl
  ·have hb:=Yi (n:=l.length) (by omega)
   split
   ·rw[Qgl f g m _ b h0 (by simp;omega) (by simp;omega) (by simp;omega)]
   ·rw[Qgl f g _ (l.drop _) _ (by omega) (by simp;omega) (by simp;omega) (by simp;omega)]
theorem Qlk:∀ (f:Nat) (l:List (List UInt8)) (i:Nat),(Qky f l i).length≤f
 | 0,_,_=>Nat.le_refl _
 | f+1,l,i=>by
  simp only[Qky]
  split
  ·simp
  ·split
   ·have:=Qlk f (l.take (below l.length)) i;simp;omega
   ·have:=Qlk f (l.drop (below l.length)) (i-below l.length);simp;omega
theorem Qjh (l:List (List UInt8)) (i:Nat):(Qav l i).length≤l.length:=Qlk _ _ _
variable {l:List (List UInt8)}
theorem Qov (h:l.length≤1) (i:Nat):Qav l i = []:=by
 unfold Qav;rcases Nat.lt_or_ge 0 l.length with h0|h0
 ·obtain⟨n,hn⟩:∃ n,l.length=n+1:=⟨l.length-1,by omega⟩
  rw[hn];simp only[Qky];rw[if_pos h]
 ·rw[show l.length=0 by omega];rfl
theorem Qhm (h:2≤l.length) (i:Nat):Qav l i=if i<below l.length then Qav (l.take (below l.length)) i ++ [rootOf (l.drop (below l.length))]
   else Qav (l.drop (below l.length)) (i-below l.length) ++ [rootOf (l.take (below l.length))]:=by
 unfold Qav;have hb:=Yi h;obtain⟨n,hn⟩:∃ n,l.length=n+1:=⟨l.length-1,by omega⟩
 rw[hn];simp only[Qky];rw[if_neg (by omega),hn];rw[hn] at hb;rw[Qgv n _ (l.take _) i (by simp;omega) (Nat.le_refl _),Qgv n _ (l.drop _) _ (by simp;omega) (Nat.le_refl _)]
theorem Qxn (l:List (List UInt8)) (b:Bool) (h:1≤l.length):Qkg l.length l b=if b then [] else [rootOf l]:=by
 unfold Qkg;obtain⟨n,hn⟩:∃ n,l.length=n+1:=⟨l.length-1,by omega⟩
 rw[hn];simp only[Qq0];rw[if_pos hn.symm]
theorem Qts {m:Nat} (h1:1≤m) (h:m<l.length) (b:Bool):Qkg m l b=if m≤below l.length then Qkg m (l.take (below l.length)) b ++ [rootOf (l.drop (below l.length))]
   else Qkg (m-below l.length) (l.drop (below l.length)) false ++ [rootOf (l.take (below l.length))]:=by
 unfold Qkg;have hb:=Yi (n:=l.length) (by omega);obtain⟨n,hn⟩:∃ n,l.length=n+1:=⟨l.length-1,by omega⟩
 rw[hn];simp only[Qq0];rw[if_neg (by omega),hn];rw[hn] at hb
 split
 ·rw[Qgl n _ m (l.take _) b h1 (by simp;omega) (by simp;omega) (Nat.le_refl _)]
 ·rw[Qgl n _ _ (l.drop _) _ (by omega) (by simp;omega) (by simp;omega) (Nat.le_refl _)]
def Yx:Nat→Nat→Nat→Nat→List (Nat×Nat)
 | 0,_,_,_=>[]
 | f+1,a,b,i=>if b-a≤1 then [] else if i<a+below (b-a) then (a+below (b-a),b) :: Yx f a (a+below (b-a)) i else (a,a+below (b-a)) :: Yx f (a+below (b-a)) b i
def Yb:Nat→Nat→Nat→Nat→List (Nat×Nat)
 | 0,_,_,_=>[]
 | f+1,a,b,m=>if b≤m then (if 0<a then [(a,b)] else []) else if m≤a+below (b-a) then (a+below (b-a),b) :: Yb f a (a+below (b-a)) m else (a,a+below (b-a)) :: Yb f (a+below (b-a)) b m
def part (l:List (List UInt8)) (a b:Nat):List (List UInt8):=(l.drop a).take (b-a)
variable {a b:Nat}
theorem Qp5 (hb:b≤l.length):(part l a b).length=b-a:=by unfold part;rw[List.length_take,List.length_drop];omega
variable {k:Nat}
theorem Qf3 (hk:a+k≤b):(part l a b).take k=part l a (a+k):=by unfold part;rw[List.take_take];congr 1;omega
theorem Qft:(part l a b).drop k=part l (a+k) b:=by unfold part;rw[List.drop_take,List.drop_drop];congr 1;omega
theorem Qqs (l:List (List UInt8)):∀ (f a b i:Nat),b-a≤f→a≤i→i<b→b≤l.length→(Yx f a b i).reverse.map (fun x=>rootOf (part l x.1 x.2))=Qav (part l a b) (i-a)
 | 0,a,b,i,h,h1,h2,_=>by omega
 | f+1,a,b,i,h,h1,h2,h3=>by
  have hl:=Qp5 (l:=l) (a:=a) h3
  simp only[Yx]
  by_cases h4:b-a≤1
  ·rw[if_pos h4,Qov (by omega)];rfl
  ·rw[if_neg h4,Qhm (by omega),hl]
   have hb:=Yi (n:=b-a) (by omega)
   by_cases h5:i<a+below (b-a)
   ·rw[if_pos h5,if_pos (by omega),List.reverse_cons,List.map_append,Qqs l f a _ i (by omega) h1 h5 (by omega),Qf3 (by omega),Qft]
    rfl
   ·rw[if_neg h5,if_neg (by omega),List.reverse_cons,List.map_append,Qqs l f _ b i (by omega) (by omega) h2 h3,Qf3 (by omega),Qft]
    rw[show i-(a+below (b-a))=i-a-below (b-a) by omega]
    rfl
theorem Qp6 (l:List (List UInt8)):∀ (f a b m:Nat),b-a≤f→a<m→m≤b→b≤l.length→(Yb f a b m).reverse.map (fun x=>rootOf (part l x.1 x.2))=Qkg (m-a) (part l a b) (a == 0)
 | 0,a,b,m,h,h1,h2,_=>by omega
 | f+1,a,b,m,h,h1,h2,h3=>by
  have hl:=Qp5 (l:=l) (a:=a) h3
  simp only[Yb]
  by_cases h4:b≤m
  ·obtain rfl:b=m:=by omega
   have:=Qxn (part l a b) (a == 0) (by omega)
   rw[hl] at this
   rw[if_pos h4,this]
   rcases Nat.eq_zero_or_pos a with rfl|h0
   ·simp
   ·have:(a == 0)=false:=by simp;omega
    simp[this,h0]
  ·have hb:=Yi (n:=b-a) (by omega)
   rw[if_neg h4,Qts (by omega) (by omega),hl]
   by_cases h5:m≤a+below (b-a)
   ·rw[if_pos h5,if_pos (by omega),List.reverse_cons,List.map_append,Qp6 l f a _ m (by omega) h1 h5 (by omega),Qf3 (by omega),Qft]
    rfl
   ·rw[if_neg h5,if_neg (by omega),List.reverse_cons,List.map_append,Qp6 l f _ b m (by omega) (by omega) h2 h3,Qf3 (by omega),Qft]
    rw[show m-(a+below (b-a))=m-a-below (b-a) by omega,show (a+below (b-a) == 0)=false by simp;omega]
    rfl
theorem Qeq:∀ (f a b i:Nat),b-a≤f→a≤i→i<b→∀ x∈Yx f a b i,x.1<x.2∧x.2≤b
 | 0,a,b,i,h,h1,h2,x,hx=>by simp[Yx] at hx
 | f+1,a,b,i,h,h1,h2,x,hx=>by
  simp only[Yx] at hx
  split at hx
  ·simp at hx
  ·have hb:=Yi (n:=b-a) (by omega)
   split at hx
   ·rcases List.mem_cons.1 hx with rfl|hx
    ·exact⟨by show a+below (b-a)<b;omega,Nat.le_refl _⟩
    ·have:=Qeq f a _ i (by omega) h1 (by assumption) x hx
     exact⟨this.1,by omega⟩
   ·rcases List.mem_cons.1 hx with rfl|hx
    ·exact⟨by show a<a+below (b-a);omega,by show a+below (b-a)≤b;omega⟩
    ·exact Qeq f _ b i (by omega) (by omega) h2 x hx
theorem Qdx:∀ (f a b m:Nat),b-a≤f→a<m→m≤b→∀ x∈Yb f a b m,x.1<x.2∧x.2≤b
 | 0,a,b,m,h,h1,h2,x,hx=>by simp[Yb] at hx
 | f+1,a,b,m,h,h1,h2,x,hx=>by
  simp only[Yb] at hx
  split at hx
  ·split at hx
   ·simp at hx;subst hx;exact⟨by show a<b;omega,Nat.le_refl _⟩
   ·simp at hx
  ·have hb:=Yi (n:=b-a) (by omega)
   split at hx
   ·rcases List.mem_cons.1 hx with rfl|hx
    ·exact⟨by show a+below (b-a)<b;omega,Nat.le_refl _⟩
    ·have:=Qdx f a _ m (by omega) h1 (by assumption) x hx
     exact⟨this.1,by omega⟩
   ·rcases List.mem_cons.1 hx with rfl|hx
    ·exact⟨by show a<a+below (b-a);omega,by show a+below (b-a)≤b;omega⟩
    ·exact Qdx f _ b m (by omega) (by omega) h2 x hx
theorem Qik (leaf last:Hsh) (i n:Nat) (q:List Hsh):rebuild leaf i n (q ++ [last])=if n=1 then none else if i<below n then (rebuild leaf i (below n) q).map (Z1 · last) else (rebuild leaf (i-below n) (n-below n) q).map (Z1 last ·):=by unfold rebuild below;rw[List.reverse_append];rfl
theorem Qfu:∀ (f:Nat) (l:List (List UInt8)) (i:Nat),l.length≤f→i<l.length→rebuild (Jx (l.getD i [])) i l.length (Qav l i)=some (rootOf l)
 | 0,l,i,h1,h=>by omega
 | f+1,l,i,h1,h=>by
  by_cases h2:2≤l.length
  ·have hb:=Yi h2
   rw[Qhm h2,Qd3 h2]
   by_cases h3:i<below l.length
   ·rw[if_pos h3,Qik,if_neg (by omega),if_pos h3]
    have:=Qfu f (l.take (below l.length)) i (by simp;omega) (by simp;omega)
    have he:(l.take (below l.length)).getD i []=l.getD i []:=by simp[List.getD_eq_getElem?_getD,h3]
    rw[he,List.length_take,Nat.min_eq_left (by omega)] at this
    rw[this];rfl
   ·rw[if_neg h3,Qik,if_neg (by omega),if_neg h3]
    have:=Qfu f (l.drop (below l.length)) (i-below l.length) (by simp;omega) (by simp;omega)
    have he:(l.drop (below l.length)).getD (i-below l.length) []=l.getD i []:=by rw[List.getD_eq_getElem?_getD,List.getD_eq_getElem?_getD,List.getElem?_drop];congr 2;omega
    rw[he,List.length_drop] at this
    rw[this];rfl
  ·obtain⟨e,rfl⟩:∃ e,l = [e]:=List.length_eq_one_iff.1 (by omega)
   simp only[List.length_cons,List.length_nil] at h
   obtain rfl:i=0:=by omega
   rfl
end
section
theorem Qt3 (a b:Nat) (ha:a<9223372036854775808) (hb:b<9223372036854775808):bits .and .i64 (a:Int) (b:Int)=((a &&& b:Nat):Int):=by
 have h1:(BitVec.ofInt 64 (a:Int)).toNat=a:=by rw[BitVec.ofInt_natCast,BitVec.toNat_ofNat];exact Nat.mod_eq_of_lt (by omega)
 have h2:(BitVec.ofInt 64 (b:Int)).toNat=b:=by rw[BitVec.ofInt_natCast,BitVec.toNat_ofNat];exact Nat.mod_eq_of_lt (by omega)
 have h3:a &&& b≤a:=Nat.and_le_left;show IntKind.i64.wrap ((BitVec.ofInt 64 (a:Int) &&& BitVec.ofInt 64 (b:Int)).toNat:Int)=_;rw[BitVec.toNat_and,h1,h2];generalize a &&& b=c at *;simp[IntKind.wrap,IntKind.bits,IntKind.signed];omega
theorem Qdb {n:Nat} (h1:1≤n) (hn:n<2 ^ 64) (h:n &&& (n-1)=0):n=2 ^ (Lib.bitLen n-1):=by
 obtain⟨e,he⟩:∃ e,e=Lib.bitLen n-1:=⟨_,rfl⟩
 have hb:=Lib.bitLenAux_bounds 64 n hn (by omega);have a:2 ^ e≤n∧n<2 ^ e*2:=by
  rw[he];have hs:Lib.bitLen n=Lib.bitLenAux 64 n:=rfl;rw[hs];obtain⟨a1,a2,a3⟩:=hb;refine⟨a2,?_⟩;rw[←Nat.pow_succ]
  have:(Lib.bitLenAux 64 n-1).succ=Lib.bitLenAux 64 n:=by omega
  rw[this];exact a3
 rw[←he];rcases Nat.lt_or_ge (2 ^ e) n with c|b
 ·exfalso
  have t1:n.testBit e=true:=by rw[Nat.testBit_eq_decide_div_mod_eq,(Nat.div_eq_of_lt_le (k:=1) (by omega) (by omega):n / 2 ^ e=1)];rfl
  have t2:(n-1).testBit e=true:=by rw[Nat.testBit_eq_decide_div_mod_eq,(Nat.div_eq_of_lt_le (k:=1) (by omega) (by omega):(n-1) / 2 ^ e=1)];rfl
  have t3:(n &&& (n-1)).testBit e=true:=by rw[Nat.testBit_and,t1,t2];rfl
  rw[h] at t3;simp at t3
 ·omega
end
section
structure Lie1 where
 path:ByteArray
 data:ByteArray
 fails:Bool
 times:Int
structure Nt where
 files:List Fil
 lies:List Lie1
 told:List Nat
 fetches:Nat
def Qco (n:Nt) (p:ByteArray) (i:Nat):Bool:=match n.lies[i]? with
 | some l=>decide (l.path=p) && !(decide (0<l.times) && decide (l.times≤((n.told.getD i 0:Nat):Int)))
 | none=>false
def Jj (n:Nt) (p:ByteArray):Nat→Nat→Option Nat
 | 0,_=>none
 | k+1,i=>if Qco n p i=true then some i else Jj n p k (i+1)
def Qcd (n:Nt) (p:ByteArray):Option Nat:=Jj n p n.lies.length 0
def Q6 (n:Nt) (p:ByteArray):Option (List UInt8):=match Qcd n p with
 | some i=>(n.lies[i]?).bind fun l=>if l.fails=true then none else some l.data.data.toList
 | none=>(getF n.files p).map (·.data.toList)
def Zy (n:Nt) (p:ByteArray):Nt:=match Qcd n p with
 | some i=>{ n with fetches:=n.fetches+1,told:=n.told.set i (n.told.getD i 0+1) }
 | none=>{ n with fetches:=n.fetches+1 }
abbrev Kv:=ByteArray×List UInt8
structure Cch where
 most:Nat
 items:List Kv
def Qaf (l:List Kv) (p:ByteArray):Option (List UInt8):=(l.find? fun x=>decide (x.1=p)).map (·.2)
def Qhf (l:List Kv) (p:ByteArray):List Kv:=l.filter fun x=>!decide (x.1=p)
def Ju (c:Cch) (p:ByteArray):Cch:=match Qaf c.items p with
 | some v=>{ c with items:=(p,v) :: Qhf c.items p }
 | none=>c
def Qap (c:Cch) (p:ByteArray) (v:List UInt8):Cch:=
 if c.most=0 then c else
 if (Qaf c.items p).isSome=true then { c with items:=(p,v) :: Qhf c.items p } else
 if c.items.length=c.most then { c with items:=(p,v) :: c.items.dropLast } else { c with items:=(p,v) :: c.items }
structure Cs where
 net:Nt
 cache:Cch
 files:List Kv
inductive QErr where
 | miss (p:ByteArray)
 | panic
abbrev Qm (α:Type):=Cs→Except QErr α×Cs
def Qm.pure {α:Type} (a:α):Qm α:=fun s=>(.ok a,s)
def Qm.bind {α β:Type} (m:Qm α) (f:α→Qm β):Qm β:=fun s=>match m s with
 | (.ok a,s1)=>f a s1
 | (.error p,s1)=>(.error p,s1)
def Qg5 (p:ByteArray) (b:List UInt8) (s:Cs):Cs:={ s with files:=s.files ++ [(p,b)] }
abbrev Qjz:=List UInt8→Nat→Nat→Option (List UInt8)
def tryQ (fits:Qjz) (q:ByteArray) (have' want:Nat) (s:Cs):Option (List UInt8):=(Q6 s.net q).bind fun data=>fits data have' want
def Zt (q:ByteArray) (s:Cs):Cs:={ s with net:=Zy s.net q }
def Qq (level:Int) (index w:Nat):ByteArray:=sOf (Y4 level index w)
def Zc (index count:Nat):Nat:=min 4 (count-4*index)
def Qb9 (fits:Qjz) (level:Int) (index w:Nat):Qm (List UInt8):=fun s=>
 match tryQ fits (Qq level index w) w w s with
 | some b=>(.ok b,Qg5 (Qq level index w) b (Zt (Qq level index w) s))
 | none=>if w=4 then (.error (.miss (Qq level index w)),Zt (Qq level index w) s) else
  match tryQ fits (Qq level index 4) 4 w (Zt (Qq level index w) s) with
  | some b=>(.ok b,Qg5 (Qq level index w) b (Zt (Qq level index 4) (Zt (Qq level index w) s)))
  | none=>(.error (.miss (Qq level index w)),Zt (Qq level index 4) (Zt (Qq level index w) s))
def J3 (fits:Qjz) (level:Int) (index count:Nat):Qm (List UInt8):=fun s=>
 match Qaf s.files (Qq level index (Zc index count)) with
 | some b=>(.ok b,s)
 | none=>match Qaf s.cache.items (Qq level index (Zc index count)) with
  | some b=>(.ok b,Qg5 (Qq level index (Zc index count)) b { s with cache:=Ju s.cache (Qq level index (Zc index count)) })
  | none=>Qb9 fits level index (Zc index count) s
def Zh:Qjz:=fun data have' want=>if data.length=8*have' then some (data.take (8*want)) else none
def Z2:Qjz:=fun data have' want=>(Qr data).bind fun l=>if l.length=have' then Yn (l.take want) else none
def Qdn (b:List UInt8) (k:Nat):Hsh:=Yo (b.drop (8*k))
def Qjj (b:List UInt8) (k:Nat):Qm Hsh:=fun s=>if b.length<8*k then (.error .panic,s) else (.ok (Qdn b k),s)
def Qat (n level index:Nat):Qm Hsh:=Qm.bind (J3 Zh ((level / 2:Nat):Int) (index / 4) (n / 2 ^ level)) fun b=>Qjj b (index%4)
def Qej (n level index:Nat):Qm Hsh:=
 if level%2=1 then Qm.bind (Qat n (level-1) (2*index)) fun a=>Qm.bind (Qat n (level-1) (2*index+1)) fun b=>Qm.pure (Z1 a b)
 else Qat n level index
def rootQ (N:Nat):Nat→Nat→Nat→Qm Hsh
 | 0,_,_=>fun s=>(.error .panic,s)
 | f+1,i,n=>if n &&& (n-1)=0∧i%n=0 then Qej N (Lib.bitLen n-1) (i / n)
  else Qm.bind (rootQ N f i (below n)) fun a=>Qm.bind (rootQ N f (i+below n) (n-below n)) fun b=>Qm.pure (Z1 a b)
def Zf (N:Nat):List (Nat×Nat)→Qm (List Hsh)
 | []=>Qm.pure []
 | x :: xs=>Qm.bind (rootQ N (x.2-x.1) x.1 (x.2-x.1)) fun h=>Qm.bind (Zf N xs) fun l=>Qm.pure (h :: l)
def askQ (net:Nt) (cache:Cch):Cs:=⟨net,cache,[]⟩
def Je (c:Cch):List Kv→Cch
 | []=>c
 | x :: xs=>Je (Qap c x.1 x.2) xs
def Qfq (N i:Nat):Qm (List UInt8×List Hsh):=
 Qm.bind (J3 Z2 (-1) (i / 4) N) fun b=>match ((Qr b).getD [])[i%4]? with
  | none=>fun s=>(.error .panic,s)
  | some e=>Qm.bind (Zf N (Yx N 0 N i).reverse) fun p=>Qm.pure (e,p)
def Qc0 (m N:Nat):Qm (List Hsh):=Zf N (Yb N 0 N m).reverse
end
section
def cutR (r:List (List UInt8)) (j w:Nat):List UInt8:=((r.drop (4*j)).take w).flatten
def Qc1 (es:List (List UInt8)) (p:ByteArray) (b:List UInt8):Prop:=
 ∃ (m j w:Nat) (r:List (List UInt8)),(Zd es)[m]?=some r∧1≤w∧w≤4∧4*j+w≤r.length∧p=Qq ((m:Int)-1) j w∧b=cutR r j w
variable {es r:List (List UInt8)} {m j w:Nat}
theorem Ql1 (hl:es.length≤1048576) (hr:(Zd es)[m]?=some r) (h1:1≤w) (h4:w≤4) (hj:4*j+w≤r.length):Jl ((m:Int)-1) j w∧(j:Int)<9223372036854775808:=by obtain⟨a1,a2,a3⟩:=Qct hl;have hn:=(List.getElem?_eq_some_iff.1 hr).1;have a:=a3 r (List.mem_of_getElem? hr);unfold Jl;omega
variable {b:List UInt8}
theorem Qqm (hl:es.length≤1048576) (hr:(Zd es)[m]?=some r) (h1:1≤w) (h4:w≤4) (hj:4*j+w≤r.length) (h:Qc1 es (Qq ((m:Int)-1) j w) b):b=cutR r j w:=by
 obtain⟨m',j',w',r',k1,k2,k3,k4,k5,rfl⟩:=h;have a:=Ql1 hl hr h1 h4 hj;have c:=Ql1 hl k1 k2 k3 k4;have e:=Qde a.1 c.1 a.2 c.2 (Qcu k5);obtain rfl:m=m':=by omega
 obtain rfl:j=j':=by omega
 obtain rfl:w=w':=by omega
 rw[hr] at k1;cases k1;rfl
def Jo (n:Nt):Prop:=∀ l∈n.lies,l.times≤0
variable {n n':Nt}
theorem Qp9 (h:Jo n) (hl:n'.lies=n.lies) (p:ByteArray) (i:Nat):Qco n' p i=Qco n p i:=by
 unfold Qco;rw[hl];cases hi:n.lies[i]? with
 | none=>rfl
 | some l=>
  have h0:=h l (List.mem_of_getElem? hi)
  have:¬ 0<l.times:=by omega
  simp[this]
theorem Qhd (h:Jo n) (hl:n'.lies=n.lies) (p:ByteArray):∀ (k i:Nat),Jj n' p k i=Jj n p k i
 | 0,_=>rfl
 | k+1,i=>by rw[Jj,Jj,Qp9 h hl,Qhd h hl p k (i+1)]
theorem Qc3 (h:Jo n) (hl:n'.lies=n.lies) (hf:n'.files=n.files) (p:ByteArray):Q6 n' p=Q6 n p:=by unfold Q6 Qcd;rw[hl,hf,Qhd h hl]
theorem Yj (n:Nt) (q:ByteArray):(Zy n q).lies=n.lies∧(Zy n q).files=n.files∧(Zy n q).fetches=n.fetches+1:=by
 unfold Zy
 split <;> exact⟨rfl,rfl,rfl⟩
theorem Qwl (h:Jo n) (q p:ByteArray):Q6 (Zy n q) p=Q6 n p:=Qc3 h (Yj n q).1 (Yj n q).2.1 p
def Yc (m:Nat):Qjz:=if m=0 then Z2 else Zh
structure Qh1 (es:List (List UInt8)) (n:Nt):Prop where
 steady:Jo n
 fits:∀ (m j w0 w:Nat) (r:List (List UInt8)) (data b:List UInt8),(Zd es)[m]?=some r→1≤w→w≤w0→w0≤4→4*j+w≤r.length→(w0=w∨w0=4)→Q6 n (Qq ((m:Int)-1) j w0)=some data→Yc m data w0 w=some b→b=cutR r j w
theorem Qh1.next (h:Qh1 es n) (q:ByteArray):Qh1 es (Zy n q) where
 steady:=by rw[Jo,(Yj n q).1];exact h.steady
 fits m j w0 w r data b h1 h2 h3 h4 h5 h6 h7 h8:=h.fits m j w0 w r data b h1 h2 h3 h4 h5 h6 (by rw[←Qwl h.steady q];exact h7) h8
def Q0h (es:List (List UInt8)) (N:Nat) (n:Nt):Prop:=
 ∀ (m j:Nat) (r:List (List UInt8)),(Zd (es.take N))[m]?=some r→4*j<r.length→Q6 n (Qq ((m:Int)-1) j (min 4 (r.length-4*j)))=some (cutR r j (min 4 (r.length-4*j)))
structure Qg6 (es:List (List UInt8)) (N:Nat) (av:Bool) (s:Cs):Prop where
 files:∀ x∈s.files,Qc1 es x.1 x.2
 cache:∀ x∈s.cache.items,Qc1 es x.1 x.2
 net:Qh1 es s.net
 has:av=true→Q0h es N s.net
variable {N:Nat} {av:Bool} {s:Cs} {p:ByteArray}
theorem Qg6.keep (h:Qg6 es N av s) (hb:Qc1 es p b):Qg6 es N av (Qg5 p b s):=
 ⟨fun x hx=>by
  rcases List.mem_append.1 hx with h1|h1
  ·exact h.files x h1
  ·rw[List.mem_singleton.1 h1];exact hb,h.cache,h.net,h.has⟩
theorem Qg6.fetched (h:Qg6 es N av s) (q:ByteArray):Qg6 es N av (Zt q s):=
 ⟨h.files,h.cache,h.net.next q,fun ha m j r h1 h2=>by
  show Q6 (Zy s.net q) _=_
  rw[Qwl h.net.steady]
  exact h.has ha m j r h1 h2⟩
theorem Qio {l:List Kv} (h:Qaf l p=some b):(p,b)∈l:=by
 unfold Qaf at h;obtain⟨x,hx,rfl⟩:=Option.map_eq_some_iff.1 h;have h1:=List.find?_some hx;have h2:=List.mem_of_find?_eq_some hx;obtain rfl:x.1=p:=by simpa using h1
 exact h2
theorem Qs6 {c:Cch} {x:Kv} (h:x∈(Ju c p).items):x∈c.items:=by
 unfold Ju at h
 split at h
 ·rename_i v hv
  rcases List.mem_cons.1 h with h1|h1
  ·rw[h1];exact Qio hv
  ·exact (List.mem_filter.1 h1).1
 ·exact h
def Qd8 {α:Type} (I:Cs→Prop) (m:Qm α) (Q:α→Prop) (E:QErr→Prop):Prop:=∀ s,I s→I (m s).2∧(∀ a,(m s).1=.ok a→Q a)∧∀ e,(m s).1=.error e→E e
variable {α:Type} {I:Cs→Prop} {Q:α→Prop} {E:QErr→Prop}
theorem Qd8.pure {a:α} (h:Q a):Qd8 I (Qm.pure a) Q E:=fun s hs=>⟨hs,fun b hb=>by cases hb;exact h,fun e he=>by cases he⟩
theorem Qd8.bind {β:Type} {m:Qm α} {f:α→Qm β} {R:β→Prop} (h:Qd8 I m Q E) (k:∀ a,Q a→Qd8 I (f a) R E):Qd8 I (Qm.bind m f) R E:=fun s hs=>by
 obtain⟨h1,h2,h3⟩:=h s hs
 unfold Qm.bind
 cases hm:m s with
 | mk o s1=>
  rw[hm] at h1 h2 h3
  cases o with
  | ok a=>exact k a (h2 a rfl) s1 h1
  | error e=>exact⟨h1,fun a ha=>(by cases ha),fun e' he=>by cases he;exact h3 e rfl⟩
theorem Qd8.mono {m:Qm α} {R:α→Prop} (h:Qd8 I m Q E) (k:∀ a,Q a→R a):Qd8 I m R E:=fun s hs=>⟨(h s hs).1,fun a ha=>k a ((h s hs).2.1 a ha),(h s hs).2.2⟩
def Qq8 (av:Bool) (e:QErr):Prop:=av=false∧∃ p,e=.miss p
theorem Qil {k:Nat} (h:4*j+w≤r.length) (hr:∀ x∈r,x.length=k):(cutR r j w).length=k*w:=by
 unfold cutR
 have:∀ (l:List (List UInt8)),(∀ x∈l,x.length=k)→l.flatten.length=k*l.length:=by
  intro l hl
  induction l with
  | nil=>simp
  | cons a l ih=>
   rw[List.flatten_cons,List.length_append,ih (fun x hx=>hl x (List.mem_cons_of_mem _ hx)),hl a List.mem_cons_self,List.length_cons,Nat.mul_add,Nat.mul_one];omega
 rw[this _ fun x hx=>hr x (List.mem_of_mem_drop (List.mem_of_mem_take hx)),List.length_take,List.length_drop,Nat.min_eq_left (by omega)]
theorem Qm0 (es:List (List UInt8)) (N:Nat) (h:(Zd (es.take N))[m]?=some r):∃ r0 s,(Zd es)[m]?=some r0∧r0=r++s:=by
 have key:∀ (k:Nat),(∃ r0 s,(Zd (es.take (N+k)))[m]?=some r0∧r0=r++s):=by
  intro k
  induction k with
  | zero=>exact⟨r,[],h,by simp⟩
  | succ k ih=>
   obtain⟨r0,s,h1,h2⟩:=ih;rcases Nat.lt_or_ge (N+k) es.length with b|c
   ·have e:es.take (N+(k+1))=es.take (N+k) ++ [es[N+k]]:=by rw[←Nat.add_assoc,List.take_succ_eq_append_getElem b]
    have hm:m<(Zd (es.take (N+k))).length:=(List.getElem?_eq_some_iff.1 h1).1;have a:m<(Zd (es.take (N+k) ++ [es[N+k]])).length:=by
     rw[J4] at hm ⊢
     have:=Qsn (es.take (N+k)).length
     rw[List.length_append,List.length_singleton];omega
    obtain⟨r1,s1,h3,h4⟩:=Qnl es[N+k] (List.getElem?_eq_getElem a) hm;rw[h1] at h3;cases h3;rw[e];exact⟨_,s++s1,List.getElem?_eq_getElem a,by rw[h4,h2,List.append_assoc]⟩
   ·have e:es.take (N+(k+1))=es.take (N+k):=by rw[List.take_of_length_le (by omega),List.take_of_length_le (by omega)]
    rw[e];exact⟨r0,s,h1,h2⟩
 obtain⟨r0,s,h1,h2⟩:=key es.length;rw[List.take_of_length_le (by omega)] at h1;exact⟨r0,s,h1,h2⟩
theorem Qhp {s:List (List UInt8)} (h:4*j+w≤r.length):cutR (r++s) j w=cutR r j w:=by unfold cutR;rw[List.drop_append_of_le_length (by omega),List.take_append_of_le_length (by simp;omega)]
theorem Quc (hl:es.length≤1048576) (hr:(Zd (es.take N))[m]?=some r) (hj:4*j<r.length) (hfit:∀ w,1≤w→w≤4→4*j+w≤r.length→Yc m (cutR r j w) w w=some (cutR r j w)) :
  Qd8 (Qg6 es N av) (Qb9 (Yc m) ((m:Int)-1) j (Zc j r.length)) (fun b=>b=cutR r j (Zc j r.length)) (Qq8 av):=by
 intro s hs;obtain⟨r0,s0,g,h⟩:=Qm0 es N hr;obtain⟨w,hw⟩:∃ w,w=Zc j r.length:=⟨_,rfl⟩
 rw[←hw];have c:1≤w∧w≤4∧4*j+w≤r.length:=by unfold Zc at hw;omega
 have f:4*j+w≤r0.length:=by rw[h,List.length_append];omega
 have hcut:cutR r0 j w=cutR r j w:=by rw[h];exact Qhp c.2.2
 have tok:Qc1 es (Qq ((m:Int)-1) j w) (cutR r j w):=⟨m,j,w,r0,g,c.1,c.2.1,f,rfl,hcut.symm⟩
 unfold Qb9;cases ht:tryQ (Yc m) (Qq ((m:Int)-1) j w) w w s with
 | some b=>
  have hb:b=cutR r j w:=by unfold tryQ at ht;obtain⟨data,hd,hf⟩:=Option.bind_eq_some_iff.1 ht;rw[←hcut];exact hs.net.fits m j w w r0 data b g c.1 (Nat.le_refl _) c.2.1 f (.inl rfl) hd hf
  subst hb;exact⟨(hs.fetched _).keep tok,fun a ha=>by cases ha;rfl,fun e he=>by cases he⟩
 | none=>
  have d:av=false:=by
   cases d:av with
   | false=>rfl
   | true=>
    exfalso;have h1:=hs.has d m j r hr hj;rw[show min 4 (r.length-4*j)=w by rw[hw];rfl] at h1;unfold tryQ at ht;rw[h1,Option.bind_some,hfit w c.1 c.2.1 c.2.2] at ht;cases ht
  by_cases h4:w=4
  ·dsimp only
   rw[if_pos h4];exact⟨hs.fetched _,fun a ha=>(by cases ha),fun e he=>by cases he;exact⟨d,_,rfl⟩⟩
  ·dsimp only
   rw[if_neg h4];cases ht2:tryQ (Yc m) (Qq ((m:Int)-1) j 4) 4 w (Zt (Qq ((m:Int)-1) j w) s) with
   | some b=>
    have hb:b=cutR r j w:=by unfold tryQ at ht2;obtain⟨data,hd,hf⟩:=Option.bind_eq_some_iff.1 ht2;rw[←hcut];exact (hs.fetched _).net.fits m j 4 w r0 data b g c.1 c.2.1 (Nat.le_refl _) f (.inr rfl) hd hf
    subst hb;exact⟨((hs.fetched _).fetched _).keep tok,fun a ha=>by cases ha;rfl,fun e he=>by cases he⟩
   | none=>exact⟨(hs.fetched _).fetched _,fun a ha=>(by cases ha),fun e he=>by cases he;exact⟨d,_,rfl⟩⟩
theorem Qph (hl:es.length≤1048576) (hr:(Zd (es.take N))[m]?=some r) (hj:4*j<r.length) (hfit:∀ w,1≤w→w≤4→4*j+w≤r.length→Yc m (cutR r j w) w w=some (cutR r j w)) :
  Qd8 (Qg6 es N av) (J3 (Yc m) ((m:Int)-1) j r.length) (fun b=>b=cutR r j (Zc j r.length)) (Qq8 av):=by
 intro s hs;obtain⟨r0,s0,f,g⟩:=Qm0 es N hr;obtain⟨w,hw⟩:∃ w,w=Zc j r.length:=⟨_,rfl⟩
 have c:1≤w∧w≤4∧4*j+w≤r.length:=by unfold Zc at hw;omega
 have d:4*j+w≤r0.length:=by rw[g,List.length_append];omega
 have hcut:cutR r0 j w=cutR r j w:=by rw[g];exact Qhp c.2.2
 have tok:Qc1 es (Qq ((m:Int)-1) j w) (cutR r j w):=⟨m,j,w,r0,f,c.1,c.2.1,d,rfl,hcut.symm⟩
 have hF:=Quc hl (av:=av) hr hj hfit s hs;unfold J3;rw[←hw] at hF ⊢;cases h1:Qaf s.files (Qq ((m:Int)-1) j w) with
 | some b=>
  have hb:b=cutR r j w:=by rw[←hcut];exact Qqm hl f c.1 c.2.1 d (hs.files _ (Qio h1))
  exact⟨hs,fun a ha=>by cases ha;exact hb,fun e he=>by cases he⟩
 | none=>
  dsimp only;cases h2:Qaf s.cache.items (Qq ((m:Int)-1) j w) with
  | some b=>
   have hb:b=cutR r j w:=by rw[←hcut];exact Qqm hl f c.1 c.2.1 d (hs.cache _ (Qio h2))
   subst hb;have h:Qg6 es N av { s with cache:=Ju s.cache (Qq ((m:Int)-1) j w) }:=⟨hs.files,fun x hx=>hs.cache x (Qs6 hx),hs.net,hs.has⟩
   exact⟨h.keep tok,fun a ha=>by cases ha;rfl,fun e he=>by cases he⟩
  | none=>exact hF
end
section
theorem Q0v (h:Hsh) (t:List UInt8):Yo (h.toList++t)=h:=by
 have hl:h.toList.length=8:=by simp
 have hg:∀ i,i<8→(h.toList++t).getD i 0=h.toList.getD i 0:=fun i hi=>by rw[List.getD_eq_getElem?_getD,List.getD_eq_getElem?_getD,List.getElem?_append_left (by omega)]
 unfold Yo;rw[hg 0 (by decide),hg 1 (by decide),hg 2 (by decide),hg 3 (by decide),hg 4 (by decide),hg 5 (by decide),hg 6 (by decide),hg 7 (by decide)];apply Vector.ext;intro i hi
 match i,hi with
 | 0,_=>simp[List.getD_eq_getElem?_getD]
 | 1,_=>simp[List.getD_eq_getElem?_getD]
 | 2,_=>simp[List.getD_eq_getElem?_getD]
 | 3,_=>simp[List.getD_eq_getElem?_getD]
 | 4,_=>simp[List.getD_eq_getElem?_getD]
 | 5,_=>simp[List.getD_eq_getElem?_getD]
 | 6,_=>simp[List.getD_eq_getElem?_getD]
 | 7,_=>simp[List.getD_eq_getElem?_getD]
variable {k:Nat}
theorem Qmk:∀ (l:List (List UInt8)) (q:Nat),(∀ x∈l,x.length=k)→l.flatten.drop (k*q)=(l.drop q).flatten
 | l,0,_=>by simp
 | [],q+1,_=>by simp
 | a :: l,q+1,h=>by
   rw[List.flatten_cons,List.drop_succ_cons,←Qmk l q fun x hx=>h x (List.mem_cons_of_mem _ hx),Nat.mul_add,Nat.mul_one,Nat.add_comm,←List.drop_drop,List.drop_append_of_le_length (by rw[h a List.mem_cons_self];exact Nat.le_refl _)]
   rw[show List.drop k a = [] from List.drop_eq_nil_of_le (by rw[h a List.mem_cons_self];exact Nat.le_refl _),List.nil_append]
theorem Qzx {r:List Hsh} {j w q:Nat} (hq:q<w) (hw:4*j+w≤r.length):Qdn (cutR (r.map fun (h:Hsh)=>h.toList) j w) q=r.getD (4*j+q) zero8:=by
 unfold Qdn cutR;have h8:∀ x∈((r.map fun (h:Hsh)=>h.toList).drop (4*j)).take w,x.length=8:=fun x hx=>by obtain⟨h,_,rfl⟩:=List.mem_map.1 (List.mem_of_mem_drop (List.mem_of_mem_take hx));simp
 rw[Qmk _ q h8];have hl:q<(((r.map fun (h:Hsh)=>h.toList).drop (4*j)).take w).length:=by simp;omega
 rw[List.drop_eq_getElem_cons hl,List.flatten_cons];have hr:4*j+q<r.length:=by omega
 have e:(((r.map fun (h:Hsh)=>h.toList).drop (4*j)).take w)[q]=(r[4*j+q]).toList:=by simp
 rw[e,Q0v,List.getD_eq_getElem?_getD,List.getElem?_eq_getElem hr];rfl
section
variable {es:List (List UInt8)} {N:Nat} {av:Bool} (hl:es.length≤1048576) (hN:N≤es.length)
include hl hN
variable {index:Nat}
theorem Qja (h:(index+1)*4 ^ k≤N):Qd8 (Qg6 es N av) (Qat N (2*k) index) (fun a=>a=Zu (es.take N) (2*k) index) (Qq8 av):=by
 have d:(es.take N).length=N:=by rw[List.length_take,Nat.min_eq_left hN]
 have hp:0<4 ^ k:=Nat.pow_pos (by decide);have i:index<N / 4 ^ k:=(Nat.le_div_iff_mul_le hp).2 h;have hk:k<nLev (es.take N).length:=by rw[Qan,d];exact Nat.le_trans (Nat.le_mul_of_pos_left _ (by omega)) h
 have hr:=Qdj (es.take N) k hk;have f:((Z5 (es.take N) k).map fun (x:Hsh)=>x.toList).length=N / 4 ^ k:=by rw[List.length_map,Qac,d]
 have h8:∀ x∈(Z5 (es.take N) k).map (fun (x:Hsh)=>x.toList),x.length=8:=fun x hx=>by obtain⟨y,_,rfl⟩:=List.mem_map.1 hx;simp
 have c:=Qph hl (av:=av) hr (j:=index / 4) (by rw[f];omega) (fun w h1 h4 hw=>by
  have e:=Qil hw h8
  unfold Yc
  rw[if_neg (by omega)]
  unfold Zh
  rw[if_pos e,List.take_of_length_le (by omega)])
 rw[f] at c;unfold Qat;rw[show 2*k / 2=k by omega,pow24];have hf:Yc (k+1)=Zh:=by unfold Yc;rw[if_neg (by omega)]
 rw[hf,show (((k+1:Nat):Int)-1)=((k:Nat):Int) by omega] at c;refine c.bind fun b hb=>?_
 have hw:Zc (index / 4) (N / 4 ^ k)=min 4 (N / 4 ^ k-4*(index / 4)):=rfl;have g:b.length=8*Zc (index / 4) (N / 4 ^ k):=by rw[hb];exact Qil (by rw[f,hw];omega) h8
 intro s hs;unfold Qjj;rw[if_neg (by rw[g,hw];omega)];refine⟨hs,fun a ha=>?_,fun e he=>by cases he⟩;cases ha;rw[hb,Qzx (by rw[hw];omega) (by rw[Qac,d,hw];omega),Qcq _ _ _ (by rw[d];omega)]
 congr 1
 omega
theorem Qyb {level:Nat} (h:(index+1)*2 ^ level≤N):Qd8 (Qg6 es N av) (Qej N level index) (fun a=>a=Zu (es.take N) level index) (Qq8 av):=by
 unfold Qej;by_cases ho:level%2=1
 ·rw[if_pos ho]
  obtain⟨k,rfl⟩:∃ k,level=2*k+1:=⟨level / 2,by omega⟩
  have hp:(index+1)*2 ^ (2*k+1)=(2*index+1+1)*4 ^ k:=by
   rw[Nat.pow_succ,pow24,Nat.mul_comm (4 ^ k) 2,←Nat.mul_assoc]
   congr 1
   omega
  rw[hp] at h;have h2:(2*index+1)*4 ^ k≤N:=Nat.le_trans (Nat.mul_le_mul_right _ (by omega)) h;rw[show 2*k+1-1=2*k by omega];refine (Qja hl hN h2).bind fun a ha=>(Qja hl hN h).bind fun b hb=>Qd8.pure ?_
  rw[ha,hb];rfl
 ·rw[if_neg ho]
  obtain⟨k,rfl⟩:∃ k,level=2*k:=⟨level / 2,by omega⟩
  rw[pow24] at h;exact Qja hl hN h
theorem Qjk:∀ (f i n:Nat),n≤f→1≤n→i+n≤N→Qd8 (Qg6 es N av) (rootQ N f i n) (fun a=>a=rootOf (part (es.take N) i (i+n))) (Qq8 av)
 | 0,i,n,h0,h1,_=>by omega
 | f+1,i,n,h0,h1,h2=>by
  have h:(es.take N).length=N:=by rw[List.length_take,Nat.min_eq_left hN]
  rw[rootQ]
  by_cases hp:n &&& (n-1)=0∧i%n=0
  ·rw[if_pos hp]
   have c:=Qdb h1 (by omega) hp.1
   obtain⟨e,he⟩:∃ e,e=Lib.bitLen n-1:=⟨_,rfl⟩
   rw[←he] at c ⊢
   have j:e≤62:=by
    rcases Nat.lt_or_ge 62 e with g|d
    ·have:=Nat.pow_le_pow_right (n:=2) (by decide) g
     omega
    ·exact d
   have hdiv:i / n*n=i:=by have:=Nat.div_add_mod i n;rw[hp.2] at this;rw[Nat.mul_comm];omega
   have hq:(i / n+1)*2 ^ e≤N:=by rw[←c,Nat.add_mul,hdiv];omega
   refine (Qyb hl hN hq).mono fun a ha=>?_
   rw[ha,Qdw _ _ _ j (by rw[h];exact hq),←c,hdiv]
   unfold part
   rw[show i+n-i=n by omega]
  ·rw[if_neg hp]
   have l:2≤n:=by
    rcases Nat.lt_or_ge n 2 with g|d
    ·obtain rfl:n=1:=by omega
     exact absurd ⟨by decide,Nat.mod_one i⟩ hp
    ·exact d
   have hb:=Yi l
   refine (Qjk f i (below n) (by omega) (by omega) (by omega)).bind fun a ha=>(Qjk f (i+below n) (n-below n) (by omega) (by omega) (by omega)).bind fun b hb'=>Qd8.pure ?_
   have k:(part (es.take N) i (i+n)).length=n:=by rw[Qp5 (by omega)];omega
   rw[Qd3 (by omega),k,Qf3 (by omega),Qft,ha,hb',show i+below n+(n-below n)=i+n by omega]
theorem Qge:∀ (rs:List (Nat×Nat)),(∀ x∈rs,x.1<x.2∧x.2≤N)→Qd8 (Qg6 es N av) (Zf N rs) (fun l=>l=rs.map fun x=>rootOf (part (es.take N) x.1 x.2)) (Qq8 av)
 | [],_=>Qd8.pure rfl
 | x :: rs,h=>by
  obtain⟨h1,h2⟩:=h x List.mem_cons_self
  rw[Zf]
  refine (Qjk hl hN (x.2-x.1) x.1 (x.2-x.1) (Nat.le_refl _) (by omega) (by omega)).bind fun a ha=>(Qge rs fun y hy=>h y (List.mem_cons_of_mem _ hy)).bind fun l hl'=>Qd8.pure ?_
  rw[ha,hl',show x.1+(x.2-x.1)=x.2 by omega]
  rfl
theorem Qv8:part (es.take N) 0 N=es.take N:=by
 have:=hl
 unfold part;rw[List.drop_zero,List.take_of_length_le (by simp;omega)]
theorem Q80 {m:Nat} (h1:1≤m) (h2:m≤N):Qd8 (Qg6 es N av) (Qc0 m N) (fun l=>l=Qkg m (es.take N) true) (Qq8 av):=by
 have a:(es.take N).length=N:=by rw[List.length_take,Nat.min_eq_left hN]
 refine (Qge hl hN _ fun x hx=>Qdx N 0 N m (by omega) (by omega) h2 x (List.mem_reverse.1 hx)).mono fun l hl'=>?_
 rw[hl',Qp6 (es.take N) N 0 N m (by omega) (by omega) h2 (by omega),Qv8 hl hN];rfl
theorem Qxp (hs20:∀ e∈es,e.length≤20) {i:Nat} (hi:i<N):Qd8 (Qg6 es N av) (Qfq N i) (fun r=>r=((es.take N).getD i [],Qav (es.take N) i)) (Qq8 av):=by
 have d:(es.take N).length=N:=by rw[List.length_take,Nat.min_eq_left hN]
 have hr:=Qcb (es.take N);have g:((es.take N).map encE).length=N:=by rw[List.length_map,d]
 have f:∀ e∈es.take N,e.length≤20:=fun e he=>hs20 e (List.mem_of_mem_take he)
 have hcut:∀ w,cutR ((es.take N).map encE) (i / 4) w=(((es.take N).drop (4*(i / 4))).take w).flatMap encE:=fun w=>by unfold cutR;rw[←List.map_drop,←List.map_take,List.flatMap_def]
 have k:∀ w,1≤w→w≤4→4*(i / 4)+w≤N→Qr (cutR ((es.take N).map encE) (i / 4) w)=some (((es.take N).drop (4*(i / 4))).take w):=fun w h1 h4 hw=>by
  rw[hcut];have m:(((es.take N).drop (4*(i / 4))).take w).length=w:=by rw[List.length_take,List.length_drop,d];omega
  refine Qht ?_ (by omega) (by omega) fun x hx=>f x (List.mem_of_mem_drop (List.mem_of_mem_take hx))
  have key:∀ l:List (List UInt8),(∀ x∈l,x.length≤20)→rawU (l.flatMap encE)=some l:=by
   intro l
   induction l with
   | nil=>intro _;rfl
   | cons a l ih=>
    intro h;have ha:=h a List.mem_cons_self;have o:(UInt8.ofNat a.length).toNat=a.length:=by rw[UInt8.toNat_ofNat'];omega
    rw[List.flatMap_cons];show rawU (UInt8.ofNat a.length :: (a++l.flatMap encE))=_;rw[Qiv,o,if_pos (by simp),List.drop_left,List.take_left,ih fun x hx=>h x (List.mem_cons_of_mem _ hx)];rfl
  exact key _ fun x hx=>f x (List.mem_of_mem_drop (List.mem_of_mem_take hx))
 have c:=Qph hl (av:=av) hr (j:=i / 4) (by rw[g];omega) (fun w h1 h4 hw=>by
  rw[g] at hw
  have m:(((es.take N).drop (4*(i / 4))).take w).length=w:=by rw[List.length_take,List.length_drop,d];omega
  unfold Yc
  rw[if_pos rfl]
  unfold Z2
  rw[k w h1 h4 hw,Option.bind_some,if_pos m,List.take_of_length_le (by omega),Qbn (by omega) (by omega) fun j l hjl=>f l (List.mem_of_mem_drop (List.mem_of_mem_take (List.mem_of_getElem? hjl))),hcut])
 rw[g] at c;unfold Qfq;have hf:Yc 0=Z2:=by unfold Yc;rw[if_pos rfl]
 rw[hf,show (((0:Nat):Int)-1) = -1 by omega] at c;refine c.bind fun b hb=>?_
 have hw:Zc (i / 4) N=min 4 (N-4*(i / 4)):=rfl;rw[hb,k _ (by rw[hw];omega) (by rw[hw];omega) (by rw[hw];omega),Option.getD_some];have n:(((es.take N).drop (4*(i / 4))).take (Zc (i / 4) N))[i%4]?=some ((es.take N).getD i []):=by rw[List.getElem?_take_of_lt (by rw[hw];omega),List.getElem?_drop,show 4*(i / 4)+i%4=i by omega,List.getD_eq_getElem?_getD,List.getElem?_eq_getElem (by omega:i<(es.take N).length)];rfl
 rw[n];refine (Qge hl hN _ fun x hx=>Qeq N 0 N i (by omega) (by omega) hi x (List.mem_reverse.1 hx)).bind fun p hp=>Qd8.pure ?_
 rw[hp,Qqs (es.take N) N 0 N i (by omega) (by omega) hi (by omega),Qv8 hl hN];rfl
end
end
section
def Qs1 (n level index:Nat):List ByteArray:=[Qq ((level / 2:Nat):Int) (index / 4) (Zc (index / 4) (n / 2 ^ level))]
def Qku (n level index:Nat):List ByteArray:=if level%2=1 then Qs1 n (level-1) (2*index)++Qs1 n (level-1) (2*index+1) else Qs1 n level index
def Qce (N:Nat):Nat→Nat→Nat→List ByteArray
 | 0,_,_=>[]
 | f+1,i,n=>if n &&& (n-1)=0∧i%n=0 then Qku N (Lib.bitLen n-1) (i / n) else Qce N f i (below n)++Qce N f (i+below n) (n-below n)
def Zx (N:Nat) (rs:List (Nat×Nat)):List ByteArray:=rs.flatMap fun x=>Qce N (x.2-x.1) x.1 (x.2-x.1)
def bunT (N i:Nat):ByteArray:=Qq (-1) (i / 4) (Zc (i / 4) N)
def Qn1 (N i:Nat):List ByteArray:=bunT N i :: Zx N (Yx N 0 N i).reverse
theorem Qf2 (l k:List Kv) (p:ByteArray):Qaf (l++k) p=(Qaf l p).or (Qaf k p):=by unfold Qaf;rw[List.find?_append];cases l.find? fun x=>decide (x.1=p) <;> rfl
theorem Qis (p q:ByteArray) (b:List UInt8):Qaf [(p,b)] q=if p=q then some b else none:=by
 unfold Qaf;rw[List.find?_cons];by_cases h:p=q
 ·simp[h]
 ·simp[h]
end
section
variable {n:Nat}
theorem Qlm (h:n<10):dec n = [UInt8.ofNat (48+n)]:=by unfold dec;rw[Lib.decDigits,dif_pos h]
theorem Qw4 (h:¬ n<10):dec n=dec (n / 10) ++ [UInt8.ofNat (48+n%10)]:=by
 unfold dec
 conv=>lhs;rw[Lib.decDigits,dif_neg h]
theorem Q31:∀ (k n:Nat),n<10 ^ (k+1)→(dec n).length≤k+1
 | 0,n,h=>by rw[Qlm (by omega)];simp
 | k+1,n,h=>by
  by_cases h9:n<10
  ·rw[Qlm h9];simp
  ·rw[Qw4 h9,List.length_append]
   have:=Q31 k (n / 10) (by rw[Nat.pow_succ] at h;omega)
   simp only[List.length_cons,List.length_nil]
   omega
theorem Jt (h:n<9223372036854775808):(dec n).length≤19:=Q31 18 n (by omega)
theorem Qa4 (n:Nat) (w:World) (hn:n<9223372036854775808) :
  Calls prog 109 #[.int .i64 n] w fun e w'=>e=.returned (.string (sOf (dec n)))∧Below w.heap.size w w':=by
 go_enter func109,ntmps109
 go_wp2
 go_loopw [0,3] (fun m s wr=>∃ (k:Nat) (r:List UInt8),k≤n∧m=.int .i64 k∧s=.string (sOf r)∧dec k++r=dec n∧Below w.heap.size w wr) (fun m _ _=>(intOf m).toNat)
 case atStart=>exact⟨n,[],Nat.le_refl _,rfl,rfl,by simp,Below.refl _ _⟩
 case round=>
  obtain⟨k,r,hk,rfl,rfl,hd,a⟩:=hrel;have c:r.length≤19:=by
   have:=Jt hn
   rw[←hd,List.length_append] at this;omega
  have HD:=zh hd;have HB:=zh a;clear hd a;by_cases h9:9<k
  ·have e1:((k:Int) / 10)=((k / 10:Nat):Int):=by omega
   have e2:((k:Int)%10)=((k%10:Nat):Int):=by omega
   obtain⟨x,hx⟩:∃ x,x=UInt8.ofNat (48+k%10):=⟨_,rfl⟩
   have hb:Q8 (wr.alloc (.cells #[.int .u8 (48+(k:Int)%10)] 5)) (.slice (some ⟨wr.heap.size,0,none⟩) 1 1) [x]:=by rw[e2,show (48+((k%10:Nat):Int))=((48+k%10:Nat):Int) by omega,Qip _ (by omega),←hx];exact bytes1 (fz:=(0,0)) (Zz _ _ _ rfl)
   have b:=Qeu hb;have HX:=zh hx;have HE:=zh e1;clear hb e1 e2 hx;go_wp2;refine⟨⟨k / 10,x :: r,by omega,by rw[HE.o],by rw[Qxj],?_,HB.o.alloc HB.o.size _⟩,by simp[intOf];omega⟩;rw[←HD.o,Qw4 (n:=k) (by omega),←HX.o];simp
  ·obtain⟨x,hx⟩:∃ x,x=UInt8.ofNat (48+k):=⟨_,rfl⟩
   have hb:Q8 (wr.alloc (.cells #[.int .u8 (48+(k:Int))] 5)) (.slice (some ⟨wr.heap.size,0,none⟩) 1 1) [x]:=by rw[show (48+(k:Int))=((48+k:Nat):Int) by omega,Qip _ (by omega),←hx];exact bytes1 (fz:=(0,0)) (Zz _ _ _ rfl)
   have b:=Qeu hb;have HX:=zh hx;clear hb hx;go_wp2;go_ret;refine⟨?_,HB.o.alloc HB.o.size _⟩;rw[Qxj,←HD.o,Qlm (n:=k) (by omega),←HX.o];rfl
theorem Qj8 (s p:ByteArray):Lib.hasPrefix s.data.toList p.data.toList=true↔p.size≤s.size∧s.extract 0 p.size=p:=by
 unfold Lib.hasPrefix;rw[List.isPrefixOf_iff_prefix];have hx:(s.extract 0 p.size).data.toList=s.data.toList.take p.size:=by simp
 constructor
 ·intro h
  have hl:=h.length_le;have h2:=List.prefix_iff_eq_take.1 h;refine⟨by simpa using hl,?_⟩;rw[←Qag (s.extract 0 p.size),hx,show p.size=p.data.toList.length by simp,←h2,Qag]
 ·rintro ⟨hl,h⟩
  rw[List.prefix_iff_eq_take,show p.data.toList.length=p.size by simp,←hx,h]
theorem Qxs (s p:ByteArray) (w:World) :
  Calls prog 111 #[.string s,.string p] w fun e w'=>e=.returned (.tuple #[.string (sOf (J0 s.data.toList p.data.toList).1),.bool (J0 s.data.toList p.data.toList).2])∧w=w':=by
 have a:=Qj8 s p;unfold J0;by_cases hl:s.size<p.size
 ·have hn:¬ Lib.hasPrefix s.data.toList p.data.toList=true:=fun h=>by have:=(a.1 h).1;omega
  have hd:decide ((s.size:Int)<(p.size:Int))=true:=decide_eq_true (by omega);rw[if_neg hn];clear a hn
  go_enter func111,ntmps111
  go_wp2;go_ret2;refine⟨?_,rfl⟩;show Ending.returned (.tuple #[.string s,.bool false])=_;rw[Qag]
 ·have hd:decide ((s.size:Int)<(p.size:Int))=false:=decide_eq_false (by omega)
  have c:p.size≤s.size:=by omega
  by_cases he:s.extract 0 p.size=p
  ·rw[if_pos (a.2 ⟨c,he⟩)]
   have b:=Jp he;have hx:s.extract p.size s.size=sOf (s.data.toList.drop p.data.toList.length):=by
    rw[←Qag (s.extract p.size s.size)]
    congr 1
    simp;exact List.take_of_length_le (by simp)
   have HX:=zh hx;clear a he hx
   go_enter func111,ntmps111
   go_wp2;go_ret2;refine⟨?_,rfl⟩;rw[←HX.o];rfl
  ·have hn:¬ Lib.hasPrefix s.data.toList p.data.toList=true:=fun h=>he (a.1 h).2
   have b:=Y9 he;rw[if_neg hn];clear a hn he
   go_enter func111,ntmps111
   go_wp2;go_ret2;refine⟨?_,rfl⟩;show Ending.returned (.tuple #[.string s,.bool false])=_;rw[Qag]
variable {c:UInt8} {r:List UInt8} {a:Nat}
theorem Qxw (h:Qas c) (hv:¬ (9223372036854775807-(c.toNat-48)) / 10<a):Qcv a (c :: r)=Qcv (10*a+(c.toNat-48)) r:=by unfold Qas at h;simp only[Qcv];rw[if_pos h,if_neg hv]
theorem Qy5 (h:Qas c) (hv:(9223372036854775807-(c.toNat-48)) / 10<a):Qcv a (c :: r)=none:=by unfold Qas at h;simp only[Qcv];rw[if_pos h,if_pos hv]
theorem Qyn (h:¬ Qas c):Qcv a (c :: r)=some (a,c :: r):=by unfold Qas at h;simp only[Qcv];rw[if_neg h]
variable {l:List UInt8}
theorem Qhz {k:Nat} (hk:k≤l.length) (h:Qcv 0 l=some (a,l.drop k)):Y5 l=(a,l.drop k,decide (0<k)):=by
 unfold Y5;rw[h];simp only[List.length_drop,Prod.mk.injEq,true_and];by_cases h0:0<k
 ·rw[decide_eq_true h0,decide_eq_true (by omega)]
 ·rw[decide_eq_false h0,decide_eq_false (by omega)]
theorem Qqa (h:Qcv 0 l=none):Y5 l=(0,l,false):=by unfold Y5;rw[h]
def Qnp (l:List UInt8) (w:World) (e:Ending) (w':World):Prop:=
 e=.returned (.tuple #[.int .i64 (Y5 l).1,.string (sOf (Y5 l).2.1),.bool (Y5 l).2.2])∧Below w.heap.size w w'
theorem Qyp (s:ByteArray) (w:World) (hs:s.size≤9223372036854775806) :
  Calls prog 112 #[.string s] w (Qnp s.data.toList w):=by
 obtain⟨l,hl⟩:∃ l,l=s.data.toList:=⟨_,rfl⟩
 have f:l.length=s.size:=by rw[hl];simp
 have c:∀ (k:Nat) (hk:k<s.size),l.drop k=s[k] :: l.drop (k+1):=by
  intro k hk;rw[List.drop_eq_getElem_cons (by omega)]
  congr 1
  subst hl;simp;rfl
 have g:∀ k,s.extract k s.size=sOf (l.drop k):=by
  intro k;rw[←Qag (s.extract k s.size)]
  congr 1
  rw[hl];simp;exact List.take_of_length_le (by simp)
 have b:s=sOf l:=by rw[hl,Qag]
 rw[←hl];have HG:=zh c;have HE:=zh g;have HL:=zh f;have p:=zh b;clear hl c g f b
 go_enter func112,ntmps112
 go_wp2
 go_loop [5,6,7] (fun vn vi _=>∃ (k a:Nat),k≤s.size∧vi=.int .i64 k∧vn=.int .i64 a∧a≤9223372036854775807∧Hid (Qcv 0 l=Qcv a (l.drop k))) (fun _ vi _=>s.size-(intOf vi).toNat)
 case atStart=>exact⟨0,0,by omega,rfl,rfl,by omega,zh rfl⟩
 case round=>
  obtain⟨k,a,hk,rfl,rfl,ha,hh⟩:=hrel;by_cases hlt:k<s.size
  ·have hd:=HG.o k hlt
   have hx:∀ (j:Nat) (hj:j<s.size),j=k→s[j].toNat=s[k].toNat:=by intro j hj e;subst e;rfl
   have hr:=hh.o;rw[hd] at hr;have HX:=zh (rfl:s[k]=s[k]);by_cases hdig:Qas s[k]
   ·obtain⟨q,r⟩:=id hdig
    have h:decide ((48:Int)≤(s[k].toNat:Int))=true:=decide_eq_true (by omega);have m:decide ((s[k].toNat:Int)≤(57:Int))=true:=decide_eq_true (by omega);by_cases hov:(9223372036854775807-(s[k].toNat-48)) / 10<a
    ·have i:decide ((9223372036854775807-((s[k].toNat:Int)-48)) / 10<(a:Int))=true:=decide_eq_true (by omega)
     rw[Qy5 hdig hov] at hr;have HR:=zh hr;clear hr hd hx hdig hov;go_wp2
     go_ret3
     unfold Qnp;rw[Qqa HR.o,←p.o];exact⟨rfl,Below.refl _ _⟩
    ·have i:decide ((9223372036854775807-((s[k].toNat:Int)-48)) / 10<(a:Int))=false:=decide_eq_false (by omega)
     rw[Qxw hdig hov] at hr;have hn:10*(a:Int)+((s[k].toNat:Int)-48)=((10*a+(s[k].toNat-48):Nat):Int):=by omega
     have n:10*a+(s[k].toNat-48)≤9223372036854775807:=by omega
     have HR:=zh hr;have HN:=zh hn;clear hr hd hx hdig hn;go_wp2;exact⟨⟨k+1,10*a+(s[k].toNat-48),by omega,by go_num,by rw[HN.o],n,HR⟩,by simp[intOf];omega⟩
   ·rw[Qyn hdig,←hd] at hr
    have HR:=zh hr;by_cases q:48≤s[k].toNat
    ·have h:decide ((48:Int)≤(s[k].toNat:Int))=true:=decide_eq_true (by omega)
     have m:decide ((s[k].toNat:Int)≤(57:Int))=false:=decide_eq_false (by unfold Qas at hdig;omega);clear hr hd hx hdig
     go_wp2_with fail
     go_region;go_wp2
     go_ret3
     unfold Qnp;rw[Qhz (by rw[HL.o];exact hk) HR.o,HE.o];exact⟨rfl,Ze (Below.refl _ _) _⟩
    ·have h:decide ((48:Int)≤(s[k].toNat:Int))=false:=decide_eq_false (by omega)
     clear hr hd hx hdig
     go_wp2_with fail
     go_region;go_wp2
     go_ret3
     unfold Qnp;rw[Qhz (by rw[HL.o];exact hk) HR.o,HE.o];exact⟨rfl,Ze (Below.refl _ _) _⟩
  ·have d:Qcv a (l.drop k)=some (a,l.drop k):=by rw[List.drop_eq_nil_of_le (by rw[HL.o];omega)];rfl
   have HR:=zh (hh.o.trans d);clear d
   go_wp2_with fail
   go_region;go_wp2
   go_ret3
   unfold Qnp;rw[Qhz (by rw[HL.o];exact hk) HR.o,HE.o];exact⟨rfl,Ze (Below.refl _ _) _⟩
end
section
structure Calm (k:Nat) (d d':Dk):Prop where
 files:d'.files=d.files
 turned:d'.turned=d.turned
 dead:d'.dead=d.dead
 hit:d'.hit=d.hit
 failAt:d'.failAt=d.failAt
 calls:d'.calls≤d.calls+k
structure Hurt (k:Nat) (d d':Dk):Prop where
 files:d'.files=d.files
 turned:d'.turned=d.turned
 why:d.dead=true∨0<d.failAt
 hit:(d.dead=true→d.hit=true)→(d'.dead=true→d'.hit=true)
 calls:d'.calls≤d.calls+k
theorem Calm.refl (d:Dk):Calm 0 d d:=⟨rfl,rfl,rfl,rfl,rfl,Nat.le_refl _⟩
variable {j k:Nat} {a b c:Dk}
theorem Calm.trans (h:Calm j a b) (i:Calm k b c):Calm (j+k) a c:=
 ⟨i.files.trans h.files,i.turned.trans h.turned,i.dead.trans h.dead,i.hit.trans h.hit,i.failAt.trans h.failAt,by have:=h.calls;have:=i.calls;omega⟩
theorem Calm.more (h:Calm j a b) (hk:j≤k):Calm k a b:=⟨h.files,h.turned,h.dead,h.hit,h.failAt,by have:=h.calls;omega⟩
theorem Calm.hurt (h:Calm j a b) (i:Hurt k b c):Hurt (j+k) a c:=
 ⟨i.files.trans h.files,i.turned.trans h.turned,by have:=i.why;rw[h.dead,h.failAt] at this;exact this,fun ha=>i.hit (by rw[h.dead,h.hit];exact ha),by have:=h.calls;have:=i.calls;omega⟩
theorem Hurt.more (h:Hurt j a b) (hk:j≤k):Hurt k a b:=⟨h.files,h.turned,h.why,h.hit,by have:=h.calls;omega⟩
variable {d:Dk}
theorem Qjp (h:Zv d=0):Calm 1 d (Zj d):=by
 have hh:¬ Y2 d=true:=by
  intro hh;unfold Zv at h;rw[hh] at h;simp only[if_true] at h
  split at h
  ·omega
  ·split at h <;> omega
 unfold Zj;rw[if_neg hh];exact⟨rfl,rfl,rfl,rfl,rfl,Nat.le_refl _⟩
theorem Qju (h:0<Zv d):Hurt 1 d (Zj d):=by
 unfold Zv at h;unfold Zj;cases hd:d.dead with
 | true=>
  have hh:¬ Y2 d=true:=by unfold Y2;simp[hd]
  rw[if_neg hh];exact⟨rfl,rfl,.inl hd,fun a=>by simpa [hd] using a,Nat.le_refl _⟩
 | false=>
  rw[hd] at h;cases hh:Y2 d with
  | false=>rw[hh] at h;simp at h
  | true=>
   rw[if_pos rfl];refine⟨rfl,rfl,.inr ?_,fun _ _=>rfl,Nat.le_refl _⟩;unfold Y2 at hh;simp at hh;exact hh.2.1
structure Sane (d:Dk) (U:List Nat) (K:Nat):Prop where
 once:Once d.files
 turned:d.turned=false
 hit:d.dead=true→d.hit=true
 calls:d.calls≤K
 len:d.files.length≤K
 size:∀ f∈d.files,f.2.size≤1048576
 has:∀ i,i<9223372036854775808→Has d.files i→i∈U
variable {U:List Nat} {K K':Nat}
theorem Sane.grow (h:Sane d U K) (x:Nat) (hK:K≤K'):Sane d (x :: U) K':=
 ⟨h.once,h.turned,h.hit,Nat.le_trans h.calls hK,Nat.le_trans h.len hK,h.size,fun i hi hh=>List.mem_cons_of_mem _ (h.has i hi hh)⟩
theorem Sane.more (h:Sane d U K) (hK:K≤K'):Sane d U K':=
 ⟨h.once,h.turned,h.hit,Nat.le_trans h.calls hK,Nat.le_trans h.len hK,h.size,h.has⟩
theorem Sane.calm {d':Dk} (h:Sane d U K) (c:Calm k d d'):Sane d' U (K+k):=
 ⟨by rw[c.files];exact h.once,by rw[c.turned];exact h.turned,by rw[c.dead,c.hit];exact h.hit,by have:=c.calls;have:=h.calls;omega,by rw[c.files];have:=h.len;omega,by rw[c.files];exact h.size,by rw[c.files];exact h.has⟩
theorem Sane.mend (h:Sane d U K):Sane (Qif d) U K:=⟨h.once,h.turned,fun h=>(by cases h),h.calls,h.len,h.size,h.has⟩
theorem Sane.few (h:Sane d U K) (hU:U.length<9223372036854775808):FewB d.files U.length:=Q86 h.has hU
structure Runs (d:Dk) (es:List (List UInt8)) (put:List Nat) (failed:Bool) (U:List Nat):Prop where
 short:∀ e∈es,e.length≤20
 idx:∀ i,4*i<es.length→i∈U
 live:failed=false→Qjn d∧Qhs d.files (Zd es) put
variable {es:List (List UInt8)} {put:List Nat} {f:Bool}
theorem Runs.len (h:Runs d es put f U):es.length≤4*U.length:=by
 have:=pigeon U ((es.length+3) / 4) fun i hi=>h.idx i (by omega)
 omega
theorem Q11 {n:Nat} {key:ByteArray} (hs:Sane d U K) (hd:d.dead=false) (hh:d.hit=false) (hU:U.length<1048576) (ho:Yh d.files key (.good es n)):Runs d es [] false U:=by have ht:=ho.taken;have hl:=ht.few (hs.few (by omega));exact⟨ht.short,fun i hi=>hs.has i (by omega) (ht.has i hi),fun _=>⟨⟨hd,hh,hs.turned,hs.once⟩,Qta _ _⟩⟩
theorem Qvj (e:List UInt8) (h:Runs d es put false U) (he:e.length≤20):Runs d (es ++ [e]) put false (es.length / 4 :: U):=by
 refine⟨fun x hx=>?_,fun i hi=>?_,fun hf=>⟨(h.live hf).1,Qo9 e (h.live hf).2⟩⟩
 ·rcases List.mem_append.1 hx with hx|hx
  ·exact h.short x hx
  ·rw[List.mem_singleton.1 hx];exact he
 ·rw[List.length_append,List.length_cons,List.length_nil] at hi
  rcases Nat.lt_or_ge (4*i) es.length with h1|h1
  ·exact List.mem_cons_of_mem _ (h.idx i h1)
  ·rw[show i=es.length / 4 by omega];exact List.mem_cons_self
theorem Runs.more (h:Runs d es put f U) (x:Nat):Runs d es put f (x :: U):=⟨h.short,fun i hi=>List.mem_cons_of_mem _ (h.idx i hi),h.live⟩
theorem Qg4:∀ (l:List (List UInt8)) (k:Nat),(∀ x∈l,x.length≤k)→l.flatten.length≤l.length*k
 | [],k,_=>by simp
 | a :: l,k,h=>by
   have h1:=Qg4 l k fun x hx=>h x (List.mem_cons_of_mem _ hx)
   have h2:=h a List.mem_cons_self
   rw[List.flatten_cons,List.length_append,List.length_cons,Nat.add_mul]
   omega
theorem Quh (h:∀ e∈es,e.length≤20) {f:Fil} (hf:f∈Yv es):f.2.size≤84:=by
 obtain⟨n,r,j,h1,h2,rfl⟩:=(Qbr (Zd es) (-1)).1 hf;have hr:∀ x∈r,x.length≤21:=by
  rcases Qew h1 with ⟨_,rfl⟩|⟨k,_,_,rfl⟩
  ·intro x hx
   obtain⟨e,he,rfl⟩:=List.mem_map.1 hx
   have:=h e he
   simp only[encE,List.length_cons];omega
  ·intro x hx
   obtain⟨e,he,rfl⟩:=List.mem_map.1 hx;simp
 have:=Qg4 ((r.drop (4*j)).take 4) 21 fun x hx=>hr x (List.mem_of_mem_drop (List.mem_of_mem_take hx))
 have hl:((r.drop (4*j)).take 4).length≤4:=by rw[List.length_take];omega
 have he:(Ye (-1+(n:Int)) r j).2.size=((r.drop (4*j)).take 4).flatten.length:=Qb0 _;rw[he]
 have:=Nat.mul_le_mul_right 21 hl
 omega
theorem Q3r (es:List (List UInt8)) (key:ByteArray) (h:es.length≤1048576):(cpOf es key).size≤1048576:=by unfold cpOf;rw[Qb0];unfold Qao Qaq;have h1:=Jt (n:=es.length) (by omega);simp only[List.length_append,Qay,Qa8,List.length_cons,List.length_nil,Qcg];omega
theorem Qye (hl:es.length≤1048576) {i w:Nat} {b:ByteArray} (hi:i<9223372036854775808) (hw:1≤w) (hw4:w≤4) (hm:(Yp i w,b)∈Yv es):4*i<es.length:=by
 obtain⟨n,r,j,h1,h2,h3⟩:=(Qbr (Zd es) (-1)).1 hm;have hk:=Qmv (Qct hl) h1 h2;have he:Y4 (-1) i w=Y4 (-1+(n:Int)) j ((min 4 (r.length-4*j):Nat):Int):=Qcu (congrArg Prod.fst h3);have hn:=Qde (l:=-1) (i:=(i:Int)) (w:=(w:Int)) (by unfold Jl;omega) hk.1 (by omega) hk.2 he;rcases Qew h1 with ⟨_,rfl⟩|⟨k,a,_,_⟩
 ·rw[List.length_map] at h2
  omega
 ·omega
theorem Qtf (key:ByteArray) (hs:Sane d U K) (h:Runs d es put false U) (hU:U.length≤16384) (hn:Qba (Yv es) d.files) :
  Sane (pubD es key put d).1 U (K+1048576)∧Runs (pubD es key put d).1 es (pubD es key put d).2.1 (pubD es key put d).2.2.isSome U:=by
 have hl:=h.len;obtain⟨h1,h2,h3,h4,h5,h6,h7⟩:=Qhx key (es:=es) (by omega) (h.live rfl).1 hn (h.live rfl).2;refine⟨⟨h2,h3,?_,by have:=hs.calls;omega,by have:=hs.len;omega,?_,?_⟩,⟨h.short,h.idx,?_⟩⟩
 ·intro hd
  rcases h7 with ⟨_,k,_⟩|⟨_,_,k,_⟩
  ·rw[k.dead] at hd;cases hd
  ·exact k
 ·intro f hf
  rcases h4 f hf with k|k|k
  ·exact hs.size f k
  ·have:=Quh h.short k;omega
  ·rw[k];exact Q3r es key (by omega)
 ·intro i hi ⟨w,hw,a,b,hb⟩
  rcases h4 _ (Qai hb) with k|k|k
  ·refine hs.has i hi ⟨w,hw,a,b,Qk5 hs.once k⟩
  ·exact h.idx i (Qye (by omega) hi hw a k)
  ·exact absurd (Qcu (congrArg Prod.fst k)) (Qel _ _ _)
 ·intro hf
  rcases h7 with ⟨_,k1,k2,_⟩|⟨p,k,_⟩
  ·exact⟨k1,k2⟩
  ·rw[k] at hf;cases hf
def Zac (l:List Fil):List Nat:=l.map fun f=>(Ql7 f.1.data.toList).2.1.toNat
theorem Q5h {l:List Fil} (hK:l.length≤K) (hs:∀ f∈l,f.2.size≤1048576):Sane (dk0 (firsts l)) (Zac l) K:=by
 have c:∀ f∈firsts l,f∈l:=by
  unfold firsts
  have:∀ (k acc:List Fil) (f:Fil),f∈k.foldl addF acc→f∈acc∨f∈k:=by
   intro k
   induction k with
   | nil=>intro acc f hf;exact .inl hf
   | cons a k ih=>
    intro acc f hf;rw[List.foldl_cons] at hf;rcases ih _ f hf with h1|h1
    ·unfold addF at h1
     split at h1
     ·exact .inl h1
     ·rcases List.mem_append.1 h1 with h2|h2
      ·exact .inl h2
      ·exact .inr (by rw[List.mem_singleton.1 h2];exact List.mem_cons_self)
    ·exact .inr (List.mem_cons_of_mem _ h1)
  intro f hf;rcases this l [] f hf with h1|h1
  ·simp at h1
  ·exact h1
 refine⟨Qu0 l,rfl,fun h=>(by cases h),Nat.zero_le _,Nat.le_trans (Qom l) hK,fun f hf=>hs f (c f hf),fun i hi ⟨w,hw,hw4,b,hb⟩=>?_⟩;refine List.mem_map.2 ⟨_,c _ (Qai hb),?_⟩;have d:Jl (-1) i w:=by unfold Jl;omega
 show (Ql7 (Y4 (-1) i w)).2.1.toNat=i;rw[Qbj d,Qf9 d (by omega)];simp
end
section
theorem Q09 {a b:ByteArray} (h:a.data.toList=b.data.toList):a=b:=ByteArray.ext (Array.toList_inj.1 h)
def Qbg (es:List (List UInt8)) (l:List Fil):Prop:=∀ f∈l,f.1=sOf kCp∨Qc1 es f.1 f.2.data.toList
def Qam (es:List (List UInt8)) (N:Nat) (l:List Fil):Prop:=∀ f∈Yv (es.take N),getF l f.1=some f.2
def Q0o (es:List (List UInt8)) (l:List Fil):Prop:=∀ j,4*j<es.length→getF l (Yp j (min 4 (es.length-4*j)))=some (sOf (cutR (es.map encE) j (min 4 (es.length-4*j))))
theorem Qop (t:Int) (r:List (List UInt8)) (j:Nat):Ye t r j=(Qq t j (min 4 (r.length-4*j)),sOf (cutR r j (min 4 (r.length-4*j)))):=by
 unfold Ye Qq cutR
 congr 3
 rw[←List.length_drop];rcases Nat.le_total 4 (r.drop (4*j)).length with h|h
 ·rw[Nat.min_eq_left h]
 ·rw[Nat.min_eq_right h,List.take_of_length_le h,List.take_of_length_le (Nat.le_refl _)]
variable {es:List (List UInt8)} {f:Fil}
theorem Qsm (h:f∈Yv es):∃ (m j:Nat) (r:List (List UInt8)),(Zd es)[m]?=some r∧4*j<r.length∧f=(Qq ((m:Int)-1) j (min 4 (r.length-4*j)),sOf (cutR r j (min 4 (r.length-4*j)))):=by obtain⟨m,r,j,h1,h2,rfl⟩:=(Qbr (Zd es) (-1)).1 h;refine⟨m,j,r,h1,h2,?_⟩;rw[Qop,show (-1:Int)+(m:Int)=(m:Int)-1 by omega]
variable {m j:Nat} {r:List (List UInt8)}
theorem Q0e (h1:(Zd es)[m]?=some r) (h2:4*j<r.length):(Qq ((m:Int)-1) j (min 4 (r.length-4*j)),sOf (cutR r j (min 4 (r.length-4*j))))∈Yv es:=
 (Qbr (Zd es) (-1)).2 ⟨m,r,j,h1,h2,by rw[Qop,show (-1:Int)+(m:Int)=(m:Int)-1 by omega]⟩
theorem Qfk (h:f∈Yv es):Qc1 es f.1 f.2.data.toList:=by obtain⟨m,j,r,h1,h2,rfl⟩:=Qsm h;exact⟨m,j,min 4 (r.length-4*j),r,h1,by omega,by omega,by omega,rfl,rfl⟩
variable {p:ByteArray} {b:List UInt8}
theorem Qc1.more (h:Qc1 es p b) (xs:List (List UInt8)):Qc1 (es++xs) p b:=by obtain⟨m,j,w,r,h1,h2,h3,h4,h5,rfl⟩:=h;obtain⟨r0,s,k1,rfl⟩:=Qm0 (es++xs) es.length (m:=m) (r:=r) (by rw[List.take_left];exact h1);exact⟨m,j,w,_,k1,h2,h3,by rw[List.length_append];omega,h5,(Qhp h4).symm⟩
theorem Qc1.not_cp (h:Qc1 es p b):p≠sOf kCp:=by obtain⟨m,j,w,r,_,_,_,_,rfl,_⟩:=h;exact fun e=>Qel _ _ _ (Qcu e)
theorem Qu6 (hl:es.length≤1048576) {a:List UInt8} (h:Qc1 es p a) (k:Qc1 es p b):a=b:=by obtain⟨m,j,w,r,h1,h2,h3,h4,rfl,rfl⟩:=h;exact (Qqm hl h1 h2 h3 h4 k).symm
variable {l:List Fil}
theorem Qbg.more (h:Qbg es l) (xs:List (List UInt8)):Qbg (es++xs) l:=fun f hf=>(h f hf).imp id fun k=>k.more xs
theorem Qbg.nil (es:List (List UInt8)):Qbg es []:=fun f hf=>by simp at hf
theorem Qbg.noClash (h:Qbg es l) (hl:es.length≤1048576):Qba (Yv es) l:=fun f hf=>by
 rw[Qee]
 cases hg:getF l f.1 with
 | none=>exact .inl rfl
 | some b=>
  right
  rcases h _ (Qai hg) with h1|h1
  ·exact absurd h1 (Qfk hf).not_cp
  ·exact congrArg some (Q09 (Qu6 (p:=f.1) (a:=b.data.toList) (b:=f.2.data.toList) hl h1 (Qfk hf)))
variable {N:Nat} {c:ByteArray}
theorem Qam.kept {l' W:List Fil} (h:Qam es N l) (k:Qsf l l' W c):Qam es N l':=fun f hf=>by
 rcases k f.1 with h1|⟨h1,_⟩|⟨h1,_⟩
 ·rw[h1];exact h f hf
 ·rw[h f hf] at h1;cases h1
 ·exact absurd h1 (Qfk hf).not_cp
theorem Qam.more (h:Qam es N l) (hN:N≤es.length) (xs:List (List UInt8)):Qam (es++xs) N l:=by unfold Qam at *;rw[List.take_append_of_le_length hN];exact h
theorem Qam.zero (es:List (List UInt8)) (l:List Fil):Qam es 0 l:=fun f hf=>by
 obtain⟨m,j,r,h1,h2,_⟩:=Qsm hf
 have:=Qaz (List.mem_of_getElem? h1)
 simp at this
 subst this
 simp at h2
variable {w:Nat}
theorem Qgk (hs:∀ e∈es,e.length≤20) (h1:1≤w) (h4:w≤4) (hw:4*j+w≤es.length):Qr (cutR (es.map encE) j w)=some ((es.drop (4*j)).take w):=by
 have hcut:cutR (es.map encE) j w=((es.drop (4*j)).take w).flatMap encE:=by unfold cutR;rw[←List.map_drop,←List.map_take,List.flatMap_def]
 rw[hcut];have d:((es.drop (4*j)).take w).length=w:=by rw[List.length_take,List.length_drop];omega
 have b:∀ x∈(es.drop (4*j)).take w,x.length≤20:=fun x hx=>hs x (List.mem_of_mem_drop (List.mem_of_mem_take hx))
 refine Qht ?_ (by omega) (by omega) b;have key:∀ l:List (List UInt8),(∀ x∈l,x.length≤20)→rawU (l.flatMap encE)=some l:=by
  intro l
  induction l with
  | nil=>intro _;rfl
  | cons a l ih=>
   intro h;have ha:=h a List.mem_cons_self;have c:(UInt8.ofNat a.length).toNat=a.length:=by rw[UInt8.toNat_ofNat'];omega
   rw[List.flatMap_cons];show rawU (UInt8.ofNat a.length :: (a++l.flatMap encE))=_;rw[Qiv,c,if_pos (by simp),List.drop_left,List.take_left,ih fun x hx=>h x (List.mem_cons_of_mem _ hx)];rfl
 exact key _ b
theorem Qzf (hs:∀ e∈es,e.length≤20) (h1:1≤w) (h4:w≤4) (hw:4*j+w≤es.length):Yn ((es.drop (4*j)).take w)=some (cutR (es.map encE) j w):=by
 have a:((es.drop (4*j)).take w).length=w:=by rw[List.length_take,List.length_drop];omega
 rw[Qbn (by omega) (by omega) fun k l hjl=>hs l (List.mem_of_mem_drop (List.mem_of_mem_take (List.mem_of_getElem? hjl)))];unfold cutR;rw[←List.map_drop,←List.map_take,List.flatMap_def]
theorem Qni (hs:∀ e∈es,e.length≤20) (h1:1≤w) (h4:w≤4) (hw:4*j+w≤es.length) (hg:getF l (Yp j w)=some (sOf (cutR (es.map encE) j w))):Z9 l j w=some ((es.drop (4*j)).take w):=by rw[Qjx hg (Qgk hs h1 h4 hw),if_pos (by rw[List.length_take,List.length_drop];omega)]
theorem Q01 {k:Nat} (l:List (List UInt8)) (q:Nat) (h:∀ x∈l,x.length=k):l.flatten.take (k*q)=(l.take q).flatten:=by
 have e:=Qmk l q h;have e2:l.flatten=(l.take q).flatten++(l.drop q).flatten:=by rw[←List.flatten_append,List.take_append_drop]
 rcases Nat.le_total q l.length with hq|hq
 ·have hl:(l.take q).flatten.length=k*q:=by
   have:=Qil (r:=l) (j:=0) (w:=q) (k:=k) (by omega) h
   unfold cutR at this;simpa using this
  rw[e2,List.take_append_of_le_length (by omega),List.take_of_length_le (by omega)]
 ·rw[List.take_of_length_le hq,List.take_of_length_le]
  have:=Qil (r:=l) (j:=0) (w:=l.length) (k:=k) (by omega) h
  unfold cutR at this;simp at this;rw[List.length_flatten];rw[this];exact Nat.mul_le_mul_left _ hq
variable {w0:Nat}
theorem Q5o (hs:∀ e∈es,e.length≤20) (hr:(Zd es)[m]?=some r) (h1:1≤w) (hw:w≤w0) (h4:w0≤4) (hj:4*j+w0≤r.length) (h:Yc m (cutR r j w0) w0 w=some b):b=cutR r j w:=by
 rcases Qew hr with ⟨rfl,rfl⟩|⟨k,rfl,hk,rfl⟩
 ·rw[List.length_map] at hj
  unfold Yc at h;rw[if_pos rfl] at h;unfold Z2 at h;rw[Qgk hs (by omega) h4 hj,Option.bind_some,if_pos (by rw[List.length_take,List.length_drop];omega),List.take_take,Nat.min_eq_left hw,Qzf hs h1 (by omega) (by omega)] at h;exact (Option.some.inj h).symm
 ·unfold Yc at h
  rw[if_neg (by omega)] at h;unfold Zh at h;have h8:∀ x∈(Z5 es k).map (fun (x:Hsh)=>x.toList),x.length=8:=fun x hx=>by obtain⟨y,_,rfl⟩:=List.mem_map.1 hx;simp
  rw[if_pos (Qil hj h8)] at h;rw[←Option.some.inj h];unfold cutR;rw[Q01 _ _ fun x hx=>h8 x (List.mem_of_mem_drop (List.mem_of_mem_take hx)),List.take_take,Nat.min_eq_left hw]
theorem Q8y (hl:es.length≤1048576) (hr:(Zd es)[m]?=some r) (h1:1≤w0) (h4:w0≤4) (hj:4*j<r.length) (h:Qc1 es (Qq ((m:Int)-1) j w0) b):b=cutR r j w0∧4*j+w0≤r.length:=by
 obtain⟨m',j',w',r',k1,k2,k3,k4,k5,rfl⟩:=h;have a:=Ql1 hl hr (Nat.le_refl 1) (by decide) (show 4*j+1≤r.length by omega);have c:=Ql1 hl k1 k2 k3 k4;have a':Jl ((m:Int)-1) j w0:=by
  have:=a.1
  unfold Jl at this ⊢;omega
 have e:=Qde a' c.1 a.2 c.2 (Qcu k5);obtain rfl:m=m':=by omega
 obtain rfl:j=j':=by omega
 obtain rfl:w0=w':=by omega
 rw[hr] at k1;cases k1;exact⟨rfl,k4⟩
variable {n:Nt}
theorem Qpr (hl:es.length≤1048576) (hs:∀ e∈es,e.length≤20) (h:Qbg es n.files) (h0:n.lies = []):Qh1 es n where
 steady:=by unfold Jo;rw[h0];intro l hl;simp at hl
 fits m j w0 w r data b h1 h2 h3 h4 h5 h6 h7 h8:=by
  have a:Qcd n (Qq ((m:Int)-1) j w0)=none:=by unfold Qcd;rw[h0];rfl
  unfold Q6 at h7
  rw[a] at h7
  obtain⟨x,hx,rfl⟩:=Option.map_eq_some_iff.1 h7
  rcases h _ (Qai hx) with k|k
  ·exact absurd k fun e=>Qel _ _ _ (Qcu e)
  ·obtain⟨e,hj⟩:=Q8y hl h1 (by omega) h4 (by omega) k
   dsimp only at e h8
   rw[e] at h8
   exact Q5o hs h1 h2 h3 h4 hj h8
theorem Qsj (h:Qam es N n.files) (h0:n.lies = []):Q0h es N n:=fun m j r h1 h2=>by
 have a:Qcd n (Qq ((m:Int)-1) j (min 4 (r.length-4*j)))=none:=by unfold Qcd;rw[h0];rfl
 unfold Q6
 rw[a]
 have:=h _ (Q0e h1 h2)
 dsimp only at this ⊢
 rw[this]
 rfl
theorem Q50 (h:getF n.files (sOf kCp)=some c) (h0:n.lies = []):Q6 n (sOf kCp)=some c.data.toList:=by unfold Q6;rw[show Qcd n (sOf kCp)=none by unfold Qcd;rw[h0];rfl,h];rfl
end
end Go.Proofs.YtefccfakhgdfbaaGreatDoor
