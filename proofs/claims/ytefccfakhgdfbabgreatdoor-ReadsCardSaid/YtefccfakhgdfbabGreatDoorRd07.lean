/- The walks of tilesref.hex, unhex. -/
import Derived.Test.YtefccfakhgdfbabGreatDoorRd06
import Derived.Deep.AppendLies
set_option linter.unusedVariables false
set_option linter.unusedSimpArgs false
open Go.RowKit Go.Proofs.Tryz
set_option maxRecDepth 100000
set_option maxHeartbeats 4000000
namespace Go.Proofs.YtefccfakhgdfbabGreatDoor
section
def Qi4 (n level index:Nat):List ByteArray:=[Qr ((level / 2:Nat):Int) (index / 4) (Zt (index / 4) (n / 2 ^ level))]
def Qfq (n level index:Nat):List ByteArray:=if level%2=1 then Qi4 n (level-1) (2*index)++Qi4 n (level-1) (2*index+1) else Qi4 n level index
def J9 (N:Nat):Nat→Nat→Nat→List ByteArray
 | 0,_,_=>[]
 | f+1,i,n=>if n &&& (n-1)=0∧i%n=0 then Qfq N (Lib.bitLen n-1) (i / n) else J9 N f i (below n)++J9 N f (i+below n) (n-below n)
def Zl (N:Nat) (rs:List (Nat×Nat)):List ByteArray:=rs.flatMap fun x=>J9 N (x.2-x.1) x.1 (x.2-x.1)
def bunT (N i:Nat):ByteArray:=Qr (-1) (i / 4) (Zt (i / 4) N)
def Qkz (N i:Nat):List ByteArray:=bunT N i :: Zl N (Ja N 0 N i).reverse
def Has1 (s:Cs) (p:ByteArray):Prop:=(Z3 s.files p).isSome=true∨(Z3 s.cache.items p).isSome=true
theorem Qf0 (l k:List Kv) (p:ByteArray):Z3 (l++k) p=(Z3 l p).or (Z3 k p):=by unfold Z3;rw[List.find?_append];cases l.find? fun x=>decide (x.1=p) <;> rfl
theorem Qi0 (p q:ByteArray) (b:List UInt8):Z3 [(p,b)] q=if p=q then some b else none:=by
 unfold Z3;rw[List.find?_cons];by_cases h:p=q
 ·simp[h]
 ·simp[h]
theorem Qwx (p q:ByteArray) (b:List UInt8) (l:List Kv):Z3 ((p,b) :: l) q=if p=q then some b else Z3 l q:=by
 have:=Qf0 [(p,b)] l q
 rw[List.singleton_append] at this;rw[this,Qi0]
 split <;> rfl
theorem Qxb (l:List Kv) (p q:ByteArray) (h:q≠p):Z3 (Jb l p) q=Z3 l q:=by
 unfold Z3 Jb;rw[List.find?_filter]
 congr 1
 congr 1
 funext x
 by_cases hx:x.1=q
 ·simp[hx,h]
 ·simp[hx]
variable {p:ByteArray}
theorem J2 {l:List Kv}:(Z3 l p).isSome=true↔p∈l.map (·.1):=by
 unfold Z3;rw[Option.isSome_map,List.find?_isSome,List.mem_map];constructor
 ·rintro ⟨x,hx,he⟩;exact⟨x,hx,by simpa using he⟩
 ·rintro ⟨x,hx,he⟩;exact⟨x,hx,by simpa using he⟩
theorem Qiq (c:Cch) (p q:ByteArray):(Z3 (Yi c p).items q).isSome=(Z3 c.items q).isSome:=by
 unfold Yi
 split
 ·rename_i v hv
  show (Z3 ((p,v) :: Jb c.items p) q).isSome=_;rw[Qwx];by_cases h:p=q
  ·subst h;rw[if_pos rfl,hv]
  ·rw[if_neg h,Qxb _ _ _ fun e=>h e.symm]
 ·rfl
def Qbp {α:Type} (m:Qm α) (T:List ByteArray):Prop:=∀ s,(∀ p∈T,Has1 s p)→(m s).2.net=s.net∧∀ q,Has1 s q→Has1 (m s).2 q
variable {α:Type}
theorem Qbp.pure (a:α):Qbp (Qm.pure a) []:=fun s _=>⟨rfl,fun _ h=>h⟩
variable {β:Type} {m:Qm α} {f:α→Qm β} {T U:List ByteArray}
theorem Qbp.bind (h:Qbp m T) (k:∀ a,Qbp (f a) U):Qbp (Qm.bind m f) (T++U):=fun s hs=>by
 obtain⟨h1,h2⟩:=h s fun p hp=>hs p (List.mem_append_left _ hp)
 unfold Qm.bind
 cases hm:m s with
 | mk o s1=>
  rw[hm] at h1 h2
  cases o with
  | ok a=>
   obtain⟨k1,k2⟩:=k a s1 fun p hp=>h2 p (hs p (List.mem_append_right _ hp))
   exact⟨k1.trans h1,fun q hq=>k2 q (h2 q hq)⟩
  | error e=>exact⟨h1,h2⟩
theorem Qkm (fits:Qir) (level:Int) (index count:Nat):Qbp (Qau fits level index count) [Qr level index (Zt index count)]:=fun s hs=>by
 have h:=hs _ (List.mem_singleton.2 rfl)
 unfold Qau
 cases h1:Z3 s.files (Qr level index (Zt index count)) with
 | some b=>exact⟨rfl,fun q hq=>hq⟩
 | none=>
  dsimp only
  cases h2:Z3 s.cache.items (Qr level index (Zt index count)) with
  | some b=>
   refine⟨rfl,fun q hq=>?_⟩
   rcases hq with hq|hq
   ·left
    show (Z3 (s.files++_) q).isSome=true
    rw[Qf0,Option.isSome_or,hq]
    rfl
   ·right
    show (Z3 (Yi s.cache _).items q).isSome=true
    rw[Qiq]
    exact hq
  | none=>
   rcases h with h|h
   ·rw[h1] at h;cases h
   ·rw[h2] at h;cases h
theorem Qsb (b:List UInt8) (k:Nat):Qbp (Qk2 b k) []:=fun s _=>by
 unfold Qk2
 split <;> exact⟨rfl,fun _ h=>h⟩
theorem Qfv (n level index:Nat):Qbp (Qcd n level index) (Qi4 n level index):=by
 have:=(Qkm Z5 ((level / 2:Nat):Int) (index / 4) (n / 2 ^ level)).bind fun b=>Qsb b (index%4)
 simpa [Qcd,Qi4] using this
theorem Qs0 (n level index:Nat):Qbp (Qdq n level index) (Qfq n level index):=by
 unfold Qdq Qfq
 split
 ·have:=(Qfv n (level-1) (2*index)).bind fun a=>(Qfv n (level-1) (2*index+1)).bind fun b=>Qbp.pure (Z0 a b)
  simpa using this
 ·exact Qfv n level index
theorem Qfz (N:Nat):∀ (f i n:Nat),Qbp (rootQ N f i n) (J9 N f i n)
 | 0,_,_=>fun s _=>⟨rfl,fun _ h=>h⟩
 | f+1,i,n=>by
   rw[rootQ,J9]
   split
   ·exact Qs0 _ _ _
   ·have:=(Qfz N f i (below n)).bind fun a=>(Qfz N f (i+below n) (n-below n)).bind fun b=>Qbp.pure (Z0 a b)
    simpa using this
theorem Qhc (N:Nat):∀ (rs:List (Nat×Nat)),Qbp (Zg N rs) (Zl N rs)
 | []=>Qbp.pure _
 | x :: rs=>by
   have:=(Qfz N (x.2-x.1) x.1 (x.2-x.1)).bind fun h=>(Qhc N rs).bind fun l=>Qbp.pure (h :: l)
   rw[Zg]
   simpa [Zl] using this
theorem Qr3 (N i:Nat):Qbp (Qbr N i) (Qkz N i):=by
 have h2:∀ b,Qbp (match ((Qx b).getD [])[i%4]? with
  | none=>fun s=>(.error .panic,s)
  | some e=>Qm.bind (Zg N (Ja N 0 N i).reverse) fun p=>Qm.pure (e,p)) (Zl N (Ja N 0 N i).reverse):=fun b=>by
  cases ((Qx b).getD [])[i%4]? with
  | none=>exact fun s _=>⟨rfl,fun _ h=>h⟩
  | some e=>
   have:=(Qhc N (Ja N 0 N i).reverse).bind fun p=>Qbp.pure (e,p)
   simpa using this
 exact (Qkm Zv (-1) (i / 4) N).bind h2
structure Grew (T:List ByteArray) (s s':Cs):Prop where
 keep:∀ p,(Z3 s.files p).isSome=true→(Z3 s'.files p).isSome=true
 only:∀ p,(Z3 s'.files p).isSome=true→(Z3 s.files p).isSome=true∨p∈T
 once:(s.files.map (·.1)).Nodup→(s'.files.map (·.1)).Nodup
 pre:∃ k,s'.files=s.files++k
 most:s'.cache.most=s.cache.most
 cache:∀ p,(Z3 s'.cache.items p).isSome=(Z3 s.cache.items p).isSome
 len:(s.cache.items.map (·.1)).Nodup→(s'.cache.items.map (·.1)).Nodup∧s'.cache.items.length=s.cache.items.length
 count:s.net.fetches≤s'.net.fetches
theorem Grew.refl (T:List ByteArray) (s:Cs):Grew T s s:=⟨fun _ h=>h,fun _ h=>.inl h,fun h=>h,⟨[],by simp⟩,rfl,fun _=>rfl,fun h=>⟨h,rfl⟩,Nat.le_refl _⟩
theorem Grew.trans {a b c:Cs} (h:Grew T a b) (k:Grew U b c):Grew (T++U) a c where
 keep p hp:=k.keep p (h.keep p hp)
 only p hp:=by
  rcases k.only p hp with h1|h1
  ·exact (h.only p h1).imp id fun h2=>List.mem_append_left _ h2
  ·exact .inr (List.mem_append_right _ h1)
 once hn:=k.once (h.once hn)
 pre:=by
  obtain⟨x,hx⟩:=h.pre
  obtain⟨y,hy⟩:=k.pre
  exact⟨x++y,by rw[hy,hx,List.append_assoc]⟩
 most:=k.most.trans h.most
 cache p:=(k.cache p).trans (h.cache p)
 len hn:=⟨(k.len (h.len hn).1).1,(k.len (h.len hn).1).2.trans (h.len hn).2⟩
 count:=Nat.le_trans h.count k.count
variable {s:Cs}
theorem Grew.more {T':List ByteArray} {s':Cs} (h:Grew T s s') (ht:∀ p∈T,p∈T'):Grew T' s s':=⟨h.keep,fun p hp=>(h.only p hp).imp id (ht p),h.once,h.pre,h.most,h.cache,h.len,h.count⟩
def Asks {α:Type} (m:Qm α) (T:List ByteArray):Prop:=∀ s,Grew T s (m s).2∧∀ a,(m s).1=.ok a→∀ p∈T,(Z3 (m s).2.files p).isSome=true
theorem Asks.pure (a:α):Asks (Qm.pure a) []:=fun s=>⟨Grew.refl _ s,fun _ _ p hp=>by cases hp⟩
theorem Asks.bind (h:Asks m T) (k:∀ a,Asks (f a) U):Asks (Qm.bind m f) (T++U):=fun s=>by
 obtain⟨h1,h2⟩:=h s
 unfold Qm.bind
 cases hm:m s with
 | mk o s1=>
  rw[hm] at h1 h2
  cases o with
  | ok a=>
   obtain⟨k1,k2⟩:=k a s1
   refine⟨h1.trans k1,fun b hb p hp=>?_⟩
   rcases List.mem_append.1 hp with hp|hp
   ·exact k1.keep p (h2 a rfl p hp)
   ·exact k2 b hb p hp
  | error e=>exact⟨h1.more fun p hp=>List.mem_append_left _ hp,fun a ha=>by cases ha⟩
theorem Qnt {s1:Cs} {b:List UInt8} (hp:p∈T) (hn:Z3 s.files p=none) (hf:s1.files=s.files) (hm:s1.cache.most=s.cache.most) (hc:∀ q,(Z3 s1.cache.items q).isSome=(Z3 s.cache.items q).isSome)
  (hl:(s.cache.items.map (·.1)).Nodup→(s1.cache.items.map (·.1)).Nodup∧s1.cache.items.length=s.cache.items.length) (hk:s.net.fetches≤s1.net.fetches):Grew T s (Qgi p b s1)∧(Z3 (Qgi p b s1).files p).isSome=true:=by
 have e:(Qgi p b s1).files=s.files ++ [(p,b)]:=by show s1.files++_=_;rw[hf]
 refine⟨⟨fun q hq=>?_,fun q hq=>?_,fun hd=>?_,⟨_,e⟩,hm,hc,hl,hk⟩,?_⟩
 ·rw[e,Qf0,Option.isSome_or,hq];rfl
 ·rw[e,Qf0,Option.isSome_or,Bool.or_eq_true] at hq
  rcases hq with hq|hq
  ·exact .inl hq
  ·rw[Qi0] at hq
   split at hq
   ·rename_i h;exact .inr (h ▸ hp)
   ·cases hq
 ·rw[e,List.map_append,List.nodup_append]
  refine⟨hd,by simp,fun a ha b' hb' e2=>?_⟩;simp at hb';subst hb';subst e2
  have:=J2.2 ha
  rw[hn] at this;cases this
 ·rw[e,Qf0,Qi0,if_pos rfl,Option.isSome_or];simp
theorem Qsz {c:Cch} (h:(c.items.map (·.1)).Nodup):((Yi c p).items.map (·.1)).Nodup∧(Yi c p).items.length=c.items.length:=by
 unfold Yi
 split
 ·rename_i v hv
  have hm:=Qf9 hv;have key:∀ l:List Kv,(l.map (·.1)).Nodup→(p,v)∈l→((Jb l p).map (·.1)).Nodup∧(Jb l p).length+1=l.length∧p ∉ (Jb l p).map (·.1):=by
   intro l hl hml;refine⟨?_,?_,?_⟩
   ·unfold Jb
    exact List.Nodup.sublist (List.Sublist.map _ List.filter_sublist) hl
   ·induction l with
    | nil=>cases hml
    | cons a l ih=>
     rw[List.map_cons,List.nodup_cons] at hl;unfold Jb;by_cases ha:a.1=p
     ·rw[List.filter_cons_of_neg (by simp[ha]),List.length_cons]
      have:l.filter (fun x=>!decide (x.1=p))=l:=by
       apply List.filter_eq_self.2;intro x hx;have hne:x.1≠p:=fun e=>hl.1 (by rw[ha,←e];exact List.mem_map_of_mem hx)
       simp[hne]
      rw[this]
     ·rw[List.filter_cons_of_pos (by simp[ha]),List.length_cons,List.length_cons]
      have:=ih hl.2 (by rcases List.mem_cons.1 hml with e|e;exact absurd (by rw[←e]) ha;exact e)
      unfold Jb at this;omega
   ·intro hx
    obtain⟨x,hx,he⟩:=List.mem_map.1 hx;unfold Jb at hx
    have:=(List.mem_filter.1 hx).2
    simp[he] at this
  obtain⟨k1,k2,k3⟩:=key c.items h hm;refine⟨?_,?_⟩
  ·show (((p,v) :: Jb c.items p).map (·.1)).Nodup
   rw[List.map_cons,List.nodup_cons];exact⟨k3,k1⟩
  ·show ((p,v) :: Jb c.items p).length=_
   rw[List.length_cons];exact k2
 ·exact⟨h,rfl⟩
theorem Qcr (T:List ByteArray) (q:ByteArray) (s:Cs):Grew T s (Zd q s):=⟨fun _ h=>h,fun _ h=>.inl h,fun h=>h,⟨[],by simp[Zd]⟩,rfl,fun _=>rfl,fun h=>⟨h,rfl⟩,by show _≤(Zm s.net q).fetches;rw[(Yg _ _).2.2];omega⟩
theorem Qjp (fits:Qir) (level:Int) (index count:Nat):Asks (Qau fits level index count) [Qr level index (Zt index count)]:=fun s=>by
 unfold Qau
 obtain⟨p,hp⟩:∃ p,p=Qr level index (Zt index count):=⟨_,rfl⟩
 rw[←hp]
 have hpm:p ∈ [p]:=List.mem_singleton.2 rfl
 cases h1:Z3 s.files p with
 | some b=>
  refine⟨Grew.refl _ s,fun a ha q hq=>?_⟩
  rw[List.mem_singleton.1 hq]
  show (Z3 s.files p).isSome=true
  rw[h1]
  rfl
 | none=>
  dsimp only
  cases h2:Z3 s.cache.items p with
  | some b=>
   obtain⟨g1,g2⟩:=Qnt (T:=[p]) (s:=s) (s1:={ s with cache:=Yi s.cache p }) (p:=p) (b:=b) hpm h1 rfl (by show (Yi s.cache p).most=_;unfold Yi;split <;> rfl) (fun q=>Qiq s.cache p q) Qsz (Nat.le_refl _)
   exact⟨g1,fun a ha q hq=>by rw[List.mem_singleton.1 hq];exact g2⟩
  | none=>
   dsimp only
   unfold Qbq
   rw[←hp]
   have hk1:s.net.fetches≤(Zd p s).net.fetches:=(Qcr [] p s).count
   cases h3:tryQ fits p (Zt index count) (Zt index count) s with
   | some b=>
    obtain⟨g1,g2⟩:=Qnt (T:=[p]) (s:=s) (s1:=Zd p s) (p:=p) (b:=b) hpm h1 rfl rfl (fun _=>rfl) (fun h=>⟨h,rfl⟩) hk1
    exact⟨g1,fun a ha q hq=>by rw[List.mem_singleton.1 hq];exact g2⟩
   | none=>
    dsimp only
    split
    ·exact⟨Qcr _ _ _,fun a ha=>by cases ha⟩
    ·cases h4:tryQ fits (Qr level index 4) 4 (Zt index count) (Zd p s) with
     | some b=>
      obtain⟨g1,g2⟩:=Qnt (T:=[p]) (s:=s) (s1:=Zd (Qr level index 4) (Zd p s)) (p:=p) (b:=b) hpm h1 rfl rfl (fun _=>rfl) (fun h=>⟨h,rfl⟩) (Nat.le_trans hk1 (Qcr [] _ _).count)
      exact⟨g1,fun a ha q hq=>by rw[List.mem_singleton.1 hq];exact g2⟩
     | none=>exact⟨((Qcr [p] p s).trans (Qcr [] _ _)).more (by simp),fun a ha=>by cases ha⟩
theorem Qyo (b:List UInt8) (k:Nat):Asks (Qk2 b k) []:=fun s=>by
 unfold Qk2
 split <;> exact⟨Grew.refl _ s,fun _ _ p hp=>by cases hp⟩
theorem Qjt (n level index:Nat):Asks (Qcd n level index) (Qi4 n level index):=by
 have:=(Qjp Z5 ((level / 2:Nat):Int) (index / 4) (n / 2 ^ level)).bind fun b=>Qyo b (index%4)
 simpa [Qcd,Qi4] using this
theorem Qyk (n level index:Nat):Asks (Qdq n level index) (Qfq n level index):=by
 unfold Qdq Qfq
 split
 ·have:=(Qjt n (level-1) (2*index)).bind fun a=>(Qjt n (level-1) (2*index+1)).bind fun b=>Asks.pure (Z0 a b)
  simpa using this
 ·exact Qjt n level index
theorem Qj1 (N:Nat):∀ (f i n:Nat),Asks (rootQ N f i n) (J9 N f i n)
 | 0,_,_=>fun s=>⟨Grew.refl _ s,fun a ha=>by cases ha⟩
 | f+1,i,n=>by
   rw[rootQ,J9]
   split
   ·exact Qyk _ _ _
   ·have:=(Qj1 N f i (below n)).bind fun a=>(Qj1 N f (i+below n) (n-below n)).bind fun b=>Asks.pure (Z0 a b)
    simpa using this
theorem Qd1 (N:Nat):∀ (rs:List (Nat×Nat)),Asks (Zg N rs) (Zl N rs)
 | []=>Asks.pure _
 | x :: rs=>by
   have:=(Qj1 N (x.2-x.1) x.1 (x.2-x.1)).bind fun h=>(Qd1 N rs).bind fun l=>Asks.pure (h :: l)
   rw[Zg]
   simpa [Zl] using this
theorem Qj3 (N i:Nat):Asks (Qbr N i) (Qkz N i):=by
 have h2:∀ b,Asks (match ((Qx b).getD [])[i%4]? with
  | none=>fun s=>(.error .panic,s)
  | some e=>Qm.bind (Zg N (Ja N 0 N i).reverse) fun p=>Qm.pure (e,p)) (Zl N (Ja N 0 N i).reverse):=fun b=>by
  cases ((Qx b).getD [])[i%4]? with
  | none=>exact fun s=>⟨Grew.refl _ s,fun a ha=>by cases ha⟩
  | some e=>
   have:=(Qd1 N (Ja N 0 N i).reverse).bind fun p=>Asks.pure (e,p)
   simpa using this
 exact (Qjp Zv (-1) (i / 4) N).bind h2
end
section
structure Qcy (c:Cch):Prop where
 once:(c.items.map (·.1)).Nodup
 len:c.items.length≤c.most
theorem Qqg (c:Cch) (p:ByteArray) (v:List UInt8):(Z1 c p v).most=c.most:=by
 unfold Z1
 split
 ·rfl
 ·split
  ·rfl
  ·split <;> rfl
theorem Qe6:∀ (xs:List Kv) (c:Cch),(Zf c xs).most=c.most
 | [],_=>rfl
 | x :: xs,c=>by rw[Zf,Qe6 xs,Qqg]
theorem Qru (l:List Kv) (p:ByteArray):(Jb l p).map (·.1)=(l.map (·.1)).filter fun q=>!decide (q=p):=by unfold Jb;rw[List.filter_map];rfl
variable {c:Cch} {p:ByteArray}
theorem Q6o {v:List UInt8} {x:Kv} (h:x∈(Z1 c p v).items):x∈c.items∨x=(p,v):=by
 unfold Z1 at h
 split at h
 ·exact .inl h
 ·split at h
  ·rcases List.mem_cons.1 h with h|h
   ·exact .inr h
   ·exact .inl (List.mem_filter.1 h).1
  ·split at h
   ·rcases List.mem_cons.1 h with h|h
    ·exact .inr h
    ·exact .inl ((List.dropLast_sublist _).mem h)
   ·rcases List.mem_cons.1 h with h|h
    ·exact .inr h
    ·exact .inl h
theorem Qf7:∀ (xs:List Kv) (c:Cch) (x:Kv),x∈(Zf c xs).items→x∈c.items∨x∈xs
 | [],_,_,h=>.inl h
 | y :: xs,c,x,h=>by
   rw[Zf] at h
   rcases Qf7 xs _ x h with h|h
   ·rcases Q6o h with h|h
    ·exact .inl h
    ·exact .inr (by rw[h];exact List.mem_cons_self)
   ·exact .inr (List.mem_cons_of_mem _ h)
theorem Q49 (h:Qcy c) (p:ByteArray) (v:List UInt8):Qcy (Z1 c p v):=by
 unfold Z1
 split
 ·exact h
 ·rename_i h0
  split
  ·rename_i hs
   have hm:=J2.1 hs;have hlen:(Jb c.items p).length<c.items.length:=by
    unfold Jb;obtain⟨x,hx,he⟩:=List.mem_map.1 hm;refine Nat.lt_of_le_of_ne (List.length_filter_le _ _) ?_;intro e
    have:=List.length_filter_eq_length_iff.1 e x hx
    simp[he] at this
   refine⟨?_,?_⟩
   ·show (((p,v) :: Jb c.items p).map (·.1)).Nodup
    rw[List.map_cons,List.nodup_cons,Qru];refine⟨fun hx=>?_,h.once.filter _⟩
    have:=(List.mem_filter.1 hx).2
    simp at this
   ·show ((p,v) :: Jb c.items p).length≤c.most
    have:=h.len
    rw[List.length_cons];omega
  ·rename_i hs
   have hm:p ∉ c.items.map (·.1):=fun hm=>hs (J2.2 hm)
   split
   ·rename_i hl
    refine⟨?_,?_⟩
    ·show (((p,v) :: c.items.dropLast).map (·.1)).Nodup
     rw[List.map_cons,List.nodup_cons];refine⟨fun hx=>?_,?_⟩
     ·obtain⟨x,hx,he⟩:=List.mem_map.1 hx
      exact hm (List.mem_map.2 ⟨x,(List.dropLast_sublist _).mem hx,he⟩)
     ·exact List.Nodup.sublist (List.Sublist.map _ (List.dropLast_sublist _)) h.once
    ·show ((p,v) :: c.items.dropLast).length≤c.most
     rw[List.length_cons,List.length_dropLast];omega
   ·rename_i hl
    refine⟨?_,?_⟩
    ·show (((p,v) :: c.items).map (·.1)).Nodup
     rw[List.map_cons,List.nodup_cons];exact⟨hm,h.once⟩
    ·show ((p,v) :: c.items).length≤c.most
     have:=h.len
     rw[List.length_cons];omega
theorem Qez:∀ (xs:List Kv) (c:Cch),Qcy c→Qcy (Zf c xs)
 | [],_,h=>h
 | x :: xs,c,h=>Qez xs _ (Q49 h x.1 x.2)
theorem Q18 {front:List ByteArray} (v:List UInt8) (h:front <+: c.items.map (·.1)) (hp:p ∉ front) (hl:front.length+1≤c.most):p :: front <+: (Z1 c p v).items.map (·.1):=by
 unfold Z1;rw[if_neg (by omega)]
 split
 ·show _ <+: ((p,v) :: Jb c.items p).map (·.1)
  rw[List.map_cons,Qru];obtain⟨t,ht⟩:=h;rw[←ht,List.filter_append]
  have:front.filter (fun q=>!decide (q=p))=front:=List.filter_eq_self.2 fun q hq=>by
   have:q≠p:=fun e=>hp (e ▸ hq)
   simp[this]
  rw[this];exact⟨_,rfl⟩
 ·split
  ·rename_i hl2
   show _ <+: ((p,v) :: c.items.dropLast).map (·.1);rw[List.map_cons,List.map_dropLast];obtain⟨t,ht⟩:=h;rw[←ht];have hlen:front.length+t.length=c.most:=by
    have:=congrArg List.length ht
    rw[List.length_append,List.length_map,hl2] at this;exact this
   have htn:t≠[]:=fun e=>by rw[e] at hlen;simp at hlen;omega
   rw[List.dropLast_append_of_ne_nil htn];exact⟨_,rfl⟩
  ·show _ <+: ((p,v) :: c.items).map (·.1)
   rw[List.map_cons];obtain⟨t,ht⟩:=h;rw[←ht];exact⟨_,rfl⟩
theorem Qha:∀ (xs:List Kv) (c:Cch) (front:List ByteArray),front <+: c.items.map (·.1)→(xs.map (·.1)).Nodup→(∀ x∈xs,x.1 ∉ front)→front.length+xs.length≤c.most→(xs.map (·.1)).reverse++front <+: (Zf c xs).items.map (·.1)
 | [],c,front,h,_,_,_=>by simpa [Zf] using h
 | x :: xs,c,front,h,hn,hd,hl=>by
   rw[List.map_cons,List.nodup_cons] at hn
   rw[List.length_cons] at hl
   have h1:=Q18 x.2 h (hd x List.mem_cons_self) (by omega)
   have:=Qha xs (Z1 c x.1 x.2) (x.1 :: front) h1 hn.2 (fun y hy hm=>by
    rcases List.mem_cons.1 hm with e|e
    ·exact hn.1 (by rw[←e];exact List.mem_map_of_mem hy)
    ·exact hd y (List.mem_cons_of_mem _ hy) e) (by rw[Qqg,List.length_cons];omega)
   rw[Zf,List.map_cons,List.reverse_cons,List.append_assoc]
   exact this
theorem Qr1 {xs:List Kv} (hn:(xs.map (·.1)).Nodup) (hl:xs.length≤c.most) (hp:(Z3 xs p).isSome=true):(Z3 (Zf c xs).items p).isSome=true:=by have h:=Qha xs c [] ⟨_,rfl⟩ hn (fun _ _ h=>by cases h) (by simpa using hl);rw[J2] at hp ⊢;exact h.subset (List.mem_append_left _ (List.mem_reverse.2 hp))
theorem Qix:∀ (xs:List Kv) (c:Cch),c.most=0→Zf c xs=c
 | [],_,_=>rfl
 | x :: xs,c,h=>by
   have e:Z1 c x.1 x.2=c:=by unfold Z1;rw[if_pos h]
   rw[Zf,e,Qix xs c h]
theorem Q6w (h:Qcy c) (hm:c.most=1) (p:ByteArray) (v:List UInt8):(Z1 c p v).items = [(p,v)]:=by
 have hl:=h.len;unfold Z1;rw[if_neg (by omega)]
 split
 ·rename_i hs
  show (p,v) :: Jb c.items p=_;have hk:=J2.1 hs
  match hi:c.items,hl,hk with
  | [],_,hk=>simp at hk
  | [x],_,hk=>
   simp at hk;unfold Jb;simp[←hk]
  | _ :: _ :: _,hl,_=>simp at hl;omega
 ·split
  ·show (p,v) :: c.items.dropLast=_
   rename_i h1;rw[hm] at h1
   have:=List.length_dropLast (xs:=c.items)
   rw[h1] at this;rw[List.eq_nil_of_length_eq_zero this]
  ·rename_i h1
   show (p,v) :: c.items=_;rw[List.eq_nil_of_length_eq_zero (by omega:c.items.length=0)]
theorem Qkq:∀ (xs:List Kv) (c:Cch) (x:Kv),Qcy c→c.most=1→(Zf c (xs ++ [x])).items = [x]
 | [],c,x,h,hm=>by
   show (Z1 c x.1 x.2).items=_
   rw[Q6w h hm]
 | y :: xs,c,x,h,hm=>by
   rw[List.cons_append,Zf]
   exact Qkq xs _ x (Q49 h _ _) (by rw[Qqg,hm])
variable {index:Nat} {s:Cs}
theorem Qsj {fits:Qir} {level:Int} {count:Nat} (h1:Z3 s.files (Qr level index (Zt index count))=none) (h2:Z3 s.cache.items (Qr level index (Zt index count))=none):s.net.fetches<(Qau fits level index count s).2.net.fetches:=by
 have hk:∀ q s,s.net.fetches+1=(Zd q s).net.fetches:=fun q s=>(Yg s.net q).2.2.symm
 unfold Qau;rw[h1,h2];dsimp only;unfold Qbq
 split
 ·have:=hk (Qr level index (Zt index count)) s
  show _<(Zd _ s).net.fetches;omega
 ·split
  ·have:=hk (Qr level index (Zt index count)) s
   show _<(Zd _ s).net.fetches;omega
  ·have h3:=hk (Qr level index (Zt index count)) s
   have h4:=hk (Qr level index 4) (Zd (Qr level index (Zt index count)) s)
   split
   ·show _<(Zd _ (Zd _ s)).net.fetches
    omega
   ·show _<(Zd _ (Zd _ s)).net.fetches
    omega
theorem Qum {α β:Type} {m:Qm α} {f:α→Qm β} {T:List ByteArray} (h:s.net.fetches<(m s).2.net.fetches) (k:∀ a,Asks (f a) T):s.net.fetches<(Qm.bind m f s).2.net.fetches:=by
 unfold Qm.bind;cases hm:m s with
 | mk o s1=>
  rw[hm] at h;cases o with
  | ok a=>exact Nat.lt_of_lt_of_le h (k a s1).1.count
  | error e=>exact h
theorem Qn8 (N i:Nat) (b:List UInt8):Asks (match ((Qx b).getD [])[i%4]? with
  | none=>fun s=>(.error .panic,s)
  | some e=>Qm.bind (Zg N (Ja N 0 N i).reverse) fun p=>Qm.pure (e,p)) (Zl N (Ja N 0 N i).reverse):=by
 cases ((Qx b).getD [])[i%4]? with
 | none=>exact fun s=>⟨Grew.refl _ s,fun a ha=>by cases ha⟩
 | some e=>
  have:=(Qd1 N (Ja N 0 N i).reverse).bind fun p=>Asks.pure (e,p)
  simpa using this
variable {N i:Nat}
theorem Qke (h1:Z3 s.files (bunT N i)=none) (h2:Z3 s.cache.items (bunT N i)=none):s.net.fetches<(Qbr N i s).2.net.fetches:=
 Qum (Qsj h1 h2) fun b=>Qn8 N i b
variable {r:List UInt8×List Hsh}
theorem Quj (hf:s.files = []) (h:(Qbr N i s).1=.ok r):∃ b k,(Qbr N i s).2.files=(bunT N i,b) :: k:=by
 obtain⟨g,ga⟩:=Qjp Zv (-1) (i / 4) N s;unfold Qbr at h ⊢;unfold Qm.bind at h ⊢;cases hm:Qau Zv (-1) (i / 4) N s with
 | mk o s1=>
  rw[hm] at h g ga;cases o with
  | error e=>cases h
  | ok a=>
   have h1:=ga a rfl _ (List.mem_singleton.2 rfl);obtain⟨k1,hk1⟩:=g.pre;rw[hf,List.nil_append] at hk1;have hone:∀ p,(Z3 k1 p).isSome=true→p=bunT N i:=fun p hp=>by
    rcases g.only p (by show (Z3 s1.files p).isSome=true;rw[hk1];exact hp) with h3|h3
    ·rw[hf] at h3;cases h3
    ·exact List.mem_singleton.1 h3
   obtain⟨k2,hk2⟩:=(Qn8 N i a s1).1.pre;show ∃ b k,(_:Except QErr _×Cs).2.files=_;have e2:∀ o:Except QErr (List UInt8×List Hsh)×Cs,o.2.files=s1.files++k2→∃ b k,o.2.files=(bunT N i,b) :: k:=fun o ho=>by
    rw[ho,hk1];cases k1 with
    | nil=>rw[show (_:Cs).files=_ from hk1] at h1;cases h1
    | cons x k1=>
     have hx:=hone x.1 (by rw[J2];simp);exact⟨x.2,k1++k2,by rw[List.cons_append,←hx]⟩
   exact e2 _ hk2
theorem Qso {k w j w':Nat} (h:Jm (-1) j w'):Qr ((k:Nat):Int) index w≠Qr (-1) j w':=fun e=>by
 have e2:Y6 ((k:Nat):Int) index w=Y6 (-1) j w':=Qcw e
 rw[Qbf h] at e2
 unfold Y6 at e2
 split at e2
 ·have e3:Ji ((k:Nat):Int) index w=kT++(dec k ++ [47]++dec index++(if (w:Int)<4 then kP++dec w else [])):=by
   unfold Ji
   rw[if_pos (Int.natCast_nonneg k)]
   simp
  have e4:Ji (-1) (j:Int) (w':Int)=kE++(dec j++(if (w':Int)<4 then kP++dec w' else [])):=by
   unfold Ji
   rw[if_neg (by decide)]
   simp
  rw[e3,e4] at e2
  simp[kT,kE] at e2
 ·unfold Ji at e2
  rw[if_neg (by decide)] at e2
  simp[kE] at e2
theorem Qoe (N:Nat):∀ (f i n:Nat),n≤f→1≤n→∃ (k j w:Nat),Qr ((k:Nat):Int) j w∈J9 N f i n
 | 0,i,n,h,h1=>by omega
 | f+1,i,n,h,h1=>by
   rw[J9]
   split
   ·unfold Qfq
    split
    ·exact⟨_,_,_,List.mem_append_left _ (List.mem_singleton.2 rfl)⟩
    ·exact⟨_,_,_,List.mem_singleton.2 rfl⟩
   ·rename_i hp
    have hn2:2≤n:=by
     rcases Nat.lt_or_ge n 2 with hlt|hge
     ·obtain rfl:n=1:=by omega
      exact absurd ⟨by decide,Nat.mod_one i⟩ hp
     ·exact hge
    have hb:=Yl hn2
    obtain⟨k,j,w,hm⟩:=Qoe N f i (below n) (by omega) (by omega)
    exact⟨k,j,w,List.mem_append_left _ hm⟩
theorem Qq7 (hN:2≤N) (hi:i<N):∃ (k j w:Nat),Qr ((k:Nat):Int) j w∈Zl N (Ja N 0 N i).reverse:=by
 obtain⟨x,hx⟩:∃ x,x∈Ja N 0 N i:=by
  obtain⟨M,rfl⟩:∃ M,N=M+1:=⟨N-1,by omega⟩
  rw[Ja,if_neg (by omega)]
  split
  ·exact⟨_,List.mem_cons_self⟩
  ·exact⟨_,List.mem_cons_self⟩
 have h1:=Qd8 N 0 N i (by omega) (by omega) hi x hx;obtain⟨k,j,w,hm⟩:=Qoe N (x.2-x.1) x.1 (x.2-x.1) (Nat.le_refl _) (by omega);exact⟨k,j,w,List.mem_flatMap.2 ⟨x,List.mem_reverse.2 hx,hm⟩⟩
theorem again {net:Nt} (hc:Qcy c) (hN:N≤1048576) (hi:i<N) (h:(Qbr N i (askQ net c)).1=.ok r) :
  let s1:=(Qbr N i (askQ net c)).2
  let s2:=(Qbr N i (askQ s1.net (Zf s1.cache s1.files))).2
  Qcy (Zf s1.cache s1.files)∧(s1.files.length≤c.most→s2.net=s1.net)∧(c.most=0→s1.net.fetches<s2.net.fetches)∧(c.most≤1→2≤N→s1.net.fetches<s2.net.fetches):=by
 intro s1 s2
 obtain⟨g,ga⟩:=Qj3 N i (askQ net c)
 have hok:Qcy s1.cache:=⟨(g.len hc.once).1,by
  show s1.cache.items.length≤s1.cache.most
  rw[(g.len hc.once).2,g.most]
  exact hc.len⟩
 have hm:s1.cache.most=c.most:=g.most
 have hb:Jm (-1) ((i / 4:Nat):Int) ((Zt (i / 4) N:Nat):Int):=by unfold Jm Zt;omega
 have zero:c.most=0→s1.net.fetches<s2.net.fetches:=fun h0=>by
  refine Qke (s:=askQ s1.net (Zf s1.cache s1.files)) rfl ?_
  show Z3 (Zf s1.cache s1.files).items _=none
  rw[Qix _ _ (by rw[hm,h0])]
  have:=hok.len
  rw[hm,h0] at this
  rw[List.eq_nil_of_length_eq_zero (by omega:s1.cache.items.length=0)]
  rfl
 refine⟨Qez _ _ hok,fun hl=>?_,zero,fun h1 h2=>?_⟩
 ·refine (Qr3 N i (askQ s1.net (Zf s1.cache s1.files)) fun p hp=>.inr ?_).1
  exact Qr1 (g.once (by simp[askQ])) (by rw[hm];exact hl) (ga r h p hp)
 ·rcases Nat.eq_zero_or_pos c.most with h0|h0
  ·exact zero h0
  ·have hm1:s1.cache.most=1:=by omega
   refine Qke (s:=askQ s1.net (Zf s1.cache s1.files)) rfl ?_
   show Z3 (Zf s1.cache s1.files).items _=none
   obtain⟨b,k,hk⟩:=Quj (s:=askQ net c) rfl h
   have hk':s1.files=(bunT N i,b) :: k:=hk
   have hnd:(s1.files.map (·.1)).Nodup:=g.once (by simp[askQ])
   obtain⟨tk,tj,tw,htm⟩:=Qq7 h2 hi
   have hin:=J2.1 (ga r h _ (List.mem_cons_of_mem _ htm))
   have hin':Qr ((tk:Nat):Int) tj tw∈s1.files.map (·.1):=hin
   have hkn:k≠[]:=fun e=>by
    rw[hk',e] at hin'
    simp at hin'
    exact Qso hb hin'
   rw[hk'] at hnd ⊢
   rw[show (bunT N i,b) :: k=((bunT N i,b) :: k.dropLast) ++ [k.getLast hkn] by rw[List.cons_append,List.dropLast_concat_getLast hkn],Qkq _ _ _ hok hm1,kvGet_one_none]
   rw[List.map_cons,List.nodup_cons] at hnd
   intro e
   have e':(k.getLast hkn).1=bunT N i:=e
   exact hnd.1 (List.mem_map.2 ⟨_,List.getLast_mem hkn,e'⟩)
where
 kvGet_one_none {x:Kv} {q:ByteArray}:Z3 [x] q=none↔x.1≠q:=by
  have:=Qi0 x.1 q x.2
  rw[show (x.1,x.2)=x from rfl] at this
  rw[this]
  split <;> simp_all
end
section
theorem Q10 {a b:ByteArray} (h:a.data.toList=b.data.toList):a=b:=ByteArray.ext (Array.toList_inj.1 h)
def Qa6 (es:List (List UInt8)) (l:List Fil):Prop:=∀ f∈l,f.1=sOf kCp∨Qcv es f.1 f.2.data.toList
def Y4 (es:List (List UInt8)) (N:Nat) (l:List Fil):Prop:=∀ f∈Yu (es.take N),getF l f.1=some f.2
def Qza (es:List (List UInt8)) (l:List Fil):Prop:=∀ j,4*j<es.length→getF l (Ym j (min 4 (es.length-4*j)))=some (sOf (cutR (es.map encE) j (min 4 (es.length-4*j))))
theorem Qo6 (t:Int) (r:List (List UInt8)) (j:Nat):Ye t r j=(Qr t j (min 4 (r.length-4*j)),sOf (cutR r j (min 4 (r.length-4*j)))):=by
 unfold Ye Qr cutR
 congr 3
 rw[←List.length_drop];rcases Nat.le_total 4 (r.drop (4*j)).length with h|h
 ·rw[Nat.min_eq_left h]
 ·rw[Nat.min_eq_right h,List.take_of_length_le h,List.take_of_length_le (Nat.le_refl _)]
variable {es:List (List UInt8)} {f:Fil}
theorem Qrh (h:f∈Yu es):∃ (m j:Nat) (r:List (List UInt8)),(Zc es)[m]?=some r∧4*j<r.length∧f=(Qr ((m:Int)-1) j (min 4 (r.length-4*j)),sOf (cutR r j (min 4 (r.length-4*j)))):=by obtain⟨m,r,j,h1,h2,rfl⟩:=(Qbj (Zc es) (-1)).1 h;refine⟨m,j,r,h1,h2,?_⟩;rw[Qo6,show (-1:Int)+(m:Int)=(m:Int)-1 by omega]
variable {m j:Nat} {r:List (List UInt8)}
theorem Q2b (h1:(Zc es)[m]?=some r) (h2:4*j<r.length):(Qr ((m:Int)-1) j (min 4 (r.length-4*j)),sOf (cutR r j (min 4 (r.length-4*j))))∈Yu es:=
 (Qbj (Zc es) (-1)).2 ⟨m,r,j,h1,h2,by rw[Qo6,show (-1:Int)+(m:Int)=(m:Int)-1 by omega]⟩
theorem Qe2 (h:f∈Yu es):Qcv es f.1 f.2.data.toList:=by obtain⟨m,j,r,h1,h2,rfl⟩:=Qrh h;exact⟨m,j,min 4 (r.length-4*j),r,h1,by omega,by omega,by omega,rfl,rfl⟩
variable {p:ByteArray} {b:List UInt8}
theorem Qcv.more (h:Qcv es p b) (xs:List (List UInt8)):Qcv (es++xs) p b:=by obtain⟨m,j,w,r,h1,h2,h3,h4,h5,rfl⟩:=h;obtain⟨r0,s,k1,rfl⟩:=Qnj (es++xs) es.length (m:=m) (r:=r) (by rw[List.take_left];exact h1);exact⟨m,j,w,_,k1,h2,h3,by rw[List.length_append];omega,h5,(Qhw h4).symm⟩
theorem Qcv.not_cp (h:Qcv es p b):p≠sOf kCp:=by obtain⟨m,j,w,r,_,_,_,_,rfl,_⟩:=h;exact fun e=>Qer _ _ _ (Qcw e)
theorem Qu2 (hl:es.length≤1048576) {a:List UInt8} (h:Qcv es p a) (k:Qcv es p b):a=b:=by obtain⟨m,j,w,r,h1,h2,h3,h4,rfl,rfl⟩:=h;exact (Qpc hl h1 h2 h3 h4 k).symm
variable {l:List Fil}
theorem Qa6.more (h:Qa6 es l) (xs:List (List UInt8)):Qa6 (es++xs) l:=fun f hf=>(h f hf).imp id fun k=>k.more xs
theorem Qa6.nil (es:List (List UInt8)):Qa6 es []:=fun f hf=>by simp at hf
theorem Qa6.noClash (h:Qa6 es l) (hl:es.length≤1048576):Qa0 (Yu es) l:=fun f hf=>by
 rw[Qdu]
 cases hg:getF l f.1 with
 | none=>exact .inl rfl
 | some b=>
  right
  rcases h _ (Qah hg) with h1|h1
  ·exact absurd h1 (Qe2 hf).not_cp
  ·exact congrArg some (Q10 (Qu2 (p:=f.1) (a:=b.data.toList) (b:=f.2.data.toList) hl h1 (Qe2 hf)))
variable {N:Nat} {c:ByteArray}
theorem Y4.kept {l' W:List Fil} (h:Y4 es N l) (k:Qsp l l' W c):Y4 es N l':=fun f hf=>by
 rcases k f.1 with h1|⟨h1,_⟩|⟨h1,_⟩
 ·rw[h1];exact h f hf
 ·rw[h f hf] at h1;cases h1
 ·exact absurd h1 (Qe2 hf).not_cp
theorem Y4.more (h:Y4 es N l) (hN:N≤es.length) (xs:List (List UInt8)):Y4 (es++xs) N l:=by unfold Y4 at *;rw[List.take_append_of_le_length hN];exact h
theorem Y4.zero (es:List (List UInt8)) (l:List Fil):Y4 es 0 l:=fun f hf=>by
 obtain⟨m,j,r,h1,h2,_⟩:=Qrh hf
 have:=Qal (List.mem_of_getElem? h1)
 simp at this
 subst this
 simp at h2
variable {w:Nat}
theorem Qfl (hs:∀ e∈es,e.length≤20) (h1:1≤w) (h4:w≤4) (hw:4*j+w≤es.length):Qx (cutR (es.map encE) j w)=some ((es.drop (4*j)).take w):=by
 have hcut:cutR (es.map encE) j w=((es.drop (4*j)).take w).flatMap encE:=by unfold cutR;rw[←List.map_drop,←List.map_take,List.flatMap_def]
 rw[hcut];have hll:((es.drop (4*j)).take w).length=w:=by rw[List.length_take,List.length_drop];omega
 have hsn:∀ x∈(es.drop (4*j)).take w,x.length≤20:=fun x hx=>hs x (List.mem_of_mem_drop (List.mem_of_mem_take hx))
 refine Qhs ?_ (by omega) (by omega) hsn;have key:∀ l:List (List UInt8),(∀ x∈l,x.length≤20)→rawU (l.flatMap encE)=some l:=by
  intro l
  induction l with
  | nil=>intro _;rfl
  | cons a l ih=>
   intro h;have ha:=h a List.mem_cons_self;have h20:(UInt8.ofNat a.length).toNat=a.length:=by rw[UInt8.toNat_ofNat'];omega
   rw[List.flatMap_cons];show rawU (UInt8.ofNat a.length :: (a++l.flatMap encE))=_;rw[Qil,h20,if_pos (by simp),List.drop_left,List.take_left,ih fun x hx=>h x (List.mem_cons_of_mem _ hx)];rfl
 exact key _ hsn
theorem Qo1 (hs:∀ e∈es,e.length≤20) (h1:1≤w) (h4:w≤4) (hw:4*j+w≤es.length):Yj ((es.drop (4*j)).take w)=some (cutR (es.map encE) j w):=by
 have hll:((es.drop (4*j)).take w).length=w:=by rw[List.length_take,List.length_drop];omega
 rw[Qba (by omega) (by omega) fun k l hjl=>hs l (List.mem_of_mem_drop (List.mem_of_mem_take (List.mem_of_getElem? hjl)))];unfold cutR;rw[←List.map_drop,←List.map_take,List.flatMap_def]
theorem Qlm (hs:∀ e∈es,e.length≤20) (h1:1≤w) (h4:w≤4) (hw:4*j+w≤es.length) (hg:getF l (Ym j w)=some (sOf (cutR (es.map encE) j w))):Z8 l j w=some ((es.drop (4*j)).take w):=by rw[Qjg hg (Qfl hs h1 h4 hw),if_pos (by rw[List.length_take,List.length_drop];omega)]
theorem Q0z {k:Nat} (l:List (List UInt8)) (q:Nat) (h:∀ x∈l,x.length=k):l.flatten.take (k*q)=(l.take q).flatten:=by
 have e:=Qm0 l q h;have e2:l.flatten=(l.take q).flatten++(l.drop q).flatten:=by rw[←List.flatten_append,List.take_append_drop]
 rcases Nat.le_total q l.length with hq|hq
 ·have hl:(l.take q).flatten.length=k*q:=by
   have:=Qim (r:=l) (j:=0) (w:=q) (k:=k) (by omega) h
   unfold cutR at this;simpa using this
  rw[e2,List.take_append_of_le_length (by omega),List.take_of_length_le (by omega)]
 ·rw[List.take_of_length_le hq,List.take_of_length_le]
  have:=Qim (r:=l) (j:=0) (w:=l.length) (k:=k) (by omega) h
  unfold cutR at this;simp at this;rw[List.length_flatten];rw[this];exact Nat.mul_le_mul_left _ hq
variable {w0:Nat}
theorem Q4y (hs:∀ e∈es,e.length≤20) (hr:(Zc es)[m]?=some r) (h1:1≤w) (hw:w≤w0) (h4:w0≤4) (hj:4*j+w0≤r.length) (h:Qb4 m (cutR r j w0) w0 w=some b):b=cutR r j w:=by
 rcases Qd5 hr with ⟨rfl,rfl⟩|⟨k,rfl,hk,rfl⟩
 ·rw[List.length_map] at hj
  unfold Qb4 at h;rw[if_pos rfl] at h;unfold Zv at h;rw[Qfl hs (by omega) h4 hj,Option.bind_some,if_pos (by rw[List.length_take,List.length_drop];omega),List.take_take,Nat.min_eq_left hw,Qo1 hs h1 (by omega) (by omega)] at h;exact (Option.some.inj h).symm
 ·unfold Qb4 at h
  rw[if_neg (by omega)] at h;unfold Z5 at h;have h8:∀ x∈(Zy es k).map (fun (x:Hsh)=>x.toList),x.length=8:=fun x hx=>by obtain⟨y,_,rfl⟩:=List.mem_map.1 hx;simp
  rw[if_pos (Qim hj h8)] at h;rw[←Option.some.inj h];unfold cutR;rw[Q0z _ _ fun x hx=>h8 x (List.mem_of_mem_drop (List.mem_of_mem_take hx)),List.take_take,Nat.min_eq_left hw]
theorem Q6x (hl:es.length≤1048576) (hr:(Zc es)[m]?=some r) (h1:1≤w0) (h4:w0≤4) (hj:4*j<r.length) (h:Qcv es (Qr ((m:Int)-1) j w0) b):b=cutR r j w0∧4*j+w0≤r.length:=by
 obtain⟨m',j',w',r',k1,k2,k3,k4,k5,rfl⟩:=h;have a:=Qnr hl hr (Nat.le_refl 1) (by decide) (show 4*j+1≤r.length by omega);have c:=Qnr hl k1 k2 k3 k4;have a':Jm ((m:Int)-1) j w0:=by
  have:=a.1
  unfold Jm at this ⊢;omega
 have e:=Qed a' c.1 a.2 c.2 (Qcw k5);obtain rfl:m=m':=by omega
 obtain rfl:j=j':=by omega
 obtain rfl:w0=w':=by omega
 rw[hr] at k1;cases k1;exact⟨rfl,k4⟩
variable {n:Nt}
theorem Qpx (hl:es.length≤1048576) (hs:∀ e∈es,e.length≤20) (h:Qa6 es n.files) (h0:n.lies = []):Qd3 es n where
 steady:=by unfold Qis;rw[h0];intro l hl;simp at hl
 fits m j w0 w r data b h1 h2 h3 h4 h5 h6 h7 h8:=by
  have hlie:Qc4 n (Qr ((m:Int)-1) j w0)=none:=by unfold Qc4;rw[h0];rfl
  unfold Yt at h7
  rw[hlie] at h7
  obtain⟨x,hx,rfl⟩:=Option.map_eq_some_iff.1 h7
  rcases h _ (Qah hx) with k|k
  ·exact absurd k fun e=>Qer _ _ _ (Qcw e)
  ·obtain⟨e,hj⟩:=Q6x hl h1 (by omega) h4 (by omega) k
   dsimp only at e h8
   rw[e] at h8
   exact Q4y hs h1 h2 h3 h4 hj h8
theorem Qco (h:Y4 es N n.files) (h0:n.lies = []):Qmi es N n:=fun m j r h1 h2=>by
 have hlie:Qc4 n (Qr ((m:Int)-1) j (min 4 (r.length-4*j)))=none:=by unfold Qc4;rw[h0];rfl
 unfold Yt
 rw[hlie]
 have:=h _ (Q2b h1 h2)
 dsimp only at this ⊢
 rw[this]
 rfl
theorem Qpl (h:getF n.files (sOf kCp)=some c) (h0:n.lies = []):Yt n (sOf kCp)=some c.data.toList:=by unfold Yt;rw[show Qc4 n (sOf kCp)=none by unfold Qc4;rw[h0];rfl,h];rfl
end
section
theorem Qp1 (ls:List (List UInt8)) (i:Nat) (hi:i<ls.length):included (Qaf (ls.getD i [])) i ls.length (J4 ls i) (rootOf ls)=true:=by unfold included;rw[Int.toNat_natCast,Int.toNat_natCast,Qf1 ls.length ls i (Nat.le_refl _) hi];simp;omega
theorem Qm6 (ls:List (List UInt8)) (m:Nat) (h1:1≤m) (hm:m≤ls.length) (hl:ls.length<9223372036854775808):consistent m ls.length (rootOf (ls.take m)) (rootOf ls) (Qam m ls true)=true:=by unfold consistent;have h:=Qjb ls.length ls m true (Nat.le_refl _) hl h1 hm;rw[if_pos rfl] at h;rw[Int.toNat_natCast,Int.toNat_natCast,h];simp;omega
end
section
structure Cl where
 key:ByteArray
 size:Nat
 root:Hsh
 cache:Cch
abbrev Tld:=Nat×ByteArray
def Qcb:Tld:=(0,⟨#[]⟩)
def Zz (c:Cl) (n:Nt):Tld×List Hsh×Cl×Nt:=
 match Yt n (sOf kCp) with
 | none=>((3,⟨#[]⟩),[],c,Zm n (sOf kCp))
 | some data=>
  if (Yc data c.key.data.toList).2.2=false then ((3,⟨#[]⟩),[],c,Zm n (sOf kCp)) else
  if (Yc data c.key.data.toList).1.toNat<c.size then ((4,⟨#[]⟩),[],c,Zm n (sOf kCp)) else
  if (Yc data c.key.data.toList).1.toNat=c.size then (if (Yc data c.key.data.toList).2.1=c.root then (Qcb,[],c,Zm n (sOf kCp)) else ((5,⟨#[]⟩),[],c,Zm n (sOf kCp))) else
  if c.size=0 then (Qcb,[],{ c with size:=(Yc data c.key.data.toList).1.toNat,root:=(Yc data c.key.data.toList).2.1 },Zm n (sOf kCp)) else
  match Qgc c.size (Yc data c.key.data.toList).1.toNat (askQ (Zm n (sOf kCp)) c.cache) with
  | (.error (.miss p),s)=>((6,p),[],{ c with cache:=s.cache },s.net)
  | (.error .panic,s)=>((99,⟨#[]⟩),[],{ c with cache:=s.cache },s.net)
  | (.ok l,s)=>
   if consistent c.size (Yc data c.key.data.toList).1.toNat c.root (Yc data c.key.data.toList).2.1 l=true then (Qcb,l,{ c with size:=(Yc data c.key.data.toList).1.toNat,root:=(Yc data c.key.data.toList).2.1,cache:=Zf s.cache s.files },s.net)
   else ((5,⟨#[]⟩),[],{ c with cache:=s.cache },s.net)
def Yp (c:Cl) (n:Nt) (i:Int):Tld×(List UInt8×List Hsh)×Cl×Nt:=
 if i<0∨(c.size:Int)≤i then ((2,⟨#[]⟩),([],[]),c,n) else
 match Qbr c.size i.toNat (askQ n c.cache) with
 | (.error (.miss p),s)=>((6,p),([],[]),{ c with cache:=s.cache },s.net)
 | (.error .panic,s)=>((99,⟨#[]⟩),([],[]),{ c with cache:=s.cache },s.net)
 | (.ok r,s)=>
  if included (Qaf r.1) i c.size r.2 c.root=true then (Qcb,r,{ c with cache:=Zf s.cache s.files },s.net)
  else ((5,⟨#[]⟩),([],[]),{ c with cache:=s.cache },s.net)
structure Q5c (I:Cs→Prop):Prop where
 keep:∀ s p b,I s→I (Qgi p b s)
 get:∀ s p,I s→I { s with cache:=Yi s.cache p }
 fetched:∀ s q,I s→I (Zd q s)
def Kept {α:Type} (I:Cs→Prop) (m:Qm α):Prop:=∀ s,I s→I (m s).2
variable {α:Type} {m:Qm α}
theorem Kept.bind {β:Type} {I:Cs→Prop} {f:α→Qm β} (h:Kept I m) (k:∀ a,Kept I (f a)):Kept I (Qm.bind m f):=fun s hs=>by
 have h1:=h s hs
 unfold Qm.bind
 cases hm:m s with
 | mk o s1=>
  rw[hm] at h1
  cases o with
  | ok a=>exact k a s1 h1
  | error e=>exact h1
section
variable {I:Cs→Prop} (hI:Q5c I)
include hI
theorem Qjx (fits:Qir) (level:Int) (index count:Nat):Kept I (Qau fits level index count):=fun s hs=>by
 unfold Qau
 split
 ·exact hs
 ·split
  ·exact hI.keep _ _ _ (hI.get _ _ hs)
  ·unfold Qbq
   split
   ·exact hI.keep _ _ _ (hI.fetched _ _ hs)
   ·split
    ·exact hI.fetched _ _ hs
    ·split
     ·exact hI.keep _ _ _ (hI.fetched _ _ (hI.fetched _ _ hs))
     ·exact hI.fetched _ _ (hI.fetched _ _ hs)
theorem Qg2 (n level index:Nat):Kept I (Qcd n level index):=(Qjx hI _ _ _ _).bind fun b s hs=>by
 unfold Qk2
 split <;> exact hs
theorem Qy1 (n level index:Nat):Kept I (Qdq n level index):=by
 unfold Qdq
 split
 ·exact (Qg2 hI _ _ _).bind fun a=>(Qg2 hI _ _ _).bind fun b s hs=>hs
 ·exact Qg2 hI _ _ _
theorem Qd6 (N:Nat):∀ (f i n:Nat),Kept I (rootQ N f i n)
 | 0,_,_=>fun s hs=>hs
 | f+1,i,n=>by
  rw[rootQ]
  split
  ·exact Qy1 hI _ _ _
  ·exact (Qd6 N f _ _).bind fun a=>(Qd6 N f _ _).bind fun b s hs=>hs
theorem Qgk (N:Nat):∀ rs,Kept I (Zg N rs)
 | []=>fun s hs=>hs
 | x :: xs=>by
  rw[Zg]
  exact (Qd6 hI _ _ _ _).bind fun a=>(Qgk N xs).bind fun b s hs=>hs
theorem Qx0 (N i:Nat):Kept I (Qbr N i):=by
 unfold Qbr;refine (Qjx hI _ _ _ _).bind fun b=>?_
 split
 ·exact fun s hs=>hs
 ·exact (Qgk hI _ _).bind fun p s hs=>hs
end
def Qbk (n n':Nt):Prop:=n'.lies=n.lies∧n'.files=n.files
theorem Qbk.refl (n:Nt):Qbk n n:=⟨rfl,rfl⟩
theorem Qbk.trans {a b c:Nt} (h:Qbk a b) (k:Qbk b c):Qbk a c:=⟨k.1.trans h.1,k.2.trans h.2⟩
theorem Qap (n:Nt) (q:ByteArray):Qbk n (Zm n q):=⟨(Yg n q).1,(Yg n q).2.1⟩
theorem Qb5 (n:Nt):Q5c fun s=>Qbk n s.net:=⟨fun _ _ _ h=>h,fun _ _ h=>h,fun s q h=>h.trans (Qap s.net q)⟩
variable {es:List (List UInt8)} {n n':Nt}
theorem Qqo (h:Qd3 es n) (k:Qbk n n'):Qd3 es n' where
 steady:=by rw[Qis,k.1];exact h.steady
 fits m j w0 w r data b h1 h2 h3 h4 h5 h6 h7 h8:=h.fits m j w0 w r data b h1 h2 h3 h4 h5 h6 (by rw[←Qeu h.steady k.1 k.2];exact h7) h8
theorem Qm9 {N:Nat} (h:Qmi es N n) (hs:Qis n) (k:Qbk n n'):Qmi es N n':=fun m j r h1 h2=>by rw[Qeu hs k.1 k.2];exact h m j r h1 h2
structure Qqp (es:List (List UInt8)) (c:Cl):Prop where
 size:c.size≤es.length
 root:c.root=rootOf (es.take c.size)
 cache:∀ x∈c.cache.items,Qcv es x.1 x.2
 ok:Qcy c.cache
theorem Qqp.more {c:Cl} (h:Qqp es c) (xs:List (List UInt8)):Qqp (es++xs) c:=
 ⟨by have:=h.size;rw[List.length_append];omega,by rw[List.take_append_of_le_length h.size];exact h.root,fun x hx=>(h.cache x hx).more xs,h.ok⟩
theorem Qkd {T:List ByteArray} (h:Asks m T) {s:Cs} (hc:Qcy s.cache):Qcy (m s).2.cache∧(m s).2.cache.most=s.cache.most:=by obtain⟨g,_⟩:=h s;refine⟨⟨(g.len hc.once).1,?_⟩,g.most⟩;rw[(g.len hc.once).2,g.most];exact hc.len
section
variable {es:List (List UInt8)} (hl:es.length≤1048576) (hs:∀ e∈es,e.length≤20) {c:Cl} (hc:Qqp es c) {n:Nt} (hn:Qd3 es n)
include hl hs hc hn
theorem Qxr {i:Nat} (hi:i<c.size) {av:Bool} (hh:av=true→Qmi es c.size n) :
  Qqp es (Yp c n i).2.2.1∧Qbk n (Yp c n i).2.2.2∧(Yp c n i).2.2.1.key=c.key∧(Yp c n i).2.2.1.size=c.size∧(Yp c n i).2.2.1.root=c.root∧(Yp c n i).2.2.1.cache.most=c.cache.most∧
   (((Yp c n i).1=Qcb∧(Yp c n i).2.1=((es.take c.size).getD i [],J4 (es.take c.size) i))∨(av=false∧∃ p,(Yp c n i).1=(6,p)∧(Yp c n i).2.1=([],[]))):=by
 have hT:Qff es c.size av (askQ n c.cache):=⟨fun x hx=>by simp[askQ] at hx,hc.cache,hn,hh⟩
 obtain⟨h1,h2,h3⟩:=Qn7 hl hc.size hs (av:=av) hi (askQ n c.cache) hT;have h4:=Qx0 (Qb5 n) c.size i (askQ n c.cache) (Qbk.refl n);obtain⟨h5,h6⟩:=Qkd (Qj3 c.size i) (s:=askQ n c.cache) hc.ok;have hlen:(es.take c.size).length=c.size:=by rw[List.length_take,Nat.min_eq_left hc.size]
 unfold Yp;rw[if_neg (by omega),Int.toNat_natCast];cases hq:Qbr c.size i (askQ n c.cache) with
 | mk o s=>
  rw[hq] at h1 h2 h3 h4 h5 h6;dsimp only at h1 h2 h3 h4 h5 h6;cases o with
  | error e=>
   obtain⟨hav,p,rfl⟩:=h3 e rfl;exact⟨⟨hc.size,hc.root,h1.cache,h5⟩,h4,rfl,rfl,rfl,h6,.inr ⟨hav,p,rfl,rfl⟩⟩
  | ok r=>
   have hr:=h2 r rfl;subst hr;dsimp only;have hinc:=Qp1 (es.take c.size) i (by omega);rw[hlen,←hc.root] at hinc;rw[if_pos hinc];refine⟨⟨hc.size,hc.root,fun x hx=>?_,Qez _ _ h5⟩,h4,rfl,rfl,rfl,(Qe6 _ _).trans h6,.inl ⟨rfl,rfl⟩⟩;rcases Qf7 _ _ _ hx with h7|h7
   ·exact h1.cache x h7
   ·exact h1.files x h7
theorem Qr0 {M:Nat} (hM:M≤es.length) (hcM:c.size≤M) (hcp:Yt n (sOf kCp)=some (cpOf (es.take M) c.key).data.toList) (hh:Qmi es M n) :
  (Zz c n).1=Qcb∧(Zz c n).2.1=(if 0<c.size∧c.size<M then Qam c.size (es.take M) true else [])∧Qqp es (Zz c n).2.2.1∧(Zz c n).2.2.1.size=M∧(Zz c n).2.2.1.key=c.key∧(Zz c n).2.2.1.cache.most=c.cache.most∧Qbk n (Zz c n).2.2.2:=by
 have:=hs
 have hlen:(es.take M).length=M:=by rw[List.length_take,Nat.min_eq_left hM]
 have hck:Yc (cpOf (es.take M) c.key).data.toList c.key.data.toList=((M:Int),rootOf (es.take M),true):=by have e:(cpOf (es.take M) c.key).data.toList=J5 (es.take M).length (rootOf (es.take M)) c.key.data.toList:=rfl;rw[e,Qfj _ _ _ (by omega),hlen]
 unfold Zz;rw[hcp];dsimp only;rw[hck];dsimp only;rw[if_neg (by simp),Int.toNat_natCast,if_neg (by omega)];by_cases h0:M=c.size
 ·rw[if_pos h0,if_pos (by rw[hc.root,h0]),if_neg (by omega)]
  exact⟨rfl,rfl,hc,h0.symm,rfl,rfl,Qap n _⟩
 ·rw[if_neg h0]
  by_cases hz:c.size=0
  ·rw[if_pos hz,if_neg (by omega)]
   exact⟨rfl,rfl,⟨hM,rfl,hc.cache,hc.ok⟩,rfl,rfl,rfl,Qap n _⟩
  ·rw[if_neg hz,if_pos (by omega)]
   have hT:Qff es M true (askQ (Zm n (sOf kCp)) c.cache):=⟨fun x hx=>by simp[askQ] at hx,hc.cache,hn.next _,fun _=>Qm9 hh hn.steady (Qap n _)⟩
   obtain⟨h1,h2,h3⟩:=Ql2 hl hM (av:=true) (m:=c.size) (by omega) hcM (askQ (Zm n (sOf kCp)) c.cache) hT;have h4:Qbk n (Qgc c.size M (askQ (Zm n (sOf kCp)) c.cache)).2.net:=Qgk (Qb5 n) M _ (askQ (Zm n (sOf kCp)) c.cache) (Qap n _);obtain⟨h5,h6⟩:=Qkd (m:=Qgc c.size M) (Qd1 M (Jy M 0 M c.size).reverse) (s:=askQ (Zm n (sOf kCp)) c.cache) hc.ok;cases hq:Qgc c.size M (askQ (Zm n (sOf kCp)) c.cache) with
   | mk o s=>
    rw[hq] at h1 h2 h3 h4 h5 h6;dsimp only at h1 h2 h3 h4 h5 h6;cases o with
    | error e=>
     obtain⟨hav,_⟩:=h3 e rfl;cases hav
    | ok r=>
     have hr:=h2 r rfl;subst hr;dsimp only;have hcon:=Qm6 (es.take M) c.size (by omega) (by omega) (by omega);rw[hlen,List.take_take,Nat.min_eq_left hcM,←hc.root] at hcon;rw[if_pos hcon];refine⟨rfl,rfl,⟨hM,rfl,fun x hx=>?_,Qez _ _ h5⟩,rfl,rfl,(Qe6 _ _).trans h6,h4⟩;rcases Qf7 _ _ _ hx with h7|h7
     ·exact h1.cache x h7
     ·exact h1.files x h7
end
end
section
section
variable {P:Program} {md:Region.Mode} {ops:Array Oper} {Q:Exit→Act→World→Prop}
theorem Qnl (I:Nat→Array Bool→Act→World→Prop) (h0:∀ L a w,I 0 L a w→Region.ready md ops L = []∧Q .normal a w)
  (h1:∀ f L a w,I (f+1) L a w→Region.ready md ops L≠[]∧∀ i∈Region.ready md ops L,wpOp P ops Q i (I f (L.setIfInBounds i true)) a w) :
  ∀ (f:Nat) (L:Array Bool) (a:Act) (w:World),I f L a w→wpAny P md ops Q f L a w
 | 0,L,a,w,h=>h0 L a w h
 | f+1,L,a,w,h=>⟨fun hr=>absurd hr (h1 f L a w h).1,fun i hi=>wpOp_mono (fun a' w' h'=>Qnl I h0 h1 f _ a' w' h') ((h1 f L a w h).2 i hi)⟩
variable {o:Oper} {K:Act→World→Prop} {a:Act} {w:World}
theorem Ju {i:Nat} (hi:ops[i]?=some o) (hg:o.guard=none) (h:o.wp P a w K Q):wpOp P ops Q i K a w:=by
 have hw:Region.wanted o (yielded ops a.tmps)=true:=by unfold Region.wanted;rw[hg]
 unfold wpOp;rw[hi];simp only[hw,if_true];exact Or.inl h
variable {d:Nat} {v:Value}
theorem Qb {k:Nat} {x:Value} (hk:a.tmps.getD k undef=x) (hne:d≠k):(a.put (some d) v).tmps.getD k undef=x:=by unfold Act.put;simp only[Array.getD_eq_getD_getElem?,Array.getElem?_setIfInBounds] at *;rw[if_neg hne];exact hk
theorem Q7 (hd:d<a.tmps.size):(a.put (some d) v).tmps.getD d undef=v:=by unfold Act.put;simp[Array.getD_eq_getD_getElem?,hd]
theorem Jc {d:Option Tmp}:(a.put d v).tmps.size=a.tmps.size:=by cases d <;> simp[Act.put]
theorem Yd {d:Option Tmp}:(a.put d v).defers=a.defers:=by cases d <;> rfl
def bs (b:Nat→Bool):Array Bool:=#[b 0,b 1,b 2,b 3,b 4,b 5,b 6,b 7,b 8,b 9]
def left (b:Nat→Bool):Nat:=(!b 0).toNat+(!b 1).toNat+(!b 2).toNat+(!b 3).toNat+(!b 4).toNat+(!b 5).toNat+(!b 6).toNat+(!b 7).toNat+(!b 8).toNat+(!b 9).toNat
def upd (b:Nat→Bool) (i:Nat):Nat→Bool:=fun j=>if j=i then true else b j
theorem Q5g (b:Nat→Bool) (i:Nat) (hi:i<10):(bs b).setIfInBounds i true=bs (upd b i):=by
 have:i=0∨i=1∨i=2∨i=3∨i=4∨i=5∨i=6∨i=7∨i=8∨i=9:=by omega
 rcases this with rfl|rfl|rfl|rfl|rfl|rfl|rfl|rfl|rfl|rfl <;> rfl
theorem Qwl (b:Nat→Bool) (i:Nat) (hi:i<10) (hb:b i=false) (f:Nat) (h:f+1=left b):f=left (upd b i):=by
 have:i=0∨i=1∨i=2∨i=3∨i=4∨i=5∨i=6∨i=7∨i=8∨i=9:=by omega
 rcases this with rfl|rfl|rfl|rfl|rfl|rfl|rfl|rfl|rfl|rfl <;> (simp only[left,upd,hb,Bool.not_false,Bool.toNat_true] at *;simp;omega)
theorem Qvs (f:FuncId) (x y:Operand) (ts:Array TypeId) (ho:o.op=.call { callee:=.value (.func f),args:=#[x,y],argTypes:=ts })
  (hf:∀ args w,(callFunc f args).run P w=.ok (.enter f args) w) (h:Calls P f #[a.eval x,a.eval y] w fun e w'=>∃ v,e=.returned v∧K (a.put o.dst v) w'):o.wp P a w K Q:=by
 have hr:(execOp a.eval o).run P w=.ok (.enter f #[a.eval x,a.eval y]) w:=by unfold execOp;rw[ho];go_simp
 unfold Oper.wp;rw[hr,Oper.upon_enter];refine h.mono ?_;rintro e w' ⟨v,rfl,hk⟩;exact hk
end
end
section
abbrev bv (x:UInt8):Value:=.int .u8 x.toNat
def Qfd (w:World) (base:Nat) (v:Value) (l:List UInt8):Prop:=w.ownsRow base 5 1 v l.length (l.map bv)
theorem Qfd.bytes {w:World} {base:Nat} {v:Value} {l:List UInt8} (h:Qfd w base v l):Q6 w v l:=Ya h
theorem Q3a (h:Hsh) (k:Nat) (hk:k<8) (w:World):(Instr.index 109 (.agg (h8 h)) (.int .i64 k)).run prog w=.ok (bv (h.toList.getD k 0)) w:=by
 have hu:=underlying109;have hs:(sizeOf 5).run prog w=.ok 1 w:=by kernel_rfl
 have hg:(isAgg 5).run prog w=.ok false w:=by kernel_rfl
 have hx:(h8 h)[k]?=some (bv (h.toList.getD k 0)):=by simp[h8,hk,List.getD]
 simp[Instr.index,asIntOf,run_underlying hu,Go.part,hs,hg,hk,hx];simp[h8]
def kHex:ByteArray:=⟨#[48,49,50,51,52,53,54,55,56,57,97,98,99,100,101,102]⟩
theorem Q2s (n:Nat) (h:n<16):kHex[n]?=some (hexD n):=by
 have:∀ m:Fin 16,kHex[m.1]?=some (hexD m.1):=by decide
 exact this ⟨n,h⟩
theorem Qqs (n:Nat) (h:n<16) (w:World):(Instr.index 9 (.string kHex) (.int .u8 n)).run prog w=.ok (bv (hexD n)) w:=by have hu:=underlying9;have hx:=Q2s n h;simp[Instr.index,asIntOf,run_underlying hu,hx]
theorem Q5r (x:UInt8) (w:World):(binOp .shr 5 (bv x) (.int .u64 4)).run prog w=.ok (.int .u8 ((x.toNat / 16:Nat):Int)) w:=by go_simp
theorem Q53 (x:UInt8) (w:World):(binOp .and 5 (bv x) (.int .u8 15)).run prog w=.ok (.int .u8 ((x.toNat%16:Nat):Int)) w:=by
 go_simp;have h:∀ n:Fin 256,bits BinOp.and IntKind.u8 ((n.1:Nat):Int) 15=(n.1:Int)%16:=by decide +kernel
 exact h ⟨x.toNat,x.toNat_lt⟩
theorem build2 (p q:UInt8) (w:World):(Instr.buildSlice 94 2 #[(0,bv p),(1,bv q)]).run prog w=.ok (.slice (some ⟨w.heap.size,0,none⟩) 2 2) (w.alloc (.cells #[bv p,bv q] 5)):=by
 kernel_rfl
end
section
variable {P:Program} {o:Oper} {K:Act→World→Prop} {Q:Exit→Act→World→Prop} {a:Act} {w:World}
theorem Qvt (val:Value) (hr:(execOp a.eval o).run P w=.ok (.value val) w) (h:K (a.put o.dst val) w):o.wp P a w K Q:=by unfold Oper.wp;rw[hr];exact h
theorem Q6y (val:Value) (w':World) (hr:(execOp a.eval o).run P w=.ok (.value val) w') (h:K (a.put o.dst val) w'):o.wp P a w K Q:=by unfold Oper.wp;rw[hr];exact h
structure Qw7 (base:Array Value) (v:Value) (x p q:UInt8) (l:List UInt8) (B:Nat) (W:World) (b:Nat→Bool) (a:Act) (w:World):Prop where
 d:a.defers = []
 s:a.tmps.size=22
 t5:a.tmps.getD 5 undef=bv x
 keep:∀ k,k≠3→(k<10∨18<k)→a.tmps.getD k undef=base.getD k undef
 t3:b 9=false→a.tmps.getD 3 undef=v
 r0:b 0=true→a.tmps.getD 10 undef=v
 r1:b 1=true→a.tmps.getD 11 undef=bv x
 r2:b 2=true→a.tmps.getD 12 undef=.int .u8 ((x.toNat / 16:Nat):Int)
 r3:b 3=true→a.tmps.getD 13 undef=bv p
 r4:b 4=true→a.tmps.getD 14 undef=bv x
 r5:b 5=true→a.tmps.getD 15 undef=.int .u8 ((x.toNat%16:Nat):Int)
 r6:b 6=true→a.tmps.getD 16 undef=bv q
 r7:b 7=true→a.tmps.getD 17 undef=.slice (some ⟨W.heap.size,0,none⟩) 2 2
 w0:b 7=false→w=W
 w1:b 7=true→b 8=false→w=W.alloc (.cells #[bv p,bv q] 5)
 r8:b 8=true→Qfd w B (a.tmps.getD 18 undef) (l ++ [p,q])∧W.grownBy w v.ownBlock
 e9:b 9=true→b 8=true∧a.tmps.getD 3 undef=a.tmps.getD 18 undef
 c8:b 8=true→b 7=true
 c80:b 8=true→b 0=true
theorem Q58 (s x:Operand) (t:TypeId)
  (ho:o.op=.call { callee:=.builtin .append,args:=#[s,x],argTypes:=#[t,t] })
  (base:Nat) (i:TypeInfo) (ht:P.underlying t=some (.slice 5)) (hi:P.info? 5=some i) (hz:i.zero=some (.int .u8 0)) (hsize:i.size=1) (hby:i.bytes=1)
  (v:Value) (l:List UInt8) (hs:a.eval s=v) (hown:Qfd w base v l) (p q:UInt8) (hx:a.eval x=.slice (some ⟨w.heap.size,0,none⟩) 2 2)
  (hn:l.length≤1099511627776) (hbase:base≤w.heap.size)
  (h:∀ v' w',Qfd w' base v' (l ++ [p,q])→w.grownBy w' v.ownBlock→K (a.put o.dst v') w') :
  o.wp P a (w.alloc (.cells #[bv p,bv q] 5)) K Q:=by
 refine wp_append_own _ s x t ho base _ i _ 1 1 ht hi hz hsize hby rfl (by decide) v _ _ hs (World.ownsRow.alloc hown _) ⟨w.heap.size,0,none⟩ 2 2 [bv p,bv q] hx rfl ?_ (by simp[Value.oneCell']) (by unfold maxLen;omega) (by omega) (by simp;omega) fun v' w' h2 h3 _=>?_
 ·intro j u hj
  rw[Addr.add_lit,Nat.zero_add,World.cell?_alloc_at _ _ _ _ rfl];simpa using hj
 ·refine h v' w' ?_ (Qar (World.grownBy_alloc w _ _) h3)
  unfold Qfd;simpa using h2
variable {base:Array Value} {v:Value} {x p q:UInt8} {l:List UInt8} {B:Nat} {W:World} {ops:Array Oper}
theorem Q6r
  (r:∀ b:Nat→Bool,∀ i∈Region.ready .any ops (bs b),i<10∧b i=false∧(i=2→b 1=true)∧(i=3→b 2=true)∧(i=5→b 4=true)∧(i=6→b 5=true)∧(i=7→b 3=true∧b 6=true)∧(i=8→b 0=true∧b 7=true)∧(i=9→b 8=true))
  (r0:∀ b:Nat→Bool,left b=0→Region.ready .any ops (bs b) = []) (r1:∀ (b:Nat→Bool) (f:Nat),f+1=left b→Region.ready .any ops (bs b)≠[])
  (o0:∃ (o:Oper),ops[0]?=some o∧o.guard=none∧o.dst=some 10∧o.op=.move (.tmp 3))
  (o1:∃ (o:Oper),ops[1]?=some o∧o.guard=none∧o.dst=some 11∧o.op=.move (.tmp 5))
  (o2:∃ (o:Oper) (ty:TypeId),ops[2]?=some o∧o.guard=none∧o.dst=some 12∧o.op=.binOp .shr 5 (.tmp 11) (.const (.int .u64 4)) ty)
  (o3:∃ (o:Oper),ops[3]?=some o∧o.guard=none∧o.dst=some 13∧o.op=.index 9 (.const (.string kHex)) (.tmp 12))
  (o4:∃ (o:Oper),ops[4]?=some o∧o.guard=none∧o.dst=some 14∧o.op=.move (.tmp 5))
  (o5:∃ (o:Oper) (ty:TypeId),ops[5]?=some o∧o.guard=none∧o.dst=some 15∧o.op=.binOp .and 5 (.tmp 14) (.const (.int .u8 15)) ty)
  (o6:∃ (o:Oper),ops[6]?=some o∧o.guard=none∧o.dst=some 16∧o.op=.index 9 (.const (.string kHex)) (.tmp 15))
  (o7:∃ (o:Oper),ops[7]?=some o∧o.guard=none∧o.dst=some 17∧o.op=.buildSlice 94 2 #[(0,.tmp 13),(1,.tmp 16)])
  (o8:∃ (o:Oper),ops[8]?=some o∧o.guard=none∧o.dst=some 18∧o.op=.call { callee:=.builtin .append,args:=#[.tmp 10,.tmp 17],argTypes:=#[94,94] })
  (o9:∃ (o:Oper),ops[9]?=some o∧o.guard=none∧o.dst=some 3∧o.op=.assign (.tmp 18))
  (hp:p=hexD (x.toNat / 16)) (hq:q=hexD (x.toNat%16)) (hown:Qfd W B v l) (hll:l.length≤1000) (hB:B≤W.heap.size)
  (hQ:∀ a w,Qw7 base v x p q l B W (fun _=>true) a w→Q .normal a w) :
  ∀ a w,Qw7 base v x p q l B W (fun _=>false) a w→wpAny prog .any ops Q 10 (Array.replicate 10 false) a w:=by
 obtain⟨i0,hi0,hz0,hz1,hz2⟩:=info_parts Qj8;have hxb:=x.toNat_lt;intro a w h;refine Qnl (fun f L a w=>∃ b,L=bs b∧f=left b∧Qw7 base v x p q l B W b a w) ?_ ?_ 10 _ a w ⟨fun _=>false,rfl,rfl,h⟩
 ·rintro L a w ⟨b,rfl,hf,h⟩
  refine⟨r0 b hf.symm,hQ a w ?_⟩;have hh:∀ c:Bool,(!c).toNat=0→c=true:=by intro c;cases c <;> simp
  unfold left at hf;have e:∀ k,k<10→b k=true:=by
   intro k hk
   have:k=0∨k=1∨k=2∨k=3∨k=4∨k=5∨k=6∨k=7∨k=8∨k=9:=by omega
   rcases this with rfl|rfl|rfl|rfl|rfl|rfl|rfl|rfl|rfl|rfl <;> exact hh _ (by omega)
  exact { d:=h.d,s:=h.s,t5:=h.t5,keep:=h.keep,t3:=fun k=>absurd k (by decide),r0:=fun _=>h.r0 (e 0 (by omega)),r1:=fun _=>h.r1 (e 1 (by omega)),r2:=fun _=>h.r2 (e 2 (by omega)),r3:=fun _=>h.r3 (e 3 (by omega)),r4:=fun _=>h.r4 (e 4 (by omega)),r5:=fun _=>h.r5 (e 5 (by omega)),r6:=fun _=>h.r6 (e 6 (by omega)),r7:=fun _=>h.r7 (e 7 (by omega)),w0:=fun k=>absurd k (by decide),w1:=fun _ k=>absurd k (by decide),r8:=fun _=>h.r8 (e 8 (by omega)),e9:=fun _=>⟨rfl,(h.e9 (e 9 (by omega))).2⟩,c8:=fun _=>rfl,c80:=fun _=>rfl }
 ·rintro f L a w ⟨b,rfl,hf,h⟩
  refine⟨r1 b f hf,fun i hi=>?_⟩;obtain⟨hi10,hbi,d2,d3,d5,d6,d7,d8,d9⟩:=r b i hi;have hL:=Q5g b i hi10;have hF:=Qwl b i hi10 hbi f hf
  have:i=0∨i=1∨i=2∨i=3∨i=4∨i=5∨i=6∨i=7∨i=8∨i=9:=by omega
  rcases this with rfl|rfl|rfl|rfl|rfl|rfl|rfl|rfl|rfl|rfl
  ·obtain⟨o,h1,h2,h3,h4⟩:=o0
   have n9:b 9=false:=by rcases hh:b 9 with _|_;rfl;exact absurd (h.c80 (h.e9 hh).1) (by rw[hbi];decide)
   refine Ju h1 h2 (BigFrame.wp_move _ h4 ⟨upd b 0,hL,hF,?_⟩);rw[h3,show a.eval (.tmp 3)=v from h.t3 n9];exact { d:=Yd.trans h.d,s:=by rw[Jc];exact h.s,t5:=Qb h.t5 (by decide),keep:=fun k h3 hk=>Qb (h.keep k h3 hk) (by omega),t3:=fun e=>Qb (h.t3 e) (by decide),r0:=fun _=>Q7 (by rw[h.s];decide),r1:=fun e=>Qb (h.r1 e) (by decide),r2:=fun e=>Qb (h.r2 e) (by decide),r3:=fun e=>Qb (h.r3 e) (by decide),r4:=fun e=>Qb (h.r4 e) (by decide),r5:=fun e=>Qb (h.r5 e) (by decide),r6:=fun e=>Qb (h.r6 e) (by decide),r7:=fun e=>Qb (h.r7 e) (by decide),w0:=h.w0,w1:=h.w1,c8:=h.c8,c80:=fun _=>rfl,r8:=fun e=>(by rw[Qb rfl (by decide)];exact h.r8 e),e9:=fun e=>⟨(h.e9 e).1,by rw[Qb rfl (by decide),Qb rfl (by decide)];exact (h.e9 e).2⟩ }
  ·obtain⟨o,h1,h2,h3,h4⟩:=o1
   refine Ju h1 h2 (BigFrame.wp_move _ h4 ⟨upd b 1,hL,hF,?_⟩);rw[h3,show a.eval (.tmp 5)=bv x from h.t5];exact { d:=Yd.trans h.d,s:=by rw[Jc];exact h.s,t5:=Qb h.t5 (by decide),keep:=fun k h3 hk=>Qb (h.keep k h3 hk) (by omega),t3:=fun e=>Qb (h.t3 e) (by decide),r0:=fun e=>Qb (h.r0 e) (by decide),r1:=fun _=>Q7 (by rw[h.s];decide),r2:=fun e=>Qb (h.r2 e) (by decide),r3:=fun e=>Qb (h.r3 e) (by decide),r4:=fun e=>Qb (h.r4 e) (by decide),r5:=fun e=>Qb (h.r5 e) (by decide),r6:=fun e=>Qb (h.r6 e) (by decide),r7:=fun e=>Qb (h.r7 e) (by decide),w0:=h.w0,w1:=h.w1,c8:=h.c8,c80:=h.c80,r8:=fun e=>(by rw[Qb rfl (by decide)];exact h.r8 e),e9:=fun e=>⟨(h.e9 e).1,by rw[Qb rfl (by decide),Qb rfl (by decide)];exact (h.e9 e).2⟩ }
  ·obtain⟨o,ty,h1,h2,h3,h4⟩:=o2
   have e1:a.eval (.tmp 11)=bv x:=h.r1 (d2 rfl);refine Ju h1 h2 (Qvt (.int .u8 ((x.toNat / 16:Nat):Int)) ?_ ⟨upd b 2,hL,hF,?_⟩)
   ·unfold execOp
    rw[h4];have e2:a.eval (.const (.int .u64 4))=.int .u64 4:=rfl;have hv:=Q5r x w;simp only[e1,e2,eqGuard_shr,Sem.run_bind,hv,Result.andThen_ok,Sem.run_pure]
   ·rw[h3]
    exact { d:=Yd.trans h.d,s:=by rw[Jc];exact h.s,t5:=Qb h.t5 (by decide),keep:=fun k h3 hk=>Qb (h.keep k h3 hk) (by omega),t3:=fun e=>Qb (h.t3 e) (by decide),r0:=fun e=>Qb (h.r0 e) (by decide),r1:=fun e=>Qb (h.r1 e) (by decide),r2:=fun _=>Q7 (by rw[h.s];decide),r3:=fun e=>Qb (h.r3 e) (by decide),r4:=fun e=>Qb (h.r4 e) (by decide),r5:=fun e=>Qb (h.r5 e) (by decide),r6:=fun e=>Qb (h.r6 e) (by decide),r7:=fun e=>Qb (h.r7 e) (by decide),w0:=h.w0,w1:=h.w1,c8:=h.c8,c80:=h.c80,r8:=fun e=>(by rw[Qb rfl (by decide)];exact h.r8 e),e9:=fun e=>⟨(h.e9 e).1,by rw[Qb rfl (by decide),Qb rfl (by decide)];exact (h.e9 e).2⟩ }
  ·obtain⟨o,h1,h2,h3,h4⟩:=o3
   have e1:a.eval (.tmp 12)=.int .u8 ((x.toNat / 16:Nat):Int):=h.r2 (d3 rfl);have hv:=Qqs (x.toNat / 16) (by omega) w;rw[←hp] at hv;refine Ju h1 h2 (Qvt (bv p) ?_ ⟨upd b 3,hL,hF,?_⟩)
   ·unfold execOp
    rw[h4];have e2:a.eval (.const (.string kHex))=.string kHex:=rfl;simp only[e1,e2,Sem.run_bind,hv,Result.andThen_ok,Sem.run_pure]
   ·rw[h3]
    exact { d:=Yd.trans h.d,s:=by rw[Jc];exact h.s,t5:=Qb h.t5 (by decide),keep:=fun k h3 hk=>Qb (h.keep k h3 hk) (by omega),t3:=fun e=>Qb (h.t3 e) (by decide),r0:=fun e=>Qb (h.r0 e) (by decide),r1:=fun e=>Qb (h.r1 e) (by decide),r2:=fun e=>Qb (h.r2 e) (by decide),r3:=fun _=>Q7 (by rw[h.s];decide),r4:=fun e=>Qb (h.r4 e) (by decide),r5:=fun e=>Qb (h.r5 e) (by decide),r6:=fun e=>Qb (h.r6 e) (by decide),r7:=fun e=>Qb (h.r7 e) (by decide),w0:=h.w0,w1:=h.w1,c8:=h.c8,c80:=h.c80,r8:=fun e=>(by rw[Qb rfl (by decide)];exact h.r8 e),e9:=fun e=>⟨(h.e9 e).1,by rw[Qb rfl (by decide),Qb rfl (by decide)];exact (h.e9 e).2⟩ }
  ·obtain⟨o,h1,h2,h3,h4⟩:=o4
   refine Ju h1 h2 (BigFrame.wp_move _ h4 ⟨upd b 4,hL,hF,?_⟩);rw[h3,show a.eval (.tmp 5)=bv x from h.t5];exact { d:=Yd.trans h.d,s:=by rw[Jc];exact h.s,t5:=Qb h.t5 (by decide),keep:=fun k h3 hk=>Qb (h.keep k h3 hk) (by omega),t3:=fun e=>Qb (h.t3 e) (by decide),r0:=fun e=>Qb (h.r0 e) (by decide),r1:=fun e=>Qb (h.r1 e) (by decide),r2:=fun e=>Qb (h.r2 e) (by decide),r3:=fun e=>Qb (h.r3 e) (by decide),r4:=fun _=>Q7 (by rw[h.s];decide),r5:=fun e=>Qb (h.r5 e) (by decide),r6:=fun e=>Qb (h.r6 e) (by decide),r7:=fun e=>Qb (h.r7 e) (by decide),w0:=h.w0,w1:=h.w1,c8:=h.c8,c80:=h.c80,r8:=fun e=>(by rw[Qb rfl (by decide)];exact h.r8 e),e9:=fun e=>⟨(h.e9 e).1,by rw[Qb rfl (by decide),Qb rfl (by decide)];exact (h.e9 e).2⟩ }
  ·obtain⟨o,ty,h1,h2,h3,h4⟩:=o5
   have e1:a.eval (.tmp 14)=bv x:=h.r4 (d5 rfl);have hv:=Q53 x w;refine Ju h1 h2 (Qvt (.int .u8 ((x.toNat%16:Nat):Int)) ?_ ⟨upd b 5,hL,hF,?_⟩)
   ·unfold execOp
    rw[h4];have e2:a.eval (.const (.int .u8 15))=.int .u8 15:=rfl;simp only[e1,e2,eqGuard_and,Sem.run_bind,hv,Result.andThen_ok,Sem.run_pure]
   ·rw[h3]
    exact { d:=Yd.trans h.d,s:=by rw[Jc];exact h.s,t5:=Qb h.t5 (by decide),keep:=fun k h3 hk=>Qb (h.keep k h3 hk) (by omega),t3:=fun e=>Qb (h.t3 e) (by decide),r0:=fun e=>Qb (h.r0 e) (by decide),r1:=fun e=>Qb (h.r1 e) (by decide),r2:=fun e=>Qb (h.r2 e) (by decide),r3:=fun e=>Qb (h.r3 e) (by decide),r4:=fun e=>Qb (h.r4 e) (by decide),r5:=fun _=>Q7 (by rw[h.s];decide),r6:=fun e=>Qb (h.r6 e) (by decide),r7:=fun e=>Qb (h.r7 e) (by decide),w0:=h.w0,w1:=h.w1,c8:=h.c8,c80:=h.c80,r8:=fun e=>(by rw[Qb rfl (by decide)];exact h.r8 e),e9:=fun e=>⟨(h.e9 e).1,by rw[Qb rfl (by decide),Qb rfl (by decide)];exact (h.e9 e).2⟩ }
  ·obtain⟨o,h1,h2,h3,h4⟩:=o6
   have e1:a.eval (.tmp 15)=.int .u8 ((x.toNat%16:Nat):Int):=h.r5 (d6 rfl);have hv:=Qqs (x.toNat%16) (by omega) w;rw[←hq] at hv;refine Ju h1 h2 (Qvt (bv q) ?_ ⟨upd b 6,hL,hF,?_⟩)
   ·unfold execOp
    rw[h4];have e2:a.eval (.const (.string kHex))=.string kHex:=rfl;simp only[e1,e2,Sem.run_bind,hv,Result.andThen_ok,Sem.run_pure]
   ·rw[h3]
    exact { d:=Yd.trans h.d,s:=by rw[Jc];exact h.s,t5:=Qb h.t5 (by decide),keep:=fun k h3 hk=>Qb (h.keep k h3 hk) (by omega),t3:=fun e=>Qb (h.t3 e) (by decide),r0:=fun e=>Qb (h.r0 e) (by decide),r1:=fun e=>Qb (h.r1 e) (by decide),r2:=fun e=>Qb (h.r2 e) (by decide),r3:=fun e=>Qb (h.r3 e) (by decide),r4:=fun e=>Qb (h.r4 e) (by decide),r5:=fun e=>Qb (h.r5 e) (by decide),r6:=fun _=>Q7 (by rw[h.s];decide),r7:=fun e=>Qb (h.r7 e) (by decide),w0:=h.w0,w1:=h.w1,c8:=h.c8,c80:=h.c80,r8:=fun e=>(by rw[Qb rfl (by decide)];exact h.r8 e),e9:=fun e=>⟨(h.e9 e).1,by rw[Qb rfl (by decide),Qb rfl (by decide)];exact (h.e9 e).2⟩ }
  ·obtain⟨o,h1,h2,h3,h4⟩:=o7
   have e1:a.eval (.tmp 13)=bv p:=h.r3 (d7 rfl).1;have e2:a.eval (.tmp 16)=bv q:=h.r6 (d7 rfl).2;obtain rfl:=h.w0 hbi;refine Ju h1 h2 (Q6y (.slice (some ⟨w.heap.size,0,none⟩) 2 2) (w.alloc (.cells #[bv p,bv q] 5)) ?_ ⟨upd b 7,hL,hF,?_⟩)
   ·unfold execOp
    rw[h4];have hv:=build2 p q w;simp only[List.map_toArray,List.map_cons,List.map_nil,e1,e2];simp[hv]
   ·rw[h3]
    exact { d:=Yd.trans h.d,s:=by rw[Jc];exact h.s,t5:=Qb h.t5 (by decide),keep:=fun k h3 hk=>Qb (h.keep k h3 hk) (by omega),t3:=fun e=>Qb (h.t3 e) (by decide),r0:=fun e=>Qb (h.r0 e) (by decide),r1:=fun e=>Qb (h.r1 e) (by decide),r2:=fun e=>Qb (h.r2 e) (by decide),r3:=fun e=>Qb (h.r3 e) (by decide),r4:=fun e=>Qb (h.r4 e) (by decide),r5:=fun e=>Qb (h.r5 e) (by decide),r6:=fun e=>Qb (h.r6 e) (by decide),r7:=fun _=>Q7 (by rw[h.s];decide),w0:=fun e=>absurd (show true=false from e) (by decide),w1:=fun _ _=>rfl,c8:=fun e=>rfl,c80:=h.c80,r8:=fun e=>absurd (h.c8 e) (by rw[hbi];decide),e9:=fun e=>absurd (h.c8 (h.e9 e).1) (by rw[hbi];decide) }
  ·obtain⟨o,h1,h2,h3,h4⟩:=o8
   obtain rfl:=h.w1 (d8 rfl).2 hbi;refine Ju h1 h2 (Q58 _ _ _ h4 B i0 underlying94 hi0 hz0 hz1 hz2 v l (h.r0 (d8 rfl).1) hown p q (h.r7 (d8 rfl).2) (by omega) hB fun v' w' hr hg=>⟨upd b 8,hL,hF,?_⟩);rw[h3];exact { d:=Yd.trans h.d,s:=by rw[Jc];exact h.s,t5:=Qb h.t5 (by decide),keep:=fun k h3 hk=>Qb (h.keep k h3 hk) (by omega),t3:=fun e=>Qb (h.t3 e) (by decide),r0:=fun e=>Qb (h.r0 e) (by decide),r1:=fun e=>Qb (h.r1 e) (by decide),r2:=fun e=>Qb (h.r2 e) (by decide),r3:=fun e=>Qb (h.r3 e) (by decide),r4:=fun e=>Qb (h.r4 e) (by decide),r5:=fun e=>Qb (h.r5 e) (by decide),r6:=fun e=>Qb (h.r6 e) (by decide),r7:=fun e=>Qb (h.r7 e) (by decide),w0:=fun e=>absurd (show b 7=false from e) (by rw[(d8 rfl).2];decide),w1:=fun _ e=>absurd (show true=false from e) (by decide),c8:=fun _=>(d8 rfl).2,c80:=fun _=>(d8 rfl).1,r8:=fun _=>(by rw[Q7 (by rw[h.s];decide)];exact⟨hr,hg⟩),e9:=fun e=>absurd (h.e9 e).1 (by rw[hbi];decide) }
  ·obtain⟨o,h1,h2,h3,h4⟩:=o9
   refine Ju h1 h2 (BigFrame.wp_assign _ h4 ⟨upd b 9,hL,hF,?_⟩);rw[h3,show a.eval (.tmp 18)=a.tmps.getD 18 undef from rfl];exact { d:=Yd.trans h.d,s:=by rw[Jc];exact h.s,t5:=Qb h.t5 (by decide),keep:=fun k h3 hk=>Qb (h.keep k h3 hk) (Ne.symm h3),t3:=fun e=>absurd (show true=false from e) (by decide),r0:=fun e=>Qb (h.r0 e) (by decide),r1:=fun e=>Qb (h.r1 e) (by decide),r2:=fun e=>Qb (h.r2 e) (by decide),r3:=fun e=>Qb (h.r3 e) (by decide),r4:=fun e=>Qb (h.r4 e) (by decide),r5:=fun e=>Qb (h.r5 e) (by decide),r6:=fun e=>Qb (h.r6 e) (by decide),r7:=fun e=>Qb (h.r7 e) (by decide),w0:=h.w0,w1:=h.w1,c8:=h.c8,c80:=h.c80,r8:=fun e=>(by rw[Qb rfl (by decide)];exact h.r8 e),e9:=fun _=>⟨d9 rfl,by rw[Q7 (by rw[h.s];decide),Qb rfl (by decide)]⟩ }
abbrev Qto (base:Array Value) (v:Value) (x p q:UInt8) (W:World) (v':Value):Act:=
 ((((((((((⟨base,[]⟩:Act).put (some 10) v).put (some 11) (bv x)).put (some 12) (.int .u8 ((x.toNat / 16:Nat):Int))).put (some 13) (bv p)).put (some 14) (bv x)).put (some 15) (.int .u8 ((x.toNat%16:Nat):Int))).put (some 16) (bv q)).put (some 17) (.slice (some ⟨W.heap.size,0,none⟩) 2 2)).put (some 18) v').put (some 3) v'
theorem Q7t {c:Act} (hd:a.defers=c.defers) (hs:a.tmps.size=c.tmps.size) (h:∀ k,k<c.tmps.size→a.tmps.getD k undef=c.tmps.getD k undef):a=c:=by
 obtain⟨t,d⟩:=a;obtain⟨t',d'⟩:=c;simp only at hd hs h;subst hd
 congr 1
 apply Array.ext hs;intro i h1 h2
 have:=h i h2
 simpa [Array.getD_eq_getD_getElem?,h1,h2] using this
theorem Qw7.act (hb:base.size=22) (h:Qw7 base v x p q l B W (fun _=>true) a w) :
  a=Qto base v x p q W (a.tmps.getD 18 undef):=by
 obtain⟨y,hy⟩:∃ y,y=a.tmps.getD 18 undef:=⟨_,rfl⟩
 rw[←hy];have hsz:(Qto base v x p q W y).tmps.size=22:=by simp[Act.put,hb]
 refine Q7t h.d (h.s.trans hsz.symm) fun k hk=>?_
 rw[hsz] at hk;have hc:k=3∨k=10∨k=11∨k=12∨k=13∨k=14∨k=15∨k=16∨k=17∨k=18∨(k≠3∧(k<10∨18<k)):=by omega
 rcases hc with rfl|rfl|rfl|rfl|rfl|rfl|rfl|rfl|rfl|rfl|⟨h3,hk'⟩
 ·rw[(h.e9 rfl).2,←hy,Q7 (by simp[Act.put,hb])]
 ·rw[h.r0 rfl]
  refine (?_:_=_).symm;exact Qb (Qb (Qb (Qb (Qb (Qb (Qb (Qb (Qb (Q7 (by simp[Act.put,hb])) (by decide)) (by decide)) (by decide)) (by decide)) (by decide)) (by decide)) (by decide)) (by decide)) (by decide)
 ·rw[h.r1 rfl]
  refine (?_:_=_).symm;exact Qb (Qb (Qb (Qb (Qb (Qb (Qb (Qb (Q7 (by simp[Act.put,hb])) (by decide)) (by decide)) (by decide)) (by decide)) (by decide)) (by decide)) (by decide)) (by decide)
 ·rw[h.r2 rfl]
  refine (?_:_=_).symm;exact Qb (Qb (Qb (Qb (Qb (Qb (Qb (Q7 (by simp[Act.put,hb])) (by decide)) (by decide)) (by decide)) (by decide)) (by decide)) (by decide)) (by decide)
 ·rw[h.r3 rfl]
  refine (?_:_=_).symm;exact Qb (Qb (Qb (Qb (Qb (Qb (Q7 (by simp[Act.put,hb])) (by decide)) (by decide)) (by decide)) (by decide)) (by decide)) (by decide)
 ·rw[h.r4 rfl]
  refine (?_:_=_).symm;exact Qb (Qb (Qb (Qb (Qb (Q7 (by simp[Act.put,hb])) (by decide)) (by decide)) (by decide)) (by decide)) (by decide)
 ·rw[h.r5 rfl]
  refine (?_:_=_).symm;exact Qb (Qb (Qb (Qb (Q7 (by simp[Act.put,hb])) (by decide)) (by decide)) (by decide)) (by decide)
 ·rw[h.r6 rfl]
  refine (?_:_=_).symm;exact Qb (Qb (Qb (Q7 (by simp[Act.put,hb])) (by decide)) (by decide)) (by decide)
 ·rw[h.r7 rfl]
  refine (?_:_=_).symm;exact Qb (Qb (Q7 (by simp[Act.put,hb])) (by decide)) (by decide)
 ·rw[←hy]
  refine (?_:_=_).symm;exact Qb (Q7 (by simp[Act.put,hb])) (by decide)
 ·rw[h.keep k h3 hk']
  refine (?_:_=_).symm;exact Qb (Qb (Qb (Qb (Qb (Qb (Qb (Qb (Qb (Qb (rfl) (by omega)) (by omega)) (by omega)) (by omega)) (by omega)) (by omega)) (by omega)) (by omega)) (by omega)) (by omega)
theorem Q3u
  (hb:base.size=22) (h3:base.getD 3 undef=v) (h5:base.getD 5 undef=bv x)
  (r:∀ b:Nat→Bool,∀ i∈Region.ready .any ops (bs b),i<10∧b i=false∧(i=2→b 1=true)∧(i=3→b 2=true)∧(i=5→b 4=true)∧(i=6→b 5=true)∧(i=7→b 3=true∧b 6=true)∧(i=8→b 0=true∧b 7=true)∧(i=9→b 8=true))
  (r0:∀ b:Nat→Bool,left b=0→Region.ready .any ops (bs b) = []) (r1:∀ (b:Nat→Bool) (f:Nat),f+1=left b→Region.ready .any ops (bs b)≠[])
  (o0:∃ (o:Oper),ops[0]?=some o∧o.guard=none∧o.dst=some 10∧o.op=.move (.tmp 3))
  (o1:∃ (o:Oper),ops[1]?=some o∧o.guard=none∧o.dst=some 11∧o.op=.move (.tmp 5))
  (o2:∃ (o:Oper) (ty:TypeId),ops[2]?=some o∧o.guard=none∧o.dst=some 12∧o.op=.binOp .shr 5 (.tmp 11) (.const (.int .u64 4)) ty)
  (o3:∃ (o:Oper),ops[3]?=some o∧o.guard=none∧o.dst=some 13∧o.op=.index 9 (.const (.string kHex)) (.tmp 12))
  (o4:∃ (o:Oper),ops[4]?=some o∧o.guard=none∧o.dst=some 14∧o.op=.move (.tmp 5))
  (o5:∃ (o:Oper) (ty:TypeId),ops[5]?=some o∧o.guard=none∧o.dst=some 15∧o.op=.binOp .and 5 (.tmp 14) (.const (.int .u8 15)) ty)
  (o6:∃ (o:Oper),ops[6]?=some o∧o.guard=none∧o.dst=some 16∧o.op=.index 9 (.const (.string kHex)) (.tmp 15))
  (o7:∃ (o:Oper),ops[7]?=some o∧o.guard=none∧o.dst=some 17∧o.op=.buildSlice 94 2 #[(0,.tmp 13),(1,.tmp 16)])
  (o8:∃ (o:Oper),ops[8]?=some o∧o.guard=none∧o.dst=some 18∧o.op=.call { callee:=.builtin .append,args:=#[.tmp 10,.tmp 17],argTypes:=#[94,94] })
  (o9:∃ (o:Oper),ops[9]?=some o∧o.guard=none∧o.dst=some 3∧o.op=.assign (.tmp 18))
  (hown:Qfd W B v l) (hll:l.length≤1000) (hB:B≤W.heap.size)
  (hQ:∀ v' w',Qfd w' B v' (l ++ [hexD (x.toNat / 16),hexD (x.toNat%16)])→W.grownBy w' v.ownBlock→Q .normal (Qto base v x (hexD (x.toNat / 16)) (hexD (x.toNat%16)) W v') w') :
  wpAny prog .any ops Q 10 (Array.replicate 10 false) ⟨base,[]⟩ W:=by
 refine Q6r (p:=hexD (x.toNat / 16)) (q:=hexD (x.toNat%16)) (v:=v) (x:=x) (l:=l) (B:=B) (base:=base) r r0 r1 o0 o1 o2 o3 o4 o5 o6 o7 o8 o9 rfl rfl hown hll hB (fun a w h=>?_) ⟨base,[]⟩ W ?_
 ·rw[Qw7.act hb h]
  exact hQ _ _ (h.r8 rfl).1 (h.r8 rfl).2
 ·exact { d:=rfl,s:=hb,t5:=h5,keep:=fun _ _ _=>rfl,t3:=fun _=>h3,r0:=fun k=>absurd k (by decide),r1:=fun k=>absurd k (by decide),r2:=fun k=>absurd k (by decide),r3:=fun k=>absurd k (by decide),r4:=fun k=>absurd k (by decide),r5:=fun k=>absurd k (by decide),r6:=fun k=>absurd k (by decide),r7:=fun k=>absurd k (by decide),w0:=fun _=>rfl,w1:=fun k=>absurd k (by decide),r8:=fun k=>absurd k (by decide),e9:=fun k=>absurd k (by decide),c8:=fun k=>absurd k (by decide),c80:=fun k=>absurd k (by decide) }
end
section
theorem Qx2 {l:List UInt8} {k:Nat} (hk:k<l.length):Jp (l.take (k+1))=Jp (l.take k) ++ [hexD ((l.getD k 0).toNat / 16),hexD ((l.getD k 0).toNat%16)]:=by
 have e:l.take (k+1)=l.take k ++ [l.getD k 0]:=by rw[List.take_add_one,List.getElem?_eq_getElem hk];simp[List.getD,hk]
 rw[e];unfold Jp;rw[List.flatMap_append];rfl
theorem Qq8 (h:Hsh) (w:World) :
  Calls prog 137 #[.agg (h8 h)] w fun e w'=>e=.returned (.string (sOf (Jp h.toList)))∧Below w.heap.size w w':=by
 have hown0:∀ W,Qfd W w.heap.size (.slice none 0 0) (Jp (h.toList.take 0)):=fun W=>World.ownsRow_nil _ _ _ _
 have HO0:=zh hown0;clear hown0
 go_enter func137,ntmps137
 go_wp2_with (first|(refine Q1 rfl 109 _ rfl _ rfl _ underlying109 info8 ?_ ?_ ?_;rotate_left;focus ((repeat(first|(with_reducible first|assumption|exact Qj ⟨_,by assumption⟩ _)|((with_reducible first|refine Qe ?_|refine Q2 ?_|refine Qj (Q9 ?_) _);(first|rfl|(simp;done)|(simp;omega)))|with_reducible refine Qp ?_ _|((with_reducible refine Qi ?_ _ ?_);rotate_left;(focus(first|(simp;done)|(simp;omega)|omega)))|with_reducible first|refine Qo ?_|refine Qg ?_ (by assumption)));done)))
 go_loopw [3,7] (fun v i wr=>∃ k:Nat,k≤8∧i=.int .i64 k∧Qfd wr w.heap.size v (Jp (h.toList.take k))∧Below w.heap.size w wr) (fun _ i _=>8-(intOf i).toNat)
 case atStart=>exact⟨0,by omega,rfl,HO0.o _,Qa _ _⟩
 case round=>
  obtain⟨k,hk,rfl,hown,hbel⟩:=hrel;have HOWN:=zh hown;have HBEL:=zh hbel;clear hown hbel;by_cases hlt:k<8
  ·have hx:=Q3a h k hlt wr
   obtain⟨x,hxx⟩:∃ x,x=h.toList.getD k 0:=⟨_,rfl⟩
   rw[←hxx] at hx;have hsucc:=Qx2 (l:=h.toList) (k:=k) (by simpa using hlt);rw[←hxx] at hsucc;have HSU:=zh hsucc;clear hxx hsucc
   go_wp2_with fail
   refine wp_region_any (by kernel_rfl) ?_;have hdr:Qfd wr.drew w.heap.size _ _:=HOWN.o;refine Q3u (x:=x) (B:=w.heap.size) rfl rfl rfl ?_ ?_ ?_ ⟨_,rfl,rfl,rfl,rfl⟩ ⟨_,rfl,rfl,rfl,rfl⟩ ⟨_,_,rfl,rfl,rfl,rfl⟩ ⟨_,rfl,rfl,rfl,rfl⟩ ⟨_,rfl,rfl,rfl,rfl⟩ ⟨_,_,rfl,rfl,rfl,rfl⟩ ⟨_,rfl,rfl,rfl,rfl⟩ ⟨_,rfl,rfl,rfl,rfl⟩ ⟨_,rfl,rfl,rfl,rfl⟩ ⟨_,rfl,rfl,rfl,rfl⟩ hdr (by rw[Qan];simp;omega) (Za HBEL.o 1).size ?_
   ·intro b i hi
    rw[Region.ready,List.mem_filter] at hi;obtain⟨hi1,hi2⟩:=hi;have hi10:i<10:=List.mem_range.1 hi1
    have:i=0∨i=1∨i=2∨i=3∨i=4∨i=5∨i=6∨i=7∨i=8∨i=9:=by omega
    clear hi1;rcases this with rfl|rfl|rfl|rfl|rfl|rfl|rfl|rfl|rfl|rfl <;> simp[bs,Region.binds] at hi2 ⊢ <;> simp[hi2]
   ·intro b hb
    have hh:∀ c:Bool,(!c).toNat=0→c=true:=by intro c;cases c <;> simp
    unfold left at hb;have k0:=hh (b 0) (by omega);have k1:=hh (b 1) (by omega);have k2:=hh (b 2) (by omega);have k3:=hh (b 3) (by omega);have k4:=hh (b 4) (by omega);have k5:=hh (b 5) (by omega);have k6:=hh (b 6) (by omega);have k7:=hh (b 7) (by omega);have k8:=hh (b 8) (by omega);have k9:=hh (b 9) (by omega);rw[show bs b=#[true,true,true,true,true,true,true,true,true,true] by simp only[bs,k0,k1,k2,k3,k4,k5,k6,k7,k8,k9]];rfl
   ·intro b f hf
    rcases k0:b 0 with _|_
    ·exact List.ne_nil_of_mem (a:=0) (by rw[Region.ready,List.mem_filter];exact⟨List.mem_range.2 (by show 0<10;decide),by simp[bs,Region.binds,k0]⟩)
    rcases k1:b 1 with _|_
    ·exact List.ne_nil_of_mem (a:=1) (by rw[Region.ready,List.mem_filter];exact⟨List.mem_range.2 (by show 1<10;decide),by simp[bs,Region.binds,k0,k1]⟩)
    rcases k2:b 2 with _|_
    ·exact List.ne_nil_of_mem (a:=2) (by rw[Region.ready,List.mem_filter];exact⟨List.mem_range.2 (by show 2<10;decide),by simp[bs,Region.binds,k0,k1,k2]⟩)
    rcases k3:b 3 with _|_
    ·exact List.ne_nil_of_mem (a:=3) (by rw[Region.ready,List.mem_filter];exact⟨List.mem_range.2 (by show 3<10;decide),by simp[bs,Region.binds,k0,k1,k2,k3]⟩)
    rcases k4:b 4 with _|_
    ·exact List.ne_nil_of_mem (a:=4) (by rw[Region.ready,List.mem_filter];exact⟨List.mem_range.2 (by show 4<10;decide),by simp[bs,Region.binds,k0,k1,k2,k3,k4]⟩)
    rcases k5:b 5 with _|_
    ·exact List.ne_nil_of_mem (a:=5) (by rw[Region.ready,List.mem_filter];exact⟨List.mem_range.2 (by show 5<10;decide),by simp[bs,Region.binds,k0,k1,k2,k3,k4,k5]⟩)
    rcases k6:b 6 with _|_
    ·exact List.ne_nil_of_mem (a:=6) (by rw[Region.ready,List.mem_filter];exact⟨List.mem_range.2 (by show 6<10;decide),by simp[bs,Region.binds,k0,k1,k2,k3,k4,k5,k6]⟩)
    rcases k7:b 7 with _|_
    ·exact List.ne_nil_of_mem (a:=7) (by rw[Region.ready,List.mem_filter];exact⟨List.mem_range.2 (by show 7<10;decide),by simp[bs,Region.binds,k0,k1,k2,k3,k4,k5,k6,k7]⟩)
    rcases k8:b 8 with _|_
    ·exact List.ne_nil_of_mem (a:=8) (by rw[Region.ready,List.mem_filter];exact⟨List.mem_range.2 (by show 8<10;decide),by simp[bs,Region.binds,k0,k1,k2,k3,k4,k5,k6,k7,k8]⟩)
    rcases k9:b 9 with _|_
    ·exact List.ne_nil_of_mem (a:=9) (by rw[Region.ready,List.mem_filter];exact⟨List.mem_range.2 (by show 9<10;decide),by simp[bs,Region.binds,k0,k1,k2,k3,k4,k5,k6,k7,k8,k9]⟩)
    exfalso;simp only[left,k0,k1,k2,k3,k4,k5,k6,k7,k8,k9,Bool.not_true,Bool.toNat_false] at hf;omega
   ·intro v' w' ho hg
    have hg':Below w.heap.size w w':=(HBEL.o.drew).grown hg HBEL.o.drew.size (fun j hj=>(HOWN.o.lt j hj).1);have HO':=zh ho;have HG':=zh hg';clear ho hg hg';go_wp2;go_roundw
    case rel=>exact⟨k+1,by omega,by go_num,by rw[HSU.o];exact HO'.o,HG'.o⟩
    case measure=>(simp[intOf] <;> omega)
  ·have ht:h.toList.take k=h.toList:=List.take_of_length_le (by simp;omega)
   have hb:=HOWN.o.bytes;rw[ht] at hb;have HBY:=zh hb;clear hb ht
   go_wp2_with (refine Qm2 rfl 94 9 _ rfl _ underlying94 underlying5 underlying9 _ ?_ rfl ?_ ?_;rotate_left;focus exact HBY.o)
   go_ret;exact⟨rfl,HBEL.o⟩
end
section
theorem Qwo (n:Nat) (h:n<16):(ByteArray.mk #[48,49,50,51,52,53,54,55,56,57,97,98,99,100,101,102]).extract n (n+1)=sOf [hexD n]:=by
 have:∀ m:Fin 16,(ByteArray.mk #[48,49,50,51,52,53,54,55,56,57,97,98,99,100,101,102]).extract m.1 (m.1+1)=sOf [hexD m.1]:=by decide
 exact this ⟨n,h⟩
theorem Qw4 {l:List UInt8} {k:Nat} (hk:k<l.length):Jp (l.take (k+1))=Jp (l.take k) ++ [hexD ((l.getD k 0).toNat / 16)] ++ [hexD ((l.getD k 0).toNat%16)]:=by
 have e:l.take (k+1)=l.take k ++ [l.getD k 0]:=by rw[List.take_add_one,List.getElem?_eq_getElem hk];simp[List.getD,hk]
 rw[e];unfold Jp;rw[List.flatMap_append,List.append_assoc];rfl
theorem Qwr (s:ByteArray) (w:World) (hs:s.size≤1000) :
  Calls prog 152 #[.string s] w fun e w'=>e=.returned (.string (sOf (Jp s.data.toList)))∧Below w.heap.size w w':=by
 go_enter func152,ntmps152
 go_wp2
 go_loopw [4,5] (fun v i wr=>∃ k:Nat,k≤s.size∧i=.int .i64 k∧v=.string (sOf (Jp (s.data.toList.take k)))∧Below w.heap.size w wr) (fun _ i _=>s.size-(intOf i).toNat)
 case atStart=>exact⟨0,by omega,rfl,rfl,Below.refl _ _⟩
 case round=>
  obtain⟨k,hk,rfl,rfl,hbel⟩:=hrel;have HB:=zh hbel;clear hbel;by_cases hlt:k<s.size
  ·have hst:=Qw4 (l:=s.data.toList) (k:=k) (by simpa using hlt)
   have hg:s.data.toList.getD k 0=s[k]:=by simp[List.getD,hlt];rfl
   rw[hg] at hst;obtain⟨hi,hhi⟩:∃ n,n=s[k].toNat / 16:=⟨_,rfl⟩
   obtain⟨lo,hlo⟩:∃ n,n=s[k].toNat%16:=⟨_,rfl⟩
   have hx:=s[k].toNat_lt;have e1:(s[k].toNat:Int) / 16=(hi:Int):=by omega
   have e2:(s[k].toNat:Int)%16=(lo:Int):=by omega
   rw[←hhi,←hlo] at hst;have b1:hi<16:=by omega
   have b2:lo<16:=by omega
   have c1:=Qwo hi b1;have c2:=Qwo lo b2;have hlen:(Jp (s.data.toList.take k)).length≤2000:=by rw[Qan];simp;omega
   have HST:=zh hst;clear hst hg hhi hlo hx
   go_wp2_with fail
   go_region;go_wp2;refine⟨⟨k+1,by omega,rfl,?_,HB.o.drew⟩,by simp[intOf];omega⟩;rw[HST.o,Qef,Qef]
  ·have ht:s.data.toList.take k=s.data.toList:=List.take_of_length_le (by simp;omega)
   rw[ht];go_wp2;go_ret;exact⟨rfl,HB.o⟩
def Qf3 (c:UInt8):Int:=match Qcl c with|some n=>n|none=>-1
theorem Qrt (c:UInt8) (w:World) :
  Calls prog 165 #[.int .u8 c.toNat] w fun e w'=>e=.returned (.int .i64 (Qf3 c))∧w=w':=by
 have hc:=c.toNat_lt;obtain⟨n,hn⟩:∃ n,n=c.toNat:=⟨_,rfl⟩
 have hU:Qf3 c=if 48≤n∧n≤57 then ((n-48:Nat):Int) else if 97≤n∧n≤102 then ((n-87:Nat):Int) else -1:=by
  rw[hn];unfold Qf3 Qcl
  split
  ·rename_i m h
   split at h
   ·rename_i h1;rw[if_pos h1];cases h;rfl
   ·rename_i h1;rw[if_neg h1];split at h
    ·rename_i h2;rw[if_pos h2];cases h;rfl
    ·cases h
  ·rename_i h
   split at h
   ·cases h
   ·rename_i h1;rw[if_neg h1];split at h
    ·cases h
    ·rename_i h2;rw[if_neg h2]
 rw[hU,←hn];rw[←hn] at hc;clear hn hU;by_cases h1:48≤n
 ·have d1:decide ((48:Int)≤(n:Int))=true:=decide_eq_true (by omega)
  by_cases h2:n≤57
  ·have d2:decide ((n:Int)≤(57:Int))=true:=decide_eq_true (by omega)
   rw[if_pos ⟨h1,h2⟩,show ((n-48:Nat):Int)=(n:Int)-48 by omega]
   go_enter func165,ntmps165
   go_wp2;go_ret;exact⟨rfl,rfl⟩
  ·have d2:decide ((n:Int)≤(57:Int))=false:=decide_eq_false (by omega)
   rw[if_neg (by omega)];by_cases h3:97≤n
   ·have d3:decide ((97:Int)≤(n:Int))=true:=decide_eq_true (by omega)
    by_cases h4:n≤102
    ·have d4:decide ((n:Int)≤(102:Int))=true:=decide_eq_true (by omega)
     rw[if_pos ⟨h3,h4⟩,show ((n-87:Nat):Int)=(n:Int)-97+10 by omega]
     go_enter func165,ntmps165
     go_wp2;go_ret;exact⟨rfl,rfl⟩
    ·have d4:decide ((n:Int)≤(102:Int))=false:=decide_eq_false (by omega)
     rw[if_neg (by omega)]
     go_enter func165,ntmps165
     go_wp2;go_ret;exact⟨rfl,rfl⟩
   ·have d3:decide ((97:Int)≤(n:Int))=false:=decide_eq_false (by omega)
    rw[if_neg (by omega)]
    go_enter func165,ntmps165
    go_wp2;go_ret;exact⟨rfl,rfl⟩
 ·have d1:decide ((48:Int)≤(n:Int))=false:=decide_eq_false (by omega)
  have d3:decide ((97:Int)≤(n:Int))=false:=decide_eq_false (by omega);rw[if_neg (by omega),if_neg (by omega)]
  go_enter func165,ntmps165
  go_wp2;go_ret;exact⟨rfl,rfl⟩
end
end Go.Proofs.YtefccfakhgdfbabGreatDoor
