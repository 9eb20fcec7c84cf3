/- The walks of tilesref.Hash, Leaf, Node. -/
import Derived.Test.YtefccfakhgdfbaaGreatDoorLi03
set_option linter.unusedVariables false
set_option linter.unusedSimpArgs false
open Go.RowKit Go.Proofs.Tryz
set_option maxRecDepth 100000
set_option maxHeartbeats 4000000
namespace Go.Proofs.YtefccfakhgdfbaaGreatDoor
section
theorem Qpy (ls:List (List UInt8)) (i:Nat) (hi:i<ls.length):included (Jx (ls.getD i [])) i ls.length (Qav ls i) (rootOf ls)=true:=by unfold included;rw[Int.toNat_natCast,Int.toNat_natCast,Qfu ls.length ls i (Nat.le_refl _) hi];simp;omega
end
section
structure Cl where
 key:ByteArray
 size:Nat
 root:Hsh
 cache:Cch
abbrev Tld:=Nat×ByteArray
def Qdk:Tld:=(0,⟨#[]⟩)
def Y0 (c:Cl) (n:Nt):Tld×List Hsh×Cl×Nt:=
 match Q6 n (sOf kCp) with
 | none=>((3,⟨#[]⟩),[],c,Zy n (sOf kCp))
 | some data=>
  if (Zw data c.key.data.toList).2.2=false then ((3,⟨#[]⟩),[],c,Zy n (sOf kCp)) else
  if (Zw data c.key.data.toList).1.toNat<c.size then ((4,⟨#[]⟩),[],c,Zy n (sOf kCp)) else
  if (Zw data c.key.data.toList).1.toNat=c.size then (if (Zw data c.key.data.toList).2.1=c.root then (Qdk,[],c,Zy n (sOf kCp)) else ((5,⟨#[]⟩),[],c,Zy n (sOf kCp))) else
  if c.size=0 then (Qdk,[],{ c with size:=(Zw data c.key.data.toList).1.toNat,root:=(Zw data c.key.data.toList).2.1 },Zy n (sOf kCp)) else
  match Qc0 c.size (Zw data c.key.data.toList).1.toNat (askQ (Zy n (sOf kCp)) c.cache) with
  | (.error (.miss p),s)=>((6,p),[],{ c with cache:=s.cache },s.net)
  | (.error .panic,s)=>((99,⟨#[]⟩),[],{ c with cache:=s.cache },s.net)
  | (.ok l,s)=>
   if consistent c.size (Zw data c.key.data.toList).1.toNat c.root (Zw data c.key.data.toList).2.1 l=true then (Qdk,l,{ c with size:=(Zw data c.key.data.toList).1.toNat,root:=(Zw data c.key.data.toList).2.1,cache:=Je s.cache s.files },s.net)
   else ((5,⟨#[]⟩),[],{ c with cache:=s.cache },s.net)
def Qcx (c:Cl) (n:Nt) (i:Int):Tld×(List UInt8×List Hsh)×Cl×Nt:=
 if i<0∨(c.size:Int)≤i then ((2,⟨#[]⟩),([],[]),c,n) else
 match Qfq c.size i.toNat (askQ n c.cache) with
 | (.error (.miss p),s)=>((6,p),([],[]),{ c with cache:=s.cache },s.net)
 | (.error .panic,s)=>((99,⟨#[]⟩),([],[]),{ c with cache:=s.cache },s.net)
 | (.ok r,s)=>
  if included (Jx r.1) i c.size r.2 c.root=true then (Qdk,r,{ c with cache:=Je s.cache s.files },s.net)
  else ((5,⟨#[]⟩),([],[]),{ c with cache:=s.cache },s.net)
structure Q1q (I:Cs→Prop):Prop where
 keep:∀ s p b,I s→I (Qg5 p b s)
 get:∀ s p,I s→I { s with cache:=Ju s.cache p }
 fetched:∀ s q,I s→I (Zt q s)
def Kept {α:Type} (I:Cs→Prop) (m:Qm α):Prop:=∀ s,I s→I (m s).2
theorem Kept.bind {α β:Type} {I:Cs→Prop} {m:Qm α} {f:α→Qm β} (h:Kept I m) (k:∀ a,Kept I (f a)):Kept I (Qm.bind m f):=fun s hs=>by
 have h1:=h s hs
 unfold Qm.bind
 cases hm:m s with
 | mk o s1=>
  rw[hm] at h1
  cases o with
  | ok a=>exact k a s1 h1
  | error e=>exact h1
section
variable {I:Cs→Prop} (hI:Q1q I)
include hI
theorem Qj7 (fits:Qjz) (level:Int) (index count:Nat):Kept I (J3 fits level index count):=fun s hs=>by
 unfold J3
 split
 ·exact hs
 ·split
  ·exact hI.keep _ _ _ (hI.get _ _ hs)
  ·unfold Qb9
   split
   ·exact hI.keep _ _ _ (hI.fetched _ _ hs)
   ·split
    ·exact hI.fetched _ _ hs
    ·split
     ·exact hI.keep _ _ _ (hI.fetched _ _ (hI.fetched _ _ hs))
     ·exact hI.fetched _ _ (hI.fetched _ _ hs)
theorem Qgs (n level index:Nat):Kept I (Qat n level index):=(Qj7 hI _ _ _ _).bind fun b s hs=>by
 unfold Qjj
 split <;> exact hs
theorem Qy1 (n level index:Nat):Kept I (Qej n level index):=by
 unfold Qej
 split
 ·exact (Qgs hI _ _ _).bind fun a=>(Qgs hI _ _ _).bind fun b s hs=>hs
 ·exact Qgs hI _ _ _
theorem Qeo (N:Nat):∀ (f i n:Nat),Kept I (rootQ N f i n)
 | 0,_,_=>fun s hs=>hs
 | f+1,i,n=>by
  rw[rootQ]
  split
  ·exact Qy1 hI _ _ _
  ·exact (Qeo N f _ _).bind fun a=>(Qeo N f _ _).bind fun b s hs=>hs
theorem Qko (N:Nat):∀ rs,Kept I (Zf N rs)
 | []=>fun s hs=>hs
 | x :: xs=>by
  rw[Zf]
  exact (Qeo hI _ _ _ _).bind fun a=>(Qko N xs).bind fun b s hs=>hs
theorem Qoz (N i:Nat):Kept I (Qfq N i):=by
 unfold Qfq;refine (Qj7 hI _ _ _ _).bind fun b=>?_
 split
 ·exact fun s hs=>hs
 ·exact (Qko hI _ _).bind fun p s hs=>hs
end
def Qd1 (n n':Nt):Prop:=n'.lies=n.lies∧n'.files=n.files
theorem Qd1.refl (n:Nt):Qd1 n n:=⟨rfl,rfl⟩
theorem Qd1.trans {a b c:Nt} (h:Qd1 a b) (k:Qd1 b c):Qd1 a c:=⟨k.1.trans h.1,k.2.trans h.2⟩
theorem Qcf (n:Nt) (q:ByteArray):Qd1 n (Zy n q):=⟨(Yj n q).1,(Yj n q).2.1⟩
theorem Qd6 (n:Nt):Q1q fun s=>Qd1 n s.net:=⟨fun _ _ _ h=>h,fun _ _ h=>h,fun s q h=>h.trans (Qcf s.net q)⟩
end
section
def cntK (N:Nat):Nat→Nat
 | 0=>N
 | k+1=>N / 4 ^ k
def Qal (n:Nt) (k index w:Nat):Option (List UInt8):=
 ((Q6 n (Qq ((k:Int)-1) index w)).bind fun d=>Yc k d w w).or (if w=4 then none else (Q6 n (Qq ((k:Int)-1) index 4)).bind fun d=>Yc k d 4 w)
def Fam (N k index:Nat):Prop:=4*index<cntK N k∧(k≤21∨(k=22∧N<2 ^ 44))
variable {i w:Nat}
theorem Qc9 {l:Nat} (h:¬ (l≤20∧1≤w∧w≤4)):Qq ((l:Nat):Int) i w=⟨#[]⟩:=by unfold Qq Y4;rw[if_neg (by unfold Jl;omega)]
theorem Ql4 (i w:Nat):Qq (((22:Nat):Int)-1) i w=⟨#[]⟩:=by rw[show ((22:Nat):Int)-1=((21:Nat):Int) by omega];exact Qc9 (by omega)
variable {k:Nat}
theorem Qfb (h:Jl ((k:Int)-1) i w):Qq ((k:Int)-1) i w≠⟨#[]⟩:=by
 intro e;have e2:Y4 ((k:Int)-1) i w = []:=by
  have:=congrArg (fun b:ByteArray=>b.data.toList) e
  exact this
 rw[Qbj h] at e2;unfold Qa1 at e2
 split at e2
 ·simp[kT] at e2
 ·simp[kE] at e2
variable {N index:Nat}
theorem Qow (hN:N<9223372036854775808) (h:Fam N k index) (hk:k≤21):Jl ((k:Int)-1) index (Zc index (cntK N k))∧(index:Int)<9223372036854775808:=by
 have h1:=h.1
 have:cntK N k≤N:=by
  cases k with
  | zero=>exact Nat.le_refl _
  | succ k=>exact Nat.div_le_self _ _
 unfold Jl Zc;omega
theorem Qv3 (h:4*index<cntK N 22) (hN:N<2 ^ 44):index=0:=by
 have e:cntK N 22=N / 2 ^ 42:=by show N / 4 ^ 21=N / 2 ^ 42;rw[show (4:Nat) ^ 21=2 ^ 42 by decide]
 rw[e] at h
 have:N / 2 ^ 42<4:=by omega
 omega
theorem Q79 {k' index':Nat} (hN:N<9223372036854775808) (h:Fam N k index) (h':Fam N k' index') (e:Qq ((k:Int)-1) index (Zc index (cntK N k))=Qq ((k':Int)-1) index' (Zc index' (cntK N k'))):k=k'∧index=index':=by
 rcases Nat.lt_or_ge 21 k with hk|hk
 ·have g:k=22∧N<2 ^ 44:=by rcases h.2 with h1|h1;omega;exact h1
  obtain⟨rfl,f⟩:=g;have hi:=Qv3 h.1 f;rw[Ql4] at e;rcases Nat.lt_or_ge 21 k' with d | d
  ·have c:k'=22:=by rcases h'.2 with h1|h1;omega;exact h1.1
   subst c;exact⟨rfl,by rw[hi,Qv3 h'.1 f]⟩
  ·exact absurd e.symm (Qfb (Qow hN h' d).1)
 ·rcases Nat.lt_or_ge 21 k' with d | d
  ·have c:k'=22:=by rcases h'.2 with h1|h1;omega;exact h1.1
   subst c;have e2:=e;rw[Ql4] at e2;exact absurd e2 (Qfb (Qow hN h hk).1)
  ·have a:=Qow hN h hk
   have b:=Qow hN h' d
   have:=Qde a.1 b.1 a.2 b.2 (Qcu e)
   omega
structure InvL (n:Nt) (N:Nat) (s:Cs):Prop where
 same:Qd1 n s.net
 cache:s.cache.items = []
 files:∀ k index b,Fam N k index→Qaf s.files (Qq ((k:Int)-1) index (Zc index (cntK N k)))=some b→Qal n k index (Zc index (cntK N k))=some b
variable {n:Nt} {s:Cs}
theorem InvL.fetched (h:InvL n N s) (q:ByteArray):InvL n N (Zt q s):=⟨h.same.trans (Qcf s.net q),h.cache,h.files⟩
variable {b:List UInt8}
theorem InvL.keep (hN:N<9223372036854775808) (h:InvL n N s) (hf:Fam N k index) (hb:Qal n k index (Zc index (cntK N k))=some b):InvL n N (Qg5 (Qq ((k:Int)-1) index (Zc index (cntK N k))) b s):=by
 refine⟨h.same,h.cache,fun k' index' b' hf' hg=>?_⟩;unfold Qg5 at hg;dsimp only at hg;rw[Qf2] at hg;cases h1:Qaf s.files (Qq ((k':Int)-1) index' (Zc index' (cntK N k'))) with
 | some x=>
  rw[h1] at hg;cases hg;exact h.files k' index' _ hf' h1
 | none=>
  rw[h1,Option.none_or,Qis] at hg
  split at hg
  ·rename_i e
   obtain⟨rfl,rfl⟩:=Q79 hN hf hf' e;cases hg;exact hb
  ·cases hg
theorem Qk6 (hN:N<9223372036854775808) (hst:Jo n) (h:InvL n N s) (hf:Fam N k index) :
  InvL n N (J3 (Yc k) ((k:Int)-1) index (cntK N k) s).2∧(J3 (Yc k) ((k:Int)-1) index (cntK N k) s).1=match Qal n k index (Zc index (cntK N k)) with
   | some b=>.ok b
   | none=>.error (.miss (Qq ((k:Int)-1) index (Zc index (cntK N k)))):=by
 obtain⟨w,hw⟩:∃ w,w=Zc index (cntK N k):=⟨_,rfl⟩
 have a:=fun (s:Cs) (h:InvL n N s) (b:List UInt8) (hb:Qal n k index w=some b)=>h.keep hN hf (b:=b) (by rw[←hw];exact hb)
 have c:=h.files k index
 unfold J3
 rw[←hw] at a c ⊢
 cases h1:Qaf s.files (Qq ((k:Int)-1) index w) with
 | some b=>exact⟨h,by rw[c b hf h1]⟩
 | none=>
  dsimp only
  rw[h.cache]
  have e0:Qaf ([]:List Kv) (Qq ((k:Int)-1) index w)=none:=rfl
  rw[e0]
  dsimp only
  unfold Qb9
  have ht:∀ (s:Cs),Qd1 n s.net→∀ w0,tryQ (Yc k) (Qq ((k:Int)-1) index w0) w0 w s=(Q6 n (Qq ((k:Int)-1) index w0)).bind fun d=>Yc k d w0 w:=fun s hs w0=>by
   unfold tryQ
   rw[Qc3 hst hs.1 hs.2]
  rw[ht s h.same w]
  cases h2:(Q6 n (Qq ((k:Int)-1) index w)).bind fun d=>Yc k d w w with
  | some b=>
   have hv:Qal n k index w=some b:=by unfold Qal;rw[h2];rfl
   rw[hv]
   exact⟨a _ (h.fetched _) b hv,rfl⟩
  | none=>
   dsimp only
   by_cases h4:w=4
   ·have hv:Qal n k index w=none:=by unfold Qal;rw[h2,if_pos h4];rfl
    rw[if_pos h4,hv]
    exact⟨h.fetched _,rfl⟩
   ·rw[if_neg h4,ht _ (h.fetched _).same 4]
    cases h3:(Q6 n (Qq ((k:Int)-1) index 4)).bind fun d=>Yc k d 4 w with
    | some b=>
     have hv:Qal n k index w=some b:=by unfold Qal;rw[h2,if_neg h4,h3];rfl
     rw[hv]
     exact⟨a _ ((h.fetched _).fetched _) b hv,rfl⟩
    | none=>
     have hv:Qal n k index w=none:=by unfold Qal;rw[h2,if_neg h4,h3];rfl
     rw[hv]
     exact⟨(h.fetched _).fetched _,rfl⟩
theorem Qsr (h:Qal n (k+1) index w=some b) (hw:w≤4):b.length=8*w:=by
 unfold Qal at h;have hf:∀ d w0 w b,w≤w0→Yc (k+1) d w0 w=some b→b.length=8*w:=by
  intro d w0 w b a hd;unfold Yc at hd;rw[if_neg (by omega)] at hd;unfold Zh at hd
  split at hd
  ·rw[←Option.some.inj hd,List.length_take]
   omega
  ·cases hd
 rcases Option.or_eq_some_iff.1 h with h1|⟨_,h1⟩
 ·obtain⟨d,_,h2⟩:=Option.bind_eq_some_iff.1 h1
  exact hf _ _ _ _ (Nat.le_refl _) h2
 ·split at h1
  ·cases h1
  ·obtain⟨d,_,h2⟩:=Option.bind_eq_some_iff.1 h1
   exact hf _ _ _ _ hw h2
def Qh2 (n:Nt) (N k index:Nat):Option (List UInt8):=Qal n (k+1) (index / 4) (Zc (index / 4) (N / 4 ^ k))
def Qb8 (n:Nt) (N k index:Nat):Option Hsh:=(Qh2 n N k index).map fun b=>Qdn b (index%4)
def Qbd (n:Nt) (N k index:Nat):List ByteArray:=if (Qh2 n N k index).isSome then [] else [Qq ((k:Nat):Int) (index / 4) (Zc (index / 4) (N / 4 ^ k))]
def twoV (a b:Option Hsh):Option Hsh:=match a,b with
 | some x,some y=>some (Z1 x y)
 | _,_=>none
def Qn6 (n:Nt) (N level index:Nat):Option Hsh:=if level%2=1 then twoV (Qb8 n N (level / 2) (2*index)) (Qb8 n N (level / 2) (2*index+1)) else Qb8 n N (level / 2) index
def Qkv (n:Nt) (N level index:Nat):List ByteArray:=if level%2=1 then Qbd n N (level / 2) (2*index)++Qbd n N (level / 2) (2*index+1) else Qbd n N (level / 2) index
def Qb7 (n:Nt) (N:Nat):Nat→Nat→Nat→Option Hsh
 | 0,_,_=>none
 | f+1,i,m=>if m &&& (m-1)=0∧i%m=0 then Qn6 n N (Lib.bitLen m-1) (i / m) else twoV (Qb7 n N f i (below m)) (Qb7 n N f (i+below m) (m-below m))
def Qbc (n:Nt) (N:Nat):Nat→Nat→Nat→List ByteArray
 | 0,_,_=>[]
 | f+1,i,m=>if m &&& (m-1)=0∧i%m=0 then Qkv n N (Lib.bitLen m-1) (i / m) else Qbc n N f i (below m)++Qbc n N f (i+below m) (m-below m)
def Yg (n:Nt) (N:Nat):List (Nat×Nat)→Option (List Hsh)
 | []=>some []
 | x :: xs=>(Qb7 n N (x.2-x.1) x.1 (x.2-x.1)).bind fun h=>(Yg n N xs).map (h :: ·)
def Zm (n:Nt) (N:Nat) (rs:List (Nat×Nat)):List ByteArray:=rs.flatMap fun x=>Qbc n N (x.2-x.1) x.1 (x.2-x.1)
def Sim {α:Type} (I J:Cs→Prop) (m:Qm α) (v:Option α) (ms:List ByteArray):Prop:=
 ∀ s,I s→(∃ a,v=some a∧ms = []∧(m s).1=.ok a∧J (m s).2)∨(∃ p∈ms,(m s).1=.error (.miss p))
variable {α:Type} {I:Cs→Prop}
theorem Sim.pure (a:α):Sim I I (Qm.pure a) (some a) []:=fun s hs=>.inl ⟨a,rfl,rfl,rfl,hs⟩
variable {J K:Cs→Prop} {m:Qm α} {v:Option α} {ms ns:List ByteArray}
theorem Sim.bind {β γ:Type} {f:α→Qm β} {u:Option γ} {g:α→γ→β} (h:Sim I J m v ms) (k:∀ a,Sim J K (f a) (u.map (g a)) ns):Sim I K (Qm.bind m f) (v.bind fun a=>u.map (g a)) (ms++ns):=fun s hs=>by
 unfold Qm.bind
 rcases h s hs with ⟨a,h1,h2,h3,h4⟩|⟨p,h1,h2⟩
 ·cases hm:m s with
  | mk o s1=>
   rw[hm] at h3 h4
   dsimp only at h3 h4
   subst h3
   dsimp only
   rcases k a s1 h4 with ⟨b,k1,k2,k3,k4⟩|⟨p,k1,k2⟩
   ·exact .inl ⟨b,by rw[h1];exact k1,by rw[h2,k2];rfl,k3,k4⟩
   ·exact .inr ⟨p,List.mem_append_right _ k1,k2⟩
 ·cases hm:m s with
  | mk o s1=>
   rw[hm] at h2
   dsimp only at h2
   subst h2
   exact .inr ⟨p,List.mem_append_left _ h1,rfl⟩
theorem Sim.two {m:Qm Hsh} {m2:Qm Hsh} {v u:Option Hsh} (h:Sim I J m v ms) (k:Sim J K m2 u ns):Sim I K (Qm.bind m fun a=>Qm.bind m2 fun b=>Qm.pure (Z1 a b)) (twoV v u) (ms++ns):=by
 have e:twoV v u=v.bind fun a=>u.map (Z1 a):=by unfold twoV;cases v <;> cases u <;> rfl
 rw[e];refine h.bind fun a=>?_
 intro s hs;unfold Qm.bind;rcases k s hs with ⟨b,k1,k2,k3,k4⟩|⟨p,k1,k2⟩
 ·cases hm:m2 s with
  | mk o s1=>
   rw[hm] at k3 k4;dsimp only at k3 k4;subst k3;exact .inl ⟨Z1 a b,by rw[k1];rfl,k2,rfl,k4⟩
 ·cases hm:m2 s with
  | mk o s1=>
   rw[hm] at k2;dsimp only at k2;subst k2;exact .inr ⟨p,k1,rfl⟩
theorem Sim.weak {I' J':Cs→Prop} (h:Sim I J m v ms) (hi:∀ s,I' s→I s) (hj:∀ s,J s→J' s):Sim I' J' m v ms:=fun s hs=>by
 rcases h s (hi s hs) with ⟨a,h1,h2,h3,h4⟩|h1
 ·exact .inl ⟨a,h1,h2,h3,hj _ h4⟩
 ·exact .inr h1
theorem Qpl (hi:(index+1)*4 ^ k≤N) (h:∀ s,I s→J (J3 Zh ((k:Nat):Int) (index / 4) (N / 4 ^ k) s).2∧(J3 Zh ((k:Nat):Int) (index / 4) (N / 4 ^ k) s).1=match Qh2 n N k index with
   | some b=>.ok b
   | none=>.error (.miss (Qq ((k:Nat):Int) (index / 4) (Zc (index / 4) (N / 4 ^ k))))) :
  Sim I J (Qat N (2*k) index) (Qb8 n N k index) (Qbd n N k index):=fun s hs=>by
 obtain⟨h1,h2⟩:=h s hs
 have hp:0<4 ^ k:=Nat.pow_pos (by decide)
 have a:index<N / 4 ^ k:=(Nat.le_div_iff_mul_le hp).2 hi
 unfold Qat Qm.bind Qb8 Qbd
 rw[show 2*k / 2=k by omega,pow24]
 cases hm:J3 Zh ((k:Nat):Int) (index / 4) (N / 4 ^ k) s with
 | mk o s1=>
  rw[hm] at h1 h2
  dsimp only at h1 h2
  cases hv:Qh2 n N k index with
  | none=>
   rw[hv] at h2
   dsimp only at h2
   subst h2
   exact .inr ⟨_,by simp,rfl⟩
  | some b=>
   rw[hv] at h2
   dsimp only at h2
   subst h2
   have hb:b.length=8*Zc (index / 4) (N / 4 ^ k):=Qsr hv (by unfold Zc;omega)
   have hw:index%4<Zc (index / 4) (N / 4 ^ k):=by unfold Zc;omega
   refine .inl ⟨Qdn b (index%4),rfl,by simp,?_,?_⟩
   ·unfold Qjj
    dsimp only
    rw[if_neg (by omega)]
   ·unfold Qjj
    dsimp only
    rw[if_neg (by omega)]
    exact h1
theorem Qxk (hN:N<9223372036854775808) (hst:Jo n) (hi:(index+1)*4 ^ k≤N) (hk:k≤20∨N<2 ^ 44):Sim (InvL n N) (InvL n N) (Qat N (2*k) index) (Qb8 n N k index) (Qbd n N k index):=by
 have hp:0<4 ^ k:=Nat.pow_pos (by decide);have b:index<N / 4 ^ k:=(Nat.le_div_iff_mul_le hp).2 hi;have a:Fam N (k+1) (index / 4):=by
  refine⟨by show 4*(index / 4)<N / 4 ^ k;omega,?_⟩;rcases hk with h|h
  ·exact .inl (by omega)
  ·rcases Nat.lt_or_ge k 22 with h2|h2
   ·rcases Nat.lt_or_ge k 21 with h3|h3
    ·exact .inl (by omega)
    ·exact .inr ⟨by omega,h⟩
   ·exfalso
    have h3:4 ^ 22≤4 ^ k:=Nat.pow_le_pow_right (by decide) h2;have h4:4 ^ k≤N:=Nat.le_trans (Nat.le_mul_of_pos_left _ (by omega)) hi;have h5:(4:Nat) ^ 22=2 ^ 44:=by decide
    omega
 refine Qpl hi fun s hs=>?_
 have:=Qk6 hN hst hs a
 have hf:Yc (k+1)=Zh:=by unfold Yc;rw[if_neg (by omega)]
 rw[hf,show (((k+1:Nat):Int)-1)=((k:Nat):Int) by omega] at this;exact this
theorem Q8r (k:Nat) (i:Nat):(i+1)*2 ^ (2*k+1)=(2*i+1+1)*4 ^ k:=by
 rw[Nat.pow_succ,pow24,Nat.mul_comm (4 ^ k) 2,←Nat.mul_assoc]
 congr 1
 omega
theorem Q4h {level:Nat} (h:∀ j,(j+1)*4 ^ (level / 2)≤N→Sim I I (Qat N (2*(level / 2)) j) (Qb8 n N (level / 2) j) (Qbd n N (level / 2) j)) (hi:(index+1)*2 ^ level≤N):Sim I I (Qej N level index) (Qn6 n N level index) (Qkv n N level index):=by
 unfold Qej Qn6 Qkv;by_cases ho:level%2=1
 ·rw[if_pos ho,if_pos ho,if_pos ho]
  obtain⟨k,rfl⟩:∃ k,level=2*k+1:=⟨level / 2,by omega⟩
  rw[Q8r] at hi;have h2:(2*index+1)*4 ^ k≤N:=Nat.le_trans (Nat.mul_le_mul_right _ (by omega)) hi;rw[show (2*k+1) / 2=k by omega] at h ⊢;rw[show 2*k+1-1=2*k by omega];exact (h (2*index) h2).two (h (2*index+1) hi)
 ·rw[if_neg ho,if_neg ho,if_neg ho]
  obtain⟨k,rfl⟩:∃ k,level=2*k:=⟨level / 2,by omega⟩
  rw[pow24] at hi;rw[show 2*k / 2=k by omega] at h ⊢;exact h index hi
theorem Qi0 (hN:N<9223372036854775808) {K:Nat} (h:∀ k j,4 ^ k≤K→(j+1)*4 ^ k≤N→Sim I I (Qat N (2*k) j) (Qb8 n N k j) (Qbd n N k j)):∀ (f i m:Nat),m≤f→1≤m→i+m≤N→m≤K→Sim I I (rootQ N f i m) (Qb7 n N f i m) (Qbc n N f i m)
 | 0,i,m,h0,h1,_,_=>by omega
 | f+1,i,m,h0,h1,h2,hK=>by
  rw[rootQ,Qb7,Qbc]
  by_cases hp:m &&& (m-1)=0∧i%m=0
  ·rw[if_pos hp,if_pos hp,if_pos hp]
   have a:=Qdb h1 (by omega) hp.1
   obtain⟨e,he⟩:∃ e,e=Lib.bitLen m-1:=⟨_,rfl⟩
   rw[←he] at a ⊢
   have hdiv:i / m*m=i:=by have:=Nat.div_add_mod i m;rw[hp.2] at this;rw[Nat.mul_comm];omega
   have hq:(i / m+1)*2 ^ e≤N:=by rw[←a,Nat.add_mul,hdiv];omega
   refine Q4h (fun j hj=>h (e / 2) j ?_ hj) hq
   rw[←pow24]
   refine Nat.le_trans (Nat.pow_le_pow_right (by decide) (by omega:2*(e / 2)≤e)) ?_
   rw[←a];exact hK
  ·rw[if_neg hp,if_neg hp,if_neg hp]
   have c:2≤m:=by
    rcases Nat.lt_or_ge m 2 with d|b
    ·obtain rfl:m=1:=by omega
     exact absurd ⟨by decide,Nat.mod_one i⟩ hp
    ·exact b
   have hb:=Yi c
   exact (Qi0 hN h f i (below m) (by omega) (by omega) (by omega) (by omega)).two (Qi0 hN h f (i+below m) (m-below m) (by omega) (by omega) (by omega) (by omega))
theorem Qhn {x:Nat×Nat} {xs:List (Nat×Nat)} (h:Sim I J (rootQ N (x.2-x.1) x.1 (x.2-x.1)) (Qb7 n N (x.2-x.1) x.1 (x.2-x.1)) (Qbc n N (x.2-x.1) x.1 (x.2-x.1))) (k:Sim J K (Zf N xs) (Yg n N xs) (Zm n N xs)) :
  Sim I K (Zf N (x :: xs)) (Yg n N (x :: xs)) (Zm n N (x :: xs)):=by
 rw[Zf,Yg];have e:Zm n N (x :: xs)=Qbc n N (x.2-x.1) x.1 (x.2-x.1)++Zm n N xs:=by simp[Zm]
 rw[e];refine h.bind fun a=>?_
 intro s hs;unfold Qm.bind;rcases k s hs with ⟨b,k1,k2,k3,k4⟩|⟨p,k1,k2⟩
 ·cases hm:Zf N xs s with
  | mk o s1=>
   rw[hm] at k3 k4;dsimp only at k3 k4;subst k3;exact .inl ⟨a :: b,by rw[k1];rfl,k2,rfl,k4⟩
 ·cases hm:Zf N xs s with
  | mk o s1=>
   rw[hm] at k2;dsimp only at k2;subst k2;exact .inr ⟨p,k1,rfl⟩
theorem Qjf (hN:N<9223372036854775808) {K:Nat} (h:∀ k j,4 ^ k≤K→(j+1)*4 ^ k≤N→Sim I I (Qat N (2*k) j) (Qb8 n N k j) (Qbd n N k j)):∀ (rs:List (Nat×Nat)),(∀ x∈rs,x.1<x.2∧x.2≤N∧x.2-x.1≤K)→Sim I I (Zf N rs) (Yg n N rs) (Zm n N rs)
 | [],_=>Sim.pure _
 | x :: xs,hx=>by
  obtain⟨h1,h2,h3⟩:=hx x List.mem_cons_self
  exact Qhn (Qi0 hN h _ _ _ (Nat.le_refl _) (by omega) (by omega) h3) (Qjf hN h xs fun y hy=>hx y (List.mem_cons_of_mem _ hy))
end
section
structure Cost (k:Nat) (s s':Cs):Prop where
 files:s'.files.length≤s.files.length+k
 fetches:s'.net.fetches≤s.net.fetches+2*k
 items:s'.cache.items.length≤s.cache.items.length
theorem Cost.refl (s:Cs):Cost 0 s s:=⟨Nat.le_refl _,Nat.le_refl _,Nat.le_refl _⟩
variable {j k:Nat} {a b:Cs}
theorem Cost.trans {c:Cs} (h:Cost j a b) (i:Cost k b c):Cost (j+k) a c:=
 ⟨by have:=h.files;have:=i.files;omega,by have:=h.fetches;have:=i.fetches;omega,Nat.le_trans i.items h.items⟩
theorem Cost.more (h:Cost j a b) (hk:j≤k):Cost k a b:=
 ⟨by have:=h.files;omega,by have:=h.fetches;omega,h.items⟩
def Qfr {α:Type} (m:Qm α) (k:Nat):Prop:=∀ s,Cost k s (m s).2
variable {α:Type}
theorem Qfr.pure (a:α):Qfr (Qm.pure a) 0:=fun s=>Cost.refl s
theorem Qfr.bind {β:Type} {m:Qm α} {f:α→Qm β} (h:Qfr m j) (g:∀ a,Qfr (f a) k):Qfr (Qm.bind m f) (j+k):=fun s=>by
 have h1:=h s
 unfold Qm.bind
 cases hm:m s with
 | mk o s1=>
  rw[hm] at h1
  cases o with
  | ok a=>exact h1.trans (g a s1)
  | error e=>exact h1.more (Nat.le_add_right _ _)
theorem Q5d (l:List Kv) (p:ByteArray) (v:List UInt8) (h:Qaf l p=some v):(Qhf l p).length+1≤l.length:=by
 have hm:=Qio h
 have:∀ (l:List Kv) (x:Kv),x∈l→x.1=p→(Qhf l p).length+1≤l.length:=by
  intro l x hx he
  induction l with
  | nil=>cases hx
  | cons a l ih=>
   unfold Qhf at ih ⊢;rw[List.filter_cons];by_cases ha:a.1=p
   ·rw[if_neg (by simp[ha]),List.length_cons]
    exact Nat.succ_le_succ (List.length_filter_le _ _)
   ·rw[if_pos (by simp[ha]),List.length_cons,List.length_cons]
    rcases List.mem_cons.1 hx with h1|h1
    ·rw[h1] at he;exact absurd he ha
    ·exact Nat.succ_le_succ (ih h1)
 exact this l _ hm rfl
theorem Qqv (c:Cch) (p:ByteArray):(Ju c p).items.length≤c.items.length:=by
 unfold Ju
 split
 ·rename_i v hv
  have:=Q5d _ _ _ hv
  simp only[List.length_cons];exact this
 ·exact Nat.le_refl _
theorem Qd2 (q:ByteArray) (s:Cs):(Zt q s).net.fetches=s.net.fetches+1:=(Yj s.net q).2.2
theorem Qhu (fits:Qjz) (level:Int) (index count:Nat):Qfr (J3 fits level index count) 1:=fun s=>by
 unfold J3
 split
 ·exact (Cost.refl s).more (by decide)
 ·split
  ·exact⟨by simp[Qg5],Nat.le_add_right _ _,Qqv _ _⟩
  ·unfold Qb9
   have h1:∀ q,(Zt q s).net.fetches=s.net.fetches+1:=fun q=>Qd2 q s
   have h2:∀ q q',(Zt q' (Zt q s)).net.fetches=s.net.fetches+1+1:=fun q q'=>by rw[Qd2,Qd2]
   split
   ·exact⟨by simp[Qg5,Zt],by show (Zt _ s).net.fetches≤_;rw[h1];omega,Nat.le_refl _⟩
   ·split
    ·exact⟨by simp[Zt],by rw[h1];omega,Nat.le_refl _⟩
    ·split
     ·exact⟨by simp[Qg5,Zt],by show (Zt _ (Zt _ s)).net.fetches≤_;rw[h2];omega,Nat.le_refl _⟩
     ·exact⟨by simp[Zt],by rw[h2];omega,Nat.le_refl _⟩
theorem Qtq (b:List UInt8) (k:Nat):Qfr (Qjj b k) 0:=fun s=>by
 unfold Qjj
 split <;> exact Cost.refl s
theorem Qe5 (n level index:Nat):Qfr (Qat n level index) 1:=(Qhu _ _ _ _).bind (k:=0) fun b=>Qtq b _
theorem Quj (n level index:Nat):Qfr (Qej n level index) (Qku n level index).length:=by
 unfold Qej Qku
 split
 ·exact (Qe5 _ _ _).bind (k:=1) fun a=>(Qe5 _ _ _).bind (k:=0) fun b=>Qfr.pure _
 ·exact Qe5 _ _ _
theorem Qdy (N:Nat):∀ (f i n:Nat),Qfr (rootQ N f i n) (Qce N f i n).length
 | 0,_,_=>fun s=>Cost.refl s
 | f+1,i,n=>by
  rw[rootQ,Qce]
  split
  ·exact Quj _ _ _
  ·rw[List.length_append]
   exact (Qdy N f _ _).bind fun a=>(Qdy N f _ _).bind (k:=0) fun b=>Qfr.pure _
theorem Qda (N:Nat):∀ rs,Qfr (Zf N rs) (Zx N rs).length
 | []=>fun s=>Cost.refl s
 | x :: xs=>by
  rw[Zf]
  have e:(Zx N (x :: xs)).length=(Qce N (x.2-x.1) x.1 (x.2-x.1)).length+(Zx N xs).length:=by simp[Zx]
  rw[e]
  exact (Qdy N _ _ _).bind fun a=>(Qda N xs).bind (k:=0) fun b=>Qfr.pure _
theorem Qmi (N i:Nat):Qfr (Qfq N i) (Qn1 N i).length:=by
 unfold Qfq Qn1;rw[List.length_cons,Nat.add_comm];refine (Qhu _ _ _ _).bind fun b=>?_
 split
 ·exact fun s=>(Cost.refl s).more (Nat.zero_le _)
 ·exact (Qda N _).bind (k:=0) fun p=>Qfr.pure _
theorem Qly (n level index:Nat):(Qku n level index).length≤2:=by
 unfold Qku
 split <;> simp[Qs1]
theorem Qne (N:Nat):∀ (f i n:Nat),1≤n→(Qce N f i n).length≤2*n
 | 0,_,_,_=>by simp[Qce]
 | f+1,i,n,h=>by
  rw[Qce]
  split
  ·have:=Qly N (Lib.bitLen n-1) (i / n)
   omega
  ·rename_i hn
   have h2:2≤n:=by
    rcases Nat.lt_or_ge n 2 with b|a
    ·obtain rfl:n=1:=by omega
     exact absurd ⟨by decide,Nat.mod_one i⟩ hn
    ·exact a
   have hb:=Yi h2
   have h3:=Qne N f i (below n) (by omega)
   have h4:=Qne N f (i+below n) (n-below n) (by omega)
   rw[List.length_append]
   omega
theorem Ql8 (N K:Nat):∀ rs:List (Nat×Nat),(∀ x∈rs,x.1<x.2∧x.2≤K)→(Zx N rs).length≤rs.length*(2*K)
 | [],_=>by simp[Zx]
 | x :: xs,h=>by
  have h1:=h x List.mem_cons_self
  have h2:=Ql8 N K xs fun y hy=>h y (List.mem_cons_of_mem _ hy)
  have h3:=Qne N (x.2-x.1) x.1 (x.2-x.1) (by omega)
  have e:(Zx N (x :: xs)).length=(Qce N (x.2-x.1) x.1 (x.2-x.1)).length+(Zx N xs).length:=by simp[Zx]
  rw[e,List.length_cons,Nat.add_mul]
  omega
theorem Q8f (c:Cch) (p:ByteArray) (v:List UInt8):(Qap c p v).items.length≤c.items.length+1:=by
 unfold Qap
 split
 ·omega
 ·split
  ·simp only[List.length_cons]
   have:(Qhf c.items p).length≤c.items.length:=List.length_filter_le _ _
   omega
  ·split
   ·simp only[List.length_cons,List.length_dropLast]
    omega
   ·simp
theorem Qfx:∀ (xs:List Kv) (c:Cch),(Je c xs).items.length≤c.items.length+xs.length
 | [],c=>Nat.le_refl _
 | x :: xs,c=>by
  have h1:=Qfx xs (Qap c x.1 x.2)
  have h2:=Q8f c x.1 x.2
  rw[Je,List.length_cons]
  omega
theorem Qgz {n m:Nat} (h2:2≤n) (hm:n≤2 ^ m) (hm2:m≤63):∃ m2,m=m2+1∧below n≤2 ^ m2∧n-below n≤2 ^ m2:=by
 have d:m≠0:=fun e=>by subst e;simp at hm;omega
 obtain⟨m2,rfl⟩:∃ m2,m=m2+1:=⟨m-1,by omega⟩
 have f:(2:Nat) ^ (m2+1)≤2 ^ 63:=Nat.pow_le_pow_right (by decide) hm2;have hp:2 ^ (m2+1)=2*2 ^ m2:=by rw[Nat.pow_succ];omega
 rcases Nat.lt_or_ge n 9223372036854775808 with c|i
 ·obtain⟨e,he,g,h4,h5⟩:=Qx6 h2 c
  have hb:below n=2 ^ e:=by unfold below;rw[he];rfl
  have j:e<m2+1:=(Nat.pow_lt_pow_iff_right (a:=2) (by decide)).1 (Nat.lt_of_lt_of_le h4 hm);have k:2 ^ e≤2 ^ m2:=Nat.pow_le_pow_right (by decide) (by omega);exact⟨m2,rfl,by omega,by omega⟩
 ·have he:n=2 ^ 63:=by omega
  have b:m2=62:=by
   rcases Nat.lt_or_ge m2 62 with h|h
   ·have:(2:Nat) ^ (m2+1)≤2 ^ 62:=Nat.pow_le_pow_right (by decide) (by omega)
    omega
   ·omega
  subst b;have hb:=Yi h2;refine⟨62,rfl,?_,?_⟩
  ·subst he
   decide
  ·subst he
   decide
theorem Qdt:∀ (f mm a b i:Nat),b-a≤2 ^ mm→mm≤63→(Yx f a b i).length≤mm
 | 0,_,_,_,_,_,_=>Nat.zero_le _
 | f+1,mm,a,b,i,h,hm=>by
  unfold Yx
  by_cases h1:b-a≤1
  ·rw[if_pos h1];exact Nat.zero_le _
  ·rw[if_neg h1]
   obtain⟨m2,rfl,h2,h3⟩:=Qgz (n:=b-a) (by omega) h hm
   split
   ·have:=Qdt f m2 a (a+below (b-a)) i (by rw[Nat.add_sub_cancel_left];exact h2) (by omega)
    rw[List.length_cons];omega
   ·have:=Qdt f m2 (a+below (b-a)) b i (by rw[←Nat.sub_sub];exact h3) (by omega)
    rw[List.length_cons];omega
theorem Qdq:∀ (f mm a b m:Nat),b-a≤2 ^ mm→mm≤63→a<m→(Yb f a b m).length≤mm+1
 | 0,_,_,_,_,_,_,_=>Nat.zero_le _
 | f+1,mm,a,b,m,h,hm,ha=>by
  unfold Yb
  by_cases h1:b≤m
  ·rw[if_pos h1];split <;> simp
  ·rw[if_neg h1]
   obtain⟨m2,rfl,h3,h4⟩:=Qgz (n:=b-a) (by omega) h hm
   split
   ·have:=Qdq f m2 a (a+below (b-a)) m (by rw[Nat.add_sub_cancel_left];exact h3) (by omega) ha
    rw[List.length_cons];omega
   ·have:=Qdq f m2 (a+below (b-a)) b m (by rw[←Nat.sub_sub];exact h4) (by omega) (by omega)
    rw[List.length_cons];omega
theorem Qh5 (N:Nat):∀ (rs:List (Nat×Nat)) (s s':Cs) (l:List Hsh),Zf N rs s=(.ok l,s')→l.length=rs.length
 | [],s,s',l,h=>by
  simp only[Zf,Qm.pure,Prod.mk.injEq,Except.ok.injEq] at h
  rw[←h.1];rfl
 | x :: xs,s,s',l,h=>by
  unfold Zf Qm.bind at h
  cases hr:rootQ N (x.2-x.1) x.1 (x.2-x.1) s with
  | mk o s1=>
   rw[hr] at h
   cases o with
   | error e=>simp at h
   | ok a=>
    dsimp only at h
    cases hg:Zf N xs s1 with
    | mk o2 s2=>
     rw[hg] at h
     cases o2 with
     | error e=>simp at h
     | ok l2=>
      simp only[Qm.pure,Prod.mk.injEq,Except.ok.injEq] at h
      rw[←h.1,List.length_cons,List.length_cons,Qh5 N xs s1 s2 l2 hg]
theorem Qho {N i:Nat} (hN:N≤8192) (hi:i<N):(Qn1 N i).length≤220000:=by
 have h1:=Qdt N 13 0 N i (by omega) (by decide);have h2:=Ql8 N N (Yx N 0 N i).reverse fun x hx=>by
  have:=Qeq N 0 N i (by omega) (by omega) hi x (List.mem_reverse.1 hx)
  omega
 rw[List.length_reverse] at h2;have h3:(Yx N 0 N i).length*(2*N)≤13*(2*8192):=Nat.mul_le_mul h1 (by omega);unfold Qn1;rw[List.length_cons];omega
end
section
theorem Q81 (L:Nat):2 ^ L &&& (2 ^ L-1)=0:=by rw[Nat.and_two_pow_sub_one_eq_mod,Nat.mod_self]
end
section
theorem Q10 (N:Nat) {f c e:Nat} (hc:c%2 ^ e=0):(Qce N f c (2 ^ e)).length≤2:=by
 cases f with
 | zero=>simp[Qce]
 | succ f=>
  rw[Qce,if_pos ⟨Q81 e,hc⟩];exact Qly _ _ _
theorem Qs5 {n mm:Nat} (h2:2≤n) (hn:n≤2 ^ mm) (hm:mm≤63):∃ e,e<mm∧below n=2 ^ e∧2 ^ e<n∧n-2 ^ e≤2 ^ e:=by
 have f:(2:Nat) ^ mm≤2 ^ 63:=Nat.pow_le_pow_right (by decide) hm;rcases Nat.lt_or_ge n 9223372036854775808 with d|i
 ·obtain⟨e,he,g,h4,h5⟩:=Qx6 h2 d
  have hb:below n=2 ^ e:=by unfold below;rw[he];rfl
  have b:e<mm:=(Nat.pow_lt_pow_iff_right (a:=2) (by decide)).1 (Nat.lt_of_lt_of_le h4 hn);exact⟨e,b,hb,h4,by omega⟩
 ·have he:n=2 ^ 63:=by omega
  have c:62<mm:=by
   rcases Nat.lt_or_ge 62 mm with h|h
   ·exact h
   ·have:(2:Nat) ^ mm≤2 ^ 62:=Nat.pow_le_pow_right (by decide) h
    omega
  refine⟨62,c,?_,?_,?_⟩
  ·subst he;decide
  ·subst he;decide
  ·subst he;decide
theorem Q1w {a x y:Nat} (h:a%2 ^ y=0) (hx:x≤y):a%2 ^ x=0:=Nat.mod_eq_zero_of_dvd (Nat.dvd_trans (Nat.pow_dvd_pow 2 hx) (Nat.dvd_of_mod_eq_zero h))
theorem Qr5 (N:Nat):∀ (f i n mm:Nat),1≤n→n≤2 ^ mm→i%2 ^ mm=0→mm≤63→(Qce N f i n).length≤2*mm+2
 | 0,_,_,_,_,_,_,_=>by simp[Qce]
 | f+1,i,n,mm,h1,hn,hi,hm=>by
  rw[Qce]
  split
  ·have:=Qly N (Lib.bitLen n-1) (i / n)
   omega
  ·rename_i hne
   have h2:2≤n:=by
    rcases Nat.lt_or_ge n 2 with c|b
    ·obtain rfl:n=1:=by omega
     exact absurd ⟨by decide,Nat.mod_one i⟩ hne
    ·exact b
   obtain⟨e,he,hb,h4,h5⟩:=Qs5 h2 hn hm
   have a:=Q1w hi (Nat.le_of_lt he)
   have h6:=Q10 N (f:=f) a
   have h7:=Qr5 N f (i+2 ^ e) (n-2 ^ e) e (by omega) h5 (by rw[Nat.add_mod_right];exact a) (by omega)
   rw[hb,List.length_append]
   omega
theorem Qnk:∀ (f a b m mm:Nat),a<b→a<m→b-a≤2 ^ mm→a%2 ^ mm=0→mm≤63→∀ x∈Yb f a b m,x.1<x.2∧∃ z,z≤mm∧x.2-x.1≤2 ^ z∧x.1%2 ^ z=0
 | 0,_,_,_,_,_,_,_,_,_=>fun x hx=>by simp[Yb] at hx
 | f+1,a,b,m,mm,hab,ham,hs,ha,hm=>fun x hx=>by
  unfold Yb at hx
  by_cases h1:b≤m
  ·rw[if_pos h1] at hx
   split at hx
   ·rw[List.mem_singleton.1 hx]
    exact⟨hab,mm,Nat.le_refl _,hs,ha⟩
   ·simp at hx
  ·rw[if_neg h1] at hx
   obtain⟨e,he,hb,h4,h5⟩:=Qs5 (show 2≤b-a by omega) hs hm
   have c:=Q1w ha (Nat.le_of_lt he)
   have d:(a+2 ^ e)%2 ^ e=0:=by rw[Nat.add_mod_right];exact c
   have h0:=Nat.two_pow_pos e
   rw[hb] at hx
   split at hx
   ·rcases List.mem_cons.1 hx with rfl|hx
    ·exact⟨by dsimp only;omega,e,Nat.le_of_lt he,by dsimp only;omega,d⟩
    ·obtain⟨k1,z,k2,k3⟩:=Qnk f a (a+2 ^ e) m e (by omega) ham (by omega) c (by omega) x hx
     exact⟨k1,z,by omega,k3⟩
   ·rcases List.mem_cons.1 hx with rfl|hx
    ·exact⟨by dsimp only;omega,e,Nat.le_of_lt he,by dsimp only;omega,c⟩
    ·obtain⟨k1,z,k2,k3⟩:=Qnk f (a+2 ^ e) b m e (by omega) (by omega) (by omega) d (by omega) x hx
     exact⟨k1,z,by omega,k3⟩
theorem Qkk (N K:Nat):∀ rs:List (Nat×Nat),(∀ x∈rs,(Qce N (x.2-x.1) x.1 (x.2-x.1)).length≤K)→(Zx N rs).length≤rs.length*K
 | [],_=>by simp[Zx]
 | x :: xs,h=>by
  have h1:=Qkk N K xs fun y hy=>h y (List.mem_cons_of_mem _ hy)
  have h2:=h x List.mem_cons_self
  have e:Zx N (x :: xs)=Qce N (x.2-x.1) x.1 (x.2-x.1)++Zx N xs:=rfl
  rw[e,List.length_append,List.length_cons,Nat.add_mul]
  omega
theorem Qgy {N m:Nat} (hN:N≤2 ^ 63) (hm:1≤m) (hmN:m≤N):(Zx N (Yb N 0 N m).reverse).length≤8192:=by
 have h1:=Qdq N 63 0 N m (by omega) (Nat.le_refl _) (by omega);have h2:=Qkk N 128 (Yb N 0 N m).reverse fun x hx=>by
  obtain⟨k1,z,k2,k3,k4⟩:=Qnk N 0 N m 63 (by omega) (by omega) (by omega) (Nat.zero_mod _) (Nat.le_refl _) x (List.mem_reverse.1 hx)
  have:=Qr5 N (x.2-x.1) x.1 (x.2-x.1) z (by omega) k3 k4 k2
  omega
 rw[List.length_reverse] at h2;have h3:(Yb N 0 N m).length*128≤64*128:=Nat.mul_le_mul h1 (Nat.le_refl _);omega
end
section
variable {n:Nt} {N:Nat}
variable {j:Nat}
theorem Qma {k:Nat} (h:Qbd n N k j = []):∃ x,Qb8 n N k j=some x:=by
 unfold Qbd at h;unfold Qb8;cases ht:Qh2 n N k j with
 | none=>rw[ht] at h;simp at h
 | some b=>exact⟨_,rfl⟩
theorem Qrk {a b:Option Hsh} (ha:∃ x,a=some x) (hb:∃ x,b=some x):∃ x,twoV a b=some x:=by obtain⟨x,rfl⟩:=ha;obtain⟨y,rfl⟩:=hb;exact⟨_,rfl⟩
theorem Q19 {e:Nat} (h:Qkv n N e j = []):∃ x,Qn6 n N e j=some x:=by
 unfold Qkv at h;unfold Qn6
 split at h
 ·rename_i ho
  rw[if_pos ho];have h2:=List.append_eq_nil_iff.1 h;exact Qrk (Qma h2.1) (Qma h2.2)
 ·rename_i ho
  rw[if_neg ho];exact Qma h
theorem Qmd:∀ (f i m:Nat),m≤f→1≤m→Qbc n N f i m = []→∃ x,Qb7 n N f i m=some x
 | 0,i,m,h0,h1,_=>by omega
 | f+1,i,m,h0,h1,h=>by
  rw[Qbc] at h
  rw[Qb7]
  split at h
  ·rename_i ho
   rw[if_pos ho]
   exact Q19 h
  ·rename_i ho
   rw[if_neg ho]
   have b:2≤m:=by
    rcases Nat.lt_or_ge m 2 with c|a
    ·obtain rfl:m=1:=by omega
     exact absurd ⟨by decide,Nat.mod_one i⟩ ho
    ·exact a
   have hb:=Yi b
   have h2:=List.append_eq_nil_iff.1 h
   exact Qrk (Qmd f i (below m) (by omega) (by omega) h2.1) (Qmd f (i+below m) (m-below m) (by omega) (by omega) h2.2)
theorem Qlx:∀ (rs:List (Nat×Nat)),(∀ x∈rs,x.1<x.2)→Zm n N rs = []→∃ l,Yg n N rs=some l
 | [],_,_=>⟨[],rfl⟩
 | x :: rs,hx,h=>by
  have e:Zm n N (x :: rs)=Qbc n N (x.2-x.1) x.1 (x.2-x.1)++Zm n N rs:=by simp[Zm]
  rw[e] at h
  have h2:=List.append_eq_nil_iff.1 h
  have b:=hx x List.mem_cons_self
  obtain⟨a,ha⟩:=Qmd (x.2-x.1) x.1 (x.2-x.1) (Nat.le_refl _) (by omega) h2.1
  obtain⟨l,hl⟩:=Qlx rs (fun y hy=>hx y (List.mem_cons_of_mem _ hy)) h2.2
  rw[Yg,ha,hl]
  exact⟨_,rfl⟩
theorem Qpo (k j:Nat):(Qbd n N k j).length≤1:=by
 unfold Qbd
 split <;> simp
theorem Q56 (e j:Nat):(Qkv n N e j).length≤(Qku N e j).length:=by
 unfold Qkv Qku Qs1
 split
 ·have h1:=Qpo (n:=n) (N:=N) (e / 2) (2*j)
  have h2:=Qpo (n:=n) (N:=N) (e / 2) (2*j+1);rw[List.length_append,List.length_append];simp only[List.length_singleton];omega
 ·have h1:=Qpo (n:=n) (N:=N) (e / 2) j
  simp only[List.length_singleton];omega
theorem Qpj:∀ (f i m:Nat),(Qbc n N f i m).length≤(Qce N f i m).length
 | 0,_,_=>Nat.zero_le _
 | f+1,i,m=>by
  rw[Qbc,Qce]
  split
  ·exact Q56 _ _
  ·rw[List.length_append,List.length_append]
   exact Nat.add_le_add (Qpj f _ _) (Qpj f _ _)
theorem Qgo:∀ rs:List (Nat×Nat),(Zm n N rs).length≤(Zx N rs).length
 | []=>Nat.le_refl _
 | x :: rs=>by
  have e:Zm n N (x :: rs)=Qbc n N (x.2-x.1) x.1 (x.2-x.1)++Zm n N rs:=by simp[Zm]
  have e2:Zx N (x :: rs)=Qce N (x.2-x.1) x.1 (x.2-x.1)++Zx N rs:=by simp[Zx]
  rw[e,e2,List.length_append,List.length_append]
  exact Nat.add_le_add (Qpj _ _ _) (Qgo rs)
end
section
theorem Qm5 (fits:Qjz) (level:Int) (index count:Nat) (s:Cs):(J3 fits level index count s).2.files=s.files∨∃ b,(J3 fits level index count s).2.files=s.files ++ [(Qq level index (Zc index count),b)]:=by
 unfold J3
 split
 ·exact .inl rfl
 ·split
  ·exact .inr ⟨_,rfl⟩
  ·unfold Qb9
   split
   ·exact .inr ⟨_,rfl⟩
   ·split
    ·exact .inl rfl
    ·split
     ·exact .inr ⟨_,rfl⟩
     ·exact .inl rfl
def Ph0 (n:Nt) (N:Nat) (s:Cs):Prop:=InvL n N s∧Qaf s.files ⟨#[]⟩=none
def Ph1 (n:Nt) (N:Nat) (s:Cs):Prop:=InvL n N s∧∃ d,d.length=32∧Q6 n ⟨#[]⟩=some d∧Qaf s.files ⟨#[]⟩=some d
section
variable {n:Nt} {N:Nat} (hN:N<9223372036854775808) (hst:Jo n)
include hN hst
variable {k index:Nat}
theorem Qpg (hk:k≤20) (hi:(index+1)*4 ^ k≤N) (s:Cs) (hs:InvL n N s):InvL n N (J3 Zh ((k:Nat):Int) (index / 4) (N / 4 ^ k) s).2∧(J3 Zh ((k:Nat):Int) (index / 4) (N / 4 ^ k) s).1=(match Qh2 n N k index with
   | some b=>.ok b
   | none=>.error (.miss (Qq ((k:Nat):Int) (index / 4) (Zc (index / 4) (N / 4 ^ k)))))∧Qq ((k:Nat):Int) (index / 4) (Zc (index / 4) (N / 4 ^ k))≠⟨#[]⟩:=by
 have hp:0<4 ^ k:=Nat.pow_pos (by decide)
 have c:index<N / 4 ^ k:=(Nat.le_div_iff_mul_le hp).2 hi
 have a:Fam N (k+1) (index / 4):=⟨by show 4*(index / 4)<N / 4 ^ k;omega,.inl (by omega)⟩
 have h1:=Qk6 hN hst hs a
 have hf:Yc (k+1)=Zh:=by unfold Yc;rw[if_neg (by omega)]
 have h2:=Qfb (Qow hN a (by omega)).1
 rw[hf,show (((k+1:Nat):Int)-1)=((k:Nat):Int) by omega] at h1
 rw[show (((k+1:Nat):Int)-1)=((k:Nat):Int) by omega] at h2
 exact⟨h1.1,h1.2,h2⟩
theorem small0 (hk:k≤20) (hi:(index+1)*4 ^ k≤N):Sim (Ph0 n N) (Ph0 n N) (Qat N (2*k) index) (Qb8 n N k index) (Qbd n N k index):=by
 refine Qpl hi fun s hs=>?_
 obtain⟨h1,h2,h3⟩:=Qpg hN hst hk hi s hs.1;refine⟨⟨h1,?_⟩,h2⟩;rcases Qm5 Zh ((k:Nat):Int) (index / 4) (N / 4 ^ k) s with e|⟨b,e⟩
 ·rw[e];exact hs.2
 ·rw[e,Qf2,hs.2,Option.none_or,Qis,if_neg h3]
theorem small1 (hk:k≤20) (hi:(index+1)*4 ^ k≤N):Sim (Ph1 n N) (Ph1 n N) (Qat N (2*k) index) (Qb8 n N k index) (Qbd n N k index):=by
 refine Qpl hi fun s hs=>?_
 obtain⟨h1,h2,h3⟩:=Qpg hN hst hk hi s hs.1;obtain⟨d,d1,d2,d3⟩:=hs.2;refine⟨⟨h1,d,d1,d2,?_⟩,h2⟩;rcases Qm5 Zh ((k:Nat):Int) (index / 4) (N / 4 ^ k) s with e|⟨b,e⟩
 ·rw[e];exact d3
 ·rw[e,Qf2,d3];rfl
variable {w:Nat} {d:List UInt8}
theorem Q21 (hk:21≤k) (hd:d.length=32) (hf:Q6 n ⟨#[]⟩=some d) (h1:1≤w) (h4:w≤4):Qal n (k+1) index w=some (d.take (8*w)):=by
 have:=hN;have:=hst
 have hn:∀ w,Qq (((k+1:Nat):Int)-1) index w=⟨#[]⟩:=fun w=>by rw[show (((k+1:Nat):Int)-1)=((k:Nat):Int) by omega];exact Qc9 (by omega)
 have a:Yc (k+1)=Zh:=by unfold Yc;rw[if_neg (by omega)]
 unfold Qal;rw[hn,hn,hf,Option.bind_some,Option.bind_some,a];unfold Zh;by_cases h:w=4
 ·subst h
  rw[if_pos (by omega),if_pos rfl];rfl
 ·rw[if_neg (by omega),if_neg h,if_pos (by omega)]
  rfl
theorem Qth {q:Nat} (hd:d.length=32) (hq:q<w) (h4:w≤4):Qdn (d.take (8*w)) q=Qdn d q:=by
 have:=hN;have:=hst
 unfold Qdn Yo;have hg:∀ j,j<8→((d.take (8*w)).drop (8*q)).getD j 0=(d.drop (8*q)).getD j 0:=fun j hj=>by rw[List.getD_eq_getElem?_getD,List.getD_eq_getElem?_getD,List.getElem?_drop,List.getElem?_drop,List.getElem?_take_of_lt (by omega)]
 rw[hg 0 (by decide),hg 1 (by decide),hg 2 (by decide),hg 3 (by decide),hg 4 (by decide),hg 5 (by decide),hg 6 (by decide),hg 7 (by decide)]
theorem big1 (hk:21≤k) (hi:(index+1)*4 ^ k≤N):Sim (Ph1 n N) (Ph1 n N) (Qat N (2*k) index) (Qb8 n N k index) (Qbd n N k index):=fun s hs=>by
 obtain⟨hI,d,d1,d2,d3⟩:=hs
 have hp:0<4 ^ k:=Nat.pow_pos (by decide)
 have b:index<N / 4 ^ k:=(Nat.le_div_iff_mul_le hp).2 hi
 obtain⟨w,hw⟩:∃ w,w=Zc (index / 4) (N / 4 ^ k):=⟨_,rfl⟩
 have a:index%4<w∧w≤4:=by unfold Zc at hw;omega
 have hv:Qh2 n N k index=some (d.take (8*w)):=by unfold Qh2;rw[←hw];exact Q21 hN hst hk d1 d2 (by omega) a.2
 have hq:J3 Zh ((k:Nat):Int) (index / 4) (N / 4 ^ k) s=(.ok d,s):=by
  unfold J3
  rw[Qc9 (by omega),d3]
 have he:Qat N (2*k) index s=(.ok (Qdn d (index%4)),s):=by
  unfold Qat Qm.bind
  rw[show 2*k / 2=k by omega,pow24,hq]
  dsimp only
  unfold Qjj
  rw[if_neg (by omega)]
 refine .inl ⟨Qdn d (index%4),?_,?_,by rw[he],by rw[he];exact⟨hI,d,d1,d2,d3⟩⟩
 ·unfold Qb8
  rw[hv,Option.map_some,Qth hN hst d1 a.1 a.2]
 ·unfold Qbd
  rw[hv];rfl
theorem first (h44:2 ^ 44≤N):Sim (Ph0 n N) (Ph1 n N) (Qat N (2*21) 1) (Qb8 n N 21 1) (Qbd n N 21 1):=by
 have h4:(4:Nat) ^ 21=2 ^ 42:=by decide
 have hi:(1+1)*4 ^ 21≤N:=by rw[h4];omega
 refine fun s hs=>?_
 have hw:Zc (1 / 4) (N / 4 ^ 21)=4:=by
  have:4≤N / 4 ^ 21:=(Nat.le_div_iff_mul_le (by decide)).2 (by rw[h4];omega)
  unfold Zc;omega
 have hn:∀ w,Qq ((21:Nat):Int) (1 / 4) w=⟨#[]⟩:=fun w=>Qc9 (by omega)
 have f:Yc (21+1)=Zh:=by unfold Yc;rw[if_neg (by omega)]
 have hV:Qh2 n N 21 1=(Q6 n ⟨#[]⟩).bind fun d=>Zh d 4 4:=by unfold Qh2 Qal;rw[hw,if_pos rfl,Option.or_none,f];rw[show (((21+1:Nat):Int)-1)=((21:Nat):Int) by omega,hn]
 have ht:tryQ Zh ⟨#[]⟩ 4 4 s=(Q6 n ⟨#[]⟩).bind fun d=>Zh d 4 4:=by unfold tryQ;rw[Qc3 hst hs.1.same.1 hs.1.same.2]
 have hq:J3 Zh ((21:Nat):Int) (1 / 4) (N / 4 ^ 21) s=match tryQ Zh ⟨#[]⟩ 4 4 s with
   | some b=>(.ok b,Qg5 ⟨#[]⟩ b (Zt ⟨#[]⟩ s))
   | none=>(.error (.miss ⟨#[]⟩),Zt ⟨#[]⟩ s):=by
  unfold J3;rw[hw,hn,hs.2,hs.1.cache];have e0:Qaf ([]:List Kv) ⟨#[]⟩=none:=rfl;rw[e0];dsimp only;unfold Qb9;rw[hn,if_pos rfl];cases tryQ Zh ⟨#[]⟩ 4 4 s <;> rfl
 unfold Qat Qm.bind Qb8 Qbd;rw[show 2*21 / 2=21 by omega,pow24,hq,ht,←hV,hn];cases hv:Qh2 n N 21 1 with
 | none=>exact .inr ⟨_,by simp,rfl⟩
 | some b=>
  dsimp only;have hb:=hv;rw[hV] at hb;obtain⟨d,hd,a⟩:=Option.bind_eq_some_iff.1 hb;unfold Zh at a
  split at a
  ·rename_i h32
   obtain rfl:b=d:=by rw[←Option.some.inj a,List.take_of_length_le (by omega)]
   refine .inl ⟨Qdn b (1%4),rfl,by simp,?_,?_⟩
   ·unfold Qjj
    rw[if_neg (by omega)]
   ·unfold Qjj
    rw[if_neg (by omega)];refine⟨⟨hs.1.same.trans (Qcf s.net _),hs.1.cache,fun k index x hf hg=>?_⟩,b,by omega,hd,?_⟩
    ·have hk:k≤21:=by rcases hf.2 with h|h;exact h;omega
     have g:=Qfb (Qow hN hf hk).1;have c:Qaf (s.files ++ [((⟨#[]⟩:ByteArray),b)]) (Qq ((k:Int)-1) index (Zc index (cntK N k)))=some x:=hg;rw[Qf2,Qis,if_neg (fun e=>g e.symm),Option.or_none] at c;exact hs.1.files k index x hf c
    ·show Qaf (s.files ++ [((⟨#[]⟩:ByteArray),b)]) ⟨#[]⟩=some b
     rw[Qf2,hs.2,Option.none_or,Qis,if_pos rfl]
  ·cases a
end
variable {m f e:Nat}
theorem Qll (hm:m≤2 ^ e) (he:e+1≤62) (hf:2 ^ (e+1)≤f+1):Yb (f+1) 0 (2 ^ (e+1)) m=(2 ^ e,2 ^ (e+1)) :: Yb f 0 (2 ^ e) m:=by
 have hp:2 ^ (e+1)=2*2 ^ e:=by rw[Nat.pow_succ];omega
 have h0:=Nat.two_pow_pos e;have b1:=Qru e he;rw[Yb,if_neg (by omega),Nat.sub_zero,b1,if_pos (by omega),Nat.zero_add]
theorem Q45 {b:Nat} (hm:m≤2 ^ e) (hb:below b=2 ^ e) (h:2 ^ e<b):Yb (f+1) 0 b m=(2 ^ e,b) :: Yb f 0 (2 ^ e) m:=by rw[Yb,if_neg (by omega),Nat.sub_zero,hb,if_pos (by omega),Nat.zero_add]
theorem Qz1 (h1:1≤m) (hm:m≤2 ^ 41) (j:Nat):∀ f,j+43≤62→2 ^ (j+43)≤f→∃ R1 R2,Yb f 0 (2 ^ (j+43)) m=R1++(2 ^ 42,2 ^ 43) :: R2∧(∀ x∈R1,x.1<x.2∧x.2≤2 ^ (j+43))∧∀ x∈R2,x.1<x.2∧x.2≤2 ^ 42∧x.2-x.1≤2 ^ 41:=by
 induction j with
 | zero=>
  intro f hj hf;have b:2 ^ 43≤f:=by rw[Nat.zero_add] at hf;exact hf
  obtain⟨f,rfl⟩:∃ g,f=g+1+1:=⟨f-2,by omega⟩
  refine⟨[],(2 ^ 41,2 ^ 42) :: Yb f 0 (2 ^ 41) m,?_,fun x hx=>by simp at hx,fun x hx=>?_⟩
  ·rw[Nat.zero_add,Qll (e:=42) (by omega) (by omega) (by omega),Qll (e:=41) hm (by omega) (by omega),List.nil_append]
  ·rcases List.mem_cons.1 hx with rfl|hx
   ·dsimp only;omega
   ·have:=Qdx f 0 (2 ^ 41) m (by omega) (by omega) hm x hx
    omega
 | succ j ih=>
  intro f hj hf;have hp:2 ^ (j+1+43)=2*2 ^ (j+43):=by rw[show j+1+43=(j+43)+1 by omega,Nat.pow_succ];omega
  have a:2 ^ 43≤2 ^ (j+43):=Nat.pow_le_pow_right (by decide) (by omega);obtain⟨f,rfl⟩:∃ g,f=g+1:=⟨f-1,by omega⟩
  obtain⟨R1,R2,k1,k2,k3⟩:=ih f (by omega) (by omega);refine⟨(2 ^ (j+43),2 ^ (j+43+1)) :: R1,R2,?_,fun x hx=>?_,k3⟩
  ·rw[show j+1+43=j+43+1 by omega,Qll (by omega) (by omega) (by rw[show j+43+1=j+1+43 by omega];exact hf),k1,List.cons_append]
  ·rcases List.mem_cons.1 hx with rfl|hx
   ·dsimp only
    rw[show j+43+1=j+1+43 by omega];omega
   ·have:=k2 x hx
    omega
variable {n:Nt} {N:Nat}
theorem Qjv {J K:Cs→Prop} {ys:List (Nat×Nat)} (k:Sim J K (Zf N ys) (Yg n N ys) (Zm n N ys)):∀ {I:Cs→Prop} {xs:List (Nat×Nat)} (_:∀ x∈xs,Sim I I (rootQ N (x.2-x.1) x.1 (x.2-x.1)) (Qb7 n N (x.2-x.1) x.1 (x.2-x.1)) (Qbc n N (x.2-x.1) x.1 (x.2-x.1))) (_:∀ s,I s→J s),Sim I K (Zf N (xs++ys)) (Yg n N (xs++ys)) (Zm n N (xs++ys))
 | I,[],_,hij=>k.weak hij fun _ h=>h
 | I,x :: xs,h,hij=>Qhn (h x List.mem_cons_self) (Qjv k (xs:=xs) (fun y hy=>h y (List.mem_cons_of_mem _ hy)) hij)
theorem Q2y (hN:N<9223372036854775808) (hst:Jo n) (h1:1≤m) (hm:m≤2 ^ 41) (hmN:m≤N):Sim (fun s=>InvL n N s∧s.files = []) (fun _=>True) (Qc0 m N) (Yg n N (Yb N 0 N m).reverse) (Zm n N (Yb N 0 N m).reverse):=by
 unfold Qc0;have p:=fun x hx=>Qdx N 0 N m (by omega) (by omega) hmN x hx
 rcases Nat.lt_or_ge N (2 ^ 44) with i|i
 ·refine (Qjf hN (I:=InvL n N) (K:=N) (fun k j _ hj=>Qxk hN hst hj (.inr i)) _ fun x hx=>?_).weak (fun s hs=>hs.1) fun _ _=>trivial
  have:=p x (List.mem_reverse.1 hx)
  omega
 ·have g:∀ x:Nat×Nat,x.1<x.2→x.2≤N→x.2-x.1≤2 ^ 41→Sim (Ph0 n N) (Ph0 n N) (rootQ N (x.2-x.1) x.1 (x.2-x.1)) (Qb7 n N (x.2-x.1) x.1 (x.2-x.1)) (Qbc n N (x.2-x.1) x.1 (x.2-x.1)):=fun x a b c=>by
   refine Qi0 hN (K:=2 ^ 41) (fun k j hk hj=>small0 hN hst ?_ hj) _ _ _ (Nat.le_refl _) (by omega) (by omega) c;rcases Nat.lt_or_ge 20 k with h|h
   ·have h2:4 ^ 21≤4 ^ k:=Nat.pow_le_pow_right (by decide) h
    have h3:(4:Nat) ^ 21=2 ^ 42:=by decide
    omega
   ·exact h
  have d:∀ x:Nat×Nat,x.1<x.2→x.2≤N→Sim (Ph1 n N) (Ph1 n N) (rootQ N (x.2-x.1) x.1 (x.2-x.1)) (Qb7 n N (x.2-x.1) x.1 (x.2-x.1)) (Qbc n N (x.2-x.1) x.1 (x.2-x.1)):=fun x a b=>by
   refine Qi0 hN (K:=N) (fun k j hk hj=>?_) _ _ _ (Nat.le_refl _) (by omega) (by omega) (by omega);rcases Nat.lt_or_ge 20 k with h|h
   ·exact big1 hN hst h hj
   ·exact small1 hN hst h hj
  have l:Sim (Ph0 n N) (Ph1 n N) (rootQ N (2 ^ 43-2 ^ 42) (2 ^ 42) (2 ^ 43-2 ^ 42)) (Qb7 n N (2 ^ 43-2 ^ 42) (2 ^ 42) (2 ^ 43-2 ^ 42)) (Qbc n N (2 ^ 43-2 ^ 42) (2 ^ 42) (2 ^ 43-2 ^ 42)):=by
   have hb:Lib.bitLen (2 ^ 42)-1=42:=by have hb:=Lib.bitLenAux_bounds 64 (2 ^ 42) (by decide) (by decide);have hs:Lib.bitLen (2 ^ 42)=Lib.bitLenAux 64 (2 ^ 42):=rfl;rw[hs];have h1:=(Nat.pow_lt_pow_iff_right (a:=2) (by decide)).1 hb.2.2;have h2:=(Nat.pow_le_pow_iff_right (a:=2) (by decide)).1 hb.2.1;omega
   have e1:(2:Nat) ^ 43-2 ^ 42=(2 ^ 42-1)+1:=by decide
   have e2:(2 ^ 42-1)+1=(2:Nat) ^ 42:=by decide
   have hc:(2:Nat) ^ 42 &&& (2 ^ 42-1)=0∧2 ^ 42%2 ^ 42=0:=by decide
   rw[e1,rootQ,Qb7,Qbc,e2,if_pos hc,if_pos hc,if_pos hc,hb];have h3:2 ^ 42 / 2 ^ 42=1:=by decide
   rw[h3];unfold Qej Qn6 Qkv;rw[if_neg (by decide),if_neg (by decide),if_neg (by decide)];exact first hN hst i
  obtain⟨e,he,u,o,w⟩:=Qx6 (n:=N) (by omega) (by omega);have t:below N=2 ^ e:=by unfold below;rw[he];rfl
  have q:43≤e:=by
   rcases Nat.lt_or_ge e 43 with h|h
   ·have:2 ^ e≤2 ^ 42:=Nat.pow_le_pow_right (by decide) (by omega)
    omega
   ·exact h
  have v:2 ^ 43≤2 ^ e:=Nat.pow_le_pow_right (by decide) q;obtain⟨f,hf⟩:∃ f,N=f+1:=⟨N-1,by omega⟩
  obtain⟨R1,R2,k1,k2,k3⟩:=Qz1 h1 hm (e-43) f (by omega) (by rw[show e-43+43=e by omega];omega);rw[show e-43+43=e by omega] at k1 k2;have hR:Yb N 0 N m=(2 ^ e,N) :: (R1++(2 ^ 42,2 ^ 43) :: R2):=by
   rw[←k1]
   have:=Q45 (f:=f) (b:=N) (m:=m) (e:=e) (by omega) t o
   rw[←hf] at this;exact this
  rw[hR];have r:((2 ^ e,N) :: (R1++(2 ^ 42,2 ^ 43) :: R2)).reverse=R2.reverse++(2 ^ 42,2 ^ 43) :: (R1.reverse ++ [(2 ^ e,N)]):=by simp
  rw[r];refine (Qjv (I:=Ph0 n N) (J:=Ph0 n N) (K:=Ph1 n N) (Qhn (x:=(2 ^ 42,2 ^ 43)) l (Qjv (I:=Ph1 n N) (J:=Ph1 n N) (K:=Ph1 n N) (xs:=R1.reverse ++ [(2 ^ e,N)]) (ys:=[]) (Sim.pure _) (fun x hx=>?_) fun _ h=>h) |> fun h=>by rw[List.append_nil] at h;exact h) (fun x hx=>?_) fun _ h=>h).weak (fun s hs=>⟨hs.1,by rw[hs.2];rfl⟩) fun _ _=>trivial
  ·rcases List.mem_append.1 hx with h|h
   ·have:=k2 x (List.mem_reverse.1 h)
    exact d x this.1 (by omega)
   ·rw[List.mem_singleton.1 h]
    exact d (2 ^ e,N) o (Nat.le_refl _)
  ·have:=k3 x (List.mem_reverse.1 hx)
   exact g x this.1 (by omega) this.2.2
end
section
variable {l l':List Fil}
theorem Qmo (h:Once l) (hp:l'.Perm l):Once l':=(List.Perm.nodup_iff (hp.map (Prod.fst))).2 h
theorem Qcm (h:Once l) (hp:l'.Perm l):getF l'=getF l:=by
 funext p
 cases hg:getF l p with
 | none=>exact Qdi.2 fun f hf=>Qdi.1 hg f (hp.mem_iff.1 hf)
 | some b=>exact Qk5 (Qmo h hp) (hp.mem_iff.2 (Qai hg))
section
variable {l l':List Fil} (h:getF l'=getF l)
include h
theorem Qln (i w:Nat):Z9 l' i w=Z9 l i w:=by unfold Z9;rw[h]
theorem Qid (n:Nat):∀ (m i:Nat) (d:List (List UInt8)),Qbx l' n m i d=Qbx l n m i d
 | 0,_,_=>rfl
 | m+1,i,d=>by
   rw[Qbx,Qbx,Qln h]
   cases Z9 l i (min 4 (n-4*i)) with
   | none=>rfl
   | some e=>exact Qid n m (i+1) (d++e)
theorem Qki (d:List (List UInt8)):∀ w,Z0 l' d w=Z0 l d w
 | 0=>rfl
 | w+1=>by rw[Z0,Z0,Qki d w,Qln h,h]
theorem Qkr (d:List (List UInt8)):Zo l' d=Zo l d:=Qki h d 4
theorem Q48 {d r:List (List UInt8)} (g:Goes l' d r):Goes l d r:=by
 induction g with
 | stop h1=>rw[Qkr h] at h1 ⊢;exact .stop h1
 | more h1 _ ih=>rw[Qkr h] at h1 ih;exact .more h1 ih
theorem Qeg (key:ByteArray):Yt l' key=Yt l key:=by unfold Yt;rw[h]
theorem Qnx {key:ByteArray} {o:Opn} (g:Yh l' key o):Yh l key o:=by
 cases g with
 | checkpoint h1=>rw[Qeg h] at h1;exact .checkpoint h1
 | tile h1 h2=>rw[Qeg h] at h1;rw[Qid h] at h2;exact .tile h1 h2
 | proof h1 h2 h3=>rw[Qeg h] at h1;rw[Qid h] at h2;exact .proof h1 h2 h3
 | fine h1 h2 h3 h4=>rw[Qeg h] at h1;rw[Qid h] at h2;exact .fine h1 h2 h3 (Q48 h h4)
theorem Q8l {N:Nat} (g:FewB l N):FewB l' N:=fun m hm=>g m fun i hi=>by
 obtain⟨w,h1,h2,b,h3⟩:=hm i hi
 exact⟨w,h1,h2,b,by rw[←h];exact h3⟩
end
def Qf8 (l W:List Fil):Bool:=W.any fun f=>Qbv l f.1 f.2
variable {W:List Fil}
theorem Qzq (h:Qf8 l W=false):Qba W l:=fun f hf=>by
 unfold Qf8 at h
 have:=List.any_eq_false.1 h f hf
 simpa using this
theorem Q1l (h:Qba W l):Qf8 l W=false:=List.any_eq_false.2 fun f hf=>by rw[h f hf];decide
theorem Qx1 (h:getF l'=getF l) (W:List Fil):Qf8 l' W=Qf8 l W:=by unfold Qf8 Qbv;rw[h]
theorem Qun (es:List (List UInt8)) (k j:Nat) (hk:k≤30) (h:(j+1)*4 ^ k≤es.length):rootOf ((es.drop (j*4 ^ k)).take (4 ^ k))=Zu es (2*k) j:=by
 have e:=pow24 k
 have:=Qdw es (2*k) j (by omega) (by rw[e];exact h)
 rw[e] at this;exact this.symm
theorem Qd0 {ls:List (List UInt8)} (h0:ls.length≠0) (h4:ls.length≤4) (h:∀ l∈ls,l.length≤20):Yn ls=some (ls.map encE).flatten:=by rw[Qbn h0 h4 fun j l hl=>h l (List.mem_of_getElem? hl),List.flatMap_def]
theorem Qx7 {l:List UInt8} (h:l.length≤20):Yn [l]=some (encE l):=by rw[Qd0 (by simp) (by simp) (by simpa using h)];simp
end
section
variable {b:List UInt8} {w:Nat}
theorem Qi2 {d:List UInt8} {w0:Nat} (h:Z2 d w0 w=some b) (h1:1≤w) (hw:w≤w0):∃ l,Qr d=some l∧l.length=w0∧Qr b=some (l.take w):=by
 unfold Z2 at h;obtain⟨l,hl,h2⟩:=Option.bind_eq_some_iff.1 h
 split at h2
 ·rename_i hlen
  obtain⟨k1,k2,k3⟩:=Yq hl;refine⟨l,hl,hlen,?_⟩;have a:(l.take w).length=w:=by rw[List.length_take];omega
  have hs:∀ e∈l.take w,e.length≤20:=fun e he=>k3 e (List.mem_of_mem_take he)
  have hb:=Qd0 (ls:=l.take w) (by omega) (by omega) hs;rw[hb] at h2;have hu:=Qgk (es:=l.take w) hs (j:=0) (w:=w) h1 (by omega) (by omega);have e1:cutR ((l.take w).map encE) 0 w=b:=by rw[←Option.some.inj h2];unfold cutR;rw[Nat.mul_zero,List.drop_zero,List.take_of_length_le (by rw[List.length_map];omega)]
  rw[e1,Nat.mul_zero,List.drop_zero,List.take_of_length_le (by omega)] at hu;exact hu
 ·cases h2
def Qhj (n:Nt) (N i:Nat):Option (List UInt8):=(Qal n 0 (i / 4) (Zc (i / 4) N)).bind fun b=>((Qr b).getD [])[i%4]?
def Qef (n:Nt) (N i:Nat):List ByteArray:=if (Qal n 0 (i / 4) (Zc (i / 4) N)).isSome then [] else [Qq (-1) (i / 4) (Zc (i / 4) N)]
variable {n:Nt}
theorem Quo {index:Nat} (h:Qal n 0 index w=some b) (h1:1≤w) (h4:w≤4):∃ l,Qr b=some l∧l.length=w:=by
 unfold Qal at h;have hf:∀ d w0,w≤w0→Yc 0 d w0 w=some b→∃ l,Qr b=some l∧l.length=w:=fun d w0 hle hd=>by unfold Yc at hd;rw[if_pos rfl] at hd;obtain⟨l,_,h3,h5⟩:=Qi2 hd h1 hle;exact⟨_,h5,by rw[List.length_take];omega⟩
 rcases Option.or_eq_some_iff.1 h with h2|⟨_,h2⟩
 ·obtain⟨d,_,h3⟩:=Option.bind_eq_some_iff.1 h2
  exact hf _ _ (Nat.le_refl _) h3
 ·split at h2
  ·cases h2
  ·obtain⟨d,_,h3⟩:=Option.bind_eq_some_iff.1 h2
   exact hf _ _ h4 h3
theorem Qw7 {N i:Nat} (hN:N<2 ^ 44) (hst:Jo n) (hi:i<N) :
  Sim (fun s=>InvL n N s∧s.files = []) (fun _=>True) (Qfq N i) ((Qhj n N i).bind fun e=>(Yg n N (Yx N 0 N i).reverse).map fun p=>(e,p)) (Qef n N i++Zm n N (Yx N 0 N i).reverse):=fun s hs=>by
 have a:Fam N 0 (i / 4):=⟨by show 4*(i / 4)<N;omega,.inl (by omega)⟩
 obtain⟨h1,h2⟩:=Qk6 (by omega) hst hs.1 a
 have hf:Yc 0=Z2:=by unfold Yc;rw[if_pos rfl]
 have hc:cntK N 0=N:=rfl
 rw[hf,hc,show (((0:Nat):Int)-1) = -1 by omega] at h1 h2
 have hw:i%4<Zc (i / 4) N∧Zc (i / 4) N≤4:=by unfold Zc;omega
 unfold Qfq Qm.bind Qhj Qef
 cases hm:J3 Z2 (-1) (i / 4) N s with
 | mk o s1=>
  rw[hm] at h1 h2
  dsimp only at h1 h2
  cases hv:Qal n 0 (i / 4) (Zc (i / 4) N) with
  | none=>
   rw[hv] at h2
   dsimp only at h2
   subst h2
   exact .inr ⟨_,by simp,rfl⟩
  | some b=>
   rw[hv] at h2
   dsimp only at h2
   subst h2
   obtain⟨l,hl,c⟩:=Quo hv (by omega) hw.2
   dsimp only
   rw[Option.bind_some,hl,Option.getD_some,List.getElem?_eq_getElem (by omega:i%4<l.length)]
   dsimp only
   have hg:=Qjf (n:=n) (N:=N) (by omega) (I:=InvL n N) (K:=N) (fun k j _ hj=>Qxk (by omega) hst hj (.inr hN)) (Yx N 0 N i).reverse (fun x hx=>by
    have:=Qeq N 0 N i (by omega) (by omega) hi x (List.mem_reverse.1 hx)
    omega)
   rcases hg s1 h1 with ⟨p,k1,k2,k3,k4⟩|⟨p,k1,k2⟩
   ·refine .inl ⟨(l[i%4],p),by rw[k1];rfl,by rw[k2];rfl,?_,trivial⟩
    cases hq:Zf N (Yx N 0 N i).reverse s1 with
    | mk o s2=>
     rw[hq] at k3
     dsimp only at k3
     subst k3
     rfl
   ·refine .inr ⟨p,List.mem_append_right _ k1,?_⟩
    cases hq:Zf N (Yx N 0 N i).reverse s1 with
    | mk o s2=>
     rw[hq] at k2
     dsimp only at k2
     subst k2
     rfl
end
section
def RUpd (n:Nt) (key:List UInt8) (m:Nat) (root:Hsh) (code:Int) (ss:List ByteArray) (sz:Int) (x:ByteArray):Prop:=
 match Q6 n (sOf kCp) with
 | none=>code=3
 | some data=>
  if (Z6 data key).2.2=false then code=3 else
  if (Z6 data key).1.toNat<m then code=4 else
  if (Z6 data key).1.toNat=m then (if (Z6 data key).2.1=root then code=0∧ss = []∧sz=m∧x=HS root else code=5) else
  if Zm n (Z6 data key).1.toNat (Yb (Z6 data key).1.toNat 0 (Z6 data key).1.toNat m).reverse = [] then
   ∃ hs,Yg n (Z6 data key).1.toNat (Yb (Z6 data key).1.toNat 0 (Z6 data key).1.toNat m).reverse=some hs∧
    if consistent m (Z6 data key).1.toNat root (Z6 data key).2.1 hs=true then code=0∧ss=hs.map HS∧sz=(Z6 data key).1∧x=HS (Z6 data key).2.1 else code=5
  else code=6∧ss=Zm n (Z6 data key).1.toNat (Yb (Z6 data key).1.toNat 0 (Z6 data key).1.toNat m).reverse
section
variable {n n':Nt} (h:∀ p,Q6 n p=Q6 n' p)
include h
theorem Qh8 (k i w:Nat):Qal n k i w=Qal n' k i w:=by unfold Qal;rw[h,h]
theorem Qnb (N k j:Nat):Qb8 n N k j=Qb8 n' N k j:=by unfold Qb8 Qh2;rw[Qh8 h]
theorem Qmm (N k j:Nat):Qbd n N k j=Qbd n' N k j:=by unfold Qbd Qh2;rw[Qh8 h]
theorem Qmy (N:Nat):∀ f i m,Qb7 n N f i m=Qb7 n' N f i m
 | 0,_,_=>rfl
 | f+1,i,m=>by
  rw[Qb7,Qb7,Qmy N f,Qmy N f]
  unfold Qn6
  rw[Qnb h,Qnb h,Qnb h]
theorem Qlt (N:Nat):∀ f i m,Qbc n N f i m=Qbc n' N f i m
 | 0,_,_=>rfl
 | f+1,i,m=>by
  rw[Qbc,Qbc,Qlt N f,Qlt N f]
  unfold Qkv
  rw[Qmm h,Qmm h,Qmm h]
theorem Qhw (N:Nat):∀ rs,Yg n N rs=Yg n' N rs
 | []=>rfl
 | x :: xs=>by rw[Yg,Yg,Qmy h,Qhw N xs]
theorem Qms (N:Nat) (rs:List (Nat×Nat)):Zm n N rs=Zm n' N rs:=by
 unfold Zm
 congr 1
 funext x
 exact Qlt h _ _ _ _
theorem Qy4 (N i:Nat):Qhj n N i=Qhj n' N i:=by unfold Qhj;rw[Qh8 h]
theorem Qyh (N i:Nat):Qef n N i=Qef n' N i:=by unfold Qef;rw[Qh8 h]
variable {key:List UInt8} {m:Nat} {root:Hsh} {code sz:Int} {ss:List ByteArray} {x:ByteArray}
theorem Q6x (hu:RUpd n key m root code ss sz x):RUpd n' key m root code ss sz x:=by
 unfold RUpd at hu ⊢;rw[h] at hu;cases hf:Q6 n' (sOf kCp) with
 | none=>rw[hf] at hu;exact hu
 | some data=>
  rw[hf] at hu;dsimp only at hu ⊢;rw[Qms h,Qhw h] at hu;exact hu
end
theorem Qz8 (p:ByteArray):Qaf ([]:List Kv) p=none:=rfl
variable {c:Cch}
theorem Qrw (h:c.items = []) (p:ByteArray):Ju c p=c:=by unfold Ju;rw[h,Qz8]
theorem Qvm (c:Cch) (h:c.items = []):Q1q fun s=>s.cache=c:=⟨fun _ _ _ e=>e,fun s p e=>by
  show Ju s.cache p=c
  rw[e,Qrw h],fun _ _ e=>e⟩
variable {n n':Nt} {N:Nat}
theorem Qld (hs:Qd1 n n') (hc:c.items = []):InvL n N (askQ n' c)∧(askQ n' c).files = []:=
 ⟨⟨hs,hc,fun k i b _ hg=>by cases hg⟩,rfl⟩
variable {m:Nat}
theorem Qj2 (hN:N<9223372036854775808) (b:Jo n) (h1:1≤m) (hm:m≤2 ^ 41) (a:m≤N) (hs:Qd1 n n') (hc:c.items = []) :
  (∃ l,Yg n N (Yb N 0 N m).reverse=some l∧Zm n N (Yb N 0 N m).reverse = []∧(Qc0 m N (askQ n' c)).1=.ok l)∨∃ p∈Zm n N (Yb N 0 N m).reverse,(Qc0 m N (askQ n' c)).1=.error (.miss p):=by
 rcases Q2y hN b h1 hm a (askQ n' c) (Qld hs hc) with ⟨l,h2,h3,h4,_⟩|h2
 ·exact .inl ⟨l,h2,h3,h4⟩
 ·exact .inr h2
theorem Qp7 (hN:N<9223372036854775808) (b:Jo n) (h1:1≤m) (hm:m≤2 ^ 41) (a:m≤N) (hs:Qd1 n n') (hc:c.items = []):(Qc0 m N (askQ n' c)).1≠.error .panic:=by
 rcases Qj2 hN b h1 hm a hs hc with ⟨l,_,_,h⟩|⟨p,_,h⟩
 ·rw[h];intro e;cases e
 ·rw[h];intro e;cases e
variable {root:Hsh} {key:List UInt8} {code sz:Int} {ss:List ByteArray} {x:ByteArray}
theorem Qzc {c:Cl} (hst:Jo n) (hc:c.cache.items = []) (hz:c.size=m) (hr:c.root=root) (hk:c.key.data.toList=key) (h1:1≤m) (hm:m≤2 ^ 41)
  (h:RUpd n key m root code ss sz x) :
  (code=0∧(Y0 c n).1=Qdk∧(Y0 c n).2.1.map HS=ss∧((Y0 c n).2.2.1.size:Int)=sz∧HS (Y0 c n).2.2.1.root=x)∨
  (code≠0∧((Y0 c n).1.1:Int)=code∧(code=6→(Y0 c n).1.2∈ss∧ss.length≤8192)∧(Y0 c n).2.1 = []∧(Y0 c n).2.2.1.size=m∧(Y0 c n).2.2.1.root=root):=by
 unfold RUpd at h;unfold Y0;cases hf:Q6 n (sOf kCp) with
 | none=>
  rw[hf] at h;dsimp only at h ⊢;subst h;exact .inr ⟨by decide,rfl,fun e=>(by cases e),rfl,hz,hr⟩
 | some data=>
  rw[hf] at h;dsimp only at h ⊢;rw[←Qoy,←hk] at h;have a:=Js data c.key.data.toList;by_cases k1:(Zw data c.key.data.toList).2.2=false
  ·rw[if_pos k1] at h ⊢
   subst h;exact .inr ⟨by decide,rfl,fun e=>(by cases e),rfl,hz,hr⟩
  rw[if_neg k1] at h ⊢;by_cases k2:(Zw data c.key.data.toList).1.toNat<m
  ·rw[if_pos k2] at h
   rw[if_pos (by omega)];subst h;exact .inr ⟨by decide,rfl,fun e=>(by cases e),rfl,hz,hr⟩
  rw[if_neg k2] at h;rw[if_neg (by omega)];by_cases k3:(Zw data c.key.data.toList).1.toNat=m
  ·rw[if_pos k3] at h
   rw[if_pos (by omega)];by_cases k4:(Zw data c.key.data.toList).2.1=root
   ·rw[if_pos k4] at h
    rw[if_pos (by rw[hr];exact k4)];obtain⟨rfl,rfl,rfl,rfl⟩:=h;exact .inl ⟨rfl,rfl,rfl,by show (c.size:Int)=_;rw[hz],by show HS c.root=_;rw[hr]⟩
   ·rw[if_neg k4] at h
    rw[if_neg (by rw[hr];exact k4)];subst h;exact .inr ⟨by decide,rfl,fun e=>(by cases e),rfl,hz,hr⟩
  rw[if_neg k3] at h;rw[if_neg (by omega),if_neg (by omega)];have hN:(Zw data c.key.data.toList).1.toNat<9223372036854775808:=by
   have:=(a.1 (by cases q:(Zw data c.key.data.toList).2.2 with
    | true=>rfl
    | false=>exact absurd q k1)).2.1
   omega
  have hp:=Qj2 (c:=c.cache) hN hst h1 hm (by omega) (Qcf n (sOf kCp)) hc;obtain⟨N,d⟩:∃ N,N=(Zw data c.key.data.toList).1.toNat:=⟨_,rfl⟩
  rw[←d] at h hp ⊢;rw[hz,hr];rcases hp with ⟨l,q1,q2,q3⟩|⟨p,q1,q2⟩
  ·rw[if_pos q2] at h
   obtain⟨hs,g1,g2⟩:=h;rw[q1] at g1;cases g1;cases hq:Qc0 m N (askQ (Zy n (sOf kCp)) c.cache) with
   | mk o s=>
    rw[hq] at q3;dsimp only at q3;subst q3;dsimp only;by_cases k5:consistent m N root (Zw data c.key.data.toList).2.1 l=true
    ·rw[if_pos k5] at g2 ⊢
     obtain⟨rfl,rfl,rfl,rfl⟩:=g2;exact .inl ⟨rfl,rfl,rfl,by
      have:=(a.1 (by cases q:(Zw data c.key.data.toList).2.2 with
       | true=>rfl
       | false=>exact absurd q k1)).1
      show ((N:Nat):Int)=_
      omega,rfl⟩
    ·rw[if_neg k5] at g2 ⊢
     subst g2;exact .inr ⟨by decide,rfl,fun e=>(by cases e),rfl,rfl,rfl⟩
  ·rw[if_neg (fun e=>by rw[e] at q1;cases q1)] at h
   obtain⟨rfl,rfl⟩:=h;have b:=Nat.le_trans (Qgo (n:=n) (N:=N) (Yb N 0 N m).reverse) (Qgy (N:=N) (m:=m) (by omega) h1 (by omega));cases hq:Qc0 m N (askQ (Zy n (sOf kCp)) c.cache) with
   | mk o s=>
    rw[hq] at q2;dsimp only at q2;subst q2;exact .inr ⟨by decide,rfl,fun _=>⟨q1,b⟩,rfl,rfl,rfl⟩
theorem Qe8:∀ (rs:List (Nat×Nat)) (l:List Hsh),Yg n N rs=some l→l.length=rs.length
 | [],l,h=>by cases h;rfl
 | x :: xs,l,h=>by
  rw[Yg] at h
  obtain⟨a,_,h2⟩:=Option.bind_eq_some_iff.1 h
  obtain⟨k,hk,rfl⟩:=Option.map_eq_some_iff.1 h2
  rw[List.length_cons,List.length_cons,Qe8 xs k hk]
theorem Qmt {c:Cl} (d:Jo n) (hc:c.cache.items = []) (hm:c.size≤2 ^ 41):(Y0 c n).2.1.length≤64:=by
 unfold Y0;cases hf:Q6 n (sOf kCp) with
 | none=>exact Nat.zero_le _
 | some data=>
  dsimp only
  split
  ·exact Nat.zero_le _
  rename_i k1
  split
  ·exact Nat.zero_le _
  split
  ·split <;> exact Nat.zero_le _
  split
  ·exact Nat.zero_le _
  have a:=Js data c.key.data.toList;have hN:=(a.1 (by cases q:(Zw data c.key.data.toList).2.2 with
   | true=>rfl
   | false=>exact absurd q k1)).2.1
  obtain⟨N,b⟩:∃ N,N=(Zw data c.key.data.toList).1.toNat:=⟨_,rfl⟩
  rw[←b];have e:=Qdq N 63 0 N c.size (by omega) (Nat.le_refl _) (by omega);rcases Qj2 (n:=n) (N:=N) (m:=c.size) (c:=c.cache) (by omega) d (by omega) hm (by omega) (Qcf n (sOf kCp)) hc with ⟨l,q1,q2,q3⟩|⟨p,q1,q2⟩
  ·cases hq:Qc0 c.size N (askQ (Zy n (sOf kCp)) c.cache) with
   | mk o s=>
    rw[hq] at q3;dsimp only at q3;subst q3;dsimp only
    have:=Qe8 _ _ q1
    rw[List.length_reverse] at this
    split
    ·dsimp only;omega
    ·exact Nat.zero_le _
  ·cases hq:Qc0 c.size N (askQ (Zy n (sOf kCp)) c.cache) with
   | mk o s=>
    rw[hq] at q2;dsimp only at q2;subst q2;exact Nat.zero_le _
def Qo1 (n:Nt) (N i:Nat) (c:Cl) (r:Tld×(List UInt8×List Hsh)×Cl×Nt):Prop:=
 (∃ x hs,Qhj n N i=some x∧Yg n N (Yx N 0 N i).reverse=some hs∧Qef n N i++Zm n N (Yx N 0 N i).reverse = []∧
  (if included (Jx x) i N hs c.root=true then r.1=Qdk∧r.2.1=(x,hs) else r.1=(5,⟨#[]⟩)∧r.2.1=([],[])))∨
 ∃ p∈Qef n N i++Zm n N (Yx N 0 N i).reverse,r.1=(6,p)∧r.2.1=([],[])
variable {i:Nat}
theorem Qzw (h:∀ p,Q6 n p=Q6 n' p) {c:Cl} {r:Tld×(List UInt8×List Hsh)×Cl×Nt} (hl:Qo1 n N i c r):Qo1 n' N i c r:=by unfold Qo1 at hl ⊢;rw[Qy4 h,Qhw h,Qyh h,Qms h] at hl;exact hl
theorem Qxi {c:Cl} (hst:Jo n) (hc:c.cache.items = []) (hz:c.size=N) (hN:N<2 ^ 44) (hi:i<N) :
  Qo1 n N i c (Qcx c n i)∧Qd1 n (Qcx c n i).2.2.2∧(Qcx c n i).2.2.1.key=c.key∧(Qcx c n i).2.2.1.size=c.size∧(Qcx c n i).2.2.1.root=c.root∧((Qcx c n i).1.1≠0→(Qcx c n i).2.2.1.cache=c.cache):=by
 have hs:=Qw7 hN hst hi (askQ n c.cache) (Qld (Qd1.refl n) hc);have hk:=Qoz (Qd6 n) N i (askQ n c.cache) (Qd1.refl n);have b:=Qoz (Qvm c.cache hc) N i (askQ n c.cache) rfl;unfold Qcx Qo1;rw[if_neg (by omega),Int.toNat_natCast,hz];cases hq:Qfq N i (askQ n c.cache) with
 | mk o s=>
  rw[hq] at hs hk b;dsimp only at hs hk b;rcases hs with ⟨a,q1,q2,q3,_⟩|⟨p,q1,q2⟩
  ·subst q3
   dsimp only;obtain⟨x,hx,q4⟩:=Option.bind_eq_some_iff.1 q1;obtain⟨hh,hg,rfl⟩:=Option.map_eq_some_iff.1 q4;dsimp only;by_cases k:included (Jx x) i N hh c.root=true
   ·rw[if_pos k]
    refine⟨.inl ⟨x,hh,hx,hg,q2,?_⟩,hk,rfl,rfl,rfl,fun e=>absurd rfl e⟩;rw[if_pos k];exact⟨rfl,rfl⟩
   ·rw[if_neg k]
    refine⟨.inl ⟨x,hh,hx,hg,q2,?_⟩,hk,rfl,rfl,rfl,fun _=>b⟩;rw[if_neg k];exact⟨rfl,rfl⟩
  ·subst q2
   exact⟨.inr ⟨p,q1,rfl,rfl⟩,hk,rfl,rfl,rfl,fun _=>b⟩
theorem Qs8 {c:Cl} (a:Jo n) (hc:c.cache.items = []) (hz:c.size=N) (hN:N<2 ^ 44) (hi:i<N):(Qcx c n i).2.1.2.length≤64:=by
 rcases (Qxi a hc hz hN hi).1 with ⟨x,hs,_,hg,_,h4⟩|⟨p,_,_,h3⟩
 ·have h5:=Qe8 _ _ hg
  rw[List.length_reverse] at h5;have h6:=Qdt N 63 0 N i (by omega) (Nat.le_refl _)
  split at h4
  ·rw[h4.2];dsimp only;omega
  ·rw[h4.2];exact Nat.zero_le _
 ·rw[h3];exact Nat.zero_le _
theorem Qrb (hN:N<2 ^ 44) (a:Jo n) (hi:i<N) (hc:c.items = []):(Qfq N i (askQ n c)).1≠.error .panic:=by
 rcases Qw7 hN a hi (askQ n c) (Qld (Qd1.refl n) hc) with ⟨l,_,_,h,_⟩|⟨p,_,h⟩
 ·rw[h];intro e;cases e
 ·rw[h];intro e;cases e
variable {b:List UInt8}
theorem Qlp {d:List UInt8} {w0 w:Nat} (h:Z2 d w0 w=some b):b.length≤d.length+1024:=by
 unfold Z2 at h;obtain⟨l,hl,h2⟩:=Option.bind_eq_some_iff.1 h
 split at h2
 ·obtain⟨k1,k2,k3⟩:=Yq hl
  rcases Nat.eq_zero_or_pos (l.take w).length with h0|h0
  ·have:l.take w = []:=List.eq_nil_of_length_eq_zero h0
   rw[this] at h2;cases h2
  ·have h4:(l.take w).length≤4:=by rw[List.length_take];omega
   have hs:∀ e∈l.take w,e.length≤20:=fun e he=>k3 e (List.mem_of_mem_take he)
   rw[Qd0 (by omega) h4 hs] at h2;rw[←Option.some.inj h2]
   have:∀ (q:List (List UInt8)),(∀ e∈q,e.length≤20)→(q.map encE).flatten.length≤21*q.length:=by
    intro q
    induction q with
    | nil=>intro _;exact Nat.le_refl _
    | cons x xs ih=>
     intro hq;have h5:=ih fun e he=>hq e (List.mem_cons_of_mem _ he)
     have h6:=hq x List.mem_cons_self;rw[List.map_cons,List.flatten_cons,List.length_append,List.length_cons];have h7:(encE x).length=x.length+1:=by simp[encE]
     omega
   have:=this _ hs
   omega
 ·cases h2
theorem Q1f (hN:N<2 ^ 44) (hst:Jo n) (hi:i<N) (hc:c.items = []) (hd:∀ p d,Q6 n p=some d→d.length≤1048576) {s1:Cs} (hb:J3 Z2 (-1) (i / 4) N (askQ n c)=(.ok b,s1)):b.length≤1050000:=by
 obtain⟨_,h2⟩:=Qk6 (k:=0) (index:=i / 4) (by omega) hst (Qld (Qd1.refl n) hc).1 (⟨by show 4*(i / 4)<N;omega,.inl (by omega)⟩:Fam N 0 (i / 4));have hf:Yc 0=Z2:=by unfold Yc;rw[if_pos rfl]
 have a:cntK N 0=N:=rfl;rw[hf,a,show (((0:Nat):Int)-1) = -1 by omega,hb] at h2;dsimp only at h2;cases hv:Qal n 0 (i / 4) (Zc (i / 4) N) with
 | none=>rw[hv] at h2;cases h2
 | some z=>
  rw[hv] at h2;cases h2;unfold Qal at hv;rw[hf] at hv;rcases Option.or_eq_some_iff.1 hv with h1|⟨_,h1⟩
  ·obtain⟨d,k1,k2⟩:=Option.bind_eq_some_iff.1 h1
   have:=hd _ _ k1
   have:=Qlp k2
   omega
  ·split at h1
   ·cases h1
   ·obtain⟨d,k1,k2⟩:=Option.bind_eq_some_iff.1 h1
    have:=hd _ _ k1
    have:=Qlp k2
    omega
end
section
def Qiq (w:World) (g:Nat) (h:Hsh):Prop:=(w.heap[g]?).map (fun | .cells c _ _=>c|_=>#[])=some (h8 h)
theorem Qnv {w:World} {g:Nat} {h:Hsh} (hh:Qiq w g h) (c:Nat) (hcap:8≤c:=by decide):Q8 w (.slice (some ⟨g,0,none⟩) 8 c) h.toList:=by
 unfold Qiq at hh;rw[Option.map_eq_some_iff] at hh;obtain⟨o,ho,hc⟩:=hh;cases o <;> simp at hc
 case cells cs e fz=>
  subst hc
  have:=Qd5 (n:=8) (c:=c) hcap ho
  rw[Qsy] at this;unfold Q8;simpa using this
 all_goals (have:=congrArg Array.size hc;simp at this)
theorem Qgf (s:ByteArray) (w:World) (hs:s.size≤1099511627776) :
  Calls prog 88 #[.string s] w fun e w'=>e=.returned (.string (HS (hash s.data.toList)))∧Below w.heap.size w w':=by
 have g:∀ w,(Instr.makeSlice 147 (.int .i64 8) (.int .i64 8)).run prog w=.ok (.slice (some ⟨w.heap.size,0,none⟩) 8 8) (w.alloc (.cells zc 5)):=fun _=>by kernel_rfl
 go_enter func88,ntmps88
 go_wp2
 go_loop [3,4] (fun x i=>∃ k:Nat,k≤s.size∧i=.int .i64 k∧x=.int .u64 (hfold (s.data.toList.take k))) (fun _ i=>s.size-(intOf i).toNat)
 case atStart=>exact⟨0,by omega,rfl,rfl⟩
 case round=>
  obtain⟨k,hk,rfl,rfl⟩:=hrel;by_cases hlt:k<s.size
  ·have a:hfold (s.data.toList.take (k+1))=hstep (hfold (s.data.toList.take k)) s[k]:=by rw[Qoi (x:=s[k]) (by simp[hlt];rfl),Qo6]
   have c:=zh a;clear a;go_wp2
   go_round
   case rel=>exact⟨k+1,by omega,by go_num,by rw[c.o];rfl⟩
   case measure=>simp[intOf];omega
  ·have ht:s.data.toList.take k=s.data.toList:=List.take_of_length_le (by simp;omega)
   rw[ht];have b:=Qvw s.data.toList;obtain⟨y,hy⟩:∃ y,y=hfold s.data.toList:=⟨_,rfl⟩
   rw[←hy] at b ⊢;have HY:=zh hy;clear hy ht;obtain⟨f,d⟩:=b;go_wp2;refine wp_loop_rounds 9 ?_
   iterate 8
    rw[rounds_succ];go_wp2
   rw[rounds_succ];have d2:y / 256 / 256=y / 65536:=by omega
   have d3:y / 65536 / 256=y / 16777216:=by omega
   have d4:y / 16777216 / 256=y / 4294967296:=by omega
   have d5:y / 4294967296 / 256=y / 1099511627776:=by omega
   have d6:y / 1099511627776 / 256=y / 281474976710656:=by omega
   have d7:y / 281474976710656 / 256=y / 72057594037927936:=by omega
   have d8:y / 72057594037927936%256=y / 72057594037927936:=by omega
   have key:Qiq (w.alloc (.cells #[.int .u8 (y / 256 / 256 / 256 / 256 / 256 / 256 / 256),.int .u8 (y / 256 / 256 / 256 / 256 / 256 / 256%256),.int .u8 (y / 256 / 256 / 256 / 256 / 256%256),.int .u8 (y / 256 / 256 / 256 / 256%256),.int .u8 (y / 256 / 256 / 256%256),.int .u8 (y / 256 / 256%256),.int .u8 (y / 256%256),.int .u8 (y%256)] 5)) w.heap.size (hash s.data.toList):=by unfold Qiq;rw[Zz _ _ _ rfl];simp only[d2,d3,d4,d5,d6,d7];unfold hash;rw[←HY.o,Qtc,d8];rfl
   have KEY:=zh key;clear d2 d3 d4 d5 d6 d7 d8 key
   go_wp2_with (refine Qnd rfl 147 9 _ rfl _ underlying147 underlying5 underlying9 _ ?_ rfl ?_ ?_;rotate_left;focus exact Qnv KEY.o 8)
   go_ret;exact⟨rfl,(Below.refl _ _).alloc (Nat.le_refl _) _⟩
theorem Y6 (h:Hsh):(HS h).size=8:=by simp[HS,ByteArray.size]
theorem Qsi (s:ByteArray) (w:World) (hs:s.size≤1099511627000) :
  Calls prog 39 #[.string s] w fun e w'=>e=.returned (.string (HS (Jx s.data.toList)))∧Below w.heap.size w w':=by
 have he:(({ data:=#[0] }:ByteArray)++s).data.toList=0 :: s.data.toList:=by simp
 have HE:=zh he;clear he
 go_enter func39,ntmps39
 go_wp2_with fail
 refine (Qgf _ _ (by simp only[ByteArray.size_append];have:(ByteArray.mk #[0]).size=1:=rfl;omega)).mono ?_;rintro e w1 ⟨rfl,hb⟩;rw[HE.o];go_wp2;go_ret;exact⟨rfl,hb⟩
theorem Qbe (a b:ByteArray) (w:World) (ha:a.size≤8) (hb:b.size≤8) :
  Calls prog 90 #[.string a,.string b] w fun e w'=>e=.returned (.string (HS (hash (1 :: (a.data.toList++b.data.toList)))))∧Below w.heap.size w w':=by
 have he:(({ data:=#[1] }:ByteArray)++a++b).data.toList=1 :: (a.data.toList++b.data.toList):=by simp
 have HE:=zh he;clear he
 go_enter func90,ntmps90
 go_wp2_with fail
 refine (Qgf _ _ (by simp only[ByteArray.size_append];have:(ByteArray.mk #[1]).size=1:=rfl;omega)).mono ?_;rintro e w1 ⟨rfl,hb⟩;rw[HE.o];go_wp2;go_ret;exact⟨rfl,hb⟩
end
end Go.Proofs.YtefccfakhgdfbaaGreatDoor
