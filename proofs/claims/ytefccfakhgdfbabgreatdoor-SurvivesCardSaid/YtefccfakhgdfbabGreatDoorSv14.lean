/- tileskeep's pick and short. Conditions: what is picked of is at least one; at most 2^20 texts. -/
import Derived.Test.YtefccfakhgdfbabGreatDoorSv13
import Derived.Shelf.SlSortCmp.WholeK
set_option linter.unusedVariables false
set_option linter.unusedSimpArgs false
open Go.RowKit Go.Proofs.Tryz
set_option maxRecDepth 100000
set_option maxHeartbeats 4000000
namespace Go.Proofs.YtefccfakhgdfbabGreatDoor
section
theorem included_path (ls:List (List UInt8)) (i:Nat) (hi:i<ls.length):included (leafH (ls.getD i [])) i ls.length (pathOf ls i) (rootOf ls)=true:=by
 unfold included
 rw[Int.toNat_natCast,Int.toNat_natCast,rebuild_path ls.length ls i (Nat.le_refl _) hi]
 simp
 omega
theorem consistent_part (ls:List (List UInt8)) (m:Nat) (h1:1≤m) (hm:m≤ls.length) (hl:ls.length<9223372036854775808):consistent m ls.length (rootOf (ls.take m)) (rootOf ls) (partOf m ls true)=true:=by
 unfold consistent
 have h:=roots_part ls.length ls m true (Nat.le_refl _) hl h1 hm
 rw[if_pos rfl] at h
 rw[Int.toNat_natCast,Int.toNat_natCast,h]
 simp
 omega
end
section
structure Cl where
 key:ByteArray
 size:Nat
 root:Hsh
 cache:Cch
abbrev Tld:=Nat×ByteArray
def tFine:Tld:=(0,⟨#[]⟩)
def updateP (c:Cl) (n:Nt):Tld×List Hsh×Cl×Nt:=
 match fetchA n (sOf kCp) with
 | none=>((3,⟨#[]⟩),[],c,fetchN n (sOf kCp))
 | some data=>
  if (checkGo data c.key.data.toList).2.2=false then ((3,⟨#[]⟩),[],c,fetchN n (sOf kCp)) else
  if (checkGo data c.key.data.toList).1.toNat<c.size then ((4,⟨#[]⟩),[],c,fetchN n (sOf kCp)) else
  if (checkGo data c.key.data.toList).1.toNat=c.size then (if (checkGo data c.key.data.toList).2.1=c.root then (tFine,[],c,fetchN n (sOf kCp)) else ((5,⟨#[]⟩),[],c,fetchN n (sOf kCp))) else
  if c.size=0 then (tFine,[],{ c with size:=(checkGo data c.key.data.toList).1.toNat,root:=(checkGo data c.key.data.toList).2.1 },fetchN n (sOf kCp)) else
  match proofQ c.size (checkGo data c.key.data.toList).1.toNat (askQ (fetchN n (sOf kCp)) c.cache) with
  | (.error (.miss p),s)=>((6,p),[],{ c with cache:=s.cache },s.net)
  | (.error .panic,s)=>((99,⟨#[]⟩),[],{ c with cache:=s.cache },s.net)
  | (.ok l,s)=>
   if consistent c.size (checkGo data c.key.data.toList).1.toNat c.root (checkGo data c.key.data.toList).2.1 l=true then (tFine,l,{ c with size:=(checkGo data c.key.data.toList).1.toNat,root:=(checkGo data c.key.data.toList).2.1,cache:=rememberQ s.cache s.files },s.net)
   else ((5,⟨#[]⟩),[],{ c with cache:=s.cache },s.net)
def readP (c:Cl) (n:Nt) (i:Int):Tld×(List UInt8×List Hsh)×Cl×Nt:=
 if i<0∨(c.size:Int)≤i then ((2,⟨#[]⟩),([],[]),c,n) else
 match readQ c.size i.toNat (askQ n c.cache) with
 | (.error (.miss p),s)=>((6,p),([],[]),{ c with cache:=s.cache },s.net)
 | (.error .panic,s)=>((99,⟨#[]⟩),([],[]),{ c with cache:=s.cache },s.net)
 | (.ok r,s)=>
  if included (leafH r.1) i c.size r.2 c.root=true then (tFine,r,{ c with cache:=rememberQ s.cache s.files },s.net)
  else ((5,⟨#[]⟩),([],[]),{ c with cache:=s.cache },s.net)
structure KeepsQ (I:Cs→Prop):Prop where
 keep:∀ s p b,I s→I (keepQ p b s)
 get:∀ s p,I s→I { s with cache:=cacheGet s.cache p }
 fetched:∀ s q,I s→I (fetchedQ q s)
def Kept {α:Type} (I:Cs→Prop) (m:Qm α):Prop:=∀ s,I s→I (m s).2
theorem Kept.bind {α β:Type} {I:Cs→Prop} {m:Qm α} {f:α→Qm β} (h:Kept I m) (k:∀ a,Kept I (f a)):Kept I (Qm.bind m f):=fun s hs=>by
 have h1:=h s hs
 unfold Qm.bind
 cases hm:m s with
 | mk o s1=>
  rw[hm] at h1
  cases o with
  | ok a=>exact k a s1 h1
  | error e=>exact h1
section
variable {I:Cs→Prop} (hI:KeepsQ I)
include hI
theorem fileQ_kept (fits:FitsF) (level:Int) (index count:Nat):Kept I (fileQ fits level index count):=fun s hs=>by
 unfold fileQ
 split
 ·exact hs
 ·split
  ·exact hI.keep _ _ _ (hI.get _ _ hs)
  ·unfold fetchQ
   split
   ·exact hI.keep _ _ _ (hI.fetched _ _ hs)
   ·split
    ·exact hI.fetched _ _ hs
    ·split
     ·exact hI.keep _ _ _ (hI.fetched _ _ (hI.fetched _ _ hs))
     ·exact hI.fetched _ _ (hI.fetched _ _ hs)
theorem evenQ_kept (n level index:Nat):Kept I (evenQ n level index):=(fileQ_kept hI _ _ _ _).bind fun b s hs=>by
 unfold partQ
 split <;> exact hs
theorem fullQ_kept (n level index:Nat):Kept I (fullQ n level index):=by
 unfold fullQ
 split
 ·exact (evenQ_kept hI _ _ _).bind fun a=>(evenQ_kept hI _ _ _).bind fun b s hs=>hs
 ·exact evenQ_kept hI _ _ _
theorem rootQ_kept (N:Nat):∀ (f i n:Nat),Kept I (rootQ N f i n)
 | 0,_,_=>fun s hs=>hs
 | f+1,i,n=>by
  rw[rootQ]
  split
  ·exact fullQ_kept hI _ _ _
  ·exact (rootQ_kept N f _ _).bind fun a=>(rootQ_kept N f _ _).bind fun b s hs=>hs
theorem gatherQ_kept (N:Nat):∀ rs,Kept I (gatherQ N rs)
 | []=>fun s hs=>hs
 | x :: xs=>by
  rw[gatherQ]
  exact (rootQ_kept hI _ _ _ _).bind fun a=>(gatherQ_kept N xs).bind fun b s hs=>hs
theorem readQ_kept (N i:Nat):Kept I (readQ N i):=by
 unfold readQ
 refine (fileQ_kept hI _ _ _ _).bind fun b=>?_
 split
 ·exact fun s hs=>hs
 ·exact (gatherQ_kept hI _ _).bind fun p s hs=>hs
end
def SameN (n n':Nt):Prop:=n'.lies=n.lies∧n'.files=n.files
theorem SameN.refl (n:Nt):SameN n n:=⟨rfl,rfl⟩
theorem SameN.trans {a b c:Nt} (h:SameN a b) (k:SameN b c):SameN a c:=⟨k.1.trans h.1,k.2.trans h.2⟩
theorem sameN_fetch (n:Nt) (q:ByteArray):SameN n (fetchN n q):=⟨(fetchN_same n q).1,(fetchN_same n q).2.1⟩
theorem keepsQ_same (n:Nt):KeepsQ fun s=>SameN n s.net:=⟨fun _ _ _ h=>h,fun _ _ h=>h,fun s q h=>h.trans (sameN_fetch s.net q)⟩
theorem netHas_same {es:List (List UInt8)} {N:Nat} {n n':Nt} (h:NetHas es N n) (hs:Steady n) (k:SameN n n'):NetHas es N n':=fun m j r h1 h2=>by
 rw[fetchA_steady hs k.1 k.2];exact h m j r h1 h2
structure TrueC (es:List (List UInt8)) (c:Cl):Prop where
 size:c.size≤es.length
 root:c.root=rootOf (es.take c.size)
 cache:∀ x∈c.cache.items,TileOk es x.1 x.2
 ok:CacheOk c.cache
theorem cacheOk_asks {α:Type} {m:Qm α} {T:List ByteArray} (h:Asks m T) {s:Cs} (hc:CacheOk s.cache):CacheOk (m s).2.cache∧(m s).2.cache.most=s.cache.most:=by
 obtain⟨g,_⟩:=h s
 refine⟨⟨(g.len hc.once).1,?_⟩,g.most⟩
 rw[(g.len hc.once).2,g.most]
 exact hc.len
section
variable {es:List (List UInt8)} (hl:es.length≤1048576) (hs:∀ e∈es,e.length≤20) {c:Cl} (hc:TrueC es c) {n:Nt} (hn:NetTrue es n)
include hl hs hc hn
theorem readP_true {i:Nat} (hi:i<c.size) {av:Bool} (hh:av=true→NetHas es c.size n) :
  TrueC es (readP c n i).2.2.1∧SameN n (readP c n i).2.2.2∧(readP c n i).2.2.1.key=c.key∧(readP c n i).2.2.1.size=c.size∧(readP c n i).2.2.1.root=c.root∧(readP c n i).2.2.1.cache.most=c.cache.most∧
   (((readP c n i).1=tFine∧(readP c n i).2.1=((es.take c.size).getD i [],pathOf (es.take c.size) i))∨(av=false∧∃ p,(readP c n i).1=(6,p)∧(readP c n i).2.1=([],[]))):=by
 have hT:TrueQ es c.size av (askQ n c.cache):=⟨fun x hx=>by simp[askQ] at hx,hc.cache,hn,hh⟩
 obtain⟨h1,h2,h3⟩:=readQ_true hl hc.size hs (av:=av) hi (askQ n c.cache) hT
 have h4:=readQ_kept (keepsQ_same n) c.size i (askQ n c.cache) (SameN.refl n)
 obtain⟨h5,h6⟩:=cacheOk_asks (readQ_asks c.size i) (s:=askQ n c.cache) hc.ok
 have hlen:(es.take c.size).length=c.size:=by rw[List.length_take,Nat.min_eq_left hc.size]
 unfold readP
 rw[if_neg (by omega),Int.toNat_natCast]
 cases hq:readQ c.size i (askQ n c.cache) with
 | mk o s=>
  rw[hq] at h1 h2 h3 h4 h5 h6
  dsimp only at h1 h2 h3 h4 h5 h6
  cases o with
  | error e=>
   obtain⟨hav,p,rfl⟩:=h3 e rfl
   exact⟨⟨hc.size,hc.root,h1.cache,h5⟩,h4,rfl,rfl,rfl,h6,.inr ⟨hav,p,rfl,rfl⟩⟩
  | ok r=>
   have hr:=h2 r rfl
   subst hr
   dsimp only
   have hinc:=included_path (es.take c.size) i (by omega)
   rw[hlen,←hc.root] at hinc
   rw[if_pos hinc]
   refine⟨⟨hc.size,hc.root,fun x hx=>?_,remember_ok _ _ h5⟩,h4,rfl,rfl,rfl,(remember_most _ _).trans h6,.inl ⟨rfl,rfl⟩⟩
   rcases remember_mem _ _ _ hx with h7|h7
   ·exact h1.cache x h7
   ·exact h1.files x h7
theorem updateP_true {M:Nat} (hM:M≤es.length) (hcM:c.size≤M) (hcp:fetchA n (sOf kCp)=some (cpOf (es.take M) c.key).data.toList) (hh:NetHas es M n) :
  (updateP c n).1=tFine∧(updateP c n).2.1=(if 0<c.size∧c.size<M then partOf c.size (es.take M) true else [])∧TrueC es (updateP c n).2.2.1∧(updateP c n).2.2.1.size=M∧(updateP c n).2.2.1.key=c.key∧(updateP c n).2.2.1.cache.most=c.cache.most∧SameN n (updateP c n).2.2.2:=by
 have:=hs
 have hlen:(es.take M).length=M:=by rw[List.length_take,Nat.min_eq_left hM]
 have hck:checkGo (cpOf (es.take M) c.key).data.toList c.key.data.toList=((M:Int),rootOf (es.take M),true):=by
  have e:(cpOf (es.take M) c.key).data.toList=signOf (es.take M).length (rootOf (es.take M)) c.key.data.toList:=rfl
  rw[e,checkGo_sign _ _ _ (by omega),hlen]
 unfold updateP
 rw[hcp]
 dsimp only
 rw[hck]
 dsimp only
 rw[if_neg (by simp),Int.toNat_natCast,if_neg (by omega)]
 by_cases h0:M=c.size
 ·rw[if_pos h0,if_pos (by rw[hc.root,h0]),if_neg (by omega)]
  exact⟨rfl,rfl,hc,h0.symm,rfl,rfl,sameN_fetch n _⟩
 ·rw[if_neg h0]
  by_cases hz:c.size=0
  ·rw[if_pos hz,if_neg (by omega)]
   exact⟨rfl,rfl,⟨hM,rfl,hc.cache,hc.ok⟩,rfl,rfl,rfl,sameN_fetch n _⟩
  ·rw[if_neg hz,if_pos (by omega)]
   have hT:TrueQ es M true (askQ (fetchN n (sOf kCp)) c.cache):=⟨fun x hx=>by simp[askQ] at hx,hc.cache,hn.next _,fun _=>netHas_same hh hn.steady (sameN_fetch n _)⟩
   obtain⟨h1,h2,h3⟩:=proofQ_true hl hM (av:=true) (m:=c.size) (by omega) hcM (askQ (fetchN n (sOf kCp)) c.cache) hT
   have h4:SameN n (proofQ c.size M (askQ (fetchN n (sOf kCp)) c.cache)).2.net:=gatherQ_kept (keepsQ_same n) M _ (askQ (fetchN n (sOf kCp)) c.cache) (sameN_fetch n _)
   obtain⟨h5,h6⟩:=cacheOk_asks (m:=proofQ c.size M) (gatherQ_asks M (partR M 0 M c.size).reverse) (s:=askQ (fetchN n (sOf kCp)) c.cache) hc.ok
   cases hq:proofQ c.size M (askQ (fetchN n (sOf kCp)) c.cache) with
   | mk o s=>
    rw[hq] at h1 h2 h3 h4 h5 h6
    dsimp only at h1 h2 h3 h4 h5 h6
    cases o with
    | error e=>
     obtain⟨hav,_⟩:=h3 e rfl
     cases hav
    | ok r=>
     have hr:=h2 r rfl
     subst hr
     dsimp only
     have hcon:=consistent_part (es.take M) c.size (by omega) (by omega) (by omega)
     rw[hlen,List.take_take,Nat.min_eq_left hcM,←hc.root] at hcon
     rw[if_pos hcon]
     refine⟨rfl,rfl,⟨hM,rfl,fun x hx=>?_,remember_ok _ _ h5⟩,rfl,rfl,(remember_most _ _).trans h6,h4⟩
     rcases remember_mem _ _ _ hx with h7|h7
     ·exact h1.cache x h7
     ·exact h1.files x h7
omit hl hs hn
theorem updateP_cut (hcp:∀ data,fetchA n (sOf kCp)=some data→data=(cpOf (es.take c.size) c.key).data.toList∨data=(cpOf (es.take c.size) c.key).data.toList.dropLast) (hsz:c.size<9223372036854775808) :
  (updateP c n).2.1 = []∧(updateP c n).2.2=(c,fetchN n (sOf kCp))∧((updateP c n).1=tFine∨(updateP c n).1=(3,⟨#[]⟩)):=by
 have hlen:(es.take c.size).length=c.size:=by rw[List.length_take,Nat.min_eq_left hc.size]
 have e:(cpOf (es.take c.size) c.key).data.toList=signOf (es.take c.size).length (rootOf (es.take c.size)) c.key.data.toList:=rfl
 unfold updateP
 cases hf:fetchA n (sOf kCp) with
 | none=>exact⟨rfl,rfl,.inr rfl⟩
 | some data=>
  dsimp only
  rcases hcp data hf with h|h
  ·rw[h,e,checkGo_sign _ _ _ (by omega)]
   dsimp only
   rw[if_neg (by simp),Int.toNat_natCast,if_neg (by omega),if_pos hlen,if_pos hc.root.symm]
   exact⟨rfl,rfl,.inl rfl⟩
  ·rw[h,e,if_pos (check_short _ _ _ _)]
   exact⟨rfl,rfl,.inr rfl⟩
end
end
section
def nmT (N k j:Nat):ByteArray:=tileName ((k:Nat):Int) j (wideAt j (N / 4 ^ k))
theorem even_names {N L idx:Nat} {p:ByteArray} (h:p∈fullT N L idx):p=nmT N (L / 2) (idx*2 ^ L / 4 ^ (L / 2+1)):=by
 unfold fullT at h
 by_cases ho:L%2=1
 ·obtain⟨k,rfl⟩:∃ k,L=2*k+1:=⟨L / 2,by omega⟩
  rw[if_pos ho,show 2*k+1-1=2*k by omega] at h
  have e:idx*2 ^ (2*k+1) / 4 ^ ((2*k+1) / 2+1)=idx / 2:=by
   rw[show (2*k+1) / 2=k by omega,Nat.pow_succ,pow24,Nat.pow_succ,show 4 ^ k*4=(4 ^ k*2)*2 by omega,←Nat.div_div_eq_div_mul,Nat.mul_div_cancel _ (by have:=Nat.pow_pos (n:=k) (show 0<4 by decide);omega)]
  rw[e,show (2*k+1) / 2=k by omega]
  rcases List.mem_append.1 h with h|h
  ·unfold evenT at h
   rw[List.mem_singleton] at h
   rw[h,show 2*k / 2=k by omega,pow24,show 2*idx / 4=idx / 2 by omega]
   rfl
  ·unfold evenT at h
   rw[List.mem_singleton] at h
   rw[h,show 2*k / 2=k by omega,pow24,show (2*idx+1) / 4=idx / 2 by omega]
   rfl
 ·obtain⟨k,rfl⟩:∃ k,L=2*k:=⟨L / 2,by omega⟩
  rw[if_neg ho] at h
  have e:idx*2 ^ (2*k) / 4 ^ (2*k / 2+1)=idx / 4:=by
   rw[show 2*k / 2=k by omega,pow24,Nat.pow_succ,←Nat.div_div_eq_div_mul,Nat.mul_div_cancel _ (Nat.pow_pos (show 0<4 by decide))]
  unfold evenT at h
  rw[List.mem_singleton] at h
  rw[h,e,show 2*k / 2=k by omega,pow24]
  rfl
theorem pow_and (L:Nat):2 ^ L &&& (2 ^ L-1)=0:=by rw[Nat.and_two_pow_sub_one_eq_mod,Nat.mod_self]
theorem two_inj {a b:Nat} (h:2 ^ a=2 ^ b):a=b:=by
 have h1:=(Nat.pow_le_pow_iff_right (a:=2) (by decide)).1 (Nat.le_of_eq h)
 have h2:=(Nat.pow_le_pow_iff_right (a:=2) (by decide)).1 (Nat.le_of_eq h.symm)
 omega
theorem full_names {N f c L:Nat} {p:ByteArray} (hL:L≤60) (hc:c%2 ^ L=0) (h:p∈rootT N f c (2 ^ L)):p=nmT N (L / 2) (c / 4 ^ (L / 2+1)):=by
 cases f with
 | zero=>simp[rootT] at h
 | succ f=>
  have hp:=Nat.two_pow_pos L
  rw[rootT,if_pos ⟨pow_and L,hc⟩] at h
  have h64:2 ^ L<2 ^ 64:=Nat.pow_lt_pow_right (by decide) (by omega)
  have hb:=two_inj (pow_of_and hp h64 (pow_and L))
  rw[←hb] at h
  have:=even_names h
  rw[Nat.div_mul_cancel (Nat.dvd_of_mod_eq_zero hc)] at this
  exact this
theorem below_two {n:Nat} (h:2≤n) (h2:n<2 ^ 60):∃ x,below n=2 ^ x∧2 ^ x<n∧n≤2 ^ (x+1):=by
 have hb:=Lib.bitLenAux_bounds 64 (n-1) (by omega) (by omega)
 have hs:Lib.bitLen (n-1)=Lib.bitLenAux 64 (n-1):=rfl
 refine⟨Lib.bitLen (n-1)-1,rfl,?_,?_⟩
 ·rw[hs];omega
 ·rw[hs,show Lib.bitLenAux 64 (n-1)-1+1=Lib.bitLenAux 64 (n-1) by omega];omega
theorem mod_pow {a x y:Nat} (h:a%2 ^ y=0) (hx:x≤y):a%2 ^ x=0:=
 Nat.mod_eq_zero_of_dvd (Nat.dvd_trans (Nat.pow_dvd_pow 2 hx) (Nat.dvd_of_mod_eq_zero h))
theorem add_mod0 {a x:Nat} (h:a%2 ^ x=0):(a+2 ^ x)%2 ^ x=0:=by rw[Nat.add_mod_right];exact h
theorem last_tile {N c n e:Nat} (hn:N=c+n) (h1:2 ^ e≤n) (h2:n≤2 ^ (e+1)) (hc:c%2 ^ e=0) (hc2:2 ^ e<n→c%2 ^ (e+1)=0):c / 4 ^ (e / 2+1)=(N / 4 ^ (e / 2)-1) / 4:=by
 obtain⟨k,hk⟩:∃ k,k=e / 2:=⟨_,rfl⟩
 rw[←hk]
 have hp:0<4 ^ k:=Nat.pow_pos (by decide)
 rw[Nat.pow_succ,←Nat.div_div_eq_div_mul]
 rcases Nat.mod_two_eq_zero_or_one e with h0|h0
 ·obtain rfl:e=2*k:=by omega
  rw[pow24] at h1 hc hc2
  rw[Nat.pow_succ,pow24] at h2 hc2
  obtain⟨q,rfl⟩:=Nat.dvd_of_mod_eq_zero hc
  rw[Nat.mul_div_cancel_left _ hp]
  have hN:N / 4 ^ k=q+n / 4 ^ k:=by rw[hn,Nat.mul_add_div hp]
  rw[hN]
  have a1:1≤n / 4 ^ k:=(Nat.le_div_iff_mul_le hp).2 (by omega)
  have a2:n / 4 ^ k≤2:=by
   have:=Nat.div_le_div_right (c:=4 ^ k) h2
   rw[Nat.mul_div_cancel_left _ hp] at this
   exact this
  rcases Nat.lt_or_ge (4 ^ k) n with h3|h3
  ·have h4:=hc2 h3
   have h5:q%2=0:=by
    rw[Nat.mul_mod_mul_left] at h4
    rcases Nat.mul_eq_zero.1 h4 with h|h
    ·omega
    ·exact h
   omega
  ·have:n / 4 ^ k=1:=by rw[show n=4 ^ k by omega];exact Nat.div_self hp
   omega
 ·obtain rfl:e=2*k+1:=by omega
  rw[Nat.pow_succ,pow24] at h1 hc hc2
  rw[Nat.pow_succ,Nat.pow_succ,pow24] at h2 hc2
  obtain⟨q,rfl⟩:=Nat.dvd_of_mod_eq_zero hc
  have hq:4 ^ k*2*q / 4 ^ k=2*q:=by rw[Nat.mul_assoc,Nat.mul_div_cancel_left _ hp]
  rw[hq]
  have hN:N / 4 ^ k=2*q+n / 4 ^ k:=by rw[hn,Nat.mul_assoc,Nat.mul_add_div hp]
  rw[hN]
  have a1:2≤n / 4 ^ k:=(Nat.le_div_iff_mul_le hp).2 (by omega)
  have a2:n / 4 ^ k≤4:=by
   have:=Nat.div_le_div_right (c:=4 ^ k) h2
   rw[Nat.mul_assoc,Nat.mul_div_cancel_left _ hp] at this
   exact this
  rcases Nat.lt_or_ge (4 ^ k*2) n with h3|h3
  ·have h4:=hc2 h3
   have h5:q%2=0:=by
    rw[Nat.mul_mod_mul_left] at h4
    rcases Nat.mul_eq_zero.1 h4 with h|h
    ·omega
    ·exact h
   omega
  ·have:n / 4 ^ k=2:=by rw[show n=4 ^ k*2 by omega,Nat.mul_div_cancel_left _ hp]
   omega
def Named (N i K:Nat) (p:ByteArray):Prop:=∃ k,4 ^ k<K∧(p=nmT N k (i / 4 ^ (k+1))∨p=nmT N k ((N / 4 ^ k-1) / 4))
theorem four_le {k x:Nat} (h:k=x / 2):4 ^ k≤2 ^ x:=by rw[←pow24];exact Nat.pow_le_pow_right (by decide) (by omega)
theorem edge_names {N i K:Nat} (hK:K<2 ^ 59):∀ (f c n z:Nat) (p:ByteArray),N=c+n→1≤n→n<K→n≤2 ^ z→c%2 ^ z=0→p∈rootT N f c n→Named N i K p
 | 0,c,n,z,p,_,_,_,_,_,h=>by simp[rootT] at h
 | f+1,c,n,z,p,hN,h1,hk,hz,hc,h=>by
   by_cases hp:n &&& (n-1)=0∧c%n=0
   ·have hpw:=pow_of_and h1 (by omega) hp.1
    obtain⟨e,he⟩:∃ e,e=Lib.bitLen n-1:=⟨_,rfl⟩
    rw[←he] at hpw
    have he60:e≤60:=by
     rcases Nat.lt_or_ge 60 e with hlt|hge
     ·have:=Nat.pow_le_pow_right (n:=2) (by decide) hlt
      omega
     ·exact hge
    have hcn:=hp.2
    rw[hpw] at h hcn
    refine⟨e / 2,by have:=four_le (x:=e) rfl;omega,.inr ?_⟩
    rw[full_names he60 hcn h,last_tile hN (by omega) (by rw[Nat.pow_succ];omega) hcn fun hlt=>by omega]
   ·rw[rootT,if_neg hp] at h
    have hn2:2≤n:=by
     rcases Nat.lt_or_ge n 2 with hlt|hge
     ·obtain rfl:n=1:=by omega
      exact absurd ⟨by decide,Nat.mod_one c⟩ hp
     ·exact hge
    obtain⟨x,hx,hx1,hx2⟩:=below_two hn2 (by omega)
    have hxz:x+1≤z:=by
     have:2 ^ x<2 ^ z:=by omega
     exact (Nat.pow_lt_pow_iff_right (by decide)).1 this
    have hx60:x≤60:=by
     rcases Nat.lt_or_ge 60 x with hlt|hge
     ·have:=Nat.pow_le_pow_right (n:=2) (by decide) hlt
      omega
     ·exact hge
    have hc1:=mod_pow hc hxz
    have hc0:=mod_pow hc (show x≤z by omega)
    rw[hx] at h
    rcases List.mem_append.1 h with h|h
    ·refine⟨x / 2,by have:=four_le (x:=x) rfl;omega,.inr ?_⟩
     rw[full_names hx60 hc0 h,last_tile hN (by omega) hx2 hc0 fun _=>hc1]
    ·exact edge_names hK f (c+2 ^ x) (n-2 ^ x) x p (by omega) (by omega) (by omega) (by rw[Nat.pow_succ] at hx2;omega) (add_mod0 hc0) h
theorem same_tile {a s i x:Nat} (ha:a%2 ^ (x+1)=0) (h1:a≤s) (h2:s<a+2 ^ (x+1)) (h3:a≤i) (h4:i<a+2 ^ (x+1)):s / 4 ^ (x / 2+1)=i / 4 ^ (x / 2+1):=by
 obtain⟨y,hy⟩:∃ y,2*(x / 2+1)=x+1+y:=⟨2*(x / 2+1)-(x+1),by omega⟩
 have e:4 ^ (x / 2+1)=2 ^ (x+1)*2 ^ y:=by rw[←pow24,hy,Nat.pow_add]
 have hp:=Nat.two_pow_pos (x+1)
 obtain⟨q,rfl⟩:=Nat.dvd_of_mod_eq_zero ha
 have k:∀ t,2 ^ (x+1)*q≤t→t<2 ^ (x+1)*q+2 ^ (x+1)→t / 2 ^ (x+1)=q:=fun t t1 t2=>by
  apply Nat.div_eq_of_lt_le
  ·rw[Nat.mul_comm];exact t1
  ·rw[Nat.add_mul,Nat.one_mul,Nat.mul_comm q];exact t2
 rw[e,←Nat.div_div_eq_div_mul,←Nat.div_div_eq_div_mul,k s h1 h2,k i h3 h4]
theorem path_names {N i K:Nat} (hK:K<2 ^ 59) (hNK:N≤K):∀ (f a b y:Nat) (p:ByteArray),b-a≤f→a≤i→i<b→b≤N→a%2 ^ y=0→b-a≤2 ^ y→(b=N∨b-a=2 ^ y)→(∃ x∈pathR f a b i,p∈rootT N (x.2-x.1) x.1 (x.2-x.1))→Named N i K p
 | 0,a,b,y,p,h0,h1,h2,_,_,_,_,_=>by omega
 | f+1,a,b,y,p,h0,h1,h2,h3,ha,hy,hb,h=>by
   obtain⟨r,hr,hp⟩:=h
   rw[pathR] at hr
   by_cases h4:b-a≤1
   ·rw[if_pos h4] at hr;cases hr
   ·rw[if_neg h4] at hr
    obtain⟨x,hx,hx1,hx2⟩:=below_two (n:=b-a) (by omega) (by omega)
    rw[hx] at hr
    have hxy:x+1≤y:=by
     have:2 ^ x<2 ^ y:=by omega
     exact (Nat.pow_lt_pow_iff_right (by decide)).1 this
    have hx60:x≤60:=by
     rcases Nat.lt_or_ge 60 x with hlt|hge
     ·have:=Nat.pow_le_pow_right (n:=2) (by decide) hlt
      omega
     ·exact hge
    have hpx:=Nat.two_pow_pos x
    have hx2':2 ^ (x+1)=2*2 ^ x:=by rw[Nat.pow_succ];omega
    have hfull:b-a=2 ^ y→y=x+1:=fun e=>by
     have h5:2 ^ y≤2 ^ (x+1):=by omega
     have:=(Nat.pow_le_pow_iff_right (by decide)).1 h5
     omega
    have ha0:=mod_pow ha (show x≤y by omega)
    have ha1:=mod_pow ha hxy
    by_cases h5:i<a+2 ^ x
    ·rw[if_pos h5] at hr
     rcases List.mem_cons.1 hr with rfl|hr
     ·dsimp only at hp
      rcases hb with hb|hb
      ·exact edge_names hK _ (a+2 ^ x) (b-(a+2 ^ x)) x p (by omega) (by omega) (by omega) (by omega) (add_mod0 ha0) hp
      ·have hyx:=hfull hb
       subst hyx
       rw[show b-(a+2 ^ x)=2 ^ x by omega] at hp
       refine⟨x / 2,by have:=four_le (x:=x) rfl;omega,.inl ?_⟩
       rw[full_names hx60 (add_mod0 ha0) hp,same_tile ha1 (by omega) (by omega) h1 (by omega)]
     ·exact path_names hK hNK f a (a+2 ^ x) x p (by omega) h1 h5 (by omega) ha0 (by omega) (.inr (by omega)) ⟨r,hr,hp⟩
    ·rw[if_neg h5] at hr
     rcases List.mem_cons.1 hr with rfl|hr
     ·dsimp only at hp
      rw[show a+2 ^ x-a=2 ^ x by omega] at hp
      refine⟨x / 2,by have:=four_le (x:=x) rfl;omega,.inl ?_⟩
      rw[full_names hx60 ha0 hp,same_tile ha1 (Nat.le_refl _) (by omega) h1 (by omega)]
     ·refine path_names hK hNK f (a+2 ^ x) b x p (by omega) (by omega) h2 h3 (add_mod0 ha0) (by omega) ?_ ⟨r,hr,hp⟩
      rcases hb with hb|hb
      ·exact .inl hb
      ·have hyx:=hfull hb
       subst hyx
       exact .inr (by omega)
def namesU (N i:Nat):List ByteArray:=bunT N i :: (List.range 4).flatMap fun k=>[nmT N k (i / 4 ^ (k+1)),nmT N k ((N / 4 ^ k-1) / 4)]
theorem read_names {N i:Nat} (hN:N≤256) (hi:i<N) {p:ByteArray} (h:p∈readT N i):p∈namesU N i:=by
 rcases List.mem_cons.1 h with rfl|h
 ·exact List.mem_cons_self
 ·refine List.mem_cons_of_mem _ ?_
  obtain⟨x,hx,hp⟩:=List.mem_flatMap.1 h
  have hx:=List.mem_reverse.1 hx
  have hN9:N≤2 ^ 8:=by omega
  obtain⟨k,hk,hp⟩:=path_names (K:=256) (by decide) hN N 0 N 8 p (by omega) (by omega) hi (Nat.le_refl _) (by simp) (by omega) (.inl rfl) ⟨x,hx,hp⟩
  have hk4:k<4:=by
   rcases Nat.lt_or_ge k 4 with h|h
   ·exact h
   ·have:=Nat.pow_le_pow_right (n:=4) (by decide) h
    omega
  refine List.mem_flatMap.2 ⟨k,List.mem_range.2 hk4,?_⟩
  rcases hp with rfl|rfl
  ·exact List.mem_cons_self
  ·exact List.mem_cons_of_mem _ List.mem_cons_self
theorem nodup_sub {α:Type} [DecidableEq α]:∀ (l U:List α),l.Nodup→(∀ x∈l,x∈U)→l.length≤U.length
 | [],_,_,_=>Nat.zero_le _
 | a :: l,U,h,hs=>by
   rw[List.nodup_cons] at h
   have:=nodup_sub l (U.erase a) h.2 fun x hx=>(List.mem_erase_of_ne (fun e=>h.1 (by rw[←e];exact hx))).2 (hs x (List.mem_cons_of_mem _ hx))
   have ha:=hs a List.mem_cons_self
   have h2:=List.length_erase_of_mem ha
   have h3:=List.length_pos_of_mem ha
   rw[List.length_cons]
   omega
theorem read_few {N i:Nat} (hN:N≤256) (hi:i<N) (net:Nt) (c:Cch):(readQ N i (askQ net c)).2.files.length≤16:=by
 obtain⟨g,_⟩:=readQ_asks N i (askQ net c)
 have hn:=g.once (by simp[askQ])
 have:=nodup_sub _ (namesU N i) hn fun x hx=>by
  rcases g.only x (kvGet_isSome.2 hx) with h|h
  ·cases h
  ·exact read_names hN hi h
 rw[List.length_map] at this
 have e:(namesU N i).length=9:=by simp[namesU,List.range,List.range.loop]
 omega
end
section
structure Cost (k:Nat) (s s':Cs):Prop where
 files:s'.files.length≤s.files.length+k
 fetches:s'.net.fetches≤s.net.fetches+2*k
 items:s'.cache.items.length≤s.cache.items.length
theorem Cost.refl (s:Cs):Cost 0 s s:=⟨Nat.le_refl _,Nat.le_refl _,Nat.le_refl _⟩
theorem Cost.trans {j k:Nat} {a b c:Cs} (h:Cost j a b) (i:Cost k b c):Cost (j+k) a c:=
 ⟨by have:=h.files;have:=i.files;omega,by have:=h.fetches;have:=i.fetches;omega,Nat.le_trans i.items h.items⟩
theorem Cost.more {j k:Nat} {a b:Cs} (h:Cost j a b) (hk:j≤k):Cost k a b:=
 ⟨by have:=h.files;omega,by have:=h.fetches;omega,h.items⟩
def Costs {α:Type} (m:Qm α) (k:Nat):Prop:=∀ s,Cost k s (m s).2
theorem Costs.pure {α:Type} (a:α):Costs (Qm.pure a) 0:=fun s=>Cost.refl s
theorem Costs.bind {α β:Type} {m:Qm α} {f:α→Qm β} {j k:Nat} (h:Costs m j) (g:∀ a,Costs (f a) k):Costs (Qm.bind m f) (j+k):=fun s=>by
 have h1:=h s
 unfold Qm.bind
 cases hm:m s with
 | mk o s1=>
  rw[hm] at h1
  cases o with
  | ok a=>exact h1.trans (g a s1)
  | error e=>exact h1.more (Nat.le_add_right _ _)
theorem drop_len (l:List Kv) (p:ByteArray) (v:List UInt8) (h:kvGet l p=some v):(kvDrop l p).length+1≤l.length:=by
 have hm:=kvGet_mem h
 have:∀ (l:List Kv) (x:Kv),x∈l→x.1=p→(kvDrop l p).length+1≤l.length:=by
  intro l x hx he
  induction l with
  | nil=>cases hx
  | cons a l ih=>
   unfold kvDrop at ih ⊢
   rw[List.filter_cons]
   by_cases ha:a.1=p
   ·rw[if_neg (by simp[ha]),List.length_cons]
    exact Nat.succ_le_succ (List.length_filter_le _ _)
   ·rw[if_pos (by simp[ha]),List.length_cons,List.length_cons]
    rcases List.mem_cons.1 hx with h1|h1
    ·rw[h1] at he;exact absurd he ha
    ·exact Nat.succ_le_succ (ih h1)
 exact this l _ hm rfl
theorem cacheGet_less (c:Cch) (p:ByteArray):(cacheGet c p).items.length≤c.items.length:=by
 unfold cacheGet
 split
 ·rename_i v hv
  have:=drop_len _ _ _ hv
  simp only[List.length_cons]
  exact this
 ·exact Nat.le_refl _
theorem fetched_fetches (q:ByteArray) (s:Cs):(fetchedQ q s).net.fetches=s.net.fetches+1:=(fetchN_same s.net q).2.2
theorem fileQ_costs (fits:FitsF) (level:Int) (index count:Nat):Costs (fileQ fits level index count) 1:=fun s=>by
 unfold fileQ
 split
 ·exact (Cost.refl s).more (by decide)
 ·split
  ·exact⟨by simp[keepQ],Nat.le_add_right _ _,cacheGet_less _ _⟩
  ·unfold fetchQ
   have h1:∀ q,(fetchedQ q s).net.fetches=s.net.fetches+1:=fun q=>fetched_fetches q s
   have h2:∀ q q',(fetchedQ q' (fetchedQ q s)).net.fetches=s.net.fetches+1+1:=fun q q'=>by rw[fetched_fetches,fetched_fetches]
   split
   ·exact⟨by simp[keepQ,fetchedQ],by show (fetchedQ _ s).net.fetches≤_;rw[h1];omega,Nat.le_refl _⟩
   ·split
    ·exact⟨by simp[fetchedQ],by rw[h1];omega,Nat.le_refl _⟩
    ·split
     ·exact⟨by simp[keepQ,fetchedQ],by show (fetchedQ _ (fetchedQ _ s)).net.fetches≤_;rw[h2];omega,Nat.le_refl _⟩
     ·exact⟨by simp[fetchedQ],by rw[h2];omega,Nat.le_refl _⟩
theorem partQ_costs (b:List UInt8) (k:Nat):Costs (partQ b k) 0:=fun s=>by
 unfold partQ
 split <;> exact Cost.refl s
theorem evenQ_costs (n level index:Nat):Costs (evenQ n level index) 1:=(fileQ_costs _ _ _ _).bind (k:=0) fun b=>partQ_costs b _
theorem fullQ_costs (n level index:Nat):Costs (fullQ n level index) (fullT n level index).length:=by
 unfold fullQ fullT
 split
 ·exact (evenQ_costs _ _ _).bind (k:=1) fun a=>(evenQ_costs _ _ _).bind (k:=0) fun b=>Costs.pure _
 ·exact evenQ_costs _ _ _
theorem rootQ_costs (N:Nat):∀ (f i n:Nat),Costs (rootQ N f i n) (rootT N f i n).length
 | 0,_,_=>fun s=>Cost.refl s
 | f+1,i,n=>by
  rw[rootQ,rootT]
  split
  ·exact fullQ_costs _ _ _
  ·rw[List.length_append]
   exact (rootQ_costs N f _ _).bind fun a=>(rootQ_costs N f _ _).bind (k:=0) fun b=>Costs.pure _
theorem gatherQ_costs (N:Nat):∀ rs,Costs (gatherQ N rs) (gatherT N rs).length
 | []=>fun s=>Cost.refl s
 | x :: xs=>by
  rw[gatherQ]
  have e:(gatherT N (x :: xs)).length=(rootT N (x.2-x.1) x.1 (x.2-x.1)).length+(gatherT N xs).length:=by simp[gatherT]
  rw[e]
  exact (rootQ_costs N _ _ _).bind fun a=>(gatherQ_costs N xs).bind (k:=0) fun b=>Costs.pure _
theorem readQ_costs (N i:Nat):Costs (readQ N i) (readT N i).length:=by
 unfold readQ readT
 rw[List.length_cons,Nat.add_comm]
 refine (fileQ_costs _ _ _ _).bind fun b=>?_
 split
 ·exact fun s=>(Cost.refl s).more (Nat.zero_le _)
 ·exact (gatherQ_costs N _).bind (k:=0) fun p=>Costs.pure _
theorem fullT_len (n level index:Nat):(fullT n level index).length≤2:=by
 unfold fullT
 split <;> simp[evenT]
theorem rootT_len (N:Nat):∀ (f i n:Nat),1≤n→(rootT N f i n).length≤2*n
 | 0,_,_,_=>by simp[rootT]
 | f+1,i,n,h=>by
  rw[rootT]
  split
  ·have:=fullT_len N (Lib.bitLen n-1) (i / n)
   omega
  ·rename_i hn
   have h2:2≤n:=by
    rcases Nat.lt_or_ge n 2 with hlt|hge
    ·obtain rfl:n=1:=by omega
     exact absurd ⟨by decide,Nat.mod_one i⟩ hn
    ·exact hge
   have hb:=below_lt h2
   have h3:=rootT_len N f i (below n) (by omega)
   have h4:=rootT_len N f (i+below n) (n-below n) (by omega)
   rw[List.length_append]
   omega
theorem gatherT_len (N K:Nat):∀ rs:List (Nat×Nat),(∀ x∈rs,x.1<x.2∧x.2≤K)→(gatherT N rs).length≤rs.length*(2*K)
 | [],_=>by simp[gatherT]
 | x :: xs,h=>by
  have h1:=h x List.mem_cons_self
  have h2:=gatherT_len N K xs fun y hy=>h y (List.mem_cons_of_mem _ hy)
  have h3:=rootT_len N (x.2-x.1) x.1 (x.2-x.1) (by omega)
  have e:(gatherT N (x :: xs)).length=(rootT N (x.2-x.1) x.1 (x.2-x.1)).length+(gatherT N xs).length:=by simp[gatherT]
  rw[e,List.length_cons,Nat.add_mul]
  omega
theorem put_len (c:Cch) (p:ByteArray) (v:List UInt8):(cachePut c p v).items.length≤c.items.length+1:=by
 unfold cachePut
 split
 ·omega
 ·split
  ·simp only[List.length_cons]
   have:(kvDrop c.items p).length≤c.items.length:=List.length_filter_le _ _
   omega
  ·split
   ·simp only[List.length_cons,List.length_dropLast]
    omega
   ·simp
theorem remember_len:∀ (xs:List Kv) (c:Cch),(rememberQ c xs).items.length≤c.items.length+xs.length
 | [],c=>Nat.le_refl _
 | x :: xs,c=>by
  have h1:=remember_len xs (cachePut c x.1 x.2)
  have h2:=put_len c x.1 x.2
  rw[rememberQ,List.length_cons]
  omega
theorem below_half {n m:Nat} (h2:2≤n) (hm:n≤2 ^ m) (hm2:m≤63):∃ m2,m=m2+1∧below n≤2 ^ m2∧n-below n≤2 ^ m2:=by
 have hm0:m≠0:=fun e=>by subst e;simp at hm;omega
 obtain⟨m2,rfl⟩:∃ m2,m=m2+1:=⟨m-1,by omega⟩
 have h63:(2:Nat) ^ (m2+1)≤2 ^ 63:=Nat.pow_le_pow_right (by decide) hm2
 have hp:2 ^ (m2+1)=2*2 ^ m2:=by rw[Nat.pow_succ];omega
 rcases Nat.lt_or_ge n 9223372036854775808 with hlt|hge
 ·obtain⟨e,he,he2,h4,h5⟩:=bl_bd h2 hlt
  have hb:below n=2 ^ e:=by unfold below;rw[he];rfl
  have hem:e<m2+1:=(Nat.pow_lt_pow_iff_right (a:=2) (by decide)).1 (Nat.lt_of_lt_of_le h4 hm)
  have hle:2 ^ e≤2 ^ m2:=Nat.pow_le_pow_right (by decide) (by omega)
  exact⟨m2,rfl,by omega,by omega⟩
 ·have he:n=2 ^ 63:=by omega
  have hm63:m2=62:=by
   rcases Nat.lt_or_ge m2 62 with h|h
   ·have:(2:Nat) ^ (m2+1)≤2 ^ 62:=Nat.pow_le_pow_right (by decide) (by omega)
    omega
   ·omega
  subst hm63
  have hb:=below_lt h2
  refine⟨62,rfl,?_,?_⟩
  ·subst he
   decide
  ·subst he
   decide
theorem pathR_len:∀ (f mm a b i:Nat),b-a≤2 ^ mm→mm≤63→(pathR f a b i).length≤mm
 | 0,_,_,_,_,_,_=>Nat.zero_le _
 | f+1,mm,a,b,i,h,hm=>by
  unfold pathR
  by_cases h1:b-a≤1
  ·rw[if_pos h1];exact Nat.zero_le _
  ·rw[if_neg h1]
   obtain⟨m2,rfl,h2,h3⟩:=below_half (n:=b-a) (by omega) h hm
   split
   ·have:=pathR_len f m2 a (a+below (b-a)) i (by rw[Nat.add_sub_cancel_left];exact h2) (by omega)
    rw[List.length_cons];omega
   ·have:=pathR_len f m2 (a+below (b-a)) b i (by rw[←Nat.sub_sub];exact h3) (by omega)
    rw[List.length_cons];omega
theorem partR_len:∀ (f mm a b m:Nat),b-a≤2 ^ mm→mm≤63→a<m→(partR f a b m).length≤mm+1
 | 0,_,_,_,_,_,_,_=>Nat.zero_le _
 | f+1,mm,a,b,m,h,hm,ha=>by
  unfold partR
  by_cases h1:b≤m
  ·rw[if_pos h1];split <;> simp
  ·rw[if_neg h1]
   obtain⟨m2,rfl,h3,h4⟩:=below_half (n:=b-a) (by omega) h hm
   split
   ·have:=partR_len f m2 a (a+below (b-a)) m (by rw[Nat.add_sub_cancel_left];exact h3) (by omega) ha
    rw[List.length_cons];omega
   ·have:=partR_len f m2 (a+below (b-a)) b m (by rw[←Nat.sub_sub];exact h4) (by omega) (by omega)
    rw[List.length_cons];omega
theorem gatherQ_len (N:Nat):∀ (rs:List (Nat×Nat)) (s s':Cs) (l:List Hsh),gatherQ N rs s=(.ok l,s')→l.length=rs.length
 | [],s,s',l,h=>by
  simp only[gatherQ,Qm.pure,Prod.mk.injEq,Except.ok.injEq] at h
  rw[←h.1];rfl
 | x :: xs,s,s',l,h=>by
  unfold gatherQ Qm.bind at h
  cases hr:rootQ N (x.2-x.1) x.1 (x.2-x.1) s with
  | mk o s1=>
   rw[hr] at h
   cases o with
   | error e=>simp at h
   | ok a=>
    dsimp only at h
    cases hg:gatherQ N xs s1 with
    | mk o2 s2=>
     rw[hg] at h
     cases o2 with
     | error e=>simp at h
     | ok l2=>
      simp only[Qm.pure,Prod.mk.injEq,Except.ok.injEq] at h
      rw[←h.1,List.length_cons,List.length_cons,gatherQ_len N xs s1 s2 l2 hg]
theorem readT_small {N i:Nat} (hN:N≤8192) (hi:i<N):(readT N i).length≤220000:=by
 have h1:=pathR_len N 13 0 N i (by omega) (by decide)
 have h2:=gatherT_len N N (pathR N 0 N i).reverse fun x hx=>by
  have:=pathR_mem N 0 N i (by omega) (by omega) hi x (List.mem_reverse.1 hx)
  omega
 rw[List.length_reverse] at h2
 have h3:(pathR N 0 N i).length*(2*N)≤13*(2*8192):=Nat.mul_le_mul h1 (by omega)
 unfold readT
 rw[List.length_cons]
 omega
end
section
structure RdW0 (m:Wm) (L:Lg):Prop where
 log:m.l=some L
 live:L.failed=false
 failed:m.failed=false
 foreign:m.foreign=false
 ents:L.entries=lists m.es
 key:L.key=m.key
 quiet:Quiet m.d
 sound:Sound1 (lists m.es) L.put m.d
 short:∀ e∈lists m.es,e.length≤20
structure RdW (m:Wm) (L:Lg) (P:Nat):Prop extends RdW0 m L where
 pub:m.pub=P
 le:P≤(lists m.es).length
 has:DiskHas (lists m.es) P m.d.files
 cp:(P=0∧getF m.d.files (sOf kCp)=none)∨getF m.d.files (sOf kCp)=some (cpOf ((lists m.es).take P) m.key)
structure RdC (m:Wm) (P:Nat) (c:Cl):Prop where
 tr:TrueC (lists m.es) c
 le:c.size≤P
 has:DiskHas (lists m.es) c.size m.d.files
 key:c.key=m.key
theorem lists_snoc (es:List ByteArray) (s:ByteArray):lists (es ++ [s])=lists es ++ [s.data.toList]:=by simp[lists]
theorem lists_len (es:List ByteArray):(lists es).length=es.length:=by simp[lists]
theorem rdw0_more {m:Wm} {L:Lg} (h:RdW0 m L) {s:ByteArray} (hs:s.size≤20):RdW0 (moreW m L s) { L with entries:=L.entries ++ [s.data.toList],levels:=levels (L.entries ++ [s.data.toList]) } where
 log:=rfl
 live:=h.live
 failed:=h.failed
 foreign:=h.foreign
 ents:=by show L.entries++_=_;rw[lists_snoc,h.ents]
 key:=h.key
 quiet:=h.quiet
 sound:=by show Sound1 (lists (m.es ++ [s])) _ _;rw[lists_snoc];exact h.sound.append _
 short e he:=by
  have he':e∈lists (m.es ++ [s]):=he
  rw[lists_snoc,List.mem_append] at he'
  rcases he' with he|he
  ·exact h.short e he
  ·rw[List.mem_singleton.1 he];simpa using hs
theorem readP_fine {c:Cl} {n:Nt} {i:Nat} (hi:i<c.size) (hf:(readP c n i).1=tFine):∃ r,(readQ c.size i (askQ n c.cache)).1=.ok r∧readP c n i=(tFine,r,{ c with cache:=rememberQ (readQ c.size i (askQ n c.cache)).2.cache (readQ c.size i (askQ n c.cache)).2.files },(readQ c.size i (askQ n c.cache)).2.net):=by
 revert hf
 unfold readP
 rw[if_neg (by omega),Int.toNat_natCast]
 have no:∀ {a b:Nat} {x:ByteArray},a≠b→(a,x)=((b,⟨#[]⟩):Tld)→False:=fun hab e=>hab (congrArg Prod.fst e)
 rcases hq:readQ c.size i (askQ n c.cache) with ⟨r|r,s⟩
 ·cases r with
  | miss p=>intro hf;exact (no (by decide) hf).elim
  | panic=>intro hf;exact (no (by decide) hf).elim
 ·dsimp only
  split
  ·intro _;exact⟨r,rfl,rfl⟩
  ·intro hf;exact (no (by decide) hf).elim
section
variable {m:Wm} {L:Lg} (h:RdW0 m L) (hl:m.es.length≤1048576)
include h hl
theorem rdw_pub:RdW (pubW m L) { L with put:=(pubD L.entries L.key L.put m.d).2.1,failed:=(pubD L.entries L.key L.put m.d).2.2.isSome } m.es.length:=by
 have hq:=publish_quiet (es:=lists m.es) L.key (by rw[lists_len];exact hl) h.quiet h.sound
 rw[←h.ents] at hq
 obtain⟨q1,q2,q3,q4,q5,q6,q7,q8⟩:=hq
 have hen:lists m.es=L.entries:=h.ents.symm
 have hle:L.entries.length=m.es.length:=by rw[h.ents,lists_len]
 refine⟨⟨rfl,by show Option.isSome _=false;rw[q1];rfl,h.failed,rfl,h.ents,h.key,q2,?_,h.short⟩,rfl,?_,?_,.inr ?_⟩
 ·show Sound1 (lists m.es) _ _
  rw[hen];exact q3
 ·show m.es.length≤(lists m.es).length
  rw[lists_len];exact Nat.le_refl _
 ·show DiskHas (lists m.es) _ _
  rw[hen,←hle];exact q4
 ·show getF (pubD L.entries L.key L.put m.d).1.files (sOf kCp)=some (cpOf ((lists m.es).take m.es.length) m.key)
  rw[hen,←hle,List.take_length,←h.key];exact q5
theorem rdw_pub_cp:getF (pubW m L).d.files (sOf kCp)=some (cpOf (lists m.es) m.key):=by
 have hq:=publish_quiet (es:=lists m.es) L.key (by rw[lists_len];exact hl) h.quiet h.sound
 rw[←h.ents] at hq
 show getF (pubD L.entries L.key L.put m.d).1.files _=_
 rw[←h.ents,←h.key]
 exact hq.2.2.2.2.1
theorem rdw_noClash:NoClash (filesP L.entries) m.d.files:=by
 rw[h.ents]
 exact h.sound.true'.noClash (by rw[lists_len];exact hl)
theorem rdw_fine:(pubD L.entries L.key L.put m.d).2.2=none∧(pubD L.entries L.key L.put m.d).1.files.length≤m.d.files.length+12*(m.es.length+3)+1:=by
 have hq:=publish_quiet (es:=lists m.es) L.key (by rw[lists_len];exact hl) h.quiet h.sound
 rw[←h.ents] at hq
 refine⟨hq.1,?_⟩
 have:=hq.2.2.2.2.2.2.1
 rw[h.ents,lists_len] at this
 rw[h.ents]
 exact this
end
section
variable {m:Wm} {L:Lg} {P:Nat} (h:RdW m L P) (hl:m.es.length≤1048576)
include h hl
theorem rdw_true {n:Nt} (hn:n.files=m.d.files) (h0:n.lies = []):NetTrue (lists m.es) n:=
 netTrue_plain (by rw[lists_len];exact hl) h.short (by rw[hn];exact h.sound.true') h0
theorem rd_update {c:Cl} (k:RdC m P c) {n:Nt} (hn:n.files=m.d.files) (h0:n.lies = []) :
  SameN n (updateP c n).2.2.2∧(updateP c n).2.2.1.cache.most=c.cache.most∧RdC m P (updateP c n).2.2.1∧
   ((P=0∧getF m.d.files (sOf kCp)=none∧(updateP c n).1=(3,⟨#[]⟩)∧(updateP c n).2.1 = []∧(updateP c n).2.2.1.size=0)∨
       ((P=0→getF m.d.files (sOf kCp)≠none)∧(updateP c n).1=tFine∧(updateP c n).2.1=(if 0<c.size∧c.size<P then partOf c.size ((lists m.es).take P) true else [])∧(updateP c n).2.2.1.size=P)):=by
 have hle:(lists m.es).length≤1048576:=by rw[lists_len];exact hl
 have hnt:=rdw_true h hl hn h0
 have upd:∀ {x:ByteArray},getF m.d.files (sOf kCp)=some x→x=cpOf ((lists m.es).take P) m.key→SameN n (updateP c n).2.2.2∧(updateP c n).2.2.1.cache.most=c.cache.most∧RdC m P (updateP c n).2.2.1∧(updateP c n).1=tFine∧(updateP c n).2.1=(if 0<c.size∧c.size<P then partOf c.size ((lists m.es).take P) true else [])∧(updateP c n).2.2.1.size=P:=fun {x} hx he=>by
  obtain⟨u1,u2,u3,u4,u5,u6,u7⟩:=updateP_true hle h.short k.tr hnt (M:=P) h.le k.le (by rw[k.key,fetch_cp (by rw[hn];exact hx) h0,he]) (netHas_plain (by rw[hn];exact h.has) h0)
  exact⟨u7,u6,⟨u3,by rw[u4];exact Nat.le_refl _,by rw[u4];exact h.has,u5.trans k.key⟩,u1,u2,u4⟩
 rcases h.cp with ⟨hp,hc⟩|hc
 ·have hf:fetchA n (sOf kCp)=none:=by
   unfold fetchA
   rw[show lieOf n (sOf kCp)=none by unfold lieOf;rw[h0];rfl,hn,hc]
   rfl
  have hz:c.size=0:=by have:=k.le;omega
  have e:updateP c n=((3,⟨#[]⟩),[],c,fetchN n (sOf kCp)):=by unfold updateP;rw[hf]
  rw[e]
  exact⟨sameN_fetch _ _,rfl,k,.inl ⟨hp,hc,rfl,rfl,hz⟩⟩
 ·obtain⟨a1,a2,a3,a4,a5,a6⟩:=upd hc rfl
  exact⟨a1,a2,a3,.inr ⟨fun _ e=>(by rw[hc] at e;cases e),a4,a5,a6⟩⟩
theorem rd_read {c:Cl} (k:RdC m P c) {n:Nt} (hn:n.files=m.d.files) (h0:n.lies = []) {i:Nat} (hi:i<c.size) :
  SameN n (readP c n i).2.2.2∧RdC m P (readP c n i).2.2.1∧(readP c n i).2.2.1.size=c.size∧(readP c n i).2.2.1.cache.most=c.cache.most∧(readP c n i).1=tFine∧
   (readP c n i).2.1=((lists m.es).getD i [],pathOf ((lists m.es).take c.size) i)∧
   ((c.cache.most<16∨256<c.size∨(readP (readP c n i).2.2.1 (readP c n i).2.2.2 i).2.2.2.fetches=(readP c n i).2.2.2.fetches)∧
       (0<c.cache.most∨(readP c n i).2.2.2.fetches<(readP (readP c n i).2.2.1 (readP c n i).2.2.2 i).2.2.2.fetches)∧
       (1<c.cache.most∨c.size<2∨(readP c n i).2.2.2.fetches<(readP (readP c n i).2.2.1 (readP c n i).2.2.2 i).2.2.2.fetches)):=by
 have hle:(lists m.es).length≤1048576:=by rw[lists_len];exact hl
 have hcs:=k.tr.size
 have one:∀ (c:Cl) (k:RdC m P c) (n:Nt) (hn:n.files=m.d.files) (h0:n.lies = []) (hi:i<c.size),SameN n (readP c n i).2.2.2∧RdC m P (readP c n i).2.2.1∧(readP c n i).2.2.1.size=c.size∧(readP c n i).2.2.1.cache.most=c.cache.most∧(readP c n i).1=tFine∧
   (readP c n i).2.1=((lists m.es).getD i [],pathOf ((lists m.es).take c.size) i):=fun c k n hn h0 hi=>by
  obtain⟨u1,u2,u3,u4,u5,u6,u7⟩:=readP_true hle h.short k.tr (rdw_true h hl hn h0) hi (av:=true) (fun _=>netHas_plain (by rw[hn];exact k.has) h0)
  obtain⟨v1,v2⟩|⟨v,_⟩:=u7
  ·refine⟨u2,⟨u1,by rw[u4];exact k.le,by rw[u4];exact k.has,u3.trans k.key⟩,u4,u6,v1,?_⟩
   rw[v2]
   congr 1
   rw[List.getD_eq_getElem?_getD,List.getD_eq_getElem?_getD,List.getElem?_take_of_lt hi]
  ·cases v
 obtain⟨a1,a2,a3,a4,a5,a6⟩:=one c k n hn h0 hi
 refine⟨a1,a2,a3,a4,a5,a6,?_⟩
 obtain⟨r,hr,hre⟩:=readP_fine hi a5
 obtain⟨b1,b2,b3,b4⟩:=again k.tr.ok (by omega) hi hr
 have hi2:i<(readP c n i).2.2.1.size:=by rw[a3];exact hi
 obtain⟨_,_,_,_,e5,_⟩:=one _ a2 (readP c n i).2.2.2 (a1.2.trans hn) (a1.1.trans h0) hi2
 obtain⟨r2,hr2,hre2⟩:=readP_fine hi2 e5
 have hfew:=fun h256=>read_few (N:=c.size) (i:=i) h256 hi n c.cache
 rw[hre2,hre]
 dsimp only at b2 b3 b4 ⊢
 refine⟨?_,?_,?_⟩
 ·by_cases h1:c.cache.most<16
  ·exact .inl h1
  ·by_cases h2:256<c.size
   ·exact .inr (.inl h2)
   ·exact .inr (.inr (by rw[b2 (Nat.le_trans (hfew (by omega)) (by omega))]))
 ·rcases Nat.eq_zero_or_pos c.cache.most with h1|h1
  ·exact .inr (b3 h1)
  ·exact .inl h1
 ·by_cases h1:1<c.cache.most
  ·exact .inl h1
  ·by_cases h2:c.size<2
   ·exact .inr (.inl h2)
   ·exact .inr (.inr (b4 (by omega) (by omega)))
end
theorem rdw_new {m:Wm} {L:Lg} (key:ByteArray) (hL:m.l=some L) (hk:m.key=key) (hlk:L.key=key) (he:m.es = []) (hle:L.entries = []) (hlp:L.put = []) (hlf:L.failed=false) (hf:m.failed=false) (hfo:m.foreign=false) (hp:m.pub=0)
  (hq:Quiet m.d) (ht:m.d.turned=false) (hd:m.d.files = []):RdW m L 0 where
 toRdW0:=⟨hL,hlf,hf,hfo,by rw[hle,he];rfl,hlk.trans hk.symm,hq,by rw[he,hlp];exact sound_new m.d hd hq.dead hq.hit ht,fun e he'=>by rw[he] at he';simp[lists] at he'⟩
 pub:=hp
 le:=Nat.zero_le _
 has:=DiskHas.zero _ _
 cp:=.inl ⟨rfl,by rw[hd];rfl⟩
theorem rdc_new {m:Wm} (key:ByteArray) (hk:m.key=key) (P most:Nat):RdC m P ⟨key,0,hash [],⟨most,[]⟩⟩ where
 tr:=⟨Nat.zero_le _,by show hash []=rootOf (List.take 0 _);rw[List.take_zero];rfl,fun x hx=>by simp at hx,⟨List.nodup_nil,Nat.zero_le _⟩⟩
 le:=Nat.zero_le _
 has:=DiskHas.zero _ _
 key:=hk.symm
end
section
theorem quiet_mend (d:Dk):Quiet (mendD d):=⟨rfl,rfl,rfl⟩
theorem Quiet.calm {d d':Dk} {j:Nat} (h:Quiet d) (c:Calm j d d'):Quiet d':=⟨c.failAt.trans h.failAt,c.dead.trans h.dead,c.hit.trans h.hit⟩
theorem rdw0_open {d d':Dk} {j:Nat} {key:ByteArray} {ss:List ByteArray} (n:Int) (hq:Quiet d) (c:Calm j d d') (hT:DiskTrue (lists ss) d.files) (ho:Once d.files) (ht:d.turned=false) (hs:∀ e∈lists ss,e.length≤20) :
  RdW0 ⟨key,d',some ⟨key,lists ss,levels (lists ss),[],false⟩,ss,n,false,false⟩ ⟨key,lists ss,levels (lists ss),[],false⟩ where
 log:=rfl
 live:=rfl
 failed:=rfl
 foreign:=rfl
 ents:=rfl
 key:=rfl
 quiet:=hq.calm c
 sound:=⟨⟨(hq.calm c).dead,(hq.calm c).hit,c.turned.trans ht,by show Once d'.files;rw[c.files];exact ho⟩,by show DiskTrue _ d'.files;rw[c.files];exact hT,putOk_nil _ _⟩
 short:=hs
theorem opens_pub {es:List (List UInt8)} {l:List Fil} {key:ByteArray} (hl:es.length≤1048576) (hs:∀ e∈es,e.length≤20) (hT:DiskTrue es l) (hH:DiskHas es es.length l) (hc:getF l (sOf kCp)=some (cpOf es key)):OpensTo l key (.good es es.length):=by
 have hb:=hH.bun
 refine opens_all hl hs hT (by rw[List.take_length] at hb;exact hb) (Nat.le_refl _) hb ?_
 rw[List.take_length]
 exact head_cp hl hc
theorem survive_law {es0 more:List (List UInt8)} {key:ByteArray} {d:Dk} (hs:∀ e∈es0++more,e.length≤20) (hl:(es0++more).length≤1048576) (hT:DiskTrue es0 d.files) (hH:DiskHas es0 es0.length d.files) (hc:getF d.files (sOf kCp)=some (cpOf es0 key)) (hf:Fresh d) :
  (∃ k n,es0.length≤k∧k≤(es0++more).length∧OpensTo (pubD (es0++more) key [] d).1.files key (.good ((es0++more).take k) n)∧DiskTrue ((es0++more).take k) (pubD (es0++more) key [] d).1.files)∧
  Once (pubD (es0++more) key [] d).1.files∧(pubD (es0++more) key [] d).1.turned=false∧
  (((pubD (es0++more) key [] d).2.2=none∧(pubD (es0++more) key [] d).1.hit=false)∨∃ p,(pubD (es0++more) key [] d).2.2=some p∧(pubD (es0++more) key [] d).1.hit=true)∧
  (pubD (es0++more) key [] d).1.files.length≤d.files.length+12*((es0++more).length+3)+1∧(pubD (es0++more) key [] d).1.calls≤d.calls+12*((es0++more).length+3)+1:=by
 have hl0:es0.length≤(es0++more).length:=by rw[List.length_append];omega
 obtain⟨h1,h2,h3,_,h5,h6,h7⟩:=publish_law key hl hf ((hT.more more).noClash hl) (putOk_nil d.files (es0++more))
 have hb0:=hH.bun
 rw[List.take_length] at hb0
 obtain⟨k,k1,k2,k3,k4,k5,k6⟩:=publish_left (more:=more) (key:=key) hT hb0.some hc
 refine⟨?_,h2,h3,h7.imp (fun h=>⟨h.1,h.2.1.hit⟩) fun ⟨p,h⟩=>⟨p,h.1,h.2.1⟩,h5,h6⟩
 have hk:((es0++more).take k).length=k:=by rw[List.length_take];omega
 have hbk:HasBun ((es0++more).take k) (pubD (es0++more) key [] d).1.files:=by
  refine HasB.bun ?_ (by omega) k3
  rw[hk];exact k4
 have ht0:((es0++more).take k).take es0.length=es0:=by rw[List.take_take,Nat.min_eq_left k1,List.take_left]
 have hsk:∀ e∈(es0++more).take k,e.length≤20:=fun e he=>hs e (List.mem_of_mem_take he)
 rcases k6 with hcp|⟨hka,hcp⟩
 ·refine⟨k,es0.length,k1,k2,opens_all (by omega) hsk k3 hbk (by omega) ?_ ?_,k3⟩
  ·rw[ht0]
   have:=(hH.kept h1).bun
   rw[List.take_length] at this
   exact this
  ·rw[ht0];exact head_cp (by omega) hcp
 ·have e:((es0++more).take k).take (es0++more).length=(es0++more).take k:=List.take_of_length_le (by omega)
  have e2:(es0++more).take k=es0++more:=List.take_of_length_le (by omega)
  refine⟨k,(es0++more).length,k1,k2,opens_all (by omega) hsk k3 hbk (by omega) ?_ ?_,k3⟩
  ·rw[e];exact hbk
  ·rw[e,e2];exact head_cp hl hcp
section
variable {m:Wm} {L:Lg} {P:Nat} (h:RdW m L P) (hl:m.es.length≤1048576) {c:Cl} (k:RdC m P c) {n:Nt} (hn:n.files=m.d.files) (hc:∀ x∈n.lies,CutLie n.files x)
include h hl k hn hc
theorem heal_read {i:Nat} (hi:i<c.size) :
  SameN n (readP c n i).2.2.2∧RdC m P (readP c n i).2.2.1∧(readP c n i).2.2.1.size=c.size∧(readP c n i).2.2.1.cache.most=c.cache.most∧
   (((readP c n i).1=tFine∧(readP c n i).2.1=((lists m.es).getD i [],pathOf ((lists m.es).take c.size) i))∨(∃ p,(readP c n i).1=(6,p)∧(readP c n i).2.1=([],[]))):=by
 have hle:(lists m.es).length≤1048576:=by rw[lists_len];exact hl
 obtain⟨u1,u2,u3,u4,u5,u6,u7⟩:=readP_true hle h.short k.tr (netTrue_cut hle h.short (by rw[hn];exact h.sound.true') hc) hi (av:=false) (fun e=>by cases e)
 refine⟨u2,⟨u1,by rw[u4];exact k.le,by rw[u4];exact k.has,u3.trans k.key⟩,u4,u6,?_⟩
 rcases u7 with ⟨v1,v2⟩|⟨_,p,v1,v2⟩
 ·left
  refine⟨v1,?_⟩
  rw[v2]
  congr 1
  rw[List.getD_eq_getElem?_getD,List.getD_eq_getElem?_getD,List.getElem?_take_of_lt hi]
 ·exact .inr ⟨p,v1,v2⟩
theorem heal_update (hs:c.size=P) (hcp:getF m.d.files (sOf kCp)=some (cpOf ((lists m.es).take P) m.key)) :
  (updateP c n).2.1 = []∧(updateP c n).2.2=(c,fetchN n (sOf kCp))∧((updateP c n).1=tFine∨(updateP c n).1=(3,⟨#[]⟩)):=by
 have hle:(lists m.es).length≤1048576:=by rw[lists_len];exact hl
 have hcs:=k.tr.size
 refine updateP_cut k.tr (fun data hd=>?_) (by omega)
 obtain⟨b,hb,hdb⟩:=fetch_cut hc hd
 rw[hn] at hb
 have hg:=once_get h.sound.fresh.once hb
 rw[hcp] at hg
 rw[hs,k.key]
 rw[←Option.some.inj hg] at hdb
 exact hdb
end
end
section
theorem open_empty (key:ByteArray):OpensTo [] key (.good [] 0):=
 opens_all (es:=[]) (n:=0) (by simp) (fun e he=>by simp at he) (DiskTrue.nil _) (fun j hj=>by simp at hj) (Nat.le_refl _) (fun j hj=>by simp at hj) (head_none rfl)
end
section
structure KpIs (w:World) (p:Pl) (m:Wm) (L:Lg):Prop where
 disk:DiskAt w p.gd p.v m.d
 pl:PlIs w p.gl p.g
 log:LogIs w p.g p.gd p.ve p.vl p.vp p.vs L
def kpS (p:Pl) (k:Nat):Prop:=k=p.gl∨bothS p.g p.gd p.v p.ve p.vl p.vp p.vs k
theorem KpIs.below {w w':World} {p:Pl} {m:Wm} {L:Lg} (h:KpIs w p m L) (hb:Below w.heap.size w w'):KpIs w' p m L:=
 ⟨h.disk.below hb,(hb.block _ (lt_of_heap h.pl)).trans h.pl,h.log.below hb⟩
theorem KpIs.kinds {w:World} {p:Pl} {m:Wm} {L:Lg} (h:KpIs w p m L):Kinds w (kpS p) ([93]++([41,73]++logTs)):=(kinds_one h.pl).or ((kinds_disk h.disk).or (kinds_log h.log))
structure KpSt (w0 w:World) (k:Nat) (key:ByteArray) (p:Pl) (m:Wm) (L:Lg):Prop where
 is:KpIs w p m L
 rdw:RdW0 m L
 mkey:m.key=key
 good:∃ U,U.length≤k∧Good m U ((k+1)*2097152)
 few:m.es.length≤k
 below:Below w0.heap.size w0 w
 new:∀ i,kpS p i→w0.heap.size≤i
def KpNext (w0 w:World) (k:Nat) (key:ByteArray) (p:Pl) (m':Wm) (e0 e:Ending) (w':World):Prop:=
 e=e0∧∃ p' L',p'.gl=p.gl∧p'.gd=p.gd∧KpSt w0 w' k key p' m' L'∧Fr (kpS p) w w'
section
variable {F:Nat→Addr} {w0 w:World} {k:Nat} {key:ByteArray} {p:Pl} {m:Wm} {L:Lg}
theorem KpSt.grow (h:KpSt w0 w k key p m L) {w':World} (hb:Below w.heap.size w w'):KpSt w0 w' k key p m L:=
 ⟨h.is.below hb,h.rdw,h.mkey,h.good,h.few,h.below.trans (hb.mono h.below.size),h.new⟩
theorem KpSt.told (h:KpSt w0 w k key p m L) {tb:Nat} {n:Int} {s:ByteArray} (ht:ToldAt' w tb n s) (htb:w0.heap.size≤tb) {w':World} (hf:Fr (·=tb) w w'):KpSt w0 w' k key p m L:=by
 have hk:=kinds_one ht
 exact⟨⟨h.is.disk.kept hf hk (by decide) (by decide),heap_kept h.is.pl hf hk (by decide),h.is.log.kept hf hk (by decide) (by decide)⟩,h.rdw,h.mkey,h.good,h.few,h.below.trans (hf.below h.below.size fun i hi e=>by omega),h.new⟩
theorem KpSt.turn (h:KpSt w0 w k key p m L) {w':World} {p':Pl} {m':Wm} {L':Lg} {U:List Nat} (hi:KpIs w' p' m' L') (hr:RdW0 m' L') (hk:m'.key=m.key) (hU:U.length≤k+1) (hG:Good m' U ((k+1+1)*2097152)) (hl:m'.es.length≤k+1)
  (hf:Fr (kpS p) w w') (hs:Sub w (kpS p) (kpS p')):KpSt w0 w' (k+1) key p' m' L':=by
 have hz:=h.below.size
 refine⟨hi,hr,hk.trans h.mkey,⟨U,hU,hG⟩,hl,h.below.trans (hf.below hz fun i hi hj=>by have:=h.new i hj;omega),fun i hi=>?_⟩
 rcases hs i hi with e|e
 ·exact h.new i e
 ·omega
theorem KpSt.append (h:KpSt w0 w k key p m L) (hk:k≤8000) (hn:NumEnv w0) (hS:Sents w0 F) (hT:ErrT w0) (s:ByteArray) (hs:s.size≤20) :
  Calls prog 12 #[.pointer (some ⟨p.gl,0,none⟩),.string s] w (KpNext w0 w (k+1) key p (moreW m L s) (.returned (.tuple #[.int .i64 m.es.length,toldV 0 ⟨#[]⟩]))):=by
 obtain⟨U,hU,hG⟩:=h.good
 obtain⟨_,_,hen,hlv,hfl,_⟩:=hG.run L h.rdw.log
 have hlen:L.entries.length=m.es.length:=by rw[hen,lists_len]
 have hfew:=h.few
 have hc:=pappend_any F w p.gl p.g p.gd p.ve p.vl p.vp p.vs L s h.is.pl h.is.log (envS_of h.below hn hS hT fun i hi=>h.new i (.inr (.inr hi))) hlv (by omega)
 refine hc.mono fun e w' hq=>?_
 unfold pappPost at hq
 rw[if_neg (by simp;exact hs),if_neg (by rw[h.rdw.live];simp)] at hq
 obtain⟨he,ve',vl',vs',hl',hf,hsub⟩:=hq
 have hkl:=kinds_log h.is.log
 have hF:Fr (kpS p) w w':=hf.weak fun i _ hi=>.inr (.inr hi)
 refine⟨by rw[←hlen];exact he,{ p with ve:=ve',vl:=vl',vs:=vs' },_,rfl,rfl,h.turn (U:=L.entries.length / 4 :: U) ⟨h.is.disk.kept hf hkl (by decide) (by decide),heap_kept h.is.pl hf hkl (by decide),hl'⟩ (rdw0_more h.rdw hs) rfl (by rw[List.length_cons];omega) ((good_append hG h.rdw.log h.rdw.failed hs).bound (by omega)) ?_ hF ?_,hF⟩
 ·show (m.es ++ [s]).length≤k+1
  rw[List.length_append]
  simp
  omega
 ·intro i hi
  rcases hi with hi|hi|hi
  ·exact .inl (.inl hi)
  ·exact .inl (.inr (.inl hi))
  ·exact (hsub i hi).imp (fun e=>.inr (.inr e)) id
theorem KpSt.publish (h:KpSt w0 w k key p m L) (hk:k≤8000) (hn:NumEnv w0) (hS:Sents w0 F) (hT:ErrT w0) (hkey:key.size≤9223372036854775807) :
  Calls prog 15 #[.pointer (some ⟨p.gl,0,none⟩)] w (KpNext w0 w (k+1) key p (pubW m L) (.returned (.tuple #[.int .i64 m.es.length,toldV 0 ⟨#[]⟩]))):=by
 obtain⟨U,hU,hG⟩:=h.good
 obtain⟨_,hmk,hen,hlv,hfl,hky⟩:=hG.run L h.rdw.log
 have hlen:L.entries.length=m.es.length:=by rw[hen,lists_len]
 have hfew:=h.few
 have hes:m.es.length≤1048576:=by omega
 have h1:=hG.sane.calls
 have h2:=hG.sane.len
 have hc:=ppublish_any F w p.gl p.g p.gd p.v p.ve p.vl p.vp p.vs m.d L h.is.pl h.is.log h.is.disk (envS_of h.below hn hS hT fun i hi=>h.new i (.inr hi)) hlv (by omega) (by rw[hen];exact h.rdw.short) hmk (by omega) (by omega) (by rw[hky,h.mkey];exact hkey)
 refine hc.mono fun e w' hq=>?_
 unfold ppubPost at hq
 rw[if_neg (by rw[h.rdw.live];simp)] at hq
 obtain⟨v',vp',Q,hQ,hD,hL,hf,hsub,hend⟩:=hq
 have hnone:=(rdw_fine h.rdw hes).1
 subst hQ
 have he:e=.returned (.tuple #[.int .i64 L.entries.length,toldV 0 ⟨#[]⟩]):=by
  rcases hend with ⟨_,e1⟩|⟨q,e1,_⟩
  ·exact e1
  ·rw[hnone] at e1;cases e1
 have hGp:=good_publish hG (by omega) h.rdw.log h.rdw.failed (rdw_noClash h.rdw hes) m.es.length false
 have hGp2:Good (pubW m L) U ((k+1+1)*2097152):=by
  rw[hnone] at hGp
  refine (Good.bound ?_ (show (k+1)*2097152+1048576≤(k+1+1)*2097152 by omega))
  unfold pubW
  rw[hnone,h.rdw.failed]
  exact hGp
 have hF:Fr (kpS p) w w':=hf.weak fun i _ hi=>.inr hi
 refine⟨by rw[←hlen];exact he,{ p with v:=v',vp:=vp' },_,rfl,rfl,h.turn (U:=U) ⟨hD,?_,hL⟩ (rdw_pub h.rdw hes).toRdW0 rfl (by omega) hGp2 (by show m.es.length≤k+1;omega) hF ?_,hF⟩
 ·exact heap_kept h.is.pl hf ((kinds_disk h.is.disk).or (kinds_log h.is.log)) (by decide)
 ·intro i hi
  rcases hi with hi|hi
  ·exact .inl (.inl hi)
  ·exact (hsub i hi).imp (fun e=>.inr e) id
end
def KpOpened (w:World) (gd:Nat) (v:Value) (d:Dk) (key:ByteArray) (ss:List ByteArray) (n:Nat) (e:Ending) (w':World):Prop:=
 ∃ p d' j,e=.returned (.tuple #[.pointer (some ⟨p.gl,0,none⟩),toldV 0 ⟨#[]⟩])∧p.gd=gd∧p.v=v∧Calm j d d'∧KpIs w' p ⟨key,d',some ⟨key,lists ss,levels (lists ss),[],false⟩,ss,n,false,false⟩ ⟨key,lists ss,levels (lists ss),[],false⟩∧Fr (·=gd) w w'∧(∀ i,kpS p i→dkS gd v i∨w.heap.size≤i)∧j≤2097152
theorem kp_open {F:Nat→Addr} {w:World} {gd:Nat} {v:Value} {d:Dk} {key:ByteArray} {ss:List ByteArray} {n:Nat} {U:List Nat} {K:Nat} (hD:DiskAt w gd v d) (hE:EnvS F (·=gd) w) (hq:Quiet d) (hs:Sane d U K) (hU:U.length≤16384) (hK:K<900000000000) (hkey:key.size≤9223372036854775807) (ho:OpensTo d.files key (.good (lists ss) n)) :
  Calls prog 10 #[.pointer (some ⟨gd,0,none⟩),.string key] w (KpOpened w gd v d key ss n):=by
 have hcl:=hs.calls
 refine (popen_any F w gd v d key hD U.length hE (hs.few (by omega)) (by omega) (by omega) hs.size hkey).mono fun e w' hp=>?_
 obtain⟨d',hD',hf,h1|h1|h1⟩:=hp
 ·exfalso
  obtain⟨_,h2,_⟩:=h1
  have:=h2.why
  rw[hq.dead,hq.failAt] at this
  simp at this
 ·obtain⟨j,q,_,h2,_⟩:=h1
  exact absurd (h2.one ho) (by simp)
 ·obtain⟨es,n',gl,g,hc,h2,he,hpl,hgl,ve,vl,vs,hl,hg,hls⟩:=h1
  have e1:=h2.one ho
  simp only[Opn.good.injEq] at e1
  obtain⟨rfl,rfl⟩:=e1
  refine⟨⟨0,gd,v,.slice none 0 0,gl,g,ve,vl,.slice none 0 0,vs⟩,d',_,he,rfl,rfl,hc,⟨hD',hpl,hl⟩,hf,fun i hi=>?_,by omega⟩
  rcases hi with hi|hi|hi
  ·have:i=gl:=hi
   exact .inr (by omega)
  ·exact .inl hi
  ·exact .inr (hls i hi)
theorem kp_new {w0 w w':World} {gd:Nat} {v:Value} {key:ByteArray} {p:Pl} {d':Dk} {j:Nat} (hb:Below w0.heap.size w0 w) (hg:w0.heap.size≤gd) (hv:∀ i,v.ownBlock=some i→w0.heap.size≤i) (hc:Calm j (dk0 (firsts [])) d') (hj:j≤2097152)
  (hk:KpIs w' p ⟨key,d',some ⟨key,lists [],levels (lists []),[],false⟩,[],0,false,false⟩ ⟨key,lists [],levels (lists []),[],false⟩) (hf:Fr (·=gd) w w') (hS:∀ i,kpS p i→dkS gd v i∨w.heap.size≤i) :
  KpSt w0 w' 0 key p ⟨key,d',some ⟨key,lists [],levels (lists []),[],false⟩,[],0,false,false⟩ ⟨key,lists [],levels (lists []),[],false⟩:=by
 have hG0:Good ⟨key,dk0 (firsts []),none,[],0,false,false⟩ [] 0:=⟨sane_new (l:=[]) (Nat.le_refl _) (fun f hf=>by simp at hf),fun L hL=>by cases hL⟩
 have hq:Quiet (dk0 (firsts [])):=⟨rfl,rfl,rfl⟩
 have hG1:=good_open (d':=d') (k:=j) (ss:=[]) (n:=0) hG0 (by simp) hc (open_empty key) false
 have hz:=hb.size
 refine⟨hk,(rdw_new key rfl rfl rfl rfl rfl rfl rfl rfl rfl rfl (hq.calm hc) hc.turned hc.files).toRdW0,rfl,⟨[],Nat.le_refl _,hG1.bound (by omega)⟩,Nat.zero_le _,hb.trans (hf.below hz fun i hi e=>by omega),fun i hi=>?_⟩
 rcases hS i hi with (e|e)|e
 ·omega
 ·exact hv i e
 ·omega
theorem quiet_mendD {d:Dk} (h:Quiet d):mendD d=d:=by
 obtain⟨a,b,c⟩:=h
 cases d
 simp only at a b c
 subst a b c
 rfl
theorem kp_reopen {F:Nat→Addr} {w0 w:World} {k:Nat} {key:ByteArray} {gd:Nat} {v:Value} {m:Wm} {ss:List ByteArray} {n:Nat} {U:List Nat} (hD:DiskAt w gd v m.d) (hb:Below w0.heap.size w0 w) (hn:NumEnv w0) (hS:Sents w0 F) (hT:ErrT w0) (hdn:∀ i,dkS gd v i→w0.heap.size≤i) (hq:Quiet m.d) (hk:k≤8000) (hU:U.length≤k) (hG:Good m U ((k+1)*2097152)) (hmk:m.key=key) (hkey:key.size≤9223372036854775807)
  (ho:OpensTo m.d.files key (.good (lists ss) n)) (hT2:DiskTrue (lists ss) m.d.files) (hs:∀ e∈lists ss,e.length≤20) (hl:ss.length≤k+1) :
  Calls prog 10 #[.pointer (some ⟨gd,0,none⟩),.string key] w fun e w'=>∃ p d' j,e=.returned (.tuple #[.pointer (some ⟨p.gl,0,none⟩),toldV 0 ⟨#[]⟩])∧p.gd=gd∧p.v=v∧Calm j m.d d'∧KpSt w0 w' (k+1) key p ⟨key,d',some ⟨key,lists ss,levels (lists ss),[],false⟩,ss,n,false,false⟩ ⟨key,lists ss,levels (lists ss),[],false⟩∧Fr (·=gd) w w':=by
 refine (kp_open hD (envS_of hb hn hS hT fun i hi=>hdn i (.inl hi)) hq hG.sane (by omega) (by omega) hkey ho).mono fun e w' h=>?_
 obtain⟨p,d',j,he,h1,h2,hc,hi,hf,hnew,hj⟩:=h
 have hGo:=good_open (ss:=ss) (n:=n) hG (by omega) (by rw[quiet_mendD hq];exact hc) (by rw[hmk];exact ho) false
 rw[hmk] at hGo
 have hz:=hb.size
 refine⟨p,d',j,he,h1,h2,hc,⟨hi,rdw0_open n hq hc hT2 hG.sane.once hG.sane.turned hs,rfl,⟨U,by omega,hGo.bound (by omega)⟩,hl,hb.trans (hf.below hz fun i hi e=>by have:=hdn i (.inl e);omega),fun i hi=>?_⟩,hf⟩
 rcases hnew i hi with e|e
 ·exact hdn i e
 ·omega
end
section
def pickN (c:Int) (n:Nat):Nat:=(if c<0 then -(c+1) else c).toNat%n
theorem pickN_lt (c:Int) {n:Nat} (hn:0<n):pickN c n<n:=Nat.mod_lt _ hn
theorem fault_int (w:World) (g:Nat) (v:Value) (d:Dk) (h:DiskAt w g v d) (a:Nat) (ai:Int) (ha:ai=(a:Int)) (half once:Bool) (hc:d.calls<1099511627776) (hb:a<1099511627776) :
  Calls prog 13 #[.pointer (some ⟨g,0,none⟩),.int .i64 ai,.bool half,.bool once] w fun e w'=>e=.returned (.tuple #[])∧DiskAt w' g v (faultD d a half once)∧Fr (·=g) w w':=by
 subst ha
 exact fault_any w g v d h a half once hc hb
end
section
theorem kpick_any (c:Int) (n:Nat) (w:World) (hc1 : -9223372036854775808≤c) (hc2:c≤9223372036854775807) (hn:0<n) (hn2:n≤1073741824):Calls prog 14 #[.int .i64 c,.int .i64 n] w fun e w'=>e=.returned (.int .i64 (pickN c n))∧w=w':=by
 by_cases h0:c<0
 ·have hv:(-(c+1))%(n:Int)=((pickN c n:Nat):Int):=by
   unfold pickN
   rw[if_pos h0]
   obtain⟨k,hk⟩:∃ k:Nat,-(c+1)=(k:Int):=⟨(-(c+1)).toNat,by omega⟩
   rw[hk,Int.toNat_natCast]
   rfl
  have hb1:0≤-(c+1):=by omega
  have hnz:((n:Int) == 0)=false:=by rw[beq_eq_false_iff_ne];omega
  have hnz2:¬ (n:Int)=0:=by omega
  have HV:=zh hv
  clear hv
  go_enter func14,ntmps14
  go_wp2
  go_ret
  refine⟨?_,rfl⟩
  rw[←HV.o]
  show Ending.returned (.int .i64 (-((c+1).tmod (n:Int))))=_
  rw[←Int.neg_tmod,Int.tmod_eq_emod_of_nonneg hb1]
 ·have hv:c%(n:Int)=((pickN c n:Nat):Int):=by
   unfold pickN
   rw[if_neg h0]
   obtain⟨k,hk⟩:∃ k:Nat,c=(k:Int):=⟨c.toNat,by omega⟩
   rw[hk,Int.toNat_natCast]
   rfl
  have hnz:((n:Int) == 0)=false:=by rw[beq_eq_false_iff_ne];omega
  have hnz2:¬ (n:Int)=0:=by omega
  have hc0:0≤c:=by omega
  have HV:=zh hv
  clear hv
  go_enter func14,ntmps14
  go_wp2
  go_ret
  refine⟨?_,rfl⟩
  rw[←HV.o]
  first|rfl|(congr 2;omega)|(simp;omega)
def shortS (s:ByteArray):ByteArray:=if 20<s.size then s.extract 0 20 else s
theorem shortS_size (s:ByteArray):(shortS s).size≤20:=by
 unfold shortS
 split
 ·rw[ByteArray.size_extract];omega
 ·omega
theorem shorts_succ {ss:List ByteArray} {k:Nat} {s:ByteArray} (h:ss[k]?=some s):(ss.take (k+1)).map shortS=(ss.take k).map shortS ++ [shortS s]:=by
 rw[List.take_add_one,h,List.map_append]
 rfl
theorem short_any (v:Value) (ss:List ByteArray) (w:World) (h:StrsAt w v ss) (hn:ss.length≤1048576) :
  Calls prog 8 #[v] w fun e w'=>∃ v',e=.returned v'∧OwnStrs w' w.heap.size v' (ss.map shortS)∧Below w.heap.size w w':=by
 obtain⟨a,c,rfl,hcap,hc⟩:=h
 have HC:=zh hc
 clear hc
 obtain⟨i0,hi,hz0,hz1,hz2⟩:=info_parts info_str
 go_enter func8,ntmps8
 go_wp2
 go_loopw [3,4] (fun v i wr=>∃ k:Nat,k≤ss.length∧i=.int .i64 k∧OwnStrs wr w.heap.size v ((ss.take k).map shortS)∧Below w.heap.size w wr) (fun _ i _=>ss.length-(intOf i).toNat)
 case atStart=>exact⟨0,by omega,rfl,World.ownsRow_nil _ _ _ _,Below.refl _ _⟩
 case round=>
  obtain⟨k,hk,rfl,hown,hbel⟩:=hrel
  by_cases hlt:k<ss.length
  ·obtain⟨s,hs⟩:∃ s,ss[k]?=some s:=⟨_,List.getElem?_eq_getElem hlt⟩
   obtain⟨b,off,rfl,hcell0⟩:=HC.o k (.string s) (by simp[hs])
   have hcell:wr.cell? ⟨b,off+k,none⟩=some (.string s):=(hbel.cell (p:=⟨b,off+k,none⟩) (cell_lt hcell0)).trans hcell0
   have HLEN:=zh (show ((ss.take k).map shortS).length=k by rw[List.length_map,List.length_take];omega)
   have HK:=zh hs
   unfold OwnStrs at hown
   have HR:=zh hown
   have HB:=zh hbel
   clear hs hcell0 hown hbel
   by_cases h20:20<s.size
   ·have hz:(20:Int)<(s.size:Int):=by omega
    obtain⟨t,ht⟩:∃ t,t=s.extract 0 20:=⟨_,rfl⟩
    have HT:=zh (show shortS s=t by unfold shortS;rw[if_pos h20,ht])
    have HT2:=zh ht
    clear ht
    go_wp2_with (at_builtin;refine wpList_app1 rfl _ _ 22 rfl w.heap.size 9 i0 (.string ⟨#[]⟩) 16 underlying22 hi hz0 hz1 hz2 rfl (by decide) _ _ _ rfl HR.o _ rfl rfl (by have:=HLEN.o;omega) HB.o.size ?_;intro v2 w2 hr2 hg2 hne2;have HR2:=zh hr2;have HG2:=zh hg2;clear hr2 hg2 hne2)
    go_roundw
    case rel=>
     refine⟨k+1,by omega,by go_num,?_,?_⟩
     ·rw[shorts_succ HK.o,HT.o,HT2.o]
      unfold OwnStrs
      simpa using HR2.o
     ·exact HB.o.grown HG2.o HB.o.size (fun j hj=>(HR.o.lt j hj).1)
    case measure=>simp[intOf];omega
   ·have hz:¬ (20:Int)<(s.size:Int):=by omega
    have HT:=zh (show shortS s=s by unfold shortS;rw[if_neg h20])
    go_wp2_with (at_builtin;refine wpList_app1 rfl _ _ 22 rfl w.heap.size 9 i0 (.string ⟨#[]⟩) 16 underlying22 hi hz0 hz1 hz2 rfl (by decide) _ _ _ rfl HR.o _ rfl rfl (by have:=HLEN.o;omega) HB.o.size ?_;intro v2 w2 hr2 hg2 hne2;have HR2:=zh hr2;have HG2:=zh hg2;clear hr2 hg2 hne2)
    go_roundw
    case rel=>
     refine⟨k+1,by omega,by go_num,?_,?_⟩
     ·rw[shorts_succ HK.o,HT.o]
      unfold OwnStrs
      simpa using HR2.o
     ·exact HB.o.grown HG2.o HB.o.size (fun j hj=>(HR.o.lt j hj).1)
    case measure=>simp[intOf];omega
  ·have ht:ss.take k=ss:=List.take_of_length_le (by omega)
   rw[ht] at hown
   go_wp2
   go_ret
   exact⟨_,rfl,hown,hbel⟩
end
end Go.Proofs.YtefccfakhgdfbabGreatDoor
