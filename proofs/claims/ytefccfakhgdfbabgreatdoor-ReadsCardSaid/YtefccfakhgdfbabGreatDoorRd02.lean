/- What publishing leaves in a store that does not clash: plain. No conditions. -/
import Derived.Test.YtefccfakhgdfbabGreatDoorRd01
import Derived.Lib.ItoaNum
import Derived.Lib.AtoiAll
import Derived.Lib.Split
set_option linter.unusedVariables false
set_option linter.unusedSimpArgs false
open Go.RowKit Go.Proofs.Tryz
set_option maxRecDepth 100000
set_option maxHeartbeats 4000000
namespace Go.Proofs.YtefccfakhgdfbabGreatDoor
section
def hstep (z:Int) (x:UInt8):Int:=IntKind.u64.wrap (bits BinOp.xor IntKind.u64 z (IntKind.u64.wrap x.toNat)*1099511628211)
def hstart:Int:=14695981039346656037
def hfold (l:List UInt8):Int:=l.foldl hstep hstart
theorem Quy (x:Int):0≤IntKind.u64.wrap x∧IntKind.u64.wrap x<2 ^ 64:=by simp only[IntKind.wrap,IntKind.bits,IntKind.signed];simp;omega
theorem Qv1 (l:List UInt8):0≤hfold l∧hfold l<2 ^ 64:=by
 have:∀ (l:List UInt8) (z:Int),0≤z∧z<2 ^ 64→0≤l.foldl hstep z∧l.foldl hstep z<2 ^ 64:=by
  intro l
  induction l with
  | nil=>intro z hz;exact hz
  | cons x l ih=>intro z _;exact ih _ (Quy _)
 exact this l _ (by unfold hstart;omega)
def hbytes (y:Int):Hsh:=#v[UInt8.ofNat (y / 72057594037927936%256).toNat,UInt8.ofNat (y / 281474976710656%256).toNat,UInt8.ofNat (y / 1099511627776%256).toNat,UInt8.ofNat (y / 4294967296%256).toNat,
 UInt8.ofNat (y / 16777216%256).toNat,UInt8.ofNat (y / 65536%256).toNat,UInt8.ofNat (y / 256%256).toNat,UInt8.ofNat (y%256).toNat]
def hash (l:List UInt8):Hsh:=hbytes (hfold l)
theorem Q8d (y:Int):u8 (UInt8.ofNat (y%256).toNat)=.int .u8 (y%256):=by
 have h:0≤y%256∧y%256<256:=by omega
 show Value.int .u8 _=_
 congr 1
 rw[UInt8.toNat_ofNat'];omega
theorem Qq4 (y:Int):h8 (hbytes y)=#[.int .u8 (y / 72057594037927936%256),.int .u8 (y / 281474976710656%256),.int .u8 (y / 1099511627776%256),.int .u8 (y / 4294967296%256),.int .u8 (y / 16777216%256),.int .u8 (y / 65536%256),.int .u8 (y / 256%256),.int .u8 (y%256)]:=by simp only[h8,hbytes,←Q8d];simp
def Qaf (l:List UInt8):Hsh:=hash (0 :: l)
def Z0 (a b:Hsh):Hsh:=hash (1 :: (a.toList++b.toList))
theorem Qjf {α:Type} {ls:List (List α)} {k:Nat} {l:List α} (h:ls[k]?=some l):(ls.take (k+1)).flatten=(ls.take k).flatten++l:=by rw[List.take_add_one,h];simp
theorem Qob (l:List UInt8) (x:UInt8):hfold (l ++ [x])=hstep (hfold l) x:=by simp[hfold]
theorem Qom {l:List UInt8} {j:Nat} {x:UInt8} (h:l[j]?=some x):l.take (j+1)=l.take j ++ [x]:=by rw[List.take_add_one,h];simp
def Qlg (leaf:Hsh):(i n:Nat)→List Hsh→Option Hsh
 | _,n,[]=>if n=1 then some leaf else none
 | i,n,last :: rest=>if n=1 then none else if i<2 ^ (Lib.bitLen (n-1)-1) then (Qlg leaf i (2 ^ (Lib.bitLen (n-1)-1)) rest).map (Z0 · last)
   else (Qlg leaf (i-2 ^ (Lib.bitLen (n-1)-1)) (n-2 ^ (Lib.bitLen (n-1)-1)) rest).map (Z0 last ·)
def rebuild (leaf:Hsh) (i n:Nat) (p:List Hsh):Option Hsh:=Qlg leaf i n p.reverse
def included (leaf:Hsh) (i n:Int) (p:List Hsh) (root:Hsh):Bool:=decide (0≤i) && decide (i<n) && (rebuild leaf i.toNat n.toNat p == some root)
def Qmf:(m n:Nat)→Option Hsh→List Hsh→Option (Hsh×Hsh)
 | m,n,whole,[]=>if m=n then whole.map fun a=>(a,a) else none
 | m,n,whole,r :: rest=>if m=n then (match whole with|some _=>none|none=>if rest = [] then some (r,r) else none)
   else if m≤2 ^ (Lib.bitLen (n-1)-1) then (Qmf m (2 ^ (Lib.bitLen (n-1)-1)) whole rest).map fun x=>(x.1,Z0 x.2 r)
   else (Qmf (m-2 ^ (Lib.bitLen (n-1)-1)) (n-2 ^ (Lib.bitLen (n-1)-1)) none rest).map fun x=>(Z0 r x.1,Z0 r x.2)
def roots (m n:Nat) (whole:Option Hsh) (p:List Hsh):Option (Hsh×Hsh):=Qmf m n whole p.reverse
def consistent (m n:Int) (a b:Hsh) (p:List Hsh):Bool:=decide (1≤m) && decide (m≤n) && (roots m.toNat n.toNat (some a) p == some (a,b))
def Yw (l:List UInt8):Hsh:=#v[l.getD 0 0,l.getD 1 0,l.getD 2 0,l.getD 3 0,l.getD 4 0,l.getD 5 0,l.getD 6 0,l.getD 7 0]
def below (n:Nat):Nat:=2 ^ (Lib.bitLen (n-1)-1)
variable {n:Nat}
theorem Qy3 (h2:2≤n) (h3:n<9223372036854775808):∃ e,Lib.bitLen (n-1)=e+1∧e≤62∧2 ^ e<n∧n≤2*2 ^ e:=by
 have h:=Lib.bitLenAux_bounds 64 (n-1) (by omega) (by omega);obtain⟨e,he⟩:∃ e,Lib.bitLen (n-1)=e+1:=⟨Lib.bitLen (n-1)-1,by unfold Lib.bitLen;omega⟩
 have he':Lib.bitLenAux 64 (n-1)=e+1:=he;rw[he'] at h;simp only[Nat.add_sub_cancel] at h;refine⟨e,he,?_,by omega,by have:=h.2.2;rw[Nat.pow_succ] at this;omega⟩;rcases Nat.lt_or_ge e 63 with h' | h'
 ·omega
 ·have:=Nat.pow_le_pow_right (n:=2) (by decide) h'
  omega
theorem Qiy (h2:2≤n) (h3:n<9223372036854775808):0<below n∧below n<n∧n≤2*below n:=by obtain⟨e,he,_,h4,h5⟩:=Qy3 h2 h3;unfold below;rw[he,Nat.add_sub_cancel];exact⟨Nat.two_pow_pos e,h4,h5⟩
theorem Qjr {e:Nat} (h2:2≤n) (h3:n<9223372036854775808) (h4:2 ^ e<n) (h5:n≤2*2 ^ e):below n=2 ^ e:=by
 obtain⟨e',he,_,h6,h7⟩:=Qy3 h2 h3;unfold below;rw[he,Nat.add_sub_cancel];rcases Nat.lt_trichotomy e e' with h|h|h
 ·have:=Nat.pow_le_pow_right (n:=2) (by decide) (show e+1≤e' from h)
  rw[Nat.pow_succ] at this;omega
 ·rw[h]
 ·have:=Nat.pow_le_pow_right (n:=2) (by decide) (show e'+1≤e from h)
  rw[Nat.pow_succ] at this;omega
end
section
def Qps:Nat→List (List UInt8)→Hsh
 | 0,_=>hash []
 | f+1,l=>if l.length=0 then hash [] else if l.length=1 then Qaf (l.getD 0 []) else Z0 (Qps f (l.take (below l.length))) (Qps f (l.drop (below l.length)))
def rootOf (l:List (List UInt8)):Hsh:=Qps l.length l
theorem Yl {n:Nat} (h2:2≤n):0<below n∧below n<n:=by
 unfold below;have h:=Nat.two_pow_pos (Lib.bitLen (n-1)-1);refine⟨h,?_⟩;by_cases hb:n-1<2 ^ 64
 ·have:=Lib.bitLenAux_bounds 64 (n-1) hb (by omega)
  have h2:=this.2.1;show 2 ^ (Lib.bitLenAux 64 (n-1)-1)<n;omega
 ·have:Lib.bitLenAux 64 (n-1)≤64:=by
   have hf:∀ (f x:Nat),Lib.bitLenAux f x≤f:=by
    intro f
    induction f with
    | zero=>intro x;simp[Lib.bitLenAux]
    | succ f ih=>intro x;simp only[Lib.bitLenAux];split;omega;have:=ih (x / 2);omega
   exact hf 64 _
  have h3:2 ^ (Lib.bitLenAux 64 (n-1)-1)≤2 ^ 63:=Nat.pow_le_pow_right (by decide) (by omega);show 2 ^ (Lib.bitLenAux 64 (n-1)-1)<n;omega
theorem Qgv:∀ (f g:Nat) (l:List (List UInt8)),l.length≤f→l.length≤g→Qps f l=Qps g l
 | 0,0,_,_,_=>rfl
 | 0,g+1,l,h,_=>by
  have:l.length=0:=by omega
  simp[Qps,this]
 | f+1,0,l,_,h=>by
  have:l.length=0:=by omega
  simp[Qps,this]
 | f+1,g+1,l,h1,h2=>by
  simp only[Qps]
  split
  ·rfl
  ·split
   ·rfl
   ·have hb:=Yl (n:=l.length) (by omega)
    rw[Qgv f g _ (by simp;omega) (by simp;omega),Qgv f g (l.drop _) (by simp;omega) (by simp;omega)]
theorem Qxf (e:List UInt8):rootOf [e]=Qaf e:=rfl
theorem Qbd {l:List (List UInt8)} (h:2≤l.length):rootOf l=Z0 (rootOf (l.take (below l.length))) (rootOf (l.drop (below l.length))):=by
 unfold rootOf;have hb:=Yl h;obtain⟨n,hn⟩:∃ n,l.length=n+1:=⟨l.length-1,by omega⟩
 rw[hn];simp only[Qps];rw[if_neg (by omega),if_neg (by omega),hn];rw[hn] at hb
 congr 1
 ·exact Qgv _ _ _ (by simp;omega) (Nat.le_refl _)
 ·exact Qgv _ _ _ (by simp;omega) (Nat.le_refl _)
def Zq (ls:List (List UInt8)):Nat→Nat→Hsh
 | 0,i=>Qaf (ls.getD i [])
 | L+1,i=>Z0 (Zq ls L (2*i)) (Zq ls L (2*i+1))
theorem Qzy (e:Nat) (he:e+1≤62):below (2 ^ (e+1))=2 ^ e:=by
 have h1:2 ^ (e+1)≤2 ^ 62:=Nat.pow_le_pow_right (by decide) he;have h2:2 ^ e≥1:=Nat.two_pow_pos e;rw[Nat.pow_succ] at h1;apply Qjr
 ·rw[Nat.pow_succ];omega
 ·rw[Nat.pow_succ];omega
 ·rw[Nat.pow_succ];omega
 ·rw[Nat.pow_succ];omega
theorem Qda (ls:List (List UInt8)):∀ (L i:Nat),L≤62→(i+1)*2 ^ L≤ls.length→Zq ls L i=rootOf ((ls.drop (i*2 ^ L)).take (2 ^ L))
 | 0,i,_,h=>by
  simp only[Nat.pow_zero,Nat.mul_one] at h ⊢
  have hi:i<ls.length:=by omega
  rw[List.drop_eq_getElem_cons hi]
  show _=rootOf [ls[i]]
  rw[Qxf]
  simp[Zq,List.getD,hi]
 | L+1,i,hL,h=>by
  have hp:2 ^ L≥1:=Nat.two_pow_pos L
  have hlen:((ls.drop (i*2 ^ (L+1))).take (2 ^ (L+1))).length=2 ^ (L+1):=by
   rw[List.length_take,List.length_drop]
   rw[Nat.add_mul] at h
   omega
  rw[Qbd (by rw[hlen,Nat.pow_succ];omega),hlen,Qzy L hL]
  have e1:i*2 ^ (L+1)=(2*i)*2 ^ L:=by rw[Nat.pow_succ,Nat.mul_comm 2 i,Nat.mul_assoc,Nat.mul_comm (2 ^ L) 2]
  have e2:2 ^ (L+1)=2 ^ L+2 ^ L:=by rw[Nat.pow_succ];omega
  have e3:(2*i+1)*2 ^ L=(2*i)*2 ^ L+2 ^ L:=by rw[Nat.add_mul,Nat.one_mul]
  have e4:(i+1)*2 ^ (L+1)=(2*i)*2 ^ L+2 ^ L+2 ^ L:=by rw[Nat.add_mul,Nat.one_mul,e1,e2];omega
  rw[e4] at h
  simp only[Zq]
  rw[Qda ls L (2*i) (by omega) (by rw[Nat.add_mul,Nat.one_mul];omega),Qda ls L (2*i+1) (by omega) (by rw[Nat.add_mul,Nat.one_mul,e3];omega)]
  congr 2
  ·rw[List.take_take,e1,e2];congr 1;omega
  ·rw[e3,e1,e2,List.drop_take,List.drop_drop]
   congr 1
   omega
end
section
def node4 (r:List Hsh):Hsh:=Z0 (Z0 (r.getD (r.length-4) zero8) (r.getD (r.length-4+1) zero8)) (Z0 (r.getD (r.length-4+2) zero8) (r.getD (r.length-4+3) zero8))
def Qdp:List (List Hsh)→Hsh→List (List Hsh)
 | [],h=>[[h]]
 | r :: rs,h=>if (r.length+1)%4=0 then (r ++ [h]) :: Qdp rs (node4 (r ++ [h])) else (r ++ [h]) :: rs
def nLev (n:Nat):Nat:=if h:n=0 then 0 else nLev (n / 4)+1
termination_by n
decreasing_by omega
theorem Qac (n:Nat):∀ k,k<nLev n↔4 ^ k≤n:=by
 induction n using Nat.strongRecOn with
 | _ n ih=>
  intro k;rw[nLev]
  split
  ·rename_i h
   have:=Nat.pow_pos (n:=k) (show 0<4 by decide)
   omega
  ·rename_i h
   cases k with
   | zero=>simp;omega
   | succ k=>
    have h1:=ih (n / 4) (by omega) k;rw[Nat.add_lt_add_iff_right,h1,Nat.le_div_iff_mul_le (by decide),Nat.pow_succ]
def Zy (ls:List (List UInt8)) (k:Nat):List Hsh:=(List.range (ls.length / 4 ^ k)).map fun j=>Zq ls (2*k) j
def levels (ls:List (List UInt8)):List (List Hsh):=(List.range (nLev ls.length)).map (Zy ls)
theorem Qc2 (ls:List (List UInt8)) (e:List UInt8):∀ (L i:Nat),(i+1)*2 ^ L≤ls.length→Zq (ls ++ [e]) L i=Zq ls L i
 | 0,i,h=>by
  have hi:i<ls.length:=by simp at h;omega
  simp only[Zq]
  rw[List.getD_eq_getElem?_getD,List.getD_eq_getElem?_getD,List.getElem?_append_left hi]
 | L+1,i,h=>by
  have e1:(i+1)*2 ^ (L+1)=(2*i+1+1)*2 ^ L:=by rw[Nat.pow_succ,Nat.mul_comm (2 ^ L) 2,←Nat.mul_assoc];congr 1;omega
  have e2:(2*i+1)*2 ^ L≤(2*i+1+1)*2 ^ L:=Nat.mul_le_mul_right _ (by omega)
  simp only[Zq]
  rw[Qc2 ls e L (2*i) (by omega),Qc2 ls e L (2*i+1) (by omega)]
theorem pow24 (k:Nat):2 ^ (2*k)=4 ^ k:=by rw[Nat.pow_mul]
theorem Jz (ls:List (List UInt8)) (k:Nat):(Zy ls k).length=ls.length / 4 ^ k:=by simp[Zy]
theorem Qcq (ls:List (List UInt8)) (k j:Nat) (h:j<ls.length / 4 ^ k):(Zy ls k).getD j zero8=Zq ls (2*k) j:=by rw[List.getD_eq_getElem?_getD];simp[Zy,h]
theorem Qin (ls:List (List UInt8)) (e:List UInt8) (k:Nat) (h:(ls.length+1) / 4 ^ k=ls.length / 4 ^ k):Zy (ls ++ [e]) k=Zy ls k:=by
 unfold Zy;rw[List.length_append,show [e].length=1 from rfl,h];apply List.map_congr_left;intro j hj;have hj':j<ls.length / 4 ^ k:=by simpa using hj
 apply Qc2;rw[pow24]
 have:=(Nat.le_div_iff_mul_le (Nat.pow_pos (n:=k) (show 0<4 by decide))).1 (show j+1≤ls.length / 4 ^ k by omega)
 exact this
theorem Qe9 (ls:List (List UInt8)) (e:List UInt8) (k q:Nat) (hq:ls.length / 4 ^ k=q) (hq':(ls.length+1) / 4 ^ k=q+1):Zy (ls ++ [e]) k=Zy ls k ++ [Zq (ls ++ [e]) (2*k) q]:=by
 unfold Zy;rw[List.length_append,show [e].length=1 from rfl,hq',hq,List.range_succ,List.map_append]
 congr 1
 apply List.map_congr_left;intro j hj;have hj':j<q:=by simpa using hj
 apply Qc2;rw[pow24];exact (Nat.le_div_iff_mul_le (Nat.pow_pos (n:=k) (show 0<4 by decide))).1 (show j+1≤ls.length / 4 ^ k by omega)
theorem Qor (ls:List (List UInt8)) (k:Nat) (h:k<nLev ls.length):(levels ls).drop k=Zy ls k :: (levels ls).drop (k+1):=by
 have hl:k<(levels ls).length:=by simpa [levels] using h
 rw[List.drop_eq_getElem_cons hl]
 congr 1
 simp[levels]
theorem Qn6 (ls:List (List UInt8)) (k:Nat) (h:nLev ls.length≤k):(levels ls).drop k = []:=by apply List.drop_eq_nil_of_le;simpa [levels] using h
theorem Q08 (ls:List (List UInt8)) (k q j:Nat) (hq:ls.length / 4 ^ k=q) (hj:q=4*j+4):node4 (Zy ls k)=Zq ls (2*(k+1)) j:=by
 have hl:(Zy ls k).length-4=4*j:=by rw[Jz];omega
 unfold node4;rw[hl,Qcq ls k _ (by omega),Qcq ls k _ (by omega),Qcq ls k _ (by omega),Qcq ls k _ (by omega)];show _=Zq ls (2*k+1+1) j;simp only[Zq];have e1:2*(2*j)=4*j:=by omega
 have e2:2*(2*j+1)=4*j+2:=by omega
 rw[e1,e2]
theorem Qs2 (ls:List (List UInt8)) (e:List UInt8):∀ (m k q:Nat),nLev (ls.length+1)≤k+m→ls.length+1=(q+1)*4 ^ k→
  Qdp ((levels ls).drop k) (Zq (ls ++ [e]) (2*k) q)=(levels (ls ++ [e])).drop k:=by
 intro m;have hlen:(ls ++ [e]).length=ls.length+1:=by simp
 induction m with
 | zero=>
  intro k q h1 h2;have h3:4 ^ k≤ls.length+1:=by rw[h2];exact Nat.le_mul_of_pos_left _ (by omega)
  have:=(Qac (ls.length+1) k).2 h3
  omega
 | succ m ih=>
  intro k q h1 h2;have hp:0<4 ^ k:=Nat.pow_pos (by decide);have h3:4 ^ k≤ls.length+1:=by rw[h2];exact Nat.le_mul_of_pos_left _ (by omega)
  have h4:=(Qac (ls.length+1) k).2 h3;have hq':(ls.length+1) / 4 ^ k=q+1:=by rw[h2];exact Nat.mul_div_cancel _ hp
  have hq:ls.length / 4 ^ k=q:=by rw[Nat.add_mul,Nat.one_mul] at h2;exact Nat.div_eq_of_lt_le (by omega) (by rw[Nat.add_mul,Nat.one_mul];omega)
  rw[Qor (ls ++ [e]) k (by rw[hlen];exact h4),Qe9 ls e k q hq hq'];by_cases hk:k<nLev ls.length
  ·rw[Qor ls k hk]
   rw[Qdp,Jz,hq];by_cases h0:(q+1)%4=0
   ·rw[if_pos h0]
    congr 1
    obtain⟨j,hj⟩:∃ j,q+1=4*j+4:=⟨q / 4,by omega⟩
    have hn:=Q08 (ls ++ [e]) k (q+1) j (by rw[hlen];exact hq') hj;rw[Qe9 ls e k q hq hq'] at hn;rw[hn];apply ih (k+1) j (by omega);rw[h2,hj,Nat.pow_succ,Nat.mul_comm (4 ^ k) 4,←Nat.mul_assoc]
    congr 1
    omega
   ·rw[if_neg h0]
    congr 1
    have hnd:∀ i,k<i→¬ 4 ^ i ∣ ls.length+1:=by intro i hi hd;have h5:4 ^ (k+1) ∣ ls.length+1:=Nat.dvd_trans (Nat.pow_dvd_pow 4 hi) hd;rw[h2,Nat.pow_succ,Nat.mul_comm (4 ^ k) 4] at h5;have h6:=Nat.dvd_of_mul_dvd_mul_right hp h5;omega
    have hle:nLev (ls.length+1)=nLev ls.length:=by
     have hi:=Qac (ls.length+1) (nLev ls.length);have hj:=Qac ls.length (nLev ls.length);have hmono:nLev ls.length≤nLev (ls.length+1):=by
      rcases Nat.lt_or_ge (nLev (ls.length+1)) (nLev ls.length) with h|h
      ·have a:=(Qac ls.length _).1 h
       have b:=(Qac (ls.length+1) (nLev (ls.length+1))).2 (by omega);omega
      ·exact h
     rcases Nat.lt_or_ge (nLev ls.length) (nLev (ls.length+1)) with h|h
     ·have a:=hi.1 h
      have b:¬ 4 ^ nLev ls.length≤ls.length:=fun c=>by have:=hj.2 c;omega
      have c:4 ^ nLev ls.length=ls.length+1:=by omega
      exact absurd (by rw[c];exact Nat.dvd_refl _) (hnd _ hk)
     ·omega
    apply List.ext_getElem
    ·simp[levels,hle]
    ·intro i hi hj
     simp only[levels,List.getElem_drop,List.getElem_map,List.getElem_range];rw[Qin];rw[Nat.succ_div_of_not_dvd (hnd _ (by omega))]
  ·have hkn:¬ 4 ^ k≤ls.length:=fun h=>hk ((Qac _ _).2 h)
   have h0:q=0:=by
    have:ls.length / 4 ^ k=0:=Nat.div_eq_of_lt (by omega)
    omega
   subst h0;have hr:Zy ls k = []:=List.eq_nil_of_length_eq_zero (by rw[Jz,hq]);have hn:nLev (ls.length+1)≤k+1:=by
    rcases Nat.lt_or_ge (k+1) (nLev (ls.length+1)) with h|h
    ·have:=(Qac _ _).1 h
     rw[Nat.pow_succ] at this;omega
    ·exact h
   rw[Qn6 ls k (by omega),Qn6 (ls ++ [e]) (k+1) (by rw[hlen];exact hn),hr];rfl
theorem Qr2 (ls:List (List UInt8)) (e:List UInt8):Qdp (levels ls) (Qaf e)=levels (ls ++ [e]):=by
 have h:=Qs2 ls e (nLev (ls.length+1)) 0 ls.length (by omega) (by simp);have hf:Zq (ls ++ [e]) (2*0) ls.length=Qaf e:=by simp only[Nat.mul_zero,Zq];rw[List.getD_eq_getElem?_getD];simp
 rw[hf] at h;simpa using h
end
section
abbrev dec (n:Nat):List UInt8:=Lib.decDigits n
def kE:List UInt8:=[101,110,116,114,105,101,115,47]
def kT:List UInt8:=[116,105,108,101,47]
def kP:List UInt8:=[46,112,47]
def Jm (level index width:Int):Prop:=-1≤level∧level≤20∧0≤index∧1≤width∧width≤4
instance (level index width:Int):Decidable (Jm level index width):=by unfold Jm;infer_instance
def Ji (level index width:Int):List UInt8:=
 (if 0≤level then kT++dec level.toNat ++ [47] else kE)++dec index.toNat++(if width<4 then kP++dec width.toNat else [])
def Y6 (level index width:Int):List UInt8:=if Jm level index width then Ji level index width else []
def Qad (c:UInt8):Prop:=48≤c.toNat∧c.toNat≤57
theorem Qhl (n:Nat):∀ c∈dec n,Qad c:=by
 induction n using Nat.strongRecOn with
 | _ n ih=>
  intro c hc;unfold dec at hc;rw[Lib.decDigits] at hc
  split at hc
  ·simp only[List.mem_singleton] at hc
   subst hc;unfold Qad;rw[UInt8.toNat_ofNat'];omega
  ·rw[List.mem_append] at hc
   rcases hc with hc|hc
   ·exact ih (n / 10) (by omega) c hc
   ·simp only[List.mem_singleton] at hc
    subst hc;unfold Qad;rw[UInt8.toNat_ofNat'];omega
theorem Q2e (n:Nat):dec n≠[]:=by
 unfold dec;rw[Lib.decDigits]
 split <;> simp
def valD (acc:Nat) (l:List UInt8):Nat:=l.foldl (fun a c=>a*10+(c.toNat-48)) acc
theorem Qu8 (acc:Nat) (a b:List UInt8):valD acc (a++b)=valD (valD acc a) b:=by simp[valD]
theorem Qz4 (l:List UInt8):∀ acc,acc≤valD acc l:=by
 induction l with
 | nil=>intro acc;exact Nat.le_refl _
 | cons c l ih=>
  intro acc
  have:=ih (acc*10+(c.toNat-48))
  show acc≤valD (acc*10+(c.toNat-48)) l;omega
theorem Qk6 (n:Nat):valD 0 (dec n)=n:=by
 induction n using Nat.strongRecOn with
 | _ n ih=>
  unfold dec;rw[Lib.decDigits]
  split
  ·simp only[valD,List.foldl]
   rw[UInt8.toNat_ofNat'];omega
  ·rw[Qu8]
   have:=ih (n / 10) (by omega)
   unfold dec at this;rw[this];simp only[valD,List.foldl];rw[UInt8.toNat_ofNat'];omega
theorem Qfo:∀ (l:List UInt8) (acc:Nat),(∀ c∈l,Qad c)→valD acc l<18446744073709551616→Lib.parseUint10 acc l=.ok (valD acc l)
 | [],acc,_,_=>rfl
 | c :: l,acc,hd,hv=>by
  have h1:Qad c:=hd c (by simp)
  have h2:=Qz4 l (acc*10+(c.toNat-48))
  have h3:valD acc (c :: l)=valD (acc*10+(c.toNat-48)) l:=rfl
  rw[h3] at hv ⊢
  unfold Qad at h1
  simp only[Lib.parseUint10]
  rw[if_pos h1,if_neg (by omega),if_neg (by omega)]
  exact Qfo l _ (fun c hc=>hd c (by simp[hc])) hv
theorem Q2v (n:Nat) (h:n<9223372036854775808):Lib.atoiAll (dec n)=.ok (n:Int):=by
 have hp:Lib.parseMag (dec n)=.ok n:=by unfold Lib.parseMag;rw[if_neg (Q2e n),Qfo _ _ (Qhl n) (by rw[Qk6];omega),Qk6]
 obtain⟨c,r,hcr⟩:∃ c r,dec n=c :: r:=by
  cases hd:dec n with
  | nil=>exact absurd hd (Q2e n)
  | cons c r=>exact⟨c,r,rfl⟩
 have hc:Qad c:=Qhl n c (by rw[hcr];simp);unfold Qad at hc;rw[hcr] at hp ⊢;unfold Lib.atoiAll;simp only;rw[if_neg (by omega),hp];simp only;rw[if_neg (by omega),if_neg (by omega),if_neg (by omega)]
def Qcx (n:Nat):List UInt8→Option (Nat×List UInt8)
 | []=>some (n,[])
 | c :: r=>if 48≤c.toNat∧c.toNat≤57 then (if (9223372036854775807-(c.toNat-48)) / 10<n then none else Qcx (10*n+(c.toNat-48)) r) else some (n,c :: r)
def Y0 (l:List UInt8):Nat×List UInt8×Bool:=match Qcx 0 l with|none=>(0,l,false)|some (n,r)=>(n,r,decide (r.length<l.length))
theorem Qqq:∀ (l:List UInt8) (acc:Nat) (t:List UInt8),(∀ c∈l,Qad c)→(∀ c,t.head?=some c→¬ Qad c)→valD acc l<9223372036854775808→Qcx acc (l++t)=some (valD acc l,t)
 | [],acc,t,_,ht,_=>by
  cases t with
  | nil=>rfl
  | cons c t=>
   have:=ht c rfl
   unfold Qad at this
   simp only[List.nil_append,Qcx]
   rw[if_neg this];rfl
 | c :: l,acc,t,hd,ht,hv=>by
  have h1:Qad c:=hd c (by simp)
  have h2:=Qz4 l (acc*10+(c.toNat-48))
  have h3:valD acc (c :: l)=valD (acc*10+(c.toNat-48)) l:=rfl
  rw[h3] at hv ⊢
  unfold Qad at h1
  simp only[List.cons_append,Qcx]
  rw[if_pos h1,if_neg (by omega),Nat.mul_comm 10 acc]
  exact Qqq l _ t (fun c hc=>hd c (by simp[hc])) ht hv
theorem Qsh (n:Nat) (t:List UInt8) (h:n<9223372036854775808) (ht:∀ c,t.head?=some c→¬ Qad c):Y0 (dec n++t)=(n,t,true):=by
 unfold Y0;rw[Qqq (dec n) 0 t (Qhl n) ht (by rw[Qk6];exact h),Qk6]
 have:0<(dec n).length:=List.length_pos_iff.2 (Q2e n)
 simp[this]
theorem Qwb:∀ (l:List UInt8) (acc n:Nat) (r:List UInt8),acc<9223372036854775808→Qcx acc l=some (n,r)→n<9223372036854775808
 | [],acc,n,r,ha,h=>by simp only[Qcx,Option.some.injEq,Prod.mk.injEq] at h;omega
 | c :: l,acc,n,r,ha,h=>by
  simp only[Qcx] at h
  split at h
  ·split at h
   ·cases h
   ·exact Qwb l _ n r (by omega) h
  ·simp only[Option.some.injEq,Prod.mk.injEq] at h;omega
theorem Qm3 (l:List UInt8):(Y0 l).1<9223372036854775808:=by
 unfold Y0;cases h:Qcx 0 l with
 | none=>simp
 | some x=>exact Qwb l 0 x.1 x.2 (by omega) h
theorem Qcz {a b:UInt8} {s t:List UInt8} (h:a≠b):(a :: s).isPrefixOf (b :: t)=false:=by simp[List.isPrefixOf,h]
theorem Qkg (m:UInt8) (ms:List UInt8) (hm:¬ Qad m):∀ (d t:List UInt8),(∀ c∈d,Qad c)→Lib.index (d++(m :: ms++t)) (m :: ms)=d.length
 | [],t,_=>by
  simp[Lib.index,List.isPrefixOf]
 | c :: d,t,hd=>by
  have ih:=Qkg m ms hm d t (fun c hc=>hd c (by simp[hc]))
  have hne:m≠c:=fun e=>hm (e ▸ hd c (by simp))
  simp only[List.cons_append,Lib.index]
  rw[Qcz hne]
  simp only[List.cons_append] at ih
  rw[ih]
  have:((d.length:Int) == -1)=false:=by rw[beq_eq_false_iff_ne];omega
  simp[this]
theorem Qd9 (m:UInt8) (ms:List UInt8) (hm:¬ Qad m):∀ (d:List UInt8),(∀ c∈d,Qad c)→Lib.index d (m :: ms) = -1
 | [],_=>by simp[Lib.index]
 | c :: d,hd=>by
  have ih:=Qd9 m ms hm d (fun c hc=>hd c (by simp[hc]))
  have hne:m≠c:=fun e=>hm (e ▸ hd c (by simp))
  simp only[Lib.index]
  rw[Qcz hne,ih]
  rfl
theorem Qon (m:UInt8) (ms:List UInt8) (hm:¬ Qad m) (d t:List UInt8) (hd:∀ c∈d,Qad c):Lib.cut (d++(m :: ms++t)) (m :: ms)=(d,t,true):=by
 unfold Lib.cut;rw[Qkg m ms hm d t hd,if_pos (by omega),Int.toNat_natCast];simp only[Prod.mk.injEq,and_true];refine⟨List.take_left,?_⟩;rw[←List.append_assoc]
 have:d.length+(m :: ms).length=(d++(m :: ms)).length:=by simp
 rw[this,List.drop_left]
theorem Qnk (m:UInt8) (ms:List UInt8) (hm:¬ Qad m) (d:List UInt8) (hd:∀ c∈d,Qad c):Lib.cut d (m :: ms)=(d,[],false):=by unfold Lib.cut;rw[Qd9 m ms hm d hd];rfl
def Qga (l:List UInt8):Option Int:=match Lib.atoiAll l with | .ok v=>some v|_=>none
theorem Qh9 (n:Nat) (h:n<9223372036854775808):Qga (dec n)=some (n:Int):=by unfold Qga;rw[Q2v n h]
abbrev Four:=Int×Int×Int×Bool
def Qok:Four:=(0,0,0,false)
def Qi8 (path:List UInt8) (level:Int) (rest:List UInt8):Four:=
 match (if (Lib.cut rest kP).2.2=true then Qga (Lib.cut rest kP).2.1 else some 4) with
 | none=>Qok
 | some width=>match Qga (Lib.cut rest kP).1 with
  | none=>Qok
  | some index=>if Y6 level index width=path then (level,index,width,true) else Qok
def Qnb (path:List UInt8):Four:=
 if Lib.hasPrefix path kE=true then Qi8 path (-1) (Lib.trimPrefix path kE)
 else if Lib.hasPrefix path kT=true∧(Lib.cut (Lib.trimPrefix path kT) [47]).2.2=true then
  match Qga (Lib.cut (Lib.trimPrefix path kT) [47]).1 with
  | none=>Qok
  | some v=>if v<0 then Qok else Qi8 path v (Lib.cut (Lib.trimPrefix path kT) [47]).2.1
 else Qok
def Jq (s w:List UInt8):List UInt8×Bool:=if Lib.hasPrefix s w=true then (s.drop w.length,true) else (s,false)
theorem Qwq {l:List UInt8} {v:Int} (h:Qga l=some v):v<9223372036854775808:=by
 unfold Qga at h
 split at h
 ·rename_i u hu
  simp only[Option.some.injEq] at h;subst h;unfold Lib.atoiAll at hu
  split at hu
  ·cases hu
  ·simp only at hu
   split at hu
   ·cases hu
   ·cases hu
   ·split at hu
    ·cases hu
    ·split at hu
     ·cases hu
     ·simp only[Lib.NumEnd.ok.injEq] at hu
      subst hu
      split <;> omega
 ·cases h
theorem Qa5 (p s:List UInt8):Lib.hasPrefix (p++s) p=true:=by unfold Lib.hasPrefix;rw[List.isPrefixOf_iff_prefix];exact List.prefix_append p s
theorem Qeh (p s:List UInt8):Lib.trimPrefix (p++s) p=s:=by unfold Lib.trimPrefix;rw[if_pos (Qa5 p s),List.drop_left]
theorem Ql4 (p s:List UInt8):Jq (p++s) p=(s,true):=by unfold Jq;rw[if_pos (Qa5 p s),List.drop_left]
theorem noE (s:List UInt8):Lib.hasPrefix (kT++s) kE=false:=by simp[Lib.hasPrefix,kT,kE,List.isPrefixOf]
def Qkk (w:Int):List UInt8:=if w<4 then kP++dec w.toNat else []
theorem Qn3:¬ Qad 46:=by unfold Qad;decide
theorem Qyw:¬ Qad 47:=by unfold Qad;decide
variable {l i w:Int}
theorem Qsd (h:Jm l i w) (hl:l<0):Ji l i w=kE++(dec i.toNat++Qkk w):=by unfold Ji Qkk;rw[if_neg (by omega),List.append_assoc]
theorem Qqj (hl:0≤l):Ji l i w=kT++(dec l.toNat++(47 :: []++(dec i.toNat++Qkk w))):=by unfold Ji Qkk;rw[if_pos hl];simp
theorem Qbf (h:Jm l i w):Y6 l i w=Ji l i w:=by unfold Y6;rw[if_pos h]
theorem Q2u (i:Nat) (h1:1≤w) (h4:w≤4):Lib.cut (dec i++Qkk w) kP=(dec i,(if w<4 then dec w.toNat else []),decide (w<4)):=by
 unfold Qkk;by_cases hw:w<4
 ·rw[if_pos hw,if_pos hw,decide_eq_true hw]
  exact Qon 46 [112,47] Qn3 (dec i) (dec w.toNat) (Qhl i)
 ·rw[if_neg hw,if_neg hw,decide_eq_false hw,List.append_nil]
  exact Qnk 46 [112,47] Qn3 (dec i) (Qhl i)
theorem Qnv (h:Jm l i w) (hi:i<9223372036854775808):Qi8 (Ji l i w) l (dec i.toNat++Qkk w)=(l,i,w,true):=by
 have hn:=Qbf h;obtain⟨a,b,c,d,e⟩:=h;unfold Qi8;rw[Q2u _ d e];have ha:Qga (dec i.toNat)=some i:=by rw[Qh9 _ (by omega)];congr 1;omega
 have hw:(if decide (w<4)=true then Qga (if w<4 then dec w.toNat else []) else some 4)=some w:=by
  by_cases hw:w<4
  ·rw[if_pos (by simpa using hw),if_pos hw,Qh9 _ (by omega)];congr 1;omega
  ·rw[if_neg (by simpa using hw)];congr 1;omega
 simp only[hw,ha,hn,if_true]
theorem Qgj (h:Jm l i w) (hi:i<9223372036854775808):Qnb (Ji l i w)=(l,i,w,true):=by
 have ht:=Qnv h hi;by_cases hl:l<0
 ·obtain rfl:l = -1:=by have:=h.1;omega
  rw[Qsd h (by omega)] at ht ⊢;unfold Qnb;rw[if_pos (Qa5 _ _),Qeh];exact ht
 ·have hl0:0≤l:=by omega
  have hle:=h.2.1;rw[Qqj hl0] at ht ⊢;have hc:=Qon 47 [] Qyw (dec l.toNat) (dec i.toNat++Qkk w) (Qhl _);unfold Qnb;rw[if_neg (by rw[noE];simp),Qeh,hc,if_pos ⟨Qa5 _ _,rfl⟩];have ha:Qga (dec l.toNat)=some l:=by rw[Qh9 _ (by omega)];congr 1;omega
  simp only[ha];rw[if_neg hl];exact ht
end
section
def hexD (n:Nat):UInt8:=if n<10 then UInt8.ofNat (48+n) else UInt8.ofNat (87+n)
def Jp (l:List UInt8):List UInt8:=l.flatMap fun c=>[hexD (c.toNat / 16),hexD (c.toNat%16)]
theorem Qod (c:UInt8) (l:List UInt8):Jp (c :: l)=hexD (c.toNat / 16) :: hexD (c.toNat%16) :: Jp l:=rfl
theorem Qan (l:List UInt8):(Jp l).length=2*l.length:=by
 induction l with
 | nil=>rfl
 | cons c l ih=>rw[Qod];simp only[List.length_cons,ih];omega
def Qaz:List UInt8:=[116,105,108,101,115,10]
def Qab (n:Nat) (h:Hsh):List UInt8:=Qaz++dec n ++ [10]++Jp h.toList ++ [10]
def J5 (n:Nat) (h:Hsh) (key:List UInt8):List UInt8:=Qab n h++Jp (hash (key++0 :: Qab n h)).toList ++ [10]
def Qcl (c:UInt8):Option Nat:=if 48≤c.toNat∧c.toNat≤57 then some (c.toNat-48) else if 97≤c.toNat∧c.toNat≤102 then some (c.toNat-87) else none
def Y9 (c:UInt8):Option Nat:=if 48≤c.toNat∧c.toNat≤57 then some (c.toNat-48) else if 97≤c.toNat∧c.toNat≤102 then some (c.toNat-87) else if 65≤c.toNat∧c.toNat≤70 then some (c.toNat-55) else none
def J6 (d:UInt8→Option Nat):List UInt8→Option (List UInt8)
 | a :: b :: r=>match d a,d b with
  | some x,some y=>(J6 d r).map (UInt8.ofNat (16*x+y) :: ·)
  | _,_=>none
 | _=>some []
theorem Q7j (n:Nat) (h:n<16):Qcl (hexD n)=some n:=by
 have:∀ m:Fin 16,Qcl (hexD m.1)=some m.1:=by decide
 exact this ⟨n,h⟩
theorem Q72 (n:Nat) (h:n<16):Y9 (hexD n)=some n:=by
 have:∀ m:Fin 16,Y9 (hexD m.1)=some m.1:=by decide
 exact this ⟨n,h⟩
theorem Q1m (n:Nat) (h:n<16):hexD n≠10:=by
 have:∀ m:Fin 16,hexD m.1≠10:=by decide
 exact this ⟨n,h⟩
theorem Qgd (d:UInt8→Option Nat) (hd:∀ n,n<16→d (hexD n)=some n):∀ l:List UInt8,J6 d (Jp l)=some l
 | []=>rfl
 | c :: l=>by
  have hc:=c.toNat_lt
  rw[Qod]
  unfold J6
  rw[hd _ (by omega),hd _ (by omega),Qgd d hd l]
  have:UInt8.ofNat (16*(c.toNat / 16)+c.toNat%16)=c:=by rw[Nat.div_add_mod];simp
  simp[this]
theorem Qv8 (l:List UInt8):∀ c∈Jp l,c≠10:=by
 intro c hc;unfold Jp at hc;rw[List.mem_flatMap] at hc;obtain⟨x,_,hx⟩:=hc;have hb:=x.toNat_lt;simp only[List.mem_cons,List.not_mem_nil,or_false] at hx;rcases hx with rfl|rfl
 ·exact Q1m _ (by omega)
 ·exact Q1m _ (by omega)
theorem Q2n (n:Nat):∀ c∈dec n,c≠10:=by
 intro c hc e
 have:=Qhl n c hc
 subst e;unfold Qad at this
 revert this
 decide
theorem Qn5:∀ (a t:List UInt8),(∀ c∈a,c≠10)→Lib.index (a++10 :: t) [10]=a.length
 | [],t,_=>by simp[Lib.index,List.isPrefixOf]
 | c :: a,t,h=>by
  have ih:=Qn5 a t (fun c hc=>h c (by simp[hc]))
  have hne:(10:UInt8)≠c:=fun e=>h c (by simp) e.symm
  simp only[List.cons_append,Lib.index]
  rw[Qcz hne,ih]
  have:((a.length:Int) == -1)=false:=by rw[beq_eq_false_iff_ne];omega
  simp[this]
def linesOf (s:List UInt8):List (List UInt8):=Lib.splitK [10] 0 (Lib.count s [10]) s
theorem Qds (a t:List UInt8) (h:∀ c∈a,c≠10):linesOf (a++10 :: t)=a :: linesOf t:=by
 have hi:=Qn5 a t h;unfold linesOf;have hd:(a++10 :: t).drop (a.length + [(10:UInt8)].length)=t:=by rw[show a++10 :: t=(a ++ [10])++t by simp,show a.length + [(10:UInt8)].length=(a ++ [10]).length by simp,List.drop_left]
 rw[Lib.count_hit (by simp) hi,hd,Nat.add_comm,Lib.splitK,hi];rw[if_neg (by simp)];simp only[Int.toNat_natCast,Nat.add_zero];rw[hd];simp
theorem Qtb:linesOf [] = [[]]:=rfl
abbrev Qn1:=Int×Hsh×Bool
def Jw:Qn1:=(0,zero8,false)
def Qa9 (text key:List UInt8) (n:Int) (h:Hsh):Qn1:=if J5 n.toNat h key=text then (n,h,true) else Jw
def Qgw (text key:List UInt8):List (List UInt8)→Qn1
 | [_,l1,l2,_,_]=>if l2.length≠16 then Jw else match Qga l1 with
  | none=>Jw
  | some n=>if n<0 then Jw else match J6 Y9 l2 with
   | none=>Jw
   | some b=>Qa9 text key n (Yw b)
 | _=>Jw
def Yc (text key:List UInt8):Qn1:=Qgw text key (linesOf text)
def Qcg (text key:List UInt8):Qn1:=
 if (Jq text Qaz).2=true then
  (if (Y0 (Jq text Qaz).1).2.2=true∧17≤(Y0 (Jq text Qaz).1).2.1.length then
   match J6 Qcl (((Y0 (Jq text Qaz).1).2.1.drop 1).take 16) with
   | none=>Jw
   | some b=>Qa9 text key (Y0 (Jq text Qaz).1).1 (Yw b)
     else Jw)
 else Jw
def Qos (text key:List UInt8) (q:Qn1):Prop:=(q.2.2=true→0≤q.1∧q.1<9223372036854775808∧J5 q.1.toNat q.2.1 key=text)∧(q.2.2=false→q=Jw)
theorem Qbm (text key:List UInt8):Qos text key Jw:=⟨fun h=>by simp[Jw] at h,fun _=>rfl⟩
theorem Qhi (text key:List UInt8) (n:Int) (h:Hsh) (h0:0≤n) (h1:n<9223372036854775808):Qos text key (Qa9 text key n h):=by
 unfold Qa9
 split
 ·rename_i e;exact⟨fun _=>⟨h0,h1,e⟩,fun h=>by simp at h⟩
 ·exact Qbm _ _
theorem Qb1 (text key:List UInt8):Qos text key (Yc text key):=by
 unfold Yc;generalize linesOf text=L;unfold Qgw
 split
 ·split
  ·exact Qbm _ _
  ·split
   ·exact Qbm _ _
   ·rename_i n hn
    split
    ·exact Qbm _ _
    ·split
     ·exact Qbm _ _
     ·exact Qhi _ _ _ _ (by omega) (Qwq hn)
 ·exact Qbm _ _
theorem Qnu (text key:List UInt8):Qos text key (Qcg text key):=by
 unfold Qcg
 split
 ·split
  ·split
   ·exact Qbm _ _
   ·have:=Qm3 (Jq text Qaz).1
    exact Qhi _ _ _ _ (by omega) (by omega)
  ·exact Qbm _ _
 ·exact Qbm _ _
theorem Qhe (h:Hsh):Yw h.toList=h:=by
 apply Vector.ext;intro i hi
 have:i=0∨i=1∨i=2∨i=3∨i=4∨i=5∨i=6∨i=7:=by omega
 rcases this with rfl|rfl|rfl|rfl|rfl|rfl|rfl|rfl <;> simp[Yw,List.getD]
theorem Qcc (h:Hsh):h.toList.length=8:=by simp
theorem Qsf (n:Nat) (h:Hsh) (key:List UInt8):linesOf (J5 n h key) = [[116,105,108,101,115],dec n,Jp h.toList,Jp (hash (key++0 :: Qab n h)).toList,[]]:=by
 unfold J5;generalize (hash (key++0 :: Qab n h))=m;have e:Qab n h++Jp m.toList ++ [10] = [116,105,108,101,115]++10 :: (dec n++10 :: (Jp h.toList++10 :: (Jp m.toList++10 :: []))):=by simp[Qab,Qaz]
 rw[e,Qds _ _ (by decide),Qds _ _ (Q2n n),Qds _ _ (Qv8 _),Qds _ _ (Qv8 _),Qtb]
theorem Qfj (n:Nat) (h:Hsh) (key:List UInt8) (hn:n<9223372036854775808):Yc (J5 n h key) key=((n:Int),h,true):=by
 unfold Yc;rw[Qsf];have h16:(Jp h.toList).length=16:=by rw[Qan,Qcc]
 unfold Qgw;simp only[h16,Qh9 n hn,Qgd Y9 Q72,Qhe];rw[if_neg (by simp),if_neg (by omega)];unfold Qa9;rw[if_pos (by simp)]
theorem Qpd (n:Nat) (h:Hsh) (key:List UInt8) (hn:n<9223372036854775808):Qcg (J5 n h key) key=((n:Int),h,true):=by
 obtain⟨t,ht⟩:∃ t,J5 n h key=Qaz++(dec n++10 :: (Jp h.toList++t)):=⟨10 :: (Jp (hash (key++0 :: Qab n h)).toList ++ [10]),by simp[J5,Qab]⟩
 have hb:=Ql4 Qaz (dec n++10 :: (Jp h.toList++t));have hnum:=Qsh n (10 :: (Jp h.toList++t)) hn (by intro c hc;simp at hc;subst hc;unfold Qad;decide);have h16:(Jp h.toList).length=16:=by rw[Qan,Qcc]
 have htk:((10 :: (Jp h.toList++t)).drop 1).take 16=Jp h.toList:=by rw[List.drop_succ_cons,List.drop_zero,←h16,List.take_left]
 have hc:Qcg (Qaz++(dec n++10 :: (Jp h.toList++t))) key=Qa9 (Qaz++(dec n++10 :: (Jp h.toList++t))) key n h:=by unfold Qcg;rw[hb];simp only[if_true,hnum,htk,Qgd Qcl Q7j,Qhe];rw[if_pos ⟨trivial,by simp[h16]⟩]
 rw[ht,hc,←ht];unfold Qa9;rw[if_pos (by simp)]
theorem Qt0 {text key:List UInt8} {q q':Qn1} (h:Qos text key q) (h':Qos text key q')
  (c:∀ (n:Nat) (r:Hsh),n<9223372036854775808→J5 n r key=text→q=((n:Int),r,true)) (c':∀ (n:Nat) (r:Hsh),n<9223372036854775808→J5 n r key=text→q'=((n:Int),r,true)):q=q':=by
 obtain⟨n,r,b⟩:=q;obtain⟨n',r',b'⟩:=q';cases b
 ·cases b'
  ·exact (h.2 rfl).trans (h'.2 rfl).symm
  ·obtain⟨x,y,z⟩:=h'.1 rfl
   have:=c n'.toNat r' (by simp only at y;omega) z
   simp at this
 ·obtain⟨x,y,z⟩:=h.1 rfl
  exact (c n.toNat r (by simp only at y;omega) z).trans (c' n.toNat r (by simp only at y;omega) z).symm
theorem Qya (text key:List UInt8):Yc text key=Qcg text key:=
 Qt0 (Qb1 text key) (Qnu text key) (fun n r hn e=>by rw[←e];exact Qfj n r key hn) (fun n r hn e=>by rw[←e];exact Qpd n r key hn)
end
section
theorem Qjv (v:Value) (ls:List (List UInt8)) (w:World) (h:Qes w v ls) (hn:ls.length≤1048576) (hm:∀ l∈ls,l.length≤9223372036854775807) :
  Calls prog 66 #[v] w fun e w'=>e=.returned (.agg (h8 (hash ls.flatten)))∧Below w.heap.size w w':=by
 have hW1:Below w.heap.size w (w.alloc (.cells zc 109)):=(Below.refl _ _).alloc (Nat.le_refl _) _;obtain⟨vs,hlen,⟨a,c,rfl,hcap,hc⟩,hall⟩:=h.below hW1;have HL:=zh hlen;have HC:=zh hc;have HA:=zh hall;have HM:=zh hm;clear hc hall hlen hm h hW1
 go_enter func66,ntmps66
 go_wp2
 go_loop [3,11] (fun x i=>∃ k:Nat,k≤ls.length∧i=.int .i64 k∧x=.int .u64 (hfold (ls.take k).flatten)) (fun _ i=>ls.length-(intOf i).toNat)
 case atStart=>exact⟨0,by omega,rfl,rfl⟩
 case round=>
  obtain⟨k,hk,rfl,rfl⟩:=hrel;by_cases hlt:k<ls.length
  ·obtain⟨l,hl⟩:∃ s,ls[k]?=some s:=⟨_,List.getElem?_eq_getElem hlt⟩
   obtain⟨u,hu⟩:∃ s,vs[k]?=some s:=⟨_,List.getElem?_eq_getElem (by rw[HL.o];exact hlt)⟩
   obtain⟨b,off,rfl,hcell⟩:=HC.o k u hu;obtain⟨a2,c2,rfl,hcap2,hc2⟩:=HA.o k u l hu hl;have hb:=HM.o l (List.mem_of_getElem? hl);obtain⟨pre,hpre⟩:∃ p,p=(ls.take k).flatten:=⟨_,rfl⟩
   rw[←hpre];have HP:=zh hpre;have HL2:=zh hl;have HU2:=zh hu;have HC2:=zh hc2;clear hl hu hc2 hpre;go_wp2
   go_loop [3,17] (fun x i=>∃ j:Nat,j≤l.length∧i=.int .i64 j∧x=.int .u64 (hfold (pre++l.take j))) (fun _ i=>l.length-(intOf i).toNat)
   case atStart=>exact⟨0,by omega,rfl,by simp⟩
   case round=>
    obtain⟨j,hj,rfl,rfl⟩:=hrel;by_cases hjl:j<l.length
    ·obtain⟨x,hx⟩:∃ s,l[j]?=some s:=⟨_,List.getElem?_eq_getElem hjl⟩
     obtain⟨b2,off2,rfl,hcell2⟩:=HC2.o j (u8 x) (by simp[hx]);have hst:hfold (pre++l.take (j+1))=hstep (hfold (pre++l.take j)) x:=by rw[Qom hx,←List.append_assoc,Qob]
     have HST:=zh hst;clear hst hx;go_wp2
     go_round
     case rel=>exact⟨j+1,by omega,by go_num,by rw[HST.o];rfl⟩
     case measure=>simp[intOf];omega
    ·have ht:l.take j=l:=List.take_of_length_le (by omega)
     rw[ht];go_wp2
     go_round
     case rel=>exact⟨k+1,by omega,by go_num,by rw[Qjf HL2.o,←HP.o]⟩
     case measure=>simp[intOf];omega
  ·have ht:ls.take k=ls:=List.take_of_length_le (by omega)
   rw[ht];have hbd:=Qv1 ls.flatten;obtain⟨y,hy⟩:∃ y,y=hfold ls.flatten:=⟨_,rfl⟩
   rw[←hy] at hbd ⊢;have HY:=zh hy;clear hy ht;obtain⟨hb0,hb1⟩:=hbd;go_wp2;refine wp_loop_rounds 9 ?_
   iterate 9
    rw[rounds_succ];go_wp2
   refine bodyPost_ret (v:=.agg (h8 (hash ls.flatten))) ?_ rfl ⟨rfl,(Below.refl _ _).alloc (Nat.le_refl _) _⟩;unfold hash;rw[←HY.o,Qq4];simp[results,results66,go_sem];omega
variable {w:World} {k c:Nat} {e:TypeId} {fz:Nat×Nat}
theorem Qdd {n:Nat} {vs:Array Value} (hcap:n≤c) (hk:w.heap[k]?=some (.cells vs e fz)):Qfh w (.slice (some ⟨k,0,none⟩) n c) n vs.toList:=
 ⟨_,c,rfl,hcap,fun j x hx=>⟨k,0,rfl,by simpa [World.cell?,hk] using hx⟩⟩
theorem Qqm (h:Hsh):(h8 h).toList=h.toList.map u8:=by simp only[h8,Array.toList_map];rfl
variable {g:Nat} {h:Hsh}
theorem Qko (hh:Qu w g h) (c:Nat) (hcap:8≤c:=by decide):Q6 w (.slice (some ⟨g,0,none⟩) 8 c) h.toList:=by
 have:=Qdd (n:=8) (c:=c) hcap hh
 rw[Qqm] at this;unfold Q6;simpa using this
theorem Q2 (e:g=w.heap.size):Qu (w.alloc (.cells (h8 h) 109)) g h:=by subst e;exact Qeo w h
variable {u1 u2:Value} {l1 l2:List UInt8}
theorem bss2 (hk:w.heap[k]?=some (.cells #[u1,u2] e fz)) (h1:Q6 w u1 l1) (h2:Q6 w u2 l2) (hcap:2≤c:=by decide) :
  Qes w (.slice (some ⟨k,0,none⟩) 2 c) [l1,l2]:=by
 refine⟨(#[u1,u2]:Array Value).toList,rfl,Qdd hcap hk,?_⟩;intro j u l g1 g2
 match j,g1,g2 with
 | 0,g1,g2=>simp at g1 g2;subst g1 g2;exact h1
 | 1,g1,g2=>simp at g1 g2;subst g1 g2;exact h2
theorem bss3 {u3:Value} {l3:List UInt8} (hk:w.heap[k]?=some (.cells #[u1,u2,u3] e fz)) (h1:Q6 w u1 l1) (h2:Q6 w u2 l2) (h3:Q6 w u3 l3) (hcap:3≤c:=by decide) :
  Qes w (.slice (some ⟨k,0,none⟩) 3 c) [l1,l2,l3]:=by
 refine⟨(#[u1,u2,u3]:Array Value).toList,rfl,Qdd hcap hk,?_⟩;intro j u l g1 g2
 match j,g1,g2 with
 | 0,g1,g2=>simp at g1 g2;subst g1 g2;exact h1
 | 1,g1,g2=>simp at g1 g2;subst g1 g2;exact h2
 | 2,g1,g2=>simp at g1 g2;subst g1 g2;exact h3
theorem bytes1 {x:UInt8} (hk:w.heap[k]?=some (.cells #[u8 x] e fz)) (hcap:1≤c:=by decide):Q6 w (.slice (some ⟨k,0,none⟩) 1 c) [x]:=Qdd hcap hk
theorem Q20 (w:World) (a b:Hsh) (o:Obj) :
  Qes (((((w.alloc (.cells (h8 a) 109)).alloc (.cells (h8 b) 109)).alloc o).alloc (.cells #[.int .u8 1] 5)).alloc
   (.cells #[.slice (some ⟨w.heap.size+1+1+1,0,none⟩) 1 1,.slice (some ⟨w.heap.size,0,none⟩) 8 8,.slice (some ⟨w.heap.size+1,0,none⟩) 8 8] 94)).drew
   (.slice (some ⟨w.heap.size+1+1+1+1,0,none⟩) 3 3) [[1],a.toList,b.toList]:=by
 have ha:Qu ((((w.alloc (.cells (h8 a) 109)).alloc (.cells (h8 b) 109)).alloc o).alloc (.cells #[.int .u8 1] 5)) w.heap.size a:=Qp (Qp (Qp (Q2 rfl) _) _) _;have hb:Qu ((((w.alloc (.cells (h8 a) 109)).alloc (.cells (h8 b) 109)).alloc o).alloc (.cells #[.int .u8 1] 5)) (w.heap.size+1) b:=Qp (Qp (Q2 (by simp)) _) _;refine Qes.below (bss3 (fz:=(0,0)) (Zu _ _ _ (by simp)) ?_ ?_ ?_) (Ql _)
 ·exact (bytes1 (x:=1) (fz:=(0,0)) (Zu _ _ _ (by simp))).below (Qa _ _)
 ·exact (Qko ha _).below (Qa _ _)
 ·exact (Qko hb _).below (Qa _ _)
end
section
def encE (l:List UInt8):List UInt8:=UInt8.ofNat l.length :: l
def Yj (ls:List (List UInt8)):Option (List UInt8):=if ls.length=0∨4<ls.length then none else if ls.all (fun l=>decide (l.length≤20)) then some (ls.flatMap encE) else none
def bss (ss:List ByteArray):List (List UInt8):=ss.map (·.data.toList)
variable {ls:List (List UInt8)}
theorem Qdb (h:ls.length=0∨4<ls.length):Yj ls=none:=if_pos h
theorem Qhr {k:Nat} {l:List UInt8} (h:ls[k]?=some l) (hl:20<l.length):Yj ls=none:=by
 unfold Yj
 split
 ·rfl
 ·rw[if_neg]
  intro ha;rw[List.all_eq_true] at ha
  have:=ha l (List.mem_of_getElem? h)
  simp at this;omega
theorem Qba (h0:ls.length≠0) (h4:ls.length≤4) (h:∀ (j:Nat) (l:List UInt8),ls[j]?=some l→l.length≤20):Yj ls=some (ls.flatMap encE):=by unfold Yj;rw[if_neg (by omega),if_pos];rw[List.all_eq_true];intro l hl;obtain⟨j,hj,rfl⟩:=List.getElem_of_mem hl;simpa using h j _ (List.getElem?_eq_getElem hj)
def Qow (ls:List (List UInt8)) (w:World) (e:Ending) (w':World):Prop:=
 e=.returned (.tuple #[.string ⟨((Yj ls).getD []).toArray⟩,.bool (Yj ls).isSome])∧Below w.heap.size w w'
theorem Qlz (v:Value) (ss:List ByteArray) (w:World) (h:Jd w v ss) (hn:ss.length≤1099511627776) :
  Calls prog 149 #[v] w (Qow (bss ss) w):=by
 obtain⟨a,c,rfl,hcap,hc⟩:=h;have hbl:(bss ss).length=ss.length:=by simp[bss]
 by_cases h0:ss.length=0
 ·have hd:((ss.length:Int) == 0)=true:=by simp[h0]
  clear hc
  go_enter func149,ntmps149
  go_wp2;go_ret2;rw[Qow,Qdb (.inl (by omega))];exact⟨rfl,Below.refl _ _⟩
 ·have hd:((ss.length:Int) == 0)=false:=by rw[beq_eq_false_iff_ne];omega
  by_cases h4:4<ss.length
  ·have hd2:decide (4<(ss.length:Int))=true:=by simp;omega
   clear hc
   go_enter func149,ntmps149
   go_wp2;go_ret2;rw[Qow,Qdb (.inr (by omega))];exact⟨rfl,Below.refl _ _⟩
  ·have hd2:decide (4<(ss.length:Int))=false:=by simp;omega
   have HC:=zh hc;have HB:=zh hbl;clear hc hbl
   go_enter func149,ntmps149
   go_wp2
   go_loopw [4,5] (fun s i wr=>∃ (k:Nat) (t:ByteArray),k≤ss.length∧i=.int .i64 k∧s=.string t∧t.size≤21*k∧t.data.toList=((bss ss).take k).flatMap encE∧(∀ (j:Nat) (l:List UInt8),j<k→(bss ss)[j]?=some l→l.length≤20)∧Below w.heap.size w wr) (fun _ i _=>ss.length-(intOf i).toNat)
   case atStart=>exact⟨0,⟨#[]⟩,by omega,rfl,rfl,by decide,rfl,by omega,Below.refl _ _⟩
   case round=>
    obtain⟨k,t,hk,rfl,rfl,htz,ht,hsm,hbel⟩:=hrel;have HT:=zh ht;have HS:=zh hsm;have HBe:=zh hbel;clear ht hsm;by_cases hlt:k<ss.length
    ·obtain⟨s,hs⟩:∃ s,ss[k]?=some s:=⟨_,List.getElem?_eq_getElem hlt⟩
     obtain⟨b,off,rfl,hcell0⟩:=HC.o k (.string s) (by simp[hs]);have hbw:b<w.heap.size:=Qk hcell0;have hcell:wr.cell? ⟨b,off+k,none⟩=some (.string s):=(hbel.cell (p:=⟨b,off+k,none⟩) hbw).trans hcell0;have hbw2:b<wr.heap.size:=Qk hcell;have hbs:(bss ss)[k]?=some s.data.toList:=by simp[bss,hs]
     have HK:=zh hbs;have hk0:(0:Int)≤(k:Int):=by omega
     have hk1:(k:Int)<(ss.length:Int):=by omega
     clear hs hcell0 hbel hbs;by_cases hlong:20<s.size
     ·go_wp2
      go_ret2;rw[Qow,Qhr HK.o hlong];exact⟨rfl,HBe.o⟩
     ·have hcv:Sem.run prog (convert 94 9 (.slice (some ⟨wr.heap.size,0,none⟩) 1 1)) ((wr.alloc (.cells #[.int .u8 (s.size:Int)] 5)).drew)=.ok (.string ⟨[UInt8.ofNat s.size].toArray⟩) ((wr.alloc (.cells #[.int .u8 (s.size:Int)] 5)).drew):=by rw[Qh0 _ (by omega)];exact Qep ((bytes1 (fz:=(0,0)) (Zu _ _ _ rfl)).below (Ql _))
      go_wp2;go_region;go_wp2;go_roundw
      case rel=>
       refine⟨k+1,_,by omega,by go_num,rfl,?_,?_,fun j l hj hl=>?_,(HBe.o.alloc HBe.o.size _).drew⟩
       ·simp only[ByteArray.size_append]
        have:(ByteArray.mk #[UInt8.ofNat s.size]).size=1:=rfl
        omega
       ·rw[List.take_add_one,HK.o,List.flatMap_append,←HT.o]
        simp[encE]
       ·by_cases hjk:j=k
        ·subst hjk
         rw[HK.o] at hl;cases hl;exact Nat.le_of_not_lt hlong
        ·exact HS.o j l (by omega) hl
      case measure=>simp[intOf];omega
    ·go_wp2
     go_ret2;have e1:(bss ss).take k=bss ss:=List.take_of_length_le (by rw[HB.o];omega);have hb:=Qba (ls:=bss ss) (by rw[HB.o];omega) (by rw[HB.o];omega) (fun j l hj=>HS.o j l (by have:=(List.getElem?_eq_some_iff.1 hj).1;rw[HB.o] at this;omega) hj);rw[Qow,hb];refine⟨?_,HBe.o⟩;have ht:=HT.o;rw[e1] at ht;simp only[Option.getD_some,Option.isSome_some,←ht];rfl
end
section
def rawF:Nat→List UInt8→Option (List (List UInt8))
 | _,[]=>some []
 | 0,_ :: _=>none
 | f+1,x :: r=>if x.toNat≤r.length then (rawF f (r.drop x.toNat)).map (r.take x.toNat :: ·) else none
def rawU (l:List UInt8):Option (List (List UInt8)):=rawF l.length l
theorem Qq0:∀ (f g:Nat) (l:List UInt8),l.length≤f→l.length≤g→rawF f l=rawF g l
 | _,_,[],_,_=>by simp[rawF]
 | 0,_,_ :: _,h,_=>by simp at h
 | _,0,_ :: _,_,h=>by simp at h
 | f+1,g+1,x :: r,h1,h2=>by
  simp only[rawF]
  simp only[List.length_cons] at h1 h2
  rw[Qq0 f g (r.drop x.toNat) (by simp;omega) (by simp;omega)]
theorem Qv9:rawU []=some []:=rfl
theorem Qil (x:UInt8) (r:List UInt8):rawU (x :: r)=if x.toNat≤r.length then (rawU (r.drop x.toNat)).map (r.take x.toNat :: ·) else none:=by show rawF (r.length+1) (x :: r)=_;simp only[rawF];rw[show rawU (r.drop x.toNat)=rawF r.length (r.drop x.toNat) from Qq0 _ _ _ (by simp) (by simp)]
def Qx (l:List UInt8):Option (List (List UInt8)):=(rawU l).bind fun ls=>if (Yj ls).isSome then some ls else none
theorem Qq6:∀ (f:Nat) (l:List UInt8) (ls:List (List UInt8)),rawF f l=some ls→ls.flatMap encE=l
 | _,[],ls,h=>by simp[rawF] at h;subst h;rfl
 | 0,_ :: _,ls,h=>by simp[rawF] at h
 | f+1,x :: r,ls,h=>by
  simp only[rawF] at h
  split at h
  ·rename_i hx
   obtain⟨ls',h',rfl⟩:=Option.map_eq_some_iff.1 h
   have:=Qq6 f _ _ h'
   rw[List.flatMap_cons,this,encE,List.length_take,Nat.min_eq_left hx]
   simp
  ·cases h
variable {l:List UInt8} {ls:List (List UInt8)}
theorem Qph (h:rawU l=some ls):ls.flatMap encE=l:=Qq6 _ _ _ h
def Read (data:List UInt8) (ls:List (List UInt8)) (rest:List UInt8):Prop:=rawU data=(rawU rest).map (ls ++ ·)
theorem Read.start (data:List UInt8):Read data [] data:=by unfold Read;simp
variable {data r:List UInt8} {x:UInt8}
theorem Read.step (h:Read data ls (x :: r)) (hx:x.toNat≤r.length):Read data (ls ++ [r.take x.toNat]) (r.drop x.toNat):=by
 unfold Read at *;rw[h,Qil,if_pos hx,Option.map_map]
 congr 1
 funext q
 simp
theorem Read.bad (h:Read data ls (x :: r)) (hx:r.length<x.toNat):rawU data=none:=by unfold Read at h;rw[h,Qil,if_neg (by omega)];rfl
theorem Read.done (h:Read data ls []):rawU data=some ls:=by unfold Read at h;rw[h,Qv9];simp
theorem Qma (h:l∈ls) (hl:20<l.length):Yj ls=none:=by obtain⟨k,hk,rfl⟩:=List.getElem_of_mem h;exact Qhr (List.getElem?_eq_getElem hk) hl
theorem Read.long (h:Read data ls (x :: r)) (hx:20<x.toNat):Qx data=none:=by
 unfold Qx;by_cases hr:x.toNat≤r.length
 ·have h2:=h.step hr
  unfold Read at h2;rw[h2];cases rawU (r.drop x.toNat) with
  | none=>rfl
  | some q=>
   simp only[Option.map_some,Option.bind_some];rw[Qma (l:=r.take x.toNat) (by simp) (by simp;omega)];rfl
 ·rw[h.bad (by omega)]
  rfl
theorem Read.many (h:Read data ls (x :: r)) (h4:4≤ls.length):Qx data=none:=by
 unfold Qx;by_cases hr:x.toNat≤r.length
 ·have h2:=h.step hr
  unfold Read at h2;rw[h2];cases rawU (r.drop x.toNat) with
  | none=>rfl
  | some q=>
   simp only[Option.map_some,Option.bind_some];rw[Qdb (.inr (by simp;omega))];rfl
 ·rw[h.bad (by omega)]
  rfl
theorem Qku (h:rawU data=none):Qx data=none:=by unfold Qx;rw[h];rfl
theorem Qhs (h:rawU data=some ls) (h0:ls.length≠0) (h4:ls.length≤4) (hs:∀ l∈ls,l.length≤20):Qx data=some ls:=by unfold Qx;rw[h,Option.bind_some,Qba h0 h4 (fun j l hj=>hs l (List.mem_of_getElem? hj))];rfl
theorem Qny:Qx []=none:=by unfold Qx;rw[Qv9];rfl
end
section
abbrev Fil:=ByteArray×ByteArray
variable {l:List Fil} {p:ByteArray}
theorem Qpu:Z9 l p<l.length↔∃ f∈l,f.1=p:=by unfold Z9;rw[List.findIdx_lt_length];simp
variable {b:ByteArray}
theorem Qah (h:getF l p=some b):(p,b)∈l:=by
 unfold getF at h;cases hx:l[Z9 l p]? with
 | none=>rw[hx] at h;simp at h
 | some x=>
  rw[hx] at h;simp at h;obtain⟨hlt,hx'⟩:=List.getElem?_eq_some_iff.1 hx;have hp:=Qea hlt;rw[hx'] at hp;subst h;rw[←hp];exact List.mem_of_getElem? hx
theorem Qc8:getF l p=none↔∀ f∈l,f.1≠p:=by
 unfold getF;rw[Option.map_eq_none_iff,List.getElem?_eq_none_iff];constructor
 ·intro h f hf e
  have:=Qpu.2 ⟨f,hf,e⟩
  omega
 ·intro h
  rcases Nat.lt_or_ge (Z9 l p) l.length with h1|h1
  ·obtain⟨f,hf,e⟩:=Qpu.1 h1
   exact absurd e (h f hf)
  ·exact h1
variable {k:List Fil}
theorem Qnz (h:Z9 l p<l.length):Z9 (l++k) p=Z9 l p:=by unfold Z9 at *;rw[List.findIdx_append,if_pos h]
theorem Ql6 (h:¬ Z9 l p<l.length):Z9 (l++k) p=Z9 k p+l.length:=by unfold Z9 at *;rw[List.findIdx_append,if_neg h]
theorem Qvq (l k:List Fil) (p:ByteArray):getF (l++k) p=(getF l p).or (getF k p):=by
 by_cases h:Z9 l p<l.length
 ·have e:=Qnz (k:=k) h
  unfold getF;rw[e,List.getElem?_append_left h,List.getElem?_eq_getElem h];rfl
 ·have e:=Ql6 (k:=k) h
  have hn:getF l p=none:=Qdl h;rw[hn];unfold getF;rw[e,List.getElem?_append_right (by omega),Nat.add_sub_cancel];simp
def Once (l:List Fil):Prop:=(l.map (·.1)).Nodup
theorem Qld (h:Once l) (hm:(p,b)∈l):getF l p=some b:=by
 induction l with
 | nil=>simp at hm
 | cons a l ih=>
  unfold Once at h;rw[List.map_cons,List.nodup_cons] at h;have e:getF (a :: l) p=(getF [a] p).or (getF l p):=Qvq [a] l p;rw[e];by_cases hp:a.1=p
  ·have hab:a=(p,b):=by
    rcases List.mem_cons.1 hm with h1|h1
    ·exact h1.symm
    ·exact absurd (List.mem_map.2 ⟨_,h1,hp.symm⟩) h.1
   subst hab
   have:getF [(p,b)] p=some b:=by simp[getF,Z9]
   rw[this];rfl
  ·have hn:getF [a] p=none:=Qc8.2 (by simpa using hp)
   rw[hn];rcases List.mem_cons.1 hm with h1|h1
   ·exact absurd (by rw[←h1]) hp
   ·simpa using ih h.2 h1
theorem Qvr (l:List Fil) (p b:ByteArray) (h:Z9 l p<l.length):(l.set (Z9 l p) (p,b)).map (·.1)=l.map (·.1):=by
 rw[List.map_set];have hp:=Qea h
 have:(l.map (·.1))[Z9 l p]?=some p:=by rw[List.getElem?_map,List.getElem?_eq_getElem h];simp[hp]
 exact List.set_getElem_self' this
where
 List.set_getElem_self' {α:Type} {l:List α} {i:Nat} {a:α} (h:l[i]?=some a):l.set i a=l:=by
  obtain⟨hlt,rfl⟩:=List.getElem?_eq_some_iff.1 h
  exact List.set_getElem_self hlt
theorem Q1l (l:List Fil) (p b:ByteArray):(putF l p b).map (·.1)=if Z9 l p<l.length then l.map (·.1) else l.map (·.1) ++ [p]:=by
 unfold putF
 split
 ·exact Qvr l p b (by assumption)
 ·simp
theorem Qib (h:Once l) (p b:ByteArray):Once (putF l p b):=by
 unfold Once;rw[Q1l]
 split
 ·exact h
 ·rename_i hn
  rw[List.nodup_append];refine⟨h,by simp,?_⟩;intro x hx y hy e;simp at hy;subst hy;subst e;obtain⟨f,hf,hfx⟩:=List.mem_map.1 hx;exact hn (Qpu.2 ⟨f,hf,hfx⟩)
theorem Qx8 (h:l.map (·.1)=k.map (·.1)) (p:ByteArray):Z9 l p=Z9 k p:=by
 have e:∀ l:List Fil,Z9 l p=(l.map (·.1)).findIdx fun x=>decide (x=p):=by intro l;unfold Z9;rw[List.findIdx_map];rfl
 rw[e,e,h]
theorem Qgn (l:List Fil) (p b q:ByteArray):getF (putF l p b) q=if q=p then some b else getF l q:=by
 unfold putF
 split
 ·rename_i h
  have hk:=Qx8 (Qvr l p b h) q;by_cases hq:q=p
  ·subst hq
   rw[if_pos rfl];unfold getF;rw[hk,List.getElem?_set_self h];rfl
  ·rw[if_neg hq]
   unfold getF;rw[hk,List.getElem?_set]
   split
   ·rename_i he
    have h2:Z9 l q<l.length:=by rw[←he];exact h
    have a:=Qea h;have c:=Qea h2;simp only[he] at a;exact absurd (c.symm.trans a) hq
   ·rfl
 ·rename_i h
  rw[Qvq];by_cases hq:q=p
  ·subst hq
   rw[if_pos rfl,Qdl h];simp[getF,Z9]
  ·rw[if_neg hq]
   have:getF [(p,b)] q=none:=Qc8.2 (by simpa using fun e=>hq e.symm)
   rw[this,Option.or_none]
theorem Qk3 (l:List Fil) (p b:ByteArray):l.length≤(putF l p b).length∧(putF l p b).length≤l.length+1:=by
 unfold putF
 split <;> simp
theorem Qt7 (l:List Fil):Once (firsts l):=by
 unfold firsts
 have:∀ acc,Once acc→Once (l.foldl addF acc):=by
  induction l with
  | nil=>intro acc h;exact h
  | cons a l ih=>
   intro acc h;rw[List.foldl_cons];apply ih;unfold addF
   split
   ·exact h
   ·rename_i hn
    have:putF acc a.1 a.2=acc ++ [a]:=by unfold putF;rw[if_neg hn]
    rw[←this];exact Qib h _ _
 exact this [] (by simp[Once])
end
section
def kCp:List UInt8:=[99,104,101,99,107,112,111,105,110,116]
theorem Qed {l i w l' i' w':Int} (h:Jm l i w) (h':Jm l' i' w') (hi:i<9223372036854775808) (hi':i'<9223372036854775808) (e:Y6 l i w=Y6 l' i' w'):l=l'∧i=i'∧w=w':=by rw[Qbf h,Qbf h'] at e;have a:=Qgj h hi;have b:=Qgj h' hi';rw[e,b] at a;simp only[Prod.mk.injEq] at a;exact⟨a.1.symm,a.2.1.symm,a.2.2.1.symm⟩
theorem Qer (l i w:Int):Y6 l i w≠kCp:=by
 unfold Y6
 split
 ·unfold Ji
  split
  ·intro e;simp[kT,kCp] at e
  ·intro e;simp[kE,kCp] at e
 ·simp[kCp]
def Ye (t:Int) (data:List (List UInt8)) (j:Nat):Fil:=(sOf (Y6 t j ((min 4 (data.length-4*j):Nat):Int)),sOf ((data.drop (4*j)).take 4).flatten)
def Ys (t:Int) (data:List (List UInt8)):List Fil:=(List.range ((data.length+3) / 4)).map (Ye t data)
theorem Qbi (t:Int) (data:List (List UInt8)):(Ys t data).length=(data.length+3) / 4:=by simp[Ys]
theorem Qc6 (t:Int) (data:List (List UInt8)) (j:Nat) (h:4*j<data.length):(Ys t data)[j]?=some (Ye t data j):=by unfold Ys;rw[List.getElem?_map,List.getElem?_range (by omega)];rfl
theorem Qmn (t:Int) (data:List (List UInt8)) (j:Nat) (h:4*j<data.length):(Ys t data).drop j=Ye t data j :: (Ys t data).drop (j+1):=by
 have hl:j<(Ys t data).length:=by rw[Qbi];omega
 rw[List.drop_eq_getElem_cons hl]
 congr 1
 have:=Qc6 t data j h
 rw[List.getElem?_eq_getElem hl] at this;exact Option.some.inj this
theorem Qyd (t:Int) (data:List (List UInt8)) (j:Nat) (h:data.length≤4*j):(Ys t data).drop j = []:=by apply List.drop_eq_nil_of_le;rw[Qbi];omega
def Jl:Int→List (List (List UInt8))→List Fil
 | _,[]=>[]
 | t,r :: rs=>Ys t r++Jl (t+1) rs
def Zc (es:List (List UInt8)):List (List (List UInt8)):=es.map encE :: (levels es).map fun r=>r.map fun (h:Hsh)=>h.toList
def Yu (es:List (List UInt8)):List Fil:=Jl (-1) (Zc es)
variable {f:Fil}
theorem Qbj:∀ (rs:List (List (List UInt8))) (t:Int),f∈Jl t rs↔∃ (n:Nat) (r:List (List UInt8)) (j:Nat),rs[n]?=some r∧4*j<r.length∧f=Ye (t+(n:Int)) r j
 | [],t=>by simp[Jl]
 | r :: rs,t=>by
   rw[Jl,List.mem_append,Qbj rs (t+1)]
   constructor
   ·rintro (h|⟨n,r',j,h1,h2,h3⟩)
    ·unfold Ys at h
     obtain⟨j,hj,rfl⟩:=List.mem_map.1 h
     rw[List.mem_range] at hj
     exact⟨0,r,j,rfl,by omega,by simp⟩
    ·exact⟨n+1,r',j,by simpa using h1,h2,by rw[h3];congr 1;omega⟩
   ·rintro ⟨n,r',j,h1,h2,h3⟩
    cases n with
    | zero=>
     simp at h1
     subst h1
     left
     rw[h3]
     unfold Ys
     exact List.mem_map.2 ⟨j,by rw[List.mem_range];omega,by simp⟩
    | succ n=>exact .inr ⟨n,r',j,by simpa using h1,h2,by rw[h3];congr 1;omega⟩
def Q37 (t:Int) (rs:List (List (List UInt8))):Prop:=-1≤t∧t+rs.length≤21∧∀ r∈rs,r.length<1099511627776
variable {t:Int} {rs:List (List (List UInt8))} {n j:Nat} {r:List (List UInt8)}
theorem Qnf (h:Q37 t rs) (hr:rs[n]?=some r) (hj:4*j<r.length) :
  Jm (t+n) j ((min 4 (r.length-4*j):Nat):Int)∧(j:Int)<9223372036854775808:=by
 obtain⟨h1,h2,h3⟩:=h;have hn:=(List.getElem?_eq_some_iff.1 hr).1;have hl:=h3 r (List.mem_of_getElem? hr);unfold Jm;omega
theorem Qx4 (h:Q37 t rs) {n':Nat} {r':List (List UInt8)} {j':Nat} (hr:rs[n]?=some r) (hj:4*j<r.length) (hr':rs[n']?=some r') (hj':4*j'<r'.length)
  (e:(Ye (t+n) r j).1=(Ye (t+n') r' j').1):n=n'∧j=j':=by
 have a:=Qnf h hr hj;have b:=Qnf h hr' hj'
 have:=Qed a.1 b.1 a.2 b.2 (Qcw e)
 omega
theorem Qyn (h:Q37 t rs) {p a b:ByteArray} (ha:(p,a)∈Jl t rs) (hb:(p,b)∈Jl t rs):a=b:=by
 obtain⟨n,r,j,h1,h2,h3⟩:=(Qbj rs t).1 ha;obtain⟨n',r',j',k1,k2,k3⟩:=(Qbj rs t).1 hb;have e:(Ye (t+n) r j).1=(Ye (t+n') r' j').1:=by rw[←h3,←k3]
 obtain⟨rfl,rfl⟩:=Qx4 h h1 h2 k1 k2 e;rw[h1] at k1;cases k1;rw[←h3] at k3
 have:=congrArg Prod.snd k3
 exact this.symm
theorem Q1h (hm:f∈Jl t rs):f.1≠sOf kCp:=by obtain⟨n,r,j,h1,h2,rfl⟩:=(Qbj rs t).1 hm;exact fun e=>Qer _ _ _ (Qcw e)
def Qfc (d:Dk) (f:Fil):Bool:=Qbl d.files f.1 f.2 || decide (0<Zr d)
def putsD:Dk→List Fil→Dk×Nat
 | d,[]=>(d,0)
 | d,f :: fs=>if Qfc d f=true then (putD d f.1 f.2,0) else ((putsD (putD d f.1 f.2) fs).1,(putsD (putD d f.1 f.2) fs).2+1)
def J1 (t:Int) (row:List (List UInt8)) (j:Nat) (d:Dk):Dk×Nat×Option ByteArray:=
 ((putsD d ((Ys t row).drop j)).1,4*min (j+(putsD d ((Ys t row).drop j)).2) (row.length / 4),((Ys t row)[j+(putsD d ((Ys t row).drop j)).2]?).map (·.1))
theorem Qxz (t:Int) (row:List (List UInt8)) (j:Nat) (d:Dk) (h:row.length≤4*j):J1 t row j d=(d,4*(row.length / 4),none):=by unfold J1;rw[Qyd t row j h];simp only[putsD,Nat.add_zero];rw[List.getElem?_eq_none (by rw[Qbi];omega),Nat.min_eq_right (by omega)];rfl
theorem Qw1 (t:Int) (row:List (List UInt8)) (j:Nat) (d:Dk) (h:4*j<row.length) (hb:Qfc d (Ye t row j)=true) :
  J1 t row j d=(putD d (Ye t row j).1 (Ye t row j).2,4*min j (row.length / 4),some (Ye t row j).1):=by
 unfold J1;rw[Qmn t row j h];simp only[putsD,if_pos hb,Nat.add_zero];rw[Qc6 t row j h];rfl
theorem Qt1 (t:Int) (row:List (List UInt8)) (j:Nat) (d:Dk) (h:4*j<row.length) (hb:Qfc d (Ye t row j)=false) :
  J1 t row j d=J1 t row (j+1) (putD d (Ye t row j).1 (Ye t row j).2):=by
 have hb':¬ Qfc d (Ye t row j)=true:=by simp[hb]
 unfold J1;rw[Qmn t row j h];simp only[putsD,if_neg hb'];generalize putsD (putD d (Ye t row j).1 (Ye t row j).2) ((Ys t row).drop (j+1))=q;rw[show j+(q.2+1)=j+1+q.2 by omega]
def pubJ:Nat→List (List (List UInt8))→List Nat→Dk→Dk×List Nat×Option ByteArray
 | _,[],put,d=>(d,put,none)
 | n,r :: rs,put,d=>
   let p1:=put++List.replicate (n+1-put.length) 0
   let q:=J1 ((n:Int)-1) r (p1.getD n 0 / 4) d
   match q.2.2 with
   | some p=>(q.1,p1.set n q.2.1,some p)
   | none=>pubJ (n+1) rs (p1.set n q.2.1) q.1
end
section
def Ext (W l l':List Fil):Prop:=∀ p,getF l' p=getF l p∨(getF l p=none∧∃ b,(p,b)∈W∧getF l' p=some b)
def Qa0 (W l:List Fil):Prop:=∀ f∈W,Qbl l f.1 f.2=false
def Qtq (W:List Fil):Prop:=∀ p a b,(p,a)∈W→(p,b)∈W→a=b
theorem Ext.refl (W l:List Fil):Ext W l l:=fun _=>.inl rfl
variable {W a b:List Fil}
theorem Ext.trans {c:List Fil} (h:Ext W a b) (k:Ext W b c):Ext W a c:=fun p=>by
 rcases k p with h1|⟨h1,x,h2,h3⟩
 ·rcases h p with h4|⟨h4,x,h5,h6⟩
  ·exact .inl (h1.trans h4)
  ·exact .inr ⟨h4,x,h5,h1.trans h6⟩
 ·rcases h p with h4|⟨h4,x,h5,h6⟩
  ·exact .inr ⟨h4.symm.trans h1,x,h2,h3⟩
  ·rw[h6] at h1;cases h1
variable {p:ByteArray}
theorem Ext.keeps (h:Ext W a b) {x:ByteArray} (hp:getF a p=some x):getF b p=some x:=by
 rcases h p with h1|⟨h1,_⟩
 ·exact h1.trans hp
 ·rw[hp] at h1;cases h1
variable {l:List Fil}
theorem Qdu {b:ByteArray}:Qbl l p b=false↔getF l p=none∨getF l p=some b:=by
 unfold Qbl;cases getF l p with
 | none=>simp
 | some x=>simp
theorem Qa0.ext {l':List Fil} (h:Qa0 W l) (ho:Qtq W) (he:Ext W l l'):Qa0 W l':=by
 intro f hf;rw[Qdu];rcases he f.1 with h1|⟨h1,b,h2,h3⟩
 ·rw[h1];exact Qdu.1 (h f hf)
 ·right;rw[h3,ho f.1 b f.2 h2 hf]
variable {f:Fil}
theorem Q5z (hf:f∈W) (hn:Qa0 W l):Ext W l (putF l f.1 f.2):=by
 intro p;rw[Qgn]
 split
 ·rename_i h
  subst h;rcases Qdu.1 (hn f hf) with h1|h1
  ·exact .inr ⟨h1,f.2,hf,rfl⟩
  ·exact .inl h1.symm
 ·exact .inl rfl
theorem Qzt {b:ByteArray} (h:f∈putF l p b):f∈l∨f=(p,b):=by
 unfold putF at h
 split at h
 ·rcases List.mem_or_eq_of_mem_set h with h1|h1
  ·exact .inl h1
  ·exact .inr h1
 ·rcases List.mem_append.1 h with h1|h1
  ·exact .inl h1
  ·exact .inr (by simpa using h1)
structure Qje (d:Dk):Prop where
 dead:d.dead=false
 hit:d.hit=false
 turned:d.turned=false
 once:Once d.files
structure Qbx (W:List Fil) (k:Nat) (d d':Dk):Prop where
 ext:Ext W d.files d'.files
 once:Once d'.files
 turned:d'.turned=false
 mem:∀ f∈d'.files,f∈d.files∨f∈W
 len:d'.files.length≤d.files.length+k
 calls:d'.calls≤d.calls+k
variable {d:Dk}
theorem Qbx.refl (W:List Fil) (h:Qje d):Qbx W 0 d d:=⟨Ext.refl W _,h.once,h.turned,fun f hf=>.inl hf,Nat.le_refl _,Nat.le_refl _⟩
variable {j k:Nat}
theorem Qbx.trans {a b c:Dk} (h:Qbx W j a b) (i:Qbx W k b c):Qbx W (j+k) a c where
 ext:=h.ext.trans i.ext
 once:=i.once
 turned:=i.turned
 mem f hf:=by
  rcases i.mem f hf with h1|h1
  ·exact h.mem f h1
  ·exact .inr h1
 len:=by have:=h.len;have:=i.len;omega
 calls:=by have:=h.calls;have:=i.calls;omega
theorem Qbx.more {a b:Dk} (h:Qbx W j a b) (hk:j≤k):Qbx W k a b where
 ext:=h.ext
 once:=h.once
 turned:=h.turned
 mem:=h.mem
 len:=Nat.le_trans h.len (by omega)
 calls:=Nat.le_trans h.calls (by omega)
theorem Qgq (h:Qje d) (hk:Zr d=0):(Zj d).hit=false∧(Zj d).dead=false∧(Zj d).turned=false:=by
 unfold Zr at hk;rw[if_neg (by simp[h.dead])] at hk;have hh:¬ Y1 d=true:=by
  intro hh;rw[if_pos hh] at hk
  split at hk <;> omega
 unfold Zj;rw[if_neg hh];exact⟨h.hit,h.dead,h.turned⟩
theorem Qic (h:Qje d) (hk:0<Zr d):(Zj d).hit=true∧(Zj d).turned=false:=by
 unfold Zr at hk;rw[if_neg (by simp[h.dead])] at hk;have hh:Y1 d=true:=by
  cases hh:Y1 d with
  | true=>rfl
  | false=>rw[hh] at hk;simp at hk
 unfold Zj;rw[if_pos hh];exact⟨rfl,h.turned⟩
theorem Qly (d:Dk) (p b:ByteArray):(Qb2 d p b).hit=(Zj d).hit∧(Qb2 d p b).dead=(Zj d).dead∧(Qb2 d p b).turned=(Zj d).turned∧(Qb2 d p b).calls=d.calls+1:=by
 unfold Qb2
 split <;> exact⟨rfl,rfl,rfl,Qkc d⟩
theorem Qev (d:Dk) (p b:ByteArray):(Qb2 d p b).files=if Zr d<2 then putF d.files p b else d.files:=by
 unfold Qb2
 split
 ·rfl
 ·exact Yy d
theorem Qtu (hd:Qje d) (hn:Qa0 W d.files) (hf:f∈W):Qbx W 1 d (putD d f.1 f.2)∧(Qfc d f=false→Qje (putD d f.1 f.2)∧getF (putD d f.1 f.2).files f.1=some f.2)∧(Qfc d f=true→(putD d f.1 f.2).hit=true):=by
 have hc:=hn f hf;have hp:putD d f.1 f.2=Qb2 d f.1 f.2:=by unfold putD;rw[if_neg (by simp[hc])]
 obtain⟨s1,s2,s3,s4⟩:=Qly d f.1 f.2;have s5:=Qev d f.1 f.2;have hb:Qfc d f=decide (0<Zr d):=by unfold Qfc;rw[hc];simp
 have ht:(Zj d).turned=false:=by
  rcases Nat.eq_zero_or_pos (Zr d) with h|h
  ·exact (Qgq hd h).2.2
  ·exact (Qic hd h).2
 rw[hp];refine⟨⟨?_,?_,by rw[s3,ht],?_,?_,by omega⟩,?_,?_⟩
 ·rw[s5]
  split
  ·exact Q5z hf hn
  ·exact Ext.refl W _
 ·rw[s5]
  split
  ·exact Qib hd.once _ _
  ·exact hd.once
 ·rw[s5]
  intro g hg
  split at hg
  ·rcases Qzt hg with h1|h1
   ·exact .inl h1
   ·exact .inr (by rw[h1];exact hf)
  ·exact .inl hg
 ·rw[s5]
  split
  ·exact (Qk3 _ _ _).2
  ·omega
 ·intro h
  rw[hb] at h;have h0:Zr d=0:=by simpa using h
  obtain⟨t1,t2,t3⟩:=Qgq hd h0;have hfl:(Qb2 d f.1 f.2).files=putF d.files f.1 f.2:=by rw[s5,if_pos (by omega)]
  exact⟨⟨by rw[s2,t2],by rw[s1,t1],by rw[s3,t3],by rw[hfl];exact Qib hd.once _ _⟩,by rw[hfl,Qgn,if_pos rfl]⟩
 ·intro h
  rw[hb] at h;rw[s1];exact (Qic hd (by simpa using h)).1
theorem Qu9 (ho:Qtq W):∀ (fs:List Fil) (d:Dk),(∀ f∈fs,f∈W)→Qje d→Qa0 W d.files→
  Qbx W fs.length d (putsD d fs).1∧(((putsD d fs).2=fs.length∧Qje (putsD d fs).1∧∀ f∈fs,getF (putsD d fs).1.files f.1=some f.2)∨((putsD d fs).2<fs.length∧(putsD d fs).1.hit=true))
 | [],d,_,hd,_=>⟨Qbx.refl W hd,.inl ⟨rfl,hd,fun f hf=>by simp at hf⟩⟩
 | f :: fs,d,hs,hd,hn=>by
   have hf:=hs f List.mem_cons_self
   obtain⟨h1,h2,h3⟩:=Qtu hd hn hf
   cases hb:Qfc d f with
   | true=>
    simp only[putsD,hb,if_true]
    exact⟨h1.more (by simp),.inr ⟨by simp,h3 hb⟩⟩
   | false=>
    obtain⟨h4,h5⟩:=h2 hb
    obtain⟨h6,h7⟩:=Qu9 ho fs (putD d f.1 f.2) (fun g hg=>hs g (List.mem_cons_of_mem _ hg)) h4 (hn.ext ho h1.ext)
    simp only[putsD,hb,Bool.false_eq_true,if_false]
    refine⟨(h1.trans h6).more (by simp;omega),?_⟩
    rcases h7 with ⟨a1,a2,a3⟩|⟨a1,a2⟩
    ·refine .inl ⟨by simp[a1],a2,fun g hg=>?_⟩
     rcases List.mem_cons.1 hg with rfl|hg
     ·exact h6.ext.keeps h5
     ·exact a3 g hg
    ·exact .inr ⟨by simp;omega,a2⟩
def Qho (l:List Fil) (R:List (List (List UInt8))) (put:List Nat):Prop:=
 put.length≤R.length∧∀ (m a:Nat) (r:List (List UInt8)),put[m]?=some a→R[m]?=some r→a%4=0∧a≤r.length∧∀ j,4*j+4≤a→getF l (Ye ((m:Int)-1) r j).1=some (Ye ((m:Int)-1) r j).2
theorem Qho.pad {R:List (List (List UInt8))} {put:List Nat} (h:Qho l R put) {n:Nat} (hn:n<R.length):Qho l R (put++List.replicate (n+1-put.length) 0):=by
 refine⟨by simp;have:=h.1;omega,fun m a r ha hr=>?_⟩;rcases Nat.lt_or_ge m put.length with hm|hm
 ·rw[List.getElem?_append_left hm] at ha
  exact h.2 m a r ha hr
 ·rw[List.getElem?_append_right hm,List.getElem?_replicate] at ha
  split at ha
  ·cases ha
   exact⟨rfl,by omega,fun j hj=>by omega⟩
  ·cases ha
def Qpn (R:List (List (List UInt8))):Nat:=(R.map fun r=>(r.length+3) / 4).sum
theorem Q5s (ho:Qtq W) (R:List (List (List UInt8))):∀ (m n:Nat) (put:List Nat) (d:Dk),m+n=R.length→(∀ f∈Jl ((n:Int)-1) (R.drop n),f∈W)→Qje d→Qa0 W d.files→Qho d.files R put→
  Qbx W (Qpn (R.drop n)) d (pubJ n (R.drop n) put d).1∧
  (((pubJ n (R.drop n) put d).2.2=none∧Qje (pubJ n (R.drop n) put d).1∧Qho (pubJ n (R.drop n) put d).1.files R (pubJ n (R.drop n) put d).2.1∧∀ f∈Jl ((n:Int)-1) (R.drop n),getF (pubJ n (R.drop n) put d).1.files f.1=some f.2)∨
     (∃ p b,(pubJ n (R.drop n) put d).2.2=some p∧(p,b)∈W∧(pubJ n (R.drop n) put d).1.hit=true)):=by
 intro m
 induction m with
 | zero=>
  intro n put d hmn hW hd hn hp;rw[List.drop_eq_nil_of_le (by omega)];simp only[pubJ,Jl,Qpn];exact⟨Qbx.refl W hd,.inl ⟨trivial,hd,hp,fun f hf=>by simp at hf⟩⟩
 | succ m ih=>
  intro n put d hmn hW hd hn hp;have hnl:n<R.length:=by omega
  rw[List.drop_eq_getElem_cons hnl] at hW ⊢;obtain⟨r,hr⟩:∃ r,r=R[n]:=⟨_,rfl⟩
  have hrn:R[n]?=some r:=by rw[List.getElem?_eq_getElem hnl,hr]
  rw[←hr] at hW ⊢;simp only[pubJ];obtain⟨p1,hp1⟩:∃ p1,p1=put++List.replicate (n+1-put.length) 0:=⟨_,rfl⟩
  have hP:=hp.pad hnl;rw[←hp1] at hP ⊢;have hnp:n<p1.length:=by rw[hp1];simp;omega
  obtain⟨a,ha⟩:∃ a,p1[n]?=some a:=⟨_,List.getElem?_eq_getElem hnp⟩
  have hga:p1.getD n 0=a:=by rw[List.getD_eq_getElem?_getD,ha];rfl
  rw[hga];obtain⟨b1,b2,b3⟩:=hP.2 n a r ha hrn;simp only[Jl] at hW;have hW1:∀ f∈Ys ((n:Int)-1) r,f∈W:=fun f hf=>hW f (List.mem_append_left _ hf)
  obtain⟨c1,c2⟩:=Qu9 ho ((Ys ((n:Int)-1) r).drop (a / 4)) d (fun f hf=>hW1 f (List.mem_of_mem_drop hf)) hd hn;obtain⟨q,hq⟩:∃ q,q=putsD d ((Ys ((n:Int)-1) r).drop (a / 4)):=⟨_,rfl⟩
  have hlen:((Ys ((n:Int)-1) r).drop (a / 4)).length=(r.length+3) / 4-a / 4:=by rw[List.length_drop,Qbi]
  rw[←hq,hlen] at c1 c2;have hroom:Qpn (r :: R.drop (n+1))=(r.length+3) / 4+Qpn (R.drop (n+1)):=rfl;have hw:J1 ((n:Int)-1) r (a / 4) d=(q.1,4*min (a / 4+q.2) (r.length / 4),((Ys ((n:Int)-1) r)[a / 4+q.2]?).map (·.1)):=by unfold J1;rw[←hq]
  rw[hw];have hold:∀ j,j<a / 4→getF q.1.files (Ye ((n:Int)-1) r j).1=some (Ye ((n:Int)-1) r j).2:=fun j hj=>c1.ext.keeps (b3 j (by omega))
  rcases c2 with ⟨d1,d2,d3⟩|⟨d1,d2⟩
  ·have hall:∀ j,4*j<r.length→getF q.1.files (Ye ((n:Int)-1) r j).1=some (Ye ((n:Int)-1) r j).2:=by
    intro j hj;rcases Nat.lt_or_ge j (a / 4) with h|h
    ·exact hold j h
    ·apply d3
     apply List.mem_of_getElem? (i:=j-a / 4);rw[List.getElem?_drop,show a / 4+(j-a / 4)=j by omega,Qc6 _ _ _ hj]
   have hnone:(Ys ((n:Int)-1) r)[a / 4+q.2]?=none:=List.getElem?_eq_none (by rw[Qbi];omega);rw[hnone];simp only[Option.map_none];have hP2:Qho q.1.files R (p1.set n (4*min (a / 4+q.2) (r.length / 4))):=by
    refine⟨by rw[List.length_set];exact hP.1,fun i x y hx hy=>?_⟩;rw[List.getElem?_set] at hx
    split at hx
    ·rename_i hi
     subst hi;rw[hrn] at hy;cases hx;cases hy;exact⟨by omega,by omega,fun j hj=>hall j (by omega)⟩
    ·exact⟨(hP.2 i x y hx hy).1,(hP.2 i x y hx hy).2.1,fun j hj=>c1.ext.keeps ((hP.2 i x y hx hy).2.2 j hj)⟩
   have hI:=ih (n+1) (p1.set n (4*min (a / 4+q.2) (r.length / 4))) q.1 (by omega) (fun f hf=>hW f (List.mem_append_right _ (by rw[show ((n:Int)-1+1)=((n+1:Nat):Int)-1 by omega];exact hf))) d2 (hn.ext ho c1.ext) hP2;obtain⟨i1,i2⟩:=hI;refine⟨?_,?_⟩
   ·rw[hroom]
    exact (c1.trans i1).more (by omega)
   ·rcases i2 with ⟨e1,e2,e3,e4⟩|h
    ·refine .inl ⟨e1,e2,e3,fun f hf=>?_⟩
     simp only[Jl] at hf;rcases List.mem_append.1 hf with hf|hf
     ·unfold Ys at hf
      obtain⟨j,hj,rfl⟩:=List.mem_map.1 hf;rw[List.mem_range] at hj;exact i1.ext.keeps (hall j (by omega))
     ·exact e4 f (by rw[show (((n+1:Nat):Int)-1)=(n:Int)-1+1 by omega];exact hf)
    ·exact .inr h
  ·have hlt:a / 4+q.2<(r.length+3) / 4:=by omega
   have hg:=Qc6 ((n:Int)-1) r (a / 4+q.2) (by omega);rw[hg];simp only[Option.map_some];exact⟨by rw[hroom];exact c1.more (by omega),.inr ⟨_,(Ye ((n:Int)-1) r (a / 4+q.2)).2,rfl,hW1 _ (List.mem_of_getElem? hg),d2⟩⟩
end
end Go.Proofs.YtefccfakhgdfbabGreatDoor
