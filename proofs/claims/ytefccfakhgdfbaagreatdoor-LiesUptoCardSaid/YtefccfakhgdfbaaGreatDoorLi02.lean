/- Publishing, the whole: what is kept, what is there; an entry more. Plain. Conditions: at most 2^20 entries. -/
import Derived.Test.YtefccfakhgdfbaaGreatDoorLi01
import Derived.Lib.ItoaNum
import Derived.Lib.AtoiAll
import Derived.Lib.Split
set_option linter.unusedVariables false
set_option linter.unusedSimpArgs false
open Go.RowKit Go.Proofs.Tryz
set_option maxRecDepth 100000
set_option maxHeartbeats 4000000
namespace Go.Proofs.YtefccfakhgdfbaaGreatDoor
section
def hstep (z:Int) (x:UInt8):Int:=IntKind.u64.wrap (bits BinOp.xor IntKind.u64 z (IntKind.u64.wrap x.toNat)*1099511628211)
def hstart:Int:=14695981039346656037
def hfold (l:List UInt8):Int:=l.foldl hstep hstart
theorem Qtv (x:Int):0≤IntKind.u64.wrap x∧IntKind.u64.wrap x<2 ^ 64:=by simp only[IntKind.wrap,IntKind.bits,IntKind.signed];simp;omega
theorem Qvw (l:List UInt8):0≤hfold l∧hfold l<2 ^ 64:=by
 have:∀ (l:List UInt8) (z:Int),0≤z∧z<2 ^ 64→0≤l.foldl hstep z∧l.foldl hstep z<2 ^ 64:=by
  intro l
  induction l with
  | nil=>intro z hz;exact hz
  | cons x l ih=>intro z _;exact ih _ (Qtv _)
 exact this l _ (by unfold hstart;omega)
def hbytes (y:Int):Hsh:=#v[UInt8.ofNat (y / 72057594037927936%256).toNat,UInt8.ofNat (y / 281474976710656%256).toNat,UInt8.ofNat (y / 1099511627776%256).toNat,UInt8.ofNat (y / 4294967296%256).toNat,
 UInt8.ofNat (y / 16777216%256).toNat,UInt8.ofNat (y / 65536%256).toNat,UInt8.ofNat (y / 256%256).toNat,UInt8.ofNat (y%256).toNat]
def hash (l:List UInt8):Hsh:=hbytes (hfold l)
theorem Zak (y:Int):u8 (UInt8.ofNat (y%256).toNat)=.int .u8 (y%256):=by
 have h:0≤y%256∧y%256<256:=by omega
 show Value.int .u8 _=_
 congr 1
 rw[UInt8.toNat_ofNat'];omega
theorem Qtc (y:Int):h8 (hbytes y)=#[.int .u8 (y / 72057594037927936%256),.int .u8 (y / 281474976710656%256),.int .u8 (y / 1099511627776%256),.int .u8 (y / 4294967296%256),.int .u8 (y / 16777216%256),.int .u8 (y / 65536%256),.int .u8 (y / 256%256),.int .u8 (y%256)]:=by simp only[h8,hbytes,←Zak];simp
def Jx (l:List UInt8):Hsh:=hash (0 :: l)
def Z1 (a b:Hsh):Hsh:=hash (1 :: (a.toList++b.toList))
theorem Qj5 {α:Type} {ls:List (List α)} {k:Nat} {l:List α} (h:ls[k]?=some l):(ls.take (k+1)).flatten=(ls.take k).flatten++l:=by rw[List.take_add_one,h];simp
theorem Qo6 (l:List UInt8) (x:UInt8):hfold (l ++ [x])=hstep (hfold l) x:=by simp[hfold]
theorem Qoi {l:List UInt8} {j:Nat} {x:UInt8} (h:l[j]?=some x):l.take (j+1)=l.take j ++ [x]:=by rw[List.take_add_one,h];simp
def Qk0 (leaf:Hsh):(i n:Nat)→List Hsh→Option Hsh
 | _,n,[]=>if n=1 then some leaf else none
 | i,n,last :: rest=>if n=1 then none else if i<2 ^ (Lib.bitLen (n-1)-1) then (Qk0 leaf i (2 ^ (Lib.bitLen (n-1)-1)) rest).map (Z1 · last)
   else (Qk0 leaf (i-2 ^ (Lib.bitLen (n-1)-1)) (n-2 ^ (Lib.bitLen (n-1)-1)) rest).map (Z1 last ·)
def rebuild (leaf:Hsh) (i n:Nat) (p:List Hsh):Option Hsh:=Qk0 leaf i n p.reverse
def included (leaf:Hsh) (i n:Int) (p:List Hsh) (root:Hsh):Bool:=decide (0≤i) && decide (i<n) && (rebuild leaf i.toNat n.toNat p == some root)
def Ql5:(m n:Nat)→Option Hsh→List Hsh→Option (Hsh×Hsh)
 | m,n,whole,[]=>if m=n then whole.map fun a=>(a,a) else none
 | m,n,whole,r :: rest=>if m=n then (match whole with|some _=>none|none=>if rest = [] then some (r,r) else none)
   else if m≤2 ^ (Lib.bitLen (n-1)-1) then (Ql5 m (2 ^ (Lib.bitLen (n-1)-1)) whole rest).map fun x=>(x.1,Z1 x.2 r)
   else (Ql5 (m-2 ^ (Lib.bitLen (n-1)-1)) (n-2 ^ (Lib.bitLen (n-1)-1)) none rest).map fun x=>(Z1 r x.1,Z1 r x.2)
def roots (m n:Nat) (whole:Option Hsh) (p:List Hsh):Option (Hsh×Hsh):=Ql5 m n whole p.reverse
def consistent (m n:Int) (a b:Hsh) (p:List Hsh):Bool:=decide (1≤m) && decide (m≤n) && (roots m.toNat n.toNat (some a) p == some (a,b))
def Yo (l:List UInt8):Hsh:=#v[l.getD 0 0,l.getD 1 0,l.getD 2 0,l.getD 3 0,l.getD 4 0,l.getD 5 0,l.getD 6 0,l.getD 7 0]
def below (n:Nat):Nat:=2 ^ (Lib.bitLen (n-1)-1)
variable {n:Nat}
theorem Qx6 (h2:2≤n) (h3:n<9223372036854775808):∃ e,Lib.bitLen (n-1)=e+1∧e≤62∧2 ^ e<n∧n≤2*2 ^ e:=by
 have h:=Lib.bitLenAux_bounds 64 (n-1) (by omega) (by omega);obtain⟨e,he⟩:∃ e,Lib.bitLen (n-1)=e+1:=⟨Lib.bitLen (n-1)-1,by unfold Lib.bitLen;omega⟩
 have a:Lib.bitLenAux 64 (n-1)=e+1:=he;rw[a] at h;simp only[Nat.add_sub_cancel] at h;refine⟨e,he,?_,by omega,by have:=h.2.2;rw[Nat.pow_succ] at this;omega⟩;rcases Nat.lt_or_ge e 63 with h' | h'
 ·omega
 ·have:=Nat.pow_le_pow_right (n:=2) (by decide) h'
  omega
theorem Qe4 (h2:2≤n) (h3:n<9223372036854775808):0<below n∧below n<n∧n≤2*below n:=by obtain⟨e,he,_,h4,h5⟩:=Qx6 h2 h3;unfold below;rw[he,Nat.add_sub_cancel];exact⟨Nat.two_pow_pos e,h4,h5⟩
theorem Qo3 {e:Nat} (h2:2≤n) (h3:n<9223372036854775808) (h4:2 ^ e<n) (h5:n≤2*2 ^ e):below n=2 ^ e:=by
 obtain⟨e',he,_,h6,h7⟩:=Qx6 h2 h3;unfold below;rw[he,Nat.add_sub_cancel];rcases Nat.lt_trichotomy e e' with h|h|h
 ·have:=Nat.pow_le_pow_right (n:=2) (by decide) (show e+1≤e' from h)
  rw[Nat.pow_succ] at this;omega
 ·rw[h]
 ·have:=Nat.pow_le_pow_right (n:=2) (by decide) (show e'+1≤e from h)
  rw[Nat.pow_succ] at this;omega
end
section
def Qqg:Nat→List (List UInt8)→Hsh
 | 0,_=>hash []
 | f+1,l=>if l.length=0 then hash [] else if l.length=1 then Jx (l.getD 0 []) else Z1 (Qqg f (l.take (below l.length))) (Qqg f (l.drop (below l.length)))
def rootOf (l:List (List UInt8)):Hsh:=Qqg l.length l
theorem Yi {n:Nat} (h2:2≤n):0<below n∧below n<n:=by
 unfold below;have h:=Nat.two_pow_pos (Lib.bitLen (n-1)-1);refine⟨h,?_⟩;by_cases hb:n-1<2 ^ 64
 ·have:=Lib.bitLenAux_bounds 64 (n-1) hb (by omega)
  have h2:=this.2.1;show 2 ^ (Lib.bitLenAux 64 (n-1)-1)<n;omega
 ·have:Lib.bitLenAux 64 (n-1)≤64:=by
   have hf:∀ (f x:Nat),Lib.bitLenAux f x≤f:=by
    intro f
    induction f with
    | zero=>intro x;simp[Lib.bitLenAux]
    | succ f ih=>intro x;simp only[Lib.bitLenAux];split;omega;have:=ih (x / 2);omega
   exact hf 64 _
  have h3:2 ^ (Lib.bitLenAux 64 (n-1)-1)≤2 ^ 63:=Nat.pow_le_pow_right (by decide) (by omega);show 2 ^ (Lib.bitLenAux 64 (n-1)-1)<n;omega
theorem Qg3:∀ (f g:Nat) (l:List (List UInt8)),l.length≤f→l.length≤g→Qqg f l=Qqg g l
 | 0,0,_,_,_=>rfl
 | 0,g+1,l,h,_=>by
  have:l.length=0:=by omega
  simp[Qqg,this]
 | f+1,0,l,_,h=>by
  have:l.length=0:=by omega
  simp[Qqg,this]
 | f+1,g+1,l,h1,h2=>by
  simp only[Qqg]
  split
  ·rfl
  ·split
   ·rfl
   ·have hb:=Yi (n:=l.length) (by omega)
    rw[Qg3 f g _ (by simp;omega) (by simp;omega),Qg3 f g (l.drop _) (by simp;omega) (by simp;omega)]
theorem Qzk (e:List UInt8):rootOf [e]=Jx e:=rfl
theorem Qd3 {l:List (List UInt8)} (h:2≤l.length):rootOf l=Z1 (rootOf (l.take (below l.length))) (rootOf (l.drop (below l.length))):=by
 unfold rootOf;have hb:=Yi h;obtain⟨n,hn⟩:∃ n,l.length=n+1:=⟨l.length-1,by omega⟩
 rw[hn];simp only[Qqg];rw[if_neg (by omega),if_neg (by omega),hn];rw[hn] at hb
 congr 1
 ·exact Qg3 _ _ _ (by simp;omega) (Nat.le_refl _)
 ·exact Qg3 _ _ _ (by simp;omega) (Nat.le_refl _)
def Zu (ls:List (List UInt8)):Nat→Nat→Hsh
 | 0,i=>Jx (ls.getD i [])
 | L+1,i=>Z1 (Zu ls L (2*i)) (Zu ls L (2*i+1))
theorem Qru (e:Nat) (he:e+1≤62):below (2 ^ (e+1))=2 ^ e:=by
 have h1:2 ^ (e+1)≤2 ^ 62:=Nat.pow_le_pow_right (by decide) he;have h2:2 ^ e≥1:=Nat.two_pow_pos e;rw[Nat.pow_succ] at h1;apply Qo3
 ·rw[Nat.pow_succ];omega
 ·rw[Nat.pow_succ];omega
 ·rw[Nat.pow_succ];omega
 ·rw[Nat.pow_succ];omega
theorem Qdw (ls:List (List UInt8)):∀ (L i:Nat),L≤62→(i+1)*2 ^ L≤ls.length→Zu ls L i=rootOf ((ls.drop (i*2 ^ L)).take (2 ^ L))
 | 0,i,_,h=>by
  simp only[Nat.pow_zero,Nat.mul_one] at h ⊢
  have hi:i<ls.length:=by omega
  rw[List.drop_eq_getElem_cons hi]
  show _=rootOf [ls[i]]
  rw[Qzk]
  simp[Zu,List.getD,hi]
 | L+1,i,hL,h=>by
  have hp:2 ^ L≥1:=Nat.two_pow_pos L
  have a:((ls.drop (i*2 ^ (L+1))).take (2 ^ (L+1))).length=2 ^ (L+1):=by
   rw[List.length_take,List.length_drop]
   rw[Nat.add_mul] at h
   omega
  rw[Qd3 (by rw[a,Nat.pow_succ];omega),a,Qru L hL]
  have e1:i*2 ^ (L+1)=(2*i)*2 ^ L:=by rw[Nat.pow_succ,Nat.mul_comm 2 i,Nat.mul_assoc,Nat.mul_comm (2 ^ L) 2]
  have e2:2 ^ (L+1)=2 ^ L+2 ^ L:=by rw[Nat.pow_succ];omega
  have e3:(2*i+1)*2 ^ L=(2*i)*2 ^ L+2 ^ L:=by rw[Nat.add_mul,Nat.one_mul]
  have e4:(i+1)*2 ^ (L+1)=(2*i)*2 ^ L+2 ^ L+2 ^ L:=by rw[Nat.add_mul,Nat.one_mul,e1,e2];omega
  rw[e4] at h
  simp only[Zu]
  rw[Qdw ls L (2*i) (by omega) (by rw[Nat.add_mul,Nat.one_mul];omega),Qdw ls L (2*i+1) (by omega) (by rw[Nat.add_mul,Nat.one_mul,e3];omega)]
  congr 2
  ·rw[List.take_take,e1,e2];congr 1;omega
  ·rw[e3,e1,e2,List.drop_take,List.drop_drop]
   congr 1
   omega
end
section
def node4 (r:List Hsh):Hsh:=Z1 (Z1 (r.getD (r.length-4) zero8) (r.getD (r.length-4+1) zero8)) (Z1 (r.getD (r.length-4+2) zero8) (r.getD (r.length-4+3) zero8))
def Qd7:List (List Hsh)→Hsh→List (List Hsh)
 | [],h=>[[h]]
 | r :: rs,h=>if (r.length+1)%4=0 then (r ++ [h]) :: Qd7 rs (node4 (r ++ [h])) else (r ++ [h]) :: rs
def nLev (n:Nat):Nat:=if h:n=0 then 0 else nLev (n / 4)+1
termination_by n
decreasing_by omega
theorem Qan (n:Nat):∀ k,k<nLev n↔4 ^ k≤n:=by
 induction n using Nat.strongRecOn with
 | _ n ih=>
  intro k;rw[nLev]
  split
  ·rename_i h
   have:=Nat.pow_pos (n:=k) (show 0<4 by decide)
   omega
  ·rename_i h
   cases k with
   | zero=>simp;omega
   | succ k=>
    have h1:=ih (n / 4) (by omega) k;rw[Nat.add_lt_add_iff_right,h1,Nat.le_div_iff_mul_le (by decide),Nat.pow_succ]
def Z5 (ls:List (List UInt8)) (k:Nat):List Hsh:=(List.range (ls.length / 4 ^ k)).map fun j=>Zu ls (2*k) j
def levels (ls:List (List UInt8)):List (List Hsh):=(List.range (nLev ls.length)).map (Z5 ls)
theorem Qc7 (ls:List (List UInt8)) (e:List UInt8):∀ (L i:Nat),(i+1)*2 ^ L≤ls.length→Zu (ls ++ [e]) L i=Zu ls L i
 | 0,i,h=>by
  have hi:i<ls.length:=by simp at h;omega
  simp only[Zu]
  rw[List.getD_eq_getElem?_getD,List.getD_eq_getElem?_getD,List.getElem?_append_left hi]
 | L+1,i,h=>by
  have e1:(i+1)*2 ^ (L+1)=(2*i+1+1)*2 ^ L:=by rw[Nat.pow_succ,Nat.mul_comm (2 ^ L) 2,←Nat.mul_assoc];congr 1;omega
  have e2:(2*i+1)*2 ^ L≤(2*i+1+1)*2 ^ L:=Nat.mul_le_mul_right _ (by omega)
  simp only[Zu]
  rw[Qc7 ls e L (2*i) (by omega),Qc7 ls e L (2*i+1) (by omega)]
theorem pow24 (k:Nat):2 ^ (2*k)=4 ^ k:=by rw[Nat.pow_mul]
theorem Qac (ls:List (List UInt8)) (k:Nat):(Z5 ls k).length=ls.length / 4 ^ k:=by simp[Z5]
theorem Qcq (ls:List (List UInt8)) (k j:Nat) (h:j<ls.length / 4 ^ k):(Z5 ls k).getD j zero8=Zu ls (2*k) j:=by rw[List.getD_eq_getElem?_getD];simp[Z5,h]
theorem Qie (ls:List (List UInt8)) (e:List UInt8) (k:Nat) (h:(ls.length+1) / 4 ^ k=ls.length / 4 ^ k):Z5 (ls ++ [e]) k=Z5 ls k:=by
 unfold Z5;rw[List.length_append,show [e].length=1 from rfl,h];apply List.map_congr_left;intro j hj;have a:j<ls.length / 4 ^ k:=by simpa using hj
 apply Qc7;rw[pow24]
 have:=(Nat.le_div_iff_mul_le (Nat.pow_pos (n:=k) (show 0<4 by decide))).1 (show j+1≤ls.length / 4 ^ k by omega)
 exact this
theorem Qe7 (ls:List (List UInt8)) (e:List UInt8) (k q:Nat) (hq:ls.length / 4 ^ k=q) (hq':(ls.length+1) / 4 ^ k=q+1):Z5 (ls ++ [e]) k=Z5 ls k ++ [Zu (ls ++ [e]) (2*k) q]:=by
 unfold Z5;rw[List.length_append,show [e].length=1 from rfl,hq',hq,List.range_succ,List.map_append]
 congr 1
 apply List.map_congr_left;intro j hj;have a:j<q:=by simpa using hj
 apply Qc7;rw[pow24];exact (Nat.le_div_iff_mul_le (Nat.pow_pos (n:=k) (show 0<4 by decide))).1 (show j+1≤ls.length / 4 ^ k by omega)
theorem Qn8 (ls:List (List UInt8)) (k:Nat) (h:k<nLev ls.length):(levels ls).drop k=Z5 ls k :: (levels ls).drop (k+1):=by
 have hl:k<(levels ls).length:=by simpa [levels] using h
 rw[List.drop_eq_getElem_cons hl]
 congr 1
 simp[levels]
theorem Qof (ls:List (List UInt8)) (k:Nat) (h:nLev ls.length≤k):(levels ls).drop k = []:=by apply List.drop_eq_nil_of_le;simpa [levels] using h
theorem Q2w (ls:List (List UInt8)) (k q j:Nat) (hq:ls.length / 4 ^ k=q) (hj:q=4*j+4):node4 (Z5 ls k)=Zu ls (2*(k+1)) j:=by
 have hl:(Z5 ls k).length-4=4*j:=by rw[Qac];omega
 unfold node4;rw[hl,Qcq ls k _ (by omega),Qcq ls k _ (by omega),Qcq ls k _ (by omega),Qcq ls k _ (by omega)];show _=Zu ls (2*k+1+1) j;simp only[Zu];have e1:2*(2*j)=4*j:=by omega
 have e2:2*(2*j+1)=4*j+2:=by omega
 rw[e1,e2]
theorem Qus (ls:List (List UInt8)) (e:List UInt8):∀ (m k q:Nat),nLev (ls.length+1)≤k+m→ls.length+1=(q+1)*4 ^ k→
  Qd7 ((levels ls).drop k) (Zu (ls ++ [e]) (2*k) q)=(levels (ls ++ [e])).drop k:=by
 intro m;have d:(ls ++ [e]).length=ls.length+1:=by simp
 induction m with
 | zero=>
  intro k q h1 h2;have h3:4 ^ k≤ls.length+1:=by rw[h2];exact Nat.le_mul_of_pos_left _ (by omega)
  have:=(Qan (ls.length+1) k).2 h3
  omega
 | succ m ih=>
  intro k q h1 h2;have hp:0<4 ^ k:=Nat.pow_pos (by decide);have h3:4 ^ k≤ls.length+1:=by rw[h2];exact Nat.le_mul_of_pos_left _ (by omega)
  have h4:=(Qan (ls.length+1) k).2 h3;have f:(ls.length+1) / 4 ^ k=q+1:=by rw[h2];exact Nat.mul_div_cancel _ hp
  have hq:ls.length / 4 ^ k=q:=by rw[Nat.add_mul,Nat.one_mul] at h2;exact Nat.div_eq_of_lt_le (by omega) (by rw[Nat.add_mul,Nat.one_mul];omega)
  rw[Qn8 (ls ++ [e]) k (by rw[d];exact h4),Qe7 ls e k q hq f];by_cases hk:k<nLev ls.length
  ·rw[Qn8 ls k hk]
   rw[Qd7,Qac,hq];by_cases h0:(q+1)%4=0
   ·rw[if_pos h0]
    congr 1
    obtain⟨j,hj⟩:∃ j,q+1=4*j+4:=⟨q / 4,by omega⟩
    have hn:=Q2w (ls ++ [e]) k (q+1) j (by rw[d];exact f) hj;rw[Qe7 ls e k q hq f] at hn;rw[hn];apply ih (k+1) j (by omega);rw[h2,hj,Nat.pow_succ,Nat.mul_comm (4 ^ k) 4,←Nat.mul_assoc]
    congr 1
    omega
   ·rw[if_neg h0]
    congr 1
    have g:∀ i,k<i→¬ 4 ^ i ∣ ls.length+1:=by intro i hi hd;have h5:4 ^ (k+1) ∣ ls.length+1:=Nat.dvd_trans (Nat.pow_dvd_pow 4 hi) hd;rw[h2,Nat.pow_succ,Nat.mul_comm (4 ^ k) 4] at h5;have h6:=Nat.dvd_of_mul_dvd_mul_right hp h5;omega
    have l:nLev (ls.length+1)=nLev ls.length:=by
     have hi:=Qan (ls.length+1) (nLev ls.length);have hj:=Qan ls.length (nLev ls.length);have n:nLev ls.length≤nLev (ls.length+1):=by
      rcases Nat.lt_or_ge (nLev (ls.length+1)) (nLev ls.length) with h|h
      ·have a:=(Qan ls.length _).1 h
       have b:=(Qan (ls.length+1) (nLev (ls.length+1))).2 (by omega);omega
      ·exact h
     rcases Nat.lt_or_ge (nLev ls.length) (nLev (ls.length+1)) with h|h
     ·have a:=hi.1 h
      have b:¬ 4 ^ nLev ls.length≤ls.length:=fun c=>by have:=hj.2 c;omega
      have c:4 ^ nLev ls.length=ls.length+1:=by omega
      exact absurd (by rw[c];exact Nat.dvd_refl _) (g _ hk)
     ·omega
    apply List.ext_getElem
    ·simp[levels,l]
    ·intro i hi hj
     simp only[levels,List.getElem_drop,List.getElem_map,List.getElem_range];rw[Qie];rw[Nat.succ_div_of_not_dvd (g _ (by omega))]
  ·have o:¬ 4 ^ k≤ls.length:=fun h=>hk ((Qan _ _).2 h)
   have h0:q=0:=by
    have:ls.length / 4 ^ k=0:=Nat.div_eq_of_lt (by omega)
    omega
   subst h0;have hr:Z5 ls k = []:=List.eq_nil_of_length_eq_zero (by rw[Qac,hq]);have hn:nLev (ls.length+1)≤k+1:=by
    rcases Nat.lt_or_ge (k+1) (nLev (ls.length+1)) with h|h
    ·have:=(Qan _ _).1 h
     rw[Nat.pow_succ] at this;omega
    ·exact h
   rw[Qof ls k (by omega),Qof (ls ++ [e]) (k+1) (by rw[d];exact hn),hr];rfl
theorem Qsx (ls:List (List UInt8)) (e:List UInt8):Qd7 (levels ls) (Jx e)=levels (ls ++ [e]):=by
 have h:=Qus ls e (nLev (ls.length+1)) 0 ls.length (by omega) (by simp);have hf:Zu (ls ++ [e]) (2*0) ls.length=Jx e:=by simp only[Nat.mul_zero,Zu];rw[List.getD_eq_getElem?_getD];simp
 rw[hf] at h;simpa using h
end
section
abbrev dec (n:Nat):List UInt8:=Lib.decDigits n
def kE:List UInt8:=[101,110,116,114,105,101,115,47]
def kT:List UInt8:=[116,105,108,101,47]
def kP:List UInt8:=[46,112,47]
def Jl (level index width:Int):Prop:=-1≤level∧level≤20∧0≤index∧1≤width∧width≤4
instance (level index width:Int):Decidable (Jl level index width):=by unfold Jl;infer_instance
def Qa1 (level index width:Int):List UInt8:=
 (if 0≤level then kT++dec level.toNat ++ [47] else kE)++dec index.toNat++(if width<4 then kP++dec width.toNat else [])
def Y4 (level index width:Int):List UInt8:=if Jl level index width then Qa1 level index width else []
def Qas (c:UInt8):Prop:=48≤c.toNat∧c.toNat≤57
theorem Qh6 (n:Nat):∀ c∈dec n,Qas c:=by
 induction n using Nat.strongRecOn with
 | _ n ih=>
  intro c hc;unfold dec at hc;rw[Lib.decDigits] at hc
  split at hc
  ·simp only[List.mem_singleton] at hc
   subst hc;unfold Qas;rw[UInt8.toNat_ofNat'];omega
  ·rw[List.mem_append] at hc
   rcases hc with hc|hc
   ·exact ih (n / 10) (by omega) c hc
   ·simp only[List.mem_singleton] at hc
    subst hc;unfold Qas;rw[UInt8.toNat_ofNat'];omega
theorem Q2t (n:Nat):dec n≠[]:=by
 unfold dec;rw[Lib.decDigits]
 split <;> simp
def valD (acc:Nat) (l:List UInt8):Nat:=l.foldl (fun a c=>a*10+(c.toNat-48)) acc
theorem Qt1 (acc:Nat) (a b:List UInt8):valD acc (a++b)=valD (valD acc a) b:=by simp[valD]
theorem Q1m (l:List UInt8):∀ acc,acc≤valD acc l:=by
 induction l with
 | nil=>intro acc;exact Nat.le_refl _
 | cons c l ih=>
  intro acc
  have:=ih (acc*10+(c.toNat-48))
  show acc≤valD (acc*10+(c.toNat-48)) l;omega
theorem Qk7 (n:Nat):valD 0 (dec n)=n:=by
 induction n using Nat.strongRecOn with
 | _ n ih=>
  unfold dec;rw[Lib.decDigits]
  split
  ·simp only[valD,List.foldl]
   rw[UInt8.toNat_ofNat'];omega
  ·rw[Qt1]
   have:=ih (n / 10) (by omega)
   unfold dec at this;rw[this];simp only[valD,List.foldl];rw[UInt8.toNat_ofNat'];omega
theorem Qf7:∀ (l:List UInt8) (acc:Nat),(∀ c∈l,Qas c)→valD acc l<18446744073709551616→Lib.parseUint10 acc l=.ok (valD acc l)
 | [],acc,_,_=>rfl
 | c :: l,acc,hd,hv=>by
  have h1:Qas c:=hd c (by simp)
  have h2:=Q1m l (acc*10+(c.toNat-48))
  have h3:valD acc (c :: l)=valD (acc*10+(c.toNat-48)) l:=rfl
  rw[h3] at hv ⊢
  unfold Qas at h1
  simp only[Lib.parseUint10]
  rw[if_pos h1,if_neg (by omega),if_neg (by omega)]
  exact Qf7 l _ (fun c hc=>hd c (by simp[hc])) hv
theorem Q6n (n:Nat) (h:n<9223372036854775808):Lib.atoiAll (dec n)=.ok (n:Int):=by
 have hp:Lib.parseMag (dec n)=.ok n:=by unfold Lib.parseMag;rw[if_neg (Q2t n),Qf7 _ _ (Qh6 n) (by rw[Qk7];omega),Qk7]
 obtain⟨c,r,a⟩:∃ c r,dec n=c :: r:=by
  cases hd:dec n with
  | nil=>exact absurd hd (Q2t n)
  | cons c r=>exact⟨c,r,rfl⟩
 have hc:Qas c:=Qh6 n c (by rw[a];simp);unfold Qas at hc;rw[a] at hp ⊢;unfold Lib.atoiAll;simp only;rw[if_neg (by omega),hp];simp only;rw[if_neg (by omega),if_neg (by omega),if_neg (by omega)]
def Qcv (n:Nat):List UInt8→Option (Nat×List UInt8)
 | []=>some (n,[])
 | c :: r=>if 48≤c.toNat∧c.toNat≤57 then (if (9223372036854775807-(c.toNat-48)) / 10<n then none else Qcv (10*n+(c.toNat-48)) r) else some (n,c :: r)
def Y5 (l:List UInt8):Nat×List UInt8×Bool:=match Qcv 0 l with|none=>(0,l,false)|some (n,r)=>(n,r,decide (r.length<l.length))
theorem Qsv:∀ (l:List UInt8) (acc:Nat) (t:List UInt8),(∀ c∈l,Qas c)→(∀ c,t.head?=some c→¬ Qas c)→valD acc l<9223372036854775808→Qcv acc (l++t)=some (valD acc l,t)
 | [],acc,t,_,ht,_=>by
  cases t with
  | nil=>rfl
  | cons c t=>
   have:=ht c rfl
   unfold Qas at this
   simp only[List.nil_append,Qcv]
   rw[if_neg this];rfl
 | c :: l,acc,t,hd,ht,hv=>by
  have h1:Qas c:=hd c (by simp)
  have h2:=Q1m l (acc*10+(c.toNat-48))
  have h3:valD acc (c :: l)=valD (acc*10+(c.toNat-48)) l:=rfl
  rw[h3] at hv ⊢
  unfold Qas at h1
  simp only[List.cons_append,Qcv]
  rw[if_pos h1,if_neg (by omega),Nat.mul_comm 10 acc]
  exact Qsv l _ t (fun c hc=>hd c (by simp[hc])) ht hv
theorem Qq4 (n:Nat) (t:List UInt8) (h:n<9223372036854775808) (ht:∀ c,t.head?=some c→¬ Qas c):Y5 (dec n++t)=(n,t,true):=by
 unfold Y5;rw[Qsv (dec n) 0 t (Qh6 n) ht (by rw[Qk7];exact h),Qk7]
 have:0<(dec n).length:=List.length_pos_iff.2 (Q2t n)
 simp[this]
theorem Qwq:∀ (l:List UInt8) (acc n:Nat) (r:List UInt8),acc<9223372036854775808→Qcv acc l=some (n,r)→n<9223372036854775808
 | [],acc,n,r,ha,h=>by simp only[Qcv,Option.some.injEq,Prod.mk.injEq] at h;omega
 | c :: l,acc,n,r,ha,h=>by
  simp only[Qcv] at h
  split at h
  ·split at h
   ·cases h
   ·exact Qwq l _ n r (by omega) h
  ·simp only[Option.some.injEq,Prod.mk.injEq] at h;omega
theorem Qm8 (l:List UInt8):(Y5 l).1<9223372036854775808:=by
 unfold Y5;cases h:Qcv 0 l with
 | none=>simp
 | some x=>exact Qwq l 0 x.1 x.2 (by omega) h
theorem Qcw {a b:UInt8} {s t:List UInt8} (h:a≠b):(a :: s).isPrefixOf (b :: t)=false:=by simp[List.isPrefixOf,h]
theorem Qka (m:UInt8) (ms:List UInt8) (hm:¬ Qas m):∀ (d t:List UInt8),(∀ c∈d,Qas c)→Lib.index (d++(m :: ms++t)) (m :: ms)=d.length
 | [],t,_=>by
  simp[Lib.index,List.isPrefixOf]
 | c :: d,t,hd=>by
  have ih:=Qka m ms hm d t (fun c hc=>hd c (by simp[hc]))
  have a:m≠c:=fun e=>hm (e ▸ hd c (by simp))
  simp only[List.cons_append,Lib.index]
  rw[Qcw a]
  simp only[List.cons_append] at ih
  rw[ih]
  have:((d.length:Int) == -1)=false:=by rw[beq_eq_false_iff_ne];omega
  simp[this]
theorem Qes (m:UInt8) (ms:List UInt8) (hm:¬ Qas m):∀ (d:List UInt8),(∀ c∈d,Qas c)→Lib.index d (m :: ms) = -1
 | [],_=>by simp[Lib.index]
 | c :: d,hd=>by
  have ih:=Qes m ms hm d (fun c hc=>hd c (by simp[hc]))
  have a:m≠c:=fun e=>hm (e ▸ hd c (by simp))
  simp only[Lib.index]
  rw[Qcw a,ih]
  rfl
theorem Qox (m:UInt8) (ms:List UInt8) (hm:¬ Qas m) (d t:List UInt8) (hd:∀ c∈d,Qas c):Lib.cut (d++(m :: ms++t)) (m :: ms)=(d,t,true):=by
 unfold Lib.cut;rw[Qka m ms hm d t hd,if_pos (by omega),Int.toNat_natCast];simp only[Prod.mk.injEq,and_true];refine⟨List.take_left,?_⟩;rw[←List.append_assoc]
 have:d.length+(m :: ms).length=(d++(m :: ms)).length:=by simp
 rw[this,List.drop_left]
theorem Qm1 (m:UInt8) (ms:List UInt8) (hm:¬ Qas m) (d:List UInt8) (hd:∀ c∈d,Qas c):Lib.cut d (m :: ms)=(d,[],false):=by unfold Lib.cut;rw[Qes m ms hm d hd];rfl
def Qgc (l:List UInt8):Option Int:=match Lib.atoiAll l with | .ok v=>some v|_=>none
theorem Qi7 (n:Nat) (h:n<9223372036854775808):Qgc (dec n)=some (n:Int):=by unfold Qgc;rw[Q6n n h]
abbrev Four:=Int×Int×Int×Bool
def Qo4:Four:=(0,0,0,false)
def Qir (path:List UInt8) (level:Int) (rest:List UInt8):Four:=
 match (if (Lib.cut rest kP).2.2=true then Qgc (Lib.cut rest kP).2.1 else some 4) with
 | none=>Qo4
 | some width=>match Qgc (Lib.cut rest kP).1 with
  | none=>Qo4
  | some index=>if Y4 level index width=path then (level,index,width,true) else Qo4
def Ql7 (path:List UInt8):Four:=
 if Lib.hasPrefix path kE=true then Qir path (-1) (Lib.trimPrefix path kE)
 else if Lib.hasPrefix path kT=true∧(Lib.cut (Lib.trimPrefix path kT) [47]).2.2=true then
  match Qgc (Lib.cut (Lib.trimPrefix path kT) [47]).1 with
  | none=>Qo4
  | some v=>if v<0 then Qo4 else Qir path v (Lib.cut (Lib.trimPrefix path kT) [47]).2.1
 else Qo4
def J0 (s w:List UInt8):List UInt8×Bool:=if Lib.hasPrefix s w=true then (s.drop w.length,true) else (s,false)
theorem Qw2 {l:List UInt8} {v:Int} (h:Qgc l=some v):v<9223372036854775808:=by
 unfold Qgc at h
 split at h
 ·rename_i u hu
  simp only[Option.some.injEq] at h;subst h;unfold Lib.atoiAll at hu
  split at hu
  ·cases hu
  ·simp only at hu
   split at hu
   ·cases hu
   ·cases hu
   ·split at hu
    ·cases hu
    ·split at hu
     ·cases hu
     ·simp only[Lib.NumEnd.ok.injEq] at hu
      subst hu
      split <;> omega
 ·cases h
theorem Qbf (p s:List UInt8):Lib.hasPrefix (p++s) p=true:=by unfold Lib.hasPrefix;rw[List.isPrefixOf_iff_prefix];exact List.prefix_append p s
theorem Qep (p s:List UInt8):Lib.trimPrefix (p++s) p=s:=by unfold Lib.trimPrefix;rw[if_pos (Qbf p s),List.drop_left]
theorem Qnq (p s:List UInt8):J0 (p++s) p=(s,true):=by unfold J0;rw[if_pos (Qbf p s),List.drop_left]
theorem noE (s:List UInt8):Lib.hasPrefix (kT++s) kE=false:=by simp[Lib.hasPrefix,kT,kE,List.isPrefixOf]
def Qkd (w:Int):List UInt8:=if w<4 then kP++dec w.toNat else []
theorem Qol:¬ Qas 46:=by unfold Qas;decide
theorem Qx4:¬ Qas 47:=by unfold Qas;decide
variable {l i w:Int}
theorem Qr9 (h:Jl l i w) (hl:l<0):Qa1 l i w=kE++(dec i.toNat++Qkd w):=by unfold Qa1 Qkd;rw[if_neg (by omega),List.append_assoc]
theorem Qqx (hl:0≤l):Qa1 l i w=kT++(dec l.toNat++(47 :: []++(dec i.toNat++Qkd w))):=by unfold Qa1 Qkd;rw[if_pos hl];simp
theorem Qbj (h:Jl l i w):Y4 l i w=Qa1 l i w:=by unfold Y4;rw[if_pos h]
theorem Q4p (i:Nat) (h1:1≤w) (h4:w≤4):Lib.cut (dec i++Qkd w) kP=(dec i,(if w<4 then dec w.toNat else []),decide (w<4)):=by
 unfold Qkd;by_cases hw:w<4
 ·rw[if_pos hw,if_pos hw,decide_eq_true hw]
  exact Qox 46 [112,47] Qol (dec i) (dec w.toNat) (Qh6 i)
 ·rw[if_neg hw,if_neg hw,decide_eq_false hw,List.append_nil]
  exact Qm1 46 [112,47] Qol (dec i) (Qh6 i)
theorem Qn4 (h:Jl l i w) (hi:i<9223372036854775808):Qir (Qa1 l i w) l (dec i.toNat++Qkd w)=(l,i,w,true):=by
 have hn:=Qbj h;obtain⟨a,b,c,d,e⟩:=h;unfold Qir;rw[Q4p _ d e];have ha:Qgc (dec i.toNat)=some i:=by rw[Qi7 _ (by omega)];congr 1;omega
 have hw:(if decide (w<4)=true then Qgc (if w<4 then dec w.toNat else []) else some 4)=some w:=by
  by_cases hw:w<4
  ·rw[if_pos (by simpa using hw),if_pos hw,Qi7 _ (by omega)];congr 1;omega
  ·rw[if_neg (by simpa using hw)];congr 1;omega
 simp only[hw,ha,hn,if_true]
theorem Qf9 (h:Jl l i w) (hi:i<9223372036854775808):Ql7 (Qa1 l i w)=(l,i,w,true):=by
 have ht:=Qn4 h hi;by_cases hl:l<0
 ·obtain rfl:l = -1:=by have:=h.1;omega
  rw[Qr9 h (by omega)] at ht ⊢;unfold Ql7;rw[if_pos (Qbf _ _),Qep];exact ht
 ·have a:0≤l:=by omega
  have b:=h.2.1;rw[Qqx a] at ht ⊢;have hc:=Qox 47 [] Qx4 (dec l.toNat) (dec i.toNat++Qkd w) (Qh6 _);unfold Ql7;rw[if_neg (by rw[noE];simp),Qep,hc,if_pos ⟨Qbf _ _,rfl⟩];have ha:Qgc (dec l.toNat)=some l:=by rw[Qi7 _ (by omega)];congr 1;omega
  simp only[ha];rw[if_neg hl];exact ht
end
section
def hexD (n:Nat):UInt8:=if n<10 then UInt8.ofNat (48+n) else UInt8.ofNat (87+n)
def Jy (l:List UInt8):List UInt8:=l.flatMap fun c=>[hexD (c.toNat / 16),hexD (c.toNat%16)]
theorem Qoe (c:UInt8) (l:List UInt8):Jy (c :: l)=hexD (c.toNat / 16) :: hexD (c.toNat%16) :: Jy l:=rfl
theorem Qay (l:List UInt8):(Jy l).length=2*l.length:=by
 induction l with
 | nil=>rfl
 | cons c l ih=>rw[Qoe];simp only[List.length_cons,ih];omega
def Qa8:List UInt8:=[116,105,108,101,115,10]
def Qaq (n:Nat) (h:Hsh):List UInt8:=Qa8++dec n ++ [10]++Jy h.toList ++ [10]
def Qao (n:Nat) (h:Hsh) (key:List UInt8):List UInt8:=Qaq n h++Jy (hash (key++0 :: Qaq n h)).toList ++ [10]
def Qcl (c:UInt8):Option Nat:=if 48≤c.toNat∧c.toNat≤57 then some (c.toNat-48) else if 97≤c.toNat∧c.toNat≤102 then some (c.toNat-87) else none
def Jg (c:UInt8):Option Nat:=if 48≤c.toNat∧c.toNat≤57 then some (c.toNat-48) else if 97≤c.toNat∧c.toNat≤102 then some (c.toNat-87) else if 65≤c.toNat∧c.toNat≤70 then some (c.toNat-55) else none
def Qah (d:UInt8→Option Nat):List UInt8→Option (List UInt8)
 | a :: b :: r=>match d a,d b with
  | some x,some y=>(Qah d r).map (UInt8.ofNat (16*x+y) :: ·)
  | _,_=>none
 | _=>some []
theorem Q99 (n:Nat) (h:n<16):Qcl (hexD n)=some n:=by
 have:∀ m:Fin 16,Qcl (hexD m.1)=some m.1:=by decide
 exact this ⟨n,h⟩
theorem Q9t (n:Nat) (h:n<16):Jg (hexD n)=some n:=by
 have:∀ m:Fin 16,Jg (hexD m.1)=some m.1:=by decide
 exact this ⟨n,h⟩
theorem Q0a (n:Nat) (h:n<16):hexD n≠10:=by
 have:∀ m:Fin 16,hexD m.1≠10:=by decide
 exact this ⟨n,h⟩
theorem Qf6 (d:UInt8→Option Nat) (hd:∀ n,n<16→d (hexD n)=some n):∀ l:List UInt8,Qah d (Jy l)=some l
 | []=>rfl
 | c :: l=>by
  have hc:=c.toNat_lt
  rw[Qoe]
  unfold Qah
  rw[hd _ (by omega),hd _ (by omega),Qf6 d hd l]
  have:UInt8.ofNat (16*(c.toNat / 16)+c.toNat%16)=c:=by rw[Nat.div_add_mod];simp
  simp[this]
theorem Qvu (l:List UInt8):∀ c∈Jy l,c≠10:=by
 intro c hc;unfold Jy at hc;rw[List.mem_flatMap] at hc;obtain⟨x,_,hx⟩:=hc;have hb:=x.toNat_lt;simp only[List.mem_cons,List.not_mem_nil,or_false] at hx;rcases hx with rfl|rfl
 ·exact Q0a _ (by omega)
 ·exact Q0a _ (by omega)
theorem Q6o (n:Nat):∀ c∈dec n,c≠10:=by
 intro c hc e
 have:=Qh6 n c hc
 subst e;unfold Qas at this
 revert this
 decide
theorem Qob:∀ (a t:List UInt8),(∀ c∈a,c≠10)→Lib.index (a++10 :: t) [10]=a.length
 | [],t,_=>by simp[Lib.index,List.isPrefixOf]
 | c :: a,t,h=>by
  have ih:=Qob a t (fun c hc=>h c (by simp[hc]))
  have b:(10:UInt8)≠c:=fun e=>h c (by simp) e.symm
  simp only[List.cons_append,Lib.index]
  rw[Qcw b,ih]
  have:((a.length:Int) == -1)=false:=by rw[beq_eq_false_iff_ne];omega
  simp[this]
def linesOf (s:List UInt8):List (List UInt8):=Lib.splitK [10] 0 (Lib.count s [10]) s
theorem Qeb (a t:List UInt8) (h:∀ c∈a,c≠10):linesOf (a++10 :: t)=a :: linesOf t:=by
 have hi:=Qob a t h;unfold linesOf;have hd:(a++10 :: t).drop (a.length + [(10:UInt8)].length)=t:=by rw[show a++10 :: t=(a ++ [10])++t by simp,show a.length + [(10:UInt8)].length=(a ++ [10]).length by simp,List.drop_left]
 rw[Lib.count_hit (by simp) hi,hd,Nat.add_comm,Lib.splitK,hi];rw[if_neg (by simp)];simp only[Int.toNat_natCast,Nat.add_zero];rw[hd];simp
theorem Qt9:linesOf [] = [[]]:=rfl
abbrev Qn2:=Int×Hsh×Bool
def J9:Qn2:=(0,zero8,false)
def Qbi (text key:List UInt8) (n:Int) (h:Hsh):Qn2:=if Qao n.toNat h key=text then (n,h,true) else J9
def Qgw (text key:List UInt8):List (List UInt8)→Qn2
 | [_,l1,l2,_,_]=>if l2.length≠16 then J9 else match Qgc l1 with
  | none=>J9
  | some n=>if n<0 then J9 else match Qah Jg l2 with
   | none=>J9
   | some b=>Qbi text key n (Yo b)
 | _=>J9
def Zw (text key:List UInt8):Qn2:=Qgw text key (linesOf text)
def Z6 (text key:List UInt8):Qn2:=
 if (J0 text Qa8).2=true then
  (if (Y5 (J0 text Qa8).1).2.2=true∧17≤(Y5 (J0 text Qa8).1).2.1.length then
   match Qah Qcl (((Y5 (J0 text Qa8).1).2.1.drop 1).take 16) with
   | none=>J9
   | some b=>Qbi text key (Y5 (J0 text Qa8).1).1 (Yo b)
     else J9)
 else J9
def Qo8 (text key:List UInt8) (q:Qn2):Prop:=(q.2.2=true→0≤q.1∧q.1<9223372036854775808∧Qao q.1.toNat q.2.1 key=text)∧(q.2.2=false→q=J9)
theorem Qb4 (text key:List UInt8):Qo8 text key J9:=⟨fun h=>by simp[J9] at h,fun _=>rfl⟩
theorem Qhl (text key:List UInt8) (n:Int) (h:Hsh) (h0:0≤n) (h1:n<9223372036854775808):Qo8 text key (Qbi text key n h):=by
 unfold Qbi
 split
 ·rename_i e;exact⟨fun _=>⟨h0,h1,e⟩,fun h=>by simp at h⟩
 ·exact Qb4 _ _
theorem Js (text key:List UInt8):Qo8 text key (Zw text key):=by
 unfold Zw;generalize linesOf text=L;unfold Qgw
 split
 ·split
  ·exact Qb4 _ _
  ·split
   ·exact Qb4 _ _
   ·rename_i n hn
    split
    ·exact Qb4 _ _
    ·split
     ·exact Qb4 _ _
     ·exact Qhl _ _ _ _ (by omega) (Qw2 hn)
 ·exact Qb4 _ _
theorem Qhk (text key:List UInt8):Qo8 text key (Z6 text key):=by
 unfold Z6
 split
 ·split
  ·split
   ·exact Qb4 _ _
   ·have:=Qm8 (J0 text Qa8).1
    exact Qhl _ _ _ _ (by omega) (by omega)
  ·exact Qb4 _ _
 ·exact Qb4 _ _
theorem Qhg (h:Hsh):Yo h.toList=h:=by
 apply Vector.ext;intro i hi
 have:i=0∨i=1∨i=2∨i=3∨i=4∨i=5∨i=6∨i=7:=by omega
 rcases this with rfl|rfl|rfl|rfl|rfl|rfl|rfl|rfl <;> simp[Yo,List.getD]
theorem Qcg (h:Hsh):h.toList.length=8:=by simp
theorem Qqz (n:Nat) (h:Hsh) (key:List UInt8):linesOf (Qao n h key) = [[116,105,108,101,115],dec n,Jy h.toList,Jy (hash (key++0 :: Qaq n h)).toList,[]]:=by
 unfold Qao;generalize (hash (key++0 :: Qaq n h))=m;have e:Qaq n h++Jy m.toList ++ [10] = [116,105,108,101,115]++10 :: (dec n++10 :: (Jy h.toList++10 :: (Jy m.toList++10 :: []))):=by simp[Qaq,Qa8]
 rw[e,Qeb _ _ (by decide),Qeb _ _ (Q6o n),Qeb _ _ (Qvu _),Qeb _ _ (Qvu _),Qt9]
theorem Qkp (n:Nat) (h:Hsh) (key:List UInt8) (hn:n<9223372036854775808):Zw (Qao n h key) key=((n:Int),h,true):=by
 unfold Zw;rw[Qqz];have a:(Jy h.toList).length=16:=by rw[Qay,Qcg]
 unfold Qgw;simp only[a,Qi7 n hn,Qf6 Jg Q9t,Qhg];rw[if_neg (by simp),if_neg (by omega)];unfold Qbi;rw[if_pos (by simp)]
theorem Qp1 (n:Nat) (h:Hsh) (key:List UInt8) (hn:n<9223372036854775808):Z6 (Qao n h key) key=((n:Int),h,true):=by
 obtain⟨t,ht⟩:∃ t,Qao n h key=Qa8++(dec n++10 :: (Jy h.toList++t)):=⟨10 :: (Jy (hash (key++0 :: Qaq n h)).toList ++ [10]),by simp[Qao,Qaq]⟩
 have hb:=Qnq Qa8 (dec n++10 :: (Jy h.toList++t));have b:=Qq4 n (10 :: (Jy h.toList++t)) hn (by intro c hc;simp at hc;subst hc;unfold Qas;decide);have a:(Jy h.toList).length=16:=by rw[Qay,Qcg]
 have d:((10 :: (Jy h.toList++t)).drop 1).take 16=Jy h.toList:=by rw[List.drop_succ_cons,List.drop_zero,←a,List.take_left]
 have hc:Z6 (Qa8++(dec n++10 :: (Jy h.toList++t))) key=Qbi (Qa8++(dec n++10 :: (Jy h.toList++t))) key n h:=by unfold Z6;rw[hb];simp only[if_true,b,d,Qf6 Qcl Q99,Qhg];rw[if_pos ⟨trivial,by simp[a]⟩]
 rw[ht,hc,←ht];unfold Qbi;rw[if_pos (by simp)]
theorem Qt8 {text key:List UInt8} {q q':Qn2} (h:Qo8 text key q) (h':Qo8 text key q')
  (c:∀ (n:Nat) (r:Hsh),n<9223372036854775808→Qao n r key=text→q=((n:Int),r,true)) (c':∀ (n:Nat) (r:Hsh),n<9223372036854775808→Qao n r key=text→q'=((n:Int),r,true)):q=q':=by
 obtain⟨n,r,b⟩:=q;obtain⟨n',r',b'⟩:=q';cases b
 ·cases b'
  ·exact (h.2 rfl).trans (h'.2 rfl).symm
  ·obtain⟨x,y,z⟩:=h'.1 rfl
   have:=c n'.toNat r' (by simp only at y;omega) z
   simp at this
 ·obtain⟨x,y,z⟩:=h.1 rfl
  exact (c n.toNat r (by simp only at y;omega) z).trans (c' n.toNat r (by simp only at y;omega) z).symm
theorem Qoy (text key:List UInt8):Zw text key=Z6 text key:=
 Qt8 (Js text key) (Qhk text key) (fun n r hn e=>by rw[←e];exact Qkp n r key hn) (fun n r hn e=>by rw[←e];exact Qp1 n r key hn)
end
section
theorem Qjq (v:Value) (ls:List (List UInt8)) (w:World) (h:Qem w v ls) (hn:ls.length≤1048576) (hm:∀ l∈ls,l.length≤9223372036854775807) :
  Calls prog 129 #[v] w fun e w'=>e=.returned (.agg (h8 (hash ls.flatten)))∧Below w.heap.size w w':=by
 have n:Below w.heap.size w (w.alloc (.cells zc 143)):=(Below.refl _ _).alloc (Nat.le_refl _) _;obtain⟨vs,g,⟨a,c,rfl,F,hc⟩,f⟩:=h.below n;have HL:=zh g;have HC:=zh hc;have HA:=zh f;have HM:=zh hm;clear hc f g hm h n
 go_enter func129,ntmps129
 go_wp2
 go_loop [3,11] (fun x i=>∃ k:Nat,k≤ls.length∧i=.int .i64 k∧x=.int .u64 (hfold (ls.take k).flatten)) (fun _ i=>ls.length-(intOf i).toNat)
 case atStart=>exact⟨0,by omega,rfl,rfl⟩
 case round=>
  obtain⟨k,hk,rfl,rfl⟩:=hrel;by_cases hlt:k<ls.length
  ·obtain⟨l,hl⟩:∃ s,ls[k]?=some s:=⟨_,List.getElem?_eq_getElem hlt⟩
   obtain⟨u,hu⟩:∃ s,vs[k]?=some s:=⟨_,List.getElem?_eq_getElem (by rw[HL.o];exact hlt)⟩
   obtain⟨b,off,rfl,C⟩:=HC.o k u hu;obtain⟨a2,c2,rfl,D,q⟩:=HA.o k u l hu hl;have hb:=HM.o l (List.mem_of_getElem? hl);obtain⟨pre,d⟩:∃ p,p=(ls.take k).flatten:=⟨_,rfl⟩
   rw[←d];have HP:=zh d;have B:=zh hl;have I:=zh hu;have A:=zh q;clear hl hu q d;go_wp2
   go_loop [3,17] (fun x i=>∃ j:Nat,j≤l.length∧i=.int .i64 j∧x=.int .u64 (hfold (pre++l.take j))) (fun _ i=>l.length-(intOf i).toNat)
   case atStart=>exact⟨0,by omega,rfl,by simp⟩
   case round=>
    obtain⟨j,hj,rfl,rfl⟩:=hrel;by_cases hjl:j<l.length
    ·obtain⟨x,hx⟩:∃ s,l[j]?=some s:=⟨_,List.getElem?_eq_getElem hjl⟩
     obtain⟨b2,E,rfl,t⟩:=A.o j (u8 x) (by simp[hx]);have m:hfold (pre++l.take (j+1))=hstep (hfold (pre++l.take j)) x:=by rw[Qoi hx,←List.append_assoc,Qo6]
     have z:=zh m;clear m hx;go_wp2
     go_round
     case rel=>exact⟨j+1,by omega,by go_num,by rw[z.o];rfl⟩
     case measure=>simp[intOf];omega
    ·have ht:l.take j=l:=List.take_of_length_le (by omega)
     rw[ht];go_wp2
     go_round
     case rel=>exact⟨k+1,by omega,by go_num,by rw[Qj5 B.o,←HP.o]⟩
     case measure=>simp[intOf];omega
  ·have ht:ls.take k=ls:=List.take_of_length_le (by omega)
   rw[ht];have r:=Qvw ls.flatten;obtain⟨y,hy⟩:∃ y,y=hfold ls.flatten:=⟨_,rfl⟩
   rw[←hy] at r ⊢;have HY:=zh hy;clear hy ht;obtain⟨H,G⟩:=r;go_wp2;refine wp_loop_rounds 9 ?_
   iterate 9
    rw[rounds_succ];go_wp2
   refine bodyPost_ret (v:=.agg (h8 (hash ls.flatten))) ?_ rfl ⟨rfl,(Below.refl _ _).alloc (Nat.le_refl _) _⟩;unfold hash;rw[←HY.o,Qtc];simp[results,results129,go_sem];omega
variable {w:World} {k c:Nat} {e:TypeId} {fz:Nat×Nat}
theorem Qd5 {n:Nat} {vs:Array Value} (hcap:n≤c) (hk:w.heap[k]?=some (.cells vs e fz)):Qe2 w (.slice (some ⟨k,0,none⟩) n c) n vs.toList:=
 ⟨_,c,rfl,hcap,fun j x hx=>⟨k,0,rfl,by simpa [World.cell?,hk] using hx⟩⟩
theorem Qsy (h:Hsh):(h8 h).toList=h.toList.map u8:=by simp only[h8,Array.toList_map];rfl
variable {g:Nat} {h:Hsh}
theorem Qkj (hh:Qw w g h) (c:Nat) (hcap:8≤c:=by decide):Q8 w (.slice (some ⟨g,0,none⟩) 8 c) h.toList:=by
 have:=Qd5 (n:=8) (c:=c) hcap hh
 rw[Qsy] at this;unfold Q8;simpa using this
theorem Q2 (e:g=w.heap.size):Qw (w.alloc (.cells (h8 h) 143)) g h:=by subst e;exact Qe3 w h
variable {u1 u2:Value} {l1 l2:List UInt8}
theorem bss2 (hk:w.heap[k]?=some (.cells #[u1,u2] e fz)) (h1:Q8 w u1 l1) (h2:Q8 w u2 l2) (hcap:2≤c:=by decide) :
  Qem w (.slice (some ⟨k,0,none⟩) 2 c) [l1,l2]:=by
 refine⟨(#[u1,u2]:Array Value).toList,rfl,Qd5 hcap hk,?_⟩;intro j u l g1 g2
 match j,g1,g2 with
 | 0,g1,g2=>simp at g1 g2;subst g1 g2;exact h1
 | 1,g1,g2=>simp at g1 g2;subst g1 g2;exact h2
theorem bss3 {u3:Value} {l3:List UInt8} (hk:w.heap[k]?=some (.cells #[u1,u2,u3] e fz)) (h1:Q8 w u1 l1) (h2:Q8 w u2 l2) (h3:Q8 w u3 l3) (hcap:3≤c:=by decide) :
  Qem w (.slice (some ⟨k,0,none⟩) 3 c) [l1,l2,l3]:=by
 refine⟨(#[u1,u2,u3]:Array Value).toList,rfl,Qd5 hcap hk,?_⟩;intro j u l g1 g2
 match j,g1,g2 with
 | 0,g1,g2=>simp at g1 g2;subst g1 g2;exact h1
 | 1,g1,g2=>simp at g1 g2;subst g1 g2;exact h2
 | 2,g1,g2=>simp at g1 g2;subst g1 g2;exact h3
theorem bytes1 {x:UInt8} (hk:w.heap[k]?=some (.cells #[u8 x] e fz)) (hcap:1≤c:=by decide):Q8 w (.slice (some ⟨k,0,none⟩) 1 c) [x]:=Qd5 hcap hk
theorem Q4i (w:World) (a b:Hsh) (o:Obj) :
  Qem (((((w.alloc (.cells (h8 a) 143)).alloc (.cells (h8 b) 143)).alloc o).alloc (.cells #[.int .u8 1] 5)).alloc
   (.cells #[.slice (some ⟨w.heap.size+1+1+1,0,none⟩) 1 1,.slice (some ⟨w.heap.size,0,none⟩) 8 8,.slice (some ⟨w.heap.size+1,0,none⟩) 8 8] 147)).drew
   (.slice (some ⟨w.heap.size+1+1+1+1,0,none⟩) 3 3) [[1],a.toList,b.toList]:=by
 have ha:Qw ((((w.alloc (.cells (h8 a) 143)).alloc (.cells (h8 b) 143)).alloc o).alloc (.cells #[.int .u8 1] 5)) w.heap.size a:=Qp (Qp (Qp (Q2 rfl) _) _) _;have hb:Qw ((((w.alloc (.cells (h8 a) 143)).alloc (.cells (h8 b) 143)).alloc o).alloc (.cells #[.int .u8 1] 5)) (w.heap.size+1) b:=Qp (Qp (Q2 (by simp)) _) _;refine Qem.below (bss3 (fz:=(0,0)) (Zz _ _ _ (by simp)) ?_ ?_ ?_) (Qn _)
 ·exact (bytes1 (x:=1) (fz:=(0,0)) (Zz _ _ _ (by simp))).below (Qa _ _)
 ·exact (Qkj ha _).below (Qa _ _)
 ·exact (Qkj hb _).below (Qa _ _)
end
section
def encE (l:List UInt8):List UInt8:=UInt8.ofNat l.length :: l
def Yn (ls:List (List UInt8)):Option (List UInt8):=if ls.length=0∨4<ls.length then none else if ls.all (fun l=>decide (l.length≤20)) then some (ls.flatMap encE) else none
def bss (ss:List ByteArray):List (List UInt8):=ss.map (·.data.toList)
variable {ls:List (List UInt8)}
theorem Qdo (h:ls.length=0∨4<ls.length):Yn ls=none:=if_pos h
theorem Qhv {k:Nat} {l:List UInt8} (h:ls[k]?=some l) (hl:20<l.length):Yn ls=none:=by
 unfold Yn
 split
 ·rfl
 ·rw[if_neg]
  intro ha;rw[List.all_eq_true] at ha
  have:=ha l (List.mem_of_getElem? h)
  simp at this;omega
theorem Qbn (h0:ls.length≠0) (h4:ls.length≤4) (h:∀ (j:Nat) (l:List UInt8),ls[j]?=some l→l.length≤20):Yn ls=some (ls.flatMap encE):=by unfold Yn;rw[if_neg (by omega),if_pos];rw[List.all_eq_true];intro l hl;obtain⟨j,hj,rfl⟩:=List.getElem_of_mem hl;simpa using h j _ (List.getElem?_eq_getElem hj)
def Qoj (ls:List (List UInt8)) (w:World) (e:Ending) (w':World):Prop:=
 e=.returned (.tuple #[.string ⟨((Yn ls).getD []).toArray⟩,.bool (Yn ls).isSome])∧Below w.heap.size w w'
theorem Qme (v:Value) (ss:List ByteArray) (w:World) (h:Zn w v ss) (hn:ss.length≤1099511627776) :
  Calls prog 57 #[v] w (Qoj (bss ss) w):=by
 obtain⟨a,c,rfl,y,hc⟩:=h;have n:(bss ss).length=ss.length:=by simp[bss]
 by_cases h0:ss.length=0
 ·have hd:((ss.length:Int) == 0)=true:=by simp[h0]
  clear hc
  go_enter func57,ntmps57
  go_wp2;go_ret2;rw[Qoj,Qdo (.inl (by omega))];exact⟨rfl,Below.refl _ _⟩
 ·have hd:((ss.length:Int) == 0)=false:=by rw[beq_eq_false_iff_ne];omega
  by_cases h4:4<ss.length
  ·have r:decide (4<(ss.length:Int))=true:=by simp;omega
   clear hc
   go_enter func57,ntmps57
   go_wp2;go_ret2;rw[Qoj,Qdo (.inr (by omega))];exact⟨rfl,Below.refl _ _⟩
  ·have r:decide (4<(ss.length:Int))=false:=by simp;omega
   have HC:=zh hc;have HB:=zh n;clear hc n
   go_enter func57,ntmps57
   go_wp2
   go_loopw [4,5] (fun s i wr=>∃ (k:Nat) (t:ByteArray),k≤ss.length∧i=.int .i64 k∧s=.string t∧t.size≤21*k∧t.data.toList=((bss ss).take k).flatMap encE∧(∀ (j:Nat) (l:List UInt8),j<k→(bss ss)[j]?=some l→l.length≤20)∧Below w.heap.size w wr) (fun _ i _=>ss.length-(intOf i).toNat)
   case atStart=>exact⟨0,⟨#[]⟩,by omega,rfl,rfl,by decide,rfl,by omega,Below.refl _ _⟩
   case round=>
    obtain⟨k,t,hk,rfl,rfl,B,ht,m,e⟩:=hrel;have HT:=zh ht;have HS:=zh m;have f:=zh e;clear ht m;by_cases hlt:k<ss.length
    ·obtain⟨s,hs⟩:∃ s,ss[k]?=some s:=⟨_,List.getElem?_eq_getElem hlt⟩
     obtain⟨b,off,rfl,d⟩:=HC.o k (.string s) (by simp[hs]);have u:b<w.heap.size:=Qk d;have g:wr.cell? ⟨b,off+k,none⟩=some (.string s):=(e.cell (p:=⟨b,off+k,none⟩) u).trans d;have x:b<wr.heap.size:=Qk g;have q:(bss ss)[k]?=some s.data.toList:=by simp[bss,hs]
     have HK:=zh q;have z:(0:Int)≤(k:Int):=by omega
     have C:(k:Int)<(ss.length:Int):=by omega
     clear hs d e q;by_cases hlong:20<s.size
     ·go_wp2
      go_ret2;rw[Qoj,Qhv HK.o hlong];exact⟨rfl,f.o⟩
     ·have A:Sem.run prog (convert 147 9 (.slice (some ⟨wr.heap.size,0,none⟩) 1 1)) ((wr.alloc (.cells #[.int .u8 (s.size:Int)] 5)).drew)=.ok (.string ⟨[UInt8.ofNat s.size].toArray⟩) ((wr.alloc (.cells #[.int .u8 (s.size:Int)] 5)).drew):=by rw[Qip _ (by omega)];exact Qeu ((bytes1 (fz:=(0,0)) (Zz _ _ _ rfl)).below (Qn _))
      go_wp2;go_region;go_wp2;go_roundw
      case rel=>
       refine⟨k+1,_,by omega,by go_num,rfl,?_,?_,fun j l hj hl=>?_,(f.o.alloc f.o.size _).drew⟩
       ·simp only[ByteArray.size_append]
        have:(ByteArray.mk #[UInt8.ofNat s.size]).size=1:=rfl
        omega
       ·rw[List.take_add_one,HK.o,List.flatMap_append,←HT.o]
        simp[encE]
       ·by_cases hjk:j=k
        ·subst hjk
         rw[HK.o] at hl;cases hl;exact Nat.le_of_not_lt hlong
        ·exact HS.o j l (by omega) hl
      case measure=>simp[intOf];omega
    ·go_wp2
     go_ret2;have e1:(bss ss).take k=bss ss:=List.take_of_length_le (by rw[HB.o];omega);have hb:=Qbn (ls:=bss ss) (by rw[HB.o];omega) (by rw[HB.o];omega) (fun j l hj=>HS.o j l (by have:=(List.getElem?_eq_some_iff.1 hj).1;rw[HB.o] at this;omega) hj);rw[Qoj,hb];refine⟨?_,f.o⟩;have ht:=HT.o;rw[e1] at ht;simp only[Option.getD_some,Option.isSome_some,←ht];rfl
end
section
def rawF:Nat→List UInt8→Option (List (List UInt8))
 | _,[]=>some []
 | 0,_ :: _=>none
 | f+1,x :: r=>if x.toNat≤r.length then (rawF f (r.drop x.toNat)).map (r.take x.toNat :: ·) else none
def rawU (l:List UInt8):Option (List (List UInt8)):=rawF l.length l
theorem Qte:∀ (f g:Nat) (l:List UInt8),l.length≤f→l.length≤g→rawF f l=rawF g l
 | _,_,[],_,_=>by simp[rawF]
 | 0,_,_ :: _,h,_=>by simp at h
 | _,0,_ :: _,_,h=>by simp at h
 | f+1,g+1,x :: r,h1,h2=>by
  simp only[rawF]
  simp only[List.length_cons] at h1 h2
  rw[Qte f g (r.drop x.toNat) (by simp;omega) (by simp;omega)]
theorem Qxf:rawU []=some []:=rfl
theorem Qiv (x:UInt8) (r:List UInt8):rawU (x :: r)=if x.toNat≤r.length then (rawU (r.drop x.toNat)).map (r.take x.toNat :: ·) else none:=by show rawF (r.length+1) (x :: r)=_;simp only[rawF];rw[show rawU (r.drop x.toNat)=rawF r.length (r.drop x.toNat) from Qte _ _ _ (by simp) (by simp)]
def Qr (l:List UInt8):Option (List (List UInt8)):=(rawU l).bind fun ls=>if (Yn ls).isSome then some ls else none
theorem Qrx:∀ (f:Nat) (l:List UInt8) (ls:List (List UInt8)),rawF f l=some ls→ls.flatMap encE=l
 | _,[],ls,h=>by simp[rawF] at h;subst h;rfl
 | 0,_ :: _,ls,h=>by simp[rawF] at h
 | f+1,x :: r,ls,h=>by
  simp only[rawF] at h
  split at h
  ·rename_i hx
   obtain⟨ls',h',rfl⟩:=Option.map_eq_some_iff.1 h
   have:=Qrx f _ _ h'
   rw[List.flatMap_cons,this,encE,List.length_take,Nat.min_eq_left hx]
   simp
  ·cases h
variable {l:List UInt8} {ls:List (List UInt8)}
theorem Qqt (h:rawU l=some ls):ls.flatMap encE=l:=Qrx _ _ _ h
def Read (data:List UInt8) (ls:List (List UInt8)) (rest:List UInt8):Prop:=rawU data=(rawU rest).map (ls ++ ·)
theorem Read.start (data:List UInt8):Read data [] data:=by unfold Read;simp
variable {data r:List UInt8} {x:UInt8}
theorem Read.step (h:Read data ls (x :: r)) (hx:x.toNat≤r.length):Read data (ls ++ [r.take x.toNat]) (r.drop x.toNat):=by
 unfold Read at *;rw[h,Qiv,if_pos hx,Option.map_map]
 congr 1
 funext q
 simp
theorem Read.bad (h:Read data ls (x :: r)) (hx:r.length<x.toNat):rawU data=none:=by unfold Read at h;rw[h,Qiv,if_neg (by omega)];rfl
theorem Read.done (h:Read data ls []):rawU data=some ls:=by unfold Read at h;rw[h,Qxf];simp
theorem Qnt (h:l∈ls) (hl:20<l.length):Yn ls=none:=by obtain⟨k,hk,rfl⟩:=List.getElem_of_mem h;exact Qhv (List.getElem?_eq_getElem hk) hl
theorem Read.long (h:Read data ls (x :: r)) (hx:20<x.toNat):Qr data=none:=by
 unfold Qr;by_cases hr:x.toNat≤r.length
 ·have h2:=h.step hr
  unfold Read at h2;rw[h2];cases rawU (r.drop x.toNat) with
  | none=>rfl
  | some q=>
   simp only[Option.map_some,Option.bind_some];rw[Qnt (l:=r.take x.toNat) (by simp) (by simp;omega)];rfl
 ·rw[h.bad (by omega)]
  rfl
theorem Read.many (h:Read data ls (x :: r)) (h4:4≤ls.length):Qr data=none:=by
 unfold Qr;by_cases hr:x.toNat≤r.length
 ·have h2:=h.step hr
  unfold Read at h2;rw[h2];cases rawU (r.drop x.toNat) with
  | none=>rfl
  | some q=>
   simp only[Option.map_some,Option.bind_some];rw[Qdo (.inr (by simp;omega))];rfl
 ·rw[h.bad (by omega)]
  rfl
theorem Qkl (h:rawU data=none):Qr data=none:=by unfold Qr;rw[h];rfl
theorem Qht (h:rawU data=some ls) (h0:ls.length≠0) (h4:ls.length≤4) (hs:∀ l∈ls,l.length≤20):Qr data=some ls:=by unfold Qr;rw[h,Option.bind_some,Qbn h0 h4 (fun j l hj=>hs l (List.mem_of_getElem? hj))];rfl
theorem Qnz:Qr []=none:=by unfold Qr;rw[Qxf];rfl
end
section
abbrev Fil:=ByteArray×ByteArray
variable {l:List Fil} {p:ByteArray}
theorem Qqp:Ya l p<l.length↔∃ f∈l,f.1=p:=by unfold Ya;rw[List.findIdx_lt_length];simp
variable {b:ByteArray}
theorem Qai (h:getF l p=some b):(p,b)∈l:=by
 unfold getF at h;cases hx:l[Ya l p]? with
 | none=>rw[hx] at h;simp at h
 | some x=>
  rw[hx] at h;simp at h;obtain⟨c,a⟩:=List.getElem?_eq_some_iff.1 hx;have hp:=Qe0 c;rw[a] at hp;subst h;rw[←hp];exact List.mem_of_getElem? hx
theorem Qdi:getF l p=none↔∀ f∈l,f.1≠p:=by
 unfold getF;rw[Option.map_eq_none_iff,List.getElem?_eq_none_iff];constructor
 ·intro h f hf e
  have:=Qqp.2 ⟨f,hf,e⟩
  omega
 ·intro h
  rcases Nat.lt_or_ge (Ya l p) l.length with h1|h1
  ·obtain⟨f,hf,e⟩:=Qqp.1 h1
   exact absurd e (h f hf)
  ·exact h1
variable {k:List Fil}
theorem Qn5 (h:Ya l p<l.length):Ya (l++k) p=Ya l p:=by unfold Ya at *;rw[List.findIdx_append,if_pos h]
theorem Ql0 (h:¬ Ya l p<l.length):Ya (l++k) p=Ya k p+l.length:=by unfold Ya at *;rw[List.findIdx_append,if_neg h]
theorem Qv6 (l k:List Fil) (p:ByteArray):getF (l++k) p=(getF l p).or (getF k p):=by
 by_cases h:Ya l p<l.length
 ·have e:=Qn5 (k:=k) h
  unfold getF;rw[e,List.getElem?_append_left h,List.getElem?_eq_getElem h];rfl
 ·have e:=Ql0 (k:=k) h
  have hn:getF l p=none:=Qdv h;rw[hn];unfold getF;rw[e,List.getElem?_append_right (by omega),Nat.add_sub_cancel];simp
def Once (l:List Fil):Prop:=(l.map (·.1)).Nodup
theorem Qk5 (h:Once l) (hm:(p,b)∈l):getF l p=some b:=by
 induction l with
 | nil=>simp at hm
 | cons a l ih=>
  unfold Once at h;rw[List.map_cons,List.nodup_cons] at h;have e:getF (a :: l) p=(getF [a] p).or (getF l p):=Qv6 [a] l p;rw[e];by_cases hp:a.1=p
  ·have c:a=(p,b):=by
    rcases List.mem_cons.1 hm with h1|h1
    ·exact h1.symm
    ·exact absurd (List.mem_map.2 ⟨_,h1,hp.symm⟩) h.1
   subst c
   have:getF [(p,b)] p=some b:=by simp[getF,Ya]
   rw[this];rfl
  ·have hn:getF [a] p=none:=Qdi.2 (by simpa using hp)
   rw[hn];rcases List.mem_cons.1 hm with h1|h1
   ·exact absurd (by rw[←h1]) hp
   ·simpa using ih h.2 h1
theorem Qwn (l:List Fil) (p b:ByteArray) (h:Ya l p<l.length):(l.set (Ya l p) (p,b)).map (·.1)=l.map (·.1):=by
 rw[List.map_set];have hp:=Qe0 h
 have:(l.map (·.1))[Ya l p]?=some p:=by rw[List.getElem?_map,List.getElem?_eq_getElem h];simp[hp]
 exact List.set_getElem_self' this
where
 List.set_getElem_self' {α:Type} {l:List α} {i:Nat} {a:α} (h:l[i]?=some a):l.set i a=l:=by
  obtain⟨c,rfl⟩:=List.getElem?_eq_some_iff.1 h
  exact List.set_getElem_self c
theorem Qz4 (l:List Fil) (p b:ByteArray):(putF l p b).map (·.1)=if Ya l p<l.length then l.map (·.1) else l.map (·.1) ++ [p]:=by
 unfold putF
 split
 ·exact Qwn l p b (by assumption)
 ·simp
theorem Qix (h:Once l) (p b:ByteArray):Once (putF l p b):=by
 unfold Once;rw[Qz4]
 split
 ·exact h
 ·rename_i hn
  rw[List.nodup_append];refine⟨h,by simp,?_⟩;intro x hx y hy e;simp at hy;subst hy;subst e;obtain⟨f,hf,a⟩:=List.mem_map.1 hx;exact hn (Qqp.2 ⟨f,hf,a⟩)
theorem Qzv (h:l.map (·.1)=k.map (·.1)) (p:ByteArray):Ya l p=Ya k p:=by
 have e:∀ l:List Fil,Ya l p=(l.map (·.1)).findIdx fun x=>decide (x=p):=by intro l;unfold Ya;rw[List.findIdx_map];rfl
 rw[e,e,h]
theorem Qg1 (l:List Fil) (p b q:ByteArray):getF (putF l p b) q=if q=p then some b else getF l q:=by
 unfold putF
 split
 ·rename_i h
  have hk:=Qzv (Qwn l p b h) q;by_cases hq:q=p
  ·subst hq
   rw[if_pos rfl];unfold getF;rw[hk,List.getElem?_set_self h];rfl
  ·rw[if_neg hq]
   unfold getF;rw[hk,List.getElem?_set]
   split
   ·rename_i he
    have h2:Ya l q<l.length:=by rw[←he];exact h
    have a:=Qe0 h;have c:=Qe0 h2;simp only[he] at a;exact absurd (c.symm.trans a) hq
   ·rfl
 ·rename_i h
  rw[Qv6];by_cases hq:q=p
  ·subst hq
   rw[if_pos rfl,Qdv h];simp[getF,Ya]
  ·rw[if_neg hq]
   have:getF [(p,b)] q=none:=Qdi.2 (by simpa using fun e=>hq e.symm)
   rw[this,Option.or_none]
theorem Qk9 (l:List Fil) (p b:ByteArray):l.length≤(putF l p b).length∧(putF l p b).length≤l.length+1:=by
 unfold putF
 split <;> simp
theorem Qu0 (l:List Fil):Once (firsts l):=by
 unfold firsts
 have:∀ acc,Once acc→Once (l.foldl addF acc):=by
  induction l with
  | nil=>intro acc h;exact h
  | cons a l ih=>
   intro acc h;rw[List.foldl_cons];apply ih;unfold addF
   split
   ·exact h
   ·rename_i hn
    have:putF acc a.1 a.2=acc ++ [a]:=by unfold putF;rw[if_neg hn]
    rw[←this];exact Qix h _ _
 exact this [] (by simp[Once])
end
section
def kCp:List UInt8:=[99,104,101,99,107,112,111,105,110,116]
theorem Qde {l i w l' i' w':Int} (h:Jl l i w) (h':Jl l' i' w') (hi:i<9223372036854775808) (hi':i'<9223372036854775808) (e:Y4 l i w=Y4 l' i' w'):l=l'∧i=i'∧w=w':=by rw[Qbj h,Qbj h'] at e;have a:=Qf9 h hi;have b:=Qf9 h' hi';rw[e,b] at a;simp only[Prod.mk.injEq] at a;exact⟨a.1.symm,a.2.1.symm,a.2.2.1.symm⟩
theorem Qel (l i w:Int):Y4 l i w≠kCp:=by
 unfold Y4
 split
 ·unfold Qa1
  split
  ·intro e;simp[kT,kCp] at e
  ·intro e;simp[kE,kCp] at e
 ·simp[kCp]
def Ye (t:Int) (data:List (List UInt8)) (j:Nat):Fil:=(sOf (Y4 t j ((min 4 (data.length-4*j):Nat):Int)),sOf ((data.drop (4*j)).take 4).flatten)
def Yu (t:Int) (data:List (List UInt8)):List Fil:=(List.range ((data.length+3) / 4)).map (Ye t data)
theorem Qbp (t:Int) (data:List (List UInt8)):(Yu t data).length=(data.length+3) / 4:=by simp[Yu]
theorem Qdg (t:Int) (data:List (List UInt8)) (j:Nat) (h:4*j<data.length):(Yu t data)[j]?=some (Ye t data j):=by unfold Yu;rw[List.getElem?_map,List.getElem?_range (by omega)];rfl
theorem Qml (t:Int) (data:List (List UInt8)) (j:Nat) (h:4*j<data.length):(Yu t data).drop j=Ye t data j :: (Yu t data).drop (j+1):=by
 have hl:j<(Yu t data).length:=by rw[Qbp];omega
 rw[List.drop_eq_getElem_cons hl]
 congr 1
 have:=Qdg t data j h
 rw[List.getElem?_eq_getElem hl] at this;exact Option.some.inj this
theorem Qyt (t:Int) (data:List (List UInt8)) (j:Nat) (h:data.length≤4*j):(Yu t data).drop j = []:=by apply List.drop_eq_nil_of_le;rw[Qbp];omega
def Jw:Int→List (List (List UInt8))→List Fil
 | _,[]=>[]
 | t,r :: rs=>Yu t r++Jw (t+1) rs
def Zd (es:List (List UInt8)):List (List (List UInt8)):=es.map encE :: (levels es).map fun r=>r.map fun (h:Hsh)=>h.toList
def Yv (es:List (List UInt8)):List Fil:=Jw (-1) (Zd es)
variable {f:Fil}
theorem Qbr:∀ (rs:List (List (List UInt8))) (t:Int),f∈Jw t rs↔∃ (n:Nat) (r:List (List UInt8)) (j:Nat),rs[n]?=some r∧4*j<r.length∧f=Ye (t+(n:Int)) r j
 | [],t=>by simp[Jw]
 | r :: rs,t=>by
   rw[Jw,List.mem_append,Qbr rs (t+1)]
   constructor
   ·rintro (h|⟨n,r',j,h1,h2,h3⟩)
    ·unfold Yu at h
     obtain⟨j,hj,rfl⟩:=List.mem_map.1 h
     rw[List.mem_range] at hj
     exact⟨0,r,j,rfl,by omega,by simp⟩
    ·exact⟨n+1,r',j,by simpa using h1,h2,by rw[h3];congr 1;omega⟩
   ·rintro ⟨n,r',j,h1,h2,h3⟩
    cases n with
    | zero=>
     simp at h1
     subst h1
     left
     rw[h3]
     unfold Yu
     exact List.mem_map.2 ⟨j,by rw[List.mem_range];omega,by simp⟩
    | succ n=>exact .inr ⟨n,r',j,by simpa using h1,h2,by rw[h3];congr 1;omega⟩
def Q37 (t:Int) (rs:List (List (List UInt8))):Prop:=-1≤t∧t+rs.length≤21∧∀ r∈rs,r.length<1099511627776
variable {t:Int} {rs:List (List (List UInt8))} {n j:Nat} {r:List (List UInt8)}
theorem Qmv (h:Q37 t rs) (hr:rs[n]?=some r) (hj:4*j<r.length) :
  Jl (t+n) j ((min 4 (r.length-4*j):Nat):Int)∧(j:Int)<9223372036854775808:=by
 obtain⟨h1,h2,h3⟩:=h;have hn:=(List.getElem?_eq_some_iff.1 hr).1;have hl:=h3 r (List.mem_of_getElem? hr);unfold Jl;omega
theorem Qyg (h:Q37 t rs) {n':Nat} {r':List (List UInt8)} {j':Nat} (hr:rs[n]?=some r) (hj:4*j<r.length) (hr':rs[n']?=some r') (hj':4*j'<r'.length)
  (e:(Ye (t+n) r j).1=(Ye (t+n') r' j').1):n=n'∧j=j':=by
 have a:=Qmv h hr hj;have b:=Qmv h hr' hj'
 have:=Qde a.1 b.1 a.2 b.2 (Qcu e)
 omega
theorem Qy2 (h:Q37 t rs) {p a b:ByteArray} (ha:(p,a)∈Jw t rs) (hb:(p,b)∈Jw t rs):a=b:=by
 obtain⟨n,r,j,h1,h2,h3⟩:=(Qbr rs t).1 ha;obtain⟨n',r',j',k1,k2,k3⟩:=(Qbr rs t).1 hb;have e:(Ye (t+n) r j).1=(Ye (t+n') r' j').1:=by rw[←h3,←k3]
 obtain⟨rfl,rfl⟩:=Qyg h h1 h2 k1 k2 e;rw[h1] at k1;cases k1;rw[←h3] at k3
 have:=congrArg Prod.snd k3
 exact this.symm
theorem Q0g (hm:f∈Jw t rs):f.1≠sOf kCp:=by obtain⟨n,r,j,h1,h2,rfl⟩:=(Qbr rs t).1 hm;exact fun e=>Qel _ _ _ (Qcu e)
def Qfn (d:Dk) (f:Fil):Bool:=Qbv d.files f.1 f.2 || decide (0<Zv d)
def putsD:Dk→List Fil→Dk×Nat
 | d,[]=>(d,0)
 | d,f :: fs=>if Qfn d f=true then (putD d f.1 f.2,0) else ((putsD (putD d f.1 f.2) fs).1,(putsD (putD d f.1 f.2) fs).2+1)
def Qae (t:Int) (row:List (List UInt8)) (j:Nat) (d:Dk):Dk×Nat×Option ByteArray:=
 ((putsD d ((Yu t row).drop j)).1,4*min (j+(putsD d ((Yu t row).drop j)).2) (row.length / 4),((Yu t row)[j+(putsD d ((Yu t row).drop j)).2]?).map (·.1))
theorem Qyk (t:Int) (row:List (List UInt8)) (j:Nat) (d:Dk) (h:row.length≤4*j):Qae t row j d=(d,4*(row.length / 4),none):=by unfold Qae;rw[Qyt t row j h];simp only[putsD,Nat.add_zero];rw[List.getElem?_eq_none (by rw[Qbp];omega),Nat.min_eq_right (by omega)];rfl
theorem Qx5 (t:Int) (row:List (List UInt8)) (j:Nat) (d:Dk) (h:4*j<row.length) (hb:Qfn d (Ye t row j)=true) :
  Qae t row j d=(putD d (Ye t row j).1 (Ye t row j).2,4*min j (row.length / 4),some (Ye t row j).1):=by
 unfold Qae;rw[Qml t row j h];simp only[putsD,if_pos hb,Nat.add_zero];rw[Qdg t row j h];rfl
theorem Qur (t:Int) (row:List (List UInt8)) (j:Nat) (d:Dk) (h:4*j<row.length) (hb:Qfn d (Ye t row j)=false) :
  Qae t row j d=Qae t row (j+1) (putD d (Ye t row j).1 (Ye t row j).2):=by
 have a:¬ Qfn d (Ye t row j)=true:=by simp[hb]
 unfold Qae;rw[Qml t row j h];simp only[putsD,if_neg a];generalize putsD (putD d (Ye t row j).1 (Ye t row j).2) ((Yu t row).drop (j+1))=q;rw[show j+(q.2+1)=j+1+q.2 by omega]
def pubJ:Nat→List (List (List UInt8))→List Nat→Dk→Dk×List Nat×Option ByteArray
 | _,[],put,d=>(d,put,none)
 | n,r :: rs,put,d=>
   let p1:=put++List.replicate (n+1-put.length) 0
   let q:=Qae ((n:Int)-1) r (p1.getD n 0 / 4) d
   match q.2.2 with
   | some p=>(q.1,p1.set n q.2.1,some p)
   | none=>pubJ (n+1) rs (p1.set n q.2.1) q.1
end
section
def Ext (W l l':List Fil):Prop:=∀ p,getF l' p=getF l p∨(getF l p=none∧∃ b,(p,b)∈W∧getF l' p=some b)
def Qba (W l:List Fil):Prop:=∀ f∈W,Qbv l f.1 f.2=false
def Qvh (W:List Fil):Prop:=∀ p a b,(p,a)∈W→(p,b)∈W→a=b
theorem Ext.refl (W l:List Fil):Ext W l l:=fun _=>.inl rfl
variable {W a b:List Fil}
theorem Ext.trans {c:List Fil} (h:Ext W a b) (k:Ext W b c):Ext W a c:=fun p=>by
 rcases k p with h1|⟨h1,x,h2,h3⟩
 ·rcases h p with h4|⟨h4,x,h5,h6⟩
  ·exact .inl (h1.trans h4)
  ·exact .inr ⟨h4,x,h5,h1.trans h6⟩
 ·rcases h p with h4|⟨h4,x,h5,h6⟩
  ·exact .inr ⟨h4.symm.trans h1,x,h2,h3⟩
  ·rw[h6] at h1;cases h1
variable {p:ByteArray}
theorem Ext.keeps (h:Ext W a b) {x:ByteArray} (hp:getF a p=some x):getF b p=some x:=by
 rcases h p with h1|⟨h1,_⟩
 ·exact h1.trans hp
 ·rw[hp] at h1;cases h1
variable {l:List Fil}
theorem Qee {b:ByteArray}:Qbv l p b=false↔getF l p=none∨getF l p=some b:=by
 unfold Qbv;cases getF l p with
 | none=>simp
 | some x=>simp
theorem Qba.ext {l':List Fil} (h:Qba W l) (ho:Qvh W) (he:Ext W l l'):Qba W l':=by
 intro f hf;rw[Qee];rcases he f.1 with h1|⟨h1,b,h2,h3⟩
 ·rw[h1];exact Qee.1 (h f hf)
 ·right;rw[h3,ho f.1 b f.2 h2 hf]
variable {f:Fil}
theorem Q8c (hf:f∈W) (hn:Qba W l):Ext W l (putF l f.1 f.2):=by
 intro p;rw[Qg1]
 split
 ·rename_i h
  subst h;rcases Qee.1 (hn f hf) with h1|h1
  ·exact .inr ⟨h1,f.2,hf,rfl⟩
  ·exact .inl h1.symm
 ·exact .inl rfl
theorem Q3j {b:ByteArray} (h:f∈putF l p b):f∈l∨f=(p,b):=by
 unfold putF at h
 split at h
 ·rcases List.mem_or_eq_of_mem_set h with h1|h1
  ·exact .inl h1
  ·exact .inr h1
 ·rcases List.mem_append.1 h with h1|h1
  ·exact .inl h1
  ·exact .inr (by simpa using h1)
structure Qjn (d:Dk):Prop where
 dead:d.dead=false
 hit:d.hit=false
 turned:d.turned=false
 once:Once d.files
structure Qbu (W:List Fil) (k:Nat) (d d':Dk):Prop where
 ext:Ext W d.files d'.files
 once:Once d'.files
 turned:d'.turned=false
 mem:∀ f∈d'.files,f∈d.files∨f∈W
 len:d'.files.length≤d.files.length+k
 calls:d'.calls≤d.calls+k
variable {d:Dk}
theorem Qbu.refl (W:List Fil) (h:Qjn d):Qbu W 0 d d:=⟨Ext.refl W _,h.once,h.turned,fun f hf=>.inl hf,Nat.le_refl _,Nat.le_refl _⟩
variable {j k:Nat}
theorem Qbu.trans {a b c:Dk} (h:Qbu W j a b) (i:Qbu W k b c):Qbu W (j+k) a c where
 ext:=h.ext.trans i.ext
 once:=i.once
 turned:=i.turned
 mem f hf:=by
  rcases i.mem f hf with h1|h1
  ·exact h.mem f h1
  ·exact .inr h1
 len:=by have:=h.len;have:=i.len;omega
 calls:=by have:=h.calls;have:=i.calls;omega
theorem Qbu.more {a b:Dk} (h:Qbu W j a b) (hk:j≤k):Qbu W k a b where
 ext:=h.ext
 once:=h.once
 turned:=h.turned
 mem:=h.mem
 len:=Nat.le_trans h.len (by omega)
 calls:=Nat.le_trans h.calls (by omega)
theorem Qgq (h:Qjn d) (hk:Zv d=0):(Zj d).hit=false∧(Zj d).dead=false∧(Zj d).turned=false:=by
 unfold Zv at hk;rw[if_neg (by simp[h.dead])] at hk;have hh:¬ Y2 d=true:=by
  intro hh;rw[if_pos hh] at hk
  split at hk <;> omega
 unfold Zj;rw[if_neg hh];exact⟨h.hit,h.dead,h.turned⟩
theorem Qij (h:Qjn d) (hk:0<Zv d):(Zj d).hit=true∧(Zj d).turned=false:=by
 unfold Zv at hk;rw[if_neg (by simp[h.dead])] at hk;have hh:Y2 d=true:=by
  cases hh:Y2 d with
  | true=>rfl
  | false=>rw[hh] at hk;simp at hk
 unfold Zj;rw[if_pos hh];exact⟨rfl,h.turned⟩
theorem Qmp (d:Dk) (p b:ByteArray):(Qb6 d p b).hit=(Zj d).hit∧(Qb6 d p b).dead=(Zj d).dead∧(Qb6 d p b).turned=(Zj d).turned∧(Qb6 d p b).calls=d.calls+1:=by
 unfold Qb6
 split <;> exact⟨rfl,rfl,rfl,Qks d⟩
theorem Qfj (d:Dk) (p b:ByteArray):(Qb6 d p b).files=if Zv d<2 then putF d.files p b else d.files:=by
 unfold Qb6
 split
 ·rfl
 ·exact Yy d
theorem Qvi (hd:Qjn d) (hn:Qba W d.files) (hf:f∈W):Qbu W 1 d (putD d f.1 f.2)∧(Qfn d f=false→Qjn (putD d f.1 f.2)∧getF (putD d f.1 f.2).files f.1=some f.2)∧(Qfn d f=true→(putD d f.1 f.2).hit=true):=by
 have hc:=hn f hf;have hp:putD d f.1 f.2=Qb6 d f.1 f.2:=by unfold putD;rw[if_neg (by simp[hc])]
 obtain⟨s1,s2,s3,s4⟩:=Qmp d f.1 f.2;have s5:=Qfj d f.1 f.2;have hb:Qfn d f=decide (0<Zv d):=by unfold Qfn;rw[hc];simp
 have ht:(Zj d).turned=false:=by
  rcases Nat.eq_zero_or_pos (Zv d) with h|h
  ·exact (Qgq hd h).2.2
  ·exact (Qij hd h).2
 rw[hp];refine⟨⟨?_,?_,by rw[s3,ht],?_,?_,by omega⟩,?_,?_⟩
 ·rw[s5]
  split
  ·exact Q8c hf hn
  ·exact Ext.refl W _
 ·rw[s5]
  split
  ·exact Qix hd.once _ _
  ·exact hd.once
 ·rw[s5]
  intro g hg
  split at hg
  ·rcases Q3j hg with h1|h1
   ·exact .inl h1
   ·exact .inr (by rw[h1];exact hf)
  ·exact .inl hg
 ·rw[s5]
  split
  ·exact (Qk9 _ _ _).2
  ·omega
 ·intro h
  rw[hb] at h;have h0:Zv d=0:=by simpa using h
  obtain⟨t1,t2,t3⟩:=Qgq hd h0;have a:(Qb6 d f.1 f.2).files=putF d.files f.1 f.2:=by rw[s5,if_pos (by omega)]
  exact⟨⟨by rw[s2,t2],by rw[s1,t1],by rw[s3,t3],by rw[a];exact Qix hd.once _ _⟩,by rw[a,Qg1,if_pos rfl]⟩
 ·intro h
  rw[hb] at h;rw[s1];exact (Qij hd (by simpa using h)).1
theorem Qxl (ho:Qvh W):∀ (fs:List Fil) (d:Dk),(∀ f∈fs,f∈W)→Qjn d→Qba W d.files→
  Qbu W fs.length d (putsD d fs).1∧(((putsD d fs).2=fs.length∧Qjn (putsD d fs).1∧∀ f∈fs,getF (putsD d fs).1.files f.1=some f.2)∨((putsD d fs).2<fs.length∧(putsD d fs).1.hit=true))
 | [],d,_,hd,_=>⟨Qbu.refl W hd,.inl ⟨rfl,hd,fun f hf=>by simp at hf⟩⟩
 | f :: fs,d,hs,hd,hn=>by
   have hf:=hs f List.mem_cons_self
   obtain⟨h1,h2,h3⟩:=Qvi hd hn hf
   cases hb:Qfn d f with
   | true=>
    simp only[putsD,hb,if_true]
    exact⟨h1.more (by simp),.inr ⟨by simp,h3 hb⟩⟩
   | false=>
    obtain⟨h4,h5⟩:=h2 hb
    obtain⟨h6,h7⟩:=Qxl ho fs (putD d f.1 f.2) (fun g hg=>hs g (List.mem_cons_of_mem _ hg)) h4 (hn.ext ho h1.ext)
    simp only[putsD,hb,Bool.false_eq_true,if_false]
    refine⟨(h1.trans h6).more (by simp;omega),?_⟩
    rcases h7 with ⟨a1,a2,a3⟩|⟨a1,a2⟩
    ·refine .inl ⟨by simp[a1],a2,fun g hg=>?_⟩
     rcases List.mem_cons.1 hg with rfl|hg
     ·exact h6.ext.keeps h5
     ·exact a3 g hg
    ·exact .inr ⟨by simp;omega,a2⟩
def Qhs (l:List Fil) (R:List (List (List UInt8))) (put:List Nat):Prop:=
 put.length≤R.length∧∀ (m a:Nat) (r:List (List UInt8)),put[m]?=some a→R[m]?=some r→a%4=0∧a≤r.length∧∀ j,4*j+4≤a→getF l (Ye ((m:Int)-1) r j).1=some (Ye ((m:Int)-1) r j).2
theorem Qhs.pad {R:List (List (List UInt8))} {put:List Nat} (h:Qhs l R put) {n:Nat} (hn:n<R.length):Qhs l R (put++List.replicate (n+1-put.length) 0):=by
 refine⟨by simp;have:=h.1;omega,fun m a r ha hr=>?_⟩;rcases Nat.lt_or_ge m put.length with hm|hm
 ·rw[List.getElem?_append_left hm] at ha
  exact h.2 m a r ha hr
 ·rw[List.getElem?_append_right hm,List.getElem?_replicate] at ha
  split at ha
  ·cases ha
   exact⟨rfl,by omega,fun j hj=>by omega⟩
  ·cases ha
def Qqw (R:List (List (List UInt8))):Nat:=(R.map fun r=>(r.length+3) / 4).sum
theorem Q82 (ho:Qvh W) (R:List (List (List UInt8))):∀ (m n:Nat) (put:List Nat) (d:Dk),m+n=R.length→(∀ f∈Jw ((n:Int)-1) (R.drop n),f∈W)→Qjn d→Qba W d.files→Qhs d.files R put→
  Qbu W (Qqw (R.drop n)) d (pubJ n (R.drop n) put d).1∧
  (((pubJ n (R.drop n) put d).2.2=none∧Qjn (pubJ n (R.drop n) put d).1∧Qhs (pubJ n (R.drop n) put d).1.files R (pubJ n (R.drop n) put d).2.1∧∀ f∈Jw ((n:Int)-1) (R.drop n),getF (pubJ n (R.drop n) put d).1.files f.1=some f.2)∨
     (∃ p b,(pubJ n (R.drop n) put d).2.2=some p∧(p,b)∈W∧(pubJ n (R.drop n) put d).1.hit=true)):=by
 intro m
 induction m with
 | zero=>
  intro n put d v hW hd hn hp;rw[List.drop_eq_nil_of_le (by omega)];simp only[pubJ,Jw,Qqw];exact⟨Qbu.refl W hd,.inl ⟨trivial,hd,hp,fun f hf=>by simp at hf⟩⟩
 | succ m ih=>
  intro n put d v hW hd hn hp;have g:n<R.length:=by omega
  rw[List.drop_eq_getElem_cons g] at hW ⊢;obtain⟨r,hr⟩:∃ r,r=R[n]:=⟨_,rfl⟩
  have o:R[n]?=some r:=by rw[List.getElem?_eq_getElem g,hr]
  rw[←hr] at hW ⊢;simp only[pubJ];obtain⟨p1,l⟩:∃ p1,p1=put++List.replicate (n+1-put.length) 0:=⟨_,rfl⟩
  have hP:=hp.pad g;rw[←l] at hP ⊢;have A:n<p1.length:=by rw[l];simp;omega
  obtain⟨a,ha⟩:∃ a,p1[n]?=some a:=⟨_,List.getElem?_eq_getElem A⟩
  have z:p1.getD n 0=a:=by rw[List.getD_eq_getElem?_getD,ha];rfl
  rw[z];obtain⟨b1,b2,b3⟩:=hP.2 n a r ha o;simp only[Jw] at hW;have s:∀ f∈Yu ((n:Int)-1) r,f∈W:=fun f hf=>hW f (List.mem_append_left _ hf)
  obtain⟨c1,c2⟩:=Qxl ho ((Yu ((n:Int)-1) r).drop (a / 4)) d (fun f hf=>s f (List.mem_of_mem_drop hf)) hd hn;obtain⟨q,hq⟩:∃ q,q=putsD d ((Yu ((n:Int)-1) r).drop (a / 4)):=⟨_,rfl⟩
  have t:((Yu ((n:Int)-1) r).drop (a / 4)).length=(r.length+3) / 4-a / 4:=by rw[List.length_drop,Qbp]
  rw[←hq,t] at c1 c2;have c:Qqw (r :: R.drop (n+1))=(r.length+3) / 4+Qqw (R.drop (n+1)):=rfl;have hw:Qae ((n:Int)-1) r (a / 4) d=(q.1,4*min (a / 4+q.2) (r.length / 4),((Yu ((n:Int)-1) r)[a / 4+q.2]?).map (·.1)):=by unfold Qae;rw[←hq]
  rw[hw];have u:∀ j,j<a / 4→getF q.1.files (Ye ((n:Int)-1) r j).1=some (Ye ((n:Int)-1) r j).2:=fun j hj=>c1.ext.keeps (b3 j (by omega))
  rcases c2 with ⟨d1,d2,d3⟩|⟨d1,d2⟩
  ·have e:∀ j,4*j<r.length→getF q.1.files (Ye ((n:Int)-1) r j).1=some (Ye ((n:Int)-1) r j).2:=by
    intro j hj;rcases Nat.lt_or_ge j (a / 4) with h|h
    ·exact u j h
    ·apply d3
     apply List.mem_of_getElem? (i:=j-a / 4);rw[List.getElem?_drop,show a / 4+(j-a / 4)=j by omega,Qdg _ _ _ hj]
   have k:(Yu ((n:Int)-1) r)[a / 4+q.2]?=none:=List.getElem?_eq_none (by rw[Qbp];omega);rw[k];simp only[Option.map_none];have w:Qhs q.1.files R (p1.set n (4*min (a / 4+q.2) (r.length / 4))):=by
    refine⟨by rw[List.length_set];exact hP.1,fun i x y hx hy=>?_⟩;rw[List.getElem?_set] at hx
    split at hx
    ·rename_i hi
     subst hi;rw[o] at hy;cases hx;cases hy;exact⟨by omega,by omega,fun j hj=>e j (by omega)⟩
    ·exact⟨(hP.2 i x y hx hy).1,(hP.2 i x y hx hy).2.1,fun j hj=>c1.ext.keeps ((hP.2 i x y hx hy).2.2 j hj)⟩
   have hI:=ih (n+1) (p1.set n (4*min (a / 4+q.2) (r.length / 4))) q.1 (by omega) (fun f hf=>hW f (List.mem_append_right _ (by rw[show ((n:Int)-1+1)=((n+1:Nat):Int)-1 by omega];exact hf))) d2 (hn.ext ho c1.ext) w;obtain⟨i1,i2⟩:=hI;refine⟨?_,?_⟩
   ·rw[c]
    exact (c1.trans i1).more (by omega)
   ·rcases i2 with ⟨e1,e2,e3,e4⟩|h
    ·refine .inl ⟨e1,e2,e3,fun f hf=>?_⟩
     simp only[Jw] at hf;rcases List.mem_append.1 hf with hf|hf
     ·unfold Yu at hf
      obtain⟨j,hj,rfl⟩:=List.mem_map.1 hf;rw[List.mem_range] at hj;exact i1.ext.keeps (e j (by omega))
     ·exact e4 f (by rw[show (((n+1:Nat):Int)-1)=(n:Int)-1+1 by omega];exact hf)
    ·exact .inr h
  ·have B:a / 4+q.2<(r.length+3) / 4:=by omega
   have hg:=Qdg ((n:Int)-1) r (a / 4+q.2) (by omega);rw[hg];simp only[Option.map_some];exact⟨by rw[c];exact c1.more (by omega),.inr ⟨_,(Ye ((n:Int)-1) r (a / 4+q.2)).2,rfl,s _ (List.mem_of_getElem? hg),d2⟩⟩
end
section
variable {n:Nat}
theorem Qa3 (h:n≤1048576):nLev n≤11:=by
 rcases Nat.lt_or_ge 11 (nLev n) with h1|h1
 ·have:=(Qan n 11).1 h1
  have e:4 ^ 11=4194304:=rfl;omega
 ·exact h1
theorem J4 (es:List (List UInt8)):(Zd es).length=nLev es.length+1:=by simp[Zd,levels]
theorem Qcb (es:List (List UInt8)):(Zd es)[0]?=some (es.map encE):=rfl
theorem Qdj (es:List (List UInt8)) (k:Nat) (h:k<nLev es.length):(Zd es)[k+1]?=some ((Z5 es k).map fun (x:Hsh)=>x.toList):=by unfold Zd levels;rw[List.getElem?_cons_succ,List.getElem?_map,List.getElem?_map,List.getElem?_range h];rfl
variable {es r:List (List UInt8)} {m:Nat}
theorem Qew (h:(Zd es)[m]?=some r):(m=0∧r=es.map encE)∨∃ k,m=k+1∧k<nLev es.length∧r=(Z5 es k).map fun (x:Hsh)=>x.toList:=by
 cases m with
 | zero=>rw[Qcb] at h;cases h;exact .inl ⟨rfl,rfl⟩
 | succ k=>
  have hk:k<nLev es.length:=by
   have:=(List.getElem?_eq_some_iff.1 h).1
   rw[J4] at this;omega
  rw[Qdj es k hk] at h;cases h;exact .inr ⟨k,rfl,hk,rfl⟩
theorem Qaz (h:r∈Zd es):r.length≤es.length:=by
 obtain⟨m,hm⟩:=List.mem_iff_getElem?.1 h;rcases Qew hm with ⟨_,rfl⟩|⟨k,_,_,rfl⟩
 ·simp
 ·rw[List.length_map,Qac]
  exact Nat.div_le_self _ _
theorem Qct (h:es.length≤1048576):Q37 (-1) (Zd es):=by
 have:=Qa3 h
 refine⟨by omega,by rw[J4];omega,fun r hr=>by have:=Qaz hr;omega⟩
theorem Qn9 (h:es.length≤1048576):Qvh (Yv es):=fun _ _ _ ha hb=>Qy2 (Qct h) ha hb
def cpOf (es:List (List UInt8)) (key:ByteArray):ByteArray:=sOf (Qao es.length (rootOf es) key.data.toList)
def pubD (es:List (List UInt8)) (key:ByteArray) (put:List Nat) (d:Dk):Dk×List Nat×Option ByteArray:=
 match (pubJ 0 (Zd es) put d).2.2 with
 | some p=>((pubJ 0 (Zd es) put d).1,(pubJ 0 (Zd es) put d).2.1,some p)
 | none=>(Qb6 (pubJ 0 (Zd es) put d).1 (sOf kCp) (cpOf es key),(pubJ 0 (Zd es) put d).2.1,if 0<Zv (pubJ 0 (Zd es) put d).1 then some (sOf kCp) else none)
def Qsf (l l' W:List Fil) (c:ByteArray):Prop:=∀ p,getF l' p=getF l p∨(getF l p=none∧∃ b,(p,b)∈W∧getF l' p=some b)∨(p=sOf kCp∧getF l' p=some c)
theorem Q55 (R:List (List (List UInt8))) (k:Nat) (h:∀ r∈R,r.length≤k):Qqw R≤R.length*(k+3):=by
 induction R with
 | nil=>simp[Qqw]
 | cons a R ih=>
  have h1:=ih fun r hr=>h r (List.mem_cons_of_mem _ hr)
  have h2:=h a List.mem_cons_self;have e:Qqw (a :: R)=(a.length+3) / 4+Qqw R:=rfl;rw[e,List.length_cons,Nat.add_mul];omega
theorem Q3v (h:es.length≤1048576):Qqw (Zd es)≤12*(es.length+3):=by
 refine Nat.le_trans (Q55 _ es.length fun r hr=>Qaz hr) (Nat.mul_le_mul_right _ ?_);rw[J4]
 have:=Qa3 h
 omega
variable {put:List Nat}
theorem Qhx (key:ByteArray) {d:Dk} (hl:es.length≤1048576) (hd:Qjn d) (hn:Qba (Yv es) d.files) (hp:Qhs d.files (Zd es) put) :
  Qsf d.files (pubD es key put d).1.files (Yv es) (cpOf es key)∧Once (pubD es key put d).1.files∧(pubD es key put d).1.turned=false∧
  (∀ f∈(pubD es key put d).1.files,f∈d.files∨f∈Yv es∨f=(sOf kCp,cpOf es key))∧(pubD es key put d).1.files.length≤d.files.length+12*(es.length+3)+1∧(pubD es key put d).1.calls≤d.calls+12*(es.length+3)+1∧
  (((pubD es key put d).2.2=none∧Qjn (pubD es key put d).1∧Qhs (pubD es key put d).1.files (Zd es) (pubD es key put d).2.1∧(∀ f∈Yv es,getF (pubD es key put d).1.files f.1=some f.2)∧getF (pubD es key put d).1.files (sOf kCp)=some (cpOf es key))∨
     (∃ p,(pubD es key put d).2.2=some p∧(pubD es key put d).1.hit=true∧((∃ b,(p,b)∈Yv es)∨p=sOf kCp))):=by
 have ho:=Qn9 hl;have hr:=Q3v hl;have h:=Q82 ho (Zd es) (Zd es).length 0 put d (by omega) (fun f hf=>hf) hd hn hp;rw[List.drop_zero] at h;unfold pubD;generalize pubJ 0 (Zd es) put d=q at h ⊢;obtain⟨h1,h2⟩:=h;have c:∀ p,getF q.1.files p=getF d.files p∨(getF d.files p=none∧∃ b,(p,b)∈Yv es∧getF q.1.files p=some b):=h1.ext;rcases h2 with ⟨e1,e2,e3,e4⟩|⟨p,b,e1,e2,e3⟩
 ·rw[e1]
  simp only[];obtain⟨s1,s2,s3,s4⟩:=Qmp q.1 (sOf kCp) (cpOf es key);have s5:=Qfj q.1 (sOf kCp) (cpOf es key);have i:∀ p,getF (Qb6 q.1 (sOf kCp) (cpOf es key)).files p=getF q.1.files p∨(p=sOf kCp∧getF (Qb6 q.1 (sOf kCp) (cpOf es key)).files p=some (cpOf es key)):=by
   intro p;rw[s5]
   split
   ·rw[Qg1]
    split
    ·rename_i h;exact .inr ⟨h,rfl⟩
    ·exact .inl rfl
   ·exact .inl rfl
  refine⟨fun p=>?_,?_,?_,?_,?_,?_,?_⟩
  ·rcases i p with h3|h3
   ·rw[h3]
    rcases c p with h4|h4
    ·exact .inl h4
    ·exact .inr (.inl h4)
   ·exact .inr (.inr h3)
  ·rw[s5]
   split
   ·exact Qix h1.once _ _
   ·exact h1.once
  ·rw[s3]
   rcases Nat.eq_zero_or_pos (Zv q.1) with h|h
   ·exact (Qgq e2 h).2.2
   ·exact (Qij e2 h).2
  ·intro f hf
   rw[s5] at hf
   split at hf
   ·rcases Q3j hf with h3|h3
    ·rcases h1.mem f h3 with h4|h4
     ·exact .inl h4
     ·exact .inr (.inl h4)
    ·exact .inr (.inr h3)
   ·rcases h1.mem f hf with h4|h4
    ·exact .inl h4
    ·exact .inr (.inl h4)
  ·have:=h1.len
   rw[s5]
   split
   ·have:=(Qk9 q.1.files (sOf kCp) (cpOf es key)).2;omega
   ·omega
  ·have:=h1.calls;omega
  ·rcases Nat.eq_zero_or_pos (Zv q.1) with h|h
   ·left
    obtain⟨t1,t2,t3⟩:=Qgq e2 h;have g:(Qb6 q.1 (sOf kCp) (cpOf es key)).files=putF q.1.files (sOf kCp) (cpOf es key):=by rw[s5,if_pos (by omega)]
    have k:∀ f∈Yv es,f.1≠sOf kCp:=fun f hf=>Q0g hf
    refine⟨if_neg (by omega),⟨by rw[s2,t2],by rw[s1,t1],by rw[s3,t3],by rw[g];exact Qix h1.once _ _⟩,⟨e3.1,fun m a r ha hr=>?_⟩,fun f hf=>?_,by rw[g,Qg1,if_pos rfl]⟩
    ·obtain⟨k1,k2,k3⟩:=e3.2 m a r ha hr
     refine⟨k1,k2,fun j hj=>?_⟩;rw[g,Qg1,if_neg]
     ·exact k3 j hj
     ·exact fun e=>Qel _ _ _ (Qcu e)
    ·rw[g,Qg1,if_neg (k f hf)]
     exact e4 f hf
   ·right
    exact⟨sOf kCp,if_pos h,by rw[s1];exact (Qij e2 h).1,.inr rfl⟩
 ·rw[e1]
  simp only[];refine⟨fun p=>?_,h1.once,h1.turned,fun f hf=>?_,by have:=h1.len;omega,by have:=h1.calls;omega,.inr ⟨p,rfl,e3,.inl ⟨b,e2⟩⟩⟩
  ·rcases c p with h4|h4
   ·exact .inl h4
   ·exact .inr (.inl h4)
  ·rcases h1.mem f hf with h4|h4
   ·exact .inl h4
   ·exact .inr (.inl h4)
theorem Qt6 (t:Int) (r s:List (List UInt8)) (j:Nat) (h:4*j+4≤r.length):Ye t (r++s) j=Ye t r j:=by
 unfold Ye;have e:min 4 ((r++s).length-4*j)=min 4 (r.length-4*j):=by rw[List.length_append];omega
 rw[e,List.drop_append_of_le_length (by omega),List.take_append_of_le_length (by rw[List.length_drop];omega)]
theorem Qno (es:List (List UInt8)) (e:List UInt8) (k:Nat):∃ s,Z5 (es ++ [e]) k=Z5 es k++s:=by
 have hp:0<4 ^ k:=Nat.pow_pos (by decide);by_cases h:(es.length+1) / 4 ^ k=es.length / 4 ^ k
 ·exact⟨[],by rw[Qie es e k h,List.append_nil]⟩
 ·refine⟨_,Qe7 es e k (es.length / 4 ^ k) rfl ?_⟩
  rw[Nat.succ_div] at h ⊢
  split
  ·rfl
  ·rename_i hd
   rw[if_neg hd] at h;exact absurd rfl h
theorem Qsn (n:Nat):nLev n≤nLev (n+1):=by
 rcases Nat.lt_or_ge (nLev (n+1)) (nLev n) with h|h
 ·have a:=(Qan n _).1 h
  have b:=(Qan (n+1) (nLev (n+1))).2 (by omega);omega
 ·exact h
theorem Qnl (e:List UInt8) (h:(Zd (es ++ [e]))[m]?=some r) (hm:m<(Zd es).length):∃ r0 s,(Zd es)[m]?=some r0∧r=r0++s:=by
 rw[J4] at hm;rcases Qew h with ⟨rfl,rfl⟩|⟨k,rfl,hk,rfl⟩
 ·exact⟨_,[encE e],Qcb es,by simp⟩
 ·obtain⟨s,hs⟩:=Qno es e k
  exact⟨_,s.map fun (x:Hsh)=>x.toList,Qdj es k (by omega),by rw[hs,List.map_append]⟩
variable {l:List Fil}
theorem Qo9 (e:List UInt8) (h:Qhs l (Zd es) put):Qhs l (Zd (es ++ [e])) put:=by
 refine⟨?_,fun m a r ha hr=>?_⟩
 ·have:=h.1
  rw[J4] at this ⊢
  have:=Qsn es.length
  simp only[List.length_append,List.length_cons,List.length_nil,Nat.zero_add] at *;omega
 ·have hm:=(List.getElem?_eq_some_iff.1 ha).1
  obtain⟨r0,s,h0,rfl⟩:=Qnl e hr (by have:=h.1;omega);obtain⟨k1,k2,k3⟩:=h.2 m a r0 ha h0;refine⟨k1,by rw[List.length_append];omega,fun j hj=>?_⟩;rw[Qt6 _ _ _ _ (by omega)];exact k3 j hj
theorem Qta (l:List Fil) (es:List (List UInt8)):Qhs l (Zd es) []:=⟨by simp,fun m a r ha=>by simp at ha⟩
def Qea (R:List (List (List UInt8))) (put:List Nat):Prop:=put.length≤R.length∧∀ (m a:Nat) (r:List (List UInt8)),put[m]?=some a→R[m]?=some r→a%4=0∧a≤r.length
variable {R:List (List (List UInt8))}
theorem Qhs.mark (h:Qhs l R put):Qea R put:=⟨h.1,fun m a r h1 h2=>⟨(h.2 m a r h1 h2).1,(h.2 m a r h1 h2).2.1⟩⟩
theorem Qea.next (h:Qea R put) {x:Nat} (hr:R[n]?=some r) (hx:x%4=0∧x≤r.length):Qea R ((put++List.replicate (n+1-put.length) 0).set n x):=by
 have hn:=(List.getElem?_eq_some_iff.1 hr).1;refine⟨by simp;have:=h.1;omega,fun m a q ha hq=>?_⟩;rw[List.getElem?_set] at ha
 split at ha
 ·rename_i hnm
  subst hnm
  split at ha
  ·cases ha;rw[hr] at hq;cases hq;exact hx
  ·cases ha
 ·rcases Nat.lt_or_ge m put.length with hm|hm
  ·rw[List.getElem?_append_left hm] at ha
   exact h.2 m a q ha hq
  ·rw[List.getElem?_append_right hm,List.getElem?_replicate] at ha
   split at ha
   ·cases ha;exact⟨rfl,by omega⟩
   ·cases ha
theorem Qmr (t:Int) (row:List (List UInt8)) (j:Nat) (d:Dk):(Qae t row j d).2.1%4=0∧(Qae t row j d).2.1≤row.length:=by unfold Qae;simp only[];omega
theorem Q3t (hr:R[n]?=some r) (put:List Nat) (d:Dk) {p1:List Nat} {q:Dk×Nat×Option ByteArray} (hp:p1=put++List.replicate (n+1-put.length) 0) (hq:q=Qae ((n:Int)-1) r (p1.getD n 0 / 4) d) :
  pubJ n (R.drop n) put d=match q.2.2 with|some p=>(q.1,p1.set n q.2.1,some p)|none=>pubJ (n+1) (R.drop (n+1)) (p1.set n q.2.1) q.1:=by
 obtain⟨a,he⟩:=List.getElem?_eq_some_iff.1 hr;rw[List.drop_eq_getElem_cons a,he];simp only[pubJ];rw[←hp,←hq] <;> cases q.2.2 <;> rfl
theorem Q6b (h:R.length≤n) (put:List Nat) (d:Dk):pubJ n (R.drop n) put d=(d,put,none):=by rw[List.drop_eq_nil_of_le h];rfl
end
end Go.Proofs.YtefccfakhgdfbaaGreatDoor
