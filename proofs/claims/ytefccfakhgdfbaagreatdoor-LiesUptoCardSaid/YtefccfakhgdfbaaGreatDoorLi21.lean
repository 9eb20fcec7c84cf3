/- tileslaw.updated: one Update with lies in force. Conditions: two stores, one of the first entries alone; bounds as the statement claims them. -/
import Derived.Test.YtefccfakhgdfbaaGreatDoorLi20
set_option linter.unusedVariables false
set_option linter.unusedSimpArgs false
open Go.RowKit Go.Proofs.Tryz
set_option maxRecDepth 100000
set_option maxHeartbeats 4000000
namespace Go.Proofs.YtefccfakhgdfbaaGreatDoor
section
theorem Q05 {o1 o2:Option Hsh} {s1 s2:ByteArray} (h1:∀ h,o1=some h→s1=HS h) (h2:∀ h,o2=some h→s2=HS h):∀ h,twoV o1 o2=some h→HS (hash (1 :: (s1.data.toList++s2.data.toList)))=HS h:=by
 intro h hh;cases o1 with
 | none=>cases hh
 | some a=>
  cases o2 with
  | none=>cases hh
  | some b=>
   rw[h1 a rfl,h2 b rfl];cases hh;rfl
theorem Q1c (n:Nt) (N k j:Nat):(Qbd n N k j).length≤1:=by
 unfold Qbd
 split <;> simp
theorem Qx9 (w0 w:World) (v0 v1 v2:Value) (n:Nt) (qb nb N:Nat) (vm:Value) (ms:List ByteArray) (h:LkW w0 nb v0 v1 v2 n qb N w vm ms) (k j:Nat) (hk:2*4 ^ k<9223372036854775808) (hj:(j+1)*(2*4 ^ k)≤N) (hN:N<9223372036854775808) (hms:ms.length+1<1099511627776) :
  Calls prog 153 #[.pointer (some ⟨qb,0,none⟩),.int .i64 ((2*4 ^ k:Nat):Int),.int .i64 j] w (hpost (twoV (Qb8 n N k (2*j)) (Qb8 n N k (2*j+1))) w0.heap.size qb nb N vm ms (Qbd n N k (2*j)++Qbd n N k (2*j+1)) w):=by
 have R:k<4 ^ k:=Nat.lt_pow_self (by decide);have hp:0<4 ^ k:=Nat.pow_pos (by decide);have q:(2*j+1+1)*4 ^ k≤N:=Nat.le_trans (Nat.le_of_eq (by rw[←Nat.mul_assoc];congr 1;omega)) hj;have r:(2*j+1)*4 ^ k≤N:=Nat.le_trans (Nat.mul_le_mul_right _ (by omega)) q;have a:=Qjb w0 w v0 v1 v2 n qb nb N vm ms h k (2*j) (by omega) r hN (by omega);obtain⟨o1,t⟩:∃ o,o=Qb8 n N k (2*j):=⟨_,rfl⟩
 obtain⟨a1,l⟩:∃ o,o=Qbd n N k (2*j):=⟨_,rfl⟩
 obtain⟨o2,z⟩:∃ o,o=Qb8 n N k (2*j+1):=⟨_,rfl⟩
 obtain⟨a2,v⟩:∃ o,o=Qbd n N k (2*j+1):=⟨_,rfl⟩
 have C:a1.length≤1:=by rw[l];exact Q1c _ _ _ _
 have c:=fun (w2:World) (b:Value) (h2:LkW w0 nb v0 v1 v2 n qb N w2 b (ms++a1))=>Qjb w0 w2 v0 v1 v2 n qb nb N b (ms++a1) h2 k (2*j+1) (by omega) q hN (by rw[List.length_append];omega)
 rw[←t,←l] at a ⊢;rw[←z,←v] at c ⊢;clear t l z v;have J:2*j+1<9223372036854775808:=by have h3:(2*j+1+1)*1≤(2*j+1+1)*4 ^ k:=Nat.mul_le_mul_left _ hp;omega
 obtain⟨u,hu⟩:∃ u,u=4 ^ k:=⟨_,rfl⟩
 rw[←hu] at hk hp R a c ⊢;have HU:=zh hu;have L:=zh a;have F:=zh c;have H:=zh h;have D:((2*u:Nat):Int) / 2=(u:Int):=by omega
 have HJ:=zh (show (2:Int)*(j:Int)=((2*j:Nat):Int) by omega);have Q:=zh (show (2:Int)*(j:Int)+1=((2*j+1:Nat):Int) by omega);have S:(2:Int)*(j:Int)+1≤9223372036854775807:=by omega
 obtain⟨uu,p⟩:∃ uu,uu=2*u:=⟨_,rfl⟩
 rw[←p] at D hk ⊢;have d:=zh p;clear J p a c hu r q hj h C
 go_enter func153,ntmps153
 go_wp2_with fail
 go_loopg [7,8] k (fun gg s7 s8 wr=>∃ i x:Nat,i≤k∧k-i≤gg∧s7=.int .i64 i∧s8=.int .i64 x∧x=4 ^ i∧w=wr)
 case atStart=>exact⟨0,1,Nat.zero_le _,by omega,rfl,rfl,rfl,rfl⟩
 case round=>
  obtain⟨i,x,hi,hg,rfl,rfl,hx,rfl⟩:=hrel;by_cases hlt:i<k
  ·have h4:4*x≤u:=by rw[hx,HU.o,Nat.mul_comm,←Nat.pow_succ];exact Nat.pow_le_pow_right (by decide) hlt
   have P:(x:Int)≤(uu:Int) / 4:=by have:=d.o;omega
   have T:(x:Int)*4≤(u:Int):=by omega
   have HX:=zh (show x*4=4 ^ (i+1) by rw[hx,Nat.pow_succ]);clear hx
   go_wp2_with fail
   go_roundg (k-(i+1))
   case measure=>omega
   case rel=>exact⟨i+1,x*4,by omega,by omega,by go_num,by go_num,HX.o,rfl⟩
  ·obtain rfl:i=k:=by omega
   obtain rfl:x=u:=by rw[hx,HU.o]
   have P:¬ (x:Int)≤(uu:Int) / 4:=by have:=d.o;omega
   have U:(x:Int)<(uu:Int):=by have:=d.o;omega
   clear hx hlt
   go_wp2_with (first
    | (go_at_call 153;first
      | (rw[Q.o];refine (F.o w2 b (H.o.step g.o)).mono ?_;rintro e w3 ⟨s2,I,rfl,A,M,f⟩;have E:=zh A;have B:=zh f;clear A f)
      | (rw[HJ.o];refine L.o.mono ?_;rintro e w2 ⟨s1,b,rfl,y,K,m⟩;have G:=zh y;have g:=zh m;clear y m))
    | (go_at_call 90;refine (Qbe s1 s2 _ K M).mono ?_;rintro e w4 ⟨rfl,s⟩;have O:=zh s;clear s)
    | fail)
   go_ret;refine⟨_,I,rfl,Q05 G.o E.o,by rw[Y6];decide,?_⟩;rw[←List.append_assoc];exact (g.o.trans B.o).then O.o
end
section
theorem Q2f (w0 w:World) (v0 v1 v2:Value) (n:Nt) (qb nb N:Nat) (vm:Value) (ms:List ByteArray) (h:LkW w0 nb v0 v1 v2 n qb N w vm ms) (e j:Nat) (hj:(j+1)*2 ^ e≤N) (hN:N<9223372036854775808) (hms:ms.length+1<1099511627776) :
  Calls prog 153 #[.pointer (some ⟨qb,0,none⟩),.int .i64 ((2 ^ e:Nat):Int),.int .i64 j] w (hpost (Qn6 n N e j) w0.heap.size qb nb N vm ms (Qkv n N e j) w):=by
 have hb:2 ^ e<9223372036854775808:=by
  have:1*2 ^ e≤(j+1)*2 ^ e:=Nat.mul_le_mul_right _ (by omega)
  omega
 unfold Qn6 Qkv;by_cases ho:e%2=1
 ·rw[if_pos ho,if_pos ho]
  obtain⟨k,rfl⟩:∃ k,e=2*k+1:=⟨e / 2,by omega⟩
  have hp:2 ^ (2*k+1)=2*4 ^ k:=by rw[Nat.pow_succ,pow24,Nat.mul_comm]
  rw[show (2*k+1) / 2=k by omega];rw[hp] at hj hb ⊢;exact Qx9 w0 w v0 v1 v2 n qb nb N vm ms h k j hb hj hN hms
 ·rw[if_neg ho,if_neg ho]
  obtain⟨k,rfl⟩:∃ k,e=2*k:=⟨e / 2,by omega⟩
  rw[show 2*k / 2=k by omega];rw[pow24] at hj hb ⊢;exact Qjb w0 w v0 v1 v2 n qb nb N vm ms h k j hb hj hN (by omega)
theorem Q72 (e:Nat):2 ^ e &&& (2 ^ e-1)=0:=by rw[Nat.and_two_pow_sub_one_eq_mod,Nat.mod_self]
theorem Qxb {e d:Nat} (h1:2 ^ e≤2 ^ d) (h2:2 ^ d<2*2 ^ e):d=e:=by have a:=(Nat.pow_le_pow_iff_right (by decide:1<2)).1 h1;rw[Nat.mul_comm,←Nat.pow_succ] at h2;have b:=(Nat.pow_lt_pow_iff_right (by decide:1<2)).1 h2;omega
theorem Qca (w0:World) (v0 v1 v2:Value) (n:Nt) (qb nb N:Nat) (hN:N<9223372036854775808):∀ (f i m:Nat),m≤f→1≤m→i+m≤N→∀ (w:World) (vm:Value) (ms:List ByteArray),LkW w0 nb v0 v1 v2 n qb N w vm ms→ms.length+(Qbc n N f i m).length+1<1099511627776→
  Calls prog 95 #[.pointer (some ⟨qb,0,none⟩),.int .i64 i,.int .i64 m] w (hpost (Qb7 n N f i m) w0.heap.size qb nb N vm ms (Qbc n N f i m) w)
 | 0,i,m,h0,h1,_=>by omega
 | f+1,i,m,h0,h1,h2=>fun w vm ms h hms=>by
  obtain⟨o,ho⟩:∃ o,o=Qb7 n N (f+1) i m:=⟨_,rfl⟩
  obtain⟨add,a⟩:∃ o,o=Qbc n N (f+1) i m:=⟨_,rfl⟩
  rw[←ho,←a]
  rw[←a] at hms
  rw[Qb7] at ho
  rw[Qbc] at a
  obtain⟨r,hr⟩:∃ r,r=i%m:=⟨_,rfl⟩
  obtain⟨d,hd⟩:∃ d,d=i / m:=⟨_,rfl⟩
  have q:(i:Int)%(m:Int)=(r:Int):=by rw[hr];exact (Int.natCast_emod i m).symm
  have A:(i:Int) / (m:Int)=(d:Int):=by rw[hd];exact (Int.natCast_ediv i m).symm
  have R:d*m+r=i:=by rw[hd,hr,Nat.mul_comm];exact Nat.div_add_mod i m
  have ap:r≤i:=by rw[hr];exact Nat.mod_le _ _
  have ar:d≤i:=by rw[hd];exact Nat.div_le_self _ _
  have am:r<m:=by rw[hr];exact Nat.mod_lt _ (by omega)
  rw[←hr,←hd] at ho a
  have HO:=zh ho
  have HA:=zh a
  have H:=zh h
  have E:=zh hms
  have X:=zh R
  have ak:=zh q
  have Y:=zh A
  have ao:(0:Int)<(m:Int):=by omega
  clear ho a h hms R hr hd q A
  go_enter func95,ntmps95
  go_wp2_with fail
  go_loopg [7] m (fun gg s7 wr=>∃ e x:Nat,x=2 ^ e∧x≤m∧1≤x∧m-x≤gg∧s7=.int .i64 x∧w=wr)
  case atStart=>exact⟨0,1,rfl,by omega,by omega,by omega,rfl,rfl⟩
  case round=>
   obtain⟨e,x,hx,ag,aq,hg,rfl,rfl⟩:=hrel
   by_cases hlt:x≤m-x
   ·have aj:(x:Int)≤(m:Int)-(x:Int):=by omega
    have HX:=zh (show 2*x=2 ^ (e+1) by rw[hx,Nat.pow_succ,Nat.mul_comm])
    clear hx
    go_wp2_with fail
    go_roundg (m-2*x)
    case measure=>omega
    case rel=>exact⟨e+1,2*x,HX.o,by omega,by omega,by omega,by go_num,rfl⟩
   ·have aj:¬ (x:Int)≤(m:Int)-(x:Int):=by omega
    have I:x=m→m &&& (m-1)=0∧Lib.bitLen m-1=e:=fun hxe=>by
     have h6:m=2 ^ e:=hxe ▸ hx
     have l:m &&& (m-1)=0:=by rw[h6];exact Q72 e
     refine⟨l,?_⟩
     have h5:=Qdb h1 (by omega) l
     obtain⟨d',y⟩:∃ d',d'=Lib.bitLen m-1:=⟨_,rfl⟩
     rw[←y] at h5 ⊢
     have h7:2 ^ e=2 ^ d':=h6.symm.trans h5
     have h8:0<2 ^ e:=Nat.pow_pos (by decide)
     exact Qxb (Nat.le_of_eq h7) (by rw[←h7];omega)
    have B:x≠m→¬ m &&& (m-1)=0:=fun hxe l=>by
     have h5:=Qdb h1 (by omega) l
     obtain⟨d',y⟩:∃ d',d'=Lib.bitLen m-1:=⟨_,rfl⟩
     rw[←y] at h5
     have h7:d'=e:=Qxb (by rw[←h5,←hx];exact ag) (by rw[←h5,←hx];omega)
     rw[h7,←hx] at h5
     exact hxe h5.symm
    have U:=zh I
    have S:=zh B
    have HX:=zh hx
    have q:=ak.o
    clear hx I B
    go_upto_region 4 with fail
    go_cut [26] from 18 to 26 (fun s26 wx=>w=wx∧s26=.bool (decide (x=m∧r=0)))
    case first=>
     by_cases hxe:x=m
     ·have hd:((x:Int) == (m:Int))=true:=by simp;omega
      have G:=zh hxe
      clear hxe
      by_cases hr0:r=0
      ·have al:((r:Int) == 0)=true:=by simp;omega
       have D:=zh hr0
       clear hr0
       go_wp2_with fail
       go_meet
       exact⟨rfl,by rw[decide_eq_true ⟨G.o,D.o⟩]⟩
      ·have al:((r:Int) == 0)=false:=by simp;omega
       have D:=zh hr0
       clear hr0
       go_wp2_with fail
       go_meet
       exact⟨rfl,by rw[decide_eq_false fun hh=>D.o hh.2]⟩
     ·have hd:((x:Int) == (m:Int))=false:=by simp;omega
      have G:=zh hxe
      clear hxe
      go_wp2_with fail
      go_meet
      exact⟨rfl,by rw[decide_eq_false fun hh=>G.o hh.1]⟩
    case rest=>
     obtain⟨rfl,rfl⟩:=hcut
     by_cases hco:x=m∧r=0
     ·obtain⟨rfl,rfl⟩:=hco
      have hp:=U.o rfl
      have hc:=Q2f w0 w v0 v1 v2 n qb nb N vm ms H.o e d (by rw[←HX.o,Nat.add_mul,Nat.one_mul];have:=X.o;omega) hN (by have:=E.o;omega)
      rw[←HX.o] at hc
      have g:=zh (HO.o.trans (by rw[if_pos ⟨hp.1,rfl⟩,hp.2]:_=Qn6 n N e d))
      have b:=zh (HA.o.trans (by rw[if_pos ⟨hp.1,rfl⟩,hp.2]:_=Qkv n N e d))
      have HC:=zh hc
      have A:=Y.o
      clear hp hc q
      go_wp2_with (first
       | (go_at_call 153;refine HC.o.mono ?_;rintro e2 w2 ⟨s1,p,rfl,s,F,c⟩;have C:=zh s;have j:=zh c;clear s c)
       | fail)
      go_ret
      exact⟨s1,p,rfl,by rw[g.o];exact C.o,F,by rw[b.o];exact j.o⟩
     ·have ac:2≤m:=by
       rcases Nat.lt_or_ge m 2 with h9|h9
       ·exact absurd ⟨by omega,by omega⟩ hco
       ·exact h9
      have J:¬ (m &&& (m-1)=0∧r=0):=fun hh=>by
       by_cases hxe:x=m
       ·exact hco ⟨hxe,hh.2⟩
       ·exact S.o hxe hh.1
      have g:=zh (HO.o.trans (by rw[if_neg J]:_=twoV (Qb7 n N f i (below m)) (Qb7 n N f (i+below m) (m-below m))))
      have b:=zh (HA.o.trans (by rw[if_neg J]:_=Qbc n N f i (below m)++Qbc n N f (i+below m) (m-below m)))
      have O:=Yi ac
      have u:=Jk (m:Int) w (by omega) (by omega)
      rw[Int.toNat_natCast] at u
      have V:add.length=(Qbc n N f i (below m)).length+(Qbc n N f (i+below m) (m-below m)).length:=by rw[b.o,List.length_append]
      have z:=Qca w0 v0 v1 v2 n qb nb N hN f i (below m) (by omega) (by omega) (by omega) w vm ms H.o (by have:=E.o;omega)
      have t:=fun w2 p h2=>Qca w0 v0 v1 v2 n qb nb N hN f (i+below m) (m-below m) (by omega) (by omega) (by omega) w2 p (ms++Qbc n N f i (below m)) h2 (by rw[List.length_append];have:=E.o;omega)
      obtain⟨k,hk⟩:∃ k,k=below m:=⟨_,rfl⟩
      rw[←hk] at O u z t g b
      have T:(m:Int)-(k:Int)=((m-k:Nat):Int):=by omega
      have K:(i:Int)+(k:Int)=((i+k:Nat):Int):=by omega
      obtain⟨mk,M⟩:∃ mk,mk=m-k:=⟨_,rfl⟩
      obtain⟨ik,P⟩:∃ ik,ik=i+k:=⟨_,rfl⟩
      rw[←M] at T t g b
      rw[←P] at K t g b
      have an:ik<9223372036854775808:=by omega
      have au:k<9223372036854775808:=by omega
      have ab:=zh u
      have ae:=zh z
      have aa:=zh t
      have ai:=zh (decide_eq_false hco)
      clear u z t hk V J hco q M P O
      rw[ai.o]
      go_wp2_with (first
       | (go_at_call 89;refine ab.o.mono ?_;rintro e2 w2 ⟨rfl,rfl⟩)
       | (go_at_call 95;first
         | (refine (aa.o w2 p (H.o.step j.o)).mono ?_;rintro e3 w3 ⟨s2,ad,rfl,Q,af,v⟩;have Z:=zh Q;have W:=zh v;clear Q v)
         | (refine ae.o.mono ?_;rintro e2 w2 ⟨s1,p,rfl,s,F,c⟩;have C:=zh s;have j:=zh c;clear s c))
       | (go_at_call 90;refine (Qbe s1 s2 _ F af).mono ?_;rintro e4 w4 ⟨rfl,L⟩;have ah:=zh L;clear L)
       | fail)
      go_ret
      refine⟨_,ad,rfl,by rw[g.o];exact Q05 C.o Z.o,by rw[Y6];decide,?_⟩
      rw[b.o,←List.append_assoc]
      exact (j.o.trans W.o).then ah.o
end
section
theorem Qbq (n:Nt) (N:Nat) (x:Nat×Nat):∀ (rs:List (Nat×Nat)),Yg n N (rs ++ [x])=(Yg n N rs).bind fun l=>(Qb7 n N (x.2-x.1) x.1 (x.2-x.1)).map fun h=>l ++ [h]
 | []=>by
  rw[List.nil_append,Yg,Yg]
  cases Qb7 n N (x.2-x.1) x.1 (x.2-x.1) <;> rfl
 | y :: rs=>by
  rw[List.cons_append,Yg,Qbq n N x rs,Yg]
  cases Qb7 n N (y.2-y.1) y.1 (y.2-y.1) with
  | none=>rfl
  | some h=>
   cases Yg n N rs with
   | none=>rfl
   | some l=>cases Qb7 n N (x.2-x.1) x.1 (x.2-x.1) <;> rfl
theorem Qd9 (n:Nt) (N:Nat) (x:Nat×Nat) (rs:List (Nat×Nat)):Zm n N (rs ++ [x])=Zm n N rs++Qbc n N (x.2-x.1) x.1 (x.2-x.1):=by simp[Zm]
def Q3y (o:Option (List Hsh)) (base qb nb N:Nat) (vm:Value) (ms add:List ByteArray) (cnt:Nat) (w:World) (e:Ending) (w':World):Prop:=
 ∃ v vm' ss,e=.returned v∧Q0 w' w.heap.size v ss∧(∀ hs,o=some hs→ss=hs.map HS)∧ss.length=cnt∧(∀ s∈ss,s.size≤8)∧Jf base qb nb N w vm (ms++add) w' vm'∧∀ k,v.ownBlock=some k→¬ rlkS qb vm' k
section
variable {w w2 w3 w4:World} {base qb nb N:Nat} {vm vm2 vm3 v1 v4:Value} {ms m1 m2:List ByteArray} {ss:List ByteArray}
theorem Qqq (own:Q0 w2 w.heap.size v1 ss) (ap:∀ k,v1.ownBlock=some k→¬ rlkS qb vm2 k) (a:Jf base qb nb N w2 vm2 m2 w3 vm3):Q0 w3 w.heap.size v1 ss∧∀ k,v1.ownBlock=some k→¬ rlkS qb vm3 k:=by
 refine⟨Q3 own a.fr fun k hk=>ap k hk,fun k hk hs=>?_⟩;obtain⟨C,hC⟩:=Qe own hk
 have:=Qc hC
 rcases a.sub k hs with e|e
 ·exact ap k hk e
 ·omega
theorem Qk3 (st:Jf base qb nb N w vm m2 w3 vm3) (own:Q0 w3 w.heap.size v1 ss) (ap:∀ k,v1.ownBlock=some k→¬ rlkS qb vm3 k) {r:ByteArray}
  (o:w4.ownsRow w.heap.size 9 1 v4 (ss.length+1) (ss.map Value.string ++ [.string r])) (hg:(w3.alloc (.cells #[.string r] 9)).grownBy w4 v1.ownBlock) (hm:J2 (w3.alloc (.cells #[.string r] 9)) v1 v4) :
  Q0 w4 w.heap.size v4 (ss ++ [r])∧Jf base qb nb N w vm m2 w4 vm3∧∀ k,v4.ownBlock=some k→¬ rlkS qb vm3 k:=by
 have hf:Fr (fun k=>v1.ownBlock=some k) w3 w4:=(Fr.ofBelow (Qa w3 _)).trans (Fr.ofGrown hg fun k _ e=>e);refine⟨?_,⟨st.lk.fr hf fun k hk e=>ap k e hk,st.fr.step hf fun i hi e=>?_,st.sub⟩,fun k hk hs=>?_⟩
 ·unfold Q0
  rw[List.length_append,List.length_singleton,List.map_append];exact o
 ·have:=(own.lt i e).1
  omega
 ·rcases hm k hk with e|e
  ·exact ap k e hs
  ·have h1:=st.lk.lt k hs
   have h2:=(Qa w3 (.cells #[.string r] 9)).size;omega
end
theorem Qlb {o:Option (List Hsh)} {r:Option Hsh} {ss:List ByteArray} {s:ByteArray} (h1:∀ hs,o=some hs→ss=hs.map HS) (h2:∀ h,r=some h→s=HS h):∀ hs,(o.bind fun l=>r.map fun h=>l ++ [h])=some hs→ss ++ [s]=hs.map HS:=by
 intro hs hh;cases o with
 | none=>cases hh
 | some l=>
  cases r with
  | none=>cases hh
  | some x=>
   rw[h1 l rfl,h2 x rfl];cases hh;simp
theorem Qje (w0:World) (v0 v1 v2:Value) (n:Nt) (qb nb N:Nat) (hN:N<9223372036854775808):∀ (f a b i:Nat),b-a≤f→a≤i→i<b→b≤N→∀ (w:World) (vm:Value) (ms:List ByteArray),LkW w0 nb v0 v1 v2 n qb N w vm ms→ms.length+(Zm n N (Yx f a b i).reverse).length+1<1099511627776→
  Calls prog 38 #[.pointer (some ⟨qb,0,none⟩),.int .i64 ((i-a:Nat):Int),.int .i64 a,.int .i64 ((b-a:Nat):Int)] w (Q3y (Yg n N (Yx f a b i).reverse) w0.heap.size qb nb N vm ms (Zm n N (Yx f a b i).reverse) (Yx f a b i).length w)
 | 0,a,b,i,h0,h1,h2=>by omega
 | f+1,a,b,i,h0,h1,h2=>fun h3 w vm ms h hms=>by
  obtain⟨j0,ae,ac,af,aa⟩:=info_parts Qb5
  have v:=Qdt (f+1) 63 a b i (by omega) (by omega)
  obtain⟨P,hP⟩:∃ P,P=Yx (f+1) a b i:=⟨_,rfl⟩
  rw[←hP] at hms v ⊢
  rw[Yx] at hP
  obtain⟨m,hm⟩:∃ m,m=b-a:=⟨_,rfl⟩
  obtain⟨j,hj⟩:∃ j,j=i-a:=⟨_,rfl⟩
  rw[←hm] at hP
  rw[←hm,←hj]
  by_cases h1m:m≤1
  ·rw[if_pos h1m] at hP
   subst hP
   have ak:((m:Int) == 1)=true:=by simp;omega
   have am:=zh h.lk
   clear hms h
   go_enter func38,ntmps38
   go_wp2
   go_ret
   exact⟨_,vm,[],rfl,World.ownsRow_nil _ _ _ _,fun hs hh=>by cases hh;rfl,rfl,fun s hs=>by simp at hs,by rw[show Zm n N ([]:List (Nat×Nat)).reverse = [] from rfl,List.append_nil];exact .ofBelow am.o (Below.refl _ _),fun k hk=>by simp[Value.ownBlock] at hk⟩
  ·rw[if_neg h1m] at hP
   have ak:((m:Int) == 1)=false:=by simp;omega
   obtain⟨k,hk⟩:∃ k,k=below m:=⟨_,rfl⟩
   have Z:=Yi (n:=m) (by omega)
   have B:=Jk (m:Int) w (by omega) (by omega)
   rw[Int.toNat_natCast] at B
   rw[←hk] at hP Z B
   have aw:m<9223372036854775808:=by omega
   have au:j<9223372036854775808:=by omega
   have ay:a<9223372036854775808:=by omega
   have an:a+k<9223372036854775808:=by omega
   have ar:¬ (m:Int)=1:=by omega
   have al:(m:Int)-(k:Int)=((b-(a+k):Nat):Int):=by omega
   have aj:(a:Int)+(k:Int)=((a+k:Nat):Int):=by omega
   have H:=zh h
   have av:=zh hms
   have ad:=zh B
   obtain⟨c,hc⟩:∃ c,c=b-(a+k):=⟨_,rfl⟩
   obtain⟨d,hd⟩:∃ d,d=a+k:=⟨_,rfl⟩
   rw[←hc] at al
   rw[←hd] at aj an
   have ap:c<9223372036854775808:=by omega
   have aq:k<9223372036854775808:=by omega
   by_cases hjk:j<k
   ·rw[if_pos (by omega)] at hP
    have ag:(j:Int)<(k:Int):=by omega
    obtain⟨Q,hQ⟩:∃ Q,Q=Yx f a (a+k) i:=⟨_,rfl⟩
    rw[←hQ] at hP
    have u:P.reverse=Q.reverse ++ [(a+k,b)]:=by rw[hP,List.reverse_cons]
    have hV:=Qbq n N (a+k,b) Q.reverse
    have hM:=Qd9 n N (a+k,b) Q.reverse
    rw[←u] at hV hM
    dsimp only at hV hM
    rw[←hd,←show c=b-d by omega] at hV hM
    have I:=congrArg List.length hM
    rw[List.length_append] at I
    have q:=Qje w0 v0 v1 v2 n qb nb N hN f a (a+k) i (by omega) h1 (by omega) (by omega) w vm ms h (by rw[←hQ];omega)
    rw[←hQ,←hj,show a+k-a=k by omega] at q
    have J:=fun w2 r h2=>Qca w0 v0 v1 v2 n qb nb N hN c d c (by omega) (by omega) (by omega) w2 r (ms++Zm n N Q.reverse) h2 (by rw[List.length_append];omega)
    have z:P.length=Q.length+1:=by rw[hP];rfl
    have Y:=zh q
    have U:=zh J
    have HV:=zh hV
    have HM:=zh hM
    have L:=zh (And.intro z v)
    clear h hms B q J hV hM u hQ hP I z v Z hm hj hc hd hk h0 h1 h2 h3 h1m hjk
    go_enter func38,ntmps38
    go_wp2_with (first
     | (go_at_call 89;refine ad.o.mono ?_;rintro e2 w2 ⟨rfl,rfl⟩)
     | (go_at_call 38;refine Y.o.mono ?_;rintro e2 w2 ⟨vp,r,ss,rfl,D,F,A,C,t,y⟩;have O:=zh D;have T:=zh F;have G:=zh A;have X:=zh C;have p:=zh t;have M:=zh y;clear D F A C t y)
     | (go_at_call 95;refine (U.o w2 r (H.o.step p.o)).mono ?_;rintro e3 w3 ⟨s2,V,rfl,K,E,g⟩;have R:=zh K;have ab:=zh E;have x:=zh g;have l:=zh (Qqq O.o M.o g);clear K E g;have W:ss.length+1≤1099511627776:=(by have h5:=L.o;have h6:=G.o;omega);have ai:w.heap.size≤w3.heap.size:=Nat.le_trans p.o.fr.size x.o.fr.size)
     | (at_builtin;refine Yr rfl _ _ _ rfl w.heap.size 9 j0 _ 1 16 underlying22 ae ac af aa rfl (by decide) (by decide) vp ss.length (ss.map Value.string) rfl (Ql l.o.1 (Qa _ _)) ⟨w3.heap.size,0,none⟩ 1 1 [.string s2] rfl rfl (by have:=cell_one_new w3 (.string s2) 9;simpa using this) (by simp[Value.oneCell']) (by decide) W (by have:=(Qa w3 (.cells #[.string s2] 9)).size;omega) ?_;intro v6 w6 g2 g3 g4 g5;have S:=zh (Qk3 (p.o.trans x.o) l.o.1 l.o.2 g2 g3 g4);clear g2 g3 g4 g5)
     | fail)
    go_ret
    obtain⟨q1,q2,q3⟩:=S.o
    refine⟨v6,V,ss ++ [s2],rfl,q1,by rw[HV.o];exact Qlb T.o R.o,by rw[List.length_append,G.o,L.o.1];rfl,fun s hs=>?_,by rw[HM.o,←List.append_assoc];exact q2,q3⟩
    rcases List.mem_append.1 hs with e|e
    ·exact X.o s e
    ·rw[List.mem_singleton.1 e];exact ab.o
   ·rw[if_neg (by omega)] at hP
    have ag:¬ (j:Int)<(k:Int):=by omega
    obtain⟨Q,hQ⟩:∃ Q,Q=Yx f (a+k) b i:=⟨_,rfl⟩
    rw[←hQ] at hP
    have u:P.reverse=Q.reverse ++ [(a,a+k)]:=by rw[hP,List.reverse_cons]
    have hV:=Qbq n N (a,a+k) Q.reverse
    have hM:=Qd9 n N (a,a+k) Q.reverse
    rw[←u] at hV hM
    dsimp only at hV hM
    rw[show a+k-a=k by omega] at hV hM
    have I:=congrArg List.length hM
    rw[List.length_append] at I
    have q:=Qje w0 v0 v1 v2 n qb nb N hN f (a+k) b i (by omega) (by omega) (by omega) h3 w vm ms h (by rw[←hQ];omega)
    obtain⟨jk,ah⟩:∃ jk,jk=j-k:=⟨_,rfl⟩
    have ax:(j:Int)-(k:Int)=(jk:Int):=by omega
    rw[←hQ,←hc,←hd,show i-d=jk by omega] at q
    have ao:jk<9223372036854775808:=by omega
    have J:=fun w2 r h2=>Qca w0 v0 v1 v2 n qb nb N hN k a k (by omega) (by omega) (by omega) w2 r (ms++Zm n N Q.reverse) h2 (by rw[List.length_append];omega)
    have z:P.length=Q.length+1:=by rw[hP];rfl
    have Y:=zh q
    have U:=zh J
    have HV:=zh hV
    have HM:=zh hM
    have L:=zh (And.intro z v)
    clear h hms B q J hV hM u hQ hP I z v Z hm hj hc hd hk h0 h1 h2 h3 h1m hjk ah
    go_enter func38,ntmps38
    go_wp2_with (first
     | (go_at_call 89;refine ad.o.mono ?_;rintro e2 w2 ⟨rfl,rfl⟩)
     | (go_at_call 38;refine Y.o.mono ?_;rintro e2 w2 ⟨vp,r,ss,rfl,D,F,A,C,t,y⟩;have O:=zh D;have T:=zh F;have G:=zh A;have X:=zh C;have p:=zh t;have M:=zh y;clear D F A C t y)
     | (go_at_call 95;refine (U.o w2 r (H.o.step p.o)).mono ?_;rintro e3 w3 ⟨s2,V,rfl,K,E,g⟩;have R:=zh K;have ab:=zh E;have x:=zh g;have l:=zh (Qqq O.o M.o g);clear K E g;have W:ss.length+1≤1099511627776:=(by have h5:=L.o;have h6:=G.o;omega);have ai:w.heap.size≤w3.heap.size:=Nat.le_trans p.o.fr.size x.o.fr.size)
     | (at_builtin;refine Yr rfl _ _ _ rfl w.heap.size 9 j0 _ 1 16 underlying22 ae ac af aa rfl (by decide) (by decide) vp ss.length (ss.map Value.string) rfl (Ql l.o.1 (Qa _ _)) ⟨w3.heap.size,0,none⟩ 1 1 [.string s2] rfl rfl (by have:=cell_one_new w3 (.string s2) 9;simpa using this) (by simp[Value.oneCell']) (by decide) W (by have:=(Qa w3 (.cells #[.string s2] 9)).size;omega) ?_;intro v6 w6 g2 g3 g4 g5;have S:=zh (Qk3 (p.o.trans x.o) l.o.1 l.o.2 g2 g3 g4);clear g2 g3 g4 g5)
     | fail)
    go_ret
    obtain⟨q1,q2,q3⟩:=S.o
    refine⟨v6,V,ss ++ [s2],rfl,q1,by rw[HV.o];exact Qlb T.o R.o,by rw[List.length_append,G.o,L.o.1];rfl,fun s hs=>?_,by rw[HM.o,←List.append_assoc];exact q2,q3⟩
    rcases List.mem_append.1 hs with e|e
    ·exact X.o s e
    ·rw[List.mem_singleton.1 e];exact ab.o
end
section
theorem Qjm (w0:World) (v0 v1 v2:Value) (n:Nt) (qb nb N:Nat) (hN:N<9223372036854775808):∀ (f a b i:Nat),b-a≤f→a<i→i≤b→b≤N→∀ (w:World) (vm:Value) (ms:List ByteArray),LkW w0 nb v0 v1 v2 n qb N w vm ms→ms.length+(Zm n N (Yb f a b i).reverse).length+1<1099511627776→
  Calls prog 92 #[.pointer (some ⟨qb,0,none⟩),.int .i64 ((i-a:Nat):Int),.int .i64 a,.int .i64 ((b-a:Nat):Int),.bool (decide (a=0))] w (Q3y (Yg n N (Yb f a b i).reverse) w0.heap.size qb nb N vm ms (Zm n N (Yb f a b i).reverse) (Yb f a b i).length w)
 | 0,a,b,i,h0,h1,h2=>by omega
 | f+1,a,b,i,h0,h1,h2=>fun h3 w vm ms h hms=>by
  obtain⟨j0,ah,af,ai,ae⟩:=info_parts Qb5
  have B:=Qdq (f+1) 63 a b i (by omega) (by omega) h1
  obtain⟨P,hP⟩:∃ P,P=Yb (f+1) a b i:=⟨_,rfl⟩
  rw[←hP] at hms B ⊢
  rw[Yb] at hP
  obtain⟨m,hm⟩:∃ m,m=b-a:=⟨_,rfl⟩
  obtain⟨j,hj⟩:∃ j,j=i-a:=⟨_,rfl⟩
  rw[←hm] at hP
  rw[←hm,←hj]
  have ay:m<9223372036854775808:=by omega
  have a0:a<9223372036854775808:=by omega
  by_cases h1m:b≤i
  ·rw[if_pos h1m] at hP
   have ap:j=m:=by omega
   subst ap
   have am:((j:Int) == (j:Int))=true:=by simp
   by_cases ha0:0<a
   ·rw[if_pos ha0] at hP
    subst hP
    have V:decide (a=0)=false:=decide_eq_false (by omega)
    rw[V]
    have hV:Yg n N [(a,b)]=(Qb7 n N j a j).map fun h=>[h]:=by
     rw[show ([(a,b)]:List (Nat×Nat)) = [] ++ [(a,b)] from rfl,Qbq]
     dsimp only
     rw[show b-a=j by omega]
     rfl
    have hM:Zm n N [(a,b)]=Qbc n N j a j:=by simp[Zm,show b-a=j by omega]
    rw[show ([(a,b)]:List (Nat×Nat)).reverse = [(a,b)] from rfl,hM] at hms
    have t:=Qca w0 v0 v1 v2 n qb nb N hN j a j (by omega) (by omega) (by omega) w vm ms h hms
    rw[show ([(a,b)]:List (Nat×Nat)).reverse = [(a,b)] from rfl]
    have G:=zh t
    have HV:=zh hV
    have HM:=zh hM
    clear hms h t hV hM V hj hm
    go_enter func92,ntmps92
    go_wp2_with (first
     | (go_at_call 95;refine G.o.mono ?_;rintro e3 w3 ⟨s2,J,rfl,u,r,g⟩;have F:=zh u;have T:=zh r;have l:=zh g;clear u r g)
     | fail)
    go_ret
    have Z:=l.o.fr.size
    refine⟨_,J,[s2],rfl,World.ownsRow_lit w3 #[.string s2] 1 Z (by decide) rfl,?_,rfl,fun s hs=>by rw[List.mem_singleton.1 hs];exact T.o,by rw[HM.o];exact l.o.then (Qa w3 _),fun k hk hs=>?_⟩
    ·intro hs hh
     rw[HV.o] at hh
     cases ho:Qb7 n N j a j with
     | none=>rw[ho] at hh;cases hh
     | some x=>rw[ho] at hh;cases hh;rw[F.o x ho];rfl
    ·have h5:=l.o.lk.lt k hs
     simp[Value.ownBlock] at hk
     omega
   ·rw[if_neg ha0] at hP
    subst hP
    have V:decide (a=0)=true:=decide_eq_true (by omega)
    rw[V]
    have ao:=zh h.lk
    clear hms h hj hm
    go_enter func92,ntmps92
    go_wp2
    go_ret
    exact⟨_,vm,[],rfl,World.ownsRow_nil _ _ _ _,fun hs hh=>by cases hh;rfl,rfl,fun s hs=>by simp at hs,by rw[show Zm n N ([]:List (Nat×Nat)).reverse = [] from rfl,List.append_nil];exact .ofBelow ao.o (Below.refl _ _),fun k hk=>by simp[Value.ownBlock] at hk⟩
  ·rw[if_neg h1m] at hP
   have am:((j:Int) == (m:Int))=false:=by simp;omega
   obtain⟨k,hk⟩:∃ k,k=below m:=⟨_,rfl⟩
   have ad:=Yi (n:=m) (by omega)
   have I:=Jk (m:Int) w (by omega) (by omega)
   rw[Int.toNat_natCast] at I
   rw[←hk] at hP ad I
   have aw:j<9223372036854775808:=by omega
   have aq:a+k<9223372036854775808:=by omega
   have an:(m:Int)-(k:Int)=((b-(a+k):Nat):Int):=by omega
   have al:(a:Int)+(k:Int)=((a+k:Nat):Int):=by omega
   have H:=zh h
   have ax:=zh hms
   have ag:=zh I
   obtain⟨c,hc⟩:∃ c,c=b-(a+k):=⟨_,rfl⟩
   obtain⟨d,hd⟩:∃ d,d=a+k:=⟨_,rfl⟩
   rw[←hc] at an
   rw[←hd] at al aq
   have au:c<9223372036854775808:=by omega
   have av:k<9223372036854775808:=by omega
   by_cases hjk:j≤k
   ·rw[if_pos (by omega)] at hP
    have aj:(j:Int)≤(k:Int):=by omega
    obtain⟨Q,hQ⟩:∃ Q,Q=Yb f a (a+k) i:=⟨_,rfl⟩
    rw[←hQ] at hP
    have A:P.reverse=Q.reverse ++ [(a+k,b)]:=by rw[hP,List.reverse_cons]
    have hV:=Qbq n N (a+k,b) Q.reverse
    have hM:=Qd9 n N (a+k,b) Q.reverse
    rw[←A] at hV hM
    dsimp only at hV hM
    rw[←hd,←show c=b-d by omega] at hV hM
    have R:=congrArg List.length hM
    rw[List.length_append] at R
    have v:=Qjm w0 v0 v1 v2 n qb nb N hN f a (a+k) i (by omega) (by omega) (by omega) (by omega) w vm ms h (by rw[←hQ];omega)
    rw[←hQ,←hj,show a+k-a=k by omega] at v
    have t:=fun w2 y h2=>Qca w0 v0 v1 v2 n qb nb N hN c d c (by omega) (by omega) (by omega) w2 y (ms++Zm n N Q.reverse) h2 (by rw[List.length_append];omega)
    have D:P.length=Q.length+1:=by rw[hP];rfl
    have ac:=zh v
    have G:=zh t
    have HV:=zh hV
    have HM:=zh hM
    have S:=zh (And.intro D B)
    clear h hms I v t hV hM A hQ hP R D B ad hm hj hc hd hk h0 h1 h2 h3 h1m hjk
    go_enter func92,ntmps92
    go_wp2_with (first
     | (go_at_call 89;refine ag.o.mono ?_;rintro e2 w2 ⟨rfl,rfl⟩)
     | (go_at_call 92;refine ac.o.mono ?_;rintro e2 w2 ⟨vp,y,ss,rfl,L,M,E,K,z,C⟩;have W:=zh L;have Y:=zh M;have O:=zh E;have ab:=zh K;have q:=zh z;have U:=zh C;clear L M E K z C)
     | (go_at_call 95;refine (G.o w2 y (H.o.step q.o)).mono ?_;rintro e3 w3 ⟨s2,J,rfl,u,r,g⟩;have F:=zh u;have T:=zh r;have l:=zh g;have p:=zh (Qqq W.o U.o g);clear u r g;have aa:ss.length+1≤1099511627776:=(by have h5:=S.o;have h6:=O.o;omega);have Z:w.heap.size≤w3.heap.size:=Nat.le_trans q.o.fr.size l.o.fr.size)
     | (at_builtin;refine Yr rfl _ _ _ rfl w.heap.size 9 j0 _ 1 16 underlying22 ah af ai ae rfl (by decide) (by decide) vp ss.length (ss.map Value.string) rfl (Ql p.o.1 (Qa _ _)) ⟨w3.heap.size,0,none⟩ 1 1 [.string s2] rfl rfl (by have:=cell_one_new w3 (.string s2) 9;simpa using this) (by simp[Value.oneCell']) (by decide) aa (by have:=(Qa w3 (.cells #[.string s2] 9)).size;omega) ?_;intro v6 w6 g2 g3 g4 g5;have X:=zh (Qk3 (q.o.trans l.o) p.o.1 p.o.2 g2 g3 g4);clear g2 g3 g4 g5)
     | fail)
    go_ret
    obtain⟨q1,q2,q3⟩:=X.o
    refine⟨v6,J,ss ++ [s2],rfl,q1,by rw[HV.o];exact Qlb Y.o F.o,by rw[List.length_append,O.o,S.o.1];rfl,fun s hs=>?_,by rw[HM.o,←List.append_assoc];exact q2,q3⟩
    rcases List.mem_append.1 hs with e|e
    ·exact ab.o s e
    ·rw[List.mem_singleton.1 e];exact T.o
   ·rw[if_neg (by omega)] at hP
    have aj:¬ (j:Int)≤(k:Int):=by omega
    obtain⟨Q,hQ⟩:∃ Q,Q=Yb f (a+k) b i:=⟨_,rfl⟩
    rw[←hQ] at hP
    have A:P.reverse=Q.reverse ++ [(a,a+k)]:=by rw[hP,List.reverse_cons]
    have hV:=Qbq n N (a,a+k) Q.reverse
    have hM:=Qd9 n N (a,a+k) Q.reverse
    rw[←A] at hV hM
    dsimp only at hV hM
    rw[show a+k-a=k by omega] at hV hM
    have R:=congrArg List.length hM
    rw[List.length_append] at R
    have v:=Qjm w0 v0 v1 v2 n qb nb N hN f (a+k) b i (by omega) (by omega) (by omega) h3 w vm ms h (by rw[←hQ];omega)
    obtain⟨jk,ak⟩:∃ jk,jk=j-k:=⟨_,rfl⟩
    have az:(j:Int)-(k:Int)=(jk:Int):=by omega
    rw[decide_eq_false (by omega:¬ a+k=0),←hQ,←hc,←hd,show i-d=jk by omega] at v
    have ar:jk<9223372036854775808:=by omega
    have t:=fun w2 y h2=>Qca w0 v0 v1 v2 n qb nb N hN k a k (by omega) (by omega) (by omega) w2 y (ms++Zm n N Q.reverse) h2 (by rw[List.length_append];omega)
    have D:P.length=Q.length+1:=by rw[hP];rfl
    have ac:=zh v
    have G:=zh t
    have HV:=zh hV
    have HM:=zh hM
    have S:=zh (And.intro D B)
    clear h hms I v t hV hM A hQ hP R D B ad hm hj hc hd hk h0 h1 h2 h3 h1m hjk ak
    go_enter func92,ntmps92
    go_wp2_with (first
     | (go_at_call 89;refine ag.o.mono ?_;rintro e2 w2 ⟨rfl,rfl⟩)
     | (go_at_call 92;refine ac.o.mono ?_;rintro e2 w2 ⟨vp,y,ss,rfl,L,M,E,K,z,C⟩;have W:=zh L;have Y:=zh M;have O:=zh E;have ab:=zh K;have q:=zh z;have U:=zh C;clear L M E K z C)
     | (go_at_call 95;refine (G.o w2 y (H.o.step q.o)).mono ?_;rintro e3 w3 ⟨s2,J,rfl,u,r,g⟩;have F:=zh u;have T:=zh r;have l:=zh g;have p:=zh (Qqq W.o U.o g);clear u r g;have aa:ss.length+1≤1099511627776:=(by have h5:=S.o;have h6:=O.o;omega);have Z:w.heap.size≤w3.heap.size:=Nat.le_trans q.o.fr.size l.o.fr.size)
     | (at_builtin;refine Yr rfl _ _ _ rfl w.heap.size 9 j0 _ 1 16 underlying22 ah af ai ae rfl (by decide) (by decide) vp ss.length (ss.map Value.string) rfl (Ql p.o.1 (Qa _ _)) ⟨w3.heap.size,0,none⟩ 1 1 [.string s2] rfl rfl (by have:=cell_one_new w3 (.string s2) 9;simpa using this) (by simp[Value.oneCell']) (by decide) aa (by have:=(Qa w3 (.cells #[.string s2] 9)).size;omega) ?_;intro v6 w6 g2 g3 g4 g5;have X:=zh (Qk3 (q.o.trans l.o) p.o.1 p.o.2 g2 g3 g4);clear g2 g3 g4 g5)
     | fail)
    go_ret
    obtain⟨q1,q2,q3⟩:=X.o
    refine⟨v6,J,ss ++ [s2],rfl,q1,by rw[HV.o];exact Qlb Y.o F.o,by rw[List.length_append,O.o,S.o.1];rfl,fun s hs=>?_,by rw[HM.o,←List.append_assoc];exact q2,q3⟩
    rcases List.mem_append.1 hs with e|e
    ·exact ab.o s e
    ·rw[List.mem_singleton.1 e];exact T.o
end
section
theorem Q0w (a b:Hsh):((HS a).toList == (HS b).toList)=(some a == some b):=by
 rw[ByteArray.toList_eq,ByteArray.toList_eq];by_cases e:a=b
 ·subst e;simp
 ·have e':¬ a.toList=b.toList:=fun x=>e (Vector.toList_inj.1 x)
  have h1:((HS a).data.toList == (HS b).data.toList)=false:=by rw[beq_eq_false_iff_ne];exact e'
  rw[h1];simp[e]
def Qvb (leaf:Hsh) (i n:Nat) (p:List Hsh) (w:World) (e:Ending) (w':World):Prop:=
 ∃ s:ByteArray,e=.returned (.tuple #[.string s,.bool (rebuild leaf i n p).isSome])∧s.size≤8∧(∀ h,rebuild leaf i n p=some h→s=HS h)∧Below w.heap.size w w'
theorem Ql3 {w:World} {a:Option Addr} {c m:Nat} {xs:List Value} {x:Value} (h:Qe2 w (.slice a (m+1) c) (m+1) (xs ++ [x])) (hm:xs.length=m) :
  ∃ b off,a=some ⟨b,off,none⟩∧m+1≤c∧w.cell? ⟨b,off+m,none⟩=some x∧Qe2 w (.slice (some ⟨b,off,none⟩) m c) m xs:=by
 obtain⟨a',c',hv,e,hc⟩:=h;cases hv;obtain⟨b,off,rfl,d⟩:=hc m x (by rw[←hm];simp);refine⟨b,off,rfl,e,d,⟨_,c,rfl,by omega,fun j y hy=>?_⟩⟩;exact hc j y (by rw[List.getElem?_append_left (by have:=(List.getElem?_eq_some_iff.1 hy).1;exact this)];exact hy)
theorem Qri (m:Nat):∀ (p:List Hsh) (leaf:Hsh) (i n:Int) (v:Value) (w:World),p.length=m→Zn w v (p.map HS)→0≤i→i<n→n≤9223372036854775807→m≤1048576→
  Calls prog 96 #[.string (HS leaf),.int .i64 i,.int .i64 n,v] w (Qvb leaf i.toNat n.toNat p w):=by
 induction m with
 | zero=>
  intro p leaf i n v w hp h h0 hi hn hm;obtain rfl:p = []:=List.eq_nil_of_length_eq_zero hp;obtain⟨a,c,rfl,D,_⟩:=h;by_cases h1:n=1
  ·subst h1
   go_enter func96,ntmps96
   go_wp2;go_ret2;exact⟨HS leaf,by simp[Qch],by rw[Y6];decide,by intro h hh;simp[Qch] at hh;rw[hh],Below.refl _ _⟩
  ·have hd:(n == 1)=false:=by simpa using h1
   go_enter func96,ntmps96
   go_wp2;go_ret2;have hr:rebuild leaf i.toNat n.toNat []=none:=by rw[Qch,if_neg (by omega)]
   exact⟨⟨#[]⟩,by rw[hr];rfl,by decide,by intro h;simp[hr],Below.refl _ _⟩
 | succ m ih=>
  intro p leaf i n v w hp h h0 hi hn hm;obtain⟨q,last,rfl⟩:∃ q last,p=q ++ [last]:=⟨p.dropLast,p.getLast (by intro e;simp[e] at hp),(List.dropLast_concat_getLast _).symm⟩
  have hq:q.length=m:=by simpa using hp
  obtain⟨a,c,hv,_⟩:=id h;have y:((q ++ [last]).map HS).length=m+1:=by simp[hq]
  unfold Zn at h;rw[y] at h hv;subst hv;obtain⟨b,off,rfl,D,E,t⟩:=Ql3 (xs:=(q.map HS).map Value.string) (x:=.string (HS last)) (by simpa using h) (by simp[hq]);have B:Zn w (.slice (some ⟨b,off,none⟩) m c) (q.map HS):=by unfold Zn;simpa [hq] using t
  have HQ:=zh B;have IH:=zh ih;have HL:=zh hq;have HP:=zh hp;clear ih h t B y hq hp;by_cases h1:n=1
  ·subst h1
   go_enter func96,ntmps96
   go_wp2;go_ret2;have hr:rebuild leaf i.toNat (1:Int).toNat (q ++ [last])=none:=by rw[Qeh,if_pos (by decide)]
   exact⟨HS leaf,by rw[hr];rfl,by rw[Y6];decide,(fun h hh=>by rw[hr] at hh;cases hh),Below.refl _ _⟩
  ·have hd:(n == 1)=false:=by simpa using h1
   have C:=Qe4 (n:=n.toNat) (by omega) (by omega);have hr:=Qeh leaf last i.toNat n.toNat q;rw[if_neg (by omega)] at hr;obtain⟨k,hk⟩:∃ k,k=below n.toNat:=⟨_,rfl⟩
   rw[←hk] at C hr;obtain⟨F,l,G⟩:=C;have HR:=zh hr;have HK:=zh hk;clear hr hk;by_cases hik:i<(k:Int)
   ·go_enter func96,ntmps96
    go_wp2_with fail
    refine (Jk _ _ (by omega) (by omega)).mono ?_;rintro e w0 ⟨rfl,rfl⟩;rw[←HK.o]
    go_wp2_with fail
    refine (IH.o q leaf i k _ _ HL.o HQ.o h0 hik (by omega) (by omega)).mono ?_;rintro e w1 ⟨s,rfl,z,g,hb⟩;have A:=zh g;clear g;obtain⟨r,d⟩:∃ r,r=rebuild leaf i.toNat (k:Int).toNat q:=⟨_,rfl⟩
    rw[←d];have j:=zh d;clear d
    go_wp2_with fail
    refine (Qbe s (HS last) _ z (by rw[Y6];decide)).mono ?_;rintro e w2 ⟨rfl,l⟩;go_wp2;go_ret2;have f:rebuild leaf i.toNat n.toNat (q ++ [last])=r.map (Z1 · last):=by rw[HR.o,if_pos (by omega),j.o];rfl
    refine⟨_,by rw[f,Option.isSome_map];rfl,by rw[Y6];decide,fun h hh=>?_,hb.trans (l.mono hb.size)⟩;rw[f] at hh;obtain⟨h',u,rfl⟩:=Option.map_eq_some_iff.1 hh;rw[A.o h' (by rw[←j.o];exact u)];rfl
   ·go_enter func96,ntmps96
    go_wp2_with fail
    refine (Jk _ _ (by omega) (by omega)).mono ?_;rintro e w0 ⟨rfl,rfl⟩;rw[←HK.o]
    go_wp2_with fail
    refine (IH.o q leaf (i-k) (n-k) _ _ HL.o HQ.o (by omega) (by omega) (by omega) (by omega)).mono ?_;rintro e w1 ⟨s,rfl,z,g,hb⟩;have A:=zh g;clear g;obtain⟨r,d⟩:∃ r,r=rebuild leaf (i-k).toNat (n-k).toNat q:=⟨_,rfl⟩
    rw[←d];have j:=zh d;clear d
    go_wp2_with fail
    refine (Qbe (HS last) s _ (by rw[Y6];decide) z).mono ?_;rintro e w2 ⟨rfl,l⟩;go_wp2;go_ret2;have f:rebuild leaf i.toNat n.toNat (q ++ [last])=r.map (Z1 last ·):=by
     rw[HR.o,if_neg (by omega),j.o]
     congr 2 <;> omega
    refine⟨_,by rw[f,Option.isSome_map];rfl,by rw[Y6];decide,fun h hh=>?_,hb.trans (l.mono hb.size)⟩;rw[f] at hh;obtain⟨h',u,rfl⟩:=Option.map_eq_some_iff.1 hh;rw[A.o h' (by rw[←j.o];exact u)];rfl
theorem Qqb (p:List Hsh) (leaf root:Hsh) (i n:Int) (v:Value) (w:World) (h:Zn w v (p.map HS)) (hi : -9223372036854775808≤i) (hn:n≤9223372036854775807) (hm:p.length≤1048576) :
  Calls prog 40 #[.string (HS leaf),.int .i64 i,.int .i64 n,v,.string (HS root)] w fun e w'=>e=.returned (.bool (included leaf i n p root))∧Below w.heap.size w w':=by
 obtain⟨a,c,hv,_⟩:=id h;by_cases h0:0≤i
 ·have hd:decide (i<0)=false:=by simp;omega
  by_cases hin:i<n
  ·have j:decide (n≤i)=false:=by simp;omega
   have b:included leaf i n p root=(rebuild leaf i.toNat n.toNat p == some root):=by simp[included,h0,hin]
   have HI:=zh b;have HH:=zh h;have HV:=zh hv;clear b h hv
   go_enter func40,ntmps40
   go_wp2_with fail
   refine (Qri p.length p leaf i n v w rfl HH.o h0 hin hn hm).mono ?_;rintro e w1 ⟨s,rfl,l,g,hb⟩;have k:=zh g;clear g;obtain⟨r,f⟩:∃ r,r=rebuild leaf i.toNat n.toNat p:=⟨_,rfl⟩
   rw[←f];have d:=zh f;clear f;cases r with
   | none=>
    go_wp2;go_ret;exact⟨Ym (by rw[HI.o,←d.o];rfl),hb⟩
   | some h=>
    obtain rfl:s=HS h:=k.o h d.o.symm;go_wp2;go_ret;refine⟨Ym ?_,hb⟩;rw[HI.o,←d.o];exact Q0w h root
  ·have j:decide (n≤i)=true:=by simp;omega
   clear h;subst hv
   go_enter func40,ntmps40
   go_wp2;go_ret;exact⟨Ym (by simp[included];omega),Below.refl _ _⟩
 ·have hd:decide (i<0)=true:=by simp;omega
  clear h;subst hv
  go_enter func40,ntmps40
  go_wp2;go_ret;exact⟨Ym (by simp[included];omega),Below.refl _ _⟩
end
section
def Qau (b:Bool) (a:Hsh):Option Hsh:=if b then some a else none
def Qqy (m n:Nat) (o:Option Hsh) (p:List Hsh) (w:World) (e:Ending) (w':World):Prop:=
 ∃ s1 s2:ByteArray,e=.returned (.tuple #[.string s1,.string s2,.bool (roots m n o p).isSome])∧s1.size≤8∧s2.size≤8∧(∀ z,roots m n o p=some z→s1=HS z.1∧s2=HS z.2)∧Below w.heap.size w w'
theorem Qrz (m:Int) (p:List Hsh) (a:Hsh) (b:Bool) (v:Value) (w:World) (h:Zn w v (p.map HS)) :
  Calls prog 107 #[.int .i64 m,.int .i64 m,v,.bool b,.string (HS a)] w (Qqy m.toNat m.toNat (Qau b a) p w):=by
 obtain⟨ad,c,hv,e,hc⟩:=h;rw[List.length_map] at hv;subst hv;cases b with
 | true=>
  have hl:((p.length:Int) == 0)=decide (p.length=0):=by rw[Bool.eq_iff_iff];simp
  have HL:=zh hl;clear hl hc
  go_enter func107,ntmps107
  go_wp2
  go_ret3
  refine⟨HS a,HS a,?_,by rw[Y6];decide,by rw[Y6];decide,?_,Below.refl _ _⟩
  ·rw[show Qau true a=some a from rfl,Qke]
   have:=HL.o
   by_cases h0:p.length=0
   ·rw[if_pos h0]
    simp[h0]
   ·rw[if_neg h0]
    rw[decide_eq_false h0] at this;simp[this]
  ·intro z hz
   rw[show Qau true a=some a from rfl,Qke] at hz
   split at hz
   ·cases hz;exact⟨rfl,rfl⟩
   ·cases hz
 | false=>
  by_cases h1:p.length=1
  ·match p,h1 with
   | [r],_=>
    obtain⟨g,off,rfl,d⟩:=hc 0 (.string (HS r)) (by simp);simp only[Nat.add_zero] at d;simp only[List.length_cons,List.length_nil,Nat.zero_add];clear hc
    go_enter func107,ntmps107
    go_wp2
    go_quiet (fail)
    go_wp2
    go_ret3
    refine⟨HS r,HS r,by rw[show Qau false a=none from rfl,Qo2];rfl,by rw[Y6];decide,by rw[Y6];decide,?_,Ze (Below.refl _ _) _⟩;intro z hz;rw[show Qau false a=none from rfl,Qo2] at hz;cases hz;exact⟨rfl,rfl⟩
  ·have d1:((p.length:Int) != 1)=true:=by rw[bne_iff_ne];omega
   clear hc
   go_enter func107,ntmps107
   go_wp2
   go_ret3
   have hr:roots m.toNat m.toNat (Qau false a) p=none:=Qsa _ _ h1;exact⟨⟨#[]⟩,⟨#[]⟩,by rw[hr];rfl,by decide,by decide,(fun z hz=>by rw[hr] at hz;cases hz),Below.refl _ _⟩
theorem Qzm (l:Nat):∀ (p:List Hsh) (m n:Int) (a:Hsh) (b:Bool) (v:Value) (w:World),p.length=l→Zn w v (p.map HS)→1≤m→m≤n→n≤9223372036854775807→l≤1048576→
  Calls prog 107 #[.int .i64 m,.int .i64 n,v,.bool b,.string (HS a)] w (Qqy m.toNat n.toNat (Qau b a) p w):=by
 induction l with
 | zero=>
  intro p m n a b v w hp h h1 E hn hl;by_cases he:m=n
  ·subst he;exact Qrz m p a b v w h
  ·obtain rfl:p = []:=List.eq_nil_of_length_eq_zero hp
   obtain⟨ad,c,rfl,_,_⟩:=h;have hd:(m == n)=false:=by rw[beq_eq_false_iff_ne];exact he
   go_enter func107,ntmps107
   go_wp2
   go_ret3
   have hr:roots m.toNat n.toNat (Qau b a) []=none:=by rw[Qjr,if_neg (by omega)]
   exact⟨⟨#[]⟩,⟨#[]⟩,by rw[hr];rfl,by decide,by decide,(fun z hz=>by rw[hr] at hz;cases hz),Below.refl _ _⟩
 | succ l ih=>
  intro p m n a b v w hp h h1 E hn hl;by_cases he:m=n
  ·subst he;exact Qrz m p a b v w h
  ·have hd:(m == n)=false:=by rw[beq_eq_false_iff_ne];exact he
   obtain⟨q,last,rfl⟩:∃ q last,p=q ++ [last]:=⟨p.dropLast,p.getLast (by intro e;simp[e] at hp),(List.dropLast_concat_getLast _).symm⟩
   have hq:q.length=l:=by simpa using hp
   obtain⟨ad,c,hv,_⟩:=id h;have y:((q ++ [last]).map HS).length=l+1:=by simp[hq]
   unfold Zn at h;rw[y] at h hv;subst hv;obtain⟨g,off,rfl,G,F,s⟩:=Ql3 (xs:=(q.map HS).map Value.string) (x:=.string (HS last)) (by simpa using h) (by simp[hq]);have B:Zn w (.slice (some ⟨g,off,none⟩) l c) (q.map HS):=by unfold Zn;simpa [hq] using s
   have hr:=Qfm m.toNat n.toNat (Qau b a) q last;rw[if_neg (by omega)] at hr;have D:=Qe4 (n:=n.toNat) (by omega) (by omega);obtain⟨k,hk⟩:∃ k,k=below n.toNat:=⟨_,rfl⟩
   rw[←hk] at D hr;obtain⟨I,j,C⟩:=D;have HR:=zh hr;have HK:=zh hk;have HQ:=zh B;have IH:=zh ih;have HL:=zh hq;have H:((l:Int)+1 == 0)=false:=by rw[beq_eq_false_iff_ne];omega
   clear ih h s B y hq hp hr hk;by_cases hmk:m≤(k:Int)
   ·go_enter func107,ntmps107
    go_wp2_with fail
    refine (Jk _ _ (by omega) (by omega)).mono ?_;rintro e w0 ⟨rfl,rfl⟩;rw[←HK.o]
    go_wp2_with fail
    refine (IH.o q m k a b _ _ HL.o HQ.o h1 hmk (by omega) (by omega)).mono ?_;rintro e w1 ⟨s1,s2,rfl,t,u,hz,hb⟩;have HZ:=zh hz;clear hz;obtain⟨rt,d⟩:∃ r,r=roots m.toNat (k:Int).toNat (Qau b a) q:=⟨_,rfl⟩
    rw[←d];have i:=zh d;clear d
    go_wp2_with fail
    refine (Qbe s2 (HS last) _ u (by rw[Y6];decide)).mono ?_;rintro e w2 ⟨rfl,j⟩;go_wp2
    go_ret3
    have f:roots m.toNat n.toNat (Qau b a) (q ++ [last])=rt.map (fun z=>(z.1,Z1 z.2 last)):=by rw[HR.o,if_pos (by omega),i.o];rfl
    refine⟨_,_,by rw[f,Option.isSome_map];rfl,t,by rw[Y6];decide,fun z hz=>?_,hb.trans (j.mono hb.size)⟩;rw[f] at hz;obtain⟨z',A,rfl⟩:=Option.map_eq_some_iff.1 hz;obtain⟨e1,e2⟩:=HZ.o z' (by rw[←i.o];exact A);rw[e1,e2];exact⟨rfl,rfl⟩
   ·go_enter func107,ntmps107
    go_wp2_with fail
    refine (Jk _ _ (by omega) (by omega)).mono ?_;rintro e w0 ⟨rfl,rfl⟩;rw[←HK.o]
    go_wp2_with fail
    refine (IH.o q (m-k) (n-k) a false _ _ HL.o HQ.o (by omega) (by omega) (by omega) (by omega)).mono ?_;rintro e w1 ⟨s1,s2,rfl,t,u,hz,hb⟩;have HZ:=zh hz;clear hz;obtain⟨rt,d⟩:∃ r,r=roots (m-k).toNat (n-k).toNat (Qau false a) q:=⟨_,rfl⟩
    rw[←d];have i:=zh d;clear d
    go_wp2_with fail
    refine (Qbe (HS last) s1 _ (by rw[Y6];decide) t).mono ?_;rintro e w2 ⟨rfl,j⟩
    go_wp2_with fail
    refine (Qbe (HS last) s2 _ (by rw[Y6];decide) u).mono ?_;rintro e w3 ⟨rfl,C⟩;go_wp2
    go_ret3
    have f:roots m.toNat n.toNat (Qau b a) (q ++ [last])=rt.map (fun z=>(Z1 last z.1,Z1 last z.2)):=by
     rw[HR.o,if_neg (by omega),i.o]
     congr 2 <;> omega
    have b2:=hb.trans (j.mono hb.size);refine⟨_,_,by rw[f,Option.isSome_map];rfl,by rw[Y6];decide,by rw[Y6];decide,fun z hz=>?_,b2.trans (C.mono b2.size)⟩;rw[f] at hz;obtain⟨z',A,rfl⟩:=Option.map_eq_some_iff.1 hz;obtain⟨e1,e2⟩:=HZ.o z' (by rw[←i.o];exact A);rw[e1,e2];exact⟨rfl,rfl⟩
theorem Qnm (p:List Hsh) (a b:Hsh) (m n:Int) (v:Value) (w:World) (h:Zn w v (p.map HS)) (hm : -9223372036854775808≤m) (hn:n≤9223372036854775807) (hl:p.length≤1048576) :
  Calls prog 51 #[.int .i64 m,.int .i64 n,.string (HS a),.string (HS b),v] w fun e w'=>e=.returned (.bool (consistent m n a b p))∧Below w.heap.size w w':=by
 obtain⟨ad,c,hv,_⟩:=id h;by_cases h1:1≤m
 ·have hd:decide (m<1)=false:=decide_eq_false (by omega)
  by_cases hmn:m≤n
  ·have i:decide (n<m)=false:=decide_eq_false (by omega)
   have f:consistent m n a b p=(roots m.toNat n.toNat (some a) p == some (a,b)):=by simp[consistent,h1,hmn]
   have HI:=zh f;have HH:=zh h;have HV:=zh hv;clear f h hv
   go_enter func51,ntmps51
   go_wp2_with fail
   refine (Qzm p.length p m n a true v w rfl HH.o h1 hmn hn hl).mono ?_;rintro e w1 ⟨s1,s2,rfl,j,k,hz,hb⟩;have HZ:=zh hz;clear hz;obtain⟨r,g⟩:∃ r,r=roots m.toNat n.toNat (Qau true a) p:=⟨_,rfl⟩
   rw[←g];have d:=zh g;clear g;cases r with
   | none=>
    go_wp2;go_ret;exact⟨Ym (by rw[HI.o,show (some a)=Qau true a from rfl,←d.o];rfl),hb⟩
   | some z=>
    obtain⟨rfl,rfl⟩:=HZ.o z d.o.symm;obtain⟨x,y⟩:=z;by_cases hx:x=a
    ·subst hx
     have t1:((HS x).toList == (HS x).toList)=true:=by simp
     go_wp2;go_ret;refine⟨Ym ?_,hb⟩;rw[HI.o,show (some x)=Qau true x from rfl,←d.o];show ((HS y).toList == (HS b).toList)=_;rw[Q0w];by_cases hy:y=b
     ·subst hy;simp
     ·have e1:(some y == some b)=false:=by simpa using hy
      rw[e1];simp[hy]
    ·have t1:((HS x).toList == (HS a).toList)=false:=by rw[Q0w];simpa using hx
     go_wp2;go_ret;refine⟨Ym ?_,hb⟩;rw[HI.o,show (some a)=Qau true a from rfl,←d.o];simp[hx]
  ·have i:decide (n<m)=true:=decide_eq_true (by omega)
   clear h;subst hv
   go_enter func51,ntmps51
   go_wp2;go_ret;exact⟨Ym (by simp[consistent];omega),Below.refl _ _⟩
 ·have hd:decide (m<1)=true:=decide_eq_true (by omega)
  clear h;subst hv
  go_enter func51,ntmps51
  go_wp2;go_ret;exact⟨Ym (by simp[consistent];omega),Below.refl _ _⟩
end
section
def Quw (n:Nt) (m:Nat) (root:Hsh) (N:Nat) (R:Hsh) (code:Int) (ss:List ByteArray) (sz:Int) (x:ByteArray):Prop:=
 if N<m then code=4 else
 if N=m then (if R=root then code=0∧ss = []∧sz=m∧x=HS root else code=5) else
 if Zm n N (Yb N 0 N m).reverse = [] then
  ∃ hs,Yg n N (Yb N 0 N m).reverse=some hs∧if consistent m N root R hs=true then code=0∧ss=hs.map HS∧sz=N∧x=HS R else code=5
 else code=6∧ss=Zm n N (Yb N 0 N m).reverse
def Qpp (n:Nt) (key:List UInt8) (m:Nat) (root:Hsh) (w:World) (e:Ending) (w':World):Prop:=
 ∃ code v ss sz x,e=.returned (.tuple #[.int .i64 code,v,.int .i64 sz,.string x])∧Zn w' v ss∧Below w.heap.size w w'∧RUpd n key m root code ss sz x
def Q0p (w:World) (v0 v1 v2:Value) (n:Nt) (s:ByteArray):Prop:=
 (Jc (lieF n) (sOf kCp) = -1∧∃ (j:Nat) (b off:Nat) (c:Nat),Jc n.files (sOf kCp)=(j:Int)∧j<n.files.length∧n.files.length≤c∧v0=.slice (some ⟨b,off,none⟩) n.files.length c∧w.cell? ⟨b,off+j*2+1,none⟩=some (.string s))∨
 ∃ (k:Nat) (b off c b2 o2 c2:Nat),Jc (lieF n) (sOf kCp)=(k:Int)∧k<n.lies.length∧n.lies.length≤c∧n.lies.length≤c2∧v1=.slice (some ⟨b,off,none⟩) n.lies.length c∧w.cell? ⟨b,off+k*2+1,none⟩=some (.string s)∧v2=.slice (some ⟨b2,o2,none⟩) n.lies.length c2∧w.cell? ⟨b2,o2+k,none⟩=some (.bool false)
theorem Q7i {w:World} {nb:Nat} {v0 v1 v2:Value} {n:Nt} (h:NetR w nb v0 v1 v2 n) (hcp:getF n.files (sOf kCp)≠none):Q6 n (sOf kCp)=none∨∃ s,Q6 n (sOf kCp)=some s.data.toList∧Q0p w v0 v1 v2 n s:=by
 rcases Qp3 h.steady (sOf kCp) with ⟨hf,ha⟩|⟨k,x,hf,hx,ha⟩
 ·rcases Qaj n.files (sOf kCp) with ⟨g1,g2⟩|⟨j,b,hj,g1,g2,g3⟩
  ·exact absurd g2 hcp
  ·obtain⟨a,c,ev,hc,d⟩:=h.files
   obtain⟨bb,off,rfl,_,d2⟩:=d j _ g2;exact .inr ⟨b,by rw[ha,g3];rfl,.inl ⟨hf,j,bb,off,c,g1,hj,hc,ev,d2⟩⟩
 ·cases hfl:x.fails with
  | true=>rw[hfl] at ha;exact .inl ha
  | false=>
   rw[hfl] at ha;obtain⟨a,c,ev,hc,d⟩:=h.lies;obtain⟨bb,off,rfl,_,d2⟩:=d k _ (Qlh hx);obtain⟨a2,cc,g,f,e⟩:=h.fails;obtain⟨b2,o2,rfl,d3⟩:=e k (.bool x.fails) (by rw[List.getElem?_map,hx];rfl);rw[hfl] at d3;rw[Qgn] at ev hc;exact .inr ⟨x.data,ha,.inr ⟨k,bb,off,c,b2,o2,cc,hf,(List.getElem?_eq_some_iff.1 hx).1,hc,f,ev,d2,g,d3⟩⟩
theorem Qzj (w:World) (nb:Nat) (v0 v1 v2:Value) (n:Nt) (h:NetR w nb v0 v1 v2 n) (key:ByteArray) (m:Nat) (root:Hsh) (hcp:getF n.files (sOf kCp)≠none) (hno:Q6 n (sOf kCp)=none) :
  Calls prog 33 #[.pointer (some ⟨nb,0,none⟩),.string key,.int .i64 m,.string (HS root)] w (Qpp n key.data.toList m root w):=by
 have c1:w.cell? ⟨nb,1,none⟩=some v1:=Qd h.cells 1 rfl;have c2:w.cell? ⟨nb,2,none⟩=some v2:=Qd h.cells 2 rfl;have t:nb<w.heap.size:=Qc h.cells;have ekc:sOf kCp=⟨#[99,104,101,99,107,112,111,105,110,116]⟩:=rfl;have d:=Yf w v1 (lieF n) (sOf kCp) h.lies (by rw[Qgn];exact h.few.2);rw[ekc] at d;have p:=zh d;have q:=zh hno;clear d;rcases Qp3 h.steady (sOf kCp) with ⟨hf,ha⟩|⟨k,x,hf,hx,ha⟩
 ·rw[hno] at ha
  cases hg:getF n.files (sOf kCp) with
  | none=>exact absurd hg hcp
  | some b=>rw[hg] at ha;cases ha
 ·cases hfl:x.fails with
  | false=>rw[hno,hfl] at ha;cases ha
  | true=>
   obtain⟨a,c,ev,hc,f⟩:=h.lies;obtain⟨bb,off,rfl,_,d2⟩:=f k _ (Qlh hx);obtain⟨a2,cc,i,s,g⟩:=h.fails;obtain⟨b2,o2,rfl,d3⟩:=g k (.bool x.fails) (by rw[List.getElem?_map,hx];rfl);subst ev i;have r:b2<w.heap.size:=Qk d3;have l:k<n.lies.length:=(List.getElem?_eq_some_iff.1 hx).1;have v:(0:Int)≤(k:Int):=by omega
   have y:(k:Int)<(n.lies.length:Int):=by omega
   rw[ekc] at hf;rw[hfl] at d3;have HF:=zh hf;clear hf ha f g l h hfl hx hno hcp
   go_enter func33,ntmps33
   go_wp2_with (first
    | (go_at_call 27;(with_reducible refine p.o.mono ?_;rintro e w3 ⟨rfl,rfl⟩;rw[HF.o]))
    | fail)
   refine bodyPost_ret (Ys rfl _ _ _) rfl ?_;refine⟨3,.slice none 0 0,[],0,⟨#[]⟩,rfl,⟨none,0,rfl,Nat.le_refl _,fun j u hu=>by simp at hu⟩,Below.refl _ _,?_⟩;unfold RUpd;rw[q.o]
theorem Q26 (w:World) (nb:Nat) (v0 v1 v2:Value) (n:Nt) (h:NetR w nb v0 v1 v2 n) (key:ByteArray) (m:Nat) (root:Hsh) (hm:1≤m) (hm2:m≤1048576) (hk:key.size≤1048600) (s:ByteArray) (hs:Q6 n (sOf kCp)=some s.data.toList) (hsz:s.size≤1048576) (hsrc:Q0p w v0 v1 v2 n s) :
  Calls prog 33 #[.pointer (some ⟨nb,0,none⟩),.string key,.int .i64 m,.string (HS root)] w (Qpp n key.data.toList m root w):=by
 have c0:w.cell? ⟨nb,0,none⟩=some v0:=Qd h.cells 0 rfl;have c1:w.cell? ⟨nb,1,none⟩=some v1:=Qd h.cells 1 rfl;have c2:w.cell? ⟨nb,2,none⟩=some v2:=Qd h.cells 2 rfl;have bh:nb<w.heap.size:=Qc h.cells;have ekc:sOf kCp=⟨#[99,104,101,99,107,112,111,105,110,116]⟩:=rfl;have y:=Yf w v1 (lieF n) (sOf kCp) h.lies (by rw[Qgn];exact h.few.2);have O:=Yf w v0 n.files (sOf kCp) h.files h.few.1;unfold Q0p at hsrc;rw[ekc] at y O hsrc;have F:=Qpa s key w hsz hk;obtain⟨qk,D⟩:∃ q,q=Z6 s.data.toList key.data.toList:=⟨_,rfl⟩
 rw[←D] at F;have d:=Qhk s.data.toList key.data.toList;rw[←D] at d;obtain⟨kf,V⟩:∃ k,k=Jc (lieF n) ⟨#[99,104,101,99,107,112,111,105,110,116]⟩:=⟨_,rfl⟩
 rw[←V] at y hsrc;obtain⟨Ni,R,ok⟩:=qk;have av:=zh y;have au:=zh O;have I:=zh F;have H:=zh h;have aj:=zh hsrc;have aq:=zh d;have T:=zh D;have ac:=zh hs;have bc:=zh hsz;clear y O F h hsrc d D hs hsz V
 go_enter func33,ntmps33
 go_upto_if 26 with (first
  | (go_at_call 27;(with_reducible refine av.o.mono ?_;rintro e w3 ⟨rfl,rfl⟩))
  | fail)
 go_cut [13] (fun s13 wx=>w=wx∧s13=.string s)
 case first=>
  rcases aj.o with ⟨hf,j,b,off,c,ad,a9,a0,ev,d2⟩|⟨k,b,off,c,b2,o2,cc,hf,bd,a0,a7,ev,d2,a2,d3⟩
  ·subst hf ev
   have ao:(0:Int)≤(j:Int):=by omega
   have ap:(j:Int)<(n.files.length:Int):=by omega
   have a3:b<w.heap.size:=Qk d2;have az:=zh ad;clear ad
   go_wp2_with (first
    | (go_at_call 27;(with_reducible refine au.o.mono ?_;rintro e w3 ⟨rfl,rfl⟩;rw[az.o]))
    | fail)
   go_meet;exact⟨rfl,rfl⟩
  ·subst hf ev a2
   have ao:(0:Int)≤(k:Int):=by omega
   have ap:(k:Int)<(n.lies.length:Int):=by omega
   have a3:b<w.heap.size:=Qk d2;have a8:b2<w.heap.size:=Qk d3
   go_wp2_with fail
   go_meet;exact⟨rfl,rfl⟩
 case rest=>
  obtain⟨rfl,rfl⟩:=hcut;unfold Qet at I;cases ok with
  | false=>
   have hq:=I.o;simp only[Bool.false_eq_true,if_false] at hq;have HC:=zh hq;clear hq
   go_wp2_with (first
    | (go_at_call 63;refine HC.o.mono ?_;rintro e w2 ⟨rfl,r⟩;have a:=zh r;clear r)
    | fail)
   refine bodyPost_ret (Ys rfl _ _ _) rfl ?_;refine⟨3,.slice none 0 0,[],0,⟨#[]⟩,rfl,⟨none,0,rfl,Nat.le_refl _,fun j u hu=>by simp at hu⟩,a.o,?_⟩;unfold RUpd;rw[ac.o];dsimp only;rw[←T.o,if_pos rfl]
  | true=>
   have hq:=I.o;simp only[if_true] at hq;obtain⟨Y,ae,_⟩:=aq.o.1 rfl;obtain⟨N,rfl⟩:∃ N:Nat,Ni=(N:Int):=⟨Ni.toNat,by dsimp only at Y;omega⟩
   have HC:=zh hq;have al:N<9223372036854775808:=by dsimp only at ae;omega
   clear hq Y ae
   go_upto_region 12 with (first
    | (go_at_call 63;refine HC.o.mono ?_;rintro e w2 ⟨rfl,r⟩;have a:=zh r;clear r)
    | fail)
   have hR:∀ code ss sz x,Quw n m root N R code ss sz x→RUpd n key.data.toList m root code ss sz x:=fun code ss sz x hh=>by unfold RUpd;rw[ac.o];dsimp only;rw[←T.o,if_neg (by simp),Int.toNat_natCast];exact hh
   have HR:=zh hR;clear hR;have J:∀ W:World,Zn W (.slice none 0 0) []:=fun W=>⟨none,0,rfl,Nat.le_refl _,fun j u hu=>by simp at hu⟩
   have i:=zh J;clear J;rcases Nat.lt_trichotomy N m with ax|an|ag
   ·have k1:(N:Int)<(m:Int):=by omega
    have k2:((N:Int) == (m:Int))=false:=by simp;omega
    clear hm hm2
    go_wp2_with fail
    refine bodyPost_ret (Ys rfl _ _ _) rfl ?_;exact⟨4,.slice none 0 0,[],0,⟨#[]⟩,rfl,i.o _,a.o,HR.o _ _ _ _ (by unfold Quw;rw[if_pos ax])⟩
   ·subst an
    have k1:¬ (N:Int)<(N:Int):=by omega
    have k2:((N:Int) == (N:Int))=true:=by simp
    by_cases hr:R=root
    ·have e:((HS R).toList == (HS root).toList)=true:=Jp (by rw[hr])
     have v:=zh hr;clear hr hm hm2
     go_wp2_with fail
     refine bodyPost_ret (Ys rfl _ _ _) rfl ?_;refine⟨0,.slice none 0 0,[],N,HS R,rfl,i.o _,a.o,HR.o _ _ _ _ ?_⟩;unfold Quw;rw[if_neg (by omega),if_pos rfl,if_pos v.o];exact⟨rfl,rfl,rfl,by rw[v.o]⟩
    ·have e:((HS R).toList == (HS root).toList)=false:=Y9 (fun h=>hr (Q67 h))
     have v:=zh hr;clear hr hm hm2
     go_wp2_with fail
     refine bodyPost_ret (Ys rfl _ _ _) rfl ?_;refine⟨5,.slice none 0 0,[],0,⟨#[]⟩,rfl,i.o _,a.o,HR.o _ _ _ _ ?_⟩;unfold Quw;rw[if_neg (by omega),if_pos rfl,if_neg v.o]
   ·have k1:¬ (N:Int)<(m:Int):=by omega
    have k2:((N:Int) == (m:Int))=false:=by simp;omega
    have hT:=Qgy (N:=N) (m:=m) (by omega) hm (by omega);have hG:=Qgo (n:=n) (N:=N) (Yb N 0 N m).reverse;obtain⟨Wb,z⟩:∃ W,W=w2.alloc (.cells #[.pointer (some ⟨nb,0,none⟩),.int .i64 N,.slice none 0 0] 78):=⟨_,rfl⟩
    have E:LkW w2 nb v0 v1 v2 n w2.heap.size N Wb (.slice none 0 0) []:=⟨H.o.below a.o,by rw[z];exact Qa w2 _,⟨by rw[z];exact heap_alloc_new w2 _,World.ownsRow_nil _ _ _ _,Nat.le_refl _⟩⟩
    have hc:=Qjm w2 v0 v1 v2 n w2.heap.size nb N al N 0 N m (by omega) (by omega) (by omega) (Nat.le_refl _) Wb (.slice none 0 0) [] E (by rw[List.length_nil];omega);rw[Nat.sub_zero,Nat.sub_zero,show decide ((0:Nat)=0)=true from rfl] at hc;have M:=fun x hx=>Qdx N 0 N m (by omega) (by omega) (by omega) x hx
    have be:=Qdq N 63 0 N m (by omega) (Nat.le_refl _) (by omega);have ak:=zh hc;have a6:=zh z;have Q:=zh E;have ah:=zh M;have g:=zh ag;clear hc z E M ag hG hT hm
    go_upto_region 19 with fail
    rw[←a6.o]
    go_upto_region 20 with (first
     | (go_at_call 92;refine ak.o.mono ?_;rintro e w3 ⟨vp,bb,ss,rfl,X,ab,ba,_,f,ai⟩;have S:=Qd f.lk.cells 2 rfl;have bi:=Qc f.lk.cells;obtain⟨am,cm,rfl⟩:=Zi f.lk.miss;have af:=zh X;have aw:=zh ab;have P:=zh f;clear X ab f ai)
     | fail)
    have Z:Below w.heap.size w w3:=a.o.trans ((Q.o.bel.trans (P.o.keeps Q.o.lk Q.o.bel.size)).mono a.o.size);have K:=Zn.below (w':=w3) (Q0.at P.o.lk.miss) (Below.refl _ _);obtain⟨G,hG⟩:∃ G,G=Zm n N (Yb N 0 N m).reverse:=⟨_,rfl⟩
    rw[←hG,List.nil_append] at K S;have l:=zh Z;have ar:=zh K;have t:=zh hG;clear Z K hG;by_cases hG0:G = []
    ·subst hG0
     have ay:([]:List ByteArray).length=0:=rfl;rw[ay] at S;obtain⟨hs,A⟩:=Qlx _ (fun x hx=>(ah.o x (List.mem_reverse.1 hx)).1) t.o.symm;have a1:=aw.o hs A;subst a1;have L:=Qe8 _ _ A;rw[List.length_reverse] at L;have aa:=Qnm hs root R (m:Int) (N:Int) vp w3 (Q0.at af.o) (by omega) (by omega) (by omega);have B:=zh aa;have U:=zh A;have a5:=zh (Q0.at af.o);clear aa A L;cases hy:consistent m N root R hs with
     | true=>
      rw[hy] at B;have HY:=zh hy;clear hy
      go_wp2_with (first
       | (go_at_call 51;refine B.o.mono ?_;rintro e w4 ⟨rfl,p⟩;have C:=zh p;clear p)
       | fail)
      refine bodyPost_ret (Ys rfl _ _ _) rfl ?_;refine⟨0,vp,hs.map HS,N,HS R,rfl,Zn.below a5.o C.o,l.o.trans (C.o.mono l.o.size),HR.o _ _ _ _ ?_⟩;unfold Quw;rw[if_neg (by have:=g.o;omega),if_neg (by have:=g.o;omega),if_pos t.o.symm];refine⟨hs,U.o,?_⟩;rw[if_pos HY.o];exact⟨rfl,rfl,rfl,rfl⟩
     | false=>
      rw[hy] at B;have HY:=zh hy;clear hy
      go_wp2_with (first
       | (go_at_call 51;refine B.o.mono ?_;rintro e w4 ⟨rfl,p⟩;have C:=zh p;clear p)
       | fail)
      refine bodyPost_ret (Ys rfl _ _ _) rfl ?_;refine⟨5,.slice none 0 0,[],0,⟨#[]⟩,rfl,i.o _,l.o.trans (C.o.mono l.o.size),HR.o _ _ _ _ ?_⟩;unfold Quw;rw[if_neg (by have:=g.o;omega),if_neg (by have:=g.o;omega),if_pos t.o.symm];refine⟨hs,U.o,?_⟩;rw[if_neg (by rw[HY.o];simp)]
    ·have bf:(0:Int)<(G.length:Int):=by
      have:=List.length_pos_iff.2 hG0
      omega
     have a4:=zh hG0;have bg:w3.drew.cell? ⟨w2.heap.size,2,none⟩=some (.slice am G.length cm):=S;clear hG0
     go_wp2_with fail
     go_region
     all_goals (
      go_wp2
      refine bodyPost_ret (Ys rfl _ _ _) rfl ?_
      refine⟨6,_,G,0,⟨#[]⟩,rfl,Zn.below ar.o (Qn w3),l.o.drew,HR.o _ _ _ _ ?_⟩
      unfold Quw
      rw[if_neg (by have:=g.o;omega),if_neg (by have:=g.o;omega),if_neg (by rw[←t.o];exact a4.o)]
      exact⟨rfl,t.o⟩)
theorem Q6a (w:World) (nb:Nat) (v0 v1 v2:Value) (n:Nt) (h:NetR w nb v0 v1 v2 n) (key:ByteArray) (m:Nat) (root:Hsh) (hm:1≤m) (hm2:m≤1048576) (hk:key.size≤1048600) (a:getF n.files (sOf kCp)≠none) (hsz:∀ d,Q6 n (sOf kCp)=some d→d.length≤1048576) :
  Calls prog 33 #[.pointer (some ⟨nb,0,none⟩),.string key,.int .i64 m,.string (HS root)] w (Qpp n key.data.toList m root w):=by
 rcases Q7i h a with h1|⟨s,h1,h2⟩
 ·exact Qzj w nb v0 v1 v2 n h key m root a h1
 ·exact Q26 w nb v0 v1 v2 n h key m root hm hm2 hk s h1 (by have:=hsz _ h1;simpa using this) h2
end
section
def still (x:Lie1):Lie1:={ x with times:=0 }
def Qos (w:World) (v:Value) (ls:List Lie1):Prop:=
 ∃ a c,v=.slice a ls.length c∧ls.length≤c∧∀ j x,ls[j]?=some x→∃ b off,a=some ⟨b,off,none⟩∧w.cell? ⟨b,off+j*4,none⟩=some (.string x.path)∧w.cell? ⟨b,off+j*4+1,none⟩=some (.string x.data)∧w.cell? ⟨b,off+j*4+2,none⟩=some (.bool x.fails)∧w.cell? ⟨b,off+j*4+3,none⟩=some (.int .i64 x.times)
theorem Qos.below {w w':World} {v:Value} {ls:List Lie1} (h:Qos w v ls) (hb:Below w.heap.size w w'):Qos w' v ls:=by obtain⟨a,c,hv,hc,hx⟩:=h;refine⟨a,c,hv,hc,fun j x hj=>?_⟩;obtain⟨b,off,ha,h1,h2,h3,h4⟩:=hx j x hj;exact⟨b,off,ha,(hb.cell (p:=⟨b,off+j*4,none⟩) (Qk h1)).trans h1,(hb.cell (p:=⟨b,off+j*4+1,none⟩) (Qk h2)).trans h2,(hb.cell (p:=⟨b,off+j*4+2,none⟩) (Qk h3)).trans h3,(hb.cell (p:=⟨b,off+j*4+3,none⟩) (Qk h4)).trans h4⟩
theorem Que (l:List Lie1) (x:Lie1):Qar (l ++ [x])=Qar l++Qk1 x:=by simp[Qar]
theorem Qxt (w:World) (a b c d:Value) (t:TypeId) (n:Nat) (hn:n=w.heap.size):∀ (j:Nat) (u:Value),[a,b,c,d][j]?=some u→(w.alloc (.cells #[a,b,c,d] t)).cell? ((⟨n,0,none⟩:Addr).add j)=some u:=by intro j u hu;rw[Addr.add_lit,World.cell?_alloc_at _ _ _ _ hn];simpa using hu
theorem Q0l (w:World) (vl:Value) (ls:List Lie1) (hv:Qos w vl ls) (hll:ls.length≤1000000) :
  Calls prog 8 #[vl] w fun e w'=>∃ v',e=.returned v'∧w'.ownsRow w.heap.size 47 4 v' ls.length (Qar (ls.map still))∧Below w.heap.size w w':=by
 obtain⟨i0,h,c,f,b⟩:=Qrr;have HI:=zh (⟨h,c,f,b⟩:_∧_∧_∧_);obtain⟨al,cl,n,r,_⟩:=id hv;subst n;have HV:=zh hv;clear hv h c f b
 go_enter func8,ntmps8
 go_wp2_with fail
 go_loopg [3,4,5] ls.length (fun gg s3 s4 _ wr=>∃ k:Nat,k≤ls.length∧ls.length-k≤gg∧s4=.int .i64 k∧Aside (wr.ownsRow w.heap.size 47 4 s3 k (Qar ((ls.map still).take k)))∧Aside (Below w.heap.size w wr))
 case atStart=>exact⟨0,Nat.zero_le _,by omega,rfl,World.ownsRow_nil _ _ _ _,Below.refl _ _⟩
 case round=>
  obtain⟨k,hk,hg,rfl,HR,HB⟩:=hrel;by_cases hlt:k<ls.length
  ·obtain⟨x,hx⟩:∃ x,ls[k]?=some x:=⟨_,List.getElem?_eq_getElem hlt⟩
   obtain⟨_,_,m,_,i⟩:=HV.o.below HB.o;cases m;obtain⟨bl,off,rfl,k1,k2,k3,k4⟩:=i k x hx;have q:=Qk k1;have s:(0:Int)≤(k:Int):=by omega
   have a:(k:Int)<(ls.length:Int):=by omega
   have l:k+1≤1099511627776:=by omega
   have hz:=HB.o.size;have HX:=zh hx;clear hx i
   go_wp2_with (at_builtin;refine Yr rfl _ _ _ rfl w.heap.size 47 i0 _ 4 48 underlying23 HI.o.1 HI.o.2.1 HI.o.2.2.1 HI.o.2.2.2 rfl (by decide) (by decide) u3 k (Qar ((ls.map still).take k)) rfl (Ql HR.o ((Qa wr _).alloc (Qa wr _).size _)) ⟨wr.heap.size+1,0,none⟩ 1 1 [.string x.path,.string x.data,.bool x.fails,.int .i64 0] rfl rfl (Qxt _ _ _ _ _ _ _ (by simp)) (by simp[Value.oneCell']) (by decide) l (by simp;omega) ?_;intro v' w' h2 h3 h4 h5;have H2:=zh h2;have H3:=zh h3;clear h2 h3 h4 h5)
   go_roundg (ls.length-(k+1))
   case measure=>omega
   case rel=>
    refine⟨k+1,by omega,by omega,by go_num,?_,?_⟩
    ·have e:(ls.map still).take (k+1)=(ls.map still).take k ++ [still x]:=by rw[List.take_add_one,List.getElem?_map,HX.o];rfl
     show w'.ownsRow _ _ _ _ _ _;rw[e,Que];exact H2.o
    ·have d:Below w.heap.size w (wr.alloc (.cells #[.string x.path,.string x.data,.bool x.fails,.int .i64 0] 47)):=HB.o.alloc hz _
     have g:=d.alloc d.size (.cells #[.string x.path,.string x.data,.bool x.fails,.int .i64 0] 47);exact g.grown H3.o g.size fun j hj=>(HR.o.lt j hj).1
  ·have p:¬ (k:Int)<(ls.length:Int):=by omega
   have a:k=ls.length:=by omega
   have HK:=zh a;clear a;go_wp2;go_ret;refine⟨u3,rfl,?_,HB.o⟩;have h1:=HR.o;rw[HK.o,List.take_of_length_le (by simp)] at h1;exact h1
def Q3m (ss:List ByteArray) (p:ByteArray) (w:World) (e:Ending) (w':World):Prop:=(∃ b,e=.returned (.bool b)∧(b=true↔p∈ss))∧w=w'
theorem Qr8 (w:World) (v:Value) (ss:List ByteArray) (p:ByteArray) (h:Zn w v ss) (hn:ss.length≤1099511627776) :
  Calls prog 34 #[v,.string p] w (Q3m ss p w):=by
 obtain⟨a,c,rfl,hc,hx⟩:=h;have HX:=zh hx;clear hx
 go_enter func34,ntmps34
 go_wp2
 go_loopg [5] ss.length (fun gg s5 wr=>∃ kk:Nat,kk≤ss.length∧ss.length-kk≤gg∧s5=.int .i64 kk∧w=wr∧Aside (p ∉ ss.take kk))
 case atStart=>
  refine⟨0,Nat.zero_le _,by omega,rfl,rfl,?_⟩;show p ∉ ss.take 0;simp
 case round=>
  obtain⟨kk,k,hg,rfl,rfl,HM⟩:=hrel;by_cases hlt:kk<ss.length
  ·obtain⟨x,hx⟩:∃ x,x=ss[kk]:=⟨_,rfl⟩
   have d:ss[kk]?=some x:=by rw[hx,List.getElem?_eq_getElem hlt]
   obtain⟨b,off,rfl,c1⟩:=HX.o kk (.string x) (by rw[List.getElem?_map,d];rfl);have hb:b<w.heap.size:=Qk c1;have i:(kk:Int)<(ss.length:Int):=by omega
   have j:(0:Int)≤(kk:Int):=by omega
   have f:=zh d;clear hx d;by_cases he:x=p
   ·have e:(x.toList == p.toList)=true:=Jp he
    have HE:=zh he;clear he;go_wp2;go_ret;exact⟨⟨true,rfl,fun _=>by rw[←HE.o];exact List.mem_of_getElem? f.o,fun _=>rfl⟩,rfl⟩
   ·have e:(x.toList == p.toList)=false:=Y9 he
    have HE:=zh he;clear he;go_wp2
    go_roundg (ss.length-(kk+1))
    case measure=>omega
    case rel=>
     refine⟨kk+1,by omega,by omega,by go_num,rfl,?_⟩;show p ∉ ss.take (kk+1);rw[List.take_add_one,f.o];intro hm;rcases List.mem_append.1 hm with h1|h1
     ·exact HM.o h1
     ·simp at h1
      exact HE.o h1.symm
  ·have i:¬ (kk:Int)<(ss.length:Int):=by omega
   have g:kk=ss.length:=by omega
   have HK:=zh g;clear g;go_wp2;go_ret;have h1:=HM.o;rw[HK.o,List.take_length] at h1;exact⟨⟨false,rfl,fun hf=>(by cases hf),fun hm=>absurd hm h1⟩,rfl⟩
end
section
theorem Q2c (f:Nat):∀ (ss:List ByteArray) (v:Value) (i:Nat) (w:World),ss.length≤f→Zn w v ss→ss.length≤1048576→(∀ s∈ss,s.size≤1048576)→i<ss.length→
  Calls prog 41 #[v,.int .i64 i] w fun e w'=>∃ v',e=.returned v'∧Q0 w' w.heap.size v' ((Qav (lists ss) i).map HS)∧Below w.heap.size w w':=by
 induction f with
 | zero=>intro ss v i w hf h hl hs hi;omega
 | succ f ih=>
  intro ss v i w hf h hl hs hi;obtain⟨a,c,hv,L,hc⟩:=id h;obtain⟨s0,I⟩:∃ s,ss[0]?=some s:=⟨_,List.getElem?_eq_getElem (by omega)⟩
  obtain⟨g,off,rfl,_⟩:=hc 0 (.string s0) (by simp[I]);clear hc I;subst hv;obtain⟨n,hn⟩:∃ n,n=ss.length:=⟨_,rfl⟩
  obtain⟨i0,F,C,G,H⟩:=info_parts Qb5;by_cases h1:n=1
  ·have hp:Qav (lists ss) i = []:=Qov (by simp[lists];omega) i
   rw[hp,←hn,h1];clear hf h hl hs hi hn h1 hp ih
   go_enter func41,ntmps41
   go_wp2_with fail
   go_ret;exact⟨_,rfl,World.ownsRow_nil _ _ _ _,Below.refl _ _⟩
  ·have M:=Qe4 (n:=n) (by omega) (by omega)
   have N:=Yi (n:=n) (by omega);have p:=Qhm (l:=lists ss) (by simp[lists];omega) i;have J:(lists ss).length=n:=by simp[lists];omega
   have E:∀ m,(lists ss).take m=lists (ss.take m):=fun m=>by simp[lists]
   have K:∀ m,(lists ss).drop m=lists (ss.drop m):=fun m=>by simp[lists]
   rw[J,E,K] at p;obtain⟨k,hk⟩:∃ k,k=below n:=⟨_,rfl⟩
   rw[←hk] at M N p;have T:=zh (Qmh h (by omega:k≤ss.length));have D:=zh (Qi6 h (by omega:k≤ss.length));have y:=zh hs;have HK:=zh hk;have IH:=zh ih;clear h hs hk ih J E K;rw[←hn] at D L hi ⊢;have HN:=zh hn;have P:n≤f+1:=by omega
   have Q:n≤1048576:=by omega
   clear hf hl;have d1:((n:Int) == 1)=false:=by rw[beq_eq_false_iff_ne];omega
   by_cases hik:i<k
   ·have hd:decide ((i:Int)<(k:Int))=true:=decide_eq_true (by omega)
    have q:Qav (lists ss) i=Qav (lists (ss.take k)) i ++ [rootOf (lists (ss.drop k))]:=by rw[p,if_pos (by omega)]
    have B:(Qav (lists (ss.take k)) i).length≤1048576:=Nat.le_trans (Qjh _ _) (by simp[lists];omega);have HP:=zh q;clear q p hn
    go_enter func41,ntmps41
    go_wp2_with fail
    refine (Jk n _ (by omega) (by omega)).mono ?_;rintro e w0 ⟨rfl,rfl⟩;rw[Int.toNat_natCast,←HK.o]
    go_wp2_with fail
    refine (IH.o (ss.take k) _ i _ (by simp;have:=HN.o;omega) T.o (by simp;have:=HN.o;omega) (fun s hs=>y.o s (List.mem_of_mem_take hs)) (by simp;have:=HN.o;omega)).mono ?_;rintro e w1 ⟨v1,rfl,r,b⟩
    go_wp2_with fail
    refine (Qdh _ (ss.drop k) _ _ (Nat.le_refl _) (D.o.below b) (by simp;have:=HN.o;omega) (fun s hs=>y.o s (List.mem_of_mem_drop hs))).mono ?_;rintro e w2 ⟨rfl,d⟩;have HO:=zh (Ql r d);have HB:=zh (b.trans (d.mono b.size));clear r b d
    go_wp2_with (first|(at_builtin;refine Jd rfl _ _ 22 rfl w.heap.size 9 i0 (.string ⟨#[]⟩) 16 underlying22 F C G H rfl (by decide) _ _ _ rfl HO.o _ rfl rfl (by rw[List.length_map];omega) HB.o.size ?_;intro v2 w3 u t x;have A:=zh u;have z:=zh t;clear u t x)|fail)
    go_ret;refine⟨_,rfl,?_,HB.o.grown z.o HB.o.size (fun j hj=>(HO.o.lt j hj).1)⟩;rw[HP.o,List.map_append];unfold Q0;simpa using A.o
   ·have hd:decide ((i:Int)<(k:Int))=false:=decide_eq_false (by omega)
    have q:Qav (lists ss) i=Qav (lists (ss.drop k)) (i-k) ++ [rootOf (lists (ss.take k))]:=by rw[p,if_neg (by omega)]
    have B:(Qav (lists (ss.drop k)) (i-k)).length≤1048576:=Nat.le_trans (Qjh _ _) (by simp[lists];omega);have HP:=zh q;have O:(i:Int)-(k:Int)=((i-k:Nat):Int):=by omega
    clear q p hn
    go_enter func41,ntmps41
    go_wp2_with fail
    refine (Jk n _ (by omega) (by omega)).mono ?_;rintro e w0 ⟨rfl,rfl⟩;rw[Int.toNat_natCast,←HK.o]
    go_wp2_with fail
    refine (IH.o (ss.drop k) _ (i-k) _ (by simp;have:=HN.o;omega) D.o (by simp;have:=HN.o;omega) (fun s hs=>y.o s (List.mem_of_mem_drop hs)) (by simp;have:=HN.o;omega)).mono ?_;rintro e w1 ⟨v1,rfl,r,b⟩
    go_wp2_with fail
    refine (Qdh _ (ss.take k) _ _ (Nat.le_refl _) (T.o.below b) (by simp;have:=HN.o;omega) (fun s hs=>y.o s (List.mem_of_mem_take hs))).mono ?_;rintro e w2 ⟨rfl,d⟩;have HO:=zh (Ql r d);have HB:=zh (b.trans (d.mono b.size));clear r b d
    go_wp2_with (first|(at_builtin;refine Jd rfl _ _ 22 rfl w.heap.size 9 i0 (.string ⟨#[]⟩) 16 underlying22 F C G H rfl (by decide) _ _ _ rfl HO.o _ rfl rfl (by rw[List.length_map];omega) HB.o.size ?_;intro v2 w3 u t x;have A:=zh u;have z:=zh t;clear u t x)|fail)
    go_ret;refine⟨_,rfl,?_,HB.o.grown z.o HB.o.size (fun j hj=>(HO.o.lt j hj).1)⟩;rw[HP.o,List.map_append];unfold Q0;simpa using A.o
end
section
def Qvr (w:World) (e:Ending) (w':World):Prop:=e=.returned (.bool true)∧Below w.heap.size w w'
end
section
theorem Qou {w:World} {a:Option Addr} {n c k:Nat} {ss:List ByteArray} (h:Zn w (.slice a n c) ss) (hk:k≤ss.length):Zn w (.slice a k c) (ss.take k):=by
 obtain⟨a',c',h1,h2,h3⟩:=h;cases h1;have e:(ss.take k).length=k:=by rw[List.length_take,Nat.min_eq_left hk]
 refine⟨a,c,by rw[e],by omega,fun j u hj=>h3 j u ?_⟩;rw[List.map_take] at hj;rw[List.getElem?_take] at hj
 split at hj
 ·exact hj
 ·cases hj
end
section
structure Qhr (w:World) (p:Pl) (m:Wm) (es:List ByteArray) (key:ByteArray):Prop where
 wd:WdIs w p m
 ents:m.es=es
 mkey:m.key=key
 cp:getF m.d.files (sOf kCp)=some (cpOf (lists es) key)
 once:Once m.d.files
 small:∀ f∈m.d.files,f.2.size≤1048576
 few:m.d.files.length≤1000000000
 rdw:∃ L,RdW m L es.length
variable {w w':World} {p:Pl} {m:Wm} {es:List ByteArray} {key:ByteArray}
theorem Qhr.below (h:Qhr w p m es key) (hb:Below w.heap.size w w'):Qhr w' p m es key:={ h with wd:=h.wd.below hb }
variable {k:Nat}
theorem Qor {L:Lg} (h:WSt w w' k key p m L es.length) (he:m.es=es) (h1:1≤es.length) (hk:k≤400):Qhr w' p m es key:=by
 obtain⟨U,hU,hG⟩:=h.good;refine⟨h.wd,he,h.mkey,?_,h.rdw.sound.fresh.once,hG.sane.size,by have:=hG.sane.len;omega,L,h.rdw⟩;rcases h.rdw.cp with ⟨h0,_⟩|h2
 ·omega
 ·rw[h2,List.take_of_length_le (by rw[Q9,he];exact Nat.le_refl _),he,h.mkey]
theorem Q27 {fs:List Fil} {d:ByteArray} {ts:List Nat} (hf:∀ f∈fs,f.2.size≤1048576) (hd:d.size≤1048576):Qjy ⟨fs,[⟨sOf kCp,d,false,0⟩],ts,k⟩:=
 ⟨fun l hl=>by rw[List.mem_singleton.1 hl];exact Int.le_refl 0,hf,fun l hl=>by rw[List.mem_singleton.1 hl];exact hd⟩
theorem Qtt (F:Nat→Addr) (w:World) (p pv:Pl) (m mv:Wm) (es:List ByteArray) (M:Nat) (key:ByteArray) (ve vl:Value) (ls:List Lie1) (hp:Qhr w p m es key) (hv:Qhr w pv mv (es.take M) key) (hM1:1≤M) (hM2:M≤es.length) (hlen:es.length≤100) (h20:∀ s∈es,s.size≤20) (he:Zn w ve es)
  (hvl:w.ownsRow 0 47 4 vl ls.length (Qar ls)) (hll:ls.length≤100) (hst:∀ x∈ls,x.times≤0) (hld:∀ x∈ls,x.data.size≤1048576) (hkey:key.size≤1048600) (hn:Qad w) (hS:Qbs w F) (hT:ErrT w) :
  Calls prog 9 #[.pointer (some ⟨p.gw,0,none⟩),.pointer (some ⟨pv.gw,0,none⟩),ve,.int .i64 M,vl] w (Qvr w):=by
 obtain⟨⟨c0,c1,_⟩,_⟩:=hp.wd.heads;rw[hp.mkey] at c1;have au:p.gw<w.heap.size:=Qk c0;have ekc:sOf kCp=⟨#[99,104,101,99,107,112,111,105,110,116]⟩:=rfl;have d2:=zh (Qpe w p.gd m.d.files);have ep:=zh (fun (W:World) (g:Nat)=>Qhc W (.pointer (some ⟨g,0,none⟩)) (.iface 48 (.pointer (some ⟨g,0,none⟩))) (.inr ⟨_,rfl,rfl⟩) key 16 (by decide));obtain⟨ae,ce,d4,eo,bq⟩:=id he;obtain⟨x0,bo⟩:∃ x,es[0]?=some x:=⟨_,List.getElem?_eq_getElem (by omega)⟩
 obtain⟨be,oe,rfl,_⟩:=bq 0 (.string x0) (by rw[List.getElem?_map,bo];rfl);subst d4;clear bq bo;obtain⟨al,cl,rfl⟩:=Zi hvl;have HP:=zh hp;have HV:=zh hv;have dx:=zh h20;have HE:=zh he;have c4:=zh hvl;have bn:=zh hst;have bf:=zh hld;have HN:=zh hn;have cw:=zh hS;have HT:=zh hT;obtain⟨ne,ah⟩:∃ n,n=es.length:=⟨_,rfl⟩
 obtain⟨nl,ad⟩:∃ n,n=ls.length:=⟨_,rfl⟩
 rw[←ah] at hM2 hlen eo ⊢;rw[←ad] at hll ⊢;have H:=zh ah;have i:=zh ad;clear hp hv h20 he hvl hst hld hn hS hT ah ad
 go_enter func9,ntmps9
 go_upto_region 2 with (first|(go_at_call 24;refine d2.o.mono ?_;rintro e w1 ⟨gn,rfl,u,Y,bg⟩;have d1:=(Y.cell (p:=⟨p.gw,1,none⟩) au).trans c1;have dg:=Qk d1;have dq:=zh u;have en:=zh Y;have d7:=zh bg;clear u Y bg)|fail)
 go_upto_region 5 with (first|(go_at_call 25;refine (ep.o w1 gn).mono ?_;rintro e w2 ⟨ga,gc,gk,mc,rfl,b8,bu,cj,_,ca,b6,cs⟩;have bh:=zh (Qv1 (w0:=w) (w1:=w) (Below.refl _ _) dq.o en.o d7.o b8 bu cj ca b6 cs);clear b8 bu cj ca b6 cs)|fail)
 clear d1 dg c0 c1;have ed:=zh (Qdc w2 pv mv (HV.o.wd.below bh.o.below) (by have:=HV.o.few;omega))
 go_upto_region 6 with (first|(go_at_call 26;refine ed.o.mono ?_;rintro e w3 ⟨v3,l3,rfl,b1,bb,cc⟩;have et:=zh b1;have b7:=zh bb;have d5:=zh (bh.o.grow cc);clear b1 bb cc)|fail)
 obtain⟨d,hd⟩:∃ d,d=cpOf (lists (es.take M)) key:=⟨_,rfl⟩
 have a6:getF l3 (sOf kCp)=some d:=by rw[Qcm HV.o.once b7.o,HV.o.cp,hd]
 have cf:d.size≤1048576:=by have h1:=HV.o.cp;rw[←hd] at h1;exact HV.o.small _ (Qai h1)
 have du:=zh cf;have ci:=Z7 et.o;have ek:l3.length≤1000000000:=by rw[b7.o.length_eq];exact HV.o.few
 rcases Qaj l3 (sOf kCp) with ⟨_,g2⟩|⟨j,b,hj,g1,g2,g3⟩
 ·rw[a6] at g2;cases g2
 obtain rfl:d=b:=by rw[a6] at g3;exact Option.some.inj g3
 have S:=Yf w3 v3 l3 (sOf kCp) ci (by omega);rw[g1,ekc] at S;obtain⟨a3,c3,rfl,eq,cz⟩:=ci;obtain⟨b3,o3,rfl,_,q2⟩:=cz j _ g2;have c5:b3<w3.heap.size:=Qk q2;have ea:(0:Int)≤(j:Int):=by omega
 have bx:(j:Int)<(l3.length:Int):=by omega
 dsimp only at q2;obtain⟨n3,cx⟩:∃ n,n=l3.length:=⟨_,rfl⟩
 rw[←cx] at bx eq S ⊢;have dr:=zh S;have HD:=zh hd;obtain⟨W3,Q⟩:∃ W,W=w3.alloc (.cells #[.string ⟨#[99,104,101,99,107,112,111,105,110,116]⟩,.string d,.bool false,.int .i64 0] 47):=⟨_,rfl⟩
 have az:=d5.o.grow (w':=W3) (by rw[Q];exact Qa w3 _);have ck:=Qgr W3 gn p.gd _ _ (.slice (some ⟨w3.heap.size,0,none⟩) 1 1) _ [⟨sOf kCp,d,false,0⟩] az.net (by
  rw[Q,ekc]
  exact World.ownsRow_lit w3 _ 1 (Nat.zero_le _) (by unfold maxLen;omega) rfl) (by simp)
 have dk:=zh az;have d9:=zh ck;have d3:=zh Q;clear a6 cf S cz g1 g2 g3 hj hd cx az ck Q ek
 go_upto_region 8 with (first|(go_at_call 27;(with_reducible refine dr.o.mono ?_;rintro e w5 ⟨rfl,rfl⟩))|(go_at_call 28;rw[←d3.o];refine d9.o.mono ?_;rintro e w4 ⟨e0,ey,rfl,ct,b2,cd⟩;have el:=zh (dk.o.lied ct b2 cd).1;clear ct b2 cd)|fail)
 obtain⟨R0,ar⟩:∃ R,R=rootOf (lists (es.take M)):=⟨_,rfl⟩
 have cn:(lists (es.take M)).length=M:=by rw[Q9,List.length_take];have:=H.o;omega
 have a:=el.o.update (F:=F) (by omega) HP.o.wd.disk rfl HN.o cw.o HT.o (Q27 HP.o.small du.o) (by show key.size≤_;omega) rfl (Nat.zero_le _);rw[Qkf (es:=lists (es.take M)) (key:=key) (by rw[←HD.o];exact Q0i) rfl rfl (by omega) (by omega),cn,←ar] at a;obtain⟨n1,u⟩:∃ n1,n1=Zy ⟨m.d.files,[⟨sOf kCp,d,false,0⟩],List.replicate ([⟨sOf kCp,d,false,0⟩]:List Lie1).length 0,0⟩ (sOf kCp):=⟨_,rfl⟩
 rw[←u] at a;unfold Q6k at a;dsimp only[Qdk] at a;have cv:n1.files=m.d.files:=by rw[u];exact (Yj _ _).2.1
 have ds:=zh a;have em:=zh ar;have dw:=zh cv;clear a cn u ar cv q2 c5 ea bx
 go_upto_region 9 with (first|(go_at_call 29;refine ds.o.mono ?_;rintro e w5 ⟨v5,ez,rfl,_,k,_⟩;have cg:=zh k;clear k)|fail)
 obtain⟨W5,K⟩:∃ W,W=w5.alloc (.cells #[.int .i64 0,.string ⟨#[]⟩] 63):=⟨_,rfl⟩
 obtain⟨tb,I⟩:∃ tb,tb=w5.heap.size:=⟨_,rfl⟩
 have b5:Below w5.heap.size w5 W5:=by rw[K];exact Qa w5 _
 have co:Zr W5 tb 0 ⟨#[]⟩:=by rw[K,I];exact heap_alloc_new w5 _
 rw[←I,←K];have k:=cg.o.grow b5;have ef:=zh (show w.heap.size≤tb by rw[I];exact cg.o.below.size);have di:=zh k;have d6:=zh co;have dz:(es.take M).length=M:=by rw[List.length_take];have:=H.o;omega
 have ao:=Qdh M (es.take M) (.slice (some ⟨be,oe,none⟩) M ce) W5 (by omega) (Qou (n:=ne) (by have:=HE.o.below k.below;rw[←H.o] at this;exact this) (by have:=H.o;omega)) (by omega) (fun s hs=>Nat.le_trans (dx.o s (List.mem_of_mem_take hs)) (by decide));rw[←em.o] at ao;have dv:=zh ao;have ex:M≤ce:=by omega
 clear K I b5 co k dz ao
 go_upto_region 10 with (first|(go_at_call 30;refine dv.o.mono ?_;rintro e w6 ⟨rfl,a0⟩;have eb:=zh (di.o.grow a0);have cb:=zh (d6.o.below a0);clear a0)|fail)
 have c8:=zh eb.o.trusted
 go_upto_region 11 with (first|(go_at_call 31;refine c8.o.mono ?_;rintro e w7 ⟨rfl,cm,ab,_⟩;have an:=zh cm;have dy:=zh (ab _ _ _ cb.o);obtain⟨t0,t1,_,_,tlt⟩:=(ab _ _ _ cb.o).facts;clear cm ab)|fail)
 have er:((HS R0).toList == (HS R0).toList)=true:=by simp
 have ak:=Qgr w7 gn p.gd _ _ (.slice al nl cl) _ ls an.o.net (by have:=Ql c4.o an.o.below;rw[←i.o] at this;rw[←i.o];exact this) (by have:=i.o;omega);have dn:=zh ak;clear ak
 go_upto_region 14 with (first|(go_at_call 28;refine dn.o.mono ?_;rintro e w8 ⟨ev,e2,rfl,cr,b0,b9⟩;have v:=an.o.lied cr b0 b9;have d8:=zh v.1;have bm:=zh (v.2 _ _ _ dy.o);clear cr b0 b9 v)|fail)
 obtain⟨n2,J⟩:∃ n2,n2=({ n1 with lies:=ls,told:=List.replicate ls.length 0 }:Nt):=⟨_,rfl⟩
 have am:=d8.o;rw[←J] at am;have E:n2.files=m.d.files:=by rw[J];exact dw.o
 have O:n2.lies=ls:=by rw[J]
 have Z:Qjy n2:=⟨by unfold Jo;rw[O];exact bn.o,by rw[E];exact HP.o.small,by rw[O];exact bf.o⟩
 have a:=am.update (F:=F) (by omega) HP.o.wd.disk E HN.o cw.o HT.o Z (by show key.size≤_;omega) rfl (by show M≤_;omega);obtain⟨r,hr⟩:∃ r,r=Y0 ⟨key,M,R0,⟨(16:Int).toNat,[]⟩⟩ n2:=⟨_,rfl⟩
 rw[←hr] at a;obtain⟨⟨tk,tp⟩,hh,c2,n3⟩:=r;unfold Q6k at a;dsimp only at a;have dd:=zh a;have HR:=zh hr;have bw:=zh E;have eg:=zh O;have aa:=zh Z;clear J am E O Z a hr t0 t1 tlt er
 go_upto_region 15 with (first|(go_at_call 29;refine dd.o.mono ?_;rintro e w9 ⟨v9,ew,rfl,bd,bl,U⟩;have ej:=zh bd;have ee:=zh bl;have a8:=zh (U _ _ _ bm.o);obtain⟨t0,t1,L,N,tlt⟩:=(U _ _ _ bm.o).facts;clear bd bl U)|fail)
 obtain⟨aj,P⟩:=Qc2 (m:=tk) (t:=tp) a8.o;obtain⟨W9,cq⟩:∃ W,W=(w9.setCell ⟨tb,0,none⟩ (.int .i64 tk)).setCell ⟨tb,1,none⟩ (.string tp):=⟨_,rfl⟩
 rw[←cq] at aj P ⊢;have ax:=zh (ee.o.told a8.o ef.o P);have dh:=zh (show Q0 W9 w8.heap.size v9 (hh.map HS) from Zk ej.o P (Q5 a8.o) (by decide));have dp:=zh aj;have dj:=zh ax.o.trusted;clear cq aj P t0 t1 L N tlt
 go_upto_region 16 with (first|(go_at_call 31;refine dj.o.mono ?_;rintro e bc ⟨rfl,X,a1,af⟩;have da:=zh (show Q0 bc w8.heap.size v9 (hh.map HS) from Zk dh.o af (Q5 ax.o.cl.cells) (by decide));have y:=zh X;have dm:=zh (a1 _ _ _ dp.o);clear X a1 af)|fail)
 have a2:=Qwx bc p m (HP.o.wd.below y.o.below) (by have:=HP.o.few;omega) (.slice al nl cl) ls (by have:=Ql c4.o y.o.below;rw[←i.o] at this;rw[←i.o];exact this) (by have:=i.o;omega);have db:=zh a2;clear a2
 go_upto_region 17 with (first|(go_at_call 32;refine db.o.mono ?_;rintro e bp ⟨nb,z0,z1,z2,l',rfl,cu,A⟩;have T:=zh cu;have d0:=zh A;have c7:=zh (dm.o.below A.bel);have c6:=zh (show Q0 bp w8.heap.size v9 (hh.map HS) from Ql da.o A.bel);have a7:=y.o.below.trans (A.bel.mono y.o.below.size);have bt:=zh a7;have d1:=(HP.o.wd.below a7).heads.1.2.1;rw[HP.o.mkey] at d1;have au:=Qk d1;clear cu A a7)|fail)
 have aq:Qjy ⟨l',ls,[],0⟩:=⟨bn.o,fun f hf=>HP.o.small f (T.o.mem_iff.1 hf),bf.o⟩
 have ay:∀ q,Q6 ⟨l',ls,[],0⟩ q=Q6 n2 q:=fun q=>by
  have:=Qo0 (n:=n2) aa.o.steady (by rw[bw.o];exact HP.o.once) (l:=l') (by rw[bw.o];exact T.o) q
  rw[eg.o] at this;exact this
 have cy:=Q1h d0.o aq (by rw[T.o.length_eq];have:=HP.o.few;omega) (by have:=i.o;omega);have bz:=Q6a bp nb z0 z1 z2 _ cy key M R0 hM1 (by omega) (by omega) (by
  show getF l' (sOf kCp)≠none
  rw[Qcm HP.o.once T.o,HP.o.cp]
  simp) (fun d hd=>aq.fetch hd)
 have eh:=zh bz;have dc:=zh ay;clear aq ay cy bz
 go_upto_region 18 with (first|(go_at_call 33;refine eh.o.mono ?_;rintro e a4 ⟨code,vw,ss,sz,xx,rfl,bk,z,aw⟩;have br:=zh bk;have D:=zh (c7.o.below z);have ac:=zh (show Q0 a4 w8.heap.size v9 (hh.map HS) from Ql c6.o z);have h:=zh (bt.o.trans (z.mono bt.o.size));have de:=zh (Q6x dc.o aw);clear bk z aw)|fail)
 have ag:=Qzc (n:=n2) (m:=M) (root:=R0) (c:=⟨key,M,R0,⟨(16:Int).toNat,[]⟩⟩) aa.o.steady rfl rfl rfl rfl hM1 (by omega) de.o;rw[←HR.o] at ag;dsimp only at ag;obtain⟨t0,t1,L,N,tlt⟩:=D.o.facts;clear d1 au;rcases ag with ⟨rfl,e1,ai,rfl,rfl⟩|⟨a5,rfl,h6,ch,bj,b4⟩
 ·cases e1
  have ho:=ac.o;have G:=Qmt (n:=n2) (c:=⟨key,M,R0,⟨(16:Int).toNat,[]⟩⟩) aa.o.steady rfl (by show M≤2 ^ 41;omega);rw[←HR.o] at G;dsimp only at G;rw[←List.length_map (f:=HS),ai] at G;rw[ai] at ho;obtain⟨a9,c9,rfl⟩:=Zi ho;have ap:=Qqi _ vw ss ss a4 (Q0.at ho) br.o (by omega);rw[decide_eq_true rfl] at ap;have ei:=zh ap;have V:=zh D.o;clear ap t0 t1 L N tlt ho G ai
  go_upto_region 22 with (first|(go_at_call 35;refine ei.o.mono ?_;rintro e ec ⟨rfl,C⟩;have ba:=zh (h.o.trans (C.mono h.o.size));obtain⟨t0,_,_,_,tlt⟩:=(V.o.below C).facts;clear C)|fail)
  obtain⟨hz,B⟩:∃ s,s=HS c2.root:=⟨_,rfl⟩
  rw[←B];have k1:(hz.toList == hz.toList)=true:=by simp
  have k2:(((c2.size:Int)) == (c2.size:Int))=true:=by simp
  clear B
  go_wp2_with fail
  go_ret;exact⟨rfl,ba.o⟩
 ·rw[bj,b4]
  have ho:=ac.o;rw[ch] at ho;obtain⟨a9,c9,bi⟩:=Zi ho;rw[show (([]:List Hsh).map HS).length=0 from rfl] at bi;subst bi;have k0:((tk:Int) == 0)=false:=by rw[beq_eq_false_iff_ne];exact a5
  have V:=zh D.o;have dt:=zh (fun hl=>Qr8 a4 vw ss tp br.o hl);have H6:=zh h6;clear bj b4 ch ho a5 h6 t0 t1 L N tlt;obtain⟨hz,B⟩:∃ s,s=HS R0:=⟨_,rfl⟩
  rw[←B];have k1:(hz.toList == hz.toList)=true:=by simp
  have k2:((M:Int) == (M:Int))=true:=by simp
  have k3:((tk:Int) == (tk:Int))=true:=by simp
  clear B;obtain⟨t0,t1,_,_,tlt⟩:=V.o.facts;by_cases h66:tk=6
  ·subst h66
   obtain⟨av,eu⟩:=H6.o rfl;have df:=zh (dt.o (by omega));have dl:=zh av;clear av
   go_upto_region 20 with (first|(go_at_call 34;refine df.o.mono ?_;rintro e ec ⟨⟨b,rfl,hb⟩,rfl⟩;obtain rfl:b=true:=hb.2 dl.o;clear hb)|fail)
   go_wp2_with fail
   go_ret;exact⟨rfl,h.o⟩
  ·have k6:((tk:Int) == 6)=false:=by rw[beq_eq_false_iff_ne];omega
   have k7:((tk:Int) != 6)=true:=by simp;omega
   have k8:¬ (tk:Int)=6:=by omega
   clear h66
   go_upto_region 20 with fail
   go_wp2_with fail
   go_ret;exact⟨rfl,h.o⟩
end
end Go.Proofs.YtefccfakhgdfbaaGreatDoor
