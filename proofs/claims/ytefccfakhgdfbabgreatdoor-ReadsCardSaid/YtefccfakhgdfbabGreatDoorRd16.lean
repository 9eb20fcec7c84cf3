/- tiles.Open: a publisher over a store. Conditions: bounds on calls, files, indices, the key. -/
import Derived.Test.YtefccfakhgdfbabGreatDoorRd15
set_option linter.unusedVariables false
set_option linter.unusedSimpArgs false
open Go.RowKit Go.Proofs.Tryz
set_option maxRecDepth 100000
set_option maxHeartbeats 4000000
namespace Go.Proofs.YtefccfakhgdfbabGreatDoor
section
theorem Q4z (s:ByteArray) (w:World) (hs:s.size≤1048576) (h:Jr w) :
  Calls prog 121 #[.string s] w fun e w'=>∃ v ev,e=.returned (.tuple #[.int .i64 v,ev])∧((Qga s.data.toList=some v∧ev=.nilIface)∨(Qga s.data.toList=none∧∃ T p,ev=.iface T p))∧Below w.heap.size w w':=by
 obtain⟨_,_,⟨e1,h1,h1'⟩,⟨e2,h2,h2'⟩⟩:=h;cases hr:Lib.atoiAll s.data.toList with
 | ok v=>
  refine (strconv_Atoi_ok s (by omega) v hr w).mono ?_;rintro e w' ⟨rfl,hw⟩;refine⟨v,.nilIface,rfl,.inl ⟨by unfold Qga;rw[hr],rfl⟩,?_⟩;rcases hw with rfl|⟨t,rfl⟩
  ·exact Below.refl _ _
  ·exact Lib.bytesWorld_below _ _ _
 | range=>
  refine (strconv_Atoi_range s (by omega) hr e2 w h2 h2').mono ?_;rintro e w' ⟨N,rfl,_,_,hb⟩;exact⟨_,_,rfl,.inr ⟨by unfold Qga;rw[hr],_,_,rfl⟩,hb⟩
 | _=>
  refine (strconv_Atoi_syntax s (by omega) hr e1 w h1 h1').mono ?_;rintro e w' ⟨N,rfl,_,_,hb⟩;exact⟨_,_,rfl,.inr ⟨by unfold Qga;rw[hr],_,_,rfl⟩,hb⟩
end
section
abbrev Q7q (q:Qn1):Value:=.tuple #[trV q.1 q.2.1,.bool q.2.2]
def Qjm (q:Qn1) (w:World) (e:Ending) (w':World):Prop:=e=.returned (Q7q q)∧Below w.heap.size w w'
theorem Qqy {c:UInt8} {m:Nat} (h:Y9 c=some m):m<16:=by
 unfold Y9 at h
 split at h
 ·cases h;omega
 ·split at h
  ·cases h;omega
  ·split at h
   ·cases h;omega
   ·cases h
set_option maxHeartbeats 8000000 in
theorem Qo0 (s key:ByteArray) (w:World) (hs:s.size≤1048576) (hk:key.size≤9223372036854775807) (hE:Jr w) :
  Calls prog 67 #[.string s,.string key] w (Qjm (Yc s.data.toList key.data.toList) w):=by
 obtain⟨l,hl⟩:∃ l,l=s.data.toList:=⟨_,rfl⟩
 have hself:s=sOf l:=by rw[hl,Qat]
 have hlen:l.length≤1048576:=by rw[hl];simpa using hs
 clear hl hs;subst hself;obtain⟨q,hq⟩:∃ q,q=Yc l key.data.toList:=⟨_,rfl⟩
 show Calls prog 67 #[.string (sOf l),.string key] w (Qjm (Yc l key.data.toList) w);rw[←hq];have b0:=Qa w (.cells (trC 0 zero8) 111);have T0:TrAt (w.alloc (.cells (trC 0 zero8) 111)) w.heap.size 0 zero8:=heap_alloc_new w _;have HQ:=zh hq;have HE0:=zh (hE.below b0);have HB0:=zh b0;have HT0:=zh T0;clear hq b0 T0
 go_enter func67,ntmps67
 go_wp2_with fail
 refine (Qw5 (sOf l) _ (by rw[Qbo];exact hlen) HE0.o).mono ?_;rintro e w1 ⟨v,Ls,rfl,hL,hLl,hb1⟩;rw[show (sOf l).data.toList=l from rfl] at hLl;have hq1:=HQ.o;unfold Yc at hq1;rw[←hLl] at hq1;obtain⟨a1,n1,k1,rfl,hn1⟩:∃ a n c,v=.slice a n c∧n=Ls.length:=by obtain⟨a,c,h1,_⟩:=hL;exact⟨a,_,c,h1,rfl⟩
 obtain⟨z0,z1,z2,z3,z4,z5,z6,z7,z8⟩:=(HT0.o.below hb1).cells;have HT1:=zh (HT0.o.below hb1);have HE1:=zh (HE0.o.below hb1);have HB1:=zh (HB0.o.trans (hb1.mono HB0.o.size));have HL:=zh hL;have HLL:=zh hLl;have HEw:=zh hE;have HQ1:=zh hq1;clear HQ hq1 hLl hb1 hL HB0 HE0 HT0 hE;by_cases h5:n1=5
 ·obtain⟨L0,L1,L2,L3,L4,rfl⟩:∃ a b c d e,Ls = [a,b,c,d,e]:=by
   match Ls,hn1.symm.trans h5 with
   | [a,b,c,d,e],_=>exact⟨a,b,c,d,e,rfl⟩
  subst h5;clear hn1;obtain⟨bl,ol,rfl,hc1⟩:∃ b o,a1=some ⟨b,o,none⟩∧∀ j x,([L0,L1,L2,L3,L4].map Value.string)[j]?=some x→w1.cell? ⟨b,o+j,none⟩=some x:=by obtain⟨a',c',hv,_,hc⟩:=HL.o;cases hv;obtain⟨b,o,hb,_⟩:=hc 0 (.string L0) rfl;refine⟨b,o,hb,fun j x hx=>?_⟩;obtain⟨b',o',hb',hcell⟩:=hc j x hx;rw[hb] at hb';cases hb';exact hcell
  have m1:=hc1 1 (.string L1) rfl;have m2:=hc1 2 (.string L2) rfl;clear hc1 HL z0 z1 z2 z3 z4 z5 z6 z7 z8;have hbt:=HB1.o.size;by_cases h16:L2.size=16
  ·have d16:((L2.size:Int) != 16)=false:=by rw[h16];rfl
   have hq2:q=match Qga L1.data.toList with
     | none=>Jw
     | some n=>if n<0 then Jw else match J6 Y9 L2.data.toList with
      | none=>Jw
      | some b=>Qa9 l key.data.toList n (Yw b):=by
    rw[HQ1.o];show Qgw l key.data.toList [L0.data.toList,L1.data.toList,L2.data.toList,L3.data.toList,L4.data.toList]=_;show (if L2.data.toList.length≠16 then Jw else _)=_;rw[if_neg (by simpa using h16)];rfl
   have HQ2:=zh hq2;have hL1:L1.size≤1048576:=by
    have:=Qyh l L1.data.toList (by rw[←HLL.o];simp[lists])
    simp at this;omega
   clear hq2 HQ1
   go_wp2_with fail
   refine (Q4z L1 _ hL1 HE1.o).mono ?_;rintro e w2 ⟨v,ev,rfl,hv,hb2⟩;have hq3:=HQ2.o;have HT2:=zh (HT1.o.below hb2);have HB2:=zh (HB1.o.trans (hb2.mono HB1.o.size));have HE2:=zh (HE1.o.below hb2);have m2':=(hb2.cell (Qk m2)).trans m2;clear hb2 m1 m2 HQ2;rcases hv with ⟨hv,rfl⟩|⟨hv,T,p,rfl⟩
   ·rw[hv] at hq3
    simp only at hq3;have e0:=Y2 w2;have hvb:=Qwq hv;by_cases h0:v<0
    ·have hd:decide (v<0)=true:=decide_eq_true h0
     rw[if_pos h0] at hq3;have HQ3:=zh hq3;clear hq3 hv h0
     go_wp2_with (first|(refine Yz rfl _ rfl _ rfl _ _ HT2.o ?_)|(refine Z7 rfl _ _ rfl _ 0 zero8 rfl rfl _ _ HT2.o ?_))
     refine retT w.heap.size 0 zero8 (.bool false) rfl rfl rfl (HT2.o.set _ _) rfl ⟨?_,below_setRow HB2.o (Nat.le_refl _) _⟩;rw[HQ3.o];rfl
    ·have hd:decide (v<0)=false:=decide_eq_false h0
     rw[if_neg h0] at hq3;have HQ3:=zh hq3;clear hq3 hv;have hgt:w.heap.size<w2.heap.size:=Qc HT2.o;have hblt:bl<w2.heap.size:=Qk m2';have bA:=Qa w2 (.cells (trC v zero8) 111);have TA:TrAt (w2.alloc (.cells (trC v zero8) 111)) w2.heap.size v zero8:=heap_alloc_new w2 _;obtain⟨Wb,hWb⟩:∃ x,x=w2.alloc (.cells (trC v zero8) 111):=⟨_,rfl⟩
     have m3:=(bA.cell (Qk m2')).trans m2';have T4:=HT2.o.below bA;have B4:=HB2.o.trans (bA.mono HB2.o.size);have hsz:w2.heap.size<Wb.heap.size:=by rw[hWb];simp
     rw[←hWb] at TA m3 T4 B4;have HTA:=zh TA;have HT4:=zh T4;have HB4:=zh B4;have HM3:=zh m3;have HWb:=zh hWb;have l2len:L2.data.toList.length=16:=by simpa using h16
     have HU:=zh (show J6 Y9 L2.data.toList=(J6 Y9 (L2.data.toList.drop 0)).map ([] ++ ·) by simp);clear bA TA m3 T4 B4 hWb m2'
     go_wp2_with fail
     rw[show w2.alloc (.cells #[.int .i64 v,.int .u8 0,.int .u8 0,.int .u8 0,.int .u8 0,.int .u8 0,.int .u8 0,.int .u8 0,.int .u8 0] 111)=Wb from HWb.o.symm]
     go_loopw [42] (fun vi wr=>∃ (k:Nat) (r:List UInt8),k≤8∧vi=.int .i64 k∧r.length=k∧Hid (J6 Y9 L2.data.toList=(J6 Y9 (L2.data.toList.drop (2*k))).map (r ++ ·))∧Hid (Wb.grownBy wr (some w2.heap.size))∧Hid (TrAt wr w2.heap.size v (Yw r))) (fun vi _=>8-(intOf vi).toNat)
     case atStart=>exact⟨0,[],by omega,rfl,rfl,HU,zh (Qfe (Below.refl _ _) _),HTA⟩
     case round=>
      obtain⟨k,r,hk8,rfl,hrk,hinv,hgr,htr⟩:=hrel;have hB:Below w.heap.size w wr:=HB4.o.grown hgr.o HB4.o.size (fun j hj=>by have:=Option.some.inj hj;omega);have HBr:=zh hB;have HEr:=zh (HEw.o.below hB);have m4:wr.cell? ⟨bl,ol+2,none⟩=some (.string L2):=(World.cell?_of_block (a:=⟨bl,ol+2,none⟩) (hgr.o.block bl (by omega) (fun e=>by have:=Option.some.inj e;omega))).trans HM3.o;have HT4r:=zh (show TrAt wr w.heap.size 0 zero8 from (hgr.o.block w.heap.size (by omega) (fun e=>by have:=Option.some.inj e;omega)).trans HT4.o);clear hB;by_cases hlt:k<8
      ·obtain⟨a,b,hab⟩:∃ a b,L2.data.toList.drop (2*k)=a :: b :: L2.data.toList.drop (2*(k+1)):=by refine⟨L2.data.toList[2*k]'(by omega),L2.data.toList[2*k+1]'(by omega),?_⟩;rw[List.drop_eq_getElem_cons (by omega),List.drop_eq_getElem_cons (i:=2*k+1) (by omega)];rfl
       have hext:L2.extract (2*k) (2*k+2)=sOf [a,b]:=by
        rw[←Qat (L2.extract (2*k) (2*k+2))]
        congr 1
        have:(L2.extract (2*k) (2*k+2)).data.toList=(L2.data.toList.drop (2*k)).take 2:=by simp
        rw[this,hab];rfl
       have hst:=hinv.o;rw[hab,Qme] at hst;have P:=Q3s a b wr HEr.o;obtain⟨hat,hfz⟩:=htr.o.at (by omega);have HST:=zh hst;have hrl:=zh hrk;clear hinv hst hab
       go_wp2_with fail
       have hst:=HST.o;cases hua:Y9 a with
       | none=>
        rw[hua] at P hst;simp only[Option.bind_none,Option.map_none] at P hst;refine P.mono ?_;rintro e w3 ⟨hb3,T,p,rfl⟩;have hq4:=HQ3.o;rw[hst] at hq4;have HQ4:=zh hq4;have HT5:=zh (HT4r.o.below hb3);have HB5:=zh (HBr.o.trans (hb3.mono HBr.o.size));have e1:=Qak w3 T p;clear hb3 hst hq4 P hua HST hat hfz m4 hext
        go_wp2_with (first|(refine Yz rfl _ rfl _ rfl _ _ HT5.o ?_)|(refine Z7 rfl _ _ rfl _ 0 zero8 rfl rfl _ _ HT5.o ?_))
        refine retT w.heap.size 0 zero8 (.bool false) rfl rfl rfl (HT5.o.set _ _) rfl ⟨?_,below_setRow HB5.o (Nat.le_refl _) _⟩;rw[HQ4.o];rfl
       | some x=>
        cases hub:Y9 b with
        | none=>
         rw[hua,hub] at P hst;simp only[Option.bind_some,Option.map_none,Option.bind_none] at P hst;refine P.mono ?_;rintro e w3 ⟨hb3,T,p,rfl⟩;have hq4:=HQ3.o;rw[hst] at hq4;have HQ4:=zh hq4;have HT5:=zh (HT4r.o.below hb3);have HB5:=zh (HBr.o.trans (hb3.mono HBr.o.size));have e1:=Qak w3 T p;clear hb3 hst hq4 P hua hub HST hat hfz m4 hext
         go_wp2_with (first|(refine Yz rfl _ rfl _ rfl _ _ HT5.o ?_)|(refine Z7 rfl _ _ rfl _ 0 zero8 rfl rfl _ _ HT5.o ?_))
         refine retT w.heap.size 0 zero8 (.bool false) rfl rfl rfl (HT5.o.set _ _) rfl ⟨?_,below_setRow HB5.o (Nat.le_refl _) _⟩;rw[HQ4.o];rfl
        | some y=>
         rw[hua,hub] at P hst;simp only[Option.bind_some,Option.map_some] at P hst;obtain⟨zb,hzb,hzo⟩:∃ zb:UInt8,16*x+y=zb.toNat∧UInt8.ofNat (16*x+y)=zb:=by refine⟨UInt8.ofNat (16*x+y),?_,rfl⟩;have h1:=Qqy hua;have h2:=Qqy hub;rw[UInt8.toNat_ofNat'];omega
         rw[hzb] at P;rw[hzo] at hst;have hnew:J6 Y9 L2.data.toList=(J6 Y9 (L2.data.toList.drop (2*(k+1)))).map ((r ++ [zb]) ++ ·):=by rw[hst];cases J6 Y9 (L2.data.toList.drop (2*(k+1))) <;> simp
         have HNEW:=zh hnew;have hzl:=zb.toNat_lt;refine P.mono ?_;rintro e w3 ⟨hb3,rfl⟩;have HT6:=zh (htr.o.below hb3);obtain⟨⟨y0,hat3⟩,hfz3⟩:=(htr.o.below hb3).at (by omega);rw[hrk] at hat3 hfz3;have HG3:=zh (Qar hgr.o (Qfe hb3 _));have e1:=Y2 w3;clear hb3 hst P hua hub HST hat hfz m4 hext hzb hzo hnew htr hgr;go_wp2;refine⟨⟨k+1,r ++ [zb],by omega,rfl,by simp;exact hrk,HNEW,zh (Qar HG3.o (Qnm w3 ⟨w2.heap.size,1+k,none⟩ _)),zh ?_⟩,by simp[intOf];omega⟩
         have:=HT6.o.step zb (by omega)
         rw[hrk] at this;exact this
      ·have hk8':k=8:=by omega
       have hall:=hinv.o;rw[List.drop_of_length_le (by omega)] at hall;have hq4:=HQ3.o;rw[hall] at hq4;obtain⟨vn,hvn⟩:∃ n:Nat,v=n:=⟨v.toNat,by omega⟩
       subst hvn;obtain⟨hh,hhh⟩:∃ h,h=Yw r:=⟨_,rfl⟩
       have hq5:q=Qa9 l key.data.toList vn hh:=by rw[hq4,hhh];simp[J6]
       rw[←hhh] at htr;have HTg:=zh htr.o;have hq6:=hq5;unfold Qa9 at hq6;rw[Int.toNat_natCast] at hq6;have HQ6:=zh hq6;have hvb':vn<9223372036854775808:=by omega
       clear hall hq4 hhh hq5 hq6 hinv htr
       go_wp2_with (refine Yz rfl _ rfl _ rfl _ _ HTg.o ?_)
       refine (Qsi vn hh key _ hvb' hk HEr.o).mono ?_;rintro e w5 ⟨rfl,hb5⟩;have HTg5:=zh (HTg.o.below hb5);have HT45:=zh (HT4r.o.below hb5);have HB5:=zh (HBr.o.trans (hb5.mono HBr.o.size));have hq7:=HQ6.o;obtain⟨tx,htx⟩:∃ t,t=J5 vn hh key.data.toList:=⟨_,rfl⟩
       rw[←htx] at hq7 ⊢;clear htx hb5 HQ6 m4;by_cases he:tx=l
       ·rw[if_pos he] at hq7
        have HQ7:=zh hq7;subst he;clear hq7
        go_wp2_with (first|(refine Yz rfl _ rfl _ rfl _ _ HTg5.o ?_)|(refine Z7 rfl _ _ rfl _ vn hh rfl rfl _ _ HT45.o ?_))
        refine retT w.heap.size vn hh (.bool true) rfl rfl rfl (HT45.o.set _ _) rfl ⟨?_,below_setRow HB5.o (Nat.le_refl _) _⟩;rw[HQ7.o]
       ·rw[if_neg he] at hq7
        have HQ7:=zh hq7;have c6:(tx == l)=false:=beq_eq_false_iff_ne.2 he;clear hq7
        go_wp2_with (first|(refine Yz rfl _ rfl _ rfl _ _ HT45.o ?_)|(refine Z7 rfl _ _ rfl _ 0 zero8 rfl rfl _ _ HT45.o ?_))
        refine retT w.heap.size 0 zero8 (.bool false) rfl rfl rfl (HT45.o.set _ _) rfl ⟨?_,below_setRow HB5.o (Nat.le_refl _) _⟩;rw[HQ7.o];rfl
   ·rw[hv] at hq3
    simp only at hq3;have e0:=Qak w2 T p;have HQ3:=zh hq3;clear hq3 hv
    go_wp2_with (first|(refine Yz rfl _ rfl _ rfl _ _ HT2.o ?_)|(refine Z7 rfl _ _ rfl _ 0 zero8 rfl rfl _ _ HT2.o ?_))
    refine retT w.heap.size 0 zero8 (.bool false) rfl rfl rfl (HT2.o.set _ _) rfl ⟨?_,below_setRow HB2.o (Nat.le_refl _) _⟩;rw[HQ3.o];rfl
  ·have d16:((L2.size:Int) != 16)=true:=by simp;omega
   have hq2:q=Jw:=by rw[HQ1.o];show (if L2.data.toList.length≠16 then Jw else _)=_;rw[if_pos (by simpa using h16)]
   have HQ2:=zh hq2;clear hq2 HQ1
   go_wp2_with (first|(refine Yz rfl _ rfl _ rfl _ _ HT1.o ?_)|(refine Z7 rfl _ _ rfl _ 0 zero8 rfl rfl _ _ HT1.o ?_))
   refine retT w.heap.size 0 zero8 (.bool false) rfl rfl rfl (HT1.o.set _ _) rfl ⟨?_,below_setRow HB1.o (Nat.le_refl _) _⟩;rw[HQ2.o];rfl
 ·have d5:((n1:Int) != 5)=true:=by simp;omega
  have hq2:q=Jw:=by
   rw[HQ1.o]
   match Ls,hn1 with
   | [],_=>rfl
   | [_],_=>rfl
   | [_,_],_=>rfl
   | [_,_,_],_=>rfl
   | [_,_,_,_],_=>rfl
   | [_,_,_,_,_],h=>exact absurd h h5
   | _ :: _ :: _ :: _ :: _ :: _ :: _,_=>rfl
  have HQ2:=zh hq2;clear hq2 HQ1 z0 z1 z2 z3 z4 z5 z6 z7 z8
  go_wp2_with (first|(refine Yz rfl _ rfl _ rfl _ _ HT1.o ?_)|(refine Z7 rfl _ _ rfl _ 0 zero8 rfl rfl _ _ HT1.o ?_))
  refine retT w.heap.size 0 zero8 (.bool false) rfl rfl rfl (HT1.o.set _ _) rfl ⟨?_,below_setRow HB1.o (Nat.le_refl _) _⟩;rw[HQ2.o];rfl
end
section
def Qg8 (w:World) (gd:Nat) (key:ByteArray) (es:List (List UInt8)) (g:Nat) (w':World):Prop:=
 ∃ ve vl vs,Zn w' g gd ve vl (.slice none 0 0) vs ⟨key,es,levels es,[],false⟩∧w.heap.size≤g∧∀ k,LogS g ve vl (.slice none 0 0) vs k→w.heap.size≤k
def Qzx (w:World) (gd:Nat) (v:Value) (d:Dk) (key:ByteArray) (f:Nat→Addr) (B:Nat) (e:Ending) (w':World):Prop:=
 ∃ d',Q3 w' gd v d'∧Fr (·=gd) w w'∧
  ((∃ q m r p,Hurt B d d'∧e=.returned (.tuple #[.pointer none,.iface 153 (.pointer (some ⟨r,0,none⟩))])∧w.heap.size≤q∧w.heap.size≤r∧w'.heap[q]?=some (.cells #[.int .i64 m] 366 (0,0))∧
    w'.heap[r]?=some (.cells #[.string p,.iface 152 (.pointer (some ⟨q,0,none⟩))] 155 (0,0)))∨
     (Calm B d d'∧Yf d.files key (.bad 3 ⟨#[]⟩)∧e=.returned (.tuple #[.pointer none,.iface 338 (.pointer (some (f 2)))]))∨
     (Calm B d d'∧Yf d.files key (.bad 5 ⟨#[]⟩)∧e=.returned (.tuple #[.pointer none,.iface 338 (.pointer (some (f 4)))]))∨
     (∃ p r,Calm B d d'∧Yf d.files key (.bad 6 p)∧e=.returned (.tuple #[.pointer none,.iface 153 (.pointer (some ⟨r,0,none⟩))])∧w.heap.size≤r∧
    w'.heap[r]?=some (.cells #[.string p,.iface 338 (.pointer (some (f 5)))] 155 (0,0)))∨
     (∃ es n g,Calm B d d'∧Yf d.files key (.good es n)∧e=.returned (.tuple #[.pointer (some ⟨g,0,none⟩),.nilIface])∧Qg8 w gd key es g w'))
theorem Q65 (w:World) (gd:Nat) (key:ByteArray):Zn (w.alloc (.cells #[.iface 25 (.pointer (some ⟨gd,0,none⟩)),.string key,.slice none 0 0,.slice none 0 0,.slice none 0 0,.bool false] 138)) w.heap.size gd (.slice none 0 0) (.slice none 0 0) (.slice none 0 0) [] ⟨key,[],[],[],false⟩ where
 cells:=heap_alloc_new w _
 ents:=⟨[],World.ownsRow_nil _ _ _ _,fun j u l hu=>by simp at hu⟩
 rows:=World.ownsRow_nil _ _ _ _
 each:=fun j v r hv=>by simp at hv
 apart:=fun i j a b k ha=>by simp at ha
 puts:=World.ownsRow_nil _ _ _ _
variable {g:Nat}
theorem Qp4 {k:Nat} (h:LogS g (.slice none 0 0) (.slice none 0 0) (.slice none 0 0) [] k):k=g:=by
 rcases h with h|h|h|h|⟨v,h,_⟩
 ·exact h
 ·simp[Value.ownBlock] at h
 ·simp[Value.ownBlock] at h
 ·simp[Value.ownBlock] at h
 ·simp at h
theorem Q3q (w:World) (x:Value):(binOp .eql 134 (.iface 25 x) .nilIface).run prog w=.ok (.bool false) w:=by
 have h:∀ d:Nat,(Op.equalIn (d+1) 134 (.iface 25 x) .nilIface).run prog w=.ok false w:=fun d=>by simp[Op.equalIn,run_underlying underlying134]
 simp only[binOp];simp[Op.equal,Op.maxDepth,h 9999]
variable {w w1 w2:World} {gd:Nat} {v ve:Value} {L:Lg} {d1:Dk} {es1:List (List UInt8)}
theorem Lkd.trans {vl vp ve1 ve2:Value} {vs:List Value} {d2:Dk} {es2:List (List UInt8)} (h:Lkd w g gd v ve vl vp vs L ve1 d1 es1 w1) (k:Lkd w1 g gd v ve1 vl vp vs { L with entries:=es1 } ve2 d2 es2 w2):Lkd w g gd v ve vl vp vs L ve2 d2 es2 w2:=
 ⟨k.disk,k.log,Fr.sub h.fr k.fr (lks h.sub),h.sub.trans k.sub h.fr.size⟩
theorem Qta {B:Nat} {w':World} (h:Below B w w'):Below B w w'.drew:=h.drew
theorem Qdf (h:Lkd w1 g gd v (.slice none 0 0) (.slice none 0 0) (.slice none 0 0) [] L ve d1 es1 w2) (hg:g=w.heap.size) (hb:Below w.heap.size w w1) :
  Fr (·=gd) w w2∧Sub w (·=gd) (fun k=>k=gd∨LogS g ve (.slice none 0 0) (.slice none 0 0) [] k):=by
 refine⟨(Fr.ofBelow hb:Fr (·=gd) w w1).step h.fr fun i hi hk=>?_,fun k hk=>?_⟩
 ·rcases hk with hk|hk
  ·exact hk
  ·have:=Qp4 hk
   omega
 ·rcases hk with hk|hk
  ·exact .inl hk
  ·rcases h.sub k hk with h1|h1
   ·exact .inr (by have:=Qp4 h1;omega)
   ·exact .inr (Nat.le_trans hb.size h1)
theorem Qxv:levels [] = []:=by unfold levels;rw[show nLev ([]:List (List UInt8)).length=0 by rw[nLev];rfl];rfl
def Q8g (d:Dk) (w':World) (a:Option Addr) (n c:Nat):Prop:=(a=none∧getF d.files (sOf kCp)=none)∨∃ s b,a=some ⟨b,0,none⟩∧n=s.size∧getF d.files (sOf kCp)=some s∧Q6 w' (.slice (some ⟨b,0,none⟩) n c) s.data.toList
theorem Q7m {d:Dk} (h:Q3 w g v d) (hc:d.calls<1099511627776) (hk:Zr d=0) :
  Calls prog 249 #[.pointer (some ⟨g,0,none⟩),.string (sOf kCp)] w fun e w'=>∃ a n c,e=.returned (.tuple #[.slice a n c,.nilIface])∧Q8g d w' a n c∧Q3 w' g v (Zj d)∧Fr (·=g) w w':=by
 cases hg:getF d.files (sOf kCp) with
 | none=>
  refine (Qwj h hc hk hg).mono ?_;rintro e w' ⟨rfl,h1,h2⟩;exact⟨none,0,0,rfl,.inl ⟨rfl,hg⟩,h1,h2⟩
 | some s=>
  refine (Qu5 h hc hk hg).mono ?_;rintro e w' ⟨b,c,rfl,h0,h1,h2⟩;exact⟨some ⟨b,0,none⟩,s.size,c,rfl,.inr ⟨s,b,rfl,rfl,hg,h0.at⟩,h1,h2⟩
theorem Q71 (y:Hsh):Array.foldl (fun (cs:Array Value) (x:Value×Nat)=>cs.setIfInBounds (1+x.snd) x.fst) #[.int .i64 0,.int .u8 0,.int .u8 0,.int .u8 0,.int .u8 0,.int .u8 0,.int .u8 0,.int .u8 0,.int .u8 0] (h8 y).zipIdx 0 8=trC 0 y:=by rw[Qgb];simp
section
attribute [local go_sem] Q71 h8_0 h8_1 h8_2 h8_3 h8_4 h8_5 h8_6 h8_7 Qbg h8_size
theorem Q1a (f:Nat→Addr) (w:World) (gd:Nat) (v:Value) (d:Dk) (key:ByteArray) (hD:Q3 w gd v d) (N:Nat) (hE:EnvS f (·=gd) w) (hN:FewB d.files N) (hN2:N≤262144) (hc:d.calls<900000000000) (hsz:∀ b∈d.files,b.2.size≤1048576) (hkey:key.size≤9223372036854775807) :
  Calls prog 36 #[.iface 25 (.pointer (some ⟨gd,0,none⟩)),.string key] w (Qzx w gd v d key f (8*N+16)):=by
 have HE:=zh hE;have HN:=zh hN;have HZ:=zh hsz;have hgd:=hD.lt;have hne:=Q3q w (.pointer (some ⟨gd,0,none⟩));obtain⟨g,hgw⟩:∃ g,g=w.heap.size:=⟨_,rfl⟩
 obtain⟨w1,hw1⟩:∃ w1,w1=w.alloc (.cells #[.iface 25 (.pointer (some ⟨gd,0,none⟩)),.string key,.slice none 0 0,.slice none 0 0,.slice none 0 0,.bool false] 138):=⟨_,rfl⟩
 have hb1:Below w.heap.size w w1:=by rw[hw1];exact Qa _ _
 have hL0:Lkd w1 g gd v (.slice none 0 0) (.slice none 0 0) (.slice none 0 0) [] ⟨key,[],[],[],false⟩ (.slice none 0 0) d [] w1:=
  ⟨hD.below hb1,by rw[hw1,hgw];exact Q65 w gd key,Fr.refl _ _,Sub.refl _ _⟩
 have HL0:=zh hL0;have HW1:=zh hw1;have HB1:=zh hb1;have HGW:=zh hgw;have hcl:d.calls<1099511627776:=by omega
 clear hD hE hN hsz hL0;rcases Nat.eq_zero_or_pos (Zr d) with h0|h0
 ·go_enter func36,ntmps36
  go_upto_region 4 with fail
  rw[←hw1,←hgw];clear hw1 hgw hb1
  go_upto_region 8 with (first
   | (go_at_call 249;refine (Q7m HL0.o.disk hcl h0).mono ?_;rintro e w2 ⟨a,n,c,rfl,hgot,hd2,hf2⟩;have HL2:=zh (HL0.o.look hd2 hf2);have HGOT:=zh hgot;have hn2:=Y2 w2;clear hgot hd2 hf2)
   | (go_at_call 66;refine (Qjv _ [] _ ⟨[],rfl,⟨none,0,rfl,Nat.le_refl _,fun j x hx=>by simp at hx⟩,fun j u l hu _=>by simp at hu⟩ (by simp) (by simp)).mono ?_;rintro e w3 ⟨rfl,hb3⟩;have HL3:=zh (HL2.o.below hb3);have HB3:=zh hb3;clear hb3)
   | (refine Z7 rfl _ _ rfl w3.heap.size 0 (hash []) rfl rfl 0 zero8 (heap_alloc_new w3 _) ?_))
  obtain⟨w4,hw4⟩:∃ w4,w4=(w3.alloc (.cells #[.int .i64 0,.int .u8 0,.int .u8 0,.int .u8 0,.int .u8 0,.int .u8 0,.int .u8 0,.int .u8 0,.int .u8 0] 111)).setRow w3.heap.size (trC 0 (hash [])):=⟨_,rfl⟩
  obtain⟨g9,hg9⟩:∃ g9,g9=w3.heap.size:=⟨_,rfl⟩
  rw[←hw4,←hg9];have hb4:Below w3.heap.size w3 w4:=by rw[hw4];exact below_setRow (Qa _ _) (Nat.le_refl _) _
  have ht4:TrAt w4 g9 0 (hash []):=by rw[hw4,hg9];exact TrAt.set (show TrAt (w3.alloc (.cells (trC 0 zero8) 111)) w3.heap.size 0 zero8 from heap_alloc_new w3 _) 0 (hash [])
  have HL4:=zh (HL3.o.below hb4);have HT4:=zh ht4;have HB4:=zh hb4;have hq4:=Qif w4 a n c;have HC1:=zh (Qj2 h0);have HG9:=zh hg9;clear hw4 hg9 hb4 ht4;simp only[Act.put]
  go_upto_if 35 with fail
  go_cut [] from 36 to 45 (fun wx=>∃ (n:Nat) (root:Hsh),Aside (Yr d.files key=some (n,root))∧n<9223372036854775808∧Aside (TrAt wx g9 n root)∧Aside (Lkd w1 g gd v (.slice none 0 0) (.slice none 0 0) (.slice none 0 0) [] ⟨key,[],[],[],false⟩ (.slice none 0 0) (Zj d) [] wx))
  case first=>
   rcases HGOT.o with ⟨rfl,hget⟩|⟨s,b,rfl,rfl,hget,hby⟩
   ·have HG:=zh hget
    clear hget
    go_wp2_with fail
    go_meet;exact⟨0,hash [],by show Yr _ _=_;unfold Yr;rw[HG.o],by decide,HT4.o,HL4.o⟩
   ·have hs20:s.size≤1048576:=HZ.o _ (Qah hget)
    have h29:w2.heap.size≤w3.heap.size:=HB3.o.size;have B24:=HB3.o.trans (HB4.o.mono HB3.o.size);have hcv:Sem.run prog (convert 94 9 (.slice (some ⟨b,0,none⟩) s.size c)) w4=.ok (.string s) w4:=by have h1:=Qep (hby.below B24);rw[show (ByteArray.mk s.data.toList.toArray)=s from Qat s] at h1;exact h1
    have hlk:=Qdf (w:=w) HL4.o HGW.o HB1.o;have hcon:=Qo0 s key w4 hs20 hkey (HE.o.step hlk.1 hlk.2).num;obtain⟨q,hq⟩:∃ q,q=Yc s.data.toList key.data.toList:=⟨_,rfl⟩
    rw[←hq] at hcon;have hsnd:=Qb1 s.data.toList key.data.toList;rw[←hq] at hsnd;have hoh:Yr d.files key=if q.2.2=true then some (q.1.toNat,q.2.1) else none:=by unfold Yr;rw[hget,hq]
    obtain⟨qn,qh,qb⟩:=q;have HB24:=zh B24;have HSND:=zh hsnd;have HOH:=zh hoh;have hg99:w2.heap.size≤g9:=by have:=HG9.o;omega
    have HG99:=zh hg99;clear hget hby hlk hq hsnd hoh B24 hg99 h29;cases qb with
    | false=>
     go_wp2_with (first
      | (go_at_call 67;refine hcon.mono ?_;rintro e w5 ⟨rfl,hb5⟩;have HB5:=zh hb5;clear hb5)
      | (refine Z7 rfl _ _ rfl g9 qn qh rfl rfl 0 (hash []) (HT4.o.below HB5.o) ?_;have s2:=(HE.o.step (Qdf (w:=w) (HL2.o.below (below_setRow (HB24.o.trans (HB5.o.mono HB24.o.size)) HG99.o (trC qn qh))) HGW.o HB1.o).1 (Qdf (w:=w) (HL2.o.below (below_setRow (HB24.o.trans (HB5.o.mono HB24.o.size)) HG99.o (trC qn qh))) HGW.o HB1.o).2).sents.cells.2.2.1;have b2:=Qk s2))
     go_region
     all_goals (
      go_wp2
      go_ret2
      have hLf:=HL2.o.below (Qta (below_setRow (HB24.o.trans (HB5.o.mono HB24.o.size)) HG99.o (trC qn qh)))
      exact⟨Zj d,hLf.disk,(Qdf (w:=w) hLf HGW.o HB1.o).1,.inr (.inl ⟨HC1.o.more (by omega),.checkpoint HOH.o,rfl⟩)⟩)
    | true=>
     go_wp2_with (first
      | (go_at_call 67;refine hcon.mono ?_;rintro e w5 ⟨rfl,hb5⟩;have HB5:=zh hb5;clear hb5)
      | (refine Z7 rfl _ _ rfl g9 qn qh rfl rfl 0 (hash []) (HT4.o.below HB5.o) ?_))
     go_meet;obtain⟨p1,p2,_⟩:=HSND.o.1 rfl;have hqn:qn=(qn.toNat:Int):=by omega
     refine⟨qn.toNat,qh,?_,by omega,?_,?_⟩
     ·show Yr _ _=_
      rw[HOH.o];rfl
     ·rw[←hqn]
      exact TrAt.set (HT4.o.below HB5.o) qn qh
     ·exact HL2.o.below (below_setRow (HB24.o.trans (HB5.o.mono HB24.o.size)) HG99.o _)
  case rest=>
   obtain⟨n0,root,HOH,hn0,HT5,HL5⟩:=hcut;have ht9:=HT5.o.cells.1;have hlk:=Qdf (w:=w) HL5.o HGW.o HB1.o;have hld:=Q4t f wc g gd v (.slice none 0 0) (.slice none 0 0) (.slice none 0 0) [] (Zj d) ⟨key,[],[],[],false⟩ HL5.o.log HL5.o.disk n0 N (HE.o.step hlk.1 hlk.2) rfl hn0 (by rw[HC1.o.files];exact HN.o) (by omega) (by have:=HC1.o.calls;omega) (by rw[HC1.o.files];exact HZ.o);have HLD:=zh hld;clear hlk hld
   go_wp2_with fail
   refine HLD.o.mono ?_;rintro e w6 (⟨ve6,d6,es6,i6,q,m,r,hl6,hh6,rfl,hq,hr,hhq,hhr⟩|⟨ve6,d6,es6,i6,r,hl6,hc6,hp6,rfl,hr,hhr⟩|⟨ve6,d6,es6,hl6,hc6,hp6,rfl⟩)
   ·have HL6:=zh (HL5.o.trans hl6)
    have HH6:=zh (HC1.o.hurt hh6);have HQ:=zh hhq;have HR:=zh hhr;have hn6:=Qak w6 153 (.pointer (some ⟨r,0,none⟩));have hws:w.heap.size≤wc.heap.size:=(Qdf (w:=w) HL5.o HGW.o HB1.o).1.size;clear hl6 hh6 hhq hhr
    go_wp2_with fail
    go_ret2;exact⟨d6,HL6.o.disk,(Qdf (w:=w) HL6.o HGW.o HB1.o).1,.inl ⟨q,m,r,_,HH6.o.more (by omega),rfl,Nat.le_trans hws hq,Nat.le_trans hws hr,HQ.o,HR.o⟩⟩
   ·have HL6:=zh (HL5.o.trans hl6)
    have HC6:=zh (HC1.o.trans hc6);have HP6:=zh hp6;have HR:=zh hhr;have hn6:=Qak w6 153 (.pointer (some ⟨r,0,none⟩));have hws:w.heap.size≤wc.heap.size:=(Qdf (w:=w) HL5.o HGW.o HB1.o).1.size;clear hl6 hc6 hp6 hhr
    go_wp2_with fail
    go_ret2;refine⟨d6,HL6.o.disk,(Qdf (w:=w) HL6.o HGW.o HB1.o).1,.inr (.inr (.inr (.inl ⟨_,r,HC6.o.more (by omega),.tile (d:=es6) HOH.o ?_,rfl,Nat.le_trans hws hr,HR.o⟩)))⟩
    have:=HP6.o
    rw[HC1.o.files] at this;exact this
   ·have HL6:=zh (HL5.o.trans hl6)
    have HC6:=zh (HC1.o.trans hc6);have HP6:=zh (show Qb0 d.files n0 ((n0+3) / 4) 0 []=(es6,none) by rw[←HC1.o.files];exact hp6);have hn6:=Y2 w6;have HT6:=zh (show TrAt w6 g9 n0 root from hl6.fr.heap HT5.o fun hk=>by
     rcases hk with hk|hk
     ·have:=HL2.o.disk.lt;have:=HG9.o;have:=HB3.o.size;omega
     ·have:=Qp4 hk;have h2:=Qc HL2.o.log.cells;have:=HG9.o;have:=HB3.o.size;omega)
    clear hl6 hc6 hp6;have hd6:=HL6.o.log.heads;have c62:=hd6.1.2.2.1;obtain⟨vs6,hrow6,_⟩:=HL6.o.log.ents;obtain⟨a6,cp6,rfl⟩:=Zs hrow6;clear hrow6 hd6;obtain⟨_,k1,k2,k3,k4,k5,k6,k7,k8⟩:=HT6.o.cells;have htk:Qa1 d.files es6:=by have h1:=Qa1.load (l:=d.files) (n:=n0) ((n0+3) / 4) 0 [] (Qa1.nil _) (by simp) (by omega);rw[HP6.o] at h1;exact h1
    have hfew:=htk.few HN.o;have hes:es6.length≤1048576:=by omega
    have hes2:∀ e∈es6,e.length≤9223372036854775807:=fun e he=>by have:=htk.short e he;omega
    have HTK:=zh htk;have HES:=zh hes;have HES2:=zh hes2;have HB6:=zh (HL6.o.log.ents.at);have hg6:=Qc HL6.o.log.cells;have hg96:=Qc HT6.o;clear htk hfew hes hes2;obtain⟨cr,hcr⟩:∃ cr,cr=(some (rootOf es6) == some root):=⟨_,rfl⟩
    have HCR:=zh hcr;clear hcr
    go_upto_region 16 with fail
    go_cut [60] from 53 to 60 (fun s60 wx=>s60=.bool (!cr)∧Aside (Lkd w1 g gd v (.slice none 0 0) (.slice none 0 0) (.slice none 0 0) [] ⟨key,[],[],[],false⟩ (.slice a6 es6.length cp6) d6 es6 wx))
    case first=>
     go_region_law (go_simp;go_at_call 69;refine (Qm5 _ es6 _ (HB6.o.below (Ql w6)) HES.o HES2.o).mono ?_;rintro e w7 ⟨rfl,hb7⟩;have hnq:=eqn w7 (rootOf es6) root;rw[←HCR.o] at hnq;have HL7:=zh ((HL6.o.below (Ql w6)).below hb7);have ⟨_,j1,j2,j3,j4,j5,j6,j7,j8⟩:=((HT6.o.below (Ql w6)).below hb7).cells;clear hb7)
     all_goals (
      go_wp2_with fail
      go_meet
      exact⟨rfl,HL7.o⟩)
    case rest=>
     obtain⟨rfl,HL7⟩:=hcut;clear k1 k2 k3 k4 k5 k6 k7 k8 c62;cases cr with
     | false=>
      have hner:rootOf es6≠root:=fun e=>by have:=HCR.o;rw[e] at this;simp at this
      have hlk:=Qdf (w:=w) HL7.o HGW.o HB1.o;have s4:=(HE.o.step hlk.1 hlk.2).sents.cells.2.2.2.2.1;have b4:=Qk s4;have HNER:=zh hner;clear hner hlk
      go_wp2_with fail
      go_region
      all_goals (
       go_wp2
       go_ret2
       have hLf:=HL7.o.below (Ql wc)
       exact⟨d6,hLf.disk,(Qdf (w:=w) hLf HGW.o HB1.o).1,.inr (.inr (.inl ⟨HC6.o.more (by omega),.proof HOH.o HP6.o HNER.o,rfl⟩))⟩)
     | true=>
      have heqr:rootOf es6=root:=by have:=HCR.o;simpa using this.symm
      have HEQR:=zh heqr;clear heqr
      go_wp2_with fail
      go_loopg [] (N+2) (fun gg wr=>∃ ve1 d1 es1,Aside (Lkd w1 g gd v (.slice none 0 0) (.slice none 0 0) (.slice none 0 0) [] ⟨key,[],[],[],false⟩ ve1 d1 es1 wr)∧Aside (Calm (N+2+4*(es1.length / 4)) d d1)∧Aside (∀ r,Goes d.files es1 r→Goes d.files es6 r)∧Aside (Qa1 d.files es1)∧N+1-es1.length / 4≤gg)
      case atStart=>exact⟨_,d6,es6,HL7.o,HC6.o.more (by omega),fun r h=>h,HTK.o,by omega⟩
      case round=>
       obtain⟨ve1,d1,es1,HL8,HC8,HG8,HT8,hgg⟩:=hrel;have hfew1:=HT8.o.few HN.o;have hlk:=Qdf (w:=w) HL8.o HGW.o HB1.o;obtain⟨bw,hbw⟩:∃ bw,bw=(Zk d.files es1).2:=⟨_,rfl⟩
       have hfr:=Qtf f wr g gd v ve1 (.slice none 0 0) (.slice none 0 0) [] d1 ⟨key,es1,[],[],false⟩ HL8.o.log HL8.o.disk (HE.o.step hlk.1 hlk.2) (by rw[HC8.o.files];exact HT8.o) (by show es1.length<_;omega) (by have:=HC8.o.calls;omega) (by rw[HC8.o.files];exact HZ.o);unfold Qzp at hfr;rw[HC8.o.files] at hfr;simp only[←hbw] at hfr;have HFR:=zh hfr;have HBW:=zh hbw;have HFEW:=zh hfew1;have hws:w.heap.size≤wr.heap.size:=hlk.1.size;clear hfr hbw hfew1 hlk
       go_wp2_with fail
       refine HFR.o.mono ?_;rintro e w8 (⟨d8,q,m,r,p,hl8,hh8,rfl,hq,hr,hhq,hhr⟩|⟨ve8,d8,hl8,hc8,rfl⟩)
       ·have HL9:=zh (HL8.o.trans hl8)
        have HH9:=zh (HC8.o.hurt hh8);have HQ:=zh hhq;have HR:=zh hhr;have hn8:=Qak w8 153 (.pointer (some ⟨r,0,none⟩));clear hl8 hh8 hhq hhr
        go_wp2_with fail
        go_ret2;exact⟨d8,HL9.o.disk,(Qdf (w:=w) HL9.o HGW.o HB1.o).1,.inl ⟨q,m,r,p,HH9.o.more (by have:=HFEW.o;omega),rfl,Nat.le_trans hws hq,Nat.le_trans hws hr,HQ.o,HR.o⟩⟩
       ·have HL9:=zh (HL8.o.trans hl8)
        have HC9:=zh (HC8.o.trans hc8);have hn8:=Y2 w8;clear hl8 hc8;cases bw with
        | true=>
         go_wp2_with fail
         go_roundg (N+1-(es1.length / 4+1))
         case measure=>have:=HFEW.o;omega
         case rel=>
          have hlen8:(es1++(Zk d.files es1).1).length=4*(es1.length / 4+1):=(HT8.o.further 4 (by omega)).2 HBW.o.symm;refine⟨ve8,d8,es1++(Zk d.files es1).1,HL9.o,HC9.o.more (by omega),fun r h=>HG8.o r (.more HBW.o.symm h),(HT8.o.further 4 (by omega)).1,by omega⟩
        | false=>
         obtain⟨es8,hes8⟩:∃ es8,es8=es1++(Zk d.files es1).1:=⟨_,rfl⟩
         have hl9:Lkd w1 g gd v (.slice none 0 0) (.slice none 0 0) (.slice none 0 0) [] ⟨key,[],[],[],false⟩ ve8 d8 es8 w8:=by rw[hes8];exact HL9.o
         have hgo:Goes d.files es6 es8:=by rw[hes8];exact HG8.o _ (.stop HBW.o.symm)
         have htk8:Qa1 d.files es8:=HTK.o.goes hgo;have hfew8:=htk8.few HN.o;have hlen8:es8.length≤1048576:=by omega
         have HLA:=zh hl9;have HGO:=zh hgo;have HTK8:=zh htk8;have hd8:=hl9.log.heads;have c82:=hd8.1.2.2.1;obtain⟨vs8,hrow8,_⟩:=hl9.log.ents;obtain⟨a8,cp8,rfl⟩:=Zs hrow8;obtain⟨ln8,hln8⟩:∃ ln8,ln8=es8.length:=⟨_,rfl⟩
         have c82':w8.cell? ⟨g,2,none⟩=some (.slice a8 ln8 cp8):=by rw[hln8];exact c82
         have hadr:0<ln8→∃ b8,a8=some ⟨b8,0,none⟩:=by
          rcases hrow8.2 with ⟨e,h0⟩|⟨b,cap,cur,e,_⟩
          ·intro h
           have h0':es8.length=0:=h0;omega
          ·simp at e;exact fun _=>⟨b,e.1⟩
         have HADR:=zh hadr;have HLN8:=zh hln8;have hln8':ln8≤1048576:=by omega
         have HCA:=zh (HC9.o.more (show N+2+4*(es1.length / 4)+4≤8*N+16 by have:=HFEW.o;omega));clear hes8 hl9 hgo htk8 hfew8 hlen8 hd8 hrow8 hln8 hadr c82
         go_wp2_with fail
         go_loopg [77,15] ln8 (fun gg s77 _ wr=>∃ i:Nat,i≤ln8∧ln8-i≤gg∧s77=.int .i64 i∧∃ vl1 vs1,Aside (Zn wr g gd (.slice a8 es8.length cp8) vl1 (.slice none 0 0) vs1 ⟨key,es8,levels (es8.take i),[],false⟩)∧Aside (Fr (LogS g (.slice a8 es8.length cp8) (.slice none 0 0) (.slice none 0 0) []) w8 wr)∧
          Aside (Sub w8 (LogS g (.slice a8 es8.length cp8) (.slice none 0 0) (.slice none 0 0) []) (LogS g (.slice a8 es8.length cp8) vl1 (.slice none 0 0) vs1))∧w8.heap.size≤wr.heap.size)
         case atStart=>
          refine⟨0,by omega,by omega,rfl,.slice none 0 0,[],?_,Fr.refl _ _,Sub.refl _ _,Nat.le_refl _⟩;show Zn _ _ _ _ _ _ _ _;rw[List.take_zero,Qxv];exact HLA.o.log
         case round=>
          obtain⟨i,hi,hgi,rfl,vl1,vs1,HLB,HFB,HSB,hsz8⟩:=hrel;by_cases hlt:i<ln8
          ·have hltz:(i:Int)<(ln8:Int):=by omega
           obtain⟨b8,rfl⟩:=HADR.o (by omega);obtain⟨vsB,hrowB,hbB⟩:=HLB.o.ents;have hie:i<es8.length:=by have:=HLN8.o;omega
           have hvl:vsB.length=es8.length:=by simpa using hrowB.1
           obtain⟨u,hu⟩:∃ u,vsB[i]?=some u:=⟨_,List.getElem?_eq_getElem (by omega)⟩
           obtain⟨x,hx⟩:∃ x,es8[i]?=some x:=⟨_,List.getElem?_eq_getElem hie⟩
           have k1:wr.cell? ⟨b8,i,none⟩=some u:=by have h1:=hrowB.cells (g:=b8) rfl i u hu;rw[Addr.add_lit] at h1;simpa using h1
           have hbx:=(hbB i u x hu hx).at;have hxs:x.length≤9223372036854775807:=by have:=HTK8.o.short x (List.mem_of_getElem? hx);omega
           have htake:es8.take (i+1)=es8.take i ++ [x]:=by rw[List.take_add_one,hx];rfl
           have hbd:=Qsr (es:=es8.take i) (by rw[List.length_take];have:=HLN8.o;omega);have HBX:=zh hbx;have HTA:=zh htake;have HBD:=zh hbd;clear hrowB hbB hie hvl hu hx hbx htake hbd
           go_wp2_with (first
            | (go_at_call 72;refine (Qlh u x _ HBX.o hxs).mono ?_;rintro e w9 ⟨rfl,hb9⟩;have HLC:=zh (HLB.o.below hb9);have HB9:=zh hb9;clear hb9)
            | (go_at_call 71;refine (Qvw w9 g gd _ _ _ _ _ HLC.o (Qaf x) HBD.o.1 HBD.o.2).mono ?_;rintro e w10 ⟨rfl,vlC,vsC,hlC,hfC,hsC⟩;have HLD:=zh hlC;have HFD:=zh hfC;have HSD:=zh hsC;clear hlC hfC hsC))
           go_roundg (ln8-(i+1))
           case measure=>omega
           case rel=>
            refine⟨i+1,by omega,by omega,by go_num,vlC,vsC,?_,Fr.sub (HFB.o.trans (Fr.ofBelow HB9.o)) (HFD.o.weak fun _ _ h=>h.log) HSB.o,HSB.o.trans (Q48 HSD.o) (by have:=HB9.o.size;omega),by have:=HB9.o.size;have:=HFD.o.size;omega⟩;have h1:=HLD.o;rw[Qr2,←HTA.o] at h1;exact h1
          ·have hltz:¬ (i:Int)<(ln8:Int):=by omega
           have hii:i=ln8:=by omega
           have HII:=zh hii;clear hii
           go_wp2_with fail
           go_ret2;have hlk:=Qdf (w:=w) HLA.o HGW.o HB1.o;have hapart:=HLA.o.log.apartDisk HLA.o.disk;have hge:∀ k,LogS g (.slice a8 es8.length cp8) (.slice none 0 0) (.slice none 0 0) [] k→w.heap.size≤k:=fun k hk=>by
            rcases hlk.2 k (.inr hk) with h1|h1
            ·exact absurd (.inl h1) (hapart k hk)
            ·exact h1
           refine⟨d8,HLA.o.disk.fr HFB.o fun k hk hS=>hapart k hS hk,hlk.1.step HFB.o fun k hk hS=>absurd (hge k hS) (by omega),.inr (.inr (.inr (.inr ⟨es8,n0,g,HCA.o,.fine HOH.o HP6.o HEQR.o HGO.o,rfl,.slice a8 es8.length cp8,vl1,vs1,?_,by have:=HGW.o;omega,fun k hk=>?_⟩)))⟩
           ·have h1:=HLB.o
            rw[List.take_of_length_le (by have:=HLN8.o;have:=HII.o;omega)] at h1;exact h1
           ·rcases HSB.o k hk with h1|h1
            ·exact hge k h1
            ·exact Nat.le_trans hlk.1.size h1
 ·have HH1:=zh (Qjk h0)
  go_enter func36,ntmps36
  go_upto_region 4 with fail
  rw[←hw1,←hgw];clear hw1 hgw hb1
  go_wp2_with (first
   | (go_at_call 249;refine (Q13 (p:=sOf kCp) HL0.o.disk hcl h0).mono ?_;rintro e w2 ⟨q,m,rfl,hq,hh,hd2,hf2⟩;have HL2:=zh (HL0.o.look hd2 hf2);have HQ:=zh hh;have HF2:=zh hf2;have hn2:=Qak w2 152 (.pointer (some ⟨q,0,none⟩));clear hh hd2 hf2)
   | (go_at_call 65;refine (Qoh _ _ _ _).mono ?_;rintro e w3 ⟨u,rfl,⟨r,rfl,hr,hhr⟩,hb3⟩;have HR:=zh hhr;have HL3:=zh (HL2.o.below hb3);have HB3:=zh hb3;clear hhr hb3))
  go_ret2;have h1w:=HB1.o.size;exact⟨Zj d,HL3.o.disk,(Qdf (w:=w) HL3.o HGW.o HB1.o).1,.inl ⟨q,m,r,sOf kCp,HH1.o.more (by omega),rfl,Nat.le_trans h1w hq,Nat.le_trans h1w (Nat.le_trans HF2.o.size hr),(HB3.o.block _ (Qc HQ.o)).trans HQ.o,HR.o⟩⟩
end
end
end Go.Proofs.YtefccfakhgdfbabGreatDoor
