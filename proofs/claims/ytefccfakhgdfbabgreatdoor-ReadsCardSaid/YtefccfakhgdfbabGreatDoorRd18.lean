/- plain's publisher: a Log's Append. Conditions: those of the publisher's own function. -/
import Derived.Test.YtefccfakhgdfbabGreatDoorRd17
set_option linter.unusedVariables false
set_option linter.unusedSimpArgs false
open Go.RowKit Go.Proofs.Tryz
set_option maxRecDepth 100000
set_option maxHeartbeats 4000000
namespace Go.Proofs.YtefccfakhgdfbabGreatDoor
section
variable {l:List Fil} {p:ByteArray}
theorem Qju (h:getF l p=none):Jk l p = -1:=by unfold Jk;rw[if_neg];intro hl;rw[Qi3 hl] at h;cases h
theorem Qjc {b:ByteArray} (h:getF l p=some b):∃ k x,Jk l p=((k:Nat):Int)∧k<l.length∧l[k]?=some x∧x.2=b:=by
 by_cases hl:Z9 l p<l.length
 ·rw[Qi3 hl] at h
  exact⟨Z9 l p,_,by unfold Jk;rw[if_pos hl],hl,List.getElem?_eq_getElem hl,Option.some.inj h⟩
 ·rw[Qdl hl] at h;cases h
variable {s:ByteArray} {w:World}
theorem Q2g (hn:s.size≤1099511627776) (hu:Qx s.data.toList=none) :
  Calls prog 166 #[.string s] w fun e w'=>e=.returned (.tuple #[.slice none 0 0,.bool false])∧Below w.heap.size w w':=
 (Qij s w hn).mono fun e w' hp=>by
  obtain⟨v',h1,h2,⟨_,h4⟩|⟨ls,h3,_⟩⟩:=hp
  ·rw[hu] at h1
   subst h4
   exact⟨h1,h2⟩
  ·rw[hu] at h3;cases h3
theorem Qrl {ls:List (List UInt8)} (hn:s.size≤1099511627776) (hu:Qx s.data.toList=some ls) :
  Calls prog 166 #[.string s] w fun e w'=>∃ b c ss,e=.returned (.tuple #[.slice (some ⟨b,0,none⟩) ss.length c,.bool true])∧Q5 w' w.heap.size (.slice (some ⟨b,0,none⟩) ss.length c) ss∧bss ss=ls∧Below w.heap.size w w':=
 (Qij s w hn).mono fun e w' hp=>by
  obtain⟨v',h1,h2,⟨h3,_⟩|⟨ss,h3,h4⟩⟩:=hp
  ·rw[hu] at h3;cases h3
  ·rw[hu] at h1 h3
   have h3:=Option.some.inj h3
   have hl:=(Qag hu).1
   have hl2:ls.length=ss.length:=by rw[h3];simp[bss]
   have h5:=h4
   rcases h4.2 with ⟨_,h0⟩|⟨b,cap,cur,rfl,_⟩
   ·omega
   ·exact⟨b,cap,ss,h1,h5,h3.symm,h2⟩
def Q3d (l:List Fil) (i k:Nat) (w:World) (e:Ending) (w':World):Prop:=
 Below w.heap.size w w'∧((Z8 l i k=none∧∃ u,e=.returned (.tuple #[u,.bool false]))∨∃ ls b c ss,Z8 l i k=some ls∧e=.returned (.tuple #[.slice (some ⟨b,0,none⟩) ss.length c,.bool true])∧Q5 w' w.heap.size (.slice (some ⟨b,0,none⟩) ss.length c) ss∧bss ss=ls)
theorem Qkr (w:World) (va:Value) (l:List Fil) (h:Jf w va l) (hn:l.length≤1099511627776) (hsz:∀ f∈l,f.2.size≤1048576) (i k:Nat) (hi:i<9223372036854775808) (hk:k<9223372036854775808) :
  Calls prog 112 #[va,.int .i64 i,.int .i64 k] w (Q3d l i k w):=by
 have HH:=zh h;obtain⟨a,c,rfl,hc,hx⟩:=h;have HX:=zh hx;clear hx;obtain⟨p,hp⟩:∃ p,p=Ym i k:=⟨_,rfl⟩
 have hcon:=Qi6 (-1) (i:Int) (k:Int) w (by omega);rw[show sOf (Y6 (-1) (i:Int) (k:Int))=p from hp.symm] at hcon;have HP:=zh hp;cases hg:getF l p with
 | none=>
  have hf:=Qju hg;have HF:=zh hf;have hbn:Z8 l i k=none:=Qf2 (by rw[←hp];exact hg);have HBN:=zh hbn;clear hf hg hp hbn
  go_enter func112,ntmps112
  go_wp2_with (first
   | (go_at_call 113;refine hcon.mono ?_;rintro e w2 ⟨rfl,hb2⟩;have HH2:=zh (HH.o.below hb2);have HB2:=zh hb2;clear hb2)
   | (go_at_call 59;refine (Yx w2 _ l p HH2.o hn).mono ?_;rintro e w3 ⟨rfl,rfl⟩;rw[HF.o]))
  go_ret2;exact⟨HB2.o,.inl ⟨HBN.o,_,rfl⟩⟩
 | some b=>
  obtain⟨j,x,hf,hjl,hlx,hxb⟩:=Qjc hg;obtain⟨bb,off,rfl,_,d2⟩:=HX.o j x hlx;have hbs:b.size≤1099511627776:=by have:=hsz x (List.mem_of_getElem? hlx);rw[hxb] at this;omega
  have hbw:bb<w.heap.size:=Qk d2;rw[hxb] at d2;have hg':getF l (Ym i k)=some b:=by rw[←hp];exact hg
  have hj0:(0:Int)≤(j:Int):=by omega
  have hj1:(j:Int)<(l.length:Int):=by omega
  have hj2:¬ (j:Int)<0:=by omega
  have HF:=zh hf;clear hf hg hp hlx hxb hjl hsz;cases hu:Qx b.data.toList with
  | none=>
   have hbn:Z8 l i k=none:=Qml hg' hu;have HBN:=zh hbn;have HU:=zh hu;clear hbn hu hg'
   go_enter func112,ntmps112
   go_wp2_with (first
    | (go_at_call 113;refine hcon.mono ?_;rintro e w2 ⟨rfl,hb2⟩;have HH2:=zh (HH.o.below hb2);have HB2:=zh hb2;have d3:=(hb2.cell (p:=⟨bb,off+j*2+1,none⟩) hbw).trans d2;clear hb2)
    | (go_at_call 59;refine (Yx w2 _ l p HH2.o hn).mono ?_;rintro e w3 ⟨rfl,rfl⟩;rw[HF.o])
    | (go_at_call 166;refine (Q2g hbs HU.o).mono ?_;rintro e w4 ⟨rfl,hb4⟩;have HB4:=zh hb4;clear hb4))
   go_ret2;exact⟨HB2.o.trans (HB4.o.mono HB2.o.size),.inl ⟨HBN.o,_,rfl⟩⟩
  | some ls=>
   have hbo:=Qjg hg' hu;have HBO:=zh hbo;have HU:=zh hu;have hdl:((ls.length:Int) == (k:Int))=decide (ls.length=k):=by rw[Bool.eq_iff_iff];simp;omega
   have HDL:=zh hdl;clear hbo hu hg' hdl;by_cases hlk:ls.length=k
   ·have HLK:=zh hlk
    clear hlk
    go_enter func112,ntmps112
    go_wp2_with (first
     | (go_at_call 113;refine hcon.mono ?_;rintro e w2 ⟨rfl,hb2⟩;have HH2:=zh (HH.o.below hb2);have HB2:=zh hb2;have d3:=(hb2.cell (p:=⟨bb,off+j*2+1,none⟩) hbw).trans d2;clear hb2)
     | (go_at_call 59;refine (Yx w2 _ l p HH2.o hn).mono ?_;rintro e w3 ⟨rfl,rfl⟩;rw[HF.o])
     | (go_at_call 166;refine (Qrl hbs HU.o).mono ?_;rintro e w4 ⟨b5,c5,ss,rfl,ho4,hss,hb4⟩;have hsl:=(show ((ss.length:Int) == (k:Int))=true by rw[←HLK.o,←hss];simp[bss]);have HO4:=zh ho4;have HSS:=zh hss;have HB4:=zh hb4;clear hb4 ho4 hss))
    go_ret2;refine⟨HB2.o.trans (HB4.o.mono HB2.o.size),.inr ⟨ls,b5,c5,ss,?_,rfl,?_,HSS.o⟩⟩
    ·rw[HBO.o,if_pos HLK.o]
    ·exact Z2 HO4.o HB2.o.size
   ·have HLK:=zh hlk
    clear hlk
    go_enter func112,ntmps112
    go_wp2_with (first
     | (go_at_call 113;refine hcon.mono ?_;rintro e w2 ⟨rfl,hb2⟩;have HH2:=zh (HH.o.below hb2);have HB2:=zh hb2;have d3:=(hb2.cell (p:=⟨bb,off+j*2+1,none⟩) hbw).trans d2;clear hb2)
     | (go_at_call 59;refine (Yx w2 _ l p HH2.o hn).mono ?_;rintro e w3 ⟨rfl,rfl⟩;rw[HF.o])
     | (go_at_call 166;refine (Qrl hbs HU.o).mono ?_;rintro e w4 ⟨b5,c5,ss,rfl,ho4,hss,hb4⟩;have hsl:=(show ((ss.length:Int) == (k:Int))=false by rw[beq_eq_false_iff_ne];intro e;apply HLK.o;rw[←hss];simp[bss];omega);have HB4:=zh hb4;clear hb4 ho4 hss))
    go_ret2;exact⟨HB2.o.trans (HB4.o.mono HB2.o.size),.inl ⟨by rw[HBO.o,if_neg HLK.o],_,rfl⟩⟩
end
section
variable {w:World} {va:Value} {l:List Fil} {i k:Nat}
theorem Qsx (h:Jf w va l) (hn:l.length≤1099511627776) (hsz:∀ f∈l,f.2.size≤1048576) (hi:i<9223372036854775808) (hk:k<9223372036854775808) (hb:Z8 l i k=none) :
  Calls prog 112 #[va,.int .i64 i,.int .i64 k] w fun e w'=>(∃ u,e=.returned (.tuple #[u,.bool false]))∧Below w.heap.size w w':=
 (Qkr w va l h hn hsz i k hi hk).mono fun e w' hp=>by
  obtain⟨h1,⟨_,h2⟩|⟨ls,_,_,_,h2,_⟩⟩:=hp
  ·exact⟨h2,h1⟩
  ·rw[hb] at h2;cases h2
theorem Qqw (h:Jf w va l) (hn:l.length≤1099511627776) (hsz:∀ f∈l,f.2.size≤1048576) {ls:List (List UInt8)} (hi:i<9223372036854775808) (hk:k<9223372036854775808) (hb:Z8 l i k=some ls) :
  Calls prog 112 #[va,.int .i64 i,.int .i64 k] w fun e w'=>∃ b c ss,e=.returned (.tuple #[.slice (some ⟨b,0,none⟩) ss.length c,.bool true])∧Q5 w' w.heap.size (.slice (some ⟨b,0,none⟩) ss.length c) ss∧lists ss=ls∧Below w.heap.size w w':=
 (Qkr w va l h hn hsz i k hi hk).mono fun e w' hp=>by
  obtain⟨h1,⟨h2,_⟩|⟨ls',b,c,ss,h2,h3,h4,h5⟩⟩:=hp
  ·rw[hb] at h2;cases h2
  ·rw[hb] at h2
   cases h2
   exact⟨b,c,ss,h3,h4,h5,h1⟩
def Qqd (l:List Fil) (d:List (List UInt8)) (w:World) (e:Ending) (w':World):Prop:=
 Below w.heap.size w w'∧∃ v' ss,e=.returned (.tuple #[v',.bool (Zk l d).2])∧lists ss=(Zk l d).1∧Jd w' v' ss
theorem Qmc {d:List (List UInt8)} {w':World} (hb:Below w.heap.size w w') (hf:Zk l d=([],false)):Qqd l d w (.returned (.tuple #[.slice none 0 0,.bool false])) w':=
 ⟨hb,_,[],by rw[hf];rfl,by rw[hf];rfl,none,0,rfl,Nat.le_refl _,fun j x hx=>by simp at hx⟩
theorem Qra (w:World) (va:Value) (l:List Fil) (h:Jf w va l) (hn:l.length≤1099511627776) (hsz:∀ f∈l,f.2.size≤1048576) (vd:Value) (ds:List ByteArray) (hd:Jd w vd ds) (hdl:ds.length≤1073741824) :
  Calls prog 114 #[va,vd] w (Qqd l (lists ds) w):=by
 have HH:=zh h;have HZ:=zh hsz;have HN:=zh hn;obtain⟨av,cv,rfl⟩:∃ a c,va=.slice a l.length c:=by obtain⟨a,c,h1,_⟩:=h;exact⟨a,c,h1⟩
 obtain⟨ad,cd,rfl,hcap,hx⟩:=hd;have HX:=zh hx;obtain⟨ln,hln⟩:∃ ln,ln=ds.length:=⟨_,rfl⟩
 rw[←hln] at hdl hcap;obtain⟨q,hq⟩:∃ q,q=ln / 4:=⟨_,rfl⟩
 obtain⟨m,hm⟩:∃ m,m=ln%4:=⟨_,rfl⟩
 have hq1:(ln:Int) / 4=(q:Int):=by omega
 have hq5:(ln:Int)-(q:Int)*4=(m:Int):=by omega
 have hqb:q<9223372036854775808:=by omega
 have hm3:m<4:=by omega
 have hmod:(lists ds).length%4=m:=by rw[Q0,←hln];exact hm.symm
 have hdiv:(lists ds).length / 4=q:=by rw[Q0,←hln];exact hq.symm
 have HLN:=zh hln;have HMOD:=zh hmod;have HDIV:=zh hdiv;have HQ:=zh hq;have HM:=zh hm;rw[←hln];clear h hsz hn hx hq hm hmod hdiv hln
 go_enter func114,ntmps114
 go_wp2_with fail
 clear hq1 hq5
 go_loopg [8] 4 (fun gg s8 wr=>∃ k:Nat,k≤4∧k≤gg∧s8=.int .i64 k∧m≤k∧Aside (Below w.heap.size w wr)∧Aside (Zk l (lists ds)=Zw l (lists ds) k))
 case atStart=>exact⟨4,by omega,by omega,rfl,by omega,Below.refl _ _,rfl⟩
 case round=>
  obtain⟨k,hk4,hgg,rfl,hmk,HB,HP⟩:=hrel;by_cases hlt:m<k
  ·have hltz:(m:Int)<(k:Int):=by omega
   have hcon:=Qi6 (-1) (q:Int) (k:Int) wr (by omega);obtain⟨p,hp⟩:∃ p,p=Ym q k:=⟨_,rfl⟩
   rw[show sOf (Y6 (-1) (q:Int) (k:Int))=p from hp.symm] at hcon;have hpq:p=Ym ((lists ds).length / 4) k:=by rw[hp,HDIV.o]
   have hmk2:(lists ds).length%4<k:=by rw[HMOD.o];exact hlt
   have hkb:k<9223372036854775808:=by omega
   have HPQ:=zh hpq;have HMK:=zh hmk2;have HCON:=zh hcon;clear hp hpq hmk2 hcon;cases hg:getF l p with
   | none=>
    have HF:=zh (Qju hg);have HG:=zh hg;clear hg
    go_wp2_with (first
     | (go_at_call 113;refine HCON.o.mono ?_;rintro e w2 ⟨rfl,hb2⟩;have HB2:=zh (HB.o.trans (hb2.mono HB.o.size));have HH2:=zh (HH.o.below HB2.o);clear hb2)
     | (go_at_call 59;refine (Yx w2 _ l p HH2.o HN.o).mono ?_;rintro e w3 ⟨rfl,rfl⟩;rw[HF.o]))
    go_roundg (k-1)
    case measure=>omega
    case rel=>
     refine⟨k-1,by omega,by omega,by go_num,by omega,HB2.o,?_⟩;show Zk _ _=_;rw[HP.o,Qh8 HMK.o (by rw[←HPQ.o];exact HG.o)]
   | some b=>
    obtain⟨j,x,hf,hjl,_,_⟩:=Qjc hg;have hj2:¬ (j:Int)<0:=by omega
    have HF:=zh hf;have HG:=zh (show getF l (Ym ((lists ds).length / 4) k)=some b by rw[←HPQ.o];exact hg);clear hf hg hjl;cases hbn:Z8 l q k with
    | none=>
     have hfp:Zk l (lists ds)=([],false):=by rw[HP.o,Qkf HMK.o HG.o (by rw[HDIV.o];exact hbn)]
     have HFP:=zh hfp;have HBN:=zh hbn;clear hfp hbn
     go_wp2_with (first
      | (go_at_call 113;refine HCON.o.mono ?_;rintro e w2 ⟨rfl,hb2⟩;have HB2:=zh (HB.o.trans (hb2.mono HB.o.size));have HH2:=zh (HH.o.below HB2.o);clear hb2)
      | (go_at_call 59;refine (Yx w2 _ l p HH2.o HN.o).mono ?_;rintro e w3 ⟨rfl,rfl⟩;rw[HF.o])
      | (go_at_call 112;refine (Qsx HH2.o HN.o HZ.o hqb hkb HBN.o).mono ?_;rintro e w4 ⟨⟨u,rfl⟩,hb4⟩;have HB4:=zh (HB2.o.trans (hb4.mono HB2.o.size));clear hb4))
     go_ret2;exact Qmc HB4.o HFP.o
    | some ls=>
     have hlk:=(Qaj hbn).1;have hfp:Zk l (lists ds)=if ls.take ((lists ds).length%4)=(lists ds).drop (4*((lists ds).length / 4)) then (ls.drop ((lists ds).length%4),decide (k=4)) else ([],false):=by rw[HP.o,Qiv HMK.o HG.o (by rw[HDIV.o];exact hbn)]
     rw[HMOD.o,HDIV.o] at hfp;have HFP:=zh hfp;have HBN:=zh hbn;have HLK:=zh hlk;clear hfp hbn hlk
     go_wp2_with (first
      | (go_at_call 113;refine HCON.o.mono ?_;rintro e w2 ⟨rfl,hb2⟩;have HB2:=zh (HB.o.trans (hb2.mono HB.o.size));have HH2:=zh (HH.o.below HB2.o);clear hb2)
      | (go_at_call 59;refine (Yx w2 _ l p HH2.o HN.o).mono ?_;rintro e w3 ⟨rfl,rfl⟩;rw[HF.o])
      | (go_at_call 112;refine (Qqw HH2.o HN.o HZ.o hqb hkb HBN.o).mono ?_;rintro e w4 ⟨b5,c5,ss,rfl,ho4,hss,hb4⟩;have HB4:=zh (HB2.o.trans (hb4.mono HB2.o.size));have HO4:=zh ho4;have HSS:=zh hss;clear hb4 ho4 hss))
     have hsl:ss.length=k:=by have:=HSS.o;have h2:=HLK.o;rw[←this,Q0] at h2;exact h2
     have HSL:=zh hsl;clear hsl
     go_loopg [13] m (fun gg s13 wx=>∃ jj:Nat,jj≤m∧m-jj≤gg∧s13=.int .i64 jj∧Aside (Below w4.heap.size w4 wx)∧Aside (∀ j,j<jj→ss[j]?=ds[4*q+j]?))
     case atStart=>
      refine⟨0,by omega,by omega,rfl,Below.refl _ _,?_⟩;show ∀ j,j<0→_;intro j hj;omega
     case round=>
      obtain⟨jj,hjj,hg2,rfl,HB5,HJ⟩:=hrel;have HB6:=zh (HB4.o.trans (HB5.o.mono HB4.o.size));by_cases hlt2:jj<m
      ·have hltz2:(jj:Int)<(m:Int):=by omega
       have hle:4*q+jj<ds.length:=by have:=HQ.o;have:=HM.o;have:=HLN.o;omega
       have hls:jj<ss.length:=by have:=HSL.o;omega
       obtain⟨s1,hs1⟩:∃ s,ds[4*q+jj]?=some s:=⟨_,List.getElem?_eq_getElem hle⟩
       obtain⟨s2,hs2⟩:∃ s,ss[jj]?=some s:=⟨_,List.getElem?_eq_getElem hls⟩
       obtain⟨bd,od,had,hc1⟩:=HX.o (4*q+jj) (.string s1) (by rw[List.getElem?_map,hs1];rfl);subst had;have k1:wr.cell? ⟨bd,od+(q*4+jj),none⟩=some (.string s1):=by
        have:=(HB6.o.cell (Qk hc1)).trans hc1
        rwa [Nat.mul_comm 4 q] at this
       have k2:wr.cell? ⟨b5,jj,none⟩=some (.string s2):=by obtain⟨a',c',he,_,hc⟩:=HO4.o.at;cases he;obtain⟨b',o',he,hc2⟩:=hc jj (.string s2) (by rw[List.getElem?_map,hs2];rfl);cases he;have h2:=(HB5.o.cell (Qk hc2)).trans hc2;simpa using h2
       have hi0:(0:Int)≤(jj:Int):=by omega
       have hi1:(jj:Int)<(ss.length:Int):=by omega
       have hi2:(0:Int)≤(q:Int)*4+(jj:Int):=by omega
       have hi3:(q:Int)*4+(jj:Int)<(ln:Int):=by have:=HLN.o;omega
       have hi4:((q:Int)*4+(jj:Int)).toNat=q*4+jj:=by omega
       have HS1:=zh hs1;have HS2:=zh hs2;clear hle hls hs1 hs2 hc1;by_cases hss:s2=s1
       ·have hqq:=Qao hss
        have HSE:=zh hss;clear hss
        go_wp2_with fail
        go_region
        go_wp2_with fail
        go_roundg (m-(jj+1))
        case measure=>omega
        case rel=>
         refine⟨jj+1,by omega,by omega,by go_num,HB5.o.trans ((Ql _).mono HB5.o.size),?_⟩;show ∀ j,j<jj+1→_;intro j hj;by_cases hjk:j=jj
         ·subst hjk
          rw[HS1.o,HS2.o,HSE.o]
         ·exact HJ.o j (by omega)
       ·have hqq:=J3 hss
        have HSE:=zh hss;clear hss
        go_wp2_with fail
        go_region
        go_wp2_with fail
        go_ret2;refine Qmc (HB6.o.trans ((Ql _).mono HB6.o.size)) ?_;rw[HFP.o,if_neg];intro e;have h1:(ls.take m)[jj]?=((lists ds).drop (4*q))[jj]?:=by rw[e]
        have e1:ls[jj]?=some s2.data.toList:=by rw[←HSS.o];unfold lists;rw[List.getElem?_map,HS2.o];rfl
        have e2:(lists ds)[4*q+jj]?=some s1.data.toList:=by unfold lists;rw[List.getElem?_map,HS1.o];rfl
        rw[List.getElem?_take_of_lt hlt2,List.getElem?_drop,e1,e2] at h1;exact HSE.o (Go.WideShapes.bytes_inj (Option.some.inj h1))
      ·have hltz2:¬ (jj:Int)<(m:Int):=by omega
       have hjh:jj=m:=by omega
       have HJH:=zh hjh;clear hjh;have hc5:ss.length≤c5:=by obtain⟨a',c',he,hc,_⟩:=HO4.o.at;cases he;exact hc
       have hs1:(m:Int)≤(ss.length:Int):=by have:=HSL.o;omega
       have hs0:(0:Int)≤(m:Int):=by omega
       have hs3:¬ c5=m:=by have:=HSL.o;omega
       obtain⟨ck,hck,hck2⟩:∃ ck,((k:Int) == 4)=ck∧ck=decide (k=4):=⟨_,rfl,by rw[Bool.eq_iff_iff];simp;omega⟩
       have HCK:=zh hck2;clear hck2
       go_wp2_with fail
       go_ret2;have hfp:Zk l (lists ds)=(lists (ss.drop m),ck):=by
        rw[HFP.o,if_pos,HCK.o]
        ·rw[←HSS.o];unfold lists;rw[List.map_drop]
        ·apply List.ext_getElem?
         intro j;by_cases hj:j<m
         ·rw[List.getElem?_take_of_lt hj,List.getElem?_drop,←HSS.o]
          unfold lists;rw[List.getElem?_map,List.getElem?_map,HJ.o j (by rw[HJH.o];exact hj)]
         ·rw[List.getElem?_eq_none (by rw[List.length_take];omega),List.getElem?_eq_none (by rw[List.length_drop,Q0];have:=HLN.o;have:=HM.o;have:=HQ.o;omega)]
       have hown:=HO4.o;have hlt3:m<ss.length:=by rw[HSL.o];exact hlt
       refine⟨HB6.o,.slice (some ⟨b5,m,none⟩) (ss.length-m) (c5-m),ss.drop m,?_,?_,?_⟩
       ·rw[hfp];rfl
       ·rw[hfp]
       ·have h1:=Qf6 (hown.at.below HB5.o) (Nat.le_of_lt hlt3)
        simpa using h1
  ·have hltz:¬ (m:Int)<(k:Int):=by omega
   have hst:k≤(lists ds).length%4:=by rw[HMOD.o];omega
   have HST:=zh hst;clear hst
   go_wp2_with fail
   go_ret2;exact Qmc HB.o (by rw[HP.o];exact Qh5 HST.o)
end
section
theorem Qhu {P:Program} {ops:Array Oper} {rest:List Oper} {o:Oper} {a:Act} {Q:Exit→Act→World→Prop} {w:World} (hgd:o.guard=none) (s x:Operand) (t:TypeId)
  (ho:o.op=.call { callee:=.builtin .append,args:=#[s,x],argTypes:=#[t,t] })
  (base:Nat) (i:TypeInfo) (ht:P.underlying t=some (.slice 9)) (hi:P.info? 9=some i) (hz:i.zero=some (.string ⟨#[]⟩)) (hsize:i.size=1) (hby:i.bytes=16)
  (v:Value) (n:Nat) (xs:List ByteArray) (hs:a.eval s=v) (hnx:n=xs.length) (hown:Q5 w base v xs) (u:Value) (l:List ByteArray) (hx:a.eval x=u) (hb:Jd w u l)
  (hn:n≤1099511627776) (hl:l.length≤1099511627776) (hbase:base≤w.heap.size)
  (h:∀ v' w',Q5 w' base v' (xs++l)→w.grownBy w' v.ownBlock→wpList P ops Q rest (a.put o.dst v') w') :
  wpList P ops Q (o :: rest) a w:=by
 subst hnx;obtain⟨ad,c,rfl,hcap,hc⟩:=hb;unfold Q5 at hown;cases l with
 | nil=>
  refine wpList_plain hgd fun K hK=>?_
  have hr:(Builtin.append_ #[t,t] o.type #[v,.slice ad 0 c]).run P w=.ok v w:=by
   rcases hown.2 with ⟨rfl,h0⟩|⟨g,cap,cur,rfl,hbg,hg,hnc,hcm,hcs,htake⟩
   ·cases ad <;> simp[Builtin.append_,run_underlying ht,sizeOf,typeInfo,hi,Builtin.lenOf,Builtin.firstCells,loadCells,loadCellsFrom]
   ·cases ad <;> simp[Builtin.append_,run_underlying ht,sizeOf,typeInfo,hi,Builtin.lenOf,Builtin.firstCells,loadCells,loadCellsFrom,storeCells,hnc]
  unfold Oper.wp execOp;simp only[List.length_nil] at hx;simp only[ho,resolve,invoke,builtin,Sem.run_bind,Sem.run_pure,Result.andThen_ok,List.map_toArray,List.map_cons,List.map_nil,hs,hx,hr];exact hK _ _ (h v w (by unfold Q5;simpa using hown) ⟨rfl,rfl,rfl,Nat.le_refl _,fun _ _ _=>rfl⟩)
 | cons y l=>
  obtain⟨b,off,rfl,_⟩:=hc 0 (.string y) (by simp);refine wpList_append_own _ hgd s x t ho base 9 i _ 1 16 ht hi hz hsize hby (by simp[Value.cells]) (by decide) v xs.length (xs.map Value.string) hs hown ⟨b,off,none⟩ (y :: l).length c ((y :: l).map Value.string) hx (by simp) (fun j q hq=>?_) (fun q hq=>?_) (by unfold maxLen;omega) (by omega) hbase fun v' w' h2 h3 h4=>h v' w' ?_ h3
  ·obtain⟨b',off',heq,hcell⟩:=hc j q hq
   cases heq;rw[Addr.add_lit];exact hcell
  ·obtain⟨z,_,rfl⟩:=List.mem_map.1 hq
   rfl
  ·unfold Q5
   simpa using h2
theorem Qdz {fn:Func} {t u v x:Tmp} (h:fn.results=#[.tmp t,.tmp u,.tmp v,.tmp x]) (tmps:Array Value) (P:Program) (w:World) :
  (results fn tmps).run P w=.ok (.tuple #[tmps.getD t undef,tmps.getD u undef,tmps.getD v undef,tmps.getD x undef]) w:=by
 simp[results,h]
theorem J0 (a b:List ByteArray):lists (a++b)=lists a++lists b:=by unfold lists;rw[List.map_append]
theorem Q7n {a b:Hsh} (h:HS a=HS b):a=b:=by unfold HS at h;have h1:=congrArg ByteArray.data h;exact Vector.toArray_inj.1 h1
theorem Qty {ss:List ByteArray} {l:List Fil} (h:Qa1 l (lists ss)):∀ s∈ss,s.size≤1048576:=fun s hs=>by
 have h1:=h.short s.data.toList (by unfold lists;exact List.mem_map.2 ⟨s,hs,rfl⟩)
 simp at h1
 omega
def Qt4 (l:List Fil) (key:ByteArray) (w:World) (e:Ending) (w':World):Prop:=
 Below w.heap.size w w'∧((∃ k p,Yf l key (.bad k p)∧e=.returned (.tuple #[.slice none 0 0,.int .i64 0,.int .i64 k,.string p]))∨
  ∃ n v ss,n<9223372036854775808∧Yf l key (.good (lists ss) n)∧e=.returned (.tuple #[v,.int .i64 n,.int .i64 0,.string ⟨#[]⟩])∧Q5 w' w.heap.size v ss)
theorem Qs3 (w:World) (va:Value) (l:List Fil) (key:ByteArray) (h:Jf w va l) (hn:l.length≤1099511627776) (hsz:∀ f∈l,f.2.size≤1048576) (hkey:key.size≤1048600) (N:Nat) (hN:FewB l N) (hN2:N≤262144) :
  Calls prog 58 #[va,.string key] w (Qt4 l key w):=by
 have HH:=zh h;have HZ:=zh hsz;have HLN:=zh hn;have HN:=zh hN;obtain⟨av,cv,rfl,_,hx⟩:=h;have HX:=zh hx;clear hsz hn hN hx;obtain⟨fi,hfi⟩:∃ fi,fi=Jk l (sOf kCp):=⟨_,rfl⟩
 have HFI:=zh hfi;clear hfi
 go_enter func58,ntmps58
 go_upto_region 3 with (first
  | (go_at_call 110;refine (Qfs ⟨#[]⟩ _ (by decide)).mono ?_;rintro e w1 ⟨rfl,hb1⟩;have HB1:=zh hb1;have HH1:=zh (HH.o.below hb1);clear hb1))
 go_upto_if 25 with (first
  | (go_at_call 59;refine (Yx w1 _ l (sOf kCp) HH1.o HLN.o).mono ?_;rintro e w2 ⟨rfl,rfl⟩;rw[←HFI.o]))
 go_cut [8,9,11] from 26 to 38 (fun s8 s9 s11 wx=>∃ (n:Nat) (root:Hsh),Aside (Yr l key=some (n,root))∧n<9223372036854775808∧s8=.int .i64 n∧s9=.string (HS root)∧Aside (Below w.heap.size w wx))
 case first=>
  cases hg:getF l (sOf kCp) with
  | none=>
   have hf:=Qju hg;have hfi:fi = -1:=by rw[HFI.o,hf]
   subst hfi;have HG:=zh hg;clear hg hf
   go_wp2_with fail
   go_meet;exact⟨0,hash [],by show Yr _ _=_;unfold Yr;rw[HG.o],by decide,rfl,rfl,HB1.o⟩
  | some b=>
   obtain⟨j,x,hf,hjl,hlx,hxb⟩:=Qjc hg;obtain⟨bb,off,rfl,_,d2⟩:=HX.o j x hlx;have hbs:b.size≤1048576:=by have:=HZ.o x (List.mem_of_getElem? hlx);rw[hxb] at this;exact this
   have hbw:bb<w.heap.size:=Qk d2;rw[hxb] at d2;have d3:=(HB1.o.cell (p:=⟨bb,off+j*2+1,none⟩) hbw).trans d2;have hj0:(0:Int)≤(j:Int):=by omega
   have hj1:(j:Int)<(l.length:Int):=by omega
   have hcon:=Qy2 b key w1 hbs hkey;rw[←Qya] at hcon;obtain⟨q,hq⟩:∃ q,q=Yc b.data.toList key.data.toList:=⟨_,rfl⟩
   rw[←hq] at hcon;have hsnd:=Qb1 b.data.toList key.data.toList;rw[←hq] at hsnd;have hoh:Yr l key=if q.2.2=true then some (q.1.toNat,q.2.1) else none:=by unfold Yr;rw[hg,hq]
   obtain⟨qn,qh,qb⟩:=q;have hfi:fi=(j:Int):=by rw[HFI.o,hf]
   subst hfi;have HSND:=zh hsnd;have HOH:=zh hoh;clear hsnd hoh hq hg hf hlx hxb hbs d2 hjl;unfold Qg3 at hcon;cases qb with
   | false=>
    go_wp2_with (first
     | (go_at_call 111;refine hcon.mono ?_;rintro e w5 ⟨rfl,hb5⟩;have HB5:=zh hb5;clear hb5))
    (try simp only[Exit.inBlock,Exit.then])
    refine bodyPost_ret (Qdz rfl _ _ _) rfl ?_;exact⟨HB1.o.trans (HB5.o.mono HB1.o.size),.inl ⟨3,⟨#[]⟩,.checkpoint HOH.o,rfl⟩⟩
   | true=>
    go_wp2_with (first
     | (go_at_call 111;refine hcon.mono ?_;rintro e w5 ⟨rfl,hb5⟩;have HB5:=zh hb5;clear hb5))
    go_meet;obtain⟨p1,p2,_⟩:=HSND.o.1 rfl;have hqn:qn=(qn.toNat:Int):=by omega
    refine⟨qn.toNat,qh,?_,by omega,?_,rfl,HB1.o.trans (HB5.o.mono HB1.o.size)⟩
    ·show Yr _ _=_
     rw[HOH.o];rfl
    ·rw[←hqn]
 case rest=>
  obtain⟨n,root,HOH,hn0,rfl,rfl,HB2⟩:=hcut;obtain⟨i0,hi0,hz0,hs0,hby0⟩:=info_parts Qe7
  go_wp2_with fail
  go_loopg [12,13] (N+1) (fun gg s12 s13 wr=>∃ i:Nat,i≤N∧N+1-i≤gg∧s13=.int .i64 i∧∃ ss1,Aside (Q5 wr w.heap.size s12 ss1)∧Aside (Below w.heap.size w wr)∧Aside (Qb0 l n ((n+3) / 4) 0 []=Qb0 l n ((n+3) / 4-i) i (lists ss1))∧Aside (ss1.length=min n (4*i))∧Aside (Qa1 l (lists ss1)))
  case atStart=>exact⟨0,Nat.zero_le _,by omega,rfl,[],World.ownsRow_nil _ _ _ _,HB2.o,rfl,by show [].length=_;simp,Qa1.nil _⟩
  case round=>
   obtain⟨i,hi,hgg,rfl,ss1,HO,HB3,HP,HLEN,HT⟩:=hrel;obtain⟨a1,cp1,rfl⟩:=Zs HO.o;obtain⟨ln,hln⟩:∃ ln,ln=ss1.length:=⟨_,rfl⟩
   have HLN1:=zh hln;have hl4:ln=min n (4*i):=by rw[hln];exact HLEN.o
   have HL4:=zh hl4;clear hln;rw[←HLN1.o];by_cases hlt:ln<n
   ·have hltz:(ln:Int)<(n:Int):=by omega
    have h4i:4*i<n:=by omega
    obtain⟨k,hk⟩:∃ k,k=min 4 (n-4*i):=⟨_,rfl⟩
    have hnl:n-ln=n-4*i:=by omega
    have hkz:(n:Int)-(ln:Int)=((n-4*i:Nat):Int):=by omega
    have hib:i<9223372036854775808:=by omega
    have hkb:k<9223372036854775808:=by omega
    have H4I:=zh h4i;have HK:=zh hk;have HH3:=zh (HH.o.below HB3.o);obtain⟨dz,hdz⟩:∃ dz,(n:Int)-(ln:Int)=dz:=⟨_,rfl⟩
    have hkn:k≤4∧(4<dz→k=4)∧(¬ 4<dz→dz=(k:Int)):=by omega
    have HKN:=zh hkn;clear hl4 h4i hnl hkn hk hkz
    go_upto_if 50 with fail
    clear hdz
    go_cut [14] from 50 to 51 (fun s14 wx=>s14=.int .i64 k∧wr=wx)
    case first=>
     by_cases hgt:4<dz
     ·have HK4:=zh (HKN.o.2.1 hgt)
      go_wp2_with fail
      go_meet;exact⟨by rw[HK4.o];rfl,rfl⟩
     ·have HK4:=zh (HKN.o.2.2 hgt)
      go_wp2_with fail
      go_meet;exact⟨by rw[HK4.o],rfl⟩
    case rest=>
     obtain⟨rfl,rfl⟩:=hcut;have hcon:=fun w'=>Qi6 (-1) (i:Int) (k:Int) w' (by omega)
     cases hb:Z8 l i k with
     | none=>
      have HB:=zh hb;clear hb
      go_wp2_with (first
       | (go_at_call 112;refine (Qsx HH3.o HLN.o HZ.o hib hkb HB.o).mono ?_;rintro e w4 ⟨⟨u,rfl⟩,hb4⟩;have HB4:=zh (HB3.o.trans (hb4.mono HB3.o.size));clear hb4)
       | (go_at_call 113;refine (hcon _).mono ?_;rintro e w5 ⟨rfl,hb5⟩;have HB5:=zh (HB4.o.trans (hb5.mono HB4.o.size));clear hb5))
      (try simp only[Exit.inBlock,Exit.then])
      refine bodyPost_ret (Qdz rfl _ _ _) rfl ?_;refine⟨HB5.o,.inl ⟨6,Ym i (min 4 (n-4*i)),.tile (d:=lists ss1) HOH.o ?_,?_⟩⟩
      ·rw[HP.o,Qd7 H4I.o,←HK.o,HB.o]
      ·rw[←HK.o];rfl
     | some ls=>
      have hlens:=Qaj hb;have htk:=HT.o.step (w:=k) (e:=ls) (i:=i) (by rw[Q0,HLEN.o];have:=H4I.o;omega) hb;have hfew:=htk.few HN.o;rw[List.length_append,Q0] at hfew;have hlb:ls.length≤1099511627776:=by omega
      have hlnb:ln≤1099511627776:=by have:=HLN1.o;omega
      have HTK:=zh htk;have HBUN:=zh hb;have HFEW:=zh hfew;have HLL:=zh hlens.1;clear hb hlens htk hfew
      go_wp2_with fail
      refine (Qqw HH3.o HLN.o HZ.o hib hkb HBUN.o).mono ?_;rintro e w4 ⟨b5,c5,ss,rfl,ho4,hss,hb4⟩;have HB4:=zh (HB3.o.trans (hb4.mono HB3.o.size));have HO4:=zh ho4;have HO5:=zh (show Q5 w4 w.heap.size (.slice a1 ss1.length cp1) ss1 from Qn HO.o hb4);have HSS:=zh hss;have hsl:=(show ss.length≤1099511627776 by rw[←Q0,hss];exact hlb)
      clear hb4 ho4 hss
      go_wp2_with (first
       | (at_builtin;refine Qhu rfl _ _ 22 rfl w.heap.size i0 underlying22 hi0 hz0 hs0 hby0 _ ln ss1 rfl HLN1.o (by rw[HLN1.o];exact HO5.o) _ ss rfl HO4.o.at hlnb hsl HB4.o.size ?_;intro v2 w5 ho5 hg5;have HB5:=zh (HB4.o.grown hg5 HB4.o.size (fun j hj=>(HO5.o.lt j (by rw[HLN1.o] at hj;exact hj)).1));have HO6:=zh ho5;clear ho5 hg5))
      go_roundg (N+1-(i+1))
      case measure=>omega
      case rel=>
       refine⟨i+1,?_,by omega,by go_num,ss1++ss,HO6.o,HB5.o,?_,?_,?_⟩
       ·have:=HFEW.o;have:=HN.o (i+1) fun j hj=>HTK.o.has j (by rw[List.length_append,Q0,HLEN.o,HLL.o,HK.o];have:=H4I.o;omega);exact this
       ·show Qb0 _ _ _ _ _=_
        rw[HP.o,Qd7 H4I.o,←HK.o,HBUN.o];show Qb0 _ _ _ _ (lists ss1++ls)=_;rw[←HSS.o,←J0]
       ·show (ss1++ss).length=_
        have h1:ss.length=k:=by rw[←Q0,HSS.o];exact HLL.o
        rw[List.length_append,HLEN.o,h1,HK.o]
        have:=H4I.o
        omega
       ·show Qa1 l (lists (ss1++ss))
        rw[J0,HSS.o];exact HTK.o
   ·have hltz:¬ (ln:Int)<(n:Int):=by omega
    have h4i:n≤4*i:=by omega
    have H4I:=zh h4i;clear h4i hl4;have hpe:Qb0 l n ((n+3) / 4) 0 []=(lists ss1,none):=by rw[HP.o,Qsw H4I.o]
    have hfew:=HT.o.few HN.o;rw[Q0] at hfew;have HPE:=zh hpe;have hcon:=Qby ss1.length ss1 (.slice a1 ln cp1) wr (Nat.le_refl _) (by rw[HLN1.o];exact Ya HO.o) (by omega) (Qty HT.o);have HCON:=zh hcon;have HFEW:=zh hfew;clear hpe hcon hfew;by_cases hr:rootOf (lists ss1)=root
    ·have hqq:=Qao (show HS (rootOf (lists ss1))=HS root by rw[hr])
     have HR:=zh hr;clear hr
     go_wp2_with fail
     refine HCON.o.mono ?_;rintro e w5 ⟨rfl,hb5⟩;have HB5:=zh (HB3.o.trans (hb5.mono HB3.o.size));have HO5:=zh (show Q5 w5 w.heap.size (.slice a1 ln cp1) ss1 by rw[HLN1.o];exact Qn HO.o hb5);clear hb5
     go_wp2_with fail
     clear hltz hqq
     go_loopg [12] (N+2) (fun gg s12 wr=>∃ ss2,Aside (Q5 wr w.heap.size s12 ss2)∧Aside (Below w.heap.size w wr)∧Aside (∀ r,Goes l (lists ss2) r→Goes l (lists ss1) r)∧Aside (Qa1 l (lists ss2))∧N+1-ss2.length / 4≤gg)
     case atStart=>exact⟨ss1,HO5.o,HB5.o,fun r h=>h,HT.o,by omega⟩
     case round=>
      obtain⟨ss2,HO7,HB7,HG7,HT7,hgg⟩:=hrel;obtain⟨a2,cp2,rfl⟩:=Zs HO7.o;have hfew7:=HT7.o.few HN.o;rw[Q0] at hfew7;obtain⟨bw,hbw⟩:∃ bw,bw=(Zk l (lists ss2)).2:=⟨_,rfl⟩
      have hcon:=Qra wr _ l (HH.o.below HB7.o) HLN.o HZ.o (.slice a2 ss2.length cp2) ss2 (Ya HO7.o) (by omega);unfold Qqd at hcon;rw[←hbw] at hcon;have HCON:=zh hcon;have HBW:=zh hbw;have HFEW7:=zh hfew7;have hl2b:ss2.length≤1099511627776:=by omega
      clear hcon hbw hfew7
      go_wp2_with fail
      refine HCON.o.mono ?_;rintro e w8 ⟨hb8,v8,ss8,rfl,hs8,hst8⟩;have HB8:=zh (HB7.o.trans (hb8.mono HB7.o.size));have HO8:=zh (show Q5 w8 w.heap.size (.slice a2 ss2.length cp2) ss2 from Qn HO7.o hb8);have HST8:=zh hst8;have HS8:=zh hs8;obtain⟨a8,c8,rfl,_⟩:=hst8;have hl8:ss8.length≤1099511627776:=by have h1:=(HT7.o.further 4 (by omega)).1.few HN.o;rw[show Zw l (lists ss2) 4=Zk l (lists ss2) from rfl,←HS8.o,←J0,Q0,List.length_append] at h1;omega
      clear hb8 hs8;cases bw with
      | true=>
       go_wp2_with (first
        | (at_builtin;refine Qhu rfl _ _ 22 rfl w.heap.size i0 underlying22 hi0 hz0 hs0 hby0 _ ss2.length ss2 rfl rfl HO8.o _ ss8 rfl HST8.o hl2b hl8 HB8.o.size ?_;intro v2 w9 ho9 hg9;have HB9:=zh (HB8.o.grown hg9 HB8.o.size (fun j hj=>(HO8.o.lt j hj).1));have HO9:=zh ho9;clear ho9 hg9))
       have hwide:=(HT7.o.further 4 (by omega)).2 HBW.o.symm;have hT8:=(HT7.o.further 4 (by omega)).1;rw[show Zw l (lists ss2) 4=Zk l (lists ss2) from rfl,←HS8.o,←J0] at hwide hT8;rw[Q0,Q0] at hwide;have HW:=zh hwide;have HT8:=zh hT8;clear hwide hT8
       go_roundg (N+1-(ss2.length / 4+1))
       case measure=>have:=HFEW7.o;omega
       case rel=>
        refine⟨ss2++ss8,HO9.o,HB9.o,?_,HT8.o,?_⟩
        ·show ∀ r,Goes l (lists (ss2++ss8)) r→Goes l (lists ss1) r
         intro r h;rw[J0,HS8.o] at h;exact HG7.o r (.more HBW.o.symm h)
        ·rw[HW.o]
         omega
      | false=>
       go_wp2_with (first
        | (at_builtin;refine Qhu rfl _ _ 22 rfl w.heap.size i0 underlying22 hi0 hz0 hs0 hby0 _ ss2.length ss2 rfl rfl HO8.o _ ss8 rfl HST8.o hl2b hl8 HB8.o.size ?_;intro v2 w9 ho9 hg9;have HB9:=zh (HB8.o.grown hg9 HB8.o.size (fun j hj=>(HO8.o.lt j hj).1));have HO9:=zh ho9;clear ho9 hg9))
       (try simp only[Exit.inBlock,Exit.then])
       refine bodyPost_ret (Qdz rfl _ _ _) rfl ?_;refine⟨HB9.o,.inr ⟨n,v2,ss2++ss8,hn0,.fine HOH.o HPE.o HR.o (HG7.o _ ?_),rfl,HO9.o⟩⟩;rw[J0,HS8.o];exact .stop HBW.o.symm
    ·have hqq:=J3 (fun e=>hr (Q7n e):¬ HS (rootOf (lists ss1))=HS root)
     have HR:=zh hr;clear hr
     go_wp2_with fail
     refine HCON.o.mono ?_;rintro e w5 ⟨rfl,hb5⟩;have HB5:=zh (HB3.o.trans (hb5.mono HB3.o.size));clear hb5
     go_wp2_with fail
     (try simp only[Exit.inBlock,Exit.then])
     refine bodyPost_ret (Qdz rfl _ _ _) rfl ?_;exact⟨HB5.o,.inl ⟨5,⟨#[]⟩,.proof HOH.o HPE.o HR.o,rfl⟩⟩
end
section
theorem Ql8 (r:List (List UInt8)):∀ (rs:List (List (List UInt8))) (t:Int),Jl t (rs ++ [r])=Jl t rs++Ys (t+(rs.length:Int)) r
 | [],t=>by simp[Jl]
 | x :: rs,t=>by
  rw[List.cons_append,Jl,Ql8 r rs (t+1),Jl,List.append_assoc,List.length_cons,show t+1+(rs.length:Int)=t+((rs.length+1:Nat):Int) by omega]
theorem Q0b (t:Int) (r:List (List UInt8)):(Ys t r).length≤r.length:=by rw[Qbi];omega
variable {k:Nat}
theorem Qnd:∀ (rs:List (List (List UInt8))) (t:Int),(∀ r∈rs,r.length≤k)→(Jl t rs).length≤rs.length*k
 | [],t,_=>by simp[Jl]
 | r :: rs,t,h=>by
  rw[Jl,List.length_append,List.length_cons,Nat.add_mul,Nat.one_mul]
  have h1:=Q0b t r
  have h2:=h r (by simp)
  have h3:=Qnd rs (t+1) fun x hx=>h x (List.mem_cons_of_mem _ hx)
  omega
theorem Qvc {w:World} {b off n c i j:Nat} {ss:List ByteArray} (h:Jd w (.slice (some ⟨b,off,none⟩) n c) ss) (hij:i≤j) (hj:j≤ss.length):Jd w (.slice (some ⟨b,off+i,none⟩) (j-i) (c-i)) ((ss.drop i).take (j-i)):=
 Qik (Qf6 h (Nat.le_trans hij hj)) (by rw[List.length_drop];omega)
theorem Qhn {ds:List ByteArray} (h:∀ x∈lists ds,x.length≤k):∀ s∈ds,s.size≤k:=fun s hs=>by
 have h1:=h s.data.toList (by unfold lists;exact List.mem_map.2 ⟨s,hs,rfl⟩)
 simpa using h1
theorem Qx3 (w:World) (v:Value) (ss:List ByteArray) (h:Jd w v ss) (hn:ss.length≤1048576) (hsz:∀ s∈ss,s.size≤20) :
  Calls prog 98 #[v] w fun e w'=>∃ v',e=.returned v'∧Qcj w' v' (Yu (lists ss))∧Below w.heap.size w w'∧∀ k,v'.ownBlock=some k→w.heap.size≤k:=by
 have HH:=zh h;have HZ:=zh hsz;obtain⟨av,cv,rfl,hcv,hx⟩:=h;have HX:=zh hx;obtain⟨n,hnn⟩:∃ n,n=ss.length:=⟨_,rfl⟩
 rw[←hnn];rw[←hnn] at hn hcv;have HNN:=zh hnn;clear hsz hx hnn;obtain⟨i0,hi0,hz0,hs0,hby0⟩:=info_parts Qe7
 go_enter func98,ntmps98
 go_wp2_with fail
 go_loopg [4,5] n (fun gg s4 s5 wr=>∃ i:Nat,i≤n∧n-i≤gg∧s5=.int .i64 i∧∃ ds,Aside (Q5 wr w.heap.size s4 ds)∧Aside (lists ds=((lists ss).take i).map encE)∧Aside (Below w.heap.size w wr))
 case atStart=>exact⟨0,Nat.zero_le _,by omega,rfl,[],World.ownsRow_nil _ _ _ _,by show lists []=_;simp[lists],Below.refl _ _⟩
 case round=>
  obtain⟨i,hi,hgg,rfl,ds,HO,HDS,HB⟩:=hrel;have hdl:ds.length=i:=by rw[←Q0,HDS.o,List.length_map,List.length_take,Q0,←HNN.o];omega
  have HDL:=zh hdl;clear hdl;by_cases hlt:i<n
  ·have hltz:(i:Int)<(n:Int):=by omega
   obtain⟨s,hs⟩:∃ s,ss[i]?=some s:=⟨_,List.getElem?_eq_getElem (by rw[←HNN.o];exact hlt)⟩
   obtain⟨bv,ov,rfl,_⟩:=HX.o i (.string s) (by rw[List.getElem?_map,hs];rfl);have hsub:=Qvc (i:=i) (j:=i+1) (by rw[HNN.o];exact HH.o.below HB.o:Jd wr (.slice (some ⟨bv,ov,none⟩) n cv) ss) (by omega) (by rw[←HNN.o];omega);have hone:(ss.drop i).take (i+1-i) = [s]:=by rw[show i+1-i=1 by omega,List.take_one,List.head?_drop,hs];rfl
   rw[hone] at hsub;have hcon:=Qlz _ [s] wr hsub (by simp);have hbu:=Qym (l:=s.data.toList) (by have:=HZ.o s (List.mem_of_getElem? hs);simpa using this);unfold Qow at hcon;rw[show bss [s] = [s.data.toList] from rfl,hbu] at hcon;have hc1:¬ cv=i:=by omega
   have h1:i+1-i=1:=by omega
   rw[h1] at hcon;have HCON:=zh hcon;have HS:=zh hs;clear hsub hone hcon hbu hs h1
   go_wp2_with fail
   refine HCON.o.mono ?_;rintro e w2 ⟨rfl,hb2⟩;have HB2:=zh (HB.o.trans (hb2.mono HB.o.size));have HO2:=zh (show Q5 w2 w.heap.size u4 ds from Qn HO.o hb2);have hdl2:ds.length≤1099511627776:=by have:=HDL.o;omega
   clear hb2
   go_wp2_with (first
    | (at_builtin;refine Y3 rfl _ _ 22 rfl w.heap.size 9 i0 (.string ⟨#[]⟩) 16 underlying22 hi0 hz0 hs0 hby0 rfl (by decide) u4 ds.length (ds.map Value.string) rfl HO2.o _ rfl rfl hdl2 HB2.o.size ?_;intro v3 w3 hr3 hg3 hne3;have HR3:=zh hr3;have HB3:=zh (HB2.o.grown hg3 HB2.o.size (fun j hj=>(HO2.o.lt j hj).1));clear hr3 hg3 hne3))
   go_roundg (n-(i+1))
   case measure=>omega
   case rel=>
    refine⟨i+1,by omega,by omega,by go_num,ds ++ [⟨(encE s.data.toList).toArray⟩],?_,?_,HB3.o⟩
    ·show Q5 _ _ _ _
     unfold Q5;simpa using HR3.o
    ·show lists _=_
     rw[J0,HDS.o,List.take_add_one,Qj9,HS.o,List.map_append];rfl
  ·have hltz:¬ (i:Int)<(n:Int):=by omega
   have hin:i=n:=by omega
   have hds:lists ds=(lists ss).map encE:=by rw[HDS.o,hin,List.take_of_length_le (by rw[Q0,←HNN.o];omega)]
   have hsz:∀ s∈ds,s.size≤1048576:=Qhn fun x hx=>by
    rw[hds] at hx;obtain⟨e,he,rfl⟩:=List.mem_map.1 hx;obtain⟨s,hs,rfl⟩:=List.mem_map.1 he
    have:=HZ.o s hs
    simp[encE];omega
   have hcon:=Qog wr (.slice none 0 0) [] (World.ownsRow_nil _ _ _ _) (-1) u4 ds (Z2 HO.o (Nat.zero_le _)) (by have:=HDL.o;show 0+_≤_;omega) hsz;have HCON:=zh hcon;have HDS2:=zh hds;have hn11:nLev n≤11:=Qay hn;clear hcon hds hsz hltz
   go_wp2_with fail
   refine HCON.o.mono ?_;rintro e w2 ⟨v2,rfl,ho2,hf2,hm2⟩;have hb2:Below w.heap.size w w2:=HB.o.trans (hf2.below HB.o.size fun k _ e=>by simp[Value.ownBlock] at e);have hnew2:∀ k,v2.ownBlock=some k→w.heap.size≤k:=fun k hk=>by
    rcases hm2 k hk with h|h
    ·simp[Value.ownBlock] at h
    ·exact Nat.le_trans HB.o.size h
   have HB2:=zh hb2;have HO2:=zh (show Qcj w2 v2 (Jl (-1) ((Zc (lists ss)).take 1)) by
    rw[show (Zc (lists ss)).take 1 = [(lists ss).map encE] from rfl,Jl,Jl,List.append_nil,←HDS2.o]
    exact ho2)
   have HNEW2:=zh hnew2;clear ho2 hf2 hm2 hb2 hnew2
   go_wp2_with fail
   go_loopg [3,8,9] (nLev n) (fun gg s3 s8 s9 wr=>∃ lv u:Nat,lv≤nLev n∧nLev n-lv≤gg∧s9=.int .i64 lv∧s8=.int .i64 u∧Aside (u=4 ^ lv)∧u≤4194304∧0<u∧Aside (Qcj wr s3 (Jl (-1) ((Zc (lists ss)).take (lv+1))))∧Aside (Below w.heap.size w wr)∧Aside (∀ k,s3.ownBlock=some k→w.heap.size≤k))
   case atStart=>exact⟨0,1,by omega,by omega,rfl,rfl,rfl,by omega,by omega,HO2.o,HB2.o,HNEW2.o⟩
   case round=>
    obtain⟨lv,u,hlv,hgg2,rfl,rfl,HU,hu4,hu0,HF,HBF,HNEW⟩:=hrel;by_cases hun:u≤n
    ·have hunz:(u:Int)≤(n:Int):=by omega
     go_wp2_with fail
     obtain⟨B,hB⟩:∃ B,B=wr.heap.size:=⟨_,rfl⟩
     have HBB:=zh hB;clear hB
     go_loopg [4,10] n (fun gg s4 s10 wx=>∃ j:Nat,j*u≤n∧n-j≤gg∧s10=.int .i64 j∧∃ ds,Aside (Q5 wx B s4 ds)∧Aside (lists ds=((Zy (lists ss) lv).take j).map fun (x:Hsh)=>x.toList)∧Aside (Below B wr wx))
     case atStart=>exact⟨0,by omega,by omega,rfl,[],World.ownsRow_nil _ _ _ _,by show lists []=_;simp[lists],Below.refl _ _⟩
     case round=>
      obtain⟨j,hjn,hgg3,rfl,ds2,HO3,HDS3,HB3⟩:=hrel;obtain⟨hi,hhi⟩:∃ hi,hi=(j+1)*u:=⟨_,rfl⟩
      obtain⟨lo,hlo⟩:∃ lo,lo=j*u:=⟨_,rfl⟩
      have hlh:hi=lo+u:=by rw[hhi,hlo,Nat.add_mul,Nat.one_mul]
      have hziL:(j:Int)*(u:Int)=(lo:Int):=by rw[hlo];push_cast;rfl
      have hziH:((j:Int)+1)*(u:Int)=(hi:Int):=by rw[hhi];push_cast;rfl
      rw[←hlo] at hjn;have hjb:j≤n:=by
       have:=Nat.le_mul_of_pos_right j hu0
       omega
      have hhb:hi≤8388608:=by omega
      have HHI:=zh hhi;have HLO:=zh hlo;clear hhi hlo;by_cases hlt:hi≤n
      ·have hltz:(hi:Int)≤(n:Int):=by omega
       obtain⟨s,hs⟩:∃ s,ss[lo]?=some s:=⟨_,List.getElem?_eq_getElem (by rw[←HNN.o];omega)⟩
       obtain⟨bv,ov,rfl,_⟩:=HX.o lo (.string s) (by rw[List.getElem?_map,hs];rfl);have hB3:=HB3.o;rw[HBB.o] at hB3;have hbw3:=HBF.o.trans (hB3.mono HBF.o.size);have hsub:=Qvc (i:=lo) (j:=hi) (by rw[HNN.o];exact HH.o.below hbw3:Jd wr (.slice (some ⟨bv,ov,none⟩) n cv) ss) (by omega) (by rw[←HNN.o];omega);rw[show hi-lo=u by omega] at hsub;have hlv12:lv≤11:=by omega
       have hpart:=Qs5 (lists ss) lv j (by omega) (by rw[Q0,←HNN.o,←HU.o,←HHI.o];exact hlt);have hll:lists ((ss.drop lo).take u)=((lists ss).drop (j*4 ^ lv)).take (4 ^ lv):=by rw[←HU.o,←HLO.o];unfold lists;rw[List.map_take,List.map_drop]
       have hcon:=Qby ((ss.drop lo).take u).length _ _ wr (Nat.le_refl _) hsub (by rw[List.length_take];omega) (fun s hs=>by have:=HZ.o s (List.mem_of_mem_drop (List.mem_of_mem_take hs));omega);rw[hll,hpart] at hcon;have hrow:(Zy (lists ss) lv)[j]?=some (Zq (lists ss) (2*lv) j):=by
        unfold Zy;rw[List.getElem?_map,List.getElem?_range]
        ·rfl
        ·rw[Q0,←HNN.o,←HU.o]
         exact (Nat.le_div_iff_mul_le hu0).2 (by have:=HHI.o;show (j+1)*u≤n;omega)
       have HCON:=zh hcon;have HROW:=zh hrow;have HW3:=zh hbw3;have hcl:¬ cv=lo:=by omega
       have hj1:j+1≤n:=by
        have:=Nat.le_mul_of_pos_right (j+1) hu0
        have:=HHI.o
        omega
       have hdl2:ds2.length≤1099511627776:=by have h1:=HDS3.o;have h2:=congrArg List.length h1;rw[Q0,List.length_map,List.length_take] at h2;omega
       clear hs hsub hpart hll hcon hrow hbw3
       go_wp2_with fail
       refine HCON.o.mono ?_;rintro e w5 ⟨rfl,hb5⟩;have HB5:=zh (HB3.o.trans (hb5.mono (by rw[HBB.o];exact hB3.size)));have HO5:=zh (show Q5 w5 B u4 ds2 from Qn HO3.o hb5);have hws:B≤w5.heap.size:=by rw[HBB.o];exact Nat.le_trans hB3.size hb5.size
       clear hb5
       go_wp2_with (first
        | (at_builtin;refine Y3 rfl _ _ 22 rfl B 9 i0 (.string ⟨#[]⟩) 16 underlying22 hi0 hz0 hs0 hby0 rfl (by decide) u4 ds2.length (ds2.map Value.string) rfl HO5.o _ rfl rfl hdl2 hws ?_;intro v6 w6 hr6 hg6 hne6;have HR6:=zh hr6;have HB6:=zh (HB5.o.grown hg6 hws (fun j hj=>(HO5.o.lt j hj).1));clear hr6 hg6 hne6))
       go_roundg (n-(j+1))
       case measure=>omega
       case rel=>
        refine⟨j+1,by rw[←HHI.o];exact hlt,by omega,by go_num,ds2 ++ [HS (Zq (lists ss) (2*lv) j)],?_,?_,?_⟩
        ·show Q5 _ _ _ _
         unfold Q5;simpa using HR6.o
        ·show lists _=_
         rw[J0,HDS3.o,List.take_add_one,HROW.o,List.map_append];rfl
        ·exact HB6.o
      ·have hltz:¬ (hi:Int)≤(n:Int):=by omega
       have hjd:n / u≤j:=by have h1:n / u<j+1:=(Nat.div_lt_iff_lt_mul hu0).2 (by have:=HHI.o;omega);omega
       have hds:lists ds2=(Zy (lists ss) lv).map fun (x:Hsh)=>x.toList:=by rw[HDS3.o,List.take_of_length_le];unfold Zy;rw[List.length_map,List.length_range,Q0,←HNN.o,←HU.o];exact hjd
       have hlvn:lv<nLev (lists ss).length:=(Qac _ _).2 (by rw[Q0,←HNN.o,←HU.o];exact hun);have hds2:(Zc (lists ss))[lv+1]?=some (lists ds2):=by rw[hds];exact Qdg _ _ hlvn
       have hsz:∀ s∈ds2,s.size≤1048576:=Qhn fun x hx=>by rw[hds] at hx;obtain⟨y,_,rfl⟩:=List.mem_map.1 hx;simp
       have hfl:(Jl (-1) ((Zc (lists ss)).take (lv+1))).length≤12*n:=by
        have h1:=Qnd (k:=n) ((Zc (lists ss)).take (lv+1)) (-1) fun r hr=>by
         have:=Qal (List.mem_of_mem_take hr)
         rw[Q0,←HNN.o] at this;exact this
        have h2:((Zc (lists ss)).take (lv+1)).length*n≤12*n:=Nat.mul_le_mul_right n (by rw[List.length_take];omega);omega
       have hdl:ds2.length≤n:=by have h2:=Qal (List.mem_of_getElem? hds2);rw[Q0,Q0,←HNN.o] at h2;exact h2
       have hu3:Qcj wr u3 (Jl (-1) ((Zc (lists ss)).take (lv+1))):=by have hB3:=HB3.o;rw[HBB.o] at hB3;exact Qn HF.o hB3
       have hcon:=Qog wr u3 _ hu3 (lv:Int) u4 ds2 (Z2 HO3.o (Nat.zero_le _)) (by omega) hsz;have HCON:=zh hcon;have HDS4:=zh hds2;have HLVN:=zh hlvn;clear hds hlvn hds2 hsz hfl hdl hu3 hcon hjd
       go_wp2_with fail
       refine HCON.o.mono ?_;rintro e w5 ⟨v5,rfl,ho5,hf5,hm5⟩;have HO5:=zh ho5;have HF5:=zh hf5;have HM5:=zh hm5;clear ho5 hf5 hm5
       go_wp2_with fail
       have hB3:=HB3.o;rw[HBB.o] at hB3;have hlvl:lv<nLev n:=by have:=HLVN.o;rw[Q0,←HNN.o] at this;exact this
       go_roundg (nLev n-(lv+1))
       case measure=>omega
       case rel=>
        have hbw:=HBF.o.trans (hB3.mono HBF.o.size);refine⟨lv+1,u*4,by omega,by omega,by go_num,by go_num,?_,by omega,by omega,?_,?_,?_⟩
        ·show u*4=4 ^ (lv+1)
         rw[HU.o,Nat.pow_succ]
        ·show Qcj _ _ _
         have hl:((Zc (lists ss)).take (lv+1)).length=lv+1:=by rw[List.length_take,Jv,Q0,←HNN.o];omega
         rw[List.take_add_one,HDS4.o];show Qcj _ _ (Jl (-1) (_ ++ [lists ds2]));rw[Ql8,hl,show (-1:Int)+((lv+1:Nat):Int)=(lv:Int) by omega];exact HO5.o
        ·exact hbw.trans (HF5.o.below hbw.size fun k hk e=>by have:=HNEW.o k e;omega)
        ·show ∀ k,_→_
         intro k hk;rcases HM5.o k hk with h|h
         ·exact HNEW.o k h
         ·exact Nat.le_trans hbw.size h
    ·have hunz:¬ (u:Int)≤(n:Int):=by omega
     go_wp2_with fail
     go_ret;have hlv2:lv=nLev n:=by
      rcases Nat.lt_or_ge lv (nLev n) with h|h
      ·have:=(Qac n lv).1 h
       have:=HU.o
       omega
      ·omega
     refine⟨_,rfl,?_,HBF.o,HNEW.o⟩;have h1:=HF.o;rw[List.take_of_length_le (by rw[Jv,Q0,←HNN.o];omega)] at h1;exact h1
end
section
theorem Qc7 (w:World) (p:Pl) (m:Wm) (h:WdIs w p m) (hn:m.d.files.length≤1000000000000) :
  Calls prog 57 #[.pointer (some ⟨p.gw,0,none⟩)] w fun e w'=>∃ v' l',e=.returned v'∧w'.ownsRow w.heap.size 194 2 v' l'.length (Zh l')∧l'.Perm m.d.files∧Below w.heap.size w w':=by
 obtain⟨⟨c0,_⟩,_⟩:=h.heads;have HC:=zh (Qxy w p.gd p.v m.d h.disk (by omega));obtain⟨i0,hi0,hz0,hs0,hby0⟩:=Qov;have HI:=zh (⟨hi0,hz0,hs0,hby0⟩:_∧_∧_∧_);clear h hi0 hz0 hs0 hby0
 go_enter func57,ntmps57
 go_wp2_with (go_at_call 30;refine HC.o.mono ?_;rintro e w1 ⟨v1,l1,rfl,ho1,hp1,hb1⟩;have HO1:=zh ho1;have HP1:=zh hp1;have HB1:=zh hb1;obtain⟨a1,cp1,rfl⟩:=Zs ho1;have hl1:l1.length≤1000000000000:=(by rw[hp1.length_eq];exact hn);clear ho1 hp1 hb1)
 go_loopw [3,5] (fun s3 s5 wr=>∃ k:Nat,k≤l1.length∧s5=.int .i64 k∧Aside (wr.ownsRow w.heap.size 194 2 s3 (l1.take k).length (Zh (l1.take k)))∧Aside (wr.ownsRow w.heap.size 73 2 (.slice a1 l1.length cp1) l1.length (Zh l1))∧Aside (Below w.heap.size w wr)) (fun _ s5 _=>l1.length-(intOf s5).toNat)
 case atStart=>exact⟨0,Nat.zero_le _,rfl,World.ownsRow_nil _ _ _ _,HO1.o,HB1.o⟩
 case round=>
  obtain⟨k,hk,rfl,HR,HO,HB⟩:=hrel;by_cases hlt:k<l1.length
  ·obtain⟨x,hx⟩:∃ x,l1[k]?=some x:=⟨_,List.getElem?_eq_getElem hlt⟩
   obtain⟨b1,rfl⟩:∃ b1,a1=some ⟨b1,0,none⟩:=by
    rcases HO.o.2 with ⟨_,h0⟩|⟨b,cap,cur,e,_⟩
    ·omega
    ·simp at e;exact⟨b,e.1⟩
   obtain⟨f1,f2⟩:=J8 l1 k x hx;have k1:=Qlq HO.o (k*2) _ f1;have k2:=Qlq HO.o (k*2+1) _ f2;rw[Addr.add_lit] at k1 k2;simp only[Nat.zero_add] at k1 k2;have hlt1:=Qk k1;obtain⟨ln,hln⟩:∃ ln,ln=(l1.take k).length:=⟨_,rfl⟩
   have hlk:ln=k:=by rw[hln,List.length_take];omega
   have hrow:wr.ownsRow w.heap.size 194 2 u3 ln (Zh (l1.take k)):=by rw[hln];exact HR.o
   have HROW:=zh hrow;have HX:=zh hx;have HLK:=zh hlk;have hln2:ln+1≤1099511627776:=by omega
   have hkz:(0:Int)≤(k:Int):=by omega
   have hkl:(k:Int)<(l1.length:Int):=by omega
   have hz:=HB.o.size;clear hln hx hlk hrow f1 f2
   go_wp2_with fail
   go_region_law (refine Qeg rfl _ _ _ rfl w.heap.size 194 i0 _ 2 32 underlying123 HI.o.1 HI.o.2.1 HI.o.2.2.1 HI.o.2.2.2 rfl (by decide) (by decide) u3 ln _ rfl (Qn HROW.o ((Ql wr).alloc (Nat.le_refl _) _)) ⟨wr.heap.size,0,none⟩ 1 1 [.string x.1,.string x.2] rfl rfl (Qeq _ _ _ _ _ rfl) (by simp[Value.oneCell']) (by decide) hln2 (by simp;omega) ?_;intro v' w' h2 h3 h4 h5;have H2:=zh h2;have H3:=zh h3;clear h2 h3 h4 h5)
   all_goals (
    go_wp2_with fail
    go_roundw
    case rel=>
     refine⟨k+1,by omega,by go_num,?_,?_,?_⟩
     ·have h1:=H2.o
      have e:l1.take (k+1)=l1.take k ++ [x]:=by rw[List.take_add_one,HX.o];rfl
      have h0:(l1.take k).length=k:=by rw[List.length_take];omega
      show w'.ownsRow _ _ _ v' _ _
      rw[e,Qcp,List.length_append,List.length_singleton,h0]
      have h2:=HLK.o
      rw[h2] at h1
      exact h1
     ·exact Zb (Qn HO.o ((Ql wr).alloc (Nat.le_refl _) _)) (Fr.ofGrown (S:=fun k=>u3.ownBlock=some k) H3.o fun k _ e=>e) fun k hk e=>by
       obtain⟨C,hC⟩:=Qh HO.o hk
       obtain⟨C',hC'⟩:=Qh HROW.o e
       exact Zp hC hC' (by decide) rfl
     ·have hb1:Below w.heap.size w (wr.drew.alloc (.cells #[.string x.1,.string x.2] 194)):=(HB.o.drew).alloc hz _
      exact hb1.grown H3.o hb1.size fun j hj=>(HROW.o.lt j hj).1
    case measure=>simp[intOf];omega)
  ·have hlt':¬ (k:Int)<(l1.length:Int):=by omega
   have hkl:k=l1.length:=by omega
   have HK:=zh hkl;clear hkl;go_wp2;go_ret;refine⟨u3,rfl,l1,?_,HP1.o,HB.o⟩;have h1:=HR.o;rw[HK.o,List.take_length] at h1;exact h1
end
section
variable {w:World} {t:Nat} {v:Value}
theorem Qqk {g i:Nat} {x y:Value} (h:w.cell? ⟨g,i,none⟩=some v) (hne:g≠t):((w.setCell ⟨t,0,none⟩ x).setCell ⟨t,1,none⟩ y).cell? ⟨g,i,none⟩=some v:=
 ((Fr.set1 w t 0 x).set 1 y).cell h hne
variable {gd B:Nat} {d:Dk} {key:ByteArray} {e:Ending} {w':World}
theorem Q6k (h:Qp6 w gd v d key B e w'):∃ (lv:Value) (k:Int) (p:ByteArray),e=.returned (.tuple #[lv,Jn k p]):=by
 obtain⟨d',_,_,⟨p,_,rfl⟩|⟨k,p,_,_,rfl⟩|⟨es,n,gl,g,_,_,rfl,_⟩⟩:=h
 ·exact⟨_,_,_,rfl⟩
 ·exact⟨_,_,_,rfl⟩
 ·exact⟨_,_,_,rfl⟩
theorem Q7f (h:Qp6 w gd v d key B e w'):Fr (·=gd) w w':=by obtain⟨d',_,h2,_⟩:=h;exact h2
def Q7w (w:World) (gd:Nat) (v:Value) (d:Dk) (key:ByteArray) (B:Nat) (lv:Value) (t:Nat) (w':World):Prop:=
 ∃ (d':Dk) (k:Int) (p:ByteArray),Q3 w' gd v d'∧Fr (·=gd) w w'∧Z4 w' t k p∧w.heap.size≤t∧
  ((Hurt B d d'∧lv=.pointer none∧k=8)∨
     (∃ kn:Nat,Calm B d d'∧Yf d.files key (.bad kn p)∧lv=.pointer none∧k=kn)∨
     (∃ es n gl g,Calm B d d'∧Yf d.files key (.good es n)∧lv=.pointer (some ⟨gl,0,none⟩)∧k=0∧PlIs w' gl g∧w.heap.size≤gl∧Qg8 w gd key es g w'))
variable {k:Int} {p:ByteArray}
theorem Qmm {k':Int} {p':ByteArray} {a b:Value} (h:Ending.returned (.tuple #[a,Jn k p])=.returned (.tuple #[b,Jn k' p'])):a=b∧k=k'∧p=p':=by simp at h;exact⟨h.1,h.2.1,h.2.2⟩
variable {w7:World}
theorem Q5e {W w8:World} {lv:Value} (hW:Below w.heap.size w W) (hg:gd<w.heap.size) (h:Qp6 W gd v d key B (.returned (.tuple #[lv,Jn k p])) w7) (h8:Below w7.heap.size w7 w8)
  (ht:Z4 w8 t 0 ⟨#[]⟩) (htw:w.heap.size≤t):Q7w w gd v d key B lv t ((w8.setCell ⟨t,0,none⟩ (.int .i64 k)).setCell ⟨t,1,none⟩ (.string p)):=by
 obtain⟨d',hD,hF,hR⟩:=h;have ts:=Qdv (m:=k) (t:=p) ht;have hk:=Qw ht;refine⟨d',k,p,(hD.below h8).kept ts.2 hk (by decide) (by decide),?_,ts.1,htw,?_⟩
 ·exact ((Fr.ofBelow hW).trans (hF.trans (Fr.ofBelow h8))).step ts.2 fun i hi e=>by subst e;omega
 ·rcases hR with ⟨p',h1,he⟩|⟨kn,p',h1,h2,he⟩|⟨es,n,gl,g,h1,h2,he,h3,h4,h5⟩
  ·obtain⟨e1,e2,e3⟩:=Qmm he
   exact .inl ⟨h1,e1,e2⟩
  ·obtain⟨e1,e2,e3⟩:=Qmm he
   exact .inr (.inl ⟨kn,h1,by rw[e3];exact h2,e1,e2⟩)
  ·obtain⟨e1,e2,e3⟩:=Qmm he
   refine .inr (.inr ⟨es,n,gl,g,h1,h2,e1,e2,?_,Nat.le_trans hW.size h4,?_⟩)
   ·exact Ze ((h8.block _ (Qc h3)).trans h3) ts.2 hk (by decide)
   ·obtain⟨ve,vl,vs,a,b,c⟩:=(h5.below h8).kept ts.2 hk (by decide) (by decide)
    exact⟨ve,vl,vs,a,Nat.le_trans hW.size b,fun i hi=>Nat.le_trans hW.size (c i hi)⟩
theorem Qyt (w:World) (k:Int) (p:ByteArray):w.alloc (.cells #[.int .i64 k,.string p] 29)=((w.alloc (.cells #[.int .i64 0,.string ⟨#[]⟩] 29)).setCell ⟨w.heap.size,0,none⟩ (.int .i64 k)).setCell ⟨w.heap.size,1,none⟩ (.string p):=by rw[World.setCell_alloc_at _ _ _ _ _ rfl,World.setCell_alloc_at _ _ _ _ _ rfl];simp
theorem Qwh {w1:World} (hD:Q3 w1 gd v d) (hF:Fr (·=gd) (w1.alloc (.cells #[.int .i64 0,.string ⟨#[]⟩] 29)).drew w7):Z4 w7 w1.heap.size 0 ⟨#[]⟩:=
 Ze (w:=(w1.alloc (.cells #[.int .i64 0,.string ⟨#[]⟩] 29)).drew) (Qch w1) hF (Qw (hD.below ((Qa w1 _).drew)).1) (by decide)
def Qgh (Q:Wm→Prop) (w:World) (p:Pl) (m:Wm) (U:List Nat) (K:Nat) (e:Ending) (w':World):Prop:=
 e=.returned (.bool true)∧∃ p' m',p'.gw=p.gw∧m'.key=m.key∧WdIs w' p' m'∧Q47 m' U K∧Fr (WdS p m) w w'∧Sub w (WdS p m) (WdS p' m')∧p'.gd=p.gd∧Q m'
variable {m:Wm}
theorem Q3r {p:Pl} {k:Nat} (h:k=p.gd):WdS p m k:=.inr (.inl (.inl h))
theorem WdIs.gg {p:Pl} (h:WdIs w p m):¬ p.gw=p.gd:=fun e=>Zp h.cells h.disk.1 (by decide) e
end
section
variable {l:List Fil} {key:ByteArray} {w w':World}
theorem Q5m {e:Ending} (h:Qt4 l key w e w'):∃ (ve:Value) (n k:Int) (p:ByteArray),e=.returned (.tuple #[ve,.int .i64 n,.int .i64 k,.string p]):=by
 rcases h.2 with ⟨k,p,_,rfl⟩|⟨n,v,ss,_,_,rfl,_⟩
 ·exact⟨_,_,_,_,rfl⟩
 ·exact⟨_,_,_,_,rfl⟩
variable {p:ByteArray}
theorem Q1c {ve:Value} {n k:Int} (h:Qt4 l key w (.returned (.tuple #[ve,.int .i64 n,.int .i64 k,.string p])) w') :
  (∃ kn:Nat,Yf l key (.bad kn p)∧k=kn)∨∃ (nn:Nat) (ss:List ByteArray),Yf l key (.good (lists ss) nn)∧n=nn∧k=0∧Q5 w' w.heap.size ve ss:=by
 rcases h.2 with ⟨kn,p',h1,he⟩|⟨nn,v,ss,_,h1,he,h2⟩
 ·simp at he
  obtain⟨_,_,rfl,rfl⟩:=he;exact .inl ⟨kn,h1,rfl⟩
 ·simp at he
  obtain⟨rfl,rfl,rfl,rfl⟩:=he;exact .inr ⟨nn,ss,h1,rfl,rfl,h2⟩
theorem Q0t {k:Nat} (h:Yf l key (.bad k p)):0<k:=by cases h <;> decide
set_option maxHeartbeats 8000000 in
theorem Q3n (f:Nat→Addr) (w:World) (p:Pl) (m:Wm) (U:List Nat) (K:Nat) (h:WdIs w p m) (hG:Good m U K) (hfo:m.foreign=false) (hE:EnvS f (WdS p m) w) (hU:U.length≤16384) (hK:K≤800000000000) (hkey:m.key.size≤1048600) :
  Calls prog 31 #[.pointer (some ⟨p.gw,0,none⟩)] w (Qgh (Q7p m) w p m U (K+1048576)):=by
 have hgg:=h.gg;have hfl:m.d.files.length≤1000000000000:=by have:=hG.sane.len;omega
 obtain⟨⟨c0,c1,_⟩,cf⟩:=h.heads;have HM:=zh (Q4m w p.gd p.v m.d h.disk);have HH:=zh h;have HG:=zh hG;have HE:=zh hE;have HFO:=zh hfo;clear h hG hE hfo
 go_enter func31,ntmps31
 go_wp2_with (go_at_call 17;refine HM.o.mono ?_;rintro e w1 ⟨rfl,hd1,hf1⟩;have HD1:=zh hd1;have HF1:=zh hf1;clear hd1 hf1)
 have h1:WdIs w1 p { m with d:=Qiz m.d }:=HH.o.diskStep HD1.o (Q73 HF1.o);have HW1:=zh (Qc7 w1 p { m with d:=Qiz m.d } h1 hfl);have H1:=zh h1;obtain⟨⟨d0,d1,_⟩,df⟩:=h1.heads;clear h1
 go_upto_region 3 with (first|(go_at_call 57;refine HW1.o.mono ?_;rintro e w2 ⟨v2,l2,rfl,ho2,hp2,hb2⟩;have HO2:=zh ho2;have HP2:=zh hp2;have HB2:=zh hb2;obtain⟨a2,cp2,rfl⟩:=Zs ho2;clear ho2 hp2 hb2)|fail)
 have h2:=H1.o.below HB2.o;obtain⟨⟨e0,e1,_⟩,ef⟩:=h2.heads;have hgf:getF l2=getF m.d.files:=Qdn HG.o.sane.once HP2.o;have hfew2:FewB l2 U.length:=Q5o hgf (HG.o.sane.few (by omega));have HRO:=zh (Qs3 w2 (.slice a2 l2.length cp2) l2 m.key (Yb HO2.o) (by rw[HP2.o.length_eq];exact Nat.le_trans hfl (by decide)) (fun x hx=>HG.o.sane.size x (HP2.o.mem_iff.1 hx)) hkey U.length hfew2 (by omega));have H2:=zh h2;have HGF:=zh hgf;clear h2 hgf hfew2 d0 d1 df
 go_upto_region 4 with (first|(go_at_call 58;refine HRO.o.mono ?_;intro e w3 h3;obtain⟨ve,nn,rk,rp,rfl⟩:=Q5m h3;have HR3:=zh h3;clear h3)|fail)
 have h3:=H2.o.below HR3.o.1;obtain⟨⟨p0,p1,_⟩,pf⟩:=h3.heads;have hop:=fun (W:World) (hb:Below w3.heap.size w3 W)=>Q0g f W p.gd p.v (Qiz m.d) m.key (h3.disk.below hb) U.length
  (((((HE.o.fr (HF1.o.weak fun _ _ e=>Q3r e)).below HB2.o).below HR3.o.1).below hb).less fun k e=>Q3r e) (HG.o.sane.few (by omega)) (by omega) (by have:=HG.o.sane.calls;show m.d.calls<_;omega) HG.o.sane.size (Nat.le_trans hkey (by decide))
 have HOP:=zh hop;have H3:=zh h3;have HD3:=zh h3.disk;have pb:=Qk p0;have pbn:p.gw<w3.heap.size:=pb;have pa0:(w3.alloc (.cells #[.int .i64 0,.string ⟨#[]⟩] 29)).drew.cell? ⟨p.gw,0,none⟩=some (.pointer (some ⟨p.gd,0,none⟩)):=((Qa w3 _).cell (p:=⟨p.gw,0,none⟩) pb).trans p0;have pa1:(w3.alloc (.cells #[.int .i64 0,.string ⟨#[]⟩] 29)).drew.cell? ⟨p.gw,1,none⟩=some (.string m.key):=((Qa w3 _).cell (p:=⟨p.gw,1,none⟩) pb).trans p1;have pd0:w3.drew.cell? ⟨p.gw,0,none⟩=some (.pointer (some ⟨p.gd,0,none⟩)):=p0;have pd1:w3.drew.cell? ⟨p.gw,1,none⟩=some (.string m.key):=p1;have mne:p.gw≠w3.heap.size:=Nat.ne_of_lt pb;clear h3 hop
 go_cut [8,9] from 31 to 41 (fun s8 s9 wx=>∃ (lv:Value) (t:Nat),s8=lv∧s9=.pointer (some ⟨t,0,none⟩)∧Aside (Q7w w3 p.gd p.v (Qiz m.d) m.key (8*U.length+16) lv t wx))
 case first=>
  go_region_held3 (fun w'=>w'.cell? ⟨p.gw,0,none⟩=some (.pointer (some ⟨p.gd,0,none⟩))∧w'.cell? ⟨p.gw,1,none⟩=some (.string m.key)) (first|with_reducible exact⟨p0,p1⟩|with_reducible exact⟨pd0,pd1⟩|with_reducible exact⟨pa0,pa1⟩|with_reducible exact⟨m0,m1⟩|exact⟨Qqk m0 mne,Qqk m1 mne⟩|exact⟨((Qa w7 _).cell (p:=⟨p.gw,0,none⟩) mb).trans m0,((Qa w7 _).cell (p:=⟨p.gw,1,none⟩) mb).trans m1⟩|exact⟨Qqk (((Qa w7 _).cell (p:=⟨p.gw,0,none⟩) mb).trans m0) (Nat.ne_of_lt mb),Qqk (((Qa w7 _).cell (p:=⟨p.gw,1,none⟩) mb).trans m1) (Nat.ne_of_lt mb)⟩|fail) (first|(go_at_call 10;refine Calls.mono (HOP.o _ (by first|exact Ql _|exact (Qa _ _).drew)) ?_;intro e w7 h7;obtain⟨lv,kk,pth,rfl⟩:=Q6k h7;have H7:=zh h7;have HF7:=zh (Q7f h7);have m0:=HF7.o.cell (by first|(with_reducible first|exact pd0|exact pa0)) (show ¬ p.gw=p.gd from hgg);have m1:=HF7.o.cell (by first|(with_reducible first|exact pd1|exact pa1)) (show ¬ p.gw=p.gd from hgg);have mb:=Qk m0;(first|(have hff:Fr (·=p.gd) (w3.alloc (.cells #[.int .i64 0,.string ⟨#[]⟩] 29)).drew w7:=(by with_reducible exact HF7.o);obtain⟨t0,t1,t2,t3,t4⟩:=(Qwh HD3.o hff).facts;clear hff)|skip);clear h7)|fail)
  all_goals (
   go_wp2_with fail
   go_meet
   first
    | exact⟨lv,w3.heap.size,rfl,rfl,Q5e ((Qa _ _).drew) HD3.o.lt H7.o (Below.refl _ _) (Qwh HD3.o HF7.o) (Nat.le_refl _)⟩
    | exact⟨lv,w7.heap.size,rfl,rfl,by rw[Qyt];exact Q5e (Ql _) HD3.o.lt H7.o (Qa _ _) (Qch w7) HF7.o.size⟩)
 case rest=>
  obtain⟨lv,t,rfl,rfl,d',k,pth,hD,hF,hT,htw,hR⟩:=hcut;have hR2:Calm (8*U.length+16) (Qiz m.d) d'∧((∃ kn:Nat,Yf m.d.files m.key (.bad kn pth)∧u8=.pointer none∧k=kn)∨
    ∃ es n gl g,Yf m.d.files m.key (.good es n)∧u8=.pointer (some ⟨gl,0,none⟩)∧k=0∧PlIs wc gl g∧w3.heap.size≤gl∧Qg8 w3 p.gd m.key es g wc):=by
   rcases hR with ⟨c,_⟩|⟨kn,c,h1,h2,h3⟩|⟨es,n,gl,g,c,h1,h2,h3,h4,h5,h6⟩
   ·exact (Qpp c).elim
   ·exact⟨c,.inl ⟨kn,h1,h2,h3⟩⟩
   ·exact⟨c,.inr ⟨es,n,gl,g,h1,h2,h3,h4,h5,h6⟩⟩
  obtain⟨hcalm,hR3⟩:=hR2;have h4:WdIs wc p { m with d:=d' }:=H3.o.diskStep hD (Q73 hF);have hfd:d'.files=m.d.files:=hcalm.files;have HW4:=zh (Qc7 wc p { m with d:=d' } h4 (by show d'.files.length≤_;rw[hfd];exact hfl));have HT:=zh hT;have HF:=zh hF;have HCALM:=zh hcalm;have H4:=zh h4;have HFD:=zh hfd;have hgt:¬ p.gw=t:=by omega
  have hgt':¬ t=p.gw:=fun e=>hgt e.symm
  have hgg':¬ p.gd=p.gw:=fun e=>hgg e.symm
  clear hD hF hT hR hcalm h4 hfd p0 p1 pf pd0 pd1 pa0 pa1 mne
  go_upto_region 6 with (first|(go_at_call 57;refine HW4.o.mono ?_;rintro e w4 ⟨v4,l4,rfl,ho4,hp4,hb4⟩;have HO4:=zh ho4;have HP4:=zh hp4;have HB4:=zh hb4;obtain⟨a4,cp4,rfl⟩:=Zs ho4;clear ho4 hp4 hb4)|fail)
  have h5:=H4.o.below HB4.o;obtain⟨⟨q0,q1,q2,q3,q4,q5,q6⟩,qf⟩:=h5.heads;obtain⟨⟨_,_,_,_,_,_,_,s7⟩,_⟩:=h5.disk.cells;obtain⟨t0,t1,_,_,_⟩:=(HT.o.below HB4.o).facts;have hle:((l2.length:Int) == (l4.length:Int))=true:=by rw[HP4.o.length_eq,HP2.o.length_eq,HFD.o];exact beq_self_eq_true _
  have hle2:(!((l2.length:Int) == (l4.length:Int)))=false:=by rw[hle];rfl
  have H5:=zh h5;have hgb:=Qk q0;have hturn:d'.turned=false:=HCALM.o.turned.trans HG.o.sane.turned;rw[hturn] at s7;have hfr:Fr (WdS p m) w w4:=(HF1.o.weak fun _ _ e=>Q3r e).trans ((Fr.ofBelow (HB2.o.trans (HR3.o.1.mono HB2.o.size))).trans ((HF.o.weak fun _ _ e=>Q3r e).trans (Fr.ofBelow HB4.o)));have HFR:=zh hfr;have hz3:w.heap.size≤w3.heap.size:=Nat.le_trans HF1.o.size (Nat.le_trans HB2.o.size HR3.o.1.size);have hz2:w.heap.size≤w2.heap.size:=Nat.le_trans HF1.o.size HB2.o.size;have HC:=zh (Q1c HR3.o);have HRR:=zh hR3;clear h5 hturn hfr hR3;rcases HC.o with ⟨kn,ho,hrk⟩|⟨nn',ss,ho,hnn,hrk,hown⟩
  ·have ho2:=Qnc HGF.o ho
   have hpos:=Q0t ho2;rcases HRR.o with ⟨kn2,ho3,hlv,hk⟩|⟨es,n,gl,g,ho3,_⟩
   ·have hone:=ho3.one ho2
    simp only[Opn.bad.injEq] at hone;obtain⟨rfl,rfl⟩:=hone;subst hlv;subst hk;subst hrk;have hkz:((kn2:Int) == 0)=false:=by rw[beq_eq_false_iff_ne];omega
    have hkz':¬ (kn2:Int)=0:=by omega
    have HOQ:=zh ho2;clear ho ho2 ho3 hpos HC HRR;go_wp2;go_ret;have hown:=H5.o.ownStep (p':=p) (m':=⟨m.key,d',none,m.es,m.pub,false,m.foreign⟩) ((Fr.set1 w4 p.gw 2 (.pointer none)).set 5 (.bool false)) ((heap_setCell (heap_setCell H5.o.cells _) _).trans (by simp[Qc9,plV])) ⟨rfl,rfl,rfl,rfl⟩ H5.o.ents (fun L hL=>by cases hL);refine⟨rfl,p,⟨m.key,d',none,m.es,m.pub,false,m.foreign⟩,rfl,rfl,hown,.inr ⟨HFO.o,(Q1s HG.o HCALM.o m.foreign).bound (by omega)⟩,?_,?_,rfl,d',_,HCALM.o,.inr ⟨⟨_,_,HOQ.o⟩,rfl⟩⟩
    ·exact HFR.o.trans (((Fr.set1 w4 p.gw 2 (.pointer none)).set 5 (.bool false)).weak fun _ _ e=>.inl e)
    ·intro i hi
     rcases hi with hi|hi|hi|⟨hi,_⟩
     ·exact .inl (.inl hi)
     ·exact .inl (.inr (.inl hi))
     ·exact .inl (.inr (.inr (.inl hi)))
     ·cases hi
   ·have:=ho3.one ho2
    cases this
  ·have ho2:=Qnc HGF.o ho
   rcases HRR.o with ⟨kn2,ho3,hlv,hk⟩|⟨es,n,gl,g,ho3,hlv,hk,hpl,hgl,hfresh⟩
   ·have:=ho3.one ho2
    cases this
   ·have hone:=ho3.one ho2
    simp only[Opn.good.injEq] at hone;obtain⟨rfl,rfl⟩:=hone;subst hlv;subst hk;subst hrk;subst hnn;obtain⟨qve,qvl,qvs,hlog,hgb2,hsb⟩:=hfresh;have hownc:Q5 wc w2.heap.size ve ss:=Zi hown HF.o (Qw HD3.o.1) (by decide);have hown4:Q5 w4 0 ve ss:=Z2 (Qn hownc HB4.o) (Nat.zero_le _);have hlog4:=hlog.below HB4.o;have hpl4:PlIs w4 gl g:=(HB4.o.block _ (Qc hpl)).trans hpl;have hveb:∀ i,ve.ownBlock=some i→w.heap.size≤i:=fun i hi=>Nat.le_trans hz2 (hownc.lt i hi).1
    obtain⟨ae,ce,rfl⟩:=Zs hown4;have hstep:=H5.o.ownStep (p':={ p with en:=.slice ae ss.length ce,gl:=gl,g:=g,ve:=qve,vl:=qvl,vp:=.slice none 0 0,vs:=qvs }) (m':=⟨m.key,d',some ⟨m.key,lists ss,levels (lists ss),[],false⟩,ss,n,false,m.foreign⟩)
     ((((Fr.set1 w4 p.gw 2 (.pointer (some ⟨gl,0,none⟩))).set 5 (.bool false)).set 3 (.slice ae ss.length ce)).set 4 (.int .i64 n))
     ((heap_setCell (heap_setCell (heap_setCell (heap_setCell H5.o.cells _) _) _) _).trans (by simp[Qc9,plV])) ⟨rfl,rfl,rfl,rfl⟩ hown4 (fun L hL=>by cases hL;exact⟨hpl4,hlog4⟩)
    have HSTEP:=zh hstep;have hps:=Q1e _ gl g p.gd _ _ _ _ _ (hstep.log _ rfl).1 (hstep.log _ rfl).2;have hlen:((lists ss).length:Int)=(ss.length:Int):=by simp[lists]
    dsimp only at hps;rw[hlen] at hps;have HPS:=zh hps;have HVE:=zh hveb;have HSB:=zh hsb;have HO2':=zh ho2;clear hown hownc hown4 hlog hlog4 hpl hpl4 hstep hps hlen hveb ho ho2 ho3 HC HRR hsb
    go_wp2_with (first|(go_at_call 11;refine HPS.o.mono ?_;rintro e w9 ⟨rfl,rfl⟩)|fail)
    all_goals (first|exact absurd (eq_of_beq hle) (by assumption)|skip)
    go_ret;refine⟨rfl,{ p with en:=.slice ae ss.length ce,gl:=gl,g:=g,ve:=qve,vl:=qvl,vp:=.slice none 0 0,vs:=qvs },⟨m.key,d',some ⟨m.key,lists ss,levels (lists ss),[],false⟩,ss,n,false,m.foreign⟩,rfl,rfl,HSTEP.o,.inr ⟨HFO.o,(Q06 HG.o (by omega) HCALM.o HO2'.o m.foreign).bound (by omega)⟩,?_,?_,rfl,d',_,HCALM.o,.inl ⟨ss,n,HO2'.o,rfl⟩⟩
    ·exact HFR.o.trans (((((Fr.set1 w4 p.gw 2 (.pointer (some ⟨gl,0,none⟩))).set 5 (.bool false)).set 3 (.slice ae ss.length ce)).set 4 (.int .i64 n)).weak fun _ _ e=>.inl e)
    ·intro i hi
     rcases hi with hi|hi|hi|⟨_,hi|hi⟩
     ·exact .inl (.inl hi)
     ·exact .inl (.inr (.inl hi))
     ·exact .inr (HVE.o i hi)
     ·exact .inr (by subst hi;exact Nat.le_trans hz3 hgl)
     ·exact .inr (Nat.le_trans hz3 (HSB.o i hi))
end
section
def Qgu (w:World) (g gd:Nat) (v ve vl vp:Value) (vs:List Value) (d:Dk) (L:Lg) (e:Ending) (w':World):Prop:=
 if L.failed=true then e=.returned (.tuple #[.int .i64 0,Jn 7 ⟨#[]⟩])∧Below w.heap.size w w'
 else ∃ v' vp' Q,Q=pubD L.entries L.key L.put d∧Q3 w' gd v' Q.1∧Zn w' g gd ve vl vp' vs { L with put:=Q.2.1,failed:=Q.2.2.isSome }∧Fr (Jo g gd v ve vl vp vs) w w'∧Sub w (Jo g gd v ve vl vp vs) (Jo g gd v' ve vl vp' vs)∧
  ((Q.2.2=none∧e=.returned (.tuple #[.int .i64 L.entries.length,Jn 0 ⟨#[]⟩]))∨∃ p,Q.2.2=some p∧e=.returned (.tuple #[.int .i64 0,Jn 8 p]))
theorem Qwm {w w0 w1 w2 w3:World} {g gd:Nat} {v ve vl vp v' vp':Value} {vs:List Value} {L L':Lg} {d d':Dk} (hw0:w0=w.alloc (.cells #[.int .i64 0,.string ⟨#[]⟩] 29)) (hl:Zn w0 g gd ve vl vp vs L) (hd:Q3 w0 gd v d)
  (hbs:∀ k,Jo g gd v ve vl vp vs k→k<w.heap.size) (hD:Q3 w1 gd v' d') (hL:Zn w1 g gd ve vl vp' vs L') (hF:Fr (Jo g gd v ve vl vp vs) w0 w1) (hS:Sub w0 (Jo g gd v ve vl vp vs) (Jo g gd v' ve vl vp' vs)) (h2:Below w1.heap.size w1 w2) :
  Z4 w2 w.heap.size 0 ⟨#[]⟩∧∀ n s,w3=(w2.setCell ⟨w.heap.size,0,none⟩ (.int .i64 n)).setCell ⟨w.heap.size,1,none⟩ (.string s)→
   Q3 w3 gd v' d'∧Zn w3 g gd ve vl vp' vs L'∧Fr (Jo g gd v ve vl vp vs) w w3∧Sub w (Jo g gd v ve vl vp vs) (Jo g gd v' ve vl vp' vs):=by
 have t0:Z4 w0 w.heap.size 0 ⟨#[]⟩:=by rw[hw0];exact Qch w
 have t1:Z4 w1 w.heap.size 0 ⟨#[]⟩:=t0.kept hF ((Qb8 hd).or (Qfp hl)) (by decide);have t2:=t1.below h2;have hb0:Below w.heap.size w w0:=by rw[hw0];exact Qa w _
 refine⟨t2,fun n s e=>?_⟩;have ts:=Qdv (m:=n) (t:=s) t2;rw[←e] at ts;have hk2:=Qw t2;refine⟨(hD.below h2).kept ts.2 hk2 (by decide) (by decide),(hL.below h2).kept ts.2 hk2 (by decide) (by decide),?_,hS.mono hb0.size⟩;exact ((Fr.ofBelow hb0).trans (hF.trans (Fr.ofBelow h2))).step ts.2 fun k hk e=>by subst e;omega
theorem Qrq (f:Nat→Addr) (w:World) (gl g gd:Nat) (v ve vl vp:Value) (vs:List Value) (d:Dk) (L:Lg) (hp:PlIs w gl g) (h:Zn w g gd ve vl vp vs L) (hD:Q3 w gd v d) (hE:EnvS f (Jo g gd v ve vl vp vs) w) (hlv:L.levels=levels L.entries) (hn:L.entries.length≤1048576)
  (hs:∀ e∈L.entries,e.length≤20) (hm:Qdw (Zc L.entries) L.put) (hc:d.calls<900000000000) (hfl:d.files.length<900000000000) (hkey:L.key.size≤9223372036854775807) :
  Calls prog 15 #[.pointer (some ⟨gl,0,none⟩)] w (Qgu w g gd v ve vl vp vs d L):=by
 obtain⟨w0,hw0⟩:∃ w0,w0=w.alloc (.cells #[.int .i64 0,.string ⟨#[]⟩] 29):=⟨_,rfl⟩
 have hb0:Below w.heap.size w w0:=by rw[hw0];exact Qa w _
 have hbs:∀ k,Jo g gd v ve vl vp vs k→k<w.heap.size:=fun k hk=>Qk4 h hD hk
 have h0:=h.below hb0;have hD0:=hD.below hb0;have hp0:PlIs w0 gl g:=(hb0.block _ (Qc hp)).trans hp;have c0:=Qd hp 0 rfl;have hgl:=Qc hp;have HB0:=zh hb0;have HE:=zh (hE.below hb0);have HL:=zh h0;have HD:=zh hD0;have HBS:=zh hbs;have HC:=zh (Qts f w0 g gd v ve vl vp vs d L h0 hD0 (hE.below hb0) hlv hn hs hm hc hfl hkey);have HT:=zh (show Z4 w0 w.heap.size 0 ⟨#[]⟩ by rw[hw0];exact Qch w);have HW0:=zh hw0;clear hp h hD hE hlv hs hm hb0 hbs h0 hD0 hp0 hw0
 go_enter func15,ntmps15
 go_wp2_with fail
 rw[←HW0.o]
 go_at_call 40
 refine HC.o.mono ?_;intro e w1 h1;unfold Qfm at h1;by_cases hf:L.failed=true
 ·rw[if_pos hf] at h1
  obtain⟨rfl,hb⟩:=h1;have hx0:=Qjn f w1 (HE.o.below hb).sents 6 (by decide) (by decide);rw[show ((Qcn 6:Nat):Int)=7 from rfl] at hx0;have HX:=zh hx0;clear hx0;have HB:=zh hb;have HF:=zh hf;clear hb hf
  go_wp2_with (go_at_call 37;refine HX.o.mono ?_;rintro e w2 ⟨rfl,hb2⟩;have HB2:=zh hb2;clear hb2;obtain⟨t0,t1,t2,t3,t4⟩:=((HT.o.below HB.o).below HB2.o).facts)
  refine bodyPost_ret (v:=.tuple #[.int .i64 0,Jn 7 ⟨#[]⟩]) (by simp[results,results15,go_sem,t0,t1]) rfl ?_;unfold Qgu;rw[if_pos HF.o];have hz:w.heap.size≤w1.heap.size:=Nat.le_trans HB0.o.size HB.o.size;exact⟨rfl,(((HB0.o.trans (HB.o.mono HB0.o.size)).trans (HB2.o.mono hz)).setCell (Nat.le_refl _) _).setCell (Nat.le_refl _) _⟩
 ·rw[if_neg hf] at h1
  obtain⟨v',vp',Q,hQ,h2,h3,h4,h5,h6⟩:=h1;have HQ:=zh hQ;have H2:=zh h2;have H3:=zh h3;have H4:=zh h4;have H5:=zh h5;have HF:=zh hf;have hE1:=HE.o.step h4 h5;have HE1:=zh hE1;clear hQ h2 h3 h4 h5 hf hE1;rcases h6 with ⟨h7,rfl⟩|⟨p,r,u,m,h7,rfl,_,_,h8,h9⟩
  ·have H7:=zh h7
   have HX:=zh (Qwe f w1 HE1.o.sents);clear h7
   go_wp2_with (go_at_call 37;refine HX.o.mono ?_;rintro e w2 ⟨rfl,hb2⟩;have HB2:=zh hb2;clear hb2;obtain⟨ht2,hen⟩:=Qwm (w3:=(w2.setCell ⟨w.heap.size,0,none⟩ (.int .i64 0)).setCell ⟨w.heap.size,1,none⟩ (.string ⟨#[]⟩)) HW0.o HL.o HD.o HBS.o H2.o H3.o H4.o H5.o HB2.o;have HEN:=zh (hen 0 _ rfl);obtain⟨t0,t1,t2,t3,t4⟩:=ht2.facts;clear ht2 hen)
   refine bodyPost_ret (v:=.tuple #[.int .i64 L.entries.length,Jn 0 ⟨#[]⟩]) (by simp[results,results15,go_sem,t0,t1]) rfl ?_;unfold Qgu;rw[if_neg HF.o];exact⟨v',vp',Q,HQ.o,HEN.o.1,HEN.o.2.1,HEN.o.2.2.1,HEN.o.2.2.2,.inl ⟨H7.o,rfl⟩⟩
  ·have H7:=zh h7
   have HX:=zh (Q45 f w1 HE1.o.sents HE1.o.errT r u p h9);clear h7 h8 h9
   go_wp2_with (go_at_call 37;refine HX.o.mono ?_;rintro e w2 ⟨rfl,hb2⟩;have HB2:=zh hb2;clear hb2;obtain⟨ht2,hen⟩:=Qwm (w3:=(w2.setCell ⟨w.heap.size,0,none⟩ (.int .i64 8)).setCell ⟨w.heap.size,1,none⟩ (.string p)) HW0.o HL.o HD.o HBS.o H2.o H3.o H4.o H5.o HB2.o;have HEN:=zh (hen 8 p rfl);obtain⟨t0,t1,t2,t3,t4⟩:=ht2.facts;clear ht2 hen)
   refine bodyPost_ret (v:=.tuple #[.int .i64 0,Jn 8 p]) (by simp[results,results15,go_sem,t0,t1]) rfl ?_;unfold Qgu;rw[if_neg HF.o];exact⟨v',vp',Q,HQ.o,HEN.o.1,HEN.o.2.1,HEN.o.2.2.1,HEN.o.2.2.2,.inr ⟨p,H7.o,rfl⟩⟩
end
section
variable {w:World} {v:Value}
theorem Qz.same2 {w':World} {base:Nat} {l:List UInt8} (h:Qz w base v l) (hs:∀ (k:Nat) (C:Array Value) (fz:Nat×Nat),base≤k→w.heap[k]?=some (Obj.cells C 5 fz)→w'.heap[k]?=w.heap[k]?) (base':Nat) (hb:base'≤base):Qz w' base' v l:=by
 rcases h with h|⟨b,off,c,C,fz,h1,h0,h2,h3,h4⟩
 ·exact .inl h
 ·exact .inr ⟨b,off,c,C,fz,h1,h0,Nat.le_trans hb h2,(hs b C fz h2 h3).trans h3,h4⟩
theorem Quo {b b':Nat} {e:TypeId} {size:Nat} {n:Nat} {xs ys:List Value} (h:w.ownsRow b e size v n xs) (k:w.ownsRow b' e size v n ys):xs=ys:=by
 rcases h.2 with ⟨rfl,h0⟩|⟨g,cap,cur,rfl,_,hg,_,_,_,ht⟩
 ·have h1:=h.1
  have k1:=k.1;subst h0;have e1:xs = []:=List.eq_nil_of_length_eq_zero (by simpa using h1);have e2:ys = []:=List.eq_nil_of_length_eq_zero (by simpa using k1);rw[e1,e2]
 ·rcases k.2 with ⟨e,_⟩|⟨g',cap',cur',e,_,hg',_,_,_,ht'⟩
  ·cases e
  ·cases e
   rw[hg] at hg';cases hg';exact ht.symm.trans ht'
theorem Qxa {w1 w2 w3:World} {g gd b1:Nat} {ve vl vp:Value} {vs:List Value} {L:Lg} {b:List UInt8} (h:Zn w g gd ve vl vp vs L) (hb:Below w.heap.size w w1) (ht:Took w1 g gd ve vl vp vs L b w2) (hf:Fr (·=b1) w2 w3) (hw:w.heap.size≤b1) (hb1:b1<w1.heap.size) (hk:Qae w2 (·=b1) [5]) :
  ∃ ve' vl' vs',Zn w3 g gd ve' vl' vp vs' { L with entries:=L.entries ++ [b],levels:=levels (L.entries ++ [b]) }∧Fr (LogS g ve vl vp vs) w w3∧Sub w (LogS g ve vl vp vs) (LogS g ve' vl' vp vs'):=by
 obtain⟨ve',vl',vs',vs0,u,hl2,hf2,hs2,hr0,hr2,hu⟩:=ht;have h1:=h.below hb;obtain⟨vsw,hrw,hel⟩:=h.ents;have hv0:vsw=vs0:=Quo (Qn hrw hb) hr0;subst hv0;have hrest:=hl2.rest hf 5 (fun k C s f hk' hc=>List.mem_singleton.1 (hk k C s f hk' hc));refine⟨ve',vl',vs',⟨(hrest.1 (by decide)).trans hl2.cells,?_,hrest.2.2.1 (by decide),hrest.2.2.2.1 (by decide),hl2.apart,hrest.2.2.2.2 (by decide)⟩,?_,hs2.mono hb.size⟩
 ·have hrow:w3.ownsRow 0 94 1 ve' (L.entries ++ [b]).length (vsw ++ [u]):=by rw[List.length_append,List.length_singleton];exact Zi hr2 hf hk (by decide)
  refine⟨_,hrow,fun j x l hx hlj=>?_⟩;have hlen:vsw.length=L.entries.length:=by simpa using hrw.1
  rcases Nat.lt_or_ge j vsw.length with hj|hj
  ·rw[List.getElem?_append_left hj] at hx
   rw[List.getElem?_append_left (by omega)] at hlj;exact (hel j x l hx hlj).same fun k C fz hkC=>by
    have hlt:=Qc hkC;have e1:=hb.block k hlt;have hk1:w1.heap[k]?=some (.cells C 5 fz):=e1.trans hkC;have e2:=hf2.block k (Qc hk1) fun hS=>h1.noBytes k C fz hk1 hS
    have e3:=hf.block k (Nat.lt_of_lt_of_le (Qc hk1) hf2.size) (fun e=>by subst e;omega);exact e3.trans (e2.trans e1)
  ·rw[List.getElem?_append_right hj] at hx
   rw[List.getElem?_append_right (by omega)] at hlj;have hj0:j-vsw.length=0:=by
    rcases Nat.eq_zero_or_pos (j-vsw.length) with h0|h0
    ·exact h0
    ·rw[List.getElem?_eq_none (by simp;omega)] at hx;cases hx
   rw[hj0] at hx;rw[show j-L.entries.length=0 by omega] at hlj;cases hx;cases hlj;exact hu.same2 (fun k C fz hbk hkC=>hf.block k (Qc hkC) fun e=>by subst e;omega) 0 (Nat.zero_le _)
 ·exact ((Fr.ofBelow hb).trans hf2).step hf fun i hi e=>by subst e;omega
def Qh1 (w:World) (g gd:Nat) (ve vl vp:Value) (vs:List Value) (L:Lg) (b:List UInt8) (e:Ending) (w':World):Prop:=
 if 20<b.length then e=.returned (.tuple #[.int .i64 0,Jn 1 ⟨#[]⟩])∧Below w.heap.size w w'
 else if L.failed=true then e=.returned (.tuple #[.int .i64 0,Jn 7 ⟨#[]⟩])∧Below w.heap.size w w'
 else e=.returned (.tuple #[.int .i64 L.entries.length,Jn 0 ⟨#[]⟩])∧∃ ve' vl' vs',Zn w' g gd ve' vl' vp vs' { L with entries:=L.entries ++ [b],levels:=levels (L.entries ++ [b]) }∧Fr (LogS g ve vl vp vs) w w'∧Sub w (LogS g ve vl vp vs) (LogS g ve' vl' vp vs')
theorem Qt9 (f:Nat→Addr) (w:World) (gl g gd:Nat) (ve vl vp:Value) (vs:List Value) (L:Lg) (s:ByteArray) (hp:PlIs w gl g) (h:Zn w g gd ve vl vp vs L) (hE:EnvS f (LogS g ve vl vp vs) w) (hlv:L.levels=levels L.entries) (hn:L.entries.length<1048576) :
  Calls prog 12 #[.pointer (some ⟨gl,0,none⟩),.string s] w (Qh1 w g gd ve vl vp vs L s.data.toList):=by
 obtain⟨i0,hi,hz0,_,_⟩:=info_parts Qj8;have c0:=Qd hp 0 rfl;have hgl:=Qc hp;have HE:=zh hE;have HL:=zh h;have HP:=zh hp;have HLV:=zh hlv;have hg:=Qc h.cells;obtain⟨w0,hw0⟩:∃ w0,w0=w.alloc (.cells #[.int .i64 0,.string ⟨#[]⟩] 29):=⟨_,rfl⟩
 have HW0:=zh hw0;have HB0:=zh (show Below w.heap.size w w0 by rw[hw0];exact Qa w _);have HT0:=zh (show Z4 w0 w.heap.size 0 ⟨#[]⟩ by rw[hw0];exact Qch w);have hz00:w0.heap.size=w.heap.size+1:=by rw[hw0];simp
 have hc0:=(HB0.o.cell (p:=⟨gl,0,none⟩) hgl).trans c0;clear h hE hp hlv hw0
 go_enter func12,ntmps12
 go_upto_region 1 with fail
 rw[←HW0.o]
 go_upto_region 2 with (first|(refine Qde rfl 9 94 5 _ rfl underlying9 underlying94 underlying5 rfl s rfl ?_;intro u w1 hu hb1 hw1 hv1;obtain⟨b1,c1,rfl⟩:=hv1;have HU:=zh hu;have HB1:=zh hb1;clear hu hb1 hw1)|fail)
 have hl1:=(HL.o.below HB0.o).below HB1.o;have hE1:=(HE.o.below HB0.o).below HB1.o;have hb1w:w0.heap.size≤b1∧b1<w1.heap.size∧∃ C fz,w1.heap[b1]?=some (.cells C 5 fz):=by
  rcases HU.o with ⟨e,_⟩|⟨b,off,c,C,fz,e,_,h2,h3,_⟩
  ·cases e
  ·cases e;exact⟨h2,Qc h3,C,fz,h3⟩
 have HB1W:=zh hb1w;have HAP:=zh (Qw9 f w1 g gd ve vl vp vs L hl1 _ s.data.toList (HU.o.mono (Nat.zero_le _)) hn HLV.o hE1.sents);have HE1:=zh hE1;have HL1:=zh hl1;have HBW:=zh (HB0.o.trans (HB1.o.mono HB0.o.size));have hc1:=(HB1.o.cell (p:=⟨gl,0,none⟩) (Qk hc0)).trans hc0;have HT1:=zh (HT0.o.below HB1.o);clear hl1 hE1 hb1w
 go_wp2_with fail
 go_at_call 39
 refine HAP.o.mono ?_;intro e w2 h2;unfold Qem at h2;have hz01:w.heap.size≤w1.heap.size:=HBW.o.size;by_cases hlong:20<s.data.toList.length
 ·rw[if_pos hlong] at h2
  obtain⟨rfl,hb2⟩:=h2;have HB2:=zh hb2;have HU2:=zh ((HU.o.mono (Nat.zero_le _)).below hb2);have HT2:=zh (HT1.o.below hb2);have HK2:=zh (show Qae w2 (·=b1) [5] from by obtain⟨_,_,C,fz,hC⟩:=HB1W.o;exact Qw ((hb2.block _ (Qc hC)).trans hC));have hz2:w.heap.size≤w2.heap.size:=Nat.le_trans hz01 hb2.size;have HLONG:=zh hlong;have hse:=fun (w3:World) (hf:Fr (LogS g ve vl vp vs) w w3)=>Qjn f w3 (HE.o w3 hf).2.1 0 (by decide) (by decide)
  rw[show ((Qcn 0:Nat):Int)=1 from rfl] at hse;have HSE:=zh hse;have hbw:w.heap.size≤b1:=Nat.le_trans (by omega) HB1W.o.1;clear hb2 hlong hse
  go_wp2_with (first|(refine Qc0 rfl _ 94 rfl i0 underlying94 hi hz0 0 _ s.data.toList rfl HU2.o ?_;intro w3 n3 hg3 hsh3 hz3;have HF3:=zh (Fr.ofGrown (S:=(·=b1)) hg3 fun k _ e=>(Option.some.inj e).symm);have hz3':w.heap.size≤w3.heap.size:=Nat.le_trans hz2 HF3.o.size;clear hg3 hsh3 hz3)|(go_at_call 37;refine (HSE.o _ (((Fr.ofBelow (HBW.o.trans (HB2.o.mono hz01)))).step HF3.o fun i hi e=>by subst e;omega)).mono ?_;rintro e w4 ⟨rfl,hb4⟩;have HB4:=zh hb4;obtain⟨t0,t1,t2,t3,t4⟩:=((HT2.o.kept HF3.o HK2.o (by decide)).below hb4).facts;clear hb4)|fail)
  refine bodyPost_ret (v:=.tuple #[.int .i64 0,Jn 1 ⟨#[]⟩]) (by simp[results,results12,go_sem,t0,t1]) rfl ?_;unfold Qh1;rw[if_pos HLONG.o];have hb3:Below w.heap.size w w3:=(HBW.o.trans (HB2.o.mono hz01)).trans (HF3.o.below hz2 fun k hk e=>by omega);exact⟨rfl,((hb3.trans (HB4.o.mono hz3')).setCell (Nat.le_refl _) _).setCell (Nat.le_refl _) _⟩
 ·rw[if_neg hlong] at h2
  by_cases hfd:L.failed=true
  ·rw[if_pos hfd] at h2
   obtain⟨rfl,hb2⟩:=h2;have HB2:=zh hb2;have HU2:=zh ((HU.o.mono (Nat.zero_le _)).below hb2);have HT2:=zh (HT1.o.below hb2);have HK2:=zh (show Qae w2 (·=b1) [5] from by obtain⟨_,_,C,fz,hC⟩:=HB1W.o;exact Qw ((hb2.block _ (Qc hC)).trans hC));have hz2:w.heap.size≤w2.heap.size:=Nat.le_trans hz01 hb2.size;have HLONG:=zh hlong;have HFD:=zh hfd;have hse:=fun (w3:World) (hf:Fr (LogS g ve vl vp vs) w w3)=>Qjn f w3 (HE.o w3 hf).2.1 6 (by decide) (by decide)
   rw[show ((Qcn 6:Nat):Int)=7 from rfl] at hse;have HSE:=zh hse;have hbw:w.heap.size≤b1:=Nat.le_trans (by omega) HB1W.o.1;clear hb2 hlong hse hfd
   go_wp2_with (first|(refine Qc0 rfl _ 94 rfl i0 underlying94 hi hz0 0 _ s.data.toList rfl HU2.o ?_;intro w3 n3 hg3 hsh3 hz3;have HF3:=zh (Fr.ofGrown (S:=(·=b1)) hg3 fun k _ e=>(Option.some.inj e).symm);have hz3':w.heap.size≤w3.heap.size:=Nat.le_trans hz2 HF3.o.size;clear hg3 hsh3 hz3)|(go_at_call 37;refine (HSE.o _ (((Fr.ofBelow (HBW.o.trans (HB2.o.mono hz01)))).step HF3.o fun i hi e=>by subst e;omega)).mono ?_;rintro e w4 ⟨rfl,hb4⟩;have HB4:=zh hb4;obtain⟨t0,t1,t2,t3,t4⟩:=((HT2.o.kept HF3.o HK2.o (by decide)).below hb4).facts;clear hb4)|fail)
   refine bodyPost_ret (v:=.tuple #[.int .i64 0,Jn 7 ⟨#[]⟩]) (by simp[results,results12,go_sem,t0,t1]) rfl ?_;unfold Qh1;rw[if_neg HLONG.o,if_pos HFD.o];have hb3:Below w.heap.size w w3:=(HBW.o.trans (HB2.o.mono hz01)).trans (HF3.o.below hz2 fun k hk e=>by omega);exact⟨rfl,((hb3.trans (HB4.o.mono hz3')).setCell (Nat.le_refl _) _).setCell (Nat.le_refl _) _⟩
  ·rw[if_neg hfd] at h2
   obtain⟨rfl,htook⟩:=h2;obtain⟨ve2,vl2,vs2,vs0,u2,hl2,hf2,hs2,hr02,hr22,hu2⟩:=htook;have HTK:=zh (show Took w1 g gd ve vl vp vs L s.data.toList w2 from ⟨ve2,vl2,vs2,vs0,u2,hl2,hf2,hs2,hr02,hr22,hu2⟩);have HF2:=zh hf2;have HU2:=zh ((HU.o.mono (Nat.zero_le _)).same fun k C fz hk=>hf2.block k (Qc hk) fun hS=>HL1.o.noBytes k C fz hk hS);have HT2:=zh (HT1.o.kept hf2 (Qfp HL1.o) (by decide));have HK2:=zh (show Qae w2 (·=b1) [5] from by obtain⟨_,_,C,fz,hC⟩:=HB1W.o;exact Qw (hf2.heap hC (fun hS=>HL1.o.noBytes _ C fz hC hS)));have hz2:w.heap.size≤w2.heap.size:=Nat.le_trans hz01 hf2.size;have HLONG:=zh hlong;have HFD:=zh hfd;have hse:=fun (w3:World) (hf:Fr (LogS g ve vl vp vs) w w3)=>Qwe f w3 (HE.o w3 hf).2.1
   have HSE:=zh hse;have hbw:w.heap.size≤b1:=Nat.le_trans (by omega) HB1W.o.1;have hb1lt:=HB1W.o.2.1;clear hl2 hf2 hs2 hr02 hr22 hu2 hlong hse hfd
   go_wp2_with (first|(refine Qc0 rfl _ 94 rfl i0 underlying94 hi hz0 0 _ s.data.toList rfl HU2.o ?_;intro w3 n3 hg3 hsh3 hz3;have HF3:=zh (Fr.ofGrown (S:=(·=b1)) hg3 fun k _ e=>(Option.some.inj e).symm);have hz3':w.heap.size≤w3.heap.size:=Nat.le_trans hz2 HF3.o.size;clear hg3 hsh3 hz3)|(go_at_call 37;refine (HSE.o _ (((Fr.ofBelow HBW.o).trans HF2.o).step HF3.o fun i hi e=>by subst e;omega)).mono ?_;rintro e w4 ⟨rfl,hb4⟩;have HB4:=zh hb4;have HT4:=zh ((HT2.o.kept HF3.o HK2.o (by decide)).below hb4);obtain⟨t0,t1,t2,t3,t4⟩:=HT4.o.facts;clear hb4)|fail)
   refine bodyPost_ret (v:=.tuple #[.int .i64 L.entries.length,Jn 0 ⟨#[]⟩]) (by simp[results,results12,go_sem,t0,t1]) rfl ?_;unfold Qh1;rw[if_neg HLONG.o,if_neg HFD.o];obtain⟨ve',vl',vs',k1,k2,k3⟩:=Qxa HL.o HBW.o HTK.o HF3.o hbw hb1lt HK2.o;have ts:=Qdv (m:=0) (t:=⟨#[]⟩) HT4.o;refine⟨rfl,ve',vl',vs',(k1.below HB4.o).kept ts.2 (Qw HT4.o) (by decide) (by decide),?_,k3⟩;exact (k2.trans (Fr.ofBelow HB4.o)).step ts.2 fun i hi e=>by subst e;omega
end
end Go.Proofs.YtefccfakhgdfbabGreatDoor
