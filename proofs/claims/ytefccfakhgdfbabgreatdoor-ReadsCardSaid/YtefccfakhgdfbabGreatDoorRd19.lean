/- What a reader's calls come to: Update and Read where the truth is told. Conditions: bounds as the statement claims them. -/
import Derived.Test.YtefccfakhgdfbabGreatDoorRd18
set_option linter.unusedVariables false
set_option linter.unusedSimpArgs false
open Go.RowKit Go.Proofs.Tryz
set_option maxRecDepth 100000
set_option maxHeartbeats 4000000
namespace Go.Proofs.YtefccfakhgdfbabGreatDoor
section
variable {p:Pl} {m:Wm}
theorem Q1u (hm:m.l.isSome=true) {k:Nat} (h:LogS p.g p.ve p.vl p.vp p.vs k):WdS p m k:=.inr (.inr (.inr ⟨hm,.inr h⟩))
variable {w:World}
theorem WdIs.logStep {w':World} {L L':Lg} (h:WdIs w p m) (hL:m.l=some L) {ve' vl' vp':Value} {vs':List Value} (hl:Zn w' p.g p.gd ve' vl' vp' vs' L') (hf:Fr (LogS p.g p.ve p.vl p.vp p.vs) w w') :
  WdIs w' { p with ve:=ve',vl:=vl',vp:=vp',vs:=vs' } { m with l:=some L' }:=by
 have hk:=Qfp (h.log L hL).2;refine⟨?_,h.disk.kept hf hk (by decide) (by decide),Zi h.ents hf hk (by decide),fun L2 hL2=>?_⟩
 ·have h1:=Ze h.cells hf hk (by decide)
  rw[h1];unfold Qc9;rw[hL];rfl
 ·cases hL2
  exact⟨Ze (h.log L hL).1 hf hk (by decide),hl⟩
theorem WdIs.entStep {w2:World} (h:WdIs w p m) (hf:Fr (fun k=>p.en.ownBlock=some k) w w2) {v':Value} {es':List ByteArray} (he:Q5 w2 0 v' es'):WdIs (w2.setCell ⟨p.gw,3,none⟩ v') { p with en:=v' } { m with es:=es' }:=by
 have hk:=Qdi h.ents;have hc:=Ze h.cells hf hk (by decide);have hs:=Fr.set1 w2 p.gw 3 v';have hk2:=Qw hc;exact⟨(heap_setCell hc _).trans (by simp[Qc9,plV]),(h.disk.kept hf hk (by decide) (by decide)).kept hs hk2 (by decide) (by decide),Zi he hs hk2 (by decide),
  fun L hL=>⟨Ze (Ze (h.log L hL).1 hf hk (by decide)) hs hk2 (by decide),((h.log L hL).2.kept hf hk (by decide) (by decide)).kept hs hk2 (by decide) (by decide)⟩⟩
theorem Qxg (f:Nat→Addr) (w:World) (p:Pl) (m:Wm) (L:Lg) (s:ByteArray) (U:List Nat) (K:Nat) (h:WdIs w p m) (hG:Good m U K) (hL:m.l=some L) (hfo:m.foreign=false) (hE:EnvS f (WdS p m) w) (hU:U.length≤16384) (hes:m.es.length<1048576) :
  Calls prog 48 #[.pointer (some ⟨p.gw,0,none⟩),.string s] w (Qgh (AppQ m L s) w p m (L.entries.length / 4 :: U) K):=by
 have hsome:m.l.isSome=true:=by rw[hL];rfl
 obtain⟨hr,hmk,hen,hlv,hfd,hky⟩:=hG.run L hL;obtain⟨hpl,hlog⟩:=h.log L hL;have hel:L.entries.length=m.es.length:=by rw[hen];simp[lists]
 obtain⟨⟨c0,c1,c2,c3,c4,c5,c6⟩,cf⟩:=h.heads;rw[hL] at c2;have c2':w.cell? ⟨p.gw,2,none⟩=some (.pointer (some ⟨p.gl,0,none⟩)):=c2;have HA:=zh (Qt9 f w p.gl p.g p.gd p.ve p.vl p.vp p.vs L s hpl hlog (hE.less fun k hk=>Q1u hsome hk) hlv (by omega));have HH:=zh h;have HG:=zh hG;have HL:=zh hL;have HFO:=zh hfo;have HEL:=zh hel;have HFD:=zh hfd;have hpgw:=Qk c0;have hpg:p.gw<w.heap.size:=hpgw;clear h hG hE hL hfo hr hmk hen hlv hky hpl hlog hel c2 hfd
 go_enter func48,ntmps48
 go_wp2_with fail
 go_at_call 12
 refine HA.o.mono ?_;intro e w1 h1;unfold Qh1 at h1;have hsz:s.data.toList.length=s.size:=by simp
 by_cases hlong:20<s.data.toList.length
 ·rw[if_pos hlong] at h1
  obtain⟨rfl,hb1⟩:=h1;have HB1:=zh hb1;have hz:(20:Int)<(s.size:Int):=by omega
  have H1:=zh (HH.o.below hb1);have hz1:=hb1.size;clear hb1 hsz hlong c0 c1 c2' c3 c4 c5 c6 cf;go_wp2;go_ret;exact⟨rfl,p,m,rfl,rfl,H1.o.below (Qa w1 _),.inr ⟨HFO.o,HG.o.more _ (Nat.le_refl _)⟩,Fr.ofBelow (HB1.o.trans ((Qa w1 _).mono hz1)),Sub.refl _ _,rfl,.inl ⟨by omega,rfl⟩⟩
 ·rw[if_neg hlong] at h1
  have hz:¬ (20:Int)<(s.size:Int):=by omega
  by_cases hfail:L.failed=true
  ·rw[if_pos hfail] at h1
   obtain⟨rfl,hb1⟩:=h1;have HB1:=zh hb1;have H1:=zh (HH.o.below hb1);have hz1:=hb1.size;obtain⟨⟨_,_,_,_,_,q5,_⟩,_⟩:=H1.o.heads;have hmf:m.failed=true:=by rw[←HFD.o];exact hfail
   have HLF:=zh hfail;rw[hmf] at q5;have hgw1:=Qk q5;clear hb1 hsz hlong c0 c1 c2' c3 c4 c5 c6 cf hfail hmf;go_wp2;go_ret;exact⟨rfl,p,m,rfl,rfl,H1.o.below (Qa w1 _),.inr ⟨HFO.o,HG.o.more _ (Nat.le_refl _)⟩,Fr.ofBelow (HB1.o.trans ((Qa w1 _).mono hz1)),Sub.refl _ _,rfl,.inr (.inl ⟨HLF.o,rfl⟩)⟩
  ·rw[if_neg hfail] at h1
   obtain⟨rfl,ve',vl',vs',k1,k2,k3⟩:=h1;have hff:L.failed=false:=by simpa using hfail
   have hmf:m.failed=false:=by rw[←HFD.o];exact hff
   have h1:=HH.o.logStep HL.o k1 k2;have h2:=h1.below (Qa w1 (.cells #[.int .i64 0,.string ⟨#[]⟩] 29));obtain⟨⟨_,_,_,q3,_,q5,_⟩,qf⟩:=h1.heads;dsimp only at q3 q5;rw[hmf] at q5;have hgw1:p.gw<w1.heap.size:=Qk q5;obtain⟨ea,ec,hen⟩:=Zs HH.o.ents;have hent:=h2.ents;dsimp only at hent;obtain⟨i0,hi0,hz0,hs0,hby0⟩:=info_parts Qe7;have HI:=zh (⟨hi0,hz0,hs0,hby0⟩:_∧_∧_∧_);have H1:=zh h1;have H2:=zh h2;have K1:=zh k1;have K2:=zh k2;have K3:=zh k3;have HMF:=zh hmf;obtain⟨ln,hln⟩:∃ ln,ln=m.es.length:=⟨_,rfl⟩
   have HLN:=zh hln;rw[hen] at q3 hent;rw[←hln] at q3;have hent':(w1.alloc (.cells #[.int .i64 0,.string ⟨#[]⟩] 29)).ownsRow 0 9 1 (.slice ea ln ec) ln (m.es.map Value.string):=by rw[hln];exact hent
   have HENT:=zh hent';have HEN:=zh hen;have hle:L.entries.length=ln:=by rw[hln];exact HEL.o
   have hlz:((L.entries.length:Int) == (ln:Int))=true:=by rw[hle];exact beq_self_eq_true _
   have hln2:ln+1≤1099511627776:=by omega
   have HLE:=zh hle;have hsize:w.heap.size≤w1.heap.size:=k2.size;have hne:¬ p.en.ownBlock=some p.gw:=fun e=>by obtain⟨C,hC⟩:=Qh HH.o.ents e;exact Zp hC HH.o.cells (by decide) rfl
   have hnt:¬ p.en.ownBlock=some w1.heap.size:=fun e=>by
    obtain⟨C,hC⟩:=Qh HH.o.ents e
    have:=Qc hC
    omega
   have HNE:=zh hne;have HNT:=zh hnt;have q3a:=h2.heads.1.2.2.2.1;have qfa:=h2.heads.2;dsimp only at q3a;rw[HEN.o,←HLN.o] at q3a;have hgwa:=Qk q3a;clear hsz hlong hfail h1 h2 k1 k2 k3 hmf hff hen hent hent' hln hi0 hz0 hs0 hby0 hle c0 c1 c2' c3 c4 c5 c6 cf hes hne hnt
   go_wp2_with (at_builtin;go_must (refine Qbe rfl _ _ _ rfl 0 9 i0 _ 1 16 underlying22 HI.o.1 HI.o.2.1 HI.o.2.2.1 HI.o.2.2.2 rfl (by decide) (by decide) (.slice ea ln ec) ln _ rfl (Qn HENT.o (Qa _ _)) ⟨w1.heap.size+1,0,none⟩ 1 1 [.string s] rfl rfl (by have:=cell_one_new (w1.alloc (.cells #[.int .i64 0,.string ⟨#[]⟩] 29)) (.string s) 9;simpa using this) (by simp[Value.oneCell']) (by decide) hln2 (Nat.zero_le _) ?_;intro v' w' g2 g3 g4 g5;have G2:=zh g2;have G3:=zh (Fr.ofGrown (S:=fun k=>p.en.ownBlock=some k) g3 fun k _ e=>by rw[HEN.o,←HLN.o];exact e);have G4:=zh g4;obtain⟨gb,cpb,rfl,hgb⟩:=Qa3 g2 g5;have m0:=G3.o.cell (p:=⟨p.gw,3,none⟩) (((Qa (w1.alloc (.cells #[.int .i64 0,.string ⟨#[]⟩] 29)) _).cell (p:=⟨p.gw,3,none⟩) hgwa).trans q3a) HNE.o;have m1:=(G3.o.frozen (p:=⟨p.gw,3,none⟩) (by simp;omega) HNE.o).trans (((Qa (w1.alloc (.cells #[.int .i64 0,.string ⟨#[]⟩] 29)) _).frozen (p:=⟨p.gw,3,none⟩) hgwa).trans (qfa 3));have mt:=G3.o.cell (p:=⟨w1.heap.size,0,none⟩) (((Qa (w1.alloc (.cells #[.int .i64 0,.string ⟨#[]⟩] 29)) _).cell (p:=⟨w1.heap.size,0,none⟩) (by simp)).trans (Qd (Qch w1) 0 rfl)) HNT.o;have hgwt:¬ w1.heap.size=p.gw:=(by omega);clear g2 g3 g4 g5))
   go_ret;have hstep:=H2.o.below (Qa _ (.cells #[.string s] 9));have hent2:Q5 w' 0 (.slice (some ⟨gb,0,none⟩) (ln+1) cpb) (m.es ++ [s]):=by
    have:=G2.o
    unfold Q5;rw[List.length_append,List.length_singleton,List.map_append,←HLN.o];exact this
   have hfin:=hstep.entStep G3.o hent2;refine⟨rfl,{ p with en:=.slice (some ⟨gb,0,none⟩) (ln+1) cpb,ve:=ve',vl:=vl',vs:=vs' },{ m with l:=some { L with entries:=L.entries ++ [s.data.toList],levels:=levels (L.entries ++ [s.data.toList]) },es:=m.es ++ [s] },rfl,rfl,hfin,.inr ⟨HFO.o,Qua HG.o HL.o HMF.o (by omega)⟩,?_,?_,rfl,.inr (.inr ⟨by omega,rfl⟩)⟩
   ·have hb:Below w1.heap.size w1 ((w1.alloc (.cells #[.int .i64 0,.string ⟨#[]⟩] 29)).alloc (.cells #[.string s] 9)):=(Qa w1 _).alloc (by simp) _
    exact (K2.o.weak fun _ _ e=>Q1u hsome e).trans ((Fr.ofBelow hb).trans ((G3.o.weak fun _ _ e=>.inr (.inr (.inl e))).trans ((Fr.set1 w' p.gw 3 _).weak fun _ _ e=>.inl e)))
   ·intro i hi
    rcases hi with hi|hi|hi|⟨_,hi|hi⟩
    ·exact .inl (.inl hi)
    ·exact .inl (.inr (.inl hi))
    ·rcases G4.o i hi with e|e
     ·exact .inl (.inr (.inr (.inl (by rw[HEN.o,←HLN.o];exact e))))
     ·exact .inr (by simp at e;omega)
    ·exact .inl (.inr (.inr (.inr ⟨hsome,.inl hi⟩)))
    ·rcases K3.o i hi with e|e
     ·exact .inl (Q1u hsome e)
     ·exact .inr e
end
section
variable {a b:ByteArray}
theorem Qfx (h:a≠b):(!a.toList == b.toList)=true:=by rw[J3 h];rfl
theorem Jh (h:a=b):(!a.toList == b.toList)=false:=by rw[Qao h];rfl
theorem Q63:(⟨#[99,104,101,99,107,112,111,105,110,116]⟩:ByteArray)=sOf kCp:=by decide
theorem Qvm (h:a=sOf kCp):(!a.toList == (⟨#[99,104,101,99,107,112,111,105,110,116]⟩:ByteArray).toList)=false:=Jh (by rw[Q63];exact h)
theorem Qp8 (h:a=sOf kCp):(!a.toList == [99,104,101,99,107,112,111,105,110,116])=false:=by
 have:=Qvm h
 rw[show (⟨#[99,104,101,99,107,112,111,105,110,116]⟩:ByteArray).toList = [99,104,101,99,107,112,111,105,110,116] by rw[ByteArray.toList_eq]] at this;exact this
theorem Q14 (w:World) (va vb:Value) (l k:List Fil) (ha:Jf w va l) (hb:Jf w vb k) (hn:l.length≤1099511627776) (hm:k.length≤1099511627776) :
  Calls prog 99 #[va,vb] w fun e w'=>e=.returned (.bool (Qfu l k))∧Below w.heap.size w w':=by
 have HA:=zh ha;have HB:=zh hb;obtain⟨a1,c1,rfl,_,hx⟩:=ha;obtain⟨a2,c2,rfl,_,hy⟩:=hb;have HX:=zh hx;have HY:=zh hy;clear hx hy
 go_enter func99,ntmps99
 go_wp2
 go_loopg [5] k.length (fun gg s5 wr=>∃ kk:Nat,kk≤k.length∧k.length-kk≤gg∧s5=.int .i64 kk∧Aside (Below w.heap.size w wr)∧Aside (∀ j,j<kk→∀ y,k[j]?=some y→Qbl l y.1 y.2=false))
 case atStart=>
  refine⟨0,Nat.zero_le _,by omega,rfl,Below.refl _ _,?_⟩;show ∀ j,j<0→_;intro j hj;omega
 case round=>
  obtain⟨kk,hkk,hg,rfl,HW,HM⟩:=hrel;by_cases hlt:kk<k.length
  ·obtain⟨x,hx⟩:∃ x,x=k[kk]:=⟨_,rfl⟩
   have hlx:k[kk]?=some x:=by rw[hx,List.getElem?_eq_getElem hlt]
   obtain⟨b2,off2,rfl,q1,q2⟩:=HY.o kk x hlx;have q1:=(HW.o.cell (Qk q1)).trans q1;have q2:=(HW.o.cell (Qk q2)).trans q2;have hltz:(kk:Int)<(k.length:Int):=by omega
   have hk0:(0:Int)≤(kk:Int):=by omega
   have HLX:=zh hlx;have hcon:=Yx wr _ l x.1 (HA.o.below HW.o) hn;rcases Qaw l x.1 with ⟨h1,h2⟩|⟨i,b,hi,h1,h2,h3⟩
   ·rw[h1] at hcon
    have HCON:=zh hcon;have HG:=zh h2;clear hx hlx hcon h1 h2
    go_wp2_with (go_at_call 59;refine HCON.o.mono ?_;rintro e w2 ⟨rfl,rfl⟩)
    have hd:decide ((-1:Int)≥0)=false:=rfl
    go_quiet (fail)
    go_wp2
    go_roundg (k.length-(kk+1))
    case measure=>omega
    case rel=>
     refine⟨kk+1,by omega,by omega,by go_num,Za HW.o _,?_⟩;show ∀ j,j<kk+1→_;intro j hj y hy;by_cases hjk:j=kk
     ·subst hjk
      rw[HLX.o] at hy;cases hy;unfold Qbl;rw[HG.o]
     ·exact HM.o j (by omega) y hy
   ·rw[h1] at hcon
    obtain⟨b1,off1,rfl,p1,p2⟩:=HX.o i _ h2;have p2:=(HW.o.cell (Qk p2)).trans p2;have HCON:=zh hcon;have HG:=zh h3;have hi0:(0:Int)≤(i:Int):=by omega
    have hi1:(i:Int)<(l.length:Int):=by omega
    have hd:decide ((i:Int)≥0)=true:=decide_eq_true hi0;clear hx hlx hcon h1 h2 h3 p1;by_cases he:b=x.2
    ·have e:=Jh he
     have HE:=zh he;clear he
     go_wp2_with (go_at_call 59;refine HCON.o.mono ?_;rintro e w2 ⟨rfl,rfl⟩)
     go_quiet (fail)
     go_wp2
     go_roundg (k.length-(kk+1))
     case measure=>omega
     case rel=>
      refine⟨kk+1,by omega,by omega,by go_num,Za HW.o _,?_⟩;show ∀ j,j<kk+1→_;intro j hj y hy;by_cases hjk:j=kk
      ·subst hjk
       rw[HLX.o] at hy;cases hy;unfold Qbl;rw[HG.o,HE.o];simp
      ·exact HM.o j (by omega) y hy
    ·have e:=Qfx he
     have HE:=zh he;clear he
     go_wp2_with (go_at_call 59;refine HCON.o.mono ?_;rintro e w2 ⟨rfl,rfl⟩)
     go_quiet (fail)
     go_wp2;go_ret;refine⟨Qbc ?_,Za HW.o _⟩
     have:Qfu l k=true:=List.any_eq_true.2 ⟨x,List.mem_of_getElem? HLX.o,by unfold Qbl;rw[HG.o];simpa using HE.o⟩
     rw[this];rfl
  ·have hltz:¬ (kk:Int)<(k.length:Int):=by omega
   go_wp2;go_ret;refine⟨Qbc ?_,HW.o⟩
   have:Qfu l k=false:=List.any_eq_false.2 fun f hf=>by
    obtain⟨j,hj⟩:=List.mem_iff_getElem?.1 hf
    have:=HM.o j (by have:=(List.getElem?_eq_some_iff.1 hj).1;omega) f hj
    simp[this]
   rw[this];rfl
theorem Q0i (w:World) (va vb:Value) (l k:List Fil) (ha:Jf w va l) (hb:Jf w vb k) (hn:l.length≤1099511627776) (hm:k.length≤1099511627776) (hall:∀ f∈k,getF l f.1=some f.2) :
  Calls prog 102 #[va,vb] w fun e w'=>e=.returned (.bool true)∧Below w.heap.size w w':=by
 have HA:=zh ha;have HB:=zh hb;have HALL:=zh hall;obtain⟨a1,c1,rfl,_,hx⟩:=ha;obtain⟨a2,c2,rfl,_,hy⟩:=hb;have HX:=zh hx;have HY:=zh hy;clear hx hy hall
 go_enter func102,ntmps102
 go_wp2
 go_loopg [5] k.length (fun gg s5 wr=>∃ kk:Nat,kk≤k.length∧k.length-kk≤gg∧s5=.int .i64 kk∧Aside (Below w.heap.size w wr))
 case atStart=>exact⟨0,Nat.zero_le _,by omega,rfl,Below.refl _ _⟩
 case round=>
  obtain⟨kk,hkk,hg,rfl,HW⟩:=hrel;by_cases hlt:kk<k.length
  ·obtain⟨x,hx⟩:∃ x,x=k[kk]:=⟨_,rfl⟩
   have hlx:k[kk]?=some x:=by rw[hx,List.getElem?_eq_getElem hlt]
   obtain⟨b2,off2,rfl,q1,q2⟩:=HY.o kk x hlx;have q1:=(HW.o.cell (Qk q1)).trans q1;have q2:=(HW.o.cell (Qk q2)).trans q2;have hltz:(kk:Int)<(k.length:Int):=by omega
   have hk0:(0:Int)≤(kk:Int):=by omega
   have hgx:=HALL.o x (List.mem_of_getElem? hlx);have hcon:=Yx wr _ l x.1 (HA.o.below HW.o) hn;rcases Qaw l x.1 with ⟨h1,h2⟩|⟨i,b,hi,h1,h2,h3⟩
   ·rw[h2] at hgx;cases hgx
   ·rw[h3] at hgx
    cases hgx;rw[h1] at hcon;obtain⟨b1,off1,rfl,p1,p2⟩:=HX.o i _ h2;have p2:=(HW.o.cell (Qk p2)).trans p2;have HCON:=zh hcon;have hi0:(0:Int)≤(i:Int):=by omega
    have hi1:(i:Int)<(l.length:Int):=by omega
    have hd:decide ((i:Int)<0)=false:=decide_eq_false (by omega);have e:=Jh (rfl:x.2=x.2);clear hx hlx hcon h1 h2 h3 p1
    go_wp2_with (go_at_call 59;refine HCON.o.mono ?_;rintro e w2 ⟨rfl,rfl⟩)
    go_quiet (fail)
    go_wp2
    go_roundg (k.length-(kk+1))
    case measure=>omega
    case rel=>exact⟨kk+1,by omega,by omega,by go_num,Za HW.o _⟩
  ·have hltz:¬ (kk:Int)<(k.length:Int):=by omega
   go_wp2;go_ret;exact⟨rfl,HW.o⟩
theorem Qwc (w:World) (va vb vc:Value) (l k W:List Fil) (c:ByteArray) (ha:Jf w va l) (hb:Jf w vb k) (hc:Jf w vc W) (hn:l.length≤1099511627776) (hm:k.length≤1099511627776) (hp:W.length≤1099511627776)
  (hk:Qsp l k W c) (hol:Once l) (hok:Once k) (hoW:Qtq W) :
  Calls prog 101 #[va,vb,vc,.string c] w fun e w'=>e=.returned (.bool true)∧Below w.heap.size w w':=by
 have HA:=zh ha;have HB:=zh hb;have HC:=zh hc;have HK1:=zh (fun f hf=>Q4g hk hol (f:=f) hf);have HK2:=zh (fun f hf=>Q2q hk hok hoW (f:=f) hf);obtain⟨a1,c1,rfl,_,hx⟩:=ha;obtain⟨a2,c2,rfl,_,hy⟩:=hb;obtain⟨a3,c3,rfl,_,hz⟩:=hc;have HX:=zh hx;have HY:=zh hy;have HZ:=zh hz;clear hx hy hz hk hol hok hoW
 go_enter func101,ntmps101
 go_wp2
 go_loopg [9] l.length (fun gg s9 wr=>∃ kk:Nat,kk≤l.length∧l.length-kk≤gg∧s9=.int .i64 kk∧Aside (Below w.heap.size w wr))
 case atStart=>exact⟨0,Nat.zero_le _,by omega,rfl,Below.refl _ _⟩
 case round=>
  obtain⟨kk,hkk,hg,rfl,HW⟩:=hrel;by_cases hlt:kk<l.length
  ·obtain⟨x,hx⟩:∃ x,x=l[kk]:=⟨_,rfl⟩
   have hlx:l[kk]?=some x:=by rw[hx,List.getElem?_eq_getElem hlt]
   obtain⟨b1,off1,rfl,q1,q2⟩:=HX.o kk x hlx;have q1:=(HW.o.cell (Qk q1)).trans q1;have q2:=(HW.o.cell (Qk q2)).trans q2;have hltz:(kk:Int)<(l.length:Int):=by omega
   have hk0:(0:Int)≤(kk:Int):=by omega
   obtain⟨b,hgb,hor⟩:=HK1.o x (List.mem_of_getElem? hlx);have hcon:=Yx wr _ k x.1 (HB.o.below HW.o) hm;rcases Qaw k x.1 with ⟨h1,h2⟩|⟨i,b',hi,h1,h2,h3⟩
   ·rw[h2] at hgb;cases hgb
   ·rw[h3] at hgb
    cases hgb;rw[h1] at hcon;obtain⟨b2,off2,rfl,p1,p2⟩:=HY.o i _ h2;have p2:=(HW.o.cell (Qk p2)).trans p2;have HCON:=zh hcon;have hi0:(0:Int)≤(i:Int):=by omega
    have hi1:(i:Int)<(k.length:Int):=by omega
    have hd:decide ((i:Int)<0)=false:=decide_eq_false (by omega);clear hx hlx hcon h1 h2 h3 p1;by_cases he:b=x.2
    ·have e:=Jh he
     clear he hor
     go_wp2_with (go_at_call 59;refine HCON.o.mono ?_;rintro e w2 ⟨rfl,rfl⟩)
     go_quiet (fail)
     go_wp2
     go_roundg (l.length-(kk+1))
     case measure=>omega
     case rel=>exact⟨kk+1,by omega,by omega,by go_num,Za HW.o _⟩
    ·have e:=Qfx he
     obtain⟨hcp,hbc⟩:x.1=sOf kCp∧b=c:=by
      rcases hor with h|h
      ·exact absurd h he
      ·exact h
     have e2:=Jh hbc;have e3:=Qvm hcp;have e4:=Qp8 hcp;clear he hor hcp hbc
     go_wp2_with (go_at_call 59;refine HCON.o.mono ?_;rintro e w2 ⟨rfl,rfl⟩)
     go_quiet (fail)
     go_wp2
     go_roundg (l.length-(kk+1))
     case measure=>omega
     case rel=>exact⟨kk+1,by omega,by omega,by go_num,Za HW.o _⟩
  ·have hltz:¬ (kk:Int)<(l.length:Int):=by omega
   go_wp2
   go_loopg [11] k.length (fun gg s11 wx=>∃ kk:Nat,kk≤k.length∧k.length-kk≤gg∧s11=.int .i64 kk∧Aside (Below w.heap.size w wx))
   case atStart=>exact⟨0,Nat.zero_le _,by omega,rfl,HW.o⟩
   case round=>
    obtain⟨kx,hkx,hgx,rfl,HV⟩:=hrel;by_cases hlt:kx<k.length
    ·obtain⟨x,hx⟩:∃ x,x=k[kx]:=⟨_,rfl⟩
     have hlx:k[kx]?=some x:=by rw[hx,List.getElem?_eq_getElem hlt]
     obtain⟨b2,off2,rfl,q1,q2⟩:=HY.o kx x hlx;have q1:=(HV.o.cell (Qk q1)).trans q1;have q2:=(HV.o.cell (Qk q2)).trans q2;have hltz:(kx:Int)<(k.length:Int):=by omega
     have hk0:(0:Int)≤(kx:Int):=by omega
     have hor:=HK2.o x (List.mem_of_getElem? hlx);have hcon:=Yx wr _ l x.1 (HA.o.below HV.o) hn;have hcn2:=Yx wr _ W x.1 (HC.o.below HV.o) hp;rcases Qaw l x.1 with ⟨h1,h2⟩|⟨i,b',hi,h1,h2,h3⟩
     ·have hor:getF W x.1=some x.2∨(x.1=sOf kCp∧x.2=c):=by
       rcases hor with h|h
       ·exact absurd h2 h
       ·exact h
      have hd:decide ((-1:Int)<0)=true:=rfl;rw[h1] at hcon;rcases Qaw W x.1 with ⟨j1,j2⟩|⟨i2,b3,hi2,j1,j2,j3⟩
      ·obtain⟨hcp,hbc⟩:x.1=sOf kCp∧x.2=c:=by
        rcases hor with h|h
        ·rw[j2] at h;cases h
        ·exact h
       rw[j1] at hcn2;have HCON:=zh hcon;have HCN2:=zh hcn2;have e2:=Jh hbc;have e3:=Qvm hcp;have e4:=Qp8 hcp;clear hx hlx hcon hcn2 h1 h2 j1 j2 hor hcp hbc
       go_upto_region 11 with (go_at_call 59;refine HCON.o.mono ?_;rintro e w2 ⟨rfl,rfl⟩)
       go_upto_region 12 with (go_at_call 59;refine HCN2.o.mono ?_;rintro e w2 ⟨rfl,rfl⟩)
       go_quiet (fail)
       go_wp2
       go_roundg (k.length-(kx+1))
       case measure=>omega
       case rel=>exact⟨kx+1,by omega,by omega,by go_num,Za HV.o _⟩
      ·rw[j1] at hcn2
       obtain⟨b3',off3,rfl,r1,r2⟩:=HZ.o i2 _ j2;have r2:=(HV.o.cell (Qk r2)).trans r2;have HCON:=zh hcon;have HCN2:=zh hcn2;have hi0:(0:Int)≤(i2:Int):=by omega
       have hi1:(i2:Int)<(W.length:Int):=by omega
       have hd2:decide ((i2:Int)<0)=false:=decide_eq_false (by omega);by_cases he:x.2=b3
       ·have e:=Jh he
        clear hx hlx hcon hcn2 h1 h2 j1 j2 j3 hor he r1
        go_upto_region 11 with (go_at_call 59;refine HCON.o.mono ?_;rintro e w2 ⟨rfl,rfl⟩)
        go_upto_region 12 with (go_at_call 59;refine HCN2.o.mono ?_;rintro e w2 ⟨rfl,rfl⟩)
        go_quiet (fail)
        go_wp2
        go_roundg (k.length-(kx+1))
        case measure=>omega
        case rel=>exact⟨kx+1,by omega,by omega,by go_num,Za HV.o _⟩
       ·obtain⟨hcp,hbc⟩:x.1=sOf kCp∧x.2=c:=by
         rcases hor with h|h
         ·rw[j3] at h
          cases h;exact absurd rfl he
         ·exact h
        have e:=Qfx he;have e2:=Jh hbc;have e3:=Qvm hcp;have e4:=Qp8 hcp;clear hx hlx hcon hcn2 h1 h2 j1 j2 j3 hor he r1 hcp hbc
        go_upto_region 11 with (go_at_call 59;refine HCON.o.mono ?_;rintro e w2 ⟨rfl,rfl⟩)
        go_upto_region 12 with (go_at_call 59;refine HCN2.o.mono ?_;rintro e w2 ⟨rfl,rfl⟩)
        go_quiet (fail)
        go_wp2
        go_roundg (k.length-(kx+1))
        case measure=>omega
        case rel=>exact⟨kx+1,by omega,by omega,by go_num,Za HV.o _⟩
     ·rw[h1] at hcon
      have HCON:=zh hcon;have HCN2:=zh hcn2;have hd:decide ((i:Int)<0)=false:=decide_eq_false (by omega);clear hx hlx hcon hcn2 h1 h2 h3 hor
      go_upto_region 11 with (go_at_call 59;refine HCON.o.mono ?_;rintro e w2 ⟨rfl,rfl⟩)
      go_upto_region 12 with (go_at_call 59;refine HCN2.o.mono ?_;rintro e w2 ⟨rfl,rfl⟩)
      go_quiet (fail)
      go_wp2
      go_roundg (k.length-(kx+1))
      case measure=>omega
      case rel=>exact⟨kx+1,by omega,by omega,by go_num,Za HV.o _⟩
    ·have hltz:¬ (kx:Int)<(k.length:Int):=by omega
     go_wp2;go_ret;exact⟨rfl,HV.o⟩
end
section
variable {w:World}
theorem Q2r {g gd:Nat} {v ve vl vp:Value} {vs:List Value} {d:Dk} {L:Lg} {e:Ending} {w':World} (hf:L.failed=false) (h:Qgu w g gd v ve vl vp vs d L e w') :
  ∃ (v' vp':Value) (n k:Int) (pth:ByteArray),e=.returned (.tuple #[.int .i64 n,Jn k pth])∧Q3 w' gd v' (pubD L.entries L.key L.put d).1∧
   Zn w' g gd ve vl vp' vs { L with put:=(pubD L.entries L.key L.put d).2.1,failed:=(pubD L.entries L.key L.put d).2.2.isSome }∧Fr (Jo g gd v ve vl vp vs) w w'∧Sub w (Jo g gd v ve vl vp vs) (Jo g gd v' ve vl vp' vs)∧
   (((pubD L.entries L.key L.put d).2.2=none∧n=L.entries.length∧k=0)∨((pubD L.entries L.key L.put d).2.2=some pth∧n=0∧k=8)):=by
 unfold Qgu at h;rw[if_neg (by rw[hf];decide)] at h;obtain⟨v',vp',Q,rfl,h1,h2,h3,h4,h5⟩:=h;rcases h5 with ⟨h6,rfl⟩|⟨p,h6,rfl⟩
 ·exact⟨v',vp',_,_,_,rfl,h1,h2,h3,h4,.inl ⟨h6,rfl,rfl⟩⟩
 ·exact⟨v',vp',_,_,_,rfl,h1,h2,h3,h4,.inr ⟨h6,rfl,rfl⟩⟩
theorem Q3x {l:List Fil} {p b:ByteArray} (h:(p,b)∈l):∃ k:Nat,Jk l p=(k:Int):=by
 rcases Qaw l p with ⟨_,h1⟩|⟨k,b',_,h1,_⟩
 ·exact absurd rfl (Qc8.1 h1 _ h)
 ·exact⟨k,h1⟩
theorem Qyl (es:List (List UInt8)) (h:es.length≤1048576):(Yu es).length≤1099511627776:=by
 have h1:=Qnd (k:=es.length) (Zc es) (-1) fun r hr=>Qal hr
 have h2:=(Qct h).2.1;have h3:(Zc es).length*es.length≤22*es.length:=Nat.mul_le_mul_right _ (by omega);unfold Yu;omega
theorem Q0k:∀ (rs:List (List (List UInt8))) (n:Nat) (put:List Nat) (d:Dk),(∀ r∈rs,r.length≤1048576)→(pubJ n rs put d).1.files.length≤d.files.length+rs.length*1048576
 | [],n,put,d,_=>by simp[pubJ]
 | r :: rs,n,put,d,h=>by
   have h1:=(Qr6 ((n:Int)-1) r ((put++List.replicate (n+1-put.length) 0).getD n 0 / 4) d).2
   have h2:=h r List.mem_cons_self
   rw[pubJ,List.length_cons,Nat.add_mul,Nat.one_mul]
   split
   ·dsimp only
    omega
   ·have h3:=Q0k rs (n+1) ((put++List.replicate (n+1-put.length) 0).set n (J1 ((n:Int)-1) r ((put++List.replicate (n+1-put.length) 0).getD n 0 / 4) d).2.1) (J1 ((n:Int)-1) r ((put++List.replicate (n+1-put.length) 0).getD n 0 / 4) d).1 fun r hr=>h r (List.mem_cons_of_mem _ hr)
    omega
theorem Q51 {es:List (List UInt8)} (h:es.length≤1048576) (key:ByteArray) (put:List Nat) (d:Dk):(pubD es key put d).1.files.length≤d.files.length+23068673:=by
 have h1:=Q0k (Zc es) 0 put d fun r hr=>Nat.le_trans (Qal hr) h
 have h2:=(Qct h).2.1;have h3:(Zc es).length*1048576≤22*1048576:=Nat.mul_le_mul_right _ (by omega);unfold pubD
 split
 ·show (pubJ 0 (Zc es) put d).1.files.length≤_
  omega
 ·show (Qb2 (pubJ 0 (Zc es) put d).1 _ _).files.length≤_
  rw[Qev]
  split
  ·have:=(Qk3 (pubJ 0 (Zc es) put d).1.files (sOf kCp) (cpOf es key)).2
   omega
  ·omega
variable {p:Pl} {m:Wm}
theorem WdIs.forStep (h:WdIs w p m) (b:Bool):WdIs (w.setCell ⟨p.gw,6,none⟩ (.bool b)) p { m with foreign:=b }:=
 h.ownStep (Fr.set1 w p.gw 6 _) ((heap_setCell h.cells _).trans (by simp[Qc9,plV])) ⟨rfl,rfl,rfl,rfl⟩ h.ents h.log
theorem WdIs.failStep (h:WdIs w p m) (b:Bool):WdIs (w.setCell ⟨p.gw,5,none⟩ (.bool b)) p { m with failed:=b }:=
 h.ownStep (Fr.set1 w p.gw 5 _) ((heap_setCell h.cells _).trans (by simp[Qc9,plV])) ⟨rfl,rfl,rfl,rfl⟩ h.ents h.log
theorem WdIs.pubStep (h:WdIs w p m) (n:Int):WdIs (w.setCell ⟨p.gw,4,none⟩ (.int .i64 n)) p { m with pub:=n }:=
 h.ownStep (Fr.set1 w p.gw 4 _) ((heap_setCell h.cells _).trans (by simp[Qc9,plV])) ⟨rfl,rfl,rfl,rfl⟩ h.ents h.log
set_option maxHeartbeats 8000000 in
theorem Qtp (f:Nat→Addr) (w:World) (p:Pl) (m:Wm) (L:Lg) (U:List Nat) (K:Nat) (h:WdIs w p m) (hG:Good m U K) (hL:m.l=some L) (hfo:m.foreign=false) (hfl:L.failed=false) (hE:EnvS f (WdS p m) w) (hU:U.length≤16384) (hK:K≤800000000000) (hkey:m.key.size≤1048600) :
  Calls prog 49 #[.pointer (some ⟨p.gw,0,none⟩)] w (Qgh (PubQ m L) w p m U (K+1048576)):=by
 have hsome:m.l.isSome=true:=by rw[hL];rfl
 obtain⟨hr,hmk,hen,hlv,hfd,hky⟩:=hG.run L hL;have hel:L.entries.length≤1048576:=by have:=hr.len;omega
 have hfn:m.d.files.length≤1000000000000:=by have:=hG.sane.len;omega
 have hfn2:(pubD L.entries L.key L.put m.d).1.files.length≤1000000000000:=by
  have h1:=Q51 hel L.key L.put m.d
  have:=hG.sane.len
  omega
 have HW1:=zh (Qc7 w p m h hfn);have HP:=zh fun (w1:World) (hb:Below w.heap.size w w1)=>Qrq f w1 p.gl p.g p.gd p.v p.ve p.vl p.vp p.vs m.d L ((hb.block _ (Qc (h.log L hL).1)).trans (h.log L hL).1) ((h.log L hL).2.below hb) (h.disk.below hb) ((hE.below hb).less fun k hk=>Q2f hsome hk) hlv hel hr.short hmk (by have:=hG.sane.calls;omega) (by have:=hG.sane.len;omega) (by rw[hky];exact Nat.le_trans hkey (by decide))
 have hmf:m.failed=false:=by rw[←hfd];exact hfl
 have hell:L.entries.length=m.es.length:=by rw[hen];simp[lists]
 have hsz20:∀ s∈m.es,s.size≤20:=by
  have:=Qhn (k:=20) (ds:=m.es) (by rw[←hen];exact hr.short)
  exact this
 have HH:=zh h;have HG:=zh hG;have HFO:=zh hfo;have HFL:=zh hfl;have HLL:=zh hL;have HMF:=zh hmf;have HEN:=zh hen;have HKY:=zh hky;have HSZ:=zh hsz20;have HELL:=zh hell;have HR:=zh hr;clear h hG hL hfo hfl hE hr hmk hen hlv hfd hky hmf hell hsz20
 go_enter func49,ntmps49
 go_upto_region 2 with (first|(go_at_call 57;refine HW1.o.mono ?_;rintro e w1 ⟨v1,l1,rfl,ho1,hp1,hb1⟩;have HO1:=zh ho1;have HP1:=zh hp1;have HB1:=zh hb1;obtain⟨a1,cp1,rfl⟩:=Zs ho1;clear ho1 hp1 hb1)|fail)
 have h1:=HH.o.below HB1.o;have q2:=h1.heads.1.2.2.1;rw[HLL.o] at q2;have q2':w1.cell? ⟨p.gw,2,none⟩=some (.pointer (some ⟨p.gl,0,none⟩)):=q2;clear q2;have hgw1:=Qk q2';have H1:=zh h1;clear h1;obtain⟨Q,hQ⟩:∃ Q,Q=pubD L.entries L.key L.put m.d:=⟨_,rfl⟩
 have HQ:=zh hQ;clear hQ
 go_upto_region 3 with (first|(go_at_call 15;refine (HP.o w1 HB1.o).mono ?_;intro e w2 h2;obtain⟨v',vp',n2,code,pth,rfl,hd2,hl2,hf2,hs2,hr2⟩:=Q2r HFL.o h2;rw[←HQ.o] at hd2 hl2 hr2;have HD2:=zh hd2;have HL2:=zh hl2;have HF2:=zh hf2;have HS2:=zh hs2;have HR2:=zh hr2;clear h2 hd2 hl2 hf2 hs2 hr2)|fail)
 have h2:=H1.o.bothStep HLL.o HD2.o HL2.o HF2.o;have hb3:Below w2.heap.size w2 (w2.alloc (.cells #[.int .i64 code,.string pth] 29)):=Qa w2 _;have h3:=h2.below hb3;have HT:=zh (show Z4 (w2.alloc (.cells #[.int .i64 code,.string pth] 29)) w2.heap.size code pth from heap_alloc_new w2 _);have HB3:=zh hb3;rw[←HQ.o] at hfn2;have HW3:=zh (Qc7 _ _ _ h3 hfn2);have HHI:=zh (Q5x _ p.gd v' Q.1 h3.disk);have r0:=h3.heads.1.1;dsimp only at r0;have H3:=zh h3;obtain⟨w3,hw3⟩:∃ w3,w3=w2.alloc (.cells #[.int .i64 code,.string pth] 29):=⟨_,rfl⟩
 rw[←hw3] at HT HB3 HW3 HHI r0 H3;rw[←hw3];have hsz1:w.heap.size≤w1.heap.size:=HB1.o.size;have hfr3:Fr (WdS p m) w w3:=(Fr.ofBelow HB1.o).trans ((HF2.o.weak fun k _ hk=>Q2f hsome hk).trans (Fr.ofBelow HB3.o));have HFR3:=zh hfr3;have HSUB:=zh (fun (m':Wm)=>Q4b (m:=m) (m':=m') (HS2.o.mono hsz1) hsome);clear hb3 h3 hw3 h2 hfr3;dsimp only at HW3
 go_upto_region 8 with (first|(go_at_call 16;refine HHI.o.mono ?_;rintro e w4 ⟨rfl,rfl⟩)|(go_at_call 57;refine HW3.o.mono ?_;rintro e w4 ⟨v4,l4,rfl,ho4,hp4,hb4⟩;have HB4:=zh hb4;have HO4:=zh ho4;have HP4:=zh hp4;obtain⟨a4,cp4,rfl⟩:=Zs ho4;have H4:=zh (H3.o.below hb4);have s5:=H4.o.heads.1.2.2.2.2.2.1;have s3:=H4.o.heads.1.2.2.2.1;dsimp only at s5 s3;rw[HMF.o] at s5;clear ho4 hp4 hb4)|(go_at_call 98;refine (Qx3 w4 p.en m.es H4.o.ents.at (by have:=HELL.o;omega) HSZ.o).mono ?_;rintro e w5 ⟨v5,rfl,ho5,hb5,_⟩;have HO5:=zh ho5;have HB5:=zh hb5;clear ho5 hb5)|fail)
 have hrow2:w2.ownsRow w.heap.size 194 2 (.slice a1 l1.length cp1) l1.length (Zh l1):=Zi HO1.o HF2.o ((Qb8 H1.o.disk).or (Qfp (H1.o.log L HLL.o).2)) (by decide);have hrow5:=Qn (Qn (Qn hrow2 HB3.o) HB4.o) HB5.o;have hrowa5:=Qn HO4.o HB5.o;have hWn:(Yu (lists m.es)).length≤1099511627776:=Qyl _ (by simp[lists];have:=HELL.o;omega);have hl1n:l1.length≤1099511627776:=by rw[HP1.o.length_eq];exact Nat.le_trans hfn (by decide)
 have hl4n:l4.length≤1099511627776:=by rw[HP4.o.length_eq];exact Nat.le_trans hfn2 (by decide)
 have HR5:=zh hrow5;have HRA:=zh hrowa5;obtain⟨bb,hbb⟩:∃ bb,bb=Qfu l1 (Yu (lists m.es)):=⟨_,rfl⟩
 have hcl:=Q14 w5 (.slice a1 l1.length cp1) v5 l1 (Yu (lists m.es)) (Yb hrow5) (Yb HO5.o) hl1n hWn;rw[←hbb] at hcl;have HCL:=zh hcl;have hbb2:bb=Qfu m.d.files (Yu (lists m.es)):=by rw[hbb];exact Qxk (Qdn HG.o.sane.once HP1.o) _
 have HBB:=zh hbb2;clear hrow2 hrow5 hrowa5 hbb hcl hbb2 s3 s5
 go_upto_region 9 with (first|(go_at_call 99;refine HCL.o.mono ?_;rintro e w6 ⟨rfl,hb6⟩;have HB6:=zh hb6;have H6:=zh ((H4.o.below HB5.o).below hb6);have hh6:=H6.o.heads;have s6:=hh6.1.2.2.2.2.2.2;have sf:=hh6.2 6;dsimp only at s6 sf;clear hb6 hh6)|fail)
 have h7:=H6.o.forStep bb;have H7:=zh h7;obtain⟨w7,hw7⟩:∃ w7,w7=w6.setCell ⟨p.gw,6,none⟩ (.bool bb):=⟨_,rfl⟩
 have hf7:Fr (·=p.gw) w6 w7:=by rw[hw7];exact Fr.set1 w6 p.gw 6 _
 have HF7:=zh hf7;rw[←hw7] at H7;rw[←hw7];have hh7:=H7.o.heads.1;obtain⟨z0,z1,z2,z3,z4,z5,z6⟩:=hh7;dsimp only at z0 z1 z2 z3 z4 z5 z6;have hfr7:Fr (WdS p m) w w7:=HFR3.o.trans ((Fr.ofBelow (HB4.o.trans ((HB5.o.trans (HB6.o.mono HB5.o.size)).mono HB4.o.size))).trans (HF7.o.weak fun _ _ e=>.inl e));have HFR7:=zh hfr7;clear h7 hw7 hf7 s6 sf hfr7 z2 z4;cases bb with
 | true=>
  go_wp2;go_ret;exact⟨rfl,{ p with v:=v',vp:=vp' },⟨m.key,Q.1,some { L with put:=Q.2.1,failed:=Q.2.2.isSome },m.es,m.pub,m.failed,true⟩,rfl,rfl,H7.o,.inl rfl,HFR7.o,HSUB.o _,rfl,fun hnc _=>absurd (Q0w (by rw[HEN.o] at hnc;exact hnc)) (by rw[←HBB.o];decide)⟩
 | false=>
  have hnc:Qa0 (Yu L.entries) m.d.files:=by rw[HEN.o];exact Qyv HBB.o.symm
  have hrun:Runs m.d L.entries L.put false U:=by have:=HR.o;rw[HMF.o] at this;exact this
  have hel2:L.entries.length≤1048576:=by have:=hrun.len;omega
  have hes2:m.es.length≤1048576:=by have:=HELL.o;omega
  have HLAW:=zh (Qht L.key hel2 (hrun.live rfl).1 hnc (hrun.live rfl).2);rw[←HQ.o] at HLAW;have HGOOD:=zh fun (pub:Int)=>Qst HG.o hU HLL.o HMF.o hnc pub false
  rw[←HQ.o] at HGOOD;obtain⟨cc,hcc⟩:∃ cc,cc=sOf (J5 m.es.length (rootOf (lists m.es)) m.key.data.toList):=⟨_,rfl⟩
  have hcc2:cpOf L.entries L.key=cc:=by rw[show cpOf L.entries L.key=sOf (J5 L.entries.length (rootOf L.entries) L.key.data.toList) from rfl,HELL.o,HEN.o,HKY.o,hcc]
  have hsg:=fun (W:World)=>Qsm m.es.length (rootOf (lists m.es)) m.key W (by omega) hkey
  rw[←hcc] at hsg;have HSG:=zh hsg;have hkp:Qsp l1 l4 (Yu (lists m.es)) cc:=by
   have:=HLAW.o.1
   rw[hcc2,HEN.o] at this;exact Q2y this (Qdn HG.o.sane.once HP1.o) (Qdn HLAW.o.2.1 HP4.o)
  have HKP:=zh hkp;have hol1:=Qnq HG.o.sane.once HP1.o;have hol4:=Qnq HLAW.o.2.1 HP4.o;have hoW:Qtq (Yu (lists m.es)):=Qoy (by simp[lists];exact hes2);have HO1':=zh hol1;have HO4':=zh hol4;have HOW:=zh hoW;have HCC:=zh hcc2;obtain⟨ea,ec,hens⟩:=Zs HH.o.ents;rw[hens] at z3;have hst:=H7.o.ents.at;dsimp only at hst;rw[hens] at hst;have hroot:=Qby m.es.length m.es (.slice ea m.es.length ec) w7 (Nat.le_refl _) hst hes2 fun s hs=>Nat.le_trans (HSZ.o s hs) (by decide)
  have HROOT:=zh hroot;have HENS:=zh hens;clear hnc hrun hel2 hcc hcc2 hsg hkp hol1 hol4 hoW hst hroot hens
  go_upto_region 12 with (first|(go_at_call 63;refine HROOT.o.mono ?_;rintro e w8 ⟨rfl,hb8⟩;have HB8:=zh hb8;clear hb8)|fail)
  have n3:=(HB8.o.cell (p:=⟨p.gw,3,none⟩) (Qk z3)).trans z3;have n1:=(HB8.o.cell (p:=⟨p.gw,1,none⟩) (Qk z1)).trans z1;have nd3:w8.drew.cell? ⟨p.gw,3,none⟩=some (.slice ea m.es.length ec):=n3;have nd1:w8.drew.cell? ⟨p.gw,1,none⟩=some (.string m.key):=n1;have nb:=Qk n3
  go_region_held3 (fun w'=>w'.cell? ⟨p.gw,3,none⟩=some (.slice ea m.es.length ec)∧w'.cell? ⟨p.gw,1,none⟩=some (.string m.key)) (first|with_reducible exact⟨n3,n1⟩|with_reducible exact⟨nd3,nd1⟩|with_reducible exact⟨m3,m1⟩|fail) (first|(go_at_call 100;refine (HSG.o _).mono ?_;rintro e w9 ⟨rfl,hb9⟩;have HB9:=zh (show Below w8.heap.size w8 w9 from (Ql w8).trans hb9);have m3:=(HB9.o.cell (p:=⟨p.gw,3,none⟩) nb).trans n3;have m1:=(HB9.o.cell (p:=⟨p.gw,1,none⟩) nb).trans n1;clear hb9)|fail)
  have H9:=zh ((H7.o.below HB8.o).below HB9.o);have carry:∀ (b:Nat) (v:Value) (n:Nat) (xs:List Value),w5.ownsRow b 194 2 v n xs→w9.ownsRow b 194 2 v n xs:=fun b v n xs hx=>
   Qn (Qn (Zi (Qn hx HB6.o) HF7.o (Qw H6.o.cells) (by decide)) HB8.o) HB9.o
  have HA1:=zh (carry _ _ _ _ HR5.o);have HA4:=zh (carry _ _ _ _ HRA.o);have HAW:=zh (carry _ _ _ _ HO5.o);have ht7:Z4 w7 w2.heap.size code pth:=(((HT.o.below HB4.o).below HB5.o).below HB6.o).kept HF7.o (Qw H6.o.cells) (by decide);have HT9:=zh ((ht7.below HB8.o).below HB9.o);have hfr9:Fr (WdS p m) w w9:=HFR7.o.trans (Fr.ofBelow (HB8.o.trans (HB9.o.mono HB8.o.size)));have HFR9:=zh hfr9;obtain⟨hh,hhh⟩:∃ hh,hh=Q.1.hit:=⟨_,rfl⟩
  have HHH:=zh hhh;rw[←hhh];clear z0 z1 z3 z5 z6 carry ht7 hfr9 n3 n1 nd3 nd1 nb m3 m1 hhh r0;obtain⟨_,_,kturn,_,_,_,kend⟩:=HLAW.o;have KEND:=zh kend;have HTURN:=zh kturn;have hg9:=H9.o.heads;have hgb9:p.gw<w9.heap.size:=Qk hg9.1.1;have hgw2:p.gw<w2.heap.size:=Nat.lt_of_lt_of_le hgw1 HF2.o.size;have hgt:¬ p.gw=w2.heap.size:=by omega
  have hgt':¬ w2.heap.size=p.gw:=fun e=>hgt e.symm
  have hgg:¬ p.gw=p.gd:=HH.o.gg;have hgg':¬ p.gd=p.gw:=fun e=>hgg e.symm
  clear kend kturn;rcases HR2.o with ⟨hq,hn2,hcode⟩|⟨hq,hn2,hcode⟩
  ·have hhf:hh=false:=by
    rcases KEND.o with ⟨_,h1,_⟩|⟨q,h1,_⟩
    ·rw[HHH.o];exact h1.hit
    ·rw[hq] at h1;cases h1
   have hall:(∀ x∈Yu (lists m.es),getF l4 x.1=some x.2)∧getF l4 (sOf kCp)=some cc:=by
    rcases KEND.o with ⟨_,_,_,h1,h2⟩|⟨q,h1,_⟩
    ·rw[Qdn HLAW.o.2.1 HP4.o]
     rw[HEN.o] at h1;rw[HCC.o] at h2;exact⟨h1,h2⟩
    ·rw[hq] at h1;cases h1
   obtain⟨kk,b,hkk,hfind,hlk,hgk⟩:∃ (kk:Nat) (b:ByteArray),kk<l4.length∧Jk l4 (sOf kCp)=(kk:Int)∧l4[kk]?=some (sOf kCp,b)∧getF l4 (sOf kCp)=some b:=by
    rcases Qaw l4 (sOf kCp) with ⟨_,h1⟩|h1
    ·rw[hall.2] at h1;cases h1
    ·exact h1
   obtain rfl:b=cc:=by rw[hall.2] at hgk;exact (Option.some.inj hgk).symm
   have hn3:n2=(m.es.length:Int):=by rw[hn2,HELL.o]
   have hgood:Good ⟨m.key,Q.1,some { L with put:=Q.2.1,failed:=Q.2.2.isSome },m.es,m.es.length,m.failed,false⟩ U (K+1048576):=by
    have:=HGOOD.o m.es.length
    rw[show m.failed=Q.2.2.isSome by rw[HMF.o,hq];rfl];exact this
   have HGD:=zh hgood;have HALL:=zh hall;subst hhf;subst hcode;subst hn3;have hf10:=Fr.set1 w9 p.gw 4 (.int .i64 (m.es.length:Int));have h10:=H9.o.pubStep (m.es.length:Int);have hk9:=Qw H9.o.cells;have HB1':=zh (Zi HA1.o hf10 hk9 (by decide));have HB4':=zh (Zi HA4.o hf10 hk9 (by decide));have HBW:=zh (Zi HAW.o hf10 hk9 (by decide));have HT10:=zh (HT9.o.kept hf10 hk9 (by decide));have HF10:=zh hf10;have H10:=zh h10;have g4:=hg9.1.2.2.2.2.1;have g3:=hg9.1.2.2.2.1;have gf:=hg9.2;dsimp only at g3 g4;rw[HENS.o] at g3;have HHK:=zh (⟨hkk,hlk⟩:_∧_);clear hq hn2 hgood hall hgk h10 hf10 hk9 hg9 hlk
   go_upto_region 19 with fail
   obtain⟨w10,hw10⟩:∃ w10,w10=w9.setCell ⟨p.gw,4,none⟩ (.int .i64 (m.es.length:Int)):=⟨_,rfl⟩
   rw[←hw10] at HB1' HB4' HBW HT10 HF10 H10;rw[←hw10];have hkept:=Qwc w10 (.slice a1 l1.length cp1) (.slice a4 l4.length cp4) v5 l1 l4 (Yu (lists m.es)) b (Yb HB1'.o) (Yb HB4'.o) (Yb HBW.o) hl1n hl4n hWn HKP.o HO1'.o HO4'.o HOW.o;have HKEPT:=zh hkept;have hfnd:=Yx w10 (.slice a4 l4.length cp4) l4 (sOf kCp) (Yb HB4'.o) hl4n;rw[hfind] at hfnd;have HFND:=zh hfnd;have hthere:=fun (w11:World) (hb:Below w10.heap.size w10 w11)=>Q0i w11 (.slice a4 l4.length cp4) v5 l4 (Yu (lists m.es)) ((Yb HB4'.o).below hb) ((Yb HBW.o).below hb) hl4n hWn HALL.o.1
   have HTHERE:=zh hthere;have hk0:(0:Int)≤(kk:Int):=by omega
   have hk1:(kk:Int)<(l4.length:Int):=by omega
   clear hw10 hkept hfnd hthere hfind g3 g4 gf hkk
   go_wp2_with (first|(go_at_call 59;refine HFND.o.mono ?_;rintro e w11 ⟨rfl,rfl⟩)|(go_at_call 101;refine HKEPT.o.mono ?_;rintro e w11 ⟨rfl,hb11⟩;have HB11:=zh hb11;clear hb11)|(go_at_call 102;refine (HTHERE.o w11 HB11.o).mono ?_;rintro e w12 ⟨rfl,hb12⟩;have HB12:=zh (HB11.o.trans (hb12.mono HB11.o.size));clear hb12;have H12:=zh (H10.o.below HB12.o);have ha:=H12.o.heads.1;have g0:=ha.1;have g3:=ha.2.2.2.1;have gt:=H12.o.disk.cells.1.2.2.2.2.2.2.2;dsimp only at g0 g3 gt;rw[HENS.o] at g3;rw[HTURN.o] at gt;obtain⟨t0,t1,_,_,_⟩:=(HT10.o.below HB12.o).facts;obtain⟨aa,ca,hsl,_,hxx⟩:=(Yb HB4'.o).below HB12.o;obtain⟨b4,o4,hb4e,_,kx⟩:=hxx kk _ HHK.o.2;cases hsl;subst hb4e;clear ha hxx)|fail)
   go_ret;exact⟨rfl,{ p with v:=v',vp:=vp' },⟨m.key,Q.1,some { L with put:=Q.2.1,failed:=Q.2.2.isSome },m.es,m.es.length,m.failed,false⟩,rfl,rfl,H12.o,.inr ⟨rfl,HGD.o⟩,
    HFR9.o.trans ((HF10.o.weak fun _ _ e=>.inl e).trans (Fr.ofBelow HB12.o)),HSUB.o _,rfl,fun _ _=>by rw[HQ.o]⟩
  ·have hhf:hh=true∧((∃ b,(pth,b)∈Yu (lists m.es))∨pth=sOf kCp):=by
    rcases KEND.o with ⟨h1,_⟩|⟨q,h1,h2,h3⟩
    ·rw[hq] at h1;cases h1
    ·rw[hq] at h1
     cases h1;rw[HHH.o];rw[HEN.o] at h3;exact⟨h2,h3⟩
   obtain⟨rfl,hpth⟩:=hhf;have hgood:Good ⟨m.key,Q.1,some { L with put:=Q.2.1,failed:=Q.2.2.isSome },m.es,m.pub,true,false⟩ U (K+1048576):=by
    have:=HGOOD.o m.pub
    rw[show (true:Bool)=Q.2.2.isSome by rw[hq];rfl];exact this
   have HGD:=zh hgood;subst hn2;subst hcode;have hf10:=Fr.set1 w9 p.gw 5 (.bool true);have h10:=H9.o.failStep true;have hk9:=Qw H9.o.cells;have HB1':=zh (Zi HA1.o hf10 hk9 (by decide));have HB4':=zh (Zi HA4.o hf10 hk9 (by decide));have HBW:=zh (Zi HAW.o hf10 hk9 (by decide));have HT10:=zh (HT9.o.kept hf10 hk9 (by decide));have HF10:=zh hf10;have H10:=zh h10;have g5:=hg9.1.2.2.2.2.2.1;have gf:=hg9.2;dsimp only at g5;obtain⟨av,cv,hav⟩:=Zs HAW.o;have hfnd:=Yx w9 v5 (Yu (lists m.es)) pth (Yb HAW.o) hWn;have HPTH:=zh hpth;obtain⟨fk,hfk⟩:∃ fk,fk=Jk (Yu (lists m.es)) pth:=⟨_,rfl⟩
   rw[←hfk] at hfnd;have HFK:=zh hfk;have HFND:=zh hfnd;obtain⟨u0,u1,_,_,_⟩:=HT9.o.facts;have HQS:=zh hq;clear hq hgood h10 hf10 hk9 hg9 hpth hfnd hfk hav
   go_upto_region 16 with (first|(go_at_call 59;refine HFND.o.mono ?_;rintro e w11 ⟨rfl,rfl⟩)|fail)
   obtain⟨w10,hw10⟩:∃ w10,w10=w9.setCell ⟨p.gw,5,none⟩ (.bool true):=⟨_,rfl⟩
   rw[←hw10] at HB1' HB4' HBW HT10 HF10 H10;rw[←hw10];have hkept:=Qwc w10 (.slice a1 l1.length cp1) (.slice a4 l4.length cp4) v5 l1 l4 (Yu (lists m.es)) cc (Yb HB1'.o) (Yb HB4'.o) (Yb HBW.o) hl1n hl4n hWn HKP.o HO1'.o HO4'.o HOW.o;have HKEPT:=zh hkept;clear hw10 hkept g5 gf u0 u1;have fin:∀ w11,Below w10.heap.size w10 w11→Qgh (PubQ m L) w p m U (K+1048576) (.returned (.bool true)) w11:=fun w11 hb=>
    ⟨rfl,{ p with v:=v',vp:=vp' },⟨m.key,Q.1,some { L with put:=Q.2.1,failed:=Q.2.2.isSome },m.es,m.pub,true,false⟩,rfl,rfl,H10.o.below hb,.inr ⟨rfl,HGD.o⟩,
     HFR9.o.trans ((HF10.o.weak fun _ _ e=>.inl e).trans (Fr.ofBelow hb)),HSUB.o _,rfl,fun _ hno=>absurd (HQ.o ▸ hno) (by rw[HQS.o];exact fun e=>by cases e)⟩
   have FIN:=zh fin;clear fin;by_cases hk0:(0:Int)≤fk
   ·go_wp2_with (first|(go_at_call 101;refine HKEPT.o.mono ?_;rintro e w11 ⟨rfl,hb11⟩;have HB11:=zh hb11;have H11:=zh (H10.o.below hb11);have ha:=H11.o.heads.1;have g0:=ha.1;have gt:=H11.o.disk.cells.1.2.2.2.2.2.2.2;dsimp only at g0 gt;rw[HTURN.o] at gt;obtain⟨t0,t1,_,_,_⟩:=(HT10.o.below hb11).facts;clear hb11 ha)|fail)
    go_ret;exact FIN.o _ HB11.o
   ·have hpc:pth=sOf kCp:=by
     rcases HPTH.o with ⟨b,hb⟩|hb
     ·obtain⟨k,hk⟩:=Q3x hb
      exact absurd (by rw[HFK.o,hk];exact Int.natCast_nonneg k) hk0
     ·exact hb
    have hcpe:(pth.toList == [99,104,101,99,107,112,111,105,110,116])=true:=by
     have h0:=Qp8 hpc;cases hq:(pth.toList == [99,104,101,99,107,112,111,105,110,116]) with
     | true=>rfl
     | false=>rw[hq] at h0;cases h0
    clear hpc
    go_wp2_with (first|(go_at_call 101;refine HKEPT.o.mono ?_;rintro e w11 ⟨rfl,hb11⟩;have HB11:=zh hb11;have H11:=zh (H10.o.below hb11);have ha:=H11.o.heads.1;have g0:=ha.1;have gt:=H11.o.disk.cells.1.2.2.2.2.2.2.2;dsimp only at g0 gt;rw[HTURN.o] at gt;obtain⟨t0,t1,_,_,_⟩:=(HT10.o.below hb11).facts;clear hb11 ha)|fail)
    go_ret;exact FIN.o _ HB11.o
end
section
def Qi9 (c:Int) (n:Nat):Nat:=(if c<0 then -(c+1) else c).toNat%n
theorem Qwp (c:Int) (n:Nat) (w:World) (hc1 : -9223372036854775808≤c) (hc2:c≤9223372036854775807) (hn:0<n) (hn2:n≤1073741824):Calls prog 46 #[.int .i64 c,.int .i64 n] w fun e w'=>e=.returned (.int .i64 (Qi9 c n))∧w=w':=by
 by_cases h0:c<0
 ·have hv:(-(c+1))%(n:Int)=((Qi9 c n:Nat):Int):=by
   unfold Qi9;rw[if_pos h0];obtain⟨k,hk⟩:∃ k:Nat,-(c+1)=(k:Int):=⟨(-(c+1)).toNat,by omega⟩
   rw[hk,Int.toNat_natCast];rfl
  have hb1:0≤-(c+1):=by omega
  have hnz:((n:Int) == 0)=false:=by rw[beq_eq_false_iff_ne];omega
  have hnz2:¬ (n:Int)=0:=by omega
  have HV:=zh hv;clear hv
  go_enter func46,ntmps46
  go_wp2;go_ret;refine⟨?_,rfl⟩;rw[←HV.o];show Ending.returned (.int .i64 (-((c+1).tmod (n:Int))))=_;rw[←Int.neg_tmod,Int.tmod_eq_emod_of_nonneg hb1]
 ·have hv:c%(n:Int)=((Qi9 c n:Nat):Int):=by
   unfold Qi9;rw[if_neg h0];obtain⟨k,hk⟩:∃ k:Nat,c=(k:Int):=⟨c.toNat,by omega⟩
   rw[hk,Int.toNat_natCast];rfl
  have hnz:((n:Int) == 0)=false:=by rw[beq_eq_false_iff_ne];omega
  have hnz2:¬ (n:Int)=0:=by omega
  have hc0:0≤c:=by omega
  have HV:=zh hv;clear hv
  go_enter func46,ntmps46
  go_wp2;go_ret;refine⟨?_,rfl⟩;rw[←HV.o]
  first|rfl|(congr 2;omega)|(simp;omega)
theorem Qvz (c:Int) {n:Nat} (hn:0<n):Qi9 c n<n:=Nat.mod_lt _ hn
end
section
theorem Q0p (f:Nat):∀ (ss:List ByteArray) (v:Value) (i:Nat) (w:World),ss.length≤f→Jd w v ss→ss.length≤1048576→(∀ s∈ss,s.size≤1048576)→i<ss.length→
  Calls prog 62 #[v,.int .i64 i] w fun e w'=>∃ v',e=.returned v'∧Q5 w' w.heap.size v' ((J4 (lists ss) i).map HS)∧Below w.heap.size w w':=by
 induction f with
 | zero=>intro ss v i w hf h hl hs hi;omega
 | succ f ih=>
  intro ss v i w hf h hl hs hi;obtain⟨a,c,hv,hcap,hc⟩:=id h;obtain⟨s0,hs0⟩:∃ s,ss[0]?=some s:=⟨_,List.getElem?_eq_getElem (by omega)⟩
  obtain⟨g,off,rfl,_⟩:=hc 0 (.string s0) (by simp[hs0]);clear hc hs0;subst hv;obtain⟨n,hn⟩:∃ n,n=ss.length:=⟨_,rfl⟩
  obtain⟨i0,hi0,hz0,hz1,hz2⟩:=info_parts Qe7;by_cases h1:n=1
  ·have hp:J4 (lists ss) i = []:=Qn2 (by simp[lists];omega) i
   rw[hp,←hn,h1];clear hf h hl hs hi hn h1 hp ih
   go_enter func62,ntmps62
   go_wp2_with fail
   go_ret;exact⟨_,rfl,World.ownsRow_nil _ _ _ _,Below.refl _ _⟩
  ·have hbd:=Qiy (n:=n) (by omega) (by omega)
   have hbl:=Yl (n:=n) (by omega);have hrt:=Qhy (l:=lists ss) (by simp[lists];omega) i;have hll:(lists ss).length=n:=by simp[lists];omega
   have htk:∀ m,(lists ss).take m=lists (ss.take m):=fun m=>by simp[lists]
   have hdk:∀ m,(lists ss).drop m=lists (ss.drop m):=fun m=>by simp[lists]
   rw[hll,htk,hdk] at hrt;obtain⟨k,hk⟩:∃ k,k=below n:=⟨_,rfl⟩
   rw[←hk] at hbd hbl hrt;have T:=zh (Qik h (by omega:k≤ss.length));have D:=zh (Qf6 h (by omega:k≤ss.length));have HS':=zh hs;have HK:=zh hk;have IH:=zh ih;clear h hs hk ih hll htk hdk;rw[←hn] at D hcap hi ⊢;have HN:=zh hn;have hf':n≤f+1:=by omega
   have hl':n≤1048576:=by omega
   clear hf hl;have d1:((n:Int) == 1)=false:=by rw[beq_eq_false_iff_ne];omega
   by_cases hik:i<k
   ·have hd:decide ((i:Int)<(k:Int))=true:=decide_eq_true (by omega)
    have hpt:J4 (lists ss) i=J4 (lists (ss.take k)) i ++ [rootOf (lists (ss.drop k))]:=by rw[hrt,if_pos (by omega)]
    have hplen:(J4 (lists (ss.take k)) i).length≤1048576:=Nat.le_trans (Qgy _ _) (by simp[lists];omega);have HP:=zh hpt;clear hpt hrt hn
    go_enter func62,ntmps62
    go_wp2_with fail
    refine (Qeb n _ (by omega) (by omega)).mono ?_;rintro e w0 ⟨rfl,rfl⟩;rw[Int.toNat_natCast,←HK.o]
    go_wp2_with fail
    refine (IH.o (ss.take k) _ i _ (by simp;have:=HN.o;omega) T.o (by simp;have:=HN.o;omega) (fun s hs=>HS'.o s (List.mem_of_mem_take hs)) (by simp;have:=HN.o;omega)).mono ?_;rintro e w1 ⟨v1,rfl,ho1,hb1⟩
    go_wp2_with fail
    refine (Qby _ (ss.drop k) _ _ (Nat.le_refl _) (D.o.below hb1) (by simp;have:=HN.o;omega) (fun s hs=>HS'.o s (List.mem_of_mem_drop hs))).mono ?_;rintro e w2 ⟨rfl,hb2⟩;have HO:=zh (Qn ho1 hb2);have HB:=zh (hb1.trans (hb2.mono hb1.size));clear ho1 hb1 hb2
    go_wp2_with (first|(at_builtin;refine Y3 rfl _ _ 22 rfl w.heap.size 9 i0 (.string ⟨#[]⟩) 16 underlying22 hi0 hz0 hz1 hz2 rfl (by decide) _ _ _ rfl HO.o _ rfl rfl (by rw[List.length_map];omega) HB.o.size ?_;intro v2 w3 hr2 hg2 hne2;have HR2:=zh hr2;have HG2:=zh hg2;clear hr2 hg2 hne2)|fail)
    go_ret;refine⟨_,rfl,?_,HB.o.grown HG2.o HB.o.size (fun j hj=>(HO.o.lt j hj).1)⟩;rw[HP.o,List.map_append];unfold Q5;simpa using HR2.o
   ·have hd:decide ((i:Int)<(k:Int))=false:=decide_eq_false (by omega)
    have hpt:J4 (lists ss) i=J4 (lists (ss.drop k)) (i-k) ++ [rootOf (lists (ss.take k))]:=by rw[hrt,if_neg (by omega)]
    have hplen:(J4 (lists (ss.drop k)) (i-k)).length≤1048576:=Nat.le_trans (Qgy _ _) (by simp[lists];omega);have HP:=zh hpt;have hsub:(i:Int)-(k:Int)=((i-k:Nat):Int):=by omega
    clear hpt hrt hn
    go_enter func62,ntmps62
    go_wp2_with fail
    refine (Qeb n _ (by omega) (by omega)).mono ?_;rintro e w0 ⟨rfl,rfl⟩;rw[Int.toNat_natCast,←HK.o]
    go_wp2_with fail
    refine (IH.o (ss.drop k) _ (i-k) _ (by simp;have:=HN.o;omega) D.o (by simp;have:=HN.o;omega) (fun s hs=>HS'.o s (List.mem_of_mem_drop hs)) (by simp;have:=HN.o;omega)).mono ?_;rintro e w1 ⟨v1,rfl,ho1,hb1⟩
    go_wp2_with fail
    refine (Qby _ (ss.take k) _ _ (Nat.le_refl _) (T.o.below hb1) (by simp;have:=HN.o;omega) (fun s hs=>HS'.o s (List.mem_of_mem_take hs))).mono ?_;rintro e w2 ⟨rfl,hb2⟩;have HO:=zh (Qn ho1 hb2);have HB:=zh (hb1.trans (hb2.mono hb1.size));clear ho1 hb1 hb2
    go_wp2_with (first|(at_builtin;refine Y3 rfl _ _ 22 rfl w.heap.size 9 i0 (.string ⟨#[]⟩) 16 underlying22 hi0 hz0 hz1 hz2 rfl (by decide) _ _ _ rfl HO.o _ rfl rfl (by rw[List.length_map];omega) HB.o.size ?_;intro v2 w3 hr2 hg2 hne2;have HR2:=zh hr2;have HG2:=zh hg2;clear hr2 hg2 hne2)|fail)
    go_ret;refine⟨_,rfl,?_,HB.o.grown HG2.o HB.o.size (fun j hj=>(HO.o.lt j hj).1)⟩;rw[HP.o,List.map_append];unfold Q5;simpa using HR2.o
theorem Q0x (f:Nat):∀ (ss:List ByteArray) (v:Value) (i:Nat) (b:Bool) (w:World),ss.length≤f→Jd w v ss→ss.length≤1048576→(∀ s∈ss,s.size≤1048576)→1≤i→i≤ss.length→
  Calls prog 60 #[.int .i64 i,v,.bool b] w fun e w'=>∃ v',e=.returned v'∧Q5 w' w.heap.size v' ((Qam i (lists ss) b).map HS)∧Below w.heap.size w w':=by
 induction f with
 | zero=>intro ss v i b w hf h hl hs hi1 hi;omega
 | succ f ih=>
  intro ss v i b w hf h hl hs hi1 hi;obtain⟨a,c,hv,hcap,hc⟩:=id h;obtain⟨s0,hs0⟩:∃ s,ss[0]?=some s:=⟨_,List.getElem?_eq_getElem (by omega)⟩
  obtain⟨g,off,rfl,_⟩:=hc 0 (.string s0) (by simp[hs0]);clear hc hs0;subst hv;obtain⟨n,hn⟩:∃ n,n=ss.length:=⟨_,rfl⟩
  obtain⟨i0,hi0,hz0,hz1,hz2⟩:=info_parts Qe7;by_cases h1:i=n
  ·have hp:Qam i (lists ss) b=if b then [] else [rootOf (lists ss)]:=by
    have:=Qjl (lists ss) b (by simp[lists];omega)
    rw[show (lists ss).length=i by simp[lists];omega] at this;exact this
   rw[hp];have h':=zh h;have HS':=zh hs;rw[←hn] at h';have HN:=zh hn;have hI:(i:Int)=(n:Int):=by omega
   rw[←hn,hI];cases b
   ·clear hf h hs hi hn hp ih
    go_enter func60,ntmps60
    go_wp2_with fail
    refine (Qby _ ss _ _ (Nat.le_refl _) h'.o hl HS'.o).mono ?_;rintro e w2 ⟨rfl,hb2⟩;have HB:=zh hb2;clear hb2
    go_wp2_with fail
    go_ret;refine⟨_,rfl,?_,HB.o.alloc HB.o.size _⟩;exact World.ownsRow_lit _ _ _ HB.o.size (by decide) rfl
   ·clear hf h hs hi hn hp ih
    go_enter func60,ntmps60
    go_wp2_with fail
    go_ret;exact⟨_,rfl,World.ownsRow_nil _ _ _ _,Below.refl _ _⟩
  ·have hbd:=Qiy (n:=n) (by omega) (by omega)
   have hbl:=Yl (n:=n) (by omega);have hrt:=Qhx (l:=lists ss) (m:=i) hi1 (by simp[lists];omega) b;have hll:(lists ss).length=n:=by simp[lists];omega
   have htk:∀ m,(lists ss).take m=lists (ss.take m):=fun m=>by simp[lists]
   have hdk:∀ m,(lists ss).drop m=lists (ss.drop m):=fun m=>by simp[lists]
   rw[hll,htk,hdk] at hrt;obtain⟨k,hk⟩:∃ k,k=below n:=⟨_,rfl⟩
   rw[←hk] at hbd hbl hrt;have T:=zh (Qik h (by omega:k≤ss.length));have D:=zh (Qf6 h (by omega:k≤ss.length));have HS':=zh hs;have HK:=zh hk;have IH:=zh ih;clear h hs hk ih hll htk hdk;rw[←hn] at D hcap hi ⊢;have HN:=zh hn;have hf':n≤f+1:=by omega
   have hl':n≤1048576:=by omega
   clear hf hl;have d1:((i:Int) == (n:Int))=false:=by rw[beq_eq_false_iff_ne];omega
   by_cases hik:i≤k
   ·have hd:decide ((i:Int)≤(k:Int))=true:=decide_eq_true (by omega)
    have hpt:Qam i (lists ss) b=Qam i (lists (ss.take k)) b ++ [rootOf (lists (ss.drop k))]:=by rw[hrt,if_pos (by omega)]
    have hplen:(Qam i (lists (ss.take k)) b).length≤1048576:=Nat.le_trans (Qgr _ _ _) (by simp[lists];omega);have HP:=zh hpt;clear hpt hrt hn
    go_enter func60,ntmps60
    go_wp2_with fail
    refine (Qeb n _ (by omega) (by omega)).mono ?_;rintro e w0 ⟨rfl,rfl⟩;rw[Int.toNat_natCast,←HK.o]
    go_wp2_with fail
    refine (IH.o (ss.take k) _ i b _ (by simp;have:=HN.o;omega) T.o (by simp;have:=HN.o;omega) (fun s hs=>HS'.o s (List.mem_of_mem_take hs)) (by omega) (by simp;have:=HN.o;omega)).mono ?_;rintro e w1 ⟨v1,rfl,ho1,hb1⟩
    go_wp2_with fail
    refine (Qby _ (ss.drop k) _ _ (Nat.le_refl _) (D.o.below hb1) (by simp;have:=HN.o;omega) (fun s hs=>HS'.o s (List.mem_of_mem_drop hs))).mono ?_;rintro e w2 ⟨rfl,hb2⟩;have HO:=zh (Qn ho1 hb2);have HB:=zh (hb1.trans (hb2.mono hb1.size));clear ho1 hb1 hb2
    go_wp2_with (first|(at_builtin;refine Y3 rfl _ _ 22 rfl w.heap.size 9 i0 (.string ⟨#[]⟩) 16 underlying22 hi0 hz0 hz1 hz2 rfl (by decide) _ _ _ rfl HO.o _ rfl rfl (by rw[List.length_map];omega) HB.o.size ?_;intro v2 w3 hr2 hg2 hne2;have HR2:=zh hr2;have HG2:=zh hg2;clear hr2 hg2 hne2)|fail)
    go_ret;refine⟨_,rfl,?_,HB.o.grown HG2.o HB.o.size (fun j hj=>(HO.o.lt j hj).1)⟩;rw[HP.o,List.map_append];unfold Q5;simpa using HR2.o
   ·have hd:decide ((i:Int)≤(k:Int))=false:=decide_eq_false (by omega)
    have hpt:Qam i (lists ss) b=Qam (i-k) (lists (ss.drop k)) false ++ [rootOf (lists (ss.take k))]:=by rw[hrt,if_neg (by omega)]
    have hplen:(Qam (i-k) (lists (ss.drop k)) false).length≤1048576:=Nat.le_trans (Qgr _ _ _) (by simp[lists];omega);have HP:=zh hpt;have hsub:(i:Int)-(k:Int)=((i-k:Nat):Int):=by omega
    clear hpt hrt hn
    go_enter func60,ntmps60
    go_wp2_with fail
    refine (Qeb n _ (by omega) (by omega)).mono ?_;rintro e w0 ⟨rfl,rfl⟩;rw[Int.toNat_natCast,←HK.o]
    go_wp2_with fail
    refine (IH.o (ss.drop k) _ (i-k) false _ (by simp;have:=HN.o;omega) D.o (by simp;have:=HN.o;omega) (fun s hs=>HS'.o s (List.mem_of_mem_drop hs)) (by omega) (by simp;have:=HN.o;omega)).mono ?_;rintro e w1 ⟨v1,rfl,ho1,hb1⟩
    go_wp2_with fail
    refine (Qby _ (ss.take k) _ _ (Nat.le_refl _) (T.o.below hb1) (by simp;have:=HN.o;omega) (fun s hs=>HS'.o s (List.mem_of_mem_take hs))).mono ?_;rintro e w2 ⟨rfl,hb2⟩;have HO:=zh (Qn ho1 hb2);have HB:=zh (hb1.trans (hb2.mono hb1.size));clear ho1 hb1 hb2
    go_wp2_with (first|(at_builtin;refine Y3 rfl _ _ 22 rfl w.heap.size 9 i0 (.string ⟨#[]⟩) 16 underlying22 hi0 hz0 hz1 hz2 rfl (by decide) _ _ _ rfl HO.o _ rfl rfl (by rw[List.length_map];omega) HB.o.size ?_;intro v2 w3 hr2 hg2 hne2;have HR2:=zh hr2;have HG2:=zh hg2;clear hr2 hg2 hne2)|fail)
    go_ret;refine⟨_,rfl,?_,HB.o.grown HG2.o HB.o.size (fun j hj=>(HO.o.lt j hj).1)⟩;rw[HP.o,List.map_append];unfold Q5;simpa using HR2.o
end
section
structure Rdr where
 ra:Nat
 pa:Nat
 gc:Nat
 gk:Nat
 mc:Nat
 cap:Int
 size:Nat
 c:Cl
 qs:List CEnt
structure Qb6 (w:World) (gn:Nat) (x:Rdr):Prop where
 cells:w.heap[x.ra]?=some (.cells #[.pointer (some ⟨x.pa,0,none⟩),.int .i64 x.size,.int .i64 x.cap] 81 (0,0))
 pc:PcAt w x.pa x.gc
 cl:ClIs w x.gc x.gk x.mc (.iface 44 (.pointer (some ⟨gn,0,none⟩))) x.c x.qs
def rdrS (x:Rdr) (k:Nat):Prop:=k=x.ra∨k=x.pa∨clS x.gc x.gk x.mc x.qs k
variable {w:World}
theorem Qb6.below {w':World} {gn:Nat} {x:Rdr} (h:Qb6 w gn x) (hb:Below w.heap.size w w'):Qb6 w' gn x:=⟨(hb.block _ (Qc h.cells)).trans h.cells,(hb.block _ (Qc h.pc)).trans h.pc,h.cl.below hb⟩
theorem Qjs (ss:List ByteArray) (k:Nat):lists (ss.take k)=(lists ss).take k:=by simp[lists,List.map_take]
variable {ss:List ByteArray}
theorem Qkb {a:Option Addr} {n c k:Nat} (h:Jd w (.slice a n c) ss) (hk:k≤ss.length):Jd w (.slice a k c) (ss.take k):=by
 obtain⟨a',c',h1,h2,h3⟩:=h;cases h1;have e:(ss.take k).length=k:=by rw[List.length_take,Nat.min_eq_left hk]
 refine⟨a,c,by rw[e],by omega,fun j u hj=>h3 j u ?_⟩;rw[List.map_take] at hj;rw[List.getElem?_take] at hj
 split at hj
 ·exact hj
 ·cases hj
theorem Qt2 {base:Nat} {v:Value} (h:Q5 w base v ss):(v=.slice none 0 0∧ss = [])∨∃ b c,v=.slice (some ⟨b,0,none⟩) ss.length c∧ss.length≤c:=by
 rcases h.2 with ⟨h1,h2⟩|⟨b,c,_,h1,_,_,h2,_⟩
 ·exact .inl ⟨h1,List.eq_nil_of_length_eq_zero h2⟩
 ·exact .inr ⟨b,c,h1,h2⟩
theorem Qee (w:World) (p:Pl) (m:Wm) (gn:Nat) (x:Rdr) (h:WdIs w p m) (hx:Qb6 w gn x) (hne:∀ k,WdS p m k→¬ k=x.gc) (hs:x.size=x.c.size) (hle:x.size≤m.es.length) (hl:m.es.length≤1048576) (hsz:∀ s∈m.es,s.size≤20) (hr:x.c.root=rootOf ((lists m.es).take x.c.size)) :
  Calls prog 34 #[.pointer (some ⟨x.ra,0,none⟩),.pointer (some ⟨p.gw,0,none⟩)] w fun e w'=>e=.returned (.bool true)∧WdIs w' p m∧Qb6 w' gn x∧Fr (·=x.gc) w w':=by
 have k0:w.cell? ⟨x.ra,0,none⟩=some (.pointer (some ⟨x.pa,0,none⟩)):=Qd hx.cells 0 rfl;have HC:=zh (Qsq w x.pa x.gc x.gk x.mc _ x.c x.qs hx.pc hx.cl);have H:=zh h;have HX:=zh hx;have HNE:=zh hne;have HR:=zh hr;have HSQ:=zh hs;have HSZ:=zh hsz;clear h hx hne hr hs hsz
 go_enter func34,ntmps34
 go_upto_region 2 with (first
  | (go_at_call 21;refine HC.o.mono ?_;rintro e w1 ⟨rfl,hc1,hf1⟩;have HC1:=zh hc1;have HF1:=zh hf1;clear hc1 hf1)
  | fail)
 have hkc:=Qw HX.o.cl.cells;have hw1:WdIs w1 p m:=H.o.fr HF1.o HNE.o (fun k C fz hk e=>Zp hk HX.o.cl.cells (by decide) e);have hx1:Qb6 w1 gn x:=⟨Ze HX.o.cells HF1.o hkc (by decide),Ze HX.o.pc HF1.o hkc (by decide),HC1.o⟩
 have HW1:=zh hw1;have HX1:=zh hx1;have d1:w1.cell? ⟨x.ra,1,none⟩=some (.int .i64 x.size):=Qd hx1.cells 1 rfl;have d3:=hw1.heads.1.2.2.2.1;have hb1:x.ra<w1.heap.size:=Qc hx1.cells;have hb3:p.gw<w1.heap.size:=Qk d3;have hst:=Q5.at hw1.ents;have hroot:∀ (a:Option Addr) (n c:Nat),p.en=.slice a n c→∀ W,Below w1.heap.size w1 W→Calls prog 63 #[.slice a x.size c] W fun e w'=>e=.returned (.string (HS x.c.root))∧Below W.heap.size W w':=fun a n c he W hW=>by
  have h1:=hst.below hW;rw[he] at h1
  have:=Qby x.size (m.es.take x.size) (.slice a x.size c) W (by rw[List.length_take];omega) (Qkb h1 hle) (by rw[List.length_take];omega) fun s hs=>Nat.le_trans (HSZ.o s (List.mem_of_mem_take hs)) (by decide)
  rw[HR.o,←HSQ.o,←Qjs];exact this
 have HRO:=zh hroot;have hen:=Qt2 hw1.ents;obtain⟨q,hq⟩:∃ q,q=HS x.c.root:=⟨_,rfl⟩
 rw[←hq] at HRO;clear hroot hst hw1 hx1 hkc k0;have HEN:=zh hen;have hcs:(x.c.size:Int)=(x.size:Int):=by rw[HSQ.o]
 obtain⟨sz,hsz⟩:∃ sz,sz=x.size:=⟨_,rfl⟩
 obtain⟨ra,hra⟩:∃ r,r=x.ra:=⟨_,rfl⟩
 rw[hcs];rw[←hsz] at HRO d1 hle ⊢;rw[←hra] at d1 hb1 ⊢;have HSZ2:=zh hsz;have HRA:=zh hra;clear hcs hsz hra hen;rcases HEN.o with ⟨he,hemp⟩|⟨b,c,he,hcap⟩
 ·have hz:sz=0:=by rw[hemp] at hle;simpa using hle
  subst hz;have hro:=HRO.o none 0 0 he;rw[he] at d3;have HROO:=zh hro;have d1d:w1.drew.cell? ⟨ra,1,none⟩=some (.int .i64 (0:Nat)):=d1;have d3d:w1.drew.cell? ⟨p.gw,3,none⟩=some (.slice none 0 0):=d3;clear hro hemp he
  go_region_held3 (fun w'=>w'.cell? ⟨ra,1,none⟩=some (.int .i64 (0:Nat))∧w'.cell? ⟨p.gw,3,none⟩=some (.slice none 0 0)) (first|with_reducible exact⟨d1,d3⟩|with_reducible exact⟨d1d,d3d⟩|with_reducible exact⟨m1,m3⟩|fail) (first
   | (go_at_call 63;refine (HROO.o _ (Ql w1)).mono ?_;rintro e w2 ⟨rfl,hb2⟩;have HB2:=zh (show Below w1.heap.size w1 w2 from (Ql w1).trans hb2);have m1:=(HB2.o.cell (p:=⟨ra,1,none⟩) hb1).trans d1;have m3:=(HB2.o.cell (p:=⟨p.gw,3,none⟩) hb3).trans d3;clear hb2)
   | fail)
  all_goals (
   go_wp2
   go_ret
   exact⟨rfl,HW1.o.below HB2.o,HX1.o.below HB2.o,HF1.o.trans (Fr.ofBelow HB2.o)⟩)
 ·have hro:=HRO.o (some ⟨b,0,none⟩) m.es.length c he
  have hsl:sz≤c:=Nat.le_trans hle hcap;rw[he] at d3;have HROO:=zh hro;obtain⟨ln,hln⟩:∃ ln,ln=m.es.length:=⟨_,rfl⟩
  rw[←hln] at d3 hcap hle hl;have d1d:w1.drew.cell? ⟨ra,1,none⟩=some (.int .i64 sz):=d1;have d3d:w1.drew.cell? ⟨p.gw,3,none⟩=some (.slice (some ⟨b,0,none⟩) ln c):=d3;clear hro he hln
  go_region_held3 (fun w'=>w'.cell? ⟨ra,1,none⟩=some (.int .i64 sz)∧w'.cell? ⟨p.gw,3,none⟩=some (.slice (some ⟨b,0,none⟩) ln c)) (first|with_reducible exact⟨d1,d3⟩|with_reducible exact⟨d1d,d3d⟩|with_reducible exact⟨m1,m3⟩|fail) (first
   | (go_at_call 63;refine (HROO.o _ (Ql w1)).mono ?_;rintro e w2 ⟨rfl,hb2⟩;have HB2:=zh (show Below w1.heap.size w1 w2 from (Ql w1).trans hb2);have m1:=(HB2.o.cell (p:=⟨ra,1,none⟩) hb1).trans d1;have m3:=(HB2.o.cell (p:=⟨p.gw,3,none⟩) hb3).trans d3;clear hb2)
   | fail)
  all_goals (
   go_wp2
   go_ret
   exact⟨rfl,HW1.o.below HB2.o,HX1.o.below HB2.o,HF1.o.trans (Fr.ofBelow HB2.o)⟩)
end
section
variable {c:Cl} {n:Nt}
theorem Qo3 {i:Int} (hN:c.size≤8192):(Yp c n i).2.2.2.fetches≤n.fetches+440000∧(Yp c n i).2.2.1.cache.items.length≤c.cache.items.length+220000:=by
 unfold Yp;by_cases hi:i<0∨(c.size:Int)≤i
 ·rw[if_pos hi]
  exact⟨Nat.le_add_right _ _,Nat.le_add_right _ _⟩
 ·rw[if_neg hi]
  have hc:=Qno c.size i.toNat (askQ n c.cache);have ht:=Qnh (N:=c.size) (i:=i.toNat) hN (by omega);have h1:=hc.files;have h2:=hc.fetches;have h3:=hc.items;have e1:(askQ n c.cache).files.length=0:=rfl;have e2:(askQ n c.cache).net.fetches=n.fetches:=rfl;have e3:(askQ n c.cache).cache.items.length=c.cache.items.length:=rfl;rcases hq:Qbr c.size i.toNat (askQ n c.cache) with ⟨r|r,s⟩
  ·rw[hq] at h1 h2 h3
   cases r <;> exact⟨by dsimp only at h2 ⊢;omega,by dsimp only at h3 ⊢;omega⟩
  ·rw[hq] at h1 h2 h3
   have h4:=Qf8 s.files s.cache;dsimp only at h1 h2 h3 ⊢
   split
   ·exact⟨by dsimp only;omega,by dsimp only;omega⟩
   ·exact⟨by dsimp only;omega,by dsimp only;omega⟩
theorem Qrg:(Zz c n).2.2.2.fetches≤n.fetches+20000∧(Zz c n).2.2.1.cache.items.length≤c.cache.items.length+8192:=by
 have e0:(Zm n (sOf kCp)).fetches=n.fetches+1:=(Yg n (sOf kCp)).2.2;unfold Zz;cases hf:Yt n (sOf kCp) with
 | none=>exact⟨by dsimp only;omega,by dsimp only;omega⟩
 | some data=>
  dsimp only;have hs:=Qb1 data c.key.data.toList
  split
  ·exact⟨by dsimp only;omega,by dsimp only;omega⟩
  ·rename_i hok
   obtain⟨p1,p2,_⟩:=hs.1 (by simpa using hok)
   split
   ·exact⟨by dsimp only;omega,by dsimp only;omega⟩
   ·split
    ·split <;> exact⟨by dsimp only;omega,by dsimp only;omega⟩
    ·split
     ·exact⟨by dsimp only;omega,by dsimp only;omega⟩
     ·obtain⟨N,hN⟩:∃ N,N=(Yc data c.key.data.toList).1.toNat:=⟨_,rfl⟩
      rw[←hN];have hc:=Qc5 N (Jy N 0 N c.size).reverse (askQ (Zm n (sOf kCp)) c.cache);have ht:=Qop (N:=N) (m:=c.size) (by omega) (by omega) (by omega);have h1:=hc.files;have h2:=hc.fetches;have h3:=hc.items;have e1:(askQ (Zm n (sOf kCp)) c.cache).files.length=0:=rfl;have e2:(askQ (Zm n (sOf kCp)) c.cache).net.fetches=n.fetches+1:=e0;have e3:(askQ (Zm n (sOf kCp)) c.cache).cache.items.length=c.cache.items.length:=rfl;unfold Qgc;rcases hq:Zg N (Jy N 0 N c.size).reverse (askQ (Zm n (sOf kCp)) c.cache) with ⟨r|r,s⟩
      ·rw[hq] at h1 h2 h3
       cases r <;> exact⟨by dsimp only at h2 ⊢;omega,by dsimp only at h3 ⊢;omega⟩
      ·rw[hq] at h1 h2 h3
       have h4:=Qf8 s.files s.cache;dsimp only at h1 h2 h3 ⊢
       split
       ·exact⟨by dsimp only;omega,by dsimp only;omega⟩
       ·exact⟨by dsimp only;omega,by dsimp only;omega⟩
theorem Qzq {es:List (List UInt8)} (hl:es.length≤1048576) (hs:∀ e∈es,e.length≤20) {N i:Nat} (hN:N≤es.length) (hi:i<N) {av:Bool} {s s1:Cs} {b:List UInt8} (hT:Qff es N av s) (h:Qau Zv (-1) (i / 4) N s=(.ok b,s1)):b.length≤84:=by
 have hlen:(es.take N).length=N:=by rw[List.length_take,Nat.min_eq_left hN]
 have hlr:((es.take N).map encE).length=N:=by rw[List.length_map,hlen]
 have hsn:∀ e∈es.take N,e.length≤20:=fun e he=>hs e (List.mem_of_mem_take he)
 have hf:Qb4 0=Zv:=by unfold Qb4;rw[if_pos rfl]
 have hfile:=Qjj hl (av:=av) (Qbb (es.take N)) (j:=i / 4) (by rw[hlr];omega) (fun w h1 h4 hw=>by
  rw[hlr] at hw
  rw[hf]
  unfold Zv
  rw[Qfl hsn h1 h4 (by rw[hlen];exact hw),Option.bind_some,if_pos (by rw[List.length_take,List.length_drop,hlen];omega),List.take_take,Nat.min_self,Qo1 hsn h1 h4 (by rw[hlen];exact hw)])
 rw[hlr,hf,show (((0:Nat):Int)-1) = -1 by omega] at hfile;have hb:=(hfile s hT).2.1 b (by rw[h]);rw[hb];unfold cutR;have h1:=Qel ((((es.take N).map encE).drop (4*(i / 4))).take (Zt (i / 4) N)) 21 fun x hx=>by
  obtain⟨e,he,rfl⟩:=List.mem_map.1 (List.mem_of_mem_drop (List.mem_of_mem_take hx))
  have:=hsn e he
  simp only[encE,List.length_cons];omega
 have h2:((((es.take N).map encE).drop (4*(i / 4))).take (Zt (i / 4) N)).length≤4:=by rw[List.length_take];unfold Zt;omega
 have:=Nat.mul_le_mul_right 21 h2
 omega
end
section
def Q7i (w:World) (l:List Fil) (key:ByteArray) (p:Pl) (w':World):Prop:=
 WdIs w' p ⟨key,dk0 (firsts l),none,[],0,false,false⟩∧Below w.heap.size w w'∧∀ k,WdS p ⟨key,dk0 (firsts l),none,[],0,false,false⟩ k→w.heap.size≤k
theorem Q0q (w:World) (va:Value) (l:List Fil) (key:ByteArray) (h:Jf w va l) (hn:l.length≤1073741824) :
  Calls prog 25 #[va,.string key] w fun e w'=>∃ p,e=.returned (.pointer (some ⟨p.gw,0,none⟩))∧Q7i w l key p w':=by
 obtain⟨wb,hwb⟩:∃ wb,wb=w.alloc (.cells #[.pointer none,.string key,.pointer none,.slice none 0 0,.int .i64 0,.bool false,.bool false] 78):=⟨_,rfl⟩
 have hb:Below w.heap.size w wb:=by rw[hwb];exact Qa w _
 have hob:wb.heap[w.heap.size]?=some (.cells #[.pointer none,.string key,.pointer none,.slice none 0 0,.int .i64 0,.bool false,.bool false] 78 (0,0)):=by rw[hwb];exact heap_alloc_new w _
 have HN:=zh (Quf wb va l (h.below hb) hn);have HB:=zh hb;have HOB:=zh hob;have HWB:=zh hwb;clear h hb hob hwb
 go_enter func25,ntmps25
 go_upto_region 2 with fail
 rw[←HWB.o];clear HWB
 go_wp2_with (first|(go_at_call 35;refine HN.o.mono ?_;rintro e w1 ⟨g,v,rfl,hd,hb1,hg,hv⟩;have HD:=zh hd;have HB1:=zh hb1;have HV:=zh hv;have hob1:=(hb1.block _ (Qc HOB.o)).trans HOB.o;have HOB1:=zh hob1;have o0:=Qd hob1 0 rfl;have of:=Qq hob1 0;clear hd hb1 hv hob1)|fail)
 go_ret;have hsz:=HB.o.size;have hk1:=Qw HOB1.o;have hfr:=Fr.set1 w1 w.heap.size 0 (.pointer (some ⟨g,0,none⟩));refine⟨⟨w.heap.size,g,v,.slice none 0 0,0,0,.slice none 0 0,.slice none 0 0,.slice none 0 0,[]⟩,rfl,⟨(heap_setCell HOB1.o _).trans (by simp[Qc9,plV]),HD.o.kept hfr hk1 (by decide) (by decide),World.ownsRow_nil _ _ _ _,fun L hL=>by cases hL⟩,?_,?_⟩
 ·exact (HB.o.trans (HB1.o.mono HB.o.size)).setCell (Nat.le_refl _) _
 ·intro k hk
  rcases hk with hk|(hk|hk)|hk|⟨hk,_⟩
  ·exact Nat.le_of_eq hk.symm
  ·have:k=g:=hk
   omega
  ·exact Nat.le_trans hsz (HV.o k hk)
  ·cases hk
  ·cases hk
structure Op1 where
 kind:Int
 a:Int
 two:Bool
 s:ByteArray
def Qyz (w:World) (v:Value) (l:List Op1):Prop:=
 ∃ a c,v=.slice a l.length c∧l.length≤c∧∀ j x,l[j]?=some x→∃ b off,a=some ⟨b,off,none⟩∧w.cell? ⟨b,off+j*4,none⟩=some (.int .i64 x.kind)∧w.cell? ⟨b,off+j*4+1,none⟩=some (.int .i64 x.a)∧w.cell? ⟨b,off+j*4+2,none⟩=some (.bool x.two)∧w.cell? ⟨b,off+j*4+3,none⟩=some (.string x.s)
theorem Qyz.below {w w':World} {v:Value} {l:List Op1} (h:Qyz w v l) (hb:Below w.heap.size w w'):Qyz w' v l:=by obtain⟨a,c,hv,hc,hx⟩:=h;refine⟨a,c,hv,hc,fun j x hj=>?_⟩;obtain⟨b,off,ha,h1,h2,h3,h4⟩:=hx j x hj;exact⟨b,off,ha,(hb.cell (Qk h1)).trans h1,(hb.cell (Qk h2)).trans h2,(hb.cell (Qk h3)).trans h3,(hb.cell (Qk h4)).trans h4⟩
def Q31 (l:List Fil) (ops:List Op1) (w:World) (e:Ending) (w':World):Prop:=∃ b,e=.returned (.bool b)∧w=w'∧(b=true→l.length≤4096∧ops.length≤4096∧∀ f∈l,f.1.size≤1048576∧f.2.size≤1048576)
theorem Qtn (w:World) (va vo:Value) (l:List Fil) (ops:List Op1) (h:Jf w va l) (ho:Qyz w vo ops) (hn:l.length≤9223372036854775807) (hm:ops.length≤9223372036854775807) :
  Calls prog 23 #[va,vo] w (Q31 l ops w):=by
 obtain⟨a,c,rfl,hc,hx⟩:=h;obtain⟨ao,co,rfl,hco,_⟩:=ho;have HX:=zh hx;clear hx;by_cases h1:4096<l.length
 ·have hz:(4096:Int)<(l.length:Int):=by omega
  go_enter func23,ntmps23
  go_wp2;go_ret;exact⟨false,rfl,rfl,fun h=>by cases h⟩
 ·have hz:¬ (4096:Int)<(l.length:Int):=by omega
  by_cases h2:4096<ops.length
  ·have hz2:(4096:Int)<(ops.length:Int):=by omega
   go_enter func23,ntmps23
   go_wp2;go_ret;exact⟨false,rfl,rfl,fun h=>by cases h⟩
  ·have hz2:¬ (4096:Int)<(ops.length:Int):=by omega
   go_enter func23,ntmps23
   go_wp2
   go_loop [5] (fun s5=>∃ k:Nat,k≤l.length∧s5=.int .i64 k∧Aside (∀ j f,j<k→l[j]?=some f→f.1.size≤1048576∧f.2.size≤1048576)) (fun s5=>l.length-(intOf s5).toNat)
   case atStart=>exact⟨0,Nat.zero_le _,rfl,fun j f hj=>by omega⟩
   case round=>
    obtain⟨k,hk,rfl,HM⟩:=hrel;by_cases hlt:k<l.length
    ·obtain⟨x,hx⟩:∃ x,l[k]?=some x:=⟨_,List.getElem?_eq_getElem hlt⟩
     obtain⟨b,off,rfl,d1,d2⟩:=HX.o k x hx;have hkz:(k:Int)<(l.length:Int):=by omega
     have hk0:(0:Int)≤(k:Int):=by omega
     have HXX:=zh hx;clear hx;by_cases g2:1048576<x.2.size
     ·have gz:(1048576:Int)<(x.2.size:Int):=by omega
      go_wp2;go_ret;exact⟨false,rfl,rfl,fun h=>by cases h⟩
     ·have gz:¬ (1048576:Int)<(x.2.size:Int):=by omega
      by_cases g1:1048576<x.1.size
      ·have gz2:(1048576:Int)<(x.1.size:Int):=by omega
       go_wp2;go_ret;exact⟨false,rfl,rfl,fun h=>by cases h⟩
      ·have gz2:¬ (1048576:Int)<(x.1.size:Int):=by omega
       go_wp2
       go_round
       case rel=>
        refine⟨k+1,by omega,by go_num,fun j f hj hf=>?_⟩;by_cases hjk:j=k
        ·subst hjk
         rw[HXX.o] at hf;cases hf;exact⟨by omega,by omega⟩
        ·exact HM.o j f (by omega) hf
       case measure=>simp[intOf];omega
    ·have hkz:¬ (k:Int)<(l.length:Int):=by omega
     have hkl:k=l.length:=by omega
     have HK:=zh hkl;clear hkl;go_wp2;go_ret;refine⟨true,rfl,rfl,fun _=>⟨by omega,by omega,fun f hf=>?_⟩⟩;obtain⟨j,hj⟩:=List.mem_iff_getElem?.1 hf;exact HM.o j f (by rw[HK.o];exact (List.getElem?_eq_some_iff.1 hj).1) hj
end
section
theorem WdIs.lt {w:World} {p:Pl} {m:Wm} (h:WdIs w p m) {k:Nat} (hk:WdS p m k):k<w.heap.size:=by
 rcases hk with hk|(hk|hk)|hk|⟨hl,hk|hk⟩
 ·exact hk ▸ Qc h.cells
 ·exact hk ▸ h.disk.lt
 ·obtain⟨C,hC⟩:=Qh h.disk.2 hk
  exact Qc hC
 ·obtain⟨C,hC⟩:=Qh h.ents hk
  exact Qc hC
 ·obtain⟨L,hL⟩:=Option.isSome_iff_exists.1 hl
  exact hk ▸ Qc (h.log L hL).1
 ·obtain⟨L,hL⟩:=Option.isSome_iff_exists.1 hl
  obtain⟨C,t,hC,_⟩:=(h.log L hL).2.kinds hk;exact Qc hC
def Q6p (w:World) (e:Ending) (w':World):Prop:=e=.returned (.bool true)∧Below w.heap.size w w'
end
section
structure Qb3 (F:Nat→Addr) (w:World) (p:Pl) (m:Wm) (L:Lg) (P:Nat) (gn:Nat) (vl vt:Value) (n:Nt) (x:Rdr):Prop where
 wd:WdIs w p m
 net:Yk w gn p.gd vl vt n
 rd:Qb6 w gn x
 envR:EnvS F (fun k=>cnS x.gc x.gk x.mc gn vt x.qs k∨k=x.ra) w
 apart:∀ k,WdS p m k→¬ cnS x.gc x.gk x.mc gn vt x.qs k
 rdw:RdW m L P
 rdc:RdC m P x.c
 nf:n.files=m.d.files
 nl:n.lies = []
 few:m.es.length≤8192
 small:∀ f∈m.d.files,f.2.size≤1048576
 key:m.key.size≤9223372036854775807
 fetches:n.fetches<1000000000000
 items:x.c.cache.items.length<100000000000
section
variable {F:Nat→Addr} {w:World} {p:Pl} {m:Wm} {L:Lg} {P:Nat} {gn:Nat} {vl vt:Value} {n:Nt} {x:Rdr}
theorem Qb3.env (h:Qb3 F w p m L P gn vl vt n x):EnvS F (cnS x.gc x.gk x.mc gn vt x.qs) w:=h.envR.less fun k=>.inl
theorem Qb3.lt (h:Qb3 F w p m L P gn vl vt n x):∀ k,cnS x.gc x.gk x.mc gn vt x.qs k→k<w.heap.size:=fun k hk=>by
 rcases hk with hk|hk|hk
 ·exact h.rd.cl.ltS hk
 ·exact hk ▸ h.net.lt
 ·obtain⟨C,hC⟩:=Qh h.net.told hk
  exact Qc hC
theorem Qb3.kinds (h:Qb3 F w p m L P gn vl vt n x):Qae w (cnS x.gc x.gk x.mc gn vt x.qs) (([177] ++ [246,244]) ++ [103,3]):=((Qw h.rd.cl.cells).or (Qai h.rd.cl.cache)).or (Qcm h.net)
variable {w':World}
theorem Qb3.next (h:Qb3 F w p m L P gn vl vt n x) {c':Cl} {n':Nt} {qs':List CEnt} (hf:Fr (cnS x.gc x.gk x.mc gn vt x.qs) w w') (hs:Sub w (cnS x.gc x.gk x.mc gn vt x.qs) (cnS x.gc x.gk x.mc gn vt qs')) (hcl:ClIs w' x.gc x.gk x.mc (.iface 44 (.pointer (some ⟨gn,0,none⟩))) c' qs') (hn:Yk w' gn p.gd vl vt n')
  (hrc:RdC m P c') (hsn:Qbk n n') (hfe:n'.fetches<1000000000000) (hit:c'.cache.items.length<100000000000):Qb3 F w' p m L P gn vl vt n' { x with c:=c',qs:=qs' } where
 wd:=h.wd.fr hf h.apart fun k C fz hk=>Zo h.kinds hk (by decide)
 net:=hn
 rd:=⟨Ze h.rd.cells hf h.kinds (by decide),Ze h.rd.pc hf h.kinds (by decide),hcl⟩
 envR:=h.envR.step (hf.weak fun _ _=>.inl) fun k hk=>hk.elim (fun e=>(hs k e).imp .inl id) fun e=>.inl (.inr e)
 apart k hk hc:=by
  rcases hs k hc with e|e
  ·exact h.apart k hk e
  ·have:=h.wd.lt hk
   omega
 rdw:=h.rdw
 rdc:=hrc
 nf:=hsn.2.trans h.nf
 nl:=hsn.1.trans h.nl
 few:=h.few
 small:=h.small
 key:=h.key
 fetches:=hfe
 items:=hit
theorem Qb3.below (h:Qb3 F w p m L P gn vl vt n x) (hb:Below w.heap.size w w'):Qb3 F w' p m L P gn vl vt n x where
 wd:=h.wd.below hb
 net:=h.net.below hb
 rd:=h.rd.below hb
 envR:=h.envR.below hb
 apart:=h.apart
 rdw:=h.rdw
 rdc:=h.rdc
 nf:=h.nf
 nl:=h.nl
 few:=h.few
 small:=h.small
 key:=h.key
 fetches:=h.fetches
 items:=h.items
theorem Qb3.sized (h:Qb3 F w p m L P gn vl vt n x) (k:Nat) (hra:∀ i,WdS p m i→¬ i=x.ra) (hrn:∀ i,cnS x.gc x.gk x.mc gn vt x.qs i→¬ i=x.ra):Qb3 F (w.setCell ⟨x.ra,1,none⟩ (.int .i64 k)) p m L P gn vl vt n { x with size:=k } where
 wd:=h.wd.fr (Fr.set1 w x.ra 1 _) (fun i hi e=>hra i hi e) fun i C fz hk e=>Zp hk h.rd.cells (by decide) e
 net:=Yq h.net (Fr.set1 w x.ra 1 _) (Qw h.rd.cells) (by decide) (by decide) (by decide)
 rd:=⟨(heap_setCell h.rd.cells _).trans (by simp),Ze h.rd.pc (Fr.set1 w x.ra 1 _) (Qw h.rd.cells) (by decide),h.rd.cl.fr (Fr.set1 w x.ra 1 _) (fun i hi e=>hrn i (.inl hi) e) fun i C fz hk e=>Zp hk h.rd.cells (by decide) e⟩
 envR:=h.envR.fr ((Fr.set1 w x.ra 1 _).weak fun _ _=>.inr)
 apart:=h.apart
 rdw:=h.rdw
 rdc:=h.rdc
 nf:=h.nf
 nl:=h.nl
 few:=h.few
 small:=h.small
 key:=h.key
 fetches:=h.fetches
 items:=h.items
theorem Qb3.netSmall (h:Qb3 F w p m L P gn vl vt n x):Qaa n:=⟨fun f hf=>by
  rw[h.nf] at hf
  have:=h.small f hf
  omega,fun l hl=>by rw[h.nl] at hl;simp at hl⟩
theorem Qb3.csize (h:Qb3 F w p m L P gn vl vt n x):x.c.size≤8192:=by have h1:=h.rdc.tr.size;have h2:=h.few;rw[Q0] at h1;omega
theorem Qb3.asks (h:Qb3 F w p m L P gn vl vt n x):∀ (data:List UInt8) (N:Nat),Yt n (sOf kCp)=some data→(Yc data x.c.key.data.toList).2.2=true→(Yc data x.c.key.data.toList).1=(N:Int)→x.c.size<N→0<x.c.size→
  Bnd (askQ (Zm n (sOf kCp)) x.c.cache) (Zl N (Jy N 0 N x.c.size).reverse).length∧(Qgc x.c.size N (askQ (Zm n (sOf kCp)) x.c.cache)).1≠.error .panic∧x.c.cache.items.length+(Zl N (Jy N 0 N x.c.size).reverse).length<1099511627775:=fun data N hd hok hN hlt hpos=>by
 have hle:=h.few
 have hP:=h.rdw.le
 rw[Q0] at hP
 have hcp:getF m.d.files (sOf kCp)=some (cpOf ((lists m.es).take P) m.key):=by
  rcases h.rdw.cp with ⟨hz,_⟩|hc
  ·have:=h.rdc.le;omega
  ·exact hc
 have hfd:=Qpl (n:=n) (by rw[h.nf];exact hcp) h.nl
 rw[hfd] at hd
 have hlen:((lists m.es).take P).length=P:=by rw[List.length_take,Q0];omega
 have hck:Yc data x.c.key.data.toList=((P:Int),rootOf ((lists m.es).take P),true):=by
  rw[←Option.some.inj hd,h.rdc.key]
  have e:(cpOf ((lists m.es).take P) m.key).data.toList=J5 ((lists m.es).take P).length (rootOf ((lists m.es).take P)) m.key.data.toList:=rfl
  rw[e,Qfj _ _ _ (by omega),hlen]
 rw[hck] at hN
 obtain rfl:P=N:=Int.ofNat.inj hN
 have hT:=Qop (N:=P) (m:=x.c.size) (by omega) hpos (by omega)
 have hll:(lists m.es).length≤1048576:=by rw[Q0];omega
 have hnt:Qd3 (lists m.es) (Zm n (sOf kCp)):=Qqo (Qgp h.rdw (by omega) h.nf h.nl) (Qap n (sOf kCp))
 have hnh:Qmi (lists m.es) P (Zm n (sOf kCp)):=Qm9 (Qco (by rw[h.nf];exact h.rdw.has) h.nl) (Qgp h.rdw (by omega) h.nf h.nl).steady (Qap n (sOf kCp))
 have e1:(Zm n (sOf kCp)).fetches=n.fetches+1:=(Yg n (sOf kCp)).2.2
 refine⟨⟨?_,?_,?_⟩,fun hp=>?_,?_⟩
 ·show (Zm n (sOf kCp)).fetches+_<_
  have:=h.fetches
  omega
 ·show 0+_<_
  omega
 ·exact Qhb h.netSmall _
 ·have:=(Ql2 hll h.rdw.le (av:=true) hpos (Nat.le_of_lt hlt) (askQ (Zm n (sOf kCp)) x.c.cache) ⟨fun y hy=>by simp[askQ] at hy,h.rdc.tr.cache,hnt,fun _=>hnh⟩).2.2 _ hp
  cases this.1
 ·have:=h.items
  omega
theorem Qni (h:Qb3 F w p m L P gn vl vt n x) (i:Int) (hi1 : -9223372036854775808≤i) (hi2:i≤9223372036854775807) :
  Calls prog 22 #[.pointer (some ⟨x.pa,0,none⟩),.int .i64 i] w (Qi7 w x.gc x.gk x.mc gn p.gd vl vt x.qs (Yp x.c n i)):=by
 have hb:=Qa w (.cells #[.int .i64 0,.string ⟨#[]⟩] 29);have hll:m.es.length≤1048576:=by have:=h.few;omega
 have hlle:(lists m.es).length≤1048576:=by rw[Q0];exact hll
 have hcs:=h.csize;by_cases hi:i<0∨(x.c.size:Int)≤i
 ·refine Qv7 F w x.pa x.gc x.gk x.mc gn p.gd vl vt i x.qs _ h.rd.pc h.env h.lt ?_ ?_
  ·unfold Yp;rw[if_pos hi];simp
  ·exact Qwz F _ x.gc x.gk x.mc gn p.gd vl vt x.c x.qs n (h.rd.cl.below hb) (h.net.below hb) (h.env.below hb) i hi hi1 hi2
 ·obtain⟨j,rfl⟩:∃ j:Nat,i=j:=⟨i.toNat,by omega⟩
  have hj:j<x.c.size:=by omega
  obtain⟨_,_,_,_,r5,r6,_⟩:=Qu7 h.rdw hll h.rdc h.nf h.nl hj;have hT:=Qnh hcs hj;have hq:=Qn7 hlle h.rdc.tr.size h.rdw.short (av:=true) hj (askQ n x.c.cache) ⟨fun y hy=>by simp[askQ] at hy,h.rdc.tr.cache,Qgp h.rdw hll h.nf h.nl,fun _=>Qco (by show Y4 _ _ n.files;rw[h.nf];exact h.rdc.has) h.nl⟩;refine Qv7 F w x.pa x.gc x.gk x.mc gn p.gd vl vt j x.qs _ h.rd.pc h.env h.lt ?_ ?_
  ·rw[r6]
   show (J4 ((lists m.es).take x.c.size) j).length≤_
   have:=Qgy ((lists m.es).take x.c.size) j
   rw[List.length_take,Q0] at this;omega
  ·refine Q4k F _ x.gc x.gk x.mc gn p.gd vl vt p.v x.c x.qs n m.d (h.rd.cl.below hb) (h.net.below hb) (h.wd.disk.below hb) h.nf.symm (h.env.below hb) j hj (by omega) ⟨?_,?_,h.netSmall⟩ ?_ (fun hp=>?_) ?_
   ·show n.fetches+_<_
    have:=h.fetches
    omega
   ·show 0+_<_
    omega
   ·intro b s1 hb1
    have:=Qzq hlle h.rdw.short h.rdc.tr.size hj (av:=true) ⟨fun y hy=>by simp[askQ] at hy,h.rdc.tr.cache,Qgp h.rdw hll h.nf h.nl,fun _=>Qco (by show Y4 _ _ n.files;rw[h.nf];exact h.rdc.has) h.nl⟩ hb1
    omega
   ·have:=hq.2.2 _ hp
    cases this.1
   ·have:=h.items
    omega
end
end
end Go.Proofs.YtefccfakhgdfbabGreatDoor
