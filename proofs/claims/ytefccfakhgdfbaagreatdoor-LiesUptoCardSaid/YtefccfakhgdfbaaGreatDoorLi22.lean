/- The bridge for rows that list variables, with the world's shape handed on; with a specification's own condition, and without. No walk. -/
import Derived.Test.YtefccfakhgdfbaaGreatDoorLi21
import Derived.ShutString
import Derived.Deep.Fields
import Derived.LaidSub
import Derived.Lay
import Derived.LaidMore
set_option linter.unusedVariables false
set_option linter.unusedSimpArgs false
open Go.RowKit Go.Proofs.Tryz
set_option maxRecDepth 100000
set_option maxHeartbeats 4000000
namespace Go.Proofs.YtefccfakhgdfbaaGreatDoor
section
theorem Qrd (s:ByteArray) (w:World) (hn:s.size≤1099511627776) :
  Calls prog 59 #[.string s] w fun e w'=>∃ a c y ss,e=.returned (.tuple #[.slice a ss.length c,.bool y])∧y=(Qr s.data.toList).isSome∧Zn w' (.slice a ss.length c) ss∧(∀ l,Qr s.data.toList=some l→bss ss=l)∧Below w.heap.size w w':=
 (Qfe s w hn).mono fun e w' hp=>by
  obtain⟨v',h1,h2,⟨h3,rfl⟩|⟨ss,h3,h4⟩⟩:=hp
  ·exact⟨none,0,_,[],h1,rfl,⟨none,0,rfl,Nat.le_refl _,fun j u hu=>by simp at hu⟩,fun l hl=>(by rw[h3] at hl;cases hl),h2⟩
  ·obtain⟨a,c,rfl⟩:=Zi h4
   exact⟨a,c,_,ss,h1,rfl,h4.at,fun l hl=>(by rw[h3] at hl;exact Option.some.inj hl),h2⟩
theorem bssL (ss:List ByteArray):(bss ss).length=ss.length:=by simp[bss]
variable {n:Nt} {t s:ByteArray} {ss:List ByteArray} {a w:Nat}
theorem Qz3 (h1:(Q6 n t).isSome=true) (hs:∀ d,Q6 n t=some d→s.data.toList=d) (hy:(Qr s.data.toList).isSome=true) (hl:∀ l,Qr s.data.toList=some l→bss ss=l) (ha:ss.length=a) (hw:1≤w) (hwa:w≤a) :
  ∃ b,((Q6 n t).bind fun d=>Z2 d a w)=some b∧Qr b=some ((bss ss).take w):=by
 cases hf:Q6 n t with
 | none=>rw[hf] at h1;cases h1
 | some d=>
  have e:=hs d hf;subst e;cases hu:Qr s.data.toList with
  | none=>rw[hu] at hy;cases hy
  | some l=>
   have hb:=hl l hu;obtain⟨k1,k2,k3⟩:=Yq hu;have g:l.length=a:=by rw[←hb,bssL];exact ha
   have f:∃ b,Z2 s.data.toList a w=some b:=by unfold Z2;rw[hu,Option.bind_some,if_pos g];exact⟨_,Qd0 (by rw[List.length_take];omega) (by rw[List.length_take];omega) fun x hx=>k3 x (List.mem_of_mem_take hx)⟩
   obtain⟨b,c⟩:=f;obtain⟨l2,q1,q2,q3⟩:=Qi2 c hw hwa;rw[hu] at q1;cases q1;exact⟨b,by rw[Option.bind_some];exact c,by rw[hb];exact q3⟩
theorem Qpd (hs:∀ d,Q6 n t=some d→s.data.toList=d) (hl:∀ l,Qr s.data.toList=some l→bss ss=l) (h:((Q6 n t).isSome && (Qr s.data.toList).isSome && decide (ss.length=a))=false) :
  ((Q6 n t).bind fun d=>Z2 d a w)=none:=by
 cases hf:Q6 n t with
 | none=>rfl
 | some d=>
  have e:=hs d hf;subst e;rw[hf] at h;rw[Option.bind_some];unfold Z2;cases hu:Qr s.data.toList with
  | none=>rfl
  | some l=>
   rw[hu] at h;have hb:=hl l hu;rw[Option.bind_some,if_neg];intro e2;rw[←hb,bssL] at e2;simp[e2] at h
theorem Qrq {q:Nat}:Qal n 0 q w=((Q6 n (Qq (-1) q w)).bind fun d=>Z2 d w w).or ((Q6 n (Qq (-1) q 4)).bind fun d=>Z2 d 4 w):=by
 have e:((0:Nat):Int)-1 = -1:=by omega
 have hf:Yc 0=Z2:=by unfold Yc;rw[if_pos rfl]
 unfold Qal;rw[e,hf];by_cases h4:w=4
 ·subst h4
  rw[if_pos rfl];cases (Q6 n (Qq (-1) q 4)).bind fun d=>Z2 d 4 4 <;> rfl
 ·rw[if_neg h4]
def Q0u (n:Nt) (base qb nb N:Nat) (vm:Value) (ms:List ByteArray) (o:Option (List UInt8)) (add:List ByteArray) (w:World) (e:Ending) (w':World):Prop:=
 ∃ s y vm',e=.returned (.tuple #[.string s,.bool y])∧(∀ x,o=some x→s.data.toList=x)∧s.size≤20∧Jf base qb nb N w vm (ms++add) w' vm'
theorem Q68 {w:World} {a:Option Addr} {c i:Nat} {x:ByteArray} (h:Zn w (.slice a ss.length c) ss) (hx:ss[i]?=some x):∃ b off,a=some ⟨b,off,none⟩∧w.cell? ⟨b,off+i,none⟩=some (.string x):=by obtain⟨a',c',h1,_,h3⟩:=h;cases h1;exact h3 i (.string x) (by rw[List.getElem?_map,hx];rfl)
theorem Qrn {m:Nat} (h1:(Q6 n t).isSome=true) (hs:∀ d,Q6 n t=some d→s.data.toList=d) (hy:(Qr s.data.toList).isSome=true) (hl:∀ l,Qr s.data.toList=some l→bss ss=l) (ha:ss.length=a) (hm:m<w) (hwa:w≤a) :
  ∃ b x,((Q6 n t).bind fun d=>Z2 d a w)=some b∧ss[m]?=some x∧((Qr b).getD [])[m]?=some x.data.toList∧x.size≤20:=by
 obtain⟨b,q1,q2⟩:=Qz3 h1 hs hy hl ha (by omega) hwa;have c:m<ss.length:=by omega
 refine⟨b,ss[m],q1,List.getElem?_eq_getElem c,?_,?_⟩
 ·rw[q2,Option.getD_some,List.getElem?_take_of_lt hm]
  unfold bss;rw[List.getElem?_map,List.getElem?_eq_getElem c];rfl
 ·cases hu:Qr s.data.toList with
  | none=>rw[hu] at hy;cases hy
  | some l=>
   have hb:=hl l hu
   have:=(Yq hu).2.2 ss[m].data.toList (by rw[←hb];exact List.mem_map_of_mem (List.getElem_mem c))
   simpa using this
theorem Qzt (w0 w:World) (v0 v1 v2:Value) (n:Nt) (qb nb N:Nat) (vm:Value) (ms:List ByteArray) (h:LkW w0 nb v0 v1 v2 n qb N w vm ms) (i:Nat) (hi:i<N) (hN:N<9223372036854775808) (hms:ms.length<1099511627776) :
  Calls prog 37 #[.pointer (some ⟨qb,0,none⟩),.int .i64 i] w (Q0u n w0.heap.size qb nb N vm ms (Qhj n N i) (Qef n N i) w):=by
 obtain⟨i0,au,aq,a0,ap⟩:=info_parts Qb5;obtain⟨o,ho⟩:∃ o,o=Qhj n N i:=⟨_,rfl⟩
 obtain⟨add,d⟩:∃ o,o=Qef n N i:=⟨_,rfl⟩
 rw[←ho,←d];unfold Qhj at ho;unfold Qef at d;obtain⟨q,hq⟩:∃ q,q=i / 4:=⟨_,rfl⟩
 obtain⟨m,hm⟩:∃ m,m=i%4:=⟨_,rfl⟩
 obtain⟨wz,s⟩:∃ wz,wz=Zc q N:=⟨_,rfl⟩
 have L:m<wz∧wz≤4:=by unfold Zc at s;omega
 rw[←hq,←hm,←s,Qrq] at ho;rw[←hq,←s,Qrq] at d;have c0:w.cell? ⟨qb,0,none⟩=some (.pointer (some ⟨nb,0,none⟩)):=Qd h.lk.cells 0 rfl;have c1:w.cell? ⟨qb,1,none⟩=some (.int .i64 N):=Qd h.lk.cells 1 rfl;have ai:qb<w.heap.size:=Qc h.lk.cells;obtain⟨t1,J⟩:∃ t,t=Qq (-1) q wz:=⟨_,rfl⟩
 obtain⟨t4,R⟩:∃ t,t=Qq (-1) q 4:=⟨_,rfl⟩
 have A:=fun w=>Qck (-1) (q:Int) (wz:Int) w (by omega)
 have P:=fun w=>Qck (-1) (q:Int) 4 w (by omega)
 rw[show sOf (Y4 (-1) (q:Int) (wz:Int))=t1 from J.symm] at A;rw[show sOf (Y4 (-1) (q:Int) 4)=t4 from R.symm] at P;rw[←J,←R] at ho d;obtain⟨b1,C⟩:∃ b,b=(Q6 n t1).isSome:=⟨_,rfl⟩
 obtain⟨b4,g⟩:∃ b,b=(Q6 n t4).isSome:=⟨_,rfl⟩
 have HF:=zh (fun (w:World) (hn:NetR w nb v0 v1 v2 n)=>Qgu w nb v0 v1 v2 n t1 hn);have U:=zh (fun (w:World) (hn:NetR w nb v0 v1 v2 n)=>Qgu w nb v0 v1 v2 n t4 hn);rw[←C] at HF;rw[←g] at U;have aj:=zh C;have ad:=zh g;have HO:=zh ho;have HA:=zh d;have HN:=zh (h.net.below h.bel);have H:=zh h.lk;have HB:=zh h.bel.size;have ax:=zh A;have az:=zh P;have HW:=zh s;have aw:=zh hms;have a8:(i:Int) / 4=(q:Int):=by omega
 have a5:(i:Int)%4=(m:Int):=by omega
 have ba:(1:Int)≤(wz:Int):=by omega
 have bb:(wz:Int)≤4:=by omega
 have a9:4*q<N:=by omega
 have bd:i<9223372036854775808:=by omega
 clear h A P J R s hms C g ho d hq hm hi
 go_enter func37,ntmps37
 go_upto_if 24 with fail
 go_cut [7] from 23 to 24 (fun s7 wx=>w=wx∧s7=.int .i64 (wz:Int))
 case first=>
  by_cases h4:(4:Int)<(N:Int)-(q:Int)*4
  ·have hw:=HW.o
   unfold Zc at hw;have HE:=zh (show (4:Int)=(wz:Int) by omega)
   go_wp2_with fail
   go_meet;exact⟨rfl,by rw[HE.o]⟩
  ·have hw:=HW.o
   unfold Zc at hw;have HE:=zh (show (N:Int)-(q:Int)*4=(wz:Int) by omega)
   go_wp2_with fail
   go_meet;exact⟨rfl,by rw[HE.o]⟩
 case rest=>
  obtain⟨rfl,rfl⟩:=hcut
  go_upto_region 8 with (first
   | (go_at_call 53;refine (ax.o _).mono ?_;rintro e w2 ⟨rfl,E⟩;have F:=zh E;have d0:=(E.cell (p:=⟨qb,0,none⟩) ai).trans c0;clear E)
   | (go_at_call 94;refine (HF.o _ (HN.o.below F.o)).mono ?_;rintro e w3 ⟨⟨s3,rfl,af,W⟩,ak⟩;have ac:=zh af;have av:=zh W;have S:=zh (F.o.trans (ak.mono F.o.size));clear af W ak)
   | (go_at_call 59;refine (Qrd s3 w3 av.o).mono ?_;rintro e w4 ⟨al,cl,y,ss,rfl,hy,aa,Z,g⟩;have HY:=zh hy;have a3:=zh aa;have V:=zh Z;have I:=zh (S.o.trans (g.mono S.o.size));clear hy aa Z g)
   | fail)
  clear d0 c0
  go_cut [51] from 42 to 51 (fun s51 wx=>w4=wx∧s51=.bool (b1 && y && decide ((ss.length:Int)=(wz:Int))))
  case first=>
   cases b1 with
   | false=>
    go_wp2_with fail
    go_meet;exact⟨rfl,rfl⟩
   | true=>
    cases y with
    | false=>
     go_wp2_with fail
     go_meet;exact⟨rfl,rfl⟩
    | true=>
     by_cases hsz:(ss.length:Int)=(wz:Int)
     ·have hd:((ss.length:Int) == (wz:Int))=true:=by simpa using hsz
      have HE:=zh hsz;clear hsz
      go_wp2_with fail
      go_meet;exact⟨rfl,by simp[HE.o]⟩
     ·have hd:((ss.length:Int) == (wz:Int))=false:=by simpa using hsz
      have HE:=zh hsz;clear hsz
      go_wp2_with fail
      go_meet;exact⟨rfl,by simp[HE.o]⟩
  case rest=>
   obtain⟨rfl,rfl⟩:=hcut;cases hA:(b1 && y && decide ((ss.length:Int)=(wz:Int))) with
   | true=>
    have c:b1=true∧y=true∧ss.length=wz:=by simp at hA;exact⟨hA.1.1,hA.1.2,by omega⟩
    obtain⟨b,x,q1,q2,q3,q4⟩:=Qrn (m:=m) (w:=wz) (a:=wz) (aj.o.symm.trans c.1) ac.o (HY.o.symm.trans c.2.1) V.o c.2.2 L.1 (Nat.le_refl _);obtain⟨bl,ol,rfl,hx⟩:=Q68 a3.o q2;have r:=zh (HO.o.trans (by rw[q1,Option.some_or,Option.bind_some,q3]:_=some x.data.toList));have l:=zh (HA.o.trans (by rw[q1];rfl:_=([]:List ByteArray)));have a1:(m:Int)<(ss.length:Int):=by have:=c.2.2;omega
    have a2:=Qk hx;have HX:=zh q4;clear q1 q2 q3 q4 hA c
    go_wp2_with fail
    go_ret2;exact⟨x,_,vm,rfl,fun z hz=>by rw[r.o] at hz;exact Option.some.inj hz,HX.o,by rw[l.o,List.append_nil];exact .ofBelow H.o I.o⟩
   | false=>
    have j:=Qpd (w:=wz) (a:=wz) ac.o V.o (by rw[←aj.o,←HY.o,←hA];congr 2;exact propext ⟨fun e=>by omega,fun e=>by omega⟩);have HT:=zh j;clear j hA
    go_upto_region 13 with (first
     | (go_at_call 53;refine (az.o _).mono ?_;rintro e w5 ⟨rfl,D⟩;have u:=zh (I.o.trans (D.mono I.o.size));have d0:=(u.o.cell (p:=⟨qb,0,none⟩) ai).trans (Qd H.o.cells 0 rfl);clear D)
     | (go_at_call 94;refine (U.o _ (HN.o.below u.o)).mono ?_;rintro e w6 ⟨⟨s6,rfl,ae,X⟩,T⟩;have ah:=zh ae;have ar:=zh X;have am:=zh (u.o.trans (T.mono u.o.size));clear ae X T)
     | (go_at_call 59;refine (Qrd s6 w6 ar.o).mono ?_;rintro e w7 ⟨a6,cl7,y7,f,rfl,ab,O,K,an⟩;have Y:=zh ab;have ao:=zh O;have B:=zh K;have v:=zh (am.o.trans (an.mono am.o.size));clear ab O K an)
     | fail)
    clear d0
    go_cut [81] from 73 to 81 (fun s81 wx=>w7=wx∧s81=.bool (b4 && y7 && decide ((f.length:Int)=((4:Nat):Int))))
    case first=>
     cases b4 with
     | false=>
      go_wp2_with fail
      go_meet;exact⟨rfl,rfl⟩
     | true=>
      cases y7 with
      | false=>
       go_wp2_with fail
       go_meet;exact⟨rfl,rfl⟩
      | true=>
       by_cases hsz:(f.length:Int)=4
       ·have hd:((f.length:Int) == 4)=true:=by simpa using hsz
        have HE:=zh hsz;clear hsz
        go_wp2_with fail
        go_meet;exact⟨rfl,by simp[HE.o]⟩
       ·have hd:((f.length:Int) == 4)=false:=by simpa using hsz
        have HE:=zh hsz;clear hsz
        go_wp2_with fail
        go_meet;exact⟨rfl,by simp[HE.o]⟩
    case rest=>
     obtain⟨rfl,rfl⟩:=hcut;cases hA:(b4 && y7 && decide ((f.length:Int)=((4:Nat):Int))) with
     | true=>
      have c:b4=true∧y7=true∧f.length=4:=by simp at hA;exact⟨hA.1.1,hA.1.2,by omega⟩
      obtain⟨b,x,q1,q2,q3,q4⟩:=Qrn (m:=m) (w:=wz) (a:=4) (ad.o.symm.trans c.1) ah.o (Y.o.symm.trans c.2.1) B.o c.2.2 L.1 L.2;obtain⟨bl,ol,rfl,hx⟩:=Q68 ao.o q2;have r:=zh (HO.o.trans (by rw[HT.o,q1,Option.none_or,Option.bind_some,q3]:_=some x.data.toList));have l:=zh (HA.o.trans (by rw[HT.o,q1];rfl:_=([]:List ByteArray)));have a1:(m:Int)<(f.length:Int):=by have:=c.2.2;omega
      have a2:=Qk hx;have HX:=zh q4;clear q1 q2 q3 q4 hA c
      go_wp2_with fail
      go_ret2;exact⟨x,_,vm,rfl,fun z hz=>by rw[r.o] at hz;exact Option.some.inj hz,HX.o,by rw[l.o,List.append_nil];exact .ofBelow H.o v.o⟩
     | false=>
      have j:=Qpd (w:=wz) (a:=4) ah.o B.o (by rw[←ad.o,←Y.o,←hA];congr 2;exact propext ⟨fun e=>by omega,fun e=>by omega⟩);have r:=zh (HO.o.trans (by rw[HT.o,j];rfl:_=(none:Option (List UInt8))));have l:=zh (HA.o.trans (by rw[HT.o,j];rfl:_ = [t1]));clear j hA;have G:=H.o.below v.o;have Q:=G.cells;have p2:w7.cell? ⟨qb,2,none⟩=some vm:=Qd Q 2 rfl;have bc:qb<w7.heap.size:=Qc Q;have HK:=zh G;have ay:ms.length+1≤1099511627776:=by have:=aw.o;omega
      have D:w0.heap.size≤w7.heap.size:=Nat.le_trans HB.o v.o.size;clear G Q
      go_wp2_with (at_builtin;refine Yr rfl _ _ _ rfl w0.heap.size 9 i0 _ 1 16 underlying22 au aq a0 ap rfl (by decide) (by decide) vm ms.length (ms.map Value.string) rfl (Ql HK.o.miss (Qa _ _)) ⟨w7.heap.size,0,none⟩ 1 1 [.string t1] rfl rfl (by have:=cell_one_new w7 (.string t1) 9;simpa using this) (by simp[Value.oneCell']) (by decide) ay (by have:=(Qa w7 (.cells #[.string t1] 9)).size;omega) ?_;intro v8 w8 g2 g3 g4 g5;obtain⟨gb,cpb,a4,a7⟩:=Jm g2 g5;subst a4;have G2:=zh g2;have G3:=zh g3;have G4:=zh g4;have ag:Fr (fun k=>vm.ownBlock=some k) w7 w8:=(Fr.ofBelow (Qa w7 _)).trans (Fr.ofGrown g3 fun k _ e=>e);have M:=ag.heap HK.o.cells (fun e=>HK.o.parts qb e rfl);have p6:=Qd M 2 rfl;have z6:=Qs M 2;clear g2 g3 g4 g5 ag M)
      go_ret2;exact⟨_,_,_,rfl,fun z hz=>(by rw[r.o] at hz;cases hz),by decide,by rw[l.o];exact (HK.o.push G2.o G3.o G4.o).after v.o⟩
end
section
def Q9j (w:World) (e:Ending) (w':World):Prop:=∃ (s:ByteArray) (b:Bool),e=.returned (.tuple #[.string s,.bool b])∧s.size≤8∧Below w.heap.size w w'
theorem Qpn (m:Nat):∀ (p:List ByteArray) (leaf:ByteArray) (i n:Int) (v:Value) (w:World),p.length=m→Zn w v p→(∀ s∈p,s.size≤8)→leaf.size≤8→0≤i→i<n→n≤9223372036854775807→m≤1048576→
  Calls prog 96 #[.string leaf,.int .i64 i,.int .i64 n,v] w (Q9j w):=by
 induction m with
 | zero=>
  intro p leaf i n v w hp h _ h8 h0 hi hn hm;obtain rfl:p = []:=List.eq_nil_of_length_eq_zero hp;obtain⟨a,c,rfl,A,_⟩:=h;by_cases h1:n=1
  ·subst h1
   go_enter func96,ntmps96
   go_wp2;go_ret2;exact⟨leaf,_,rfl,h8,Below.refl _ _⟩
  ·have hd:(n == 1)=false:=by simpa using h1
   go_enter func96,ntmps96
   go_wp2;go_ret2;exact⟨⟨#[]⟩,_,rfl,by decide,Below.refl _ _⟩
 | succ m ih=>
  intro p leaf i n v w hp h g h8 h0 hi hn hm;obtain⟨q,last,rfl⟩:∃ q last,p=q ++ [last]:=⟨p.dropLast,p.getLast (by intro e;simp[e] at hp),(List.dropLast_concat_getLast _).symm⟩
  have hq:q.length=m:=by simpa using hp
  obtain⟨a,c,hv,_⟩:=id h;have j:(q ++ [last]).length=m+1:=by simp[hq]
  unfold Zn at h;rw[j] at h hv;subst hv;obtain⟨b,off,rfl,A,B,f⟩:=Ql3 (xs:=q.map Value.string) (x:=.string last) (by simpa using h) (by simp[hq]);have y:Zn w (.slice (some ⟨b,off,none⟩) m c) q:=by unfold Zn;simpa [hq] using f
  have r:last.size≤8:=g _ (by simp);have u:∀ s∈q,s.size≤8:=fun s hs=>g s (List.mem_append_left _ hs)
  have HQ:=zh y;have IH:=zh ih;have HL:=zh hq;have t:=zh u;clear ih h f y j hq hp g u;by_cases h1:n=1
  ·subst h1
   go_enter func96,ntmps96
   go_wp2;go_ret2;exact⟨leaf,_,rfl,h8,Below.refl _ _⟩
  ·have hd:(n == 1)=false:=by simpa using h1
   have z:=Qe4 (n:=n.toNat) (by omega) (by omega);obtain⟨k,hk⟩:∃ k,k=below n.toNat:=⟨_,rfl⟩
   rw[←hk] at z;obtain⟨C,d,D⟩:=z;have HK:=zh hk;clear hk;by_cases hik:i<(k:Int)
   ·go_enter func96,ntmps96
    go_wp2_with fail
    refine (Jk _ _ (by omega) (by omega)).mono ?_;rintro e w0 ⟨rfl,rfl⟩;rw[←HK.o]
    go_wp2_with fail
    refine (IH.o q leaf i k _ _ HL.o HQ.o t.o h8 h0 hik (by omega) (by omega)).mono ?_;rintro e w1 ⟨s,bb,rfl,l,hb⟩
    go_wp2_with fail
    refine (Qbe s last _ l r).mono ?_;rintro e w2 ⟨rfl,d⟩;go_wp2;go_ret2;exact⟨_,_,rfl,by rw[Y6];decide,hb.trans (d.mono hb.size)⟩
   ·go_enter func96,ntmps96
    go_wp2_with fail
    refine (Jk _ _ (by omega) (by omega)).mono ?_;rintro e w0 ⟨rfl,rfl⟩;rw[←HK.o]
    go_wp2_with fail
    refine (IH.o q leaf (i-k) (n-k) _ _ HL.o HQ.o t.o h8 (by omega) (by omega) (by omega) (by omega)).mono ?_;rintro e w1 ⟨s,bb,rfl,l,hb⟩
    go_wp2_with fail
    refine (Qbe last s _ r l).mono ?_;rintro e w2 ⟨rfl,d⟩;go_wp2;go_ret2;exact⟨_,_,rfl,by rw[Y6];decide,hb.trans (d.mono hb.size)⟩
theorem Qn0 (p:List ByteArray) (leaf root:ByteArray) (i n:Int) (v:Value) (w:World) (h:Zn w v p) (hp:∀ s∈p,s.size≤8) (hl:leaf.size≤8) (h0:0≤i) (hin:i<n) (hn:n≤9223372036854775807) (hm:p.length≤1048576) :
  Calls prog 40 #[.string leaf,.int .i64 i,.int .i64 n,v,.string root] w fun e w'=>(∃ b,e=.returned (.bool b))∧Below w.heap.size w w':=by
 obtain⟨a,c,hv,_⟩:=id h;have hd:decide (i<0)=false:=by simp;omega
 have f:decide (n≤i)=false:=by simp;omega
 have HH:=zh h;have HV:=zh hv;have HP:=zh hp;clear h hv hp
 go_enter func40,ntmps40
 go_wp2_with fail
 refine (Qpn p.length p leaf i n v w rfl HH.o HP.o hl h0 hin hn hm).mono ?_;rintro e w1 ⟨s,b,rfl,d,hb⟩;cases b with
 | false=>
  go_wp2;go_ret;exact⟨⟨_,rfl⟩,hb⟩
 | true=>
  go_wp2;go_ret;exact⟨⟨_,rfl⟩,hb⟩
end
section
def Q92 (o:Option (List Hsh)) (leaf:Hsh) (i ne:Nat) (R:Hsh) (w:World) (e:Ending) (w':World):Prop:=∃ b,e=.returned (.bool b)∧(∀ hs,o=some hs→b=included leaf i ne hs R)∧Below w.heap.size w w'
theorem Q2j (F:Nat→Addr) (w:World) (p:Pl) (m:Wm) (es:List ByteArray) (i:Nat) (key:ByteArray) (ve vl:Value) (ls:List Lie1) (hp:Qhr w p m es key) (hi:i<es.length) (hlen:es.length≤100) (h20:∀ s∈es,s.size≤20) (he:Zn w ve es)
  (hvl:w.ownsRow 0 47 4 vl ls.length (Qar ls)) (P:ls.length≤100) (hst:∀ x∈ls,x.times≤0) (hld:∀ x∈ls,x.data.size≤1048576) (hkey:key.size≤1048600) (hn:Qad w) (hS:Qbs w F) (hT:ErrT w) :
  Calls prog 10 #[.pointer (some ⟨p.gw,0,none⟩),ve,.int .i64 i,vl] w (Qvr w):=by
 obtain⟨⟨c0,c1,_⟩,_⟩:=hp.wd.heads;rw[hp.mkey] at c1;have gv:p.gw<w.heap.size:=Qk c0;have f2:=zh (Qpe w p.gd m.d.files);have g9:=zh (fun (W:World) (g:Nat)=>Qhc W (.pointer (some ⟨g,0,none⟩)) (.iface 48 (.pointer (some ⟨g,0,none⟩))) (.inr ⟨_,rfl,rfl⟩) key 16 (by decide));obtain⟨ae,ce,f8,g5,ds⟩:=id he;obtain⟨x0,cb⟩:∃ x,es[i]?=some x:=⟨_,List.getElem?_eq_getElem hi⟩
 obtain⟨be,oe,rfl,ec⟩:=ds i (.string x0) (by rw[List.getElem?_map,cb];rfl);subst f8;obtain⟨al,cl,rfl⟩:=Zi hvl;have fn:=zh cb;have em:=zh ec;clear ds cb ec;have HP:=zh hp;have dl:=zh h20;have HE:=zh he;have ex:=zh hvl;have dr:=zh hst;have dg:=zh hld;have HN:=zh hn;have c8:=zh hS;have HT:=zh hT;obtain⟨ne,bq⟩:∃ n,n=es.length:=⟨_,rfl⟩
 obtain⟨nl,bn⟩:∃ n,n=ls.length:=⟨_,rfl⟩
 rw[←bq] at hi hlen g5 ⊢;rw[←bn] at P ⊢;have k:=zh bq;have z:=zh bn;clear hp h20 he hvl hst hld hn hS hT bq bn
 go_enter func10,ntmps10
 go_upto_region 2 with (first|(go_at_call 24;refine f2.o.mono ?_;rintro e w1 ⟨gn,rfl,J,bl,dj⟩;have d1:=(bl.cell (p:=⟨p.gw,1,none⟩) gv).trans c1;have fb:=Qk d1;have fp:=zh J;have g4:=zh bl;have gb:=zh dj;clear J bl dj)|fail)
 go_upto_region 5 with (first|(go_at_call 25;refine (g9.o w1 gn).mono ?_;rintro e w2 ⟨ga,gc,gk,mc,rfl,d7,du,ej,_,d9,d5,eq⟩;have fv:=zh (Qv1 (w0:=w) (w1:=w) (Below.refl _ _) fp.o g4.o gb.o d7 du ej d9 d5 eq);clear d7 du ej d9 d5 eq)|fail)
 clear d1 fb c0 c1;obtain⟨R0,ct⟩:∃ R,R=rootOf (lists es):=⟨_,rfl⟩
 have ek:(lists es).length=ne:=by rw[Q9,k.o]
 have E:=fv.o.update (F:=F) (by omega) HP.o.wd.disk rfl HN.o c8.o HT.o ⟨fun l hl=>(by simp at hl),HP.o.small,fun l hl=>(by simp at hl)⟩ (by show key.size≤_;omega) rfl (Nat.zero_le _);rw[Qkf (es:=lists es) (key:=key) (Q50 HP.o.cp rfl) rfl rfl (by omega) (by omega),ek,←ct] at E;obtain⟨n1,J⟩:∃ n1,n1=Zy ⟨m.d.files,[],[],0⟩ (sOf kCp):=⟨_,rfl⟩
 rw[←J] at E;unfold Q6k at E;dsimp only[Qdk] at E;have eu:n1.files=m.d.files:=by rw[J];exact (Yj _ _).2.1
 have fr:=zh E;have ei:=zh ct;have fw:=zh eu;clear E ek J ct eu
 go_upto_region 6 with (first|(go_at_call 29;refine fr.o.mono ?_;rintro e w5 ⟨v5,ia,rfl,_,dp,_⟩;have eh:=zh dp;clear dp)|fail)
 obtain⟨W5,a3⟩:∃ W,W=w5.alloc (.cells #[.int .i64 0,.string ⟨#[]⟩] 63):=⟨_,rfl⟩
 obtain⟨tb,a1⟩:∃ tb,tb=w5.heap.size:=⟨_,rfl⟩
 have d3:Below w5.heap.size w5 W5:=by rw[a3];exact Qa w5 _
 have c4:Zr W5 tb 0 ⟨#[]⟩:=by rw[a3,a1];exact heap_alloc_new w5 _
 rw[←a1,←a3];have eb:=zh (show w.heap.size≤tb by rw[a1];exact eh.o.below.size);have b6:=zh (eh.o.grow d3);have fx:=zh c4;obtain⟨t0,t1,_,_,tlt⟩:=c4.facts;have b0:=Qgr W5 gn p.gd _ _ (.slice al nl cl) _ ls b6.o.net (by have:=Ql ex.o b6.o.below;rw[←z.o] at this;rw[←z.o];exact this) (by have:=z.o;omega);have fl:=zh b0;clear a3 a1 d3 c4 b0
 go_upto_region 9 with (first|(go_at_call 28;refine fl.o.mono ?_;rintro e w8 ⟨gf,g8,rfl,ep,d0,d8⟩;have j:=b6.o.lied ep d0 d8;have ge:=zh j.1;have dn:=zh (j.2 _ _ _ fx.o);clear ep d0 d8 j)|fail)
 obtain⟨n2,a2⟩:∃ n2,n2=({ n1 with lies:=ls,told:=List.replicate ls.length 0 }:Nt):=⟨_,rfl⟩
 have b1:=ge.o;rw[←a2] at b1;have aw:n2.files=m.d.files:=by rw[a2];exact fw.o
 have a7:n2.lies=ls:=by rw[a2]
 have O:Qjy n2:=⟨by unfold Jo;rw[a7];exact dr.o,by rw[aw];exact HP.o.small,by rw[a7];exact dg.o⟩
 have U:=b1.read (F:=F) (by omega) HP.o.wd.disk aw HN.o c8.o HT.o O rfl (by show ne≤_;omega) i hi;have ay:=Qxi (c:=⟨key,ne,R0,⟨(16:Int).toNat,[]⟩⟩) (N:=ne) O.steady rfl rfl (by omega) hi;have ax:=Qs8 (c:=⟨key,ne,R0,⟨(16:Int).toNat,[]⟩⟩) (N:=ne) O.steady rfl rfl (by omega) hi;obtain⟨r,hr⟩:∃ r,r=Qcx ⟨key,ne,R0,⟨(16:Int).toNat,[]⟩⟩ n2 i:=⟨_,rfl⟩
 rw[←hr] at U ay ax;obtain⟨⟨tk,tp⟩,⟨bb,hh⟩,c2,n3⟩:=r;unfold LiRd at U;dsimp only at U ay ax;have ha:=zh U;have dk:=zh ay;have ib:=zh ax;have ci:=zh aw;have gu:=zh a7;have fs:=zh O;clear a2 b1 aw a7 O U ay ax hr t0 t1 tlt
 go_upto_region 10 with (first|(go_at_call 36;refine ha.o.mono ?_;rintro e w9 ⟨nn,v9,gh,rfl,dy,dd,dm,bd⟩;have dz:=zh dy;have g0:=zh dd;have gs:=zh dm;have dc:=zh (bd _ _ _ dn.o);obtain⟨t0,t1,cj,co,tlt⟩:=(bd _ _ _ dn.o).facts;clear dy dd dm bd)|fail)
 obtain⟨A,v⟩:=Qc2 (m:=tk) (t:=tp) dc.o;obtain⟨W9,eo⟩:∃ W,W=(w9.setCell ⟨tb,0,none⟩ (.int .i64 tk)).setCell ⟨tb,1,none⟩ (.string tp):=⟨_,rfl⟩
 rw[←eo] at A v ⊢;have ar:=zh (gs.o.told dc.o eb.o v);have e6:=zh (show Q0 W9 w8.heap.size v9 (hh.map HS) from Zk g0.o v (Q5 dc.o) (by decide));have fi:=zh A;have cz:=Qwx W9 p m (HP.o.wd.below ar.o.below) (by have:=HP.o.few;omega) (.slice al nl cl) ls (by have:=Ql ex.o ar.o.below;rw[←z.o] at this;rw[←z.o];exact this) (by have:=z.o;omega);have e7:=zh cz;clear eo A v cz t0 t1 cj co tlt
 go_upto_region 11 with (first|(go_at_call 32;refine e7.o.mono ?_;rintro e a ⟨nb,z0,z1,z2,l',rfl,et,X⟩;have cw:=zh et;have f1:=zh X;have e0:=zh (fi.o.below X.bel);have e8:=zh (ar.o.grow X.bel);have ey:=zh (show Q0 a w8.heap.size v9 (hh.map HS) from Ql e6.o X.bel);clear et X)|fail)
 have d6:Qjy ⟨l',ls,[],0⟩:=⟨dr.o,fun f hf=>HP.o.small f (cw.o.mem_iff.1 hf),dg.o⟩
 have ap:∀ q,Q6 ⟨l',ls,[],0⟩ q=Q6 n2 q:=fun q=>by
  have:=Qo0 (n:=n2) fs.o.steady (by rw[ci.o];exact HP.o.once) (l:=l') (by rw[ci.o];exact cw.o) q
  rw[gu.o] at this;exact this
 have da:=Q1h f1.o d6 (by rw[cw.o.length_eq];have:=HP.o.few;omega) (by have:=z.o;omega);obtain⟨nR,dw⟩:∃ n,n=(⟨l',ls,[],0⟩:Nt):=⟨_,rfl⟩
 rw[←dw] at ap da;have K:=zh (Qzw (fun q=>(ap q).symm) dk.o.1);have cn:(Qef nR ne i).length+(Zm nR ne (Yx ne 0 ne i).reverse).length+1<1099511627776:=by
  have h1:=Qgo (n:=nR) (N:=ne) (Yx ne 0 ne i).reverse;have h2:=Qho (N:=ne) (i:=i) (by omega) hi;have h3:(Qn1 ne i).length=(Zx ne (Yx ne 0 ne i).reverse).length+1:=rfl;have h4:(Qef nR ne i).length≤1:=by unfold Qef;split <;> simp
  omega
 obtain⟨Wb,a4⟩:∃ W,W=a.alloc (.cells #[.pointer (some ⟨nb,0,none⟩),.int .i64 ne,.slice none 0 0] 78):=⟨_,rfl⟩
 have bk:LkW a nb z0 z1 z2 nR a.heap.size ne Wb (.slice none 0 0) []:=⟨da,by rw[a4];exact Qa a _,⟨by rw[a4];exact heap_alloc_new a _,World.ownsRow_nil _ _ _ _,Nat.le_refl _⟩⟩
 have b7:=Qzt a Wb z0 z1 z2 nR a.heap.size nb ne (.slice none 0 0) [] bk i hi (by omega) (by simp);obtain⟨oE,bw⟩:∃ o,o=Qhj nR ne i:=⟨_,rfl⟩
 obtain⟨mE,V⟩:∃ o,o=Qef nR ne i:=⟨_,rfl⟩
 obtain⟨oG,b8⟩:∃ o,o=Yg nR ne (Yx ne 0 ne i).reverse:=⟨_,rfl⟩
 obtain⟨mG,a0⟩:∃ o,o=Zm nR ne (Yx ne 0 ne i).reverse:=⟨_,rfl⟩
 have c6:=fun (W:World) (vm:Value) h=>Qje a z0 z1 z2 nR a.heap.size nb ne (by omega) ne 0 ne i (Nat.le_refl _) (Nat.zero_le _) hi (Nat.le_refl _) W vm mE h (by rw[V];exact cn)
 unfold Qo1 at K;rw[←bw,←V] at b7;rw[←bw,←V,←b8,←a0] at K;rw[←b8,←a0,Nat.sub_zero,Nat.sub_zero] at c6;have dh:=Qdt ne 63 0 ne i (by omega) (Nat.le_refl _);have gj:=zh dh;have b2:=zh cn;rw[←V,←a0] at b2;have gl:=zh a4;have dt:=zh bk;have f4:=zh b7;have g7:=zh c6;clear ap da d6 cn a4 bk b7 c6 bw V b8 a0 dw dh
 go_upto_region 12 with fail
 rw[←gl.o]
 go_upto_region 13 with (first|(go_at_call 37;refine f4.o.mono ?_;rintro e hc ⟨s,yy,gp,rfl,hs,hz,bf⟩;have gz:=zh hs;have g6:=zh hz;have br:=zh bf;clear hs hz bf)|fail)
 go_upto_region 14 with (first|(go_at_call 38;refine (g7.o hc gp (dt.o.step br.o)).mono ?_;rintro e I ⟨vp,h5,ss,rfl,d2,di,eg,df,cu,_⟩;have ew:=zh d2;have en:=zh di;have gr:=zh eg;have fq:=zh df;have ai:=zh cu;clear d2 di eg df cu)|fail)
 obtain⟨G,hG⟩:∃ G,G=mE++mG:=⟨_,rfl⟩
 have C:=ai.o.lk;have D:=((dt.o.step br.o).step ai.o).bel;rw[←hG] at C K;obtain⟨am,cm,rfl⟩:=Zi C.miss;obtain⟨ng,a5⟩:∃ n,n=G.length:=⟨_,rfl⟩
 have ch:=Q0.at C.miss;have cs:=Qd C.cells 2 rfl;rw[←a5] at ch cs;rw[←a5] at ai;have gq:=zh ch;have ee:=zh cs;have ht:=zh D;have cq:=zh (e0.o.below D);have ac:=zh (e8.o.grow D);have ad:=zh (show Q0 I w8.heap.size v9 (hh.map HS) from Ql ey.o D);have a6:=zh a5;have g3:=zh (Qsi s I (by have:=g6.o;omega));have b9:=fun W (hW:Below w.heap.size w W)=>Qdh ne es (.slice (some ⟨be,oe,none⟩) ne ce) W (by rw[k.o];exact Nat.le_refl _) (by have:=HE.o.below hW;rw[←k.o] at this;exact this) (by have:=k.o;omega) (fun s hs=>Nat.le_trans (dl.o s hs) (by decide))
 rw[←ei.o] at b9;have fu:=zh b9;have f9:=zh hG;clear C ch cs D a5 b9 hG
 go_upto_region 16 with (first|(go_at_call 39;refine g3.o.mono ?_;rintro e hg ⟨rfl,bt⟩;have aj:=zh bt;clear bt)|(go_at_call 30;refine (fu.o hg (ac.o.grow aj.o).below).mono ?_;rintro e ba ⟨rfl,ck⟩;have ag:=zh (aj.o.trans (ck.mono aj.o.size));clear ck)|fail)
 have dx:=zh (Zn.below (Q0.at ew.o) ag.o);have fy:=zh (show ng≤1099511627776 by rw[a6.o,f9.o,List.length_append];have:=b2.o;omega);have hm:ss.length≤64:=by have:=gr.o;have:=gj.o;omega
 have cy:Calls prog 40 #[.string (HS (Jx s.data.toList)),.int .i64 i,.int .i64 ne,vp,.string (HS R0)] ba (Q92 oG (Jx s.data.toList) i ne R0 ba):=by
  rcases gm:oG with _|hs
  ·refine (Qn0 ss (HS (Jx s.data.toList)) (HS R0) (i:Int) (ne:Int) vp ba dx.o fq.o (by rw[Y6];decide) (by omega) (by omega) (by omega) (by omega)).mono fun e w' hq=>?_
   obtain⟨⟨b,he⟩,hb⟩:=hq;exact⟨b,he,fun hs hh=>(by cases hh),hb⟩
  ·have az:=en.o hs gm
   refine (Qqb hs (Jx s.data.toList) R0 i ne vp ba (by rw[←az];exact dx.o) (by omega) (by omega) (by
    have:=congrArg List.length az
    rw[List.length_map] at this
    omega)).mono fun e w' hq=>?_
   exact⟨_,hq.1,fun hs' hh=>by cases hh;rfl,hq.2⟩
 have fj:=zh cy;clear cy
 go_upto_block 0 with (first|(go_at_call 40;refine fj.o.mono ?_;rintro e B ⟨yb,rfl,H,cg⟩;have gt:=zh H;have u:=zh (ag.o.trans (cg.mono ag.o.size));clear H cg)|fail)
 have T:=(u.o.cell (p:=⟨a.heap.size,2,none⟩) (Qk ee.o)).trans ee.o;have gy:=Qk T;have cf:=zh (ac.o.grow u.o);have ao:=zh (cq.o.below u.o);obtain⟨t0,t1,_,_,tlt⟩:=ao.o.facts
 go_cut [23] (fun s23 wx=>s23=.bool true∧Aside (tk≠0∧LiSt w wx 2 p.gd ga gc gk mc gn gf g8 n3 c2 gh∧Zr wx tb tk tp))
 case first=>
  rcases K.o with ⟨x,hs,e1,e2,e3,aa⟩|⟨pp,bo,e4,e5⟩
  ·have go:=gz.o x e1
   have az:=en.o hs e2;have H:=gt.o hs e2;subst az go;obtain rfl:ng=0:=by rw[a6.o,e3];rfl
   rw[←H] at aa;have h9:=zh H;clear e1 e2 e3 H;cases yb with
   | true=>
    rw[if_pos rfl] at aa;obtain⟨q1,q2⟩:=aa;cases q1;cases q2;have a8:=zh (Qqi v9 vp (hh.map HS) (hh.map HS) B (Zn.below (Q0.at ad.o) u.o) (Zn.below (Q0.at (Ql ew.o (Below.refl _ _))) u.o) (by omega));rw[decide_eq_true rfl] at a8
    go_upto_region 18 with (first|(go_at_call 35;refine a8.o.mono ?_;rintro e hd ⟨rfl,ca⟩;have db:=zh (u.o.trans (ca.mono u.o.size));clear ca)|fail)
    obtain⟨t0,_,_,_,tlt⟩:=(cq.o.below db.o).facts;rw[Qag]
    go_wp2_with fail
    go_ret;exact⟨rfl,(ac.o.grow db.o).below⟩
   | false=>
    rw[if_neg (by simp)] at aa;obtain⟨q1,q2⟩:=aa;cases q1;cases q2;obtain rfl:nn=true:=by
     rcases dz.o with h|h
     ·cases h
     ·exact h
    have ho:=ad.o;obtain⟨a9,c9,Q⟩:=Zi ho;rw[show (([]:List Hsh).map HS).length=0 from rfl] at Q;subst Q;clear ho
    go_wp2_with fail
    go_meet;exact⟨rfl,by decide,cf.o,ao.o⟩
  ·cases e4
   cases e5;obtain rfl:nn=true:=by
    rcases dz.o with h|h
    ·cases h
    ·exact h
   have ho:=ad.o;obtain⟨a9,c9,Q⟩:=Zi ho;rw[show (([]:List Hsh).map HS).length=0 from rfl] at Q;subst Q;have hx:(0:Int)<(ng:Int):=by
    have:=List.length_pos_of_mem bo
    have:=a6.o
    omega
   have f5:=zh bo;have ft:=zh (fun (W:World) (hW:Below I.heap.size I W)=>Qr8 W (.slice am ng cm) G tp (gq.o.below hW) (by have:=fy.o;have:=a6.o;omega));have g1:=zh (show Below I.heap.size I B.drew from u.o.drew);have ed:B.drew.cell? ⟨a.heap.size,2,none⟩=some (.slice am ng cm):=T;have er:B.drew.cell? ⟨tb,1,none⟩=some (.string tp):=t1;clear ho bo
   go_upto_region 20 with fail
   go_region_held3 (fun w'=>w'.cell? ⟨a.heap.size,2,none⟩=some (.slice am ng cm)∧w'.cell? ⟨tb,1,none⟩=some (.string tp)) (first|with_reducible exact⟨T,t1⟩|with_reducible exact⟨ed,er⟩|fail) (first
    | (go_at_call 34;refine (ft.o B.drew g1.o).mono ?_;rintro e hd ⟨⟨b,rfl,hb⟩,rfl⟩;obtain rfl:b=true:=hb.2 f5.o;clear hb)
    | fail)
   all_goals (
    have ez:=zh (cf.o.grow (Qn B))
    have b4:=zh (ao.o.below (Qn B))
    clear T ed t0 t1 er
    obtain⟨t0,_,_,_,hu⟩:=b4.o.facts
    go_wp2_with fail
    go_meet
    exact⟨rfl,by decide,ez.o,b4.o⟩)
 case rest=>
  obtain⟨rfl,HQ⟩:=hcut;obtain⟨s1,s2,s3,s4,s5⟩:=dk.o.2;have s6:=s5 HQ.o.1;have ev:=zh HQ.o.2.1;have fo:=zh HQ.o.2.2;have gg:c2=(⟨key,ne,R0,⟨(16:Int).toNat,[]⟩⟩:Cl):=by rw[←s2,←s3,←s4,←s6]
  subst gg;have f7:=zh s1;clear s1 s2 s3 s4 s5 s6 T gy t0 t1 tlt HQ;have b5:=Qgr wc gn p.gd _ _ (.slice none 0 0) n3 [] ev.o.net (World.ownsRow_nil _ _ _ _) (by decide);have ff:=zh b5;clear b5
  go_upto_region 25 with (first|(go_at_call 28;refine ff.o.mono ?_;rintro e g2 ⟨hw,hk,rfl,cx,bj,bg⟩;have j:=ev.o.lied cx bj bg;have fc:=zh j.1;have cd:=zh (j.2 _ _ _ fo.o);clear cx bj bg j)|fail)
  obtain⟨n4,bc⟩:∃ n4,n4=({ n3 with lies:=[],told:=List.replicate ([]:List Lie1).length 0 }:Nt):=⟨_,rfl⟩
  have aq:=fc.o;rw[←bc] at aq;have Y:n4.files=m.d.files:=by rw[bc];exact f7.o.2.trans ci.o
  have S:n4.lies = []:=by rw[bc]
  have dq:Qjy n4:=⟨by unfold Jo;rw[S];intro l hl;simp at hl,by rw[Y];exact HP.o.small,by rw[S];intro l hl;simp at hl⟩
  obtain⟨L,M⟩:=HP.o.rdw;have y:=aq.read (F:=F) (by omega) HP.o.wd.disk Y HN.o c8.o HT.o dq rfl (by show ne≤_;omega) i hi;have P:(lists es).length=ne:=by rw[Q9,k.o]
  have de:m.es.length≤1048576:=by rw[HP.o.ents,←k.o];omega
  have c5:=Q6c M de Y S;have bp:=Qsj (n:=n4) (by rw[Y];exact M.has) S;have bi:=M.short;rw[HP.o.ents] at c5 bp bi;have dv:=Qx0 (n:=n4) (by omega) bi c5 key (16:Int).toNat (by rw[P,k.o];exact bp) (i:=i) (by omega);rw[P,←ei.o] at dv;obtain⟨cv,Z⟩:=dv;obtain⟨r2,hr⟩:∃ r,r=Qcx ⟨key,ne,R0,⟨(16:Int).toNat,[]⟩⟩ n4 i:=⟨_,rfl⟩
  rw[←hr] at y cv Z;obtain⟨⟨h0,ie⟩,⟨f6,el⟩,c3,n5⟩:=r2;unfold LiRd at y;dsimp only at y cv Z;cases cv;have ef:sOf f6=x0:=by have e1:=congrArg Prod.fst Z;dsimp only at e1;rw[e1];unfold lists;rw[List.getD_eq_getElem?_getD,List.getElem?_map,fn.o];exact Qag x0
  have b3:el=Qav (lists es) i:=congrArg Prod.snd Z;rw[ef] at y;have fe:=zh y;have gx:=zh b3;clear bc aq Y S dq M y hr Z ef b3 P de c5 bp bi
  go_upto_region 26 with (first|(go_at_call 36;refine fe.o.mono ?_;rintro e d4 ⟨h6,ea,hv,rfl,_,bh,bu,au⟩;have fm:=zh bh;have fa:=zh bu;have ab:=zh (au _ _ _ cd.o);obtain⟨t0,t1,cj,co,tlt⟩:=(au _ _ _ cd.o).facts;clear bh bu au)|fail)
  obtain⟨A,v⟩:=Qc2 (m:=(0:Nat)) (t:=⟨#[]⟩) ab.o;obtain⟨bm,ak⟩:∃ W,W=(d4.setCell ⟨tb,0,none⟩ (.int .i64 (0:Nat))).setCell ⟨tb,1,none⟩ (.string ⟨#[]⟩):=⟨_,rfl⟩
  rw[←ak] at A v;have an:=zh (fa.o.told ab.o eb.o v);have ah:Q0 bm g2.heap.size ea (el.map HS):=Zk fm.o v (Q5 ab.o) (by decide);rw[gx.o] at ah;have fh:=zh ah;have fg:=zh A;have f0:=zh (Q2c es.length es (.slice (some ⟨be,oe,none⟩) ne ce) i bm (Nat.le_refl _) (by have:=HE.o.below an.o.below;rw[←k.o] at this;exact this) (by have:=k.o;omega) (fun s hs=>Nat.le_trans (dl.o s hs) (by decide)) (by have:=k.o;omega));have fk:=zh ak;clear ak A v ah t0 t1 cj co tlt
  go_upto_region 26 with fail
  try rw[show (d4.setCell ⟨tb,0,none⟩ (.int .i64 0)).setCell ⟨tb,1,none⟩ (.string ⟨#[]⟩)=bm from fk.o.symm]
  go_upto_region 27 with (first|(go_at_call 41;refine f0.o.mono ?_;rintro e gi ⟨f3,rfl,c7,cc⟩;have e9:=zh c7;have av:=zh cc;clear c7 cc)|fail)
  have cr:=Qqi ea f3 ((Qav (lists es) i).map HS) ((Qav (lists es) i).map HS) gi (Zn.below (Q0.at fh.o) av.o) (Q0.at e9.o) (by rw[List.length_map];have:=Qjh (lists es) i;rw[Q9] at this;have:=k.o;omega);rw[decide_eq_true rfl] at cr;have a8:=zh cr;clear cr
  go_upto_region 28 with (first|(go_at_call 35;refine a8.o.mono ?_;rintro e hj ⟨rfl,bz⟩;have bx:=zh (av.o.trans (bz.mono av.o.size));clear bz)|fail)
  have af:Below w.heap.size w hj:=an.o.below.trans (bx.o.mono an.o.below.size);obtain⟨t0,_,_,_,tlt⟩:=(fg.o.below bx.o).facts;have fz:=(af.cell (p:=⟨be,oe+i,none⟩) (Qk em.o)).trans em.o;have hy:=Qk fz;have ic:(i:Int)<(ne:Int):=by omega
  have h7:(0:Int)≤(i:Int):=by omega
  have fd:=zh af;clear af
  go_wp2_with fail
  go_ret;exact⟨rfl,fd.o⟩
end
section
def Q5f (w0 w:World) (gw i:Nat) (key:ByteArray) (l:List ByteArray):Prop:=∃ p m L P,p.gw=gw∧m.es=l.take i∧WSt w0 w (2*i) key p m L P
theorem Qst (F:Nat→Addr) (w:World) (vl:Value) (l:List ByteArray) (mi:Int) (key:ByteArray) (hl:Zn w vl l) (hlen:l.length≤100) (h20:∀ s∈l,s.size≤20) (hkey:key.size≤1048600) (hn:Qad w) (hS:Qbs w F) (hT:ErrT w) :
  Calls prog 7 #[vl,.int .i64 mi,.string key] w (Q2d w key l):=by
 have HL:=zh hl;obtain⟨al,cl,rfl,_,_⟩:=hl;have ad:=zh h20;have HN:=zh hn;have HS:=zh hS;have HT:=zh hT;have aa:=zh (Q3u w (.slice none 0 0) [] key ⟨none,0,rfl,Nat.le_refl _,fun j x hx=>by simp at hx⟩ (by decide));clear h20 hn hS hT
 go_enter func7,ntmps7
 go_upto_region 2 with (first|(go_at_call 20;refine aa.o.mono ?_;rintro e w2 ⟨p0,rfl,O⟩;have A:=zh O;clear O)|fail)
 have V:Good ⟨key,dk0 (firsts []),none,[],0,false,false⟩ [] 0:=⟨Q5h (l:=[]) (Nat.le_refl _) (fun f hf=>by simp at hf),fun L hL=>by cases hL⟩
 have R:=zh (Q5y F w2 p0 _ [] 0 A.o.1 V rfl (Qum A.o.2.1 HN.o HS.o HT.o A.o.2.2) (by simp) (by omega) (by show key.size≤_;omega));clear V;obtain⟨gw,J⟩:∃ g,g=p0.gw:=⟨_,rfl⟩
 rw[←J] at R ⊢;have Y:=zh J;clear J
 go_upto_region 3 with (first|(go_at_call 21;refine R.o.mono ?_;intro e w3 h3;obtain⟨he,p1,m1,L1,q1,q2,q3⟩:=Q44 A.o h3;subst he;have HA:=zh (show Q5f w w3 gw 0 key l from ⟨p1,m1,L1,0,q1.trans Y.o.symm,q2,q3⟩);clear q1 q2 q3 h3)|fail)
 go_wp2_with fail
 go_loopw [8,9] (fun s8 s9 wr=>∃ i:Nat,i≤l.length∧s9=.int .i64 i∧s8=.bool true∧Aside (Q5f w wr gw i key l)) (fun _ s9 _=>l.length-(intOf s9).toNat)
 case atStart=>exact⟨0,Nat.zero_le _,rfl,rfl,HA.o⟩
 case round=>
  obtain⟨i,hi,rfl,rfl,HR⟩:=hrel;by_cases hlt:i<l.length
  ·have X:decide ((i:Int)<(l.length:Int))=true:=decide_eq_true (by omega)
   have af:(0:Int)≤(i:Int):=by omega
   have ae:(i:Int)<(l.length:Int):=by omega
   obtain⟨p,m,L,P,r,d,u⟩:=HR.o;obtain⟨x,hx⟩:∃ x,l[i]?=some x:=⟨_,List.getElem?_eq_getElem hlt⟩
   have D:=ad.o x (List.mem_of_getElem? hx);have Q:l.take (i+1)=l.take i ++ [x]:=by rw[List.take_add_one,hx];rfl
   have S:=zh Q;have HX:=zh hx;have T:=zh d;have H:=zh u;have U:=zh r;clear Q hx d u r;have y:∀ W,Below w.heap.size w W→∃ b off,al=some ⟨b,off,none⟩∧W.cell? ⟨b,off+i,none⟩=some (.string x):=fun W hW=>by obtain⟨_,_,hv,_,hc⟩:=HL.o.below hW;cases hv;exact hc i (.string x) (by rw[List.getElem?_map,HX.o];rfl)
   have B:=zh y;clear y;by_cases hmi:(i:Int)=mi
   ·have ab:((i:Int) == mi)=true:=by simp[hmi]
    have a:=H.o.publish (by omega) HN.o HS.o HT.o hkey;rw[U.o] at a;have I:=zh a;clear a hmi
    go_upto_region 9 with (first|(go_at_call 22;refine I.o.mono ?_;rintro e w4 ⟨rfl,p4,m4,L4,t,k,n⟩;have E:=zh t;have G:=zh (k.trans T.o);have z:=zh n;clear t k n)|fail)
    have c:=z.o.append (by omega) HN.o HS.o HT.o x D;rw[E.o,G.o] at c;have C:=zh c;obtain⟨b,off,rfl,K⟩:=B.o w4 z.o.below;have ac:=Qk K;clear c
    go_wp2_with (first|(go_at_call 23;refine C.o.mono ?_;rintro e w5 ⟨rfl,p5,m5,L5,P5,v,h,q⟩;have M:=zh (show Q5f w w5 gw (i+1) key l from ⟨p5,m5,L5,P5,v,h.trans S.o.symm,q⟩);clear v h q)|fail)
    go_roundw
    case rel=>exact⟨i+1,by omega,by go_num,rfl,M.o⟩
    case measure=>simp[intOf];omega
   ·have ab:((i:Int) == mi)=false:=by simp[hmi]
    have c:=H.o.append (by omega) HN.o HS.o HT.o x D;rw[U.o,T.o] at c;have C:=zh c;obtain⟨b,off,rfl,K⟩:=B.o wr H.o.below;have ac:=Qk K;clear c hmi
    go_wp2_with (first|(go_at_call 23;refine C.o.mono ?_;rintro e w5 ⟨rfl,p5,m5,L5,P5,v,h,q⟩;have M:=zh (show Q5f w w5 gw (i+1) key l from ⟨p5,m5,L5,P5,v,h.trans S.o.symm,q.more (by omega)⟩);clear v h q)|fail)
    go_roundw
    case rel=>exact⟨i+1,by omega,by go_num,rfl,M.o⟩
    case measure=>simp[intOf];omega
  ·have X:decide ((i:Int)<(l.length:Int))=false:=decide_eq_false (by omega)
   obtain⟨p,m,L,P,r,d,u⟩:=HR.o;have N:l.take i=l:=List.take_of_length_le (by omega);rw[N] at d;have a:=u.publish (by omega) HN.o HS.o HT.o hkey;rw[r,d] at a;have I:=zh a;have Z:2*i+1≤2*l.length+2:=by omega
   clear a d u r N
   go_wp2_with (first|(go_at_call 22;refine I.o.mono ?_;rintro e w4 ⟨rfl,p4,m4,L4,t,k,n⟩;have E:=zh t;have G:=zh k;have z:=zh n;clear t k n)|fail)
   go_ret;exact⟨p4,m4,L4,by rw[E.o];rfl,G.o,z.o.more Z⟩
end
section
def fewB (ss:List ByteArray):Bool:=decide (ss.length≤4096) && ss.all (fun s=>decide (s.size≤1048576))
variable {ss:List ByteArray}
theorem Q8m (h1:ss.length≤4096) (h:∀ (j:Nat) (s:ByteArray),ss[j]?=some s→s.size≤1048576):fewB ss=true:=by simp only[fewB,Bool.and_eq_true,decide_eq_true_eq,List.all_eq_true];refine⟨h1,fun x hx=>?_⟩;obtain⟨j,hj,rfl⟩:=List.getElem_of_mem hx;exact h j _ (List.getElem?_eq_getElem hj)
theorem Q9p {j:Nat} {s:ByteArray} (hj:ss[j]?=some s) (h:1048576<s.size):fewB ss=false:=by simp only[fewB,Bool.and_eq_false_iff];right;rw[List.all_eq_false];exact⟨s,List.mem_of_getElem? hj,by simp;omega⟩
theorem Q7v (v:Value) (ss:List ByteArray) (w:World) (h:Zn w v ss) :
  Calls prog 5 #[v] w fun e w'=>e=.returned (.bool (fewB ss))∧w=w':=by
 obtain⟨a,c,rfl,l,hc⟩:=h;by_cases hn:4096<ss.length
 ·go_enter func5,ntmps5
  go_wp2;go_ret;exact⟨Ym (by simp[fewB];omega),rfl⟩
 ·have HC:=zh hc
  clear hc;have hd:decide (4096<(ss.length:Int))=false:=by simp;omega
  go_enter func5,ntmps5
  go_wp2
  go_loop [3] (fun i=>∃ k:Nat,k≤ss.length∧i=.int .i64 k∧∀ (j:Nat) (s:ByteArray),j<k→ss[j]?=some s→s.size≤1048576) (fun i=>ss.length-(intOf i).toNat)
  case atStart=>exact⟨0,by omega,rfl,by omega⟩
  case round=>
   obtain⟨k,hk,rfl,d⟩:=hrel;have HS:=zh d;clear d;by_cases hlt:k<ss.length
   ·obtain⟨s,hs⟩:∃ s,ss[k]?=some s:=⟨_,List.getElem?_eq_getElem hlt⟩
    obtain⟨b,off,rfl,g⟩:=HC.o k (.string s) (by simp[hs]);have HK:=zh hs;clear hs;go_wp2
    ·have f:1048576<(s.size:Int):=by assumption
     go_ret;exact⟨Ym (Q9p HK.o (by omega)).symm,rfl⟩
    ·have f:(s.size:Int)≤1048576:=by assumption
     go_round
     case rel=>
      refine⟨k+1,by omega,by go_num,fun j s' hj hs'=>?_⟩;by_cases hjk:j=k
      ·subst hjk
       have:=HK.o
       rw[hs'] at this;cases this;omega
      ·exact HS.o j s' (by omega) hs'
     case measure=>simp[intOf];omega
   ·go_wp2
    go_ret;exact⟨Ym (Q8m (by omega) (fun j s hs=>HS.o j s (by have:=(List.getElem?_eq_some_iff.1 hs).1;omega) hs)).symm,rfl⟩
end
section
def fitL (l:List ByteArray):List ByteArray:=l.filter fun s=>decide (s.size≤20)
variable {l:List ByteArray}
theorem Q4s {k:Nat} {s:ByteArray} (h:l[k]?=some s):fitL (l.take (k+1))=fitL (l.take k)++(if s.size≤20 then [s] else []):=by
 unfold fitL;rw[List.take_add_one,h,List.filter_append]
 congr 1
 by_cases h2:s.size≤20 <;> simp[h2]
theorem Q3l (l:List ByteArray) (k:Nat):(fitL (l.take k)).length≤k:=by unfold fitL;exact Nat.le_trans (List.length_filter_le _ _) (by rw[List.length_take];omega)
theorem Q9r (M:Nat) (h:M≤1000000):wrap64 ((M:Nat):Int)=(M:Int):=by unfold wrap64;omega
theorem Q9i:∀ s∈fitL l,s.size≤20:=fun s hs=>by
 have:=(List.mem_filter.1 hs).2
 simpa using this
theorem Q00 (F:Nat→Addr) (w:World) (va vl:Value) (l:List ByteArray) (mi ii:Int) (key:ByteArray) (ls:List Lie1) (hs:Zn w va l) (hl:Qos w vl ls) (hm1 : -9223372036854775808≤mi) (hm2:mi≤9223372036854775807) (hi1 : -9223372036854775808≤ii) (hi2:ii≤9223372036854775807)
  (hkey:key.size≤1048600) (hld:∀ x∈ls,x.data.size≤1048576) (hN:Qad w) (hS:Qbs w F) (hT:ErrT w) :
  Calls prog 3 #[va,.int .i64 mi,.string key,vl,.int .i64 ii] w (Qvr w):=by
 have g:=zh (Q7v va l w hs);have bx:=zh hs;have bo:=zh hl;obtain⟨a0,c0,rfl,_,_⟩:=hs;obtain⟨a3,c3,rfl,_,_⟩:=hl;obtain⟨i0,hi,br,bw,b2⟩:=info_parts Qb5;have HN:=zh hN;have HS:=zh hS;have HT:=zh hT;have bd:=zh hld;clear hN hS hT hld;cases hfb:fewB l with
 | false=>
  rw[hfb] at g;clear hfb
  go_enter func3,ntmps3
  go_wp2_with (first|(go_at_call 5;refine g.o.mono ?_;rintro e w1 ⟨rfl,rfl⟩)|fail)
  go_ret;exact⟨rfl,Below.refl _ _⟩
 | true=>
  rw[hfb] at g;clear hfb;by_cases hbig:100<l.length
  ·have hz:decide ((100:Int)<(l.length:Int))=true:=decide_eq_true (by omega)
   go_enter func3,ntmps3
   go_wp2_with (first|(go_at_call 5;refine g.o.mono ?_;rintro e w1 ⟨rfl,rfl⟩)|fail)
   go_ret;exact⟨rfl,Below.refl _ _⟩
  by_cases hbig2:100<ls.length
  ·have hz:decide ((100:Int)<(l.length:Int))=false:=decide_eq_false (by omega)
   have bt:decide ((100:Int)<(ls.length:Int))=true:=decide_eq_true (by omega)
   go_enter func3,ntmps3
   go_wp2_with (first|(go_at_call 5;refine g.o.mono ?_;rintro e w1 ⟨rfl,rfl⟩)|fail)
   go_ret;exact⟨rfl,Below.refl _ _⟩
  have hz:decide ((100:Int)<(l.length:Int))=false:=decide_eq_false (by omega);have bt:decide ((100:Int)<(ls.length:Int))=false:=decide_eq_false (by omega)
  go_enter func3,ntmps3
  go_upto_region 6 with (first|(go_at_call 5;refine g.o.mono ?_;rintro e w1 ⟨rfl,rfl⟩)|fail)
  go_wp2_with fail
  go_loopw [12,13] (fun v i wr=>∃ k:Nat,k≤l.length∧i=.int .i64 k∧Aside (Q0 wr w.heap.size v (fitL (l.take k))∧Below w.heap.size w wr)) (fun _ i _=>l.length-(intOf i).toNat)
  case atStart=>exact⟨0,by omega,rfl,World.ownsRow_nil _ _ _ _,Below.refl _ _⟩
  case round=>
   obtain⟨k,hk,rfl,HR⟩:=hrel;by_cases hlt:k<l.length
   ·obtain⟨s,Q⟩:∃ s,l[k]?=some s:=⟨_,List.getElem?_eq_getElem hlt⟩
    obtain⟨_,_,bi,_,ag⟩:=bx.o.below HR.o.2;cases bi;obtain⟨b,off,rfl,X⟩:=ag k (.string s) (by rw[List.getElem?_map,Q];rfl);have ca:=Qk X;have b6:(0:Int)≤(k:Int):=by omega
    have bc:(k:Int)<(l.length:Int):=by omega
    have aq:=Q4s Q;have b9:=Q3l l k;have E:=HR.o.1;unfold Q0 at E;have bu:=zh E;have I:=zh aq;clear ag Q aq E;by_cases m:s.size≤20
    ·have a4:(s.size:Int)≤20:=by omega
     rw[if_pos m] at I
     go_wp2_with (at_builtin;refine Jd rfl _ _ 22 rfl w.heap.size 9 i0 (.string ⟨#[]⟩) 16 underlying22 hi br bw b2 rfl (by decide) _ _ _ rfl bu.o _ rfl rfl (by omega) HR.o.2.size ?_;intro v2 w2 aw au a5;have bq:=zh aw;have bz:=zh au;clear aw au a5)
     go_roundw
     case rel=>
      refine⟨k+1,by omega,by go_num,?_,?_⟩
      ·rw[I.o]
       unfold Q0;simpa using bq.o
      ·exact HR.o.2.grown bz.o HR.o.2.size (fun j hj=>(HR.o.1.lt j hj).1)
     case measure=>simp[intOf];omega
    ·have a4:¬ (s.size:Int)≤20:=by omega
     rw[if_neg m,List.append_nil] at I
     go_wp2_with fail
     go_roundw
     case rel=>
      refine⟨k+1,by omega,by go_num,?_,HR.o.2⟩;rw[I.o];exact HR.o.1
     case measure=>simp[intOf];omega
   ·have bc:¬ (k:Int)<(l.length:Int):=by omega
    obtain⟨es,J⟩:∃ es,es=fitL (l.take k):=⟨_,rfl⟩
    have m:∀ s∈es,s.size≤20:=fun s hs=>by rw[J] at hs;exact Q9i s hs
    have D:es.length≤100:=by rw[J];have:=Q3l l k;omega
    have hR:=HR.o;rw[←J] at hR;obtain⟨ho,hb⟩:=hR;obtain⟨ae,ce,rfl⟩:=Zi ho;have ak:=Q0.at ho;have r:=zh ak;have HB:=zh hb;have H:=zh m;clear J m ho hb ak HR hbig hz;obtain⟨ne,p⟩:∃ n,n=es.length:=⟨_,rfl⟩
    rw[←p];rcases Nat.eq_zero_or_pos ne with h0|h0
    ·subst h0
     go_wp2_with fail
     go_ret;exact⟨rfl,HB.o⟩
    have b8:((ne:Int) == 0)=false:=by rw[beq_eq_false_iff_ne];omega
    have U:=fun W=>Qw3 mi ne W hm1 hm2 h0 (by omega)
    have bg:=Qv4 mi (n:=ne) h0;obtain⟨q,hq⟩:∃ q,q=Qtd mi ne:=⟨_,rfl⟩
    rw[←hq] at U bg;have L:=fun W=>Qw3 ii ne W hi1 hi2 h0 (by omega)
    have R:=Qv4 ii (n:=ne) h0;obtain⟨qi,Y⟩:∃ q,q=Qtd ii ne:=⟨_,rfl⟩
    rw[←Y] at L R;have b0:=zh U;have a9:=zh L;have c:=zh p;obtain⟨M,hM⟩:∃ M,M=1+q:=⟨_,rfl⟩
    have bk:(1:Int)+(q:Int)=(M:Int):=by omega
    have a2:1≤M:=by omega
    have bl:M≤ne:=by omega
    have bj:=zh (Q9r M (by omega));have T:=Qst F wr (.slice ae ne ce) es (M:Int) key (by rw[p];exact r.o) D H.o hkey (HN.o.below HB.o) (HS.o.below HB.o) (HT.o.below HB.o);have b1:=zh T;have b7:ne≤ce:=by obtain⟨_,_,hv,hc,_⟩:=r.o;cases hv;rw[p];exact hc
    have bn:∃ b o,ae=some ⟨b,o,none⟩:=by
     obtain⟨_,_,hv,_,hx⟩:=r.o;cases hv;obtain⟨x,bm⟩:∃ x,es[0]?=some x:=⟨_,List.getElem?_eq_getElem (by omega)⟩
     obtain⟨b,o,e,_⟩:=hx 0 (.string x) (by rw[List.getElem?_map,bm];rfl);exact⟨b,o,e⟩
    obtain⟨be,oe,rfl⟩:=bn;clear U L p hq Y hM T
    go_upto_region 13 with (first|(go_at_call 6;refine (b0.o _).mono ?_;rintro e wx ⟨rfl,rfl⟩)|fail)
    rw[bj.o];clear bk
    go_upto_region 14 with (first|(go_at_call 7;refine b1.o.mono ?_;rintro e w4 ⟨p4,m4,L4,rfl,az,ax⟩;have ba:=zh az;have G:=zh ax;clear az ax)|fail)
    have bh:ne≤100:=by have:=c.o;omega
    have u:Below w.heap.size w w4:=HB.o.trans (G.o.below.mono HB.o.size);have af:=Qor G.o ba.o (by rw[←c.o];exact h0) (by have:=c.o;omega);have z:=r.o.below G.o.below;rw[←c.o] at z;have am:(es.take M).length=M:=by rw[List.length_take];have:=c.o;omega
    have K:=Qst F w4 (.slice (some ⟨be,oe,none⟩) M ce) (es.take M) (M:Int) key (by have:=Qou (k:=M) z (by have:=c.o;omega);exact this) (by omega) (fun s hs=>H.o s (List.mem_of_mem_take hs)) hkey (HN.o.below u) (HS.o.below u) (HT.o.below u);have a7:=zh K;have ar:=zh u;have ab:=zh af;have Z:=zh am;have b5:M≤ce:=by omega
    clear z u af am K
    go_upto_region 15 with (first|(go_at_call 7;refine a7.o.mono ?_;rintro e w5 ⟨p5,m5,L5,rfl,ac,aa⟩;have a8:=zh ac;have h:=zh aa;clear ac aa)|fail)
    have S:Below w.heap.size w w5:=ar.o.trans (h.o.below.mono ar.o.size);have aj:=Qor h.o a8.o (by rw[Z.o];exact a2) (by rw[Z.o];omega);have P:=Q0l w5 (.slice a3 ls.length c3) ls (bo.o.below S) (by omega);obtain⟨f,d⟩:∃ x,x=ls.map still:=⟨_,rfl⟩
    have A:f.length=ls.length:=by rw[d,List.length_map]
    have a1:∀ x∈f,x.times≤0:=fun x hx=>by rw[d] at hx;obtain⟨y,_,rfl⟩:=List.mem_map.1 hx;exact Int.le_refl 0
    have ay:∀ x∈f,x.data.size≤1048576:=fun x hx=>by rw[d] at hx;obtain⟨y,hy,rfl⟩:=List.mem_map.1 hx;exact bd.o y hy
    rw[←d,←A] at P;have b4:=zh P;have an:=zh S;have bf:=zh aj;have C:=zh A;have ah:=zh a1;have av:=zh ay;clear S aj P d A a1 ay
    go_upto_region 17 with fail
    rw[←C.o]
    go_upto_region 18 with (first|(go_at_call 8;refine b4.o.mono ?_;rintro e w6 ⟨v6,rfl,V,a⟩;obtain⟨a6,c6,rfl⟩:=Zi V;have ai:=zh (Zs V (Nat.zero_le _));have t:=zh a;clear V a)|fail)
    have a:Below w.heap.size w w6:=an.o.trans (t.o.mono an.o.size);have B:=(r.o.below G.o.below).below (h.o.below.trans (t.o.mono h.o.below.size));have al:=Qtt F w6 p4 p5 m4 m5 es M key (.slice (some ⟨be,oe,none⟩) ne ce) (.slice a6 f.length c6) f ((ab.o.below h.o.below).below t.o) (bf.o.below t.o) a2 (by rw[←c.o];exact bl) D H.o (by rw[c.o];exact B) ai.o (by rw[C.o];omega) ah.o av.o hkey (HN.o.below a) (HS.o.below a) (HT.o.below a);have ad:=fun W (hW:Below w6.heap.size w6 W)=>Q2j F W p4 m4 es qi key (.slice (some ⟨be,oe,none⟩) ne ce) (.slice a6 f.length c6) f (((ab.o.below h.o.below).below t.o).below hW) (by rw[←c.o];exact R) D H.o (by rw[c.o];exact B.below hW) (Ql ai.o hW) (by rw[C.o];omega) ah.o av.o hkey ((HN.o.below a).below hW) ((HS.o.below a).below hW) ((HT.o.below a).below hW)
    have bb:=zh al;have bp:=zh ad;have O:=zh a;clear a B al ad
    go_upto_region 19 with (first|(go_at_call 9;refine bb.o.mono ?_;rintro e w7 ⟨rfl,ao⟩;have N:=zh ao;clear ao)|fail)
    go_wp2_with (first|(go_at_call 6;refine (a9.o _).mono ?_;rintro e wx ⟨rfl,rfl⟩)|(go_at_call 10;refine (bp.o w7 N.o).mono ?_;rintro e w8 ⟨rfl,ap⟩;have b3:=zh ap;clear ap)|fail)
    go_ret;exact⟨rfl,O.o.trans ((N.o.trans (b3.o.mono N.o.size)).mono O.o.size)⟩
end
section
open Go.ChangeShapes Go.WideShapes Go.ChangeAt Go.RowKit
open Go.ChangeMaps (open_string shut_string)
theorem own:ownKnob prog.godebug=none:=by kernel_rfl
theorem Q2i:laidOutB prog=true:=by kernel_rfl
theorem Q6z {n:Int} (h:(Lit.int .i64 n).wf=true) : -9223372036854775808≤n∧n≤9223372036854775807:=by have h1:IntKind.i64.min = -9223372036854775808:=rfl;have h2:IntKind.i64.max=9223372036854775807:=rfl;simp only[Lit.wf,Bool.and_eq_true,decide_eq_true_eq,h1,h2] at h;exact h
theorem Q2e {H:Type} {enc:TypeId×Value→H} {W:World} {v:Value} {d:DataW H} {p:List MemPlace} (hv:∃ a l c,v=.slice a l c)
  (h:DataW.Trod enc prog W 0 (fun _=>true) true 22 v d p):∃ ss,Zn W v ss∧∀ s∈ss,s.size≤9223372036854775807:=by
 obtain⟨a,l,c,rfl⟩:=hv;obtain⟨fuel,hf⟩:=h;rcases open_strings underlying22 underlying9 (by kernel_rfl) hf with ⟨e,_⟩|⟨x,len,cap,ss,e,_,hl,hm,hz,_,f,k⟩
 ·simp[Value.cells] at e
  obtain⟨rfl,rfl,rfl⟩:=e;exact⟨[],⟨none,0,rfl,Nat.le_refl _,fun j x hx=>by simp at hx⟩,by simp⟩
 ·simp[Value.cells] at e
  obtain⟨rfl,rfl,rfl⟩:=e;have i:ss.length=c:=by simpa using hz
  refine⟨ss.take l,⟨some x,c,by simp[i,hl],by simp;omega,fun j u hu=>?_⟩,fun s hs=>k s (List.mem_of_mem_take hs)⟩;have hj:j<l:=by
   have:=(List.getElem?_eq_some_iff.1 hu).1
   simp at this;omega
  have hc:=f j (by omega);obtain⟨b,off,spot⟩:=x;have g:spot=none:=by have h0:=f 0 (by omega);simpa [Addr.add] using World.cell?_spot h0
  subst g;rw[Addr.add_lit] at hc;refine⟨b,off,rfl,hc.trans ?_⟩;rw[List.getElem?_map,List.getElem?_take_of_lt hj] at hu;rw[List.getD_eq_getElem?_getD];cases hx:ss[j]? with
  | none=>simp[hx] at hu
  | some y=>simp[hx] at hu;subst hu;rfl
end
section
open Go.ChangeShapes Go.WideShapes Go.Deep Go.RowKit
theorem Qz9 {α:Type} (Q:Nat→α→Prop):∀ (n:Nat),(∀ i,i<n→∃ x,Q i x)→∃ l:List α,l.length=n∧∀ i x,l[i]?=some x→Q i x
 | 0,_=>⟨[],rfl,fun i x hx=>by simp at hx⟩
 | n+1,h=>by
   obtain⟨l,hl,hq⟩:=Qz9 Q n fun i hi=>h i (by omega)
   obtain⟨x,hx⟩:=h n (by omega)
   refine⟨l ++ [x],by simp[hl],fun i y hy=>?_⟩
   rcases Nat.lt_or_ge i n with hi|hi
   ·rw[List.getElem?_append_left (by omega)] at hy
    exact hq i y hy
   ·rw[List.getElem?_append_right (by omega),hl] at hy
    have:i=n:=by
     rcases Nat.eq_or_lt_of_le hi with e|e
     ·exact e.symm
     ·rw[List.getElem?_eq_none (by simp;omega)] at hy;cases hy
    subst this
    simp at hy
    subst hy
    exact hx
theorem take_one {cs:List Value} {k:Nat} {v:Value} (h:(cs.drop k).take 1 = [v]):cs[k]?=some v:=by
 have:=congrArg (fun l:List Value=>l[0]?) h
 simpa using this
variable {H:Type} {enc:TypeId×Value→H} {W:World} {v:Value} {d:DataW H} {p:List MemPlace}
end
section
open Go.ChangeShapes Go.WideShapes Go.Deep Go.RowKit
variable {H:Type} {enc:TypeId×Value→H} {W:World} {v:Value} {d:DataW H} {p:List MemPlace}
theorem Qvv {d:DataW H} {l:List (DataW H)} (h:d∈l):Rows.uptoBulk d≤Rows.uptoBulkAll l:=by
 induction l with
 | nil=>cases h
 | cons x r ih=>
  simp only[Rows.uptoBulkAll];cases List.mem_cons.1 h with
  | inl e=>subst e;omega
  | inr e=>have:=ih e;omega
theorem Q2x (hv:∃ a l c,v=.slice a l c) (h:DataW.Trod enc prog W 0 (fun _=>true) true 23 v d p) :
  ∃ l:List Lie1,Qos W v l∧l.length≤maxLen∧∀ o∈l,o.data.size≤Rows.uptoBulk d:=by
 obtain⟨a,l,c,rfl⟩:=hv;obtain⟨fuel,hf⟩:=h;have hC:prog.cellsOf 47=4:=by kernel_rfl
 have hS:prog.cellsOf 9=1:=by kernel_rfl
 have hI:prog.cellsOf 3=1:=by kernel_rfl
 have hB:prog.cellsOf 4=1:=by kernel_rfl
 rcases open_slice underlying23 hf with ⟨g,_⟩|⟨x,len,cap,m,n,D,Pl,g,_,hl,hm,F,hd,hi⟩
 ·simp[Value.cells] at g
  obtain⟨rfl,rfl,rfl⟩:=g;exact⟨[],⟨none,0,rfl,Nat.le_refl _,fun j x hx=>by simp at hx⟩,Nat.zero_le _,fun o ho=>by cases ho⟩
 ·simp[Value.cells] at g
  obtain⟨rfl,rfl,rfl⟩:=g;have H:d=.slice ((List.range l).map D) ((List.range (m-l)).map fun j=>D (l+j)):=congrArg Prod.fst hd;have key:∀ i,i<l→∃ o:Lie1,o.data.size≤Rows.uptoBulk d∧W.cell? ((x.add (i*4)).add 0)=some (.string o.path)∧W.cell? ((x.add (i*4)).add 1)=some (.string o.data)∧W.cell? ((x.add (i*4)).add 2)=some (.bool o.fails)∧W.cell? ((x.add (i*4)).add 3)=some (.int .i64 o.times):=fun i hil=>by
   obtain⟨cs',hc,z⟩:=hi i (by rw[F];simp;omega);obtain⟨xs,n',_,A,_,e,hg⟩:=DataW.trod_struct underlying47 z;have s:D i=.agg (xs.map (·.1)):=congrArg Prod.fst A;rw[hC] at hc;obtain⟨_,J,k⟩:=World.cells?_some hc;have g0:=(show DataW.trod enc prog W 0 (fun _=>true) true n' 9 ((cs'.drop 0).take (prog.cellsOf 9))=xs[0]? from hg 0 _ rfl)
   have g1:=(show DataW.trod enc prog W 0 (fun _=>true) true n' 9 ((cs'.drop 1).take (prog.cellsOf 9))=xs[1]? from hg 1 _ rfl)
   have g2:=(show DataW.trod enc prog W 0 (fun _=>true) true n' 4 ((cs'.drop 2).take (prog.cellsOf 4))=xs[2]? from hg 2 _ rfl)
   have g3:=(show DataW.trod enc prog W 0 (fun _=>true) true n' 3 ((cs'.drop 3).take (prog.cellsOf 3))=xs[3]? from hg 3 _ rfl)
   have E:∃ y,xs[0]?=some y:=⟨_,List.getElem?_eq_getElem (by rw[e];decide)⟩
   have B:∃ y,xs[1]?=some y:=⟨_,List.getElem?_eq_getElem (by rw[e];decide)⟩
   have I:∃ y,xs[2]?=some y:=⟨_,List.getElem?_eq_getElem (by rw[e];decide)⟩
   have G:∃ y,xs[3]?=some y:=⟨_,List.getElem?_eq_getElem (by rw[e];decide)⟩
   obtain⟨y0,u⟩:=E;obtain⟨y1,r⟩:=B;obtain⟨y2,w⟩:=I;obtain⟨y3,t⟩:=G;rw[u] at g0;rw[r] at g1;rw[w] at g2;rw[t] at g3;rw[hS] at g0 g1;rw[hB] at g2;rw[hI] at g3;obtain⟨s0,e0,_,_⟩:=DataW.trod_string underlying9 g0;obtain⟨s1,e1,u1,_⟩:=DataW.trod_string underlying9 g1;obtain⟨s2,e2,_⟩:=DataW.trod_bool underlying4 g2;obtain⟨s3,e3,_,_⟩:=DataW.trod_int underlying3 g3;have c0:=(k 0 (by decide)).trans (take_one e0);have c1:=(k 1 (by decide)).trans (take_one e1);have c2:=(k 2 (by decide)).trans (take_one e2);have c3:=(k 3 (by decide)).trans (take_one e3);refine⟨⟨s0,s1,s2,s3⟩,?_,c0,c1,c2,c3⟩;have b1:Rows.uptoBulk y1.1≤Rows.uptoBulkAll (xs.map (·.1)):=Qvv (List.mem_map.2 ⟨y1,List.mem_of_getElem? r,rfl⟩);have b2:Rows.uptoBulk (D i)≤Rows.uptoBulkAll ((List.range l).map D):=Qvv (List.mem_map.2 ⟨i,List.mem_range.2 hil,rfl⟩);have b3:Rows.uptoBulk y1.1=s1.data.toList.length+1:=by rw[u1];simp[Rows.uptoBulk]
   have b4:s1.data.toList.length=s1.size:=by simp
   rw[s] at b2;rw[H];simp only[Rows.uptoBulk] at b2 ⊢;show s1.size≤_;omega
  obtain⟨ls,C,hq⟩:=Qz9 _ l key;subst C;refine⟨ls,⟨some x,c,rfl,hl,fun j f hj=>?_⟩,Nat.le_trans hl hm,fun o ho=>?_⟩
  ·obtain⟨_,k1,k2,k3,k4⟩:=hq j f hj
   obtain⟨f0,_,z0,_⟩:=key 0 (by have:=(List.getElem?_eq_some_iff.1 hj).1;omega);obtain⟨b,off,spot⟩:=x;have q:spot=none:=by simpa [Addr.add] using World.cell?_spot z0
   subst q;rw[Addr.add_lit,Addr.add_lit] at k1 k2 k3 k4;exact⟨b,off,rfl,by simpa using k1,k2,k3,k4⟩
  ·obtain⟨j,hj⟩:=List.mem_iff_getElem?.1 ho
   exact (hq j o hj).1
end
section
theorem Q9x {W:World} {r r':List (String×DataW Unit)} (h1:laidMet prog (("internal/strconv.uint64pow10",Rows.laid_internal_strconv_uint64pow10) :: r) W)
  (h2:laidMet prog (("strconv.ErrRange",Rows.laid_strconv_ErrRange) :: ("strconv.ErrSyntax",Rows.laid_strconv_ErrSyntax) :: r') W) (hsh:W.ShapedOpen prog):Qad W:=by
 have a:Lib.TabIs prog W "internal/strconv.uint64pow10" .u64 Lib.pow10Tab:=Lib.tabIs_of_head (g:=12) (t:=374) (by kernel_rfl) (by kernel_rfl) underlying374 underlying225 (by kernel_rfl) (by kernel_rfl) h1;obtain⟨a2,s2⟩:=Qbw (g:=10) h2 (by kernel_rfl) (by kernel_rfl);obtain⟨a1,s1⟩:=Qbw (g:=9) h2.tail (by kernel_rfl) (by kernel_rfl);have hm:=cell_of_shapedOpen_int (P:=prog) (g:=11) (t:=3) (zero:=#[.int .i64 0]) hsh (of_decide_eq_true (by kernel_rfl)) (by kernel_rfl) rfl (by kernel_rfl) (by kernel_rfl) underlying3;exact⟨a,hm,⟨_,s1.1,.inr ⟨_,_,rfl⟩⟩,⟨_,s2.1,.inr ⟨_,_,rfl⟩⟩⟩
end
section
variable {W:World}
theorem Q4w {r:List (String×DataW Unit)} (h:laidMet prog (("tiles/api.ErrEntry",Rows.laid_tiles_api_ErrEntry) :: ("tiles/api.ErrRange",Rows.laid_tiles_api_ErrRange) :: ("tiles/api.ErrCheckpoint",Rows.laid_tiles_api_ErrCheckpoint) :: ("tiles/api.ErrOld",Rows.laid_tiles_api_ErrOld) ::
  ("tiles/api.ErrProof",Rows.laid_tiles_api_ErrProof) :: ("tiles/api.ErrTile",Rows.laid_tiles_api_ErrTile) :: ("tiles/api.ErrFailed",Rows.laid_tiles_api_ErrFailed) :: r) W):∃ f,Qbs W f:=by
 obtain⟨a0,h0⟩:=Qbw (text:=Qhe.getD 0 []) (g:=3) h (by kernel_rfl) (by kernel_rfl);have h:=h.tail;obtain⟨a1,h1⟩:=Qbw (text:=Qhe.getD 1 []) (g:=4) h (by kernel_rfl) (by kernel_rfl);have h:=h.tail;obtain⟨a2,h2⟩:=Qbw (text:=Qhe.getD 2 []) (g:=0) h (by kernel_rfl) (by kernel_rfl);have h:=h.tail;obtain⟨a3,h3⟩:=Qbw (text:=Qhe.getD 3 []) (g:=1) h (by kernel_rfl) (by kernel_rfl);have h:=h.tail;obtain⟨a4,h4⟩:=Qbw (text:=Qhe.getD 4 []) (g:=2) h (by kernel_rfl) (by kernel_rfl);have h:=h.tail;obtain⟨a5,h5⟩:=Qbw (text:=Qhe.getD 5 []) (g:=6) h (by kernel_rfl) (by kernel_rfl);have h:=h.tail;obtain⟨a6,h6⟩:=Qbw (text:=Qhe.getD 6 []) (g:=5) h (by kernel_rfl) (by kernel_rfl);refine⟨fun i=>[a0,a1,a2,a3,a4,a5,a6].getD i a0,fun i hi=>?_⟩
 have:i=0∨i=1∨i=2∨i=3∨i=4∨i=5∨i=6:=by omega
 rcases this with rfl|rfl|rfl|rfl|rfl|rfl|rfl <;> assumption
theorem Q15:prog.globalNamed "errors.errorType"=some 8:=by kernel_rfl
theorem Q8q:(prog.cutTypes.find? (·.1 == "internal/reflectlite.rtype")).map (·.2)=some 321:=by kernel_rfl
theorem Q53:((List.range prog.types.size).filter fun t=>prog.rowNamed t [101,114,114,111,114]) = [135]:=by kernel_rfl
theorem Qt0:typeHandle prog 135=.pointer (some ⟨17,135,none⟩):=by kernel_rfl
theorem Q8k (h:handlesMet prog [("errors.errorType",Rows.laid_errors_errorType)] W):ErrT W:=by
 obtain⟨name,u,ty,e1,e2,e3,e4,e5⟩:=h _ (List.mem_singleton.2 rfl);have en:name = [101,114,114,111,114]:=(Option.some.inj e1).symm;subst en;obtain rfl:=Option.some.inj (Q8q.symm.trans e2);have hm:ty∈(List.range prog.types.size).filter fun t=>prog.rowNamed t [101,114,114,111,114]:=List.mem_filter.2 ⟨List.mem_range.2 e3,e4⟩
 rw[Q53] at hm;obtain rfl:=List.mem_singleton.1 hm;rw[Qt0] at e5
 have:=World.var?_cell Q15 e5 0
 simpa [ErrT] using this
noncomputable def Qfh (os:Os):World:=
 let w0:=World.holding prog os ⟨#[],#[],[]⟩
 { w0 with heap:=w0.heap.modify 8 fun
   | .cells _ t frozen=>.cells #[.iface 321 (.agg #[.pointer (some ⟨17,135,none⟩)])] t frozen
   | o=>o }
noncomputable def Qsd (os:Os) (laid:List (String×DataW Unit)):World:=(Qfh os).layVars prog (laid.filter fun x=>x.2.handleName?.isNone)
theorem Q5k (os:Os) (laid:List (String×DataW Unit)):(Qsd os laid).os=os:=World.layVars_os _ _ _
theorem Qn3 {os:Os} {laid:List (String×DataW Unit)} (args:Array Value)
  (hf:(Qfh os).layFits prog (laid.filter fun x=>x.2.handleName?.isNone) []=true)
  (hi:(Qfh os).layIfaces prog (laid.filter fun x=>x.2.handleName?.isNone) (Qsd os laid)=true)
  (hh:(laid.filter fun x=>x.2.handleName?.isSome).all (handleAtB prog ((Qsd os laid).forCall (fun _ _=>0) ⟨#[],args,[]⟩).memory)=true) :
  laidMetH prog laid ((Qsd os laid).forCall (fun _ _=>0) ⟨#[],args,[]⟩).memory:=by
 refine laidMetH_of_parts ?_ hh;generalize hl:(laid.filter fun x=>x.2.handleName?.isNone)=l at hf hi;have e1:(l.filter fun x=>(l.map (·.1)).contains x.1)=l:=List.filter_eq_self.2 fun x hx=>List.contains_iff_mem.2 (List.mem_map.2 ⟨x,hx,rfl⟩)
 have e2:(l.filter fun x=>!(l.map (·.1)).contains x.1) = []:=List.filter_eq_nil_iff.2 fun x hx=>by rw[List.contains_iff_mem.2 (List.mem_map.2 ⟨x,hx,rfl⟩)];simp
 have h:laidMet prog l (Qsd os laid):=laidMet_layVars (w0:=Qfh os) (l.map (·.1)) [] (by rw[e1];unfold Qsd;rw[hl]) (by rw[e1];exact hf) (by rw[e1];exact hi) (by rw[e2];exact LaidIn.none);exact h.of_heap (by simp[World.memory,World.forCall,Input.heap])
end
section
open Go.ChangeShapes Go.RowKit
variable {H:Type} {enc:TypeId×Value→H}
variable {C:Checked} {os:Os} {f:FuncId} {fn:Func} {s:OpenSpec} {k:(H:Type)→List (DataW H)→Bool} {conds:List PathCond} {apart:Bool} {X:World→Array Value→Prop}
theorem Qmc {a:Assume} (hk:s.cond=some k) {F:Stop.Interp} {fresh handsOn again:Bool}
  (hX:∀ (w w':World) (args:Array Value),w.heap=w'.heap→X w args→X w' args)
  (own:ownKnob C.prog.godebug=none) (started:os.Started) (noInit:C.prog.inits.idxOf? f=none) (hfn:C.prog.funcs[f]?=some fn)
  (witness:∃ (w:World) (tape:Tape) (i:Input),w.os=os∧(w.forCall tape i).Shaped C.prog∧i.vars = []∧Input.okWide C.prog (w.forCall tape i) .any w.heap.size f i∧
   ((s.pre enc C.prog fn conds apart (w.forCall tape i).memory i.args∧X (w.forCall tape i).memory i.args)∧sizedMet enc C.prog fn s apart (w.forCall tape i).memory i.args)∧a.holds C.prog (lone (Frame.enter C.prog f i.args .normal) [] (w.forCall tape i)))
  (contract:∀ (W:World) (base:Nat) (args:Array Value) (ds gs:List (DataW H)) (before:List MemPlace),
   (∀ (j:Nat) t v,fn.params[j]?=some t→args[j]?=some v→Value.okWide C.prog W .any base t v)→
   DataW.Whole enc C.prog fn.params.toList s.vars apart W args.toList ds gs before→
   k H (ds++gs)=true→W.ShapedOpen C.prog→X W args→
   Calls C.prog f args W fun e W'=>∃ v,e=.returned v∧(s.at F).post enc C.prog fn apart fresh handsOn again W args v W') :
  ReturnsInHanded a C os f .any (fun w args=>(s.pre enc C.prog fn conds apart w args∧X w args)∧sizedMet enc C.prog fn s apart w args) ((s.at F).post enc C.prog fn apart fresh handsOn again):=by
 refine returnsInHanded_of_calls own started noInit witness ?_;intro w tape i _ h _ m c _;obtain⟨_,_,_,fn',b,_,_,_,_,d⟩:=m;have e:fn'=fn:=Option.some.inj (b.symm.trans hfn);subst e;obtain⟨⟨hp,hx⟩,_⟩:=c;obtain⟨ds,gs,before,hw,_,l⟩:=(OpenSpec.pre_some hk conds apart _ _).1 hp;have g:=DataW.Whole.of_heap (w':=w.forCall tape i) (by rfl) hw;refine (contract (w.forCall tape i) w.heap.size i.args ds gs before d g l h (hX _ _ _ (by rfl) hx)).mono fun e W' ⟨v,he,hp⟩=>?_
 subst he;exact ChangeSpec.post_blind hp
theorem Qso (hk:s.cond=some k) (modest:Bool) (w0:World) (args:Array Value) (fuel:Nat) (hos:w0.os=os)
  (hsh:(w0.forCall (fun _ _=>0) ⟨#[],args,[]⟩).Shaped C.prog)
  (hok:Input.okWideB C.prog (w0.forCall (fun _ _=>0) ⟨#[],args,[]⟩) f ⟨#[],args,[]⟩=true) {x:List (DataW H)×List (DataW H)×List MemPlace} (hx:DataW.whole enc C.prog (w0.forCall (fun _ _=>0) ⟨#[],args,[]⟩).memory fn.params.toList s.vars apart args.toList fuel=some x)
  (hconds:conds.all (PathCond.test C.prog ⟨fn.params.toList,x.1,s.bare.plain.varTypes C.prog,x.2.1⟩)=true) (hkk:k H (x.1++x.2.1)=true)
  (hsz:s.bare.sizedB enc C.prog fn apart (w0.forCall (fun _ _=>0) ⟨#[],args,[]⟩).memory args fuel=true)
  (hX:X (w0.forCall (fun _ _=>0) ⟨#[],args,[]⟩).memory args) :
  ∃ (w:World) (tape:Tape) (i:Input),w.os=os∧(w.forCall tape i).Shaped C.prog∧i.vars = []∧Input.okWide C.prog (w.forCall tape i) .any w.heap.size f i∧
   ((s.pre enc C.prog fn conds apart (w.forCall tape i).memory i.args∧X (w.forCall tape i).memory i.args)∧sizedMet enc C.prog fn s apart (w.forCall tape i).memory i.args)∧({ modest:=modest }:Assume).holds C.prog (lone (Frame.enter C.prog f i.args .normal) [] (w.forCall tape i)):=
 ⟨w0,fun _ _=>0,⟨#[],args,[]⟩,hos,hsh,(Input.okWide_of_okWideB (base:=0) hok).1,(Input.okWide_of_okWideB hok).2,
  ⟨⟨(OpenSpec.pre_some hk conds apart _ _).2 ⟨x.1,x.2.1,x.2.2,DataW.Whole_of_whole hx,hconds,hkk⟩,hX⟩,sizedMet_of_sizedB hsz⟩,by
  simp only[Assume.holds]
  exact⟨by simp,by simp,fun _=>Modest.zero,by simp,by simp⟩⟩
end
end Go.Proofs.YtefccfakhgdfbaaGreatDoor
