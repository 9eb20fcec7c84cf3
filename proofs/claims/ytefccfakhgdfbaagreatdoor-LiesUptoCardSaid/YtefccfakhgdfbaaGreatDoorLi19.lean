/- tileslaw.clash, there, kept. Conditions: fewer than 2^40 files; there and kept: what they ask is so. -/
import Derived.Test.YtefccfakhgdfbaaGreatDoorLi18
set_option linter.unusedVariables false
set_option linter.unusedSimpArgs false
open Go.RowKit Go.Proofs.Tryz
set_option maxRecDepth 100000
set_option maxHeartbeats 4000000
namespace Go.Proofs.YtefccfakhgdfbaaGreatDoor
section
theorem Qhy {P:Program} {ops:Array Oper} {rest:List Oper} {o:Oper} {a:Act} {Q:Exit→Act→World→Prop} {w:World} (hgd:o.guard=none) (s x:Operand) (t:TypeId)
  (ho:o.op=.call { callee:=.builtin .append,args:=#[s,x],argTypes:=#[t,t] })
  (base:Nat) (i:TypeInfo) (ht:P.underlying t=some (.slice 9)) (hi:P.info? 9=some i) (hz:i.zero=some (.string ⟨#[]⟩)) (hsize:i.size=1) (hby:i.bytes=16)
  (v:Value) (n:Nat) (xs:List ByteArray) (hs:a.eval s=v) (hnx:n=xs.length) (d:Q0 w base v xs) (u:Value) (l:List ByteArray) (hx:a.eval x=u) (hb:Zn w u l)
  (hn:n≤1099511627776) (hl:l.length≤1099511627776) (hbase:base≤w.heap.size)
  (h:∀ v' w',Q0 w' base v' (xs++l)→w.grownBy w' v.ownBlock→wpList P ops Q rest (a.put o.dst v') w') :
  wpList P ops Q (o :: rest) a w:=by
 subst hnx;obtain⟨ad,c,rfl,p,hc⟩:=hb;unfold Q0 at d;cases l with
 | nil=>
  refine wpList_plain hgd fun K hK=>?_
  have hr:(Builtin.append_ #[t,t] o.type #[v,.slice ad 0 c]).run P w=.ok v w:=by
   rcases d.2 with ⟨rfl,h0⟩|⟨g,cap,cur,rfl,A,hg,f,r,B,m⟩
   ·cases ad <;> simp[Builtin.append_,run_underlying ht,sizeOf,typeInfo,hi,Builtin.lenOf,Builtin.firstCells,loadCells,loadCellsFrom]
   ·cases ad <;> simp[Builtin.append_,run_underlying ht,sizeOf,typeInfo,hi,Builtin.lenOf,Builtin.firstCells,loadCells,loadCellsFrom,storeCells,f]
  unfold Oper.wp execOp;simp only[List.length_nil] at hx;simp only[ho,resolve,invoke,builtin,Sem.run_bind,Sem.run_pure,Result.andThen_ok,List.map_toArray,List.map_cons,List.map_nil,hs,hx,hr];exact hK _ _ (h v w (by unfold Q0;simpa using d) ⟨rfl,rfl,rfl,Nat.le_refl _,fun _ _ _=>rfl⟩)
 | cons y l=>
  obtain⟨b,off,rfl,_⟩:=hc 0 (.string y) (by simp);refine wpList_append_own _ hgd s x t ho base 9 i _ 1 16 ht hi hz hsize hby (by simp[Value.cells]) (by decide) v xs.length (xs.map Value.string) hs d ⟨b,off,none⟩ (y :: l).length c ((y :: l).map Value.string) hx (by simp) (fun j q hq=>?_) (fun q hq=>?_) (by unfold maxLen;omega) (by omega) hbase fun v' w' h2 h3 h4=>h v' w' ?_ h3
  ·obtain⟨b',off',k,e⟩:=hc j q hq
   cases k;rw[Addr.add_lit];exact e
  ·obtain⟨z,_,rfl⟩:=List.mem_map.1 hq
   rfl
  ·unfold Q0
   simpa using h2
theorem Ys {fn:Func} {t u v x:Tmp} (h:fn.results=#[.tmp t,.tmp u,.tmp v,.tmp x]) (tmps:Array Value) (P:Program) (w:World) :
  (results fn tmps).run P w=.ok (.tuple #[tmps.getD t undef,tmps.getD u undef,tmps.getD v undef,tmps.getD x undef]) w:=by
 simp[results,h]
theorem Qab (a b:List ByteArray):lists (a++b)=lists a++lists b:=by unfold lists;rw[List.map_append]
theorem Q67 {a b:Hsh} (h:HS a=HS b):a=b:=by unfold HS at h;have h1:=congrArg ByteArray.data h;exact Vector.toArray_inj.1 h1
theorem Qu3 {ss:List ByteArray} {l:List Fil} (h:Qa9 l (lists ss)):∀ s∈ss,s.size≤1048576:=fun s hs=>by
 have h1:=h.short s.data.toList (by unfold lists;exact List.mem_map.2 ⟨s,hs,rfl⟩)
 simp at h1
 omega
def Qu7 (l:List Fil) (key:ByteArray) (w:World) (e:Ending) (w':World):Prop:=
 Below w.heap.size w w'∧((∃ k p,Yh l key (.bad k p)∧e=.returned (.tuple #[.slice none 0 0,.int .i64 0,.int .i64 k,.string p]))∨
  ∃ n v ss,n<9223372036854775808∧Yh l key (.good (lists ss) n)∧e=.returned (.tuple #[v,.int .i64 n,.int .i64 0,.string ⟨#[]⟩])∧Q0 w' w.heap.size v ss)
theorem Quf (w:World) (va:Value) (l:List Fil) (key:ByteArray) (h:Jv w va l) (hn:l.length≤1099511627776) (hsz:∀ f∈l,f.2.size≤1048576) (hkey:key.size≤1048600) (N:Nat) (hN:FewB l N) (hN2:N≤262144) :
  Calls prog 72 #[va,.string key] w (Qu7 l key w):=by
 have HH:=zh h;have HZ:=zh hsz;have X:=zh hn;have HN:=zh hN;obtain⟨av,cv,rfl,_,hx⟩:=h;have HX:=zh hx;clear hsz hn hN hx;obtain⟨fi,E⟩:∃ fi,fi=Jc l (sOf kCp):=⟨_,rfl⟩
 have ab:=zh E;clear E
 go_enter func72,ntmps72
 go_upto_region 3 with (first
  | (go_at_call 88;refine (Qgf ⟨#[]⟩ _ (by decide)).mono ?_;rintro e w1 ⟨rfl,aa⟩;have F:=zh aa;have b8:=zh (HH.o.below aa);clear aa))
 go_upto_if 25 with (first
  | (go_at_call 27;refine (Yf w1 _ l (sOf kCp) b8.o X.o).mono ?_;rintro e w2 ⟨rfl,rfl⟩;rw[←ab.o]))
 go_cut [8,9,11] from 26 to 38 (fun s8 s9 s11 wx=>∃ (n:Nat) (root:Hsh),Aside (Yt l key=some (n,root))∧n<9223372036854775808∧s8=.int .i64 n∧s9=.string (HS root)∧Aside (Below w.heap.size w wx))
 case first=>
  cases hg:getF l (sOf kCp) with
  | none=>
   have hf:=Qjw hg;have E:fi = -1:=by rw[ab.o,hf]
   subst E;have HG:=zh hg;clear hg hf
   go_wp2_with fail
   go_meet;exact⟨0,hash [],by show Yt _ _=_;unfold Yt;rw[HG.o],by decide,rfl,rfl,F.o⟩
  | some b=>
   obtain⟨j,x,hf,b9,az,af⟩:=Qj0 hg;obtain⟨bb,off,rfl,_,d2⟩:=HX.o j x az;have bf:b.size≤1048576:=by have:=HZ.o x (List.mem_of_getElem? az);rw[af] at this;exact this
   have P:bb<w.heap.size:=Qk d2;rw[af] at d2;have d3:=(F.o.cell (p:=⟨bb,off+j*2+1,none⟩) P).trans d2;have cc:(0:Int)≤(j:Int):=by omega
   have cd:(j:Int)<(l.length:Int):=by omega
   have g:=Qpa b key w1 bf hkey;rw[←Qoy] at g;obtain⟨q,hq⟩:∃ q,q=Zw b.data.toList key.data.toList:=⟨_,rfl⟩
   rw[←hq] at g;have R:=Js b.data.toList key.data.toList;rw[←hq] at R;have bh:Yt l key=if q.2.2=true then some (q.1.toNat,q.2.1) else none:=by unfold Yt;rw[hg,hq]
   obtain⟨qn,qh,qb⟩:=q;have E:fi=(j:Int):=by rw[ab.o,hf]
   subst E;have bq:=zh R;have C:=zh bh;clear R bh hq hg hf az af bf d2 b9;unfold Qet at g;cases qb with
   | false=>
    go_wp2_with (first
     | (go_at_call 63;refine g.mono ?_;rintro e w5 ⟨rfl,m⟩;have s:=zh m;clear m))
    (try simp only[Exit.inBlock,Exit.then])
    refine bodyPost_ret (Ys rfl _ _ _) rfl ?_;exact⟨F.o.trans (s.o.mono F.o.size),.inl ⟨3,⟨#[]⟩,.checkpoint C.o,rfl⟩⟩
   | true=>
    go_wp2_with (first
     | (go_at_call 63;refine g.mono ?_;rintro e w5 ⟨rfl,m⟩;have s:=zh m;clear m))
    go_meet;obtain⟨p1,p2,_⟩:=bq.o.1 rfl;have b6:qn=(qn.toNat:Int):=by omega
    refine⟨qn.toNat,qh,?_,by omega,?_,rfl,F.o.trans (s.o.mono F.o.size)⟩
    ·show Yt _ _=_
     rw[C.o];rfl
    ·rw[←b6]
 case rest=>
  obtain⟨n,root,C,b3,rfl,rfl,b2⟩:=hcut;obtain⟨i0,an,ak,a0,Q⟩:=info_parts Qb5
  go_wp2_with fail
  go_loopg [12,13] (N+1) (fun gg s12 s13 wr=>∃ i:Nat,i≤N∧N+1-i≤gg∧s13=.int .i64 i∧∃ a,Aside (Q0 wr w.heap.size s12 a)∧Aside (Below w.heap.size w wr)∧Aside (Qbx l n ((n+3) / 4) 0 []=Qbx l n ((n+3) / 4-i) i (lists a))∧Aside (a.length=min n (4*i))∧Aside (Qa9 l (lists a)))
  case atStart=>exact⟨0,Nat.zero_le _,by omega,rfl,[],World.ownsRow_nil _ _ _ _,b2.o,rfl,by show [].length=_;simp,Qa9.nil _⟩
  case round=>
   obtain⟨i,hi,bt,rfl,a,HO,y,HP,K,HT⟩:=hrel;obtain⟨a1,ai,rfl⟩:=Zi HO.o;obtain⟨ln,Y⟩:∃ ln,ln=a.length:=⟨_,rfl⟩
   have t:=zh Y;have ag:ln=min n (4*i):=by rw[Y];exact K.o
   have cb:=zh ag;clear Y;rw[←t.o];by_cases hlt:ln<n
   ·have ax:(ln:Int)<(n:Int):=by omega
    have M:4*i<n:=by omega
    obtain⟨k,hk⟩:∃ k,k=min 4 (n-4*i):=⟨_,rfl⟩
    have bx:n-ln=n-4*i:=by omega
    have b4:(n:Int)-(ln:Int)=((n-4*i:Nat):Int):=by omega
    have bl:i<9223372036854775808:=by omega
    have bp:k<9223372036854775808:=by omega
    have A:=zh M;have HK:=zh hk;have a5:=zh (HH.o.below y.o);obtain⟨dz,ca⟩:∃ dz,(n:Int)-(ln:Int)=dz:=⟨_,rfl⟩
    have ba:k≤4∧(4<dz→k=4)∧(¬ 4<dz→dz=(k:Int)):=by omega
    have bn:=zh ba;clear ag M bx ba hk b4
    go_upto_if 50 with fail
    clear ca
    go_cut [14] from 50 to 51 (fun s14 wx=>s14=.int .i64 k∧wr=wx)
    case first=>
     by_cases hgt:4<dz
     ·have ay:=zh (bn.o.2.1 hgt)
      go_wp2_with fail
      go_meet;exact⟨by rw[ay.o];rfl,rfl⟩
     ·have ay:=zh (bn.o.2.2 hgt)
      go_wp2_with fail
      go_meet;exact⟨by rw[ay.o],rfl⟩
    case rest=>
     obtain⟨rfl,rfl⟩:=hcut;have g:=fun w'=>Qck (-1) (i:Int) (k:Int) w' (by omega)
     cases hb:Z9 l i k with
     | none=>
      have HB:=zh hb;clear hb
      go_wp2_with (first
       | (go_at_call 123;refine (Qrg a5.o X.o HZ.o bl bp HB.o).mono ?_;rintro e w4 ⟨⟨u,rfl⟩,G⟩;have D:=zh (y.o.trans (G.mono y.o.size));clear G)
       | (go_at_call 53;refine (g _).mono ?_;rintro e w5 ⟨rfl,m⟩;have s:=zh (D.o.trans (m.mono D.o.size));clear m))
      (try simp only[Exit.inBlock,Exit.then])
      refine bodyPost_ret (Ys rfl _ _ _) rfl ?_;refine⟨s.o,.inl ⟨6,Yp i (min 4 (n-4*i)),.tile (d:=lists a) C.o ?_,?_⟩⟩
      ·rw[HP.o,Qex A.o,←HK.o,HB.o]
      ·rw[←HK.o];rfl
     | some ls=>
      have U:=Qaw hb;have am:=HT.o.step (w:=k) (e:=ls) (i:=i) (by rw[Q9,K.o];have:=A.o;omega) hb;have v:=am.few HN.o;rw[List.length_append,Q9] at v;have b7:ls.length≤1099511627776:=by omega
      have br:ln≤1099511627776:=by have:=t.o;omega
      have a9:=zh am;have aq:=zh hb;have ar:=zh v;have bd:=zh U.1;clear hb U am v
      go_wp2_with fail
      refine (Qr7 a5.o X.o HZ.o bl bp aq.o).mono ?_;rintro e w4 ⟨b5,c5,ss,rfl,bk,ad,G⟩;have D:=zh (y.o.trans (G.mono y.o.size));have bu:=zh bk;have V:=zh (show Q0 w4 w.heap.size (.slice a1 a.length ai) a from Ql HO.o G);have ap:=zh ad;have bz:=(show ss.length≤1099511627776 by rw[←Q9,ad];exact b7)
      clear G bk ad
      go_wp2_with (first
       | (at_builtin;refine Qhy rfl _ _ 22 rfl w.heap.size i0 underlying22 an ak a0 Q _ ln a rfl t.o (by rw[t.o];exact V.o) _ ss rfl bu.o.at br bz D.o.size ?_;intro v2 w5 a7 bg;have s:=zh (D.o.grown bg D.o.size (fun j hj=>(V.o.lt j (by rw[t.o] at hj;exact hj)).1));have b0:=zh a7;clear a7 bg))
      go_roundg (N+1-(i+1))
      case measure=>omega
      case rel=>
       refine⟨i+1,?_,by omega,by go_num,a++ss,b0.o,s.o,?_,?_,?_⟩
       ·have:=ar.o;have:=HN.o (i+1) fun j hj=>a9.o.has j (by rw[List.length_append,Q9,K.o,bd.o,HK.o];have:=A.o;omega);exact this
       ·show Qbx _ _ _ _ _=_
        rw[HP.o,Qex A.o,←HK.o,aq.o];show Qbx _ _ _ _ (lists a++ls)=_;rw[←ap.o,←Qab]
       ·show (a++ss).length=_
        have h1:ss.length=k:=by rw[←Q9,ap.o];exact bd.o
        rw[List.length_append,K.o,h1,HK.o]
        have:=A.o
        omega
       ·show Qa9 l (lists (a++ss))
        rw[Qab,ap.o];exact a9.o
   ·have ax:¬ (ln:Int)<(n:Int):=by omega
    have M:n≤4*i:=by omega
    have A:=zh M;clear M ag;have bc:Qbx l n ((n+3) / 4) 0 []=(lists a,none):=by rw[HP.o,Qq1 A.o]
    have v:=HT.o.few HN.o;rw[Q9] at v;have bi:=zh bc;have g:=Qdh a.length a (.slice a1 ln ai) wr (Nat.le_refl _) (by rw[t.o];exact Z4 HO.o) (by omega) (Qu3 HT.o);have I:=zh g;have ar:=zh v;clear bc g v;by_cases hr:rootOf (lists a)=root
    ·have a6:=Jp (show HS (rootOf (lists a))=HS root by rw[hr])
     have HR:=zh hr;clear hr
     go_wp2_with fail
     refine I.o.mono ?_;rintro e w5 ⟨rfl,m⟩;have s:=zh (y.o.trans (m.mono y.o.size));have V:=zh (show Q0 w5 w.heap.size (.slice a1 ln ai) a by rw[t.o];exact Ql HO.o m);clear m
     go_wp2_with fail
     clear ax a6
     go_loopg [12] (N+2) (fun gg s12 wr=>∃ c,Aside (Q0 wr w.heap.size s12 c)∧Aside (Below w.heap.size w wr)∧Aside (∀ r,Goes l (lists c) r→Goes l (lists a) r)∧Aside (Qa9 l (lists c))∧N+1-c.length / 4≤gg)
     case atStart=>exact⟨a,V.o,s.o,fun r h=>h,HT.o,by omega⟩
     case round=>
      obtain⟨c,al,ac,be,S,bt⟩:=hrel;obtain⟨a2,bm,rfl⟩:=Zi al.o;have J:=S.o.few HN.o;rw[Q9] at J;obtain⟨bw,P⟩:∃ bw,bw=(Zo l (lists c)).2:=⟨_,rfl⟩
      have g:=Qs3 wr _ l (HH.o.below ac.o) X.o HZ.o (.slice a2 c.length bm) c (Z4 al.o) (by omega);unfold Qpt at g;rw[←P] at g;have I:=zh g;have aj:=zh P;have a4:=zh J;have Z:c.length≤1099511627776:=by omega
      clear g P J
      go_wp2_with fail
      refine I.o.mono ?_;rintro e w8 ⟨ao,v8,B,rfl,bj,a3⟩;have H:=zh (ac.o.trans (ao.mono ac.o.size));have W:=zh (show Q0 w8 w.heap.size (.slice a2 c.length bm) c from Ql al.o ao);have ae:=zh a3;have T:=zh bj;obtain⟨a8,c8,rfl,_⟩:=a3;have bo:B.length≤1099511627776:=by have h1:=(S.o.further 4 (by omega)).1.few HN.o;rw[show Z0 l (lists c) 4=Zo l (lists c) from rfl,←T.o,←Qab,Q9,List.length_append] at h1;omega
      clear ao bj;cases bw with
      | true=>
       go_wp2_with (first
        | (at_builtin;refine Qhy rfl _ _ 22 rfl w.heap.size i0 underlying22 an ak a0 Q _ c.length c rfl rfl W.o _ B rfl ae.o Z bo H.o.size ?_;intro v2 w9 L O;have ah:=zh (H.o.grown O H.o.size (fun j hj=>(W.o.lt j hj).1));have aw:=zh L;clear L O))
       have z:=(S.o.further 4 (by omega)).2 aj.o.symm;have au:=(S.o.further 4 (by omega)).1;rw[show Z0 l (lists c) 4=Zo l (lists c) from rfl,←T.o,←Qab] at z au;rw[Q9,Q9] at z;have HW:=zh z;have b1:=zh au;clear z au
       go_roundg (N+1-(c.length / 4+1))
       case measure=>have:=a4.o;omega
       case rel=>
        refine⟨c++B,aw.o,ah.o,?_,b1.o,?_⟩
        ·show ∀ r,Goes l (lists (c++B)) r→Goes l (lists a) r
         intro r h;rw[Qab,T.o] at h;exact be.o r (.more aj.o.symm h)
        ·rw[HW.o]
         omega
      | false=>
       go_wp2_with (first
        | (at_builtin;refine Qhy rfl _ _ 22 rfl w.heap.size i0 underlying22 an ak a0 Q _ c.length c rfl rfl W.o _ B rfl ae.o Z bo H.o.size ?_;intro v2 w9 L O;have ah:=zh (H.o.grown O H.o.size (fun j hj=>(W.o.lt j hj).1));have aw:=zh L;clear L O))
       (try simp only[Exit.inBlock,Exit.then])
       refine bodyPost_ret (Ys rfl _ _ _) rfl ?_;refine⟨ah.o,.inr ⟨n,v2,c++B,b3,.fine C.o bi.o HR.o (be.o _ ?_),rfl,aw.o⟩⟩;rw[Qab,T.o];exact .stop aj.o.symm
    ·have a6:=Y9 (fun e=>hr (Q67 e):¬ HS (rootOf (lists a))=HS root)
     have HR:=zh hr;clear hr
     go_wp2_with fail
     refine I.o.mono ?_;rintro e w5 ⟨rfl,m⟩;have s:=zh (y.o.trans (m.mono y.o.size));clear m
     go_wp2_with fail
     (try simp only[Exit.inBlock,Exit.then])
     refine bodyPost_ret (Ys rfl _ _ _) rfl ?_;exact⟨s.o,.inl ⟨5,⟨#[]⟩,.proof C.o bi.o HR.o,rfl⟩⟩
end
section
theorem Ql9 (r:List (List UInt8)):∀ (rs:List (List (List UInt8))) (t:Int),Jw t (rs ++ [r])=Jw t rs++Yu (t+(rs.length:Int)) r
 | [],t=>by simp[Jw]
 | x :: rs,t=>by
  rw[List.cons_append,Jw,Ql9 r rs (t+1),Jw,List.append_assoc,List.length_cons,show t+1+(rs.length:Int)=t+((rs.length+1:Nat):Int) by omega]
theorem Q2h (t:Int) (r:List (List UInt8)):(Yu t r).length≤r.length:=by rw[Qbp];omega
variable {k:Nat}
theorem Qnc:∀ (rs:List (List (List UInt8))) (t:Int),(∀ r∈rs,r.length≤k)→(Jw t rs).length≤rs.length*k
 | [],t,_=>by simp[Jw]
 | r :: rs,t,h=>by
  rw[Jw,List.length_append,List.length_cons,Nat.add_mul,Nat.one_mul]
  have h1:=Q2h t r
  have h2:=h r (by simp)
  have h3:=Qnc rs (t+1) fun x hx=>h x (List.mem_cons_of_mem _ hx)
  omega
theorem Qwi {w:World} {b off n c i j:Nat} {ss:List ByteArray} (h:Zn w (.slice (some ⟨b,off,none⟩) n c) ss) (hij:i≤j) (hj:j≤ss.length):Zn w (.slice (some ⟨b,off+i,none⟩) (j-i) (c-i)) ((ss.drop i).take (j-i)):=
 Qmh (Qi6 h (Nat.le_trans hij hj)) (by rw[List.length_drop];omega)
theorem Qh0 {ds:List ByteArray} (h:∀ x∈lists ds,x.length≤k):∀ s∈ds,s.size≤k:=fun s hs=>by
 have h1:=h s.data.toList (by unfold lists;exact List.mem_map.2 ⟨s,hs,rfl⟩)
 simpa using h1
theorem Qxr (w:World) (v:Value) (ss:List ByteArray) (h:Zn w v ss) (hn:ss.length≤1048576) (m:∀ s∈ss,s.size≤20) :
  Calls prog 77 #[v] w fun e w'=>∃ v',e=.returned v'∧Qcj w' v' (Yv (lists ss))∧Below w.heap.size w w'∧∀ k,v'.ownBlock=some k→w.heap.size≤k:=by
 have HH:=zh h;have HZ:=zh m;obtain⟨av,cv,rfl,a8,hx⟩:=h;have HX:=zh hx;obtain⟨n,M⟩:∃ n,n=ss.length:=⟨_,rfl⟩
 rw[←M];rw[←M] at hn a8;have b:=zh M;clear m hx M;obtain⟨i0,al,ak,au,W⟩:=info_parts Qb5
 go_enter func77,ntmps77
 go_wp2_with fail
 go_loopg [4,5] n (fun gg s4 s5 wr=>∃ i:Nat,i≤n∧n-i≤gg∧s5=.int .i64 i∧∃ ds,Aside (Q0 wr w.heap.size s4 ds)∧Aside (lists ds=((lists ss).take i).map encE)∧Aside (Below w.heap.size w wr))
 case atStart=>exact⟨0,Nat.zero_le _,by omega,rfl,[],World.ownsRow_nil _ _ _ _,by show lists []=_;simp[lists],Below.refl _ _⟩
 case round=>
  obtain⟨i,hi,bo,rfl,ds,HO,Y,HB⟩:=hrel;have U:ds.length=i:=by rw[←Q9,Y.o,List.length_map,List.length_take,Q9,←b.o];omega
  have ae:=zh U;clear U;by_cases hlt:i<n
  ·have z:(i:Int)<(n:Int):=by omega
   obtain⟨s,hs⟩:∃ s,ss[i]?=some s:=⟨_,List.getElem?_eq_getElem (by rw[←b.o];exact hlt)⟩
   obtain⟨bv,ov,rfl,_⟩:=HX.o i (.string s) (by rw[List.getElem?_map,hs];rfl);have f:=Qwi (i:=i) (j:=i+1) (by rw[b.o];exact HH.o.below HB.o:Zn wr (.slice (some ⟨bv,ov,none⟩) n cv) ss) (by omega) (by rw[←b.o];omega);have X:(ss.drop i).take (i+1-i) = [s]:=by rw[show i+1-i=1 by omega,List.take_one,List.head?_drop,hs];rfl
   rw[X] at f;have a:=Qme _ [s] wr f (by simp);have ao:=Qx7 (l:=s.data.toList) (by have:=HZ.o s (List.mem_of_getElem? hs);simpa using this);unfold Qoj at a;rw[show bss [s] = [s.data.toList] from rfl,ao] at a;have bu:¬ cv=i:=by omega
   have h1:i+1-i=1:=by omega
   rw[h1] at a;have g:=zh a;have HS:=zh hs;clear f X a ao hs h1
   go_wp2_with fail
   refine g.o.mono ?_;rintro e w2 ⟨rfl,t⟩;have C:=zh (HB.o.trans (t.mono HB.o.size));have Q:=zh (show Q0 w2 w.heap.size u4 ds from Ql HO.o t);have J:ds.length≤1099511627776:=by have:=ae.o;omega
   clear t
   go_wp2_with (first
    | (at_builtin;refine Jd rfl _ _ 22 rfl w.heap.size 9 i0 (.string ⟨#[]⟩) 16 underlying22 al ak au W rfl (by decide) u4 ds.length (ds.map Value.string) rfl Q.o _ rfl rfl J C.o.size ?_;intro v3 w3 aq am az;have bd:=zh aq;have q:=zh (C.o.grown am C.o.size (fun j hj=>(Q.o.lt j hj).1));clear aq am az))
   go_roundg (n-(i+1))
   case measure=>omega
   case rel=>
    refine⟨i+1,by omega,by omega,by go_num,ds ++ [⟨(encE s.data.toList).toArray⟩],?_,?_,q.o⟩
    ·show Q0 _ _ _ _
     unfold Q0;simpa using bd.o
    ·show lists _=_
     rw[Qab,Y.o,List.take_add_one,Qjg,HS.o,List.map_append];rfl
  ·have z:¬ (i:Int)<(n:Int):=by omega
   have a9:i=n:=by omega
   have p:lists ds=(lists ss).map encE:=by rw[Y.o,a9,List.take_of_length_le (by rw[Q9,←b.o];omega)]
   have m:∀ s∈ds,s.size≤1048576:=Qh0 fun x hx=>by
    rw[p] at hx;obtain⟨e,he,rfl⟩:=List.mem_map.1 hx;obtain⟨s,hs,rfl⟩:=List.mem_map.1 he
    have:=HZ.o s hs
    simp[encE];omega
   have a:=Qok wr (.slice none 0 0) [] (World.ownsRow_nil _ _ _ _) (-1) u4 ds (Zs HO.o (Nat.zero_le _)) (by have:=ae.o;show 0+_≤_;omega) m;have g:=zh a;have a3:=zh p;have bm:nLev n≤11:=Qa3 hn;clear a p m z
   go_wp2_with fail
   refine g.o.mono ?_;rintro e w2 ⟨v2,rfl,aj,ab,ah⟩;have t:Below w.heap.size w w2:=HB.o.trans (ab.below HB.o.size fun k _ e=>by simp[Value.ownBlock] at e);have P:∀ k,v2.ownBlock=some k→w.heap.size≤k:=fun k hk=>by
    rcases ah k hk with h|h
    ·simp[Value.ownBlock] at h
    ·exact Nat.le_trans HB.o.size h
   have C:=zh t;have Q:=zh (show Qcj w2 v2 (Jw (-1) ((Zd (lists ss)).take 1)) by
    rw[show (Zd (lists ss)).take 1 = [(lists ss).map encE] from rfl,Jw,Jw,List.append_nil,←a3.o]
    exact aj)
   have aa:=zh P;clear aj ab ah t P
   go_wp2_with fail
   go_loopg [3,8,9] (nLev n) (fun gg s3 s8 s9 wr=>∃ lv u:Nat,lv≤nLev n∧nLev n-lv≤gg∧s9=.int .i64 lv∧s8=.int .i64 u∧Aside (u=4 ^ lv)∧u≤4194304∧0<u∧Aside (Qcj wr s3 (Jw (-1) ((Zd (lists ss)).take (lv+1))))∧Aside (Below w.heap.size w wr)∧Aside (∀ k,s3.ownBlock=some k→w.heap.size≤k))
   case atStart=>exact⟨0,1,by omega,by omega,rfl,rfl,rfl,by omega,by omega,Q.o,C.o,aa.o⟩
   case round=>
    obtain⟨lv,u,bp,bn,rfl,rfl,HU,bq,N,HF,A,K⟩:=hrel;by_cases hun:u≤n
    ·have a4:(u:Int)≤(n:Int):=by omega
     go_wp2_with fail
     obtain⟨B,hB⟩:∃ B,B=wr.heap.size:=⟨_,rfl⟩
     have F:=zh hB;clear hB
     go_loopg [4,10] n (fun gg s4 s10 wx=>∃ j:Nat,j*u≤n∧n-j≤gg∧s10=.int .i64 j∧∃ ds,Aside (Q0 wx B s4 ds)∧Aside (lists ds=((Z5 (lists ss) lv).take j).map fun (x:Hsh)=>x.toList)∧Aside (Below B wr wx))
     case atStart=>exact⟨0,by omega,by omega,rfl,[],World.ownsRow_nil _ _ _ _,by show lists []=_;simp[lists],Below.refl _ _⟩
     case round=>
      obtain⟨j,a6,bi,rfl,c,ax,L,q⟩:=hrel;obtain⟨hi,T⟩:∃ hi,hi=(j+1)*u:=⟨_,rfl⟩
      obtain⟨lo,E⟩:∃ lo,lo=j*u:=⟨_,rfl⟩
      have b0:hi=lo+u:=by rw[T,E,Nat.add_mul,Nat.one_mul]
      have bj:(j:Int)*(u:Int)=(lo:Int):=by rw[E];push_cast;rfl
      have bl:((j:Int)+1)*(u:Int)=(hi:Int):=by rw[T];push_cast;rfl
      rw[←E] at a6;have bx:j≤n:=by
       have:=Nat.le_mul_of_pos_right j N
       omega
      have bz:hi≤8388608:=by omega
      have D:=zh T;have a7:=zh E;clear T E;by_cases hlt:hi≤n
      ·have z:(hi:Int)≤(n:Int):=by omega
       obtain⟨s,hs⟩:∃ s,ss[lo]?=some s:=⟨_,List.getElem?_eq_getElem (by rw[←b.o];omega)⟩
       obtain⟨bv,ov,rfl,_⟩:=HX.o lo (.string s) (by rw[List.getElem?_map,hs];rfl);have d:=q.o;rw[F.o] at d;have G:=A.o.trans (d.mono A.o.size);have f:=Qwi (i:=lo) (j:=hi) (by rw[b.o];exact HH.o.below G:Zn wr (.slice (some ⟨bv,ov,none⟩) n cv) ss) (by omega) (by rw[←b.o];omega);rw[show hi-lo=u by omega] at f;have bg:lv≤11:=by omega
       have S:=Qun (lists ss) lv j (by omega) (by rw[Q9,←b.o,←HU.o,←D.o];exact hlt);have af:lists ((ss.drop lo).take u)=((lists ss).drop (j*4 ^ lv)).take (4 ^ lv):=by rw[←HU.o,←a7.o];unfold lists;rw[List.map_take,List.map_drop]
       have a:=Qdh ((ss.drop lo).take u).length _ _ wr (Nat.le_refl _) f (by rw[List.length_take];omega) (fun s hs=>by have:=HZ.o s (List.mem_of_mem_drop (List.mem_of_mem_take hs));omega);rw[af,S] at a;have V:(Z5 (lists ss) lv)[j]?=some (Zu (lists ss) (2*lv) j):=by
        unfold Z5;rw[List.getElem?_map,List.getElem?_range]
        ·rfl
        ·rw[Q9,←b.o,←HU.o]
         exact (Nat.le_div_iff_mul_le N).2 (by have:=D.o;show (j+1)*u≤n;omega)
       have g:=zh a;have ay:=zh V;have br:=zh G;have bt:¬ cv=lo:=by omega
       have bw:j+1≤n:=by
        have:=Nat.le_mul_of_pos_right (j+1) N
        have:=D.o
        omega
       have J:c.length≤1099511627776:=by have h1:=L.o;have h2:=congrArg List.length h1;rw[Q9,List.length_map,List.length_take] at h2;omega
       clear hs f S af a V G
       go_wp2_with fail
       refine g.o.mono ?_;rintro e w5 ⟨rfl,R⟩;have bb:=zh (q.o.trans (R.mono (by rw[F.o];exact d.size)));have O:=zh (show Q0 w5 B u4 c from Ql ax.o R);have ar:B≤w5.heap.size:=by rw[F.o];exact Nat.le_trans d.size R.size
       clear R
       go_wp2_with (first
        | (at_builtin;refine Jd rfl _ _ 22 rfl B 9 i0 (.string ⟨#[]⟩) 16 underlying22 al ak au W rfl (by decide) u4 c.length (c.map Value.string) rfl O.o _ rfl rfl J ar ?_;intro v6 w6 ag ad a1;have bf:=zh ag;have bc:=zh (bb.o.grown ad ar (fun j hj=>(O.o.lt j hj).1));clear ag ad a1))
       go_roundg (n-(j+1))
       case measure=>omega
       case rel=>
        refine⟨j+1,by rw[←D.o];exact hlt,by omega,by go_num,c ++ [HS (Zu (lists ss) (2*lv) j)],?_,?_,?_⟩
        ·show Q0 _ _ _ _
         unfold Q0;simpa using bf.o
        ·show lists _=_
         rw[Qab,L.o,List.take_add_one,ay.o,List.map_append];rfl
        ·exact bc.o
      ·have z:¬ (hi:Int)≤(n:Int):=by omega
       have an:n / u≤j:=by have h1:n / u<j+1:=(Nat.div_lt_iff_lt_mul N).2 (by have:=D.o;omega);omega
       have p:lists c=(Z5 (lists ss) lv).map fun (x:Hsh)=>x.toList:=by rw[L.o,List.take_of_length_le];unfold Z5;rw[List.length_map,List.length_range,Q9,←b.o,←HU.o];exact an
       have H:lv<nLev (lists ss).length:=(Qan _ _).2 (by rw[Q9,←b.o,←HU.o];exact hun);have I:(Zd (lists ss))[lv+1]?=some (lists c):=by rw[p];exact Qdj _ _ H
       have m:∀ s∈c,s.size≤1048576:=Qh0 fun x hx=>by rw[p] at hx;obtain⟨y,_,rfl⟩:=List.mem_map.1 hx;simp
       have be:(Jw (-1) ((Zd (lists ss)).take (lv+1))).length≤12*n:=by
        have h1:=Qnc (k:=n) ((Zd (lists ss)).take (lv+1)) (-1) fun r hr=>by
         have:=Qaz (List.mem_of_mem_take hr)
         rw[Q9,←b.o] at this;exact this
        have h2:((Zd (lists ss)).take (lv+1)).length*n≤12*n:=Nat.mul_le_mul_right n (by rw[List.length_take];omega);omega
       have U:c.length≤n:=by have h2:=Qaz (List.mem_of_getElem? I);rw[Q9,Q9,←b.o] at h2;exact h2
       have ap:Qcj wr u3 (Jw (-1) ((Zd (lists ss)).take (lv+1))):=by have d:=q.o;rw[F.o] at d;exact Ql HF.o d
       have a:=Qok wr u3 _ ap (lv:Int) u4 c (Zs ax.o (Nat.zero_le _)) (by omega) m;have g:=zh a;have a2:=zh I;have a0:=zh H;clear p H I m be U ap a an
       go_wp2_with fail
       refine g.o.mono ?_;rintro e w5 ⟨v5,rfl,ac,ai,aw⟩;have O:=zh ac;have ba:=zh ai;have a5:=zh aw;clear ac ai aw
       go_wp2_with fail
       have d:=q.o;rw[F.o] at d;have bk:lv<nLev n:=by have:=a0.o;rw[Q9,←b.o] at this;exact this
       go_roundg (nLev n-(lv+1))
       case measure=>omega
       case rel=>
        have Z:=A.o.trans (d.mono A.o.size);refine⟨lv+1,u*4,by omega,by omega,by go_num,by go_num,?_,by omega,by omega,?_,?_,?_⟩
        ·show u*4=4 ^ (lv+1)
         rw[HU.o,Nat.pow_succ]
        ·show Qcj _ _ _
         have hl:((Zd (lists ss)).take (lv+1)).length=lv+1:=by rw[List.length_take,J4,Q9,←b.o];omega
         rw[List.take_add_one,a2.o];show Qcj _ _ (Jw (-1) (_ ++ [lists c]));rw[Ql9,hl,show (-1:Int)+((lv+1:Nat):Int)=(lv:Int) by omega];exact O.o
        ·exact Z.trans (ba.o.below Z.size fun k hk e=>by have:=K.o k e;omega)
        ·show ∀ k,_→_
         intro k hk;rcases a5.o k hk with h|h
         ·exact K.o k h
         ·exact Nat.le_trans Z.size h
    ·have a4:¬ (u:Int)≤(n:Int):=by omega
     go_wp2_with fail
     go_ret;have bh:lv=nLev n:=by
      rcases Nat.lt_or_ge lv (nLev n) with h|h
      ·have:=(Qan n lv).1 h
       have:=HU.o
       omega
      ·omega
     refine⟨_,rfl,?_,A.o,K.o⟩;have h1:=HF.o;rw[List.take_of_length_le (by rw[J4,Q9,←b.o];omega)] at h1;exact h1
end
section
theorem Qdc (w:World) (p:Pl) (m:Wm) (h:WdIs w p m) (hn:m.d.files.length≤1000000000000) :
  Calls prog 26 #[.pointer (some ⟨p.gw,0,none⟩)] w fun e w'=>∃ v' l',e=.returned v'∧w'.ownsRow w.heap.size 61 2 v' l'.length (Zg l')∧l'.Perm m.d.files∧Below w.heap.size w w':=by
 obtain⟨⟨c0,_⟩,_⟩:=h.heads;have HC:=zh (Qxx w p.gd p.v m.d h.disk (by omega));obtain⟨i0,s,r,u,q⟩:=Qj4;have HI:=zh (⟨s,r,u,q⟩:_∧_∧_∧_);clear h s r u q
 go_enter func26,ntmps26
 go_wp2_with (go_at_call 83;refine HC.o.mono ?_;rintro e w1 ⟨v1,l1,rfl,n,f,a⟩;have z:=zh n;have A:=zh f;have B:=zh a;obtain⟨a1,D,rfl⟩:=Zi n;have I:l1.length≤1000000000000:=(by rw[f.length_eq];exact hn);clear n f a)
 go_loopw [3,5] (fun s3 s5 wr=>∃ k:Nat,k≤l1.length∧s5=.int .i64 k∧Aside (wr.ownsRow w.heap.size 61 2 s3 (l1.take k).length (Zg (l1.take k)))∧Aside (wr.ownsRow w.heap.size 132 2 (.slice a1 l1.length D) l1.length (Zg l1))∧Aside (Below w.heap.size w wr)) (fun _ s5 _=>l1.length-(intOf s5).toNat)
 case atStart=>exact⟨0,Nat.zero_le _,rfl,World.ownsRow_nil _ _ _ _,z.o,B.o⟩
 case round=>
  obtain⟨k,hk,rfl,HR,HO,HB⟩:=hrel;by_cases hlt:k<l1.length
  ·obtain⟨x,hx⟩:∃ x,l1[k]?=some x:=⟨_,List.getElem?_eq_getElem hlt⟩
   obtain⟨b1,rfl⟩:∃ b1,a1=some ⟨b1,0,none⟩:=by
    rcases HO.o.2 with ⟨_,h0⟩|⟨b,cap,cur,e,_⟩
    ·omega
    ·simp at e;exact⟨b,e.1⟩
   obtain⟨f1,f2⟩:=Qak l1 k x hx;have k1:=Qnn HO.o (k*2) _ f1;have k2:=Qnn HO.o (k*2+1) _ f2;rw[Addr.add_lit] at k1 k2;simp only[Nat.zero_add] at k1 k2;have H:=Qk k1;obtain⟨ln,g⟩:∃ ln,ln=(l1.take k).length:=⟨_,rfl⟩
   have t:ln=k:=by rw[g,List.length_take];omega
   have i:wr.ownsRow w.heap.size 61 2 u3 ln (Zg (l1.take k)):=by rw[g];exact HR.o
   have c:=zh i;have HX:=zh hx;have E:=zh t;have y:ln+1≤1099511627776:=by omega
   have J:(0:Int)≤(k:Int):=by omega
   have l:(k:Int)<(l1.length:Int):=by omega
   have hz:=HB.o.size;clear g hx t i f1 f2
   go_wp2_with fail
   go_region_law (refine Qcp rfl _ _ _ rfl w.heap.size 61 i0 _ 2 32 underlying56 HI.o.1 HI.o.2.1 HI.o.2.2.1 HI.o.2.2.2 rfl (by decide) (by decide) u3 ln _ rfl (Ql c.o ((Qn wr).alloc (Nat.le_refl _) _)) ⟨wr.heap.size,0,none⟩ 1 1 [.string x.1,.string x.2] rfl rfl (Qdf _ _ _ _ _ rfl) (by simp[Value.oneCell']) (by decide) y (by simp;omega) ?_;intro v' w' h2 h3 h4 h5;have H2:=zh h2;have H3:=zh h3;clear h2 h3 h4 h5)
   all_goals (
    go_wp2_with fail
    go_roundw
    case rel=>
     refine⟨k+1,by omega,by go_num,?_,?_,?_⟩
     ·have h1:=H2.o
      have e:l1.take (k+1)=l1.take k ++ [x]:=by rw[List.take_add_one,HX.o];rfl
      have h0:(l1.take k).length=k:=by rw[List.length_take];omega
      show w'.ownsRow _ _ _ v' _ _
      rw[e,Qbo,List.length_append,List.length_singleton,h0]
      have h2:=E.o
      rw[h2] at h1
      exact h1
     ·exact Q3 (Ql HO.o ((Qn wr).alloc (Nat.le_refl _) _)) (Fr.ofGrown (S:=fun k=>u3.ownBlock=some k) H3.o fun k _ e=>e) fun k hk e=>by
       obtain⟨C,hC⟩:=Qe HO.o hk
       obtain⟨C',F⟩:=Qe c.o e
       exact Zp hC F (by decide) rfl
     ·have a:Below w.heap.size w (wr.drew.alloc (.cells #[.string x.1,.string x.2] 61)):=(HB.o.drew).alloc hz _
      exact a.grown H3.o a.size fun j hj=>(c.o.lt j hj).1
    case measure=>simp[intOf];omega)
  ·have G:¬ (k:Int)<(l1.length:Int):=by omega
   have l:k=l1.length:=by omega
   have HK:=zh l;clear l;go_wp2;go_ret;refine⟨u3,rfl,l1,?_,A.o,HB.o⟩;have h1:=HR.o;rw[HK.o,List.take_length] at h1;exact h1
end
section
variable {w:World} {t:Nat} {v:Value}
theorem Qqj {g i:Nat} {x y:Value} (h:w.cell? ⟨g,i,none⟩=some v) (hne:g≠t):((w.setCell ⟨t,0,none⟩ x).setCell ⟨t,1,none⟩ y).cell? ⟨g,i,none⟩=some v:=
 ((Fr.set1 w t 0 x).set 1 y).cell h hne
variable {gd B:Nat} {d:Dk} {key:ByteArray} {e:Ending} {w':World}
theorem Q8z (h:Qp2 w gd v d key B e w'):∃ (lv:Value) (k:Int) (p:ByteArray),e=.returned (.tuple #[lv,Qaa k p]):=by
 obtain⟨d',_,_,⟨p,_,rfl⟩|⟨k,p,_,_,rfl⟩|⟨es,n,gl,g,_,_,rfl,_⟩⟩:=h
 ·exact⟨_,_,_,rfl⟩
 ·exact⟨_,_,_,rfl⟩
 ·exact⟨_,_,_,rfl⟩
theorem Q98 (h:Qp2 w gd v d key B e w'):Fr (·=gd) w w':=by obtain⟨d',_,h2,_⟩:=h;exact h2
def Q9w (w:World) (gd:Nat) (v:Value) (d:Dk) (key:ByteArray) (B:Nat) (lv:Value) (t:Nat) (w':World):Prop:=
 ∃ (d':Dk) (k:Int) (p:ByteArray),Q1 w' gd v d'∧Fr (·=gd) w w'∧Zr w' t k p∧w.heap.size≤t∧
  ((Hurt B d d'∧lv=.pointer none∧k=8)∨
     (∃ kn:Nat,Calm B d d'∧Yh d.files key (.bad kn p)∧lv=.pointer none∧k=kn)∨
     (∃ es n gl g,Calm B d d'∧Yh d.files key (.good es n)∧lv=.pointer (some ⟨gl,0,none⟩)∧k=0∧PlIs w' gl g∧w.heap.size≤gl∧Qhi w gd key es g w'))
variable {k:Int} {p:ByteArray}
theorem Qlw {k':Int} {p':ByteArray} {a b:Value} (h:Ending.returned (.tuple #[a,Qaa k p])=.returned (.tuple #[b,Qaa k' p'])):a=b∧k=k'∧p=p':=by simp at h;exact⟨h.1,h.2.1,h.2.2⟩
variable {w7:World}
theorem Q69 {W w8:World} {lv:Value} (hW:Below w.heap.size w W) (hg:gd<w.heap.size) (h:Qp2 W gd v d key B (.returned (.tuple #[lv,Qaa k p])) w7) (h8:Below w7.heap.size w7 w8)
  (ht:Zr w8 t 0 ⟨#[]⟩) (htw:w.heap.size≤t):Q9w w gd v d key B lv t ((w8.setCell ⟨t,0,none⟩ (.int .i64 k)).setCell ⟨t,1,none⟩ (.string p)):=by
 obtain⟨d',hD,hF,hR⟩:=h;have ts:=Qc2 (m:=k) (t:=p) ht;have hk:=Q5 ht;refine⟨d',k,p,(hD.below h8).kept ts.2 hk (by decide) (by decide),?_,ts.1,htw,?_⟩
 ·exact ((Fr.ofBelow hW).trans (hF.trans (Fr.ofBelow h8))).step ts.2 fun i hi e=>by subst e;omega
 ·rcases hR with ⟨p',h1,he⟩|⟨kn,p',h1,h2,he⟩|⟨es,n,gl,g,h1,h2,he,h3,h4,h5⟩
  ·obtain⟨e1,e2,e3⟩:=Qlw he
   exact .inl ⟨h1,e1,e2⟩
  ·obtain⟨e1,e2,e3⟩:=Qlw he
   exact .inr (.inl ⟨kn,h1,by rw[e3];exact h2,e1,e2⟩)
  ·obtain⟨e1,e2,e3⟩:=Qlw he
   refine .inr (.inr ⟨es,n,gl,g,h1,h2,e1,e2,?_,Nat.le_trans hW.size h4,?_⟩)
   ·exact Zl ((h8.block _ (Qc h3)).trans h3) ts.2 hk (by decide)
   ·obtain⟨ve,vl,vs,a,b,c⟩:=(h5.below h8).kept ts.2 hk (by decide) (by decide)
    exact⟨ve,vl,vs,a,Nat.le_trans hW.size b,fun i hi=>Nat.le_trans hW.size (c i hi)⟩
theorem Qzd (w:World) (k:Int) (p:ByteArray):w.alloc (.cells #[.int .i64 k,.string p] 63)=((w.alloc (.cells #[.int .i64 0,.string ⟨#[]⟩] 63)).setCell ⟨w.heap.size,0,none⟩ (.int .i64 k)).setCell ⟨w.heap.size,1,none⟩ (.string p):=by rw[World.setCell_alloc_at _ _ _ _ _ rfl,World.setCell_alloc_at _ _ _ _ _ rfl];simp
theorem Qwp {w1:World} (hD:Q1 w1 gd v d) (hF:Fr (·=gd) (w1.alloc (.cells #[.int .i64 0,.string ⟨#[]⟩] 63)).drew w7):Zr w7 w1.heap.size 0 ⟨#[]⟩:=
 Zl (w:=(w1.alloc (.cells #[.int .i64 0,.string ⟨#[]⟩] 63)).drew) (Qc6 w1) hF (Q5 (hD.below ((Qa w1 _).drew)).1) (by decide)
def Qsb (Q:Wm→Prop) (w:World) (p:Pl) (m:Wm) (U:List Nat) (K:Nat) (e:Ending) (w':World):Prop:=
 e=.returned (.bool true)∧∃ p' m',p'.gw=p.gw∧m'.key=m.key∧WdIs w' p' m'∧Q90 m' U K∧Fr (WdS p m) w w'∧Sub w (WdS p m) (WdS p' m')∧p'.gd=p.gd∧Q m'
variable {m:Wm}
theorem Q5c {p:Pl} {k:Nat} (h:k=p.gd):WdS p m k:=.inr (.inl (.inl h))
theorem WdIs.gg {p:Pl} (h:WdIs w p m):¬ p.gw=p.gd:=fun e=>Zp h.cells h.disk.1 (by decide) e
end
section
variable {l:List Fil} {key:ByteArray} {w w':World}
theorem Q89 {e:Ending} (h:Qu7 l key w e w'):∃ (ve:Value) (n k:Int) (p:ByteArray),e=.returned (.tuple #[ve,.int .i64 n,.int .i64 k,.string p]):=by
 rcases h.2 with ⟨k,p,_,rfl⟩|⟨n,v,ss,_,_,rfl,_⟩
 ·exact⟨_,_,_,_,rfl⟩
 ·exact⟨_,_,_,_,rfl⟩
variable {p:ByteArray}
theorem Q2a {ve:Value} {n k:Int} (h:Qu7 l key w (.returned (.tuple #[ve,.int .i64 n,.int .i64 k,.string p])) w') :
  (∃ kn:Nat,Yh l key (.bad kn p)∧k=kn)∨∃ (nn:Nat) (ss:List ByteArray),Yh l key (.good (lists ss) nn)∧n=nn∧k=0∧Q0 w' w.heap.size ve ss:=by
 rcases h.2 with ⟨kn,p',h1,he⟩|⟨nn,v,ss,_,h1,he,h2⟩
 ·simp at he
  obtain⟨_,_,rfl,rfl⟩:=he;exact .inl ⟨kn,h1,rfl⟩
 ·simp at he
  obtain⟨rfl,rfl,rfl,rfl⟩:=he;exact .inr ⟨nn,ss,h1,rfl,rfl,h2⟩
theorem Q08 {k:Nat} (h:Yh l key (.bad k p)):0<k:=by cases h <;> decide
set_option maxHeartbeats 8000000 in
theorem Q5y (f:Nat→Addr) (w:World) (p:Pl) (m:Wm) (U:List Nat) (K:Nat) (h:WdIs w p m) (hG:Good m U K) (hfo:m.foreign=false) (hE:EnvS f (WdS p m) w) (hU:U.length≤16384) (hK:K≤800000000000) (hkey:m.key.size≤1048600) :
  Calls prog 21 #[.pointer (some ⟨p.gw,0,none⟩)] w (Qsb (Q7h m) w p m U (K+1048576)):=by
 have O:=h.gg;have af:m.d.files.length≤1000000000000:=by have:=hG.sane.len;omega
 obtain⟨⟨c0,c1,_⟩,cf⟩:=h.heads;have HM:=zh (Q5s w p.gd p.v m.d h.disk);have HH:=zh h;have HG:=zh hG;have HE:=zh hE;have ax:=zh hfo;clear h hG hE hfo
 go_enter func21,ntmps21
 go_wp2_with (go_at_call 71;refine HM.o.mono ?_;rintro e w1 ⟨rfl,aq,ay⟩;have bd:=zh aq;have D:=zh ay;clear aq ay)
 have h1:WdIs w1 p { m with d:=Qif m.d }:=HH.o.diskStep bd.o (Q96 D.o);have a7:=zh (Qdc w1 p { m with d:=Qif m.d } h1 af);have H1:=zh h1;obtain⟨⟨d0,d1,_⟩,df⟩:=h1.heads;clear h1
 go_upto_region 3 with (first|(go_at_call 26;refine a7.o.mono ?_;rintro e w2 ⟨v2,l2,rfl,a,ao,aw⟩;have a8:=zh a;have M:=zh ao;have q:=zh aw;obtain⟨a2,bi,rfl⟩:=Zi a;clear a ao aw)|fail)
 have h2:=H1.o.below q.o;obtain⟨⟨e0,e1,_⟩,ef⟩:=h2.heads;have ah:getF l2=getF m.d.files:=Qcm HG.o.sane.once M.o;have G:FewB l2 U.length:=Q8l ah (HG.o.sane.few (by omega));have a6:=zh (Quf w2 (.slice a2 l2.length bi) l2 m.key (Z7 a8.o) (by rw[M.o.length_eq];exact Nat.le_trans af (by decide)) (fun x hx=>HG.o.sane.size x (M.o.mem_iff.1 hx)) hkey U.length G (by omega));have H2:=zh h2;have az:=zh ah;clear h2 ah G d0 d1 df
 go_upto_region 4 with (first|(go_at_call 72;refine a6.o.mono ?_;intro e w3 h3;obtain⟨ve,nn,rk,rp,rfl⟩:=Q89 h3;have C:=zh h3;clear h3)|fail)
 have h3:=H2.o.below C.o.1;obtain⟨⟨p0,p1,_⟩,pf⟩:=h3.heads;have a0:=fun (W:World) (hb:Below w3.heap.size w3 W)=>Q1r f W p.gd p.v (Qif m.d) m.key (h3.disk.below hb) U.length
  (((((HE.o.fr (D.o.weak fun _ _ e=>Q5c e)).below q.o).below C.o.1).below hb).less fun k e=>Q5c e) (HG.o.sane.few (by omega)) (by omega) (by have:=HG.o.sane.calls;show m.d.calls<_;omega) HG.o.sane.size (Nat.le_trans hkey (by decide))
 have a5:=zh a0;have H3:=zh h3;have A:=zh h3.disk;have pb:=Qk p0;have pbn:p.gw<w3.heap.size:=pb;have P:(w3.alloc (.cells #[.int .i64 0,.string ⟨#[]⟩] 63)).drew.cell? ⟨p.gw,0,none⟩=some (.pointer (some ⟨p.gd,0,none⟩)):=((Qa w3 _).cell (p:=⟨p.gw,0,none⟩) pb).trans p0;have Z:(w3.alloc (.cells #[.int .i64 0,.string ⟨#[]⟩] 63)).drew.cell? ⟨p.gw,1,none⟩=some (.string m.key):=((Qa w3 _).cell (p:=⟨p.gw,1,none⟩) pb).trans p1;have N:w3.drew.cell? ⟨p.gw,0,none⟩=some (.pointer (some ⟨p.gd,0,none⟩)):=p0;have X:w3.drew.cell? ⟨p.gw,1,none⟩=some (.string m.key):=p1;have mne:p.gw≠w3.heap.size:=Nat.ne_of_lt pb;clear h3 a0
 go_cut [8,9] from 31 to 41 (fun s8 s9 wx=>∃ (lv:Value) (t:Nat),s8=lv∧s9=.pointer (some ⟨t,0,none⟩)∧Aside (Q9w w3 p.gd p.v (Qif m.d) m.key (8*U.length+16) lv t wx))
 case first=>
  go_region_held3 (fun w'=>w'.cell? ⟨p.gw,0,none⟩=some (.pointer (some ⟨p.gd,0,none⟩))∧w'.cell? ⟨p.gw,1,none⟩=some (.string m.key)) (first|with_reducible exact⟨p0,p1⟩|with_reducible exact⟨N,X⟩|with_reducible exact⟨P,Z⟩|with_reducible exact⟨m0,m1⟩|exact⟨Qqj m0 mne,Qqj m1 mne⟩|exact⟨((Qa w7 _).cell (p:=⟨p.gw,0,none⟩) mb).trans m0,((Qa w7 _).cell (p:=⟨p.gw,1,none⟩) mb).trans m1⟩|exact⟨Qqj (((Qa w7 _).cell (p:=⟨p.gw,0,none⟩) mb).trans m0) (Nat.ne_of_lt mb),Qqj (((Qa w7 _).cell (p:=⟨p.gw,1,none⟩) mb).trans m1) (Nat.ne_of_lt mb)⟩|fail) (first|(go_at_call 73;refine Calls.mono (a5.o _ (by first|exact Qn _|exact (Qa _ _).drew)) ?_;intro e w7 h7;obtain⟨lv,kk,pth,rfl⟩:=Q8z h7;have H7:=zh h7;have B:=zh (Q98 h7);have m0:=B.o.cell (by first|(with_reducible first|exact N|exact P)) (show ¬ p.gw=p.gd from O);have m1:=B.o.cell (by first|(with_reducible first|exact X|exact Z)) (show ¬ p.gw=p.gd from O);have mb:=Qk m0;(first|(have ar:Fr (·=p.gd) (w3.alloc (.cells #[.int .i64 0,.string ⟨#[]⟩] 63)).drew w7:=(by with_reducible exact B.o);obtain⟨t0,t1,t2,t3,t4⟩:=(Qwp A.o ar).facts;clear ar)|skip);clear h7)|fail)
  all_goals (
   go_wp2_with fail
   go_meet
   first
    | exact⟨lv,w3.heap.size,rfl,rfl,Q69 ((Qa _ _).drew) A.o.lt H7.o (Below.refl _ _) (Qwp A.o B.o) (Nat.le_refl _)⟩
    | exact⟨lv,w7.heap.size,rfl,rfl,by rw[Qzd];exact Q69 (Qn _) A.o.lt H7.o (Qa _ _) (Qc6 w7) B.o.size⟩)
 case rest=>
  obtain⟨lv,t,rfl,rfl,d',k,pth,hD,hF,hT,bw,hR⟩:=hcut;have bg:Calm (8*U.length+16) (Qif m.d) d'∧((∃ kn:Nat,Yh m.d.files m.key (.bad kn pth)∧u8=.pointer none∧k=kn)∨
    ∃ es n gl g,Yh m.d.files m.key (.good es n)∧u8=.pointer (some ⟨gl,0,none⟩)∧k=0∧PlIs wc gl g∧w3.heap.size≤gl∧Qhi w3 p.gd m.key es g wc):=by
   rcases hR with ⟨c,_⟩|⟨kn,c,h1,h2,h3⟩|⟨es,n,gl,g,c,h1,h2,h3,h4,h5,h6⟩
   ·exact (Qqc c).elim
   ·exact⟨c,.inl ⟨kn,h1,h2,h3⟩⟩
   ·exact⟨c,.inr ⟨es,n,gl,g,h1,h2,h3,h4,h5,h6⟩⟩
  obtain⟨u,an⟩:=bg;have h4:WdIs wc p { m with d:=d' }:=H3.o.diskStep hD (Q96 hF);have Q:d'.files=m.d.files:=u.files;have bc:=zh (Qdc wc p { m with d:=d' } h4 (by show d'.files.length≤_;rw[Q];exact af));have HT:=zh hT;have HF:=zh hF;have b:=zh u;have H4:=zh h4;have be:=zh Q;have bh:¬ p.gw=t:=by omega
  have bp:¬ t=p.gw:=fun e=>bh e.symm
  have bm:¬ p.gd=p.gw:=fun e=>O e.symm
  clear hD hF hT hR u h4 Q p0 p1 pf N X P Z mne
  go_upto_region 6 with (first|(go_at_call 26;refine bc.o.mono ?_;rintro e w4 ⟨v4,l4,rfl,ad,ak,av⟩;have br:=zh ad;have ba:=zh ak;have r:=zh av;obtain⟨a4,bx,rfl⟩:=Zi ad;clear ad ak av)|fail)
  have h5:=H4.o.below r.o;obtain⟨⟨q0,q1,q2,q3,q4,q5,q6⟩,qf⟩:=h5.heads;obtain⟨⟨_,_,_,_,_,_,_,s7⟩,_⟩:=h5.disk.cells;obtain⟨t0,t1,_,_,_⟩:=(HT.o.below r.o).facts;have al:((l2.length:Int) == (l4.length:Int))=true:=by rw[ba.o.length_eq,M.o.length_eq,be.o];exact beq_self_eq_true _
  have bo:(!((l2.length:Int) == (l4.length:Int)))=false:=by rw[al];rfl
  have H5:=zh h5;have bt:=Qk q0;have H:d'.turned=false:=b.o.turned.trans HG.o.sane.turned;rw[H] at s7;have au:Fr (WdS p m) w w4:=(D.o.weak fun _ _ e=>Q5c e).trans ((Fr.ofBelow (q.o.trans (C.o.1.mono q.o.size))).trans ((HF.o.weak fun _ _ e=>Q5c e).trans (Fr.ofBelow r.o)));have ap:=zh au;have aj:w.heap.size≤w3.heap.size:=Nat.le_trans D.o.size (Nat.le_trans q.o.size C.o.1.size);have bj:w.heap.size≤w2.heap.size:=Nat.le_trans D.o.size q.o.size;have HC:=zh (Q2a C.o);have I:=zh an;clear h5 H au an;rcases HC.o with ⟨kn,ho,Y⟩|⟨nn',ss,ho,a3,Y,y⟩
  ·have a:=Qnx az.o ho
   have a1:=Q08 a;rcases I.o with ⟨ab,j,E,hk⟩|⟨es,n,gl,g,j,_⟩
   ·have l:=j.one a
    simp only[Opn.bad.injEq] at l;obtain⟨rfl,rfl⟩:=l;subst E;subst hk;subst Y;have bu:((ab:Int) == 0)=false:=by rw[beq_eq_false_iff_ne];omega
    have bq:¬ (ab:Int)=0:=by omega
    have bk:=zh a;clear ho a j a1 HC I;go_wp2;go_ret;have y:=H5.o.ownStep (p':=p) (m':=⟨m.key,d',none,m.es,m.pub,false,m.foreign⟩) ((Fr.set1 w4 p.gw 2 (.pointer none)).set 5 (.bool false)) ((heap_setCell (heap_setCell H5.o.cells _) _).trans (by simp[Qdp,plV])) ⟨rfl,rfl,rfl,rfl⟩ H5.o.ents (fun L hL=>by cases hL);refine⟨rfl,p,⟨m.key,d',none,m.es,m.pub,false,m.foreign⟩,rfl,rfl,y,.inr ⟨ax.o,(Q24 HG.o b.o m.foreign).bound (by omega)⟩,?_,?_,rfl,d',_,b.o,.inr ⟨⟨_,_,bk.o⟩,rfl⟩⟩
    ·exact ap.o.trans (((Fr.set1 w4 p.gw 2 (.pointer none)).set 5 (.bool false)).weak fun _ _ e=>.inl e)
    ·intro i hi
     rcases hi with hi|hi|hi|⟨hi,_⟩
     ·exact .inl (.inl hi)
     ·exact .inl (.inr (.inl hi))
     ·exact .inl (.inr (.inr (.inl hi)))
     ·cases hi
   ·have:=j.one a
    cases this
  ·have a:=Qnx az.o ho
   rcases I.o with ⟨ab,j,E,hk⟩|⟨es,n,gl,g,j,E,hk,R,bl,V⟩
   ·have:=j.one a
    cases this
   ·have l:=j.one a
    simp only[Opn.good.injEq] at l;obtain⟨rfl,rfl⟩:=l;subst E;subst hk;subst Y;subst a3;obtain⟨qve,qvl,qvs,aa,bn,am⟩:=V;have z:Q0 wc w2.heap.size ve ss:=Zk y HF.o (Q5 A.o.1) (by decide);have s:Q0 w4 0 ve ss:=Zs (Ql z r.o) (Nat.zero_le _);have J:=aa.below r.o;have ag:PlIs w4 gl g:=(r.o.block _ (Qc R)).trans R;have T:∀ i,ve.ownBlock=some i→w.heap.size≤i:=fun i hi=>Nat.le_trans bj (z.lt i hi).1
    obtain⟨ae,ce,rfl⟩:=Zi s;have hstep:=H5.o.ownStep (p':={ p with en:=.slice ae ss.length ce,gl:=gl,g:=g,ve:=qve,vl:=qvl,vp:=.slice none 0 0,vs:=qvs }) (m':=⟨m.key,d',some ⟨m.key,lists ss,levels (lists ss),[],false⟩,ss,n,false,m.foreign⟩)
     ((((Fr.set1 w4 p.gw 2 (.pointer (some ⟨gl,0,none⟩))).set 5 (.bool false)).set 3 (.slice ae ss.length ce)).set 4 (.int .i64 n))
     ((heap_setCell (heap_setCell (heap_setCell (heap_setCell H5.o.cells _) _) _) _).trans (by simp[Qdp,plV])) ⟨rfl,rfl,rfl,rfl⟩ s (fun L hL=>by cases hL;exact⟨ag,J⟩)
    have ai:=zh hstep;have F:=Q1d _ gl g p.gd _ _ _ _ _ (hstep.log _ rfl).1 (hstep.log _ rfl).2;have ac:((lists ss).length:Int)=(ss.length:Int):=by simp[lists]
    dsimp only at F;rw[ac] at F;have bf:=zh F;have a9:=zh T;have bb:=zh am;have S:=zh a;clear y z s aa J R ag hstep F ac T ho a j HC I am
    go_wp2_with (first|(go_at_call 74;refine bf.o.mono ?_;rintro e w9 ⟨rfl,rfl⟩)|fail)
    all_goals (first|exact absurd (eq_of_beq al) (by assumption)|skip)
    go_ret;refine⟨rfl,{ p with en:=.slice ae ss.length ce,gl:=gl,g:=g,ve:=qve,vl:=qvl,vp:=.slice none 0 0,vs:=qvs },⟨m.key,d',some ⟨m.key,lists ss,levels (lists ss),[],false⟩,ss,n,false,m.foreign⟩,rfl,rfl,ai.o,.inr ⟨ax.o,(Q2k HG.o (by omega) b.o S.o m.foreign).bound (by omega)⟩,?_,?_,rfl,d',_,b.o,.inl ⟨ss,n,S.o,rfl⟩⟩
    ·exact ap.o.trans (((((Fr.set1 w4 p.gw 2 (.pointer (some ⟨gl,0,none⟩))).set 5 (.bool false)).set 3 (.slice ae ss.length ce)).set 4 (.int .i64 n)).weak fun _ _ e=>.inl e)
    ·intro i hi
     rcases hi with hi|hi|hi|⟨_,hi|hi⟩
     ·exact .inl (.inl hi)
     ·exact .inl (.inr (.inl hi))
     ·exact .inr (a9.o i hi)
     ·exact .inr (by subst hi;exact Nat.le_trans aj bl)
     ·exact .inr (Nat.le_trans aj (bb.o i hi))
end
section
def Qg2 (w:World) (g gd:Nat) (v ve vl vp:Value) (vs:List Value) (d:Dk) (L:Lg) (e:Ending) (w':World):Prop:=
 if L.failed=true then e=.returned (.tuple #[.int .i64 0,Qaa 7 ⟨#[]⟩])∧Below w.heap.size w w'
 else ∃ v' vp' Q,Q=pubD L.entries L.key L.put d∧Q1 w' gd v' Q.1∧Zq w' g gd ve vl vp' vs { L with put:=Q.2.1,failed:=Q.2.2.isSome }∧Fr (Jz g gd v ve vl vp vs) w w'∧Sub w (Jz g gd v ve vl vp vs) (Jz g gd v' ve vl vp' vs)∧
  ((Q.2.2=none∧e=.returned (.tuple #[.int .i64 L.entries.length,Qaa 0 ⟨#[]⟩]))∨∃ p,Q.2.2=some p∧e=.returned (.tuple #[.int .i64 0,Qaa 8 p]))
theorem Qwy {w w0 w1 w2 w3:World} {g gd:Nat} {v ve vl vp v' vp':Value} {vs:List Value} {L L':Lg} {d d':Dk} (hw0:w0=w.alloc (.cells #[.int .i64 0,.string ⟨#[]⟩] 63)) (hl:Zq w0 g gd ve vl vp vs L) (hd:Q1 w0 gd v d)
  (hbs:∀ k,Jz g gd v ve vl vp vs k→k<w.heap.size) (hD:Q1 w1 gd v' d') (hL:Zq w1 g gd ve vl vp' vs L') (hF:Fr (Jz g gd v ve vl vp vs) w0 w1) (hS:Sub w0 (Jz g gd v ve vl vp vs) (Jz g gd v' ve vl vp' vs)) (h2:Below w1.heap.size w1 w2) :
  Zr w2 w.heap.size 0 ⟨#[]⟩∧∀ n s,w3=(w2.setCell ⟨w.heap.size,0,none⟩ (.int .i64 n)).setCell ⟨w.heap.size,1,none⟩ (.string s)→
   Q1 w3 gd v' d'∧Zq w3 g gd ve vl vp' vs L'∧Fr (Jz g gd v ve vl vp vs) w w3∧Sub w (Jz g gd v ve vl vp vs) (Jz g gd v' ve vl vp' vs):=by
 have t0:Zr w0 w.heap.size 0 ⟨#[]⟩:=by rw[hw0];exact Qc6 w
 have t1:Zr w1 w.heap.size 0 ⟨#[]⟩:=t0.kept hF ((Qcc hd).or (Qga hl)) (by decide);have t2:=t1.below h2;have a:Below w.heap.size w w0:=by rw[hw0];exact Qa w _
 refine⟨t2,fun n s e=>?_⟩;have ts:=Qc2 (m:=n) (t:=s) t2;rw[←e] at ts;have b:=Q5 t2;refine⟨(hD.below h2).kept ts.2 b (by decide) (by decide),(hL.below h2).kept ts.2 b (by decide) (by decide),?_,hS.mono a.size⟩;exact ((Fr.ofBelow a).trans (hF.trans (Fr.ofBelow h2))).step ts.2 fun k hk e=>by subst e;omega
theorem Qrh (f:Nat→Addr) (w:World) (gl g gd:Nat) (v ve vl vp:Value) (vs:List Value) (d:Dk) (L:Lg) (hp:PlIs w gl g) (h:Zq w g gd ve vl vp vs L) (hD:Q1 w gd v d) (hE:EnvS f (Jz g gd v ve vl vp vs) w) (hlv:L.levels=levels L.entries) (hn:L.entries.length≤1048576)
  (hs:∀ e∈L.entries,e.length≤20) (hm:Qea (Zd L.entries) L.put) (hc:d.calls<900000000000) (hfl:d.files.length<900000000000) (hkey:L.key.size≤9223372036854775807) :
  Calls prog 75 #[.pointer (some ⟨gl,0,none⟩)] w (Qg2 w g gd v ve vl vp vs d L):=by
 obtain⟨w0,n⟩:∃ w0,w0=w.alloc (.cells #[.int .i64 0,.string ⟨#[]⟩] 63):=⟨_,rfl⟩
 have c:Below w.heap.size w w0:=by rw[n];exact Qa w _
 have A:∀ k,Jz g gd v ve vl vp vs k→k<w.heap.size:=fun k hk=>Qla h hD hk
 have h0:=h.below c;have x:=hD.below c;have C:PlIs w0 gl g:=(c.block _ (Qc hp)).trans hp;have c0:=Qd hp 0 rfl;have D:=Qc hp;have s:=zh c;have HE:=zh (hE.below c);have HL:=zh h0;have HD:=zh x;have B:=zh A;have HC:=zh (Quz f w0 g gd v ve vl vp vs d L h0 x (hE.below c) hlv hn hs hm hc hfl hkey);have HT:=zh (show Zr w0 w.heap.size 0 ⟨#[]⟩ by rw[n];exact Qc6 w);have y:=zh n;clear hp h hD hE hlv hs hm c A h0 x C n
 go_enter func75,ntmps75
 go_wp2_with fail
 rw[←y.o]
 go_at_call 126
 refine HC.o.mono ?_;intro e w1 h1;unfold Qf1 at h1;by_cases hf:L.failed=true
 ·rw[if_pos hf] at h1
  obtain⟨rfl,hb⟩:=h1;have t:=Qjo f w1 (HE.o.below hb).sents 6 (by decide) (by decide);rw[show ((Qcz 6:Nat):Int)=7 from rfl] at t;have HX:=zh t;clear t;have HB:=zh hb;have HF:=zh hf;clear hb hf
  go_wp2_with (go_at_call 87;refine HX.o.mono ?_;rintro e w2 ⟨rfl,b⟩;have i:=zh b;clear b;obtain⟨t0,t1,t2,t3,t4⟩:=((HT.o.below HB.o).below i.o).facts)
  refine bodyPost_ret (v:=.tuple #[.int .i64 0,Qaa 7 ⟨#[]⟩]) (by simp[results,results75,go_sem,t0,t1]) rfl ?_;unfold Qg2;rw[if_pos HF.o];have hz:w.heap.size≤w1.heap.size:=Nat.le_trans s.o.size HB.o.size;exact⟨rfl,(((s.o.trans (HB.o.mono s.o.size)).trans (i.o.mono hz)).setCell (Nat.le_refl _) _).setCell (Nat.le_refl _) _⟩
 ·rw[if_neg hf] at h1
  obtain⟨v',vp',Q,hQ,h2,h3,h4,h5,h6⟩:=h1;have HQ:=zh hQ;have H2:=zh h2;have H3:=zh h3;have H4:=zh h4;have H5:=zh h5;have HF:=zh hf;have z:=HE.o.step h4 h5;have q:=zh z;clear hQ h2 h3 h4 h5 hf z;rcases h6 with ⟨h7,rfl⟩|⟨p,r,u,m,h7,rfl,_,_,h8,h9⟩
  ·have H7:=zh h7
   have HX:=zh (Qvy f w1 q.o.sents);clear h7
   go_wp2_with (go_at_call 87;refine HX.o.mono ?_;rintro e w2 ⟨rfl,b⟩;have i:=zh b;clear b;obtain⟨j,l⟩:=Qwy (w3:=(w2.setCell ⟨w.heap.size,0,none⟩ (.int .i64 0)).setCell ⟨w.heap.size,1,none⟩ (.string ⟨#[]⟩)) y.o HL.o HD.o B.o H2.o H3.o H4.o H5.o i.o;have a:=zh (l 0 _ rfl);obtain⟨t0,t1,t2,t3,t4⟩:=j.facts;clear j l)
   refine bodyPost_ret (v:=.tuple #[.int .i64 L.entries.length,Qaa 0 ⟨#[]⟩]) (by simp[results,results75,go_sem,t0,t1]) rfl ?_;unfold Qg2;rw[if_neg HF.o];exact⟨v',vp',Q,HQ.o,a.o.1,a.o.2.1,a.o.2.2.1,a.o.2.2.2,.inl ⟨H7.o,rfl⟩⟩
  ·have H7:=zh h7
   have HX:=zh (Q62 f w1 q.o.sents q.o.errT r u p h9);clear h7 h8 h9
   go_wp2_with (go_at_call 87;refine HX.o.mono ?_;rintro e w2 ⟨rfl,b⟩;have i:=zh b;clear b;obtain⟨j,l⟩:=Qwy (w3:=(w2.setCell ⟨w.heap.size,0,none⟩ (.int .i64 8)).setCell ⟨w.heap.size,1,none⟩ (.string p)) y.o HL.o HD.o B.o H2.o H3.o H4.o H5.o i.o;have a:=zh (l 8 p rfl);obtain⟨t0,t1,t2,t3,t4⟩:=j.facts;clear j l)
   refine bodyPost_ret (v:=.tuple #[.int .i64 0,Qaa 8 p]) (by simp[results,results75,go_sem,t0,t1]) rfl ?_;unfold Qg2;rw[if_neg HF.o];exact⟨v',vp',Q,HQ.o,a.o.1,a.o.2.1,a.o.2.2.1,a.o.2.2.2,.inr ⟨p,H7.o,rfl⟩⟩
end
section
variable {w:World} {v:Value}
theorem Qy.same2 {w':World} {base:Nat} {l:List UInt8} (h:Qy w base v l) (hs:∀ (k:Nat) (C:Array Value) (fz:Nat×Nat),base≤k→w.heap[k]?=some (Obj.cells C 5 fz)→w'.heap[k]?=w.heap[k]?) (base':Nat) (hb:base'≤base):Qy w' base' v l:=by
 rcases h with h|⟨b,off,c,C,fz,h1,h0,h2,h3,h4⟩
 ·exact .inl h
 ·exact .inr ⟨b,off,c,C,fz,h1,h0,Nat.le_trans hb h2,(hs b C fz h2 h3).trans h3,h4⟩
theorem Qvf {b b':Nat} {e:TypeId} {size:Nat} {n:Nat} {xs ys:List Value} (h:w.ownsRow b e size v n xs) (k:w.ownsRow b' e size v n ys):xs=ys:=by
 rcases h.2 with ⟨rfl,h0⟩|⟨g,cap,cur,rfl,_,hg,_,_,_,ht⟩
 ·have h1:=h.1
  have k1:=k.1;subst h0;have e1:xs = []:=List.eq_nil_of_length_eq_zero (by simpa using h1);have e2:ys = []:=List.eq_nil_of_length_eq_zero (by simpa using k1);rw[e1,e2]
 ·rcases k.2 with ⟨e,_⟩|⟨g',cap',cur',e,_,a,_,_,_,c⟩
  ·cases e
  ·cases e
   rw[hg] at a;cases a;exact ht.symm.trans c
theorem Qy9 {w1 w2 w3:World} {g gd b1:Nat} {ve vl vp:Value} {vs:List Value} {L:Lg} {b:List UInt8} (h:Zq w g gd ve vl vp vs L) (hb:Below w.heap.size w w1) (ht:Took w1 g gd ve vl vp vs L b w2) (hf:Fr (·=b1) w2 w3) (hw:w.heap.size≤b1) (hb1:b1<w1.heap.size) (hk:Qa0 w2 (·=b1) [5]) :
  ∃ ve' vl' vs',Zq w3 g gd ve' vl' vp vs' { L with entries:=L.entries ++ [b],levels:=levels (L.entries ++ [b]) }∧Fr (LogS g ve vl vp vs) w w3∧Sub w (LogS g ve vl vp vs) (LogS g ve' vl' vp vs'):=by
 obtain⟨ve',vl',vs',p,u,d,c,v,r,z,hu⟩:=ht;have h1:=h.below hb;obtain⟨vsw,n,q⟩:=h.ents;have t:vsw=p:=Qvf (Ql n hb) r;subst t;have a:=d.rest hf 5 (fun k C s f hk' hc=>List.mem_singleton.1 (hk k C s f hk' hc));refine⟨ve',vl',vs',⟨(a.1 (by decide)).trans d.cells,?_,a.2.2.1 (by decide),a.2.2.2.1 (by decide),d.apart,a.2.2.2.2 (by decide)⟩,?_,v.mono hb.size⟩
 ·have o:w3.ownsRow 0 147 1 ve' (L.entries ++ [b]).length (vsw ++ [u]):=by rw[List.length_append,List.length_singleton];exact Zk z hf hk (by decide)
  refine⟨_,o,fun j x l hx hlj=>?_⟩;have B:vsw.length=L.entries.length:=by simpa using n.1
  rcases Nat.lt_or_ge j vsw.length with hj|hj
  ·rw[List.getElem?_append_left hj] at hx
   rw[List.getElem?_append_left (by omega)] at hlj;exact (q j x l hx hlj).same fun k C fz hkC=>by
    have A:=Qc hkC;have e1:=hb.block k A;have m:w1.heap[k]?=some (.cells C 5 fz):=e1.trans hkC;have e2:=c.block k (Qc m) fun hS=>h1.noBytes k C fz m hS
    have e3:=hf.block k (Nat.lt_of_lt_of_le (Qc m) c.size) (fun e=>by subst e;omega);exact e3.trans (e2.trans e1)
  ·rw[List.getElem?_append_right hj] at hx
   rw[List.getElem?_append_right (by omega)] at hlj;have y:j-vsw.length=0:=by
    rcases Nat.eq_zero_or_pos (j-vsw.length) with h0|h0
    ·exact h0
    ·rw[List.getElem?_eq_none (by simp;omega)] at hx;cases hx
   rw[y] at hx;rw[show j-L.entries.length=0 by omega] at hlj;cases hx;cases hlj;exact hu.same2 (fun k C fz hbk hkC=>hf.block k (Qc hkC) fun e=>by subst e;omega) 0 (Nat.zero_le _)
 ·exact ((Fr.ofBelow hb).trans c).step hf fun i hi e=>by subst e;omega
def Qim (w:World) (g gd:Nat) (ve vl vp:Value) (vs:List Value) (L:Lg) (b:List UInt8) (e:Ending) (w':World):Prop:=
 if 20<b.length then e=.returned (.tuple #[.int .i64 0,Qaa 1 ⟨#[]⟩])∧Below w.heap.size w w'
 else if L.failed=true then e=.returned (.tuple #[.int .i64 0,Qaa 7 ⟨#[]⟩])∧Below w.heap.size w w'
 else e=.returned (.tuple #[.int .i64 L.entries.length,Qaa 0 ⟨#[]⟩])∧∃ ve' vl' vs',Zq w' g gd ve' vl' vp vs' { L with entries:=L.entries ++ [b],levels:=levels (L.entries ++ [b]) }∧Fr (LogS g ve vl vp vs) w w'∧Sub w (LogS g ve vl vp vs) (LogS g ve' vl' vp vs')
theorem Qtj (f:Nat→Addr) (w:World) (gl g gd:Nat) (ve vl vp:Value) (vs:List Value) (L:Lg) (s:ByteArray) (hp:PlIs w gl g) (h:Zq w g gd ve vl vp vs L) (hE:EnvS f (LogS g ve vl vp vs) w) (hlv:L.levels=levels L.entries) (hn:L.entries.length<1048576) :
  Calls prog 81 #[.pointer (some ⟨gl,0,none⟩),.string s] w (Qim w g gd ve vl vp vs L s.data.toList):=by
 obtain⟨i0,hi,P,_,_⟩:=info_parts Qjs;have c0:=Qd hp 0 rfl;have ar:=Qc hp;have HE:=zh hE;have HL:=zh h;have HP:=zh hp;have av:=zh hlv;have hg:=Qc h.cells;obtain⟨w0,H⟩:∃ w0,w0=w.alloc (.cells #[.int .i64 0,.string ⟨#[]⟩] 63):=⟨_,rfl⟩
 have ap:=zh H;have N:=zh (show Below w.heap.size w w0 by rw[H];exact Qa w _);have am:=zh (show Zr w0 w.heap.size 0 ⟨#[]⟩ by rw[H];exact Qc6 w);have ay:w0.heap.size=w.heap.size+1:=by rw[H];simp
 have ah:=(N.o.cell (p:=⟨gl,0,none⟩) ar).trans c0;clear h hE hp hlv H
 go_enter func81,ntmps81
 go_upto_region 1 with fail
 rw[←ap.o]
 go_upto_region 2 with (first|(refine Qdz rfl 9 147 5 _ rfl underlying9 underlying147 underlying5 rfl s rfl ?_;intro u w1 hu ae aq au;obtain⟨b1,c1,rfl⟩:=au;have HU:=zh hu;have J:=zh ae;clear hu ae aq)|fail)
 have Q:=(HL.o.below N.o).below J.o;have U:=(HE.o.below N.o).below J.o;have ab:w0.heap.size≤b1∧b1<w1.heap.size∧∃ C fz,w1.heap[b1]?=some (.cells C 5 fz):=by
  rcases HU.o with ⟨e,_⟩|⟨b,off,c,C,fz,e,_,h2,h3,_⟩
  ·cases e
  ·cases e;exact⟨h2,Qc h3,C,fz,h3⟩
 have n:=zh ab;have ak:=zh (Qy0 f w1 g gd ve vl vp vs L Q _ s.data.toList (HU.o.mono (Nat.zero_le _)) hn av.o U.sents);have az:=zh U;have V:=zh Q;have B:=zh (N.o.trans (J.o.mono N.o.size));have a0:=(J.o.cell (p:=⟨gl,0,none⟩) (Qk ah)).trans ah;have R:=zh (am.o.below J.o);clear Q U ab
 go_wp2_with fail
 go_at_call 128
 refine ak.o.mono ?_;intro e w2 h2;unfold Qey at h2;have q:w.heap.size≤w1.heap.size:=B.o.size;by_cases hlong:20<s.data.toList.length
 ·rw[if_pos hlong] at h2
  obtain⟨rfl,d⟩:=h2;have K:=zh d;have M:=zh ((HU.o.mono (Nat.zero_le _)).below d);have I:=zh (R.o.below d);have E:=zh (show Qa0 w2 (·=b1) [5] from by obtain⟨_,_,C,fz,hC⟩:=n.o;exact Q5 ((d.block _ (Qc hC)).trans hC));have z:w.heap.size≤w2.heap.size:=Nat.le_trans q d.size;have r:=zh hlong;have l:=fun (w3:World) (hf:Fr (LogS g ve vl vp vs) w w3)=>Qjo f w3 (HE.o w3 hf).2.1 0 (by decide) (by decide)
  rw[show ((Qcz 0:Nat):Int)=1 from rfl] at l;have O:=zh l;have Y:w.heap.size≤b1:=Nat.le_trans (by omega) n.o.1;clear d hlong l
  go_wp2_with (first|(refine Qc8 rfl _ 147 rfl i0 underlying147 hi P 0 _ s.data.toList rfl M.o ?_;intro w3 n3 x A G;have a:=zh (Fr.ofGrown (S:=(·=b1)) x fun k _ e=>(Option.some.inj e).symm);have F:w.heap.size≤w3.heap.size:=Nat.le_trans z a.o.size;clear x A G)|(go_at_call 87;refine (O.o _ (((Fr.ofBelow (B.o.trans (K.o.mono q)))).step a.o fun i hi e=>by subst e;omega)).mono ?_;rintro e w4 ⟨rfl,j⟩;have D:=zh j;obtain⟨t0,t1,t2,t3,t4⟩:=((I.o.kept a.o E.o (by decide)).below j).facts;clear j)|fail)
  refine bodyPost_ret (v:=.tuple #[.int .i64 0,Qaa 1 ⟨#[]⟩]) (by simp[results,results81,go_sem,t0,t1]) rfl ?_;unfold Qim;rw[if_pos r.o];have aa:Below w.heap.size w w3:=(B.o.trans (K.o.mono q)).trans (a.o.below z fun k hk e=>by omega);exact⟨rfl,((aa.trans (D.o.mono F)).setCell (Nat.le_refl _) _).setCell (Nat.le_refl _) _⟩
 ·rw[if_neg hlong] at h2
  by_cases hfd:L.failed=true
  ·rw[if_pos hfd] at h2
   obtain⟨rfl,d⟩:=h2;have K:=zh d;have M:=zh ((HU.o.mono (Nat.zero_le _)).below d);have I:=zh (R.o.below d);have E:=zh (show Qa0 w2 (·=b1) [5] from by obtain⟨_,_,C,fz,hC⟩:=n.o;exact Q5 ((d.block _ (Qc hC)).trans hC));have z:w.heap.size≤w2.heap.size:=Nat.le_trans q d.size;have r:=zh hlong;have T:=zh hfd;have l:=fun (w3:World) (hf:Fr (LogS g ve vl vp vs) w w3)=>Qjo f w3 (HE.o w3 hf).2.1 6 (by decide) (by decide)
   rw[show ((Qcz 6:Nat):Int)=7 from rfl] at l;have O:=zh l;have Y:w.heap.size≤b1:=Nat.le_trans (by omega) n.o.1;clear d hlong l hfd
   go_wp2_with (first|(refine Qc8 rfl _ 147 rfl i0 underlying147 hi P 0 _ s.data.toList rfl M.o ?_;intro w3 n3 x A G;have a:=zh (Fr.ofGrown (S:=(·=b1)) x fun k _ e=>(Option.some.inj e).symm);have F:w.heap.size≤w3.heap.size:=Nat.le_trans z a.o.size;clear x A G)|(go_at_call 87;refine (O.o _ (((Fr.ofBelow (B.o.trans (K.o.mono q)))).step a.o fun i hi e=>by subst e;omega)).mono ?_;rintro e w4 ⟨rfl,j⟩;have D:=zh j;obtain⟨t0,t1,t2,t3,t4⟩:=((I.o.kept a.o E.o (by decide)).below j).facts;clear j)|fail)
   refine bodyPost_ret (v:=.tuple #[.int .i64 0,Qaa 7 ⟨#[]⟩]) (by simp[results,results81,go_sem,t0,t1]) rfl ?_;unfold Qim;rw[if_neg r.o,if_pos T.o];have aa:Below w.heap.size w w3:=(B.o.trans (K.o.mono q)).trans (a.o.below z fun k hk e=>by omega);exact⟨rfl,((aa.trans (D.o.mono F)).setCell (Nat.le_refl _) _).setCell (Nat.le_refl _) _⟩
  ·rw[if_neg hfd] at h2
   obtain⟨rfl,ad⟩:=h2;obtain⟨ao,al,aj,aw,u2,af,y,ai,X,Z,ag⟩:=ad;have an:=zh (show Took w1 g gd ve vl vp vs L s.data.toList w2 from ⟨ao,al,aj,aw,u2,af,y,ai,X,Z,ag⟩);have ax:=zh y;have M:=zh ((HU.o.mono (Nat.zero_le _)).same fun k C fz hk=>y.block k (Qc hk) fun hS=>V.o.noBytes k C fz hk hS);have I:=zh (R.o.kept y (Qga V.o) (by decide));have E:=zh (show Qa0 w2 (·=b1) [5] from by obtain⟨_,_,C,fz,hC⟩:=n.o;exact Q5 (y.heap hC (fun hS=>V.o.noBytes _ C fz hC hS)));have z:w.heap.size≤w2.heap.size:=Nat.le_trans q y.size;have r:=zh hlong;have T:=zh hfd;have l:=fun (w3:World) (hf:Fr (LogS g ve vl vp vs) w w3)=>Qvy f w3 (HE.o w3 hf).2.1
   have O:=zh l;have Y:w.heap.size≤b1:=Nat.le_trans (by omega) n.o.1;have ac:=n.o.2.1;clear af y ai X Z ag hlong l hfd
   go_wp2_with (first|(refine Qc8 rfl _ 147 rfl i0 underlying147 hi P 0 _ s.data.toList rfl M.o ?_;intro w3 n3 x A G;have a:=zh (Fr.ofGrown (S:=(·=b1)) x fun k _ e=>(Option.some.inj e).symm);have F:w.heap.size≤w3.heap.size:=Nat.le_trans z a.o.size;clear x A G)|(go_at_call 87;refine (O.o _ (((Fr.ofBelow B.o).trans ax.o).step a.o fun i hi e=>by subst e;omega)).mono ?_;rintro e w4 ⟨rfl,j⟩;have D:=zh j;have W:=zh ((I.o.kept a.o E.o (by decide)).below j);obtain⟨t0,t1,t2,t3,t4⟩:=W.o.facts;clear j)|fail)
   refine bodyPost_ret (v:=.tuple #[.int .i64 L.entries.length,Qaa 0 ⟨#[]⟩]) (by simp[results,results81,go_sem,t0,t1]) rfl ?_;unfold Qim;rw[if_neg r.o,if_neg T.o];obtain⟨ve',vl',vs',k1,k2,k3⟩:=Qy9 HL.o B.o an.o a.o Y ac E.o;have ts:=Qc2 (m:=0) (t:=⟨#[]⟩) W.o;refine⟨rfl,ve',vl',vs',(k1.below D.o).kept ts.2 (Q5 W.o) (by decide) (by decide),?_,k3⟩;exact (k2.trans (Fr.ofBelow D.o)).step ts.2 fun i hi e=>by subst e;omega
end
section
variable {p:Pl} {m:Wm}
theorem Q0q (hm:m.l.isSome=true) {k:Nat} (h:LogS p.g p.ve p.vl p.vp p.vs k):WdS p m k:=.inr (.inr (.inr ⟨hm,.inr h⟩))
variable {w:World}
theorem WdIs.logStep {w':World} {L L':Lg} (h:WdIs w p m) (hL:m.l=some L) {ve' vl' vp':Value} {vs':List Value} (hl:Zq w' p.g p.gd ve' vl' vp' vs' L') (hf:Fr (LogS p.g p.ve p.vl p.vp p.vs) w w') :
  WdIs w' { p with ve:=ve',vl:=vl',vp:=vp',vs:=vs' } { m with l:=some L' }:=by
 have hk:=Qga (h.log L hL).2;refine⟨?_,h.disk.kept hf hk (by decide) (by decide),Zk h.ents hf hk (by decide),fun L2 hL2=>?_⟩
 ·have h1:=Zl h.cells hf hk (by decide)
  rw[h1];unfold Qdp;rw[hL];rfl
 ·cases hL2
  exact⟨Zl (h.log L hL).1 hf hk (by decide),hl⟩
theorem WdIs.entStep {w2:World} (h:WdIs w p m) (hf:Fr (fun k=>p.en.ownBlock=some k) w w2) {v':Value} {es':List ByteArray} (he:Q0 w2 0 v' es'):WdIs (w2.setCell ⟨p.gw,3,none⟩ v') { p with en:=v' } { m with es:=es' }:=by
 have hk:=Qd4 h.ents;have hc:=Zl h.cells hf hk (by decide);have hs:=Fr.set1 w2 p.gw 3 v';have a:=Q5 hc;exact⟨(heap_setCell hc _).trans (by simp[Qdp,plV]),(h.disk.kept hf hk (by decide) (by decide)).kept hs a (by decide) (by decide),Zk he hs a (by decide),
  fun L hL=>⟨Zl (Zl (h.log L hL).1 hf hk (by decide)) hs a (by decide),((h.log L hL).2.kept hf hk (by decide) (by decide)).kept hs a (by decide) (by decide)⟩⟩
theorem Qzg (f:Nat→Addr) (w:World) (p:Pl) (m:Wm) (L:Lg) (s:ByteArray) (U:List Nat) (K:Nat) (h:WdIs w p m) (hG:Good m U K) (hL:m.l=some L) (hfo:m.foreign=false) (hE:EnvS f (WdS p m) w) (hU:U.length≤16384) (hes:m.es.length<1048576) :
  Calls prog 23 #[.pointer (some ⟨p.gw,0,none⟩),.string s] w (Qsb (AppQ m L s) w p m (L.entries.length / 4 :: U) K):=by
 have b:m.l.isSome=true:=by rw[hL];rfl
 obtain⟨hr,ag,d,V,N,ae⟩:=hG.run L hL;obtain⟨R,u⟩:=h.log L hL;have T:L.entries.length=m.es.length:=by rw[d];simp[lists]
 obtain⟨⟨c0,c1,c2,c3,c4,c5,c6⟩,cf⟩:=h.heads;rw[hL] at c2;have v:w.cell? ⟨p.gw,2,none⟩=some (.pointer (some ⟨p.gl,0,none⟩)):=c2;have HA:=zh (Qtj f w p.gl p.g p.gd p.ve p.vl p.vp p.vs L s R u (hE.less fun k hk=>Q0q b hk) V (by omega));have HH:=zh h;have HG:=zh hG;have HL:=zh hL;have B:=zh hfo;have ah:=zh T;have M:=zh N;have aa:=Qk c0;have ak:p.gw<w.heap.size:=aa;clear h hG hE hL hfo hr ag d V ae R u T c2 N
 go_enter func23,ntmps23
 go_wp2_with fail
 go_at_call 81
 refine HA.o.mono ?_;intro e w1 h1;unfold Qim at h1;have E:s.data.toList.length=s.size:=by simp
 by_cases hlong:20<s.data.toList.length
 ·rw[if_pos hlong] at h1
  obtain⟨rfl,a⟩:=h1;have z:=zh a;have hz:(20:Int)<(s.size:Int):=by omega
  have H1:=zh (HH.o.below a);have A:=a.size;clear a E hlong c0 c1 v c3 c4 c5 c6 cf;go_wp2;go_ret;exact⟨rfl,p,m,rfl,rfl,H1.o.below (Qa w1 _),.inr ⟨B.o,HG.o.more _ (Nat.le_refl _)⟩,Fr.ofBelow (z.o.trans ((Qa w1 _).mono A)),Sub.refl _ _,rfl,.inl ⟨by omega,rfl⟩⟩
 ·rw[if_neg hlong] at h1
  have hz:¬ (20:Int)<(s.size:Int):=by omega
  by_cases hfail:L.failed=true
  ·rw[if_pos hfail] at h1
   obtain⟨rfl,a⟩:=h1;have z:=zh a;have H1:=zh (HH.o.below a);have A:=a.size;obtain⟨⟨_,_,_,_,_,q5,_⟩,_⟩:=H1.o.heads;have c:m.failed=true:=by rw[←M.o];exact hfail
   have ad:=zh hfail;rw[c] at q5;have Y:=Qk q5;clear a E hlong c0 c1 v c3 c4 c5 c6 cf hfail c;go_wp2;go_ret;exact⟨rfl,p,m,rfl,rfl,H1.o.below (Qa w1 _),.inr ⟨B.o,HG.o.more _ (Nat.le_refl _)⟩,Fr.ofBelow (z.o.trans ((Qa w1 _).mono A)),Sub.refl _ _,rfl,.inr (.inl ⟨ad.o,rfl⟩)⟩
  ·rw[if_neg hfail] at h1
   obtain⟨rfl,ve',vl',vs',k1,k2,k3⟩:=h1;have W:L.failed=false:=by simpa using hfail
   have c:m.failed=false:=by rw[←M.o];exact W
   have h1:=HH.o.logStep HL.o k1 k2;have h2:=h1.below (Qa w1 (.cells #[.int .i64 0,.string ⟨#[]⟩] 63));obtain⟨⟨_,_,_,q3,_,q5,_⟩,qf⟩:=h1.heads;dsimp only at q3 q5;rw[c] at q5;have Y:p.gw<w1.heap.size:=Qk q5;obtain⟨ea,ec,d⟩:=Zi HH.o.ents;have j:=h2.ents;dsimp only at j;obtain⟨i0,I,H,P,F⟩:=info_parts Qb5;have HI:=zh (⟨I,H,P,F⟩:_∧_∧_∧_);have H1:=zh h1;have H2:=zh h2;have K1:=zh k1;have K2:=zh k2;have K3:=zh k3;have ac:=zh c;obtain⟨ln,n⟩:∃ ln,ln=m.es.length:=⟨_,rfl⟩
   have q:=zh n;rw[d] at q3 j;rw[←n] at q3;have r:(w1.alloc (.cells #[.int .i64 0,.string ⟨#[]⟩] 63)).ownsRow 0 9 1 (.slice ea ln ec) ln (m.es.map Value.string):=by rw[n];exact j
   have ab:=zh r;have y:=zh d;have D:L.entries.length=ln:=by rw[n];exact ah.o
   have an:((L.entries.length:Int) == (ln:Int))=true:=by rw[D];exact beq_self_eq_true _
   have X:ln+1≤1099511627776:=by omega
   have al:=zh D;have ai:w.heap.size≤w1.heap.size:=k2.size;have Q:¬ p.en.ownBlock=some p.gw:=fun e=>by obtain⟨C,hC⟩:=Qe HH.o.ents e;exact Zp hC HH.o.cells (by decide) rfl
   have O:¬ p.en.ownBlock=some w1.heap.size:=fun e=>by
    obtain⟨C,hC⟩:=Qe HH.o.ents e
    have:=Qc hC
    omega
   have J:=zh Q;have af:=zh O;have t:=h2.heads.1.2.2.2.1;have qfa:=h2.heads.2;dsimp only at t;rw[y.o,←q.o] at t;have x:=Qk t;clear E hlong hfail h1 h2 k1 k2 k3 c W d j r n I H P F D c0 c1 v c3 c4 c5 c6 cf hes Q O
   go_wp2_with (at_builtin;go_must (refine Yr rfl _ _ _ rfl 0 9 i0 _ 1 16 underlying22 HI.o.1 HI.o.2.1 HI.o.2.2.1 HI.o.2.2.2 rfl (by decide) (by decide) (.slice ea ln ec) ln _ rfl (Ql ab.o (Qa _ _)) ⟨w1.heap.size+1,0,none⟩ 1 1 [.string s] rfl rfl (by have:=cell_one_new (w1.alloc (.cells #[.int .i64 0,.string ⟨#[]⟩] 63)) (.string s) 9;simpa using this) (by simp[Value.oneCell']) (by decide) X (Nat.zero_le _) ?_;intro v' w' g2 g3 g4 g5;have G2:=zh g2;have G3:=zh (Fr.ofGrown (S:=fun k=>p.en.ownBlock=some k) g3 fun k _ e=>by rw[y.o,←q.o];exact e);have G4:=zh g4;obtain⟨gb,cpb,rfl,am⟩:=Jm g2 g5;have m0:=G3.o.cell (p:=⟨p.gw,3,none⟩) (((Qa (w1.alloc (.cells #[.int .i64 0,.string ⟨#[]⟩] 63)) _).cell (p:=⟨p.gw,3,none⟩) x).trans t) J.o;have m1:=(G3.o.frozen (p:=⟨p.gw,3,none⟩) (by simp;omega) J.o).trans (((Qa (w1.alloc (.cells #[.int .i64 0,.string ⟨#[]⟩] 63)) _).frozen (p:=⟨p.gw,3,none⟩) x).trans (qfa 3));have mt:=G3.o.cell (p:=⟨w1.heap.size,0,none⟩) (((Qa (w1.alloc (.cells #[.int .i64 0,.string ⟨#[]⟩] 63)) _).cell (p:=⟨w1.heap.size,0,none⟩) (by simp)).trans (Qd (Qc6 w1) 0 rfl)) af.o;have aj:¬ w1.heap.size=p.gw:=(by omega);clear g2 g3 g4 g5))
   go_ret;have hstep:=H2.o.below (Qa _ (.cells #[.string s] 9));have G:Q0 w' 0 (.slice (some ⟨gb,0,none⟩) (ln+1) cpb) (m.es ++ [s]):=by
    have:=G2.o
    unfold Q0;rw[List.length_append,List.length_singleton,List.map_append,←q.o];exact this
   have Z:=hstep.entStep G3.o G;refine⟨rfl,{ p with en:=.slice (some ⟨gb,0,none⟩) (ln+1) cpb,ve:=ve',vl:=vl',vs:=vs' },{ m with l:=some { L with entries:=L.entries ++ [s.data.toList],levels:=levels (L.entries ++ [s.data.toList]) },es:=m.es ++ [s] },rfl,rfl,Z,.inr ⟨B.o,Qt2 HG.o HL.o ac.o (by omega)⟩,?_,?_,rfl,.inr (.inr ⟨by omega,rfl⟩)⟩
   ·have hb:Below w1.heap.size w1 ((w1.alloc (.cells #[.int .i64 0,.string ⟨#[]⟩] 63)).alloc (.cells #[.string s] 9)):=(Qa w1 _).alloc (by simp) _
    exact (K2.o.weak fun _ _ e=>Q0q b e).trans ((Fr.ofBelow hb).trans ((G3.o.weak fun _ _ e=>.inr (.inr (.inl e))).trans ((Fr.set1 w' p.gw 3 _).weak fun _ _ e=>.inl e)))
   ·intro i hi
    rcases hi with hi|hi|hi|⟨_,hi|hi⟩
    ·exact .inl (.inl hi)
    ·exact .inl (.inr (.inl hi))
    ·rcases G4.o i hi with e|e
     ·exact .inl (.inr (.inr (.inl (by rw[y.o,←q.o];exact e))))
     ·exact .inr (by simp at e;omega)
    ·exact .inl (.inr (.inr (.inr ⟨b,.inl hi⟩)))
    ·rcases K3.o i hi with e|e
     ·exact .inl (Q0q b e)
     ·exact .inr e
end
section
variable {a b:ByteArray}
theorem Qf5 (h:a≠b):(!a.toList == b.toList)=true:=by rw[Y9 h];rfl
theorem Jq (h:a=b):(!a.toList == b.toList)=false:=by rw[Jp h];rfl
theorem Q9a:(⟨#[99,104,101,99,107,112,111,105,110,116]⟩:ByteArray)=sOf kCp:=by decide
theorem Qwg (h:a=sOf kCp):(!a.toList == (⟨#[99,104,101,99,107,112,111,105,110,116]⟩:ByteArray).toList)=false:=Jq (by rw[Q9a];exact h)
theorem Qqh (h:a=sOf kCp):(!a.toList == [99,104,101,99,107,112,111,105,110,116])=false:=by
 have:=Qwg h
 rw[show (⟨#[99,104,101,99,107,112,111,105,110,116]⟩:ByteArray).toList = [99,104,101,99,107,112,111,105,110,116] by rw[ByteArray.toList_eq]] at this;exact this
theorem Q2o (w:World) (va vb:Value) (l k:List Fil) (ha:Jv w va l) (hb:Jv w vb k) (hn:l.length≤1099511627776) (hm:k.length≤1099511627776) :
  Calls prog 78 #[va,vb] w fun e w'=>e=.returned (.bool (Qf8 l k))∧Below w.heap.size w w':=by
 have HA:=zh ha;have HB:=zh hb;obtain⟨a1,c1,rfl,_,hx⟩:=ha;obtain⟨a2,c2,rfl,_,hy⟩:=hb;have HX:=zh hx;have HY:=zh hy;clear hx hy
 go_enter func78,ntmps78
 go_wp2
 go_loopg [5] k.length (fun gg s5 wr=>∃ kk:Nat,kk≤k.length∧k.length-kk≤gg∧s5=.int .i64 kk∧Aside (Below w.heap.size w wr)∧Aside (∀ j,j<kk→∀ y,k[j]?=some y→Qbv l y.1 y.2=false))
 case atStart=>
  refine⟨0,Nat.zero_le _,by omega,rfl,Below.refl _ _,?_⟩;show ∀ j,j<0→_;intro j hj;omega
 case round=>
  obtain⟨kk,r,hg,rfl,HW,HM⟩:=hrel;by_cases hlt:kk<k.length
  ·obtain⟨x,hx⟩:∃ x,x=k[kk]:=⟨_,rfl⟩
   have d:k[kk]?=some x:=by rw[hx,List.getElem?_eq_getElem hlt]
   obtain⟨b2,p,rfl,q1,q2⟩:=HY.o kk x d;have q1:=(HW.o.cell (Qk q1)).trans q1;have q2:=(HW.o.cell (Qk q2)).trans q2;have h:(kk:Int)<(k.length:Int):=by omega
   have q:(0:Int)≤(kk:Int):=by omega
   have g:=zh d;have a:=Yf wr _ l x.1 (HA.o.below HW.o) hn;rcases Qaj l x.1 with ⟨h1,h2⟩|⟨i,b,hi,h1,h2,h3⟩
   ·rw[h1] at a
    have c:=zh a;have HG:=zh h2;clear hx d a h1 h2
    go_wp2_with (go_at_call 27;refine c.o.mono ?_;rintro e w2 ⟨rfl,rfl⟩)
    have hd:decide ((-1:Int)≥0)=false:=rfl
    go_quiet (fail)
    go_wp2
    go_roundg (k.length-(kk+1))
    case measure=>omega
    case rel=>
     refine⟨kk+1,by omega,by omega,by go_num,Ze HW.o _,?_⟩;show ∀ j,j<kk+1→_;intro j hj y hy;by_cases hjk:j=kk
     ·subst hjk
      rw[g.o] at hy;cases hy;unfold Qbv;rw[HG.o]
     ·exact HM.o j (by omega) y hy
   ·rw[h1] at a
    obtain⟨b1,n,rfl,p1,p2⟩:=HX.o i _ h2;have p2:=(HW.o.cell (Qk p2)).trans p2;have c:=zh a;have HG:=zh h3;have m:(0:Int)≤(i:Int):=by omega
    have s:(i:Int)<(l.length:Int):=by omega
    have hd:decide ((i:Int)≥0)=true:=decide_eq_true m;clear hx d a h1 h2 h3 p1;by_cases he:b=x.2
    ·have e:=Jq he
     have HE:=zh he;clear he
     go_wp2_with (go_at_call 27;refine c.o.mono ?_;rintro e w2 ⟨rfl,rfl⟩)
     go_quiet (fail)
     go_wp2
     go_roundg (k.length-(kk+1))
     case measure=>omega
     case rel=>
      refine⟨kk+1,by omega,by omega,by go_num,Ze HW.o _,?_⟩;show ∀ j,j<kk+1→_;intro j hj y hy;by_cases hjk:j=kk
      ·subst hjk
       rw[g.o] at hy;cases hy;unfold Qbv;rw[HG.o,HE.o];simp
      ·exact HM.o j (by omega) y hy
    ·have e:=Qf5 he
     have HE:=zh he;clear he
     go_wp2_with (go_at_call 27;refine c.o.mono ?_;rintro e w2 ⟨rfl,rfl⟩)
     go_quiet (fail)
     go_wp2;go_ret;refine⟨Qbk ?_,Ze HW.o _⟩
     have:Qf8 l k=true:=List.any_eq_true.2 ⟨x,List.mem_of_getElem? g.o,by unfold Qbv;rw[HG.o];simpa using HE.o⟩
     rw[this];rfl
  ·have h:¬ (kk:Int)<(k.length:Int):=by omega
   go_wp2;go_ret;refine⟨Qbk ?_,HW.o⟩
   have:Qf8 l k=false:=List.any_eq_false.2 fun f hf=>by
    obtain⟨j,hj⟩:=List.mem_iff_getElem?.1 hf
    have:=HM.o j (by have:=(List.getElem?_eq_some_iff.1 hj).1;omega) f hj
    simp[this]
   rw[this];rfl
theorem Q20 (w:World) (va vb:Value) (l k:List Fil) (ha:Jv w va l) (hb:Jv w vb k) (hn:l.length≤1099511627776) (hm:k.length≤1099511627776) (hall:∀ f∈k,getF l f.1=some f.2) :
  Calls prog 80 #[va,vb] w fun e w'=>e=.returned (.bool true)∧Below w.heap.size w w':=by
 have HA:=zh ha;have HB:=zh hb;have j:=zh hall;obtain⟨a1,c1,rfl,_,hx⟩:=ha;obtain⟨a2,c2,rfl,_,hy⟩:=hb;have HX:=zh hx;have HY:=zh hy;clear hx hy hall
 go_enter func80,ntmps80
 go_wp2
 go_loopg [5] k.length (fun gg s5 wr=>∃ kk:Nat,kk≤k.length∧k.length-kk≤gg∧s5=.int .i64 kk∧Aside (Below w.heap.size w wr))
 case atStart=>exact⟨0,Nat.zero_le _,by omega,rfl,Below.refl _ _⟩
 case round=>
  obtain⟨kk,q,hg,rfl,HW⟩:=hrel;by_cases hlt:kk<k.length
  ·obtain⟨x,hx⟩:∃ x,x=k[kk]:=⟨_,rfl⟩
   have d:k[kk]?=some x:=by rw[hx,List.getElem?_eq_getElem hlt]
   obtain⟨b2,n,rfl,q1,q2⟩:=HY.o kk x d;have q1:=(HW.o.cell (Qk q1)).trans q1;have q2:=(HW.o.cell (Qk q2)).trans q2;have g:(kk:Int)<(k.length:Int):=by omega
   have p:(0:Int)≤(kk:Int):=by omega
   have c:=j.o x (List.mem_of_getElem? d);have a:=Yf wr _ l x.1 (HA.o.below HW.o) hn;rcases Qaj l x.1 with ⟨h1,h2⟩|⟨i,b,hi,h1,h2,h3⟩
   ·rw[h2] at c;cases c
   ·rw[h3] at c
    cases c;rw[h1] at a;obtain⟨b1,m,rfl,p1,p2⟩:=HX.o i _ h2;have p2:=(HW.o.cell (Qk p2)).trans p2;have h:=zh a;have s:(0:Int)≤(i:Int):=by omega
    have r:(i:Int)<(l.length:Int):=by omega
    have hd:decide ((i:Int)<0)=false:=decide_eq_false (by omega);have e:=Jq (rfl:x.2=x.2);clear hx d a h1 h2 h3 p1
    go_wp2_with (go_at_call 27;refine h.o.mono ?_;rintro e w2 ⟨rfl,rfl⟩)
    go_quiet (fail)
    go_wp2
    go_roundg (k.length-(kk+1))
    case measure=>omega
    case rel=>exact⟨kk+1,by omega,by omega,by go_num,Ze HW.o _⟩
  ·have g:¬ (kk:Int)<(k.length:Int):=by omega
   go_wp2;go_ret;exact⟨rfl,HW.o⟩
theorem Qwe (w:World) (va vb vc:Value) (l k W:List Fil) (c:ByteArray) (ha:Jv w va l) (hb:Jv w vb k) (hc:Jv w vc W) (hn:l.length≤1099511627776) (hm:k.length≤1099511627776) (hp:W.length≤1099511627776)
  (hk:Qsf l k W c) (hol:Once l) (hok:Once k) (hoW:Qvh W) :
  Calls prog 79 #[va,vb,vc,.string c] w fun e w'=>e=.returned (.bool true)∧Below w.heap.size w w':=by
 have HA:=zh ha;have HB:=zh hb;have HC:=zh hc;have z:=zh (fun f hf=>Q4g hk hol (f:=f) hf);have A:=zh (fun f hf=>Q4c hk hok hoW (f:=f) hf);obtain⟨a1,c1,rfl,_,hx⟩:=ha;obtain⟨a2,c2,rfl,_,hy⟩:=hb;obtain⟨a3,c3,rfl,_,hz⟩:=hc;have HX:=zh hx;have HY:=zh hy;have HZ:=zh hz;clear hx hy hz hk hol hok hoW
 go_enter func79,ntmps79
 go_wp2
 go_loopg [9] l.length (fun gg s9 wr=>∃ kk:Nat,kk≤l.length∧l.length-kk≤gg∧s9=.int .i64 kk∧Aside (Below w.heap.size w wr))
 case atStart=>exact⟨0,Nat.zero_le _,by omega,rfl,Below.refl _ _⟩
 case round=>
  obtain⟨kk,H,hg,rfl,HW⟩:=hrel;by_cases hlt:kk<l.length
  ·obtain⟨x,hx⟩:∃ x,x=l[kk]:=⟨_,rfl⟩
   have n:l[kk]?=some x:=by rw[hx,List.getElem?_eq_getElem hlt]
   obtain⟨b1,B,rfl,q1,q2⟩:=HX.o kk x n;have q1:=(HW.o.cell (Qk q1)).trans q1;have q2:=(HW.o.cell (Qk q2)).trans q2;have r:(kk:Int)<(l.length:Int):=by omega
   have u:(0:Int)≤(kk:Int):=by omega
   obtain⟨b,s,j⟩:=z.o x (List.mem_of_getElem? n);have a:=Yf wr _ k x.1 (HB.o.below HW.o) hm;rcases Qaj k x.1 with ⟨h1,h2⟩|⟨i,b',hi,h1,h2,h3⟩
   ·rw[h2] at s;cases s
   ·rw[h3] at s
    cases s;rw[h1] at a;obtain⟨b2,t,rfl,p1,p2⟩:=HY.o i _ h2;have p2:=(HW.o.cell (Qk p2)).trans p2;have g:=zh a;have y:(0:Int)≤(i:Int):=by omega
    have v:(i:Int)<(k.length:Int):=by omega
    have hd:decide ((i:Int)<0)=false:=decide_eq_false (by omega);clear hx n a h1 h2 h3 p1;by_cases he:b=x.2
    ·have e:=Jq he
     clear he j
     go_wp2_with (go_at_call 27;refine g.o.mono ?_;rintro e w2 ⟨rfl,rfl⟩)
     go_quiet (fail)
     go_wp2
     go_roundg (l.length-(kk+1))
     case measure=>omega
     case rel=>exact⟨kk+1,by omega,by omega,by go_num,Ze HW.o _⟩
    ·have e:=Qf5 he
     obtain⟨m,q⟩:x.1=sOf kCp∧b=c:=by
      rcases j with h|h
      ·exact absurd h he
      ·exact h
     have e2:=Jq q;have e3:=Qwg m;have e4:=Qqh m;clear he j m q
     go_wp2_with (go_at_call 27;refine g.o.mono ?_;rintro e w2 ⟨rfl,rfl⟩)
     go_quiet (fail)
     go_wp2
     go_roundg (l.length-(kk+1))
     case measure=>omega
     case rel=>exact⟨kk+1,by omega,by omega,by go_num,Ze HW.o _⟩
  ·have r:¬ (kk:Int)<(l.length:Int):=by omega
   go_wp2
   go_loopg [11] k.length (fun gg s11 wx=>∃ kk:Nat,kk≤k.length∧k.length-kk≤gg∧s11=.int .i64 kk∧Aside (Below w.heap.size w wx))
   case atStart=>exact⟨0,Nat.zero_le _,by omega,rfl,HW.o⟩
   case round=>
    obtain⟨kx,F,G,rfl,HV⟩:=hrel;by_cases hlt:kx<k.length
    ·obtain⟨x,hx⟩:∃ x,x=k[kx]:=⟨_,rfl⟩
     have n:k[kx]?=some x:=by rw[hx,List.getElem?_eq_getElem hlt]
     obtain⟨b2,t,rfl,q1,q2⟩:=HY.o kx x n;have q1:=(HV.o.cell (Qk q1)).trans q1;have q2:=(HV.o.cell (Qk q2)).trans q2;have r:(kx:Int)<(k.length:Int):=by omega
     have u:(0:Int)≤(kx:Int):=by omega
     have j:=A.o x (List.mem_of_getElem? n);have a:=Yf wr _ l x.1 (HA.o.below HV.o) hn;have d:=Yf wr _ W x.1 (HC.o.below HV.o) hp;rcases Qaj l x.1 with ⟨h1,h2⟩|⟨i,b',hi,h1,h2,h3⟩
     ·have j:getF W x.1=some x.2∨(x.1=sOf kCp∧x.2=c):=by
       rcases j with h|h
       ·exact absurd h2 h
       ·exact h
      have hd:decide ((-1:Int)<0)=true:=rfl;rw[h1] at a;rcases Qaj W x.1 with ⟨j1,j2⟩|⟨i2,b3,I,j1,j2,j3⟩
      ·obtain⟨m,q⟩:x.1=sOf kCp∧x.2=c:=by
        rcases j with h|h
        ·rw[j2] at h;cases h
        ·exact h
       rw[j1] at d;have g:=zh a;have p:=zh d;have e2:=Jq q;have e3:=Qwg m;have e4:=Qqh m;clear hx n a d h1 h2 j1 j2 j m q
       go_upto_region 11 with (go_at_call 27;refine g.o.mono ?_;rintro e w2 ⟨rfl,rfl⟩)
       go_upto_region 12 with (go_at_call 27;refine p.o.mono ?_;rintro e w2 ⟨rfl,rfl⟩)
       go_quiet (fail)
       go_wp2
       go_roundg (k.length-(kx+1))
       case measure=>omega
       case rel=>exact⟨kx+1,by omega,by omega,by go_num,Ze HV.o _⟩
      ·rw[j1] at d
       obtain⟨E,C,rfl,r1,r2⟩:=HZ.o i2 _ j2;have r2:=(HV.o.cell (Qk r2)).trans r2;have g:=zh a;have p:=zh d;have y:(0:Int)≤(i2:Int):=by omega
       have v:(i2:Int)<(W.length:Int):=by omega
       have D:decide ((i2:Int)<0)=false:=decide_eq_false (by omega);by_cases he:x.2=b3
       ·have e:=Jq he
        clear hx n a d h1 h2 j1 j2 j3 j he r1
        go_upto_region 11 with (go_at_call 27;refine g.o.mono ?_;rintro e w2 ⟨rfl,rfl⟩)
        go_upto_region 12 with (go_at_call 27;refine p.o.mono ?_;rintro e w2 ⟨rfl,rfl⟩)
        go_quiet (fail)
        go_wp2
        go_roundg (k.length-(kx+1))
        case measure=>omega
        case rel=>exact⟨kx+1,by omega,by omega,by go_num,Ze HV.o _⟩
       ·obtain⟨m,q⟩:x.1=sOf kCp∧x.2=c:=by
         rcases j with h|h
         ·rw[j3] at h
          cases h;exact absurd rfl he
         ·exact h
        have e:=Qf5 he;have e2:=Jq q;have e3:=Qwg m;have e4:=Qqh m;clear hx n a d h1 h2 j1 j2 j3 j he r1 m q
        go_upto_region 11 with (go_at_call 27;refine g.o.mono ?_;rintro e w2 ⟨rfl,rfl⟩)
        go_upto_region 12 with (go_at_call 27;refine p.o.mono ?_;rintro e w2 ⟨rfl,rfl⟩)
        go_quiet (fail)
        go_wp2
        go_roundg (k.length-(kx+1))
        case measure=>omega
        case rel=>exact⟨kx+1,by omega,by omega,by go_num,Ze HV.o _⟩
     ·rw[h1] at a
      have g:=zh a;have p:=zh d;have hd:decide ((i:Int)<0)=false:=decide_eq_false (by omega);clear hx n a d h1 h2 h3 j
      go_upto_region 11 with (go_at_call 27;refine g.o.mono ?_;rintro e w2 ⟨rfl,rfl⟩)
      go_upto_region 12 with (go_at_call 27;refine p.o.mono ?_;rintro e w2 ⟨rfl,rfl⟩)
      go_quiet (fail)
      go_wp2
      go_roundg (k.length-(kx+1))
      case measure=>omega
      case rel=>exact⟨kx+1,by omega,by omega,by go_num,Ze HV.o _⟩
    ·have r:¬ (kx:Int)<(k.length:Int):=by omega
     go_wp2;go_ret;exact⟨rfl,HV.o⟩
end
end Go.Proofs.YtefccfakhgdfbaaGreatDoor
