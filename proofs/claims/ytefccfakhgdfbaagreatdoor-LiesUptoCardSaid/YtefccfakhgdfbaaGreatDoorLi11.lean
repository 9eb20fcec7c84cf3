/- The walk of tiles' Client.Read. Conditions: the block is a client's over a Net; no step of the question goes out of its bounds. -/
import Derived.Test.YtefccfakhgdfbaaGreatDoorLi10
import Derived.Stop.Asserts
set_option linter.unusedVariables false
set_option linter.unusedSimpArgs false
open Go.RowKit Go.Proofs.Tryz
set_option maxRecDepth 100000
set_option maxHeartbeats 4000000
namespace Go.Proofs.YtefccfakhgdfbaaGreatDoor
section
section
variable [Inhabited OutT]
variable {F:Nat→Addr} {w w':World} {q:Qf} {x:Qv} {N:Nat} {d:Dk} {r:Except QErr (List Hsh)×Cs} {e:Ending}
theorem Qqr (h:Qfg F w q x N d r e w'):∃ v u,e=.returned (.tuple #[v,u]):=by
 obtain⟨_,⟨_,v,_,h,_⟩|⟨_,u,_,h,_⟩⟩:=h
 ·exact⟨_,_,h⟩
 ·exact⟨_,_,h⟩
theorem Qqo {W:World} (hb:Below w.heap.size w W) (h:Qfg F W q x N d r e w'):Qfg F w q x N d r e w':=by
 obtain⟨h1,h2⟩:=h;refine⟨Y7.trans (Fr.ofBelow hb) (Sub.refl _ _) h1,?_⟩;rcases h2 with ⟨l,v,h3,h4,h5⟩|⟨p,u,h3,h4,h5⟩
 ·exact .inl ⟨l,v,h3,h4,Zs h5 hb.size⟩
 ·exact .inr ⟨p,u,h3,h4,h5.low hb.size⟩
theorem Q0f (F:Nat→Addr) (w:World) (q:Qf) (x0:Qv) (N:Nat) (s:Cs) (d:Dk) (h:QIs w q x0 N s d) (hE:EnvS F (QS q x0) w) (g1 g3:Nat) (hc:ClAt w q x0 g1 g3) (i n:Nat) (hin:i<n) (hnN:n≤N) (hN:N<9223372036854775808) (hb:Bnd s (Zx N (Yx n 0 n i).reverse).length) (hp:(Zf N (Yx n 0 n i).reverse s).1≠.error .panic) :
  Calls prog 149 #[.func (.func 180) #[] #[.pointer (some ⟨g1,0,none⟩),.pointer (some ⟨g3,0,none⟩)],.int .i64 i,.int .i64 n] w (Qfg F w q x0 N d (Zf N (Yx n 0 n i).reverse s)):=by
 have V:=zh (fun (W:World) (hW:Below w.heap.size w W) (v:Value) (rs:List (Nat×Nat)) (hr:W.ownsRow 0 265 2 v rs.length (Qby rs)) (hrs:∀ x∈rs,x.1<x.2∧x.2≤N) (hn:rs.length≤1048576) (he:rs=Yx n 0 n i)=>
  Qna F W q x0 N s d (h.below hW) (hE.below hW) g1 g3 (hc.below hW) hN v rs hr hrs hn (by rw[he];exact hb) (by rw[he];exact hp))
 obtain⟨i0,hi,K,P,R⟩:=info_parts Qwb;clear h hE hc hb hp
 go_enter func149,ntmps149
 go_wp2
 go_loopw [8,9,10] (fun v a b wr=>∃ (x y f mm:Nat) (done:List (Nat×Nat)),a=.int .i64 x∧b=.int .i64 y∧x≤i∧i<y∧y≤n∧y-x≤f∧Hid (done++Yx f x y i=Yx n 0 n i)∧Hid (y-x≤2 ^ mm∧done.length+mm≤63)∧Qi4 wr w.heap.size v done∧Below w.heap.size w wr) (fun _ a b _=>(intOf b-intOf a).toNat)
 case atStart=>exact⟨0,n,n,63,[],rfl,rfl,by omega,hin,Nat.le_refl _,by omega,zh rfl,zh ⟨by omega,by simp⟩,World.ownsRow_nil _ _ _ _,Below.refl _ _⟩
 case round=>
  obtain⟨x,y,f,mm,done,rfl,rfl,hx,hy,U,hf,HD,r,c,l⟩:=hrel;have p:done.length≤63:=by have:=r.o.2;omega
  by_cases u:1<y-x
  ·obtain⟨f,rfl⟩:∃ g,f=g+1:=⟨f-1,by omega⟩
   have t:=Yi (n:=y-x) (by omega);obtain⟨m2,O,S,Q⟩:=Qgz (n:=y-x) (m:=mm) (by omega) r.o.1 (by have:=r.o.2;omega);have B:=zh (And.intro O (And.intro S Q));clear O S Q;have hp:Yx (f+1) x y i=if i<x+below (y-x) then (x+below (y-x),y) :: Yx f x (x+below (y-x)) i else (x,x+below (y-x)) :: Yx f (x+below (y-x)) y i:=by simp only[Yx];rw[if_neg (by omega)]
   obtain⟨k,hk⟩:∃ k,k=below (y-x):=⟨_,rfl⟩
   rw[←hk] at t hp B;have HK:=zh (show ((below ((y:Int)-x).toNat:Nat):Int)=k by rw[show ((y:Int)-x).toNat=y-x by omega,hk]);have HP:=zh hp;unfold Qi4 at c;have HO:=zh c;have HB:=zh l;have aa:(x:Int)+2≤y:=by omega
   have ab:(y:Int)≤9223372036854775807:=by omega
   have E:=l.size;have M:done.length≤1048576:=by omega
   have X:(1:Int)<y-x:=by omega
   have HL:=zh (And.intro p (And.intro hf (And.intro t u)));have ac:(1:Int)≤k:=by omega
   have Y:(x:Int)+k≤y:=by omega
   clear hk hp c l p hf t u;by_cases hik:i<x+k
   ·have T:(i:Int)<x+k:=by omega
    go_wp2_with fail
    refine (Qb2 _ _ (by omega) (by omega)).mono ?_;rintro e w0 ⟨rfl,rfl⟩;rw[HK.o]
    go_wp2_with (at_builtin;refine Qds rfl _ _ 264 rfl w.heap.size 265 i0 (.agg #[.int .i64 0,.int .i64 0]) 2 16 underlying264 hi K P R rfl (by decide) (by decide) _ _ _ rfl HO.o #[.int .i64 _,.int .i64 _] rfl (Qm4 _ _) rfl (Nat.le_trans M (by decide)) E ?_;intro v2 w2 C A D;have J:=zh C;have H:=zh A;clear C A D)
    go_roundw
    case rel=>
     obtain⟨p,hf,t,u⟩:=HL.o;exact⟨x,x+k,f,m2,done ++ [(x+k,y)],rfl,by go_num,hx,hik,by omega,by omega,zh (by rw[←HD.o,HP.o,if_pos hik,List.append_assoc];rfl),zh ⟨by have:=B.o;omega,by have:=r.o.2;have:=B.o.1;simp;omega⟩,Qi4.snoc J.o (by simp) (by simp),HB.o.grown H.o HB.o.size (fun j hj=>(HO.o.lt j hj).1)⟩
    case measure=>(obtain⟨p,hf,t,u⟩:=HL.o;simp[intOf] <;> omega)
   ·have T:(x:Int)+k≤i:=by omega
    go_wp2_with fail
    refine (Qb2 _ _ (by omega) (by omega)).mono ?_;rintro e w0 ⟨rfl,rfl⟩;rw[HK.o]
    go_wp2_with (at_builtin;refine Qds rfl _ _ 264 rfl w.heap.size 265 i0 (.agg #[.int .i64 0,.int .i64 0]) 2 16 underlying264 hi K P R rfl (by decide) (by decide) _ _ _ rfl HO.o #[.int .i64 _,.int .i64 _] rfl (Qm4 _ _) rfl (Nat.le_trans M (by decide)) E ?_;intro v2 w2 C A D;have J:=zh C;have H:=zh A;clear C A D)
    go_roundw
    case rel=>
     obtain⟨p,hf,t,u⟩:=HL.o;exact⟨x+k,y,f,m2,done ++ [(x,x+k)],by go_num,rfl,by omega,hy,U,by omega,zh (by rw[←HD.o,HP.o,if_neg hik,List.append_assoc];rfl),zh ⟨by have:=B.o;omega,by have:=r.o.2;have:=B.o.1;simp;omega⟩,Qi4.snoc J.o (by simp) (by simp),HB.o.grown H.o HB.o.size (fun j hj=>(HO.o.lt j hj).1)⟩
    case measure=>(simp[intOf] <;> omega)
  ·have G:done=Yx n 0 n i:=by
    rw[←HD.o];cases f with
    | zero=>omega
    | succ f=>simp only[Yx];rw[if_pos (by omega),List.append_nil]
   have I:∀ z∈done,z.1<z.2∧z.2≤N:=by
    intro z hz;rw[G] at hz
    have:=Qeq n 0 n i (by omega) (by omega) hin z hz
    omega
   have HM:=zh I;have L:=zh G;unfold Qi4 at c;have HO:=zh c;have HB:=zh l;have Z:¬ ((1:Int)<y-x):=by omega
   clear G I c l HD
   go_wp2_with fail
   refine (V.o _ HB.o _ done (Zs HO.o (Nat.zero_le _)) HM.o (by omega) L.o).mono ?_;intro e w2 h2;obtain⟨v2,u2,rfl⟩:=Qqr h2;have HX:=zh (Qqo HB.o h2);rw[L.o] at HX;clear h2;go_wp2;go_ret2;exact HX.o
theorem Qyd (F:Nat→Addr) (w:World) (q:Qf) (x0:Qv) (N:Nat) (s:Cs) (d:Dk) (h:QIs w q x0 N s d) (hE:EnvS F (QS q x0) w) (g1 g3:Nat) (hc:ClAt w q x0 g1 g3) (m n:Nat) (hm1:1≤m) (hin:m≤n) (hnN:n≤N) (hN:N<9223372036854775808) (hb:Bnd s (Zx N (Yb n 0 n m).reverse).length) (hp:(Zf N (Yb n 0 n m).reverse s).1≠.error .panic) :
  Calls prog 139 #[.func (.func 180) #[] #[.pointer (some ⟨g1,0,none⟩),.pointer (some ⟨g3,0,none⟩)],.int .i64 m,.int .i64 n] w (Qfg F w q x0 N d (Zf N (Yb n 0 n m).reverse s)):=by
 have U:=zh (fun (W:World) (hW:Below w.heap.size w W) (v:Value) (rs:List (Nat×Nat)) (hr:W.ownsRow 0 265 2 v rs.length (Qby rs)) (hrs:∀ x∈rs,x.1<x.2∧x.2≤N) (hn:rs.length≤1048576) (he:rs=Yb n 0 n m)=>
  Qna F W q x0 N s d (h.below hW) (hE.below hW) g1 g3 (hc.below hW) hN v rs hr hrs hn (by rw[he];exact hb) (by rw[he];exact hp))
 obtain⟨i0,hi,L,O,P⟩:=info_parts Qwb;clear h hE hc hb hp
 go_enter func139,ntmps139
 go_wp2
 go_loopw [8,9,10] (fun v a b wr=>∃ (x y f mm:Nat) (done:List (Nat×Nat)),a=.int .i64 x∧b=.int .i64 y∧x<m∧m≤y∧y≤n∧y-x≤f∧Hid (done++Yb f x y m=Yb n 0 n m)∧Hid (y-x≤2 ^ mm∧done.length+mm≤63)∧Qi4 wr w.heap.size v done∧Below w.heap.size w wr) (fun _ a b _=>(intOf b-intOf a).toNat)
 case atStart=>exact⟨0,n,n,63,[],rfl,rfl,by omega,hin,Nat.le_refl _,by omega,zh rfl,zh ⟨by omega,by simp⟩,World.ownsRow_nil _ _ _ _,Below.refl _ _⟩
 case round=>
  obtain⟨x,y,f,mm,done,rfl,rfl,hx,hy,Z,hf,HD,C,i,c⟩:=hrel;have l:done.length≤63:=by have:=C.o.2;omega
  by_cases B:m<y
  ·obtain⟨f,rfl⟩:∃ g,f=g+1:=⟨f-1,by omega⟩
   have E:=Yi (n:=y-x) (by omega);obtain⟨m2,S,X,V⟩:=Qgz (n:=y-x) (m:=mm) (by omega) C.o.1 (by have:=C.o.2;omega);have H:=zh (And.intro S (And.intro X V));clear S X V;have hp:Yb (f+1) x y m=if m≤x+below (y-x) then (x+below (y-x),y) :: Yb f x (x+below (y-x)) m else (x,x+below (y-x)) :: Yb f (x+below (y-x)) y m:=by simp only[Yb];rw[if_neg (by omega)]
   obtain⟨k,hk⟩:∃ k,k=below (y-x):=⟨_,rfl⟩
   rw[←hk] at E hp H;have HK:=zh (show ((below ((y:Int)-x).toNat:Nat):Int)=k by rw[show ((y:Int)-x).toNat=y-x by omega,hk]);have HP:=zh hp;unfold Qi4 at i;have HO:=zh i;have HB:=zh c;have ag:(x:Int)+2≤y:=by omega
   have ab:(y:Int)≤9223372036854775807:=by omega
   have u:=c.size;have K:done.length≤1048576:=by omega
   have ac:(m:Int)<y:=by omega
   have HL:=zh (And.intro l (And.intro hf (And.intro E B)));have ah:(1:Int)≤k:=by omega
   have ae:(x:Int)+k≤y:=by omega
   clear hk hp i c l hf E B;by_cases hik:m≤x+k
   ·have Y:(m:Int)≤x+k:=by omega
    go_wp2_with fail
    refine (Qb2 _ _ (by omega) (by omega)).mono ?_;rintro e w0 ⟨rfl,rfl⟩;rw[HK.o]
    go_wp2_with (at_builtin;refine Qds rfl _ _ 264 rfl w.heap.size 265 i0 (.agg #[.int .i64 0,.int .i64 0]) 2 16 underlying264 hi L O P rfl (by decide) (by decide) _ _ _ rfl HO.o #[.int .i64 _,.int .i64 _] rfl (Qm4 _ _) rfl (Nat.le_trans K (by decide)) u ?_;intro v2 w2 t r D;have I:=zh t;have R:=zh r;clear t r D)
    go_roundw
    case rel=>
     obtain⟨l,hf,E,B⟩:=HL.o;exact⟨x,x+k,f,m2,done ++ [(x+k,y)],rfl,by go_num,hx,hik,by omega,by omega,zh (by rw[←HD.o,HP.o,if_pos hik,List.append_assoc];rfl),zh ⟨by have:=H.o;omega,by have:=C.o.2;have:=H.o.1;simp;omega⟩,Qi4.snoc I.o (by simp) (by simp),HB.o.grown R.o HB.o.size (fun j hj=>(HO.o.lt j hj).1)⟩
    case measure=>(obtain⟨l,hf,E,B⟩:=HL.o;simp[intOf] <;> omega)
   ·have Y:¬ (m:Int)≤x+k:=by omega
    go_wp2_with fail
    refine (Qb2 _ _ (by omega) (by omega)).mono ?_;rintro e w0 ⟨rfl,rfl⟩;rw[HK.o]
    go_wp2_with (at_builtin;refine Qds rfl _ _ 264 rfl w.heap.size 265 i0 (.agg #[.int .i64 0,.int .i64 0]) 2 16 underlying264 hi L O P rfl (by decide) (by decide) _ _ _ rfl HO.o #[.int .i64 _,.int .i64 _] rfl (Qm4 _ _) rfl (Nat.le_trans K (by decide)) u ?_;intro v2 w2 t r D;have I:=zh t;have R:=zh r;clear t r D)
    go_roundw
    case rel=>
     obtain⟨l,hf,E,B⟩:=HL.o;exact⟨x+k,y,f,m2,done ++ [(x,x+k)],by go_num,rfl,by omega,hy,Z,by omega,zh (by rw[←HD.o,HP.o,if_neg hik,List.append_assoc];rfl),zh ⟨by have:=H.o;omega,by have:=C.o.2;have:=H.o.1;simp;omega⟩,Qi4.snoc I.o (by simp) (by simp),HB.o.grown R.o HB.o.size (fun j hj=>(HO.o.lt j hj).1)⟩
    case measure=>(simp[intOf] <;> omega)
  ·obtain⟨f,rfl⟩:∃ g,f=g+1:=⟨f-1,by omega⟩
   obtain⟨fin,A⟩:∃ fin,fin=Yb n 0 n m:=⟨_,rfl⟩
   have p:done++(if 0<x then [(x,y)] else [])=fin:=by
    have aa:y≤m:=by omega
    rw[A,←HD.o];simp only[Yb,if_pos aa]
   have J:∀ z∈fin,z.1<z.2∧z.2≤N:=by
    intro z hz;rw[A] at hz
    have:=Qdx n 0 n m (by omega) (by omega) hin z hz
    omega
   have HM:=zh J;have G:=zh A;unfold Qi4 at i;have HO:=zh i;have HB:=zh c;have u:=c.size;have K:done.length≤1048576:=by omega
   have af:¬ ((m:Int)<y):=by omega
   have ab:(y:Int)≤9223372036854775807:=by omega
   by_cases hx0:0<x
   ·rw[if_pos hx0] at p
    have ad:(0:Int)<x:=by omega
    have M:=zh p;have Q:fin.length≤1048576:=by rw[←p];simp;omega
    clear p J i c HD A l hf B hx hy
    go_wp2_with (at_builtin;refine Qds rfl _ _ 264 rfl w.heap.size 265 i0 (.agg #[.int .i64 0,.int .i64 0]) 2 16 underlying264 hi L O P rfl (by decide) (by decide) _ _ _ rfl HO.o #[.int .i64 _,.int .i64 _] rfl (Qm4 _ _) rfl (Nat.le_trans K (by decide)) u ?_;intro v2 w2 t r D;have I:=zh (Qi4.snoc (x:=(x,y)) t rfl rfl);have T:=zh (HB.o.grown r HB.o.size (fun j hj=>(HO.o.lt j hj).1));clear t r D)
    have ho:=I.o;rw[M.o] at ho;refine (U.o _ T.o _ fin (Zs ho (Nat.zero_le _)) HM.o Q G.o).mono ?_;intro e w3 h3;obtain⟨v3,u3,rfl⟩:=Qqr h3;have HX:=zh (Qqo T.o h3);rw[G.o] at HX;clear h3;go_wp2;go_ret2;exact HX.o
   ·rw[if_neg hx0,List.append_nil] at p
    obtain rfl:x=0:=by omega
    have M:=zh p;have Q:fin.length≤1048576:=by rw[←p];omega
    clear p J i c HD A l hf B hx hy hx0
    go_wp2_with fail
    refine (U.o _ HB.o _ fin (by rw[←M.o];exact Zs HO.o (Nat.zero_le _)) HM.o Q G.o).mono ?_;intro e w2 h2;obtain⟨v2,u2,rfl⟩:=Qqr h2;have HX:=zh (Qqo HB.o h2);rw[G.o] at HX;clear h2;go_wp2;go_ret2;exact HX.o
end
end
section
section
variable [Inhabited OutT]
theorem Qws (w:World) (gc:Nat) (n:Int) :
  Calls prog 138 #[.pointer (some ⟨gc,0,none⟩),.int .i64 n] w fun e w'=>∃ gq mq,e=.returned (.pointer (some ⟨gq,0,none⟩))∧w'.heap[gq]?=some (.cells #[.pointer (some ⟨gc,0,none⟩),.int .i64 n,.map (some mq),.slice none 0 0] 263 (0,0))∧w'.heap[mq]?=some (.map #[] 0)∧Below w.heap.size w w'∧w.heap.size≤gq∧w.heap.size≤mq:=by
 have a:=@run_makeMap prog
 go_enter func138,ntmps138
 go_wp2;refine bodyPost_ret (results_tmp rfl _ _ _) rfl ⟨w.heap.size+1,w.heap.size,rfl,?_,(heap_alloc_old _ _ (by rw[Qen];exact Nat.lt_succ_self _)).trans (heap_alloc_new _ _),(Qa w _).alloc (by rw[Qen];exact Nat.le_succ _) _,Nat.le_succ _,Nat.le_refl _⟩;rw[←Qen w (.map #[] 0)];exact heap_alloc_new _ _
def cnS (gc gk mc gn:Nat) (vt:Value) (qs:List CEnt) (k:Nat):Prop:=clS gc gk mc qs k∨netS gn vt k
variable {w w':World} {mu:Int} {gc gk mc gn gd gq mq N:Nat} {vl vt v:Value} {c:Cl} {qs:List CEnt} {d:Dk}
theorem Q7d {n:Nt} (h:ClM mu w gc gk mc (.iface 48 (.pointer (some ⟨gn,0,none⟩))) c qs) (hn:Y1 w gn gd vl vt n) (hd:Q1 w gd v d) (hdf:d.files=n.files) (ho:∀ z,Out.blk=some z→z<w.heap.size)
  (hb:Below w.heap.size w w') (hq:w'.heap[gq]?=some (.cells #[.pointer (some ⟨gc,0,none⟩),.int .i64 N,.map (some mq),.slice none 0 0] 263 (0,0))) (hm:w'.heap[mq]?=some (.map #[] 0)) (h1:w.heap.size≤mq) :
  QIs w' ⟨gq,gc,gk,mc,gn,gd,mq,vl,vt,v,cliC mu (.iface 48 (.pointer (some ⟨gn,0,none⟩))) c.key c.size c.root gk⟩ ⟨.slice none 0 0,qs,[]⟩ N (askQ n c.cache) d where
 look:=hq
 km:=KmAt.made_at w' 9 hm
 ord:=World.ownsRow_nil _ _ _ _
 vals y hy:=by cases hy
 keys:=List.nodup_nil
 small y hy:=by cases hy
 files:=rfl
 cli:=(h.below hb).cells
 c2:=rfl
 c13:=rfl
 cache:=(h.below hb).cache
 net:=hn.below hb
 disk:=hd.below hb
 dfiles:=hdf
 maps e:=by
  have:=h.cache.km.lt
  dsimp only at e
  omega
 o z hz:=Nat.lt_of_lt_of_le (ho z hz) hb.size
theorem Qqk {C:Array Value} (hq:w.heap.size≤gq) (hm:w.heap.size≤mq) {i:Nat} (hi:i<w.heap.size) (h:QS ⟨gq,gc,gk,mc,gn,gd,mq,vl,vt,v,C⟩ ⟨.slice none 0 0,qs,[]⟩ i):cnS gc gk mc gn vt qs i:=by
 have:=(inferInstance:Inhabited OutT)
 rcases h with (e|e|e)|e|e
 ·exact absurd hi (by rw[show i=gq from e];omega)
 ·exact absurd hi (by rw[show i=mq from e];omega)
 ·cases e
 ·exact .inl (.inr e)
 ·exact .inr e
theorem Q0n {w w1 w':World} {mu:Int} {gc gk mc gn gd gq mq N:Nat} {vl vt v vf:Value} {c:Cl} {qs qs':List CEnt} {vs:List FEnt} {vo:Value} {s:Cs} {d:Dk} (hq:w.heap.size≤gq) (hm:w.heap.size≤mq) (hb:Below w.heap.size w w1)
  (h:QIs w' ⟨gq,gc,gk,mc,gn,gd,mq,vl,vt,v,cliC mu vf c.key c.size c.root gk⟩ ⟨vo,qs',vs⟩ N s d) (hf:Fr (QS ⟨gq,gc,gk,mc,gn,gd,mq,vl,vt,v,cliC mu vf c.key c.size c.root gk⟩ ⟨.slice none 0 0,qs,[]⟩) w1 w') (hs:Sub w1 (QS ⟨gq,gc,gk,mc,gn,gd,mq,vl,vt,v,cliC mu vf c.key c.size c.root gk⟩ ⟨.slice none 0 0,qs,[]⟩) (QS ⟨gq,gc,gk,mc,gn,gd,mq,vl,vt,v,cliC mu vf c.key c.size c.root gk⟩ ⟨vo,qs',vs⟩)) :
  ClM mu w' gc gk mc vf { c with cache:=s.cache } qs'∧Y1 w' gn gd vl vt s.net∧Fr (cnS gc gk mc gn vt qs) w w'∧Sub w (cnS gc gk mc gn vt qs) (cnS gc gk mc gn vt qs'):=by
 refine⟨⟨h.cli,h.cache⟩,h.net,(Fr.ofBelow hb).step hf fun i hi e=>Qqk hq hm hi e,fun k hk=>?_⟩;rcases hk with (e|e)|e
 ·exact .inl (.inl (.inl e))
 ·rcases hs k (.inr (.inl e)) with e2|e2
  ·rcases Nat.lt_or_ge k w.heap.size with b|a
   ·exact .inl (Qqk hq hm b e2)
   ·exact .inr a
  ·exact .inr (Nat.le_trans hb.size e2)
 ·exact .inl (.inr e)
end
end
section
open Go.RowKit Go.Extern.Stop Go.Stop Go.Extern
theorem Q4n (v:Value) (w:World):(Extern.ReflectliteType.typeOf #[.iface 370 v]).run prog w=.ok (.iface 321 (.agg #[.pointer (some ⟨17,370,none⟩)])) w:=by kernel_rfl
theorem Qq2 (w:World):((Extern.ReflectliteType.method fun t=>do Extern.Rtype.noPackHeld "Comparable" t;Functor.map (fun a=>Value.bool a.comparable) (typeInfo t)) #[.agg #[.pointer (some ⟨17,370,none⟩)]]).run prog w=.ok (.bool true) w:=by kernel_rfl
theorem Qkx (n:Nat) (h:Value) (w:World):(Go.method (n+1) 321 (.agg #[h]) "Comparable").run prog w=.ok (312,.agg #[h]) w:=by kernel_rfl
theorem Qgb (n:Nat) (v:Value) (w:World):(Go.method (n+1) 219 v "Unwrap").run prog w=.ok (306,v) w:=by kernel_rfl
theorem Q63:(prog.info? 370).map (·.comparable)=some true:=by kernel_rfl
theorem Q7c:(prog.info? 372).map (·.size)=some 1:=by kernel_rfl
theorem Qxh (v:Value) (xT:TypeId) (w:World):(Instr.typeAssert (.iface 219 v) xT 323 true).run prog w=.ok (.tuple #[.nilIface,.bool false]) w:=run_typeAssert_lacksB underlying323 (by kernel_rfl) (by kernel_rfl) v xT w
theorem Qe9 (v:Value) (xT:TypeId) (w:World):(Instr.typeAssert (.iface 219 v) xT 326 true).run prog w=.ok (.tuple #[.iface 219 v,.bool true]) w:=run_typeAssert_hasB underlying326 (by kernel_rfl) v xT w
theorem Qog (w:World) (r:Nat) (x:Value) (h1:w.cell? ⟨r,1,none⟩=some x):Calls prog 306 #[.pointer (some ⟨r,0,none⟩)] w fun e w'=>e=.returned x∧w'=w:=by
 go_enter func306,ntmps306
 go_wp2;go_ret;exact⟨rfl,rfl⟩
theorem Q52 (a:Addr) (r:Nat) (w:World) (h1:w.cell? ⟨r,1,none⟩=some (.iface 370 (.pointer (some a)))) :
  Calls prog 186 #[.iface 219 (.pointer (some ⟨r,0,none⟩)),.iface 370 (.pointer (some a)),.bool true] w fun e w'=>e=.returned (.bool true)∧w'=w:=by
 obtain⟨i,hi,b⟩:=Option.map_eq_some_iff.1 Q63;obtain⟨j,hj,c⟩:=Option.map_eq_some_iff.1 Q7c;have nP:=Qxh;have uP:=Qe9;have mU:=Qgb;have d:=run_eql_iface_ptr_same (P:=prog) w a underlying135 underlying370 hi b hj;have f:=run_eql_iface_types (P:=prog) 219 370 (.pointer (some ⟨r,0,none⟩)) (.pointer (some a)) underlying135 (by decide) w;have g:=Qax w 370 (.pointer (some a));have h:=Qj9 w 370 (.pointer (some a))
 go_enter func186,ntmps186
 go_wp2_with fail
 refine wp_loop_rounds 2 ?_;rw[rounds_succ]
 go_wp2_with (go_at_call 306;refine (Qog w r _ h1).mono ?_;rintro e w2 ⟨rfl,rfl⟩)
 rw[rounds_succ];go_wp2;go_ret;exact⟨rfl,rfl⟩
theorem Q7n (a:Addr) (r:Nat) (w:World) (h1:w.cell? ⟨r,1,none⟩=some (.iface 370 (.pointer (some a)))) :
  Calls prog 144 #[.iface 219 (.pointer (some ⟨r,0,none⟩)),.iface 370 (.pointer (some a))] w fun e w'=>e=.returned (.bool true)∧w'=w:=by
 obtain⟨i,hi,b⟩:=Option.map_eq_some_iff.1 Q63;obtain⟨j,hj,c⟩:=Option.map_eq_some_iff.1 Q7c;have h8:=@run_callFunc_extern prog 185 _ Extern.ReflectliteType.typeOf func185 (by kernel_rfl) (by kernel_rfl) (by kernel_rfl) (by kernel_rfl);have f:=@run_callFunc_extern prog 312 _ (Extern.ReflectliteType.method fun t=>do Extern.Rtype.noPackHeld "Comparable" t;pure (.bool (←typeInfo t).comparable)) func312 (by kernel_rfl) (by kernel_rfl) (by kernel_rfl) (by kernel_rfl);have tT:=Q4n;have cT:=Qq2;have mR:=Qkx;have mU:=Qgb;have nP:=Qxh;have uP:=Qe9;have d:=run_eql_iface_ptr_same (P:=prog) w a underlying135 underlying370 hi b hj;have g:=run_eql_iface_types (P:=prog) 219 370 (.pointer (some ⟨r,0,none⟩)) (.pointer (some a)) underlying135 (by decide) w
 go_enter func144,ntmps144
 go_wp2_with fail
 refine (Q52 a r w h1).mono ?_;rintro e w2 ⟨rfl,rfl⟩;go_wp2;go_ret;exact⟨rfl,rfl⟩
theorem Q4m (t:Addr) (w:World):(ReflectliteValue.unpack (.iface 224 (.pointer (some t)))).run prog w
  = .ok (.agg #[.pointer (some ⟨17,224,none⟩),.pointer (some ⟨w.heap.size,0,none⟩),.int .u64 150]) (w.alloc (.cells #[.pointer (some t)] 224)):=by kernel_rfl
theorem Q71 (a:Addr) (w:World):(ReflectliteValue.methodAny (ReflectliteValue.valueError "reflectlite.Value.Type" 0) (fun t _ _ _=>ReflectliteType.toType t) #[.agg #[.pointer (some ⟨17,224,none⟩),.pointer (some a),.int .u64 150]]).run prog w
  = .ok (.iface 321 (.agg #[.pointer (some ⟨17,224,none⟩)])) w:=by kernel_rfl
theorem Q9v (w:World):((ReflectliteType.abiMethod fun t=>Functor.map (fun a:Nat=>Value.int IntKind.u8 (a:Int)) (Rtype.kind t)) #[.pointer (some ⟨17,224,none⟩)]).run prog w=.ok (.int .u8 22) w:=by kernel_rfl
theorem Zah (w:World):((ReflectliteType.abiMethod fun t=>Functor.map (fun a:Nat=>Value.int IntKind.u8 (a:Int)) (Rtype.kind t)) #[.pointer (some ⟨17,218,none⟩)]).run prog w=.ok (.int .u8 22) w:=by kernel_rfl
theorem rlm (z:Sem Value) (f:TypeId→Addr→Nat→Nat→Sem Value) (v:Value) :
  ReflectliteValue.method z f #[v]=(do match ←ReflectliteValue.parts v with|none=>z|some (t,a,fl)=>f t a fl (fl%32)):=rfl
theorem Q22 (a:Addr) (w:World):(ReflectliteValue.parts (.agg #[.pointer (some ⟨17,224,none⟩),.pointer (some a),.int .u64 150])).run prog w=.ok (some (224,a,150)) w:=by kernel_rfl
theorem Q8j (a p:Addr) (W:World) (ha:W.cell? a=some (.pointer (some p))) :
  (ReflectliteValue.method (ReflectliteValue.valueError "reflectlite.Value.IsNil" 0) ReflectliteValue.isNil #[.agg #[.pointer (some ⟨17,224,none⟩),.pointer (some a),.int .u64 150]]).run prog W=.ok (.bool false) W:=by
 rw[rlm];simp only[Sem.run_bind,Q22,Result.andThen];simp[ReflectliteValue.isNil,loadVar,isAgg,underlying,underlying224,ha,Result.andThen]
theorem Qyx (n:Nat) (h:Value) (w:World):(Go.method (n+1) 321 (.agg #[h]) "Kind").run prog w=.ok (295,h) w:=by kernel_rfl
theorem Qx8 (n:Nat) (h:Value) (w:World):(Go.method (n+1) 321 (.agg #[h]) "Elem").run prog w=.ok (313,.agg #[h]) w:=by kernel_rfl
theorem Qib (n:Nat) (h:Value) (w:World):(Go.method (n+1) 321 (.agg #[h]) "AssignableTo").run prog w=.ok (311,.agg #[h]) w:=by kernel_rfl
theorem Qkw (n:Nat) (h:Value) (w:World):(Go.method (n+1) 321 (.agg #[h]) "Implements").run prog w=.ok (314,.agg #[h]) w:=by kernel_rfl
theorem Q9l (w:World):(ReflectliteType.method ReflectliteType.elem #[.agg #[.pointer (some ⟨17,224,none⟩)]]).run prog w=.ok (.iface 321 (.agg #[.pointer (some ⟨17,218,none⟩)])) w:=by kernel_rfl
theorem Qto (w:World):(ReflectliteType.relation "Implements" ReflectliteType.implements_ #[.agg #[.pointer (some ⟨17,218,none⟩)],.iface 321 (.agg #[.pointer (some ⟨17,135,none⟩)])]).run prog w=.ok (.bool true) w:=by kernel_rfl
theorem Qyq (v:Value) (w:World):(ReflectliteType.typeOf #[.iface 219 v]).run prog w=.ok (.iface 321 (.agg #[.pointer (some ⟨17,219,none⟩)])) w:=by kernel_rfl
theorem Q1a (v:Value) (w:World):(ReflectliteType.typeOf #[.iface 218 v]).run prog w=.ok (.iface 321 (.agg #[.pointer (some ⟨17,218,none⟩)])) w:=by kernel_rfl
theorem Qyr (w:World):(ReflectliteType.relation "AssignableTo" ReflectliteType.assignableTo #[.agg #[.pointer (some ⟨17,219,none⟩)],.iface 321 (.agg #[.pointer (some ⟨17,218,none⟩)])]).run prog w=.ok (.bool false) w:=by kernel_rfl
theorem Q06 (w:World):(ReflectliteType.relation "AssignableTo" ReflectliteType.assignableTo #[.agg #[.pointer (some ⟨17,218,none⟩)],.iface 321 (.agg #[.pointer (some ⟨17,218,none⟩)])]).run prog w=.ok (.bool true) w:=by kernel_rfl
theorem Qyj (e:Addr) (w:World):(ReflectliteValue.unpack (.iface 218 (.pointer (some e)))).run prog w
  = .ok (.agg #[.pointer (some ⟨17,218,none⟩),.pointer (some ⟨w.heap.size,0,none⟩),.int .u64 150]) (w.alloc (.cells #[.pointer (some e)] 218)):=by kernel_rfl
theorem Q6w (w:World):(Rtype.elem? 224).run prog w=.ok (some 218) w:=by kernel_rfl
theorem mkP (p:Addr) (w:World):(ReflectliteValue.mk 218 p ReflectliteValue.flagAddr).run prog w=.ok (.agg #[.pointer (some ⟨17,218,none⟩),.pointer (some p),.int .u64 406]) w:=by kernel_rfl
theorem Zaf (a p:Addr) (W:World) (ha:W.cell? a=some (.pointer (some p))) :
  (ReflectliteValue.method (ReflectliteValue.valueError "reflectlite.Value.Elem" 0) ReflectliteValue.elem #[.agg #[.pointer (some ⟨17,224,none⟩),.pointer (some a),.int .u64 150]]).run prog W
   = .ok (.agg #[.pointer (some ⟨17,218,none⟩),.pointer (some p),.int .u64 406]) W:=by
 rw[rlm];simp only[Sem.run_bind,Q22,Result.andThen];simp[ReflectliteValue.elem,loadVar,isAgg,underlying,underlying224,ha,Result.andThen,Q6w,mkP]
theorem rls (v x:Value):ReflectliteValue.set #[v,x]=(do
  let (some (dst,a,fl),some (src,b,_)):=(←ReflectliteValue.parts v,←ReflectliteValue.parts x)
   | unsupported (.noEntry "extern/(internal/reflectlite.Value).Set.zeroValue")
  if fl / ReflectliteValue.flagAddr%2 == 0 then unsupported (.noEntry "extern/(internal/reflectlite.Value).Set.unaddressable")
  let val ←loadVar src b
  if ←Rtype.directlyAssignable dst src then storeVar dst a val
  else if ←Rtype.implements dst src then
   if (←Rtype.kind src) == 20 then
    match val with
    | .nilIface=>unsupported (.noEntry "extern/reflectlite: a nil value of one interface type handed on as a value of another")
    | _=>storeVar dst a val
   else storeVar dst a (.iface src val)
  else panicString ("reflectlite.Set: value of type "++(←Rtype.spelt src) ++ " is not assignable to type "++(←Rtype.spelt dst))
  pure (.tuple #[])):=rfl
theorem Q88 (a:Addr) (w:World):(ReflectliteValue.parts (.agg #[.pointer (some ⟨17,218,none⟩),.pointer (some a),.int .u64 406])).run prog w=.ok (some (218,a,406)) w:=by kernel_rfl
theorem Q9e (a:Addr) (w:World):(ReflectliteValue.parts (.agg #[.pointer (some ⟨17,218,none⟩),.pointer (some a),.int .u64 150])).run prog w=.ok (some (218,a,150)) w:=by kernel_rfl
theorem Q7g (w:World):(Rtype.directlyAssignable 218 218).run prog w=.ok true w:=by kernel_rfl
theorem setP (ta b e:Addr) (old:Value) (W:World) (hb:W.cell? b=some (.pointer (some e))) (ht:W.cell? ta=some old) (hf:W.frozen? ta=false) :
  (ReflectliteValue.set #[.agg #[.pointer (some ⟨17,218,none⟩),.pointer (some ta),.int .u64 406],.agg #[.pointer (some ⟨17,218,none⟩),.pointer (some b),.int .u64 150]]).run prog W
   = .ok (.tuple #[]) (W.setCell ta (.pointer (some e))):=by
 rw[rls];simp only[Sem.run_bind,Q88,Q9e,Result.andThen];simp[ReflectliteValue.flagAddr,loadVar,isAgg,underlying,underlying218,hb,Result.andThen,Q7g,storeVar,Value.cells,storeCells,Addr.add];rw[run_store prog W ta _ _ (by rfl)];simp[ht,hf]
end
section
open Go.RowKit Go.Extern.Stop Go.Stop Go.Extern
theorem Q5l (v:Value) (xT:TypeId) (w:World):(Instr.typeAssert (.iface 219 v) xT 332 true).run prog w=.ok (.tuple #[.nilIface,.bool false]) w:=run_typeAssert_lacksB underlying332 (by kernel_rfl) (by kernel_rfl) v xT w
abbrev rvT (b:Nat):Array Value:=#[.pointer (some ⟨17,224,none⟩),.pointer (some ⟨b,0,none⟩),.int .u64 150]
theorem Q4e (q r t:Nat) (w:World) (b:Nat) (old:Value) (hb:w.cell? ⟨b,0,none⟩=some (.pointer (some ⟨t,0,none⟩)))
  (h1:w.cell? ⟨r,1,none⟩=some (.iface 218 (.pointer (some ⟨q,0,none⟩)))) (ht0:w.cell? ⟨t,0,none⟩=some old) (hf0:w.frozen? ⟨t,0,none⟩=false) :
  Calls prog 190 #[.iface 219 (.pointer (some ⟨r,0,none⟩)),.iface 224 (.pointer (some ⟨t,0,none⟩)),.agg (rvT b),.iface 321 (.agg #[.pointer (some ⟨17,218,none⟩)])] w
   fun ev w'=>ev=.returned (.bool true)∧w'.cell? ⟨t,0,none⟩=some (.pointer (some ⟨q,0,none⟩))∧Fr (·=t) w w':=by
 have h6:=@run_callFunc_extern prog 187 _ (fun args=>ReflectliteValue.unpack (args.getD 0 (.tuple #[]))) func187 (by kernel_rfl) (by kernel_rfl) (by kernel_rfl) (by kernel_rfl);have k:=@run_callFunc_extern prog 185 _ ReflectliteType.typeOf func185 (by kernel_rfl) (by kernel_rfl) (by kernel_rfl) (by kernel_rfl);have u:=@run_callFunc_extern prog 311 _ (ReflectliteType.relation "AssignableTo" ReflectliteType.assignableTo) func311 (by kernel_rfl) (by kernel_rfl) (by kernel_rfl) (by kernel_rfl);have j:=@run_callFunc_extern prog 228 _ (ReflectliteValue.method (ReflectliteValue.valueError "reflectlite.Value.Elem" 0) ReflectliteValue.elem) func228 (by kernel_rfl) (by kernel_rfl) (by kernel_rfl) (by kernel_rfl);have s:=@run_callFunc_extern prog 229 _ ReflectliteValue.set func229 (by kernel_rfl) (by kernel_rfl) (by kernel_rfl) (by kernel_rfl);have tP:=Qyq;have tO:=Q1a;have mA:=Qib;have aP:=Qyr;have aO:=Q06;have vO:=Qyj;have nA:=Q5l;have uP:=Qe9;have mU:=Qgb;obtain⟨w3,a⟩:∃ w3,w3=w.alloc (.cells (rvT b) 279):=⟨_,rfl⟩
 have c:Below w.heap.size w w3:=by rw[a];exact Qa _ _
 have i:w3.heap.size=w.heap.size+1:=by rw[a];simp
 have f:=Qk ht0;have el:=Zaf ⟨b,0,none⟩ ⟨t,0,none⟩ w3 ((c.cell (Qk hb)).trans hb);have h:=(c.cell (Qk h1)).trans h1;have d:=(c.cell (Qk ht0)).trans ht0;have st:=setP ⟨t,0,none⟩ ⟨w.heap.size+1,0,none⟩ ⟨q,0,none⟩ old (w3.alloc (.cells #[.pointer (some ⟨q,0,none⟩)] 218))
  (by rw[World.cell?_alloc_at _ _ _ _ i.symm];rfl)
  (((Qa w3 _).cell (Qk d)).trans d)
  (by rw[(Qa w3 _).frozen (Qk d),c.frozen f];exact hf0)
 have x:=Qj9 w3 218 (.pointer (some ⟨q,0,none⟩));have v:w3.cell? ⟨w.heap.size,0,none⟩=some (.pointer (some ⟨17,224,none⟩)):=by rw[a,World.cell?_alloc_at _ _ _ _ (by simp)];rfl
 have m:w3.cell? ⟨w.heap.size,1,none⟩=some (.pointer (some ⟨b,0,none⟩)):=by rw[a,World.cell?_alloc_at _ _ _ _ (by simp)];rfl
 have l:w3.cell? ⟨w.heap.size,2,none⟩=some (.int .u64 150):=by rw[a,World.cell?_alloc_at _ _ _ _ (by simp)];rfl
 have n:=zh a;have g:=zh c
 go_enter func190,ntmps190
 go_wp2_with fail
 rw[←a];clear a c;refine wp_loop_rounds 2 ?_;rw[rounds_succ]
 go_wp2_with (go_at_call 306;refine (Qog w3 r _ h).mono ?_;rintro e w2 ⟨rfl,rfl⟩)
 rw[rounds_succ];go_wp2;go_ret;have hf:=((Fr.ofBelow g.o:Fr (·=t) w w2).setCell (p:=⟨t,0,none⟩) (fun _=>rfl) (.pointer (some ⟨q,0,none⟩)))
 refine⟨rfl,?_,hf.alloc _⟩;refine (Below.cell (Qa _ _) (p:=⟨t,0,none⟩) ?_).trans ?_
 ·exact Nat.lt_of_lt_of_le f hf.size
 ·exact World.cell?_setCell_same' _ _ _ (by rw[d];rfl)
end
section
open Go.RowKit Go.Extern.Stop Go.Stop Go.Extern
theorem Q77 (q r t:Nat) (w:World) (old:Value) (hg:w.cell? ⟨8,0,none⟩=some (.iface 321 (.agg #[.pointer (some ⟨17,135,none⟩)])))
  (h1:w.cell? ⟨r,1,none⟩=some (.iface 218 (.pointer (some ⟨q,0,none⟩)))) (ht0:w.cell? ⟨t,0,none⟩=some old) (hf0:w.frozen? ⟨t,0,none⟩=false) :
  Calls prog 145 #[.iface 219 (.pointer (some ⟨r,0,none⟩)),.iface 224 (.pointer (some ⟨t,0,none⟩))] w
   fun ev w'=>ev=.returned (.bool true)∧w'.cell? ⟨t,0,none⟩=some (.pointer (some ⟨q,0,none⟩))∧Fr (·=t) w w':=by
 have h6:=@run_callFunc_extern prog 187 _ (fun args=>ReflectliteValue.unpack (args.getD 0 (.tuple #[]))) func187 (by kernel_rfl) (by kernel_rfl) (by kernel_rfl) (by kernel_rfl);have h7:=@run_callFunc_extern prog 188 _ (ReflectliteValue.methodAny (ReflectliteValue.valueError "reflectlite.Value.Type" 0) (fun t _ _ _=>ReflectliteType.toType t)) func188 (by kernel_rfl) (by kernel_rfl) (by kernel_rfl) (by kernel_rfl);have h8:=@run_callFunc_extern prog 189 _ (ReflectliteValue.method (ReflectliteValue.valueError "reflectlite.Value.IsNil" 0) ReflectliteValue.isNil) func189 (by kernel_rfl) (by kernel_rfl) (by kernel_rfl) (by kernel_rfl);have y:=@run_callFunc_extern prog 295 _ (ReflectliteType.abiMethod fun t=>do pure (.int .u8 (←Rtype.kind t))) func295 (by kernel_rfl) (by kernel_rfl) (by kernel_rfl) (by kernel_rfl);have v:=@run_callFunc_extern prog 313 _ (ReflectliteType.method ReflectliteType.elem) func313 (by kernel_rfl) (by kernel_rfl) (by kernel_rfl) (by kernel_rfl);have u:=@run_callFunc_extern prog 314 _ (ReflectliteType.relation "Implements" ReflectliteType.implements_) func314 (by kernel_rfl) (by kernel_rfl) (by kernel_rfl) (by kernel_rfl);have mK:=Qyx;have mE:=Qx8;have mI:=Qkw;have z:=Q9v;have kP:=Zah;have eP:=Q9l;have iP:=Qto;have vT:=Q4m ⟨t,0,none⟩ w;have tV:=Q71;obtain⟨w1,c⟩:∃ w1,w1=w.alloc (.cells #[.pointer (some ⟨t,0,none⟩)] 224):=⟨_,rfl⟩
 have b:w1.heap.size=w.heap.size+1:=by rw[c];simp
 have i:Below w.heap.size w w1:=by rw[c];exact Qa _ _
 have f:w1.cell? ⟨w.heap.size,0,none⟩=some (.pointer (some ⟨t,0,none⟩)):=by rw[c,World.cell?_alloc_at _ _ _ _ (by simp)];rfl
 obtain⟨w2,a⟩:∃ w2,w2=w1.alloc (.cells (rvT w.heap.size) 279):=⟨_,rfl⟩
 have d:Below w.heap.size w w2:=by rw[a];exact i.alloc (by omega) _
 have j:w2.cell? ⟨w.heap.size,0,none⟩=some (.pointer (some ⟨t,0,none⟩)):=by rw[a];exact ((Qa w1 _).cell (Qk f)).trans f
 have n8:=Q8j ⟨w.heap.size,0,none⟩ ⟨t,0,none⟩ w2 j;have B:w2.cell? ⟨w.heap.size+1,0,none⟩=some (.pointer (some ⟨17,224,none⟩)):=by rw[a,World.cell?_alloc_at _ _ _ _ (by first|exact b|exact b.symm)];rfl
 have s:w2.cell? ⟨w.heap.size+1,1,none⟩=some (.pointer (some ⟨w.heap.size,0,none⟩)):=by rw[a,World.cell?_alloc_at _ _ _ _ (by first|exact b|exact b.symm)];rfl
 have x:w2.cell? ⟨w.heap.size+1,2,none⟩=some (.int .u64 150):=by rw[a,World.cell?_alloc_at _ _ _ _ (by first|exact b|exact b.symm)];rfl
 have g:=Q4e q r t w2 w.heap.size old j ((d.cell (Qk h1)).trans h1) ((d.cell (Qk ht0)).trans ht0) ((d.frozen (Qk ht0)).trans hf0);have A:=(d.cell (Qk hg)).trans hg;have C:=zh c;have D:=zh a;have m:=zh d;have l:=zh g;clear i d g h1 ht0 hf0 hg f
 go_enter func145,ntmps145
 go_upto_region 6 with fail
 rw[←c,←a];clear a c
 go_wp2_with (go_at_call 190;refine l.o.mono ?_;rintro e w3 ⟨rfl,h,k⟩;have n:=zh h;have p:=zh k;clear h k)
 go_ret;exact⟨rfl,n.o,(Fr.ofBelow m.o).trans p.o⟩
end
section
theorem Qwc (v:Value) (w:World):(Instr.typeAssert (.iface 219 v) 135 219 true).run prog w=.ok (.tuple #[v,.bool true]) w:=by kernel_rfl
theorem Q1n (f:Nat→Addr) (w:World) (h:Qbs w f) (r:Nat) (p:ByteArray) (hr:w.heap[r]?=some (.cells #[.string p,.iface 370 (.pointer (some (f 5)))] 221 (0,0))) :
  Calls prog 87 #[.iface 219 (.pointer (some ⟨r,0,none⟩))] w fun e w'=>e=.returned (Qaa 6 p)∧Below w.heap.size w w':=by
 obtain⟨c0,c1,c2,c3,c4,c5,c6⟩:=h.cells;have b0:3<w.heap.size:=Qk c0;have b1:4<w.heap.size:=Qk c1;have b2:0<w.heap.size:=Qk c2;have b3:1<w.heap.size:=Qk c3;have b4:2<w.heap.size:=Qk c4;have b5:6<w.heap.size:=Qk c5;have b6:5<w.heap.size:=Qk c6;have l:=Qwc (.pointer (some ⟨r,0,none⟩));have hq:=fun w=>Qj9 w 219 (.pointer (some ⟨r,0,none⟩))
 have he:=fun w=>Qp0 w (f 5)
 obtain⟨W1,b⟩:∃ W1,W1=((w.alloc (.cells #[.int .i64 0,.string ⟨#[]⟩] 63)).alloc (.cells #[.nilIface,.iface 370 (.pointer (some (f 0))),.iface 370 (.pointer (some (f 1))),.iface 370 (.pointer (some (f 2))),.iface 370 (.pointer (some (f 3))),.iface 370 (.pointer (some (f 4))),.nilIface,.iface 370 (.pointer (some (f 6)))] 135)).alloc (.cells #[.pointer none] 218):=⟨_,rfl⟩
 have c:Below w.heap.size w W1:=by rw[b];exact ((Qa w _).alloc (by simp) _).alloc (by simp;omega) _
 have a:W1.heap[w.heap.size]?=some (.cells #[.int .i64 0,.string ⟨#[]⟩] 63 (0,0)):=by rw[b,heap_alloc_old _ _ (by simp;omega),heap_alloc_old _ _ (by simp),heap_alloc_new]
 have d:=(c.block _ (Qc hr)).trans hr;have k0:W1.cell? ⟨r,0,none⟩=some (.string p):=Qd d 0 rfl;have k1:W1.cell? ⟨r,1,none⟩=some (.iface 370 (.pointer (some (f 5)))):=Qd d 1 rfl;have k5:=(c.cell b5).trans c5;have d0:=Qd a 0 rfl;have d1:=Qd a 1 rfl;have g0:=Qs a 0;have g1:=Qs a 1;have i:=zh (fun n=>Q7n (f 5) r (W1.drewN n) k1);have j:=zh c;have k:w.heap.size<W1.heap.size:=Qc a;have g:=zh b;clear h c a d b hr
 go_enter func87,ntmps87
 go_upto_region 9 with fail
 rw[←g.o];clear g c0 c1 c2 c3 c4 c5 c6 b0 b1 b2 b3 b4 b5 b6
 go_quiet ((go_at_call 144;exact Calls.quiet_of_same ((i.o _).mono fun _ _ ⟨he,hm⟩=>⟨he,hm⟩)))
 go_wp2;refine bodyPost_ret (v:=Qaa 6 p) (by simp[results,results87,go_sem,d0,d1]) rfl ⟨rfl,?_⟩;exact ((Ze j.o _).setCell (Nat.le_refl _) _).setCell (Nat.le_refl _) _
theorem Q78:(prog.info? 218).map (·.comparable)=some true:=by kernel_rfl
theorem Q73:(prog.info? 398).map (·.size)=some 1:=by kernel_rfl
theorem Q62 (f:Nat→Addr) (w:World) (h:Qbs w f) (hg:ErrT w) (r q:Nat) (p:ByteArray) (hr:w.heap[r]?=some (.cells #[.string p,.iface 218 (.pointer (some ⟨q,0,none⟩))] 221 (0,0))) :
  Calls prog 87 #[.iface 219 (.pointer (some ⟨r,0,none⟩))] w fun e w'=>e=.returned (Qaa 8 p)∧Below w.heap.size w w':=by
 obtain⟨ic,D,x⟩:=Option.map_eq_some_iff.1 Q78;obtain⟨jc,A,G⟩:=Option.map_eq_some_iff.1 Q73;obtain⟨c0,c1,c2,c3,c4,c5,c6⟩:=h.cells;have b0:3<w.heap.size:=Qk c0;have b1:4<w.heap.size:=Qk c1;have b2:0<w.heap.size:=Qk c2;have b3:1<w.heap.size:=Qk c3;have b4:2<w.heap.size:=Qk c4;have b5:6<w.heap.size:=Qk c5;have b6:5<w.heap.size:=Qk c6;have K:=Qwc (.pointer (some ⟨r,0,none⟩));have hq:=fun w=>Qj9 w 219 (.pointer (some ⟨r,0,none⟩))
 have J:=fun w=>run_eql_iface_types (P:=prog) 218 370 (.pointer (some ⟨q,0,none⟩)) (.pointer (some (f 5))) underlying135 (by decide) w
 have he:=fun w=>run_eql_iface_ptr_same (P:=prog) w ⟨q,0,none⟩ underlying135 underlying218 D x A
 obtain⟨W1,c⟩:∃ W1,W1=((w.alloc (.cells #[.int .i64 0,.string ⟨#[]⟩] 63)).alloc (.cells #[.nilIface,.iface 370 (.pointer (some (f 0))),.iface 370 (.pointer (some (f 1))),.iface 370 (.pointer (some (f 2))),.iface 370 (.pointer (some (f 3))),.iface 370 (.pointer (some (f 4))),.nilIface,.iface 370 (.pointer (some (f 6)))] 135)).alloc (.cells #[.pointer none] 218):=⟨_,rfl⟩
 have d:Below w.heap.size w W1:=by rw[c];exact ((Qa w _).alloc (by simp) _).alloc (by simp;omega) _
 have g:W1.heap[w.heap.size]?=some (.cells #[.int .i64 0,.string ⟨#[]⟩] 63 (0,0)):=by rw[c,heap_alloc_old _ _ (by simp;omega),heap_alloc_old _ _ (by simp),heap_alloc_new]
 have n:W1.heap[w.heap.size+1+1]?=some (.cells #[.pointer none] 218 (0,0)):=by have e:=heap_alloc_new ((w.alloc (.cells #[.int .i64 0,.string ⟨#[]⟩] 63)).alloc (.cells #[.nilIface,.iface 370 (.pointer (some (f 0))),.iface 370 (.pointer (some (f 1))),.iface 370 (.pointer (some (f 2))),.iface 370 (.pointer (some (f 3))),.iface 370 (.pointer (some (f 4))),.nilIface,.iface 370 (.pointer (some (f 6)))] 135)) (.cells #[.pointer none] 218);rw[←c] at e;rw[show w.heap.size+1+1=((w.alloc (.cells #[.int .i64 0,.string ⟨#[]⟩] 63)).alloc (.cells #[.nilIface,.iface 370 (.pointer (some (f 0))),.iface 370 (.pointer (some (f 1))),.iface 370 (.pointer (some (f 2))),.iface 370 (.pointer (some (f 3))),.iface 370 (.pointer (some (f 4))),.nilIface,.iface 370 (.pointer (some (f 6)))] 135)).heap.size by simp];exact e
 have j:=(d.block _ (Qc hr)).trans hr;have I:=Qc hr;have k1:W1.cell? ⟨r,1,none⟩=some (.iface 218 (.pointer (some ⟨q,0,none⟩))):=Qd j 1 rfl;have k5:=(d.cell b5).trans c5;have kg:ErrT W1:=(d.cell (Qk hg)).trans hg;have m:=zh d;have z:=zh j;have y:=zh g;have l:=zh n;have C:=zh kg;have F:w.heap.size<W1.heap.size:=Qc g;have t:=zh c;clear h d g j c hr n kg hg
 go_enter func87,ntmps87
 go_upto_region 9 with fail
 rw[←t.o];clear t c0 c1 c2 c3 c4 c5 c6 b0 b1 b2 b3 b4 b5 b6
 go_quiet (fail)
 go_upto_region 11 with fail
 obtain⟨W2,a⟩:∃ W2,W2=W1.drewN nq:=⟨_,rfl⟩
 have E:=zh a;rw[←a];have k2:W2.cell? ⟨r,1,none⟩=some (.iface 218 (.pointer (some ⟨q,0,none⟩))):=by rw[a];exact k1
 have AS:=zh (Q77 q r (w.heap.size+1+1) W2.drew (.pointer none) (show W2.cell? _=_ by rw[a];exact C.o) k2 (show W2.cell? _=_ by rw[a];exact Qd l.o 0 rfl) (show W2.frozen? _=_ by rw[a];exact Qs l.o 0));clear a k1 k5
 go_cut [39] from 39 to 51 (fun s39 wx=>s39=.bool true∧Aside (Fr (·=w.heap.size+1+1) W2 wx))
 case first=>
  go_region_law (go_simp;go_at_call 145;go_must (refine (AS.o).mono ?_;rintro e w3 ⟨rfl,H,u⟩;have i:=(Fr.refl (·=w.heap.size+1+1) W2).drew.trans u;have K32:=zh i;have L:=i.cell k2 (show ¬ r=w.heap.size+1+1 by omega);clear u i))
  all_goals (
   go_wp2_with fail
   go_meet
   exact⟨rfl,K32.o⟩)
 case rest=>
  obtain⟨rfl,HF⟩:=hcut;have hb:Fr (·=w.heap.size+1+1) W1 wc:=by
   have:=HF.o
   rw[E.o] at this;exact ((Fr.refl _ W1).drewN nq).trans this
  have b:=hb.heap y.o (show ¬ w.heap.size=w.heap.size+1+1 by omega);have s:=hb.heap z.o (show ¬ r=w.heap.size+1+1 by omega);have B:=zh (m.o.trans (hb.below m.o.size fun k hk e=>by omega));have d0:=Qd b 0 rfl;have d1:=Qd b 1 rfl;have g0:=Qs b 0;have g1:=Qs b 1;have m0:=Qd s 0 rfl;clear b s hb k2;go_wp2;refine bodyPost_ret (v:=Qaa 8 p) (by simp[results,results87,go_sem,d0,d1]) rfl ⟨rfl,?_⟩;exact (B.o.setCell (Nat.le_refl _) _).setCell (Nat.le_refl _) _
end
section
open Go.RowKit Go.MuLone
def Qpz (F:Nat→Addr) (w:World) (base:Nat) (t:Tld) (u:Value):Prop:=
 (t=Qdk∧u=.nilIface)∨(∃ i,i<7∧i≠5∧t=(Qcz i,⟨#[]⟩)∧u=.iface 370 (.pointer (some (F i))))∨∃ p,t=(6,p)∧Y8 F w base p u
variable {F:Nat→Addr} {w:World} {base:Nat} {t:Tld} {u:Value}
theorem Q61 (hs:Qbs w F) (h:Qpz F w base t u):Calls prog 87 #[u] w fun e w'=>e=.returned (Qaa t.1 t.2)∧Below w.heap.size w w':=by
 rcases h with ⟨rfl,rfl⟩|⟨i,hi,h5,rfl,rfl⟩|⟨p,rfl,q,rfl,_,hq⟩
 ·exact Qvy F w hs
 ·exact Qjo F w hs i hi h5
 ·exact Q1n F w hs q p hq
variable {w':World}
theorem Qpz.fr {S:Nat→Prop} (h:Qpz F w base t u) (hf:Fr S w w') (hn:∀ k C fz,w.heap[k]?=some (.cells C 221 fz)→¬ S k):Qpz F w' base t u:=by
 rcases h with h|h|⟨p,h1,q,h2,h3,h4⟩
 ·exact .inl h
 ·exact .inr (.inl h)
 ·exact .inr (.inr ⟨p,h1,q,h2,h3,hf.heap h4 (hn _ _ _ h4)⟩)
theorem Q6m (w:World) (base:Nat) (v:Value) (l:List UInt8) (h:Qy w base v l) :
  Calls prog 152 #[v] w fun e w'=>∃ v',e=.returned v'∧Qy w base v' l∧v'.ownBlock=v.ownBlock∧w'=w:=by
 rcases h with ⟨rfl,rfl⟩|⟨b,off,c,C,fz,rfl,h1,h2,h3,h4,h5,h6⟩
 ·go_enter func152,ntmps152
  go_wp2;refine bodyPost_ret (results_tmp rfl _ _ _) rfl ⟨.slice none 0 0,rfl,.inl ⟨rfl,rfl⟩,rfl,rfl⟩
 ·obtain⟨n,hn⟩:∃ n,n=l.length:=⟨_,rfl⟩
  rw[←hn] at h1 h5 ⊢;have e1:(n:Int)≤c:=by omega
  have HN:=zh hn;clear hn
  go_enter func152,ntmps152
  go_wp2;refine bodyPost_ret (results_tmp rfl _ _ _) rfl ⟨.slice (some ⟨b,off,none⟩) n n,rfl,.inr ⟨b,off,n,C,fz,by rw[HN.o],by rw[HN.o];exact Nat.le_refl _,h2,h3,h4,by rw[←HN.o];exact h5,h6⟩,rfl,rfl⟩
section
variable {o1 o2:OutT}
theorem OwnB.o {v:Value} {l:List UInt8} (h : @OwnB ⟨o1⟩ w 0 v l) (hb:Below w.heap.size w w') (ho:∀ z,o2.blk=some z→w.heap.size≤z) : @OwnB ⟨o2⟩ w' 0 v l:=by
 refine⟨h.1.below hb,fun z hz e=>?_⟩;have a:=ho z hz;rcases h.1 with ⟨rfl,_⟩|⟨b,off,c,C,fz,rfl,_,h2,h3,_⟩
 ·cases e
 ·simp[Value.ownBlock] at e
  have:=Qc h3
  omega
variable {qs:List CEnt}
theorem Z3.o {g m:Nat} {c:Cch} (h : @Z3 ⟨o1⟩ w g m c qs) (hb:Below w.heap.size w w') (ho:∀ z,o2.blk=some z→w.heap.size≤z) : @Z3 ⟨o2⟩ w' g m c qs:=by obtain⟨r1,r2,r3,r4,r5,r6,r7,r8⟩:=@Z3.fr ⟨o1⟩ w w' g m c qs h (fun _=>False) (Fr.ofBelow hb) (fun _ _=>id) (fun _ _ _ _=>id);obtain⟨_,_,v3,_⟩:=h;exact @Z3.mk ⟨o2⟩ _ _ _ _ _ r1 r2 (fun q hq=>OwnB.o (v3 q hq) hb ho) r4 r5 r6 r7 r8
theorem QIs.outB {q:Qf} {x:Qv} {N:Nat} {s:Cs} {d:Dk} (h : @QIs ⟨o1⟩ w q x N s d) (hb:Below w.heap.size w w') (ho:∀ z,o2.blk=some z→w.heap.size≤z∧z<w'.heap.size) : @QIs ⟨o2⟩ w' q x N s d:=by obtain⟨b1,b2,b3,b4,b5,b6,b7,b8,b9,a,i,g,b,c,f,j⟩:=@QIs.below ⟨o1⟩ w w' q x N s d h hb;obtain⟨_,_,_,a4,_,_,_,_,_,_,e,_⟩:=h;exact @QIs.mk ⟨o2⟩ _ _ _ _ _ _ b1 b2 b3 (fun y hy=>OwnB.o (a4 y hy) hb fun z hz=>(ho z hz).1) b5 b6 b7 b8 b9 a (Z3.o e hb fun z hz=>(ho z hz).1) g b c f fun z hz=>(ho z hz).2
theorem ClM.back {mu:Int} {gc gk mc:Nat} {vf:Value} {c:Cl} (h : @ClM ⟨o1⟩ mu w gc gk mc vf c qs) (hf:Fr (fun k=>o1.blk=some k) w w') (hn:∀ z,o1.blk=some z→∃ C fz,w.heap[z]?=some (.cells C 5 fz)):ClM mu w' gc gk mc vf c qs:=by
 obtain⟨d,a⟩:=h;have f:=@Qbl ⟨o1⟩ _ _ _ _ _ a;have hk:∀ k,clS gc gk mc qs k→¬ o1.blk=some k:=fun k hk e=>by
  obtain⟨C,fz,hC⟩:=hn k e;rcases hk with rfl|hk
  ·rw[d] at hC;cases hC
  ·exact Yk f hC (by decide) hk
 obtain⟨r1,r2,r3,r4,r5,r6,r7,r8⟩:=a;refine⟨hf.heap d (hk _ (.inl rfl)),?_⟩;have hr:Ji w' gk mc c.cache.most (qs.map CEnt.tri):=r1.fr hf (hk _ (.inr (.inl rfl))) fun b hb=>hk _ (.inr (.inr (.inr (by rw[Qcy] at hb;exact hb))))
 refine⟨hr,r2,fun q hq=>⟨?_,fun z hz=>by cases hz⟩,r4.fr hf (hk _ (.inr (.inr (.inl rfl)))),r5,r6,r7,r8⟩;have h1:=r3 q hq;rcases h1.1 with ⟨e1,e2⟩|⟨b,off,cc,C,fz,e,a1,a2,a3,a4,a5,a6⟩
 ·exact .inl ⟨e1,e2⟩
 ·refine .inr ⟨b,off,cc,C,fz,e,a1,a2,hf.heap a3 fun hz=>?_,a4,a5,a6⟩
  exact h1.2 b hz (by rw[e];rfl)
end
end
section
theorem Qch (leaf:Hsh) (i n:Nat):rebuild leaf i n []=if n=1 then some leaf else none:=by simp[rebuild,Qk0]
theorem Qeh (leaf last:Hsh) (i n:Nat) (q:List Hsh):rebuild leaf i n (q ++ [last])=if n=1 then none else if i<below n then (rebuild leaf i (below n) q).map (Z1 · last) else (rebuild leaf (i-below n) (n-below n) q).map (Z1 last ·):=by unfold rebuild below;rw[List.reverse_append];rfl
end
section
def Qvs (leaf:Hsh) (i n:Nat) (p:List Hsh) (w:World) (e:Ending) (w':World):Prop:=
 ∃ s:Hsh,e=.returned (.tuple #[.agg (h8 s),.bool (rebuild leaf i n p).isSome])∧(∀ h,rebuild leaf i n p=some h→s=h)∧Below w.heap.size w w'
theorem Q5t (q:List Hsh):(q.flatMap fun h=>(h8 h).toList).length=q.length*8:=by
 induction q with
 | nil=>rfl
 | cons y q ih=>rw[List.flatMap_cons,List.length_append,ih,List.length_cons];simp;omega
theorem Qh4 {w:World} {a:Option Addr} {c m:Nat} {q:List Hsh} {x:Hsh} (h:Qb1 w (.slice a (m+1) c) (q ++ [x])) (hm:q.length=m) :
  ∃ b off,a=some ⟨b,off,none⟩∧m+1≤c∧(∀ j (hj:j<8),w.cell? ⟨b,off+m*8+j,none⟩=some (u8 x[j]))∧Qb1 w (.slice (some ⟨b,off,none⟩) m c) q:=by
 obtain⟨a',c',hv,d,hc⟩:=h;have hl:(q.flatMap fun h=>(h8 h).toList).length=m*8:=by rw[Q5t,hm]
 simp only[Value.slice.injEq] at hv;obtain⟨rfl,_,rfl⟩:=hv;have hg:∀ j (hj:j<8),((q ++ [x]).flatMap fun h=>(h8 h).toList)[m*8+j]?=some (u8 x[j]):=fun j hj=>by
  rw[List.flatMap_append,List.getElem?_append_right (by omega),hl]
  have:m*8+j-m*8=j:=by omega
  rw[this];simp[h8,hj]
 obtain⟨b,off,rfl,_⟩:=hc _ _ (hg 0 (by omega));refine⟨b,off,rfl,by simpa [hm] using d,fun j hj=>?_,⟨_,c,by rw[hm],by simp at d;omega,fun j y hy=>?_⟩⟩
 ·obtain⟨b',off',f,e⟩:=hc _ _ (hg j hj)
  cases f;rw[Nat.add_assoc];exact e
 ·refine hc j y ?_
  rw[List.flatMap_append,List.getElem?_append_left (List.getElem?_eq_some_iff.1 hy).1];exact hy
section
attribute [local go_sem] h8_0 h8_1 h8_2 h8_3 h8_4 h8_5 h8_6 h8_7 Qbm h8_size
theorem Qu4 (m:Nat):∀ (p:List Hsh) (leaf:Hsh) (i n:Int) (v:Value) (w:World),p.length=m→Qb1 w v p→0≤i→i<n→n≤9223372036854775807→m≤1048576→
  Calls prog 194 #[.agg (h8 leaf),.int .i64 i,.int .i64 n,v] w (Qvs leaf i.toNat n.toNat p w):=by
 induction m with
 | zero=>
  intro p leaf i n v w hp h h0 hi hn hm;obtain rfl:p = []:=List.eq_nil_of_length_eq_zero hp;obtain⟨a,c,rfl,C,_⟩:=h;clear hp;by_cases h1:n=1
  ·subst h1
   go_enter func194,ntmps194
   go_wp2_with (first|((first|refine Qz rfl 143 _ rfl _ rfl _ underlying143 info8 ?_ ?_ ?_|refine Qt rfl 143 _ _ rfl _ _ rfl rfl info8 ?_ ?_ ?_);rotate_left;focus((repeat(first|(with_reducible first|assumption|exact Qj ⟨_,by assumption⟩ _)|((with_reducible first|refine Qh ?_|refine Q2 ?_|refine Qj (Zb ?_) _);(first|rfl|(simp;done)|(simp;omega)))|with_reducible refine Qp ?_ _|((with_reducible refine Qi ?_ _ ?_);rotate_left;(focus(first|(simp;done)|(simp;omega)|omega)))|with_reducible first|refine Qo ?_|refine Qg ?_ (by assumption)));done)))
   refine ret8t (w.heap.size+1) leaf (.bool true) rfl rfl rfl _ underlying143 info8 (Qj (Zb (by simp)) _) rfl ⟨leaf,by simp[Qch],?_,below_setRow ((Qa w _).alloc (by simp) _) (by omega) _⟩;intro h hh;simp[Qch] at hh;exact hh
  ·have hd:(n == 1)=false:=by simpa using h1
   go_enter func194,ntmps194
   go_wp2_with (first|(refine Qz rfl 143 _ rfl _ rfl _ underlying143 info8 ?_ ?_ ?_;rotate_left;focus ((repeat(first|(with_reducible first|assumption|exact Qj ⟨_,by assumption⟩ _)|((with_reducible first|refine Qh ?_|refine Q2 ?_|refine Qj (Zb ?_) _);(first|rfl|(simp;done)|(simp;omega)))|with_reducible refine Qp ?_ _|((with_reducible refine Qi ?_ _ ?_);rotate_left;(focus(first|(simp;done)|(simp;omega)|omega)))|with_reducible first|refine Qo ?_|refine Qg ?_ (by assumption)));done))|(refine Qt rfl 143 _ _ rfl _ zero8 rfl (by rw[Qmw];rfl) info8 ?_ ?_ ?_;rotate_left;focus ((repeat(first|(with_reducible first|assumption|exact Qj ⟨_,by assumption⟩ _)|((with_reducible first|refine Qh ?_|refine Q2 ?_|refine Qj (Zb ?_) _);(first|rfl|(simp;done)|(simp;omega)))|with_reducible refine Qp ?_ _|((with_reducible refine Qi ?_ _ ?_);rotate_left;(focus(first|(simp;done)|(simp;omega)|omega)))|with_reducible first|refine Qo ?_|refine Qg ?_ (by assumption)));done)))
   have hr:rebuild leaf i.toNat n.toNat []=none:=by rw[Qch,if_neg (by omega)]
   refine ret8t (w.heap.size+1) zero8 (.bool false) rfl rfl rfl _ underlying143 info8 (Qj (Zb (by simp)) _) rfl ⟨zero8,by rw[hr];rfl,(fun h hh=>by rw[hr] at hh;cases hh),below_setRow ((Qa w _).alloc (by simp) _) (by omega) _⟩
 | succ m ih=>
  intro p leaf i n v w hp h h0 hi hn hm;obtain⟨q,last,rfl⟩:∃ q last,p=q ++ [last]:=⟨p.dropLast,p.getLast (by intro e;simp[e] at hp),(List.dropLast_concat_getLast _).symm⟩
  have hq:q.length=m:=by simpa using hp
  obtain⟨a,c,hv,_⟩:=id h;rw[hp] at hv;subst hv;obtain⟨b,off,rfl,C,d,x⟩:=Qh4 h hq;have HQ:=zh x;have IH:=zh ih;have HL:=zh hq;have HP:=zh hp;clear ih h x hq hp;by_cases h1:n=1
  ·subst h1
   have D:((m:Int)+1 == 0)=false:=by rw[beq_eq_false_iff_ne];omega
   go_enter func194,ntmps194
   go_wp2_with (first|((first|refine Qz rfl 143 _ rfl _ rfl _ underlying143 info8 ?_ ?_ ?_|refine Qt rfl 143 _ _ rfl _ _ rfl rfl info8 ?_ ?_ ?_);rotate_left;focus((repeat(first|(with_reducible first|assumption|exact Qj ⟨_,by assumption⟩ _)|((with_reducible first|refine Qh ?_|refine Q2 ?_|refine Qj (Zb ?_) _);(first|rfl|(simp;done)|(simp;omega)))|with_reducible refine Qp ?_ _|((with_reducible refine Qi ?_ _ ?_);rotate_left;(focus(first|(simp;done)|(simp;omega)|omega)))|with_reducible first|refine Qo ?_|refine Qg ?_ (by assumption)));done)))
   have hr:rebuild leaf i.toNat (1:Int).toNat (q ++ [last])=none:=by rw[Qeh,if_pos (by decide)]
   refine ret8t (w.heap.size+1) leaf (.bool false) rfl rfl rfl _ underlying143 info8 (Qj (Zb (by simp)) _) rfl ⟨leaf,by rw[hr];rfl,(fun h hh=>by rw[hr] at hh;cases hh),below_setRow ((Qa w _).alloc (by simp) _) (by omega) _⟩
  ·have hd:(n == 1)=false:=by simpa using h1
   have A:=Qe4 (n:=n.toNat) (by omega) (by omega);have hr:=Qeh leaf last i.toNat n.toNat q;rw[if_neg (by omega)] at hr;obtain⟨k,hk⟩:∃ k,k=below n.toNat:=⟨_,rfl⟩
   rw[←hk] at A hr;obtain⟨H,u,J⟩:=A;have HR:=zh hr;have HK:=zh hk;clear hr hk;have c0:w.cell? ⟨b,off+m*8,none⟩=some (u8 last[0]):=d 0 (by decide);have c1:=d 1 (by decide);have c2:=d 2 (by decide);have c3:=d 3 (by decide);have c4:=d 4 (by decide);have c5:=d 5 (by decide);have c6:=d 6 (by decide);have c7:=d 7 (by decide);have E:=zh d;have B:=Qa7 (P:=prog) (w:=(((w.alloc (.cells (h8 leaf) 143)).alloc (.cells zc 143)).alloc (.cells zc 143)).drew) (g:=w.heap.size+1+1) last ⟨zero8,Qo (Qh (by simp))⟩;have I:b<w.heap.size:=Qk c0;have F:b<w.heap.size+1:=by omega
   have G:b<w.heap.size+1+1:=by omega
   have D:((m:Int)+1 == 0)=false:=by rw[beq_eq_false_iff_ne];omega
   clear d;by_cases hik:i<(k:Int)
   ·go_enter func194,ntmps194
    go_wp2_with fail
    go_region;have f1:Qw (((((w.alloc (.cells (h8 leaf) 143)).alloc (.cells zc 143)).alloc (.cells zc 143)).drew).setRow (w.heap.size+1+1) (h8 last)) w.heap.size leaf:=Qi (Qo (Qp (Qp (Qe3 w leaf) _) _)) _ (by omega);have f2:Qw (((((w.alloc (.cells (h8 leaf) 143)).alloc (.cells zc 143)).alloc (.cells zc 143)).drew).setRow (w.heap.size+1+1) (h8 last)) (w.heap.size+1) zero8:=Qi (Qo (Qp (Qh (by simp)) _)) _ (by omega);have f3:Qw (((((w.alloc (.cells (h8 leaf) 143)).alloc (.cells zc 143)).alloc (.cells zc 143)).drew).setRow (w.heap.size+1+1) (h8 last)) (w.heap.size+1+1) last:=Qx (Qo (Qh (by simp))) _;have f4:Below w.heap.size w (((((w.alloc (.cells (h8 leaf) 143)).alloc (.cells zc 143)).alloc (.cells zc 143)).drew).setRow (w.heap.size+1+1) (h8 last)):=below_setRow (((((Qa w _).alloc (by simp) _).alloc (by simp;omega) _).drew)) (by omega) _;have f5:(((((w.alloc (.cells (h8 leaf) 143)).alloc (.cells zc 143)).alloc (.cells zc 143)).drew).setRow (w.heap.size+1+1) (h8 last)).heap.size=w.heap.size+1+1+1:=by simp
    have F4:=zh f4;have F5:=zh f5;clear f4 f5 B;generalize (((((w.alloc (.cells (h8 leaf) 143)).alloc (.cells zc 143)).alloc (.cells zc 143)).drew).setRow (w.heap.size+1+1) (h8 last))=W2 at *
    go_wp2_with fail
    refine (Qb2 _ _ (by omega) (by omega)).mono ?_;rintro e w0 ⟨rfl,rfl⟩;rw[←HK.o]
    go_wp2_with (refine Qz rfl 143 _ rfl _ rfl _ underlying143 info8 ?_ ?_ ?_;rotate_left;focus ((repeat(first|(with_reducible first|assumption|exact Qj ⟨_,by assumption⟩ _)|((with_reducible first|refine Qh ?_|refine Q2 ?_|refine Qj (Zb ?_) _);(first|rfl|(simp;done)|(simp;omega)))|with_reducible refine Qp ?_ _|((with_reducible refine Qi ?_ _ ?_);rotate_left;(focus(first|(simp;done)|(simp;omega)|omega)))|with_reducible first|refine Qo ?_|refine Qg ?_ (by assumption)));done))
    refine (IH.o q leaf i k _ _ HL.o (Qe2.below HQ.o F4.o) h0 hik (by omega) (by omega)).mono ?_;rintro e w1 ⟨s,rfl,j,hb⟩;have hz:w.heap.size+3≤w1.heap.size:=by have:=hb.size;rw[F5.o] at this;omega
    have g2:=Qg f2 hb;have g3:=Qg f3 hb;have z:=zh j;have F6:=zh (F4.o.trans (hb.mono F4.o.size));clear j f1 f2 f3 hb;obtain⟨r,f⟩:∃ r,r=rebuild leaf i.toNat (k:Int).toNat q:=⟨_,rfl⟩
    rw[←f];have t:=zh f;clear f
    go_wp2_with (first|((first|refine Qz rfl 143 _ rfl _ rfl _ underlying143 info8 ?_ ?_ ?_|refine Qt rfl 143 _ _ rfl _ _ rfl rfl info8 ?_ ?_ ?_);rotate_left;focus((repeat(first|(with_reducible first|assumption|exact Qj ⟨_,by assumption⟩ _)|((with_reducible first|refine Qh ?_|refine Q2 ?_|refine Qj (Zb ?_) _);(first|rfl|(simp;done)|(simp;omega)))|with_reducible refine Qp ?_ _|((with_reducible refine Qi ?_ _ ?_);rotate_left;(focus(first|(simp;done)|(simp;omega)|omega)))|with_reducible first|refine Qo ?_|refine Qg ?_ (by assumption)));done)))
    refine (Qbz s last _).mono ?_;rintro e w2 ⟨rfl,u⟩;have k2:Qw w2 (w.heap.size+1) zero8:=by
     (repeat(first|(with_reducible first|assumption|exact Qj ⟨_,by assumption⟩ _)|((with_reducible first|refine Qh ?_|refine Q2 ?_|refine Qj (Zb ?_) _);(first|rfl|(simp;done)|(simp;omega)))|with_reducible refine Qp ?_ _|((with_reducible refine Qi ?_ _ ?_);rotate_left;(focus(first|(simp;done)|(simp;omega)|omega)))|with_reducible first|refine Qo ?_|refine Qg ?_ (by assumption)))
    have F7:Below w.heap.size w w2:=(below_setRow (F6.o.alloc F6.o.size _) F6.o.size _).trans (u.mono (by simp;omega))
    go_wp2_with (first|(refine Qt rfl 143 _ _ rfl _ _ rfl rfl info8 ?_ ?_ ?_;rotate_left;focus ((repeat(first|(with_reducible first|assumption|exact Qj ⟨_,by assumption⟩ _)|((with_reducible first|refine Qh ?_|refine Q2 ?_|refine Qj (Zb ?_) _);(first|rfl|(simp;done)|(simp;omega)))|with_reducible refine Qp ?_ _|((with_reducible refine Qi ?_ _ ?_);rotate_left;(focus(first|(simp;done)|(simp;omega)|omega)))|with_reducible first|refine Qo ?_|refine Qg ?_ (by assumption)));done)))
    have l:rebuild leaf i.toNat n.toNat (q ++ [last])=r.map (Z1 · last):=by rw[HR.o,if_pos (by omega),t.o];rfl
    refine ret8t (w.heap.size+1) (Z1 s last) (.bool r.isSome) rfl rfl rfl _ underlying143 info8 (Qx k2 _) rfl ⟨_,by rw[l,Option.isSome_map],fun h hh=>?_,below_setRow F7 (by omega) _⟩;rw[l] at hh;obtain⟨h',y,rfl⟩:=Option.map_eq_some_iff.1 hh;rw[z.o h' (by rw[←t.o];exact y)]
   ·go_enter func194,ntmps194
    go_wp2_with fail
    go_region;have f1:Qw (((((w.alloc (.cells (h8 leaf) 143)).alloc (.cells zc 143)).alloc (.cells zc 143)).drew).setRow (w.heap.size+1+1) (h8 last)) w.heap.size leaf:=Qi (Qo (Qp (Qp (Qe3 w leaf) _) _)) _ (by omega);have f2:Qw (((((w.alloc (.cells (h8 leaf) 143)).alloc (.cells zc 143)).alloc (.cells zc 143)).drew).setRow (w.heap.size+1+1) (h8 last)) (w.heap.size+1) zero8:=Qi (Qo (Qp (Qh (by simp)) _)) _ (by omega);have f3:Qw (((((w.alloc (.cells (h8 leaf) 143)).alloc (.cells zc 143)).alloc (.cells zc 143)).drew).setRow (w.heap.size+1+1) (h8 last)) (w.heap.size+1+1) last:=Qx (Qo (Qh (by simp))) _;have f4:Below w.heap.size w (((((w.alloc (.cells (h8 leaf) 143)).alloc (.cells zc 143)).alloc (.cells zc 143)).drew).setRow (w.heap.size+1+1) (h8 last)):=below_setRow (((((Qa w _).alloc (by simp) _).alloc (by simp;omega) _).drew)) (by omega) _;have f5:(((((w.alloc (.cells (h8 leaf) 143)).alloc (.cells zc 143)).alloc (.cells zc 143)).drew).setRow (w.heap.size+1+1) (h8 last)).heap.size=w.heap.size+1+1+1:=by simp
    have F4:=zh f4;have F5:=zh f5;clear f4 f5 B;generalize (((((w.alloc (.cells (h8 leaf) 143)).alloc (.cells zc 143)).alloc (.cells zc 143)).drew).setRow (w.heap.size+1+1) (h8 last))=W2 at *
    go_wp2_with fail
    refine (Qb2 _ _ (by omega) (by omega)).mono ?_;rintro e w0 ⟨rfl,rfl⟩;rw[←HK.o]
    go_wp2_with (refine Qz rfl 143 _ rfl _ rfl _ underlying143 info8 ?_ ?_ ?_;rotate_left;focus ((repeat(first|(with_reducible first|assumption|exact Qj ⟨_,by assumption⟩ _)|((with_reducible first|refine Qh ?_|refine Q2 ?_|refine Qj (Zb ?_) _);(first|rfl|(simp;done)|(simp;omega)))|with_reducible refine Qp ?_ _|((with_reducible refine Qi ?_ _ ?_);rotate_left;(focus(first|(simp;done)|(simp;omega)|omega)))|with_reducible first|refine Qo ?_|refine Qg ?_ (by assumption)));done))
    refine (IH.o q leaf (i-k) (n-k) _ _ HL.o (Qe2.below HQ.o F4.o) (by omega) (by omega) (by omega) (by omega)).mono ?_;rintro e w1 ⟨s,rfl,j,hb⟩;have hz:w.heap.size+3≤w1.heap.size:=by have:=hb.size;rw[F5.o] at this;omega
    have g2:=Qg f2 hb;have g3:=Qg f3 hb;have z:=zh j;have F6:=zh (F4.o.trans (hb.mono F4.o.size));clear j f1 f2 f3 hb;obtain⟨r,f⟩:∃ r,r=rebuild leaf (i-k).toNat (n-k).toNat q:=⟨_,rfl⟩
    rw[←f];have t:=zh f;clear f
    go_wp2_with (first|((first|refine Qz rfl 143 _ rfl _ rfl _ underlying143 info8 ?_ ?_ ?_|refine Qt rfl 143 _ _ rfl _ _ rfl rfl info8 ?_ ?_ ?_);rotate_left;focus((repeat(first|(with_reducible first|assumption|exact Qj ⟨_,by assumption⟩ _)|((with_reducible first|refine Qh ?_|refine Q2 ?_|refine Qj (Zb ?_) _);(first|rfl|(simp;done)|(simp;omega)))|with_reducible refine Qp ?_ _|((with_reducible refine Qi ?_ _ ?_);rotate_left;(focus(first|(simp;done)|(simp;omega)|omega)))|with_reducible first|refine Qo ?_|refine Qg ?_ (by assumption)));done)))
    refine (Qbz last s _).mono ?_;rintro e w2 ⟨rfl,u⟩;have k2:Qw w2 (w.heap.size+1) zero8:=by
     (repeat(first|(with_reducible first|assumption|exact Qj ⟨_,by assumption⟩ _)|((with_reducible first|refine Qh ?_|refine Q2 ?_|refine Qj (Zb ?_) _);(first|rfl|(simp;done)|(simp;omega)))|with_reducible refine Qp ?_ _|((with_reducible refine Qi ?_ _ ?_);rotate_left;(focus(first|(simp;done)|(simp;omega)|omega)))|with_reducible first|refine Qo ?_|refine Qg ?_ (by assumption)))
    have F7:Below w.heap.size w w2:=(below_setRow (F6.o.alloc F6.o.size _) F6.o.size _).trans (u.mono (by simp;omega))
    go_wp2_with (first|(refine Qt rfl 143 _ _ rfl _ _ rfl rfl info8 ?_ ?_ ?_;rotate_left;focus ((repeat(first|(with_reducible first|assumption|exact Qj ⟨_,by assumption⟩ _)|((with_reducible first|refine Qh ?_|refine Q2 ?_|refine Qj (Zb ?_) _);(first|rfl|(simp;done)|(simp;omega)))|with_reducible refine Qp ?_ _|((with_reducible refine Qi ?_ _ ?_);rotate_left;(focus(first|(simp;done)|(simp;omega)|omega)))|with_reducible first|refine Qo ?_|refine Qg ?_ (by assumption)));done)))
    have l:rebuild leaf i.toNat n.toNat (q ++ [last])=r.map (Z1 last ·):=by
     rw[HR.o,if_neg (by omega),t.o]
     congr 2 <;> omega
    refine ret8t (w.heap.size+1) (Z1 last s) (.bool r.isSome) rfl rfl rfl _ underlying143 info8 (Qx k2 _) rfl ⟨_,by rw[l,Option.isSome_map],fun h hh=>?_,below_setRow F7 (by omega) _⟩;rw[l] at hh;obtain⟨h',y,rfl⟩:=Option.map_eq_some_iff.1 hh;rw[z.o h' (by rw[←t.o];exact y)]
end
theorem info8':∃ i,prog.info? 5=some i∧i.size=1:=by obtain⟨i0,hi,b,a,c⟩:=info_parts (show (prog.info? 5).map (fun i=>(i.zero,i.size,i.bytes))=some (some (.int .u8 0),1,1) by kernel_rfl);exact⟨i0,hi,a⟩
theorem Qbb (w:World) (xs:Array Value) (i:Nat) (v:Value) (h:xs[i]?=some v):Sem.run prog (Go.part 5 xs i) w=.ok v w:=by obtain⟨i0,hi,hs⟩:=info8';simp[Go.part,run_underlying underlying5,isAgg,sizeOf,typeInfo,hi,hs,h]
theorem Q8u (a b:Hsh) (e0:a[0]=b[0]) (e1:a[1]=b[1]) (e2:a[2]=b[2]) (e3:a[3]=b[3]) (e4:a[4]=b[4]) (e5:a[5]=b[5]) (e6:a[6]=b[6]) (e7:a[7]=b[7]):a=b:=by
 apply Vector.ext;intro i hi
 have:i=0∨i=1∨i=2∨i=3∨i=4∨i=5∨i=6∨i=7:=by omega
 rcases this with rfl|rfl|rfl|rfl|rfl|rfl|rfl|rfl <;> assumption
theorem eqn (w:World) (a b:Hsh):Sem.run prog (Op.equalIn 10000 143 (.agg (h8 a)) (.agg (h8 b))) w=.ok (some a == some b) w:=by
 rw[show (10000:Nat)=9998+1+1 from rfl,Op.equalIn];obtain⟨i0,hi,hs⟩:=info8';have hp:=fun w=>Qbb w (h8 a) 0 _ (h8_0 a)
 have i:=fun w=>Qbb w (h8 a) 1 _ (h8_1 a)
 have c:=fun w=>Qbb w (h8 a) 2 _ (h8_2 a)
 have d:=fun w=>Qbb w (h8 a) 3 _ (h8_3 a)
 have p:=fun w=>Qbb w (h8 a) 4 _ (h8_4 a)
 have o:=fun w=>Qbb w (h8 a) 5 _ (h8_5 a)
 have r:=fun w=>Qbb w (h8 a) 6 _ (h8_6 a)
 have k:=fun w=>Qbb w (h8 a) 7 _ (h8_7 a)
 have hq:=fun w=>Qbb w (h8 b) 0 _ (h8_0 b)
 have f:=fun w=>Qbb w (h8 b) 1 _ (h8_1 b)
 have l:=fun w=>Qbb w (h8 b) 2 _ (h8_2 b)
 have m:=fun w=>Qbb w (h8 b) 3 _ (h8_3 b)
 have n:=fun w=>Qbb w (h8 b) 4 _ (h8_4 b)
 have j:=fun w=>Qbb w (h8 b) 5 _ (h8_5 b)
 have g:=fun w=>Qbb w (h8 b) 6 _ (h8_6 b)
 have q:=fun w=>Qbb w (h8 b) 7 _ (h8_7 b)
 have he:=fun (w:World) (x y:UInt8)=>run_equalIn_int (P:=prog) (w:=w) 9998 5 .u8 .u8 x.toNat y.toNat underlying5
 simp only[Sem.run_bind,run_underlying underlying143,Result.andThen_ok,sizeOf,typeInfo];simp[hi,hs,Std.Legacy.Range.forIn_eq_forIn_range',List.range',Std.Legacy.Range.size,hp,i,c,d,p,o,r,k,hq,f,l,m,n,j,g,q,he];by_cases e:a=b
 ·subst e;simp
 ·have hI:∀ x y:UInt8,((x.toNat:Int)=(y.toNat:Int))=(x=y):=fun x y=>by apply propext;exact⟨fun h=>UInt8.toNat_inj.1 (by omega),fun h=>by rw[h]⟩
  have hf:(a == b)=false:=by rw[beq_eq_false_iff_ne];exact e
  simp only[hI,hf]
  repeat' split
  all_goals first|rfl|(exfalso;apply e;apply Q8u <;> assumption)
theorem Qlg (w:World) (a b:Hsh):Sem.run prog (binOp .eql 143 (.agg (h8 a)) (.agg (h8 b))) w=.ok (Value.bool (some a == some b)) w:=by rw[run_eql_struct,eqn];rfl
theorem Qqn (p:List Hsh) (leaf root:Hsh) (i n:Int) (v:Value) (w:World) (h:Qb1 w v p) (hi : -9223372036854775808≤i) (hn:n≤9223372036854775807) (hm:p.length≤1048576) :
  Calls prog 150 #[.agg (h8 leaf),.int .i64 i,.int .i64 n,v,.agg (h8 root)] w fun e w'=>e=.returned (.bool (included leaf i n p root))∧Below w.heap.size w w':=by
 obtain⟨a,c,hv,_⟩:=id h;by_cases h0:0≤i
 ·have hd:decide (i<0)=false:=by simp;omega
  by_cases hin:i<n
  ·have l:decide (n≤i)=false:=by simp;omega
   have d:included leaf i n p root=(rebuild leaf i.toNat n.toNat p == some root):=by simp[included,h0,hin]
   have HI:=zh d;have HH:=zh h;have HV:=zh hv;clear d h hv
   go_enter func150,ntmps150
   go_wp2_with (refine Qz rfl 143 _ rfl _ rfl _ underlying143 info8 ?_ ?_ ?_;rotate_left;focus ((repeat(first|(with_reducible first|assumption|exact Qj ⟨_,by assumption⟩ _)|((with_reducible first|refine Qh ?_|refine Q2 ?_|refine Qj (Zb ?_) _);(first|rfl|(simp;done)|(simp;omega)))|with_reducible refine Qp ?_ _|((with_reducible refine Qi ?_ _ ?_);rotate_left;(focus(first|(simp;done)|(simp;omega)|omega)))|with_reducible first|refine Qo ?_|refine Qg ?_ (by assumption)));done))
   refine (Qu4 p.length p leaf i n v _ rfl (Qe2.below HH.o ((Qa w _).alloc (by simp) _)) h0 hin hn hm).mono ?_;rintro e w1 ⟨s,rfl,j,hb⟩;have k:Below w.heap.size w w1:=((Qa w _).alloc (by simp) _).trans (hb.mono (by simp;omega));have b:=zh k;have hz:w.heap.size+2≤w1.heap.size:=by have:=hb.size;simp at this;omega
   have g1:Qw w1 (w.heap.size+1) root:=Qg (Q2 (by simp)) hb;have m:=zh j;clear j k hb;obtain⟨r,g⟩:∃ r,r=rebuild leaf i.toNat n.toNat p:=⟨_,rfl⟩
   rw[←g];have f:=zh g;clear g;have hq:=fun w=>Qlg w s root
   cases r with
   | none=>
    go_wp2_with (first|((first|refine Qz rfl 143 _ rfl _ rfl _ underlying143 info8 ?_ ?_ ?_|refine Qt rfl 143 _ _ rfl _ _ rfl rfl info8 ?_ ?_ ?_);rotate_left;focus((repeat(first|(with_reducible first|assumption|exact Qj ⟨_,by assumption⟩ _)|((with_reducible first|refine Qh ?_|refine Q2 ?_|refine Qj (Zb ?_) _);(first|rfl|(simp;done)|(simp;omega)))|with_reducible refine Qp ?_ _|((with_reducible refine Qi ?_ _ ?_);rotate_left;(focus(first|(simp;done)|(simp;omega)|omega)))|with_reducible first|refine Qo ?_|refine Qg ?_ (by assumption)));done)))
    go_ret;exact⟨Ym (by rw[HI.o,←f.o];rfl),below_setRow (b.o.alloc b.o.size _) b.o.size _⟩
   | some h=>
    obtain rfl:s=h:=m.o h f.o.symm
    go_wp2_with (first|((first|refine Qz rfl 143 _ rfl _ rfl _ underlying143 info8 ?_ ?_ ?_|refine Qt rfl 143 _ _ rfl _ _ rfl rfl info8 ?_ ?_ ?_);rotate_left;focus((repeat(first|(with_reducible first|assumption|exact Qj ⟨_,by assumption⟩ _)|((with_reducible first|refine Qh ?_|refine Q2 ?_|refine Qj (Zb ?_) _);(first|rfl|(simp;done)|(simp;omega)))|with_reducible refine Qp ?_ _|((with_reducible refine Qi ?_ _ ?_);rotate_left;(focus(first|(simp;done)|(simp;omega)|omega)))|with_reducible first|refine Qo ?_|refine Qg ?_ (by assumption)));done)))
    go_ret;refine⟨Ym ?_,below_setRow (b.o.alloc b.o.size _) b.o.size _⟩;rw[HI.o,←f.o];rfl
  ·have l:decide (n≤i)=true:=by simp;omega
   clear h;subst hv
   go_enter func150,ntmps150
   go_wp2;go_ret;exact⟨Ym (by simp[included];omega),(Qa w _).alloc (by simp) _⟩
 ·have hd:decide (i<0)=true:=by simp;omega
  clear h;subst hv
  go_enter func150,ntmps150
  go_wp2;go_ret;exact⟨Ym (by simp[included];omega),(Qa w _).alloc (by simp) _⟩
end
section
open Go.RowKit Go.MuLone
def Qlc (F:Nat→Addr) (w:World) (gc gk mc gn gd:Nat) (vl vt:Value) (qs:List CEnt) (r:Tld×(List UInt8×List Hsh)×Cl×Nt) (e:Ending) (w':World):Prop:=
 ∃ u v y,e=.returned (.tuple #[u,v,y])∧Qy w' w.heap.size u r.2.1.1∧Qcs w' w.heap.size v r.2.1.2∧Qpz F w' w.heap.size r.1 y∧
  ∃ qs',@ClM ⟨⟨u.ownBlock⟩⟩ 0 w' gc gk mc (.iface 48 (.pointer (some ⟨gn,0,none⟩))) r.2.2.1 qs'∧Y1 w' gn gd vl vt r.2.2.2∧Fr (cnS gc gk mc gn vt qs) w w'∧Sub w (cnS gc gk mc gn vt qs) (cnS gc gk mc gn vt qs')∧(r.1=Qdk∨u=.slice none 0 0)
variable {W:World} {gc:Nat} {u v y:Value}
theorem Qic {R:Ending→World→Prop} {T:Array Value} (h0:W.cell? ⟨gc,0,none⟩=some (.int .i32 1)) (h1:W.frozen? ⟨gc,0,none⟩=false) (hT4:T.getD 4 undef=u) (hT5:T.getD 5 undef=v) (hT6:T.getD 6 undef=y)
  (hR:R (.returned (.tuple #[u,v,y])) (W.setCell ⟨gc,0,none⟩ (.int .i32 0))) :
  bodyPostD prog f93 R Exit.ret { tmps:=T,defers:=[{ target:=.fn (.func 135) #[],args:=#[.pointer (some ⟨gc,0,none⟩)] }] } W:=by
 refine leaves_cons (f:=135) (args:=#[.pointer (some ⟨gc,0,none⟩)]) (by simp) (by simp[go_sem]) ?_;refine (unlock_deferred Q6d ⟨gc,0,none⟩ .returning W h0 h1).mono ?_;rintro e u' w'' ⟨rfl,rfl,rfl⟩;simp only[Leaves,settle];refine⟨.tuple #[u,v,y],?_,hR⟩;have a4:T[4]?.getD undef=u:=by simpa [Array.getD_eq_getD_getElem?] using hT4
 have a5:T[5]?.getD undef=v:=by simpa [Array.getD_eq_getD_getElem?] using hT5
 have a6:T[6]?.getD undef=y:=by simpa [Array.getD_eq_getD_getElem?] using hT6
 simp[results,results93,go_sem,a4,a5,a6]
theorem Q39 {F:Nat→Addr} {w:World} {gk mc gn gd:Nat} {vl vt:Value} {qs qs':List CEnt} {t:Tld} {b:List UInt8} {l:List Hsh} {c':Cl} {n':Nt} (hc : @ClM ⟨⟨u.ownBlock⟩⟩ 1 W gc gk mc (.iface 48 (.pointer (some ⟨gn,0,none⟩))) c' qs') (hn:Y1 W gn gd vl vt n') (hf:Fr (cnS gc gk mc gn vt qs) w W) (hs:Sub w (cnS gc gk mc gn vt qs) (cnS gc gk mc gn vt qs'))
  (hg:gc<w.heap.size) (hu:Qy W w.heap.size u b) (hv:Qcs W w.heap.size v l) (he:Qpz F W w.heap.size t y) (hz:t=Qdk∨u=.slice none 0 0):Qlc F w gc gk mc gn gd vl vt qs (t,(b,l),c',n') (.returned (.tuple #[u,v,y])) (W.setCell ⟨gc,0,none⟩ (.int .i32 0)):=by
 have a:=@ClM.cells ⟨⟨u.ownBlock⟩⟩ _ _ _ _ _ _ _ _ hc;have hF:=Fr.set1 W gc 0 (.int .i32 0);have hk:=Q5 a;refine⟨u,v,y,rfl,hu.same fun k C fz hC=>hF.block k (Qc hC) (Yk hk hC (by decide)),Zk hv hF hk (by decide),he.fr hF fun k C fz hC=>Yk hk hC (by decide),qs',@ClM.turn ⟨⟨u.ownBlock⟩⟩ _ _ _ _ _ _ _ _ hc 0,?_,hf.step hF fun i hi e=>.inl (.inl e),hs,hz⟩;exact J1 hn hF hk (by decide) (by decide) (by decide)
end
end Go.Proofs.YtefccfakhgdfbaaGreatDoor
