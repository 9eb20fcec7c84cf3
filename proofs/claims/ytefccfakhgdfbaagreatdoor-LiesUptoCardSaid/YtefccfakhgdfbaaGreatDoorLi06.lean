/- recent.Cache in memory, and its ring under take and front. Conditions: the block is such a cache. -/
import Derived.Test.YtefccfakhgdfbaaGreatDoorLi05
import Derived.Maps.OwnIn
set_option linter.unusedVariables false
set_option linter.unusedSimpArgs false
open Go.RowKit Go.Proofs.Tryz
set_option maxRecDepth 100000
set_option maxHeartbeats 4000000
namespace Go.Proofs.YtefccfakhgdfbaaGreatDoor
section
theorem fill1 (u:Value) (hc:u.cells=#[u]) (sz:Nat) (hs:sz=1) (Z:Array Value) (hZ:Z.size=1):Instr.fill (fun i=>some (i*sz,sz)) Z [(0,u)]=some #[u]:=by
 subst hs;obtain⟨l⟩:=Z
 match l,hZ with
 | [a0],_=>simp[Instr.fill,hc]
variable {w:World}
theorem Qj6 {P:Program} {ops:Array Oper} {rest:List Oper} {o:Oper} {a:Act} {Q:Exit→Act→World→Prop} (hg:o.guard=none) (t e:TypeId) (x:Operand) (ho:o.op=.buildSlice t 1 #[(0,x)])
  (i:TypeInfo) (z:Value) (hu:P.underlying t=some (.slice e)) (hi:P.info? e=some i) (hz:i.zero=some z) (hsize:i.size=1) (u:Value) (hx:a.eval x=u) (hc:u.cells=#[u])
  (hk:wpList P ops Q rest (a.put o.dst (.slice (some ⟨w.heap.size,0,none⟩) 1 1)) (w.alloc (.cells #[u] e))):wpList P ops Q (o :: rest) a w:=
 wpList_plain hg fun _ hK=>wp_buildSlice t e 1 _ ho #[u] i _ hu hi hz (by omega) (by omega) (by
  simp only[List.map_toArray,List.map_cons,List.map_nil,hx]
  exact fill1 u hc _ hsize _ (by simp[hsize])) (hK _ _ hk)
variable {v:Value} {l:List UInt8}
theorem Qy.cells {base:Nat} (h:Qy w base v l):v.cells=#[v]:=by rcases h with ⟨rfl,_⟩|⟨b,off,c,C,fz,rfl,_⟩ <;> rfl
theorem Q8.below2 {w':World} (h:Q8 w v l) (hb:Below w.heap.size w w'):Q8 w' v l:=h.below hb
variable {b off c n:Nat} {x:UInt8} {r:List UInt8}
theorem Qsw (h:Q8 w (.slice (some ⟨b,off,none⟩) (r.length+1) c) (x :: r)) (hn:n≤r.length):Q8 w (.slice (some ⟨b,off+1,none⟩) n (c-1)) (r.take n):=by
 obtain⟨a,c',h1,h2,h3⟩:=h;simp only[Value.slice.injEq] at h1;obtain⟨rfl,_,rfl⟩:=h1;simp only[List.length_cons] at h2;have hl:(r.take n).length=n:=by simp;omega
 refine⟨_,c-1,by rw[hl],by rw[hl];omega,fun j y hy=>⟨b,off+1,rfl,?_⟩⟩;have hj:j<n:=by have:=(List.getElem?_eq_some_iff.1 hy).1;simp at this;omega
 obtain⟨b',off',e,d⟩:=h3 (j+1) y (by rw[List.map_cons,List.getElem?_cons_succ];rw[List.map_take,List.getElem?_take_of_lt hj] at hy;exact hy);cases e;rw[show off+1+j=off+(j+1) from by omega];exact d
theorem Qzi (h:Q8 w (.slice (some ⟨b,off,none⟩) (r.length+1) c) (x :: r)) (hn:n≤r.length):Q8 w (.slice (some ⟨b,off+(1+n),none⟩) (r.length+1-(1+n)) (c-(1+n))) (r.drop n):=by
 obtain⟨a,c',h1,h2,h3⟩:=h;simp only[Value.slice.injEq] at h1;obtain⟨rfl,_,rfl⟩:=h1;simp only[List.length_cons] at h2;have hl:(r.drop n).length=r.length+1-(1+n):=by simp;omega
 refine⟨_,c-(1+n),by rw[hl],by rw[hl];omega,fun j y hy=>⟨b,off+(1+n),rfl,?_⟩⟩;obtain⟨b',off',e,d⟩:=h3 (1+n+j) y (by
  rw[show 1+n+j=(n+j)+1 from by omega,List.map_cons,List.getElem?_cons_succ]
  rw[List.map_drop,List.getElem?_drop] at hy
  exact hy)
 cases e;rw[show off+(1+n)+j=off+(1+n+j) from by omega];exact d
variable {a:Option Addr}
theorem Qod {k:Nat} (hk:k=0) (h:r.length≤n):Q8 w (.slice a k c) (r.drop n):=by have e:r.drop n = []:=List.drop_of_length_le h;rw[e];subst hk;exact⟨a,c,rfl,Nat.zero_le _,fun j x hx=>by simp at hx⟩
theorem Qtl (hk:n=0):Q8 w (.slice a n 0) (r.take n):=by subst hk;exact⟨a,0,rfl,Nat.le_refl _,fun j x hx=>by simp at hx⟩
def Q3g (data:List UInt8) (w:World) (e:Ending) (w':World):Prop:=
 ∃ v',e=.returned (.tuple #[v',.bool (Qr data).isSome])∧Below w.heap.size w w'∧((Qr data=none∧v'=.slice none 0 0)∨∃ ls,Qr data=some ls∧Ja w' w.heap.size v' ls)
theorem Qfl (v:Value) (data:List UInt8) (w:World) (h:Q8 w v data) (hn:data.length≤1099511627776) :
  Calls prog 148 #[v] w (Q3g data w):=by
 obtain⟨i0,hi,C,D,N⟩:=info_parts Q7e;obtain⟨a,c,rfl⟩:∃ a c,v=.slice a data.length c:=by obtain⟨a,c,h1,_,_⟩:=h;exact⟨a,c,h1⟩
 have HH:=zh h;clear h
 go_enter func148,ntmps148
 go_wp2
 go_loopw [0,4] (fun dv lv wr=>∃ (rest:List UInt8) (ls:List (List UInt8)),Q8 wr dv rest∧Ja wr w.heap.size lv ls∧Read data ls rest∧rest.length≤data.length∧ls.length≤4∧(∀ l∈ls,l.length≤20)∧Below w.heap.size w wr∧(Q8 w dv rest)∧(ls = []→lv=.slice none 0 0)) (fun dv _ _=>match dv with | .slice _ n _=>n|_=>0)
 case atStart=>exact⟨data,[],HH.o,⟨[],World.ownsRow_nil _ _ _ _,by simp⟩,Read.start _,Nat.le_refl _,by decide,by simp,Below.refl _ _,HH.o,fun _=>rfl⟩
 case round=>
  obtain⟨rest,ls,hb,H,I,Y,h4,K,M,g,Q⟩:=hrel;obtain⟨al,cl,rfl⟩:∃ a c,u4=.slice a ls.length c:=by obtain⟨vs,E,_⟩:=H;obtain⟨a,c,h1,_⟩:=Z4 E;exact⟨a,c,h1⟩
  have HB:=zh M;have HO:=zh H;have HR:=zh I;have HS:=zh K;have HN:=zh Q;have R:=zh g;clear M H I K g Q;cases rest with
  | nil=>
   obtain⟨a2,c2,rfl,_,_⟩:=hb;simp only[List.length_nil];by_cases h0:ls.length=0
   ·obtain rfl:ls = []:=List.eq_nil_of_length_eq_zero h0
    have O:=HN.o rfl;simp only[List.length_nil] at O ⊢;simp only[Value.slice.injEq] at O;obtain⟨rfl,_,rfl⟩:=O;go_wp2;go_ret2;have hu:Qr data=none:=by unfold Qr;rw[HR.o.done];rfl
    exact⟨_,by rw[hu];rfl,HB.o,.inl ⟨hu,rfl⟩⟩
   ·have hd:decide (0<ls.length)=true:=by simp;omega
    go_wp2;go_ret2;have hu:=Qht HR.o.done h0 h4 HS.o;exact⟨_,by rw[hu];rfl,HB.o,.inr ⟨ls,hu,HO.o⟩⟩
  | cons x r=>
   obtain⟨a2,c2,rfl,U,S⟩:=hb;have X:x.toNat<256:=x.toNat_lt;obtain⟨b,off,rfl,J⟩:=S 0 (.int .u8 x.toNat) (by simp);simp only[Nat.add_zero] at J;have aa:=zh S;clear S;simp only[List.length_cons] at U Y ⊢;obtain⟨n,L⟩:∃ n,n=x.toNat:=⟨_,rfl⟩
   rw[←L] at X J;have HX:=zh L;clear L;by_cases hA:r.length<n
   ·have d1:decide ((r.length:Int)+1<1+(n:Int))=true:=by simp;omega
    go_wp2;go_ret2;have hu:=Qkl (HR.o.bad (by rw[←HX.o];exact hA));exact⟨_,by rw[hu];rfl,HB.o,.inl ⟨hu,rfl⟩⟩
   ·have d1:decide ((r.length:Int)+1<1+(n:Int))=false:=by simp;omega
    by_cases hB:20<n
    ·have d2:decide ((21:Int)<1+(n:Int))=true:=by simp;omega
     go_wp2;go_ret2;have hu:=HR.o.long (by rw[←HX.o];exact hB);exact⟨_,by rw[hu];rfl,HB.o,.inl ⟨hu,rfl⟩⟩
    ·have d2:decide ((21:Int)<1+(n:Int))=false:=by simp;omega
     by_cases hC:ls.length=4
     ·have d3:((ls.length:Int) == 4)=true:=by simp;omega
      go_wp2;go_ret2;have hu:=HR.o.many (by omega);exact⟨_,by rw[hu];rfl,HB.o,.inl ⟨hu,rfl⟩⟩
     ·have d3:((ls.length:Int) == 4)=false:=by rw[beq_eq_false_iff_ne];omega
      have z:=HR.o.step (by rw[←HX.o];omega);rw[←HX.o] at z;have T:=zh z;clear z;have V:(r.take n).length=n:=by simp;omega
      have F:=zh V;clear V;obtain⟨vs,E,P⟩:=HO.o;have f:=zh E;have G:=zh P;clear E P;by_cases hc1:c2=1
      ·subst hc1
       have W:((1:Int) == ((1:Nat):Int))=true:=by decide
       obtain rfl:n=0:=by omega
       obtain rfl:r = []:=List.eq_nil_of_length_eq_zero (by omega)
       go_wp2_with fail
       refine (Qf0 _ (([]:List UInt8).take 0) _ ?_ (by rw[F.o];omega)).mono ?_
       ·exact Qtl rfl
       rintro e w1 ⟨v1,rfl,m,p⟩;have i:=zh m;have d:=zh p;clear m p
       go_wp2_with (first|(refine Qj6 rfl 157 147 _ rfl i0 _ underlying157 hi C D _ rfl (Qy.cells i.o) ?_)|(at_builtin;refine Jd rfl _ _ 157 rfl w.heap.size 147 i0 (.slice none 0 0) 24 underlying157 hi C D N rfl (by decide) _ _ vs rfl (Ql f.o d.o) _ rfl (Qy.one i.o) (by omega) (Nat.le_trans HB.o.size d.o.size) ?_;intro v2 w2 y s B;have A:=zh y;have q:=zh s;clear y s B))
       have t:Below w.heap.size w w1:=HB.o.trans (d.o.mono HB.o.size);have k:Below w.heap.size w w2:=t.grown q.o t.size (fun j hj=>(f.o.lt j hj).1);go_roundw
       case rel=>
        have g:Q8 w (.slice (some ⟨b,off,none⟩) 0 0) (([]:List UInt8).drop 0):=by exact Qod rfl (by simp)
        refine⟨([]:List UInt8).drop 0,ls ++ [([]:List UInt8).take 0],g.below2 k,Ja.grow (Ql f.o d.o) (fun j u l h1 h2=>(G.o j u l h1 h2).below d.o) (i.o.mono HB.o.size) A.o q.o,T.o,by simp,by simp;omega,?_,k,g,fun h=>by simp at h⟩;intro l hl;rcases List.mem_append.1 hl with h|h
        ·exact HS.o l h
        ·simp at h;subst h;simp
       case measure=>simp
      ·have W:((1:Int) == (c2:Int))=false:=by rw[beq_eq_false_iff_ne];omega
       by_cases hcn:c2=1+n
       ·subst hcn
        go_wp2_with fail
        refine (Qf0 _ (r.take n) _ ?_ (by rw[F.o];omega)).mono ?_
        ·have Z:=(Qsw R.o (show n≤r.length by omega)).below2 HB.o
         simpa using Z
        rintro e w1 ⟨v1,rfl,m,p⟩;have i:=zh m;have d:=zh p;clear m p
        go_wp2_with (first|(refine Qj6 rfl 157 147 _ rfl i0 _ underlying157 hi C D _ rfl (Qy.cells i.o) ?_)|(at_builtin;refine Jd rfl _ _ 157 rfl w.heap.size 147 i0 (.slice none 0 0) 24 underlying157 hi C D N rfl (by decide) _ _ vs rfl (Ql f.o d.o) _ rfl (Qy.one i.o) (by omega) (Nat.le_trans HB.o.size d.o.size) ?_;intro v2 w2 y s B;have A:=zh y;have q:=zh s;clear y s B))
        have t:Below w.heap.size w w1:=HB.o.trans (d.o.mono HB.o.size);have k:Below w.heap.size w w2:=t.grown q.o t.size (fun j hj=>(f.o.lt j hj).1);go_roundw
        case rel=>
         have g:Q8 w (.slice (some ⟨b,off,none⟩) (r.length+1-(1+n)) (1+n-(1+n))) (r.drop n):=by exact Qod (by omega) (by omega)
         refine⟨r.drop n,ls ++ [r.take n],g.below2 k,Ja.grow (Ql f.o d.o) (fun j u l h1 h2=>(G.o j u l h1 h2).below d.o) (i.o.mono HB.o.size) A.o q.o,T.o,by simp;omega,by simp;omega,?_,k,g,fun h=>by simp at h⟩;intro l hl;rcases List.mem_append.1 hl with h|h
         ·exact HS.o l h
         ·simp at h;subst h;rw[F.o];omega
        case measure=>simp;omega
       ·go_wp2_with fail
        refine (Qf0 _ (r.take n) _ ?_ (by rw[F.o];omega)).mono ?_
        ·exact (Qsw R.o (by omega)).below2 HB.o
        rintro e w1 ⟨v1,rfl,m,p⟩;have i:=zh m;have d:=zh p;clear m p
        go_wp2_with (first|(refine Qj6 rfl 157 147 _ rfl i0 _ underlying157 hi C D _ rfl (Qy.cells i.o) ?_)|(at_builtin;refine Jd rfl _ _ 157 rfl w.heap.size 147 i0 (.slice none 0 0) 24 underlying157 hi C D N rfl (by decide) _ _ vs rfl (Ql f.o d.o) _ rfl (Qy.one i.o) (by omega) (Nat.le_trans HB.o.size d.o.size) ?_;intro v2 w2 y s B;have A:=zh y;have q:=zh s;clear y s B))
        have t:Below w.heap.size w w1:=HB.o.trans (d.o.mono HB.o.size);have k:Below w.heap.size w w2:=t.grown q.o t.size (fun j hj=>(f.o.lt j hj).1);go_roundw
        case rel=>
         have g:Q8 w (.slice (some ⟨b,off+(1+n),none⟩) (r.length+1-(1+n)) (c2-(1+n))) (r.drop n):=by exact Qzi R.o (by omega)
         refine⟨r.drop n,ls ++ [r.take n],g.below2 k,Ja.grow (Ql f.o d.o) (fun j u l h1 h2=>(G.o j u l h1 h2).below d.o) (i.o.mono HB.o.size) A.o q.o,T.o,by simp;omega,by simp;omega,?_,k,g,fun h=>by simp at h⟩;intro l hl;rcases List.mem_append.1 hl with h|h
         ·exact HS.o l h
         ·simp at h;subst h;rw[F.o];omega
        case measure=>simp;omega
end
section
section
variable {w:World} {g:Nat} {v:Value} {d:Dk} (h:Q1 w g v d) {p:ByteArray} (hc:d.calls<1099511627776)
include h hc
theorem Q1i (hk:0<Zv d):Calls prog 299 #[.pointer (some ⟨g,0,none⟩),.string p] w fun e w'=>∃ q n,e=.returned (.tuple #[.slice none 0 0,.iface 218 (.pointer (some ⟨q,0,none⟩))])∧w.heap.size≤q∧w'.heap[q]?=some (.cells #[.int .i64 n] 398 (0,0))∧Q1 w' g v (Zj d)∧Fr (·=g) w w':=
 (Qu1 w g v d h p hc).mono fun e w' hp=>by
  obtain⟨h1,h2,⟨_,u,h4,q,n,h5,h6,h7⟩|⟨h3,_⟩|⟨h3,_⟩⟩:=hp
  ·exact⟨q,n,by rw[h4,h5],h6,h7,h1,h2⟩
  ·omega
  ·omega
theorem Qvc {s:ByteArray} (hk:Zv d=0) (hg:getF d.files p=some s):Calls prog 299 #[.pointer (some ⟨g,0,none⟩),.string p] w fun e w'=>∃ b c,e=.returned (.tuple #[.slice (some ⟨b,0,none⟩) s.size c,.nilIface])∧Qy w' w.heap.size (.slice (some ⟨b,0,none⟩) s.size c) s.data.toList∧Q1 w' g v (Zj d)∧Fr (·=g) w w':=
 (Qu1 w g v d h p hc).mono fun e w' hp=>by
  obtain⟨h1,h2,⟨h3,_⟩|⟨_,s',v',h4,h5,h6,b,c,h7⟩|⟨_,h4,_⟩⟩:=hp
  ·omega
  ·rw[hg] at h4
   cases h4
   subst h7
   exact⟨b,c,h5,h6,h1,h2⟩
  ·rw[hg] at h4;cases h4
theorem Qw9 (hk:Zv d=0) (hg:getF d.files p=none):Calls prog 299 #[.pointer (some ⟨g,0,none⟩),.string p] w fun e w'=>e=.returned (.tuple #[.slice none 0 0,.nilIface])∧Q1 w' g v (Zj d)∧Fr (·=g) w w':=
 (Qu1 w g v d h p hc).mono fun e w' hp=>by
  obtain⟨h1,h2,⟨h3,_⟩|⟨_,s',v',h4,_⟩|⟨_,_,h5⟩⟩:=hp
  ·omega
  ·rw[hg] at h4;cases h4
  ·exact⟨h5,h1,h2⟩
end
variable {v:Value} {data:List UInt8} {w:World}
theorem Qp8 (h:Q8 w v data) (hn:data.length≤1099511627776) (hu:Qr data=none) :
  Calls prog 148 #[v] w fun e w'=>e=.returned (.tuple #[.slice none 0 0,.bool false])∧Below w.heap.size w w':=
 (Qfl v data w h hn).mono fun e w' hp=>by
  obtain⟨v',h1,h2,⟨_,h4⟩|⟨ls,h3,_⟩⟩:=hp
  ·rw[hu] at h1
   subst h4
   exact⟨h1,h2⟩
  ·rw[hu] at h3;cases h3
theorem Qpx {ls:List (List UInt8)} (h:Q8 w v data) (hn:data.length≤1099511627776) (hu:Qr data=some ls) :
  Calls prog 148 #[v] w fun e w'=>∃ b c,e=.returned (.tuple #[.slice (some ⟨b,0,none⟩) ls.length c,.bool true])∧Ja w' w.heap.size (.slice (some ⟨b,0,none⟩) ls.length c) ls∧Below w.heap.size w w':=
 (Qfl v data w h hn).mono fun e w' hp=>by
  obtain⟨v',h1,h2,⟨h3,_⟩|⟨ls',h3,h4⟩⟩:=hp
  ·rw[hu] at h3;cases h3
  ·rw[hu] at h1 h3
   cases h3
   have hl:=(Yq hu).1
   have h5:=h4
   obtain⟨vs,h6,_⟩:=h4
   rcases h6.2 with ⟨_,h0⟩|⟨b,cap,cur,rfl,_⟩
   ·omega
   ·exact⟨b,cap,h1,h5,h2⟩
theorem Qtu (t:Int) (i n:Nat) (w:World) (hi:4*i<n) (hn:n<9223372036854775808) (hE:Qad w) :
  Calls prog 191 #[.int .i64 t,.int .i64 i,.int .i64 n] w fun e w'=>e=.returned (.tuple #[.string (sOf (Y4 t i ((min 4 (n-4*i):Nat):Int))),.int .i64 ((min 4 (n-4*i):Nat):Int)])∧Below w.heap.size w w':=by
 have c:wrap64 ((i:Int)*4)=(i:Int)*4:=by unfold wrap64;omega
 have d:wrap64 ((n:Int)-(i:Int)*4)=(n:Int)-(i:Int)*4:=by unfold wrap64;omega
 obtain⟨k,hk⟩:∃ k,k=min 4 (n-4*i):=⟨_,rfl⟩
 have hm:min (4:Int) ((n:Int)-(i:Int)*4)=(k:Int):=by omega
 rw[←hk];have a:=Qny t i k w (by omega) hE;clear hE hk hi
 go_enter func191,ntmps191
 go_wp2_with (go_at_call 156;refine a.mono ?_;rintro e w2 ⟨rfl,b⟩)
 go_ret2;exact⟨rfl,b⟩
end
section
def Qlr (o:Option (List UInt8)) (w:World) (e:Ending) (w':World):Prop:=
 Below w.heap.size w w'∧((o=none∧∃ a n c,e=.returned (.tuple #[.slice a n c,.bool false]))∨∃ b a n c,o=some b∧e=.returned (.tuple #[.slice a n c,.bool true])∧Qy w' w.heap.size (.slice a n c) b)
variable {w:World} {a:Option Addr} {c k:Nat} {l:List UInt8}
theorem Qtg (h:Q8 w (.slice a l.length c) l) (hk:k≤l.length):Q8 w (.slice a k c) (l.take k):=by
 obtain⟨a',c',hv,hc,hx⟩:=h;simp only[Value.slice.injEq,true_and] at hv;obtain⟨rfl,rfl⟩:=hv;refine⟨a,c,?_,by rw[List.length_take];omega,fun j u hu=>?_⟩
 ·rw[List.length_take,Nat.min_eq_left hk]
 ·refine hx j u ?_
  rw[List.map_take] at hu;have hj:=(List.getElem?_eq_some_iff.1 hu).1;rw[List.length_take] at hj
  rwa [List.getElem?_take_of_lt (by omega)] at hu
variable {v:Value}
theorem Qgm {base:Nat} (h:Qy w base v l):∃ a n c,v=.slice a n c:=by
 rcases h with ⟨rfl,rfl⟩|⟨b,off,c,C,fz,rfl,_⟩
 ·exact⟨none,0,0,rfl⟩
 ·exact⟨_,_,c,rfl⟩
theorem Q4b (w:World) (v:Value) (data:List UInt8) (hv want:Nat) (h:Q8 w v data) (h1:1≤want) (h2:want≤hv) (h4:hv≤4) :
  Calls prog 182 #[v,.int .i64 hv,.int .i64 want] w (Qlr (Zh data hv want) w):=by
 obtain⟨a,c,rfl⟩:∃ a c,v=.slice a data.length c:=by obtain⟨a,c,h1,_,_⟩:=h;exact⟨a,c,h1⟩
 by_cases hf:data.length=8*hv
 ·have b:Zh data hv want=some (data.take (8*want)):=by unfold Zh;rw[if_pos hf]
  have hb:=Qtg h (k:=8*want) (by omega);have g:=fun (W:World) (hW:Below w.heap.size w W)=>Qf0 (.slice a (8*want) c) (data.take (8*want)) W (hb.below hW) (by rw[List.length_take];omega)
  have r:(8*want:Nat)≤c:=by obtain⟨_,_,l,hc,_⟩:=h;simp only[Value.slice.injEq,true_and] at l;omega
  have n:wrap64 (8*(hv:Int))=8*(hv:Int):=by unfold wrap64;omega
  have p:wrap64 (8*(want:Int))=8*(want:Int):=by unfold wrap64;omega
  have hz:((data.length:Int) == 8*(hv:Int))=true:=by rw[beq_iff_eq];omega
  have he:(data.length:Int)=8*(hv:Int):=by omega
  have s:(8*(want:Int)).toNat=8*want:=by omega
  have h0:(0:Int)≤8*(want:Int):=by omega
  have q:8*(want:Int)≤(c:Int):=by omega
  have HF:=zh b;have m:=zh g;clear b g hb h hf
  go_enter func182,ntmps182
  go_wp2_with (go_at_call 170;refine (m.o _ (Below.refl _ _)).mono ?_;rintro e w1 ⟨v1,rfl,d,f⟩;have i:=zh d;have j:=zh f;obtain⟨a1,n1,c1,rfl⟩:=Qgm d;clear d f)
  go_ret2;exact⟨j.o,.inr ⟨_,_,_,_,HF.o,rfl,i.o⟩⟩
 ·have b:Zh data hv want=none:=by unfold Zh;rw[if_neg hf]
  have n:wrap64 (8*(hv:Int))=8*(hv:Int):=by unfold wrap64;omega
  have hz:((data.length:Int) == 8*(hv:Int))=false:=by rw[beq_eq_false_iff_ne];omega
  have he:¬ (data.length:Int)=8*(hv:Int):=by omega
  have HF:=zh b;clear b h hf
  go_enter func182,ntmps182
  go_wp2;go_ret2;exact⟨Below.refl _ _,.inl ⟨HF.o,_,_,_,rfl⟩⟩
variable {ls:List (List UInt8)}
theorem Q0y (h:Qem w (.slice a ls.length c) ls) (hk:k≤ls.length):Qem w (.slice a k c) (ls.take k):=by
 obtain⟨vs,hl,⟨a',c',hv,hc,hx⟩,b⟩:=h;simp only[Value.slice.injEq] at hv;obtain⟨rfl,d,rfl⟩:=hv;refine⟨vs.take k,by rw[List.length_take,List.length_take,hl],⟨a,c,?_,by rw[List.length_take];omega,fun j u hu=>?_⟩,fun j u l hu hl'=>?_⟩
 ·rw[List.length_take,Nat.min_eq_left hk]
 ·have hj:=(List.getElem?_eq_some_iff.1 hu).1
  rw[List.length_take] at hj;rw[List.getElem?_take_of_lt (by omega)] at hu;exact hx j u hu
 ·have hj:=(List.getElem?_eq_some_iff.1 hu).1
  rw[List.length_take] at hj;rw[List.getElem?_take_of_lt (by omega)] at hu hl';exact b j u l hu hl'
theorem Q74 {n:Nat} (h:Qem w (.slice a n c) ls):ls.length≤c:=by obtain⟨vs,hl,⟨a',c',hv,hc,hx⟩,b⟩:=h;simp only[Value.slice.injEq] at hv;omega
theorem Q7f {w':World} (hb:Yn ls=some l) (h:(Yn ls=none∧v=.slice none 0 0)∨∃ l,Yn ls=some l∧Qy w' w.heap.size v l∧∃ a n c,v=.slice (some a) n c):Qy w' w.heap.size v l∧∃ a n c,v=.slice a n c:=by
 rcases h with ⟨h,_⟩|⟨l',h1,h2,a,n,c,h3⟩
 ·rw[hb] at h;cases h
 ·rw[hb] at h1
  cases h1;exact⟨h2,_,n,c,h3⟩
theorem Q4y (w:World) (v:Value) (data:List UInt8) (hv want:Nat) (h:Q8 w v data) (hl:data.length≤1099511627776) (h1:1≤want) (h2:want≤hv) (h4:hv≤4) :
  Calls prog 147 #[v,.int .i64 hv,.int .i64 want] w (Qlr (Z2 data hv want) w):=by
 cases hu:Qr data with
 | none=>
  have a:Z2 data hv want=none:=by unfold Z2;rw[hu];rfl
  have b:=Qp8 h hl hu;have HF:=zh a;have HC:=zh b;clear a b h hu
  go_enter func147,ntmps147
  go_wp2_with (go_at_call 148;refine HC.o.mono ?_;rintro e w1 ⟨rfl,c⟩;have d:=zh c;clear c)
  go_ret2;exact⟨d.o,.inl ⟨HF.o,_,_,_,rfl⟩⟩
 | some ls=>
  have b:=Qpx h hl hu;have f:=Yq hu;by_cases hlen:ls.length=hv
  ·have hz:((ls.length:Int) == (hv:Int))=true:=by rw[beq_iff_eq];omega
   have he:(ls.length:Int)=(hv:Int):=by omega
   have n:(ls.take want).length=want:=by rw[List.length_take];omega
   have i:Yn (ls.take want)=some ((ls.take want).map encE).flatten:=by rw[Qbn (by omega) (by omega) fun j l hj=>f.2.2 l (List.mem_of_mem_take (List.mem_of_getElem? hj)),List.flatMap_def]
   have a:Z2 data hv want=some ((ls.take want).map encE).flatten:=by unfold Z2;rw[hu,Option.bind_some,if_pos hlen];exact i
   have z:(want:Int)≤(hv:Int):=by omega
   have h0:(0:Int)≤(want:Int):=by omega
   have HF:=zh a;have HC:=zh b;have u:=zh i;have s:=zh n;clear a b h hu f i n
   go_enter func147,ntmps147
   go_wp2_with (first|(go_at_call 148;refine HC.o.mono ?_;rintro e w1 ⟨b1,c1,rfl,g,c⟩;have d:=zh c;have q:=Q0y (k:=want) g.at (by omega);have r:=Q74 g.at;have A:(want:Int)≤(c1:Int):=(by omega);have y:=zh q;clear g c q r)|(go_at_call 158;refine (Qmb _ (ls.take want) _ y.o (by rw[s.o];omega)).mono ?_;intro e w2 h2;obtain⟨v2,rfl,m,h2⟩:=h2;have hy:=Q7f u.o h2;obtain⟨p,a2,n2,c2,rfl⟩:=hy;have x:=zh p;have t:=zh m;clear h2 m p)|fail)
   go_ret2;exact⟨d.o.trans (t.o.mono d.o.size),.inr ⟨_,_,_,_,HF.o,rfl,x.o.mono d.o.size⟩⟩
  ·have a:Z2 data hv want=none:=by unfold Z2;rw[hu,Option.bind_some,if_neg hlen]
   have he:¬ (ls.length:Int)=(hv:Int):=by omega
   have hz:((ls.length:Int) == (hv:Int))=false:=by rw[beq_eq_false_iff_ne];omega
   have HF:=zh a;have HC:=zh b;clear a b h hu f
   go_enter func147,ntmps147
   go_wp2_with (go_at_call 148;refine HC.o.mono ?_;rintro e w1 ⟨b1,c1,rfl,g,c⟩;have d:=zh c;clear g c)
   go_ret2;exact⟨d.o,.inl ⟨HF.o,_,_,_,rfl⟩⟩
end
section
variable {w w1:World} {g gd:Nat} {ve vl vp:Value} {vs:List Value} {L:Lg}
theorem Zq.rest (h:Zq w g gd ve vl vp vs L) {T:Nat→Prop} (hf:Fr T w w1) (t:TypeId) (hT:∀ k C s f,T k→w.heap[k]?=some (.cells C s f)→s=t) :
  (t≠237→w1.heap[g]?=w.heap[g]?)∧(t≠147→t≠5→Ja w1 0 ve L.entries)∧(t≠133→w1.ownsRow 0 133 1 vl L.levels.length vs)∧
   (t≠143→∀ (j:Nat) (v:Value) (r:List Hsh),vs[j]?=some v→L.levels[j]?=some r→Qcs w1 0 v r)∧(t≠3→w1.ownsRow 0 3 1 vp L.put.length (L.put.map fun (n:Nat)=>.int .i64 (n:Int))):=by
 have key:∀ {k:Nat} {C:Array Value} {s:TypeId} {f:Nat×Nat},w.heap[k]?=some (.cells C s f)→t≠s→¬ T k:=fun hk hs hd=>hs (hT _ _ _ _ hd hk).symm
 refine⟨fun ht=>hf.block g (Qc h.cells) (key h.cells ht),fun ht ht2=>?_,fun ht=>?_,fun ht j v r hv hr=>?_,fun ht=>?_⟩
 ·refine h.ents.fr hf (fun k hk=>?_) (fun k C fz hk=>key hk ht2)
  obtain⟨vs',h1,_⟩:=h.ents;obtain⟨C,hC⟩:=Qe h1 hk;exact key hC ht
 ·refine Q3 h.rows hf fun k hk=>?_
  obtain⟨C,hC⟩:=Qe h.rows hk;exact key hC ht
 ·refine Q3 (h.each j v r hv hr) hf fun k hk=>?_
  obtain⟨C,hC⟩:=Qe (h.each j v r hv hr) hk;exact key hC ht
 ·refine Q3 h.puts hf fun k hk=>?_
  obtain⟨C,hC⟩:=Qe h.puts hk;exact key hC ht
variable {i:Nat} {C:Array Value} {f:Nat×Nat} {u v:Value} {ls:List (List UInt8)}
theorem Ja.setLog (hg:w.heap[g]?=some (.cells C 237 f)) (h:Ja w 0 v ls):Ja (w.setCell ⟨g,i,none⟩ u) 0 v ls:=by refine h.fr (Fr.set1 w g i u) (fun k hk e=>?_) (fun k C fz hk e=>Zp hk hg (by decide) e);obtain⟨vs',h1,_⟩:=h;obtain⟨C,hC⟩:=Qe h1 hk;exact Zp hC hg (by decide) e
variable {n:Nat}
theorem Yw (hg:w.heap[g]?=some (.cells C 237 f)) {base:Nat} {e:TypeId} {size:Nat} {xs:List Value} (h:w.ownsRow base e size v n xs) (he:e≠237):(w.setCell ⟨g,i,none⟩ u).ownsRow base e size v n xs:=
 Q3 h (Fr.set1 w g i u) fun k hk ee=>by
  obtain⟨C,hC⟩:=Qe h hk
  exact Zp hC hg he ee
theorem Zq.setEnts {ve':Value} {es:List (List UInt8)} (h:Zq w g gd ve vl vp vs L) (hf:Fr (fun k=>ve.ownBlock=some k) w w1) (h2:Ja w1 0 ve' es) (hm:J2 w ve ve') :
  Zq (w1.setCell ⟨g,2,none⟩ ve') g gd ve' vl vp vs { L with entries:=es }∧Fr (LogS g ve vl vp vs) w (w1.setCell ⟨g,2,none⟩ ve')∧Sub w (LogS g ve vl vp vs) (LogS g ve' vl vp vs):=by
 have hT:∀ k C s f,ve.ownBlock=some k→w.heap[k]?=some (.cells C s f)→s=147:=fun k C s f hk hC=>by obtain⟨vs',h1,_⟩:=h.ents;obtain⟨C',b⟩:=Qe h1 hk;rw[hC] at b;cases b;rfl
 obtain⟨a1,_,a3,a4,a5⟩:=h.rest hf 147 hT;have a:=(a1 (by decide)).trans h.cells;refine⟨⟨(heap_setCell a _).trans (by simp[Qjt]),h2.setLog a,Yw a (a3 (by decide)) (by decide),fun j v r hv hr=>Yw a (a4 (by decide) j v r hv hr) (by decide),h.apart,Yw a (a5 (by decide)) (by decide)⟩,
  (hf.weak fun k _ hk=>.inr (.inl hk)).trans ((Fr.set1 w1 g 2 ve').weak fun k _ hk=>.inl hk),fun k hk=>?_⟩
 rcases hk with hk|hk|hk
 ·exact .inl (.inl hk)
 ·exact (hm k hk).imp (fun h=>.inr (.inl h)) id
 ·exact .inl (.inr (.inr hk))
theorem Zq.setPuts {vp':Value} {ps:List Nat} (h:Zq w g gd ve vl vp vs L) (hf:Fr (fun k=>vp.ownBlock=some k) w w1) (h2:w1.ownsRow 0 3 1 vp' ps.length (ps.map fun (n:Nat)=>.int .i64 (n:Int))) (hm:J2 w vp vp') :
  Zq (w1.setCell ⟨g,4,none⟩ vp') g gd ve vl vp' vs { L with put:=ps }∧Fr (LogS g ve vl vp vs) w (w1.setCell ⟨g,4,none⟩ vp')∧Sub w (LogS g ve vl vp vs) (LogS g ve vl vp' vs):=by
 have hT:∀ k C s f,vp.ownBlock=some k→w.heap[k]?=some (.cells C s f)→s=3:=fun k C s f hk hC=>by obtain⟨C',b⟩:=Qe h.puts hk;rw[hC] at b;cases b;rfl
 obtain⟨a1,a2,a3,a4,_⟩:=h.rest hf 3 hT;have a:=(a1 (by decide)).trans h.cells;refine⟨⟨(heap_setCell a _).trans (by simp[Qjt]),(a2 (by decide) (by decide)).setLog a,Yw a (a3 (by decide)) (by decide),fun j v r hv hr=>Yw a (a4 (by decide) j v r hv hr) (by decide),h.apart,Yw a h2 (by decide)⟩,
  (hf.weak fun k _ hk=>.inr (.inr (.inr (.inl hk)))).trans ((Fr.set1 w1 g 4 vp').weak fun k _ hk=>.inl hk),fun k hk=>?_⟩
 rcases hk with hk|hk|hk|hk|hk
 ·exact .inl (.inl hk)
 ·exact .inl (.inr (.inl hk))
 ·exact .inl (.inr (.inr (.inl hk)))
 ·exact (hm k hk).imp (fun h=>.inr (.inr (.inr (.inl h)))) id
 ·exact .inl (.inr (.inr (.inr (.inr hk))))
theorem Zq.fail (h:Zq w g gd ve vl vp vs L) (b:Bool) :
  Zq (w.setCell ⟨g,5,none⟩ (.bool b)) g gd ve vl vp vs { L with failed:=b }∧Fr (LogS g ve vl vp vs) w (w.setCell ⟨g,5,none⟩ (.bool b)):=by
 have a:=h.cells;exact⟨⟨(heap_setCell a _).trans (by simp[Qjt]),h.ents.setLog a,Yw a h.rows (by decide),fun j v r hv hr=>Yw a (h.each j v r hv hr) (by decide),h.apart,Yw a h.puts (by decide)⟩,(Fr.set1 w g 5 (.bool b)).weak fun k _ hk=>.inl hk⟩
theorem Zq.setPut (h:Zq w g gd ve vl vp vs L) {bp cp:Nat} (hvp:vp=.slice (some ⟨bp,0,none⟩) L.put.length cp) (n x:Nat) :
  Zq (w.setCell ⟨bp,n,none⟩ (.int .i64 x)) g gd ve vl vp vs { L with put:=L.put.set n x }∧Fr (LogS g ve vl vp vs) w (w.setCell ⟨bp,n,none⟩ (.int .i64 x)):=by
 have hk:vp.ownBlock=some bp:=by rw[hvp];rfl
 obtain⟨C,hC⟩:=Qe h.puts hk;have hf:=Fr.set1 w bp n (.int .i64 (x:Int));obtain⟨a1,a2,a3,a4,_⟩:=h.rest hf 3 fun k C' s f hk' hC'=>by subst hk';rw[hC] at hC';cases hC';rfl
 refine⟨⟨(a1 (by decide)).trans h.cells,a2 (by decide) (by decide),a3 (by decide),a4 (by decide),h.apart,?_⟩,hf.weak fun k _ hk=>.inr (.inr (.inr (.inl (by rw[hvp,hk];rfl))))⟩;rcases h.puts.2 with ⟨e,_⟩|⟨b,cap,cur,e,a,hb,r1,r2,r3,r4⟩
 ·rw[hvp] at e;cases e
 ·rw[hvp] at e
  cases e;refine⟨by simp,.inr ⟨bp,cp,_,by simpa using hvp,Nat.zero_le _,heap_setCell hb _,by simpa using r1,r2,by simpa using r3,?_⟩⟩;rw[Array.toList_setIfInBounds,List.take_set];simp only[List.length_set];rw[r4,List.map_set]
theorem Ja.push {v':Value} {m:Nat} {ls':List (List UInt8)} {us:List Value} (hrow:w.ownsRow 0 147 1 v n vs) (h2:∀ (j:Nat) (u:Value) (l:List UInt8),vs[j]?=some u→ls[j]?=some l→Qy w 0 u l) (hn:n=ls.length)
  (hf:Fr (fun k=>v.ownBlock=some k) w w1) (hr:w1.ownsRow 0 147 1 v' m (vs++us)) (hm:m=ls.length+ls'.length) (hb:∀ (j:Nat) (u:Value) (l:List UInt8),us[j]?=some u→ls'[j]?=some l→Qy w 0 u l):Ja w1 0 v' (ls++ls'):=by
 have hl:vs.length=n:=by simpa using hrow.1
 have a:∀ (k:Nat) (C:Array Value) (fz:Nat×Nat),w.heap[k]?=some (Obj.cells C 5 fz)→w1.heap[k]?=w.heap[k]?:=fun k C fz hk=>hf.block k (Qc hk) fun e=>by obtain⟨C',b⟩:=Qe hrow e;exact Zp hk b (by decide) rfl
 refine⟨vs++us,by rw[List.length_append,←hm];exact hr,fun j u l hu' hl'=>?_⟩;by_cases hj:j<vs.length
 ·rw[List.getElem?_append_left hj] at hu'
  rw[List.getElem?_append_left (by omega)] at hl';exact (h2 j u l hu' hl').same a
 ·rw[List.getElem?_append_right (by omega)] at hu' hl'
  rw[hl,hn] at hu';exact (hb _ u l hu' hl').same a
end
section
def Qa0 (w:World) (S:Nat→Prop) (ts:List TypeId):Prop:=∀ k C t f,S k→w.heap[k]?=some (.cells C t f)→t∈ts
variable {w:World} {S:Nat→Prop} {ts:List TypeId} {C:Array Value} {t:TypeId} {f:Nat×Nat}
theorem Yk (h:Qa0 w S ts) {k:Nat} (hk:w.heap[k]?=some (.cells C t f)) (ht:t ∉ ts):¬ S k:=fun hs=>ht (h k C t f hs hk)
variable {g:Nat}
theorem Q5 (h:w.heap[g]?=some (.cells C t f)):Qa0 w (·=g) [t]:=fun k C' t' f' hk hc=>by
 subst hk
 rw[h] at hc
 cases hc
 exact List.mem_singleton.2 rfl
variable {base size:Nat} {e:TypeId} {v:Value} {xs:List Value}
theorem Qd4 {n:Nat} (h:w.ownsRow base e size v n xs):Qa0 w (fun k=>v.ownBlock=some k) [e]:=fun k C' t' f' hk hc=>by
 obtain⟨C,hC⟩:=Qe h hk
 rw[hC] at hc
 cases hc
 exact List.mem_singleton.2 rfl
variable {d:Dk}
theorem Qcc (h:Q1 w g v d):Qa0 w (dkS g v) [116,132]:=fun k C' t' f' hk hc=>by
 rcases hk with hk|hk
 ·have:=Q5 h.1 k C' t' f' hk hc
  simp at this ⊢
  exact .inl this
 ·have:=Qd4 h.2 k C' t' f' hk hc
  simp at this ⊢
  exact .inr this
def Q0r:List TypeId:=[237,147,133,3,143]
variable {gd:Nat} {ve vl vp:Value} {vs:List Value} {L:Lg}
theorem Qga (h:Zq w g gd ve vl vp vs L):Qa0 w (LogS g ve vl vp vs) Q0r:=fun k C' t' f' hk hc=>by
 obtain⟨C,t,h1,h2⟩:=h.kinds hk
 rw[h1] at hc
 cases hc
 unfold Q0r
 simpa using h2
theorem Qa0.or {T:Nat→Prop} {a b:List TypeId} (h:Qa0 w S a) (i:Qa0 w T b):Qa0 w (fun k=>S k∨T k) (a++b):=fun k C t f hk hc=>by
 rcases hk with hk|hk
 ·exact List.mem_append_left _ (h k C t f hk hc)
 ·exact List.mem_append_right _ (i k C t f hk hc)
variable {w':World}
theorem Q1.kept (h:Q1 w g v d) (hf:Fr S w w') (hS:Qa0 w S ts) (h1:116 ∉ ts) (h2:132 ∉ ts):Q1 w' g v d:=
 h.fr hf fun k hk=>by
  rcases hk with rfl|hk
  ·exact Yk hS h.1 h1
  ·obtain⟨C,hC⟩:=Qe h.2 hk
   exact Yk hS hC h2
theorem Zk {n:Nat} (h:w.ownsRow base e size v n xs) (hf:Fr S w w') (hS:Qa0 w S ts) (h1:e ∉ ts):w'.ownsRow base e size v n xs:=
 Q3 h hf fun k hk=>by
  obtain⟨C,hC⟩:=Qe h hk
  exact Yk hS hC h1
theorem Zq.kept (h:Zq w g gd ve vl vp vs L) (hf:Fr S w w') (hS:Qa0 w S ts) (h1:∀ t∈Q0r,t ∉ ts) (h2:5 ∉ ts):Zq w' g gd ve vl vp vs L:=
 h.fr hf (fun k hk=>by
  obtain⟨C,t,hC,ht⟩:=h.kinds hk
  exact Yk hS hC (h1 t (by unfold Q0r;simpa using ht))) (fun k C fz hk=>Yk hS hk h2)
theorem Zl (h:w.heap[g]?=some (.cells C t f)) (hf:Fr S w w') (hS:Qa0 w S ts) (h1:t ∉ ts):w'.heap[g]?=some (.cells C t f):=
 hf.heap h (Yk hS h h1)
def Zr (w:World) (g:Nat) (n:Int) (s:ByteArray):Prop:=w.heap[g]?=some (.cells #[.int .i64 n,.string s] 63 (0,0))
theorem Qc6 (w:World):Zr (w.alloc (.cells #[.int .i64 0,.string ⟨#[]⟩] 63)) w.heap.size 0 ⟨#[]⟩:=heap_alloc_new w _
variable {n:Int} {s:ByteArray}
theorem Zr.facts (h:Zr w g n s):w.cell? ⟨g,0,none⟩=some (.int .i64 n)∧w.cell? ⟨g,1,none⟩=some (.string s)∧w.frozen? ⟨g,0,none⟩=false∧w.frozen? ⟨g,1,none⟩=false∧g<w.heap.size:=
 ⟨Qd h 0 rfl,Qd h 1 rfl,Qs h 0,Qs h 1,Qc h⟩
theorem Zr.below (h:Zr w g n s) (hb:Below w.heap.size w w'):Zr w' g n s:=(hb.block g (Qc h)).trans h
theorem Zr.kept (h:Zr w g n s) (hf:Fr S w w') (hS:Qa0 w S ts) (h1:63 ∉ ts):Zr w' g n s:=Zl h hf hS h1
theorem Qc2 {m:Int} {t:ByteArray} (h:Zr w g n s):Zr ((w.setCell ⟨g,0,none⟩ (.int .i64 m)).setCell ⟨g,1,none⟩ (.string t)) g m t∧Fr (·=g) w ((w.setCell ⟨g,0,none⟩ (.int .i64 m)).setCell ⟨g,1,none⟩ (.string t)):=
 ⟨(heap_setCell (heap_setCell h _) _).trans (by simp),(Fr.set1 w g 0 _).set 1 _⟩
end
section
def Qk1 (l:Lie1):List Value:=[.string l.path,.string l.data,.bool l.fails,.int .i64 l.times]
def Qar (ls:List Lie1):List Value:=ls.flatMap Qk1
theorem Qyz (ls:List Lie1):(Qar ls).length=ls.length*4:=by
 induction ls with
 | nil=>rfl
 | cons a l ih=>simp only[Qar,List.flatMap_cons,List.length_append,List.length_cons] at ih ⊢;rw[ih];simp[Qk1];omega
theorem Qlq:∀ (l:List Lie1) (j:Nat) (x:Lie1),l[j]?=some x→(Qar l)[j*4]?=some (.string x.path)∧(Qar l)[j*4+1]?=some (.string x.data)∧(Qar l)[j*4+2]?=some (.bool x.fails)∧(Qar l)[j*4+3]?=some (.int .i64 x.times)
 | [],j,x,h=>by simp at h
 | a :: l,0,x,h=>by simp at h;subst h;exact⟨rfl,rfl,rfl,rfl⟩
 | a :: l,j+1,x,h=>by
   have:=Qlq l j x (by simpa using h)
   have e:Qar (a :: l)=.string a.path :: .string a.data :: .bool a.fails :: .int .i64 a.times :: Qar l:=rfl
   rw[e,show (j+1)*4=j*4+1+1+1+1 by omega]
   simpa using this
def Qgj (l:List Nat):List Value:=l.map fun (k:Nat)=>.int .i64 (k:Int)
def Qnw (gd:Nat) (vl vt:Value) (n:Nt):Array Value:=#[.pointer (some ⟨gd,0,none⟩),vl,vt,.int .i64 n.fetches]
structure Y1 (w:World) (g gd:Nat) (vl vt:Value) (n:Nt):Prop where
 cells:w.heap[g]?=some (.cells (Qnw gd vl vt n) 126 (0,0))
 lies:w.ownsRow 0 47 4 vl n.lies.length (Qar n.lies)
 told:w.ownsRow 0 3 1 vt n.told.length (Qgj n.told)
 len:n.told.length=n.lies.length
 le:∀ k∈n.told,k≤n.fetches
def netS (g:Nat) (vt:Value) (k:Nat):Prop:=k=g∨vt.ownBlock=some k
variable {w w':World} {g gd:Nat} {vl vt:Value} {n:Nt}
theorem Y1.fr {S:Nat→Prop} (h:Y1 w g gd vl vt n) (hf:Fr S w w') (hg:¬ S g) (hl:∀ k,vl.ownBlock=some k→¬ S k) (ht:∀ k,vt.ownBlock=some k→¬ S k):Y1 w' g gd vl vt n:=
 ⟨hf.heap h.cells hg,Q3 h.lies hf hl,Q3 h.told hf ht,h.len,h.le⟩
theorem Y1.below (h:Y1 w g gd vl vt n) (hb:Below w.heap.size w w'):Y1 w' g gd vl vt n:=
 h.fr (S:=fun _=>False) (Fr.ofBelow hb) id (fun _ _=>id) (fun _ _=>id)
theorem Y1.lt (h:Y1 w g gd vl vt n):g<w.heap.size:=Qc h.cells
theorem Y1.parts (h:Y1 w g gd vl vt n):(∀ k,vl.ownBlock=some k→k≠g)∧(∀ k,vt.ownBlock=some k→k≠g)∧∀ k,vl.ownBlock=some k→¬ vt.ownBlock=some k:=by
 refine⟨fun k hk e=>?_,fun k hk e=>?_,fun k hk ht=>?_⟩
 ·obtain⟨C,hC⟩:=Qe h.lies hk
  exact Zp hC h.cells (by decide) e
 ·obtain⟨C,hC⟩:=Qe h.told hk
  exact Zp hC h.cells (by decide) e
 ·obtain⟨C,hC⟩:=Qe h.lies hk
  obtain⟨C',a⟩:=Qe h.told ht;exact Zp hC a (by decide) rfl
theorem Y1.heads (h:Y1 w g gd vl vt n) :
  (w.cell? ⟨g,0,none⟩=some (.pointer (some ⟨gd,0,none⟩))∧w.cell? ⟨g,1,none⟩=some vl∧w.cell? ⟨g,2,none⟩=some vt∧w.cell? ⟨g,3,none⟩=some (.int .i64 n.fetches))∧∀ i,w.frozen? ⟨g,i,none⟩=false:=
 ⟨⟨Qd h.cells 0 rfl,Qd h.cells 1 rfl,Qd h.cells 2 rfl,Qd h.cells 3 rfl⟩,fun i=>Qs h.cells i⟩
theorem Y1.count (h:Y1 w g gd vl vt n):Y1 (w.setCell ⟨g,3,none⟩ (.int .i64 ((n.fetches:Int)+1))) g gd vl vt { n with fetches:=n.fetches+1 }:=by have hf:=Fr.set1 w g 3 (.int .i64 ((n.fetches:Int)+1));obtain⟨p1,p2,_⟩:=h.parts;exact⟨(heap_setCell h.cells _).trans (by simp[Qnw]),Q3 h.lies hf fun k hk e=>p1 k hk e,Q3 h.told hf fun k hk e=>p2 k hk e,h.len,fun k hk=>Nat.le_succ_of_le (h.le k hk)⟩
variable {v:Value}
theorem Y1.apartDisk {g':Nat} {d:Dk} (h:Y1 w g gd vl vt n) (hd:Q1 w g' v d):∀ k,netS g vt k→¬ dkS g' v k:=by
 intro k hk hs;have h1:∃ C t,w.heap[k]?=some (.cells C t (0,0))∧(t=126∨t=3):=by
  rcases hk with rfl|hk
  ·exact⟨_,_,h.cells,.inl rfl⟩
  ·obtain⟨C,hC⟩:=Qe h.told hk
   exact⟨C,_,hC,.inr rfl⟩
 obtain⟨C,t,h1,h2⟩:=h1;rcases hs with rfl|hs
 ·rw[hd.1] at h1
  cases h1
  revert h2
  decide
 ·obtain⟨C',h3⟩:=Qe hd.2 hs
  rw[h3] at h1;cases h1
  revert h2
  decide
theorem Qva (l:List Nat) (i k:Nat):(Qgj l).set i (.int .i64 (k:Int))=Qgj (l.set i k):=by unfold Qgj;rw[List.map_set]
variable {i k:Nat}
theorem Qyy {l:List Nat} (h:l[i]?=some k):(Qgj l)[i]?=some (.int .i64 (k:Int)):=by unfold Qgj;rw[List.getElem?_map,h];rfl
def Qnr (w:World) (g gd:Nat) (vl vt:Value) (n:Nt) (p:ByteArray) (e:Ending) (w':World):Prop:=
 Y1 w' g gd vl vt (Zy n p)∧Fr (netS g vt) w w'∧∃ u x,e=.returned (.tuple #[u,x])∧
  ((∃ data,Q6 n p=some data∧x=.nilIface∧Qy w' w.heap.size u data∧∃ a k c,u=.slice a k c)∨(Q6 n p=none∧(∃ q,x=.iface 218 (.pointer (some q)))∧∃ a k c,u=.slice a k c))
variable {p:ByteArray}
theorem Qtr (h:Qco n p i=true):Jj n p (k+1) i=some i:=by rw[Jj,if_pos h]
theorem Qz0 (h:Qco n p i=false):Jj n p (k+1) i=Jj n p k (i+1):=by rw[Jj,if_neg (by simp[h])]
variable {x:Lie1}
theorem Q03 (hx:n.lies[i]?=some x) (h:¬ x.path=p):Qco n p i=false:=by unfold Qco;rw[hx];simp[h]
variable {t:Nat}
theorem Q1t (hx:n.lies[i]?=some x) (ht:n.told[i]?=some t) (h1:0<x.times) (h2:x.times≤(t:Int)):Qco n p i=false:=by unfold Qco;rw[hx,List.getD_eq_getElem?_getD,ht];simp[h1,h2]
theorem Qwu (hx:n.lies[i]?=some x) (ht:n.told[i]?=some t) (h:x.path=p) (h2:¬ 0<x.times∨¬ x.times≤(t:Int)):Qco n p i=true:=by unfold Qco;rw[hx,List.getD_eq_getElem?_getD,ht];rcases h2 with h2|h2 <;> simp[h,h2]
variable {gt ln cp:Nat}
theorem Q57 (h:Y1 w g gd vl (.slice (some ⟨gt,0,none⟩) ln cp) n) (hl:ln=n.told.length) (hk:k≤n.fetches) :
  Y1 (w.setCell ⟨gt,i,none⟩ (.int .i64 (k:Int))) g gd vl (.slice (some ⟨gt,0,none⟩) ln cp) { n with told:=n.told.set i k }∧Fr (netS g (.slice (some ⟨gt,0,none⟩) ln cp)) w (w.setCell ⟨gt,i,none⟩ (.int .i64 (k:Int))):=by
 subst hl;obtain⟨p1,p2,p3⟩:=h.parts;have hf:=Fr.setCell1 w ⟨gt,i,none⟩ (.int .i64 (k:Int));have hs:=(h.told.stored i (.int .i64 (k:Int))).1;rw[Qva] at hs;refine⟨⟨hf.heap h.cells (fun e=>p2 gt rfl e.symm),Q3 h.lies hf fun j hj e=>p3 j hj (congrArg some e.symm),?_,by rw[List.length_set];exact h.len,fun x hx=>?_⟩,hf.weak fun j _ e=>.inr (congrArg some e.symm)⟩
 ·rw[List.length_set];exact hs
 ·rcases List.mem_or_eq_of_mem_set hx with hx|rfl
  ·exact h.le x hx
  ·exact hk
variable {kk:Nat}
theorem Qry (h:Y1 w g gd vl (.slice (some ⟨gt,0,none⟩) ln cp) n) (ht:n.told[kk]?=some t):w.cell? ⟨gt,kk,none⟩=some (.int .i64 t):=by
 obtain⟨a,k,hv,_,hc⟩:=Z4 h.told;simp only[Value.slice.injEq] at hv;obtain⟨b,off,hb,h1⟩:=hc kk _ (Qyy ht);have e:=hv.1.trans hb;cases e
 rwa [Nat.zero_add] at h1
theorem Qlf (w:World) (s:ByteArray):Below w.heap.size w (Lib.bytesWorld w 5 s):=
 ⟨by simp[Lib.bytesWorld,World.freeze,World.alloc,World.drew,-World.alloc_eq,-World.drew_eq],by simp[Lib.bytesWorld,World.freeze,World.alloc,World.drew,-World.alloc_eq,-World.drew_eq],by simp[Lib.bytesWorld,World.freeze,World.alloc,World.drew,-World.alloc_eq,-World.drew_eq],by rw[Lib.bytesWorld_size];omega,fun k hk=>Lib.bytesWorld_at_old w _ s k hk⟩
theorem Q3s {base:Nat} {e:TypeId} {size:Nat} {n:Nat} {xs:List Value} (h:w.ownsRow base e size v n xs):n≤9223372036854775807:=by
 rcases h.2 with ⟨_,h0⟩|⟨_,_,_,_,_,_,b,a,_⟩
 ·omega
 ·unfold maxLen at a;omega
structure Live (w1:World) (g gd gt:Nat) (vl vt:Value) (n:Nt) (kk t:Nat) (x:Lie1) (bx:Nat) (wt:World):Prop where
 net:Y1 wt g gd vl vt { n with fetches:=n.fetches+1,told:=n.told.set kk t }
 fr:Fr (netS g vt) w1 wt
 data:wt.cell? ⟨bx,1,none⟩=some (.string x.data)
 flag:wt.cell? ⟨bx,2,none⟩=some (.bool x.fails)
 size:w1.heap.size≤bx∧bx<wt.heap.size
theorem Q3x {w1 wr:World} (h:Y1 wr g gd vl (.slice (some ⟨gt,0,none⟩) ln cp) { n with fetches:=n.fetches+1 }) (hb:Below w1.heap.size w1 wr) (hl:ln=n.told.length) (ht:t≤n.fetches) (hgt:gt<wr.heap.size) (j:Nat) :
  Live w1 g gd gt vl (.slice (some ⟨gt,0,none⟩) ln cp) n kk (t+1) x wr.heap.size (((wr.alloc (.cells #[.string x.path,.string x.data,.bool x.fails,.int .i64 x.times] 47)).drewN j).setCell ⟨gt,kk,none⟩ (.int .i64 ((t:Int)+1))):=by
 have a:=Ze (Qa wr (.cells #[.string x.path,.string x.data,.bool x.fails,.int .i64 x.times] 47)) j;obtain⟨h1,h2⟩:=Q57 (i:=kk) (k:=t+1) (h.below a) hl (by dsimp only;omega);refine⟨h1,(Fr.ofBelow (hb.trans (a.mono hb.size))).trans h2,?_,?_,hb.size,?_⟩
 ·rw[World.cell?_setCell_other _ _ _ _ (by simp)]
  exact Qd (heap_alloc_new wr _) 1 rfl
 ·rw[World.cell?_setCell_other _ _ _ _ (by simp)]
  exact Qd (heap_alloc_new wr _) 2 rfl
 ·simp[World.setCell]
theorem Qs7 (hx:n.lies[kk]?=some x) (h:Jj n p (n.lies.length-kk) kk=Qcd n p) (hl:Qco n p kk=true):Qcd n p=some kk:=by have a:=(List.getElem?_eq_some_iff.1 hx).1;rw[←h,show n.lies.length-kk=(n.lies.length-kk-1)+1 by omega,Qtr hl]
theorem Qjd (h:Qcd n p=some kk) (ht:n.told[kk]?=some t):Zy n p={ n with fetches:=n.fetches+1,told:=n.told.set kk (t+1) }:=by unfold Zy;rw[h];dsimp only;rw[List.getD_eq_getElem?_getD,ht];rfl
theorem Qu8 (h:Qcd n p=none):Zy n p={ n with fetches:=n.fetches+1 }:=by unfold Zy;rw[h]
theorem Qm9 (h:Qcd n p=none):Q6 n p=(getF n.files p).map (·.data.toList):=by unfold Q6;rw[h]
theorem Qj1 (h:Qcd n p=some kk) (hx:n.lies[kk]?=some x):Q6 n p=if x.fails=true then none else some x.data.data.toList:=by unfold Q6;rw[h];dsimp only;rw[hx];rfl
theorem Qiu {wt wf:World} {a:Option Addr} {c:Nat} {q:Addr} (h:Y1 wt g gd vl vt { n with fetches:=n.fetches+1,told:=n.told.set kk (t+1) }) (hf:Fr (netS g vt) w wt) (hl:Qcd n p=some kk) (ht:n.told[kk]?=some t) (hx:n.lies[kk]?=some x) (hfl:x.fails=true)
  (hb:Below wt.heap.size wt wf):Qnr w g gd vl vt n p (.returned (.tuple #[.slice a k c,.iface 218 (.pointer (some q))])) wf:=
 ⟨by rw[Qjd hl ht];exact h.below hb,hf.trans (Fr.ofBelow hb),_,_,rfl,.inr ⟨by rw[Qj1 hl hx,if_pos hfl],⟨_,rfl⟩,_,_,_,rfl⟩⟩
theorem Q1y (w:World) (g gd:Nat) (vl vt v:Value) (n:Nt) (d:Dk) (p:ByteArray) (h:Y1 w g gd vl vt n) (hd:Q1 w gd v d) (hf:d.files=n.files) (hc:n.fetches<1152921504606846976) :
  Calls prog 298 #[.pointer (some ⟨g,0,none⟩),.string p] w (Qnr w g gd vl vt n p):=by
 obtain⟨⟨c0,c1,c2,c3⟩,f0⟩:=h.heads;have h1:=h.count;obtain⟨al,cl,rfl,_,ao⟩:=Z4 h.lies;obtain⟨at',ct,rfl⟩:=Zi h.told;obtain⟨w1,X⟩:∃ w1,w1=w.setCell ⟨g,3,none⟩ (.int .i64 ((n.fetches:Int)+1)):=⟨_,rfl⟩
 rw[←X] at h1;have Z:Fr (netS g (.slice at' n.told.length ct)) w w1:=by rw[X];exact (Fr.set1 w g 3 _).weak fun _ _ e=>.inl e
 have U:Q1 w1 gd v d:=hd.fr Z fun k hk hs=>h.apartDisk hd k hs hk
 have hw:wrap64 ((n.fetches:Int)+1)=(n.fetches:Int)+1:=by unfold wrap64;omega
 have H1:=zh h1;have y:=zh Z;have ay:=zh X;have HD:=zh U;have ap:=zh hf;have HH:=zh h;have V:=zh ao;have ac:=zh h.len;have aw:=zh h.le;have a0:=Q3s h.lies;clear h h1 hd U hf X Z ao
 go_enter func298,ntmps298
 go_wp2;rw[←ay.o]
 go_loopg [21] n.lies.length (fun gg s21 wr=>∃ kk:Nat,kk≤n.lies.length∧n.lies.length-kk≤gg∧s21=.int .i64 kk∧Aside (Below w1.heap.size w1 wr)∧Aside (Jj n p (n.lies.length-kk) kk=Qcd n p))
 case atStart=>exact⟨0,Nat.zero_le _,by omega,rfl,Below.refl _ _,rfl⟩
 case round=>
  obtain⟨kk,a9,hg,rfl,BW,HL⟩:=hrel;have r:=BW.o;have HN:=zh (H1.o.below r);obtain⟨⟨r0,r1,r2,r3⟩,rf⟩:=HN.o.heads;by_cases hlt:kk<n.lies.length
  ·obtain⟨x,hx⟩:∃ x,n.lies[kk]?=some x:=⟨_,List.getElem?_eq_getElem hlt⟩
   obtain⟨t,ht⟩:∃ t,n.told[kk]?=some t:=⟨_,List.getElem?_eq_getElem (by rw[ac.o];exact hlt)⟩
   obtain⟨g1,g2,g3,g4⟩:=Qlq n.lies kk x hx;obtain⟨b,off,rfl,e1⟩:=V.o _ _ g1;obtain⟨_,_,G,e2⟩:=V.o _ _ g2;cases G;obtain⟨_,_,G,e3⟩:=V.o _ _ g3;cases G;obtain⟨_,_,G,e4⟩:=V.o _ _ g4;cases G;have hb:b<w.heap.size:=Qk e1;have ai:¬ netS g (.slice at' n.told.length ct) b:=by
    obtain⟨q1,_,q3⟩:=HH.o.parts;rintro (e|e)
    ·exact q1 b rfl e
    ·exact q3 b rfl e
   have cv:∀ i u,w.cell? ⟨b,i,none⟩=some u→wr.cell? ⟨b,i,none⟩=some u:=fun i u hu=>(r.cell (p:=⟨b,i,none⟩) (Nat.lt_of_lt_of_le hb y.o.size)).trans (y.o.cell hu ai)
   have d1:wr.cell? ⟨b,off+kk*4,none⟩=some (.string x.path):=cv _ _ e1;have d2:wr.cell? ⟨b,off+kk*4+1,none⟩=some (.string x.data):=cv _ _ e2;have d3:wr.cell? ⟨b,off+kk*4+2,none⟩=some (.bool x.fails):=cv _ _ e3;have d4:wr.cell? ⟨b,off+kk*4+3,none⟩=some (.int .i64 x.times):=cv _ _ e4;have a4:(0:Int)≤(kk:Int):=by omega
   have aq:(kk:Int)<(n.lies.length:Int):=by omega
   have a3:(kk:Int)<(n.told.length:Int):=by have:=ac.o;omega
   have HX:=zh hx;have HT:=zh ht;have ak:b<wr.heap.size:=Qk d1;clear e1 e2 e3 e4 g1 g2 g3 g4 cv hx;have aj:Qco n p kk=false→Jj n p (n.lies.length-(kk+1)) (kk+1)=Qcd n p:=fun hl=>by
    have:=HL.o
    rw[show n.lies.length-kk=(n.lies.length-(kk+1))+1 by omega,Qz0 hl] at this;exact this
   have am:=zh aj;clear aj;have ae:g<wr.heap.size:=Qk r0;obtain⟨gt,rfl⟩:∃ gt,at'=some ⟨gt,0,none⟩:=by
    rcases HN.o.told.2 with ⟨_,h0⟩|⟨gt,_,_,hv,_⟩
    ·have ba:n.told.length=0:=h0
     omega
    ·simp only[Value.slice.injEq] at hv
     exact⟨gt,hv.1⟩
   have t1:=Qry HN.o (t:=t) ht;have D:gt<wr.heap.size:=Qk t1;have ax:wr.frozen? ⟨gt,kk,none⟩=false:=HN.o.told.frozenAt kk;have E:t≤n.fetches:=aw.o t (List.mem_of_getElem? ht);have a7:wrap64 ((t:Int)+1)=(t:Int)+1:=by unfold wrap64;omega
   have ad:¬ g=gt:=fun e=>HN.o.parts.2.1 gt rfl e.symm
   obtain⟨wy,Y⟩:∃ wy,wy=wr.alloc (.cells #[.string x.path,.string x.data,.bool x.fails,.int .i64 x.times] 47):=⟨_,rfl⟩
   have ab:Below w1.heap.size w1 wy:=by rw[Y];exact r.trans ((Qa wr _).mono r.size)
   have K:=H1.o.below ab;obtain⟨⟨y0,y1,y2,y3⟩,yf⟩:=K.heads;have F:wy.heap[wr.heap.size]?=some (.cells #[.string x.path,.string x.data,.bool x.fails,.int .i64 x.times] 47 (0,0)):=by rw[Y];exact heap_alloc_new wr _
   have x0:=Qd F 0 rfl;have x1:=Qd F 1 rfl;have x2:=Qd F 2 rfl;have x3:=Qd F 3 rfl;have ty:=Qry K (t:=t) ht;have S:wy.frozen? ⟨gt,kk,none⟩=false:=K.told.frozenAt kk;have A:=zh Y;have an:=zh ab;have a6:=zh K;clear t1 ax;have ah:wr.heap.size<wy.heap.size:=Qk x0;clear Y ab K F;by_cases he:x.path=p
   ·have e:(x.path.toList == p.toList)=true:=Jp he
    have HE:=zh he;clear he;by_cases h0:0<x.times
    ·have az:decide (0<x.times)=true:=decide_eq_true h0
     by_cases hov:x.times≤(t:Int)
     ·have U:decide (x.times≤(t:Int))=true:=decide_eq_true hov
      have L:=zh (Q1t (p:=p) HX.o HT.o h0 hov);clear h0 hov
      go_upto_region 5 with fail
      rw[←A.o];clear r0 r1 r2 r3 rf d1 d2 d3 d4
      go_quiet (fail)
      go_wp2
      go_roundg (n.lies.length-(kk+1))
      case measure=>omega
      case rel=>exact⟨kk+1,by omega,by omega,by go_num,Ze an.o _,am.o L.o⟩
     ·have U:decide (x.times≤(t:Int))=false:=decide_eq_false hov
      have L:=zh (Qwu HX.o HT.o HE.o (.inr hov));clear h0 hov
      go_upto_region 5 with fail
      rw[←A.o];clear r0 r1 r2 r3 rf d1 d2 d3 d4
      go_quiet (fail)
      obtain⟨wz,c⟩:∃ wz,wz=wy.drewN nq:=⟨_,rfl⟩
      rw[←c];have z0:wz.cell? ⟨g,0,none⟩=some (.pointer (some ⟨gd,0,none⟩)):=by rw[c];exact y0
      have z2:wz.cell? ⟨g,2,none⟩=some (.slice (some ⟨gt,0,none⟩) n.told.length ct):=by rw[c];exact y2
      have z3:wz.cell? ⟨g,3,none⟩=some (.int .i64 ((n.fetches:Int)+1)):=by rw[c];exact y3
      have zt:wz.cell? ⟨gt,kk,none⟩=some (.int .i64 t):=by rw[c];exact ty
      have zf:wz.frozen? ⟨gt,kk,none⟩=false:=by rw[c];exact S
      have z:Live w1 g gd gt (.slice (some ⟨b,off,none⟩) n.lies.length cl) (.slice (some ⟨gt,0,none⟩) n.told.length ct) n kk (t+1) x wr.heap.size (wz.setCell ⟨gt,kk,none⟩ (.int .i64 ((t:Int)+1))):=by rw[c,A.o];exact Q3x HN.o r rfl E D nq
      have a:=zh z;have l:=zh (y.o.trans z.fr);have Q:w.heap.size≤w1.heap.size:=y.o.size;clear c z y0 y1 y2 y3 yf ty S x0 x1 x2 x3 D ae ad ah E ak
      go_upto_region 7 with fail
      obtain⟨wt,m⟩:∃ wt,wt=wz.setCell ⟨gt,kk,none⟩ (.int .i64 ((t:Int)+1)):=⟨_,rfl⟩
      rw[←m] at a l;rw[←m];clear m;have s1:=a.o.data;have s2:=a.o.flag;have sg:=a.o.net.heads.1.2.2.2;have C:wr.heap.size<wt.heap.size:=Qk s1;have M:g<wt.heap.size:=Qk sg;have q:=zh (Qs7 HX.o HL.o L.o);cases hfl:x.fails with
      | true=>
       rw[hfl] at s2;have f:=zh hfl;clear hfl;have av:=fun W=>Lib.run_convert_string_bytes (P:=prog) W 9 147 5 x.data underlying9 underlying147 underlying5
       go_wp2_with fail
       have a1:wt.drew.cell? ⟨g,3,none⟩=some (.int .i64 ((n.fetches:Int)+1)):=sg;have a2:(Lib.bytesWorld wt.drew 5 x.data).cell? ⟨g,3,none⟩=some (.int .i64 ((n.fetches:Int)+1)):=(Lib.bytesWorld_old _ _ _ _ M).trans sg;have b1:wt.drew.cell? ⟨wr.heap.size,1,none⟩=some (.string x.data):=s1;have b2:(wt.alloc (.cells #[.int .i64 ((n.fetches:Int)+1)] 398)).drew.cell? ⟨wr.heap.size,1,none⟩=some (.string x.data):=((Qa wt _).cell (p:=⟨wr.heap.size,1,none⟩) C).trans s1;clear sg s1 s2 C M z0 z2 z3 zt zf;go_region
       all_goals (
        go_wp2
        go_ret2
        have H:Below wt.heap.size wt (Lib.bytesWorld wt.drew 5 x.data):=(Qn wt).trans (Qlf wt.drew _)
        have I:Below wt.heap.size wt (wt.alloc (.cells #[.int .i64 ((n.fetches:Int)+1)] 398)).drew:=(Qa wt _).drew
        first
         | exact Qiu a.o.net l.o q.o HT.o HX.o f.o (H.alloc H.size _)
         | exact Qiu a.o.net l.o q.o HT.o HX.o f.o (I.trans ((Qlf _ _).mono I.size)))
      | false=>
       rw[hfl] at s2;have f:=zh hfl;clear hfl
       go_wp2_with (refine Qdz rfl _ _ _ _ rfl underlying9 underlying147 underlying5 rfl _ rfl ?_;rintro v' w3 h1 h2 h3 ⟨b',c',h4⟩;have H1:=zh h1;have H2:=zh h2;subst h4;clear h1 h2 h3)
       go_ret2;exact⟨by rw[Qjd q.o HT.o];exact a.o.net.below H2.o,l.o.trans (Fr.ofBelow H2.o),_,_,rfl,.inl ⟨_,by rw[Qj1 q.o HX.o,f.o];rfl,rfl,H1.o.mono (Nat.le_trans Q a.o.fr.size),_,_,_,rfl⟩⟩
    ·have az:decide (0<x.times)=false:=decide_eq_false h0
     have L:=zh (Qwu HX.o HT.o HE.o (.inl h0));clear h0
     go_upto_region 5 with fail
     rw[←A.o];clear r0 r1 r2 r3 rf d1 d2 d3 d4
     go_quiet (fail)
     obtain⟨wz,c⟩:∃ wz,wz=wy.drewN nq:=⟨_,rfl⟩
     rw[←c];have z0:wz.cell? ⟨g,0,none⟩=some (.pointer (some ⟨gd,0,none⟩)):=by rw[c];exact y0
     have z2:wz.cell? ⟨g,2,none⟩=some (.slice (some ⟨gt,0,none⟩) n.told.length ct):=by rw[c];exact y2
     have z3:wz.cell? ⟨g,3,none⟩=some (.int .i64 ((n.fetches:Int)+1)):=by rw[c];exact y3
     have zt:wz.cell? ⟨gt,kk,none⟩=some (.int .i64 t):=by rw[c];exact ty
     have zf:wz.frozen? ⟨gt,kk,none⟩=false:=by rw[c];exact S
     have z:Live w1 g gd gt (.slice (some ⟨b,off,none⟩) n.lies.length cl) (.slice (some ⟨gt,0,none⟩) n.told.length ct) n kk (t+1) x wr.heap.size (wz.setCell ⟨gt,kk,none⟩ (.int .i64 ((t:Int)+1))):=by rw[c,A.o];exact Q3x HN.o r rfl E D nq
     have a:=zh z;have l:=zh (y.o.trans z.fr);have Q:w.heap.size≤w1.heap.size:=y.o.size;clear c z y0 y1 y2 y3 yf ty S x0 x1 x2 x3 D ae ad ah E ak
     go_upto_region 7 with fail
     obtain⟨wt,m⟩:∃ wt,wt=wz.setCell ⟨gt,kk,none⟩ (.int .i64 ((t:Int)+1)):=⟨_,rfl⟩
     rw[←m] at a l;rw[←m];clear m;have s1:=a.o.data;have s2:=a.o.flag;have sg:=a.o.net.heads.1.2.2.2;have C:wr.heap.size<wt.heap.size:=Qk s1;have M:g<wt.heap.size:=Qk sg;have q:=zh (Qs7 HX.o HL.o L.o);cases hfl:x.fails with
     | true=>
      rw[hfl] at s2;have f:=zh hfl;clear hfl;have av:=fun W=>Lib.run_convert_string_bytes (P:=prog) W 9 147 5 x.data underlying9 underlying147 underlying5
      go_wp2_with fail
      have a1:wt.drew.cell? ⟨g,3,none⟩=some (.int .i64 ((n.fetches:Int)+1)):=sg;have a2:(Lib.bytesWorld wt.drew 5 x.data).cell? ⟨g,3,none⟩=some (.int .i64 ((n.fetches:Int)+1)):=(Lib.bytesWorld_old _ _ _ _ M).trans sg;have b1:wt.drew.cell? ⟨wr.heap.size,1,none⟩=some (.string x.data):=s1;have b2:(wt.alloc (.cells #[.int .i64 ((n.fetches:Int)+1)] 398)).drew.cell? ⟨wr.heap.size,1,none⟩=some (.string x.data):=((Qa wt _).cell (p:=⟨wr.heap.size,1,none⟩) C).trans s1;clear sg s1 s2 C M z0 z2 z3 zt zf;go_region
      all_goals (
       go_wp2
       go_ret2
       have H:Below wt.heap.size wt (Lib.bytesWorld wt.drew 5 x.data):=(Qn wt).trans (Qlf wt.drew _)
       have I:Below wt.heap.size wt (wt.alloc (.cells #[.int .i64 ((n.fetches:Int)+1)] 398)).drew:=(Qa wt _).drew
       first
        | exact Qiu a.o.net l.o q.o HT.o HX.o f.o (H.alloc H.size _)
        | exact Qiu a.o.net l.o q.o HT.o HX.o f.o (I.trans ((Qlf _ _).mono I.size)))
     | false=>
      rw[hfl] at s2;have f:=zh hfl;clear hfl
      go_wp2_with (refine Qdz rfl _ _ _ _ rfl underlying9 underlying147 underlying5 rfl _ rfl ?_;rintro v' w3 h1 h2 h3 ⟨b',c',h4⟩;have H1:=zh h1;have H2:=zh h2;subst h4;clear h1 h2 h3)
      go_ret2;exact⟨by rw[Qjd q.o HT.o];exact a.o.net.below H2.o,l.o.trans (Fr.ofBelow H2.o),_,_,rfl,.inl ⟨_,by rw[Qj1 q.o HX.o,f.o];rfl,rfl,H1.o.mono (Nat.le_trans Q a.o.fr.size),_,_,_,rfl⟩⟩
   ·have e:(x.path.toList == p.toList)=false:=Y9 he
    have HE:=zh he;clear he
    go_upto_region 5 with fail
    rw[←A.o];clear r0 r1 r2 r3 rf d1 d2 d3 d4
    go_quiet (fail)
    go_wp2
    go_roundg (n.lies.length-(kk+1))
    case measure=>omega
    case rel=>exact⟨kk+1,by omega,by omega,by go_num,Ze an.o _,am.o (Q03 HX.o HE.o)⟩
  ·have aq:¬ (kk:Int)<(n.lies.length:Int):=by omega
   have hz:Qcd n p=none:=by rw[←HL.o,show n.lies.length-kk=0 by omega];rfl
   have HZ:=zh hz;clear hz;have T:=HD.o.below r;have au:=zh T;have N:=Qih wr gd v d T p;have af:=zh (Qu8 HZ.o);have ag:=zh (y.o.trans (Fr.ofBelow r));have ar:w.heap.size≤wr.heap.size:=Nat.le_trans y.o.size r.size;by_cases hf:Ya d.files p<d.files.length
   ·have hF:Jc d.files p=Ya d.files p:=by unfold Jc;rw[if_pos hf]
    rw[hF] at N;obtain⟨x,hx⟩:∃ x,x=d.files[Ya d.files p]'hf:=⟨_,rfl⟩
    have aa:d.files[Ya d.files p]?=some x:=by rw[hx,List.getElem?_eq_getElem hf]
    have O:getF d.files p=some x.2:=by rw[Qiz hf,hx]
    obtain⟨j,hj⟩:∃ j,j=Ya d.files p:=⟨_,rfl⟩
    rw[←hj] at N hf aa;have a8:(0:Int)≤(j:Int):=by omega
    have a5:(j:Int)<(d.files.length:Int):=by omega
    have HX:=zh aa;have HG:=zh O;clear hj hF hx aa O T
    go_wp2_with (first|(go_at_call 122;refine N.mono ?_;rintro e w2 ⟨rfl,s⟩;have B:=zh s;have R:=au.o.below s;have bb:=zh R;have q0:=(s.cell (p:=⟨g,0,none⟩) (Qk r0)).trans r0;have c0:=R.cells.1.1;obtain⟨bk,cap,rfl,C,ai,_,c1⟩:=R.data (j:=j) (x:=x) HX.o;clear s R)|(refine Qdz rfl _ _ _ _ rfl underlying9 underlying147 underlying5 rfl _ rfl ?_;rintro v' w3 h1 h2 h3 ⟨b',c',h4⟩;have H1:=zh h1;have H2:=zh h2;subst h4;clear h1 h2 h3))
    go_ret2;have J:=B.o.trans (H2.o.mono B.o.size);exact⟨by rw[af.o];exact HN.o.below J,ag.o.trans (Fr.ofBelow J),_,_,rfl,.inl ⟨_,by rw[Qm9 HZ.o,←ap.o,HG.o];rfl,rfl,H1.o.mono (Nat.le_trans ar B.o.size),_,_,_,rfl⟩⟩
   ·have hF:Jc d.files p = -1:=by unfold Jc;rw[if_neg hf]
    have O:=Qdv hf;rw[hF] at N;have HG:=zh O;clear hF O hf T
    go_wp2_with (go_at_call 122;refine N.mono ?_;rintro e w2 ⟨rfl,s⟩;have B:=zh s;have q3:=(s.cell (p:=⟨g,3,none⟩) (Qk r3)).trans r3;clear s)
    go_region
    all_goals (
     go_wp2
     go_ret2
     have J:=B.o.trans (((Qa w2 (.cells #[.int .i64 ((n.fetches:Int)+1)] 398)).drew).mono B.o.size)
     exact⟨by rw[af.o];exact HN.o.below J,ag.o.trans (Fr.ofBelow J),_,_,rfl,.inr ⟨by rw[Qm9 HZ.o,←ap.o,HG.o];rfl,⟨_,rfl⟩,_,_,_,rfl⟩⟩)
end
section
def rA (g:Nat):Option Nat→Addr
 | none=>⟨g,2,none⟩
 | some b=>⟨b,0,none⟩
def rE (g:Nat):Option Nat→Addr
 | none=>⟨g,5,none⟩
 | some b=>⟨b,3,none⟩
def rL (g:Nat):Option Nat→Addr
 | none=>⟨g,4,none⟩
 | some b=>⟨b,2,none⟩
abbrev rP (g:Nat) (x:Option Nat):Value:=.pointer (some (rA g x))
variable {g:Nat} {x y:Option Nat}
theorem Qwd (h:rE g x=rE g y):x=y:=by
 cases x <;> cases y <;> simp[rE] at h ⊢
 exact h
theorem Qwf (h:rL g x=rL g y):x=y:=by
 cases x <;> cases y <;> simp[rL] at h ⊢
 exact h
theorem Qb3 (g:Nat) (x y:Option Nat):rE g x≠rL g y:=by cases x <;> cases y <;> simp[rE,rL]
structure Lk (w:World) (g:Nat) (x y:Option Nat):Prop where
 e:w.cell? (rE g x)=some (rP g y)
 l:w.cell? (rL g y)=some (rP g x)
def Chn (w:World) (g:Nat):Option Nat→List Nat→Prop
 | x,[]=>Lk w g x none
 | x,b :: bs=>Lk w g x (some b)∧Chn w g (some b) bs
def lst:Option Nat→List Nat→Option Nat
 | x,[]=>x
 | _,b :: bs=>lst (some b) bs
theorem Qzp (x:Option Nat) (l:List Nat) (b:Nat):lst x (l ++ [b])=some b:=by
 induction l generalizing x with
 | nil=>rfl
 | cons a l ih=>exact ih (some a)
variable {l:List Nat}
theorem Qpq:lst x l=x∨∃ b∈l,lst x l=some b:=by
 induction l generalizing x with
 | nil=>exact .inl rfl
 | cons a l ih=>
  rcases ih (x:=some a) with h|⟨b,hb,h⟩
  ·exact .inr ⟨a,.head _,h⟩
  ·exact .inr ⟨b,.tail _ hb,h⟩
variable {w w':World}
theorem Chn.agree (h:Chn w g x l) (he:∀ y,(y=x∨∃ b∈l,y=some b)→w'.cell? (rE g y)=w.cell? (rE g y))
  (hl:∀ y,(y=none∨∃ b∈l,y=some b)→w'.cell? (rL g y)=w.cell? (rL g y)):Chn w' g x l:=by
 induction l generalizing x with
 | nil=>exact⟨(he _ (.inl rfl)).trans h.e,(hl _ (.inl rfl)).trans h.l⟩
 | cons b l ih=>
  refine⟨⟨(he _ (.inl rfl)).trans h.1.e,(hl _ (.inr ⟨b,.head _,rfl⟩)).trans h.1.l⟩,ih h.2 ?_ ?_⟩
  ·rintro y (rfl|⟨c,hc,rfl⟩)
   ·exact he _ (.inr ⟨b,.head _,rfl⟩)
   ·exact he _ (.inr ⟨c,.tail _ hc,rfl⟩)
  ·rintro y (rfl|⟨c,hc,rfl⟩)
   ·exact hl _ (.inl rfl)
   ·exact hl _ (.inr ⟨c,.tail _ hc,rfl⟩)
variable {m:List Nat} {b:Nat}
theorem Chn.before (h:Chn w g x (l++b :: m)):Lk w g (lst x l) (some b)∧Chn w g (some b) m:=by
 induction l generalizing x with
 | nil=>exact h
 | cons a l ih=>exact ih h.2
theorem Chn.first (h:Chn w g x l):Lk w g x l.head?:=by
 cases l with
 | nil=>exact h
 | cons b l=>exact h.1
theorem Chn.last (h:Chn w g x l):Lk w g (lst x l) none:=by
 induction l generalizing x with
 | nil=>exact h
 | cons b l ih=>exact ih h.2
structure Q32 (w w':World) (g:Nat) (x y:Option Nat):Prop where
 lk:Lk w' g x y
 rest:∀ a,a≠rE g x→a≠rL g y→w'.cell? a=w.cell? a
theorem Chn.take (h:Chn w g x (l++b :: m)) (hx:∀ c∈l++b :: m,x≠some c) (hn:(l++b :: m).Nodup) (hj:Q32 w w' g (lst x l) m.head?):Chn w' g x (l++m):=by
 induction l generalizing x with
 | nil=>
  simp only[List.nil_append,lst] at *;cases m with
  | nil=>exact hj.lk
  | cons c m=>
   refine⟨hj.lk,Chn.agree h.2.2 (fun y hy=>?_) (fun y hy=>?_)⟩
   ·refine hj.rest _ (fun e=>?_) (Qb3 _ _ _)
    have e:=Qwd e;subst e;rcases hy with hy|⟨d,hd,hy⟩
    ·exact hx c (by simp) hy
    ·exact hx d (by simp[hd]) hy
   ·refine hj.rest _ (fun e=>Qb3 _ _ _ e.symm) (fun e=>?_)
    have e:=Qwf e;subst e;rcases hy with hy|⟨d,hd,hy⟩
    ·simp at hy
    ·simp only[List.head?_cons,Option.some.injEq] at hy
     subst hy
     have:=(List.nodup_cons.1 (List.nodup_cons.1 hn).2).1
     exact this hd
 | cons a l ih=>
  have f:=List.nodup_cons.1 hn;have j:∀ d,lst (some a) l=some d→d∈a :: l:=by
   intro d hd;rcases Qpq (x:=some a) (l:=l) with e|⟨c,hc,e⟩
   ·rw[e] at hd;cases hd;exact .head _
   ·rw[e] at hd;cases hd;exact .tail _ hc
  have i:∃ d,lst (some a) l=some d:=by
   rcases Qpq (x:=some a) (l:=l) with e|⟨c,_,e⟩
   ·exact⟨a,e⟩
   ·exact⟨c,e⟩
  refine⟨⟨(hj.rest _ (fun e=>?_) (Qb3 _ _ _)).trans h.1.e,(hj.rest _ (fun e=>Qb3 _ _ _ e.symm) (fun e=>?_)).trans h.1.l⟩,ih h.2 ?_ f.2 hj⟩
  ·obtain⟨d,hd⟩:=i
   have e:=Qwd e;have e:x=some d:=e.trans hd;refine hx d ?_ e
   have:=j d hd
   simp only[List.cons_append,List.mem_cons,List.mem_append] at this ⊢;rcases this with h|h
   ·exact .inl h
   ·exact .inr (.inl h)
  ·have e:=Qwf e
   cases m with
   | nil=>simp at e
   | cons c m=>
    simp only[List.head?_cons,Option.some.injEq] at e;subst e;exact f.1 (by simp)
  ·intro c hc e
   cases e;exact f.1 hc
structure Q07 (w w':World) (g b:Nat) (y:Option Nat):Prop where
 top:Lk w' g none (some b)
 two:Lk w' g (some b) y
 rest:∀ p,p≠rE g none→p≠rL g (some b)→p≠rE g (some b)→p≠rL g y→w'.cell? p=w.cell? p
theorem Chn.front (h:Chn w g none l) (hb:b ∉ l) (hn:l.Nodup) (hf:Q07 w w' g b l.head?):Chn w' g none (b :: l):=by
 refine⟨hf.top,?_⟩;cases l with
 | nil=>exact hf.two
 | cons c l=>
  refine⟨hf.two,Chn.agree h.2 (fun y hy=>?_) (fun y hy=>?_)⟩
  ·have a:∃ d∈c :: l,y=some d:=by
    rcases hy with hy|⟨d,hd,hy⟩
    ·exact⟨c,.head _,hy⟩
    ·exact⟨d,.tail _ hd,hy⟩
   obtain⟨d,hd,rfl⟩:=a;refine hf.rest _ (fun e=>by have:=Qwd e;cases this) (Qb3 _ _ _) (fun e=>?_) (Qb3 _ _ _);have e:=Qwd e;cases e;exact hb hd
  ·refine hf.rest _ (fun e=>Qb3 _ _ _ e.symm) (fun e=>?_) (fun e=>Qb3 _ _ _ e.symm) (fun e=>?_)
   ·have e:=Qwf e
    subst e;rcases hy with hy|⟨d,hd,hy⟩
    ·cases hy
    ·cases hy
     exact hb (.tail _ hd)
   ·have e:=Qwf e
    subst e;rcases hy with hy|⟨d,hd,hy⟩
    ·simp at hy
    ·simp only[List.head?_cons,Option.some.injEq] at hy
     subst hy;exact (List.nodup_cons.1 hn).1 hd
end
section
def Two (w w':World) (p:Addr) (u:Value) (q:Addr) (v:Value):Prop:=w'=(w.drew.setCell p u).setCell q v∨w'=(w.drew.setCell q v).setCell p u
variable {w w':World} {p q:Addr} {u v:Value}
theorem Two.swap (h:Two w w' p u q v):Two w w' q v p u:=h.symm
variable {x:Value}
theorem Two.left (h:Two w w' p u q v) (hp:w.cell? p=some x) (hne:p≠q):w'.cell? p=some u:=by
 rcases h with rfl|rfl
 ·rw[World.cell?_setCell_other _ _ _ _ hne.symm]
  exact World.cell?_setCell_same _ _ _ (u:=x) hp
 ·exact World.cell?_setCell_same _ _ _ (u:=x) ((World.cell?_setCell_other _ _ _ _ hne.symm).trans hp)
theorem Two.right (h:Two w w' p u q v) (hq:w.cell? q=some x) (hne:p≠q):w'.cell? q=some v:=h.swap.left hq hne.symm
theorem Two.other (h:Two w w' p u q v) {a:Addr} (hp:a≠p) (hq:a≠q):w'.cell? a=w.cell? a:=by
 rcases h with rfl|rfl
 ·rw[World.cell?_setCell_other _ _ _ _ hq.symm,World.cell?_setCell_other _ _ _ _ hp.symm];rfl
 ·rw[World.cell?_setCell_other _ _ _ _ hp.symm,World.cell?_setCell_other _ _ _ _ hq.symm];rfl
theorem Two.frozen (h:Two w w' p u q v) (a:Addr):w'.frozen? a=w.frozen? a:=by
 rcases h with rfl|rfl
 ·rw[World.frozen?_setCell,World.frozen?_setCell];rfl
 ·rw[World.frozen?_setCell,World.frozen?_setCell];rfl
theorem Two.fr (h:Two w w' p u q v):Fr (fun k=>k=p.block∨k=q.block) w w':=by
 rcases h with rfl|rfl
 ·exact ((Fr.ofBelow (Qn w)).setCell (fun _=>.inl rfl) u).setCell (fun _=>.inr rfl) v
 ·exact ((Fr.ofBelow (Qn w)).setCell (fun _=>.inr rfl) v).setCell (fun _=>.inl rfl) u
theorem Q5b (w:World) (c:Value) (b ax ox ay oy:Nat) (ux uy:Value) (h2:w.cell? ⟨b,2,none⟩=some (.pointer (some ⟨ax,ox,none⟩))) (h3:w.cell? ⟨b,3,none⟩=some (.pointer (some ⟨ay,oy,none⟩)))
  (hx:w.cell? ⟨ax,ox+3,none⟩=some ux) (hy:w.cell? ⟨ay,oy+2,none⟩=some uy) (fx:w.frozen? ⟨ax,ox+3,none⟩=false) (fy:w.frozen? ⟨ay,oy+2,none⟩=false)
  (hbx:b≠ax) (hby:b≠ay) (d:ax≠ay∨ox+3≠oy+2) :
  Calls prog 226 #[c,.pointer (some ⟨b,0,none⟩)] w (fun e w'=>e=.returned (.tuple #[])∧Two w w' ⟨ay,oy+2,none⟩ (.pointer (some ⟨ax,ox,none⟩)) ⟨ax,ox+3,none⟩ (.pointer (some ⟨ay,oy,none⟩))):=by
 have d2:w.drew.cell? ⟨b,2,none⟩=some (.pointer (some ⟨ax,ox,none⟩)):=h2;have d3:w.drew.cell? ⟨b,3,none⟩=some (.pointer (some ⟨ay,oy,none⟩)):=h3;have dx:w.drew.cell? ⟨ax,ox+3,none⟩=some ux:=hx;have dy:w.drew.cell? ⟨ay,oy+2,none⟩=some uy:=hy;have dfx:w.drew.frozen? ⟨ax,ox+3,none⟩=false:=fx;have dfy:w.drew.frozen? ⟨ay,oy+2,none⟩=false:=fy;have a:(⟨ay,oy+2,none⟩:Addr)≠⟨ax,ox+3,none⟩:=by
  intro e
  injection e with e1 e2
  rcases d with h|h
  ·exact h e1.symm
  ·exact h e2.symm
 have ex:(w.setCell ⟨ay,oy+2,none⟩ (.pointer (some ⟨ax,ox,none⟩))).drew.cell? ⟨ax,ox+3,none⟩=some ux:=(World.cell?_setCell_other _ _ _ _ a).trans hx;have ey:(w.setCell ⟨ax,ox+3,none⟩ (.pointer (some ⟨ay,oy,none⟩))).drew.cell? ⟨ay,oy+2,none⟩=some uy:=(World.cell?_setCell_other _ _ _ _ a.symm).trans hy;have gx:(w.setCell ⟨ay,oy+2,none⟩ (.pointer (some ⟨ax,ox,none⟩))).drew.frozen? ⟨ax,ox+3,none⟩=false:=(World.frozen?_setCell _ _ _ _).trans fx;have gy:(w.setCell ⟨ax,ox+3,none⟩ (.pointer (some ⟨ay,oy,none⟩))).drew.frozen? ⟨ay,oy+2,none⟩=false:=(World.frozen?_setCell _ _ _ _).trans fy
 go_enter func226,ntmps226
 go_region
 all_goals (
  go_wp2
  refine bodyPost_end (results_none rfl _ _ _) rfl ⟨rfl,?_⟩
  first
   | exact .inl rfl
   | exact .inr rfl)
theorem Q2s (w:World) (g b ay oy:Nat) (u2 u3 uy:Value) (h2:w.cell? ⟨b,2,none⟩=some u2) (h3:w.cell? ⟨b,3,none⟩=some u3) (h5:w.cell? ⟨g,5,none⟩=some (.pointer (some ⟨ay,oy,none⟩)))
  (hy:w.cell? ⟨ay,oy+2,none⟩=some uy) (f2:w.frozen? ⟨b,2,none⟩=false) (f3:w.frozen? ⟨b,3,none⟩=false) (f5:w.frozen? ⟨g,5,none⟩=false) (fy:w.frozen? ⟨ay,oy+2,none⟩=false)
  (hbg:b≠g) (hby:b≠ay) (f:ay≠g∨oy+2≠5) :
  Calls prog 227 #[.pointer (some ⟨g,0,none⟩),.pointer (some ⟨b,0,none⟩)] w (fun e w'=>e=.returned (.tuple #[])∧
   ∃ w1,Two w w1 ⟨b,2,none⟩ (.pointer (some ⟨g,2,none⟩)) ⟨b,3,none⟩ (.pointer (some ⟨ay,oy,none⟩))∧Two w1 w' ⟨ay,oy+2,none⟩ (.pointer (some ⟨b,0,none⟩)) ⟨g,5,none⟩ (.pointer (some ⟨b,0,none⟩))):=by
 have d5:w.drew.cell? ⟨g,5,none⟩=some (.pointer (some ⟨ay,oy,none⟩)):=h5;have d2:w.drew.cell? ⟨b,2,none⟩=some u2:=h2;have d3:w.drew.cell? ⟨b,3,none⟩=some u3:=h3;have d:w.drew.frozen? ⟨b,2,none⟩=false:=f2;have i:w.drew.frozen? ⟨b,3,none⟩=false:=f3;have a:(⟨b,2,none⟩:Addr)≠⟨b,3,none⟩:=by simp
 have a1:(w.setCell ⟨b,2,none⟩ (.pointer (some ⟨g,2,none⟩))).drew.cell? ⟨b,3,none⟩=some u3:=(World.cell?_setCell_other _ _ _ _ a).trans h3;have a2:(w.setCell ⟨b,3,none⟩ (.pointer (some ⟨ay,oy,none⟩))).drew.cell? ⟨b,2,none⟩=some u2:=(World.cell?_setCell_other _ _ _ _ a.symm).trans h2;have a3:(w.setCell ⟨b,2,none⟩ (.pointer (some ⟨g,2,none⟩))).drew.frozen? ⟨b,3,none⟩=false:=(World.frozen?_setCell _ _ _ _).trans f3;have a4:(w.setCell ⟨b,3,none⟩ (.pointer (some ⟨ay,oy,none⟩))).drew.frozen? ⟨b,2,none⟩=false:=(World.frozen?_setCell _ _ _ _).trans f2;have a5:(w.setCell ⟨b,2,none⟩ (.pointer (some ⟨g,2,none⟩))).drew.cell? ⟨g,5,none⟩=some (.pointer (some ⟨ay,oy,none⟩)):=(World.cell?_setCell_other _ _ _ _ (by simp[hbg])).trans h5
 go_enter func227,ntmps227
 go_wp2;go_region;obtain⟨w1,c⟩:∃ w1,w1=((w.setCell ⟨b,2,none⟩ (.pointer (some ⟨g,2,none⟩))).setCell ⟨b,3,none⟩ (.pointer (some ⟨ay,oy,none⟩))).drew:=⟨_,rfl⟩
 rw[←c];have HT:Two w w1 ⟨b,2,none⟩ (.pointer (some ⟨g,2,none⟩)) ⟨b,3,none⟩ (.pointer (some ⟨ay,oy,none⟩)):=.inl c;clear c a1 a2 a3 a4 a5 d2 d3 d5 d i;have b2:w1.drew.cell? ⟨b,2,none⟩=some (.pointer (some ⟨g,2,none⟩)):=HT.left h2 a;have b3:w1.drew.cell? ⟨b,3,none⟩=some (.pointer (some ⟨ay,oy,none⟩)):=HT.right h3 a;have by':w1.cell? ⟨ay,oy+2,none⟩=some uy:=(HT.other (fun e=>hby (by injection e with e;exact e.symm)) (fun e=>hby (by injection e with e;exact e.symm))).trans hy
 have b5:w1.cell? ⟨g,5,none⟩=some (.pointer (some ⟨ay,oy,none⟩)):=(HT.other (fun e=>hbg (by injection e with e;exact e.symm)) (fun e=>hbg (by injection e with e;exact e.symm))).trans h5;have gy:w1.frozen? ⟨ay,oy+2,none⟩=false:=(HT.frozen _).trans fy;have g5:w1.frozen? ⟨g,5,none⟩=false:=(HT.frozen _).trans f5;have ey:w1.drew.cell? ⟨ay,oy+2,none⟩=some uy:=by'
 have e5:w1.drew.cell? ⟨g,5,none⟩=some (.pointer (some ⟨ay,oy,none⟩)):=b5;have j:w1.drew.frozen? ⟨ay,oy+2,none⟩=false:=gy;have f51:w1.drew.frozen? ⟨g,5,none⟩=false:=g5;have ny:(⟨ay,oy+2,none⟩:Addr)≠⟨g,5,none⟩:=by
  intro e
  injection e with e1 e2
  rcases f with h|h
  ·exact h e1
  ·exact h e2
 have k5:(w1.setCell ⟨ay,oy+2,none⟩ (.pointer (some ⟨b,0,none⟩))).drew.cell? ⟨g,5,none⟩=some (.pointer (some ⟨ay,oy,none⟩)):=(World.cell?_setCell_other _ _ _ _ ny).trans b5;have k6:(w1.setCell ⟨ay,oy+2,none⟩ (.pointer (some ⟨b,0,none⟩))).drew.frozen? ⟨g,5,none⟩=false:=(World.frozen?_setCell _ _ _ _).trans g5;have k7:(w1.setCell ⟨g,5,none⟩ (.pointer (some ⟨b,0,none⟩))).drew.cell? ⟨ay,oy+2,none⟩=some uy:=(World.cell?_setCell_other _ _ _ _ ny.symm).trans by'
 have k8:(w1.setCell ⟨g,5,none⟩ (.pointer (some ⟨b,0,none⟩))).drew.frozen? ⟨ay,oy+2,none⟩=false:=(World.frozen?_setCell _ _ _ _).trans gy;clear h2 h3 h5 hy f2 f3 f5 fy a;go_wp2;go_region
 all_goals (
  refine bodyPost_end (results_none rfl _ _ _) rfl ⟨rfl,w1,HT,?_⟩
  first
   | exact .inl rfl
   | exact .inr rfl)
end
section
open Go.RowKit Go.Maps Go.ChangeMaps Go.WideMaps
def Qmn (v:Value):Option (DataW Value×List MemPlace):=some (.held v,[])
def klit (s:ByteArray):Lit:=.string s.data.toList
variable {s:ByteArray}
theorem Qk2 {u:ByteArray} (h:klit s=klit u):s=u:=by
 have h1:s.data.toList=u.data.toList:=by injection h
 cases s;cases u;simp only[ByteArray.mk.injEq];exact Array.toList_inj.1 h1
structure KmAt (w:World) (k:TypeId) (b:Nat) (get:ByteArray→Option Value) (n:Nat):Prop where
 ex:∃ D:DataW Value,w.ownsMap prog k Qmn b n D∧Maps.size D=n∧(∀ s,Maps.has D (klit s)=(get s).isSome)∧∀ s v z,get s=some v→D.atKey (klit s) z=.held v
section
variable {w:World} {k:TypeId} {b n:Nat} {get:ByteArray→Option Value}
variable {m:Nat}
theorem Qia {H:Type} {P:Program} {R:Value→Option (DataW H×List MemPlace)} {D:DataW H} (h:w.ownsMap P k R b m D):w.ownsMap P k R b (Maps.size D) D:=by
 obtain⟨es,clock,hb,F,hs,rfl⟩:=h;refine⟨es,clock,hb,F,?_,rfl⟩;have e1:Maps.size (DataW.map ((es.toList.map (Go.WideElems.rg P k R)).foldr DataW.insert []))=es.size:=by simp[Maps.size,length_sorted]
 rw[e1];exact Nat.le_refl _
theorem KmAt.made_at (w:World) (k:TypeId) {b:Nat} (hb:w.heap[b]?=some (.map #[] 0)):KmAt w k b (fun _=>none) 0:=by refine⟨.map [],⟨#[],0,hb,?_,Nat.le_refl _,rfl⟩,rfl,fun _=>rfl,fun _ _ _ h=>by cases h⟩;obtain⟨es,c,h1,F,_,_⟩:=World.ownsMap_made (H:=Value) w prog k Qmn;have h2:(w.alloc (.map #[] 0)).heap[w.heap.size]?=some (.map #[] 0):=Array.getElem?_push_size;rw[h2] at h1;cases h1;exact F
theorem KmAt.lt (h:KmAt w k b get n):b<w.heap.size:=by obtain⟨D,hD,_⟩:=h.ex;exact hD.lt
variable {w':World}
theorem KmAt.same (h:KmAt w k b get n) (e:w'.heap[b]?=w.heap[b]?):KmAt w' k b get n:=by obtain⟨D,⟨es,c,hb,r⟩,q⟩:=h.ex;exact⟨D,⟨es,c,by rw[e];exact hb,r⟩,q⟩
theorem KmAt.fr {S:Nat→Prop} (h:KmAt w k b get n) (hf:Fr S w w') (hs:¬ S b):KmAt w' k b get n:=h.same (hf.block b h.lt hs)
theorem KmAt.below {B:Nat} (h:KmAt w k b get n) (hb:Below B w w') (hB:b<B):KmAt w' k b get n:=h.same (hb.block b hB)
theorem Fr.ofTurned (h:w.mapTurned w' b):Fr (·=b) w w':=by obtain⟨es,c,es',c',_,rfl⟩:=h;refine⟨rfl,rfl,rfl,by simp[setBlock],fun i _ hs=>?_⟩;simp only[setBlock];exact Array.getElem?_setIfInBounds_ne (fun e=>hs e.symm)
theorem Qm6 (h:w.mapTurned w' b):w'.heap.size=w.heap.size:=by obtain⟨es,c,es',c',_,rfl⟩:=h;simp[setBlock]
variable {D:DataW Value}
theorem KmAt.put {v:Value} (hk:prog.underlying k=some .string) (hown:w.ownsMap prog k Qmn b m D) (hh:∀ s,Maps.has D (klit s)=(get s).isSome) (ha:∀ s v z,get s=some v→D.atKey (klit s) z=.held v)
  (h':w'.ownsMap prog k Qmn b (m+1) (D.put (klit s) (.held v))):KmAt w' k b (fun u=>if u=s then some v else get u) (if (get s).isSome then Maps.size D else Maps.size D+1):=by
 have K:=string_keyed hk;have hT:=hown.tidy K;have a:=size_put (k:=klit s) hT (DataW.held v);rw[hh s] at a;have ht:=Qia h';rw[a] at ht;refine⟨_,ht,a,fun u=>?_,fun u x z hu=>?_⟩
 ·by_cases e:u=s
  ·subst e;simp[has_put_same hown.isMap (show WideAt.IsKeyLit (klit u) from trivial)]
  ·simp only[if_neg e]
   rw[has_put_other (fun q=>e (Qk2 q)),hh u]
 ·by_cases e:u=s
  ·subst e
   simp only[if_true,Option.some.injEq] at hu;rw[atKey_put_same hown.isMap (show WideAt.IsKeyLit (klit u) from trivial),hu]
  ·simp only[if_neg e] at hu
   rw[atKey_put_other (fun q=>e (Qk2 q)),ha u x z hu]
theorem KmAt.del (hk:prog.underlying k=some .string) (hown:w.ownsMap prog k Qmn b m D) (hh:∀ s,Maps.has D (klit s)=(get s).isSome) (ha:∀ s v z,get s=some v→D.atKey (klit s) z=.held v)
  (h':w'.ownsMap prog k Qmn b m (D.del (klit s))):KmAt w' k b (fun u=>if u=s then none else get u) (Maps.size D-(if (get s).isSome then 1 else 0)):=by
 have K:=string_keyed hk;have hT:=hown.tidy K;have a:=size_del (k:=klit s) hT;rw[hh s] at a;have ht:=Qia h';have e1:Maps.size (D.del (klit s))=Maps.size D-(if (get s).isSome then 1 else 0):=by omega
 rw[e1] at ht;refine⟨_,ht,e1,fun u=>?_,fun u x z hu=>?_⟩
 ·by_cases e:u=s
  ·subst e;simp[has_del_same]
  ·simp only[if_neg e]
   rw[has_del_other (fun q=>e (Qk2 q)),hh u]
 ·by_cases e:u=s
  ·subst e;simp at hu
  ·simp only[if_neg e] at hu
   rw[atKey_del_other (fun q=>e (Qk2 q)),ha u x z hu]
end
section
variable (w:World) {ops:Array Oper} {rest:List Oper} {o:Oper} {a:Act} {Q:Exit→Act→World→Prop}
theorem Jn (hg:o.guard=none) (m x:Operand) (t:TypeId) (hop:o.op=Op.lookup t m x true) (k e:TypeId) (hk:prog.underlying k=some .string) (ht:prog.underlying t=some (.map k e)) {z:Value} (hz:(zeroValue e).run prog w=.ok z w) (b n:Nat) (get:ByteArray→Option Value) (hm:a.eval m=.map (some b)) (h:KmAt w k b get n) (s:ByteArray) (hx:a.eval x=.string s) (hs:s.size≤maxLen)
  (hK:wpList prog ops Q rest (a.put o.dst (.tuple #[(get s).getD z,.bool (get s).isSome])) w):wpList prog ops Q (o :: rest) a w:=by
 obtain⟨D,c,hn,hh,ha⟩:=h.ex;refine wpList_lookup_own_ok w hg m x t hop k e (string_keyed hk) ht Qmn hz (.held z) [] rfl b n D hm c (.string s) (klit s) hx (keyOf_string_mk hk hs) fun v ps hv=>?_
 have e1:DataW.held v=D.atKey (klit s) (.held z):=by
  have:=congrArg (Option.map Prod.fst) hv
  simpa [Qmn] using this
 cases hg':get s with
 | none=>
  rw[atKey_of_not_has (by rw[hh s,hg'];rfl)] at e1
  injection e1 with e1
  subst e1;rw[hh s];simpa [hg'] using hK
 | some y=>
  rw[ha s y _ hg'] at e1
  injection e1 with e1
  subst e1;rw[hh s];simpa [hg'] using hK
theorem Qed (hg:o.guard=none) (m x v:Operand) (t:TypeId) (hop:o.op=Op.mapUpdate t m x v) (k e:TypeId) (hk:prog.underlying k=some .string) (ht:prog.underlying t=some (.map k e))
  (b n:Nat) (get:ByteArray→Option Value) (hm:a.eval m=.map (some b)) (h:KmAt w k b get n) (hn:n<maxLen) (s:ByteArray) (y:Value) (hx:a.eval x=.string s) (hs:s.size≤maxLen) (hv:a.eval v=y)
  (hK:∀ w',KmAt w' k b (fun u=>if u=s then some y else get u) (if (get s).isSome then n else n+1)→Fr (·=b) w w'→w'.heap.size=w.heap.size→wpList prog ops Q rest (a.put o.dst undef) w'):wpList prog ops Q (o :: rest) a w:=by
 obtain⟨D,c,d,hh,ha⟩:=h.ex;refine wpList_mapUpdate_in w hg m x v t hop k e (string_keyed hk) ht Qmn b n D hm c hn (.string s) y (klit s) hx hv (keyOf_string_mk hk hs) (.held y) [] rfl fun w' h1 h2=>?_
 have h3:=KmAt.put hk c hh ha h1;rw[d] at h3;exact hK w' h3 (Fr.ofTurned h2) (Qm6 h2)
theorem Qse (hg:o.guard=none) (m x:Operand) (t k:TypeId) (hop:o.op=Op.call { callee:=Callee.builtin Builtin.delete,args:=#[m,x],argTypes:=#[t,k] }) (e:TypeId) (hk:prog.underlying k=some .string) (ht:prog.underlying t=some (.map k e))
  (b n:Nat) (get:ByteArray→Option Value) (hm:a.eval m=.map (some b)) (h:KmAt w k b get n) (s:ByteArray) (hx:a.eval x=.string s) (hs:s.size≤maxLen)
  (hK:∀ w',KmAt w' k b (fun u=>if u=s then none else get u) (n-(if (get s).isSome then 1 else 0))→Fr (·=b) w w'→w'.heap.size=w.heap.size→wpList prog ops Q rest (a.put o.dst (.tuple #[])) w'):wpList prog ops Q (o :: rest) a w:=by
 obtain⟨D,c,d,hh,ha⟩:=h.ex;refine wpList_delete_own w hg m x t k hop e (string_keyed hk) ht Qmn b n D hm c (.string s) (klit s) hx (keyOf_string_mk hk hs) fun w' h1 h2=>?_
 have h3:=KmAt.del hk c hh ha h1;rw[d] at h3;exact hK w' h3 (Fr.ofTurned h2) (Qm6 h2)
end
end
section
def Node (w:World) (b:Nat) (k:ByteArray) (v:Value):Prop:=∃ l e,w.heap[b]?=some (.cells #[.string k,v,.pointer l,.pointer e] 251 (0,0))
def Ends (w:World) (g m n:Nat):Prop:=∃ l e,w.heap[g]?=some (.cells #[.int .i64 n,.map (some m),.string ⟨#[]⟩,.slice none 0 0,.pointer l,.pointer e] 253 (0,0))
variable {w:World} {b:Nat} {k:ByteArray} {v:Value} {a:Addr} {p:Option Addr}
theorem Node.set (h:Node w b k v) (ha:a.block=b→a=⟨b,2,none⟩∨a=⟨b,3,none⟩):Node (w.setCell a (.pointer p)) b k v:=by
 obtain⟨l,e,h⟩:=h;by_cases hb:a.block=b
 ·rcases ha hb with rfl|rfl
  ·exact⟨p,e,by rw[heap_setCell h];rfl⟩
  ·exact⟨l,p,by rw[heap_setCell h];rfl⟩
 ·exact⟨l,e,Jr h (fun e=>hb e.symm) _⟩
variable {g m n:Nat}
theorem Ends.set (h:Ends w g m n) (ha:a.block=g→a=⟨g,4,none⟩∨a=⟨g,5,none⟩):Ends (w.setCell a (.pointer p)) g m n:=by
 obtain⟨l,e,h⟩:=h;by_cases hb:a.block=g
 ·rcases ha hb with rfl|rfl
  ·exact⟨p,e,by rw[heap_setCell h];rfl⟩
  ·exact⟨l,p,by rw[heap_setCell h];rfl⟩
 ·exact⟨l,e,Jr h (fun e=>hb e.symm) _⟩
variable {w':World} {q:Addr} {y:Option Addr}
theorem Node.two {p:Addr} {x:Option Addr} (h:Node w b k v) (ht:Two w w' p (.pointer x) q (.pointer y)) (hp:p.block=b→p=⟨b,2,none⟩∨p=⟨b,3,none⟩) (hq:q.block=b→q=⟨b,2,none⟩∨q=⟨b,3,none⟩):Node w' b k v:=by
 have hd:Node w.drew b k v:=h;rcases ht with rfl|rfl
 ·exact (hd.set hp).set hq
 ·exact (hd.set hq).set hp
theorem Ends.two {p:Addr} {x:Option Addr} (h:Ends w g m n) (ht:Two w w' p (.pointer x) q (.pointer y)) (hp:p.block=g→p=⟨g,4,none⟩∨p=⟨g,5,none⟩) (hq:q.block=g→q=⟨g,4,none⟩∨q=⟨g,5,none⟩):Ends w' g m n:=by
 have hd:Ends w.drew g m n:=h;rcases ht with rfl|rfl
 ·exact (hd.set hp).set hq
 ·exact (hd.set hq).set hp
theorem Node.below (h:Node w b k v) (e:w'.heap[b]?=w.heap[b]?):Node w' b k v:=by obtain⟨l,r,h⟩:=h;exact⟨l,r,e.trans h⟩
theorem Ends.below (h:Ends w g m n) (e:w'.heap[g]?=w.heap[g]?):Ends w' g m n:=by obtain⟨l,r,h⟩:=h;exact⟨l,r,e.trans h⟩
theorem Node.free (h:Node w b k v) (i:Nat):w.frozen? ⟨b,i,none⟩=false:=by obtain⟨l,e,h⟩:=h;exact Qs h i
theorem Ends.free (h:Ends w g m n) (i:Nat):w.frozen? ⟨g,i,none⟩=false:=by obtain⟨l,e,h⟩:=h;exact Qs h i
theorem Node.key (h:Node w b k v):w.cell? ⟨b,0,none⟩=some (.string k):=by obtain⟨l,e,h⟩:=h;exact Qd h 0 rfl
theorem Node.val (h:Node w b k v):w.cell? ⟨b,1,none⟩=some v:=by obtain⟨l,e,h⟩:=h;exact Qd h 1 rfl
theorem Ends.most (h:Ends w g m n):w.cell? ⟨g,0,none⟩=some (.int .i64 n):=by obtain⟨l,e,h⟩:=h;exact Qd h 0 rfl
theorem Ends.all (h:Ends w g m n):w.cell? ⟨g,1,none⟩=some (.map (some m)):=by obtain⟨l,e,h⟩:=h;exact Qd h 1 rfl
theorem Node.ne (h:Node w b k v) (h':Ends w g m n):b≠g:=by rintro rfl;obtain⟨l,e,h⟩:=h;obtain⟨l',e',h'⟩:=h';rw[h] at h';cases h'
structure Ji (w:World) (g m n:Nat) (ps:List (Nat×ByteArray×Value)):Prop where
 ends:Ends w g m n
 nodes:∀ p∈ps,Node w p.1 p.2.1 p.2.2
 chn:Chn w g none (ps.map (·.1))
 nd:(ps.map (·.1)).Nodup
variable {x:Option Nat}
theorem Qp4 (hg:b≠g) (h:(rL g x).block=b):rL g x=⟨b,2,none⟩∨rL g x=⟨b,3,none⟩:=by
 cases x with
 | none=>exact absurd h.symm hg
 | some c=>exact .inl (by cases h;rfl)
theorem Qvz (hg:b≠g) (h:(rE g x).block=b):rE g x=⟨b,2,none⟩∨rE g x=⟨b,3,none⟩:=by
 cases x with
 | none=>exact absurd h.symm hg
 | some c=>exact .inr (by cases h;rfl)
theorem Qz2 (hx:x≠some g) (h:(rL g x).block=g):rL g x=⟨g,4,none⟩∨rL g x=⟨g,5,none⟩:=by
 cases x with
 | none=>exact .inl rfl
 | some c=>exact absurd (congrArg some h) hx
theorem Q8e (hx:x≠some g) (h:(rE g x).block=g):rE g x=⟨g,4,none⟩∨rE g x=⟨g,5,none⟩:=by
 cases x with
 | none=>exact .inr rfl
 | some c=>exact absurd (congrArg some h) hx
theorem Q3p {y:Option Nat} {u:Value} (h:Two w w' (rL g y) (rP g x) (rE g x) (rP g y)) (hl:w.cell? (rL g y)=some u) (he:w.cell? (rE g x)=some v):Q32 w w' g x y:=
 ⟨⟨h.right he (Qb3 g x y).symm,h.left hl (Qb3 g x y).symm⟩,fun _ h1 h2=>h.other h2 h1⟩
end
end Go.Proofs.YtefccfakhgdfbaaGreatDoor
