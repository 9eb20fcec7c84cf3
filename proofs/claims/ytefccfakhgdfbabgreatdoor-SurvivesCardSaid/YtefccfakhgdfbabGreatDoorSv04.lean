/- What holds of a store and its publisher from step to step: plain. Conditions: bounds as the statement claims them. -/
import Derived.Test.YtefccfakhgdfbabGreatDoorSv03
set_option linter.unusedVariables false
set_option linter.unusedSimpArgs false
open Go.RowKit Go.Proofs.Tryz
set_option maxRecDepth 100000
set_option maxHeartbeats 4000000
namespace Go.Proofs.YtefccfakhgdfbabGreatDoor
section
theorem fill1 (u:Value) (hc:u.cells=#[u]) (sz:Nat) (hs:sz=1) (Z:Array Value) (hZ:Z.size=1):Instr.fill (fun i=>some (i*sz,sz)) Z [(0,u)]=some #[u]:=by
 subst hs
 obtain⟨l⟩:=Z
 match l,hZ with
 | [a0],_=>simp[Instr.fill,hc]
theorem wpList_bs1 {P:Program} {ops:Array Oper} {rest:List Oper} {o:Oper} {a:Act} {Q:Exit→Act→World→Prop} {w:World} (hg:o.guard=none) (t e:TypeId) (x:Operand) (ho:o.op=.buildSlice t 1 #[(0,x)])
  (i:TypeInfo) (z:Value) (hu:P.underlying t=some (.slice e)) (hi:P.info? e=some i) (hz:i.zero=some z) (hsize:i.size=1) (u:Value) (hx:a.eval x=u) (hc:u.cells=#[u])
  (hk:wpList P ops Q rest (a.put o.dst (.slice (some ⟨w.heap.size,0,none⟩) 1 1)) (w.alloc (.cells #[u] e))):wpList P ops Q (o :: rest) a w:=
 wpList_plain hg fun _ hK=>wp_buildSlice t e 1 _ ho #[u] i _ hu hi hz (by omega) (by omega) (by
  simp only[List.map_toArray,List.map_cons,List.map_nil,hx]
  exact fill1 u hc _ hsize _ (by simp[hsize])) (hK _ _ hk)
theorem OwnBytes.cells {w:World} {base:Nat} {v:Value} {l:List UInt8} (h:OwnBytes w base v l):v.cells=#[v]:=by
 rcases h with ⟨rfl,_⟩|⟨b,off,c,C,fz,rfl,_⟩ <;> rfl
theorem BytesAt.below2 {w w':World} {v:Value} {l:List UInt8} (h:BytesAt w v l) (hb:Below w.heap.size w w'):BytesAt w' v l:=h.below hb
theorem bytes_mid {w:World} {b off c:Nat} {x:UInt8} {r:List UInt8} {n:Nat} (h:BytesAt w (.slice (some ⟨b,off,none⟩) (r.length+1) c) (x :: r)) (hn:n≤r.length):BytesAt w (.slice (some ⟨b,off+1,none⟩) n (c-1)) (r.take n):=by
 obtain⟨a,c',h1,h2,h3⟩:=h
 simp only[Value.slice.injEq] at h1
 obtain⟨rfl,_,rfl⟩:=h1
 simp only[List.length_cons] at h2
 have hl:(r.take n).length=n:=by simp;omega
 refine⟨_,c-1,by rw[hl],by rw[hl];omega,fun j y hy=>⟨b,off+1,rfl,?_⟩⟩
 have hj:j<n:=by have:=(List.getElem?_eq_some_iff.1 hy).1;simp at this;omega
 obtain⟨b',off',heq,hcell⟩:=h3 (j+1) y (by rw[List.map_cons,List.getElem?_cons_succ];rw[List.map_take,List.getElem?_take_of_lt hj] at hy;exact hy)
 cases heq
 rw[show off+1+j=off+(j+1) from by omega]
 exact hcell
theorem bytes_tail {w:World} {b off c:Nat} {x:UInt8} {r:List UInt8} {n:Nat} (h:BytesAt w (.slice (some ⟨b,off,none⟩) (r.length+1) c) (x :: r)) (hn:n≤r.length):BytesAt w (.slice (some ⟨b,off+(1+n),none⟩) (r.length+1-(1+n)) (c-(1+n))) (r.drop n):=by
 obtain⟨a,c',h1,h2,h3⟩:=h
 simp only[Value.slice.injEq] at h1
 obtain⟨rfl,_,rfl⟩:=h1
 simp only[List.length_cons] at h2
 have hl:(r.drop n).length=r.length+1-(1+n):=by simp;omega
 refine⟨_,c-(1+n),by rw[hl],by rw[hl];omega,fun j y hy=>⟨b,off+(1+n),rfl,?_⟩⟩
 obtain⟨b',off',heq,hcell⟩:=h3 (1+n+j) y (by
  rw[show 1+n+j=(n+j)+1 from by omega,List.map_cons,List.getElem?_cons_succ]
  rw[List.map_drop,List.getElem?_drop] at hy
  exact hy)
 cases heq
 rw[show off+(1+n)+j=off+(1+n+j) from by omega]
 exact hcell
theorem bytes_gone {w:World} {a:Option Addr} {r:List UInt8} {n k c:Nat} (hk:k=0) (h:r.length≤n):BytesAt w (.slice a k c) (r.drop n):=by
 have e:r.drop n = []:=List.drop_of_length_le h
 rw[e]
 subst hk
 exact⟨a,c,rfl,Nat.zero_le _,fun j x hx=>by simp at hx⟩
theorem bytes_gone2 {w:World} {a:Option Addr} {r:List UInt8} {n:Nat} (hk:n=0):BytesAt w (.slice a n 0) (r.take n):=by
 subst hk
 exact⟨a,0,rfl,Nat.le_refl _,fun j x hx=>by simp at hx⟩
def unbPost (data:List UInt8) (w:World) (e:Ending) (w':World):Prop:=
 ∃ v',e=.returned (.tuple #[v',.bool (unbundleOf data).isSome])∧Below w.heap.size w w'∧((unbundleOf data=none∧v'=.slice none 0 0)∨∃ ls,unbundleOf data=some ls∧OwnBss w' w.heap.size v' ls)
theorem funbundle_any (v:Value) (data:List UInt8) (w:World) (h:BytesAt w v data) (hn:data.length≤1099511627776) :
  Calls prog 94 #[v] w (unbPost data w):=by
 obtain⟨i0,hi,hz0,hz1,hz2⟩:=info_parts info_bs
 obtain⟨a,c,rfl⟩:∃ a c,v=.slice a data.length c:=by obtain⟨a,c,h1,_,_⟩:=h;exact⟨a,c,h1⟩
 have HH:=zh h
 clear h
 go_enter func94,ntmps94
 go_wp2
 go_loopw [0,4] (fun dv lv wr=>∃ (rest:List UInt8) (ls:List (List UInt8)),BytesAt wr dv rest∧OwnBss wr w.heap.size lv ls∧Read data ls rest∧rest.length≤data.length∧ls.length≤4∧(∀ l∈ls,l.length≤20)∧Below w.heap.size w wr∧(BytesAt w dv rest)∧(ls = []→lv=.slice none 0 0)) (fun dv _ _=>match dv with | .slice _ n _=>n|_=>0)
 case atStart=>exact⟨data,[],HH.o,⟨[],World.ownsRow_nil _ _ _ _,by simp⟩,Read.start _,Nat.le_refl _,by decide,by simp,Below.refl _ _,HH.o,fun _=>rfl⟩
 case round=>
  obtain⟨rest,ls,hb,hown,hread,hrl,h4,hs20,hbel,hb0,hnil⟩:=hrel
  obtain⟨al,cl,rfl⟩:∃ a c,u4=.slice a ls.length c:=by
   obtain⟨vs,hrow,_⟩:=hown
   obtain⟨a,c,h1,_⟩:=ownsRow_cells hrow;exact⟨a,c,h1⟩
  have HB:=zh hbel
  have HO:=zh hown
  have HR:=zh hread
  have HS:=zh hs20
  have HN:=zh hnil
  have HB0:=zh hb0
  clear hbel hown hread hs20 hb0 hnil
  cases rest with
  | nil=>
   obtain⟨a2,c2,rfl,_,_⟩:=hb
   simp only[List.length_nil]
   by_cases h0:ls.length=0
   ·obtain rfl:ls = []:=List.eq_nil_of_length_eq_zero h0
    have hnl:=HN.o rfl
    simp only[List.length_nil] at hnl ⊢
    simp only[Value.slice.injEq] at hnl
    obtain⟨rfl,_,rfl⟩:=hnl
    go_wp2
    go_ret2
    have hu:unbundleOf data=none:=by unfold unbundleOf;rw[HR.o.done];rfl
    exact⟨_,by rw[hu];rfl,HB.o,.inl ⟨hu,rfl⟩⟩
   ·have hd:decide (0<ls.length)=true:=by simp;omega
    go_wp2
    go_ret2
    have hu:=unbundle_ok HR.o.done h0 h4 HS.o
    exact⟨_,by rw[hu];rfl,HB.o,.inr ⟨ls,hu,HO.o⟩⟩
  | cons x r=>
   obtain⟨a2,c2,rfl,hcap2,hc2⟩:=hb
   have hx8:x.toNat<256:=x.toNat_lt
   obtain⟨b,off,rfl,hcell⟩:=hc2 0 (.int .u8 x.toNat) (by simp)
   simp only[Nat.add_zero] at hcell
   have HC2:=zh hc2
   clear hc2
   simp only[List.length_cons] at hcap2 hrl ⊢
   obtain⟨n,hxn⟩:∃ n,n=x.toNat:=⟨_,rfl⟩
   rw[←hxn] at hx8 hcell
   have HX:=zh hxn
   clear hxn
   by_cases hA:r.length<n
   ·have d1:decide ((r.length:Int)+1<1+(n:Int))=true:=by simp;omega
    go_wp2
    go_ret2
    have hu:=unbundle_bad (HR.o.bad (by rw[←HX.o];exact hA))
    exact⟨_,by rw[hu];rfl,HB.o,.inl ⟨hu,rfl⟩⟩
   ·have d1:decide ((r.length:Int)+1<1+(n:Int))=false:=by simp;omega
    by_cases hB:20<n
    ·have d2:decide ((21:Int)<1+(n:Int))=true:=by simp;omega
     go_wp2
     go_ret2
     have hu:=HR.o.long (by rw[←HX.o];exact hB)
     exact⟨_,by rw[hu];rfl,HB.o,.inl ⟨hu,rfl⟩⟩
    ·have d2:decide ((21:Int)<1+(n:Int))=false:=by simp;omega
     by_cases hC:ls.length=4
     ·have d3:((ls.length:Int) == 4)=true:=by simp;omega
      go_wp2
      go_ret2
      have hu:=HR.o.many (by omega)
      exact⟨_,by rw[hu];rfl,HB.o,.inl ⟨hu,rfl⟩⟩
     ·have d3:((ls.length:Int) == 4)=false:=by rw[beq_eq_false_iff_ne];omega
      have hread2:=HR.o.step (by rw[←HX.o];omega)
      rw[←HX.o] at hread2
      have HR2:=zh hread2
      clear hread2
      have htl:(r.take n).length=n:=by simp;omega
      have HTL:=zh htl
      clear htl
      obtain⟨vs,hrow,hall⟩:=HO.o
      have HROW:=zh hrow
      have HALL:=zh hall
      clear hrow hall
      by_cases hc1:c2=1
      ·subst hc1
       have hlow:((1:Int) == ((1:Nat):Int))=true:=by decide
       obtain rfl:n=0:=by omega
       obtain rfl:r = []:=List.eq_nil_of_length_eq_zero (by omega)
       go_wp2_with fail
       refine (clone_any _ (([]:List UInt8).take 0) _ ?_ (by rw[HTL.o];omega)).mono ?_
       ·exact bytes_gone2 rfl
       rintro e w1 ⟨v1,rfl,hob,hb1⟩
       have HOB:=zh hob
       have HB1:=zh hb1
       clear hob hb1
       go_wp2_with (first|(refine wpList_bs1 rfl 135 94 _ rfl i0 _ underlying135 hi hz0 hz1 _ rfl (OwnBytes.cells HOB.o) ?_)|(at_builtin;refine wpList_app1 rfl _ _ 135 rfl w.heap.size 94 i0 (.slice none 0 0) 24 underlying135 hi hz0 hz1 hz2 rfl (by decide) _ _ vs rfl (ownsRow_below HROW.o HB1.o) _ rfl (OwnBytes.one HOB.o) (by omega) (Nat.le_trans HB.o.size HB1.o.size) ?_;intro v2 w2 hr2 hg2 hne2;have HRR2:=zh hr2;have HG2:=zh hg2;clear hr2 hg2 hne2))
       have hbw:Below w.heap.size w w1:=HB.o.trans (HB1.o.mono HB.o.size)
       have hbw2:Below w.heap.size w w2:=hbw.grown HG2.o hbw.size (fun j hj=>(HROW.o.lt j hj).1)
       go_roundw
       case rel=>
        have hb0:BytesAt w (.slice (some ⟨b,off,none⟩) 0 0) (([]:List UInt8).drop 0):=by
         exact bytes_gone rfl (by simp)
        refine⟨([]:List UInt8).drop 0,ls ++ [([]:List UInt8).take 0],hb0.below2 hbw2,OwnBss.grow (ownsRow_below HROW.o HB1.o) (fun j u l h1 h2=>(HALL.o j u l h1 h2).below HB1.o) (HOB.o.mono HB.o.size) HRR2.o HG2.o,HR2.o,by simp,by simp;omega,?_,hbw2,hb0,fun h=>by simp at h⟩
        intro l hl
        rcases List.mem_append.1 hl with h|h
        ·exact HS.o l h
        ·simp at h;subst h;simp
       case measure=>simp
      ·have hlow:((1:Int) == (c2:Int))=false:=by rw[beq_eq_false_iff_ne];omega
       by_cases hcn:c2=1+n
       ·subst hcn
        go_wp2_with fail
        refine (clone_any _ (r.take n) _ ?_ (by rw[HTL.o];omega)).mono ?_
        ·have hbm:=(bytes_mid HB0.o (show n≤r.length by omega)).below2 HB.o
         simpa using hbm
        rintro e w1 ⟨v1,rfl,hob,hb1⟩
        have HOB:=zh hob
        have HB1:=zh hb1
        clear hob hb1
        go_wp2_with (first|(refine wpList_bs1 rfl 135 94 _ rfl i0 _ underlying135 hi hz0 hz1 _ rfl (OwnBytes.cells HOB.o) ?_)|(at_builtin;refine wpList_app1 rfl _ _ 135 rfl w.heap.size 94 i0 (.slice none 0 0) 24 underlying135 hi hz0 hz1 hz2 rfl (by decide) _ _ vs rfl (ownsRow_below HROW.o HB1.o) _ rfl (OwnBytes.one HOB.o) (by omega) (Nat.le_trans HB.o.size HB1.o.size) ?_;intro v2 w2 hr2 hg2 hne2;have HRR2:=zh hr2;have HG2:=zh hg2;clear hr2 hg2 hne2))
        have hbw:Below w.heap.size w w1:=HB.o.trans (HB1.o.mono HB.o.size)
        have hbw2:Below w.heap.size w w2:=hbw.grown HG2.o hbw.size (fun j hj=>(HROW.o.lt j hj).1)
        go_roundw
        case rel=>
         have hb0:BytesAt w (.slice (some ⟨b,off,none⟩) (r.length+1-(1+n)) (1+n-(1+n))) (r.drop n):=by
          exact bytes_gone (by omega) (by omega)
         refine⟨r.drop n,ls ++ [r.take n],hb0.below2 hbw2,OwnBss.grow (ownsRow_below HROW.o HB1.o) (fun j u l h1 h2=>(HALL.o j u l h1 h2).below HB1.o) (HOB.o.mono HB.o.size) HRR2.o HG2.o,HR2.o,by simp;omega,by simp;omega,?_,hbw2,hb0,fun h=>by simp at h⟩
         intro l hl
         rcases List.mem_append.1 hl with h|h
         ·exact HS.o l h
         ·simp at h;subst h;rw[HTL.o];omega
        case measure=>simp;omega
       ·go_wp2_with fail
        refine (clone_any _ (r.take n) _ ?_ (by rw[HTL.o];omega)).mono ?_
        ·exact (bytes_mid HB0.o (by omega)).below2 HB.o
        rintro e w1 ⟨v1,rfl,hob,hb1⟩
        have HOB:=zh hob
        have HB1:=zh hb1
        clear hob hb1
        go_wp2_with (first|(refine wpList_bs1 rfl 135 94 _ rfl i0 _ underlying135 hi hz0 hz1 _ rfl (OwnBytes.cells HOB.o) ?_)|(at_builtin;refine wpList_app1 rfl _ _ 135 rfl w.heap.size 94 i0 (.slice none 0 0) 24 underlying135 hi hz0 hz1 hz2 rfl (by decide) _ _ vs rfl (ownsRow_below HROW.o HB1.o) _ rfl (OwnBytes.one HOB.o) (by omega) (Nat.le_trans HB.o.size HB1.o.size) ?_;intro v2 w2 hr2 hg2 hne2;have HRR2:=zh hr2;have HG2:=zh hg2;clear hr2 hg2 hne2))
        have hbw:Below w.heap.size w w1:=HB.o.trans (HB1.o.mono HB.o.size)
        have hbw2:Below w.heap.size w w2:=hbw.grown HG2.o hbw.size (fun j hj=>(HROW.o.lt j hj).1)
        go_roundw
        case rel=>
         have hb0:BytesAt w (.slice (some ⟨b,off+(1+n),none⟩) (r.length+1-(1+n)) (c2-(1+n))) (r.drop n):=by
          exact bytes_tail HB0.o (by omega)
         refine⟨r.drop n,ls ++ [r.take n],hb0.below2 hbw2,OwnBss.grow (ownsRow_below HROW.o HB1.o) (fun j u l h1 h2=>(HALL.o j u l h1 h2).below HB1.o) (HOB.o.mono HB.o.size) HRR2.o HG2.o,HR2.o,by simp;omega,by simp;omega,?_,hbw2,hb0,fun h=>by simp at h⟩
         intro l hl
         rcases List.mem_append.1 hl with h|h
         ·exact HS.o l h
         ·simp at h;subst h;rw[HTL.o];omega
        case measure=>simp;omega
end
section
def hexD (n:Nat):UInt8:=if n<10 then UInt8.ofNat (48+n) else UInt8.ofNat (87+n)
def hexOf (l:List UInt8):List UInt8:=l.flatMap fun c=>[hexD (c.toNat / 16),hexD (c.toNat%16)]
theorem hexOf_cons (c:UInt8) (l:List UInt8):hexOf (c :: l)=hexD (c.toNat / 16) :: hexD (c.toNat%16) :: hexOf l:=rfl
theorem hexOf_len (l:List UInt8):(hexOf l).length=2*l.length:=by
 induction l with
 | nil=>rfl
 | cons c l ih=>rw[hexOf_cons];simp only[List.length_cons,ih];omega
def kTiles:List UInt8:=[116,105,108,101,115,10]
def headOf (n:Nat) (h:Hsh):List UInt8:=kTiles++dec n ++ [10]++hexOf h.toList ++ [10]
def signOf (n:Nat) (h:Hsh) (key:List UInt8):List UInt8:=headOf n h++hexOf (hash (key++0 :: headOf n h)).toList ++ [10]
def unhexG (c:UInt8):Option Nat:=if 48≤c.toNat∧c.toNat≤57 then some (c.toNat-48) else if 97≤c.toNat∧c.toNat≤102 then some (c.toNat-87) else if 65≤c.toNat∧c.toNat≤70 then some (c.toNat-55) else none
def unhexL (d:UInt8→Option Nat):List UInt8→Option (List UInt8)
 | a :: b :: r=>match d a,d b with
  | some x,some y=>(unhexL d r).map (UInt8.ofNat (16*x+y) :: ·)
  | _,_=>none
 | _=>some []
theorem hexD_g (n:Nat) (h:n<16):unhexG (hexD n)=some n:=by
 have:∀ m:Fin 16,unhexG (hexD m.1)=some m.1:=by decide
 exact this ⟨n,h⟩
theorem hexD_ne (n:Nat) (h:n<16):hexD n≠10:=by
 have:∀ m:Fin 16,hexD m.1≠10:=by decide
 exact this ⟨n,h⟩
theorem unhexL_hexOf (d:UInt8→Option Nat) (hd:∀ n,n<16→d (hexD n)=some n):∀ l:List UInt8,unhexL d (hexOf l)=some l
 | []=>rfl
 | c :: l=>by
  have hc:=c.toNat_lt
  rw[hexOf_cons]
  unfold unhexL
  rw[hd _ (by omega),hd _ (by omega),unhexL_hexOf d hd l]
  have:UInt8.ofNat (16*(c.toNat / 16)+c.toNat%16)=c:=by
   rw[Nat.div_add_mod];simp
  simp[this]
theorem hexOf_ne (l:List UInt8):∀ c∈hexOf l,c≠10:=by
 intro c hc
 unfold hexOf at hc
 rw[List.mem_flatMap] at hc
 obtain⟨x,_,hx⟩:=hc
 have hb:=x.toNat_lt
 simp only[List.mem_cons,List.not_mem_nil,or_false] at hx
 rcases hx with rfl|rfl
 ·exact hexD_ne _ (by omega)
 ·exact hexD_ne _ (by omega)
theorem dec_ne10 (n:Nat):∀ c∈dec n,c≠10:=by
 intro c hc e
 have:=dec_dig n c hc
 subst e
 unfold isDig at this
 revert this
 decide
theorem index_line:∀ (a t:List UInt8),(∀ c∈a,c≠10)→Lib.index (a++10 :: t) [10]=a.length
 | [],t,_=>by simp[Lib.index,List.isPrefixOf]
 | c :: a,t,h=>by
  have ih:=index_line a t (fun c hc=>h c (by simp[hc]))
  have hne:(10:UInt8)≠c:=fun e=>h c (by simp) e.symm
  simp only[List.cons_append,Lib.index]
  rw[isPrefix_cons_ne hne,ih]
  have:((a.length:Int) == -1)=false:=by rw[beq_eq_false_iff_ne];omega
  simp[this]
def linesOf (s:List UInt8):List (List UInt8):=Lib.splitK [10] 0 (Lib.count s [10]) s
theorem linesOf_line (a t:List UInt8) (h:∀ c∈a,c≠10):linesOf (a++10 :: t)=a :: linesOf t:=by
 have hi:=index_line a t h
 unfold linesOf
 have hd:(a++10 :: t).drop (a.length + [(10:UInt8)].length)=t:=by
  rw[show a++10 :: t=(a ++ [10])++t by simp,show a.length + [(10:UInt8)].length=(a ++ [10]).length by simp,List.drop_left]
 rw[Lib.count_hit (by simp) hi,hd,Nat.add_comm,Lib.splitK,hi]
 rw[if_neg (by simp)]
 simp only[Int.toNat_natCast,Nat.add_zero]
 rw[hd]
 simp
theorem linesOf_nil:linesOf [] = [[]]:=rfl
abbrev Three:=Int×Hsh×Bool
def noThree:Three:=(0,zero8,false)
def checkEnd (text key:List UInt8) (n:Int) (h:Hsh):Three:=if signOf n.toNat h key=text then (n,h,true) else noThree
def checkLines (text key:List UInt8):List (List UInt8)→Three
 | [_,l1,l2,_,_]=>if l2.length≠16 then noThree else match atoiO l1 with
  | none=>noThree
  | some n=>if n<0 then noThree else match unhexL unhexG l2 with
   | none=>noThree
   | some b=>checkEnd text key n (eightOf b)
 | _=>noThree
def checkGo (text key:List UInt8):Three:=checkLines text key (linesOf text)
def CSound (text key:List UInt8) (q:Three):Prop:=(q.2.2=true→0≤q.1∧q.1<9223372036854775808∧signOf q.1.toNat q.2.1 key=text)∧(q.2.2=false→q=noThree)
theorem csound_no (text key:List UInt8):CSound text key noThree:=⟨fun h=>by simp[noThree] at h,fun _=>rfl⟩
theorem checkEnd_sound (text key:List UInt8) (n:Int) (h:Hsh) (h0:0≤n) (h1:n<9223372036854775808):CSound text key (checkEnd text key n h):=by
 unfold checkEnd
 split
 ·rename_i e;exact⟨fun _=>⟨h0,h1,e⟩,fun h=>by simp at h⟩
 ·exact csound_no _ _
theorem checkGo_sound (text key:List UInt8):CSound text key (checkGo text key):=by
 unfold checkGo
 generalize linesOf text=L
 unfold checkLines
 split
 ·split
  ·exact csound_no _ _
  ·split
   ·exact csound_no _ _
   ·rename_i n hn
    split
    ·exact csound_no _ _
    ·split
     ·exact csound_no _ _
     ·exact checkEnd_sound _ _ _ _ (by omega) (atoiO_bd hn)
 ·exact csound_no _ _
theorem eightOf_toList (h:Hsh):eightOf h.toList=h:=by
 apply Vector.ext
 intro i hi
 have:i=0∨i=1∨i=2∨i=3∨i=4∨i=5∨i=6∨i=7:=by omega
 rcases this with rfl|rfl|rfl|rfl|rfl|rfl|rfl|rfl <;> simp[eightOf,List.getD]
theorem toList_len (h:Hsh):h.toList.length=8:=by simp
theorem signOf_lines (n:Nat) (h:Hsh) (key:List UInt8):linesOf (signOf n h key) = [[116,105,108,101,115],dec n,hexOf h.toList,hexOf (hash (key++0 :: headOf n h)).toList,[]]:=by
 unfold signOf
 generalize (hash (key++0 :: headOf n h))=m
 have e:headOf n h++hexOf m.toList ++ [10] = [116,105,108,101,115]++10 :: (dec n++10 :: (hexOf h.toList++10 :: (hexOf m.toList++10 :: []))):=by
  simp[headOf,kTiles]
 rw[e,linesOf_line _ _ (by decide),linesOf_line _ _ (dec_ne10 n),linesOf_line _ _ (hexOf_ne _),linesOf_line _ _ (hexOf_ne _),linesOf_nil]
theorem checkGo_sign (n:Nat) (h:Hsh) (key:List UInt8) (hn:n<9223372036854775808):checkGo (signOf n h key) key=((n:Int),h,true):=by
 unfold checkGo
 rw[signOf_lines]
 have h16:(hexOf h.toList).length=16:=by rw[hexOf_len,toList_len]
 unfold checkLines
 simp only[h16,atoiO_dec n hn,unhexL_hexOf unhexG hexD_g,eightOf_toList]
 rw[if_neg (by simp),if_neg (by omega)]
 unfold checkEnd
 rw[if_pos (by simp)]
end
section
abbrev Fil:=ByteArray×ByteArray
theorem findN_lt {l:List Fil} {p:ByteArray}:findN l p<l.length↔∃ f∈l,f.1=p:=by
 unfold findN
 rw[List.findIdx_lt_length]
 simp
theorem getF_some {l:List Fil} {p b:ByteArray} (h:getF l p=some b):(p,b)∈l:=by
 unfold getF at h
 cases hx:l[findN l p]? with
 | none=>rw[hx] at h;simp at h
 | some x=>
  rw[hx] at h
  simp at h
  obtain⟨hlt,hx'⟩:=List.getElem?_eq_some_iff.1 hx
  have hp:=findN_path hlt
  rw[hx'] at hp
  subst h
  rw[←hp]
  exact List.mem_of_getElem? hx
theorem getF_none {l:List Fil} {p:ByteArray}:getF l p=none↔∀ f∈l,f.1≠p:=by
 unfold getF
 rw[Option.map_eq_none_iff,List.getElem?_eq_none_iff]
 constructor
 ·intro h f hf e
  have:=findN_lt.2 ⟨f,hf,e⟩
  omega
 ·intro h
  rcases Nat.lt_or_ge (findN l p) l.length with h1|h1
  ·obtain⟨f,hf,e⟩:=findN_lt.1 h1
   exact absurd e (h f hf)
  ·exact h1
theorem findN_app_left {l k:List Fil} {p:ByteArray} (h:findN l p<l.length):findN (l++k) p=findN l p:=by
 unfold findN at *
 rw[List.findIdx_append,if_pos h]
theorem findN_app_right {l k:List Fil} {p:ByteArray} (h:¬ findN l p<l.length):findN (l++k) p=findN k p+l.length:=by
 unfold findN at *
 rw[List.findIdx_append,if_neg h]
theorem getF_app (l k:List Fil) (p:ByteArray):getF (l++k) p=(getF l p).or (getF k p):=by
 by_cases h:findN l p<l.length
 ·have e:=findN_app_left (k:=k) h
  unfold getF
  rw[e,List.getElem?_append_left h,List.getElem?_eq_getElem h]
  rfl
 ·have e:=findN_app_right (k:=k) h
  have hn:getF l p=none:=getF_miss h
  rw[hn]
  unfold getF
  rw[e,List.getElem?_append_right (by omega),Nat.add_sub_cancel]
  simp
def Once (l:List Fil):Prop:=(l.map (·.1)).Nodup
theorem once_get {l:List Fil} (h:Once l) {p b:ByteArray} (hm:(p,b)∈l):getF l p=some b:=by
 induction l with
 | nil=>simp at hm
 | cons a l ih=>
  unfold Once at h
  rw[List.map_cons,List.nodup_cons] at h
  have e:getF (a :: l) p=(getF [a] p).or (getF l p):=getF_app [a] l p
  rw[e]
  by_cases hp:a.1=p
  ·have hab:a=(p,b):=by
    rcases List.mem_cons.1 hm with h1|h1
    ·exact h1.symm
    ·exact absurd (List.mem_map.2 ⟨_,h1,hp.symm⟩) h.1
   subst hab
   have:getF [(p,b)] p=some b:=by simp[getF,findN]
   rw[this]
   rfl
  ·have hn:getF [a] p=none:=getF_none.2 (by simpa using hp)
   rw[hn]
   rcases List.mem_cons.1 hm with h1|h1
   ·exact absurd (by rw[←h1]) hp
   ·simpa using ih h.2 h1
theorem set_keys (l:List Fil) (p b:ByteArray) (h:findN l p<l.length):(l.set (findN l p) (p,b)).map (·.1)=l.map (·.1):=by
 rw[List.map_set]
 have hp:=findN_path h
 have:(l.map (·.1))[findN l p]?=some p:=by rw[List.getElem?_map,List.getElem?_eq_getElem h];simp[hp]
 exact List.set_getElem_self' this
where
 List.set_getElem_self' {α:Type} {l:List α} {i:Nat} {a:α} (h:l[i]?=some a):l.set i a=l:=by
  obtain⟨hlt,rfl⟩:=List.getElem?_eq_some_iff.1 h
  exact List.set_getElem_self hlt
theorem putF_keys (l:List Fil) (p b:ByteArray):(putF l p b).map (·.1)=if findN l p<l.length then l.map (·.1) else l.map (·.1) ++ [p]:=by
 unfold putF
 split
 ·exact set_keys l p b (by assumption)
 ·simp
theorem once_put {l:List Fil} (h:Once l) (p b:ByteArray):Once (putF l p b):=by
 unfold Once
 rw[putF_keys]
 split
 ·exact h
 ·rename_i hn
  rw[List.nodup_append]
  refine⟨h,by simp,?_⟩
  intro x hx y hy e
  simp at hy
  subst hy
  subst e
  obtain⟨f,hf,hfx⟩:=List.mem_map.1 hx
  exact hn (findN_lt.2 ⟨f,hf,hfx⟩)
theorem findN_keys {l k:List Fil} (h:l.map (·.1)=k.map (·.1)) (p:ByteArray):findN l p=findN k p:=by
 have e:∀ l:List Fil,findN l p=(l.map (·.1)).findIdx fun x=>decide (x=p):=by
  intro l
  unfold findN
  rw[List.findIdx_map]
  rfl
 rw[e,e,h]
theorem getF_put (l:List Fil) (p b q:ByteArray):getF (putF l p b) q=if q=p then some b else getF l q:=by
 unfold putF
 split
 ·rename_i h
  have hk:=findN_keys (set_keys l p b h) q
  by_cases hq:q=p
  ·subst hq
   rw[if_pos rfl]
   unfold getF
   rw[hk,List.getElem?_set_self h]
   rfl
  ·rw[if_neg hq]
   unfold getF
   rw[hk,List.getElem?_set]
   split
   ·rename_i he
    have h2:findN l q<l.length:=by rw[←he];exact h
    have a:=findN_path h
    have c:=findN_path h2
    simp only[he] at a
    exact absurd (c.symm.trans a) hq
   ·rfl
 ·rename_i h
  rw[getF_app]
  by_cases hq:q=p
  ·subst hq
   rw[if_pos rfl,getF_miss h]
   simp[getF,findN]
  ·rw[if_neg hq]
   have:getF [(p,b)] q=none:=getF_none.2 (by simpa using fun e=>hq e.symm)
   rw[this,Option.or_none]
theorem putF_len (l:List Fil) (p b:ByteArray):l.length≤(putF l p b).length∧(putF l p b).length≤l.length+1:=by
 unfold putF
 split <;> simp
theorem once_firsts (l:List Fil):Once (firsts l):=by
 unfold firsts
 have:∀ acc,Once acc→Once (l.foldl addF acc):=by
  induction l with
  | nil=>intro acc h;exact h
  | cons a l ih=>
   intro acc h
   rw[List.foldl_cons]
   apply ih
   unfold addF
   split
   ·exact h
   ·rename_i hn
    have:putF acc a.1 a.2=acc ++ [a]:=by unfold putF;rw[if_neg hn]
    rw[←this]
    exact once_put h _ _
 exact this [] (by simp[Once])
end
section
def kCp:List UInt8:=[99,104,101,99,107,112,111,105,110,116]
theorem nameOf_inj {l i w l' i' w':Int} (h:nameOk l i w) (h':nameOk l' i' w') (hi:i<9223372036854775808) (hi':i'<9223372036854775808) (e:nameOf l i w=nameOf l' i' w'):l=l'∧i=i'∧w=w':=by
 rw[nameOf_body h,nameOf_body h'] at e
 have a:=parseGo_name h hi
 have b:=parseGo_name h' hi'
 rw[e,b] at a
 simp only[Prod.mk.injEq] at a
 exact⟨a.1.symm,a.2.1.symm,a.2.2.1.symm⟩
theorem nameOf_cp (l i w:Int):nameOf l i w≠kCp:=by
 unfold nameOf
 split
 ·unfold nameBody
  split
  ·intro e;simp[kT,kCp] at e
  ·intro e;simp[kE,kCp] at e
 ·simp[kCp]
def fileOf (t:Int) (data:List (List UInt8)) (j:Nat):Fil:=(sOf (nameOf t j ((min 4 (data.length-4*j):Nat):Int)),sOf ((data.drop (4*j)).take 4).flatten)
def levelF (t:Int) (data:List (List UInt8)):List Fil:=(List.range ((data.length+3) / 4)).map (fileOf t data)
theorem levelF_len (t:Int) (data:List (List UInt8)):(levelF t data).length=(data.length+3) / 4:=by simp[levelF]
theorem levelF_get (t:Int) (data:List (List UInt8)) (j:Nat) (h:4*j<data.length):(levelF t data)[j]?=some (fileOf t data j):=by
 unfold levelF
 rw[List.getElem?_map,List.getElem?_range (by omega)]
 rfl
theorem levelF_drop (t:Int) (data:List (List UInt8)) (j:Nat) (h:4*j<data.length):(levelF t data).drop j=fileOf t data j :: (levelF t data).drop (j+1):=by
 have hl:j<(levelF t data).length:=by rw[levelF_len];omega
 rw[List.drop_eq_getElem_cons hl]
 congr 1
 have:=levelF_get t data j h
 rw[List.getElem?_eq_getElem hl] at this
 exact Option.some.inj this
theorem levelF_out (t:Int) (data:List (List UInt8)) (j:Nat) (h:data.length≤4*j):(levelF t data).drop j = []:=by
 apply List.drop_eq_nil_of_le
 rw[levelF_len]
 omega
def filesR:Int→List (List (List UInt8))→List Fil
 | _,[]=>[]
 | t,r :: rs=>levelF t r++filesR (t+1) rs
def rowsOf (es:List (List UInt8)):List (List (List UInt8)):=es.map encE :: (levels es).map fun r=>r.map fun (h:Hsh)=>h.toList
def filesP (es:List (List UInt8)):List Fil:=filesR (-1) (rowsOf es)
theorem filesR_mem {f:Fil}:∀ (rs:List (List (List UInt8))) (t:Int),f∈filesR t rs↔∃ (n:Nat) (r:List (List UInt8)) (j:Nat),rs[n]?=some r∧4*j<r.length∧f=fileOf (t+(n:Int)) r j
 | [],t=>by simp[filesR]
 | r :: rs,t=>by
   rw[filesR,List.mem_append,filesR_mem rs (t+1)]
   constructor
   ·rintro (h|⟨n,r',j,h1,h2,h3⟩)
    ·unfold levelF at h
     obtain⟨j,hj,rfl⟩:=List.mem_map.1 h
     rw[List.mem_range] at hj
     exact⟨0,r,j,rfl,by omega,by simp⟩
    ·exact⟨n+1,r',j,by simpa using h1,h2,by rw[h3];congr 1;omega⟩
   ·rintro ⟨n,r',j,h1,h2,h3⟩
    cases n with
    | zero=>
     simp at h1
     subst h1
     left
     rw[h3]
     unfold levelF
     exact List.mem_map.2 ⟨j,by rw[List.mem_range];omega,by simp⟩
    | succ n=>exact .inr ⟨n,r',j,by simpa using h1,h2,by rw[h3];congr 1;omega⟩
def Small (t:Int) (rs:List (List (List UInt8))):Prop:=-1≤t∧t+rs.length≤21∧∀ r∈rs,r.length<1099511627776
theorem fileOf_ok {t:Int} {rs:List (List (List UInt8))} (h:Small t rs) {n:Nat} {r:List (List UInt8)} {j:Nat} (hr:rs[n]?=some r) (hj:4*j<r.length) :
  nameOk (t+n) j ((min 4 (r.length-4*j):Nat):Int)∧(j:Int)<9223372036854775808:=by
 obtain⟨h1,h2,h3⟩:=h
 have hn:=(List.getElem?_eq_some_iff.1 hr).1
 have hl:=h3 r (List.mem_of_getElem? hr)
 unfold nameOk
 omega
theorem fileOf_inj {t:Int} {rs:List (List (List UInt8))} (h:Small t rs) {n n':Nat} {r r':List (List UInt8)} {j j':Nat} (hr:rs[n]?=some r) (hj:4*j<r.length) (hr':rs[n']?=some r') (hj':4*j'<r'.length)
  (e:(fileOf (t+n) r j).1=(fileOf (t+n') r' j').1):n=n'∧j=j':=by
 have a:=fileOf_ok h hr hj
 have b:=fileOf_ok h hr' hj'
 have:=nameOf_inj a.1 b.1 a.2 b.2 (sOf_inj e)
 omega
theorem filesR_one {t:Int} {rs:List (List (List UInt8))} (h:Small t rs) {p a b:ByteArray} (ha:(p,a)∈filesR t rs) (hb:(p,b)∈filesR t rs):a=b:=by
 obtain⟨n,r,j,h1,h2,h3⟩:=(filesR_mem rs t).1 ha
 obtain⟨n',r',j',k1,k2,k3⟩:=(filesR_mem rs t).1 hb
 have e:(fileOf (t+n) r j).1=(fileOf (t+n') r' j').1:=by rw[←h3,←k3]
 obtain⟨rfl,rfl⟩:=fileOf_inj h h1 h2 k1 k2 e
 rw[h1] at k1
 cases k1
 rw[←h3] at k3
 have:=congrArg Prod.snd k3
 exact this.symm
theorem filesR_cp {t:Int} {rs:List (List (List UInt8))} {f:Fil} (hm:f∈filesR t rs):f.1≠sOf kCp:=by
 obtain⟨n,r,j,h1,h2,rfl⟩:=(filesR_mem rs t).1 hm
 exact fun e=>nameOf_cp _ _ _ (sOf_inj e)
def badPut (d:Dk) (f:Fil):Bool:=clashF d.files f.1 f.2 || decide (0<enterK d)
def putsD:Dk→List Fil→Dk×Nat
 | d,[]=>(d,0)
 | d,f :: fs=>if badPut d f=true then (putD d f.1 f.2,0) else ((putsD (putD d f.1 f.2) fs).1,(putsD (putD d f.1 f.2) fs).2+1)
def writeJ (t:Int) (row:List (List UInt8)) (j:Nat) (d:Dk):Dk×Nat×Option ByteArray:=
 ((putsD d ((levelF t row).drop j)).1,4*min (j+(putsD d ((levelF t row).drop j)).2) (row.length / 4),((levelF t row)[j+(putsD d ((levelF t row).drop j)).2]?).map (·.1))
theorem writeJ_end (t:Int) (row:List (List UInt8)) (j:Nat) (d:Dk) (h:row.length≤4*j):writeJ t row j d=(d,4*(row.length / 4),none):=by
 unfold writeJ
 rw[levelF_out t row j h]
 simp only[putsD,Nat.add_zero]
 rw[List.getElem?_eq_none (by rw[levelF_len];omega),Nat.min_eq_right (by omega)]
 rfl
theorem writeJ_bad (t:Int) (row:List (List UInt8)) (j:Nat) (d:Dk) (h:4*j<row.length) (hb:badPut d (fileOf t row j)=true) :
  writeJ t row j d=(putD d (fileOf t row j).1 (fileOf t row j).2,4*min j (row.length / 4),some (fileOf t row j).1):=by
 unfold writeJ
 rw[levelF_drop t row j h]
 simp only[putsD,if_pos hb,Nat.add_zero]
 rw[levelF_get t row j h]
 rfl
theorem writeJ_step (t:Int) (row:List (List UInt8)) (j:Nat) (d:Dk) (h:4*j<row.length) (hb:badPut d (fileOf t row j)=false) :
  writeJ t row j d=writeJ t row (j+1) (putD d (fileOf t row j).1 (fileOf t row j).2):=by
 have hb':¬ badPut d (fileOf t row j)=true:=by simp[hb]
 unfold writeJ
 rw[levelF_drop t row j h]
 simp only[putsD,if_neg hb']
 generalize putsD (putD d (fileOf t row j).1 (fileOf t row j).2) ((levelF t row).drop (j+1))=q
 rw[show j+(q.2+1)=j+1+q.2 by omega]
def pubJ:Nat→List (List (List UInt8))→List Nat→Dk→Dk×List Nat×Option ByteArray
 | _,[],put,d=>(d,put,none)
 | n,r :: rs,put,d=>
   let p1:=put++List.replicate (n+1-put.length) 0
   let q:=writeJ ((n:Int)-1) r (p1.getD n 0 / 4) d
   match q.2.2 with
   | some p=>(q.1,p1.set n q.2.1,some p)
   | none=>pubJ (n+1) rs (p1.set n q.2.1) q.1
end
section
def Ext (W l l':List Fil):Prop:=∀ p,getF l' p=getF l p∨(getF l p=none∧∃ b,(p,b)∈W∧getF l' p=some b)
def NoClash (W l:List Fil):Prop:=∀ f∈W,clashF l f.1 f.2=false
def OneOf (W:List Fil):Prop:=∀ p a b,(p,a)∈W→(p,b)∈W→a=b
theorem Ext.refl (W l:List Fil):Ext W l l:=fun _=>.inl rfl
theorem Ext.trans {W a b c:List Fil} (h:Ext W a b) (k:Ext W b c):Ext W a c:=fun p=>by
 rcases k p with h1|⟨h1,x,h2,h3⟩
 ·rcases h p with h4|⟨h4,x,h5,h6⟩
  ·exact .inl (h1.trans h4)
  ·exact .inr ⟨h4,x,h5,h1.trans h6⟩
 ·rcases h p with h4|⟨h4,x,h5,h6⟩
  ·exact .inr ⟨h4.symm.trans h1,x,h2,h3⟩
  ·rw[h6] at h1;cases h1
theorem Ext.keeps {W a b:List Fil} (h:Ext W a b) {p x:ByteArray} (hp:getF a p=some x):getF b p=some x:=by
 rcases h p with h1|⟨h1,_⟩
 ·exact h1.trans hp
 ·rw[hp] at h1;cases h1
theorem clashF_false {l:List Fil} {p b:ByteArray}:clashF l p b=false↔getF l p=none∨getF l p=some b:=by
 unfold clashF
 cases getF l p with
 | none=>simp
 | some x=>simp
theorem NoClash.ext {W l l':List Fil} (h:NoClash W l) (ho:OneOf W) (he:Ext W l l'):NoClash W l':=by
 intro f hf
 rw[clashF_false]
 rcases he f.1 with h1|⟨h1,b,h2,h3⟩
 ·rw[h1];exact clashF_false.1 (h f hf)
 ·right;rw[h3,ho f.1 b f.2 h2 hf]
theorem ext_put {W l:List Fil} {f:Fil} (hf:f∈W) (hn:NoClash W l):Ext W l (putF l f.1 f.2):=by
 intro p
 rw[getF_put]
 split
 ·rename_i h
  subst h
  rcases clashF_false.1 (hn f hf) with h1|h1
  ·exact .inr ⟨h1,f.2,hf,rfl⟩
  ·exact .inl h1.symm
 ·exact .inl rfl
theorem mem_put {l:List Fil} {p b:ByteArray} {f:Fil} (h:f∈putF l p b):f∈l∨f=(p,b):=by
 unfold putF at h
 split at h
 ·rcases List.mem_or_eq_of_mem_set h with h1|h1
  ·exact .inl h1
  ·exact .inr h1
 ·rcases List.mem_append.1 h with h1|h1
  ·exact .inl h1
  ·exact .inr (by simpa using h1)
structure Fresh (d:Dk):Prop where
 dead:d.dead=false
 hit:d.hit=false
 turned:d.turned=false
 once:Once d.files
structure Stretch (W:List Fil) (k:Nat) (d d':Dk):Prop where
 ext:Ext W d.files d'.files
 once:Once d'.files
 turned:d'.turned=false
 mem:∀ f∈d'.files,f∈d.files∨f∈W
 len:d'.files.length≤d.files.length+k
 calls:d'.calls≤d.calls+k
theorem Stretch.refl (W:List Fil) {d:Dk} (h:Fresh d):Stretch W 0 d d:=⟨Ext.refl W _,h.once,h.turned,fun f hf=>.inl hf,Nat.le_refl _,Nat.le_refl _⟩
theorem Stretch.trans {W:List Fil} {j k:Nat} {a b c:Dk} (h:Stretch W j a b) (i:Stretch W k b c):Stretch W (j+k) a c where
 ext:=h.ext.trans i.ext
 once:=i.once
 turned:=i.turned
 mem f hf:=by
  rcases i.mem f hf with h1|h1
  ·exact h.mem f h1
  ·exact .inr h1
 len:=by have:=h.len;have:=i.len;omega
 calls:=by have:=h.calls;have:=i.calls;omega
theorem Stretch.more {W:List Fil} {j k:Nat} {a b:Dk} (h:Stretch W j a b) (hk:j≤k):Stretch W k a b where
 ext:=h.ext
 once:=h.once
 turned:=h.turned
 mem:=h.mem
 len:=Nat.le_trans h.len (by omega)
 calls:=Nat.le_trans h.calls (by omega)
theorem fresh_calm {d:Dk} (h:Fresh d) (hk:enterK d=0):(enterD d).hit=false∧(enterD d).dead=false∧(enterD d).turned=false:=by
 unfold enterK at hk
 rw[if_neg (by simp[h.dead])] at hk
 have hh:¬ enterHit d=true:=by
  intro hh
  rw[if_pos hh] at hk
  split at hk <;> omega
 unfold enterD
 rw[if_neg hh]
 exact⟨h.hit,h.dead,h.turned⟩
theorem fresh_hit {d:Dk} (h:Fresh d) (hk:0<enterK d):(enterD d).hit=true∧(enterD d).turned=false:=by
 unfold enterK at hk
 rw[if_neg (by simp[h.dead])] at hk
 have hh:enterHit d=true:=by
  cases hh:enterHit d with
  | true=>rfl
  | false=>rw[hh] at hk;simp at hk
 unfold enterD
 rw[if_pos hh]
 exact⟨rfl,h.turned⟩
theorem swapD_hit (d:Dk) (p b:ByteArray):(swapD d p b).hit=(enterD d).hit∧(swapD d p b).dead=(enterD d).dead∧(swapD d p b).turned=(enterD d).turned∧(swapD d p b).calls=d.calls+1:=by
 unfold swapD
 split <;> exact⟨rfl,rfl,rfl,enterD_calls d⟩
theorem swapD_files (d:Dk) (p b:ByteArray):(swapD d p b).files=if enterK d<2 then putF d.files p b else d.files:=by
 unfold swapD
 split
 ·rfl
 ·exact enterD_files d
theorem put_stretch {W:List Fil} {d:Dk} {f:Fil} (hd:Fresh d) (hn:NoClash W d.files) (hf:f∈W):Stretch W 1 d (putD d f.1 f.2)∧(badPut d f=false→Fresh (putD d f.1 f.2)∧getF (putD d f.1 f.2).files f.1=some f.2)∧(badPut d f=true→(putD d f.1 f.2).hit=true):=by
 have hc:=hn f hf
 have hp:putD d f.1 f.2=swapD d f.1 f.2:=by unfold putD;rw[if_neg (by simp[hc])]
 obtain⟨s1,s2,s3,s4⟩:=swapD_hit d f.1 f.2
 have s5:=swapD_files d f.1 f.2
 have hb:badPut d f=decide (0<enterK d):=by unfold badPut;rw[hc];simp
 have ht:(enterD d).turned=false:=by
  rcases Nat.eq_zero_or_pos (enterK d) with h|h
  ·exact (fresh_calm hd h).2.2
  ·exact (fresh_hit hd h).2
 rw[hp]
 refine⟨⟨?_,?_,by rw[s3,ht],?_,?_,by omega⟩,?_,?_⟩
 ·rw[s5]
  split
  ·exact ext_put hf hn
  ·exact Ext.refl W _
 ·rw[s5]
  split
  ·exact once_put hd.once _ _
  ·exact hd.once
 ·rw[s5]
  intro g hg
  split at hg
  ·rcases mem_put hg with h1|h1
   ·exact .inl h1
   ·exact .inr (by rw[h1];exact hf)
  ·exact .inl hg
 ·rw[s5]
  split
  ·exact (putF_len _ _ _).2
  ·omega
 ·intro h
  rw[hb] at h
  have h0:enterK d=0:=by simpa using h
  obtain⟨t1,t2,t3⟩:=fresh_calm hd h0
  have hfl:(swapD d f.1 f.2).files=putF d.files f.1 f.2:=by rw[s5,if_pos (by omega)]
  exact⟨⟨by rw[s2,t2],by rw[s1,t1],by rw[s3,t3],by rw[hfl];exact once_put hd.once _ _⟩,by rw[hfl,getF_put,if_pos rfl]⟩
 ·intro h
  rw[hb] at h
  rw[s1]
  exact (fresh_hit hd (by simpa using h)).1
theorem puts_law {W:List Fil} (ho:OneOf W):∀ (fs:List Fil) (d:Dk),(∀ f∈fs,f∈W)→Fresh d→NoClash W d.files→
  Stretch W fs.length d (putsD d fs).1∧(((putsD d fs).2=fs.length∧Fresh (putsD d fs).1∧∀ f∈fs,getF (putsD d fs).1.files f.1=some f.2)∨((putsD d fs).2<fs.length∧(putsD d fs).1.hit=true))
 | [],d,_,hd,_=>⟨Stretch.refl W hd,.inl ⟨rfl,hd,fun f hf=>by simp at hf⟩⟩
 | f :: fs,d,hs,hd,hn=>by
   have hf:=hs f List.mem_cons_self
   obtain⟨h1,h2,h3⟩:=put_stretch hd hn hf
   cases hb:badPut d f with
   | true=>
    simp only[putsD,hb,if_true]
    exact⟨h1.more (by simp),.inr ⟨by simp,h3 hb⟩⟩
   | false=>
    obtain⟨h4,h5⟩:=h2 hb
    obtain⟨h6,h7⟩:=puts_law ho fs (putD d f.1 f.2) (fun g hg=>hs g (List.mem_cons_of_mem _ hg)) h4 (hn.ext ho h1.ext)
    simp only[putsD,hb,Bool.false_eq_true,if_false]
    refine⟨(h1.trans h6).more (by simp;omega),?_⟩
    rcases h7 with ⟨a1,a2,a3⟩|⟨a1,a2⟩
    ·refine .inl ⟨by simp[a1],a2,fun g hg=>?_⟩
     rcases List.mem_cons.1 hg with rfl|hg
     ·exact h6.ext.keeps h5
     ·exact a3 g hg
    ·exact .inr ⟨by simp;omega,a2⟩
def PutOk (l:List Fil) (R:List (List (List UInt8))) (put:List Nat):Prop:=
 put.length≤R.length∧∀ (m a:Nat) (r:List (List UInt8)),put[m]?=some a→R[m]?=some r→a%4=0∧a≤r.length∧∀ j,4*j+4≤a→getF l (fileOf ((m:Int)-1) r j).1=some (fileOf ((m:Int)-1) r j).2
theorem PutOk.pad {l:List Fil} {R:List (List (List UInt8))} {put:List Nat} (h:PutOk l R put) {n:Nat} (hn:n<R.length):PutOk l R (put++List.replicate (n+1-put.length) 0):=by
 refine⟨by simp;have:=h.1;omega,fun m a r ha hr=>?_⟩
 rcases Nat.lt_or_ge m put.length with hm|hm
 ·rw[List.getElem?_append_left hm] at ha
  exact h.2 m a r ha hr
 ·rw[List.getElem?_append_right hm,List.getElem?_replicate] at ha
  split at ha
  ·cases ha
   exact⟨rfl,by omega,fun j hj=>by omega⟩
  ·cases ha
def roomR (R:List (List (List UInt8))):Nat:=(R.map fun r=>(r.length+3) / 4).sum
theorem pub_law {W:List Fil} (ho:OneOf W) (R:List (List (List UInt8))):∀ (m n:Nat) (put:List Nat) (d:Dk),m+n=R.length→(∀ f∈filesR ((n:Int)-1) (R.drop n),f∈W)→Fresh d→NoClash W d.files→PutOk d.files R put→
  Stretch W (roomR (R.drop n)) d (pubJ n (R.drop n) put d).1∧
  (((pubJ n (R.drop n) put d).2.2=none∧Fresh (pubJ n (R.drop n) put d).1∧PutOk (pubJ n (R.drop n) put d).1.files R (pubJ n (R.drop n) put d).2.1∧∀ f∈filesR ((n:Int)-1) (R.drop n),getF (pubJ n (R.drop n) put d).1.files f.1=some f.2)∨
     (∃ p b,(pubJ n (R.drop n) put d).2.2=some p∧(p,b)∈W∧(pubJ n (R.drop n) put d).1.hit=true)):=by
 intro m
 induction m with
 | zero=>
  intro n put d hmn hW hd hn hp
  rw[List.drop_eq_nil_of_le (by omega)]
  simp only[pubJ,filesR,roomR]
  exact⟨Stretch.refl W hd,.inl ⟨trivial,hd,hp,fun f hf=>by simp at hf⟩⟩
 | succ m ih=>
  intro n put d hmn hW hd hn hp
  have hnl:n<R.length:=by omega
  rw[List.drop_eq_getElem_cons hnl] at hW ⊢
  obtain⟨r,hr⟩:∃ r,r=R[n]:=⟨_,rfl⟩
  have hrn:R[n]?=some r:=by rw[List.getElem?_eq_getElem hnl,hr]
  rw[←hr] at hW ⊢
  simp only[pubJ]
  obtain⟨p1,hp1⟩:∃ p1,p1=put++List.replicate (n+1-put.length) 0:=⟨_,rfl⟩
  have hP:=hp.pad hnl
  rw[←hp1] at hP ⊢
  have hnp:n<p1.length:=by rw[hp1];simp;omega
  obtain⟨a,ha⟩:∃ a,p1[n]?=some a:=⟨_,List.getElem?_eq_getElem hnp⟩
  have hga:p1.getD n 0=a:=by rw[List.getD_eq_getElem?_getD,ha];rfl
  rw[hga]
  obtain⟨b1,b2,b3⟩:=hP.2 n a r ha hrn
  simp only[filesR] at hW
  have hW1:∀ f∈levelF ((n:Int)-1) r,f∈W:=fun f hf=>hW f (List.mem_append_left _ hf)
  obtain⟨c1,c2⟩:=puts_law ho ((levelF ((n:Int)-1) r).drop (a / 4)) d (fun f hf=>hW1 f (List.mem_of_mem_drop hf)) hd hn
  obtain⟨q,hq⟩:∃ q,q=putsD d ((levelF ((n:Int)-1) r).drop (a / 4)):=⟨_,rfl⟩
  have hlen:((levelF ((n:Int)-1) r).drop (a / 4)).length=(r.length+3) / 4-a / 4:=by rw[List.length_drop,levelF_len]
  rw[←hq,hlen] at c1 c2
  have hroom:roomR (r :: R.drop (n+1))=(r.length+3) / 4+roomR (R.drop (n+1)):=rfl
  have hw:writeJ ((n:Int)-1) r (a / 4) d=(q.1,4*min (a / 4+q.2) (r.length / 4),((levelF ((n:Int)-1) r)[a / 4+q.2]?).map (·.1)):=by unfold writeJ;rw[←hq]
  rw[hw]
  have hold:∀ j,j<a / 4→getF q.1.files (fileOf ((n:Int)-1) r j).1=some (fileOf ((n:Int)-1) r j).2:=fun j hj=>c1.ext.keeps (b3 j (by omega))
  rcases c2 with ⟨d1,d2,d3⟩|⟨d1,d2⟩
  ·have hall:∀ j,4*j<r.length→getF q.1.files (fileOf ((n:Int)-1) r j).1=some (fileOf ((n:Int)-1) r j).2:=by
    intro j hj
    rcases Nat.lt_or_ge j (a / 4) with h|h
    ·exact hold j h
    ·apply d3
     apply List.mem_of_getElem? (i:=j-a / 4)
     rw[List.getElem?_drop,show a / 4+(j-a / 4)=j by omega,levelF_get _ _ _ hj]
   have hnone:(levelF ((n:Int)-1) r)[a / 4+q.2]?=none:=List.getElem?_eq_none (by rw[levelF_len];omega)
   rw[hnone]
   simp only[Option.map_none]
   have hP2:PutOk q.1.files R (p1.set n (4*min (a / 4+q.2) (r.length / 4))):=by
    refine⟨by rw[List.length_set];exact hP.1,fun i x y hx hy=>?_⟩
    rw[List.getElem?_set] at hx
    split at hx
    ·rename_i hi
     subst hi
     rw[hrn] at hy
     cases hx
     cases hy
     exact⟨by omega,by omega,fun j hj=>hall j (by omega)⟩
    ·exact⟨(hP.2 i x y hx hy).1,(hP.2 i x y hx hy).2.1,fun j hj=>c1.ext.keeps ((hP.2 i x y hx hy).2.2 j hj)⟩
   have hI:=ih (n+1) (p1.set n (4*min (a / 4+q.2) (r.length / 4))) q.1 (by omega) (fun f hf=>hW f (List.mem_append_right _ (by rw[show ((n:Int)-1+1)=((n+1:Nat):Int)-1 by omega];exact hf))) d2 (hn.ext ho c1.ext) hP2
   obtain⟨i1,i2⟩:=hI
   refine⟨?_,?_⟩
   ·rw[hroom]
    exact (c1.trans i1).more (by omega)
   ·rcases i2 with ⟨e1,e2,e3,e4⟩|h
    ·refine .inl ⟨e1,e2,e3,fun f hf=>?_⟩
     simp only[filesR] at hf
     rcases List.mem_append.1 hf with hf|hf
     ·unfold levelF at hf
      obtain⟨j,hj,rfl⟩:=List.mem_map.1 hf
      rw[List.mem_range] at hj
      exact i1.ext.keeps (hall j (by omega))
     ·exact e4 f (by rw[show (((n+1:Nat):Int)-1)=(n:Int)-1+1 by omega];exact hf)
    ·exact .inr h
  ·have hlt:a / 4+q.2<(r.length+3) / 4:=by omega
   have hg:=levelF_get ((n:Int)-1) r (a / 4+q.2) (by omega)
   rw[hg]
   simp only[Option.map_some]
   exact⟨by rw[hroom];exact c1.more (by omega),.inr ⟨_,(fileOf ((n:Int)-1) r (a / 4+q.2)).2,rfl,hW1 _ (List.mem_of_getElem? hg),d2⟩⟩
end
section
theorem nLev_small {n:Nat} (h:n≤1048576):nLev n≤11:=by
 rcases Nat.lt_or_ge 11 (nLev n) with h1|h1
 ·have:=(nLev_iff n 11).1 h1
  have e:4 ^ 11=4194304:=rfl
  omega
 ·exact h1
theorem rowsOf_len (es:List (List UInt8)):(rowsOf es).length=nLev es.length+1:=by simp[rowsOf,levels]
theorem rowsOf_zero (es:List (List UInt8)):(rowsOf es)[0]?=some (es.map encE):=rfl
theorem rowsOf_succ (es:List (List UInt8)) (k:Nat) (h:k<nLev es.length):(rowsOf es)[k+1]?=some ((levelRow es k).map fun (x:Hsh)=>x.toList):=by
 unfold rowsOf levels
 rw[List.getElem?_cons_succ,List.getElem?_map,List.getElem?_map,List.getElem?_range h]
 rfl
theorem rowsOf_row {es:List (List UInt8)} {m:Nat} {r:List (List UInt8)} (h:(rowsOf es)[m]?=some r):(m=0∧r=es.map encE)∨∃ k,m=k+1∧k<nLev es.length∧r=(levelRow es k).map fun (x:Hsh)=>x.toList:=by
 cases m with
 | zero=>rw[rowsOf_zero] at h;cases h;exact .inl ⟨rfl,rfl⟩
 | succ k=>
  have hk:k<nLev es.length:=by
   have:=(List.getElem?_eq_some_iff.1 h).1
   rw[rowsOf_len] at this
   omega
  rw[rowsOf_succ es k hk] at h
  cases h
  exact .inr ⟨k,rfl,hk,rfl⟩
theorem rowsOf_short {es:List (List UInt8)} {r:List (List UInt8)} (h:r∈rowsOf es):r.length≤es.length:=by
 obtain⟨m,hm⟩:=List.mem_iff_getElem?.1 h
 rcases rowsOf_row hm with ⟨_,rfl⟩|⟨k,_,_,rfl⟩
 ·simp
 ·rw[List.length_map,levelRow_len]
  exact Nat.div_le_self _ _
theorem rowsOf_small {es:List (List UInt8)} (h:es.length≤1048576):Small (-1) (rowsOf es):=by
 have:=nLev_small h
 refine⟨by omega,by rw[rowsOf_len];omega,fun r hr=>by have:=rowsOf_short hr;omega⟩
theorem filesP_one {es:List (List UInt8)} (h:es.length≤1048576):OneOf (filesP es):=fun _ _ _ ha hb=>filesR_one (rowsOf_small h) ha hb
def cpOf (es:List (List UInt8)) (key:ByteArray):ByteArray:=sOf (signOf es.length (rootOf es) key.data.toList)
def pubD (es:List (List UInt8)) (key:ByteArray) (put:List Nat) (d:Dk):Dk×List Nat×Option ByteArray:=
 match (pubJ 0 (rowsOf es) put d).2.2 with
 | some p=>((pubJ 0 (rowsOf es) put d).1,(pubJ 0 (rowsOf es) put d).2.1,some p)
 | none=>(swapD (pubJ 0 (rowsOf es) put d).1 (sOf kCp) (cpOf es key),(pubJ 0 (rowsOf es) put d).2.1,if 0<enterK (pubJ 0 (rowsOf es) put d).1 then some (sOf kCp) else none)
def KeptP (l l' W:List Fil) (c:ByteArray):Prop:=∀ p,getF l' p=getF l p∨(getF l p=none∧∃ b,(p,b)∈W∧getF l' p=some b)∨(p=sOf kCp∧getF l' p=some c)
theorem roomR_le (R:List (List (List UInt8))) (k:Nat) (h:∀ r∈R,r.length≤k):roomR R≤R.length*(k+3):=by
 induction R with
 | nil=>simp[roomR]
 | cons a R ih=>
  have h1:=ih fun r hr=>h r (List.mem_cons_of_mem _ hr)
  have h2:=h a List.mem_cons_self
  have e:roomR (a :: R)=(a.length+3) / 4+roomR R:=rfl
  rw[e,List.length_cons,Nat.add_mul]
  omega
theorem room_rows {es:List (List UInt8)} (h:es.length≤1048576):roomR (rowsOf es)≤12*(es.length+3):=by
 refine Nat.le_trans (roomR_le _ es.length fun r hr=>rowsOf_short hr) (Nat.mul_le_mul_right _ ?_)
 rw[rowsOf_len]
 have:=nLev_small h
 omega
theorem publish_law {es:List (List UInt8)} (key:ByteArray) {put:List Nat} {d:Dk} (hl:es.length≤1048576) (hd:Fresh d) (hn:NoClash (filesP es) d.files) (hp:PutOk d.files (rowsOf es) put) :
  KeptP d.files (pubD es key put d).1.files (filesP es) (cpOf es key)∧Once (pubD es key put d).1.files∧(pubD es key put d).1.turned=false∧
  (∀ f∈(pubD es key put d).1.files,f∈d.files∨f∈filesP es∨f=(sOf kCp,cpOf es key))∧(pubD es key put d).1.files.length≤d.files.length+12*(es.length+3)+1∧(pubD es key put d).1.calls≤d.calls+12*(es.length+3)+1∧
  (((pubD es key put d).2.2=none∧Fresh (pubD es key put d).1∧PutOk (pubD es key put d).1.files (rowsOf es) (pubD es key put d).2.1∧(∀ f∈filesP es,getF (pubD es key put d).1.files f.1=some f.2)∧getF (pubD es key put d).1.files (sOf kCp)=some (cpOf es key))∨
     (∃ p,(pubD es key put d).2.2=some p∧(pubD es key put d).1.hit=true∧((∃ b,(p,b)∈filesP es)∨p=sOf kCp))):=by
 have ho:=filesP_one hl
 have hr:=room_rows hl
 have h:=pub_law ho (rowsOf es) (rowsOf es).length 0 put d (by omega) (fun f hf=>hf) hd hn hp
 rw[List.drop_zero] at h
 unfold pubD
 generalize pubJ 0 (rowsOf es) put d=q at h ⊢
 obtain⟨h1,h2⟩:=h
 have hkeep:∀ p,getF q.1.files p=getF d.files p∨(getF d.files p=none∧∃ b,(p,b)∈filesP es∧getF q.1.files p=some b):=h1.ext
 rcases h2 with ⟨e1,e2,e3,e4⟩|⟨p,b,e1,e2,e3⟩
 ·rw[e1]
  simp only[]
  obtain⟨s1,s2,s3,s4⟩:=swapD_hit q.1 (sOf kCp) (cpOf es key)
  have s5:=swapD_files q.1 (sOf kCp) (cpOf es key)
  have hget:∀ p,getF (swapD q.1 (sOf kCp) (cpOf es key)).files p=getF q.1.files p∨(p=sOf kCp∧getF (swapD q.1 (sOf kCp) (cpOf es key)).files p=some (cpOf es key)):=by
   intro p
   rw[s5]
   split
   ·rw[getF_put]
    split
    ·rename_i h;exact .inr ⟨h,rfl⟩
    ·exact .inl rfl
   ·exact .inl rfl
  refine⟨fun p=>?_,?_,?_,?_,?_,?_,?_⟩
  ·rcases hget p with h3|h3
   ·rw[h3]
    rcases hkeep p with h4|h4
    ·exact .inl h4
    ·exact .inr (.inl h4)
   ·exact .inr (.inr h3)
  ·rw[s5]
   split
   ·exact once_put h1.once _ _
   ·exact h1.once
  ·rw[s3]
   rcases Nat.eq_zero_or_pos (enterK q.1) with h|h
   ·exact (fresh_calm e2 h).2.2
   ·exact (fresh_hit e2 h).2
  ·intro f hf
   rw[s5] at hf
   split at hf
   ·rcases mem_put hf with h3|h3
    ·rcases h1.mem f h3 with h4|h4
     ·exact .inl h4
     ·exact .inr (.inl h4)
    ·exact .inr (.inr h3)
   ·rcases h1.mem f hf with h4|h4
    ·exact .inl h4
    ·exact .inr (.inl h4)
  ·have:=h1.len
   rw[s5]
   split
   ·have:=(putF_len q.1.files (sOf kCp) (cpOf es key)).2;omega
   ·omega
  ·have:=h1.calls;omega
  ·rcases Nat.eq_zero_or_pos (enterK q.1) with h|h
   ·left
    obtain⟨t1,t2,t3⟩:=fresh_calm e2 h
    have hfl:(swapD q.1 (sOf kCp) (cpOf es key)).files=putF q.1.files (sOf kCp) (cpOf es key):=by rw[s5,if_pos (by omega)]
    have hcp:∀ f∈filesP es,f.1≠sOf kCp:=fun f hf=>filesR_cp hf
    refine⟨if_neg (by omega),⟨by rw[s2,t2],by rw[s1,t1],by rw[s3,t3],by rw[hfl];exact once_put h1.once _ _⟩,⟨e3.1,fun m a r ha hr=>?_⟩,fun f hf=>?_,by rw[hfl,getF_put,if_pos rfl]⟩
    ·obtain⟨k1,k2,k3⟩:=e3.2 m a r ha hr
     refine⟨k1,k2,fun j hj=>?_⟩
     rw[hfl,getF_put,if_neg]
     ·exact k3 j hj
     ·exact fun e=>nameOf_cp _ _ _ (sOf_inj e)
    ·rw[hfl,getF_put,if_neg (hcp f hf)]
     exact e4 f hf
   ·right
    exact⟨sOf kCp,if_pos h,by rw[s1];exact (fresh_hit e2 h).1,.inr rfl⟩
 ·rw[e1]
  simp only[]
  refine⟨fun p=>?_,h1.once,h1.turned,fun f hf=>?_,by have:=h1.len;omega,by have:=h1.calls;omega,.inr ⟨p,rfl,e3,.inl ⟨b,e2⟩⟩⟩
  ·rcases hkeep p with h4|h4
   ·exact .inl h4
   ·exact .inr (.inl h4)
  ·rcases h1.mem f hf with h4|h4
   ·exact .inl h4
   ·exact .inr (.inl h4)
theorem fileOf_more (t:Int) (r s:List (List UInt8)) (j:Nat) (h:4*j+4≤r.length):fileOf t (r++s) j=fileOf t r j:=by
 unfold fileOf
 have e:min 4 ((r++s).length-4*j)=min 4 (r.length-4*j):=by rw[List.length_append];omega
 rw[e,List.drop_append_of_le_length (by omega),List.take_append_of_le_length (by rw[List.length_drop];omega)]
theorem levelRow_prefix (es:List (List UInt8)) (e:List UInt8) (k:Nat):∃ s,levelRow (es ++ [e]) k=levelRow es k++s:=by
 have hp:0<4 ^ k:=Nat.pow_pos (by decide)
 by_cases h:(es.length+1) / 4 ^ k=es.length / 4 ^ k
 ·exact⟨[],by rw[levelRow_same es e k h,List.append_nil]⟩
 ·refine⟨_,levelRow_more es e k (es.length / 4 ^ k) rfl ?_⟩
  rw[Nat.succ_div] at h ⊢
  split
  ·rfl
  ·rename_i hd
   rw[if_neg hd] at h
   exact absurd rfl h
theorem nLev_mono (n:Nat):nLev n≤nLev (n+1):=by
 rcases Nat.lt_or_ge (nLev (n+1)) (nLev n) with h|h
 ·have a:=(nLev_iff n _).1 h
  have b:=(nLev_iff (n+1) (nLev (n+1))).2 (by omega)
  omega
 ·exact h
theorem rows_prefix {es:List (List UInt8)} (e:List UInt8) {m:Nat} {r:List (List UInt8)} (h:(rowsOf (es ++ [e]))[m]?=some r) (hm:m<(rowsOf es).length):∃ r0 s,(rowsOf es)[m]?=some r0∧r=r0++s:=by
 rw[rowsOf_len] at hm
 rcases rowsOf_row h with ⟨rfl,rfl⟩|⟨k,rfl,hk,rfl⟩
 ·exact⟨_,[encE e],rowsOf_zero es,by simp⟩
 ·obtain⟨s,hs⟩:=levelRow_prefix es e k
  exact⟨_,s.map fun (x:Hsh)=>x.toList,rowsOf_succ es k (by omega),by rw[hs,List.map_append]⟩
theorem putOk_more {l:List Fil} {es:List (List UInt8)} {put:List Nat} (e:List UInt8) (h:PutOk l (rowsOf es) put):PutOk l (rowsOf (es ++ [e])) put:=by
 refine⟨?_,fun m a r ha hr=>?_⟩
 ·have:=h.1
  rw[rowsOf_len] at this ⊢
  have:=nLev_mono es.length
  simp only[List.length_append,List.length_cons,List.length_nil,Nat.zero_add] at *
  omega
 ·have hm:=(List.getElem?_eq_some_iff.1 ha).1
  obtain⟨r0,s,h0,rfl⟩:=rows_prefix e hr (by have:=h.1;omega)
  obtain⟨k1,k2,k3⟩:=h.2 m a r0 ha h0
  refine⟨k1,by rw[List.length_append];omega,fun j hj=>?_⟩
  rw[fileOf_more _ _ _ _ (by omega)]
  exact k3 j hj
theorem putOk_nil (l:List Fil) (es:List (List UInt8)):PutOk l (rowsOf es) []:=⟨by simp,fun m a r ha=>by simp at ha⟩
def MarkOk (R:List (List (List UInt8))) (put:List Nat):Prop:=put.length≤R.length∧∀ (m a:Nat) (r:List (List UInt8)),put[m]?=some a→R[m]?=some r→a%4=0∧a≤r.length
theorem PutOk.mark {l:List Fil} {R:List (List (List UInt8))} {put:List Nat} (h:PutOk l R put):MarkOk R put:=⟨h.1,fun m a r h1 h2=>⟨(h.2 m a r h1 h2).1,(h.2 m a r h1 h2).2.1⟩⟩
theorem MarkOk.next {R:List (List (List UInt8))} {put:List Nat} (h:MarkOk R put) {n x:Nat} {r:List (List UInt8)} (hr:R[n]?=some r) (hx:x%4=0∧x≤r.length):MarkOk R ((put++List.replicate (n+1-put.length) 0).set n x):=by
 have hn:=(List.getElem?_eq_some_iff.1 hr).1
 refine⟨by simp;have:=h.1;omega,fun m a q ha hq=>?_⟩
 rw[List.getElem?_set] at ha
 split at ha
 ·rename_i hnm
  subst hnm
  split at ha
  ·cases ha;rw[hr] at hq;cases hq;exact hx
  ·cases ha
 ·rcases Nat.lt_or_ge m put.length with hm|hm
  ·rw[List.getElem?_append_left hm] at ha
   exact h.2 m a q ha hq
  ·rw[List.getElem?_append_right hm,List.getElem?_replicate] at ha
   split at ha
   ·cases ha;exact⟨rfl,by omega⟩
   ·cases ha
theorem writeJ_mark (t:Int) (row:List (List UInt8)) (j:Nat) (d:Dk):(writeJ t row j d).2.1%4=0∧(writeJ t row j d).2.1≤row.length:=by
 unfold writeJ
 simp only[]
 omega
theorem pubJ_step {R:List (List (List UInt8))} {n:Nat} {r:List (List UInt8)} (hr:R[n]?=some r) (put:List Nat) (d:Dk) {p1:List Nat} {q:Dk×Nat×Option ByteArray} (hp:p1=put++List.replicate (n+1-put.length) 0) (hq:q=writeJ ((n:Int)-1) r (p1.getD n 0 / 4) d) :
  pubJ n (R.drop n) put d=match q.2.2 with|some p=>(q.1,p1.set n q.2.1,some p)|none=>pubJ (n+1) (R.drop (n+1)) (p1.set n q.2.1) q.1:=by
 obtain⟨hlt,he⟩:=List.getElem?_eq_some_iff.1 hr
 rw[List.drop_eq_getElem_cons hlt,he]
 simp only[pubJ]
 rw[←hp,←hq] <;> cases q.2.2 <;> rfl
theorem pubJ_out {R:List (List (List UInt8))} {n:Nat} (h:R.length≤n) (put:List Nat) (d:Dk):pubJ n (R.drop n) put d=(d,put,none):=by rw[List.drop_eq_nil_of_le h];rfl
end
section
def bunName (i w:Nat):ByteArray:=sOf (nameOf (-1) i w)
def bundleF (l:List Fil) (i w:Nat):Option (List (List UInt8)):=(getF l (bunName i w)).bind fun b=>(unbundleOf b.data.toList).bind fun e=>if e.length=w then some e else none
theorem bundleF_none {l:List Fil} {i w:Nat} (h:getF l (bunName i w)=none):bundleF l i w=none:=by unfold bundleF;rw[h];rfl
theorem bundleF_bad {l:List Fil} {i w:Nat} {b:ByteArray} (h:getF l (bunName i w)=some b) (hb:unbundleOf b.data.toList=none):bundleF l i w=none:=by unfold bundleF;rw[h,Option.bind_some,hb];rfl
theorem bundleF_ok {l:List Fil} {i w:Nat} {b:ByteArray} {e:List (List UInt8)} (h:getF l (bunName i w)=some b) (hb:unbundleOf b.data.toList=some e):bundleF l i w=if e.length=w then some e else none:=by unfold bundleF;rw[h,Option.bind_some,hb];rfl
theorem unbundleOf_lens {b:List UInt8} {e:List (List UInt8)} (h:unbundleOf b=some e):0<e.length∧e.length≤4∧∀ x∈e,x.length≤20:=by
 unfold unbundleOf at h
 cases hr:rawU b with
 | none=>rw[hr] at h;simp at h
 | some ls=>
  rw[hr,Option.bind_some] at h
  split at h
  ·rename_i hs
   cases h
   unfold bundleOf at hs
   split at hs
   ·simp at hs
   ·rename_i h0
    split at hs
    ·rename_i ha
     refine⟨by omega,by omega,fun x hx=>?_⟩
     exact of_decide_eq_true (List.all_eq_true.1 ha x hx)
    ·simp at hs
  ·cases h
theorem bundleF_some {l:List Fil} {i w:Nat} {e:List (List UInt8)} (h:bundleF l i w=some e):e.length=w∧0<w∧w≤4∧(∀ x∈e,x.length≤20)∧∃ b,getF l (bunName i w)=some b:=by
 cases hg:getF l (bunName i w) with
 | none=>rw[bundleF_none hg] at h;cases h
 | some b=>
  cases hb:unbundleOf b.data.toList with
  | none=>rw[bundleF_bad hg hb] at h;cases h
  | some e'=>
   rw[bundleF_ok hg hb] at h
   split at h
   ·rename_i hw
    cases h
    obtain⟨h1,h2,h3⟩:=unbundleOf_lens hb
    exact⟨hw,by omega,by omega,h3,b,rfl⟩
   ·cases h
def loadP (l:List Fil) (n:Nat):Nat→Nat→List (List UInt8)→List (List UInt8)×Option Nat
 | 0,_,d=>(d,none)
 | m+1,i,d=>match bundleF l i (min 4 (n-4*i)) with
  | none=>(d,some i)
  | some e=>loadP l n m (i+1) (d++e)
def furtherW (l:List Fil) (d:List (List UInt8)):Nat→List (List UInt8)×Bool
 | 0=>([],false)
 | w+1=>if w+1≤d.length%4 then ([],false) else
   if (getF l (bunName (d.length / 4) (w+1))).isNone then furtherW l d w else
   match bundleF l (d.length / 4) (w+1) with
   | none=>([],false)
   | some e=>if e.take (d.length%4)=d.drop (4*(d.length / 4)) then (e.drop (d.length%4),decide (w+1=4)) else ([],false)
def furtherP (l:List Fil) (d:List (List UInt8)):List (List UInt8)×Bool:=furtherW l d 4
inductive Goes (l:List Fil):List (List UInt8)→List (List UInt8)→Prop where
 | stop {d:List (List UInt8)}:(furtherP l d).2=false→Goes l d (d++(furtherP l d).1)
 | more {d r:List (List UInt8)}:(furtherP l d).2=true→Goes l (d++(furtherP l d).1) r→Goes l d r
theorem Goes.one {l:List Fil} {d a b:List (List UInt8)} (h:Goes l d a) (k:Goes l d b):a=b:=by
 induction h with
 | stop h1=>
  cases k with
  | stop=>rfl
  | more k1 _=>rw[h1] at k1;cases k1
 | more h1 _ ih=>
  cases k with
  | stop k1=>rw[h1] at k1;cases k1
  | more _ k2=>exact ih k2
def openHead (l:List Fil) (key:ByteArray):Option (Nat×Hsh):=match getF l (sOf kCp) with
 | none=>some (0,hash [])
 | some b=>if (checkGo b.data.toList key.data.toList).2.2=true then some ((checkGo b.data.toList key.data.toList).1.toNat,(checkGo b.data.toList key.data.toList).2.1) else none
inductive Opn where
 | bad (k:Nat) (p:ByteArray)
 | good (es:List (List UInt8)) (n:Nat)
inductive OpensTo (l:List Fil) (key:ByteArray):Opn→Prop where
 | checkpoint:openHead l key=none→OpensTo l key (.bad 3 ⟨#[]⟩)
 | tile {n:Nat} {root:Hsh} {d:List (List UInt8)} {i:Nat}:openHead l key=some (n,root)→loadP l n ((n+3) / 4) 0 []=(d,some i)→OpensTo l key (.bad 6 (bunName i (min 4 (n-4*i))))
 | proof {n:Nat} {root:Hsh} {d:List (List UInt8)}:openHead l key=some (n,root)→loadP l n ((n+3) / 4) 0 []=(d,none)→rootOf d≠root→OpensTo l key (.bad 5 ⟨#[]⟩)
 | fine {n:Nat} {root:Hsh} {d r:List (List UInt8)}:openHead l key=some (n,root)→loadP l n ((n+3) / 4) 0 []=(d,none)→rootOf d=root→Goes l d r→OpensTo l key (.good r n)
theorem OpensTo.one {l:List Fil} {key:ByteArray} {a b:Opn} (h:OpensTo l key a) (k:OpensTo l key b):a=b:=by
 cases h with
 | checkpoint h1=>
  cases k with
  | checkpoint=>rfl
  | tile k1=>rw[h1] at k1;cases k1
  | proof k1=>rw[h1] at k1;cases k1
  | fine k1=>rw[h1] at k1;cases k1
 | tile h1 h2=>
  cases k with
  | checkpoint k1=>rw[h1] at k1;cases k1
  | tile k1 k2=>rw[h1] at k1;cases k1;rw[h2] at k2;cases k2;rfl
  | proof k1 k2=>rw[h1] at k1;cases k1;rw[h2] at k2;cases k2
  | fine k1 k2=>rw[h1] at k1;cases k1;rw[h2] at k2;cases k2
 | proof h1 h2 h3=>
  cases k with
  | checkpoint k1=>rw[h1] at k1;cases k1
  | tile k1 k2=>rw[h1] at k1;cases k1;rw[h2] at k2;cases k2
  | proof k1 k2=>rfl
  | fine k1 k2 k3=>rw[h1] at k1;cases k1;rw[h2] at k2;cases k2;exact absurd k3 h3
 | fine h1 h2 h3 h4=>
  cases k with
  | checkpoint k1=>rw[h1] at k1;cases k1
  | tile k1 k2=>rw[h1] at k1;cases k1;rw[h2] at k2;cases k2
  | proof k1 k2 k3=>rw[h1] at k1;cases k1;rw[h2] at k2;cases k2;exact absurd h3 k3
  | fine k1 k2 k3 k4=>rw[h1] at k1;cases k1;rw[h2] at k2;cases k2;rw[h4.one k4]
def Has (l:List Fil) (i:Nat):Prop:=∃ w,1≤w∧w≤4∧∃ b,getF l (bunName i w)=some b
def FewB (l:List Fil) (N:Nat):Prop:=∀ m,(∀ i,i<m→Has l i)→m≤N
theorem pigeon:∀ (U:List Nat) (m:Nat),(∀ i,i<m→i∈U)→m≤U.length:=by
 intro U m
 induction m generalizing U with
 | zero=>intro _;omega
 | succ m ih=>
  intro h
  have hm:=h m (by omega)
  have:=ih (U.erase m) fun i hi=>by
   rw[List.mem_erase_of_ne (by omega)]
   exact h i (by omega)
  rw[List.length_erase_of_mem hm] at this
  have:=List.length_pos_of_mem hm
  omega
theorem fewB_of {l:List Fil} {U:List Nat} (h:∀ i,i<9223372036854775808→Has l i→i∈U) (hU:U.length<9223372036854775808):FewB l U.length:=by
 intro m hm
 rcases Nat.lt_or_ge m 9223372036854775808 with h1|h1
 ·exact pigeon U m fun i hi=>h i (by omega) (hm i hi)
 ·have:=pigeon U 9223372036854775808 fun i hi=>h i hi (hm i (by omega))
  omega
structure Taken (l:List Fil) (d:List (List UInt8)):Prop where
 short:∀ e∈d,e.length≤20
 has:∀ i,4*i<d.length→Has l i
theorem Taken.few {l:List Fil} {d:List (List UInt8)} {N:Nat} (h:Taken l d) (hN:FewB l N):d.length≤4*N:=by
 have:=hN ((d.length+3) / 4) fun i hi=>h.has i (by omega)
 omega
theorem Taken.nil (l:List Fil):Taken l []:=⟨fun _ h=>by simp at h,fun i h=>by simp at h⟩
theorem Taken.step {l:List Fil} {d e:List (List UInt8)} {i w:Nat} (h:Taken l d) (hd:d.length=4*i) (hb:bundleF l i w=some e):Taken l (d++e):=by
 obtain⟨h1,h2,h3,h4,b,h5⟩:=bundleF_some hb
 refine⟨fun x hx=>?_,fun j hj=>?_⟩
 ·rcases List.mem_append.1 hx with hx|hx
  ·exact h.short x hx
  ·exact h4 x hx
 ·rw[List.length_append] at hj
  rcases Nat.lt_or_ge j i with hji|hji
  ·exact h.has j (by omega)
  ·exact⟨w,h2,h3,b,by rw[show j=i by omega];exact h5⟩
theorem Taken.further {l:List Fil} {d:List (List UInt8)} (h:Taken l d):∀ w,w≤4→Taken l (d++(furtherW l d w).1)∧((furtherW l d w).2=true→(d++(furtherW l d w).1).length=4*(d.length / 4+1))
 | 0,_=>by simp only[furtherW,List.append_nil];exact⟨h,fun h=>by cases h⟩
 | w+1,hw=>by
   rw[furtherW]
   split
   ·rw[List.append_nil];exact⟨h,fun h=>by cases h⟩
   ·rename_i h0
    split
    ·exact h.further w (by omega)
    ·cases hb:bundleF l (d.length / 4) (w+1) with
     | none=>simp only[List.append_nil];exact⟨h,fun h=>by cases h⟩
     | some e=>
      simp only[]
      split
      ·rename_i he
       obtain⟨h1,h2,h3,h4,b,h5⟩:=bundleF_some hb
       refine⟨⟨fun x hx=>?_,fun j hj=>?_⟩,fun ht=>?_⟩
       ·rcases List.mem_append.1 hx with hx|hx
        ·exact h.short x hx
        ·exact h4 x (List.mem_of_mem_drop hx)
       ·rw[List.length_append,List.length_drop] at hj
        rcases Nat.lt_or_ge j (d.length / 4) with hji|hji
        ·exact h.has j (by omega)
        ·exact⟨w+1,h2,h3,b,by rw[show j=d.length / 4 by omega];exact h5⟩
       ·have:=of_decide_eq_true ht
        rw[List.length_append,List.length_drop]
        omega
      ·rw[List.append_nil];exact⟨h,fun h=>by cases h⟩
theorem Taken.goes {l:List Fil} {d r:List (List UInt8)} (h:Taken l d) (hg:Goes l d r):Taken l r:=by
 induction hg with
 | stop _=>exact (h.further 4 (by omega)).1
 | more _ _ ih=>exact ih (h.further 4 (by omega)).1
theorem Taken.load {l:List Fil} {n:Nat}:∀ (m i:Nat) (d:List (List UInt8)),Taken l d→d.length=min n (4*i)→4*(m+i)<n+4→Taken l (loadP l n m i d).1
 | 0,_,d,h,_,_=>h
 | m+1,i,d,h,hd,hm=>by
   rw[loadP]
   cases hb:bundleF l i (min 4 (n-4*i)) with
   | none=>exact h
   | some e=>
    obtain⟨h1,h2,h3,h4,b,h5⟩:=bundleF_some hb
    exact Taken.load m (i+1) (d++e) (h.step (by omega) hb) (by rw[List.length_append];omega) (by omega)
theorem OpensTo.taken {l:List Fil} {key:ByteArray} {es:List (List UInt8)} {n:Nat} (h:OpensTo l key (.good es n)):Taken l es:=by
 cases h with
 | fine h1 h2 h3 h4=>
  have:=Taken.load (l:=l) (n:=n) ((n+3) / 4) 0 [] (Taken.nil l) (by simp) (by omega)
  rw[h2] at this
  exact this.goes h4
end
section
structure Calm (k:Nat) (d d':Dk):Prop where
 files:d'.files=d.files
 turned:d'.turned=d.turned
 dead:d'.dead=d.dead
 hit:d'.hit=d.hit
 failAt:d'.failAt=d.failAt
 calls:d'.calls≤d.calls+k
structure Hurt (k:Nat) (d d':Dk):Prop where
 files:d'.files=d.files
 turned:d'.turned=d.turned
 why:d.dead=true∨0<d.failAt
 hit:(d.dead=true→d.hit=true)→(d'.dead=true→d'.hit=true)
 calls:d'.calls≤d.calls+k
theorem Calm.refl (d:Dk):Calm 0 d d:=⟨rfl,rfl,rfl,rfl,rfl,Nat.le_refl _⟩
theorem Calm.trans {j k:Nat} {a b c:Dk} (h:Calm j a b) (i:Calm k b c):Calm (j+k) a c:=
 ⟨i.files.trans h.files,i.turned.trans h.turned,i.dead.trans h.dead,i.hit.trans h.hit,i.failAt.trans h.failAt,by have:=h.calls;have:=i.calls;omega⟩
theorem Calm.more {j k:Nat} {a b:Dk} (h:Calm j a b) (hk:j≤k):Calm k a b:=⟨h.files,h.turned,h.dead,h.hit,h.failAt,by have:=h.calls;omega⟩
theorem Calm.hurt {j k:Nat} {a b c:Dk} (h:Calm j a b) (i:Hurt k b c):Hurt (j+k) a c:=
 ⟨i.files.trans h.files,i.turned.trans h.turned,by have:=i.why;rw[h.dead,h.failAt] at this;exact this,fun ha=>i.hit (by rw[h.dead,h.hit];exact ha),by have:=h.calls;have:=i.calls;omega⟩
theorem Hurt.more {j k:Nat} {a b:Dk} (h:Hurt j a b) (hk:j≤k):Hurt k a b:=⟨h.files,h.turned,h.why,h.hit,by have:=h.calls;omega⟩
theorem calm_enter {d:Dk} (h:enterK d=0):Calm 1 d (enterD d):=by
 have hh:¬ enterHit d=true:=by
  intro hh
  unfold enterK at h
  rw[hh] at h
  simp only[if_true] at h
  split at h
  ·omega
  ·split at h <;> omega
 unfold enterD
 rw[if_neg hh]
 exact⟨rfl,rfl,rfl,rfl,rfl,Nat.le_refl _⟩
theorem hurt_enter {d:Dk} (h:0<enterK d):Hurt 1 d (enterD d):=by
 unfold enterK at h
 unfold enterD
 cases hd:d.dead with
 | true=>
  have hh:¬ enterHit d=true:=by unfold enterHit;simp[hd]
  rw[if_neg hh]
  exact⟨rfl,rfl,.inl hd,fun a=>by simpa [hd] using a,Nat.le_refl _⟩
 | false=>
  rw[hd] at h
  cases hh:enterHit d with
  | false=>rw[hh] at h;simp at h
  | true=>
   rw[if_pos rfl]
   refine⟨rfl,rfl,.inr ?_,fun _ _=>rfl,Nat.le_refl _⟩
   unfold enterHit at hh
   simp at hh
   exact hh.2.1
structure Sane (d:Dk) (U:List Nat) (K:Nat):Prop where
 once:Once d.files
 turned:d.turned=false
 hit:d.dead=true→d.hit=true
 calls:d.calls≤K
 len:d.files.length≤K
 size:∀ f∈d.files,f.2.size≤1048576
 has:∀ i,i<9223372036854775808→Has d.files i→i∈U
theorem Sane.grow {d:Dk} {U:List Nat} {K K':Nat} (h:Sane d U K) (x:Nat) (hK:K≤K'):Sane d (x :: U) K':=
 ⟨h.once,h.turned,h.hit,Nat.le_trans h.calls hK,Nat.le_trans h.len hK,h.size,fun i hi hh=>List.mem_cons_of_mem _ (h.has i hi hh)⟩
theorem Sane.more {d:Dk} {U:List Nat} {K K':Nat} (h:Sane d U K) (hK:K≤K'):Sane d U K':=
 ⟨h.once,h.turned,h.hit,Nat.le_trans h.calls hK,Nat.le_trans h.len hK,h.size,h.has⟩
theorem Sane.calm {d d':Dk} {U:List Nat} {K k:Nat} (h:Sane d U K) (c:Calm k d d'):Sane d' U (K+k):=
 ⟨by rw[c.files];exact h.once,by rw[c.turned];exact h.turned,by rw[c.dead,c.hit];exact h.hit,by have:=c.calls;have:=h.calls;omega,by rw[c.files];have:=h.len;omega,by rw[c.files];exact h.size,by rw[c.files];exact h.has⟩
theorem Sane.mend {d:Dk} {U:List Nat} {K:Nat} (h:Sane d U K):Sane (mendD d) U K:=⟨h.once,h.turned,fun h=>(by cases h),h.calls,h.len,h.size,h.has⟩
theorem Sane.fault {d:Dk} {U:List Nat} {K:Nat} (h:Sane d U K) (a:Nat) (x y:Bool):Sane (faultD d a x y) U K:=⟨h.once,h.turned,fun h=>(by cases h),h.calls,h.len,h.size,h.has⟩
theorem Sane.few {d:Dk} {U:List Nat} {K:Nat} (h:Sane d U K) (hU:U.length<9223372036854775808):FewB d.files U.length:=fewB_of h.has hU
structure Runs (d:Dk) (es:List (List UInt8)) (put:List Nat) (failed:Bool) (U:List Nat):Prop where
 short:∀ e∈es,e.length≤20
 idx:∀ i,4*i<es.length→i∈U
 live:failed=false→Fresh d∧PutOk d.files (rowsOf es) put
theorem Runs.len {d:Dk} {es:List (List UInt8)} {put:List Nat} {f:Bool} {U:List Nat} (h:Runs d es put f U):es.length≤4*U.length:=by
 have:=pigeon U ((es.length+3) / 4) fun i hi=>h.idx i (by omega)
 omega
theorem runs_open {d:Dk} {U:List Nat} {K n:Nat} {key:ByteArray} {es:List (List UInt8)} (hs:Sane d U K) (hd:d.dead=false) (hh:d.hit=false) (hU:U.length<1048576) (ho:OpensTo d.files key (.good es n)):Runs d es [] false U:=by
 have ht:=ho.taken
 have hl:=ht.few (hs.few (by omega))
 exact⟨ht.short,fun i hi=>hs.has i (by omega) (ht.has i hi),fun _=>⟨⟨hd,hh,hs.turned,hs.once⟩,putOk_nil _ _⟩⟩
theorem runs_append {d:Dk} {es:List (List UInt8)} {put:List Nat} {U:List Nat} (e:List UInt8) (h:Runs d es put false U) (he:e.length≤20):Runs d (es ++ [e]) put false (es.length / 4 :: U):=by
 refine⟨fun x hx=>?_,fun i hi=>?_,fun hf=>⟨(h.live hf).1,putOk_more e (h.live hf).2⟩⟩
 ·rcases List.mem_append.1 hx with hx|hx
  ·exact h.short x hx
  ·rw[List.mem_singleton.1 hx];exact he
 ·rw[List.length_append,List.length_cons,List.length_nil] at hi
  rcases Nat.lt_or_ge (4*i) es.length with h1|h1
  ·exact List.mem_cons_of_mem _ (h.idx i h1)
  ·rw[show i=es.length / 4 by omega];exact List.mem_cons_self
theorem Runs.fault {d:Dk} {es:List (List UInt8)} {put:List Nat} {f:Bool} {U:List Nat} (h:Runs d es put f U) (a:Nat) (x y:Bool):Runs (faultD d a x y) es put f U:=
 ⟨h.short,h.idx,fun hf=>⟨⟨rfl,rfl,(h.live hf).1.turned,(h.live hf).1.once⟩,(h.live hf).2⟩⟩
theorem flatten_le:∀ (l:List (List UInt8)) (k:Nat),(∀ x∈l,x.length≤k)→l.flatten.length≤l.length*k
 | [],k,_=>by simp
 | a :: l,k,h=>by
   have h1:=flatten_le l k fun x hx=>h x (List.mem_cons_of_mem _ hx)
   have h2:=h a List.mem_cons_self
   rw[List.flatten_cons,List.length_append,List.length_cons,Nat.add_mul]
   omega
theorem filesP_size {es:List (List UInt8)} (h:∀ e∈es,e.length≤20) {f:Fil} (hf:f∈filesP es):f.2.size≤84:=by
 obtain⟨n,r,j,h1,h2,rfl⟩:=(filesR_mem (rowsOf es) (-1)).1 hf
 have hr:∀ x∈r,x.length≤21:=by
  rcases rowsOf_row h1 with ⟨_,rfl⟩|⟨k,_,_,rfl⟩
  ·intro x hx
   obtain⟨e,he,rfl⟩:=List.mem_map.1 hx
   have:=h e he
   simp only[encE,List.length_cons]
   omega
  ·intro x hx
   obtain⟨e,he,rfl⟩:=List.mem_map.1 hx
   simp
 have:=flatten_le ((r.drop (4*j)).take 4) 21 fun x hx=>hr x (List.mem_of_mem_drop (List.mem_of_mem_take hx))
 have hl:((r.drop (4*j)).take 4).length≤4:=by rw[List.length_take];omega
 have he:(fileOf (-1+(n:Int)) r j).2.size=((r.drop (4*j)).take 4).flatten.length:=sOf_size _
 rw[he]
 have:=Nat.mul_le_mul_right 21 hl
 omega
theorem cpOf_size (es:List (List UInt8)) (key:ByteArray) (h:es.length≤1048576):(cpOf es key).size≤1048576:=by
 unfold cpOf
 rw[sOf_size]
 unfold signOf headOf
 have h1:=dec_len19 (n:=es.length) (by omega)
 simp only[List.length_append,hexOf_len,kTiles,List.length_cons,List.length_nil,toList_len]
 omega
theorem has_wanted {es:List (List UInt8)} (hl:es.length≤1048576) {i w:Nat} {b:ByteArray} (hi:i<9223372036854775808) (hw:1≤w) (hw4:w≤4) (hm:(bunName i w,b)∈filesP es):4*i<es.length:=by
 obtain⟨n,r,j,h1,h2,h3⟩:=(filesR_mem (rowsOf es) (-1)).1 hm
 have hk:=fileOf_ok (rowsOf_small hl) h1 h2
 have he:nameOf (-1) i w=nameOf (-1+(n:Int)) j ((min 4 (r.length-4*j):Nat):Int):=sOf_inj (congrArg Prod.fst h3)
 have hn:=nameOf_inj (l:=-1) (i:=(i:Int)) (w:=(w:Int)) (by unfold nameOk;omega) hk.1 (by omega) hk.2 he
 rcases rowsOf_row h1 with ⟨_,rfl⟩|⟨k,hk1,_,_⟩
 ·rw[List.length_map] at h2
  omega
 ·omega
theorem runs_publish {d:Dk} {es:List (List UInt8)} {put:List Nat} {U:List Nat} {K:Nat} (key:ByteArray) (hs:Sane d U K) (h:Runs d es put false U) (hU:U.length≤16384) (hn:NoClash (filesP es) d.files) :
  Sane (pubD es key put d).1 U (K+1048576)∧Runs (pubD es key put d).1 es (pubD es key put d).2.1 (pubD es key put d).2.2.isSome U:=by
 have hl:=h.len
 obtain⟨h1,h2,h3,h4,h5,h6,h7⟩:=publish_law key (es:=es) (by omega) (h.live rfl).1 hn (h.live rfl).2
 refine⟨⟨h2,h3,?_,by have:=hs.calls;omega,by have:=hs.len;omega,?_,?_⟩,⟨h.short,h.idx,?_⟩⟩
 ·intro hd
  rcases h7 with ⟨_,k,_⟩|⟨_,_,k,_⟩
  ·rw[k.dead] at hd;cases hd
  ·exact k
 ·intro f hf
  rcases h4 f hf with k|k|k
  ·exact hs.size f k
  ·have:=filesP_size h.short k;omega
  ·rw[k];exact cpOf_size es key (by omega)
 ·intro i hi ⟨w,hw,hw4,b,hb⟩
  rcases h4 _ (getF_some hb) with k|k|k
  ·refine hs.has i hi ⟨w,hw,hw4,b,once_get hs.once k⟩
  ·exact h.idx i (has_wanted (by omega) hi hw hw4 k)
  ·exact absurd (sOf_inj (congrArg Prod.fst k)) (nameOf_cp _ _ _)
 ·intro hf
  rcases h7 with ⟨_,k1,k2,_⟩|⟨p,k,_⟩
  ·exact⟨k1,k2⟩
  ·rw[k] at hf;cases hf
def idxOf (l:List Fil):List Nat:=l.map fun f=>(parseGo f.1.data.toList).2.1.toNat
theorem sane_new {l:List Fil} {K:Nat} (hK:l.length≤K) (hs:∀ f∈l,f.2.size≤1048576):Sane (dk0 (firsts l)) (idxOf l) K:=by
 have hsub:∀ f∈firsts l,f∈l:=by
  unfold firsts
  have:∀ (k acc:List Fil) (f:Fil),f∈k.foldl addF acc→f∈acc∨f∈k:=by
   intro k
   induction k with
   | nil=>intro acc f hf;exact .inl hf
   | cons a k ih=>
    intro acc f hf
    rw[List.foldl_cons] at hf
    rcases ih _ f hf with h1|h1
    ·unfold addF at h1
     split at h1
     ·exact .inl h1
     ·rcases List.mem_append.1 h1 with h2|h2
      ·exact .inl h2
      ·exact .inr (by rw[List.mem_singleton.1 h2];exact List.mem_cons_self)
    ·exact .inr (List.mem_cons_of_mem _ h1)
  intro f hf
  rcases this l [] f hf with h1|h1
  ·simp at h1
  ·exact h1
 refine⟨once_firsts l,rfl,fun h=>(by cases h),Nat.zero_le _,Nat.le_trans (firsts_len l) hK,fun f hf=>hs f (hsub f hf),fun i hi ⟨w,hw,hw4,b,hb⟩=>?_⟩
 refine List.mem_map.2 ⟨_,hsub _ (getF_some hb),?_⟩
 have hok:nameOk (-1) i w:=by unfold nameOk;omega
 show (parseGo (nameOf (-1) i w)).2.1.toNat=i
 rw[nameOf_body hok,parseGo_name hok (by omega)]
 simp
end
end Go.Proofs.YtefccfakhgdfbabGreatDoor
