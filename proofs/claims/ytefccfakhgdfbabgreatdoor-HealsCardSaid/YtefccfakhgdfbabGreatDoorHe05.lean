/- plain.Net: its shape in memory; Fetch. Conditions: the block is a Net's, its rows of their own; fewer than 2^60 fetches. -/
import Derived.Test.YtefccfakhgdfbabGreatDoorHe04
set_option linter.unusedVariables false
set_option linter.unusedSimpArgs false
open Go.RowKit Go.Proofs.Tryz
set_option maxRecDepth 100000
set_option maxHeartbeats 4000000
namespace Go.Proofs.YtefccfakhgdfbabGreatDoor
section
theorem fill1 (u:Value) (hc:u.cells=#[u]) (sz:Nat) (hs:sz=1) (Z:Array Value) (hZ:Z.size=1):Instr.fill (fun i=>some (i*sz,sz)) Z [(0,u)]=some #[u]:=by
 subst hs
 obtain⟨l⟩:=Z
 match l,hZ with
 | [a0],_=>simp[Instr.fill,hc]
theorem wpList_bs1 {P:Program} {ops:Array Oper} {rest:List Oper} {o:Oper} {a:Act} {Q:Exit→Act→World→Prop} {w:World} (hg:o.guard=none) (t e:TypeId) (x:Operand) (ho:o.op=.buildSlice t 1 #[(0,x)])
  (i:TypeInfo) (z:Value) (hu:P.underlying t=some (.slice e)) (hi:P.info? e=some i) (hz:i.zero=some z) (hsize:i.size=1) (u:Value) (hx:a.eval x=u) (hc:u.cells=#[u])
  (hk:wpList P ops Q rest (a.put o.dst (.slice (some ⟨w.heap.size,0,none⟩) 1 1)) (w.alloc (.cells #[u] e))):wpList P ops Q (o :: rest) a w:=
 wpList_plain hg fun _ hK=>wp_buildSlice t e 1 _ ho #[u] i _ hu hi hz (by omega) (by omega) (by
  simp only[List.map_toArray,List.map_cons,List.map_nil,hx]
  exact fill1 u hc _ hsize _ (by simp[hsize])) (hK _ _ hk)
theorem OwnBytes.cells {w:World} {base:Nat} {v:Value} {l:List UInt8} (h:OwnBytes w base v l):v.cells=#[v]:=by
 rcases h with ⟨rfl,_⟩|⟨b,off,c,C,fz,rfl,_⟩ <;> rfl
theorem BytesAt.below2 {w w':World} {v:Value} {l:List UInt8} (h:BytesAt w v l) (hb:Below w.heap.size w w'):BytesAt w' v l:=h.below hb
theorem bytes_mid {w:World} {b off c:Nat} {x:UInt8} {r:List UInt8} {n:Nat} (h:BytesAt w (.slice (some ⟨b,off,none⟩) (r.length+1) c) (x :: r)) (hn:n≤r.length):BytesAt w (.slice (some ⟨b,off+1,none⟩) n (c-1)) (r.take n):=by
 obtain⟨a,c',h1,h2,h3⟩:=h
 simp only[Value.slice.injEq] at h1
 obtain⟨rfl,_,rfl⟩:=h1
 simp only[List.length_cons] at h2
 have hl:(r.take n).length=n:=by simp;omega
 refine⟨_,c-1,by rw[hl],by rw[hl];omega,fun j y hy=>⟨b,off+1,rfl,?_⟩⟩
 have hj:j<n:=by have:=(List.getElem?_eq_some_iff.1 hy).1;simp at this;omega
 obtain⟨b',off',heq,hcell⟩:=h3 (j+1) y (by rw[List.map_cons,List.getElem?_cons_succ];rw[List.map_take,List.getElem?_take_of_lt hj] at hy;exact hy)
 cases heq
 rw[show off+1+j=off+(j+1) from by omega]
 exact hcell
theorem bytes_tail {w:World} {b off c:Nat} {x:UInt8} {r:List UInt8} {n:Nat} (h:BytesAt w (.slice (some ⟨b,off,none⟩) (r.length+1) c) (x :: r)) (hn:n≤r.length):BytesAt w (.slice (some ⟨b,off+(1+n),none⟩) (r.length+1-(1+n)) (c-(1+n))) (r.drop n):=by
 obtain⟨a,c',h1,h2,h3⟩:=h
 simp only[Value.slice.injEq] at h1
 obtain⟨rfl,_,rfl⟩:=h1
 simp only[List.length_cons] at h2
 have hl:(r.drop n).length=r.length+1-(1+n):=by simp;omega
 refine⟨_,c-(1+n),by rw[hl],by rw[hl];omega,fun j y hy=>⟨b,off+(1+n),rfl,?_⟩⟩
 obtain⟨b',off',heq,hcell⟩:=h3 (1+n+j) y (by
  rw[show 1+n+j=(n+j)+1 from by omega,List.map_cons,List.getElem?_cons_succ]
  rw[List.map_drop,List.getElem?_drop] at hy
  exact hy)
 cases heq
 rw[show off+(1+n)+j=off+(1+n+j) from by omega]
 exact hcell
theorem bytes_gone {w:World} {a:Option Addr} {r:List UInt8} {n k c:Nat} (hk:k=0) (h:r.length≤n):BytesAt w (.slice a k c) (r.drop n):=by
 have e:r.drop n = []:=List.drop_of_length_le h
 rw[e]
 subst hk
 exact⟨a,c,rfl,Nat.zero_le _,fun j x hx=>by simp at hx⟩
theorem bytes_gone2 {w:World} {a:Option Addr} {r:List UInt8} {n:Nat} (hk:n=0):BytesAt w (.slice a n 0) (r.take n):=by
 subst hk
 exact⟨a,0,rfl,Nat.le_refl _,fun j x hx=>by simp at hx⟩
def unbPost (data:List UInt8) (w:World) (e:Ending) (w':World):Prop:=
 ∃ v',e=.returned (.tuple #[v',.bool (unbundleOf data).isSome])∧Below w.heap.size w w'∧((unbundleOf data=none∧v'=.slice none 0 0)∨∃ ls,unbundleOf data=some ls∧OwnBss w' w.heap.size v' ls)
theorem funbundle_any (v:Value) (data:List UInt8) (w:World) (h:BytesAt w v data) (hn:data.length≤1099511627776) :
  Calls prog 94 #[v] w (unbPost data w):=by
 obtain⟨i0,hi,hz0,hz1,hz2⟩:=info_parts info_bs
 obtain⟨a,c,rfl⟩:∃ a c,v=.slice a data.length c:=by obtain⟨a,c,h1,_,_⟩:=h;exact⟨a,c,h1⟩
 have HH:=zh h
 clear h
 go_enter func94,ntmps94
 go_wp2
 go_loopw [0,4] (fun dv lv wr=>∃ (rest:List UInt8) (ls:List (List UInt8)),BytesAt wr dv rest∧OwnBss wr w.heap.size lv ls∧Read data ls rest∧rest.length≤data.length∧ls.length≤4∧(∀ l∈ls,l.length≤20)∧Below w.heap.size w wr∧(BytesAt w dv rest)∧(ls = []→lv=.slice none 0 0)) (fun dv _ _=>match dv with | .slice _ n _=>n|_=>0)
 case atStart=>exact⟨data,[],HH.o,⟨[],World.ownsRow_nil _ _ _ _,by simp⟩,Read.start _,Nat.le_refl _,by decide,by simp,Below.refl _ _,HH.o,fun _=>rfl⟩
 case round=>
  obtain⟨rest,ls,hb,hown,hread,hrl,h4,hs20,hbel,hb0,hnil⟩:=hrel
  obtain⟨al,cl,rfl⟩:∃ a c,u4=.slice a ls.length c:=by
   obtain⟨vs,hrow,_⟩:=hown
   obtain⟨a,c,h1,_⟩:=ownsRow_cells hrow;exact⟨a,c,h1⟩
  have HB:=zh hbel
  have HO:=zh hown
  have HR:=zh hread
  have HS:=zh hs20
  have HN:=zh hnil
  have HB0:=zh hb0
  clear hbel hown hread hs20 hb0 hnil
  cases rest with
  | nil=>
   obtain⟨a2,c2,rfl,_,_⟩:=hb
   simp only[List.length_nil]
   by_cases h0:ls.length=0
   ·obtain rfl:ls = []:=List.eq_nil_of_length_eq_zero h0
    have hnl:=HN.o rfl
    simp only[List.length_nil] at hnl ⊢
    simp only[Value.slice.injEq] at hnl
    obtain⟨rfl,_,rfl⟩:=hnl
    go_wp2
    go_ret2
    have hu:unbundleOf data=none:=by unfold unbundleOf;rw[HR.o.done];rfl
    exact⟨_,by rw[hu];rfl,HB.o,.inl ⟨hu,rfl⟩⟩
   ·have hd:decide (0<ls.length)=true:=by simp;omega
    go_wp2
    go_ret2
    have hu:=unbundle_ok HR.o.done h0 h4 HS.o
    exact⟨_,by rw[hu];rfl,HB.o,.inr ⟨ls,hu,HO.o⟩⟩
  | cons x r=>
   obtain⟨a2,c2,rfl,hcap2,hc2⟩:=hb
   have hx8:x.toNat<256:=x.toNat_lt
   obtain⟨b,off,rfl,hcell⟩:=hc2 0 (.int .u8 x.toNat) (by simp)
   simp only[Nat.add_zero] at hcell
   have HC2:=zh hc2
   clear hc2
   simp only[List.length_cons] at hcap2 hrl ⊢
   obtain⟨n,hxn⟩:∃ n,n=x.toNat:=⟨_,rfl⟩
   rw[←hxn] at hx8 hcell
   have HX:=zh hxn
   clear hxn
   by_cases hA:r.length<n
   ·have d1:decide ((r.length:Int)+1<1+(n:Int))=true:=by simp;omega
    go_wp2
    go_ret2
    have hu:=unbundle_bad (HR.o.bad (by rw[←HX.o];exact hA))
    exact⟨_,by rw[hu];rfl,HB.o,.inl ⟨hu,rfl⟩⟩
   ·have d1:decide ((r.length:Int)+1<1+(n:Int))=false:=by simp;omega
    by_cases hB:20<n
    ·have d2:decide ((21:Int)<1+(n:Int))=true:=by simp;omega
     go_wp2
     go_ret2
     have hu:=HR.o.long (by rw[←HX.o];exact hB)
     exact⟨_,by rw[hu];rfl,HB.o,.inl ⟨hu,rfl⟩⟩
    ·have d2:decide ((21:Int)<1+(n:Int))=false:=by simp;omega
     by_cases hC:ls.length=4
     ·have d3:((ls.length:Int) == 4)=true:=by simp;omega
      go_wp2
      go_ret2
      have hu:=HR.o.many (by omega)
      exact⟨_,by rw[hu];rfl,HB.o,.inl ⟨hu,rfl⟩⟩
     ·have d3:((ls.length:Int) == 4)=false:=by rw[beq_eq_false_iff_ne];omega
      have hread2:=HR.o.step (by rw[←HX.o];omega)
      rw[←HX.o] at hread2
      have HR2:=zh hread2
      clear hread2
      have htl:(r.take n).length=n:=by simp;omega
      have HTL:=zh htl
      clear htl
      obtain⟨vs,hrow,hall⟩:=HO.o
      have HROW:=zh hrow
      have HALL:=zh hall
      clear hrow hall
      by_cases hc1:c2=1
      ·subst hc1
       have hlow:((1:Int) == ((1:Nat):Int))=true:=by decide
       obtain rfl:n=0:=by omega
       obtain rfl:r = []:=List.eq_nil_of_length_eq_zero (by omega)
       go_wp2_with fail
       refine (clone_any _ (([]:List UInt8).take 0) _ ?_ (by rw[HTL.o];omega)).mono ?_
       ·exact bytes_gone2 rfl
       rintro e w1 ⟨v1,rfl,hob,hb1⟩
       have HOB:=zh hob
       have HB1:=zh hb1
       clear hob hb1
       go_wp2_with (first|(refine wpList_bs1 rfl 135 94 _ rfl i0 _ underlying135 hi hz0 hz1 _ rfl (OwnBytes.cells HOB.o) ?_)|(at_builtin;refine wpList_app1 rfl _ _ 135 rfl w.heap.size 94 i0 (.slice none 0 0) 24 underlying135 hi hz0 hz1 hz2 rfl (by decide) _ _ vs rfl (ownsRow_below HROW.o HB1.o) _ rfl (OwnBytes.one HOB.o) (by omega) (Nat.le_trans HB.o.size HB1.o.size) ?_;intro v2 w2 hr2 hg2 hne2;have HRR2:=zh hr2;have HG2:=zh hg2;clear hr2 hg2 hne2))
       have hbw:Below w.heap.size w w1:=HB.o.trans (HB1.o.mono HB.o.size)
       have hbw2:Below w.heap.size w w2:=hbw.grown HG2.o hbw.size (fun j hj=>(HROW.o.lt j hj).1)
       go_roundw
       case rel=>
        have hb0:BytesAt w (.slice (some ⟨b,off,none⟩) 0 0) (([]:List UInt8).drop 0):=by
         exact bytes_gone rfl (by simp)
        refine⟨([]:List UInt8).drop 0,ls ++ [([]:List UInt8).take 0],hb0.below2 hbw2,OwnBss.grow (ownsRow_below HROW.o HB1.o) (fun j u l h1 h2=>(HALL.o j u l h1 h2).below HB1.o) (HOB.o.mono HB.o.size) HRR2.o HG2.o,HR2.o,by simp,by simp;omega,?_,hbw2,hb0,fun h=>by simp at h⟩
        intro l hl
        rcases List.mem_append.1 hl with h|h
        ·exact HS.o l h
        ·simp at h;subst h;simp
       case measure=>simp
      ·have hlow:((1:Int) == (c2:Int))=false:=by rw[beq_eq_false_iff_ne];omega
       by_cases hcn:c2=1+n
       ·subst hcn
        go_wp2_with fail
        refine (clone_any _ (r.take n) _ ?_ (by rw[HTL.o];omega)).mono ?_
        ·have hbm:=(bytes_mid HB0.o (show n≤r.length by omega)).below2 HB.o
         simpa using hbm
        rintro e w1 ⟨v1,rfl,hob,hb1⟩
        have HOB:=zh hob
        have HB1:=zh hb1
        clear hob hb1
        go_wp2_with (first|(refine wpList_bs1 rfl 135 94 _ rfl i0 _ underlying135 hi hz0 hz1 _ rfl (OwnBytes.cells HOB.o) ?_)|(at_builtin;refine wpList_app1 rfl _ _ 135 rfl w.heap.size 94 i0 (.slice none 0 0) 24 underlying135 hi hz0 hz1 hz2 rfl (by decide) _ _ vs rfl (ownsRow_below HROW.o HB1.o) _ rfl (OwnBytes.one HOB.o) (by omega) (Nat.le_trans HB.o.size HB1.o.size) ?_;intro v2 w2 hr2 hg2 hne2;have HRR2:=zh hr2;have HG2:=zh hg2;clear hr2 hg2 hne2))
        have hbw:Below w.heap.size w w1:=HB.o.trans (HB1.o.mono HB.o.size)
        have hbw2:Below w.heap.size w w2:=hbw.grown HG2.o hbw.size (fun j hj=>(HROW.o.lt j hj).1)
        go_roundw
        case rel=>
         have hb0:BytesAt w (.slice (some ⟨b,off,none⟩) (r.length+1-(1+n)) (1+n-(1+n))) (r.drop n):=by
          exact bytes_gone (by omega) (by omega)
         refine⟨r.drop n,ls ++ [r.take n],hb0.below2 hbw2,OwnBss.grow (ownsRow_below HROW.o HB1.o) (fun j u l h1 h2=>(HALL.o j u l h1 h2).below HB1.o) (HOB.o.mono HB.o.size) HRR2.o HG2.o,HR2.o,by simp;omega,by simp;omega,?_,hbw2,hb0,fun h=>by simp at h⟩
         intro l hl
         rcases List.mem_append.1 hl with h|h
         ·exact HS.o l h
         ·simp at h;subst h;rw[HTL.o];omega
        case measure=>simp;omega
       ·go_wp2_with fail
        refine (clone_any _ (r.take n) _ ?_ (by rw[HTL.o];omega)).mono ?_
        ·exact (bytes_mid HB0.o (by omega)).below2 HB.o
        rintro e w1 ⟨v1,rfl,hob,hb1⟩
        have HOB:=zh hob
        have HB1:=zh hb1
        clear hob hb1
        go_wp2_with (first|(refine wpList_bs1 rfl 135 94 _ rfl i0 _ underlying135 hi hz0 hz1 _ rfl (OwnBytes.cells HOB.o) ?_)|(at_builtin;refine wpList_app1 rfl _ _ 135 rfl w.heap.size 94 i0 (.slice none 0 0) 24 underlying135 hi hz0 hz1 hz2 rfl (by decide) _ _ vs rfl (ownsRow_below HROW.o HB1.o) _ rfl (OwnBytes.one HOB.o) (by omega) (Nat.le_trans HB.o.size HB1.o.size) ?_;intro v2 w2 hr2 hg2 hne2;have HRR2:=zh hr2;have HG2:=zh hg2;clear hr2 hg2 hne2))
        have hbw:Below w.heap.size w w1:=HB.o.trans (HB1.o.mono HB.o.size)
        have hbw2:Below w.heap.size w w2:=hbw.grown HG2.o hbw.size (fun j hj=>(HROW.o.lt j hj).1)
        go_roundw
        case rel=>
         have hb0:BytesAt w (.slice (some ⟨b,off+(1+n),none⟩) (r.length+1-(1+n)) (c2-(1+n))) (r.drop n):=by
          exact bytes_tail HB0.o (by omega)
         refine⟨r.drop n,ls ++ [r.take n],hb0.below2 hbw2,OwnBss.grow (ownsRow_below HROW.o HB1.o) (fun j u l h1 h2=>(HALL.o j u l h1 h2).below HB1.o) (HOB.o.mono HB.o.size) HRR2.o HG2.o,HR2.o,by simp;omega,by simp;omega,?_,hbw2,hb0,fun h=>by simp at h⟩
         intro l hl
         rcases List.mem_append.1 hl with h|h
         ·exact HS.o l h
         ·simp at h;subst h;rw[HTL.o];omega
        case measure=>simp;omega
end
section
structure Calm (k:Nat) (d d':Dk):Prop where
 files:d'.files=d.files
 turned:d'.turned=d.turned
 dead:d'.dead=d.dead
 hit:d'.hit=d.hit
 failAt:d'.failAt=d.failAt
 calls:d'.calls≤d.calls+k
structure Hurt (k:Nat) (d d':Dk):Prop where
 files:d'.files=d.files
 turned:d'.turned=d.turned
 why:d.dead=true∨0<d.failAt
 hit:(d.dead=true→d.hit=true)→(d'.dead=true→d'.hit=true)
 calls:d'.calls≤d.calls+k
theorem Calm.refl (d:Dk):Calm 0 d d:=⟨rfl,rfl,rfl,rfl,rfl,Nat.le_refl _⟩
theorem Calm.trans {j k:Nat} {a b c:Dk} (h:Calm j a b) (i:Calm k b c):Calm (j+k) a c:=
 ⟨i.files.trans h.files,i.turned.trans h.turned,i.dead.trans h.dead,i.hit.trans h.hit,i.failAt.trans h.failAt,by have:=h.calls;have:=i.calls;omega⟩
theorem Calm.more {j k:Nat} {a b:Dk} (h:Calm j a b) (hk:j≤k):Calm k a b:=⟨h.files,h.turned,h.dead,h.hit,h.failAt,by have:=h.calls;omega⟩
theorem Calm.hurt {j k:Nat} {a b c:Dk} (h:Calm j a b) (i:Hurt k b c):Hurt (j+k) a c:=
 ⟨i.files.trans h.files,i.turned.trans h.turned,by have:=i.why;rw[h.dead,h.failAt] at this;exact this,fun ha=>i.hit (by rw[h.dead,h.hit];exact ha),by have:=h.calls;have:=i.calls;omega⟩
theorem Hurt.more {j k:Nat} {a b:Dk} (h:Hurt j a b) (hk:j≤k):Hurt k a b:=⟨h.files,h.turned,h.why,h.hit,by have:=h.calls;omega⟩
theorem calm_enter {d:Dk} (h:enterK d=0):Calm 1 d (enterD d):=by
 have hh:¬ enterHit d=true:=by
  intro hh
  unfold enterK at h
  rw[hh] at h
  simp only[if_true] at h
  split at h
  ·omega
  ·split at h <;> omega
 unfold enterD
 rw[if_neg hh]
 exact⟨rfl,rfl,rfl,rfl,rfl,Nat.le_refl _⟩
theorem hurt_enter {d:Dk} (h:0<enterK d):Hurt 1 d (enterD d):=by
 unfold enterK at h
 unfold enterD
 cases hd:d.dead with
 | true=>
  have hh:¬ enterHit d=true:=by unfold enterHit;simp[hd]
  rw[if_neg hh]
  exact⟨rfl,rfl,.inl hd,fun a=>by simpa [hd] using a,Nat.le_refl _⟩
 | false=>
  rw[hd] at h
  cases hh:enterHit d with
  | false=>rw[hh] at h;simp at h
  | true=>
   rw[if_pos rfl]
   refine⟨rfl,rfl,.inr ?_,fun _ _=>rfl,Nat.le_refl _⟩
   unfold enterHit at hh
   simp at hh
   exact hh.2.1
structure Sane (d:Dk) (U:List Nat) (K:Nat):Prop where
 once:Once d.files
 turned:d.turned=false
 hit:d.dead=true→d.hit=true
 calls:d.calls≤K
 len:d.files.length≤K
 size:∀ f∈d.files,f.2.size≤1048576
 has:∀ i,i<9223372036854775808→Has d.files i→i∈U
theorem Sane.grow {d:Dk} {U:List Nat} {K K':Nat} (h:Sane d U K) (x:Nat) (hK:K≤K'):Sane d (x :: U) K':=
 ⟨h.once,h.turned,h.hit,Nat.le_trans h.calls hK,Nat.le_trans h.len hK,h.size,fun i hi hh=>List.mem_cons_of_mem _ (h.has i hi hh)⟩
theorem Sane.more {d:Dk} {U:List Nat} {K K':Nat} (h:Sane d U K) (hK:K≤K'):Sane d U K':=
 ⟨h.once,h.turned,h.hit,Nat.le_trans h.calls hK,Nat.le_trans h.len hK,h.size,h.has⟩
theorem Sane.calm {d d':Dk} {U:List Nat} {K k:Nat} (h:Sane d U K) (c:Calm k d d'):Sane d' U (K+k):=
 ⟨by rw[c.files];exact h.once,by rw[c.turned];exact h.turned,by rw[c.dead,c.hit];exact h.hit,by have:=c.calls;have:=h.calls;omega,by rw[c.files];have:=h.len;omega,by rw[c.files];exact h.size,by rw[c.files];exact h.has⟩
theorem Sane.mend {d:Dk} {U:List Nat} {K:Nat} (h:Sane d U K):Sane (mendD d) U K:=⟨h.once,h.turned,fun h=>(by cases h),h.calls,h.len,h.size,h.has⟩
theorem Sane.few {d:Dk} {U:List Nat} {K:Nat} (h:Sane d U K) (hU:U.length<9223372036854775808):FewB d.files U.length:=fewB_of h.has hU
structure Runs (d:Dk) (es:List (List UInt8)) (put:List Nat) (failed:Bool) (U:List Nat):Prop where
 short:∀ e∈es,e.length≤20
 idx:∀ i,4*i<es.length→i∈U
 live:failed=false→Fresh d∧PutOk d.files (rowsOf es) put
theorem Runs.len {d:Dk} {es:List (List UInt8)} {put:List Nat} {f:Bool} {U:List Nat} (h:Runs d es put f U):es.length≤4*U.length:=by
 have:=pigeon U ((es.length+3) / 4) fun i hi=>h.idx i (by omega)
 omega
theorem runs_open {d:Dk} {U:List Nat} {K n:Nat} {key:ByteArray} {es:List (List UInt8)} (hs:Sane d U K) (hd:d.dead=false) (hh:d.hit=false) (hU:U.length<1048576) (ho:OpensTo d.files key (.good es n)):Runs d es [] false U:=by
 have ht:=ho.taken
 have hl:=ht.few (hs.few (by omega))
 exact⟨ht.short,fun i hi=>hs.has i (by omega) (ht.has i hi),fun _=>⟨⟨hd,hh,hs.turned,hs.once⟩,putOk_nil _ _⟩⟩
theorem runs_append {d:Dk} {es:List (List UInt8)} {put:List Nat} {U:List Nat} (e:List UInt8) (h:Runs d es put false U) (he:e.length≤20):Runs d (es ++ [e]) put false (es.length / 4 :: U):=by
 refine⟨fun x hx=>?_,fun i hi=>?_,fun hf=>⟨(h.live hf).1,putOk_more e (h.live hf).2⟩⟩
 ·rcases List.mem_append.1 hx with hx|hx
  ·exact h.short x hx
  ·rw[List.mem_singleton.1 hx];exact he
 ·rw[List.length_append,List.length_cons,List.length_nil] at hi
  rcases Nat.lt_or_ge (4*i) es.length with h1|h1
  ·exact List.mem_cons_of_mem _ (h.idx i h1)
  ·rw[show i=es.length / 4 by omega];exact List.mem_cons_self
theorem flatten_le:∀ (l:List (List UInt8)) (k:Nat),(∀ x∈l,x.length≤k)→l.flatten.length≤l.length*k
 | [],k,_=>by simp
 | a :: l,k,h=>by
   have h1:=flatten_le l k fun x hx=>h x (List.mem_cons_of_mem _ hx)
   have h2:=h a List.mem_cons_self
   rw[List.flatten_cons,List.length_append,List.length_cons,Nat.add_mul]
   omega
theorem filesP_size {es:List (List UInt8)} (h:∀ e∈es,e.length≤20) {f:Fil} (hf:f∈filesP es):f.2.size≤84:=by
 obtain⟨n,r,j,h1,h2,rfl⟩:=(filesR_mem (rowsOf es) (-1)).1 hf
 have hr:∀ x∈r,x.length≤21:=by
  rcases rowsOf_row h1 with ⟨_,rfl⟩|⟨k,_,_,rfl⟩
  ·intro x hx
   obtain⟨e,he,rfl⟩:=List.mem_map.1 hx
   have:=h e he
   simp only[encE,List.length_cons]
   omega
  ·intro x hx
   obtain⟨e,he,rfl⟩:=List.mem_map.1 hx
   simp
 have:=flatten_le ((r.drop (4*j)).take 4) 21 fun x hx=>hr x (List.mem_of_mem_drop (List.mem_of_mem_take hx))
 have hl:((r.drop (4*j)).take 4).length≤4:=by rw[List.length_take];omega
 have he:(fileOf (-1+(n:Int)) r j).2.size=((r.drop (4*j)).take 4).flatten.length:=sOf_size _
 rw[he]
 have:=Nat.mul_le_mul_right 21 hl
 omega
theorem cpOf_size (es:List (List UInt8)) (key:ByteArray) (h:es.length≤1048576):(cpOf es key).size≤1048576:=by
 unfold cpOf
 rw[sOf_size]
 unfold signOf headOf
 have h1:=dec_len19 (n:=es.length) (by omega)
 simp only[List.length_append,hexOf_len,kTiles,List.length_cons,List.length_nil,toList_len]
 omega
theorem has_wanted {es:List (List UInt8)} (hl:es.length≤1048576) {i w:Nat} {b:ByteArray} (hi:i<9223372036854775808) (hw:1≤w) (hw4:w≤4) (hm:(bunName i w,b)∈filesP es):4*i<es.length:=by
 obtain⟨n,r,j,h1,h2,h3⟩:=(filesR_mem (rowsOf es) (-1)).1 hm
 have hk:=fileOf_ok (rowsOf_small hl) h1 h2
 have he:nameOf (-1) i w=nameOf (-1+(n:Int)) j ((min 4 (r.length-4*j):Nat):Int):=sOf_inj (congrArg Prod.fst h3)
 have hn:=nameOf_inj (l:=-1) (i:=(i:Int)) (w:=(w:Int)) (by unfold nameOk;omega) hk.1 (by omega) hk.2 he
 rcases rowsOf_row h1 with ⟨_,rfl⟩|⟨k,hk1,_,_⟩
 ·rw[List.length_map] at h2
  omega
 ·omega
theorem runs_publish {d:Dk} {es:List (List UInt8)} {put:List Nat} {U:List Nat} {K:Nat} (key:ByteArray) (hs:Sane d U K) (h:Runs d es put false U) (hU:U.length≤16384) (hn:NoClash (filesP es) d.files) :
  Sane (pubD es key put d).1 U (K+1048576)∧Runs (pubD es key put d).1 es (pubD es key put d).2.1 (pubD es key put d).2.2.isSome U:=by
 have hl:=h.len
 obtain⟨h1,h2,h3,h4,h5,h6,h7⟩:=publish_law key (es:=es) (by omega) (h.live rfl).1 hn (h.live rfl).2
 refine⟨⟨h2,h3,?_,by have:=hs.calls;omega,by have:=hs.len;omega,?_,?_⟩,⟨h.short,h.idx,?_⟩⟩
 ·intro hd
  rcases h7 with ⟨_,k,_⟩|⟨_,_,k,_⟩
  ·rw[k.dead] at hd;cases hd
  ·exact k
 ·intro f hf
  rcases h4 f hf with k|k|k
  ·exact hs.size f k
  ·have:=filesP_size h.short k;omega
  ·rw[k];exact cpOf_size es key (by omega)
 ·intro i hi ⟨w,hw,hw4,b,hb⟩
  rcases h4 _ (getF_some hb) with k|k|k
  ·refine hs.has i hi ⟨w,hw,hw4,b,once_get hs.once k⟩
  ·exact h.idx i (has_wanted (by omega) hi hw hw4 k)
  ·exact absurd (sOf_inj (congrArg Prod.fst k)) (nameOf_cp _ _ _)
 ·intro hf
  rcases h7 with ⟨_,k1,k2,_⟩|⟨p,k,_⟩
  ·exact⟨k1,k2⟩
  ·rw[k] at hf;cases hf
def idxOf (l:List Fil):List Nat:=l.map fun f=>(parseGo f.1.data.toList).2.1.toNat
theorem sane_new {l:List Fil} {K:Nat} (hK:l.length≤K) (hs:∀ f∈l,f.2.size≤1048576):Sane (dk0 (firsts l)) (idxOf l) K:=by
 have hsub:∀ f∈firsts l,f∈l:=by
  unfold firsts
  have:∀ (k acc:List Fil) (f:Fil),f∈k.foldl addF acc→f∈acc∨f∈k:=by
   intro k
   induction k with
   | nil=>intro acc f hf;exact .inl hf
   | cons a k ih=>
    intro acc f hf
    rw[List.foldl_cons] at hf
    rcases ih _ f hf with h1|h1
    ·unfold addF at h1
     split at h1
     ·exact .inl h1
     ·rcases List.mem_append.1 h1 with h2|h2
      ·exact .inl h2
      ·exact .inr (by rw[List.mem_singleton.1 h2];exact List.mem_cons_self)
    ·exact .inr (List.mem_cons_of_mem _ h1)
  intro f hf
  rcases this l [] f hf with h1|h1
  ·simp at h1
  ·exact h1
 refine⟨once_firsts l,rfl,fun h=>(by cases h),Nat.zero_le _,Nat.le_trans (firsts_len l) hK,fun f hf=>hs f (hsub f hf),fun i hi ⟨w,hw,hw4,b,hb⟩=>?_⟩
 refine List.mem_map.2 ⟨_,hsub _ (getF_some hb),?_⟩
 have hok:nameOk (-1) i w:=by unfold nameOk;omega
 show (parseGo (nameOf (-1) i w)).2.1.toNat=i
 rw[nameOf_body hok,parseGo_name hok (by omega)]
 simp
end
section
section
variable {w:World} {g:Nat} {v:Value} {d:Dk} (h:DiskAt w g v d) {p:ByteArray} (hc:d.calls<1099511627776)
include h hc
theorem get_err (hk:0<enterK d):Calls prog 249 #[.pointer (some ⟨g,0,none⟩),.string p] w fun e w'=>∃ q n,e=.returned (.tuple #[.slice none 0 0,.iface 152 (.pointer (some ⟨q,0,none⟩))])∧w.heap.size≤q∧w'.heap[q]?=some (.cells #[.int .i64 n] 366 (0,0))∧DiskAt w' g v (enterD d)∧Fr (·=g) w w':=
 (get_any w g v d h p hc).mono fun e w' hp=>by
  obtain⟨h1,h2,⟨_,u,h4,q,n,h5,h6,h7⟩|⟨h3,_⟩|⟨h3,_⟩⟩:=hp
  ·exact⟨q,n,by rw[h4,h5],h6,h7,h1,h2⟩
  ·omega
  ·omega
theorem get_hit {s:ByteArray} (hk:enterK d=0) (hg:getF d.files p=some s):Calls prog 249 #[.pointer (some ⟨g,0,none⟩),.string p] w fun e w'=>∃ b c,e=.returned (.tuple #[.slice (some ⟨b,0,none⟩) s.size c,.nilIface])∧OwnBytes w' w.heap.size (.slice (some ⟨b,0,none⟩) s.size c) s.data.toList∧DiskAt w' g v (enterD d)∧Fr (·=g) w w':=
 (get_any w g v d h p hc).mono fun e w' hp=>by
  obtain⟨h1,h2,⟨h3,_⟩|⟨_,s',v',h4,h5,h6,b,c,h7⟩|⟨_,h4,_⟩⟩:=hp
  ·omega
  ·rw[hg] at h4
   cases h4
   subst h7
   exact⟨b,c,h5,h6,h1,h2⟩
  ·rw[hg] at h4;cases h4
theorem get_miss (hk:enterK d=0) (hg:getF d.files p=none):Calls prog 249 #[.pointer (some ⟨g,0,none⟩),.string p] w fun e w'=>e=.returned (.tuple #[.slice none 0 0,.nilIface])∧DiskAt w' g v (enterD d)∧Fr (·=g) w w':=
 (get_any w g v d h p hc).mono fun e w' hp=>by
  obtain⟨h1,h2,⟨h3,_⟩|⟨_,s',v',h4,_⟩|⟨_,_,h5⟩⟩:=hp
  ·omega
  ·rw[hg] at h4;cases h4
  ·exact⟨h5,h1,h2⟩
end
theorem unb_none {v:Value} {data:List UInt8} {w:World} (h:BytesAt w v data) (hn:data.length≤1099511627776) (hu:unbundleOf data=none) :
  Calls prog 94 #[v] w fun e w'=>e=.returned (.tuple #[.slice none 0 0,.bool false])∧Below w.heap.size w w':=
 (funbundle_any v data w h hn).mono fun e w' hp=>by
  obtain⟨v',h1,h2,⟨_,h4⟩|⟨ls,h3,_⟩⟩:=hp
  ·rw[hu] at h1
   subst h4
   exact⟨h1,h2⟩
  ·rw[hu] at h3;cases h3
theorem unb_some {v:Value} {data:List UInt8} {ls:List (List UInt8)} {w:World} (h:BytesAt w v data) (hn:data.length≤1099511627776) (hu:unbundleOf data=some ls) :
  Calls prog 94 #[v] w fun e w'=>∃ b c,e=.returned (.tuple #[.slice (some ⟨b,0,none⟩) ls.length c,.bool true])∧OwnBss w' w.heap.size (.slice (some ⟨b,0,none⟩) ls.length c) ls∧Below w.heap.size w w':=
 (funbundle_any v data w h hn).mono fun e w' hp=>by
  obtain⟨v',h1,h2,⟨h3,_⟩|⟨ls',h3,h4⟩⟩:=hp
  ·rw[hu] at h3;cases h3
  ·rw[hu] at h1 h3
   cases h3
   have hl:=(unbundleOf_lens hu).1
   have h5:=h4
   obtain⟨vs,h6,_⟩:=h4
   rcases h6.2 with ⟨_,h0⟩|⟨b,cap,cur,rfl,_⟩
   ·omega
   ·exact⟨b,cap,h1,h5,h2⟩
theorem fat_any (t:Int) (i n:Nat) (w:World) (hi:4*i<n) (hn:n<9223372036854775808) (hE:NumEnv w) :
  Calls prog 123 #[.int .i64 t,.int .i64 i,.int .i64 n] w fun e w'=>e=.returned (.tuple #[.string (sOf (nameOf t i ((min 4 (n-4*i):Nat):Int))),.int .i64 ((min 4 (n-4*i):Nat):Int)])∧Below w.heap.size w w':=by
 have hw1:wrap64 ((i:Int)*4)=(i:Int)*4:=by unfold wrap64;omega
 have hw2:wrap64 ((n:Int)-(i:Int)*4)=(n:Int)-(i:Int)*4:=by unfold wrap64;omega
 obtain⟨k,hk⟩:∃ k,k=min 4 (n-4*i):=⟨_,rfl⟩
 have hm:min (4:Int) ((n:Int)-(i:Int)*4)=(k:Int):=by omega
 rw[←hk]
 have hcon:=fname_any t i k w (by omega) hE
 clear hE hk hi
 go_enter func123,ntmps123
 go_wp2_with (go_at_call 127;refine hcon.mono ?_;rintro e w2 ⟨rfl,hb2⟩)
 go_ret2
 exact⟨rfl,hb2⟩
end
section
def FitPost (o:Option (List UInt8)) (w:World) (e:Ending) (w':World):Prop:=
 Below w.heap.size w w'∧((o=none∧∃ a n c,e=.returned (.tuple #[.slice a n c,.bool false]))∨∃ b a n c,o=some b∧e=.returned (.tuple #[.slice a n c,.bool true])∧OwnBytes w' w.heap.size (.slice a n c) b)
theorem bytes_first {w:World} {a:Option Addr} {c:Nat} {l:List UInt8} (h:BytesAt w (.slice a l.length c) l) {k:Nat} (hk:k≤l.length):BytesAt w (.slice a k c) (l.take k):=by
 obtain⟨a',c',hv,hc,hx⟩:=h
 simp only[Value.slice.injEq,true_and] at hv
 obtain⟨rfl,rfl⟩:=hv
 refine⟨a,c,?_,by rw[List.length_take];omega,fun j u hu=>?_⟩
 ·rw[List.length_take,Nat.min_eq_left hk]
 ·refine hx j u ?_
  rw[List.map_take] at hu
  have hj:=(List.getElem?_eq_some_iff.1 hu).1
  rw[List.length_take] at hj
  rwa [List.getElem?_take_of_lt (by omega)] at hu
theorem ownB_any {w:World} {base:Nat} {v:Value} {l:List UInt8} (h:OwnBytes w base v l):∃ a n c,v=.slice a n c:=by
 rcases h with ⟨rfl,rfl⟩|⟨b,off,c,C,fz,rfl,_⟩
 ·exact⟨none,0,0,rfl⟩
 ·exact⟨_,_,c,rfl⟩
theorem hfit_any (w:World) (v:Value) (data:List UInt8) (hv want:Nat) (h:BytesAt w v data) (h1:1≤want) (h2:want≤hv) (h4:hv≤4) :
  Calls prog 143 #[v,.int .i64 hv,.int .i64 want] w (FitPost (fitsHash data hv want) w):=by
 obtain⟨a,c,rfl⟩:∃ a c,v=.slice a data.length c:=by obtain⟨a,c,h1,_,_⟩:=h;exact⟨a,c,h1⟩
 by_cases hf:data.length=8*hv
 ·have hfit:fitsHash data hv want=some (data.take (8*want)):=by unfold fitsHash;rw[if_pos hf]
  have hb:=bytes_first h (k:=8*want) (by omega)
  have hcl:=fun (W:World) (hW:Below w.heap.size w W)=>clone_any (.slice a (8*want) c) (data.take (8*want)) W (hb.below hW) (by rw[List.length_take];omega)
  have hle:(8*want:Nat)≤c:=by
   obtain⟨_,_,hv',hc,_⟩:=h
   simp only[Value.slice.injEq,true_and] at hv'
   omega
  have hw1:wrap64 (8*(hv:Int))=8*(hv:Int):=by unfold wrap64;omega
  have hw2:wrap64 (8*(want:Int))=8*(want:Int):=by unfold wrap64;omega
  have hz:((data.length:Int) == 8*(hv:Int))=true:=by rw[beq_iff_eq];omega
  have he:(data.length:Int)=8*(hv:Int):=by omega
  have htn:(8*(want:Int)).toNat=8*want:=by omega
  have h0:(0:Int)≤8*(want:Int):=by omega
  have hlc:8*(want:Int)≤(c:Int):=by omega
  have HF:=zh hfit
  have HCL:=zh hcl
  clear hfit hcl hb h hf
  go_enter func143,ntmps143
  go_wp2_with (go_at_call 75;refine (HCL.o _ (Below.refl _ _)).mono ?_;rintro e w1 ⟨v1,rfl,ho1,hb1⟩;have HO1:=zh ho1;have HB1:=zh hb1;obtain⟨a1,n1,c1,rfl⟩:=ownB_any ho1;clear ho1 hb1)
  go_ret2
  exact⟨HB1.o,.inr ⟨_,_,_,_,HF.o,rfl,HO1.o⟩⟩
 ·have hfit:fitsHash data hv want=none:=by unfold fitsHash;rw[if_neg hf]
  have hw1:wrap64 (8*(hv:Int))=8*(hv:Int):=by unfold wrap64;omega
  have hz:((data.length:Int) == 8*(hv:Int))=false:=by rw[beq_eq_false_iff_ne];omega
  have he:¬ (data.length:Int)=8*(hv:Int):=by omega
  have HF:=zh hfit
  clear hfit h hf
  go_enter func143,ntmps143
  go_wp2
  go_ret2
  exact⟨Below.refl _ _,.inl ⟨HF.o,_,_,_,rfl⟩⟩
theorem bss_first {w:World} {a:Option Addr} {c:Nat} {ls:List (List UInt8)} (h:BssAt w (.slice a ls.length c) ls) {k:Nat} (hk:k≤ls.length):BssAt w (.slice a k c) (ls.take k):=by
 obtain⟨vs,hl,⟨a',c',hv,hc,hx⟩,hall⟩:=h
 simp only[Value.slice.injEq] at hv
 obtain⟨rfl,hlen,rfl⟩:=hv
 refine⟨vs.take k,by rw[List.length_take,List.length_take,hl],⟨a,c,?_,by rw[List.length_take];omega,fun j u hu=>?_⟩,fun j u l hu hl'=>?_⟩
 ·rw[List.length_take,Nat.min_eq_left hk]
 ·have hj:=(List.getElem?_eq_some_iff.1 hu).1
  rw[List.length_take] at hj
  rw[List.getElem?_take_of_lt (by omega)] at hu
  exact hx j u hu
 ·have hj:=(List.getElem?_eq_some_iff.1 hu).1
  rw[List.length_take] at hj
  rw[List.getElem?_take_of_lt (by omega)] at hu hl'
  exact hall j u l hu hl'
theorem bss_cap {w:World} {a:Option Addr} {n c:Nat} {ls:List (List UInt8)} (h:BssAt w (.slice a n c) ls):ls.length≤c:=by
 obtain⟨vs,hl,⟨a',c',hv,hc,hx⟩,hall⟩:=h
 simp only[Value.slice.injEq] at hv
 omega
theorem fb_some {ls:List (List UInt8)} {l:List UInt8} {w w':World} {v:Value} (hb:bundleOf ls=some l) (h:(bundleOf ls=none∧v=.slice none 0 0)∨∃ l,bundleOf ls=some l∧OwnBytes w' w.heap.size v l∧∃ a n c,v=.slice (some a) n c):OwnBytes w' w.heap.size v l∧∃ a n c,v=.slice a n c:=by
 rcases h with ⟨h,_⟩|⟨l',h1,h2,a,n,c,h3⟩
 ·rw[hb] at h;cases h
 ·rw[hb] at h1
  cases h1
  exact⟨h2,_,n,c,h3⟩
theorem bfit_any (w:World) (v:Value) (data:List UInt8) (hv want:Nat) (h:BytesAt w v data) (hl:data.length≤1099511627776) (h1:1≤want) (h2:want≤hv) (h4:hv≤4) :
  Calls prog 93 #[v,.int .i64 hv,.int .i64 want] w (FitPost (fitsBun data hv want) w):=by
 cases hu:unbundleOf data with
 | none=>
  have hfit:fitsBun data hv want=none:=by unfold fitsBun;rw[hu];rfl
  have hcon:=unb_none h hl hu
  have HF:=zh hfit
  have HC:=zh hcon
  clear hfit hcon h hu
  go_enter func93,ntmps93
  go_wp2_with (go_at_call 94;refine HC.o.mono ?_;rintro e w1 ⟨rfl,hb1⟩;have HB1:=zh hb1;clear hb1)
  go_ret2
  exact⟨HB1.o,.inl ⟨HF.o,_,_,_,rfl⟩⟩
 | some ls=>
  have hcon:=unb_some h hl hu
  have hlens:=unbundleOf_lens hu
  by_cases hlen:ls.length=hv
  ·have hz:((ls.length:Int) == (hv:Int))=true:=by rw[beq_iff_eq];omega
   have he:(ls.length:Int)=(hv:Int):=by omega
   have hlt:(ls.take want).length=want:=by rw[List.length_take];omega
   have hbo:bundleOf (ls.take want)=some ((ls.take want).map encE).flatten:=by
    rw[bundle_some (by omega) (by omega) fun j l hj=>hlens.2.2 l (List.mem_of_mem_take (List.mem_of_getElem? hj)),List.flatMap_def]
   have hfit:fitsBun data hv want=some ((ls.take want).map encE).flatten:=by
    unfold fitsBun
    rw[hu,Option.bind_some,if_pos hlen]
    exact hbo
   have hwc:(want:Int)≤(hv:Int):=by omega
   have h0:(0:Int)≤(want:Int):=by omega
   have HF:=zh hfit
   have HC:=zh hcon
   have HBO:=zh hbo
   have HLT:=zh hlt
   clear hfit hcon h hu hlens hbo hlt
   go_enter func93,ntmps93
   go_wp2_with (first|(go_at_call 94;refine HC.o.mono ?_;rintro e w1 ⟨b1,c1,rfl,ho1,hb1⟩;have HB1:=zh hb1;have hbs:=bss_first (k:=want) ho1.at (by omega);have hcap:=bss_cap ho1.at;have hcz:(want:Int)≤(c1:Int):=(by omega);have HBS:=zh hbs;clear ho1 hb1 hbs hcap)|(go_at_call 79;refine (fbundle_any _ (ls.take want) _ HBS.o (by rw[HLT.o];omega)).mono ?_;intro e w2 h2;obtain⟨v2,rfl,hb2,h2⟩:=h2;have hy:=fb_some HBO.o h2;obtain⟨ho2,a2,n2,c2,rfl⟩:=hy;have HO2:=zh ho2;have HB2:=zh hb2;clear h2 hb2 ho2)|fail)
   go_ret2
   exact⟨HB1.o.trans (HB2.o.mono HB1.o.size),.inr ⟨_,_,_,_,HF.o,rfl,HO2.o.mono HB1.o.size⟩⟩
  ·have hfit:fitsBun data hv want=none:=by unfold fitsBun;rw[hu,Option.bind_some,if_neg hlen]
   have he:¬ (ls.length:Int)=(hv:Int):=by omega
   have hz:((ls.length:Int) == (hv:Int))=false:=by rw[beq_eq_false_iff_ne];omega
   have HF:=zh hfit
   have HC:=zh hcon
   clear hfit hcon h hu hlens
   go_enter func93,ntmps93
   go_wp2_with (go_at_call 94;refine HC.o.mono ?_;rintro e w1 ⟨b1,c1,rfl,ho1,hb1⟩;have HB1:=zh hb1;clear ho1 hb1)
   go_ret2
   exact⟨HB1.o,.inl ⟨HF.o,_,_,_,rfl⟩⟩
end
section
theorem LogIs.rest {w w1:World} {g gd:Nat} {ve vl vp:Value} {vs:List Value} {L:Lg} (h:LogIs w g gd ve vl vp vs L) {T:Nat→Prop} (hf:Fr T w w1) (t:TypeId) (hT:∀ k C s f,T k→w.heap[k]?=some (.cells C s f)→s=t) :
  (t≠138→w1.heap[g]?=w.heap[g]?)∧(t≠94→t≠5→OwnBss w1 0 ve L.entries)∧(t≠104→w1.ownsRow 0 104 1 vl L.levels.length vs)∧
   (t≠109→∀ (j:Nat) (v:Value) (r:List Hsh),vs[j]?=some v→L.levels[j]?=some r→OwnHs w1 0 v r)∧(t≠3→w1.ownsRow 0 3 1 vp L.put.length (L.put.map fun (n:Nat)=>.int .i64 (n:Int))):=by
 have key:∀ {k:Nat} {C:Array Value} {s:TypeId} {f:Nat×Nat},w.heap[k]?=some (.cells C s f)→t≠s→¬ T k:=fun hk hs hd=>hs (hT _ _ _ _ hd hk).symm
 refine⟨fun ht=>hf.block g (lt_of_heap h.cells) (key h.cells ht),fun ht ht2=>?_,fun ht=>?_,fun ht j v r hv hr=>?_,fun ht=>?_⟩
 ·refine h.ents.fr hf (fun k hk=>?_) (fun k C fz hk=>key hk ht2)
  obtain⟨vs',h1,_⟩:=h.ents
  obtain⟨C,hC⟩:=ownBlock_type h1 hk
  exact key hC ht
 ·refine ownsRow_fr h.rows hf fun k hk=>?_
  obtain⟨C,hC⟩:=ownBlock_type h.rows hk
  exact key hC ht
 ·refine ownsRow_fr (h.each j v r hv hr) hf fun k hk=>?_
  obtain⟨C,hC⟩:=ownBlock_type (h.each j v r hv hr) hk
  exact key hC ht
 ·refine ownsRow_fr h.puts hf fun k hk=>?_
  obtain⟨C,hC⟩:=ownBlock_type h.puts hk
  exact key hC ht
theorem OwnBss.setLog {w:World} {g i:Nat} {C:Array Value} {f:Nat×Nat} (hg:w.heap[g]?=some (.cells C 138 f)) {u v:Value} {ls:List (List UInt8)} (h:OwnBss w 0 v ls):OwnBss (w.setCell ⟨g,i,none⟩ u) 0 v ls:=by
 refine h.fr (Fr.set1 w g i u) (fun k hk e=>?_) (fun k C fz hk e=>heap_ne hk hg (by decide) e)
 obtain⟨vs',h1,_⟩:=h
 obtain⟨C,hC⟩:=ownBlock_type h1 hk
 exact heap_ne hC hg (by decide) e
theorem ownsRow_setLog {w:World} {g i:Nat} {C:Array Value} {f:Nat×Nat} (hg:w.heap[g]?=some (.cells C 138 f)) {u v:Value} {base:Nat} {e:TypeId} {size n:Nat} {xs:List Value} (h:w.ownsRow base e size v n xs) (he:e≠138):(w.setCell ⟨g,i,none⟩ u).ownsRow base e size v n xs:=
 ownsRow_fr h (Fr.set1 w g i u) fun k hk ee=>by
  obtain⟨C,hC⟩:=ownBlock_type h hk
  exact heap_ne hC hg he ee
theorem LogIs.setEnts {w w1:World} {g gd:Nat} {ve vl vp ve':Value} {vs:List Value} {L:Lg} {es:List (List UInt8)} (h:LogIs w g gd ve vl vp vs L) (hf:Fr (fun k=>ve.ownBlock=some k) w w1) (h2:OwnBss w1 0 ve' es) (hm:Moved w ve ve') :
  LogIs (w1.setCell ⟨g,2,none⟩ ve') g gd ve' vl vp vs { L with entries:=es }∧Fr (LogS g ve vl vp vs) w (w1.setCell ⟨g,2,none⟩ ve')∧Sub w (LogS g ve vl vp vs) (LogS g ve' vl vp vs):=by
 have hT:∀ k C s f,ve.ownBlock=some k→w.heap[k]?=some (.cells C s f)→s=94:=fun k C s f hk hC=>by
  obtain⟨vs',h1,_⟩:=h.ents
  obtain⟨C',hC'⟩:=ownBlock_type h1 hk
  rw[hC] at hC'
  cases hC'
  rfl
 obtain⟨a1,_,a3,a4,a5⟩:=h.rest hf 94 hT
 have hg1:=(a1 (by decide)).trans h.cells
 refine⟨⟨(heap_setCell hg1 _).trans (by simp[lgCells]),h2.setLog hg1,ownsRow_setLog hg1 (a3 (by decide)) (by decide),fun j v r hv hr=>ownsRow_setLog hg1 (a4 (by decide) j v r hv hr) (by decide),h.apart,ownsRow_setLog hg1 (a5 (by decide)) (by decide)⟩,
  (hf.weak fun k _ hk=>.inr (.inl hk)).trans ((Fr.set1 w1 g 2 ve').weak fun k _ hk=>.inl hk),fun k hk=>?_⟩
 rcases hk with hk|hk|hk
 ·exact .inl (.inl hk)
 ·exact (hm k hk).imp (fun h=>.inr (.inl h)) id
 ·exact .inl (.inr (.inr hk))
theorem LogIs.setPuts {w w1:World} {g gd:Nat} {ve vl vp vp':Value} {vs:List Value} {L:Lg} {ps:List Nat} (h:LogIs w g gd ve vl vp vs L) (hf:Fr (fun k=>vp.ownBlock=some k) w w1) (h2:w1.ownsRow 0 3 1 vp' ps.length (ps.map fun (n:Nat)=>.int .i64 (n:Int))) (hm:Moved w vp vp') :
  LogIs (w1.setCell ⟨g,4,none⟩ vp') g gd ve vl vp' vs { L with put:=ps }∧Fr (LogS g ve vl vp vs) w (w1.setCell ⟨g,4,none⟩ vp')∧Sub w (LogS g ve vl vp vs) (LogS g ve vl vp' vs):=by
 have hT:∀ k C s f,vp.ownBlock=some k→w.heap[k]?=some (.cells C s f)→s=3:=fun k C s f hk hC=>by
  obtain⟨C',hC'⟩:=ownBlock_type h.puts hk
  rw[hC] at hC'
  cases hC'
  rfl
 obtain⟨a1,a2,a3,a4,_⟩:=h.rest hf 3 hT
 have hg1:=(a1 (by decide)).trans h.cells
 refine⟨⟨(heap_setCell hg1 _).trans (by simp[lgCells]),(a2 (by decide) (by decide)).setLog hg1,ownsRow_setLog hg1 (a3 (by decide)) (by decide),fun j v r hv hr=>ownsRow_setLog hg1 (a4 (by decide) j v r hv hr) (by decide),h.apart,ownsRow_setLog hg1 h2 (by decide)⟩,
  (hf.weak fun k _ hk=>.inr (.inr (.inr (.inl hk)))).trans ((Fr.set1 w1 g 4 vp').weak fun k _ hk=>.inl hk),fun k hk=>?_⟩
 rcases hk with hk|hk|hk|hk|hk
 ·exact .inl (.inl hk)
 ·exact .inl (.inr (.inl hk))
 ·exact .inl (.inr (.inr (.inl hk)))
 ·exact (hm k hk).imp (fun h=>.inr (.inr (.inr (.inl h)))) id
 ·exact .inl (.inr (.inr (.inr (.inr hk))))
theorem LogIs.fail {w:World} {g gd:Nat} {ve vl vp:Value} {vs:List Value} {L:Lg} (h:LogIs w g gd ve vl vp vs L) (b:Bool) :
  LogIs (w.setCell ⟨g,5,none⟩ (.bool b)) g gd ve vl vp vs { L with failed:=b }∧Fr (LogS g ve vl vp vs) w (w.setCell ⟨g,5,none⟩ (.bool b)):=by
 have hg1:=h.cells
 exact⟨⟨(heap_setCell hg1 _).trans (by simp[lgCells]),h.ents.setLog hg1,ownsRow_setLog hg1 h.rows (by decide),fun j v r hv hr=>ownsRow_setLog hg1 (h.each j v r hv hr) (by decide),h.apart,ownsRow_setLog hg1 h.puts (by decide)⟩,(Fr.set1 w g 5 (.bool b)).weak fun k _ hk=>.inl hk⟩
theorem LogIs.setPut {w:World} {g gd:Nat} {ve vl vp:Value} {vs:List Value} {L:Lg} (h:LogIs w g gd ve vl vp vs L) {bp cp:Nat} (hvp:vp=.slice (some ⟨bp,0,none⟩) L.put.length cp) (n x:Nat) :
  LogIs (w.setCell ⟨bp,n,none⟩ (.int .i64 x)) g gd ve vl vp vs { L with put:=L.put.set n x }∧Fr (LogS g ve vl vp vs) w (w.setCell ⟨bp,n,none⟩ (.int .i64 x)):=by
 have hk:vp.ownBlock=some bp:=by rw[hvp];rfl
 obtain⟨C,hC⟩:=ownBlock_type h.puts hk
 have hf:=Fr.set1 w bp n (.int .i64 (x:Int))
 obtain⟨a1,a2,a3,a4,_⟩:=h.rest hf 3 fun k C' s f hk' hC'=>by
  subst hk'
  rw[hC] at hC'
  cases hC'
  rfl
 refine⟨⟨(a1 (by decide)).trans h.cells,a2 (by decide) (by decide),a3 (by decide),a4 (by decide),h.apart,?_⟩,hf.weak fun k _ hk=>.inr (.inr (.inr (.inl (by rw[hvp,hk];rfl))))⟩
 rcases h.puts.2 with ⟨e,_⟩|⟨b,cap,cur,e,hb0,hb,r1,r2,r3,r4⟩
 ·rw[hvp] at e;cases e
 ·rw[hvp] at e
  cases e
  refine⟨by simp,.inr ⟨bp,cp,_,by simpa using hvp,Nat.zero_le _,heap_setCell hb _,by simpa using r1,r2,by simpa using r3,?_⟩⟩
  rw[Array.toList_setIfInBounds,List.take_set]
  simp only[List.length_set]
  rw[r4,List.map_set]
theorem OwnBss.push {w w1:World} {v v':Value} {n m:Nat} {ls ls':List (List UInt8)} {vs us:List Value} (hrow:w.ownsRow 0 94 1 v n vs) (h2:∀ (j:Nat) (u:Value) (l:List UInt8),vs[j]?=some u→ls[j]?=some l→OwnBytes w 0 u l) (hn:n=ls.length)
  (hf:Fr (fun k=>v.ownBlock=some k) w w1) (hr:w1.ownsRow 0 94 1 v' m (vs++us)) (hm:m=ls.length+ls'.length) (hb:∀ (j:Nat) (u:Value) (l:List UInt8),us[j]?=some u→ls'[j]?=some l→OwnBytes w 0 u l):OwnBss w1 0 v' (ls++ls'):=by
 have hl:vs.length=n:=by simpa using hrow.1
 have hno:∀ (k:Nat) (C:Array Value) (fz:Nat×Nat),w.heap[k]?=some (Obj.cells C 5 fz)→w1.heap[k]?=w.heap[k]?:=fun k C fz hk=>hf.block k (lt_of_heap hk) fun e=>by
  obtain⟨C',hC'⟩:=ownBlock_type hrow e
  exact heap_ne hk hC' (by decide) rfl
 refine⟨vs++us,by rw[List.length_append,←hm];exact hr,fun j u l hu' hl'=>?_⟩
 by_cases hj:j<vs.length
 ·rw[List.getElem?_append_left hj] at hu'
  rw[List.getElem?_append_left (by omega)] at hl'
  exact (h2 j u l hu' hl').same hno
 ·rw[List.getElem?_append_right (by omega)] at hu' hl'
  rw[hl,hn] at hu'
  exact (hb _ u l hu' hl').same hno
end
section
def Kinds (w:World) (S:Nat→Prop) (ts:List TypeId):Prop:=∀ k C t f,S k→w.heap[k]?=some (.cells C t f)→t∈ts
theorem kinds_not {w:World} {S:Nat→Prop} {ts:List TypeId} (h:Kinds w S ts) {k:Nat} {C:Array Value} {t:TypeId} {f:Nat×Nat} (hk:w.heap[k]?=some (.cells C t f)) (ht:t ∉ ts):¬ S k:=fun hs=>ht (h k C t f hs hk)
theorem kinds_one {w:World} {g:Nat} {C:Array Value} {t:TypeId} {f:Nat×Nat} (h:w.heap[g]?=some (.cells C t f)):Kinds w (·=g) [t]:=fun k C' t' f' hk hc=>by
 subst hk
 rw[h] at hc
 cases hc
 exact List.mem_singleton.2 rfl
theorem kinds_row {w:World} {base:Nat} {e:TypeId} {size:Nat} {v:Value} {n:Nat} {xs:List Value} (h:w.ownsRow base e size v n xs):Kinds w (fun k=>v.ownBlock=some k) [e]:=fun k C' t' f' hk hc=>by
 obtain⟨C,hC⟩:=ownBlock_type h hk
 rw[hC] at hc
 cases hc
 exact List.mem_singleton.2 rfl
theorem kinds_disk {w:World} {g:Nat} {v:Value} {d:Dk} (h:DiskAt w g v d):Kinds w (dkS g v) [41,73]:=fun k C' t' f' hk hc=>by
 rcases hk with hk|hk
 ·have:=kinds_one h.1 k C' t' f' hk hc
  simp at this ⊢
  exact .inl this
 ·have:=kinds_row h.2 k C' t' f' hk hc
  simp at this ⊢
  exact .inr this
def logTs:List TypeId:=[138,94,104,3,109]
theorem kinds_log {w:World} {g gd:Nat} {ve vl vp:Value} {vs:List Value} {L:Lg} (h:LogIs w g gd ve vl vp vs L):Kinds w (LogS g ve vl vp vs) logTs:=fun k C' t' f' hk hc=>by
 obtain⟨C,t,h1,h2⟩:=h.kinds hk
 rw[h1] at hc
 cases hc
 unfold logTs
 simpa using h2
theorem Kinds.or {w:World} {S T:Nat→Prop} {a b:List TypeId} (h:Kinds w S a) (i:Kinds w T b):Kinds w (fun k=>S k∨T k) (a++b):=fun k C t f hk hc=>by
 rcases hk with hk|hk
 ·exact List.mem_append_left _ (h k C t f hk hc)
 ·exact List.mem_append_right _ (i k C t f hk hc)
theorem DiskAt.kept {w w':World} {S:Nat→Prop} {ts:List TypeId} {g:Nat} {v:Value} {d:Dk} (h:DiskAt w g v d) (hf:Fr S w w') (hS:Kinds w S ts) (h1:41 ∉ ts) (h2:73 ∉ ts):DiskAt w' g v d:=
 h.fr hf fun k hk=>by
  rcases hk with rfl|hk
  ·exact kinds_not hS h.1 h1
  ·obtain⟨C,hC⟩:=ownBlock_type h.2 hk
   exact kinds_not hS hC h2
theorem row_kept {w w':World} {S:Nat→Prop} {ts:List TypeId} {base:Nat} {e:TypeId} {size:Nat} {v:Value} {n:Nat} {xs:List Value} (h:w.ownsRow base e size v n xs) (hf:Fr S w w') (hS:Kinds w S ts) (h1:e ∉ ts):w'.ownsRow base e size v n xs:=
 ownsRow_fr h hf fun k hk=>by
  obtain⟨C,hC⟩:=ownBlock_type h hk
  exact kinds_not hS hC h1
theorem LogIs.kept {w w':World} {S:Nat→Prop} {ts:List TypeId} {g gd:Nat} {ve vl vp:Value} {vs:List Value} {L:Lg} (h:LogIs w g gd ve vl vp vs L) (hf:Fr S w w') (hS:Kinds w S ts) (h1:∀ t∈logTs,t ∉ ts) (h2:5 ∉ ts):LogIs w' g gd ve vl vp vs L:=
 h.fr hf (fun k hk=>by
  obtain⟨C,t,hC,ht⟩:=h.kinds hk
  exact kinds_not hS hC (h1 t (by unfold logTs;simpa using ht))) (fun k C fz hk=>kinds_not hS hk h2)
theorem heap_kept {w w':World} {S:Nat→Prop} {ts:List TypeId} {g:Nat} {C:Array Value} {t:TypeId} {f:Nat×Nat} (h:w.heap[g]?=some (.cells C t f)) (hf:Fr S w w') (hS:Kinds w S ts) (h1:t ∉ ts):w'.heap[g]?=some (.cells C t f):=
 hf.heap h (kinds_not hS h h1)
def ToldAt' (w:World) (g:Nat) (n:Int) (s:ByteArray):Prop:=w.heap[g]?=some (.cells #[.int .i64 n,.string s] 29 (0,0))
theorem told_new (w:World):ToldAt' (w.alloc (.cells #[.int .i64 0,.string ⟨#[]⟩] 29)) w.heap.size 0 ⟨#[]⟩:=heap_alloc_new w _
theorem ToldAt'.facts {w:World} {g:Nat} {n:Int} {s:ByteArray} (h:ToldAt' w g n s):w.cell? ⟨g,0,none⟩=some (.int .i64 n)∧w.cell? ⟨g,1,none⟩=some (.string s)∧w.frozen? ⟨g,0,none⟩=false∧w.frozen? ⟨g,1,none⟩=false∧g<w.heap.size:=
 ⟨cell_heap h 0 rfl,cell_heap h 1 rfl,frozen_heap h 0,frozen_heap h 1,lt_of_heap h⟩
theorem ToldAt'.below {w w':World} {g:Nat} {n:Int} {s:ByteArray} (h:ToldAt' w g n s) (hb:Below w.heap.size w w'):ToldAt' w' g n s:=(hb.block g (lt_of_heap h)).trans h
theorem ToldAt'.kept {w w':World} {S:Nat→Prop} {ts:List TypeId} {g:Nat} {n:Int} {s:ByteArray} (h:ToldAt' w g n s) (hf:Fr S w w') (hS:Kinds w S ts) (h1:29 ∉ ts):ToldAt' w' g n s:=heap_kept h hf hS h1
theorem told_set {w:World} {g:Nat} {n m:Int} {s t:ByteArray} (h:ToldAt' w g n s):ToldAt' ((w.setCell ⟨g,0,none⟩ (.int .i64 m)).setCell ⟨g,1,none⟩ (.string t)) g m t∧Fr (·=g) w ((w.setCell ⟨g,0,none⟩ (.int .i64 m)).setCell ⟨g,1,none⟩ (.string t)):=
 ⟨(heap_setCell (heap_setCell h _) _).trans (by simp),(Fr.set1 w g 0 _).set 1 _⟩
end
section
def lieCells (l:Lie1):List Value:=[.string l.path,.string l.data,.bool l.fails,.int .i64 l.times]
def lieRow (ls:List Lie1):List Value:=ls.flatMap lieCells
theorem lieRow_len (ls:List Lie1):(lieRow ls).length=ls.length*4:=by
 induction ls with
 | nil=>rfl
 | cons a l ih=>simp only[lieRow,List.flatMap_cons,List.length_append,List.length_cons] at ih ⊢;rw[ih];simp[lieCells];omega
theorem lieRow_at:∀ (l:List Lie1) (j:Nat) (x:Lie1),l[j]?=some x→(lieRow l)[j*4]?=some (.string x.path)∧(lieRow l)[j*4+1]?=some (.string x.data)∧(lieRow l)[j*4+2]?=some (.bool x.fails)∧(lieRow l)[j*4+3]?=some (.int .i64 x.times)
 | [],j,x,h=>by simp at h
 | a :: l,0,x,h=>by simp at h;subst h;exact⟨rfl,rfl,rfl,rfl⟩
 | a :: l,j+1,x,h=>by
   have:=lieRow_at l j x (by simpa using h)
   have e:lieRow (a :: l)=.string a.path :: .string a.data :: .bool a.fails :: .int .i64 a.times :: lieRow l:=rfl
   rw[e,show (j+1)*4=j*4+1+1+1+1 by omega]
   simpa using this
def toldRow (l:List Nat):List Value:=l.map fun (k:Nat)=>.int .i64 (k:Int)
def ntCells (gd:Nat) (vl vt:Value) (n:Nt):Array Value:=#[.pointer (some ⟨gd,0,none⟩),vl,vt,.int .i64 n.fetches]
structure NetIs (w:World) (g gd:Nat) (vl vt:Value) (n:Nt):Prop where
 cells:w.heap[g]?=some (.cells (ntCells gd vl vt n) 103 (0,0))
 lies:w.ownsRow 0 75 4 vl n.lies.length (lieRow n.lies)
 told:w.ownsRow 0 3 1 vt n.told.length (toldRow n.told)
 len:n.told.length=n.lies.length
 le:∀ k∈n.told,k≤n.fetches
def netS (g:Nat) (vt:Value) (k:Nat):Prop:=k=g∨vt.ownBlock=some k
theorem NetIs.fr {S:Nat→Prop} {w w':World} {g gd:Nat} {vl vt:Value} {n:Nt} (h:NetIs w g gd vl vt n) (hf:Fr S w w') (hg:¬ S g) (hl:∀ k,vl.ownBlock=some k→¬ S k) (ht:∀ k,vt.ownBlock=some k→¬ S k):NetIs w' g gd vl vt n:=
 ⟨hf.heap h.cells hg,ownsRow_fr h.lies hf hl,ownsRow_fr h.told hf ht,h.len,h.le⟩
theorem NetIs.below {w w':World} {g gd:Nat} {vl vt:Value} {n:Nt} (h:NetIs w g gd vl vt n) (hb:Below w.heap.size w w'):NetIs w' g gd vl vt n:=
 h.fr (S:=fun _=>False) (Fr.ofBelow hb) id (fun _ _=>id) (fun _ _=>id)
theorem NetIs.lt {w:World} {g gd:Nat} {vl vt:Value} {n:Nt} (h:NetIs w g gd vl vt n):g<w.heap.size:=lt_of_heap h.cells
theorem NetIs.parts {w:World} {g gd:Nat} {vl vt:Value} {n:Nt} (h:NetIs w g gd vl vt n):(∀ k,vl.ownBlock=some k→k≠g)∧(∀ k,vt.ownBlock=some k→k≠g)∧∀ k,vl.ownBlock=some k→¬ vt.ownBlock=some k:=by
 refine⟨fun k hk e=>?_,fun k hk e=>?_,fun k hk ht=>?_⟩
 ·obtain⟨C,hC⟩:=ownBlock_type h.lies hk
  exact heap_ne hC h.cells (by decide) e
 ·obtain⟨C,hC⟩:=ownBlock_type h.told hk
  exact heap_ne hC h.cells (by decide) e
 ·obtain⟨C,hC⟩:=ownBlock_type h.lies hk
  obtain⟨C',hC'⟩:=ownBlock_type h.told ht
  exact heap_ne hC hC' (by decide) rfl
theorem NetIs.heads {w:World} {g gd:Nat} {vl vt:Value} {n:Nt} (h:NetIs w g gd vl vt n) :
  (w.cell? ⟨g,0,none⟩=some (.pointer (some ⟨gd,0,none⟩))∧w.cell? ⟨g,1,none⟩=some vl∧w.cell? ⟨g,2,none⟩=some vt∧w.cell? ⟨g,3,none⟩=some (.int .i64 n.fetches))∧∀ i,w.frozen? ⟨g,i,none⟩=false:=
 ⟨⟨cell_heap h.cells 0 rfl,cell_heap h.cells 1 rfl,cell_heap h.cells 2 rfl,cell_heap h.cells 3 rfl⟩,fun i=>frozen_heap h.cells i⟩
theorem NetIs.count {w:World} {g gd:Nat} {vl vt:Value} {n:Nt} (h:NetIs w g gd vl vt n):NetIs (w.setCell ⟨g,3,none⟩ (.int .i64 ((n.fetches:Int)+1))) g gd vl vt { n with fetches:=n.fetches+1 }:=by
 have hf:=Fr.set1 w g 3 (.int .i64 ((n.fetches:Int)+1))
 obtain⟨p1,p2,_⟩:=h.parts
 exact⟨(heap_setCell h.cells _).trans (by simp[ntCells]),ownsRow_fr h.lies hf fun k hk e=>p1 k hk e,ownsRow_fr h.told hf fun k hk e=>p2 k hk e,h.len,fun k hk=>Nat.le_succ_of_le (h.le k hk)⟩
theorem NetIs.apartDisk {w:World} {g gd g':Nat} {vl vt v:Value} {n:Nt} {d:Dk} (h:NetIs w g gd vl vt n) (hd:DiskAt w g' v d):∀ k,netS g vt k→¬ dkS g' v k:=by
 intro k hk hs
 have h1:∃ C t,w.heap[k]?=some (.cells C t (0,0))∧(t=103∨t=3):=by
  rcases hk with rfl|hk
  ·exact⟨_,_,h.cells,.inl rfl⟩
  ·obtain⟨C,hC⟩:=ownBlock_type h.told hk
   exact⟨C,_,hC,.inr rfl⟩
 obtain⟨C,t,h1,h2⟩:=h1
 rcases hs with rfl|hs
 ·rw[hd.1] at h1
  cases h1
  revert h2
  decide
 ·obtain⟨C',h3⟩:=ownBlock_type hd.2 hs
  rw[h3] at h1
  cases h1
  revert h2
  decide
theorem toldRow_set (l:List Nat) (i k:Nat):(toldRow l).set i (.int .i64 (k:Int))=toldRow (l.set i k):=by unfold toldRow;rw[List.map_set]
theorem toldRow_at {l:List Nat} {i k:Nat} (h:l[i]?=some k):(toldRow l)[i]?=some (.int .i64 (k:Int)):=by unfold toldRow;rw[List.getElem?_map,h];rfl
def FetchPost (w:World) (g gd:Nat) (vl vt:Value) (n:Nt) (p:ByteArray) (e:Ending) (w':World):Prop:=
 NetIs w' g gd vl vt (fetchN n p)∧Fr (netS g vt) w w'∧∃ u x,e=.returned (.tuple #[u,x])∧
  ((∃ data,fetchA n p=some data∧x=.nilIface∧OwnBytes w' w.heap.size u data∧∃ a k c,u=.slice a k c)∨(fetchA n p=none∧(∃ q,x=.iface 152 (.pointer (some q)))∧∃ a k c,u=.slice a k c))
theorem lieFrom_yes {n:Nt} {p:ByteArray} {k i:Nat} (h:liveAt n p i=true):lieFrom n p (k+1) i=some i:=by rw[lieFrom,if_pos h]
theorem lieFrom_no {n:Nt} {p:ByteArray} {k i:Nat} (h:liveAt n p i=false):lieFrom n p (k+1) i=lieFrom n p k (i+1):=by rw[lieFrom,if_neg (by simp[h])]
theorem live_path {n:Nt} {p:ByteArray} {i:Nat} {x:Lie1} (hx:n.lies[i]?=some x) (h:¬ x.path=p):liveAt n p i=false:=by unfold liveAt;rw[hx];simp[h]
theorem live_over {n:Nt} {p:ByteArray} {i t:Nat} {x:Lie1} (hx:n.lies[i]?=some x) (ht:n.told[i]?=some t) (h1:0<x.times) (h2:x.times≤(t:Int)):liveAt n p i=false:=by
 unfold liveAt
 rw[hx,List.getD_eq_getElem?_getD,ht]
 simp[h1,h2]
theorem live_yes {n:Nt} {p:ByteArray} {i t:Nat} {x:Lie1} (hx:n.lies[i]?=some x) (ht:n.told[i]?=some t) (h:x.path=p) (h2:¬ 0<x.times∨¬ x.times≤(t:Int)):liveAt n p i=true:=by
 unfold liveAt
 rw[hx,List.getD_eq_getElem?_getD,ht]
 rcases h2 with h2|h2 <;> simp[h,h2]
theorem net_told {w:World} {g gd gt:Nat} {vl:Value} {ln cp:Nat} {n:Nt} {i k:Nat} (h:NetIs w g gd vl (.slice (some ⟨gt,0,none⟩) ln cp) n) (hl:ln=n.told.length) (hk:k≤n.fetches) :
  NetIs (w.setCell ⟨gt,i,none⟩ (.int .i64 (k:Int))) g gd vl (.slice (some ⟨gt,0,none⟩) ln cp) { n with told:=n.told.set i k }∧Fr (netS g (.slice (some ⟨gt,0,none⟩) ln cp)) w (w.setCell ⟨gt,i,none⟩ (.int .i64 (k:Int))):=by
 subst hl
 obtain⟨p1,p2,p3⟩:=h.parts
 have hf:=Fr.setCell1 w ⟨gt,i,none⟩ (.int .i64 (k:Int))
 have hs:=(h.told.stored i (.int .i64 (k:Int))).1
 rw[toldRow_set] at hs
 refine⟨⟨hf.heap h.cells (fun e=>p2 gt rfl e.symm),ownsRow_fr h.lies hf fun j hj e=>p3 j hj (congrArg some e.symm),?_,by rw[List.length_set];exact h.len,fun x hx=>?_⟩,hf.weak fun j _ e=>.inr (congrArg some e.symm)⟩
 ·rw[List.length_set];exact hs
 ·rcases List.mem_or_eq_of_mem_set hx with hx|rfl
  ·exact h.le x hx
  ·exact hk
theorem told_cell {w:World} {g gd gt:Nat} {vl:Value} {ln cp:Nat} {n:Nt} {kk t:Nat} (h:NetIs w g gd vl (.slice (some ⟨gt,0,none⟩) ln cp) n) (ht:n.told[kk]?=some t):w.cell? ⟨gt,kk,none⟩=some (.int .i64 t):=by
 obtain⟨a,k,hv,_,hc⟩:=ownsRow_cells h.told
 simp only[Value.slice.injEq] at hv
 obtain⟨b,off,hb,h1⟩:=hc kk _ (toldRow_at ht)
 have e:=hv.1.trans hb
 cases e
 rwa [Nat.zero_add] at h1
theorem bw_below (w:World) (s:ByteArray):Below w.heap.size w (Lib.bytesWorld w 5 s):=
 ⟨by simp[Lib.bytesWorld,World.freeze,World.alloc,World.drew,-World.alloc_eq,-World.drew_eq],by simp[Lib.bytesWorld,World.freeze,World.alloc,World.drew,-World.alloc_eq,-World.drew_eq],by simp[Lib.bytesWorld,World.freeze,World.alloc,World.drew,-World.alloc_eq,-World.drew_eq],by rw[Lib.bytesWorld_size];omega,fun k hk=>Lib.bytesWorld_at_old w _ s k hk⟩
theorem row_short {w:World} {base:Nat} {e:TypeId} {size:Nat} {v:Value} {n:Nat} {xs:List Value} (h:w.ownsRow base e size v n xs):n≤9223372036854775807:=by
 rcases h.2 with ⟨_,h0⟩|⟨_,_,_,_,_,_,hnc,hcm,_⟩
 ·omega
 ·unfold maxLen at hcm;omega
structure Live (w1:World) (g gd gt:Nat) (vl vt:Value) (n:Nt) (kk t:Nat) (x:Lie1) (bx:Nat) (wt:World):Prop where
 net:NetIs wt g gd vl vt { n with fetches:=n.fetches+1,told:=n.told.set kk t }
 fr:Fr (netS g vt) w1 wt
 data:wt.cell? ⟨bx,1,none⟩=some (.string x.data)
 flag:wt.cell? ⟨bx,2,none⟩=some (.bool x.fails)
 size:w1.heap.size≤bx∧bx<wt.heap.size
theorem live_at {w1 wr:World} {g gd gt:Nat} {vl:Value} {ln cp:Nat} {n:Nt} {kk t:Nat} {x:Lie1} (h:NetIs wr g gd vl (.slice (some ⟨gt,0,none⟩) ln cp) { n with fetches:=n.fetches+1 }) (hb:Below w1.heap.size w1 wr) (hl:ln=n.told.length) (ht:t≤n.fetches) (hgt:gt<wr.heap.size) (j:Nat) :
  Live w1 g gd gt vl (.slice (some ⟨gt,0,none⟩) ln cp) n kk (t+1) x wr.heap.size (((wr.alloc (.cells #[.string x.path,.string x.data,.bool x.fails,.int .i64 x.times] 75)).drewN j).setCell ⟨gt,kk,none⟩ (.int .i64 ((t:Int)+1))):=by
 have hb2:=below_drewN (below_alloc wr (.cells #[.string x.path,.string x.data,.bool x.fails,.int .i64 x.times] 75)) j
 obtain⟨h1,h2⟩:=net_told (i:=kk) (k:=t+1) (h.below hb2) hl (by dsimp only;omega)
 refine⟨h1,(Fr.ofBelow (hb.trans (hb2.mono hb.size))).trans h2,?_,?_,hb.size,?_⟩
 ·rw[World.cell?_setCell_other _ _ _ _ (by simp)]
  exact cell_heap (heap_alloc_new wr _) 1 rfl
 ·rw[World.cell?_setCell_other _ _ _ _ (by simp)]
  exact cell_heap (heap_alloc_new wr _) 2 rfl
 ·simp[World.setCell]
theorem lie_found {n:Nt} {p:ByteArray} {kk:Nat} {x:Lie1} (hx:n.lies[kk]?=some x) (h:lieFrom n p (n.lies.length-kk) kk=lieOf n p) (hl:liveAt n p kk=true):lieOf n p=some kk:=by
 have hlt:=(List.getElem?_eq_some_iff.1 hx).1
 rw[←h,show n.lies.length-kk=(n.lies.length-kk-1)+1 by omega,lieFrom_yes hl]
theorem fetchN_lie {n:Nt} {p:ByteArray} {kk t:Nat} (h:lieOf n p=some kk) (ht:n.told[kk]?=some t):fetchN n p={ n with fetches:=n.fetches+1,told:=n.told.set kk (t+1) }:=by
 unfold fetchN
 rw[h]
 dsimp only
 rw[List.getD_eq_getElem?_getD,ht]
 rfl
theorem fetchN_none {n:Nt} {p:ByteArray} (h:lieOf n p=none):fetchN n p={ n with fetches:=n.fetches+1 }:=by
 unfold fetchN
 rw[h]
theorem fetchA_none {n:Nt} {p:ByteArray} (h:lieOf n p=none):fetchA n p=(getF n.files p).map (·.data.toList):=by
 unfold fetchA
 rw[h]
theorem fetchA_lie {n:Nt} {p:ByteArray} {kk:Nat} {x:Lie1} (h:lieOf n p=some kk) (hx:n.lies[kk]?=some x):fetchA n p=if x.fails=true then none else some x.data.data.toList:=by
 unfold fetchA
 rw[h]
 dsimp only
 rw[hx]
 rfl
theorem lie_fails {w wt wf:World} {g gd:Nat} {vl vt:Value} {n:Nt} {p:ByteArray} {kk t:Nat} {x:Lie1} {a:Option Addr} {k c:Nat} {q:Addr} (h:NetIs wt g gd vl vt { n with fetches:=n.fetches+1,told:=n.told.set kk (t+1) }) (hf:Fr (netS g vt) w wt) (hl:lieOf n p=some kk) (ht:n.told[kk]?=some t) (hx:n.lies[kk]?=some x) (hfl:x.fails=true)
  (hb:Below wt.heap.size wt wf):FetchPost w g gd vl vt n p (.returned (.tuple #[.slice a k c,.iface 152 (.pointer (some q))])) wf:=
 ⟨by rw[fetchN_lie hl ht];exact h.below hb,hf.trans (Fr.ofBelow hb),_,_,rfl,.inr ⟨by rw[fetchA_lie hl hx,if_pos hfl],⟨_,rfl⟩,_,_,_,rfl⟩⟩
theorem fetch_any (w:World) (g gd:Nat) (vl vt v:Value) (n:Nt) (d:Dk) (p:ByteArray) (h:NetIs w g gd vl vt n) (hd:DiskAt w gd v d) (hf:d.files=n.files) (hc:n.fetches<1152921504606846976) :
  Calls prog 254 #[.pointer (some ⟨g,0,none⟩),.string p] w (FetchPost w g gd vl vt n p):=by
 obtain⟨⟨c0,c1,c2,c3⟩,f0⟩:=h.heads
 have h1:=h.count
 obtain⟨al,cl,rfl,_,hcl⟩:=ownsRow_cells h.lies
 obtain⟨at',ct,rfl⟩:=own_any h.told
 obtain⟨w1,hw1⟩:∃ w1,w1=w.setCell ⟨g,3,none⟩ (.int .i64 ((n.fetches:Int)+1)):=⟨_,rfl⟩
 rw[←hw1] at h1
 have hF1:Fr (netS g (.slice at' n.told.length ct)) w w1:=by rw[hw1];exact (Fr.set1 w g 3 _).weak fun _ _ e=>.inl e
 have hd1:DiskAt w1 gd v d:=hd.fr hF1 fun k hk hs=>h.apartDisk hd k hs hk
 have hw:wrap64 ((n.fetches:Int)+1)=(n.fetches:Int)+1:=by unfold wrap64;omega
 have H1:=zh h1
 have HF1:=zh hF1
 have HW1:=zh hw1
 have HD:=zh hd1
 have HFL:=zh hf
 have HH:=zh h
 have HCL:=zh hcl
 have HLEN:=zh h.len
 have HN0:=zh h.le
 have hshort:=row_short h.lies
 clear h h1 hd hd1 hf hw1 hF1 hcl
 go_enter func254,ntmps254
 go_wp2
 rw[←HW1.o]
 go_loopg [21] n.lies.length (fun gg s21 wr=>∃ kk:Nat,kk≤n.lies.length∧n.lies.length-kk≤gg∧s21=.int .i64 kk∧Aside (Below w1.heap.size w1 wr)∧Aside (lieFrom n p (n.lies.length-kk) kk=lieOf n p))
 case atStart=>exact⟨0,Nat.zero_le _,by omega,rfl,Below.refl _ _,rfl⟩
 case round=>
  obtain⟨kk,hkk,hg,rfl,BW,HL⟩:=hrel
  have hbw:=BW.o
  have HN:=zh (H1.o.below hbw)
  obtain⟨⟨r0,r1,r2,r3⟩,rf⟩:=HN.o.heads
  by_cases hlt:kk<n.lies.length
  ·obtain⟨x,hx⟩:∃ x,n.lies[kk]?=some x:=⟨_,List.getElem?_eq_getElem hlt⟩
   obtain⟨t,ht⟩:∃ t,n.told[kk]?=some t:=⟨_,List.getElem?_eq_getElem (by rw[HLEN.o];exact hlt)⟩
   obtain⟨g1,g2,g3,g4⟩:=lieRow_at n.lies kk x hx
   obtain⟨b,off,rfl,e1⟩:=HCL.o _ _ g1
   obtain⟨_,_,hbo,e2⟩:=HCL.o _ _ g2
   cases hbo
   obtain⟨_,_,hbo,e3⟩:=HCL.o _ _ g3
   cases hbo
   obtain⟨_,_,hbo,e4⟩:=HCL.o _ _ g4
   cases hbo
   have hb:b<w.heap.size:=cell_lt e1
   have hbg:¬ netS g (.slice at' n.told.length ct) b:=by
    obtain⟨q1,_,q3⟩:=HH.o.parts
    rintro (e|e)
    ·exact q1 b rfl e
    ·exact q3 b rfl e
   have cv:∀ i u,w.cell? ⟨b,i,none⟩=some u→wr.cell? ⟨b,i,none⟩=some u:=fun i u hu=>(hbw.cell (p:=⟨b,i,none⟩) (Nat.lt_of_lt_of_le hb HF1.o.size)).trans (HF1.o.cell hu hbg)
   have d1:wr.cell? ⟨b,off+kk*4,none⟩=some (.string x.path):=cv _ _ e1
   have d2:wr.cell? ⟨b,off+kk*4+1,none⟩=some (.string x.data):=cv _ _ e2
   have d3:wr.cell? ⟨b,off+kk*4+2,none⟩=some (.bool x.fails):=cv _ _ e3
   have d4:wr.cell? ⟨b,off+kk*4+3,none⟩=some (.int .i64 x.times):=cv _ _ e4
   have hk0:(0:Int)≤(kk:Int):=by omega
   have hltz:(kk:Int)<(n.lies.length:Int):=by omega
   have hltt:(kk:Int)<(n.told.length:Int):=by have:=HLEN.o;omega
   have HX:=zh hx
   have HT:=zh ht
   have hbr:b<wr.heap.size:=cell_lt d1
   clear e1 e2 e3 e4 g1 g2 g3 g4 cv hx
   have hno:liveAt n p kk=false→lieFrom n p (n.lies.length-(kk+1)) (kk+1)=lieOf n p:=fun hl=>by
    have:=HL.o
    rw[show n.lies.length-kk=(n.lies.length-(kk+1))+1 by omega,lieFrom_no hl] at this
    exact this
   have HNO:=zh hno
   clear hno
   have hgr:g<wr.heap.size:=cell_lt r0
   obtain⟨gt,rfl⟩:∃ gt,at'=some ⟨gt,0,none⟩:=by
    rcases HN.o.told.2 with ⟨_,h0⟩|⟨gt,_,_,hv,_⟩
    ·have h0':n.told.length=0:=h0
     omega
    ·simp only[Value.slice.injEq] at hv
     exact⟨gt,hv.1⟩
   have t1:=told_cell HN.o (t:=t) ht
   have hgtr:gt<wr.heap.size:=cell_lt t1
   have hfz:wr.frozen? ⟨gt,kk,none⟩=false:=HN.o.told.frozenAt kk
   have htle:t≤n.fetches:=HN0.o t (List.mem_of_getElem? ht)
   have hwt:wrap64 ((t:Int)+1)=(t:Int)+1:=by unfold wrap64;omega
   have hgne:¬ g=gt:=fun e=>HN.o.parts.2.1 gt rfl e.symm
   obtain⟨wy,hwy⟩:∃ wy,wy=wr.alloc (.cells #[.string x.path,.string x.data,.bool x.fails,.int .i64 x.times] 75):=⟨_,rfl⟩
   have hby:Below w1.heap.size w1 wy:=by rw[hwy];exact hbw.trans ((below_alloc wr _).mono hbw.size)
   have hNy:=H1.o.below hby
   obtain⟨⟨y0,y1,y2,y3⟩,yf⟩:=hNy.heads
   have hoy:wy.heap[wr.heap.size]?=some (.cells #[.string x.path,.string x.data,.bool x.fails,.int .i64 x.times] 75 (0,0)):=by rw[hwy];exact heap_alloc_new wr _
   have x0:=cell_heap hoy 0 rfl
   have x1:=cell_heap hoy 1 rfl
   have x2:=cell_heap hoy 2 rfl
   have x3:=cell_heap hoy 3 rfl
   have ty:=told_cell hNy (t:=t) ht
   have hfy:wy.frozen? ⟨gt,kk,none⟩=false:=hNy.told.frozenAt kk
   have HWY:=zh hwy
   have HBY:=zh hby
   have HNY:=zh hNy
   clear t1 hfz
   have hxd:wr.heap.size<wy.heap.size:=cell_lt x0
   clear hwy hby hNy hoy
   by_cases he:x.path=p
   ·have e:(x.path.toList == p.toList)=true:=beq_str_true he
    have HE:=zh he
    clear he
    by_cases h0:0<x.times
    ·have hd0:decide (0<x.times)=true:=decide_eq_true h0
     by_cases hov:x.times≤(t:Int)
     ·have hd1:decide (x.times≤(t:Int))=true:=decide_eq_true hov
      have HOV:=zh (live_over (p:=p) HX.o HT.o h0 hov)
      clear h0 hov
      go_upto_region 5 with fail
      rw[←HWY.o]
      clear r0 r1 r2 r3 rf d1 d2 d3 d4
      go_quiet (fail)
      go_wp2
      go_roundg (n.lies.length-(kk+1))
      case measure=>omega
      case rel=>exact⟨kk+1,by omega,by omega,by go_num,below_drewN HBY.o _,HNO.o HOV.o⟩
     ·have hd1:decide (x.times≤(t:Int))=false:=decide_eq_false hov
      have HOV:=zh (live_yes HX.o HT.o HE.o (.inr hov))
      clear h0 hov
      go_upto_region 5 with fail
      rw[←HWY.o]
      clear r0 r1 r2 r3 rf d1 d2 d3 d4
      go_quiet (fail)
      obtain⟨wz,hwz⟩:∃ wz,wz=wy.drewN nq:=⟨_,rfl⟩
      rw[←hwz]
      have z0:wz.cell? ⟨g,0,none⟩=some (.pointer (some ⟨gd,0,none⟩)):=by rw[hwz];exact y0
      have z2:wz.cell? ⟨g,2,none⟩=some (.slice (some ⟨gt,0,none⟩) n.told.length ct):=by rw[hwz];exact y2
      have z3:wz.cell? ⟨g,3,none⟩=some (.int .i64 ((n.fetches:Int)+1)):=by rw[hwz];exact y3
      have zt:wz.cell? ⟨gt,kk,none⟩=some (.int .i64 t):=by rw[hwz];exact ty
      have zf:wz.frozen? ⟨gt,kk,none⟩=false:=by rw[hwz];exact hfy
      have hLV:Live w1 g gd gt (.slice (some ⟨b,off,none⟩) n.lies.length cl) (.slice (some ⟨gt,0,none⟩) n.told.length ct) n kk (t+1) x wr.heap.size (wz.setCell ⟨gt,kk,none⟩ (.int .i64 ((t:Int)+1))):=by
       rw[hwz,HWY.o]
       exact live_at HN.o hbw rfl htle hgtr nq
      have HLV:=zh hLV
      have HFR1:=zh (HF1.o.trans hLV.fr)
      have hsz1:w.heap.size≤w1.heap.size:=HF1.o.size
      clear hwz hLV y0 y1 y2 y3 yf ty hfy x0 x1 x2 x3 hgtr hgr hgne hxd htle hbr
      go_upto_region 7 with fail
      obtain⟨wt,hwt2⟩:∃ wt,wt=wz.setCell ⟨gt,kk,none⟩ (.int .i64 ((t:Int)+1)):=⟨_,rfl⟩
      rw[←hwt2] at HLV HFR1
      rw[←hwt2]
      clear hwt2
      have s1:=HLV.o.data
      have s2:=HLV.o.flag
      have sg:=HLV.o.net.heads.1.2.2.2
      have hbl:wr.heap.size<wt.heap.size:=cell_lt s1
      have hgl:g<wt.heap.size:=cell_lt sg
      have HLF:=zh (lie_found HX.o HL.o HOV.o)
      cases hfl:x.fails with
      | true=>
       rw[hfl] at s2
       have HFLAG:=zh hfl
       clear hfl
       have hcv:=fun W=>Lib.run_convert_string_bytes (P:=prog) W 9 94 5 x.data underlying9 underlying94 underlying5
       go_wp2_with fail
       have a1:wt.drew.cell? ⟨g,3,none⟩=some (.int .i64 ((n.fetches:Int)+1)):=sg
       have a2:(Lib.bytesWorld wt.drew 5 x.data).cell? ⟨g,3,none⟩=some (.int .i64 ((n.fetches:Int)+1)):=(Lib.bytesWorld_old _ _ _ _ hgl).trans sg
       have b1:wt.drew.cell? ⟨wr.heap.size,1,none⟩=some (.string x.data):=s1
       have b2:(wt.alloc (.cells #[.int .i64 ((n.fetches:Int)+1)] 366)).drew.cell? ⟨wr.heap.size,1,none⟩=some (.string x.data):=((below_alloc wt _).cell (p:=⟨wr.heap.size,1,none⟩) hbl).trans s1
       clear sg s1 s2 hbl hgl z0 z2 z3 zt zf
       go_region
       all_goals (
        go_wp2
        go_ret2
        have hBA:Below wt.heap.size wt (Lib.bytesWorld wt.drew 5 x.data):=(below_drew wt).trans (bw_below wt.drew _)
        have hBB:Below wt.heap.size wt (wt.alloc (.cells #[.int .i64 ((n.fetches:Int)+1)] 366)).drew:=(below_alloc wt _).drew
        first
         | exact lie_fails HLV.o.net HFR1.o HLF.o HT.o HX.o HFLAG.o (hBA.alloc hBA.size _)
         | exact lie_fails HLV.o.net HFR1.o HLF.o HT.o HX.o HFLAG.o (hBB.trans ((bw_below _ _).mono hBB.size)))
      | false=>
       rw[hfl] at s2
       have HFLAG:=zh hfl
       clear hfl
       go_wp2_with (refine wpList_sb rfl _ _ _ _ rfl underlying9 underlying94 underlying5 rfl _ rfl ?_;rintro v' w3 h1 h2 h3 ⟨b',c',h4⟩;have H1:=zh h1;have H2:=zh h2;subst h4;clear h1 h2 h3)
       go_ret2
       exact⟨by rw[fetchN_lie HLF.o HT.o];exact HLV.o.net.below H2.o,HFR1.o.trans (Fr.ofBelow H2.o),_,_,rfl,.inl ⟨_,by rw[fetchA_lie HLF.o HX.o,HFLAG.o];rfl,rfl,H1.o.mono (Nat.le_trans hsz1 HLV.o.fr.size),_,_,_,rfl⟩⟩
    ·have hd0:decide (0<x.times)=false:=decide_eq_false h0
     have HOV:=zh (live_yes HX.o HT.o HE.o (.inl h0))
     clear h0
     go_upto_region 5 with fail
     rw[←HWY.o]
     clear r0 r1 r2 r3 rf d1 d2 d3 d4
     go_quiet (fail)
     obtain⟨wz,hwz⟩:∃ wz,wz=wy.drewN nq:=⟨_,rfl⟩
     rw[←hwz]
     have z0:wz.cell? ⟨g,0,none⟩=some (.pointer (some ⟨gd,0,none⟩)):=by rw[hwz];exact y0
     have z2:wz.cell? ⟨g,2,none⟩=some (.slice (some ⟨gt,0,none⟩) n.told.length ct):=by rw[hwz];exact y2
     have z3:wz.cell? ⟨g,3,none⟩=some (.int .i64 ((n.fetches:Int)+1)):=by rw[hwz];exact y3
     have zt:wz.cell? ⟨gt,kk,none⟩=some (.int .i64 t):=by rw[hwz];exact ty
     have zf:wz.frozen? ⟨gt,kk,none⟩=false:=by rw[hwz];exact hfy
     have hLV:Live w1 g gd gt (.slice (some ⟨b,off,none⟩) n.lies.length cl) (.slice (some ⟨gt,0,none⟩) n.told.length ct) n kk (t+1) x wr.heap.size (wz.setCell ⟨gt,kk,none⟩ (.int .i64 ((t:Int)+1))):=by
      rw[hwz,HWY.o]
      exact live_at HN.o hbw rfl htle hgtr nq
     have HLV:=zh hLV
     have HFR1:=zh (HF1.o.trans hLV.fr)
     have hsz1:w.heap.size≤w1.heap.size:=HF1.o.size
     clear hwz hLV y0 y1 y2 y3 yf ty hfy x0 x1 x2 x3 hgtr hgr hgne hxd htle hbr
     go_upto_region 7 with fail
     obtain⟨wt,hwt2⟩:∃ wt,wt=wz.setCell ⟨gt,kk,none⟩ (.int .i64 ((t:Int)+1)):=⟨_,rfl⟩
     rw[←hwt2] at HLV HFR1
     rw[←hwt2]
     clear hwt2
     have s1:=HLV.o.data
     have s2:=HLV.o.flag
     have sg:=HLV.o.net.heads.1.2.2.2
     have hbl:wr.heap.size<wt.heap.size:=cell_lt s1
     have hgl:g<wt.heap.size:=cell_lt sg
     have HLF:=zh (lie_found HX.o HL.o HOV.o)
     cases hfl:x.fails with
     | true=>
      rw[hfl] at s2
      have HFLAG:=zh hfl
      clear hfl
      have hcv:=fun W=>Lib.run_convert_string_bytes (P:=prog) W 9 94 5 x.data underlying9 underlying94 underlying5
      go_wp2_with fail
      have a1:wt.drew.cell? ⟨g,3,none⟩=some (.int .i64 ((n.fetches:Int)+1)):=sg
      have a2:(Lib.bytesWorld wt.drew 5 x.data).cell? ⟨g,3,none⟩=some (.int .i64 ((n.fetches:Int)+1)):=(Lib.bytesWorld_old _ _ _ _ hgl).trans sg
      have b1:wt.drew.cell? ⟨wr.heap.size,1,none⟩=some (.string x.data):=s1
      have b2:(wt.alloc (.cells #[.int .i64 ((n.fetches:Int)+1)] 366)).drew.cell? ⟨wr.heap.size,1,none⟩=some (.string x.data):=((below_alloc wt _).cell (p:=⟨wr.heap.size,1,none⟩) hbl).trans s1
      clear sg s1 s2 hbl hgl z0 z2 z3 zt zf
      go_region
      all_goals (
       go_wp2
       go_ret2
       have hBA:Below wt.heap.size wt (Lib.bytesWorld wt.drew 5 x.data):=(below_drew wt).trans (bw_below wt.drew _)
       have hBB:Below wt.heap.size wt (wt.alloc (.cells #[.int .i64 ((n.fetches:Int)+1)] 366)).drew:=(below_alloc wt _).drew
       first
        | exact lie_fails HLV.o.net HFR1.o HLF.o HT.o HX.o HFLAG.o (hBA.alloc hBA.size _)
        | exact lie_fails HLV.o.net HFR1.o HLF.o HT.o HX.o HFLAG.o (hBB.trans ((bw_below _ _).mono hBB.size)))
     | false=>
      rw[hfl] at s2
      have HFLAG:=zh hfl
      clear hfl
      go_wp2_with (refine wpList_sb rfl _ _ _ _ rfl underlying9 underlying94 underlying5 rfl _ rfl ?_;rintro v' w3 h1 h2 h3 ⟨b',c',h4⟩;have H1:=zh h1;have H2:=zh h2;subst h4;clear h1 h2 h3)
      go_ret2
      exact⟨by rw[fetchN_lie HLF.o HT.o];exact HLV.o.net.below H2.o,HFR1.o.trans (Fr.ofBelow H2.o),_,_,rfl,.inl ⟨_,by rw[fetchA_lie HLF.o HX.o,HFLAG.o];rfl,rfl,H1.o.mono (Nat.le_trans hsz1 HLV.o.fr.size),_,_,_,rfl⟩⟩
   ·have e:(x.path.toList == p.toList)=false:=beq_str_false he
    have HE:=zh he
    clear he
    go_upto_region 5 with fail
    rw[←HWY.o]
    clear r0 r1 r2 r3 rf d1 d2 d3 d4
    go_quiet (fail)
    go_wp2
    go_roundg (n.lies.length-(kk+1))
    case measure=>omega
    case rel=>exact⟨kk+1,by omega,by omega,by go_num,below_drewN HBY.o _,HNO.o (live_path HX.o HE.o)⟩
  ·have hltz:¬ (kk:Int)<(n.lies.length:Int):=by omega
   have hz:lieOf n p=none:=by
    rw[←HL.o,show n.lies.length-kk=0 by omega]
    rfl
   have HZ:=zh hz
   clear hz
   have hdr:=HD.o.below hbw
   have HDR:=zh hdr
   have hfc:=find_any wr gd v d hdr p
   have HN1:=zh (fetchN_none HZ.o)
   have HFR:=zh (HF1.o.trans (Fr.ofBelow hbw))
   have hszr:w.heap.size≤wr.heap.size:=Nat.le_trans HF1.o.size hbw.size
   by_cases hf:findN d.files p<d.files.length
   ·have hF:findF d.files p=findN d.files p:=by unfold findF;rw[if_pos hf]
    rw[hF] at hfc
    obtain⟨x,hx⟩:∃ x,x=d.files[findN d.files p]'hf:=⟨_,rfl⟩
    have hxj:d.files[findN d.files p]?=some x:=by rw[hx,List.getElem?_eq_getElem hf]
    have hgf:getF d.files p=some x.2:=by rw[getF_hit hf,hx]
    obtain⟨j,hj⟩:∃ j,j=findN d.files p:=⟨_,rfl⟩
    rw[←hj] at hfc hf hxj
    have hjz:(0:Int)≤(j:Int):=by omega
    have hjl:(j:Int)<(d.files.length:Int):=by omega
    have HX:=zh hxj
    have HG:=zh hgf
    clear hj hF hx hxj hgf hdr
    go_wp2_with (first|(go_at_call 64;refine hfc.mono ?_;rintro e w2 ⟨rfl,hb2⟩;have HB2:=zh hb2;have hd2:=HDR.o.below hb2;have HD2:=zh hd2;have q0:=(hb2.cell (p:=⟨g,0,none⟩) (cell_lt r0)).trans r0;have c0:=hd2.cells.1.1;obtain⟨bk,cap,rfl,hbl,hbg,_,c1⟩:=hd2.data (j:=j) (x:=x) HX.o;clear hb2 hd2)|(refine wpList_sb rfl _ _ _ _ rfl underlying9 underlying94 underlying5 rfl _ rfl ?_;rintro v' w3 h1 h2 h3 ⟨b',c',h4⟩;have H1:=zh h1;have H2:=zh h2;subst h4;clear h1 h2 h3))
    go_ret2
    have hbf:=HB2.o.trans (H2.o.mono HB2.o.size)
    exact⟨by rw[HN1.o];exact HN.o.below hbf,HFR.o.trans (Fr.ofBelow hbf),_,_,rfl,.inl ⟨_,by rw[fetchA_none HZ.o,←HFL.o,HG.o];rfl,rfl,H1.o.mono (Nat.le_trans hszr HB2.o.size),_,_,_,rfl⟩⟩
   ·have hF:findF d.files p = -1:=by unfold findF;rw[if_neg hf]
    have hgf:=getF_miss hf
    rw[hF] at hfc
    have HG:=zh hgf
    clear hF hgf hf hdr
    go_wp2_with (go_at_call 64;refine hfc.mono ?_;rintro e w2 ⟨rfl,hb2⟩;have HB2:=zh hb2;have q3:=(hb2.cell (p:=⟨g,3,none⟩) (cell_lt r3)).trans r3;clear hb2)
    go_region
    all_goals (
     go_wp2
     go_ret2
     have hbf:=HB2.o.trans (((below_alloc w2 (.cells #[.int .i64 ((n.fetches:Int)+1)] 366)).drew).mono HB2.o.size)
     exact⟨by rw[HN1.o];exact HN.o.below hbf,HFR.o.trans (Fr.ofBelow hbf),_,_,rfl,.inr ⟨by rw[fetchA_none HZ.o,←HFL.o,HG.o];rfl,⟨_,rfl⟩,_,_,_,rfl⟩⟩)
end
end Go.Proofs.YtefccfakhgdfbabGreatDoor
