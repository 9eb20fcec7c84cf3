/- (*Log).grow: a leaf more; hashes of higher levels that are whole then. Conditions: fewer than 2^40 hashes on each level, fewer than 2^20 levels. -/
import Derived.Test.YtefccfakhgdfbabGreatDoorRd13
set_option linter.unusedVariables false
set_option linter.unusedSimpArgs false
open Go.RowKit Go.Proofs.Tryz
set_option maxRecDepth 100000
set_option maxHeartbeats 4000000
namespace Go.Proofs.YtefccfakhgdfbabGreatDoor
section
theorem Qrb:∀ (hs:List Hsh) (i:Nat) (x:Hsh),hs[i]?=some x→∀ c,(hc:c<8)→(hs.flatMap fun h=>(h8 h).toList)[i*8+c]?=some (u8 x[c])
 | [],i,x,h,c,hc=>by simp at h
 | a :: hs,0,x,h,c,hc=>by
   simp at h
   subst h
   rw[List.flatMap_cons,List.getElem?_append_left (by simp;omega)]
   simp[h8,hc]
 | a :: hs,i+1,x,h,c,hc=>by
   rw[List.flatMap_cons,List.getElem?_append_right (by simp;omega)]
   have:=Qrb hs i x (by simpa using h) c hc
   rw[show (i+1)*8+c-(h8 a).toList.length=i*8+c by simp;omega]
   exact this
theorem Q8 {w:World} {g n c':Nat} {hs:List Hsh} (h:w.ownsRow 0 109 8 (.slice (some ⟨g,0,none⟩) n c') hs.length (hs.flatMap fun h=>(h8 h).toList)) {i:Nat} {x:Hsh} (hx:hs[i]?=some x) (c:Nat) (hc:c<8):w.cell? ⟨g,i*8+c,none⟩=some (u8 x[c]):=by have h1:=h.cells (g:=g) rfl (i*8+c) _ (Qrb hs i x hx c hc);rw[Addr.add_lit] at h1;simpa using h1
end
section
theorem Qlo (m n:Nat) (whole:Option Hsh):roots m n whole []=if m=n then whole.map fun a=>(a,a) else none:=by simp[roots,Qmf]
theorem Qg5 (m n:Nat) (whole:Option Hsh) (q:List Hsh) (r:Hsh):roots m n whole (q ++ [r])=if m=n then (match whole with|some _=>none|none=>if q = [] then some (r,r) else none)
   else if m≤below n then (roots m (below n) whole q).map fun x=>(x.1,Z0 x.2 r) else (roots (m-below n) (n-below n) none q).map fun x=>(Z0 r x.1,Z0 r x.2):=by
 unfold roots below;rw[List.reverse_append];simp only[List.reverse_cons,List.reverse_nil,List.nil_append,List.singleton_append,Qmf];cases whole <;> simp
def Qmv (w:World) (v:Value) (whole:Option Hsh):Prop:=(v=.pointer none∧whole=none)∨∃ g h,v=.pointer (some ⟨g,0,none⟩)∧whole=some h∧Qu w g h
def Qei (m n:Nat) (whole:Option Hsh) (p:List Hsh) (w:World) (e:Ending) (w':World):Prop:=
 ∃ x y:Hsh,e=.returned (.tuple #[.agg (h8 x),.agg (h8 y),.bool (roots m n whole p).isSome])∧(∀ z,roots m n whole p=some z→(x,y)=z)∧Below w.heap.size w w'
variable {w:World} {g:Nat}
theorem Qs {h:Hsh} (hh:Qu w g h) (j:Nat) (hj:j<8):w.cell? ⟨g,j,none⟩=some (u8 h[j]):=by unfold Qu at hh;simp[World.cell?,hh,h8,hj]
theorem Qci {cs:Array Value} {b o:Nat} (h:b≠g):(w.setRow g cs).cell? ⟨b,o,none⟩=w.cell? ⟨b,o,none⟩:=cell_setRow_other w g cs ⟨b,o,none⟩ h
section
attribute [local go_sem] h8_0 h8_1 h8_2 h8_3 h8_4 h8_5 h8_6 h8_7 Qbg h8_size Qci Qax
theorem Qms (m:Nat) (a:Hsh) (p:List Hsh):roots m m (some a) p=if p.length=0 then some (a,a) else none:=by
 rcases List.eq_nil_or_concat p with rfl|⟨q,r,rfl⟩
 ·simp[Qlo]
 ·rw[List.concat_eq_append] at *
  rw[Qg5,if_pos rfl];simp
theorem Qsc (m:Nat) (r:Hsh):roots m m none [r]=some (r,r):=by
 have:=Qg5 m m none [] r
 simpa using this
theorem Qul (m:Nat) (p:List Hsh) (h:p.length≠1):roots m m none p=none:=by
 rcases List.eq_nil_or_concat p with rfl|⟨q,r,rfl⟩
 ·simp[Qlo]
 ·rw[List.concat_eq_append] at *
  rw[Qg5,if_pos rfl]
  have:q≠[]:=by intro e;subst e;simp at h
  simp[this]
theorem Quw (w:World):Below w.heap.size w (((w.alloc (.cells zc 109)).alloc (.cells zc 109)).drew):=((Qa w _).alloc (by simp) _).drew
theorem Qpi {v:Value} {p:List Hsh} (h:Qbs w v p):∃ a c,v=.slice a p.length c:=by obtain⟨a,c,h1,_⟩:=h;exact⟨a,c,h1⟩
theorem Qki (m:Int) (g:Nat) (h:Hsh) (v:Value) (p:List Hsh) (w:World) (hp:Qbs w v p) (hh:Qu w g h) :
  Calls prog 144 #[.int .i64 m,.int .i64 m,v,.pointer (some ⟨g,0,none⟩)] w (Qei m.toNat m.toNat (some h) p w):=by
 obtain⟨a,c,rfl⟩:=Qpi hp;clear hp;have c0:=Qs hh 0 (by decide);have c1:=Qs hh 1 (by decide);have c2:=Qs hh 2 (by decide);have c3:=Qs hh 3 (by decide);have c4:=Qs hh 4 (by decide);have c5:=Qs hh 5 (by decide);have c6:=Qs hh 6 (by decide);have c7:=Qs hh 7 (by decide);have hg:g<w.heap.size:=Qk c0;have hg1:g<w.heap.size+1:=by omega
 have hn1:g≠w.heap.size:=by omega
 have hn2:g≠w.heap.size+1:=by omega
 have i1:Is8 (((w.alloc (.cells zc 109)).alloc (.cells zc 109)).drew) w.heap.size:=⟨zero8,Qo (Qp (Qe rfl) _)⟩
 have i2:Is8 (((w.alloc (.cells zc 109)).alloc (.cells zc 109)).drew) (w.heap.size+1):=⟨zero8,Qo (Qe (by simp))⟩
 have i3:Is8 ((((w.alloc (.cells zc 109)).alloc (.cells zc 109)).drew).setRow w.heap.size (h8 h)) (w.heap.size+1):=⟨zero8,Qi (Qo (Qe (by simp))) _ (by omega)⟩
 have i4:Is8 ((((w.alloc (.cells zc 109)).alloc (.cells zc 109)).drew).setRow (w.heap.size+1) (h8 h)) w.heap.size:=⟨zero8,Qi (Qo (Qp (Qe rfl) _)) _ (by omega)⟩
 have hl:((p.length:Int) == 0)=decide (p.length=0):=by rw[Bool.eq_iff_iff];simp
 have HL:=zh hl;clear hl
 go_enter func144,ntmps144
 go_wp2_with fail
 go_region;go_wp2;refine ret88t w.heap.size (w.heap.size+1) h h (.bool ((p.length:Int) == 0)) rfl rfl rfl rfl _ underlying109 info8 (Qi (Qj i1 _) _ (by omega)) (Qj i3 _) rfl ⟨h,h,?_,?_,below_setRow (below_setRow (Quw w) (Nat.le_refl _) _) (by omega) _⟩
 ·rw[Qms,HL.o]
  by_cases h0:p.length=0 <;> simp[h0]
 ·intro z hz
  rw[Qms] at hz
  split at hz
  ·cases hz;rfl
  ·cases hz
theorem Qxe (m:Int) (r:Hsh) (v:Value) (w:World) (hp:Qbs w v [r]) :
  Calls prog 144 #[.int .i64 m,.int .i64 m,v,.pointer none] w (Qei m.toNat m.toNat none [r] w):=by
 obtain⟨a,c,rfl⟩:=Qpi hp;obtain⟨g,off,rfl,hcap,hcell,_⟩:=Qhp (q:=[]) (m:=0) hp rfl;simp only[Nat.zero_mul,Nat.add_zero] at hcell;have c0:w.cell? ⟨g,off,none⟩=some (u8 r[0]):=hcell 0 (by decide);have c1:=hcell 1 (by decide);have c2:=hcell 2 (by decide);have c3:=hcell 3 (by decide);have c4:=hcell 4 (by decide);have c5:=hcell 5 (by decide);have c6:=hcell 6 (by decide);have c7:=hcell 7 (by decide);have hg:g<w.heap.size:=Qk c0;have hg1:g<w.heap.size+1:=by omega
 have hn1:g≠w.heap.size:=by omega
 have hn2:g≠w.heap.size+1:=by omega
 have i1:Is8 (((w.alloc (.cells zc 109)).alloc (.cells zc 109)).drew) w.heap.size:=⟨zero8,Qo (Qp (Qe rfl) _)⟩
 have i2:Is8 (((w.alloc (.cells zc 109)).alloc (.cells zc 109)).drew) (w.heap.size+1):=⟨zero8,Qo (Qe (by simp))⟩
 have i3:Is8 ((((w.alloc (.cells zc 109)).alloc (.cells zc 109)).drew).setRow w.heap.size (h8 r)) (w.heap.size+1):=⟨zero8,Qi (Qo (Qe (by simp))) _ (by omega)⟩
 have i4:Is8 ((((w.alloc (.cells zc 109)).alloc (.cells zc 109)).drew).setRow (w.heap.size+1) (h8 r)) w.heap.size:=⟨zero8,Qi (Qo (Qp (Qe rfl) _)) _ (by omega)⟩
 clear hcell hp
 go_enter func144,ntmps144
 go_wp2_with fail
 go_region;go_wp2;refine ret88t w.heap.size (w.heap.size+1) r r (.bool true) rfl rfl rfl rfl _ underlying109 info8 (Qi (Qj i1 _) _ (by omega)) (Qj i3 _) rfl ⟨r,r,by rw[Qsc];rfl,?_,below_setRow (below_setRow (Quw w) (Nat.le_refl _) _) (by omega) _⟩;intro z hz;rw[Qsc] at hz;cases hz;rfl
theorem Qmr (m n:Int) (pv:Value) (whole:Option Hsh) (v:Value) (p:List Hsh) (w:World) (hp:Qbs w v p) (hw:Qmv w pv whole) (hmn:m≤n) (hno:(m=n∧whole=none∧p.length≠1)∨(m≠n∧p = [])) (hm1:1≤m) :
  Calls prog 144 #[.int .i64 m,.int .i64 n,v,pv] w (Qei m.toNat n.toNat whole p w):=by
 obtain⟨a,c,rfl⟩:=Qpi hp;have hroots:roots m.toNat n.toNat whole p=none:=by
  rcases hno with ⟨rfl,rfl,h⟩|⟨h,rfl⟩
  ·exact Qul _ _ h
  ·rw[Qlo,if_neg (by omega)]
 have HR:=zh hroots;clear hroots hp;have fin:∀ (a:Act) ,a.tmps.getD 8 undef=.pointer (some ⟨w.heap.size,0,none⟩)→a.tmps.getD 9 undef=.pointer (some ⟨w.heap.size+1,0,none⟩)→a.tmps.getD 10 undef=.bool false→a.defers = []→
   bodyPost prog f144 (Qei m.toNat n.toNat whole p w) .ret a (((w.alloc (.cells zc 109)).alloc (.cells zc 109)).drew):=fun a h1 h2 h3 h4=>
  ret88t w.heap.size (w.heap.size+1) zero8 zero8 (.bool false) rfl h1 h2 h3 _ underlying109 info8 (Qo (Qp (Qe rfl) _)) (Qo (Qe (by simp))) h4
   ⟨zero8,zero8,by rw[HR.o];rfl,fun z hz=>(by rw[HR.o] at hz;cases hz),Quw w⟩
 have FIN:=zh fin;clear fin;rcases hno with ⟨rfl,rfl,h⟩|⟨h,rfl⟩
 ·obtain rfl:pv=.pointer none:=by rcases hw with ⟨rfl,_⟩|⟨_,_,_,h,_⟩ <;> first|rfl|cases h
  have d1:((p.length:Int) == 1)=false:=by rw[beq_eq_false_iff_ne];omega
  go_enter func144,ntmps144
  go_wp2_with fail
  go_region;go_wp2;exact FIN.o _ rfl rfl rfl rfl
 ·have d1:(m == n)=false:=by rw[beq_eq_false_iff_ne];exact h
  clear hw
  go_enter func144,ntmps144
  go_wp2_with fail
  go_region;go_wp2;exact FIN.o _ rfl rfl rfl rfl
end
end
section
theorem Q25 {es:List (List UInt8)} (i k:Nat) (hk:k≤4) (hk0:0<k) (hi:i<es.length) (hke:k=min 4 (es.length-i)) (hs:∀ e∈es,e.length≤20):Yj ((es.drop i).take k)=some (((es.map encE).drop i).take 4).flatten:=by
 have hl:((es.drop i).take k).length=k:=by rw[List.length_take,List.length_drop];omega
 rw[Qne (by omega) (by omega) fun l hl=>hs l (List.mem_of_mem_drop (List.mem_of_mem_take hl)),List.map_take,List.map_drop]
 congr 2
 rcases Nat.lt_or_ge (es.length-i) 4 with h|h
 ·rw[List.take_of_length_le (i:=k) (by rw[List.length_drop,List.length_map];omega),List.take_of_length_le (i:=4) (by rw[List.length_drop,List.length_map];omega)]
 ·rw[show k=4 by omega]
theorem Q3e (w:World) (g gd:Nat) (ve vl vp:Value) (vs:List Value) (L:Lg) (h:Zn w g gd ve vl vp vs L) (pl:Nat) (hpl:w.cell? ⟨pl,0,none⟩=some (.pointer (some ⟨g,0,none⟩))) (j:Nat) (hj:4*j<L.entries.length) (hn:L.entries.length≤1048576) (hs:∀ e∈L.entries,e.length≤20) :
  Calls prog 78 #[.int .i64 (4*(j:Int)),.int .i64 (4*(j:Int)+((min 4 (L.entries.length-4*j):Nat):Int)),.pointer (some ⟨pl,0,none⟩)] w fun e w2=>∃ vb,e=.returned vb∧Q6 w2 vb (((L.entries.map encE).drop (4*j)).take 4).flatten∧Below w.heap.size w w2:=by
 obtain⟨⟨_,_,c2,_,_,_⟩,_⟩:=h.heads;obtain⟨vsr,hrow,hrb⟩:=h.ents;obtain⟨b,cp,rfl,hcp⟩:∃ b cp,ve=.slice (some ⟨b,0,none⟩) L.entries.length cp∧L.entries.length≤cp:=by
  rcases hrow.2 with ⟨_,h0⟩|⟨b,cap,cur,e,_,_,hnc,_⟩
  ·omega
  ·exact⟨b,cap,e,hnc⟩
 obtain⟨k,hk⟩:∃ k,k=min 4 (L.entries.length-4*j):=⟨_,rfl⟩
 rw[←hk];have hvl:vsr.length=L.entries.length:=by simpa using hrow.1
 have hl:((L.entries.drop (4*j)).take k).length=k:=by rw[List.length_take,List.length_drop];omega
 have hb:Qes w (.slice (some ⟨b,4*j,none⟩) k (cp-4*j)) ((L.entries.drop (4*j)).take k):=by
  refine⟨(vsr.drop (4*j)).take k,by rw[hl,List.length_take,List.length_drop];omega,⟨some ⟨b,4*j,none⟩,cp-4*j,by rw[hl],by rw[hl];omega,fun i x hx=>⟨b,4*j,rfl,?_⟩⟩,fun i u l hu hx=>?_⟩
  ·have hik:i<k:=by have:=(List.getElem?_eq_some_iff.1 hx).1;rw[List.length_take] at this;omega
   rw[List.getElem?_take_of_lt hik,List.getElem?_drop] at hx;have h1:=hrow.cells (g:=b) rfl (4*j+i) x hx;rw[Addr.add_lit] at h1;simpa using h1
  ·have hik:i<k:=by have:=(List.getElem?_eq_some_iff.1 hx).1;rw[hl] at this;exact this
   rw[List.getElem?_take_of_lt hik,List.getElem?_drop] at hu hx;exact (hrb (4*j+i) u l hu hx).at
 have hcon:=Qnp _ _ w hb (by rw[hl];omega);have hflat:=Q25 (es:=L.entries) (4*j) k (by omega) (by omega) hj hk hs;obtain⟨ln,hln⟩:∃ ln,ln=L.entries.length:=⟨_,rfl⟩
 rw[←hln] at c2 hcp hk hj;have HFL:=zh hflat;have hs1:(0:Int)≤4*(j:Int):=by omega
 have hs2:4*(j:Int)≤4*(j:Int)+(k:Int):=by omega
 have hs3:4*(j:Int)+(k:Int)≤(cp:Int):=by omega
 have ht1:(4*(j:Int)).toNat=4*j:=by omega
 have ht2:(4*(j:Int)+(k:Int)).toNat=4*j+k:=by omega
 have ht3:4*j+k-4*j=k:=by omega
 have ht4:¬ cp=4*j:=by omega
 have HCON:=zh hcon;clear h hrow hrb hvl hl hb hcon hflat hk hln hj
 go_enter func78,ntmps78
 go_wp2_with fail
 refine HCON.o.mono ?_;rintro e w2 ⟨v',rfl,hb2,h2⟩;have HB2:=zh hb2;have H2:=zh h2;clear hb2 h2
 go_wp2_with fail
 go_ret;rcases H2.o with ⟨h3,_⟩|⟨l,h3,ho,_⟩
 ·rw[HFL.o] at h3;cases h3
 ·rw[HFL.o] at h3
  cases h3;exact⟨_,rfl,ho.at,HB2.o⟩
theorem Qxh {w:World} {g:Nat} {x:Hsh} (h:Qu w g x):Q6 w (.slice (some ⟨g,0,none⟩) 8 8) x.toList:=by
 unfold Q6;refine⟨_,8,by simp,by simp,fun j y hy=>⟨g,0,rfl,?_⟩⟩;have hj:j<8:=by have:=(List.getElem?_eq_some_iff.1 hy).1;simpa using this
 rw[show (x.toList.map u8)[j]?=some (u8 x[j]) by simp[hj]] at hy;cases hy;rw[Nat.zero_add];exact Qs h j hj
theorem Q5u (y:Hsh):Array.foldl (fun (cs:Array Value) (x:Value×Nat)=>cs.setIfInBounds x.snd x.fst) zc (h8 y).zipIdx 0 8=h8 y:=by rw[←Qbg y];simp
section
attribute [local go_sem] h8_0 h8_1 h8_2 h8_3 h8_4 h8_5 h8_6 h8_7 Qbg h8_size Qax Q5u
theorem Q4n (w:World) (ph:Nat) (vh:Value) (hs:List Hsh) (hcell:w.cell? ⟨ph,0,none⟩=some vh) (hh:Qcu w 0 vh hs) (j:Nat) (hj:4*j<hs.length) (hn:hs.length≤1048576) :
  Calls prog 80 #[.int .i64 (4*(j:Int)),.int .i64 (4*(j:Int)+((min 4 (hs.length-4*j):Nat):Int)),.pointer (some ⟨ph,0,none⟩)] w fun e w2=>∃ vb,e=.returned vb∧Q6 w2 vb (((hs.map fun (h:Hsh)=>h.toList).drop (4*j)).take 4).flatten∧Below w.heap.size w w2:=by
 obtain⟨b,cp,rfl,hcp⟩:∃ b cp,vh=.slice (some ⟨b,0,none⟩) hs.length cp∧hs.length≤cp:=by
  rcases hh.2 with ⟨_,h0⟩|⟨b,cap,cur,e,_,_,hnc,_⟩
  ·omega
  ·exact⟨b,cap,e,hnc⟩
 obtain⟨k,hk⟩:∃ k,k=min 4 (hs.length-4*j):=⟨_,rfl⟩
 rw[←hk];obtain⟨ln,hln⟩:∃ ln,ln=hs.length:=⟨_,rfl⟩
 have HH:=zh hh;rw[←hln] at hcell hcp hk hj;have hs1:(0:Int)≤4*(j:Int):=by omega
 have hs2:4*(j:Int)≤4*(j:Int)+(k:Int):=by omega
 have hs3:4*(j:Int)+(k:Int)≤(cp:Int):=by omega
 have ht1:(4*(j:Int)).toNat=4*j:=by omega
 have ht2:(4*(j:Int)+(k:Int)).toNat=4*j+k:=by omega
 have ht3:4*j+k-4*j=k:=by omega
 have ht4:¬ cp=4*j:=by omega
 have hk4:k≤4:=by omega
 have HK:=zh hk;have HLN:=zh hln;have HJ:=zh hj;obtain⟨i0,hi,hz0,hz1,hz2⟩:=info_parts Qj8;have HI:=zh (⟨hi,hz0,hz1,hz2⟩:_∧_∧_∧_);clear hh hk hln hj hi hz0 hz1 hz2 hcp
 go_enter func80,ntmps80
 go_wp2_with fail
 go_loopg [5,13] k (fun gg s5 s13 wr=>∃ i:Nat,i≤k∧k-i≤gg∧s13=.int .i64 i∧∃ bs:List UInt8,Aside (bs=((hs.drop (4*j)).take i).flatMap fun (h:Hsh)=>h.toList)∧Aside (wr.ownsRow w.heap.size 5 1 s5 bs.length (bs.map u8))∧Aside (Below w.heap.size w wr))
 case atStart=>exact⟨0,by omega,by omega,rfl,[],rfl,World.ownsRow_nil _ _ _ _,Below.refl _ _⟩
 case round=>
  obtain⟨i,hi,hgg,rfl,bs,HBS,HR,HB⟩:=hrel;by_cases hlt:i<k
  ·have hltz:(i:Int)<(k:Int):=by omega
   have hi0:(0:Int)≤(i:Int):=by omega
   obtain⟨x,hx⟩:∃ x,hs[4*j+i]?=some x:=⟨_,List.getElem?_eq_getElem (by have:=HK.o;have:=HLN.o;have:=HJ.o;omega)⟩
   have kc:∀ c (hc:c<8),wr.cell? ⟨b,4*j*8+i*8+c,none⟩=some (Go.Proofs.YtefccfakhgdfbabGreatDoor.u8 x[c]):=fun c hc=>by have h1:=Q8 HH.o hx c hc;rw[show (4*j+i)*8+c=4*j*8+i*8+c by omega] at h1;exact (HB.o.cell (p:=⟨b,4*j*8+i*8+c,none⟩) (Qk h1)).trans h1
   have k0:wr.cell? ⟨b,4*j*8+i*8,none⟩=some (Go.Proofs.YtefccfakhgdfbabGreatDoor.u8 x[0]):=kc 0 (by decide);have k1:wr.cell? ⟨b,4*j*8+i*8+1,none⟩=some (Go.Proofs.YtefccfakhgdfbabGreatDoor.u8 x[1]):=kc 1 (by decide);have k2:wr.cell? ⟨b,4*j*8+i*8+2,none⟩=some (Go.Proofs.YtefccfakhgdfbabGreatDoor.u8 x[2]):=kc 2 (by decide);have k3:wr.cell? ⟨b,4*j*8+i*8+3,none⟩=some (Go.Proofs.YtefccfakhgdfbabGreatDoor.u8 x[3]):=kc 3 (by decide);have k4:wr.cell? ⟨b,4*j*8+i*8+4,none⟩=some (Go.Proofs.YtefccfakhgdfbabGreatDoor.u8 x[4]):=kc 4 (by decide);have k5:wr.cell? ⟨b,4*j*8+i*8+5,none⟩=some (Go.Proofs.YtefccfakhgdfbabGreatDoor.u8 x[5]):=kc 5 (by decide);have k6:wr.cell? ⟨b,4*j*8+i*8+6,none⟩=some (Go.Proofs.YtefccfakhgdfbabGreatDoor.u8 x[6]):=kc 6 (by decide);have k7:wr.cell? ⟨b,4*j*8+i*8+7,none⟩=some (Go.Proofs.YtefccfakhgdfbabGreatDoor.u8 x[7]):=kc 7 (by decide);have HX:=zh hx;have hin:Is8 (wr.alloc (.cells zc 109)) wr.heap.size:=Q9 rfl;have hst:Qu ((wr.alloc (.cells zc 109)).setRow wr.heap.size (h8 x)) wr.heap.size x:=Qj hin x;have hbl:bs.length≤1099511627776:=by rw[HBS.o];have h1:=Qel (((hs.drop (4*j)).take i).map fun (h:Hsh)=>h.toList) 8 (fun y hy=>by obtain⟨z,_,rfl⟩:=List.mem_map.1 hy;simp);rw[←List.flatMap_def,List.length_map,List.length_take] at h1;omega
   have hbw:Below wr.heap.size wr ((wr.alloc (.cells zc 109)).setRow wr.heap.size (h8 x)):=below_setRow (Qa wr _) (Nat.le_refl _) _;have HST:=zh hst;have HBW:=zh hbw;have hsz:w.heap.size≤((wr.alloc (.cells zc 109)).setRow wr.heap.size (h8 x)).heap.size:=Nat.le_trans HB.o.size hbw.size;have HSZ:=zh hsz;have HRW:=zh (Qn HR.o hbw);clear hx kc hst hbw hsz
   go_wp2_with (at_builtin;refine Qhk rfl _ _ 94 rfl w.heap.size i0 underlying94 HI.o.1 HI.o.2.1 HI.o.2.2.1 HI.o.2.2.2 _ bs.length (bs.map Go.Proofs.YtefccfakhgdfbabGreatDoor.u8) rfl HRW.o _ x.toList rfl (Qxh HST.o) hbl (by simp) HSZ.o ?_;intro v' w' h2 h3 h4;have H2:=zh h2;have H3:=zh h3;clear h2 h3 h4)
   go_roundg (k-(i+1))
   case measure=>omega
   case rel=>
    refine⟨i+1,by omega,by omega,by go_num,bs++x.toList,?_,?_,?_⟩
    ·show bs++x.toList=_
     rw[List.take_add_one,List.getElem?_drop,HX.o,HBS.o,List.flatMap_append];simp
    ·have h1:=H2.o
     rw[List.length_append,List.map_append];rw[show x.toList.length=8 by simp] at h1 ⊢;exact h1
    ·exact (HB.o.trans (HBW.o.mono HB.o.size)).grown H3.o HSZ.o (fun k hk=>(HR.o.lt k hk).1)
  ·have hltz:¬ (i:Int)<(k:Int):=by omega
   have hik:i=k:=by omega
   have HIK:=zh hik;clear hik
   go_wp2_with fail
   go_ret;refine⟨_,rfl,?_,HB.o⟩;have h1:=(Qe4 HR.o).at;have e:bs=(((hs.map fun (h:Hsh)=>h.toList).drop (4*j)).take 4).flatten:=by
    have hl:(hs.drop (4*j)).length=ln-4*j:=by rw[List.length_drop,HLN.o]
    rw[HBS.o,HIK.o,←List.map_drop,←List.map_take,List.flatMap_def]
    congr 2
    rcases Nat.lt_or_ge (ln-4*j) 4 with h|h
    ·rw[List.take_of_length_le (i:=k) (by have:=HK.o;omega),List.take_of_length_le (i:=4) (by omega)]
    ·rw[show k=4 by have:=HK.o;omega]
   rw[←e];exact h1
end
end
section
theorem Qk4 {w:World} {g gd:Nat} {v ve vl vp:Value} {vs:List Value} {L:Lg} {d:Dk} (h:Zn w g gd ve vl vp vs L) (hD:Q3 w gd v d) {k:Nat} (hk:Jo g gd v ve vl vp vs k):k<w.heap.size:=by
 rcases hk with (hk|hk)|hk
 ·rw[hk];exact hD.lt
 ·obtain⟨C,hC⟩:=Qh hD.2 hk
  exact Qc hC
 ·obtain⟨C,t,hC,_⟩:=h.kinds hk
  exact Qc hC
structure Pk (w:World) (B g gd:Nat) (v ve vl vp:Value) (vs:List Value) (L:Lg) (v' vp':Value) (d':Dk) (ps:List Nat) (w':World):Prop where
 disk:Q3 w' gd v' d'
 log:Zn w' g gd ve vl vp' vs { L with put:=ps }
 fr:Fr (Jo g gd v ve vl vp vs) w w'
 sub:∀ k,Jo g gd v' ve vl vp' vs k→Jo g gd v ve vl vp vs k∨B≤k
 lo:∀ k,Jo g gd v ve vl vp vs k→k<w.heap.size
 size:B≤w'.heap.size
 base:w.heap.size≤B
section
variable {w w1 w2:World} {B g gd:Nat} {v v1 v2 ve vl vp vp1 vp2:Value} {vs:List Value} {L:Lg} {d1 d2:Dk} {ps ps2:List Nat}
variable {b:Nat}
theorem Pk.o (h:Pk w B g gd v ve vl vp vs L v1 vp1 d1 ps w1) (h1:w.heap.size≤b) (h2:b<B):¬ Jo g gd v1 ve vl vp1 vs b:=fun hk=>by
 rcases h.sub b hk with h3|h3
 ·have:=h.lo b h3;omega
 ·omega
theorem Pk.subw (h:Pk w B g gd v ve vl vp vs L v1 vp1 d1 ps w1):Sub w (Jo g gd v ve vl vp vs) (Jo g gd v1 ve vl vp1 vs):=fun k hk=>(h.sub k hk).imp id (Nat.le_trans h.base)
theorem Pk.write (h:Pk w B g gd v ve vl vp vs L v1 vp1 d1 ps w1) (k:Wk w1 g gd v1 ve vl vp1 vs { L with put:=ps } v2 vp2 d2 ps2 w2):Pk w B g gd v ve vl vp vs L v2 vp2 d2 ps2 w2 where
 disk:=k.disk
 log:=k.log
 fr:=Fr.sub h.fr k.fr h.subw
 sub i hi:=by
  rcases k.sub i hi with h1|h1
  ·exact h.sub i h1
  ·exact .inr (Nat.le_trans h.size h1)
 lo:=h.lo
 size:=Nat.le_trans h.size k.fr.size
 base:=h.base
theorem Pk.below (h:Pk w B g gd v ve vl vp vs L v1 vp1 d1 ps w1) (hb:Below w1.heap.size w1 w2):Pk w B g gd v ve vl vp vs L v1 vp1 d1 ps w2 where
 disk:=h.disk.below hb
 log:=h.log.below hb
 fr:=h.fr.trans (Fr.ofBelow hb)
 sub:=h.sub
 lo:=h.lo
 size:=Nat.le_trans h.size hb.size
 base:=h.base
variable {t:TypeId}
theorem Pk.var (h:Pk w B g gd v ve vl vp vs L v1 vp1 d1 ps w1) (h1:w.heap.size≤b) (h2:b<B) {C:Array Value} {fz:Nat×Nat} (hC:w1.heap[b]?=some (.cells C t fz)) (ht:t≠5) (hf:Fr (·=b) w1 w2):Pk w B g gd v ve vl vp vs L v1 vp1 d1 ps w2 where
 disk:=h.disk.fr hf fun k hk e=>h.o h1 h2 (e ▸ .inl hk)
 log:=h.log.fr hf (fun k hk e=>h.o h1 h2 (e ▸ .inr hk)) fun k C' fz' hk e=>by
  subst e
  rw[hC] at hk
  cases hk
  exact ht rfl
 fr:=h.fr.step hf fun k hk e=>by omega
 sub:=h.sub
 lo:=h.lo
 size:=Nat.le_trans h.size hf.size
 base:=h.base
theorem Pk.keeps (h:Pk w B g gd v ve vl vp vs L v1 vp1 d1 ps w1) (hf:Fr (Jo g gd v1 ve vl vp1 vs) w1 w2) (h1:w.heap.size≤b) (h2:b<B) {o:Obj} (ho:w1.heap[b]?=some o):w2.heap[b]?=some o:=hf.heap ho (h.o h1 h2)
theorem Pk.wk (h:Pk w B g gd v ve vl vp vs L v1 vp1 d1 ps w1):Wk w1 g gd v1 ve vl vp1 vs { L with put:=ps } v1 vp1 d1 ps w1:=⟨h.disk,h.log,Fr.refl _ _,Sub.refl _ _⟩
end
section
variable (pe pn pl g:Nat) (u:FrameMode) (w:World)
theorem Q32 (he:w.cell? ⟨pe,0,none⟩=some .nilIface) :
  CallsD prog 76 #[.pointer (some ⟨pe,0,none⟩),.pointer (some ⟨pn,0,none⟩),.pointer (some ⟨pl,0,none⟩)] u w fun e u' w'=>u'=u∧(e=.returned (.tuple #[])∧w'=w):=by
 have hn:=Y2 w
 go_enter_d func76,ntmps76
 go_wp2;go_end0
 first|exact⟨rfl,rfl,rfl⟩|exact⟨rfl,rfl⟩|simp
variable {t:TypeId}
theorem Q3t {x y:Value} (he:w.cell? ⟨pe,0,none⟩=some (.iface t x)) (hl:w.cell? ⟨pl,0,none⟩=some (.pointer (some ⟨g,0,none⟩))) (hn:w.cell? ⟨pn,0,none⟩=some y) (hy:∃ n,y=.int .i64 n) (hnf:w.frozen? ⟨pn,0,none⟩=false) {b:Bool} (hg:w.cell? ⟨g,5,none⟩=some (.bool b)) (hgf:w.frozen? ⟨g,5,none⟩=false) (hgn:¬ g=pn) :
  CallsD prog 76 #[.pointer (some ⟨pe,0,none⟩),.pointer (some ⟨pn,0,none⟩),.pointer (some ⟨pl,0,none⟩)] u w fun e u' w'=>u'=u∧(e=.returned (.tuple #[])∧w'=(w.setCell ⟨pn,0,none⟩ (.int .i64 0)).setCell ⟨g,5,none⟩ (.bool true)):=by
 have hnn:=Qak w t x;obtain⟨n,rfl⟩:=hy
 go_enter_d func76,ntmps76
 go_wp2;go_end0
 first|exact⟨rfl,rfl,rfl⟩|exact⟨rfl,rfl⟩|simp
end
end
section
theorem Qp5:∃ i,prog.info? 94=some i∧i.zero=some (.slice none 0 0)∧i.size=1∧i.bytes=24:=by
 have h:(prog.info? 94).map (fun i=>(i.zero,i.size,i.bytes))=some (some (.slice none 0 0),1,24):=by kernel_rfl
 cases hi:prog.info? 94 with
 | none=>rw[hi] at h;simp at h
 | some i=>rw[hi] at h;simp at h;exact⟨i,rfl,h.1,h.2.1,h.2.2⟩
theorem Qgl (w:World) (a:Option Addr) (n c:Nat):(binOp .eql 135 (.slice a n c) (.slice none 0 0)).run prog w=.ok (.bool a.isNone) w:=Lib.run_eql_slice_nil w _ _ a n c 0 0 underlying135
variable {w:World}
theorem Qvp {base:Nat} {us:List Value} {ls:List (List UInt8)} (hl:us.length=ls.length) (hb:∀ (j:Nat) (u:Value) (l:List UInt8),us[j]?=some u→ls[j]?=some l→Qz w base u l):∀ u∈us,u.oneCell'=true:=by
 intro u hu;obtain⟨j,hj⟩:=List.mem_iff_getElem?.1 hu;have hjl:j<ls.length:=by have:=(List.getElem?_eq_some_iff.1 hj).1;omega
 exact (hb j u _ hj (List.getElem?_eq_getElem hjl)).one
variable {l:List Fil} {i:Nat}
theorem Qfb {w:Nat} {s:ByteArray} (h:getF l (Ym i w)=some s):Z8 l i w=unbW s w:=by unfold Z8 unbW;rw[h];rfl
structure Lkd (w:World) (g gd:Nat) (v ve vl vp:Value) (vs:List Value) (L:Lg) (ve':Value) (d':Dk) (es:List (List UInt8)) (w':World):Prop where
 disk:Q3 w' gd v d'
 log:Zn w' g gd ve' vl vp vs { L with entries:=es }
 fr:Fr (fun k=>k=gd∨LogS g ve vl vp vs k) w w'
 sub:Sub w (LogS g ve vl vp vs) (LogS g ve' vl vp vs)
variable {g gd:Nat} {ve vl vp:Value} {vs:List Value}
theorem lks {ve':Value} (h:Sub w (LogS g ve vl vp vs) (LogS g ve' vl vp vs)):Sub w (fun k=>k=gd∨LogS g ve vl vp vs k) (fun k=>k=gd∨LogS g ve' vl vp vs k):=fun k hk=>by
 rcases hk with hk|hk
 ·exact .inl (.inl hk)
 ·exact (h k hk).imp (fun h=>.inr h) id
variable {w1 w2:World} {v ve1:Value} {L:Lg} {d1:Dk} {es:List (List UInt8)}
theorem Lkd.look {d2:Dk} (h:Lkd w g gd v ve vl vp vs L ve1 d1 es w1) (hd:Q3 w2 gd v d2) (hf:Fr (·=gd) w1 w2):Lkd w g gd v ve vl vp vs L ve1 d2 es w2:=
 ⟨hd,h.log.fr hf (fun k hk e=>h.log.apartDisk h.disk k hk (.inl e)) (fun k C fz hk e=>by subst e;have:=h.disk.1;rw[hk] at this;simp at this),Fr.sub h.fr (hf.weak fun k _ hk=>(.inl hk:k=gd∨LogS g ve1 vl vp vs k)) (lks h.sub),h.sub⟩
theorem Lkd.below (h:Lkd w g gd v ve vl vp vs L ve1 d1 es w1) (hb:Below w1.heap.size w1 w2):Lkd w g gd v ve vl vp vs L ve1 d1 es w2:=
 h.look (h.disk.below hb) (Fr.ofBelow hb)
theorem Lkd.ents {ve2:Value} {es2:List (List UInt8)} (h:Lkd w g gd v ve vl vp vs L ve1 d1 es w1) (hl:Zn w2 g gd ve2 vl vp vs { L with entries:=es2 }) (hf:Fr (LogS g ve1 vl vp vs) w1 w2) (hs:Sub w1 (LogS g ve1 vl vp vs) (LogS g ve2 vl vp vs)) (hsz:w.heap.size≤w1.heap.size):Lkd w g gd v ve vl vp vs L ve2 d1 es2 w2:=
 ⟨h.disk.fr hf fun k hk hS=>h.log.apartDisk h.disk k hS hk,hl,Fr.sub h.fr (hf.weak fun k _ hk=>(.inr hk:k=gd∨LogS g ve1 vl vp vs k)) (lks h.sub),h.sub.trans hs hsz⟩
def Q4d (w:World) (g gd:Nat) (v ve vl vp:Value) (vs:List Value) (d:Dk) (L:Lg) (f:Nat→Addr) (n B:Nat) (e:Ending) (w':World):Prop:=
 (∃ ve' d' es' i q m r,Lkd w g gd v ve vl vp vs L ve' d' es' w'∧Hurt B d d'∧e=.returned (.iface 153 (.pointer (some ⟨r,0,none⟩)))∧w.heap.size≤q∧w.heap.size≤r∧w'.heap[q]?=some (.cells #[.int .i64 m] 366 (0,0))∧
   w'.heap[r]?=some (.cells #[.string (Ym i (min 4 (n-4*i))),.iface 152 (.pointer (some ⟨q,0,none⟩))] 155 (0,0)))∨
 (∃ ve' d' es' i r,Lkd w g gd v ve vl vp vs L ve' d' es' w'∧Calm B d d'∧Qb0 d.files n ((n+3) / 4) 0 []=(es',some i)∧e=.returned (.iface 153 (.pointer (some ⟨r,0,none⟩)))∧w.heap.size≤r∧
   w'.heap[r]?=some (.cells #[.string (Ym i (min 4 (n-4*i))),.iface 338 (.pointer (some (f 5)))] 155 (0,0)))∨
 (∃ ve' d' es',Lkd w g gd v ve vl vp vs L ve' d' es' w'∧Calm B d d'∧Qb0 d.files n ((n+3) / 4) 0 []=(es',none)∧e=.returned .nilIface)
variable {n:Nat} {d:List (List UInt8)}
theorem Qd7 (h:4*i<n):Qb0 l n ((n+3) / 4-i) i d=match Z8 l i (min 4 (n-4*i)) with
  | none=>(d,some i)
  | some e=>Qb0 l n ((n+3) / 4-(i+1)) (i+1) (d++e):=by
 obtain⟨m,hm⟩:∃ m,(n+3) / 4-i=m+1:=⟨(n+3) / 4-i-1,by omega⟩
 rw[hm,Qb0,show (n+3) / 4-(i+1)=m by omega]
 cases Z8 l i (min 4 (n-4*i)) <;> rfl
theorem Qsw (h:n≤4*i):Qb0 l n ((n+3) / 4-i) i d=(d,none):=by rw[show (n+3) / 4-i=0 by omega,Qb0]
theorem Q4t (f:Nat→Addr) (w:World) (g gd:Nat) (v ve vl vp:Value) (vs:List Value) (d:Dk) (L:Lg) (h:Zn w g gd ve vl vp vs L) (hD:Q3 w gd v d) (n N:Nat) (hE:EnvS f (fun k=>k=gd∨LogS g ve vl vp vs k) w)
  (hL:L.entries = []) (hn:n<9223372036854775808) (hN:FewB d.files N) (hN2:N≤1048576) (hc:d.calls<1000000000000) (hsz:∀ b∈d.files,b.2.size≤1048576) :
  Calls prog 68 #[.pointer (some ⟨g,0,none⟩),.int .i64 n] w (Q4d w g gd v ve vl vp vs d L f n (N+1)):=by
 have HE:=zh hE;have HN:=zh hN;have HZ:=zh hsz;have hg:=Qc h.cells;have hlk:Lkd w g gd v ve vl vp vs L ve d [] w:=⟨hD,by rw[←hL];exact h,Fr.refl _ _,Sub.refl _ _⟩
 have HL:=zh hlk;clear h hD hE hL hN hsz hlk
 go_enter func68,ntmps68
 go_wp2
 go_loopg [5] (N+1) (fun gg s5 wr=>∃ i:Nat,i≤N∧N+1-i≤gg∧s5=.int .i64 i∧∃ ve1 d1 es1,Aside (Lkd w g gd v ve vl vp vs L ve1 d1 es1 wr)∧Aside (Calm i d d1)∧Aside (Qb0 d.files n ((n+3) / 4) 0 []=Qb0 d.files n ((n+3) / 4-i) i es1)∧Aside (es1.length=min n (4*i))∧Aside (Qa1 d.files es1)∧w.heap.size≤wr.heap.size)
 case atStart=>exact⟨0,Nat.zero_le _,by omega,rfl,ve,d,[],HL.o,Calm.refl d,rfl,by show [].length=_;simp,Qa1.nil _,Nat.le_refl _⟩
 case round=>
  obtain⟨i,hi,hgg,rfl,ve1,d1,es1,HL1,HC1,HP1,HLEN,HT1,hsw⟩:=hrel;obtain⟨⟨_,_,c2,_,_,_⟩,f0⟩:=HL1.o.log.heads;have hents:=HL1.o.log.ents;obtain⟨vsr,hrow,_⟩:=hents;obtain⟨a1,cp1,rfl⟩:=Zs hrow;clear hrow;obtain⟨ln,hln⟩:∃ ln,ln=es1.length:=⟨_,rfl⟩
  have c2':wr.cell? ⟨g,2,none⟩=some (.slice a1 ln cp1):=by rw[hln];exact c2
  have hl4:ln=min n (4*i):=by rw[hln];exact HLEN.o
  have HLN:=zh hln;clear c2 hln;by_cases hlt:ln<n
  ·have hltz:(ln:Int)<(n:Int):=by omega
   have h4i:4*i<n:=by omega
   have hcon:=Qpa (-1) i n wr h4i hn (HE.o.step HL1.o.fr (lks HL1.o.sub)).num;have HL4:=zh hl4;have H4I:=zh h4i;clear hl4 h4i;obtain⟨k,hk⟩:∃ k,k=min 4 (n-4*i):=⟨_,rfl⟩
   rw[←hk] at hcon;obtain⟨p,hp⟩:∃ p,p=Ym i k:=⟨_,rfl⟩
   rw[show sOf (Y6 (-1) (i:Int) (k:Int))=p from hp.symm] at hcon;have hc1:d1.calls<1099511627776:=by have:=HC1.o.calls;omega
   have hfl:=HC1.o.files;have HK:=zh hk;have HP:=zh hp;have HFL:=zh hfl;clear hk hp;rcases Nat.eq_zero_or_pos (Zr d1) with h0|h0
   ·have HC2:=zh (HC1.o.trans (Qj2 h0))
    cases hget:getF d1.files p with
    | none=>
     have HG:=zh hget;clear hget hfl
     go_wp2_with (first
      | (go_at_call 123;refine hcon.mono ?_;rintro e w2 ⟨rfl,hb2⟩;have HL2:=zh (HL1.o.below hb2);have HB2:=zh hb2;clear hb2)
      | (go_at_call 124;refine (Qv4 w2 g gd v _ _ _ _ d1 _ HL2.o.log HL2.o.disk p k hc1 h0 HG.o).mono ?_;rintro e w3 ⟨rfl,hd3,hf3⟩;have HL3:=zh (HL2.o.look hd3 hf3);have HF3:=zh hf3;have hn3:=Y2 w3;have hq3:=Qgl w3 none 0 0;have s5:=(HE.o.step HL3.o.fr (lks HL3.o.sub)).sents.cells.2.2.2.2.2.1;clear hd3 hf3)
      | (go_at_call 65;refine (Qoh _ _ _ _).mono ?_;rintro e w4 ⟨u,rfl,⟨r,rfl,hr,hhr⟩,hb4⟩;have HR:=zh hhr;have HL4':=zh (HL3.o.below hb4);clear hhr hb4))
     go_ret;refine .inr (.inl ⟨_,_,es1,i,r,HL4'.o,HC2.o.more (by omega),?_,rfl,?_,?_⟩)
     ·rw[HP1.o,Qd7 H4I.o,←HK.o,Qf2 (by rw[←HP.o,←HFL.o];exact HG.o)]
     ·have:=HB2.o.size;have:=HF3.o.size;omega
     ·rw[←HK.o,←HP.o];exact HR.o
    | some s=>
     have hs20:s.size≤1048576:=by have:=HZ.o _ (Qah (by rw[←hfl];exact hget));exact this
     cases hu:unbW s k with
     | none=>
      have HG:=zh hget;have HU:=zh hu;clear hget hfl hu
      go_wp2_with (first
       | (go_at_call 123;refine hcon.mono ?_;rintro e w2 ⟨rfl,hb2⟩;have HL2:=zh (HL1.o.below hb2);have HB2:=zh hb2;clear hb2)
       | (go_at_call 124;refine (Q0h w2 g gd v _ _ _ _ d1 _ HL2.o.log HL2.o.disk p k hc1 h0 HG.o hs20 HU.o).mono ?_;rintro e w3 ⟨rfl,hd3,hf3⟩;have HL3:=zh (HL2.o.look hd3 hf3);have HF3:=zh hf3;have hn3:=Y2 w3;have hq3:=Qgl w3 none 0 0;have s5:=(HE.o.step HL3.o.fr (lks HL3.o.sub)).sents.cells.2.2.2.2.2.1;clear hd3 hf3)
       | (go_at_call 65;refine (Qoh _ _ _ _).mono ?_;rintro e w4 ⟨u,rfl,⟨r,rfl,hr,hhr⟩,hb4⟩;have HR:=zh hhr;have HL4':=zh (HL3.o.below hb4);clear hhr hb4))
      go_ret;refine .inr (.inl ⟨_,_,es1,i,r,HL4'.o,HC2.o.more (by omega),?_,rfl,?_,?_⟩)
      ·rw[HP1.o,Qd7 H4I.o,←HK.o,Qfb (s:=s) (by rw[←HP.o,←HFL.o];exact HG.o),HU.o]
      ·have:=HB2.o.size;have:=HF3.o.size;omega
      ·rw[←HK.o,←HP.o];exact HR.o
     | some ls=>
      have hbun:Z8 d.files i k=some ls:=by rw[Qfb (s:=s) (by rw[←HP.o,←HFL.o];exact hget)];exact hu
      have hlens:=Qaj hbun;have htk:=HT1.o.step (w:=k) (e:=ls) (i:=i) (by rw[HLEN.o];have:=H4I.o;omega) hbun;have hfew:=htk.few HN.o;have hfew2:es1.length+ls.length≤1099511627776:=by rw[List.length_append] at hfew;omega
      have hlp:0<ls.length:=by omega
      have HTK:=zh htk;have HBUN:=zh hbun;have HFEW:=zh hfew;have HLL:=zh hlens.1;have HG:=zh hget;have HU:=zh hu;obtain⟨i0,hi0,hz0,hs0,hby0⟩:=Qp5;have HI:=zh (⟨hi0,hz0,hs0,hby0⟩:_∧_∧_∧_);clear hget hfl hu hbun hlens htk hfew hi0 hz0 hs0 hby0
      go_wp2_with (first
       | (go_at_call 123;refine hcon.mono ?_;rintro e w2 ⟨rfl,hb2⟩;have HL2:=zh (HL1.o.below hb2);have HB2:=zh hb2;clear hb2)
       | (go_at_call 124;refine (Qv2 w2 g gd v _ _ _ _ d1 _ HL2.o.log HL2.o.disk p k hc1 h0 HG.o hs20 HU.o).mono ?_;rintro e w3 ⟨b3,c3,rfl,ho3,hd3,hf3⟩;have HL3:=zh (HL2.o.look hd3 hf3);have HF3:=zh hf3;have hn3:=Y2 w3;have hq3:=Qgl w3 (some ⟨b3,0,none⟩) ls.length c3;have hd3':=HL3.o.log.heads;have c3g:=hd3'.1.2.2.1;have f3g:=hd3'.2 2;have HO3:=zh ho3;have c3g':w3.cell? ⟨g,2,none⟩=some (.slice a1 ln cp1):=(by rw[HLN.o];exact c3g);have hg3:=Qc HL3.o.log.cells;clear hd3 hf3 ho3 hd3' c3g)
       | (at_builtin;obtain⟨vsx,hrx,hbx⟩:=HL3.o.log.ents;obtain⟨us,hus,hub⟩:=HO3.o;have hrx':w3.ownsRow 0 94 1 (.slice a1 ln cp1) ln vsx:=(by rw[HLN.o];exact hrx);have hul:us.length=ls.length:=(by simpa using hus.1);refine Qbe rfl _ _ _ rfl 0 94 i0 _ 1 24 underlying135 HI.o.1 HI.o.2.1 HI.o.2.2.1 HI.o.2.2.2 rfl (by decide) (by decide) (.slice a1 ln cp1) ln vsx (by rfl) hrx' ⟨b3,0,none⟩ ls.length c3 us rfl (by omega) (hus.cells (g:=b3) rfl) (Qvp hul hub) hlp (by rw[HLN.o];exact hfew2) (Nat.zero_le _) ?_;intro v' w' h2 h3 h4 h5;obtain⟨gb,cpb,rfl,hgb⟩:=Qa3 h2 h5;have H2:=zh h2;have H3:=zh (Fr.ofGrown (S:=fun k=>(Value.slice a1 ln cp1).ownBlock=some k) h3 fun k _ e=>e);have H4:=zh h4;have hne:¬ (Value.slice a1 ln cp1).ownBlock=some g:=(fun e=>by obtain⟨C,hC⟩:=Qh hrx' e;exact Zp HL3.o.log.cells hC (by decide) rfl);have HUL:=zh hul;have HUB:=zh hub;have HRX:=zh hrx';have HBX:=zh hbx;go_must (have k3:=H3.o.cell c3g' hne;have k4:=(H3.o.frozen (p:=⟨g,2,none⟩) hg3 hne).trans f3g;clear h2 h3 h4 h5 hul hub hrx' hbx hrx hus hne)))
      go_roundg (N+1-(i+1))
      case measure=>omega
      case rel=>
       have hown:Y8 w' 0 (.slice (some ⟨gb,0,none⟩) (ln+ls.length) cpb) (es1++ls):=by exact Y8.push HRX.o HBX.o HLN.o H3.o H2.o (by rw[HLN.o]) (fun j u l hu hl=>(HUB.o j u l hu hl).mono (Nat.zero_le _))
       have hmv:J7 w3 (.slice a1 es1.length cp1) (.slice (some ⟨gb,0,none⟩) (ln+ls.length) cpb):=by rw[←HLN.o];exact H4.o
       have hfr:Fr (fun k=>(Value.slice a1 es1.length cp1).ownBlock=some k) w3 w':=by rw[←HLN.o];exact H3.o
       have hp:=HL3.o.log.setEnts hfr hown hmv;have hw23:w.heap.size≤w3.heap.size:=by have:=HB2.o.size;have:=HF3.o.size;omega
       have hw3':w3.heap.size≤(w'.setCell ⟨g,2,none⟩ (.slice (some ⟨gb,0,none⟩) (ln+ls.length) cpb)).heap.size:=hp.2.1.size;refine⟨i+1,?_,by omega,by go_num,_,_,_,HL3.o.ents hp.1 hp.2.1 hp.2.2 hw23,HC2.o,?_,?_,HTK.o,by omega⟩
       ·have:=HFEW.o;have:=HN.o (i+1) fun j hj=>HTK.o.has j (by rw[List.length_append,HLEN.o,HLL.o,HK.o];have:=H4I.o;omega);exact this
       ·show Qb0 _ _ _ _ _=_
        rw[HP1.o,Qd7 H4I.o,←HK.o,HBUN.o]
       ·show (es1++ls).length=_
        rw[List.length_append,HLEN.o,HLL.o,HK.o]
        have:=H4I.o
        omega
   ·have HHU:=zh (HC1.o.hurt (Qjk h0))
    clear hfl
    go_wp2_with (first
     | (go_at_call 123;refine hcon.mono ?_;rintro e w2 ⟨rfl,hb2⟩;have HL2:=zh (HL1.o.below hb2);have HB2:=zh hb2;clear hb2)
     | (go_at_call 124;refine (Qzn w2 g gd v _ _ _ _ d1 _ HL2.o.log HL2.o.disk p k hc1 h0).mono ?_;rintro e w3 ⟨q,m,r,rfl,hq,hr,hh3,hhr,hd3,hf3⟩;have HL3:=zh (HL2.o.look hd3 hf3);have HQ:=zh hh3;have HR:=zh hhr;have hn3:=Qak w3 153 (.pointer (some ⟨r,0,none⟩));clear hd3 hf3 hh3 hhr))
    go_ret;refine .inl ⟨_,_,es1,i,q,m,r,HL3.o,HHU.o.more (by omega),rfl,?_,?_,HQ.o,?_⟩
    ·have:=HB2.o.size;omega
    ·have:=HB2.o.size;omega
    ·rw[←HK.o,←HP.o];exact HR.o
  ·have hltz:¬ (ln:Int)<(n:Int):=by omega
   have hend:n≤4*i:=by omega
   have HEN:=zh hend;clear hl4 hend;go_wp2;go_ret;refine .inr (.inr ⟨_,d1,es1,HL1.o,HC1.o.more (by omega),?_,rfl⟩);rw[HP1.o,Qsw HEN.o]
end
section
theorem Qx9 {w:World} {v1 v2:Value} {l1 l2:List UInt8} (h1:Q6 w v1 l1) (h2:Q6 w v2 l2):Calls prog 128 #[v1,v2] w fun e w'=>e=.returned (.bool (l1 == l2))∧w'=w:=by
 have e:∀ l:List UInt8,Lib.bytesOf (l.map fun c=>(c.toNat:Int))=l:=by
  intro l;unfold Lib.bytesOf;rw[List.map_map]
  conv=>rhs;rw[←List.map_id l]
  exact List.map_congr_left fun c _=>by simp
 have e2:∀ l:List UInt8,strOfNums (l.map fun c=>(c.toNat:Int))=⟨l.toArray⟩:=by
  intro l
  have:=e l
  unfold Lib.bytesOf at this;unfold strOfNums;rw[this]
 have h:=bytes_Equal v1 v2 (l1.map fun c=>(c.toNat:Int)) (l2.map fun c=>(c.toNat:Int)) w (by rw[e2];exact Qep h1) (by rw[e2];exact Qep h2);rw[e,e] at h;exact h
def Qzp (w:World) (g gd:Nat) (v ve vl vp:Value) (vs:List Value) (d:Dk) (L:Lg) (B:Nat) (e:Ending) (w':World):Prop:=
 (∃ d' q m r p,Lkd w g gd v ve vl vp vs L ve d' L.entries w'∧Hurt B d d'∧e=.returned (.tuple #[.bool false,.iface 153 (.pointer (some ⟨r,0,none⟩))])∧w.heap.size≤q∧w.heap.size≤r∧w'.heap[q]?=some (.cells #[.int .i64 m] 366 (0,0))∧
   w'.heap[r]?=some (.cells #[.string p,.iface 152 (.pointer (some ⟨q,0,none⟩))] 155 (0,0)))∨
 (∃ ve' d',Lkd w g gd v ve vl vp vs L ve' d' (L.entries++(Zk d.files L.entries).1) w'∧Calm B d d'∧e=.returned (.tuple #[.bool (Zk d.files L.entries).2,.nilIface]))
variable {l:List Fil} {d:List (List UInt8)} {k:Nat}
theorem Qh5 (h:k≤d.length%4):Zw l d k=([],false):=by
 cases k with
 | zero=>rfl
 | succ k=>rw[Zw,if_pos h]
theorem Qh8 (h:d.length%4<k) (hg:getF l (Ym (d.length / 4) k)=none):Zw l d k=Zw l d (k-1):=by
 cases k with
 | zero=>omega
 | succ k=>rw[Zw,if_neg (by omega),hg];rfl
variable {s:ByteArray}
theorem Qkf (h:d.length%4<k) (hg:getF l (Ym (d.length / 4) k)=some s) (hb:Z8 l (d.length / 4) k=none):Zw l d k=([],false):=by
 cases k with
 | zero=>omega
 | succ k=>rw[Zw,if_neg (by omega),hg,hb];rfl
theorem Qiv {e:List (List UInt8)} (h:d.length%4<k) (hg:getF l (Ym (d.length / 4) k)=some s) (hb:Z8 l (d.length / 4) k=some e) :
  Zw l d k=if e.take (d.length%4)=d.drop (4*(d.length / 4)) then (e.drop (d.length%4),decide (k=4)) else ([],false):=by
 cases k with
 | zero=>omega
 | succ k=>rw[Zw,if_neg (by omega),hg,hb];rfl
theorem Qtf (f:Nat→Addr) (w:World) (g gd:Nat) (v ve vl vp:Value) (vs:List Value) (d:Dk) (L:Lg) (h:Zn w g gd ve vl vp vs L) (hD:Q3 w gd v d) (hE:EnvS f (fun k=>k=gd∨LogS g ve vl vp vs k) w)
  (hT:Qa1 d.files L.entries) (hlen:L.entries.length<1000000000000) (hc:d.calls<1000000000000) (hsz:∀ b∈d.files,b.2.size≤1048576) :
  Calls prog 70 #[.pointer (some ⟨g,0,none⟩)] w (Qzp w g gd v ve vl vp vs d L 4):=by
 have HE:=zh hE;have HZ:=zh hsz;have HT:=zh hT;have hg:=Qc h.cells;have HL:=zh (⟨hD,h,Fr.refl _ _,Sub.refl _ _⟩:Lkd w g gd v ve vl vp vs L ve d L.entries w);obtain⟨⟨_,_,c2,_,_,_⟩,f0⟩:=h.heads;obtain⟨vsr,hrow,hrb⟩:=h.ents;obtain⟨a1,cp1,rfl⟩:=Zs hrow;obtain⟨ln,hln⟩:∃ ln,ln=L.entries.length:=⟨_,rfl⟩
 rw[←hln] at c2 hlen;have hcap:ln≤cp1∧(0<ln→∃ b1,a1=some ⟨b1,0,none⟩):=by
  rcases hrow.2 with ⟨e,h0⟩|⟨b,cap,cur,e,_,_,hnc,_⟩
  ·exact⟨by omega,fun h=>by omega⟩
  ·simp at e
   exact⟨by omega,fun _=>⟨b,e.1⟩⟩
 obtain⟨hcap,hadr⟩:=hcap;have HADR:=zh hadr;clear hadr;have HLN:=zh hln;have HROW:=zh hrow;have HRB:=zh hrb;clear h hD hE hT hsz hln hrow hrb
 go_enter func70,ntmps70
 obtain⟨q,hq⟩:∃ q,q=ln / 4:=⟨_,rfl⟩
 obtain⟨hn,hhn⟩:∃ hn,hn=ln%4:=⟨_,rfl⟩
 have hq1:(ln:Int) / 4=(q:Int):=by omega
 have hq2:(q:Int)*4≤(ln:Int):=by omega
 have hq3:(0:Int)≤(q:Int)*4:=by omega
 have hq4:ln-q*4=hn:=by omega
 have HQ:=zh hq;have HHN:=zh hhn;have hn3:hn<4:=by omega
 have hqb:q<9223372036854775808:=by omega
 clear hq hhn
 go_upto_region 2 with fail
 go_cut [5] from 18 to 24 (fun s5 wx=>w=wx∧∃ av cv,s5=.slice av hn cv∧Aside (0<hn→∃ b1,a1=some ⟨b1,0,none⟩∧av=some ⟨b1,q*4,none⟩))
 case first=>
  by_cases hcq:cp1=q*4
  ·subst hcq
   go_wp2_with fail
   go_meet;exact⟨rfl,_,_,by rw[hq4],fun h=>by omega⟩
  ·go_wp2_with fail
   go_meet;refine⟨rfl,_,_,by rw[hq4],fun h=>?_⟩;obtain⟨b1,rfl⟩:=HADR.o (by omega);exact⟨b1,rfl,by simp[Addr.add_lit]⟩
 case rest=>
  obtain⟨rfl,av,cv,rfl,HAV⟩:=hcut;clear hcap hq1 hq2 hq3 hq4
  go_wp2_with fail
  go_loopg [6] 4 (fun gg s6 wr=>∃ k:Nat,k≤4∧k≤gg∧s6=.int .i64 k∧hn≤k∧∃ d1,Aside (Lkd w g gd v (.slice a1 L.entries.length cp1) vl vp vs L (.slice a1 L.entries.length cp1) d1 L.entries wr)∧Aside (Calm (4-k) d d1)∧Aside (Zk d.files L.entries=Zw d.files L.entries k)∧w.heap.size≤wr.heap.size)
  case atStart=>exact⟨4,by omega,by omega,rfl,by omega,d,HL.o,Calm.refl d,rfl,Nat.le_refl _⟩
  case round=>
   obtain⟨k,hk4,hgg,rfl,hnk,d1,HL1,HC1,HP1,hsw⟩:=hrel;by_cases hlt:hn<k
   ·have hltz:(hn:Int)<(k:Int):=by omega
    have hE1:=HE.o.step HL1.o.fr (lks HL1.o.sub);have hcon:=Qhz (-1) (q:Int) (k:Int) wr (by omega) hE1.num;obtain⟨p,hp⟩:∃ p,p=Ym q k:=⟨_,rfl⟩
    rw[show sOf (Y6 (-1) (q:Int) (k:Int))=p from hp.symm] at hcon;have hc1:d1.calls<1099511627776:=by have:=HC1.o.calls;omega
    have hfl:=HC1.o.files;have hmod:L.entries.length%4<k:=by have:=HLN.o;have:=HHN.o;omega
    have hpq:p=Ym (L.entries.length / 4) k:=by rw[hp,HQ.o,HLN.o]
    have HMOD:=zh hmod;have HPQ:=zh hpq;have HFL:=zh hfl;clear hp hmod hpq;rcases Nat.eq_zero_or_pos (Zr d1) with h0|h0
    ·have HC2:=zh ((HC1.o.trans (Qj2 h0)).more (show 4-k+1≤4-(k-1) by omega))
     cases hget:getF d1.files p with
     | none=>
      have HG:=zh hget;clear hget hfl
      go_wp2_with (first
       | (go_at_call 127;refine hcon.mono ?_;rintro e w2 ⟨rfl,hb2⟩;have HL2:=zh (HL1.o.below hb2);have HB2:=zh hb2;clear hb2)
       | (go_at_call 124;refine (Qv4 w2 g gd v _ _ _ _ d1 _ HL2.o.log HL2.o.disk p k hc1 h0 HG.o).mono ?_;rintro e w3 ⟨rfl,hd3,hf3⟩;have HL3:=zh (HL2.o.look hd3 hf3);have HF3:=zh hf3;have hn3:=Y2 w3;clear hd3 hf3))
      go_roundg (k-1)
      case measure=>omega
      case rel=>
       refine⟨k-1,by omega,by omega,by go_num,by omega,_,HL3.o,HC2.o,?_,by have:=HB2.o.size;have:=HF3.o.size;omega⟩;show Zk _ _=_;rw[HP1.o,Qh8 HMOD.o (by rw[←HPQ.o,←HFL.o];exact HG.o)]
     | some s=>
      have hs20:s.size≤1048576:=HZ.o _ (Qah (by rw[←hfl];exact hget));have hgetd:getF d.files (Ym (L.entries.length / 4) k)=some s:=by rw[←HPQ.o,←HFL.o];exact hget
      cases hu:unbW s k with
      | none=>
       have hbn:Z8 d.files (L.entries.length / 4) k=none:=by rw[Qfb hgetd];exact hu
       have HG:=zh hget;have HU:=zh hu;have hfp:Zk d.files L.entries=([],false):=by rw[HP1.o,Qkf HMOD.o hgetd hbn]
       have HFP:=zh hfp;clear hget hfl hu hgetd hbn hfp
       go_wp2_with (first
        | (go_at_call 127;refine hcon.mono ?_;rintro e w2 ⟨rfl,hb2⟩;have HL2:=zh (HL1.o.below hb2);have HB2:=zh hb2;clear hb2)
        | (go_at_call 124;refine (Q0h w2 g gd v _ _ _ _ d1 _ HL2.o.log HL2.o.disk p k hc1 h0 HG.o hs20 HU.o).mono ?_;rintro e w3 ⟨rfl,hd3,hf3⟩;have HL3:=zh (HL2.o.look hd3 hf3);have HF3:=zh hf3;have hn3:=Y2 w3;have hq3:=Qgl w3 none 0 0;clear hd3 hf3))
       go_ret2;refine .inr ⟨.slice a1 L.entries.length cp1,Zj d1,?_,HC2.o.more (by omega),by rw[HFP.o];rfl⟩;rw[HFP.o,List.append_nil];exact HL3.o
      | some ls=>
       have hbn:Z8 d.files (L.entries.length / 4) k=some ls:=by rw[Qfb hgetd];exact hu
       have hlk:=(Qaj hbn).1;have HG:=zh hget;have HU:=zh hu;have hfp:Zk d.files L.entries=if ls.take (L.entries.length%4)=L.entries.drop (4*(L.entries.length / 4)) then (ls.drop (L.entries.length%4),decide (k=4)) else ([],false):=by rw[HP1.o,Qiv HMOD.o hgetd hbn]
       have HFP:=zh hfp;have HLK:=zh hlk;clear hget hfl hu hgetd hbn hfp hlk
       go_wp2_with (first
        | (go_at_call 127;refine hcon.mono ?_;rintro e w2 ⟨rfl,hb2⟩;have HL2:=zh (HL1.o.below hb2);have HB2:=zh hb2;clear hb2)
        | (go_at_call 124;refine (Qv2 w2 g gd v _ _ _ _ d1 _ HL2.o.log HL2.o.disk p k hc1 h0 HG.o hs20 HU.o).mono ?_;rintro e w3 ⟨b3,c3,rfl,ho3,hd3,hf3⟩;have HL3:=zh (HL2.o.look hd3 hf3);have HF3:=zh hf3;have HO3:=zh ho3;have hn3:=Y2 w3;have hq3:=Qgl w3 (some ⟨b3,0,none⟩) ls.length c3;clear hd3 hf3 ho3))
       go_loopg [50,10,11] hn (fun gg s50 _ _ wx=>∃ jj:Nat,jj≤hn∧hn-jj≤gg∧s50=.int .i64 jj∧w3=wx∧Aside (∀ j,j<jj→ls[j]?=L.entries[4*q+j]?))
       case atStart=>
        refine⟨0,by omega,by omega,rfl,rfl,?_⟩;show ∀ j,j<0→_;intro j hj;omega
       case round=>
        obtain⟨jj,hjj,hg2,rfl,rfl,HJ⟩:=hrel;by_cases hlt2:jj<hn
        ·have hltz2:(jj:Int)<(hn:Int):=by omega
         obtain⟨b1,ha1,rfl⟩:=HAV.o (by omega);subst ha1;obtain⟨vs3,hrow3,hb3⟩:=HL3.o.log.ents;obtain⟨us,hus,hub⟩:=HO3.o;have hle:4*q+jj<L.entries.length:=by have:=HQ.o;have:=HHN.o;have:=HLN.o;omega
         have hv3:vs3.length=L.entries.length:=by simpa using hrow3.1
         have hul:us.length=ls.length:=by simpa using hus.1
         obtain⟨u1,hu1⟩:∃ u,vs3[4*q+jj]?=some u:=⟨_,List.getElem?_eq_getElem (by omega)⟩
         obtain⟨u2,hu2⟩:∃ u,us[jj]?=some u:=⟨_,List.getElem?_eq_getElem (by have:=HLK.o;omega)⟩
         obtain⟨x1,hx1⟩:∃ x,L.entries[4*q+jj]?=some x:=⟨_,List.getElem?_eq_getElem hle⟩
         obtain⟨x2,hx2⟩:∃ x,ls[jj]?=some x:=⟨_,List.getElem?_eq_getElem (by have:=HLK.o;omega)⟩
         have k1:w3.cell? ⟨b1,q*4+jj,none⟩=some u1:=by have h1:=hrow3.cells (g:=b1) rfl (4*q+jj) u1 hu1;rw[Addr.add_lit] at h1;simpa [Nat.mul_comm] using h1
         have k2:w3.cell? ⟨b3,jj,none⟩=some u2:=by have h1:=hus.cells (g:=b3) rfl jj u2 hu2;rw[Addr.add_lit] at h1;simpa using h1
         have hj0:(0:Int)≤(jj:Int):=by omega
         have hjl:(jj:Int)<(ls.length:Int):=by have:=HLK.o;omega
         have hcq:=Qx9 (hb3 _ _ _ hu1 hx1).at (hub _ _ _ hu2 hx2).at;have HX1:=zh hx1;have HX2:=zh hx2;clear hrow3 hb3 hus hub hle hv3 hul hu1 hu2 hx1 hx2;cases hbb:(x1 == x2) with
         | true=>
          rw[hbb] at hcq;have hxx:x1=x2:=by simpa using hbb
          have HXX:=zh hxx;clear hbb hxx
          go_wp2_with (go_at_call 128;refine hcq.mono ?_;rintro e w4 ⟨rfl,rfl⟩)
          go_roundg (hn-(jj+1))
          case measure=>omega
          case rel=>
           refine⟨jj+1,by omega,by omega,by go_num,rfl,?_⟩;show ∀ j,j<jj+1→_;intro j hj;by_cases hjk:j=jj
           ·subst hjk
            rw[HX1.o,HX2.o,HXX.o]
           ·exact HJ.o j (by omega)
         | false=>
          rw[hbb] at hcq;have hxx:x1≠x2:=by simpa using hbb
          have HXX:=zh hxx;clear hbb hxx
          go_wp2_with (go_at_call 128;refine hcq.mono ?_;rintro e w4 ⟨rfl,rfl⟩)
          go_ret2;have hfp:Zk d.files L.entries=([],false):=by
           rw[HFP.o,if_neg];intro e;have h1:(ls.take (L.entries.length%4))[jj]?=(L.entries.drop (4*(L.entries.length / 4)))[jj]?:=by rw[e]
           rw[List.getElem?_take_of_lt (by have:=HHN.o;have:=HLN.o;omega),List.getElem?_drop,HX2.o,show 4*(L.entries.length / 4)+jj=4*q+jj by have:=HQ.o;have:=HLN.o;omega,HX1.o] at h1;exact HXX.o (Option.some.inj h1).symm
          refine .inr ⟨.slice (some ⟨b1,0,none⟩) L.entries.length cp1,Zj d1,?_,HC2.o.more (by omega),by rw[hfp];rfl⟩;rw[hfp,List.append_nil];exact HL3.o
        ·have hltz2:¬ (jj:Int)<(hn:Int):=by omega
         have hjh:jj=hn:=by omega
         have HJH:=zh hjh;clear hjh;obtain⟨i0,hi0,hz0,hs0,hby0⟩:=Qp5;have HI:=zh (⟨hi0,hz0,hs0,hby0⟩:_∧_∧_∧_);clear hi0 hz0 hs0 hby0;have hd3:=HL3.o.log.heads;have c3g:=hd3.1.2.2.1;have f3g:=hd3.2 2;have hg3:=Qc HL3.o.log.cells;have c3g':w3.cell? ⟨g,2,none⟩=some (.slice a1 ln cp1):=by rw[HLN.o];exact c3g
         obtain⟨vs3,hrow3,hb3⟩:=HL3.o.log.ents;obtain⟨us,hus,hub⟩:=HO3.o;have hrow3':w3.ownsRow 0 94 1 (.slice a1 ln cp1) ln vs3:=by rw[HLN.o];exact hrow3
         have hul:us.length=ls.length:=by simpa using hus.1
         have hne:¬ (Value.slice a1 ln cp1).ownBlock=some g:=fun e=>by obtain⟨C,hC⟩:=Qh hrow3' e;exact Zp HL3.o.log.cells hC (by decide) rfl
         have hlk:=HLK.o;have hc3:ls.length≤c3:=by
          rcases hus.2 with ⟨e,_⟩|⟨b,cap,cur,e,_,_,hnc,_⟩
          ·cases e
          ·simp at e;omega
         have hs1:(hn:Int)≤(ls.length:Int):=by omega
         have hs0:(0:Int)≤(hn:Int):=by omega
         have hs3:¬ c3=hn:=by omega
         have hnews:∀ (j:Nat) (u:Value),(us.drop hn)[j]?=some u→w3.drew.cell? ((⟨b3,hn,none⟩:Addr).add j)=some u:=by intro j u hj;rw[List.getElem?_drop] at hj;have h1:=hus.cells (g:=b3) rfl (hn+j) u hj;rw[Addr.add_lit] at h1 ⊢;simpa using h1
         have hones:∀ u∈us.drop hn,u.oneCell'=true:=fun u hu=>Qvp hul hub u (List.mem_of_mem_drop hu)
         have hdl:(us.drop hn).length=(ls.length-hn)*1:=by rw[List.length_drop];omega
         have hpos:0<ls.length-hn:=by omega
         have hbig:ln+(ls.length-hn)≤1099511627776:=by omega
         obtain⟨ck,hck,hck2⟩:∃ ck,((k:Int) == 4)=ck∧ck=decide (k=4):=⟨_,rfl,by rw[Bool.eq_iff_iff];simp;omega⟩
         have HCK:=zh hck2;have HROW3:=zh hrow3';have HB3:=zh hb3;have HUL:=zh hul;have HUB:=zh hub;have HNEWS:=zh hnews;have HONES:=zh hones;have HDL:=zh hdl;have HPOS:=zh hpos;have HBIG:=zh hbig;have HNE:=zh hne;clear hck2 hrow3 hrow3' hb3 hul hub hus hnews hones hdl hpos hbig hne hd3 c3g hlk
         go_upto_region 18 with fail
         go_region_law (refine Qeg rfl _ _ _ rfl 0 94 i0 _ 1 24 underlying135 HI.o.1 HI.o.2.1 HI.o.2.2.1 HI.o.2.2.2 rfl (by decide) (by decide) (.slice a1 ln cp1) ln vs3 rfl (Qn HROW3.o (Ql w3)) ⟨b3,hn,none⟩ (ls.length-hn) (c3-hn) (us.drop hn) rfl HDL.o HNEWS.o HONES.o HPOS.o HBIG.o (Nat.zero_le _) ?_;intro v' w' h2 h3 h4 h5;obtain⟨gb,cpb,rfl,hgb⟩:=Qa3 h2 h5;have H2:=zh h2;have H3:=zh ((Fr.ofBelow (S:=fun k=>(Value.slice a1 ln cp1).ownBlock=some k) (Ql w3)).trans (Fr.ofGrown h3 fun k _ e=>e));have H4:=zh ((J7.refl w3 (.slice a1 ln cp1)).trans h4 (by simp));have k3:=H3.o.cell c3g' HNE.o;have k4:=(H3.o.frozen (p:=⟨g,2,none⟩) hg3 HNE.o).trans f3g;clear h2 h3 h4 h5)
         all_goals (
          go_wp2_with fail
          go_ret2
          have hfp:Zk d.files L.entries=(ls.drop hn,decide (k=4)):=by
           have hm:L.entries.length%4=hn:=by have:=HHN.o;have:=HLN.o;omega
           have hq4:4*(L.entries.length / 4)=4*q:=by have:=HQ.o;have:=HLN.o;omega
           rw[HFP.o,hm,hq4,if_pos]
           apply List.ext_getElem?
           intro j
           by_cases hj:j<hn
           ·rw[List.getElem?_take_of_lt hj,List.getElem?_drop]
            exact HJ.o j (by have:=HJH.o;omega)
           ·rw[List.getElem?_eq_none (by rw[List.length_take];omega),List.getElem?_eq_none (by rw[List.length_drop];omega)]
          have hown:Y8 w' 0 (.slice (some ⟨gb,0,none⟩) (ln+(ls.length-hn)) cpb) (L.entries++ls.drop hn):=
           Y8.push (ls':=ls.drop hn) HROW3.o HB3.o HLN.o H3.o H2.o (by rw[HLN.o,List.length_drop]) (fun j u l hu hl=>by
            rw[List.getElem?_drop] at hu hl
            exact (HUB.o (hn+j) u l hu hl).mono (Nat.zero_le _))
          have hmv:J7 w3 (.slice a1 L.entries.length cp1) (.slice (some ⟨gb,0,none⟩) (ln+(ls.length-hn)) cpb):=by rw[←HLN.o];exact H4.o
          have hfr:Fr (fun k=>(Value.slice a1 L.entries.length cp1).ownBlock=some k) w3 w':=by rw[←HLN.o];exact H3.o
          have hp:=HL3.o.log.setEnts hfr hown hmv
          have hw23:w.heap.size≤w3.heap.size:=by have:=HB2.o.size;have:=HF3.o.size;omega
          refine .inr ⟨.slice (some ⟨gb,0,none⟩) (ln+(ls.length-hn)) cpb,Zj d1,?_,HC2.o.more (by omega),by rw[hfp,←HCK.o];rfl⟩
          rw[hfp]
          exact HL3.o.ents hp.1 hp.2.1 hp.2.2 hw23)
    ·have HHU:=zh ((HC1.o.hurt (Qjk h0)).more (show 4-k+1≤4 by omega))
     clear hfl
     go_wp2_with (first
      | (go_at_call 127;refine hcon.mono ?_;rintro e w2 ⟨rfl,hb2⟩;have HL2:=zh (HL1.o.below hb2);have HB2:=zh hb2;clear hb2)
      | (go_at_call 124;refine (Qzn w2 g gd v _ _ _ _ d1 _ HL2.o.log HL2.o.disk p k hc1 h0).mono ?_;rintro e w3 ⟨q3,m,r,rfl,hq,hr,hh3,hhr,hd3,hf3⟩;have HL3:=zh (HL2.o.look hd3 hf3);have HQ3:=zh hh3;have HR:=zh hhr;have hn3:=Qak w3 153 (.pointer (some ⟨r,0,none⟩));clear hd3 hf3 hh3 hhr))
     go_ret2;refine .inl ⟨_,q3,m,r,p,HL3.o,HHU.o,rfl,?_,?_,HQ3.o,HR.o⟩
     ·have:=HB2.o.size;omega
     ·have:=HB2.o.size;omega
   ·have hltz:¬ (hn:Int)<(k:Int):=by omega
    have hst:k≤L.entries.length%4:=by have:=HLN.o;have:=HHN.o;omega
    have HST:=zh hst;clear hst
    go_wp2_with fail
    go_ret2;have hfp:Zk d.files L.entries=([],false):=by rw[HP1.o];exact Qh5 HST.o
    refine .inr ⟨.slice a1 L.entries.length cp1,d1,?_,HC1.o.more (by omega),by rw[hfp];rfl⟩;rw[hfp,List.append_nil];exact HL1.o
end
section
theorem Q5t:∃ i,prog.info? 104=some i∧i.zero=some (.slice none 0 0)∧i.size=1∧i.bytes=24:=by
 have h:(prog.info? 104).map (fun i=>(i.zero,i.size,i.bytes))=some (some (.slice none 0 0),1,24):=by kernel_rfl
 cases hi:prog.info? 104 with
 | none=>rw[hi] at h;simp at h
 | some i=>rw[hi] at h;simp at h;exact⟨i,rfl,h.1,h.2.1,h.2.2⟩
theorem Q0o {w w':World} {q:Nat} {y:Hsh} {S:Nat→Prop} (hy:Qu w q y) (hf:Fr S w w') (hS:¬ S q):Qu w' q y:=hf.heap hy hS
theorem Fr.setRow (w:World) (g:Nat) (cs:Array Value):Fr (·=g) w (w.setRow g cs):=⟨rfl,rfl,rfl,by simp,fun b hb hn=>setRow_other w g b cs hn⟩
theorem Q1p (h:Hsh):Qdp [] h=Qdp [[]] h:=by simp[Qdp]
theorem Q7s:∃ i,prog.info? 109=some i∧i.zero=some (.agg (h8 zero8))∧i.size=8∧i.bytes=8:=by
 have h:(prog.info? 109).map (fun i=>(i.zero,i.size,i.bytes))=some (some (.agg zc),8,8):=by kernel_rfl
 cases hi:prog.info? 109 with
 | none=>rw[hi] at h;simp at h
 | some i=>rw[hi] at h;simp at h;exact⟨i,rfl,by rw[Qlu];exact h.1,h.2.1,h.2.2⟩
theorem Q74 (y:Hsh):Array.foldl (fun (cs:Array Value) (x:Value×Nat)=>cs.setIfInBounds x.snd x.fst) zc (h8 y).zipIdx 0 8=h8 y:=by rw[←Qbg y];simp
theorem Qyf (w:World) (y:Hsh) (t:TypeId) (n:Nat) (hn:n=w.heap.size):∀ (j:Nat) (u:Value),(h8 y).toList[j]?=some u→(w.alloc (.cells (h8 y) t)).cell? ((⟨n,0,none⟩:Addr).add j)=some u:=by intro j u hu;rw[Addr.add_lit,World.cell?_alloc_at _ _ _ _ hn];simpa using hu
theorem Q6e (y:Hsh):∀ u∈(h8 y).toList,u.oneCell'=true:=by intro u hu;have h:=Qoz y;rw[Array.all_eq_true'] at h;exact h u (by simpa using hu)
section
attribute [local go_sem] h8_0 h8_1 h8_2 h8_3 h8_4 h8_5 h8_6 h8_7 Qbg h8_size Qci Qax Q74
theorem Qvw (w:World) (g gd:Nat) (ve vl vp:Value) (vs:List Value) (L:Lg) (h:Zn w g gd ve vl vp vs L) (x:Hsh) (hn:L.levels.length<1048576) (hr:∀ r∈L.levels,r.length<1099511627776) :
  Calls prog 71 #[.pointer (some ⟨g,0,none⟩),.agg (h8 x)] w fun e w'=>e=.returned (.tuple #[])∧∃ vl' vs',Zn w' g gd ve vl' vp vs' { L with levels:=Qdp L.levels x }∧Fr (LvS g ve vl vp vs) w w'∧
   Sub w (LvS g ve vl vp vs) (LvS g ve vl' vp vs'):=by
 have HH:=zh h;have hg:=Qc h.cells;have HN:=zh hn;have HR:=zh hr;obtain⟨i,hi,hz,hs,hby⟩:=Q5t;have HI:=zh (⟨hi,hz,hs,hby⟩:_∧_∧_∧_);clear hi hz hs hby h hr
 go_enter func71,ntmps71
 go_wp2
 go_loopg [4,5,6] (L.levels.length+1) (fun gg s4 _ _ wr=>∃ j:Nat,j≤L.levels.length∧L.levels.length+1-j≤gg∧s4=.int .i64 j∧∃ vl1 vs1 Lv y,Aside (Zn wr g gd ve vl1 vp vs1 { L with levels:=Lv })∧Qu wr w.heap.size y∧
  Lv.length=L.levels.length∧Aside (Qdp L.levels x=Lv.take j++Qdp (Lv.drop j) y)∧Aside (∀ (i:Nat) (r:List Hsh),j≤i→Lv[i]?=some r→r.length<1099511627776)∧Aside (Fr (LvS g ve vl vp vs) w wr)∧Aside (Sub (w.alloc (.cells (h8 x) 109)) (LvS g ve vl vp vs) (LvS g ve vl1 vp vs1)))
 case atStart=>
  refine⟨0,Nat.zero_le _,by omega,rfl,vl,vs,L.levels,x,HH.o.below (Qa _ _),Qeo _ _,rfl,?_,?_,Fr.ofBelow (Qa _ _),Sub.refl _ _⟩
  ·show Qdp L.levels x=_
   simp
  ·show ∀ (i:Nat) (r:List Hsh),_→_→_
   exact fun i r _ hr=>HR.o r (List.mem_of_getElem? hr)
 case round=>
  obtain⟨j,hj,hgg,rfl,vl1,vs1,Lv,y,HL,hy,hlen,HG,HB,HF,HS⟩:=hrel;have hd:=HL.o.heads;obtain⟨⟨_,_,_,c3,_,_⟩,f0⟩:=hd;obtain⟨a,c,rfl⟩:=Zs HL.o.rows;have HY:=zh hy;have HLE:=zh hlen;clear hy;obtain⟨nl,hnl⟩:∃ nl,nl=Lv.length:=⟨_,rfl⟩
  obtain⟨cj,hlj,hcj⟩:∃ cj,((j:Int) == (nl:Int))=cj∧cj=decide (j=nl):=⟨_,rfl,by rw[Bool.eq_iff_iff];simp;omega⟩
  have HCJ:=zh hcj;clear hcj;have c3':wr.cell? ⟨g,3,none⟩=some (.slice a nl c):=by rw[hnl];exact c3
  have HRN:=zh (show ¬ (Value.slice a nl c).ownBlock=some g by rw[hnl];exact HL.o.rowsNe);have HNL:=zh hnl;clear hlen hnl c3
  go_upto_if 15 with fail
  go_cut [] from 7 to 76 (fun wx=>∃ vl2 vs2 Lv2,Aside (Zn wx g gd ve vl2 vp vs2 { L with levels:=Lv2 })∧Qu wx w.heap.size y∧j<Lv2.length∧(Lv2.length=L.levels.length∨Lv2[j]?=some [])∧Lv2.length≤L.levels.length+1∧
   Aside (Qdp L.levels x=Lv2.take j++Qdp (Lv2.drop j) y)∧Aside (∀ (i:Nat) (r:List Hsh),j≤i→Lv2[i]?=some r→r.length<1099511627776)∧Aside (Fr (LvS g ve vl vp vs) w wx)∧Aside (Sub (w.alloc (.cells (h8 x) 109)) (LvS g ve vl vp vs) (LvS g ve vl2 vp vs2)))
  case first=>
   cases cj with
   | true=>
    have HJN:=zh (show j=nl from of_decide_eq_true HCJ.o.symm);clear hlj
    go_wp2_with (at_builtin;refine Qbe rfl _ _ _ rfl 0 104 i _ 1 24 underlying136 HI.o.1 HI.o.2.1 HI.o.2.2.1 HI.o.2.2.2 rfl (by decide) (by decide) (.slice a nl c) nl vs1 (by rfl) (by have h1:=Qn HL.o.rows (Qa wr (.cells #[.slice none 0 0] 104));rw[HNL.o];exact h1) ⟨wr.heap.size,0,none⟩ 1 1 [.slice none 0 0] rfl rfl (cell_one_new _ _ _) (by simp[Value.oneCell']) (by decide) (by have:=HLE.o;have:=HNL.o;omega) (Nat.zero_le _) ?_;intro v' w' h2 h3 h4 h5;obtain⟨gb,cp,rfl,hgb⟩:=Qa3 h2 h5;have H2:=zh h2;have H3:=zh ((Fr.ofBelow (S:=fun k=>(Value.slice a nl c).ownBlock=some k) (Qa wr (.cells #[.slice none 0 0] 104))).trans (Fr.ofGrown h3 fun k _ e=>e));have H4:=zh ((J7.refl wr (.slice a nl c)).trans h4 (by simp));go_must (have k3:=H3.o.cell c3' HRN.o;have k4:=(H3.o.frozen (p:=⟨g,3,none⟩) (Qk c3') HRN.o).trans (f0 3);clear h2 h3 h4 h5))
    go_meet;have e1:=HNL.o;subst e1;have e2:=HLE.o;have hp:=HL.o.pushLevel H3.o H2.o H4.o;have hyw:=Q0o HY.o hp.2.1;have hjl:j=Lv.length:=HJN.o;have hsz:(w.alloc (.cells (h8 x) 109)).heap.size≤wr.heap.size:=by have:=Qc HY.o;simp;omega
    have hnq:¬ LvS g ve (.slice a Lv.length c) vp vs1 w.heap.size:=fun hq=>by
     rcases HS.o _ hq with h1|h1
     ·obtain⟨_,_,hC,_⟩:=HH.o.kinds h1.log
      exact absurd (Qc hC) (by omega)
     ·simp at h1
      omega
    refine⟨_,_,_,hp.1,hyw hnq,by simp;omega,.inr (by rw[hjl];simp),by simp;omega,?_,?_,Fr.sub HF.o hp.2.1 (HS.o.mono (by simp)),HS.o.trans hp.2.2 hsz⟩
    ·show Qdp L.levels x=_
     rw[HG.o,hjl];simp[Q1p]
    ·show ∀ (i:Nat) (r:List Hsh),_→(Lv ++ [[]])[i]?=some r→_
     intro i r hi hr;rcases List.mem_append.1 (List.mem_of_getElem? hr) with h1|h1
     ·by_cases hlt:i<Lv.length
      ·omega
      ·rw[List.getElem?_append_right (by omega)] at hr
       have:=List.mem_of_getElem? hr
       simp at this;subst this;simp
     ·simp at h1
      subst h1;simp
   | false=>
    have hjn:=zh (of_decide_eq_false HCJ.o.symm);clear hlj
    go_wp2_with fail
    go_meet;have h1:=HLE.o;have h2:=HNL.o;have h3:=hjn.o;exact⟨_,vs1,Lv,HL,HY.o,by omega,.inl h1,by omega,HG,HB,HF,HS⟩
  case rest=>
   obtain⟨vl2,vs2,Lv2,HL2,hy2,hjl2,hor,hlen2,HG2,HB2,HF2,HS2⟩:=hcut;have HY2:=zh hy2;have HOR:=zh hor;have HLN2:=zh hlen2;have hd2:=HL2.o.heads;obtain⟨⟨_,_,_,d3,_,_⟩,f2⟩:=hd2;have hvl:vs2.length=Lv2.length:=by simpa using HL2.o.rows.1
   obtain⟨r,hr⟩:∃ r,Lv2[j]?=some r:=⟨_,List.getElem?_eq_getElem hjl2⟩
   obtain⟨vj,hvj⟩:∃ vj,vs2[j]?=some vj:=⟨_,List.getElem?_eq_getElem (by omega)⟩
   have hrow:=HL2.o.each j vj r hvj hr;obtain⟨aj,cj',rfl⟩:=Zs hrow;have hrb:=HB2.o j r (Nat.le_refl _) hr;obtain⟨bl,cp,rfl,e3,hbl⟩:∃ bl cp,vl2=.slice (some ⟨bl,0,none⟩) Lv2.length cp∧wc.cell? ⟨bl,j,none⟩=some (.slice aj r.length cj')∧bl<wc.heap.size∧wc.frozen? ⟨bl,j,none⟩=false:=by
    rcases HL2.o.rows.2 with ⟨_,h0⟩|⟨b,cap,cur,h0,_,hb,_,_,_,ht⟩
    ·have h00:Lv2.length=0:=h0
     omega
    ·refine⟨b,cap,h0,?_,Qc hb,Qq hb j⟩
     rw[cell_of_row wc b j cur _ _ hb];rw[←ht,List.getElem?_take_of_lt (show j<Lv2.length*1 by omega)] at hvj;simpa using hvj
   have hjz:(0:Int)≤(j:Int):=by omega
   have hjn:(j:Int)<(Lv2.length:Int):=by omega
   have y0:=Qs hy2 0 (by decide);have y1:=Qs hy2 1 (by decide);have y2:=Qs hy2 2 (by decide);have y3:=Qs hy2 3 (by decide);have y4:=Qs hy2 4 (by decide);have y5:=Qs hy2 5 (by decide);have y6:=Qs hy2 6 (by decide);have y7:=Qs hy2 7 (by decide);have hgc:g<wc.heap.size:=Qk d3;have hqc:w.heap.size<wc.heap.size:=Qc hy2;obtain⟨hbl1,hbl2⟩:=hbl;have HBN:=zh (show ¬ (Value.slice aj r.length cj').ownBlock=some bl from fun e=>by
    obtain⟨C,hC⟩:=Qh hrow e
    obtain⟨C',hC'⟩:=Qh HL2.o.rows (k:=bl) rfl
    exact Zp hC hC' (by decide) rfl)
   have HGN:=zh (show ¬ (Value.slice aj r.length cj').ownBlock=some g from fun e=>by
    obtain⟨C,hC⟩:=Qh hrow e
    exact Zp HL2.o.cells hC (by decide) rfl)
   have HVJ:=zh hvj;have HRJ:=zh hr;have HROW:=zh hrow;clear hy2 hor hlen2 hvl hr hvj hrow;obtain⟨i8,hi8,hz8,hs8,hby8⟩:=Q7s;have HI8:=zh (⟨hi8,hz8,hs8,hby8⟩:_∧_∧_∧_);clear hi8 hz8 hs8 hby8
   go_upto_region 5 with fail
   go_cut [] from 25 to 76 (fun wx=>∃ v',Aside (Zn wx g gd ve (.slice (some ⟨bl,0,none⟩) Lv2.length cp) vp (vs2.set j v') { L with levels:=Lv2.set j (r ++ [y]) })∧Qu wx w.heap.size y∧Aside (Fr (LvS g ve vl vp vs) w wx)∧Aside (Sub (w.alloc (.cells (h8 x) 109)) (LvS g ve vl vp vs) (LvS g ve (.slice (some ⟨bl,0,none⟩) Lv2.length cp) vp (vs2.set j v'))))
   case first=>
    go_region_law (refine Qeg rfl _ _ _ rfl 0 109 i8 _ 8 8 underlying104 HI8.o.1 HI8.o.2.1 HI8.o.2.2.1 HI8.o.2.2.2 (by simp[Value.cells]) (by decide) (by decide) (.slice aj r.length cj') r.length (r.flatMap fun h=>(h8 h).toList) rfl (Qn HROW.o ((Ql wc).alloc (Nat.le_refl _) _)) ⟨wc.heap.size,0,none⟩ 1 1 (h8 y).toList rfl (by simp) (Qyf _ _ _ _ rfl) (Q6e y) (by decide) (by omega) (Nat.zero_le _) ?_;intro v' w' h2 h3 h4 h5;obtain⟨gb,cp',rfl,hgb⟩:=Qa3 h2 h5;have H2:=zh h2;have H3:=zh ((Fr.ofBelow (S:=fun k=>(Value.slice aj r.length cj').ownBlock=some k) ((Ql wc).alloc (Nat.le_refl _) _)).trans (Fr.ofGrown h3 fun k _ e=>e));have H4:=zh ((J7.refl wc (.slice aj r.length cj')).trans h4 (by simp));have k3:=H3.o.cell e3 HBN.o;have k5:=H3.o.cell d3 HGN.o;have k4:=(H3.o.frozen (p:=⟨bl,j,none⟩) hbl1 HBN.o).trans hbl2;clear h2 h3 h4 h5)
    all_goals (
     go_wp2_with fail
     go_meet
     have h2:Qcu w' 0 (.slice (some ⟨gb,0,none⟩) (r.length+1) cp') (r ++ [y]):=by
      have:=H2.o
      unfold Qcu
      rw[List.length_append,List.flatMap_append]
      simpa using this
     have hp:=HL2.o.pushHash y HVJ.o HRJ.o H3.o h2 H4.o rfl
     have hsz:(w.alloc (.cells (h8 x) 109)).heap.size≤wc.heap.size:=by simp;omega
     have hnq:¬ LvS g ve (.slice (some ⟨bl,0,none⟩) Lv2.length cp) vp vs2 w.heap.size:=fun hq=>by
      rcases HS2.o _ hq with h1|h1
      ·obtain⟨_,_,hC,_⟩:=HH.o.kinds h1.log
       exact absurd (Qc hC) (by omega)
      ·simp at h1
       omega
     exact⟨_,hp.1,Q0o HY2.o hp.2.1 hnq,Fr.sub HF2.o hp.2.1 (HS2.o.mono (by simp)),HS2.o.trans hp.2.2 hsz⟩)
   case rest=>
    obtain⟨v3,HL3,hy3,HF3,HS3⟩:=hcut;have HY3:=zh hy3;have hrow3:=HL3.o.each j v3 (r ++ [y]) (by rw[List.getElem?_set_self];have:=(List.getElem?_eq_some_iff.1 HVJ.o).1;exact this) (by show (Lv2.set j (r ++ [y]))[j]?=_;rw[List.getElem?_set_self hjl2]);obtain⟨a3,c3',rfl⟩:=Zs hrow3;obtain⟨⟨_,_,_,d4,_,_⟩,_⟩:=HL3.o.heads;have e4:wc.cell? ⟨bl,j,none⟩=some (.slice a3 (r ++ [y]).length c3'):=by
     have hjv:=(List.getElem?_eq_some_iff.1 HVJ.o).1;rcases HL3.o.rows.2 with ⟨e,_⟩|⟨b,cap,cur,e,_,hb,_,_,_,ht⟩
     ·cases e
     ·simp at e
      obtain⟨rfl,rfl⟩:=e;have h1:(vs2.set j (.slice a3 (r ++ [y]).length c3'))[j]?=some (.slice a3 (r ++ [y]).length c3'):=List.getElem?_set_self hjv;rw[←ht,List.getElem?_take_of_lt (show j<(Lv2.set j (r ++ [y])).length*1 by simp;omega)] at h1;rw[cell_of_row wc bl j cur _ _ hb];simpa using h1
    clear hy3;obtain⟨cb,h51,hcb⟩:∃ cb,(((r.length:Int)+1)%4 != 0)=cb∧cb = !decide ((r.length+1)%4=0):=⟨_,rfl,by rw[Bool.eq_iff_iff];simp;omega⟩
    have HCB:=zh hcb;have hset:Lv2.set j (r ++ [y])=Lv2.take j++(r ++ [y]) :: Lv2.drop (j+1):=by rw[List.set_eq_take_append_cons_drop];rw[if_pos hjl2]
    have hdrop:Lv2.drop j=r :: Lv2.drop (j+1):=by
     rw[List.drop_eq_getElem_cons hjl2]
     have:=HRJ.o
     rw[List.getElem?_eq_getElem hjl2] at this;rw[Option.some.inj this]
    have HSET:=zh hset;have HDROP:=zh hdrop;clear hcb hset hdrop;cases cb with
    | true=>
     have hnm:¬ (r.length+1)%4=0:=by have:=HCB.o;simpa using this
     have hlev:Qdp L.levels x=Lv2.set j (r ++ [y]):=by rw[HG2.o,HDROP.o,HSET.o,Qdp,if_neg hnm]
     have HLEV:=zh hlev;clear hnm hlev
     go_wp2_with fail
     refine bodyPost_ret (results_none rfl _ _ _) rfl ?_;refine⟨rfl,_,_,?_,HF3.o,HS3.o.mono (by simp)⟩;rw[HLEV.o];exact HL3.o
    | false=>
     have hm4:(r.length+1)%4=0:=by have:=HCB.o;simpa using this
     obtain⟨q,hq⟩:∃ q,r.length=q+3:=⟨r.length-3,by omega⟩
     have hrl:(r ++ [y]).length=q+4:=by simp;omega
     obtain⟨g3,rfl⟩:∃ g3,a3=some ⟨g3,0,none⟩:=by
      rcases hrow3.2 with ⟨e,h0⟩|⟨b,cap,cur,e,_⟩
      ·omega
      ·simp at e
       exact⟨b,e.1⟩
     have hgt:∀ i,i<4→∃ z,(r ++ [y])[q+i]?=some z:=fun i hi=>⟨_,List.getElem?_eq_getElem (by omega)⟩
     obtain⟨z0,hz0⟩:=hgt 0 (by decide);obtain⟨z1,hz1⟩:=hgt 1 (by decide);obtain⟨z2,hz2⟩:=hgt 2 (by decide);obtain⟨z3,hz3⟩:=hgt 3 (by decide);have hn4:node4 (r ++ [y])=Z0 (Z0 z0 z1) (Z0 z2 z3):=by
      unfold node4;have e:(r ++ [y]).length-4=q:=by omega
      rw[e];simp only[List.getD_eq_getElem?_getD];rw[hz1,hz2,hz3];have h0:(r ++ [y])[q]?=some z0:=hz0;rw[h0];rfl
     have HN4:=zh hn4;have hs0:(0:Int)≤(r.length:Int)+1-4:=by omega
     have hs1:(r.length:Int)+1-4≤(r.length:Int)+1:=by omega
     have hs2:((r.length:Int)+1-4).toNat=q:=by omega
     have hl4:r.length+1-q=4:=by omega
     have hs3:¬ c3'=q:=by
      rcases hrow3.2 with ⟨e,h0⟩|⟨b,cap,cur,e,_,_,hnc,_⟩
      ·omega
      ·simp at e hnc
       omega
     have HM4:=zh hm4;have z0_0:wc.cell? ⟨g3,q*8,none⟩=some (Go.Proofs.YtefccfakhgdfbabGreatDoor.u8 z0[0]):=by have h1:=Q8 hrow3 hz0 0 (by decide);rw[show (q+0)*8+0=q*8+0 by omega] at h1;exact h1
     have z0_1:wc.cell? ⟨g3,q*8+1,none⟩=some (Go.Proofs.YtefccfakhgdfbabGreatDoor.u8 z0[1]):=by have h1:=Q8 hrow3 hz0 1 (by decide);rw[show (q+0)*8+1=q*8+1 by omega] at h1;exact h1
     have z0_2:wc.cell? ⟨g3,q*8+2,none⟩=some (Go.Proofs.YtefccfakhgdfbabGreatDoor.u8 z0[2]):=by have h1:=Q8 hrow3 hz0 2 (by decide);rw[show (q+0)*8+2=q*8+2 by omega] at h1;exact h1
     have z0_3:wc.cell? ⟨g3,q*8+3,none⟩=some (Go.Proofs.YtefccfakhgdfbabGreatDoor.u8 z0[3]):=by have h1:=Q8 hrow3 hz0 3 (by decide);rw[show (q+0)*8+3=q*8+3 by omega] at h1;exact h1
     have z0_4:wc.cell? ⟨g3,q*8+4,none⟩=some (Go.Proofs.YtefccfakhgdfbabGreatDoor.u8 z0[4]):=by have h1:=Q8 hrow3 hz0 4 (by decide);rw[show (q+0)*8+4=q*8+4 by omega] at h1;exact h1
     have z0_5:wc.cell? ⟨g3,q*8+5,none⟩=some (Go.Proofs.YtefccfakhgdfbabGreatDoor.u8 z0[5]):=by have h1:=Q8 hrow3 hz0 5 (by decide);rw[show (q+0)*8+5=q*8+5 by omega] at h1;exact h1
     have z0_6:wc.cell? ⟨g3,q*8+6,none⟩=some (Go.Proofs.YtefccfakhgdfbabGreatDoor.u8 z0[6]):=by have h1:=Q8 hrow3 hz0 6 (by decide);rw[show (q+0)*8+6=q*8+6 by omega] at h1;exact h1
     have z0_7:wc.cell? ⟨g3,q*8+7,none⟩=some (Go.Proofs.YtefccfakhgdfbabGreatDoor.u8 z0[7]):=by have h1:=Q8 hrow3 hz0 7 (by decide);rw[show (q+0)*8+7=q*8+7 by omega] at h1;exact h1
     have z1_0:wc.cell? ⟨g3,q*8+8,none⟩=some (Go.Proofs.YtefccfakhgdfbabGreatDoor.u8 z1[0]):=by have h1:=Q8 hrow3 hz1 0 (by decide);rw[show (q+1)*8+0=q*8+8 by omega] at h1;exact h1
     have z1_1:wc.cell? ⟨g3,q*8+9,none⟩=some (Go.Proofs.YtefccfakhgdfbabGreatDoor.u8 z1[1]):=by have h1:=Q8 hrow3 hz1 1 (by decide);rw[show (q+1)*8+1=q*8+9 by omega] at h1;exact h1
     have z1_2:wc.cell? ⟨g3,q*8+10,none⟩=some (Go.Proofs.YtefccfakhgdfbabGreatDoor.u8 z1[2]):=by have h1:=Q8 hrow3 hz1 2 (by decide);rw[show (q+1)*8+2=q*8+10 by omega] at h1;exact h1
     have z1_3:wc.cell? ⟨g3,q*8+11,none⟩=some (Go.Proofs.YtefccfakhgdfbabGreatDoor.u8 z1[3]):=by have h1:=Q8 hrow3 hz1 3 (by decide);rw[show (q+1)*8+3=q*8+11 by omega] at h1;exact h1
     have z1_4:wc.cell? ⟨g3,q*8+12,none⟩=some (Go.Proofs.YtefccfakhgdfbabGreatDoor.u8 z1[4]):=by have h1:=Q8 hrow3 hz1 4 (by decide);rw[show (q+1)*8+4=q*8+12 by omega] at h1;exact h1
     have z1_5:wc.cell? ⟨g3,q*8+13,none⟩=some (Go.Proofs.YtefccfakhgdfbabGreatDoor.u8 z1[5]):=by have h1:=Q8 hrow3 hz1 5 (by decide);rw[show (q+1)*8+5=q*8+13 by omega] at h1;exact h1
     have z1_6:wc.cell? ⟨g3,q*8+14,none⟩=some (Go.Proofs.YtefccfakhgdfbabGreatDoor.u8 z1[6]):=by have h1:=Q8 hrow3 hz1 6 (by decide);rw[show (q+1)*8+6=q*8+14 by omega] at h1;exact h1
     have z1_7:wc.cell? ⟨g3,q*8+15,none⟩=some (Go.Proofs.YtefccfakhgdfbabGreatDoor.u8 z1[7]):=by have h1:=Q8 hrow3 hz1 7 (by decide);rw[show (q+1)*8+7=q*8+15 by omega] at h1;exact h1
     have z2_0:wc.cell? ⟨g3,q*8+16,none⟩=some (Go.Proofs.YtefccfakhgdfbabGreatDoor.u8 z2[0]):=by have h1:=Q8 hrow3 hz2 0 (by decide);rw[show (q+2)*8+0=q*8+16 by omega] at h1;exact h1
     have z2_1:wc.cell? ⟨g3,q*8+17,none⟩=some (Go.Proofs.YtefccfakhgdfbabGreatDoor.u8 z2[1]):=by have h1:=Q8 hrow3 hz2 1 (by decide);rw[show (q+2)*8+1=q*8+17 by omega] at h1;exact h1
     have z2_2:wc.cell? ⟨g3,q*8+18,none⟩=some (Go.Proofs.YtefccfakhgdfbabGreatDoor.u8 z2[2]):=by have h1:=Q8 hrow3 hz2 2 (by decide);rw[show (q+2)*8+2=q*8+18 by omega] at h1;exact h1
     have z2_3:wc.cell? ⟨g3,q*8+19,none⟩=some (Go.Proofs.YtefccfakhgdfbabGreatDoor.u8 z2[3]):=by have h1:=Q8 hrow3 hz2 3 (by decide);rw[show (q+2)*8+3=q*8+19 by omega] at h1;exact h1
     have z2_4:wc.cell? ⟨g3,q*8+20,none⟩=some (Go.Proofs.YtefccfakhgdfbabGreatDoor.u8 z2[4]):=by have h1:=Q8 hrow3 hz2 4 (by decide);rw[show (q+2)*8+4=q*8+20 by omega] at h1;exact h1
     have z2_5:wc.cell? ⟨g3,q*8+21,none⟩=some (Go.Proofs.YtefccfakhgdfbabGreatDoor.u8 z2[5]):=by have h1:=Q8 hrow3 hz2 5 (by decide);rw[show (q+2)*8+5=q*8+21 by omega] at h1;exact h1
     have z2_6:wc.cell? ⟨g3,q*8+22,none⟩=some (Go.Proofs.YtefccfakhgdfbabGreatDoor.u8 z2[6]):=by have h1:=Q8 hrow3 hz2 6 (by decide);rw[show (q+2)*8+6=q*8+22 by omega] at h1;exact h1
     have z2_7:wc.cell? ⟨g3,q*8+23,none⟩=some (Go.Proofs.YtefccfakhgdfbabGreatDoor.u8 z2[7]):=by have h1:=Q8 hrow3 hz2 7 (by decide);rw[show (q+2)*8+7=q*8+23 by omega] at h1;exact h1
     have z3_0:wc.cell? ⟨g3,q*8+24,none⟩=some (Go.Proofs.YtefccfakhgdfbabGreatDoor.u8 z3[0]):=by have h1:=Q8 hrow3 hz3 0 (by decide);rw[show (q+3)*8+0=q*8+24 by omega] at h1;exact h1
     have z3_1:wc.cell? ⟨g3,q*8+25,none⟩=some (Go.Proofs.YtefccfakhgdfbabGreatDoor.u8 z3[1]):=by have h1:=Q8 hrow3 hz3 1 (by decide);rw[show (q+3)*8+1=q*8+25 by omega] at h1;exact h1
     have z3_2:wc.cell? ⟨g3,q*8+26,none⟩=some (Go.Proofs.YtefccfakhgdfbabGreatDoor.u8 z3[2]):=by have h1:=Q8 hrow3 hz3 2 (by decide);rw[show (q+3)*8+2=q*8+26 by omega] at h1;exact h1
     have z3_3:wc.cell? ⟨g3,q*8+27,none⟩=some (Go.Proofs.YtefccfakhgdfbabGreatDoor.u8 z3[3]):=by have h1:=Q8 hrow3 hz3 3 (by decide);rw[show (q+3)*8+3=q*8+27 by omega] at h1;exact h1
     have z3_4:wc.cell? ⟨g3,q*8+28,none⟩=some (Go.Proofs.YtefccfakhgdfbabGreatDoor.u8 z3[4]):=by have h1:=Q8 hrow3 hz3 4 (by decide);rw[show (q+3)*8+4=q*8+28 by omega] at h1;exact h1
     have z3_5:wc.cell? ⟨g3,q*8+29,none⟩=some (Go.Proofs.YtefccfakhgdfbabGreatDoor.u8 z3[5]):=by have h1:=Q8 hrow3 hz3 5 (by decide);rw[show (q+3)*8+5=q*8+29 by omega] at h1;exact h1
     have z3_6:wc.cell? ⟨g3,q*8+30,none⟩=some (Go.Proofs.YtefccfakhgdfbabGreatDoor.u8 z3[6]):=by have h1:=Q8 hrow3 hz3 6 (by decide);rw[show (q+3)*8+6=q*8+30 by omega] at h1;exact h1
     have z3_7:wc.cell? ⟨g3,q*8+31,none⟩=some (Go.Proofs.YtefccfakhgdfbabGreatDoor.u8 z3[7]):=by have h1:=Q8 hrow3 hz3 7 (by decide);rw[show (q+3)*8+7=q*8+31 by omega] at h1;exact h1
     have HQ:=zh hq;have hnq3:¬ LvS g ve (.slice (some ⟨bl,0,none⟩) Lv2.length cp) vp (vs2.set j (.slice (some ⟨g3,0,none⟩) (r ++ [y]).length c3')) w.heap.size:=fun hk=>by
      rcases HS3.o _ hk with h1|h1
      ·obtain⟨_,_,hC,_⟩:=HH.o.kinds h1.log
       exact absurd (Qc hC) (by omega)
      ·simp at h1
       omega
     have hg3n:¬ g3=w.heap.size:=fun e=>hnq3 (e ▸ .inr (.inr ⟨_,List.mem_of_getElem? (i:=j) (List.getElem?_set_self (by have:=(List.getElem?_eq_some_iff.1 HVJ.o).1;exact this)),rfl⟩))
     have q8:Is8 wc.drew w.heap.size:=⟨y,HY3.o⟩
     have HBB:=zh (Ql wc);clear hm4 hgt hz0 hz1 hz2 hz3 hn4 hq hrl
     go_upto_region 9 with fail
     go_region_held3 (fun w'=>w'.cell? ⟨g3,q*8,none⟩=some (Go.Proofs.YtefccfakhgdfbabGreatDoor.u8 z0[0])∧w'.cell? ⟨g3,q*8+1,none⟩=some (Go.Proofs.YtefccfakhgdfbabGreatDoor.u8 z0[1])∧w'.cell? ⟨g3,q*8+2,none⟩=some (Go.Proofs.YtefccfakhgdfbabGreatDoor.u8 z0[2])∧w'.cell? ⟨g3,q*8+3,none⟩=some (Go.Proofs.YtefccfakhgdfbabGreatDoor.u8 z0[3])∧w'.cell? ⟨g3,q*8+4,none⟩=some (Go.Proofs.YtefccfakhgdfbabGreatDoor.u8 z0[4])∧w'.cell? ⟨g3,q*8+5,none⟩=some (Go.Proofs.YtefccfakhgdfbabGreatDoor.u8 z0[5])∧w'.cell? ⟨g3,q*8+6,none⟩=some (Go.Proofs.YtefccfakhgdfbabGreatDoor.u8 z0[6])∧w'.cell? ⟨g3,q*8+7,none⟩=some (Go.Proofs.YtefccfakhgdfbabGreatDoor.u8 z0[7])∧w'.cell? ⟨g3,q*8+8,none⟩=some (Go.Proofs.YtefccfakhgdfbabGreatDoor.u8 z1[0])∧w'.cell? ⟨g3,q*8+9,none⟩=some (Go.Proofs.YtefccfakhgdfbabGreatDoor.u8 z1[1])∧w'.cell? ⟨g3,q*8+10,none⟩=some (Go.Proofs.YtefccfakhgdfbabGreatDoor.u8 z1[2])∧w'.cell? ⟨g3,q*8+11,none⟩=some (Go.Proofs.YtefccfakhgdfbabGreatDoor.u8 z1[3])∧w'.cell? ⟨g3,q*8+12,none⟩=some (Go.Proofs.YtefccfakhgdfbabGreatDoor.u8 z1[4])∧w'.cell? ⟨g3,q*8+13,none⟩=some (Go.Proofs.YtefccfakhgdfbabGreatDoor.u8 z1[5])∧w'.cell? ⟨g3,q*8+14,none⟩=some (Go.Proofs.YtefccfakhgdfbabGreatDoor.u8 z1[6])∧w'.cell? ⟨g3,q*8+15,none⟩=some (Go.Proofs.YtefccfakhgdfbabGreatDoor.u8 z1[7])∧w'.cell? ⟨g3,q*8+16,none⟩=some (Go.Proofs.YtefccfakhgdfbabGreatDoor.u8 z2[0])∧w'.cell? ⟨g3,q*8+17,none⟩=some (Go.Proofs.YtefccfakhgdfbabGreatDoor.u8 z2[1])∧w'.cell? ⟨g3,q*8+18,none⟩=some (Go.Proofs.YtefccfakhgdfbabGreatDoor.u8 z2[2])∧w'.cell? ⟨g3,q*8+19,none⟩=some (Go.Proofs.YtefccfakhgdfbabGreatDoor.u8 z2[3])∧w'.cell? ⟨g3,q*8+20,none⟩=some (Go.Proofs.YtefccfakhgdfbabGreatDoor.u8 z2[4])∧w'.cell? ⟨g3,q*8+21,none⟩=some (Go.Proofs.YtefccfakhgdfbabGreatDoor.u8 z2[5])∧w'.cell? ⟨g3,q*8+22,none⟩=some (Go.Proofs.YtefccfakhgdfbabGreatDoor.u8 z2[6])∧w'.cell? ⟨g3,q*8+23,none⟩=some (Go.Proofs.YtefccfakhgdfbabGreatDoor.u8 z2[7])∧w'.cell? ⟨g3,q*8+24,none⟩=some (Go.Proofs.YtefccfakhgdfbabGreatDoor.u8 z3[0])∧w'.cell? ⟨g3,q*8+25,none⟩=some (Go.Proofs.YtefccfakhgdfbabGreatDoor.u8 z3[1])∧w'.cell? ⟨g3,q*8+26,none⟩=some (Go.Proofs.YtefccfakhgdfbabGreatDoor.u8 z3[2])∧w'.cell? ⟨g3,q*8+27,none⟩=some (Go.Proofs.YtefccfakhgdfbabGreatDoor.u8 z3[3])∧w'.cell? ⟨g3,q*8+28,none⟩=some (Go.Proofs.YtefccfakhgdfbabGreatDoor.u8 z3[4])∧w'.cell? ⟨g3,q*8+29,none⟩=some (Go.Proofs.YtefccfakhgdfbabGreatDoor.u8 z3[5])∧w'.cell? ⟨g3,q*8+30,none⟩=some (Go.Proofs.YtefccfakhgdfbabGreatDoor.u8 z3[6])∧w'.cell? ⟨g3,q*8+31,none⟩=some (Go.Proofs.YtefccfakhgdfbabGreatDoor.u8 z3[7])) (first|exact⟨z0_0,z0_1,z0_2,z0_3,z0_4,z0_5,z0_6,z0_7,z1_0,z1_1,z1_2,z1_3,z1_4,z1_5,z1_6,z1_7,z2_0,z2_1,z2_2,z2_3,z2_4,z2_5,z2_6,z2_7,z3_0,z3_1,z3_2,z3_3,z3_4,z3_5,z3_6,z3_7⟩|(simp only[Qci hg3n];exact⟨z0_0,z0_1,z0_2,z0_3,z0_4,z0_5,z0_6,z0_7,z1_0,z1_1,z1_2,z1_3,z1_4,z1_5,z1_6,z1_7,z2_0,z2_1,z2_2,z2_3,z2_4,z2_5,z2_6,z2_7,z3_0,z3_1,z3_2,z3_3,z3_4,z3_5,z3_6,z3_7⟩)) (first|(go_at_call 129;refine (Qbz _ _ _).mono ?_;rintro e w5 ⟨rfl,hb5⟩;replace z0_0:=(hb5.cell (p:=⟨g3,q*8,none⟩) (Qk z0_0)).trans z0_0;replace z0_1:=(hb5.cell (p:=⟨g3,q*8+1,none⟩) (Qk z0_1)).trans z0_1;replace z0_2:=(hb5.cell (p:=⟨g3,q*8+2,none⟩) (Qk z0_2)).trans z0_2;replace z0_3:=(hb5.cell (p:=⟨g3,q*8+3,none⟩) (Qk z0_3)).trans z0_3;replace z0_4:=(hb5.cell (p:=⟨g3,q*8+4,none⟩) (Qk z0_4)).trans z0_4;replace z0_5:=(hb5.cell (p:=⟨g3,q*8+5,none⟩) (Qk z0_5)).trans z0_5;replace z0_6:=(hb5.cell (p:=⟨g3,q*8+6,none⟩) (Qk z0_6)).trans z0_6;replace z0_7:=(hb5.cell (p:=⟨g3,q*8+7,none⟩) (Qk z0_7)).trans z0_7;replace z1_0:=(hb5.cell (p:=⟨g3,q*8+8,none⟩) (Qk z1_0)).trans z1_0;replace z1_1:=(hb5.cell (p:=⟨g3,q*8+9,none⟩) (Qk z1_1)).trans z1_1;replace z1_2:=(hb5.cell (p:=⟨g3,q*8+10,none⟩) (Qk z1_2)).trans z1_2;replace z1_3:=(hb5.cell (p:=⟨g3,q*8+11,none⟩) (Qk z1_3)).trans z1_3;replace z1_4:=(hb5.cell (p:=⟨g3,q*8+12,none⟩) (Qk z1_4)).trans z1_4;replace z1_5:=(hb5.cell (p:=⟨g3,q*8+13,none⟩) (Qk z1_5)).trans z1_5;replace z1_6:=(hb5.cell (p:=⟨g3,q*8+14,none⟩) (Qk z1_6)).trans z1_6;replace z1_7:=(hb5.cell (p:=⟨g3,q*8+15,none⟩) (Qk z1_7)).trans z1_7;replace z2_0:=(hb5.cell (p:=⟨g3,q*8+16,none⟩) (Qk z2_0)).trans z2_0;replace z2_1:=(hb5.cell (p:=⟨g3,q*8+17,none⟩) (Qk z2_1)).trans z2_1;replace z2_2:=(hb5.cell (p:=⟨g3,q*8+18,none⟩) (Qk z2_2)).trans z2_2;replace z2_3:=(hb5.cell (p:=⟨g3,q*8+19,none⟩) (Qk z2_3)).trans z2_3;replace z2_4:=(hb5.cell (p:=⟨g3,q*8+20,none⟩) (Qk z2_4)).trans z2_4;replace z2_5:=(hb5.cell (p:=⟨g3,q*8+21,none⟩) (Qk z2_5)).trans z2_5;replace z2_6:=(hb5.cell (p:=⟨g3,q*8+22,none⟩) (Qk z2_6)).trans z2_6;replace z2_7:=(hb5.cell (p:=⟨g3,q*8+23,none⟩) (Qk z2_7)).trans z2_7;replace z3_0:=(hb5.cell (p:=⟨g3,q*8+24,none⟩) (Qk z3_0)).trans z3_0;replace z3_1:=(hb5.cell (p:=⟨g3,q*8+25,none⟩) (Qk z3_1)).trans z3_1;replace z3_2:=(hb5.cell (p:=⟨g3,q*8+26,none⟩) (Qk z3_2)).trans z3_2;replace z3_3:=(hb5.cell (p:=⟨g3,q*8+27,none⟩) (Qk z3_3)).trans z3_3;replace z3_4:=(hb5.cell (p:=⟨g3,q*8+28,none⟩) (Qk z3_4)).trans z3_4;replace z3_5:=(hb5.cell (p:=⟨g3,q*8+29,none⟩) (Qk z3_5)).trans z3_5;replace z3_6:=(hb5.cell (p:=⟨g3,q*8+30,none⟩) (Qk z3_6)).trans z3_6;replace z3_7:=(hb5.cell (p:=⟨g3,q*8+31,none⟩) (Qk z3_7)).trans z3_7;replace q8:Is8 w5 w.heap.size:=q8.elim fun k hk=>⟨k,Qg hk hb5⟩;replace HBB:=zh (HBB.o.trans (hb5.mono HBB.o.size));clear hb5))
     have hrel:∃ j':Nat,j'≤L.levels.length∧L.levels.length+1-j'≤L.levels.length-j∧Value.int .i64 (((j:Int)+1))=.int .i64 j'∧∃ vl1 vs1 Lv y',Aside (Zn (w5.setRow w.heap.size (h8 (Z0 (Z0 z0 z1) (Z0 z2 z3)))) g gd ve vl1 vp vs1 { L with levels:=Lv })∧Qu (w5.setRow w.heap.size (h8 (Z0 (Z0 z0 z1) (Z0 z2 z3)))) w.heap.size y'∧
       Lv.length=L.levels.length∧Aside (Qdp L.levels x=Lv.take j'++Qdp (Lv.drop j') y')∧Aside (∀ (i:Nat) (r:List Hsh),j'≤i→Lv[i]?=some r→r.length<1099511627776)∧Aside (Fr (LvS g ve vl vp vs) w (w5.setRow w.heap.size (h8 (Z0 (Z0 z0 z1) (Z0 z2 z3)))))∧Aside (Sub (w.alloc (.cells (h8 x) 109)) (LvS g ve vl vp vs) (LvS g ve vl1 vp vs1)):=by
      obtain⟨k5,hk5⟩:=q8;have hFW:Fr (·=w.heap.size) wc (w5.setRow w.heap.size (h8 (Z0 (Z0 z0 z1) (Z0 z2 z3)))):=(Fr.ofBelow HBB.o).trans (Fr.setRow _ _ _);have hll:Lv2.length=L.levels.length:=by
       rcases HOR.o with h1|h1
       ·exact h1
       ·have h2:=HRJ.o
        rw[h1] at h2;have h3:r = []:=(Option.some.inj h2).symm;have h4:=HQ.o;rw[h3] at h4;simp at h4
      have hlj:(Lv2.take j).length=j:=by rw[List.length_take];omega
      have e1:(Lv2.take j++(r ++ [y]) :: Lv2.drop (j+1)).take (j+1)=Lv2.take j ++ [r ++ [y]]:=by rw[List.take_append,hlj,List.take_of_length_le (by omega),show j+1-j=1 by omega];rfl
      have e2:(Lv2.take j++(r ++ [y]) :: Lv2.drop (j+1)).drop (j+1)=Lv2.drop (j+1):=by rw[List.drop_append,hlj,List.drop_of_length_le (by omega),show j+1-j=1 by omega];rfl
      refine⟨j+1,by omega,by omega,by rfl,_,_,Lv2.set j (r ++ [y]),node4 (r ++ [y]),HL3.o.fr hFW (fun k hk e=>hnq3 (by subst e;exact HL3.o.lvOf HY3.o hk)) (fun k C fz hk e=>?_),?_,by simpa using hll,?_,?_,HF3.o.step hFW (fun i hi e=>by omega),HS3.o⟩
      ·subst e
       have:=HY3.o
       unfold Qu at this;rw[hk] at this;simp at this
      ·rw[HN4.o]
       exact Qy hk5 _
      ·show Qdp L.levels x=_
       rw[HSET.o,e1,e2,HG2.o,HDROP.o,Qdp,if_pos HM4.o,List.append_assoc];rfl
      ·show ∀ (i:Nat) (r':List Hsh),j+1≤i→(Lv2.set j (r ++ [y]))[i]?=some r'→_
       intro i r' hi hr';rw[List.getElem?_set_ne (by omega)] at hr';exact HB2.o i r' (by omega) hr'
     have HREL:=zh hrel;clear hrel
     go_wp2_with fail
     go_roundg (L.levels.length-j)
     case measure=>omega
     case rel=>exact HREL.o
end
end
end Go.Proofs.YtefccfakhgdfbabGreatDoor
