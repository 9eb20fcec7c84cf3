/- The walk of tilesref.Sign. -/
import Derived.Test.YtefccfakhgdfbabGreatDoorSv05
import Derived.Deep.RegionHeld3
import Derived.Deep.AppendLies
import Derived.StillTailTactics
set_option linter.unusedVariables false
set_option linter.unusedSimpArgs false
open Go.RowKit Go.Proofs.Tryz
set_option maxRecDepth 100000
set_option maxHeartbeats 4000000
namespace Go.Proofs.YtefccfakhgdfbabGreatDoor
section
theorem roots_nil (m n:Nat) (whole:Option Hsh):roots m n whole []=if m=n then whole.map fun a=>(a,a) else none:=by simp[roots,rootsR]
theorem roots_snoc (m n:Nat) (whole:Option Hsh) (q:List Hsh) (r:Hsh):roots m n whole (q ++ [r])=if m=n then (match whole with|some _=>none|none=>if q = [] then some (r,r) else none)
   else if m≤below n then (roots m (below n) whole q).map fun x=>(x.1,nodeH x.2 r) else (roots (m-below n) (n-below n) none q).map fun x=>(nodeH r x.1,nodeH r x.2):=by
 unfold roots below
 rw[List.reverse_append]
 simp only[List.reverse_cons,List.reverse_nil,List.nil_append,List.singleton_append,rootsR]
 cases whole <;> simp
def WholeAt (w:World) (v:Value) (whole:Option Hsh):Prop:=(v=.pointer none∧whole=none)∨∃ g h,v=.pointer (some ⟨g,0,none⟩)∧whole=some h∧hashOf w g h
def ExtendPost (m n:Nat) (whole:Option Hsh) (p:List Hsh) (w:World) (e:Ending) (w':World):Prop:=
 ∃ x y:Hsh,e=.returned (.tuple #[.agg (h8 x),.agg (h8 y),.bool (roots m n whole p).isSome])∧(∀ z,roots m n whole p=some z→(x,y)=z)∧Below w.heap.size w w'
theorem hashOf_cell {w:World} {g:Nat} {h:Hsh} (hh:hashOf w g h) (j:Nat) (hj:j<8):w.cell? ⟨g,j,none⟩=some (u8 h[j]):=by
 unfold hashOf at hh
 simp[World.cell?,hh,h8,hj]
theorem cell_setRow_ne {w:World} {g:Nat} {cs:Array Value} {b o:Nat} (h:b≠g):(w.setRow g cs).cell? ⟨b,o,none⟩=w.cell? ⟨b,o,none⟩:=cell_setRow_other w g cs ⟨b,o,none⟩ h
section
attribute [local go_sem] h8_0 h8_1 h8_2 h8_3 h8_4 h8_5 h8_6 h8_7 h8_fold h8_size cell_setRow_ne run_store8
theorem roots_whole (m:Nat) (a:Hsh) (p:List Hsh):roots m m (some a) p=if p.length=0 then some (a,a) else none:=by
 rcases List.eq_nil_or_concat p with rfl|⟨q,r,rfl⟩
 ·simp[roots_nil]
 ·rw[List.concat_eq_append] at *
  rw[roots_snoc,if_pos rfl];simp
theorem roots_one (m:Nat) (r:Hsh):roots m m none [r]=some (r,r):=by
 have:=roots_snoc m m none [] r
 simpa using this
theorem roots_other (m:Nat) (p:List Hsh) (h:p.length≠1):roots m m none p=none:=by
 rcases List.eq_nil_or_concat p with rfl|⟨q,r,rfl⟩
 ·simp[roots_nil]
 ·rw[List.concat_eq_append] at *
  rw[roots_snoc,if_pos rfl]
  have:q≠[]:=by intro e;subst e;simp at h
  simp[this]
theorem below2_ (w:World):Below w.heap.size w (((w.alloc (.cells zc 109)).alloc (.cells zc 109)).drew):=((below_alloc w _).alloc (by simp) _).drew
theorem slice_of {w:World} {v:Value} {p:List Hsh} (h:HashesAt w v p):∃ a c,v=.slice a p.length c:=by obtain⟨a,c,h1,_⟩:=h;exact⟨a,c,h1⟩
theorem extend_whole (m:Int) (g:Nat) (h:Hsh) (v:Value) (p:List Hsh) (w:World) (hp:HashesAt w v p) (hh:hashOf w g h) :
  Calls prog 144 #[.int .i64 m,.int .i64 m,v,.pointer (some ⟨g,0,none⟩)] w (ExtendPost m.toNat m.toNat (some h) p w):=by
 obtain⟨a,c,rfl⟩:=slice_of hp
 clear hp
 have c0:=hashOf_cell hh 0 (by decide)
 have c1:=hashOf_cell hh 1 (by decide)
 have c2:=hashOf_cell hh 2 (by decide)
 have c3:=hashOf_cell hh 3 (by decide)
 have c4:=hashOf_cell hh 4 (by decide)
 have c5:=hashOf_cell hh 5 (by decide)
 have c6:=hashOf_cell hh 6 (by decide)
 have c7:=hashOf_cell hh 7 (by decide)
 have hg:g<w.heap.size:=cell_lt c0
 have hg1:g<w.heap.size+1:=by omega
 have hn1:g≠w.heap.size:=by omega
 have hn2:g≠w.heap.size+1:=by omega
 have i1:Is8 (((w.alloc (.cells zc 109)).alloc (.cells zc 109)).drew) w.heap.size:=⟨zero8,hashOf_drew (hashOf_old (hashOf_zero' rfl) _)⟩
 have i2:Is8 (((w.alloc (.cells zc 109)).alloc (.cells zc 109)).drew) (w.heap.size+1):=⟨zero8,hashOf_drew (hashOf_zero' (by simp))⟩
 have i3:Is8 ((((w.alloc (.cells zc 109)).alloc (.cells zc 109)).drew).setRow w.heap.size (h8 h)) (w.heap.size+1):=⟨zero8,hashOf_other (hashOf_drew (hashOf_zero' (by simp))) _ (by omega)⟩
 have i4:Is8 ((((w.alloc (.cells zc 109)).alloc (.cells zc 109)).drew).setRow (w.heap.size+1) (h8 h)) w.heap.size:=⟨zero8,hashOf_other (hashOf_drew (hashOf_old (hashOf_zero' rfl) _)) _ (by omega)⟩
 have hl:((p.length:Int) == 0)=decide (p.length=0):=by
  rw[Bool.eq_iff_iff];simp
 have HL:=zh hl
 clear hl
 go_enter func144,ntmps144
 go_wp2_with fail
 go_region
 go_wp2
 refine ret88t w.heap.size (w.heap.size+1) h h (.bool ((p.length:Int) == 0)) rfl rfl rfl rfl _ underlying109 info8 (hashOf_other (hashOf_set' i1 _) _ (by omega)) (hashOf_set' i3 _) rfl ⟨h,h,?_,?_,below_setRow (below_setRow (below2_ w) (Nat.le_refl _) _) (by omega) _⟩
 ·rw[roots_whole,HL.o]
  by_cases h0:p.length=0 <;> simp[h0]
 ·intro z hz
  rw[roots_whole] at hz
  split at hz
  ·cases hz;rfl
  ·cases hz
theorem extend_one (m:Int) (r:Hsh) (v:Value) (w:World) (hp:HashesAt w v [r]) :
  Calls prog 144 #[.int .i64 m,.int .i64 m,v,.pointer none] w (ExtendPost m.toNat m.toNat none [r] w):=by
 obtain⟨a,c,rfl⟩:=slice_of hp
 obtain⟨g,off,rfl,hcap,hcell,_⟩:=hashes_init (q:=[]) (m:=0) hp rfl
 simp only[Nat.zero_mul,Nat.add_zero] at hcell
 have c0:w.cell? ⟨g,off,none⟩=some (u8 r[0]):=hcell 0 (by decide)
 have c1:=hcell 1 (by decide)
 have c2:=hcell 2 (by decide)
 have c3:=hcell 3 (by decide)
 have c4:=hcell 4 (by decide)
 have c5:=hcell 5 (by decide)
 have c6:=hcell 6 (by decide)
 have c7:=hcell 7 (by decide)
 have hg:g<w.heap.size:=cell_lt c0
 have hg1:g<w.heap.size+1:=by omega
 have hn1:g≠w.heap.size:=by omega
 have hn2:g≠w.heap.size+1:=by omega
 have i1:Is8 (((w.alloc (.cells zc 109)).alloc (.cells zc 109)).drew) w.heap.size:=⟨zero8,hashOf_drew (hashOf_old (hashOf_zero' rfl) _)⟩
 have i2:Is8 (((w.alloc (.cells zc 109)).alloc (.cells zc 109)).drew) (w.heap.size+1):=⟨zero8,hashOf_drew (hashOf_zero' (by simp))⟩
 have i3:Is8 ((((w.alloc (.cells zc 109)).alloc (.cells zc 109)).drew).setRow w.heap.size (h8 r)) (w.heap.size+1):=⟨zero8,hashOf_other (hashOf_drew (hashOf_zero' (by simp))) _ (by omega)⟩
 have i4:Is8 ((((w.alloc (.cells zc 109)).alloc (.cells zc 109)).drew).setRow (w.heap.size+1) (h8 r)) w.heap.size:=⟨zero8,hashOf_other (hashOf_drew (hashOf_old (hashOf_zero' rfl) _)) _ (by omega)⟩
 clear hcell hp
 go_enter func144,ntmps144
 go_wp2_with fail
 go_region
 go_wp2
 refine ret88t w.heap.size (w.heap.size+1) r r (.bool true) rfl rfl rfl rfl _ underlying109 info8 (hashOf_other (hashOf_set' i1 _) _ (by omega)) (hashOf_set' i3 _) rfl ⟨r,r,by rw[roots_one];rfl,?_,below_setRow (below_setRow (below2_ w) (Nat.le_refl _) _) (by omega) _⟩
 intro z hz
 rw[roots_one] at hz
 cases hz
 rfl
theorem extend_no (m n:Int) (pv:Value) (whole:Option Hsh) (v:Value) (p:List Hsh) (w:World) (hp:HashesAt w v p) (hw:WholeAt w pv whole) (hmn:m≤n) (hno:(m=n∧whole=none∧p.length≠1)∨(m≠n∧p = [])) (hm1:1≤m) :
  Calls prog 144 #[.int .i64 m,.int .i64 n,v,pv] w (ExtendPost m.toNat n.toNat whole p w):=by
 obtain⟨a,c,rfl⟩:=slice_of hp
 have hroots:roots m.toNat n.toNat whole p=none:=by
  rcases hno with ⟨rfl,rfl,h⟩|⟨h,rfl⟩
  ·exact roots_other _ _ h
  ·rw[roots_nil,if_neg (by omega)]
 have HR:=zh hroots
 clear hroots hp
 have fin:∀ (a:Act) ,a.tmps.getD 8 undef=.pointer (some ⟨w.heap.size,0,none⟩)→a.tmps.getD 9 undef=.pointer (some ⟨w.heap.size+1,0,none⟩)→a.tmps.getD 10 undef=.bool false→a.defers = []→
   bodyPost prog f144 (ExtendPost m.toNat n.toNat whole p w) .ret a (((w.alloc (.cells zc 109)).alloc (.cells zc 109)).drew):=fun a h1 h2 h3 h4=>
  ret88t w.heap.size (w.heap.size+1) zero8 zero8 (.bool false) rfl h1 h2 h3 _ underlying109 info8 (hashOf_drew (hashOf_old (hashOf_zero' rfl) _)) (hashOf_drew (hashOf_zero' (by simp))) h4
   ⟨zero8,zero8,by rw[HR.o];rfl,fun z hz=>(by rw[HR.o] at hz;cases hz),below2_ w⟩
 have FIN:=zh fin
 clear fin
 rcases hno with ⟨rfl,rfl,h⟩|⟨h,rfl⟩
 ·obtain rfl:pv=.pointer none:=by rcases hw with ⟨rfl,_⟩|⟨_,_,_,h,_⟩ <;> first|rfl|cases h
  have d1:((p.length:Int) == 1)=false:=by rw[beq_eq_false_iff_ne];omega
  go_enter func144,ntmps144
  go_wp2_with fail
  go_region
  go_wp2
  exact FIN.o _ rfl rfl rfl rfl
 ·have d1:(m == n)=false:=by rw[beq_eq_false_iff_ne];exact h
  clear hw
  go_enter func144,ntmps144
  go_wp2_with fail
  go_region
  go_wp2
  exact FIN.o _ rfl rfl rfl rfl
end
end
section
theorem sub_flat {es:List (List UInt8)} (i k:Nat) (hk:k≤4) (hk0:0<k) (hi:i<es.length) (hke:k=min 4 (es.length-i)) (hs:∀ e∈es,e.length≤20):bundleOf ((es.drop i).take k)=some (((es.map encE).drop i).take 4).flatten:=by
 have hl:((es.drop i).take k).length=k:=by rw[List.length_take,List.length_drop];omega
 rw[bundle_flat (by omega) (by omega) fun l hl=>hs l (List.mem_of_mem_drop (List.mem_of_mem_take hl)),List.map_take,List.map_drop]
 congr 2
 rcases Nat.lt_or_ge (es.length-i) 4 with h|h
 ·rw[List.take_of_length_le (i:=k) (by rw[List.length_drop,List.length_map];omega),List.take_of_length_le (i:=4) (by rw[List.length_drop,List.length_map];omega)]
 ·rw[show k=4 by omega]
theorem pub2_any (w:World) (g gd:Nat) (ve vl vp:Value) (vs:List Value) (L:Lg) (h:LogIs w g gd ve vl vp vs L) (pl:Nat) (hpl:w.cell? ⟨pl,0,none⟩=some (.pointer (some ⟨g,0,none⟩))) (j:Nat) (hj:4*j<L.entries.length) (hn:L.entries.length≤1048576) (hs:∀ e∈L.entries,e.length≤20) :
  Calls prog 78 #[.int .i64 (4*(j:Int)),.int .i64 (4*(j:Int)+((min 4 (L.entries.length-4*j):Nat):Int)),.pointer (some ⟨pl,0,none⟩)] w fun e w2=>∃ vb,e=.returned vb∧BytesAt w2 vb (((L.entries.map encE).drop (4*j)).take 4).flatten∧Below w.heap.size w w2:=by
 obtain⟨⟨_,_,c2,_,_,_⟩,_⟩:=h.heads
 obtain⟨vsr,hrow,hrb⟩:=h.ents
 obtain⟨b,cp,rfl,hcp⟩:∃ b cp,ve=.slice (some ⟨b,0,none⟩) L.entries.length cp∧L.entries.length≤cp:=by
  rcases hrow.2 with ⟨_,h0⟩|⟨b,cap,cur,e,_,_,hnc,_⟩
  ·omega
  ·exact⟨b,cap,e,hnc⟩
 obtain⟨k,hk⟩:∃ k,k=min 4 (L.entries.length-4*j):=⟨_,rfl⟩
 rw[←hk]
 have hvl:vsr.length=L.entries.length:=by simpa using hrow.1
 have hl:((L.entries.drop (4*j)).take k).length=k:=by rw[List.length_take,List.length_drop];omega
 have hb:BssAt w (.slice (some ⟨b,4*j,none⟩) k (cp-4*j)) ((L.entries.drop (4*j)).take k):=by
  refine⟨(vsr.drop (4*j)).take k,by rw[hl,List.length_take,List.length_drop];omega,⟨some ⟨b,4*j,none⟩,cp-4*j,by rw[hl],by rw[hl];omega,fun i x hx=>⟨b,4*j,rfl,?_⟩⟩,fun i u l hu hx=>?_⟩
  ·have hik:i<k:=by have:=(List.getElem?_eq_some_iff.1 hx).1;rw[List.length_take] at this;omega
   rw[List.getElem?_take_of_lt hik,List.getElem?_drop] at hx
   have h1:=hrow.cells (g:=b) rfl (4*j+i) x hx
   rw[Addr.add_lit] at h1
   simpa using h1
  ·have hik:i<k:=by have:=(List.getElem?_eq_some_iff.1 hx).1;rw[hl] at this;exact this
   rw[List.getElem?_take_of_lt hik,List.getElem?_drop] at hu hx
   exact (hrb (4*j+i) u l hu hx).at
 have hcon:=fbundle_any _ _ w hb (by rw[hl];omega)
 have hflat:=sub_flat (es:=L.entries) (4*j) k (by omega) (by omega) hj hk hs
 obtain⟨ln,hln⟩:∃ ln,ln=L.entries.length:=⟨_,rfl⟩
 rw[←hln] at c2 hcp hk hj
 have HFL:=zh hflat
 have hs1:(0:Int)≤4*(j:Int):=by omega
 have hs2:4*(j:Int)≤4*(j:Int)+(k:Int):=by omega
 have hs3:4*(j:Int)+(k:Int)≤(cp:Int):=by omega
 have ht1:(4*(j:Int)).toNat=4*j:=by omega
 have ht2:(4*(j:Int)+(k:Int)).toNat=4*j+k:=by omega
 have ht3:4*j+k-4*j=k:=by omega
 have ht4:¬ cp=4*j:=by omega
 have HCON:=zh hcon
 clear h hrow hrb hvl hl hb hcon hflat hk hln hj
 go_enter func78,ntmps78
 go_wp2_with fail
 refine HCON.o.mono ?_
 rintro e w2 ⟨v',rfl,hb2,h2⟩
 have HB2:=zh hb2
 have H2:=zh h2
 clear hb2 h2
 go_wp2_with fail
 go_ret
 rcases H2.o with ⟨h3,_⟩|⟨l,h3,ho,_⟩
 ·rw[HFL.o] at h3;cases h3
 ·rw[HFL.o] at h3
  cases h3
  exact⟨_,rfl,ho.at,HB2.o⟩
theorem hash_bytes {w:World} {g:Nat} {x:Hsh} (h:hashOf w g x):BytesAt w (.slice (some ⟨g,0,none⟩) 8 8) x.toList:=by
 unfold BytesAt
 refine⟨_,8,by simp,by simp,fun j y hy=>⟨g,0,rfl,?_⟩⟩
 have hj:j<8:=by have:=(List.getElem?_eq_some_iff.1 hy).1;simpa using this
 rw[show (x.toList.map u8)[j]?=some (u8 x[j]) by simp[hj]] at hy
 cases hy
 rw[Nat.zero_add]
 exact hashOf_cell h j hj
theorem h8_zip' (y:Hsh):Array.foldl (fun (cs:Array Value) (x:Value×Nat)=>cs.setIfInBounds x.snd x.fst) zc (h8 y).zipIdx 0 8=h8 y:=by
 rw[←h8_fold y]
 simp
section
attribute [local go_sem] h8_0 h8_1 h8_2 h8_3 h8_4 h8_5 h8_6 h8_7 h8_fold h8_size run_store8 h8_zip'
theorem pub3_any (w:World) (ph:Nat) (vh:Value) (hs:List Hsh) (hcell:w.cell? ⟨ph,0,none⟩=some vh) (hh:OwnHs w 0 vh hs) (j:Nat) (hj:4*j<hs.length) (hn:hs.length≤1048576) :
  Calls prog 80 #[.int .i64 (4*(j:Int)),.int .i64 (4*(j:Int)+((min 4 (hs.length-4*j):Nat):Int)),.pointer (some ⟨ph,0,none⟩)] w fun e w2=>∃ vb,e=.returned vb∧BytesAt w2 vb (((hs.map fun (h:Hsh)=>h.toList).drop (4*j)).take 4).flatten∧Below w.heap.size w w2:=by
 obtain⟨b,cp,rfl,hcp⟩:∃ b cp,vh=.slice (some ⟨b,0,none⟩) hs.length cp∧hs.length≤cp:=by
  rcases hh.2 with ⟨_,h0⟩|⟨b,cap,cur,e,_,_,hnc,_⟩
  ·omega
  ·exact⟨b,cap,e,hnc⟩
 obtain⟨k,hk⟩:∃ k,k=min 4 (hs.length-4*j):=⟨_,rfl⟩
 rw[←hk]
 obtain⟨ln,hln⟩:∃ ln,ln=hs.length:=⟨_,rfl⟩
 have HH:=zh hh
 rw[←hln] at hcell hcp hk hj
 have hs1:(0:Int)≤4*(j:Int):=by omega
 have hs2:4*(j:Int)≤4*(j:Int)+(k:Int):=by omega
 have hs3:4*(j:Int)+(k:Int)≤(cp:Int):=by omega
 have ht1:(4*(j:Int)).toNat=4*j:=by omega
 have ht2:(4*(j:Int)+(k:Int)).toNat=4*j+k:=by omega
 have ht3:4*j+k-4*j=k:=by omega
 have ht4:¬ cp=4*j:=by omega
 have hk4:k≤4:=by omega
 have HK:=zh hk
 have HLN:=zh hln
 have HJ:=zh hj
 obtain⟨i0,hi,hz0,hz1,hz2⟩:=info_parts info_u8
 have HI:=zh (⟨hi,hz0,hz1,hz2⟩:_∧_∧_∧_)
 clear hh hk hln hj hi hz0 hz1 hz2 hcp
 go_enter func80,ntmps80
 go_wp2_with fail
 go_loopg [5,13] k (fun gg s5 s13 wr=>∃ i:Nat,i≤k∧k-i≤gg∧s13=.int .i64 i∧∃ bs:List UInt8,Aside (bs=((hs.drop (4*j)).take i).flatMap fun (h:Hsh)=>h.toList)∧Aside (wr.ownsRow w.heap.size 5 1 s5 bs.length (bs.map u8))∧Aside (Below w.heap.size w wr))
 case atStart=>exact⟨0,by omega,by omega,rfl,[],rfl,World.ownsRow_nil _ _ _ _,Below.refl _ _⟩
 case round=>
  obtain⟨i,hi,hgg,rfl,bs,HBS,HR,HB⟩:=hrel
  by_cases hlt:i<k
  ·have hltz:(i:Int)<(k:Int):=by omega
   have hi0:(0:Int)≤(i:Int):=by omega
   obtain⟨x,hx⟩:∃ x,hs[4*j+i]?=some x:=⟨_,List.getElem?_eq_getElem (by have:=HK.o;have:=HLN.o;have:=HJ.o;omega)⟩
   have kc:∀ c (hc:c<8),wr.cell? ⟨b,4*j*8+i*8+c,none⟩=some (Go.Proofs.YtefccfakhgdfbabGreatDoor.u8 x[c]):=fun c hc=>by
    have h1:=hashes_cell HH.o hx c hc
    rw[show (4*j+i)*8+c=4*j*8+i*8+c by omega] at h1
    exact (HB.o.cell (p:=⟨b,4*j*8+i*8+c,none⟩) (cell_lt h1)).trans h1
   have k0:wr.cell? ⟨b,4*j*8+i*8,none⟩=some (Go.Proofs.YtefccfakhgdfbabGreatDoor.u8 x[0]):=kc 0 (by decide)
   have k1:wr.cell? ⟨b,4*j*8+i*8+1,none⟩=some (Go.Proofs.YtefccfakhgdfbabGreatDoor.u8 x[1]):=kc 1 (by decide)
   have k2:wr.cell? ⟨b,4*j*8+i*8+2,none⟩=some (Go.Proofs.YtefccfakhgdfbabGreatDoor.u8 x[2]):=kc 2 (by decide)
   have k3:wr.cell? ⟨b,4*j*8+i*8+3,none⟩=some (Go.Proofs.YtefccfakhgdfbabGreatDoor.u8 x[3]):=kc 3 (by decide)
   have k4:wr.cell? ⟨b,4*j*8+i*8+4,none⟩=some (Go.Proofs.YtefccfakhgdfbabGreatDoor.u8 x[4]):=kc 4 (by decide)
   have k5:wr.cell? ⟨b,4*j*8+i*8+5,none⟩=some (Go.Proofs.YtefccfakhgdfbabGreatDoor.u8 x[5]):=kc 5 (by decide)
   have k6:wr.cell? ⟨b,4*j*8+i*8+6,none⟩=some (Go.Proofs.YtefccfakhgdfbabGreatDoor.u8 x[6]):=kc 6 (by decide)
   have k7:wr.cell? ⟨b,4*j*8+i*8+7,none⟩=some (Go.Proofs.YtefccfakhgdfbabGreatDoor.u8 x[7]):=kc 7 (by decide)
   have HX:=zh hx
   have hin:Is8 (wr.alloc (.cells zc 109)) wr.heap.size:=Is8_zero rfl
   have hst:hashOf ((wr.alloc (.cells zc 109)).setRow wr.heap.size (h8 x)) wr.heap.size x:=hashOf_set' hin x
   have hbl:bs.length≤1099511627776:=by
    rw[HBS.o]
    have h1:=flatten_le (((hs.drop (4*j)).take i).map fun (h:Hsh)=>h.toList) 8 (fun y hy=>by obtain⟨z,_,rfl⟩:=List.mem_map.1 hy;simp)
    rw[←List.flatMap_def,List.length_map,List.length_take] at h1
    omega
   have hbw:Below wr.heap.size wr ((wr.alloc (.cells zc 109)).setRow wr.heap.size (h8 x)):=below_setRow (below_alloc wr _) (Nat.le_refl _) _
   have HST:=zh hst
   have HBW:=zh hbw
   have hsz:w.heap.size≤((wr.alloc (.cells zc 109)).setRow wr.heap.size (h8 x)).heap.size:=Nat.le_trans HB.o.size hbw.size
   have HSZ:=zh hsz
   have HRW:=zh (ownsRow_below HR.o hbw)
   clear hx kc hst hbw hsz
   go_wp2_with (at_builtin;refine wpList_appB rfl _ _ 94 rfl w.heap.size i0 underlying94 HI.o.1 HI.o.2.1 HI.o.2.2.1 HI.o.2.2.2 _ bs.length (bs.map Go.Proofs.YtefccfakhgdfbabGreatDoor.u8) rfl HRW.o _ x.toList rfl (hash_bytes HST.o) hbl (by simp) HSZ.o ?_;intro v' w' h2 h3 h4;have H2:=zh h2;have H3:=zh h3;clear h2 h3 h4)
   go_roundg (k-(i+1))
   case measure=>omega
   case rel=>
    refine⟨i+1,by omega,by omega,by go_num,bs++x.toList,?_,?_,?_⟩
    ·show bs++x.toList=_
     rw[List.take_add_one,List.getElem?_drop,HX.o,HBS.o,List.flatMap_append]
     simp
    ·have h1:=H2.o
     rw[List.length_append,List.map_append]
     rw[show x.toList.length=8 by simp] at h1 ⊢
     exact h1
    ·exact (HB.o.trans (HBW.o.mono HB.o.size)).grown H3.o HSZ.o (fun k hk=>(HR.o.lt k hk).1)
  ·have hltz:¬ (i:Int)<(k:Int):=by omega
   have hik:i=k:=by omega
   have HIK:=zh hik
   clear hik
   go_wp2_with fail
   go_ret
   refine⟨_,rfl,?_,HB.o⟩
   have h1:=(ownsRow_bytes HR.o).at
   have e:bs=(((hs.map fun (h:Hsh)=>h.toList).drop (4*j)).take 4).flatten:=by
    have hl:(hs.drop (4*j)).length=ln-4*j:=by rw[List.length_drop,HLN.o]
    rw[HBS.o,HIK.o,←List.map_drop,←List.map_take,List.flatMap_def]
    congr 2
    rcases Nat.lt_or_ge (ln-4*j) 4 with h|h
    ·rw[List.take_of_length_le (i:=k) (by have:=HK.o;omega),List.take_of_length_le (i:=4) (by omega)]
    ·rw[show k=4 by have:=HK.o;omega]
   rw[←e]
   exact h1
end
end
section
theorem bothS_lt {w:World} {g gd:Nat} {v ve vl vp:Value} {vs:List Value} {L:Lg} {d:Dk} (h:LogIs w g gd ve vl vp vs L) (hD:DiskAt w gd v d) {k:Nat} (hk:bothS g gd v ve vl vp vs k):k<w.heap.size:=by
 rcases hk with (hk|hk)|hk
 ·rw[hk];exact hD.lt
 ·obtain⟨C,hC⟩:=ownBlock_type hD.2 hk
  exact lt_of_heap hC
 ·obtain⟨C,t,hC,_⟩:=h.kinds hk
  exact lt_of_heap hC
structure Pk (w:World) (B g gd:Nat) (v ve vl vp:Value) (vs:List Value) (L:Lg) (v' vp':Value) (d':Dk) (ps:List Nat) (w':World):Prop where
 disk:DiskAt w' gd v' d'
 log:LogIs w' g gd ve vl vp' vs { L with put:=ps }
 fr:Fr (bothS g gd v ve vl vp vs) w w'
 sub:∀ k,bothS g gd v' ve vl vp' vs k→bothS g gd v ve vl vp vs k∨B≤k
 lo:∀ k,bothS g gd v ve vl vp vs k→k<w.heap.size
 size:B≤w'.heap.size
 base:w.heap.size≤B
section
variable {w w1 w2:World} {B g gd:Nat} {v v1 v2 ve vl vp vp1 vp2:Value} {vs:List Value} {L:Lg} {d1 d2:Dk} {ps ps2:List Nat}
theorem Pk.o (h:Pk w B g gd v ve vl vp vs L v1 vp1 d1 ps w1) {b:Nat} (h1:w.heap.size≤b) (h2:b<B):¬ bothS g gd v1 ve vl vp1 vs b:=fun hk=>by
 rcases h.sub b hk with h3|h3
 ·have:=h.lo b h3;omega
 ·omega
theorem Pk.subw (h:Pk w B g gd v ve vl vp vs L v1 vp1 d1 ps w1):Sub w (bothS g gd v ve vl vp vs) (bothS g gd v1 ve vl vp1 vs):=fun k hk=>(h.sub k hk).imp id (Nat.le_trans h.base)
theorem Pk.write (h:Pk w B g gd v ve vl vp vs L v1 vp1 d1 ps w1) (k:Wk w1 g gd v1 ve vl vp1 vs { L with put:=ps } v2 vp2 d2 ps2 w2):Pk w B g gd v ve vl vp vs L v2 vp2 d2 ps2 w2 where
 disk:=k.disk
 log:=k.log
 fr:=Fr.sub h.fr k.fr h.subw
 sub i hi:=by
  rcases k.sub i hi with h1|h1
  ·exact h.sub i h1
  ·exact .inr (Nat.le_trans h.size h1)
 lo:=h.lo
 size:=Nat.le_trans h.size k.fr.size
 base:=h.base
theorem Pk.below (h:Pk w B g gd v ve vl vp vs L v1 vp1 d1 ps w1) (hb:Below w1.heap.size w1 w2):Pk w B g gd v ve vl vp vs L v1 vp1 d1 ps w2 where
 disk:=h.disk.below hb
 log:=h.log.below hb
 fr:=h.fr.trans (Fr.ofBelow hb)
 sub:=h.sub
 lo:=h.lo
 size:=Nat.le_trans h.size hb.size
 base:=h.base
theorem Pk.var (h:Pk w B g gd v ve vl vp vs L v1 vp1 d1 ps w1) {b:Nat} (h1:w.heap.size≤b) (h2:b<B) {C:Array Value} {t:TypeId} {fz:Nat×Nat} (hC:w1.heap[b]?=some (.cells C t fz)) (ht:t≠5) (hf:Fr (·=b) w1 w2):Pk w B g gd v ve vl vp vs L v1 vp1 d1 ps w2 where
 disk:=h.disk.fr hf fun k hk e=>h.o h1 h2 (e ▸ .inl hk)
 log:=h.log.fr hf (fun k hk e=>h.o h1 h2 (e ▸ .inr hk)) fun k C' fz' hk e=>by
  subst e
  rw[hC] at hk
  cases hk
  exact ht rfl
 fr:=h.fr.step hf fun k hk e=>by omega
 sub:=h.sub
 lo:=h.lo
 size:=Nat.le_trans h.size hf.size
 base:=h.base
theorem Pk.keeps (h:Pk w B g gd v ve vl vp vs L v1 vp1 d1 ps w1) (hf:Fr (bothS g gd v1 ve vl vp1 vs) w1 w2) {b:Nat} (h1:w.heap.size≤b) (h2:b<B) {o:Obj} (ho:w1.heap[b]?=some o):w2.heap[b]?=some o:=hf.heap ho (h.o h1 h2)
theorem Pk.wk (h:Pk w B g gd v ve vl vp vs L v1 vp1 d1 ps w1):Wk w1 g gd v1 ve vl vp1 vs { L with put:=ps } v1 vp1 d1 ps w1:=⟨h.disk,h.log,Fr.refl _ _,Sub.refl _ _⟩
end
section
variable (pe pn pl g:Nat) (u:FrameMode) (w:World)
theorem pub1_nil (he:w.cell? ⟨pe,0,none⟩=some .nilIface) :
  CallsD prog 76 #[.pointer (some ⟨pe,0,none⟩),.pointer (some ⟨pn,0,none⟩),.pointer (some ⟨pl,0,none⟩)] u w fun e u' w'=>u'=u∧(e=.returned (.tuple #[])∧w'=w):=by
 have hn:=neq_nils w
 go_enter_d func76,ntmps76
 go_wp2
 go_end0
 first|exact⟨rfl,rfl,rfl⟩|exact⟨rfl,rfl⟩|simp
theorem pub1_err {t:TypeId} {x y:Value} (he:w.cell? ⟨pe,0,none⟩=some (.iface t x)) (hl:w.cell? ⟨pl,0,none⟩=some (.pointer (some ⟨g,0,none⟩))) (hn:w.cell? ⟨pn,0,none⟩=some y) (hy:∃ n,y=.int .i64 n) (hnf:w.frozen? ⟨pn,0,none⟩=false) {b:Bool} (hg:w.cell? ⟨g,5,none⟩=some (.bool b)) (hgf:w.frozen? ⟨g,5,none⟩=false) (hgn:¬ g=pn) :
  CallsD prog 76 #[.pointer (some ⟨pe,0,none⟩),.pointer (some ⟨pn,0,none⟩),.pointer (some ⟨pl,0,none⟩)] u w fun e u' w'=>u'=u∧(e=.returned (.tuple #[])∧w'=(w.setCell ⟨pn,0,none⟩ (.int .i64 0)).setCell ⟨g,5,none⟩ (.bool true)):=by
 have hnn:=neq_nil w t x
 obtain⟨n,rfl⟩:=hy
 go_enter_d func76,ntmps76
 go_wp2
 go_end0
 first|exact⟨rfl,rfl,rfl⟩|exact⟨rfl,rfl⟩|simp
end
end
section
section
variable {P:Program} {md:Region.Mode} {ops:Array Oper} {Q:Exit→Act→World→Prop}
theorem wpAny_inv (I:Nat→Array Bool→Act→World→Prop) (h0:∀ L a w,I 0 L a w→Region.ready md ops L = []∧Q .normal a w)
  (h1:∀ f L a w,I (f+1) L a w→Region.ready md ops L≠[]∧∀ i∈Region.ready md ops L,wpOp P ops Q i (I f (L.setIfInBounds i true)) a w) :
  ∀ (f:Nat) (L:Array Bool) (a:Act) (w:World),I f L a w→wpAny P md ops Q f L a w
 | 0,L,a,w,h=>h0 L a w h
 | f+1,L,a,w,h=>⟨fun hr=>absurd hr (h1 f L a w h).1,fun i hi=>wpOp_mono (fun a' w' h'=>wpAny_inv I h0 h1 f _ a' w' h') ((h1 f L a w h).2 i hi)⟩
theorem wpOp_of {i:Nat} {o:Oper} {K:Act→World→Prop} {a:Act} {w:World} (hi:ops[i]?=some o) (hg:o.guard=none) (h:o.wp P a w K Q):wpOp P ops Q i K a w:=by
 have hw:Region.wanted o (yielded ops a.tmps)=true:=by unfold Region.wanted;rw[hg]
 unfold wpOp
 rw[hi]
 simp only[hw,if_true]
 exact Or.inl h
theorem getD_put {a:Act} {d k:Nat} {v x:Value} (hk:a.tmps.getD k undef=x) (hne:d≠k):(a.put (some d) v).tmps.getD k undef=x:=by
 unfold Act.put
 simp only[Array.getD_eq_getD_getElem?,Array.getElem?_setIfInBounds] at *
 rw[if_neg hne]
 exact hk
theorem getD_put_same {a:Act} {d:Nat} {v:Value} (hd:d<a.tmps.size):(a.put (some d) v).tmps.getD d undef=v:=by
 unfold Act.put
 simp[Array.getD_eq_getD_getElem?,hd]
theorem put_size {a:Act} {d:Option Tmp} {v:Value}:(a.put d v).tmps.size=a.tmps.size:=by
 cases d <;> simp[Act.put]
theorem put_defers {a:Act} {d:Option Tmp} {v:Value}:(a.put d v).defers=a.defers:=by
 cases d <;> rfl
def bs (b:Nat→Bool):Array Bool:=#[b 0,b 1,b 2,b 3,b 4,b 5,b 6,b 7,b 8,b 9]
def left (b:Nat→Bool):Nat:=(!b 0).toNat+(!b 1).toNat+(!b 2).toNat+(!b 3).toNat+(!b 4).toNat+(!b 5).toNat+(!b 6).toNat+(!b 7).toNat+(!b 8).toNat+(!b 9).toNat
def upd (b:Nat→Bool) (i:Nat):Nat→Bool:=fun j=>if j=i then true else b j
theorem bs_upd (b:Nat→Bool) (i:Nat) (hi:i<10):(bs b).setIfInBounds i true=bs (upd b i):=by
 have:i=0∨i=1∨i=2∨i=3∨i=4∨i=5∨i=6∨i=7∨i=8∨i=9:=by omega
 rcases this with rfl|rfl|rfl|rfl|rfl|rfl|rfl|rfl|rfl|rfl <;> rfl
theorem left_upd (b:Nat→Bool) (i:Nat) (hi:i<10) (hb:b i=false) (f:Nat) (h:f+1=left b):f=left (upd b i):=by
 have:i=0∨i=1∨i=2∨i=3∨i=4∨i=5∨i=6∨i=7∨i=8∨i=9:=by omega
 rcases this with rfl|rfl|rfl|rfl|rfl|rfl|rfl|rfl|rfl|rfl <;> (simp only[left,upd,hb,Bool.not_false,Bool.toNat_true] at *;simp;omega)
theorem wp_call2 {o:Oper} {K:Act→World→Prop} {a:Act} {w:World} (f:FuncId) (x y:Operand) (ts:Array TypeId) (ho:o.op=.call { callee:=.value (.func f),args:=#[x,y],argTypes:=ts })
  (hf:∀ args w,(callFunc f args).run P w=.ok (.enter f args) w) (h:Calls P f #[a.eval x,a.eval y] w fun e w'=>∃ v,e=.returned v∧K (a.put o.dst v) w'):o.wp P a w K Q:=by
 have hr:(execOp a.eval o).run P w=.ok (.enter f #[a.eval x,a.eval y]) w:=by
  unfold execOp
  rw[ho]
  go_simp
 unfold Oper.wp
 rw[hr,Oper.upon_enter]
 refine h.mono ?_
 rintro e w' ⟨v,rfl,hk⟩
 exact hk
end
end
section
abbrev bv (x:UInt8):Value:=.int .u8 x.toNat
def OwnRow (w:World) (base:Nat) (v:Value) (l:List UInt8):Prop:=w.ownsRow base 5 1 v l.length (l.map bv)
theorem OwnRow.bytes {w:World} {base:Nat} {v:Value} {l:List UInt8} (h:OwnRow w base v l):BytesAt w v l:=ownsRow_cells h
theorem index_h8 (h:Hsh) (k:Nat) (hk:k<8) (w:World):(Instr.index 109 (.agg (h8 h)) (.int .i64 k)).run prog w=.ok (bv (h.toList.getD k 0)) w:=by
 have hu:=underlying109
 have hs:(sizeOf 5).run prog w=.ok 1 w:=by kernel_rfl
 have hg:(isAgg 5).run prog w=.ok false w:=by kernel_rfl
 have hx:(h8 h)[k]?=some (bv (h.toList.getD k 0)):=by simp[h8,hk,List.getD]
 simp[Instr.index,asIntOf,run_underlying hu,Go.part,hs,hg,hk,hx]
 simp[h8]
def kHex:ByteArray:=⟨#[48,49,50,51,52,53,54,55,56,57,97,98,99,100,101,102]⟩
theorem kHex_get (n:Nat) (h:n<16):kHex[n]?=some (hexD n):=by
 have:∀ m:Fin 16,kHex[m.1]?=some (hexD m.1):=by decide
 exact this ⟨n,h⟩
theorem index_hex (n:Nat) (h:n<16) (w:World):(Instr.index 9 (.string kHex) (.int .u8 n)).run prog w=.ok (bv (hexD n)) w:=by
 have hu:=underlying9
 have hx:=kHex_get n h
 simp[Instr.index,asIntOf,run_underlying hu,hx]
theorem shr_val (x:UInt8) (w:World):(binOp .shr 5 (bv x) (.int .u64 4)).run prog w=.ok (.int .u8 ((x.toNat / 16:Nat):Int)) w:=by
 go_simp
theorem and_val (x:UInt8) (w:World):(binOp .and 5 (bv x) (.int .u8 15)).run prog w=.ok (.int .u8 ((x.toNat%16:Nat):Int)) w:=by
 go_simp
 have h:∀ n:Fin 256,bits BinOp.and IntKind.u8 ((n.1:Nat):Int) 15=(n.1:Int)%16:=by decide +kernel
 exact h ⟨x.toNat,x.toNat_lt⟩
theorem build2 (p q:UInt8) (w:World):(Instr.buildSlice 94 2 #[(0,bv p),(1,bv q)]).run prog w=.ok (.slice (some ⟨w.heap.size,0,none⟩) 2 2) (w.alloc (.cells #[bv p,bv q] 5)):=by
 kernel_rfl
end
section
theorem wp_val {P:Program} {o:Oper} {K:Act→World→Prop} {Q:Exit→Act→World→Prop} {a:Act} {w:World} (val:Value) (hr:(execOp a.eval o).run P w=.ok (.value val) w) (h:K (a.put o.dst val) w):o.wp P a w K Q:=by
 unfold Oper.wp
 rw[hr]
 exact h
theorem wp_valw {P:Program} {o:Oper} {K:Act→World→Prop} {Q:Exit→Act→World→Prop} {a:Act} {w:World} (val:Value) (w':World) (hr:(execOp a.eval o).run P w=.ok (.value val) w') (h:K (a.put o.dst val) w'):o.wp P a w K Q:=by
 unfold Oper.wp
 rw[hr]
 exact h
structure InHex (base:Array Value) (v:Value) (x p q:UInt8) (l:List UInt8) (B:Nat) (W:World) (b:Nat→Bool) (a:Act) (w:World):Prop where
 d:a.defers = []
 s:a.tmps.size=22
 t5:a.tmps.getD 5 undef=bv x
 keep:∀ k,k≠3→(k<10∨18<k)→a.tmps.getD k undef=base.getD k undef
 t3:b 9=false→a.tmps.getD 3 undef=v
 r0:b 0=true→a.tmps.getD 10 undef=v
 r1:b 1=true→a.tmps.getD 11 undef=bv x
 r2:b 2=true→a.tmps.getD 12 undef=.int .u8 ((x.toNat / 16:Nat):Int)
 r3:b 3=true→a.tmps.getD 13 undef=bv p
 r4:b 4=true→a.tmps.getD 14 undef=bv x
 r5:b 5=true→a.tmps.getD 15 undef=.int .u8 ((x.toNat%16:Nat):Int)
 r6:b 6=true→a.tmps.getD 16 undef=bv q
 r7:b 7=true→a.tmps.getD 17 undef=.slice (some ⟨W.heap.size,0,none⟩) 2 2
 w0:b 7=false→w=W
 w1:b 7=true→b 8=false→w=W.alloc (.cells #[bv p,bv q] 5)
 r8:b 8=true→OwnRow w B (a.tmps.getD 18 undef) (l ++ [p,q])∧W.grownBy w v.ownBlock
 e9:b 9=true→b 8=true∧a.tmps.getD 3 undef=a.tmps.getD 18 undef
 c8:b 8=true→b 7=true
 c80:b 8=true→b 0=true
theorem wp_app2 {P:Program} {o:Oper} {a:Act} {K:Act→World→Prop} {Q:Exit→Act→World→Prop} {w:World} (s x:Operand) (t:TypeId)
  (ho:o.op=.call { callee:=.builtin .append,args:=#[s,x],argTypes:=#[t,t] })
  (base:Nat) (i:TypeInfo) (ht:P.underlying t=some (.slice 5)) (hi:P.info? 5=some i) (hz:i.zero=some (.int .u8 0)) (hsize:i.size=1) (hby:i.bytes=1)
  (v:Value) (l:List UInt8) (hs:a.eval s=v) (hown:OwnRow w base v l) (p q:UInt8) (hx:a.eval x=.slice (some ⟨w.heap.size,0,none⟩) 2 2)
  (hn:l.length≤1099511627776) (hbase:base≤w.heap.size)
  (h:∀ v' w',OwnRow w' base v' (l ++ [p,q])→w.grownBy w' v.ownBlock→K (a.put o.dst v') w') :
  o.wp P a (w.alloc (.cells #[bv p,bv q] 5)) K Q:=by
 refine wp_append_own _ s x t ho base _ i _ 1 1 ht hi hz hsize hby rfl (by decide) v _ _ hs (World.ownsRow.alloc hown _) ⟨w.heap.size,0,none⟩ 2 2 [bv p,bv q] hx rfl ?_ (by simp[Value.oneCell']) (by unfold maxLen;omega) (by omega) (by simp;omega) fun v' w' h2 h3 _=>?_
 ·intro j u hj
  rw[Addr.add_lit,Nat.zero_add,World.cell?_alloc_at _ _ _ _ rfl]
  simpa using hj
 ·refine h v' w' ?_ (grownBy_trans (World.grownBy_alloc w _ _) h3)
  unfold OwnRow
  simpa using h2
theorem drawHex {base:Array Value} {v:Value} {x p q:UInt8} {l:List UInt8} {B:Nat} {W:World} {ops:Array Oper} {Q:Exit→Act→World→Prop}
  (r:∀ b:Nat→Bool,∀ i∈Region.ready .any ops (bs b),i<10∧b i=false∧(i=2→b 1=true)∧(i=3→b 2=true)∧(i=5→b 4=true)∧(i=6→b 5=true)∧(i=7→b 3=true∧b 6=true)∧(i=8→b 0=true∧b 7=true)∧(i=9→b 8=true))
  (r0:∀ b:Nat→Bool,left b=0→Region.ready .any ops (bs b) = []) (r1:∀ (b:Nat→Bool) (f:Nat),f+1=left b→Region.ready .any ops (bs b)≠[])
  (o0:∃ (o:Oper),ops[0]?=some o∧o.guard=none∧o.dst=some 10∧o.op=.move (.tmp 3))
  (o1:∃ (o:Oper),ops[1]?=some o∧o.guard=none∧o.dst=some 11∧o.op=.move (.tmp 5))
  (o2:∃ (o:Oper) (ty:TypeId),ops[2]?=some o∧o.guard=none∧o.dst=some 12∧o.op=.binOp .shr 5 (.tmp 11) (.const (.int .u64 4)) ty)
  (o3:∃ (o:Oper),ops[3]?=some o∧o.guard=none∧o.dst=some 13∧o.op=.index 9 (.const (.string kHex)) (.tmp 12))
  (o4:∃ (o:Oper),ops[4]?=some o∧o.guard=none∧o.dst=some 14∧o.op=.move (.tmp 5))
  (o5:∃ (o:Oper) (ty:TypeId),ops[5]?=some o∧o.guard=none∧o.dst=some 15∧o.op=.binOp .and 5 (.tmp 14) (.const (.int .u8 15)) ty)
  (o6:∃ (o:Oper),ops[6]?=some o∧o.guard=none∧o.dst=some 16∧o.op=.index 9 (.const (.string kHex)) (.tmp 15))
  (o7:∃ (o:Oper),ops[7]?=some o∧o.guard=none∧o.dst=some 17∧o.op=.buildSlice 94 2 #[(0,.tmp 13),(1,.tmp 16)])
  (o8:∃ (o:Oper),ops[8]?=some o∧o.guard=none∧o.dst=some 18∧o.op=.call { callee:=.builtin .append,args:=#[.tmp 10,.tmp 17],argTypes:=#[94,94] })
  (o9:∃ (o:Oper),ops[9]?=some o∧o.guard=none∧o.dst=some 3∧o.op=.assign (.tmp 18))
  (hp:p=hexD (x.toNat / 16)) (hq:q=hexD (x.toNat%16)) (hown:OwnRow W B v l) (hll:l.length≤1000) (hB:B≤W.heap.size)
  (hQ:∀ a w,InHex base v x p q l B W (fun _=>true) a w→Q .normal a w) :
  ∀ a w,InHex base v x p q l B W (fun _=>false) a w→wpAny prog .any ops Q 10 (Array.replicate 10 false) a w:=by
 obtain⟨i0,hi0,hz0,hz1,hz2⟩:=info_parts info_u8
 have hxb:=x.toNat_lt
 intro a w h
 refine wpAny_inv (fun f L a w=>∃ b,L=bs b∧f=left b∧InHex base v x p q l B W b a w) ?_ ?_ 10 _ a w ⟨fun _=>false,rfl,rfl,h⟩
 ·rintro L a w ⟨b,rfl,hf,h⟩
  refine⟨r0 b hf.symm,hQ a w ?_⟩
  have hh:∀ c:Bool,(!c).toNat=0→c=true:=by intro c;cases c <;> simp
  unfold left at hf
  have e:∀ k,k<10→b k=true:=by
   intro k hk
   have:k=0∨k=1∨k=2∨k=3∨k=4∨k=5∨k=6∨k=7∨k=8∨k=9:=by omega
   rcases this with rfl|rfl|rfl|rfl|rfl|rfl|rfl|rfl|rfl|rfl <;> exact hh _ (by omega)
  exact { d:=h.d,s:=h.s,t5:=h.t5,keep:=h.keep,t3:=fun k=>absurd k (by decide),r0:=fun _=>h.r0 (e 0 (by omega)),r1:=fun _=>h.r1 (e 1 (by omega)),r2:=fun _=>h.r2 (e 2 (by omega)),r3:=fun _=>h.r3 (e 3 (by omega)),r4:=fun _=>h.r4 (e 4 (by omega)),r5:=fun _=>h.r5 (e 5 (by omega)),r6:=fun _=>h.r6 (e 6 (by omega)),r7:=fun _=>h.r7 (e 7 (by omega)),w0:=fun k=>absurd k (by decide),w1:=fun _ k=>absurd k (by decide),r8:=fun _=>h.r8 (e 8 (by omega)),e9:=fun _=>⟨rfl,(h.e9 (e 9 (by omega))).2⟩,c8:=fun _=>rfl,c80:=fun _=>rfl }
 ·rintro f L a w ⟨b,rfl,hf,h⟩
  refine⟨r1 b f hf,fun i hi=>?_⟩
  obtain⟨hi10,hbi,d2,d3,d5,d6,d7,d8,d9⟩:=r b i hi
  have hL:=bs_upd b i hi10
  have hF:=left_upd b i hi10 hbi f hf
  have:i=0∨i=1∨i=2∨i=3∨i=4∨i=5∨i=6∨i=7∨i=8∨i=9:=by omega
  rcases this with rfl|rfl|rfl|rfl|rfl|rfl|rfl|rfl|rfl|rfl
  ·obtain⟨o,h1,h2,h3,h4⟩:=o0
   have n9:b 9=false:=by rcases hh:b 9 with _|_;rfl;exact absurd (h.c80 (h.e9 hh).1) (by rw[hbi];decide)
   refine wpOp_of h1 h2 (BigFrame.wp_move _ h4 ⟨upd b 0,hL,hF,?_⟩)
   rw[h3,show a.eval (.tmp 3)=v from h.t3 n9]
   exact { d:=put_defers.trans h.d,s:=by rw[put_size];exact h.s,t5:=getD_put h.t5 (by decide),keep:=fun k h3 hk=>getD_put (h.keep k h3 hk) (by omega),t3:=fun e=>getD_put (h.t3 e) (by decide),r0:=fun _=>getD_put_same (by rw[h.s];decide),r1:=fun e=>getD_put (h.r1 e) (by decide),r2:=fun e=>getD_put (h.r2 e) (by decide),r3:=fun e=>getD_put (h.r3 e) (by decide),r4:=fun e=>getD_put (h.r4 e) (by decide),r5:=fun e=>getD_put (h.r5 e) (by decide),r6:=fun e=>getD_put (h.r6 e) (by decide),r7:=fun e=>getD_put (h.r7 e) (by decide),w0:=h.w0,w1:=h.w1,c8:=h.c8,c80:=fun _=>rfl,r8:=fun e=>(by rw[getD_put rfl (by decide)];exact h.r8 e),e9:=fun e=>⟨(h.e9 e).1,by rw[getD_put rfl (by decide),getD_put rfl (by decide)];exact (h.e9 e).2⟩ }
  ·obtain⟨o,h1,h2,h3,h4⟩:=o1
   refine wpOp_of h1 h2 (BigFrame.wp_move _ h4 ⟨upd b 1,hL,hF,?_⟩)
   rw[h3,show a.eval (.tmp 5)=bv x from h.t5]
   exact { d:=put_defers.trans h.d,s:=by rw[put_size];exact h.s,t5:=getD_put h.t5 (by decide),keep:=fun k h3 hk=>getD_put (h.keep k h3 hk) (by omega),t3:=fun e=>getD_put (h.t3 e) (by decide),r0:=fun e=>getD_put (h.r0 e) (by decide),r1:=fun _=>getD_put_same (by rw[h.s];decide),r2:=fun e=>getD_put (h.r2 e) (by decide),r3:=fun e=>getD_put (h.r3 e) (by decide),r4:=fun e=>getD_put (h.r4 e) (by decide),r5:=fun e=>getD_put (h.r5 e) (by decide),r6:=fun e=>getD_put (h.r6 e) (by decide),r7:=fun e=>getD_put (h.r7 e) (by decide),w0:=h.w0,w1:=h.w1,c8:=h.c8,c80:=h.c80,r8:=fun e=>(by rw[getD_put rfl (by decide)];exact h.r8 e),e9:=fun e=>⟨(h.e9 e).1,by rw[getD_put rfl (by decide),getD_put rfl (by decide)];exact (h.e9 e).2⟩ }
  ·obtain⟨o,ty,h1,h2,h3,h4⟩:=o2
   have e1:a.eval (.tmp 11)=bv x:=h.r1 (d2 rfl)
   refine wpOp_of h1 h2 (wp_val (.int .u8 ((x.toNat / 16:Nat):Int)) ?_ ⟨upd b 2,hL,hF,?_⟩)
   ·unfold execOp
    rw[h4]
    have e2:a.eval (.const (.int .u64 4))=.int .u64 4:=rfl
    have hv:=shr_val x w
    simp only[e1,e2,eqGuard_shr,Sem.run_bind,hv,Result.andThen_ok,Sem.run_pure]
   ·rw[h3]
    exact { d:=put_defers.trans h.d,s:=by rw[put_size];exact h.s,t5:=getD_put h.t5 (by decide),keep:=fun k h3 hk=>getD_put (h.keep k h3 hk) (by omega),t3:=fun e=>getD_put (h.t3 e) (by decide),r0:=fun e=>getD_put (h.r0 e) (by decide),r1:=fun e=>getD_put (h.r1 e) (by decide),r2:=fun _=>getD_put_same (by rw[h.s];decide),r3:=fun e=>getD_put (h.r3 e) (by decide),r4:=fun e=>getD_put (h.r4 e) (by decide),r5:=fun e=>getD_put (h.r5 e) (by decide),r6:=fun e=>getD_put (h.r6 e) (by decide),r7:=fun e=>getD_put (h.r7 e) (by decide),w0:=h.w0,w1:=h.w1,c8:=h.c8,c80:=h.c80,r8:=fun e=>(by rw[getD_put rfl (by decide)];exact h.r8 e),e9:=fun e=>⟨(h.e9 e).1,by rw[getD_put rfl (by decide),getD_put rfl (by decide)];exact (h.e9 e).2⟩ }
  ·obtain⟨o,h1,h2,h3,h4⟩:=o3
   have e1:a.eval (.tmp 12)=.int .u8 ((x.toNat / 16:Nat):Int):=h.r2 (d3 rfl)
   have hv:=index_hex (x.toNat / 16) (by omega) w
   rw[←hp] at hv
   refine wpOp_of h1 h2 (wp_val (bv p) ?_ ⟨upd b 3,hL,hF,?_⟩)
   ·unfold execOp
    rw[h4]
    have e2:a.eval (.const (.string kHex))=.string kHex:=rfl
    simp only[e1,e2,Sem.run_bind,hv,Result.andThen_ok,Sem.run_pure]
   ·rw[h3]
    exact { d:=put_defers.trans h.d,s:=by rw[put_size];exact h.s,t5:=getD_put h.t5 (by decide),keep:=fun k h3 hk=>getD_put (h.keep k h3 hk) (by omega),t3:=fun e=>getD_put (h.t3 e) (by decide),r0:=fun e=>getD_put (h.r0 e) (by decide),r1:=fun e=>getD_put (h.r1 e) (by decide),r2:=fun e=>getD_put (h.r2 e) (by decide),r3:=fun _=>getD_put_same (by rw[h.s];decide),r4:=fun e=>getD_put (h.r4 e) (by decide),r5:=fun e=>getD_put (h.r5 e) (by decide),r6:=fun e=>getD_put (h.r6 e) (by decide),r7:=fun e=>getD_put (h.r7 e) (by decide),w0:=h.w0,w1:=h.w1,c8:=h.c8,c80:=h.c80,r8:=fun e=>(by rw[getD_put rfl (by decide)];exact h.r8 e),e9:=fun e=>⟨(h.e9 e).1,by rw[getD_put rfl (by decide),getD_put rfl (by decide)];exact (h.e9 e).2⟩ }
  ·obtain⟨o,h1,h2,h3,h4⟩:=o4
   refine wpOp_of h1 h2 (BigFrame.wp_move _ h4 ⟨upd b 4,hL,hF,?_⟩)
   rw[h3,show a.eval (.tmp 5)=bv x from h.t5]
   exact { d:=put_defers.trans h.d,s:=by rw[put_size];exact h.s,t5:=getD_put h.t5 (by decide),keep:=fun k h3 hk=>getD_put (h.keep k h3 hk) (by omega),t3:=fun e=>getD_put (h.t3 e) (by decide),r0:=fun e=>getD_put (h.r0 e) (by decide),r1:=fun e=>getD_put (h.r1 e) (by decide),r2:=fun e=>getD_put (h.r2 e) (by decide),r3:=fun e=>getD_put (h.r3 e) (by decide),r4:=fun _=>getD_put_same (by rw[h.s];decide),r5:=fun e=>getD_put (h.r5 e) (by decide),r6:=fun e=>getD_put (h.r6 e) (by decide),r7:=fun e=>getD_put (h.r7 e) (by decide),w0:=h.w0,w1:=h.w1,c8:=h.c8,c80:=h.c80,r8:=fun e=>(by rw[getD_put rfl (by decide)];exact h.r8 e),e9:=fun e=>⟨(h.e9 e).1,by rw[getD_put rfl (by decide),getD_put rfl (by decide)];exact (h.e9 e).2⟩ }
  ·obtain⟨o,ty,h1,h2,h3,h4⟩:=o5
   have e1:a.eval (.tmp 14)=bv x:=h.r4 (d5 rfl)
   have hv:=and_val x w
   refine wpOp_of h1 h2 (wp_val (.int .u8 ((x.toNat%16:Nat):Int)) ?_ ⟨upd b 5,hL,hF,?_⟩)
   ·unfold execOp
    rw[h4]
    have e2:a.eval (.const (.int .u8 15))=.int .u8 15:=rfl
    simp only[e1,e2,eqGuard_and,Sem.run_bind,hv,Result.andThen_ok,Sem.run_pure]
   ·rw[h3]
    exact { d:=put_defers.trans h.d,s:=by rw[put_size];exact h.s,t5:=getD_put h.t5 (by decide),keep:=fun k h3 hk=>getD_put (h.keep k h3 hk) (by omega),t3:=fun e=>getD_put (h.t3 e) (by decide),r0:=fun e=>getD_put (h.r0 e) (by decide),r1:=fun e=>getD_put (h.r1 e) (by decide),r2:=fun e=>getD_put (h.r2 e) (by decide),r3:=fun e=>getD_put (h.r3 e) (by decide),r4:=fun e=>getD_put (h.r4 e) (by decide),r5:=fun _=>getD_put_same (by rw[h.s];decide),r6:=fun e=>getD_put (h.r6 e) (by decide),r7:=fun e=>getD_put (h.r7 e) (by decide),w0:=h.w0,w1:=h.w1,c8:=h.c8,c80:=h.c80,r8:=fun e=>(by rw[getD_put rfl (by decide)];exact h.r8 e),e9:=fun e=>⟨(h.e9 e).1,by rw[getD_put rfl (by decide),getD_put rfl (by decide)];exact (h.e9 e).2⟩ }
  ·obtain⟨o,h1,h2,h3,h4⟩:=o6
   have e1:a.eval (.tmp 15)=.int .u8 ((x.toNat%16:Nat):Int):=h.r5 (d6 rfl)
   have hv:=index_hex (x.toNat%16) (by omega) w
   rw[←hq] at hv
   refine wpOp_of h1 h2 (wp_val (bv q) ?_ ⟨upd b 6,hL,hF,?_⟩)
   ·unfold execOp
    rw[h4]
    have e2:a.eval (.const (.string kHex))=.string kHex:=rfl
    simp only[e1,e2,Sem.run_bind,hv,Result.andThen_ok,Sem.run_pure]
   ·rw[h3]
    exact { d:=put_defers.trans h.d,s:=by rw[put_size];exact h.s,t5:=getD_put h.t5 (by decide),keep:=fun k h3 hk=>getD_put (h.keep k h3 hk) (by omega),t3:=fun e=>getD_put (h.t3 e) (by decide),r0:=fun e=>getD_put (h.r0 e) (by decide),r1:=fun e=>getD_put (h.r1 e) (by decide),r2:=fun e=>getD_put (h.r2 e) (by decide),r3:=fun e=>getD_put (h.r3 e) (by decide),r4:=fun e=>getD_put (h.r4 e) (by decide),r5:=fun e=>getD_put (h.r5 e) (by decide),r6:=fun _=>getD_put_same (by rw[h.s];decide),r7:=fun e=>getD_put (h.r7 e) (by decide),w0:=h.w0,w1:=h.w1,c8:=h.c8,c80:=h.c80,r8:=fun e=>(by rw[getD_put rfl (by decide)];exact h.r8 e),e9:=fun e=>⟨(h.e9 e).1,by rw[getD_put rfl (by decide),getD_put rfl (by decide)];exact (h.e9 e).2⟩ }
  ·obtain⟨o,h1,h2,h3,h4⟩:=o7
   have e1:a.eval (.tmp 13)=bv p:=h.r3 (d7 rfl).1
   have e2:a.eval (.tmp 16)=bv q:=h.r6 (d7 rfl).2
   obtain rfl:=h.w0 hbi
   refine wpOp_of h1 h2 (wp_valw (.slice (some ⟨w.heap.size,0,none⟩) 2 2) (w.alloc (.cells #[bv p,bv q] 5)) ?_ ⟨upd b 7,hL,hF,?_⟩)
   ·unfold execOp
    rw[h4]
    have hv:=build2 p q w
    simp only[List.map_toArray,List.map_cons,List.map_nil,e1,e2]
    simp[hv]
   ·rw[h3]
    exact { d:=put_defers.trans h.d,s:=by rw[put_size];exact h.s,t5:=getD_put h.t5 (by decide),keep:=fun k h3 hk=>getD_put (h.keep k h3 hk) (by omega),t3:=fun e=>getD_put (h.t3 e) (by decide),r0:=fun e=>getD_put (h.r0 e) (by decide),r1:=fun e=>getD_put (h.r1 e) (by decide),r2:=fun e=>getD_put (h.r2 e) (by decide),r3:=fun e=>getD_put (h.r3 e) (by decide),r4:=fun e=>getD_put (h.r4 e) (by decide),r5:=fun e=>getD_put (h.r5 e) (by decide),r6:=fun e=>getD_put (h.r6 e) (by decide),r7:=fun _=>getD_put_same (by rw[h.s];decide),w0:=fun e=>absurd (show true=false from e) (by decide),w1:=fun _ _=>rfl,c8:=fun e=>rfl,c80:=h.c80,r8:=fun e=>absurd (h.c8 e) (by rw[hbi];decide),e9:=fun e=>absurd (h.c8 (h.e9 e).1) (by rw[hbi];decide) }
  ·obtain⟨o,h1,h2,h3,h4⟩:=o8
   obtain rfl:=h.w1 (d8 rfl).2 hbi
   refine wpOp_of h1 h2 (wp_app2 _ _ _ h4 B i0 underlying94 hi0 hz0 hz1 hz2 v l (h.r0 (d8 rfl).1) hown p q (h.r7 (d8 rfl).2) (by omega) hB fun v' w' hr hg=>⟨upd b 8,hL,hF,?_⟩)
   rw[h3]
   exact { d:=put_defers.trans h.d,s:=by rw[put_size];exact h.s,t5:=getD_put h.t5 (by decide),keep:=fun k h3 hk=>getD_put (h.keep k h3 hk) (by omega),t3:=fun e=>getD_put (h.t3 e) (by decide),r0:=fun e=>getD_put (h.r0 e) (by decide),r1:=fun e=>getD_put (h.r1 e) (by decide),r2:=fun e=>getD_put (h.r2 e) (by decide),r3:=fun e=>getD_put (h.r3 e) (by decide),r4:=fun e=>getD_put (h.r4 e) (by decide),r5:=fun e=>getD_put (h.r5 e) (by decide),r6:=fun e=>getD_put (h.r6 e) (by decide),r7:=fun e=>getD_put (h.r7 e) (by decide),w0:=fun e=>absurd (show b 7=false from e) (by rw[(d8 rfl).2];decide),w1:=fun _ e=>absurd (show true=false from e) (by decide),c8:=fun _=>(d8 rfl).2,c80:=fun _=>(d8 rfl).1,r8:=fun _=>(by rw[getD_put_same (by rw[h.s];decide)];exact⟨hr,hg⟩),e9:=fun e=>absurd (h.e9 e).1 (by rw[hbi];decide) }
  ·obtain⟨o,h1,h2,h3,h4⟩:=o9
   refine wpOp_of h1 h2 (BigFrame.wp_assign _ h4 ⟨upd b 9,hL,hF,?_⟩)
   rw[h3,show a.eval (.tmp 18)=a.tmps.getD 18 undef from rfl]
   exact { d:=put_defers.trans h.d,s:=by rw[put_size];exact h.s,t5:=getD_put h.t5 (by decide),keep:=fun k h3 hk=>getD_put (h.keep k h3 hk) (Ne.symm h3),t3:=fun e=>absurd (show true=false from e) (by decide),r0:=fun e=>getD_put (h.r0 e) (by decide),r1:=fun e=>getD_put (h.r1 e) (by decide),r2:=fun e=>getD_put (h.r2 e) (by decide),r3:=fun e=>getD_put (h.r3 e) (by decide),r4:=fun e=>getD_put (h.r4 e) (by decide),r5:=fun e=>getD_put (h.r5 e) (by decide),r6:=fun e=>getD_put (h.r6 e) (by decide),r7:=fun e=>getD_put (h.r7 e) (by decide),w0:=h.w0,w1:=h.w1,c8:=h.c8,c80:=h.c80,r8:=fun e=>(by rw[getD_put rfl (by decide)];exact h.r8 e),e9:=fun _=>⟨d9 rfl,by rw[getD_put_same (by rw[h.s];decide),getD_put rfl (by decide)]⟩ }
abbrev putsHex (base:Array Value) (v:Value) (x p q:UInt8) (W:World) (v':Value):Act:=
 ((((((((((⟨base,[]⟩:Act).put (some 10) v).put (some 11) (bv x)).put (some 12) (.int .u8 ((x.toNat / 16:Nat):Int))).put (some 13) (bv p)).put (some 14) (bv x)).put (some 15) (.int .u8 ((x.toNat%16:Nat):Int))).put (some 16) (bv q)).put (some 17) (.slice (some ⟨W.heap.size,0,none⟩) 2 2)).put (some 18) v').put (some 3) v'
theorem act_eq {a c:Act} (hd:a.defers=c.defers) (hs:a.tmps.size=c.tmps.size) (h:∀ k,k<c.tmps.size→a.tmps.getD k undef=c.tmps.getD k undef):a=c:=by
 obtain⟨t,d⟩:=a
 obtain⟨t',d'⟩:=c
 simp only at hd hs h
 subst hd
 congr 1
 apply Array.ext hs
 intro i h1 h2
 have:=h i h2
 simpa [Array.getD_eq_getD_getElem?,h1,h2] using this
theorem InHex.act {base:Array Value} {v:Value} {x p q:UInt8} {l:List UInt8} {B:Nat} {W:World} {a:Act} {w:World} (hb:base.size=22) (h:InHex base v x p q l B W (fun _=>true) a w) :
  a=putsHex base v x p q W (a.tmps.getD 18 undef):=by
 obtain⟨y,hy⟩:∃ y,y=a.tmps.getD 18 undef:=⟨_,rfl⟩
 rw[←hy]
 have hsz:(putsHex base v x p q W y).tmps.size=22:=by simp[Act.put,hb]
 refine act_eq h.d (h.s.trans hsz.symm) fun k hk=>?_
 rw[hsz] at hk
 have hc:k=3∨k=10∨k=11∨k=12∨k=13∨k=14∨k=15∨k=16∨k=17∨k=18∨(k≠3∧(k<10∨18<k)):=by omega
 rcases hc with rfl|rfl|rfl|rfl|rfl|rfl|rfl|rfl|rfl|rfl|⟨h3,hk'⟩
 ·rw[(h.e9 rfl).2,←hy,getD_put_same (by simp[Act.put,hb])]
 ·rw[h.r0 rfl]
  refine (?_:_=_).symm
  exact getD_put (getD_put (getD_put (getD_put (getD_put (getD_put (getD_put (getD_put (getD_put (getD_put_same (by simp[Act.put,hb])) (by decide)) (by decide)) (by decide)) (by decide)) (by decide)) (by decide)) (by decide)) (by decide)) (by decide)
 ·rw[h.r1 rfl]
  refine (?_:_=_).symm
  exact getD_put (getD_put (getD_put (getD_put (getD_put (getD_put (getD_put (getD_put (getD_put_same (by simp[Act.put,hb])) (by decide)) (by decide)) (by decide)) (by decide)) (by decide)) (by decide)) (by decide)) (by decide)
 ·rw[h.r2 rfl]
  refine (?_:_=_).symm
  exact getD_put (getD_put (getD_put (getD_put (getD_put (getD_put (getD_put (getD_put_same (by simp[Act.put,hb])) (by decide)) (by decide)) (by decide)) (by decide)) (by decide)) (by decide)) (by decide)
 ·rw[h.r3 rfl]
  refine (?_:_=_).symm
  exact getD_put (getD_put (getD_put (getD_put (getD_put (getD_put (getD_put_same (by simp[Act.put,hb])) (by decide)) (by decide)) (by decide)) (by decide)) (by decide)) (by decide)
 ·rw[h.r4 rfl]
  refine (?_:_=_).symm
  exact getD_put (getD_put (getD_put (getD_put (getD_put (getD_put_same (by simp[Act.put,hb])) (by decide)) (by decide)) (by decide)) (by decide)) (by decide)
 ·rw[h.r5 rfl]
  refine (?_:_=_).symm
  exact getD_put (getD_put (getD_put (getD_put (getD_put_same (by simp[Act.put,hb])) (by decide)) (by decide)) (by decide)) (by decide)
 ·rw[h.r6 rfl]
  refine (?_:_=_).symm
  exact getD_put (getD_put (getD_put (getD_put_same (by simp[Act.put,hb])) (by decide)) (by decide)) (by decide)
 ·rw[h.r7 rfl]
  refine (?_:_=_).symm
  exact getD_put (getD_put (getD_put_same (by simp[Act.put,hb])) (by decide)) (by decide)
 ·rw[←hy]
  refine (?_:_=_).symm
  exact getD_put (getD_put_same (by simp[Act.put,hb])) (by decide)
 ·rw[h.keep k h3 hk']
  refine (?_:_=_).symm
  exact getD_put (getD_put (getD_put (getD_put (getD_put (getD_put (getD_put (getD_put (getD_put (getD_put (rfl) (by omega)) (by omega)) (by omega)) (by omega)) (by omega)) (by omega)) (by omega)) (by omega)) (by omega)) (by omega)
theorem drawHex' {base:Array Value} {v:Value} {x:UInt8} {l:List UInt8} {B:Nat} {W:World} {ops:Array Oper} {Q:Exit→Act→World→Prop}
  (hb:base.size=22) (h3:base.getD 3 undef=v) (h5:base.getD 5 undef=bv x)
  (r:∀ b:Nat→Bool,∀ i∈Region.ready .any ops (bs b),i<10∧b i=false∧(i=2→b 1=true)∧(i=3→b 2=true)∧(i=5→b 4=true)∧(i=6→b 5=true)∧(i=7→b 3=true∧b 6=true)∧(i=8→b 0=true∧b 7=true)∧(i=9→b 8=true))
  (r0:∀ b:Nat→Bool,left b=0→Region.ready .any ops (bs b) = []) (r1:∀ (b:Nat→Bool) (f:Nat),f+1=left b→Region.ready .any ops (bs b)≠[])
  (o0:∃ (o:Oper),ops[0]?=some o∧o.guard=none∧o.dst=some 10∧o.op=.move (.tmp 3))
  (o1:∃ (o:Oper),ops[1]?=some o∧o.guard=none∧o.dst=some 11∧o.op=.move (.tmp 5))
  (o2:∃ (o:Oper) (ty:TypeId),ops[2]?=some o∧o.guard=none∧o.dst=some 12∧o.op=.binOp .shr 5 (.tmp 11) (.const (.int .u64 4)) ty)
  (o3:∃ (o:Oper),ops[3]?=some o∧o.guard=none∧o.dst=some 13∧o.op=.index 9 (.const (.string kHex)) (.tmp 12))
  (o4:∃ (o:Oper),ops[4]?=some o∧o.guard=none∧o.dst=some 14∧o.op=.move (.tmp 5))
  (o5:∃ (o:Oper) (ty:TypeId),ops[5]?=some o∧o.guard=none∧o.dst=some 15∧o.op=.binOp .and 5 (.tmp 14) (.const (.int .u8 15)) ty)
  (o6:∃ (o:Oper),ops[6]?=some o∧o.guard=none∧o.dst=some 16∧o.op=.index 9 (.const (.string kHex)) (.tmp 15))
  (o7:∃ (o:Oper),ops[7]?=some o∧o.guard=none∧o.dst=some 17∧o.op=.buildSlice 94 2 #[(0,.tmp 13),(1,.tmp 16)])
  (o8:∃ (o:Oper),ops[8]?=some o∧o.guard=none∧o.dst=some 18∧o.op=.call { callee:=.builtin .append,args:=#[.tmp 10,.tmp 17],argTypes:=#[94,94] })
  (o9:∃ (o:Oper),ops[9]?=some o∧o.guard=none∧o.dst=some 3∧o.op=.assign (.tmp 18))
  (hown:OwnRow W B v l) (hll:l.length≤1000) (hB:B≤W.heap.size)
  (hQ:∀ v' w',OwnRow w' B v' (l ++ [hexD (x.toNat / 16),hexD (x.toNat%16)])→W.grownBy w' v.ownBlock→Q .normal (putsHex base v x (hexD (x.toNat / 16)) (hexD (x.toNat%16)) W v') w') :
  wpAny prog .any ops Q 10 (Array.replicate 10 false) ⟨base,[]⟩ W:=by
 refine drawHex (p:=hexD (x.toNat / 16)) (q:=hexD (x.toNat%16)) (v:=v) (x:=x) (l:=l) (B:=B) (base:=base) r r0 r1 o0 o1 o2 o3 o4 o5 o6 o7 o8 o9 rfl rfl hown hll hB (fun a w h=>?_) ⟨base,[]⟩ W ?_
 ·rw[InHex.act hb h]
  exact hQ _ _ (h.r8 rfl).1 (h.r8 rfl).2
 ·exact { d:=rfl,s:=hb,t5:=h5,keep:=fun _ _ _=>rfl,t3:=fun _=>h3,r0:=fun k=>absurd k (by decide),r1:=fun k=>absurd k (by decide),r2:=fun k=>absurd k (by decide),r3:=fun k=>absurd k (by decide),r4:=fun k=>absurd k (by decide),r5:=fun k=>absurd k (by decide),r6:=fun k=>absurd k (by decide),r7:=fun k=>absurd k (by decide),w0:=fun _=>rfl,w1:=fun k=>absurd k (by decide),r8:=fun k=>absurd k (by decide),e9:=fun k=>absurd k (by decide),c8:=fun k=>absurd k (by decide),c80:=fun k=>absurd k (by decide) }
end
section
theorem hexOf_succ {l:List UInt8} {k:Nat} (hk:k<l.length):hexOf (l.take (k+1))=hexOf (l.take k) ++ [hexD ((l.getD k 0).toNat / 16),hexD ((l.getD k 0).toNat%16)]:=by
 have e:l.take (k+1)=l.take k ++ [l.getD k 0]:=by
  rw[List.take_add_one,List.getElem?_eq_getElem hk]
  simp[List.getD,hk]
 rw[e]
 unfold hexOf
 rw[List.flatMap_append]
 rfl
theorem hexed_any (h:Hsh) (w:World) :
  Calls prog 137 #[.agg (h8 h)] w fun e w'=>e=.returned (.string (sOf (hexOf h.toList)))∧Below w.heap.size w w':=by
 have hown0:∀ W,OwnRow W w.heap.size (.slice none 0 0) (hexOf (h.toList.take 0)):=fun W=>World.ownsRow_nil _ _ _ _
 have HO0:=zh hown0
 clear hown0
 go_enter func137,ntmps137
 go_wp2_with (first|(refine wpList_load8 rfl 109 _ rfl _ rfl _ underlying109 info8 ?_ ?_ ?_;rotate_left;focus ((repeat(first|(with_reducible first|assumption|exact hashOf_set' ⟨_,by assumption⟩ _)|((with_reducible first|refine hashOf_zero' ?_|refine hashOf_at ?_|refine hashOf_set' (Is8_zero ?_) _);(first|rfl|(simp;done)|(simp;omega)))|with_reducible refine hashOf_old ?_ _|((with_reducible refine hashOf_other ?_ _ ?_);rotate_left;(focus(first|(simp;done)|(simp;omega)|omega)))|with_reducible first|refine hashOf_drew ?_|refine hashOf_below ?_ (by assumption)));done)))
 go_loopw [3,7] (fun v i wr=>∃ k:Nat,k≤8∧i=.int .i64 k∧OwnRow wr w.heap.size v (hexOf (h.toList.take k))∧Below w.heap.size w wr) (fun _ i _=>8-(intOf i).toNat)
 case atStart=>exact⟨0,by omega,rfl,HO0.o _,below_alloc _ _⟩
 case round=>
  obtain⟨k,hk,rfl,hown,hbel⟩:=hrel
  have HOWN:=zh hown
  have HBEL:=zh hbel
  clear hown hbel
  by_cases hlt:k<8
  ·have hx:=index_h8 h k hlt wr
   obtain⟨x,hxx⟩:∃ x,x=h.toList.getD k 0:=⟨_,rfl⟩
   rw[←hxx] at hx
   have hsucc:=hexOf_succ (l:=h.toList) (k:=k) (by simpa using hlt)
   rw[←hxx] at hsucc
   have HSU:=zh hsucc
   clear hxx hsucc
   go_wp2_with fail
   refine wp_region_any (by kernel_rfl) ?_
   have hdr:OwnRow wr.drew w.heap.size _ _:=HOWN.o
   refine drawHex' (x:=x) (B:=w.heap.size) rfl rfl rfl ?_ ?_ ?_ ⟨_,rfl,rfl,rfl,rfl⟩ ⟨_,rfl,rfl,rfl,rfl⟩ ⟨_,_,rfl,rfl,rfl,rfl⟩ ⟨_,rfl,rfl,rfl,rfl⟩ ⟨_,rfl,rfl,rfl,rfl⟩ ⟨_,_,rfl,rfl,rfl,rfl⟩ ⟨_,rfl,rfl,rfl,rfl⟩ ⟨_,rfl,rfl,rfl,rfl⟩ ⟨_,rfl,rfl,rfl,rfl⟩ ⟨_,rfl,rfl,rfl,rfl⟩ hdr (by rw[hexOf_len];simp;omega) (below_drewN HBEL.o 1).size ?_
   ·intro b i hi
    rw[Region.ready,List.mem_filter] at hi
    obtain⟨hi1,hi2⟩:=hi
    have hi10:i<10:=List.mem_range.1 hi1
    have:i=0∨i=1∨i=2∨i=3∨i=4∨i=5∨i=6∨i=7∨i=8∨i=9:=by omega
    clear hi1
    rcases this with rfl|rfl|rfl|rfl|rfl|rfl|rfl|rfl|rfl|rfl <;> simp[bs,Region.binds] at hi2 ⊢ <;> simp[hi2]
   ·intro b hb
    have hh:∀ c:Bool,(!c).toNat=0→c=true:=by intro c;cases c <;> simp
    unfold left at hb
    have k0:=hh (b 0) (by omega)
    have k1:=hh (b 1) (by omega)
    have k2:=hh (b 2) (by omega)
    have k3:=hh (b 3) (by omega)
    have k4:=hh (b 4) (by omega)
    have k5:=hh (b 5) (by omega)
    have k6:=hh (b 6) (by omega)
    have k7:=hh (b 7) (by omega)
    have k8:=hh (b 8) (by omega)
    have k9:=hh (b 9) (by omega)
    rw[show bs b=#[true,true,true,true,true,true,true,true,true,true] by simp only[bs,k0,k1,k2,k3,k4,k5,k6,k7,k8,k9]]
    rfl
   ·intro b f hf
    rcases k0:b 0 with _|_
    ·exact List.ne_nil_of_mem (a:=0) (by rw[Region.ready,List.mem_filter];exact⟨List.mem_range.2 (by show 0<10;decide),by simp[bs,Region.binds,k0]⟩)
    rcases k1:b 1 with _|_
    ·exact List.ne_nil_of_mem (a:=1) (by rw[Region.ready,List.mem_filter];exact⟨List.mem_range.2 (by show 1<10;decide),by simp[bs,Region.binds,k0,k1]⟩)
    rcases k2:b 2 with _|_
    ·exact List.ne_nil_of_mem (a:=2) (by rw[Region.ready,List.mem_filter];exact⟨List.mem_range.2 (by show 2<10;decide),by simp[bs,Region.binds,k0,k1,k2]⟩)
    rcases k3:b 3 with _|_
    ·exact List.ne_nil_of_mem (a:=3) (by rw[Region.ready,List.mem_filter];exact⟨List.mem_range.2 (by show 3<10;decide),by simp[bs,Region.binds,k0,k1,k2,k3]⟩)
    rcases k4:b 4 with _|_
    ·exact List.ne_nil_of_mem (a:=4) (by rw[Region.ready,List.mem_filter];exact⟨List.mem_range.2 (by show 4<10;decide),by simp[bs,Region.binds,k0,k1,k2,k3,k4]⟩)
    rcases k5:b 5 with _|_
    ·exact List.ne_nil_of_mem (a:=5) (by rw[Region.ready,List.mem_filter];exact⟨List.mem_range.2 (by show 5<10;decide),by simp[bs,Region.binds,k0,k1,k2,k3,k4,k5]⟩)
    rcases k6:b 6 with _|_
    ·exact List.ne_nil_of_mem (a:=6) (by rw[Region.ready,List.mem_filter];exact⟨List.mem_range.2 (by show 6<10;decide),by simp[bs,Region.binds,k0,k1,k2,k3,k4,k5,k6]⟩)
    rcases k7:b 7 with _|_
    ·exact List.ne_nil_of_mem (a:=7) (by rw[Region.ready,List.mem_filter];exact⟨List.mem_range.2 (by show 7<10;decide),by simp[bs,Region.binds,k0,k1,k2,k3,k4,k5,k6,k7]⟩)
    rcases k8:b 8 with _|_
    ·exact List.ne_nil_of_mem (a:=8) (by rw[Region.ready,List.mem_filter];exact⟨List.mem_range.2 (by show 8<10;decide),by simp[bs,Region.binds,k0,k1,k2,k3,k4,k5,k6,k7,k8]⟩)
    rcases k9:b 9 with _|_
    ·exact List.ne_nil_of_mem (a:=9) (by rw[Region.ready,List.mem_filter];exact⟨List.mem_range.2 (by show 9<10;decide),by simp[bs,Region.binds,k0,k1,k2,k3,k4,k5,k6,k7,k8,k9]⟩)
    exfalso
    simp only[left,k0,k1,k2,k3,k4,k5,k6,k7,k8,k9,Bool.not_true,Bool.toNat_false] at hf
    omega
   ·intro v' w' ho hg
    have hg':Below w.heap.size w w':=(HBEL.o.drew).grown hg HBEL.o.drew.size (fun j hj=>(HOWN.o.lt j hj).1)
    have HO':=zh ho
    have HG':=zh hg'
    clear ho hg hg'
    go_wp2
    go_roundw
    case rel=>exact⟨k+1,by omega,by go_num,by rw[HSU.o];exact HO'.o,HG'.o⟩
    case measure=>(simp[intOf] <;> omega)
  ·have ht:h.toList.take k=h.toList:=List.take_of_length_le (by simp;omega)
   have hb:=HOWN.o.bytes
   rw[ht] at hb
   have HBY:=zh hb
   clear hb ht
   go_wp2_with (refine wpList_bs rfl 94 9 _ rfl _ underlying94 underlying5 underlying9 _ ?_ rfl ?_ ?_;rotate_left;focus exact HBY.o)
   go_ret
   exact⟨rfl,HBEL.o⟩
end
section
theorem signOf_len (n:Nat) (h:Hsh) (key:List UInt8) (hn:n<9223372036854775808):(headOf n h).length≤100∧(signOf n h key).length≤200:=by
 have h1:=dec_len19 hn
 have h2:(headOf n h).length≤100:=by
  unfold headOf
  simp[kTiles,hexOf_len]
  omega
 refine⟨h2,?_⟩
 unfold signOf
 simp[hexOf_len]
 omega
end
end Go.Proofs.YtefccfakhgdfbabGreatDoor
