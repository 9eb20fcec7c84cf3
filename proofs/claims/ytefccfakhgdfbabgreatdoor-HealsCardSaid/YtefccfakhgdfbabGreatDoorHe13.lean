/- The walk of tiles' Client.Read where something is asked. Conditions: as of Read. -/
import Derived.Test.YtefccfakhgdfbabGreatDoorHe12
set_option linter.unusedVariables false
set_option linter.unusedSimpArgs false
open Go.RowKit Go.Proofs.Tryz
set_option maxRecDepth 100000
set_option maxHeartbeats 4000000
namespace Go.Proofs.YtefccfakhgdfbabGreatDoor
section
def IncludePost (leaf:Hsh) (i n:Nat) (p:List Hsh) (w:World) (e:Ending) (w':World):Prop:=
 ∃ s:Hsh,e=.returned (.tuple #[.agg (h8 s),.bool (rebuild leaf i n p).isSome])∧(∀ h,rebuild leaf i n p=some h→s=h)∧Below w.heap.size w w'
theorem flat_len (q:List Hsh):(q.flatMap fun h=>(h8 h).toList).length=q.length*8:=by
 induction q with
 | nil=>rfl
 | cons y q ih=>rw[List.flatMap_cons,List.length_append,ih,List.length_cons];simp;omega
theorem hashes_init {w:World} {a:Option Addr} {c m:Nat} {q:List Hsh} {x:Hsh} (h:HashesAt w (.slice a (m+1) c) (q ++ [x])) (hm:q.length=m) :
  ∃ b off,a=some ⟨b,off,none⟩∧m+1≤c∧(∀ j (hj:j<8),w.cell? ⟨b,off+m*8+j,none⟩=some (u8 x[j]))∧HashesAt w (.slice (some ⟨b,off,none⟩) m c) q:=by
 obtain⟨a',c',hv,hcap,hc⟩:=h
 have hl:(q.flatMap fun h=>(h8 h).toList).length=m*8:=by rw[flat_len,hm]
 simp only[Value.slice.injEq] at hv
 obtain⟨rfl,_,rfl⟩:=hv
 have hg:∀ j (hj:j<8),((q ++ [x]).flatMap fun h=>(h8 h).toList)[m*8+j]?=some (u8 x[j]):=fun j hj=>by
  rw[List.flatMap_append,List.getElem?_append_right (by omega),hl]
  have:m*8+j-m*8=j:=by omega
  rw[this]
  simp[h8,hj]
 obtain⟨b,off,rfl,_⟩:=hc _ _ (hg 0 (by omega))
 refine⟨b,off,rfl,by simpa [hm] using hcap,fun j hj=>?_,⟨_,c,by rw[hm],by simp at hcap;omega,fun j y hy=>?_⟩⟩
 ·obtain⟨b',off',heq,hcell⟩:=hc _ _ (hg j hj)
  cases heq
  rw[Nat.add_assoc]
  exact hcell
 ·refine hc j y ?_
  rw[List.flatMap_append,List.getElem?_append_left (List.getElem?_eq_some_iff.1 hy).1]
  exact hy
section
attribute [local go_sem] h8_0 h8_1 h8_2 h8_3 h8_4 h8_5 h8_6 h8_7 h8_fold h8_size
theorem include_any (m:Nat):∀ (p:List Hsh) (leaf:Hsh) (i n:Int) (v:Value) (w:World),p.length=m→HashesAt w v p→0≤i→i<n→n≤9223372036854775807→m≤1048576→
  Calls prog 148 #[.agg (h8 leaf),.int .i64 i,.int .i64 n,v] w (IncludePost leaf i.toNat n.toNat p w):=by
 induction m with
 | zero=>
  intro p leaf i n v w hp h h0 hi hn hm
  obtain rfl:p = []:=List.eq_nil_of_length_eq_zero hp
  obtain⟨a,c,rfl,hcap,_⟩:=h
  clear hp
  by_cases h1:n=1
  ·subst h1
   go_enter func148,ntmps148
   go_wp2_with (first|((first|refine wpList_load8 rfl 109 _ rfl _ rfl _ underlying109 info8 ?_ ?_ ?_|refine wpList_store8 rfl 109 _ _ rfl _ _ rfl rfl info8 ?_ ?_ ?_);rotate_left;focus((repeat(first|(with_reducible first|assumption|exact hashOf_set' ⟨_,by assumption⟩ _)|((with_reducible first|refine hashOf_zero' ?_|refine hashOf_at ?_|refine hashOf_set' (Is8_zero ?_) _);(first|rfl|(simp;done)|(simp;omega)))|with_reducible refine hashOf_old ?_ _|((with_reducible refine hashOf_other ?_ _ ?_);rotate_left;(focus(first|(simp;done)|(simp;omega)|omega)))|with_reducible first|refine hashOf_drew ?_|refine hashOf_below ?_ (by assumption)));done)))
   refine ret8t (w.heap.size+1) leaf (.bool true) rfl rfl rfl _ underlying109 info8 (hashOf_set' (Is8_zero (by simp)) _) rfl ⟨leaf,by simp[rebuild_nil],?_,below_setRow ((below_alloc w _).alloc (by simp) _) (by omega) _⟩
   intro h hh
   simp[rebuild_nil] at hh
   exact hh
  ·have hd:(n == 1)=false:=by simpa using h1
   go_enter func148,ntmps148
   go_wp2_with (first|(refine wpList_load8 rfl 109 _ rfl _ rfl _ underlying109 info8 ?_ ?_ ?_;rotate_left;focus ((repeat(first|(with_reducible first|assumption|exact hashOf_set' ⟨_,by assumption⟩ _)|((with_reducible first|refine hashOf_zero' ?_|refine hashOf_at ?_|refine hashOf_set' (Is8_zero ?_) _);(first|rfl|(simp;done)|(simp;omega)))|with_reducible refine hashOf_old ?_ _|((with_reducible refine hashOf_other ?_ _ ?_);rotate_left;(focus(first|(simp;done)|(simp;omega)|omega)))|with_reducible first|refine hashOf_drew ?_|refine hashOf_below ?_ (by assumption)));done))|(refine wpList_store8 rfl 109 _ _ rfl _ zero8 rfl (by rw[h8_zero];rfl) info8 ?_ ?_ ?_;rotate_left;focus ((repeat(first|(with_reducible first|assumption|exact hashOf_set' ⟨_,by assumption⟩ _)|((with_reducible first|refine hashOf_zero' ?_|refine hashOf_at ?_|refine hashOf_set' (Is8_zero ?_) _);(first|rfl|(simp;done)|(simp;omega)))|with_reducible refine hashOf_old ?_ _|((with_reducible refine hashOf_other ?_ _ ?_);rotate_left;(focus(first|(simp;done)|(simp;omega)|omega)))|with_reducible first|refine hashOf_drew ?_|refine hashOf_below ?_ (by assumption)));done)))
   have hr:rebuild leaf i.toNat n.toNat []=none:=by rw[rebuild_nil,if_neg (by omega)]
   refine ret8t (w.heap.size+1) zero8 (.bool false) rfl rfl rfl _ underlying109 info8 (hashOf_set' (Is8_zero (by simp)) _) rfl ⟨zero8,by rw[hr];rfl,(fun h hh=>by rw[hr] at hh;cases hh),below_setRow ((below_alloc w _).alloc (by simp) _) (by omega) _⟩
 | succ m ih=>
  intro p leaf i n v w hp h h0 hi hn hm
  obtain⟨q,last,rfl⟩:∃ q last,p=q ++ [last]:=⟨p.dropLast,p.getLast (by intro e;simp[e] at hp),(List.dropLast_concat_getLast _).symm⟩
  have hq:q.length=m:=by simpa using hp
  obtain⟨a,c,hv,_⟩:=id h
  rw[hp] at hv
  subst hv
  obtain⟨b,off,rfl,hcap,hcell,hinit⟩:=hashes_init h hq
  have HQ:=zh hinit
  have IH:=zh ih
  have HL:=zh hq
  have HP:=zh hp
  clear ih h hinit hq hp
  by_cases h1:n=1
  ·subst h1
   have hz0:((m:Int)+1 == 0)=false:=by rw[beq_eq_false_iff_ne];omega
   go_enter func148,ntmps148
   go_wp2_with (first|((first|refine wpList_load8 rfl 109 _ rfl _ rfl _ underlying109 info8 ?_ ?_ ?_|refine wpList_store8 rfl 109 _ _ rfl _ _ rfl rfl info8 ?_ ?_ ?_);rotate_left;focus((repeat(first|(with_reducible first|assumption|exact hashOf_set' ⟨_,by assumption⟩ _)|((with_reducible first|refine hashOf_zero' ?_|refine hashOf_at ?_|refine hashOf_set' (Is8_zero ?_) _);(first|rfl|(simp;done)|(simp;omega)))|with_reducible refine hashOf_old ?_ _|((with_reducible refine hashOf_other ?_ _ ?_);rotate_left;(focus(first|(simp;done)|(simp;omega)|omega)))|with_reducible first|refine hashOf_drew ?_|refine hashOf_below ?_ (by assumption)));done)))
   have hr:rebuild leaf i.toNat (1:Int).toNat (q ++ [last])=none:=by rw[rebuild_snoc,if_pos (by decide)]
   refine ret8t (w.heap.size+1) leaf (.bool false) rfl rfl rfl _ underlying109 info8 (hashOf_set' (Is8_zero (by simp)) _) rfl ⟨leaf,by rw[hr];rfl,(fun h hh=>by rw[hr] at hh;cases hh),below_setRow ((below_alloc w _).alloc (by simp) _) (by omega) _⟩
  ·have hd:(n == 1)=false:=by simpa using h1
   have hbd:=below_bd (n:=n.toNat) (by omega) (by omega)
   have hr:=rebuild_snoc leaf last i.toNat n.toNat q
   rw[if_neg (by omega)] at hr
   obtain⟨k,hk⟩:∃ k,k=below n.toNat:=⟨_,rfl⟩
   rw[←hk] at hbd hr
   obtain⟨hb1,hb2,hb3⟩:=hbd
   have HR:=zh hr
   have HK:=zh hk
   clear hr hk
   have c0:w.cell? ⟨b,off+m*8,none⟩=some (u8 last[0]):=hcell 0 (by decide)
   have c1:=hcell 1 (by decide)
   have c2:=hcell 2 (by decide)
   have c3:=hcell 3 (by decide)
   have c4:=hcell 4 (by decide)
   have c5:=hcell 5 (by decide)
   have c6:=hcell 6 (by decide)
   have c7:=hcell 7 (by decide)
   have HCell:=zh hcell
   have hst:=run_store8 (P:=prog) (w:=(((w.alloc (.cells (h8 leaf) 109)).alloc (.cells zc 109)).alloc (.cells zc 109)).drew) (g:=w.heap.size+1+1) last ⟨zero8,hashOf_drew (hashOf_zero' (by simp))⟩
   have hbw:b<w.heap.size:=cell_lt c0
   have hbw1:b<w.heap.size+1:=by omega
   have hbw2:b<w.heap.size+1+1:=by omega
   have hz0:((m:Int)+1 == 0)=false:=by rw[beq_eq_false_iff_ne];omega
   clear hcell
   by_cases hik:i<(k:Int)
   ·go_enter func148,ntmps148
    go_wp2_with fail
    go_region
    have f1:hashOf (((((w.alloc (.cells (h8 leaf) 109)).alloc (.cells zc 109)).alloc (.cells zc 109)).drew).setRow (w.heap.size+1+1) (h8 last)) w.heap.size leaf:=hashOf_other (hashOf_drew (hashOf_old (hashOf_old (hashOf_new w leaf) _) _)) _ (by omega)
    have f2:hashOf (((((w.alloc (.cells (h8 leaf) 109)).alloc (.cells zc 109)).alloc (.cells zc 109)).drew).setRow (w.heap.size+1+1) (h8 last)) (w.heap.size+1) zero8:=hashOf_other (hashOf_drew (hashOf_old (hashOf_zero' (by simp)) _)) _ (by omega)
    have f3:hashOf (((((w.alloc (.cells (h8 leaf) 109)).alloc (.cells zc 109)).alloc (.cells zc 109)).drew).setRow (w.heap.size+1+1) (h8 last)) (w.heap.size+1+1) last:=hashOf_set (hashOf_drew (hashOf_zero' (by simp))) _
    have f4:Below w.heap.size w (((((w.alloc (.cells (h8 leaf) 109)).alloc (.cells zc 109)).alloc (.cells zc 109)).drew).setRow (w.heap.size+1+1) (h8 last)):=below_setRow (((((below_alloc w _).alloc (by simp) _).alloc (by simp;omega) _).drew)) (by omega) _
    have f5:(((((w.alloc (.cells (h8 leaf) 109)).alloc (.cells zc 109)).alloc (.cells zc 109)).drew).setRow (w.heap.size+1+1) (h8 last)).heap.size=w.heap.size+1+1+1:=by simp
    have F4:=zh f4
    have F5:=zh f5
    clear f4 f5 hst
    generalize (((((w.alloc (.cells (h8 leaf) 109)).alloc (.cells zc 109)).alloc (.cells zc 109)).drew).setRow (w.heap.size+1+1) (h8 last))=W2 at *
    go_wp2_with fail
    refine (split_any _ _ (by omega) (by omega)).mono ?_
    rintro e w0 ⟨rfl,rfl⟩
    rw[←HK.o]
    go_wp2_with (refine wpList_load8 rfl 109 _ rfl _ rfl _ underlying109 info8 ?_ ?_ ?_;rotate_left;focus ((repeat(first|(with_reducible first|assumption|exact hashOf_set' ⟨_,by assumption⟩ _)|((with_reducible first|refine hashOf_zero' ?_|refine hashOf_at ?_|refine hashOf_set' (Is8_zero ?_) _);(first|rfl|(simp;done)|(simp;omega)))|with_reducible refine hashOf_old ?_ _|((with_reducible refine hashOf_other ?_ _ ?_);rotate_left;(focus(first|(simp;done)|(simp;omega)|omega)))|with_reducible first|refine hashOf_drew ?_|refine hashOf_below ?_ (by assumption)));done))
    refine (IH.o q leaf i k _ _ HL.o (Cells.below HQ.o F4.o) h0 hik (by omega) (by omega)).mono ?_
    rintro e w1 ⟨s,rfl,hsh,hb⟩
    have hz:w.heap.size+3≤w1.heap.size:=by have:=hb.size;rw[F5.o] at this;omega
    have g2:=hashOf_below f2 hb
    have g3:=hashOf_below f3 hb
    have HSH:=zh hsh
    have F6:=zh (F4.o.trans (hb.mono F4.o.size))
    clear hsh f1 f2 f3 hb
    obtain⟨r,hrr⟩:∃ r,r=rebuild leaf i.toNat (k:Int).toNat q:=⟨_,rfl⟩
    rw[←hrr]
    have HRR:=zh hrr
    clear hrr
    go_wp2_with (first|((first|refine wpList_load8 rfl 109 _ rfl _ rfl _ underlying109 info8 ?_ ?_ ?_|refine wpList_store8 rfl 109 _ _ rfl _ _ rfl rfl info8 ?_ ?_ ?_);rotate_left;focus((repeat(first|(with_reducible first|assumption|exact hashOf_set' ⟨_,by assumption⟩ _)|((with_reducible first|refine hashOf_zero' ?_|refine hashOf_at ?_|refine hashOf_set' (Is8_zero ?_) _);(first|rfl|(simp;done)|(simp;omega)))|with_reducible refine hashOf_old ?_ _|((with_reducible refine hashOf_other ?_ _ ?_);rotate_left;(focus(first|(simp;done)|(simp;omega)|omega)))|with_reducible first|refine hashOf_drew ?_|refine hashOf_below ?_ (by assumption)));done)))
    refine (node_any s last _).mono ?_
    rintro e w2 ⟨rfl,hb2⟩
    have k2:hashOf w2 (w.heap.size+1) zero8:=by
     (repeat(first|(with_reducible first|assumption|exact hashOf_set' ⟨_,by assumption⟩ _)|((with_reducible first|refine hashOf_zero' ?_|refine hashOf_at ?_|refine hashOf_set' (Is8_zero ?_) _);(first|rfl|(simp;done)|(simp;omega)))|with_reducible refine hashOf_old ?_ _|((with_reducible refine hashOf_other ?_ _ ?_);rotate_left;(focus(first|(simp;done)|(simp;omega)|omega)))|with_reducible first|refine hashOf_drew ?_|refine hashOf_below ?_ (by assumption)))
    have F7:Below w.heap.size w w2:=(below_setRow (F6.o.alloc F6.o.size _) F6.o.size _).trans (hb2.mono (by simp;omega))
    go_wp2_with (first|(refine wpList_store8 rfl 109 _ _ rfl _ _ rfl rfl info8 ?_ ?_ ?_;rotate_left;focus ((repeat(first|(with_reducible first|assumption|exact hashOf_set' ⟨_,by assumption⟩ _)|((with_reducible first|refine hashOf_zero' ?_|refine hashOf_at ?_|refine hashOf_set' (Is8_zero ?_) _);(first|rfl|(simp;done)|(simp;omega)))|with_reducible refine hashOf_old ?_ _|((with_reducible refine hashOf_other ?_ _ ?_);rotate_left;(focus(first|(simp;done)|(simp;omega)|omega)))|with_reducible first|refine hashOf_drew ?_|refine hashOf_below ?_ (by assumption)));done)))
    have hre:rebuild leaf i.toNat n.toNat (q ++ [last])=r.map (nodeH · last):=by
     rw[HR.o,if_pos (by omega),HRR.o];rfl
    refine ret8t (w.heap.size+1) (nodeH s last) (.bool r.isSome) rfl rfl rfl _ underlying109 info8 (hashOf_set k2 _) rfl ⟨_,by rw[hre,Option.isSome_map],fun h hh=>?_,below_setRow F7 (by omega) _⟩
    rw[hre] at hh
    obtain⟨h',hh',rfl⟩:=Option.map_eq_some_iff.1 hh
    rw[HSH.o h' (by rw[←HRR.o];exact hh')]
   ·go_enter func148,ntmps148
    go_wp2_with fail
    go_region
    have f1:hashOf (((((w.alloc (.cells (h8 leaf) 109)).alloc (.cells zc 109)).alloc (.cells zc 109)).drew).setRow (w.heap.size+1+1) (h8 last)) w.heap.size leaf:=hashOf_other (hashOf_drew (hashOf_old (hashOf_old (hashOf_new w leaf) _) _)) _ (by omega)
    have f2:hashOf (((((w.alloc (.cells (h8 leaf) 109)).alloc (.cells zc 109)).alloc (.cells zc 109)).drew).setRow (w.heap.size+1+1) (h8 last)) (w.heap.size+1) zero8:=hashOf_other (hashOf_drew (hashOf_old (hashOf_zero' (by simp)) _)) _ (by omega)
    have f3:hashOf (((((w.alloc (.cells (h8 leaf) 109)).alloc (.cells zc 109)).alloc (.cells zc 109)).drew).setRow (w.heap.size+1+1) (h8 last)) (w.heap.size+1+1) last:=hashOf_set (hashOf_drew (hashOf_zero' (by simp))) _
    have f4:Below w.heap.size w (((((w.alloc (.cells (h8 leaf) 109)).alloc (.cells zc 109)).alloc (.cells zc 109)).drew).setRow (w.heap.size+1+1) (h8 last)):=below_setRow (((((below_alloc w _).alloc (by simp) _).alloc (by simp;omega) _).drew)) (by omega) _
    have f5:(((((w.alloc (.cells (h8 leaf) 109)).alloc (.cells zc 109)).alloc (.cells zc 109)).drew).setRow (w.heap.size+1+1) (h8 last)).heap.size=w.heap.size+1+1+1:=by simp
    have F4:=zh f4
    have F5:=zh f5
    clear f4 f5 hst
    generalize (((((w.alloc (.cells (h8 leaf) 109)).alloc (.cells zc 109)).alloc (.cells zc 109)).drew).setRow (w.heap.size+1+1) (h8 last))=W2 at *
    go_wp2_with fail
    refine (split_any _ _ (by omega) (by omega)).mono ?_
    rintro e w0 ⟨rfl,rfl⟩
    rw[←HK.o]
    go_wp2_with (refine wpList_load8 rfl 109 _ rfl _ rfl _ underlying109 info8 ?_ ?_ ?_;rotate_left;focus ((repeat(first|(with_reducible first|assumption|exact hashOf_set' ⟨_,by assumption⟩ _)|((with_reducible first|refine hashOf_zero' ?_|refine hashOf_at ?_|refine hashOf_set' (Is8_zero ?_) _);(first|rfl|(simp;done)|(simp;omega)))|with_reducible refine hashOf_old ?_ _|((with_reducible refine hashOf_other ?_ _ ?_);rotate_left;(focus(first|(simp;done)|(simp;omega)|omega)))|with_reducible first|refine hashOf_drew ?_|refine hashOf_below ?_ (by assumption)));done))
    refine (IH.o q leaf (i-k) (n-k) _ _ HL.o (Cells.below HQ.o F4.o) (by omega) (by omega) (by omega) (by omega)).mono ?_
    rintro e w1 ⟨s,rfl,hsh,hb⟩
    have hz:w.heap.size+3≤w1.heap.size:=by have:=hb.size;rw[F5.o] at this;omega
    have g2:=hashOf_below f2 hb
    have g3:=hashOf_below f3 hb
    have HSH:=zh hsh
    have F6:=zh (F4.o.trans (hb.mono F4.o.size))
    clear hsh f1 f2 f3 hb
    obtain⟨r,hrr⟩:∃ r,r=rebuild leaf (i-k).toNat (n-k).toNat q:=⟨_,rfl⟩
    rw[←hrr]
    have HRR:=zh hrr
    clear hrr
    go_wp2_with (first|((first|refine wpList_load8 rfl 109 _ rfl _ rfl _ underlying109 info8 ?_ ?_ ?_|refine wpList_store8 rfl 109 _ _ rfl _ _ rfl rfl info8 ?_ ?_ ?_);rotate_left;focus((repeat(first|(with_reducible first|assumption|exact hashOf_set' ⟨_,by assumption⟩ _)|((with_reducible first|refine hashOf_zero' ?_|refine hashOf_at ?_|refine hashOf_set' (Is8_zero ?_) _);(first|rfl|(simp;done)|(simp;omega)))|with_reducible refine hashOf_old ?_ _|((with_reducible refine hashOf_other ?_ _ ?_);rotate_left;(focus(first|(simp;done)|(simp;omega)|omega)))|with_reducible first|refine hashOf_drew ?_|refine hashOf_below ?_ (by assumption)));done)))
    refine (node_any last s _).mono ?_
    rintro e w2 ⟨rfl,hb2⟩
    have k2:hashOf w2 (w.heap.size+1) zero8:=by
     (repeat(first|(with_reducible first|assumption|exact hashOf_set' ⟨_,by assumption⟩ _)|((with_reducible first|refine hashOf_zero' ?_|refine hashOf_at ?_|refine hashOf_set' (Is8_zero ?_) _);(first|rfl|(simp;done)|(simp;omega)))|with_reducible refine hashOf_old ?_ _|((with_reducible refine hashOf_other ?_ _ ?_);rotate_left;(focus(first|(simp;done)|(simp;omega)|omega)))|with_reducible first|refine hashOf_drew ?_|refine hashOf_below ?_ (by assumption)))
    have F7:Below w.heap.size w w2:=(below_setRow (F6.o.alloc F6.o.size _) F6.o.size _).trans (hb2.mono (by simp;omega))
    go_wp2_with (first|(refine wpList_store8 rfl 109 _ _ rfl _ _ rfl rfl info8 ?_ ?_ ?_;rotate_left;focus ((repeat(first|(with_reducible first|assumption|exact hashOf_set' ⟨_,by assumption⟩ _)|((with_reducible first|refine hashOf_zero' ?_|refine hashOf_at ?_|refine hashOf_set' (Is8_zero ?_) _);(first|rfl|(simp;done)|(simp;omega)))|with_reducible refine hashOf_old ?_ _|((with_reducible refine hashOf_other ?_ _ ?_);rotate_left;(focus(first|(simp;done)|(simp;omega)|omega)))|with_reducible first|refine hashOf_drew ?_|refine hashOf_below ?_ (by assumption)));done)))
    have hre:rebuild leaf i.toNat n.toNat (q ++ [last])=r.map (nodeH last ·):=by
     rw[HR.o,if_neg (by omega),HRR.o]
     congr 2 <;> omega
    refine ret8t (w.heap.size+1) (nodeH last s) (.bool r.isSome) rfl rfl rfl _ underlying109 info8 (hashOf_set k2 _) rfl ⟨_,by rw[hre,Option.isSome_map],fun h hh=>?_,below_setRow F7 (by omega) _⟩
    rw[hre] at hh
    obtain⟨h',hh',rfl⟩:=Option.map_eq_some_iff.1 hh
    rw[HSH.o h' (by rw[←HRR.o];exact hh')]
end
theorem info8':∃ i,prog.info? 5=some i∧i.size=1:=by
 obtain⟨i0,hi,hz0,hz1,hz2⟩:=info_parts (show (prog.info? 5).map (fun i=>(i.zero,i.size,i.bytes))=some (some (.int .u8 0),1,1) by kernel_rfl)
 exact⟨i0,hi,hz1⟩
theorem part_u8 (w:World) (xs:Array Value) (i:Nat) (v:Value) (h:xs[i]?=some v):Sem.run prog (Go.part 5 xs i) w=.ok v w:=by
 obtain⟨i0,hi,hs⟩:=info8'
 simp[Go.part,run_underlying underlying5,isAgg,sizeOf,typeInfo,hi,hs,h]
theorem vec8_eq (a b:Hsh) (e0:a[0]=b[0]) (e1:a[1]=b[1]) (e2:a[2]=b[2]) (e3:a[3]=b[3]) (e4:a[4]=b[4]) (e5:a[5]=b[5]) (e6:a[6]=b[6]) (e7:a[7]=b[7]):a=b:=by
 apply Vector.ext
 intro i hi
 have:i=0∨i=1∨i=2∨i=3∨i=4∨i=5∨i=6∨i=7:=by omega
 rcases this with rfl|rfl|rfl|rfl|rfl|rfl|rfl|rfl <;> assumption
theorem eqn (w:World) (a b:Hsh):Sem.run prog (Op.equalIn 10000 109 (.agg (h8 a)) (.agg (h8 b))) w=.ok (some a == some b) w:=by
 rw[show (10000:Nat)=9998+1+1 from rfl,Op.equalIn]
 obtain⟨i0,hi,hs⟩:=info8'
 have hp:=fun w=>part_u8 w (h8 a) 0 _ (h8_0 a)
 have hp1:=fun w=>part_u8 w (h8 a) 1 _ (h8_1 a)
 have hp2:=fun w=>part_u8 w (h8 a) 2 _ (h8_2 a)
 have hp3:=fun w=>part_u8 w (h8 a) 3 _ (h8_3 a)
 have hp4:=fun w=>part_u8 w (h8 a) 4 _ (h8_4 a)
 have hp5:=fun w=>part_u8 w (h8 a) 5 _ (h8_5 a)
 have hp6:=fun w=>part_u8 w (h8 a) 6 _ (h8_6 a)
 have hp7:=fun w=>part_u8 w (h8 a) 7 _ (h8_7 a)
 have hq:=fun w=>part_u8 w (h8 b) 0 _ (h8_0 b)
 have hq1:=fun w=>part_u8 w (h8 b) 1 _ (h8_1 b)
 have hq2:=fun w=>part_u8 w (h8 b) 2 _ (h8_2 b)
 have hq3:=fun w=>part_u8 w (h8 b) 3 _ (h8_3 b)
 have hq4:=fun w=>part_u8 w (h8 b) 4 _ (h8_4 b)
 have hq5:=fun w=>part_u8 w (h8 b) 5 _ (h8_5 b)
 have hq6:=fun w=>part_u8 w (h8 b) 6 _ (h8_6 b)
 have hq7:=fun w=>part_u8 w (h8 b) 7 _ (h8_7 b)
 have he:=fun (w:World) (x y:UInt8)=>run_equalIn_int (P:=prog) (w:=w) 9998 5 .u8 .u8 x.toNat y.toNat underlying5
 simp only[Sem.run_bind,run_underlying underlying109,Result.andThen_ok,sizeOf,typeInfo]
 simp[hi,hs,Std.Legacy.Range.forIn_eq_forIn_range',List.range',Std.Legacy.Range.size,hp,hp1,hp2,hp3,hp4,hp5,hp6,hp7,hq,hq1,hq2,hq3,hq4,hq5,hq6,hq7,he]
 by_cases e:a=b
 ·subst e;simp
 ·have hI:∀ x y:UInt8,((x.toNat:Int)=(y.toNat:Int))=(x=y):=fun x y=>by
   apply propext
   exact⟨fun h=>UInt8.toNat_inj.1 (by omega),fun h=>by rw[h]⟩
  have hf:(a == b)=false:=by rw[beq_eq_false_iff_ne];exact e
  simp only[hI,hf]
  repeat' split
  all_goals first|rfl|(exfalso;apply e;apply vec8_eq <;> assumption)
theorem eql_hash (w:World) (a b:Hsh):Sem.run prog (binOp .eql 109 (.agg (h8 a)) (.agg (h8 b))) w=.ok (Value.bool (some a == some b)) w:=by
 rw[run_eql_struct,eqn]
 rfl
theorem mincluded_any (p:List Hsh) (leaf root:Hsh) (i n:Int) (v:Value) (w:World) (h:HashesAt w v p) (hi : -9223372036854775808≤i) (hn:n≤9223372036854775807) (hm:p.length≤1048576) :
  Calls prog 96 #[.agg (h8 leaf),.int .i64 i,.int .i64 n,v,.agg (h8 root)] w fun e w'=>e=.returned (.bool (included leaf i n p root))∧Below w.heap.size w w':=by
 obtain⟨a,c,hv,_⟩:=id h
 by_cases h0:0≤i
 ·have hd:decide (i<0)=false:=by simp;omega
  by_cases hin:i<n
  ·have hd2:decide (n≤i)=false:=by simp;omega
   have hinc:included leaf i n p root=(rebuild leaf i.toNat n.toNat p == some root):=by simp[included,h0,hin]
   have HI:=zh hinc
   have HH:=zh h
   have HV:=zh hv
   clear hinc h hv
   go_enter func96,ntmps96
   go_wp2_with (refine wpList_load8 rfl 109 _ rfl _ rfl _ underlying109 info8 ?_ ?_ ?_;rotate_left;focus ((repeat(first|(with_reducible first|assumption|exact hashOf_set' ⟨_,by assumption⟩ _)|((with_reducible first|refine hashOf_zero' ?_|refine hashOf_at ?_|refine hashOf_set' (Is8_zero ?_) _);(first|rfl|(simp;done)|(simp;omega)))|with_reducible refine hashOf_old ?_ _|((with_reducible refine hashOf_other ?_ _ ?_);rotate_left;(focus(first|(simp;done)|(simp;omega)|omega)))|with_reducible first|refine hashOf_drew ?_|refine hashOf_below ?_ (by assumption)));done))
   refine (include_any p.length p leaf i n v _ rfl (Cells.below HH.o ((below_alloc w _).alloc (by simp) _)) h0 hin hn hm).mono ?_
   rintro e w1 ⟨s,rfl,hsh,hb⟩
   have hbb:Below w.heap.size w w1:=((below_alloc w _).alloc (by simp) _).trans (hb.mono (by simp;omega))
   have HBB:=zh hbb
   have hz:w.heap.size+2≤w1.heap.size:=by have:=hb.size;simp at this;omega
   have g1:hashOf w1 (w.heap.size+1) root:=hashOf_below (hashOf_at (by simp)) hb
   have HSH:=zh hsh
   clear hsh hbb hb
   obtain⟨r,hrr⟩:∃ r,r=rebuild leaf i.toNat n.toNat p:=⟨_,rfl⟩
   rw[←hrr]
   have HRR:=zh hrr
   clear hrr
   have hq:=fun w=>eql_hash w s root
   cases r with
   | none=>
    go_wp2_with (first|((first|refine wpList_load8 rfl 109 _ rfl _ rfl _ underlying109 info8 ?_ ?_ ?_|refine wpList_store8 rfl 109 _ _ rfl _ _ rfl rfl info8 ?_ ?_ ?_);rotate_left;focus((repeat(first|(with_reducible first|assumption|exact hashOf_set' ⟨_,by assumption⟩ _)|((with_reducible first|refine hashOf_zero' ?_|refine hashOf_at ?_|refine hashOf_set' (Is8_zero ?_) _);(first|rfl|(simp;done)|(simp;omega)))|with_reducible refine hashOf_old ?_ _|((with_reducible refine hashOf_other ?_ _ ?_);rotate_left;(focus(first|(simp;done)|(simp;omega)|omega)))|with_reducible first|refine hashOf_drew ?_|refine hashOf_below ?_ (by assumption)));done)))
    go_ret
    exact⟨ret_bool (by rw[HI.o,←HRR.o];rfl),below_setRow (HBB.o.alloc HBB.o.size _) HBB.o.size _⟩
   | some h=>
    obtain rfl:s=h:=HSH.o h HRR.o.symm
    go_wp2_with (first|((first|refine wpList_load8 rfl 109 _ rfl _ rfl _ underlying109 info8 ?_ ?_ ?_|refine wpList_store8 rfl 109 _ _ rfl _ _ rfl rfl info8 ?_ ?_ ?_);rotate_left;focus((repeat(first|(with_reducible first|assumption|exact hashOf_set' ⟨_,by assumption⟩ _)|((with_reducible first|refine hashOf_zero' ?_|refine hashOf_at ?_|refine hashOf_set' (Is8_zero ?_) _);(first|rfl|(simp;done)|(simp;omega)))|with_reducible refine hashOf_old ?_ _|((with_reducible refine hashOf_other ?_ _ ?_);rotate_left;(focus(first|(simp;done)|(simp;omega)|omega)))|with_reducible first|refine hashOf_drew ?_|refine hashOf_below ?_ (by assumption)));done)))
    go_ret
    refine⟨ret_bool ?_,below_setRow (HBB.o.alloc HBB.o.size _) HBB.o.size _⟩
    rw[HI.o,←HRR.o]
    rfl
  ·have hd2:decide (n≤i)=true:=by simp;omega
   clear h
   subst hv
   go_enter func96,ntmps96
   go_wp2
   go_ret
   exact⟨ret_bool (by simp[included];omega),(below_alloc w _).alloc (by simp) _⟩
 ·have hd:decide (i<0)=true:=by simp;omega
  clear h
  subst hv
  go_enter func96,ntmps96
  go_wp2
  go_ret
  exact⟨ret_bool (by simp[included];omega),(below_alloc w _).alloc (by simp) _⟩
end
section
open Go.RowKit Go.MuLone
def ReadPost (F:Nat→Addr) (w:World) (gc gk mc gn gd:Nat) (vl vt:Value) (qs:List CEnt) (r:Tld×(List UInt8×List Hsh)×Cl×Nt) (e:Ending) (w':World):Prop:=
 ∃ u v y,e=.returned (.tuple #[u,v,y])∧OwnBytes w' w.heap.size u r.2.1.1∧OwnHs w' w.heap.size v r.2.1.2∧ErrIs F w' w.heap.size r.1 y∧
  ∃ qs',@ClM ⟨⟨u.ownBlock⟩⟩ 0 w' gc gk mc (.iface 44 (.pointer (some ⟨gn,0,none⟩))) r.2.2.1 qs'∧NetIs w' gn gd vl vt r.2.2.2∧Fr (cnS gc gk mc gn vt qs) w w'∧Sub w (cnS gc gk mc gn vt qs) (cnS gc gk mc gn vt qs')∧(r.1=tFine∨u=.slice none 0 0)
theorem read_door {R:Ending→World→Prop} {T:Array Value} {W:World} {gc:Nat} {u v y:Value} (h0:W.cell? ⟨gc,0,none⟩=some (.int .i32 1)) (h1:W.frozen? ⟨gc,0,none⟩=false) (hT4:T.getD 4 undef=u) (hT5:T.getD 5 undef=v) (hT6:T.getD 6 undef=y)
  (hR:R (.returned (.tuple #[u,v,y])) (W.setCell ⟨gc,0,none⟩ (.int .i32 0))) :
  bodyPostD prog f45 R Exit.ret { tmps:=T,defers:=[{ target:=.fn (.func 84) #[],args:=#[.pointer (some ⟨gc,0,none⟩)] }] } W:=by
 refine leaves_cons (f:=84) (args:=#[.pointer (some ⟨gc,0,none⟩)]) (by simp) (by simp[go_sem]) ?_
 refine (unlock_deferred muLib ⟨gc,0,none⟩ .returning W h0 h1).mono ?_
 rintro e u' w'' ⟨rfl,rfl,rfl⟩
 simp only[Leaves,settle]
 refine⟨.tuple #[u,v,y],?_,hR⟩
 have a4:T[4]?.getD undef=u:=by simpa [Array.getD_eq_getD_getElem?] using hT4
 have a5:T[5]?.getD undef=v:=by simpa [Array.getD_eq_getD_getElem?] using hT5
 have a6:T[6]?.getD undef=y:=by simpa [Array.getD_eq_getD_getElem?] using hT6
 simp[results,results45,go_sem,a4,a5,a6]
theorem read_end {F:Nat→Addr} {w W:World} {gc gk mc gn gd:Nat} {vl vt u v y:Value} {qs qs':List CEnt} {t:Tld} {b:List UInt8} {l:List Hsh} {c':Cl} {n':Nt} (hc : @ClM ⟨⟨u.ownBlock⟩⟩ 1 W gc gk mc (.iface 44 (.pointer (some ⟨gn,0,none⟩))) c' qs') (hn:NetIs W gn gd vl vt n') (hf:Fr (cnS gc gk mc gn vt qs) w W) (hs:Sub w (cnS gc gk mc gn vt qs) (cnS gc gk mc gn vt qs'))
  (hg:gc<w.heap.size) (hu:OwnBytes W w.heap.size u b) (hv:OwnHs W w.heap.size v l) (he:ErrIs F W w.heap.size t y) (hz:t=tFine∨u=.slice none 0 0):ReadPost F w gc gk mc gn gd vl vt qs (t,(b,l),c',n') (.returned (.tuple #[u,v,y])) (W.setCell ⟨gc,0,none⟩ (.int .i32 0)):=by
 have hcells:=@ClM.cells ⟨⟨u.ownBlock⟩⟩ _ _ _ _ _ _ _ _ hc
 have hF:=Fr.set1 W gc 0 (.int .i32 0)
 have hk:=kinds_one hcells
 refine⟨u,v,y,rfl,hu.same fun k C fz hC=>hF.block k (lt_of_heap hC) (kinds_not hk hC (by decide)),row_kept hv hF hk (by decide),he.fr hF fun k C fz hC=>kinds_not hk hC (by decide),qs',@ClM.turn ⟨⟨u.ownBlock⟩⟩ _ _ _ _ _ _ _ _ hc 0,?_,hf.step hF fun i hi e=>.inl (.inl e),hs,hz⟩
 exact net_kept hn hF hk (by decide) (by decide) (by decide)
end
section
open Go.RowKit Go.MuLone
section
variable [Inhabited OutT]
theorem file_two {F:Nat→Addr} {w:World} {q:Qf} {x:Qv} {N:Nat} {d:Dk} {r:Except QErr (List UInt8)×Cs} {e:Ending} {w':World} (h:FilePost F w q x N d r e w'):∃ u y,e=.returned (.tuple #[u,y])∧QStep w q x N d w' r.2∧((∃ b a n c,r.1=.ok b∧y=.nilIface∧u=.slice a n c∧OwnBytes w' 0 (.slice a n c) b)∨∃ p,r.1=.error (.miss p)∧u=.slice none 0 0∧(∃ g,y=.iface 153 (.pointer (some ⟨g,0,none⟩)))∧MissErr F w' w.heap.size p y):=by
 obtain⟨h1,⟨b,a,n,c,h2,rfl,h3⟩|⟨p,u,h2,rfl,h3⟩⟩:=h
 ·exact⟨_,_,rfl,h1,.inl ⟨b,a,n,c,h2,rfl,rfl,h3⟩⟩
 ·exact⟨_,_,rfl,h1,.inr ⟨p,h2,rfl,⟨h3.choose,h3.choose_spec.1⟩,h3⟩⟩
theorem gath_two {F:Nat→Addr} {w:World} {q:Qf} {x:Qv} {N:Nat} {d:Dk} {r:Except QErr (List Hsh)×Cs} {e:Ending} {w':World} (h:GathPost F w q x N d r e w'):∃ v y,e=.returned (.tuple #[v,y])∧QStep w q x N d w' r.2∧((∃ l,r.1=.ok l∧y=.nilIface∧OwnHs w' w.heap.size v l)∨∃ p,r.1=.error (.miss p)∧v=.slice none 0 0∧(∃ g,y=.iface 153 (.pointer (some ⟨g,0,none⟩)))∧MissErr F w' w.heap.size p y):=by
 obtain⟨h1,⟨l,v,h2,rfl,h3⟩|⟨p,u,h2,rfl,h3⟩⟩:=h
 ·exact⟨_,_,rfl,h1,.inl ⟨l,h2,rfl,h3⟩⟩
 ·exact⟨_,_,rfl,h1,.inr ⟨p,h2,rfl,⟨h3.choose,h3.choose_spec.1⟩,h3⟩⟩
end
theorem ownB_block {w':World} {a:Option Addr} {n c base:Nat} {l:List UInt8} (h:OwnBytes w' base (.slice a n c) l):∀ z,(Value.slice a n c).ownBlock=some z→base≤z∧z<w'.heap.size:=fun z hz=>by
 rcases h with ⟨e,_⟩|⟨b,off,c,C,fz,e,_,h2,h3,_⟩
 ·rw[e] at hz;cases hz
 ·rw[e] at hz
  simp[Value.ownBlock] at hz
  subst hz
  exact⟨h2,lt_of_heap h3⟩
theorem unb_yes {data:List UInt8} {ls:List (List UInt8)} {w w':World} {e:Ending} (hl:unbundleOf data=some ls) (h:unbPost data w e w'):∃ v' b,e=.returned (.tuple #[v',.bool b])∧Below w.heap.size w w'∧OwnBss w' w.heap.size v' ls:=by
 obtain⟨v',h1,h2,⟨h3,_⟩|⟨ls',h3,h4⟩⟩:=h
 ·rw[hl] at h3;cases h3
 ·rw[hl] at h3;cases h3
  exact⟨v',_,h1,h2,h4⟩
abbrev cQ (gq gc gk mc gn gd mq:Nat) (vl vt v:Value) (c:Cl):Qf:=⟨gq,gc,gk,mc,gn,gd,mq,vl,vt,v,cliC 1 (.iface 44 (.pointer (some ⟨gn,0,none⟩))) c.key c.size c.root gk⟩
theorem read_fin {F:Nat→Addr} {w w1 w2 W:World} {gc gk mc gn gd gq mq N:Nat} {vl vt v u v5 y:Value} {qs:List CEnt} {x:Qv} {t:Tld} {b:List UInt8} {l:List Hsh} {c:Cl} {s:Cs} {d:Dk} (hF1:Fr (·=gc) w w1) (hz:w1.heap.size=w.heap.size) (hb2:Below w1.heap.size w1 w2) (hgq:w1.heap.size≤gq) (hmq:w1.heap.size≤mq) (hg:gc<w.heap.size)
  (h : @QIs ⟨⟨u.ownBlock⟩⟩ W (cQ gq gc gk mc gn gd mq vl vt v c) x N s d) (hf:Fr (QS (cQ gq gc gk mc gn gd mq vl vt v c) ⟨.slice none 0 0,qs,[]⟩) w2 W) (hs:Sub w2 (QS (cQ gq gc gk mc gn gd mq vl vt v c) ⟨.slice none 0 0,qs,[]⟩) (QS (cQ gq gc gk mc gn gd mq vl vt v c) x))
  (hu:OwnBytes W w.heap.size u b) (hv:OwnHs W w.heap.size v5 l) (he:ErrIs F W w.heap.size t y) (hz:t=tFine∨u=.slice none 0 0):ReadPost F w gc gk mc gn gd vl vt qs (t,(b,l),{ c with cache:=s.cache },s.net) (.returned (.tuple #[u,v5,y])) (W.setCell ⟨gc,0,none⟩ (.int .i32 0)):=by
 obtain⟨vo,qs',vs⟩:=x
 obtain⟨e1,e2,e3,e4⟩:=@ask_end ⟨⟨u.ownBlock⟩⟩ w1 w2 W 1 gc gk mc gn gd gq mq N vl vt v _ c qs qs' vs vo s d hgq hmq hb2 h hf hs
 exact read_end e1 e2 ((hF1.weak fun _ _ e=>.inl (.inl e)).trans e3) (fun k hk=>(e4 k hk).imp id fun e=>by omega) hg hu hv he hz
theorem read_ask (F:Nat→Addr) (w:World) (gc gk mc gn gd:Nat) (vl vt v:Value) (c:Cl) (qs:List CEnt) (n:Nt) (d:Dk) (h:ClIs w gc gk mc (.iface 44 (.pointer (some ⟨gn,0,none⟩))) c qs) (hn:NetIs w gn gd vl vt n) (hd:DiskAt w gd v d) (hdf:d.files=n.files) (hE:EnvS F (cnS gc gk mc gn vt qs) w) (i:Nat) (hi:i<c.size) (hsz:c.size<9223372036854775808)
  (hb:Bnd (askQ n c.cache) (readT c.size i).length) (hbl:∀ b s1,fileQ fitsBun (-1) (i / 4) c.size (askQ n c.cache)=(.ok b,s1)→b.length≤1099511627776) (hp:(readQ c.size i (askQ n c.cache)).1≠.error .panic) (hL:c.cache.items.length+(readT c.size i).length<1099511627775) :
  Calls prog 45 #[.pointer (some ⟨gc,0,none⟩),.int .i64 i] w (ReadPost F w gc gk mc gn gd vl vt qs (readP c n i)):=by
 obtain⟨R,hR⟩:∃ R,R=readP c n i:=⟨_,rfl⟩
 have hlt:=h.lt
 obtain⟨s0,hs0⟩:∃ s,s=askQ n c.cache:=⟨_,rfl⟩
 obtain⟨N,hN⟩:∃ N,N=c.size:=⟨_,rfl⟩
 rw[←hs0] at hb hbl hp
 rw[←hN] at hb hbl hp hi hsz hL
 rw[←hR]
 have H:=zh h
 have HN:=zh hn
 have HD:=zh hd
 have HDF:=zh hdf
 have HE:=zh hE
 have HR:=zh hR
 have HB:=zh hb
 have HBL:=zh hbl
 have HP:=zh hp
 have HL:=zh hL
 have HS0:=zh hs0
 have HNN:=zh hN
 clear h hn hd hdf hE hR hb hbl hp hL hs0 hN
 have hin:(i:Int)<(N:Int):=by omega
 have hi0:(0:Int)≤(i:Int):=by omega
 go_enter_defers func45,ntmps45
 go_upto_region 4 with (first
  | (go_at_call 83;refine (lock_cl H.o).mono ?_;rintro e w1 ⟨rfl,h1,hf1,hz1⟩;have H1:=zh h1;have HF1:=zh hf1;have d4:=cell_heap h1.cells 4 rfl;rw[←HNN.o] at d4;have HZ1:=zh hz1;clear h1 hf1 hz1)
  | fail)
 go_upto_region 7 with (first
  | (go_at_call 86;refine (look_any w1 gc N).mono ?_;rintro e w2 ⟨gq,mq,rfl,hq2,hm2,hb2,hg2,hmm2⟩;have HQ2:=zh hq2;have HM2:=zh hm2;have HB2:=zh hb2;clear hq2 hm2 hb2)
  | fail)
 have hq0:=ask_is (N:=N) H1.o (net_kept HN.o HF1.o (kinds_one H.o.cells) (by decide) (by decide) (by decide)) (HD.o.kept HF1.o (kinds_one H.o.cells) (by decide) (by decide)) HDF.o (fun z hz=>by cases hz) HB2.o HQ2.o HM2.o hmm2
 rw[←HS0.o] at hq0
 have hE2:EnvS F (QS ⟨gq,gc,gk,mc,gn,gd,mq,vl,vt,v,cliC 1 (.iface 44 (.pointer (some ⟨gn,0,none⟩))) c.key c.size c.root gk⟩ ⟨.slice none 0 0,qs,[]⟩) w2:=
  HE.o.step ((HF1.o.weak fun _ _ e=>.inl (.inl e)).trans (Fr.ofBelow HB2.o)) fun k hk=>by
   rcases Nat.lt_or_ge k w1.heap.size with hlk|hge
   ·exact .inl (ask_sub hg2 hmm2 hlk hk)
   ·exact .inr (Nat.le_trans (Nat.le_of_eq HZ1.o.symm) hge)
 have hrt:(readT N i).length=1+(gatherT N (pathR N 0 N i).reverse).length:=by unfold readT;simp;omega
 have hfb:Calls prog 92 #[.pointer (some ⟨gq,0,none⟩),.int .i64 (-1),.int .i64 (i / 4:Nat),.int .i64 N,.func (.func 93) #[] #[]] w2 (FilePost F w2 _ _ N d (fileQ fitsBun (-1) (i / 4) N s0)):=
  file_bun F w2 _ _ N s0 d hq0 hE2 (-1) (i / 4) N (by omega) hsz (by have:=HB.o.fetches;omega) (by simp) HB.o.small
 have HQ0:=zh hq0
 have HE2:=zh hE2
 have HFB:=zh hfb
 have HRT:=zh hrt
 clear hq0 hE2 hfb hrt
 go_upto_region 8 with (first
  | (go_at_call 92;refine HFB.o.mono ?_;intro e w3 h3;obtain⟨u3,y3,rfl,hq3,hy3⟩:=file_two h3;have HQ3:=zh hq3;have HY3:=zh hy3;clear h3 hq3 hy3)
  | fail)
 obtain⟨r1,hr1⟩:∃ r,r=fileQ fitsBun (-1) (i / 4) N s0:=⟨_,rfl⟩
 have hQ3:=HQ3.o
 have hY3:=HY3.o
 rw[←hr1] at hQ3 hY3
 obtain⟨o1,s1⟩:=r1
 obtain⟨x3,hx3,hf3,hs3⟩:=hQ3
 have HX3:=zh hx3
 have HF3:=zh hf3
 have HS3:=zh hs3
 have HR1:=zh hr1
 clear hx3 hf3 hs3 hr1 HQ3 HY3
 rcases hY3 with ⟨b,a3,n3,c3,hob,rfl,rfl,hb3⟩|⟨p,hop,rfl,⟨ge,rfl⟩,hme⟩
 rotate_left
 ·have HOP:=zh hop
  have HME:=zh hme
  clear hop hme
  go_wp2
  refine read_door (u:=.slice none 0 0) (v:=.slice none 0 0) (y:=.iface 153 (.pointer (some ⟨ge,0,none⟩))) (cell_heap HX3.o.cli 0 rfl) (frozen_heap HX3.o.cli 0) rfl rfl rfl ?_
  have hRe:R=((6,p),([],[]),{ c with cache:=s1.cache },s1.net):=by
   rw[HR.o]
   unfold readP
   rw[if_neg (by rw[←HNN.o];omega),Int.toNat_natCast,←HS0.o,←HNN.o]
   unfold readQ Qm.bind
   rw[←HR1.o]
   have hop2:o1=.error (.miss p):=HOP.o
   rw[hop2]
  rw[hRe]
  exact read_fin HF1.o HZ1.o HB2.o hg2 hmm2 hlt HX3.o HF3.o HS3.o (.inl ⟨rfl,rfl⟩) (World.ownsRow_nil _ _ _ _) (.inr (.inr ⟨p,rfl,MissErr.low HME.o (by have:=HB2.o.size;have:=HZ1.o;omega)⟩)) (.inr rfl)
 have hob:o1=.ok b:=hob
 subst hob
 have hun:∃ ls e,unbundleOf b=some ls∧ls[i%4]?=some e:=by
  have hpp:=HP.o
  unfold readQ Qm.bind at hpp
  rw[←HR1.o] at hpp
  dsimp only at hpp
  cases hu:unbundleOf b with
  | none=>rw[hu] at hpp;exact absurd rfl hpp
  | some ls=>
   rw[hu] at hpp
   dsimp only[Option.getD] at hpp
   cases he:ls[i%4]? with
   | none=>rw[he] at hpp;exact absurd rfl hpp
   | some e=>exact⟨ls,e,rfl,he⟩
 obtain⟨ls,ent,hls,hent⟩:=hun
 have hub:=funbundle_any (.slice a3 n3 c3) b w3 hb3.at (HBL.o b s1 HR1.o.symm)
 have HUB:=zh hub
 have HLS:=zh hls
 have HENT:=zh hent
 clear hub hls hent hb3
 have hi4:((i%4:Nat):Int)<(ls.length:Int):=by have:=(List.getElem?_eq_some_iff.1 HENT.o).1;omega
 have hi40:(0:Int)≤((i%4:Nat):Int):=by omega
 go_upto_region 11 with (first
  | (go_at_call 94;refine HUB.o.mono ?_;intro e w4 h4;obtain⟨v4,b4,rfl,hb4,ho4⟩:=unb_yes HLS.o h4;have HB4:=zh hb4;have HO4:=zh ho4;clear h4 hb4 ho4)
  | fail)
 obtain⟨vs4,hrow4,hall4⟩:=HO4.o
 have hvl:=hrow4
 obtain⟨ve,hve⟩:∃ ve,vs4[i%4]?=some ve:=by
  have hl:=hrow4.1
  exact⟨_,List.getElem?_eq_getElem (by omega)⟩
 have hoe:=hall4 _ _ _ hve HENT.o
 obtain⟨ae,ne,ce,hvE⟩:=ownB_any hoe
 subst hvE
 obtain⟨a4,c4,hv4,_,hcell⟩:=ownsRow_cells hrow4
 obtain⟨bb4,off4,ha4,hc4⟩:=hcell _ _ hve
 subst ha4
 subst hv4
 have HOE:=zh hoe
 have hc4i:w4.cell? ⟨bb4,off4+(((i:Int)%4)).toNat,none⟩=some (.slice ae ne ce):=by
  rw[show ((i:Int)%4).toNat=i%4 by omega]
  exact hc4
 have hi4i:(i:Int)%4<(ls.length:Int):=by omega
 have hi40i:(0:Int)≤(i:Int)%4:=by omega
 clear hrow4 hall4 hvl hve hoe hcell hi4 hi40 HO4
 go_upto_region 12 with fail
 have hown:∀ z,(Value.slice ae ne ce).ownBlock=some z→w3.heap.size≤z∧z<w4.heap.size:=ownB_block HOE.o
 have hq4 : @QIs ⟨⟨(Value.slice ae ne ce).ownBlock⟩⟩ w4 (cQ gq gc gk mc gn gd mq vl vt v c) x3 N s1 d:=QIs.outB (o2:=⟨(Value.slice ae ne ce).ownBlock⟩) HX3.o HB4.o hown
 have hE4:EnvS F (QS (cQ gq gc gk mc gn gd mq vl vt v c) x3) w4:=(HE2.o.step HF3.o HS3.o).below HB4.o
 have hb1:Bnd s1 (gatherT N (pathR N 0 N i).reverse).length:=by
  have:=HB.o
  rw[HRT.o] at this
  have h2:=this.next (fileQ_costs fitsBun (-1) (i / 4) N) (fileQ_kept (keepsQ_same s0.net) fitsBun (-1) (i / 4) N s0 (SameN.refl _))
  rw[←HR1.o] at h2
  exact h2
 have hrq:readQ N i s0=(match gatherQ N (pathR N 0 N i).reverse s1 with|(.ok l,s2)=>(.ok (ent,l),s2)|(.error e,s2)=>(.error e,s2)):=by
  unfold readQ Qm.bind
  rw[←HR1.o]
  dsimp only
  rw[HLS.o]
  dsimp only[Option.getD]
  rw[HENT.o]
  dsimp only
  cases hg:gatherQ N (pathR N 0 N i).reverse s1 with
  | mk o s2=>cases o <;> rfl
 have hp1:(gatherQ N (pathR N 0 N i).reverse s1).1≠.error .panic:=fun e=>by
  apply HP.o
  rw[hrq]
  cases hg:gatherQ N (pathR N 0 N i).reverse s1 with
  | mk o s2=>rw[hg] at e;dsimp only at e;subst e;rfl
 have hwh:=fun W hW=>@mwholeQ_any ⟨⟨(Value.slice ae ne ce).ownBlock⟩⟩ W (cQ gq gc gk mc gn gd mq vl vt v c) x3 N s1 d (@QIs.below ⟨⟨(Value.slice ae ne ce).ownBlock⟩⟩ _ W _ _ _ _ _ hq4 hW)
 have hpa:=fun W hW g1 g3 hc=>@qpath_any ⟨⟨(Value.slice ae ne ce).ownBlock⟩⟩ F W (cQ gq gc gk mc gn gd mq vl vt v c) x3 N s1 d (@QIs.below ⟨⟨(Value.slice ae ne ce).ownBlock⟩⟩ _ W _ _ _ _ _ hq4 hW) (hE4.below hW) g1 g3 hc i N hi (Nat.le_refl _) hsz hb1 hp1
 have HWH:=zh hwh
 have HPA:=zh hpa
 have HRQ:=zh hrq
 have HOWN:=zh hown
 clear hown hq4 hE4 hb1 hrq hp1 hwh hpa
 go_upto_region 13 with (first
  | (go_at_call 88;refine (HWH.o w4 (Below.refl _ _)).mono ?_;rintro e w5 ⟨g1,g3,rfl,hc5,hb5⟩;have HC5:=zh hc5;have HB5:=zh hb5;clear hc5 hb5)
  | (go_at_call 95;refine (HPA.o w5 HB5.o g1 g3 HC5.o).mono ?_;intro e w6 h6;obtain⟨v6,y6,rfl,hq6,hy6⟩:=@gath_two ⟨⟨(Value.slice ae ne ce).ownBlock⟩⟩ _ _ _ _ _ _ _ _ _ h6;have HQ6:=zh hq6;have HY6:=zh hy6;clear h6 hq6 hy6)
  | fail)
 obtain⟨r2,hr2⟩:∃ r,r=gatherQ N (pathR N 0 N i).reverse s1:=⟨_,rfl⟩
 have hQ6:=HQ6.o
 have hY6:=HY6.o
 rw[←hr2] at hQ6 hY6
 obtain⟨o2,s2⟩:=r2
 obtain⟨x6,hx6,hf6,hs6⟩:=hQ6
 have hz5:w2.heap.size≤w5.heap.size:=Nat.le_trans HF3.o.size (Nat.le_trans HB4.o.size HB5.o.size)
 have hF6:Fr (QS (cQ gq gc gk mc gn gd mq vl vt v c) ⟨.slice none 0 0,qs,[]⟩) w2 w6:=Fr.sub ((HF3.o.trans (Fr.ofBelow HB4.o)).trans (Fr.ofBelow HB5.o)) hf6 HS3.o
 have hS6:Sub w2 (QS (cQ gq gc gk mc gn gd mq vl vt v c) ⟨.slice none 0 0,qs,[]⟩) (QS (cQ gq gc gk mc gn gd mq vl vt v c) x6):=HS3.o.trans hs6 hz5
 have hoe6:OwnBytes w6 w3.heap.size (.slice ae ne ce) ent:=by
  have h5:OwnBytes w5 w3.heap.size (.slice ae ne ce) ent:=HOE.o.below HB5.o
  have hq5:=@QIs.below ⟨⟨(Value.slice ae ne ce).ownBlock⟩⟩ _ w5 _ _ _ _ _ (QIs.outB (o2:=⟨(Value.slice ae ne ce).ownBlock⟩) HX3.o HB4.o HOWN.o) HB5.o
  exact @bytes_qs ⟨⟨(Value.slice ae ne ce).ownBlock⟩⟩ _ _ _ _ _ _ _ _ _ _ h5 hf6 hq5
 have HX6:=zh hx6
 have HF6:=zh hF6
 have HS6:=zh hS6
 have HR2:=zh hr2
 have HOE6:=zh hoe6
 have hcli:w6.heap[gc]?=some (.cells (cliC 1 (.iface 44 (.pointer (some ⟨gn,0,none⟩))) c.key c.size c.root gk) 177 (0,0)):=@QIs.cli ⟨⟨(Value.slice ae ne ce).ownBlock⟩⟩ _ _ _ _ _ _ hx6
 have HCLI:=zh hcli
 have hb0:w.heap.size≤w3.heap.size:=by have:=HB2.o.size;have:=HZ1.o;have:=HF3.o.size;omega
 have HB0:=zh hb0
 clear hx6 hf6 hs6 hr2 hF6 hS6 hoe6 HQ6 HY6 hcli hb0 hz5
 rcases hY6 with ⟨l6,hol,rfl,hv6⟩|⟨p,hop,rfl,⟨ge,rfl⟩,hme⟩
 rotate_left
 ·have HOP:=zh hop
  have HME:=zh hme
  clear hop hme
  go_wp2
  refine read_door (u:=.slice none 0 0) (v:=.slice none 0 0) (y:=.iface 153 (.pointer (some ⟨ge,0,none⟩))) (cell_heap HCLI.o 0 rfl) (frozen_heap HCLI.o 0) rfl rfl rfl ?_
  have hRe:R=((6,p),([],[]),{ c with cache:=s2.cache },s2.net):=by
   rw[HR.o]
   unfold readP
   rw[if_neg (by rw[←HNN.o];omega),Int.toNat_natCast,←HS0.o,←HNN.o,HRQ.o,←HR2.o]
   have hop2:o2=.error (.miss p):=HOP.o
   rw[hop2]
  rw[hRe]
  refine read_fin HF1.o HZ1.o HB2.o hg2 hmm2 hlt (QIs.outB HX6.o (Below.refl _ _) fun z hz=>by cases hz) HF6.o HS6.o (.inl ⟨rfl,rfl⟩) (World.ownsRow_nil _ _ _ _) (.inr (.inr ⟨p,rfl,MissErr.low HME.o (by have:=HB5.o.size;have:=HB4.o.size;have:=HB0.o;omega)⟩)) (.inr rfl)
 have hol:o2=.ok l6:=hol
 subst hol
 have HV6:=zh hv6
 have hlf:∀ W,Below w6.heap.size w6 W→Calls prog 72 #[.slice ae ne ce] W fun e w'=>e=.returned (.agg #[bv (leafH ent)[0],bv (leafH ent)[1],bv (leafH ent)[2],bv (leafH ent)[3],bv (leafH ent)[4],bv (leafH ent)[5],bv (leafH ent)[6],bv (leafH ent)[7]])∧Below W.heap.size W w':=fun W hW=>by
  have hlen:ent.length≤9223372036854775807:=by
   have:=(unbundleOf_lens HLS.o).2.2 ent (List.mem_of_getElem? HENT.o)
   omega
  have:=leaf_any (.slice ae ne ce) ent W (HOE6.o.below hW).at hlen
  rw[h8_lit] at this
  exact this
 have hpl:l6.length≤1048576:=by
  have e:=gatherQ_len N (pathR N 0 N i).reverse s1 s2 l6 HR2.o.symm
  have:=pathR_len N 63 0 N i (by omega) (Nat.le_refl _)
  rw[e,List.length_reverse]
  omega
 have hinc:∀ W,Below w6.heap.size w6 W→Calls prog 96 #[.agg #[bv (leafH ent)[0],bv (leafH ent)[1],bv (leafH ent)[2],bv (leafH ent)[3],bv (leafH ent)[4],bv (leafH ent)[5],bv (leafH ent)[6],bv (leafH ent)[7]],.int .i64 i,.int .i64 N,v6,.agg #[bv c.root[0],bv c.root[1],bv c.root[2],bv c.root[3],bv c.root[4],bv c.root[5],bv c.root[6],bv c.root[7]]] W fun e w'=>e=.returned (.bool (included (leafH ent) i N l6 c.root))∧Below W.heap.size W w':=fun W hW=>by
  have:=mincluded_any l6 (leafH ent) c.root i N v6 W (OwnHs.at (ownsRow_below HV6.o hW)) (by omega) (by omega) hpl
  rw[h8_lit,h8_lit] at this
  exact this
 obtain⟨ib,hib⟩:∃ x,x=included (leafH ent) i N l6 c.root:=⟨_,rfl⟩
 rw[←hib] at hinc
 have k0:w6.cell? ⟨gc,5,none⟩=some (bv c.root[0]):=cell_heap HCLI.o 5 rfl
 have kd0:w6.drew.cell? ⟨gc,5,none⟩=some (bv c.root[0]):=k0
 have k1:w6.cell? ⟨gc,6,none⟩=some (bv c.root[1]):=cell_heap HCLI.o 6 rfl
 have kd1:w6.drew.cell? ⟨gc,6,none⟩=some (bv c.root[1]):=k1
 have k2:w6.cell? ⟨gc,7,none⟩=some (bv c.root[2]):=cell_heap HCLI.o 7 rfl
 have kd2:w6.drew.cell? ⟨gc,7,none⟩=some (bv c.root[2]):=k2
 have k3:w6.cell? ⟨gc,8,none⟩=some (bv c.root[3]):=cell_heap HCLI.o 8 rfl
 have kd3:w6.drew.cell? ⟨gc,8,none⟩=some (bv c.root[3]):=k3
 have k4:w6.cell? ⟨gc,9,none⟩=some (bv c.root[4]):=cell_heap HCLI.o 9 rfl
 have kd4:w6.drew.cell? ⟨gc,9,none⟩=some (bv c.root[4]):=k4
 have k5:w6.cell? ⟨gc,10,none⟩=some (bv c.root[5]):=cell_heap HCLI.o 10 rfl
 have kd5:w6.drew.cell? ⟨gc,10,none⟩=some (bv c.root[5]):=k5
 have k6:w6.cell? ⟨gc,11,none⟩=some (bv c.root[6]):=cell_heap HCLI.o 11 rfl
 have kd6:w6.drew.cell? ⟨gc,11,none⟩=some (bv c.root[6]):=k6
 have k7:w6.cell? ⟨gc,12,none⟩=some (bv c.root[7]):=cell_heap HCLI.o 12 rfl
 have kd7:w6.drew.cell? ⟨gc,12,none⟩=some (bv c.root[7]):=k7
 have hb6:gc<w6.heap.size:=lt_of_heap HCLI.o
 have HLF:=zh hlf
 have HINC:=zh hinc
 have HIB:=zh hib
 clear hlf hinc hib hpl hv6
 go_upto_region 15 with fail
 go_region_held3 (fun w'=>w'.cell? ⟨gc,5,none⟩=some (bv c.root[0])∧w'.cell? ⟨gc,6,none⟩=some (bv c.root[1])∧w'.cell? ⟨gc,7,none⟩=some (bv c.root[2])∧w'.cell? ⟨gc,8,none⟩=some (bv c.root[3])∧w'.cell? ⟨gc,9,none⟩=some (bv c.root[4])∧w'.cell? ⟨gc,10,none⟩=some (bv c.root[5])∧w'.cell? ⟨gc,11,none⟩=some (bv c.root[6])∧w'.cell? ⟨gc,12,none⟩=some (bv c.root[7])) (first|with_reducible exact⟨k0,k1,k2,k3,k4,k5,k6,k7⟩|with_reducible exact⟨kd0,kd1,kd2,kd3,kd4,kd5,kd6,kd7⟩|with_reducible exact⟨m0,m1,m2,m3,m4,m5,m6,m7⟩|with_reducible exact⟨e0,e1,e2,e3,e4,e5,e6,e7⟩|fail) (first|(go_at_call 72;refine (HLF.o _ (below_drew w6)).mono ?_;rintro e w7 ⟨rfl,hb7⟩;have HB7:=zh (show Below w6.heap.size w6 w7 from (below_drew w6).trans hb7);have m0:=(HB7.o.cell (p:=⟨gc,5,none⟩) hb6).trans k0;have m1:=(HB7.o.cell (p:=⟨gc,6,none⟩) hb6).trans k1;have m2:=(HB7.o.cell (p:=⟨gc,7,none⟩) hb6).trans k2;have m3:=(HB7.o.cell (p:=⟨gc,8,none⟩) hb6).trans k3;have m4:=(HB7.o.cell (p:=⟨gc,9,none⟩) hb6).trans k4;have m5:=(HB7.o.cell (p:=⟨gc,10,none⟩) hb6).trans k5;have m6:=(HB7.o.cell (p:=⟨gc,11,none⟩) hb6).trans k6;have m7:=(HB7.o.cell (p:=⟨gc,12,none⟩) hb6).trans k7;clear hb7)|(go_at_call 96;refine (HINC.o w7 HB7.o).mono ?_;rintro e w8 ⟨rfl,hb8⟩;have HB8:=zh (HB7.o.trans (hb8.mono HB7.o.size));have e0:=(HB8.o.cell (p:=⟨gc,5,none⟩) hb6).trans k0;have e1:=(HB8.o.cell (p:=⟨gc,6,none⟩) hb6).trans k1;have e2:=(HB8.o.cell (p:=⟨gc,7,none⟩) hb6).trans k2;have e3:=(HB8.o.cell (p:=⟨gc,8,none⟩) hb6).trans k3;have e4:=(HB8.o.cell (p:=⟨gc,9,none⟩) hb6).trans k4;have e5:=(HB8.o.cell (p:=⟨gc,10,none⟩) hb6).trans k5;have e6:=(HB8.o.cell (p:=⟨gc,11,none⟩) hb6).trans k6;have e7:=(HB8.o.cell (p:=⟨gc,12,none⟩) hb6).trans k7;clear hb8)|fail)
 all_goals (
  cases ib with
  | false=>
   have hg:=((HE2.o.step HF6.o HS6.o).below HB8.o).sents.cells.2.2.2.2.1
   have HCLI8:=zh ((HB8.o.block _ hb6).trans HCLI.o)
   go_wp2
   go_region
   all_goals (
    go_wp2
    refine read_door (u:=.slice none 0 0) (v:=.slice none 0 0) (y:=.iface 338 (.pointer (some (F 4)))) (cell_heap (w:=w8.drew) HCLI8.o 0 rfl) (frozen_heap (w:=w8.drew) HCLI8.o 0) rfl rfl rfl ?_
    have hRe:R=((5,⟨#[]⟩),([],[]),{ c with cache:=s2.cache },s2.net):=by
     rw[HR.o]
     unfold readP
     rw[if_neg (by rw[←HNN.o];omega),Int.toNat_natCast,←HS0.o,←HNN.o,HRQ.o,←HR2.o]
     dsimp only
     rw[←HIB.o]
     rfl
    rw[hRe]
    refine read_fin HF1.o HZ1.o HB2.o hg2 hmm2 hlt (QIs.outB HX6.o (HB8.o.trans (below_drew w8 |>.mono HB8.o.size)) fun z hz=>by cases hz) (HF6.o.trans (Fr.ofBelow (HB8.o.trans (below_drew w8 |>.mono HB8.o.size)))) HS6.o (.inl ⟨rfl,rfl⟩) (World.ownsRow_nil _ _ _ _) (.inr (.inl ⟨4,by decide,by decide,rfl,rfl⟩)) (.inr rfl))
  | true=>
   have hq8:=@QIs.below ⟨⟨(Value.slice ae ne ce).ownBlock⟩⟩ _ w8 _ _ _ _ _ HX6.o HB8.o
   have hcost:Cost (readT N i).length s0 s2:=by
    have:=readQ_costs N i s0
    rw[HRQ.o,←HR2.o] at this
    exact this
   have hln:x6.qs.length+x6.vs.length<1099511627775:=by
    have a1:s2.cache.items.length=x6.qs.length:=by
     rw[@CacheIs.items ⟨⟨(Value.slice ae ne ce).ownBlock⟩⟩ _ _ _ _ _ (@QIs.cache ⟨⟨(Value.slice ae ne ce).ownBlock⟩⟩ _ _ _ _ _ _ hq8),List.length_map]
    have a2:s2.files.length=x6.vs.length:=by
     rw[@QIs.files ⟨⟨(Value.slice ae ne ce).ownBlock⟩⟩ _ _ _ _ _ _ hq8,List.length_map]
    have a3:=hcost.files
    have a4:=hcost.items
    have a5:s0.files.length=0:=by rw[HS0.o];rfl
    have a6:s0.cache.items.length=c.cache.items.length:=by rw[HS0.o];rfl
    have:=HL.o
    omega
   have hre:=@remember_any ⟨⟨(Value.slice ae ne ce).ownBlock⟩⟩ w8 _ x6 N s2 d hq8 hln
   have hkc:=@kinds_cache ⟨⟨(Value.slice ae ne ce).ownBlock⟩⟩ _ _ _ _ _ (@QIs.cache ⟨⟨(Value.slice ae ne ce).ownBlock⟩⟩ _ _ _ _ _ _ hq8)
   have HRE:=zh hre
   have HKC:=zh hkc
   clear hq8 hcost hln hre hkc
   go_wp2_with (first
    | (go_at_call 91;refine HRE.o.mono ?_;rintro e w9 ⟨rfl,qs9,hq9,hf9,hs9⟩;have HQ9:=zh hq9;have HF9:=zh hf9;have HS9:=zh hs9;clear hq9 hf9 hs9)
    | (go_at_call 97;refine (clip_any w9 w3.heap.size (.slice ae ne ce) ent (bytes_kept (HOE6.o.below HB8.o) HF9.o HKC.o (by decide))).mono ?_;rintro e w10 ⟨u10,rfl,hu10,hob10,rfl⟩;have HU10:=zh hu10;have HOB:=zh hob10;clear hu10 hob10)
    | fail)
   have hli9:w10.heap[gc]?=some (.cells (cliC 1 (.iface 44 (.pointer (some ⟨gn,0,none⟩))) c.key c.size c.root gk) 177 (0,0)):=@QIs.cli ⟨⟨(Value.slice ae ne ce).ownBlock⟩⟩ _ _ _ _ _ _ HQ9.o
   refine read_door (u:=u10) (v:=v6) (y:=.nilIface) (cell_heap hli9 0 rfl) (frozen_heap hli9 0) rfl rfl rfl ?_
   have hRe:R=(tFine,(ent,l6),{ c with cache:=rememberQ s2.cache s2.files },s2.net):=by
    rw[HR.o]
    unfold readP
    rw[if_neg (by rw[←HNN.o];omega),Int.toNat_natCast,←HS0.o,←HNN.o,HRQ.o,←HR2.o]
    dsimp only
    rw[←HIB.o]
    rfl
   rw[hRe]
   have hF8:Fr (QS (cQ gq gc gk mc gn gd mq vl vt v c) ⟨.slice none 0 0,qs,[]⟩) w2 w8:=HF6.o.trans (Fr.ofBelow HB8.o)
   refine read_fin (s:={ s2 with cache:=rememberQ s2.cache s2.files }) HF1.o HZ1.o HB2.o hg2 hmm2 hlt (by rw[HOB.o];exact HQ9.o) (Fr.sub hF8 (HF9.o.weak fun _ _ e=>.inr (.inl e)) HS6.o) (fun k hk=>?_) (HU10.o.mono HB0.o) (ownsRow_mono (row_kept (ownsRow_below HV6.o HB8.o) HF9.o HKC.o (by decide)) (by have:=HB5.o.size;have:=HB4.o.size;have:=HB0.o;omega)) (.inl ⟨rfl,rfl⟩) (.inl rfl)
   rcases hk with e|e|e
   ·exact HS6.o k (.inl e)
   ·rcases Nat.lt_or_ge k w8.heap.size with hlk|hge
    ·exact HS6.o k (.inr (.inl (HS9.o k hlk e)))
    ·exact .inr (Nat.le_trans hF8.size hge)
   ·exact HS6.o k (.inr (.inr e)))
end
end Go.Proofs.YtefccfakhgdfbabGreatDoor
