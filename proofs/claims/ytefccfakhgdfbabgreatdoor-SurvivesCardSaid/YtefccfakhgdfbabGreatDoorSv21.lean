/- The walk of tiles' Client.Update. Conditions: the block is a client's over a Net; no step of the question goes out of its bounds. -/
import Derived.Test.YtefccfakhgdfbabGreatDoorSv20
set_option linter.unusedVariables false
set_option linter.unusedSimpArgs false
open Go.RowKit Go.Proofs.Tryz
set_option maxRecDepth 100000
set_option maxHeartbeats 4000000
namespace Go.Proofs.YtefccfakhgdfbabGreatDoor
section
section
attribute [local go_sem] h8_0 h8_1 h8_2 h8_3 h8_4 h8_5 h8_6 h8_7 h8_fold h8_size cell_setRow_ne run_store8
theorem WholeAt.below {w w':World} {v:Value} {o:Option Hsh} (h:WholeAt w v o) (hb:Below w.heap.size w w'):WholeAt w' v o:=by
 rcases h with h|⟨g,x,h1,h2,h3⟩
 ·exact .inl h
 ·exact .inr ⟨g,x,h1,h2,hashOf_below h3 hb⟩
set_option maxHeartbeats 16000000 in
theorem extend_any (l:Nat):∀ (p:List Hsh) (m n:Int) (whole:Option Hsh) (v pv:Value) (w:World),p.length=l→HashesAt w v p→WholeAt w pv whole→1≤m→m≤n→n≤9223372036854775807→l≤1048576→
  Calls prog 144 #[.int .i64 m,.int .i64 n,v,pv] w (ExtendPost m.toNat n.toNat whole p w):=by
 induction l with
 | zero=>
  intro p m n whole v pv w hp h hw h1 hmn hn hl
  obtain rfl:p = []:=List.eq_nil_of_length_eq_zero hp
  by_cases he:m=n
  ·subst he
   rcases id hw with ⟨rfl,rfl⟩|⟨g,x,rfl,rfl,hh⟩
   ·exact extend_no m m _ none v [] w h hw hmn (.inl ⟨rfl,rfl,by simp⟩) h1
   ·exact extend_whole m g x v [] w h hh
  ·exact extend_no m n pv whole v [] w h hw hmn (.inr ⟨he,rfl⟩) h1
 | succ l ih=>
  intro p m n whole v pv w hp h hw h1 hmn hn hl
  by_cases he:m=n
  ·subst he
   rcases id hw with ⟨rfl,rfl⟩|⟨g,x,rfl,rfl,hh⟩
   ·by_cases hp1:p.length=1
    ·match p,hp1 with
     | [r],_=>exact extend_one m r v w h
    ·exact extend_no m m _ none v p w h hw hmn (.inl ⟨rfl,rfl,hp1⟩) h1
   ·exact extend_whole m g x v p w h hh
  ·obtain⟨q,last,rfl⟩:∃ q last,p=q ++ [last]:=⟨p.dropLast,p.getLast (by intro e;simp[e] at hp),(List.dropLast_concat_getLast _).symm⟩
   have hq:q.length=l:=by simpa using hp
   obtain⟨a,c,hv,_⟩:=id h
   rw[hp] at hv
   subst hv
   obtain⟨b,off,rfl,hcap,hcell,hinit⟩:=hashes_init h hq
   have hr:=roots_snoc m.toNat n.toNat whole q last
   rw[if_neg (by omega)] at hr
   have hbd:=below_bd (n:=n.toNat) (by omega) (by omega)
   obtain⟨k,hk⟩:∃ k,k=below n.toNat:=⟨_,rfl⟩
   rw[←hk] at hbd hr
   obtain⟨hb1,hb2,hb3⟩:=hbd
   have HR:=zh hr
   have HK:=zh hk
   have HW:=zh hw
   have HQ:=zh hinit
   have IH:=zh ih
   have HL:=zh hq
   clear hr hk hw hinit ih h hq hp
   have c0:w.cell? ⟨b,off+l*8,none⟩=some (u8 last[0]):=hcell 0 (by decide)
   have c1:=hcell 1 (by decide)
   have c2:=hcell 2 (by decide)
   have c3:=hcell 3 (by decide)
   have c4:=hcell 4 (by decide)
   have c5:=hcell 5 (by decide)
   have c6:=hcell 6 (by decide)
   have c7:=hcell 7 (by decide)
   have hbw:b<w.heap.size:=cell_lt c0
   have hbw1:b<w.heap.size+1:=by omega
   have hbw2:b<w.heap.size+1+1:=by omega
   have hz0:((l:Int)+1 == 0)=false:=by rw[beq_eq_false_iff_ne];omega
   have hd:(m == n)=false:=by rw[beq_eq_false_iff_ne];exact he
   have hI:Is8 (((w.alloc (.cells zc 109)).alloc (.cells zc 109)).alloc (.cells zc 109)).drew (w.heap.size+1+1):=⟨zero8,hashOf_drew (hashOf_zero' (by simp))⟩
   clear hcell
   go_enter func144,ntmps144
   go_wp2_with fail
   go_region
   have f1:hashOf ((((w.alloc (.cells zc 109)).alloc (.cells zc 109)).alloc (.cells zc 109)).drew.setRow (w.heap.size+1+1) (h8 last)) w.heap.size zero8:=hashOf_other (hashOf_drew (hashOf_old (hashOf_old (hashOf_zero' rfl) _) _)) _ (by omega)
   have f2:hashOf ((((w.alloc (.cells zc 109)).alloc (.cells zc 109)).alloc (.cells zc 109)).drew.setRow (w.heap.size+1+1) (h8 last)) (w.heap.size+1) zero8:=hashOf_other (hashOf_drew (hashOf_old (hashOf_zero' (by simp)) _)) _ (by omega)
   have f3:hashOf ((((w.alloc (.cells zc 109)).alloc (.cells zc 109)).alloc (.cells zc 109)).drew.setRow (w.heap.size+1+1) (h8 last)) (w.heap.size+1+1) last:=hashOf_set (hashOf_drew (hashOf_zero' (by simp))) _
   have f4:Below w.heap.size w ((((w.alloc (.cells zc 109)).alloc (.cells zc 109)).alloc (.cells zc 109)).drew.setRow (w.heap.size+1+1) (h8 last)):=below_setRow (((((below_alloc w _).alloc (by simp) _).alloc (by simp;omega) _).drew)) (by omega) _
   have f5:((((w.alloc (.cells zc 109)).alloc (.cells zc 109)).alloc (.cells zc 109)).drew.setRow (w.heap.size+1+1) (h8 last)).heap.size=w.heap.size+1+1+1:=by simp
   have F1:=zh f1
   have F2:=zh f2
   have F3:=zh f3
   have F4:=zh f4
   have F5:=zh f5
   clear f1 f2 f3 f4 f5 hI c0 c1 c2 c3 c4 c5 c6 c7
   generalize ((((w.alloc (.cells zc 109)).alloc (.cells zc 109)).alloc (.cells zc 109)).drew.setRow (w.heap.size+1+1) (h8 last))=W2 at *
   go_wp2_with fail
   refine (split_any _ _ (by omega) (by omega)).mono ?_
   rintro e w0 ⟨rfl,rfl⟩
   rw[←HK.o]
   have HW2:=zh (HW.o.below F4.o)
   by_cases hmk:m≤(k:Int)
   ·go_wp2_with fail
    refine (IH.o q m k whole _ _ _ HL.o (Cells.below HQ.o F4.o) HW2.o h1 hmk (by omega) (by omega)).mono ?_
    rintro e w1 ⟨x,y,rfl,hxy,hb⟩
    have hz:w.heap.size+3≤w1.heap.size:=by have:=hb.size;rw[F5.o] at this;omega
    have g1:=hashOf_below F1.o hb
    have g2:=hashOf_below F2.o hb
    have g3:=hashOf_below F3.o hb
    have j2:hashOf (w1.setRow w.heap.size (h8 x)) (w.heap.size+1) zero8:=hashOf_other g2 _ (by omega)
    have HXY:=zh hxy
    have G3:=zh g3
    have G1:=zh g1
    have F6:=zh (F4.o.trans (hb.mono F4.o.size))
    clear hxy hb g3
    obtain⟨rt,hrr⟩:∃ r,r=roots m.toNat (k:Int).toNat whole q:=⟨_,rfl⟩
    rw[←hrr]
    have HRR:=zh hrr
    clear hrr
    go_wp2_with (refine wpList_store8 rfl 109 _ _ rfl _ _ rfl rfl info8 ?_ ?_ ?_;rotate_left;focus ((repeat(first|(with_reducible first|assumption|exact hashOf_set' ⟨_,by assumption⟩ _)|((with_reducible first|refine hashOf_zero' ?_|refine hashOf_at ?_|refine hashOf_set' (Is8_zero ?_) _);(first|rfl|(simp;done)|(simp;omega)))|with_reducible refine hashOf_old ?_ _|((with_reducible refine hashOf_other ?_ _ ?_);rotate_left;(focus(first|(simp;done)|(simp;omega)|omega)))|with_reducible first|refine hashOf_drew ?_|refine hashOf_below ?_ (by assumption)));done))
    have a1:hashOf ((w1.setRow w.heap.size (h8 x)).setRow (w.heap.size+1) (h8 y)) w.heap.size x:=hashOf_other (hashOf_set G1.o _) _ (by omega)
    have a2:hashOf ((w1.setRow w.heap.size (h8 x)).setRow (w.heap.size+1) (h8 y)) (w.heap.size+1) y:=hashOf_set j2 _
    have a3:hashOf ((w1.setRow w.heap.size (h8 x)).setRow (w.heap.size+1) (h8 y)) (w.heap.size+1+1) last:=hashOf_other (hashOf_other G3.o _ (by omega)) _ (by omega)
    have a4:Below w.heap.size w ((w1.setRow w.heap.size (h8 x)).setRow (w.heap.size+1) (h8 y)):=below_setRow (below_setRow F6.o (Nat.le_refl _) _) (by omega) _
    have a5:((w1.setRow w.heap.size (h8 x)).setRow (w.heap.size+1) (h8 y)).heap.size=w1.heap.size:=by simp
    have A1:=zh a1
    have A2:=zh a2
    have A3:=zh a3
    have A4:=zh a4
    have A5:=zh a5
    clear a1 a2 a3 a4 a5 j2 g1 g2
    generalize ((w1.setRow w.heap.size (h8 x)).setRow (w.heap.size+1) (h8 y))=W3 at *
    have hz3:w.heap.size+3≤W3.heap.size:=by rw[A5.o];exact hz
    have hz31:w.heap.size<W3.heap.size:=by omega
    have hz32:w.heap.size+1<W3.heap.size:=by omega
    have hz33:w.heap.size+1+1<W3.heap.size:=by omega
    have x0:=hashOf_cell A1.o 0 (by decide)
    have x1:=hashOf_cell A1.o 1 (by decide)
    have x2:=hashOf_cell A1.o 2 (by decide)
    have x3:=hashOf_cell A1.o 3 (by decide)
    have x4:=hashOf_cell A1.o 4 (by decide)
    have x5:=hashOf_cell A1.o 5 (by decide)
    have x6:=hashOf_cell A1.o 6 (by decide)
    have x7:=hashOf_cell A1.o 7 (by decide)
    have y0:=hashOf_cell A2.o 0 (by decide)
    have y1:=hashOf_cell A2.o 1 (by decide)
    have y2:=hashOf_cell A2.o 2 (by decide)
    have y3:=hashOf_cell A2.o 3 (by decide)
    have y4:=hashOf_cell A2.o 4 (by decide)
    have y5:=hashOf_cell A2.o 5 (by decide)
    have y6:=hashOf_cell A2.o 6 (by decide)
    have y7:=hashOf_cell A2.o 7 (by decide)
    have z0:=hashOf_cell A3.o 0 (by decide)
    have z1:=hashOf_cell A3.o 1 (by decide)
    have z2:=hashOf_cell A3.o 2 (by decide)
    have z3:=hashOf_cell A3.o 3 (by decide)
    have z4:=hashOf_cell A3.o 4 (by decide)
    have z5:=hashOf_cell A3.o 5 (by decide)
    have z6:=hashOf_cell A3.o 6 (by decide)
    have z7:=hashOf_cell A3.o 7 (by decide)
    go_region_with (go_at_call 129;refine (node_any y last _).mono ?_;rintro e w4 ⟨rfl,hb4⟩;have k1:=hashOf_below (hashOf_drew A1.o) hb4;have k2:=hashOf_below (hashOf_drew A2.o) hb4;have hz4:w.heap.size+3≤w4.heap.size:=Nat.le_trans hz3 hb4.size;have i1:Is8 w4 w.heap.size:=⟨_,k1⟩;have i2:Is8 w4 (w.heap.size+1):=⟨_,k2⟩;have i3:Is8 (w4.setRow w.heap.size (h8 x)) (w.heap.size+1):=⟨_,hashOf_other k2 _ (by omega)⟩;have i4:Is8 (w4.setRow (w.heap.size+1) (h8 (nodeH y last))) w.heap.size:=⟨_,hashOf_other k1 _ (by omega)⟩;have HB4:=zh hb4;have d0:=hashOf_cell k1 0 (by decide);have d1:=hashOf_cell k1 1 (by decide);have d2:=hashOf_cell k1 2 (by decide);have d3:=hashOf_cell k1 3 (by decide);have d4:=hashOf_cell k1 4 (by decide);have d5:=hashOf_cell k1 5 (by decide);have d6:=hashOf_cell k1 6 (by decide);have d7:=hashOf_cell k1 7 (by decide);clear hb4 k1 k2)
    all_goals
     go_wp2
     have hre:roots m.toNat n.toNat whole (q ++ [last])=rt.map (fun z=>(z.1,nodeH z.2 last)):=by rw[HR.o,if_pos (by omega),HRR.o];rfl
     refine ret88t w.heap.size (w.heap.size+1) x (nodeH y last) (.bool rt.isSome) rfl rfl rfl rfl _ underlying109 info8 (hashOf_other (hashOf_set' i1 _) _ (by omega)) (hashOf_set' i3 _) rfl ⟨x,nodeH y last,by rw[hre,Option.isSome_map],?_,below_setRow (below_setRow ((A4.o.drew).trans (HB4.o.mono A4.o.drew.size)) (Nat.le_refl _) _) (by omega) _⟩
     intro z hzz
     rw[hre] at hzz
     obtain⟨z',hz',rfl⟩:=Option.map_eq_some_iff.1 hzz
     have:=HXY.o z' (by rw[←HRR.o];exact hz')
     subst this
     rfl
   ·go_wp2_with fail
    refine (IH.o q (m-k) (n-k) none _ _ _ HL.o (Cells.below HQ.o F4.o) (.inl ⟨rfl,rfl⟩) (by omega) (by omega) (by omega) (by omega)).mono ?_
    rintro e w1 ⟨x,y,rfl,hxy,hb⟩
    have hz:w.heap.size+3≤w1.heap.size:=by have:=hb.size;rw[F5.o] at this;omega
    have g1:=hashOf_below F1.o hb
    have g2:=hashOf_below F2.o hb
    have g3:=hashOf_below F3.o hb
    have j2:hashOf (w1.setRow w.heap.size (h8 x)) (w.heap.size+1) zero8:=hashOf_other g2 _ (by omega)
    have HXY:=zh hxy
    have G3:=zh g3
    have G1:=zh g1
    have F6:=zh (F4.o.trans (hb.mono F4.o.size))
    clear hxy hb g3
    obtain⟨rt,hrr⟩:∃ r,r=roots (m-k).toNat (n-k).toNat none q:=⟨_,rfl⟩
    rw[←hrr]
    have HRR:=zh hrr
    clear hrr
    go_wp2_with (refine wpList_store8 rfl 109 _ _ rfl _ _ rfl rfl info8 ?_ ?_ ?_;rotate_left;focus ((repeat(first|(with_reducible first|assumption|exact hashOf_set' ⟨_,by assumption⟩ _)|((with_reducible first|refine hashOf_zero' ?_|refine hashOf_at ?_|refine hashOf_set' (Is8_zero ?_) _);(first|rfl|(simp;done)|(simp;omega)))|with_reducible refine hashOf_old ?_ _|((with_reducible refine hashOf_other ?_ _ ?_);rotate_left;(focus(first|(simp;done)|(simp;omega)|omega)))|with_reducible first|refine hashOf_drew ?_|refine hashOf_below ?_ (by assumption)));done))
    have a1:hashOf ((w1.setRow w.heap.size (h8 x)).setRow (w.heap.size+1) (h8 y)) w.heap.size x:=hashOf_other (hashOf_set G1.o _) _ (by omega)
    have a2:hashOf ((w1.setRow w.heap.size (h8 x)).setRow (w.heap.size+1) (h8 y)) (w.heap.size+1) y:=hashOf_set j2 _
    have a3:hashOf ((w1.setRow w.heap.size (h8 x)).setRow (w.heap.size+1) (h8 y)) (w.heap.size+1+1) last:=hashOf_other (hashOf_other G3.o _ (by omega)) _ (by omega)
    have a4:Below w.heap.size w ((w1.setRow w.heap.size (h8 x)).setRow (w.heap.size+1) (h8 y)):=below_setRow (below_setRow F6.o (Nat.le_refl _) _) (by omega) _
    have a5:((w1.setRow w.heap.size (h8 x)).setRow (w.heap.size+1) (h8 y)).heap.size=w1.heap.size:=by simp
    have A1:=zh a1
    have A2:=zh a2
    have A3:=zh a3
    have A4:=zh a4
    have A5:=zh a5
    clear a1 a2 a3 a4 a5 j2 g1 g2
    generalize ((w1.setRow w.heap.size (h8 x)).setRow (w.heap.size+1) (h8 y))=W3 at *
    have hz3:w.heap.size+3≤W3.heap.size:=by rw[A5.o];exact hz
    have hz31:w.heap.size<W3.heap.size:=by omega
    have hz32:w.heap.size+1<W3.heap.size:=by omega
    have hz33:w.heap.size+1+1<W3.heap.size:=by omega
    refine wp_region_any (by kernel_rfl) ?_
    refine draw14 last x y (nodeH last x) (nodeH last y) w.heap.size (.bool rt.isSome) w ?_ ?_ ?_ ⟨_,rfl,rfl,rfl,rfl⟩ ⟨_,rfl,rfl,rfl,rfl⟩ ⟨_,_,rfl,rfl,rfl,rfl⟩ ⟨_,rfl,rfl,rfl,rfl⟩ ⟨_,rfl,rfl,rfl,rfl⟩ ⟨_,_,rfl,rfl,rfl,rfl⟩ ⟨_,rfl,rfl,rfl,rfl⟩ ⟨_,rfl,rfl,rfl,rfl⟩ ⟨_,rfl,rfl,rfl,rfl⟩ ⟨_,rfl,rfl,rfl,rfl⟩ (Nat.le_refl _) (fun _ _=>by rfl) (node_any last x) (node_any last y) ?_ _ _ ?_
    ·intro b i hi
     rw[Region.ready,List.mem_filter] at hi
     obtain⟨hi1,hi2⟩:=hi
     have hi10:i<10:=List.mem_range.1 hi1
     have:i=0∨i=1∨i=2∨i=3∨i=4∨i=5∨i=6∨i=7∨i=8∨i=9:=by omega
     clear hi1
     rcases this with rfl|rfl|rfl|rfl|rfl|rfl|rfl|rfl|rfl|rfl <;> simp[bs,Region.binds] at hi2 ⊢ <;> simp[hi2]
    ·intro b hb
     have hh:∀ c:Bool,(!c).toNat=0→c=true:=by intro c;cases c <;> simp
     unfold left at hb
     have k0:=hh (b 0) (by omega)
     have k1:=hh (b 1) (by omega)
     have k2:=hh (b 2) (by omega)
     have k3:=hh (b 3) (by omega)
     have k4:=hh (b 4) (by omega)
     have k5:=hh (b 5) (by omega)
     have k6:=hh (b 6) (by omega)
     have k7:=hh (b 7) (by omega)
     have k8:=hh (b 8) (by omega)
     have k9:=hh (b 9) (by omega)
     rw[show bs b=#[true,true,true,true,true,true,true,true,true,true] by simp only[bs,k0,k1,k2,k3,k4,k5,k6,k7,k8,k9]]
     rfl
    ·intro b f hf
     rcases k0:b 0 with _|_
     ·exact List.ne_nil_of_mem (a:=0) (by rw[Region.ready,List.mem_filter];exact⟨List.mem_range.2 (by show 0<10;decide),by simp[bs,Region.binds,k0]⟩)
     rcases k1:b 1 with _|_
     ·exact List.ne_nil_of_mem (a:=1) (by rw[Region.ready,List.mem_filter];exact⟨List.mem_range.2 (by show 1<10;decide),by simp[bs,Region.binds,k0,k1]⟩)
     rcases k2:b 2 with _|_
     ·exact List.ne_nil_of_mem (a:=2) (by rw[Region.ready,List.mem_filter];exact⟨List.mem_range.2 (by show 2<10;decide),by simp[bs,Region.binds,k0,k1,k2]⟩)
     rcases k3:b 3 with _|_
     ·exact List.ne_nil_of_mem (a:=3) (by rw[Region.ready,List.mem_filter];exact⟨List.mem_range.2 (by show 3<10;decide),by simp[bs,Region.binds,k0,k1,k2,k3]⟩)
     rcases k4:b 4 with _|_
     ·exact List.ne_nil_of_mem (a:=4) (by rw[Region.ready,List.mem_filter];exact⟨List.mem_range.2 (by show 4<10;decide),by simp[bs,Region.binds,k0,k1,k2,k3,k4]⟩)
     rcases k5:b 5 with _|_
     ·exact List.ne_nil_of_mem (a:=5) (by rw[Region.ready,List.mem_filter];exact⟨List.mem_range.2 (by show 5<10;decide),by simp[bs,Region.binds,k0,k1,k2,k3,k4,k5]⟩)
     rcases k6:b 6 with _|_
     ·exact List.ne_nil_of_mem (a:=6) (by rw[Region.ready,List.mem_filter];exact⟨List.mem_range.2 (by show 6<10;decide),by simp[bs,Region.binds,k0,k1,k2,k3,k4,k5,k6]⟩)
     rcases k7:b 7 with _|_
     ·exact List.ne_nil_of_mem (a:=7) (by rw[Region.ready,List.mem_filter];exact⟨List.mem_range.2 (by show 7<10;decide),by simp[bs,Region.binds,k0,k1,k2,k3,k4,k5,k6,k7]⟩)
     rcases k8:b 8 with _|_
     ·exact List.ne_nil_of_mem (a:=8) (by rw[Region.ready,List.mem_filter];exact⟨List.mem_range.2 (by show 8<10;decide),by simp[bs,Region.binds,k0,k1,k2,k3,k4,k5,k6,k7,k8]⟩)
     rcases k9:b 9 with _|_
     ·exact List.ne_nil_of_mem (a:=9) (by rw[Region.ready,List.mem_filter];exact⟨List.mem_range.2 (by show 9<10;decide),by simp[bs,Region.binds,k0,k1,k2,k3,k4,k5,k6,k7,k8,k9]⟩)
     exfalso
     simp only[left,k0,k1,k2,k3,k4,k5,k6,k7,k8,k9,Bool.not_true,Bool.toNat_false] at hf
     omega
    ·rintro c a5 w5 hin e7 e8
     go_wp2
     have hre:roots m.toNat n.toNat whole (q ++ [last])=rt.map (fun z=>(nodeH last z.1,nodeH last z.2)):=by
      rw[HR.o,if_neg (by omega),HRR.o]
      congr 2 <;> omega
     refine ret88t w.heap.size (w.heap.size+1) (nodeH last x) (nodeH last y) (.bool rt.isSome) rfl hin.t8 hin.t9 hin.t10 _ underlying109 info8 (hin.f8 e7) (hin.f9 e8) hin.d ⟨nodeH last x,nodeH last y,by rw[hre,Option.isSome_map],?_,hin.bel⟩
     intro z hzz
     rw[hre] at hzz
     obtain⟨z',hz',rfl⟩:=Option.map_eq_some_iff.1 hzz
     have:=HXY.o z' (by rw[←HRR.o];exact hz')
     subst this
     rfl
    ·have hdr:Below w.heap.size w W3.drew:=A4.o.drew
     exact { d:=rfl,s:=Nat.le_refl 103,t8:=rfl,t9:=rfl,t11:=rfl,t10:=rfl,r0:=fun k=>absurd k (by decide),r1:=fun k=>absurd k (by decide),r2:=fun k=>absurd k (by decide),r3:=fun k=>absurd k (by decide),r4:=fun k=>absurd k (by decide),r5:=fun k=>absurd k (by decide),r6:=fun k=>absurd k (by decide),h11:=hashOf_drew A3.o,e8:=fun _=>hashOf_drew A1.o,f8:=fun k=>absurd k (by decide),e9:=fun _=>hashOf_drew A2.o,f9:=fun k=>absurd k (by decide),bel:=hdr,c7:=fun k=>absurd k (by decide),c8:=fun k=>absurd k (by decide) }
end
end
section
theorem mconsistent_any (p:List Hsh) (a b:Hsh) (m n:Int) (v:Value) (w:World) (h:HashesAt w v p) (hm : -9223372036854775808≤m) (hn:n≤9223372036854775807) (hl:p.length≤1048576) :
  Calls prog 90 #[.int .i64 m,.int .i64 n,.agg (h8 a),.agg (h8 b),v] w fun e w'=>e=.returned (.bool (consistent m n a b p))∧Below w.heap.size w w':=by
 obtain⟨ad,c,hv,_⟩:=id h
 by_cases h1:1≤m
 ·have hd:decide (m<1)=false:=decide_eq_false (by omega)
  by_cases hmn:m≤n
  ·have hd2:decide (n<m)=false:=decide_eq_false (by omega)
   have hinc:consistent m n a b p=(roots m.toNat n.toNat (some a) p == some (a,b)):=by simp[consistent,h1,hmn]
   have HI:=zh hinc
   have HH:=zh h
   have HV:=zh hv
   clear hinc h hv
   go_enter func90,ntmps90
   go_wp2_with fail
   have b0:Below w.heap.size w ((w.alloc (.cells (h8 a) 109)).alloc (.cells (h8 b) 109)):=(below_alloc w _).alloc (by simp) _
   refine (extend_any p.length p m n (some a) v _ _ rfl (Cells.below HH.o b0) (.inr ⟨w.heap.size,a,rfl,rfl,hashOf_old (hashOf_at rfl) _⟩) h1 hmn hn hl).mono ?_
   rintro e w1 ⟨x,y,rfl,hz,hb⟩
   have hbb:Below w.heap.size w w1:=b0.trans (hb.mono b0.size)
   have hsz:w.heap.size+2≤w1.heap.size:=by have:=hb.size;simp at this;omega
   have g1:hashOf w1 w.heap.size a:=hashOf_below (hashOf_old (hashOf_at rfl) _) hb
   have g2:hashOf w1 (w.heap.size+1) b:=hashOf_below (hashOf_at (by simp)) hb
   have HBB:=zh hbb
   have HZ:=zh hz
   clear hz hb hbb b0
   obtain⟨r,hrr⟩:∃ r,r=roots m.toNat n.toNat (some a) p:=⟨_,rfl⟩
   rw[←hrr]
   have HRR:=zh hrr
   clear hrr
   have fin:∀ (cs ds:Array Value),Below w.heap.size w ((((w1.alloc (.cells zc 109)).alloc (.cells zc 109)).setRow w1.heap.size cs).setRow (w1.heap.size+1) ds):=fun cs ds=>
    below_setRow (below_setRow ((HBB.o.alloc HBB.o.size _).alloc (by simp;have:=HBB.o.size;omega) _) HBB.o.size _) (by have:=HBB.o.size;omega) _
   have FIN:=zh fin
   clear fin
   have i1:hashOf ((w1.alloc (.cells zc 109)).alloc (.cells zc 109)) w1.heap.size zero8:=hashOf_old (hashOf_zero' rfl) _
   have i2:hashOf (((w1.alloc (.cells zc 109)).alloc (.cells zc 109)).setRow w1.heap.size (h8 x)) (w1.heap.size+1) zero8:=hashOf_other (hashOf_zero' (by simp)) _ (by omega)
   have j1:hashOf ((((w1.alloc (.cells zc 109)).alloc (.cells zc 109)).setRow w1.heap.size (h8 x)).setRow (w1.heap.size+1) (h8 y)) w1.heap.size x:=hashOf_other (hashOf_set i1 x) _ (by omega)
   have j2:hashOf ((((w1.alloc (.cells zc 109)).alloc (.cells zc 109)).setRow w1.heap.size (h8 x)).setRow (w1.heap.size+1) (h8 y)) (w1.heap.size+1) y:=hashOf_set i2 y
   have j3:hashOf ((((w1.alloc (.cells zc 109)).alloc (.cells zc 109)).setRow w1.heap.size (h8 x)).setRow (w1.heap.size+1) (h8 y)) w.heap.size a:=hashOf_other (hashOf_other (hashOf_old (hashOf_old g1 _) _) _ (by omega)) _ (by omega)
   have j4:hashOf ((((w1.alloc (.cells zc 109)).alloc (.cells zc 109)).setRow w1.heap.size (h8 x)).setRow (w1.heap.size+1) (h8 y)) (w.heap.size+1) b:=hashOf_other (hashOf_other (hashOf_old (hashOf_old g2 _) _) _ (by omega)) _ (by omega)
   cases r with
   | none=>
    go_wp2_with (first|((first|refine wpList_load8 rfl 109 _ rfl _ rfl _ underlying109 info8 ?_ ?_ ?_|refine wpList_store8 rfl 109 _ _ rfl _ _ rfl rfl info8 ?_ ?_ ?_);rotate_left;focus((repeat(first|(with_reducible first|assumption|exact hashOf_set' ⟨_,by assumption⟩ _)|((with_reducible first|refine hashOf_zero' ?_|refine hashOf_at ?_|refine hashOf_set' (Is8_zero ?_) _);(first|rfl|(simp;done)|(simp;omega)))|with_reducible refine hashOf_old ?_ _|((with_reducible refine hashOf_other ?_ _ ?_);rotate_left;(focus(first|(simp;done)|(simp;omega)|omega)))|with_reducible first|refine hashOf_drew ?_|refine hashOf_below ?_ (by assumption)));done)))
    go_ret
    exact⟨ret_bool (by rw[HI.o,←HRR.o];rfl),FIN.o _ _⟩
   | some z=>
    obtain rfl:(x,y)=z:=HZ.o z HRR.o.symm
    by_cases hx:x=a
    ·subst hx
     have hq:∀ w,Sem.run prog (binOp .eql 109 (.agg (h8 x)) (.agg (h8 x))) w=.ok (Value.bool true) w:=fun w=>by
      rw[eql_hash,show (some x == some x)=true from by simp]
     have hq2:=fun w=>eql_hash w y b
     go_wp2_with (first|((first|refine wpList_load8 rfl 109 _ rfl _ rfl _ underlying109 info8 ?_ ?_ ?_|refine wpList_store8 rfl 109 _ _ rfl _ _ rfl rfl info8 ?_ ?_ ?_);rotate_left;focus((repeat(first|(with_reducible first|assumption|exact hashOf_set' ⟨_,by assumption⟩ _)|((with_reducible first|refine hashOf_zero' ?_|refine hashOf_at ?_|refine hashOf_set' (Is8_zero ?_) _);(first|rfl|(simp;done)|(simp;omega)))|with_reducible refine hashOf_old ?_ _|((with_reducible refine hashOf_other ?_ _ ?_);rotate_left;(focus(first|(simp;done)|(simp;omega)|omega)))|with_reducible first|refine hashOf_drew ?_|refine hashOf_below ?_ (by assumption)));done)))
     go_ret
     refine⟨ret_bool ?_,FIN.o _ _⟩
     rw[HI.o,←HRR.o]
     show (some y == some b)=(x == x && y == b)
     simp
    ·have hq:∀ w,Sem.run prog (binOp .eql 109 (.agg (h8 x)) (.agg (h8 a))) w=.ok (Value.bool false) w:=fun w=>by
      rw[eql_hash,show (some x == some a)=false from by simpa using hx]
     go_wp2_with (first|((first|refine wpList_load8 rfl 109 _ rfl _ rfl _ underlying109 info8 ?_ ?_ ?_|refine wpList_store8 rfl 109 _ _ rfl _ _ rfl rfl info8 ?_ ?_ ?_);rotate_left;focus((repeat(first|(with_reducible first|assumption|exact hashOf_set' ⟨_,by assumption⟩ _)|((with_reducible first|refine hashOf_zero' ?_|refine hashOf_at ?_|refine hashOf_set' (Is8_zero ?_) _);(first|rfl|(simp;done)|(simp;omega)))|with_reducible refine hashOf_old ?_ _|((with_reducible refine hashOf_other ?_ _ ?_);rotate_left;(focus(first|(simp;done)|(simp;omega)|omega)))|with_reducible first|refine hashOf_drew ?_|refine hashOf_below ?_ (by assumption)));done)))
     go_ret
     refine⟨ret_bool ?_,FIN.o _ _⟩
     rw[HI.o,←HRR.o]
     simp[hx]
  ·have hd2:decide (n<m)=true:=decide_eq_true (by omega)
   clear h
   subst hv
   go_enter func90,ntmps90
   go_wp2
   go_ret
   exact⟨ret_bool (by simp[consistent];omega),(below_alloc w _).alloc (by simp) _⟩
 ·have hd:decide (m<1)=true:=decide_eq_true (by omega)
  clear h
  subst hv
  go_enter func90,ntmps90
  go_wp2
  go_ret
  exact⟨ret_bool (by simp[consistent];omega),(below_alloc w _).alloc (by simp) _⟩
end
section
open Go.RowKit Go.MuLone
def UpdPost (F:Nat→Addr) (w:World) (gc gk mc gn gd:Nat) (vl vt:Value) (qs:List CEnt) (r:Tld×List Hsh×Cl×Nt) (e:Ending) (w':World):Prop:=
 ∃ v y,e=.returned (.tuple #[v,y])∧OwnHs w' w.heap.size v r.2.1∧ErrIs F w' w.heap.size r.1 y∧
  ∃ qs',ClM 0 w' gc gk mc (.iface 44 (.pointer (some ⟨gn,0,none⟩))) r.2.2.1 qs'∧NetIs w' gn gd vl vt r.2.2.2∧Fr (cnS gc gk mc gn vt qs) w w'∧Sub w (cnS gc gk mc gn vt qs) (cnS gc gk mc gn vt qs')
theorem upd_door {R:Ending→World→Prop} {T:Array Value} {W:World} {gc:Nat} {v y:Value} (h0:W.cell? ⟨gc,0,none⟩=some (.int .i32 1)) (h1:W.frozen? ⟨gc,0,none⟩=false) (hT2:T.getD 2 undef=v) (hT3:T.getD 3 undef=y)
  (hR:R (.returned (.tuple #[v,y])) (W.setCell ⟨gc,0,none⟩ (.int .i32 0))) :
  bodyPostD prog f42 R Exit.ret { tmps:=T,defers:=[{ target:=.fn (.func 84) #[],args:=#[.pointer (some ⟨gc,0,none⟩)] }] } W:=by
 refine leaves_cons (f:=84) (args:=#[.pointer (some ⟨gc,0,none⟩)]) (by simp) (by simp[go_sem]) ?_
 refine (unlock_deferred muLib ⟨gc,0,none⟩ .returning W h0 h1).mono ?_
 rintro e u' w'' ⟨rfl,rfl,rfl⟩
 simp only[Leaves,settle]
 refine⟨.tuple #[v,y],?_,hR⟩
 have a2:T[2]?.getD undef=v:=by simpa [Array.getD_eq_getD_getElem?] using hT2
 have a3:T[3]?.getD undef=y:=by simpa [Array.getD_eq_getD_getElem?] using hT3
 simp[results,results42,go_sem,a2,a3]
theorem upd_end {F:Nat→Addr} {w W:World} {gc gk mc gn gd:Nat} {vl vt v y:Value} {qs qs':List CEnt} {t:Tld} {l:List Hsh} {c':Cl} {n':Nt} (hc:ClM 1 W gc gk mc (.iface 44 (.pointer (some ⟨gn,0,none⟩))) c' qs') (hn:NetIs W gn gd vl vt n') (hf:Fr (cnS gc gk mc gn vt qs) w W) (hs:Sub w (cnS gc gk mc gn vt qs) (cnS gc gk mc gn vt qs'))
  (hv:OwnHs W w.heap.size v l) (he:ErrIs F W w.heap.size t y):UpdPost F w gc gk mc gn gd vl vt qs (t,l,c',n') (.returned (.tuple #[v,y])) (W.setCell ⟨gc,0,none⟩ (.int .i32 0)):=by
 have hF:=Fr.set1 W gc 0 (.int .i32 0)
 have hk:=kinds_one hc.cells
 refine⟨v,y,rfl,row_kept hv hF hk (by decide),he.fr hF fun k C fz hC=>kinds_not hk hC (by decide),qs',hc.turn 0,?_,hf.step hF fun i hi e=>.inl (.inl e),hs⟩
 exact net_kept hn hF hk (by decide) (by decide) (by decide)
theorem tr_fr9 (w:World) (g:Nat) (n:Int) (k:Hsh):Fr (·=g) w (((((((((w.setCell ⟨g,0,none⟩ (.int .i64 n)).setCell ⟨g,1,none⟩ (u8 k[0])).setCell ⟨g,2,none⟩ (u8 k[1])).setCell ⟨g,3,none⟩ (u8 k[2])).setCell ⟨g,4,none⟩ (u8 k[3])).setCell ⟨g,5,none⟩ (u8 k[4])).setCell ⟨g,6,none⟩ (u8 k[5])).setCell ⟨g,7,none⟩ (u8 k[6])).setCell ⟨g,8,none⟩ (u8 k[7])):=(((((((((Fr.set1 w g 0 (.int .i64 n)).set 1 (u8 k[0])).set 2 (u8 k[1])).set 3 (u8 k[2])).set 4 (u8 k[3])).set 5 (u8 k[4])).set 6 (u8 k[5])).set 7 (u8 k[6])).set 8 (u8 k[7]))
theorem tr_st9 {w:World} {g:Nat} (h:TrAt w g 0 zero8) (n:Int) (k:Hsh):TrAt (((((((((w.setCell ⟨g,0,none⟩ (.int .i64 n)).setCell ⟨g,1,none⟩ (u8 k[0])).setCell ⟨g,2,none⟩ (u8 k[1])).setCell ⟨g,3,none⟩ (u8 k[2])).setCell ⟨g,4,none⟩ (u8 k[3])).setCell ⟨g,5,none⟩ (u8 k[4])).setCell ⟨g,6,none⟩ (u8 k[5])).setCell ⟨g,7,none⟩ (u8 k[6])).setCell ⟨g,8,none⟩ (u8 k[7])) g n k:=
 (heap_setCell (i:=8) (heap_setCell (i:=7) (heap_setCell (i:=6) (heap_setCell (i:=5) (heap_setCell (i:=4) (heap_setCell (i:=3) (heap_setCell (i:=2) (heap_setCell (i:=1) (heap_setCell (i:=0) h (.int .i64 n)) (u8 k[0])) (u8 k[1])) (u8 k[2])) (u8 k[3])) (u8 k[4])) (u8 k[5])) (u8 k[6])) (u8 k[7])).trans (by simp[trC,bv])
theorem cl_fr9 (w:World) (g:Nat) (n:Int) (k:Hsh):Fr (·=g) w (((((((((w.setCell ⟨g,4,none⟩ (.int .i64 n)).setCell ⟨g,5,none⟩ (u8 k[0])).setCell ⟨g,6,none⟩ (u8 k[1])).setCell ⟨g,7,none⟩ (u8 k[2])).setCell ⟨g,8,none⟩ (u8 k[3])).setCell ⟨g,9,none⟩ (u8 k[4])).setCell ⟨g,10,none⟩ (u8 k[5])).setCell ⟨g,11,none⟩ (u8 k[6])).setCell ⟨g,12,none⟩ (u8 k[7])):=(((((((((Fr.set1 w g 4 (.int .i64 n)).set 5 (u8 k[0])).set 6 (u8 k[1])).set 7 (u8 k[2])).set 8 (u8 k[3])).set 9 (u8 k[4])).set 10 (u8 k[5])).set 11 (u8 k[6])).set 12 (u8 k[7]))
theorem cl_st9 {mu:Int} {w:World} {g gk mc:Nat} {vf:Value} {c:Cl} {qs:List CEnt} (h:ClM mu w g gk mc vf c qs) (n:Nat) (k:Hsh):ClM mu (((((((((w.setCell ⟨g,4,none⟩ (.int .i64 n)).setCell ⟨g,5,none⟩ (u8 k[0])).setCell ⟨g,6,none⟩ (u8 k[1])).setCell ⟨g,7,none⟩ (u8 k[2])).setCell ⟨g,8,none⟩ (u8 k[3])).setCell ⟨g,9,none⟩ (u8 k[4])).setCell ⟨g,10,none⟩ (u8 k[5])).setCell ⟨g,11,none⟩ (u8 k[6])).setCell ⟨g,12,none⟩ (u8 k[7])) g gk mc vf { c with size:=n,root:=k } qs:=
 ⟨(heap_setCell (i:=12) (heap_setCell (i:=11) (heap_setCell (i:=10) (heap_setCell (i:=9) (heap_setCell (i:=8) (heap_setCell (i:=7) (heap_setCell (i:=6) (heap_setCell (i:=5) (heap_setCell (i:=4) h.cells (.int .i64 n)) (u8 k[0])) (u8 k[1])) (u8 k[2])) (u8 k[3])) (u8 k[4])) (u8 k[5])) (u8 k[6])) (u8 k[7])).trans (by simp[bv]),h.cache.fr (cl_fr9 w g n k) (fun i hi e=>h.apart i hi e) h.noBytes⟩
theorem neq_hashU (w:World) (a b:Hsh):Sem.run prog (binOp .neq 109 (.agg (h8 a)) (.agg (h8 b))) w=.ok (Value.bool (!(some a == some b))) w:=by
 rw[run_neq_struct,eqn]
 rfl
theorem neq_lit (w:World) (a b:Hsh):Sem.run prog (binOp .neq 109 (.agg #[bv a[0],bv a[1],bv a[2],bv a[3],bv a[4],bv a[5],bv a[6],bv a[7]]) (.agg #[bv b[0],bv b[1],bv b[2],bv b[3],bv b[4],bv b[5],bv b[6],bv b[7]])) w=.ok (Value.bool (!decide (a=b))) w:=by
 have h:=neq_hashU w a b
 rw[h8_lit,h8_lit] at h
 rw[h]
 by_cases e:a=b
 ·simp[e]
 ·simp[e,beq_eq_false_iff_ne.2 e]
theorem ClM.netTurn {mu:Int} {w w':World} {gc gk mc gn gd:Nat} {vl vt vf:Value} {c:Cl} {qs:List CEnt} {n:Nt} (h:ClM mu w gc gk mc vf c qs) (hn:NetIs w gn gd vl vt n) (hf:Fr (netS gn vt) w w'):ClM mu w' gc gk mc vf c qs:=by
 have hk:=kinds_net hn
 refine⟨heap_kept h.cells hf hk (by decide),cache_kept h.cache hf hk ?_ (by decide) (by decide) (by decide)⟩
 obtain⟨D,⟨es,cl,hb,_⟩,_⟩:=h.cache.km.ex
 rintro (e|e)
 ·rw[e,hn.cells] at hb;cases hb
 ·obtain⟨C,hC⟩:=ownBlock_type hn.told e
  rw[hC] at hb;cases hb
theorem upd_fin {w wd w3 W:World} {gc gk mc gn gd gq mq N:Nat} {vl vt v:Value} {qs:List CEnt} {x:Qv} {c:Cl} {s:Cs} {d:Dk} (hF:Fr (cnS gc gk mc gn vt qs) w wd) (hb3:Below wd.heap.size wd w3) (hgq:wd.heap.size≤gq) (hmq:wd.heap.size≤mq)
  (h:QIs W (cQ gq gc gk mc gn gd mq vl vt v c) x N s d) (hf:Fr (QS (cQ gq gc gk mc gn gd mq vl vt v c) ⟨.slice none 0 0,qs,[]⟩) w3 W) (hs:Sub w3 (QS (cQ gq gc gk mc gn gd mq vl vt v c) ⟨.slice none 0 0,qs,[]⟩) (QS (cQ gq gc gk mc gn gd mq vl vt v c) x)) :
  ∃ qs',ClM 1 W gc gk mc (.iface 44 (.pointer (some ⟨gn,0,none⟩))) { c with cache:=s.cache } qs'∧NetIs W gn gd vl vt s.net∧Fr (cnS gc gk mc gn vt qs) w W∧Sub w (cnS gc gk mc gn vt qs) (cnS gc gk mc gn vt qs'):=by
 obtain⟨vo,qs',vs⟩:=x
 obtain⟨e1,e2,e3,e4⟩:=ask_end hgq hmq hb3 h hf hs
 exact⟨qs',e1,e2,hF.trans e3,fun k hk=>(e4 k hk).imp id fun e=>Nat.le_trans hF.size e⟩
def cvUpd:Op:=.convert 94 9 (.tmp 26)
theorem cvUpd_eq:Op.convert 94 9 (.tmp 26)=cvUpd:=rfl
section
attribute [local go_sem] cvUpd
theorem update_any (F:Nat→Addr) (w:World) (gc gk mc gn gd:Nat) (vl vt v:Value) (c:Cl) (qs:List CEnt) (n:Nt) (d:Dk) (h:ClIs w gc gk mc (.iface 44 (.pointer (some ⟨gn,0,none⟩))) c qs) (hn:NetIs w gn gd vl vt n) (hd:DiskAt w gd v d) (hdf:d.files=n.files) (hE:EnvS F (cnS gc gk mc gn vt qs) w)
  (hft:n.fetches<1152921504606000000) (hkey:c.key.size≤9223372036854775807) (hcs:∀ data,fetchA n (sOf kCp)=some data→data.length≤1048576) (hsz:c.size<9223372036854775808)
  (hask:∀ (data:List UInt8) (N:Nat),fetchA n (sOf kCp)=some data→(checkGo data c.key.data.toList).2.2=true→(checkGo data c.key.data.toList).1=(N:Int)→c.size<N→0<c.size→
   Bnd (askQ (fetchN n (sOf kCp)) c.cache) (gatherT N (partR N 0 N c.size).reverse).length∧(proofQ c.size N (askQ (fetchN n (sOf kCp)) c.cache)).1≠.error .panic∧c.cache.items.length+(gatherT N (partR N 0 N c.size).reverse).length<1099511627775) :
  Calls prog 42 #[.pointer (some ⟨gc,0,none⟩)] w (UpdPost F w gc gk mc gn gd vl vt qs (updateP c n)):=by
 obtain⟨R,hR⟩:∃ R,R=updateP c n:=⟨_,rfl⟩
 have hlt:=h.lt
 rw[←hR]
 have H:=zh h
 have HN:=zh hn
 have HD:=zh hd
 have HDF:=zh hdf
 have HE:=zh hE
 have HR:=zh hR
 have HCS:=zh hcs
 have HASK:=zh hask
 clear h hn hd hdf hE hR hcs hask
 go_enter_defers func42,ntmps42
 go_upto_region 3 with (first
  | (go_at_call 83;refine (lock_cl H.o).mono ?_;rintro e w1 ⟨rfl,h1,hf1,hz1⟩;have H1:=zh h1;have HF1:=zh hf1;have HZ1:=zh hz1;clear h1 hf1 hz1)
  | fail)
 have hn1:NetIs w1 gn gd vl vt n:=net_kept HN.o HF1.o (kinds_one H.o.cells) (by decide) (by decide) (by decide)
 have hd1:DiskAt w1 gd v d:=HD.o.kept HF1.o (kinds_one H.o.cells) (by decide) (by decide)
 have hfe:=cfetch0 w1 gc gn gd vl vt v n d (sOf kCp) (cell_heap H1.o.cells 2 rfl) hn1 hd1 HDF.o (by omega)
 have hcp:sOf kCp=⟨#[99,104,101,99,107,112,111,105,110,116]⟩:=by rfl
 have HFE:=zh hfe
 rw[hcp] at hfe
 have HFE2:=zh hfe
 have HN1:=zh hn1
 have HD1:=zh hd1
 clear hn1 hd1 hfe
 go_upto_region 4 with (first
  | (go_at_call 85;refine HFE2.o.mono ?_;intro e w2 h2;rw[←hcp] at h2;obtain⟨hn2,hf2,u2,y2,rfl,hy2⟩:=h2;have HN2:=zh hn2;have HF2:=zh hf2;have HY2:=zh hy2;clear hn2 hf2 hy2)
  | fail)
 clear hcp
 have hC2:ClM 1 w2 gc gk mc (.iface 44 (.pointer (some ⟨gn,0,none⟩))) c qs:=H1.o.netTurn HN1.o HF2.o
 have hFW:Fr (cnS gc gk mc gn vt qs) w w2:=(HF1.o.weak fun _ _ e=>.inl (.inl e)).trans (HF2.o.weak fun _ _ e=>.inr e)
 have hE2:EnvS F (cnS gc gk mc gn vt qs) w2:=HE.o.fr hFW
 have hY2:=HY2.o
 have HC2:=zh hC2
 have HFW:=zh hFW
 have HE2:=zh hE2
 clear hC2 hFW hE2 HY2
 rcases hY2 with ⟨data,hfd,rfl,hob,a,k,cc,rfl⟩|⟨hfn,⟨q9,rfl⟩,a,k,cc,rfl⟩
 rotate_left
 ·have HFN:=zh hfn
  have hg:=HE2.o.sents.cells.2.2.1
  clear hfn
  go_wp2
  go_region
  all_goals (
   go_wp2
   refine upd_door (v:=.slice none 0 0) (y:=.iface 338 (.pointer (some (F 2)))) (cell_heap (w:=w2.drew) HC2.o.cells 0 rfl) (frozen_heap (w:=w2.drew) HC2.o.cells 0) rfl rfl ?_
   have hRe:R=((3,⟨#[]⟩),[],c,fetchN n (sOf kCp)):=by
    rw[HR.o]
    unfold updateP
    rw[HFN.o]
   rw[hRe]
   exact upd_end (HC2.o.below (below_drew w2)) (HN2.o.below (below_drew w2)) HFW.o.drew (Sub.refl _ _) (World.ownsRow_nil _ _ _ _) (.inr (.inl ⟨2,by decide,by decide,rfl,rfl⟩)))
 obtain⟨q,hq⟩:∃ q,q=checkGo data c.key.data.toList:=⟨_,rfl⟩
 have hlen:=HCS.o data hfd
 have hsnd:=checkGo_sound data c.key.data.toList
 rw[←hq] at hsnd
 have hcv:∀ W,Below w2.heap.size w2 W→Sem.run prog (convert 94 9 (.slice a k cc)) W=.ok (.string (sOf data)) W:=fun W hW=>run_bs (hob.at.below hW)
 have hcon:∀ W,Below w2.heap.size w2 W→Calls prog 67 #[.string (sOf data),.string c.key] W (fcheckPost q W):=fun W hW=>by
  have h1:=fcheck_any (sOf data) c.key W (by rw[sOf_size];exact hlen) hkey (HE2.o.below hW).num
  rw[show (sOf data).data.toList=data by simp[sOf],←hq] at h1
  exact h1
 obtain⟨qn,qh,qb⟩:=q
 have hcd:=hcv w2.drew (below_drew w2)
 have HFD:=zh hfd
 have HQ:=zh hq
 have HSND:=zh hsnd
 have HCON:=zh hcon
 have HCV:=zh hcv
 clear hfd hob hq hlen hsnd hcon hcv
 go_upto_region 6 with fail
 go_cut [6,7] from 25 to 34 (fun s6 s7 wx=>∃ q6,s6=.pointer (some ⟨q6,0,none⟩)∧s7=.bool qb∧Aside (TrAt wx q6 qn qh)∧Aside (Below w2.heap.size w2 wx)∧w2.heap.size≤q6)
 case first=>
  have hgc2:gc<w2.heap.size:=HC2.o.lt
  have hne1:¬ gc=w2.heap.size:=by omega
  have k1:w2.cell? ⟨gc,3,none⟩=some (.string c.key):=cell_heap HC2.o.cells 3 rfl
  have k1d:w2.drew.cell? ⟨gc,3,none⟩=some (.string c.key):=k1
  have ka1:(w2.alloc (.cells #[.int .i64 0,.int .u8 0,.int .u8 0,.int .u8 0,.int .u8 0,.int .u8 0,.int .u8 0,.int .u8 0,.int .u8 0] 111)).drew.cell? ⟨gc,3,none⟩=some (.string c.key):=((below_alloc w2 _).cell (p:=⟨gc,3,none⟩) hgc2).trans k1
  have hca:=HCV.o (w2.alloc (.cells #[.int .i64 0,.int .u8 0,.int .u8 0,.int .u8 0,.int .u8 0,.int .u8 0,.int .u8 0,.int .u8 0,.int .u8 0] 111)).drew ((below_alloc w2 _).drew)
  rw[cvUpd_eq]
  go_region_held3 (fun w'=>w'.cell? ⟨gc,3,none⟩=some (.string c.key)) (first|(with_reducible first|exact k1d|exact m1|exact ka1|exact mz1|exact (tr_fr9 w7 _ _ _).cell m1 hne1)|exact ((below_alloc w7 _).cell (p:=⟨gc,3,none⟩) mb1).trans m1|fail) (first|(go_at_call 67;refine (HCON.o _ (below_drew w2)).mono ?_;rintro e w7 ⟨rfl,hb7⟩;have HB7:=zh (show Below w2.heap.size w2 w7 from (below_drew w2).trans hb7);have m1:=(HB7.o.cell (p:=⟨gc,3,none⟩) hgc2).trans k1;have mb1:=Nat.lt_of_lt_of_le hgc2 HB7.o.size;have mz1:(w7.alloc (.cells #[.int .i64 0,.int .u8 0,.int .u8 0,.int .u8 0,.int .u8 0,.int .u8 0,.int .u8 0,.int .u8 0,.int .u8 0] 111)).cell? ⟨gc,3,none⟩=some (.string c.key):=((below_alloc w7 _).cell (p:=⟨gc,3,none⟩) mb1).trans m1;clear hb7)|(go_at_call 67;refine (HCON.o _ ((below_drew w2).alloc (Nat.le_refl _) _)).mono ?_;rintro e w7 ⟨rfl,hb7⟩;have HB7:=zh (show Below w2.heap.size w2 w7 from ((below_drew w2).alloc (Nat.le_refl _) _).trans (hb7.mono (by simp)));have m1:=(HB7.o.cell (p:=⟨gc,3,none⟩) hgc2).trans k1;have mb1:=Nat.lt_of_lt_of_le hgc2 HB7.o.size;have mz1:(w7.alloc (.cells #[.int .i64 0,.int .u8 0,.int .u8 0,.int .u8 0,.int .u8 0,.int .u8 0,.int .u8 0,.int .u8 0,.int .u8 0] 111)).cell? ⟨gc,3,none⟩=some (.string c.key):=((below_alloc w7 _).cell (p:=⟨gc,3,none⟩) mb1).trans m1;have HT7:=zh (TrAt.below (show TrAt (w2.drew.alloc (.cells (trC 0 zero8) 111)) w2.heap.size 0 zero8 from heap_alloc_new w2.drew _) hb7);have ⟨n0,n1,n2,n3,n4,n5,n6,n7,n8⟩:=HT7.o.cells;have nf:=(fun i=>frozen_heap HT7.o i:∀ i,w7.frozen? ⟨w2.heap.size,i,none⟩=false);have nb:=lt_of_heap HT7.o;clear hb7)|fail)
  all_goals (
   go_wp2_with fail
   go_meet
   show ∃ q6,_∧_∧Aside (TrAt _ q6 qn qh)∧Aside (Below w2.heap.size w2 _)∧w2.heap.size≤q6
   first
    | (
      refine⟨w7.heap.size,rfl,rfl,?_,?_,HB7.o.size⟩
      ·show TrAt _ _ _ _
       exact heap_alloc_new w7 _
      ·show Below _ _ _
       exact HB7.o.alloc HB7.o.size _)
    | (
      refine⟨w2.heap.size,rfl,rfl,?_,?_,Nat.le_refl _⟩
      ·show TrAt _ _ _ _
       exact tr_st9 HT7.o qn qh
      ·show Below _ _ _
       exact HB7.o.trans ((tr_fr9 w7 w2.heap.size qn qh).below HB7.o.size fun k hk e=>by omega)))
 case rest=>
  obtain⟨q6,rfl,rfl,HT6,HB6,hq6⟩:=hcut
  have HC6:=zh (HC2.o.below HB6.o)
  have HE6:=zh (HE2.o.below HB6.o)
  have ht0:=HT6.o.cells.1
  have hc4:wc.cell? ⟨gc,4,none⟩=some (.int .i64 c.size):=cell_heap HC6.o.cells 4 rfl
  obtain⟨_,_,g2,g3,g4,_,_⟩:=HE6.o.sents.cells
  cases qb with
  | false=>
   go_wp2
   go_region
   all_goals (
    go_wp2
    refine upd_door (v:=.slice none 0 0) (y:=.iface 338 (.pointer (some (F 2)))) (cell_heap (w:=wc.drew) HC6.o.cells 0 rfl) (frozen_heap (w:=wc.drew) HC6.o.cells 0) rfl rfl ?_
    have hRe:R=((3,⟨#[]⟩),[],c,fetchN n (sOf kCp)):=by
     rw[HR.o]
     unfold updateP
     rw[HFD.o]
     dsimp only
     rw[←HQ.o]
     rfl
    rw[hRe]
    exact upd_end (HC6.o.below (below_drew wc)) ((HN2.o.below HB6.o).below (below_drew wc)) ((HFW.o.trans (Fr.ofBelow HB6.o)).drew) (Sub.refl _ _) (World.ownsRow_nil _ _ _ _) (.inr (.inl ⟨2,by decide,by decide,rfl,rfl⟩)))
  | true=>
   obtain⟨p1,p2,_⟩:=HSND.o.1 rfl
   dsimp only at p1 p2
   obtain⟨N,rfl⟩:∃ N:Nat,qn=N:=⟨qn.toNat,by omega⟩
   have hUP:updateP c n=(if N<c.size then ((4,⟨#[]⟩),[],c,fetchN n (sOf kCp)) else
     if N=c.size then (if qh=c.root then (tFine,[],c,fetchN n (sOf kCp)) else ((5,⟨#[]⟩),[],c,fetchN n (sOf kCp))) else
     if c.size=0 then (tFine,[],{ c with size:=N,root:=qh },fetchN n (sOf kCp)) else
     match proofQ c.size N (askQ (fetchN n (sOf kCp)) c.cache) with
     | (.error (.miss p),s)=>((6,p),[],{ c with cache:=s.cache },s.net)
     | (.error .panic,s)=>((99,⟨#[]⟩),[],{ c with cache:=s.cache },s.net)
     | (.ok l,s)=>if consistent c.size N c.root qh l=true then (tFine,l,{ c with size:=N,root:=qh,cache:=rememberQ s.cache s.files },s.net) else ((5,⟨#[]⟩),[],{ c with cache:=s.cache },s.net)):=by
    unfold updateP
    rw[HFD.o]
    dsimp only
    rw[←HQ.o]
    dsimp only
    rw[if_neg (by decide),Int.toNat_natCast]
    rfl
   have HUP:=zh hUP
   have hask:=fun h1 h2=>HASK.o data N HFD.o (by rw[←HQ.o]) (by rw[←HQ.o]) h1 h2
   have HAS:=zh hask
   clear hUP hask HASK
   rcases Nat.lt_trichotomy N c.size with hl|hl|hl
   ·have hli:(N:Int)<(c.size:Int):=by omega
    have HLN:=zh hl
    clear hl
    go_upto_region 9 with fail
    go_region
    all_goals (
     go_wp2
     go_region
     all_goals (
      go_wp2
      have hb:Below wc.heap.size wc wc.drew.drew:=(below_drew wc).drew
      refine upd_door (v:=.slice none 0 0) (y:=.iface 338 (.pointer (some (F 3)))) (cell_heap (w:=wc.drew.drew) HC6.o.cells 0 rfl) (frozen_heap (w:=wc.drew.drew) HC6.o.cells 0) rfl rfl ?_
      have hRe:R=((4,⟨#[]⟩),[],c,fetchN n (sOf kCp)):=by rw[HR.o,HUP.o,if_pos HLN.o]
      rw[hRe]
      exact upd_end (HC6.o.below hb) ((HN2.o.below HB6.o).below hb) (HFW.o.trans (Fr.ofBelow (HB6.o.trans (hb.mono HB6.o.size)))) (Sub.refl _ _) (World.ownsRow_nil _ _ _ _) (.inr (.inl ⟨3,by decide,by decide,rfl,rfl⟩))))
   ·have hc4N:wc.cell? ⟨gc,4,none⟩=some (.int .i64 N):=by rw[hl];exact hc4
    have HLN:=zh hl
    obtain⟨_,t1,t2,t3,t4,t5,t6,t7,t8⟩:=HT6.o.cells
    have k0:wc.cell? ⟨gc,5,none⟩=some (bv c.root[0]):=cell_heap HC6.o.cells 5 rfl
    have k1:wc.cell? ⟨gc,6,none⟩=some (bv c.root[1]):=cell_heap HC6.o.cells 6 rfl
    have k2:wc.cell? ⟨gc,7,none⟩=some (bv c.root[2]):=cell_heap HC6.o.cells 7 rfl
    have k3:wc.cell? ⟨gc,8,none⟩=some (bv c.root[3]):=cell_heap HC6.o.cells 8 rfl
    have k4:wc.cell? ⟨gc,9,none⟩=some (bv c.root[4]):=cell_heap HC6.o.cells 9 rfl
    have k5:wc.cell? ⟨gc,10,none⟩=some (bv c.root[5]):=cell_heap HC6.o.cells 10 rfl
    have k6:wc.cell? ⟨gc,11,none⟩=some (bv c.root[6]):=cell_heap HC6.o.cells 11 rfl
    have k7:wc.cell? ⟨gc,12,none⟩=some (bv c.root[7]):=cell_heap HC6.o.cells 12 rfl
    have hnq:=fun W=>neq_lit W qh c.root
    obtain⟨eb,heb⟩:∃ eb,eb=decide (qh=c.root):=⟨_,rfl⟩
    rw[←heb] at hnq
    have HEB:=zh heb
    clear hl hc4 heb
    go_upto_region 9 with fail
    go_region
    all_goals (
     go_upto_region 11 with fail
     cases eb with
     | false=>
      go_quiet (fail)
      go_wp2
      go_region
      all_goals (
       go_wp2
       have hb:Below wc.heap.size wc (wc.drewN (1+nq+1)):=below_drewN (Below.refl _ _) _
       refine upd_door (v:=.slice none 0 0) (y:=.iface 338 (.pointer (some (F 4)))) (cell_heap (w:=wc.drewN (1+nq+1)) HC6.o.cells 0 rfl) (frozen_heap (w:=wc.drewN (1+nq+1)) HC6.o.cells 0) rfl rfl ?_
       have hRe:R=((5,⟨#[]⟩),[],c,fetchN n (sOf kCp)):=by
        rw[HR.o,HUP.o,if_neg (by rw[HLN.o];exact Nat.lt_irrefl _),if_pos HLN.o,if_neg (of_decide_eq_false HEB.o.symm)]
       rw[hRe]
       exact upd_end (HC6.o.below hb) ((HN2.o.below HB6.o).below hb) (HFW.o.trans (Fr.ofBelow (HB6.o.trans (hb.mono HB6.o.size)))) (Sub.refl _ _) (World.ownsRow_nil _ _ _ _) (.inr (.inl ⟨4,by decide,by decide,rfl,rfl⟩)))
     | true=>
      go_quiet (fail)
      go_wp2
      go_region
      all_goals (
       try go_wp2
       have hb:Below wc.heap.size wc (wc.drewN (1+nq+1)):=below_drewN (Below.refl _ _) _
       refine upd_door (v:=.slice none 0 0) (y:=.nilIface) (cell_heap (w:=wc.drewN (1+nq+1)) HC6.o.cells 0 rfl) (frozen_heap (w:=wc.drewN (1+nq+1)) HC6.o.cells 0) rfl rfl ?_
       have hRe:R=(tFine,[],c,fetchN n (sOf kCp)):=by
        rw[HR.o,HUP.o,if_neg (by rw[HLN.o];exact Nat.lt_irrefl _),if_pos HLN.o,if_pos (of_decide_eq_true HEB.o.symm)]
       rw[hRe]
       exact upd_end (HC6.o.below hb) ((HN2.o.below HB6.o).below hb) (HFW.o.trans (Fr.ofBelow (HB6.o.trans (hb.mono HB6.o.size)))) (Sub.refl _ _) (World.ownsRow_nil _ _ _ _) (.inl ⟨rfl,rfl⟩)))
   ·have hlt1:¬ (N:Int)<(c.size:Int):=by omega
    have hne1:((N:Int) == (c.size:Int))=false:=by rw[beq_eq_false_iff_ne];omega
    have HLN:=zh hl
    have hN63:N<9223372036854775808:=by omega
    clear hl
    go_upto_region 9 with fail
    go_region
    all_goals (
     go_upto_region 11 with fail
     go_quiet (fail)
     go_upto_region 13 with fail
     go_region
     all_goals (
      go_upto_region 15 with fail
      obtain⟨wd,hwd⟩:∃ wd,wd=wc.drewN (1+nq+1):=⟨_,rfl⟩
      have hbd:Below wc.heap.size wc wd:=by rw[hwd];exact below_drewN (Below.refl _ _) _
      have HBD:=zh hbd
      rw[←hwd]
      clear hwd hbd hc4 ht0 hne1 hlt1 g2 g3 g4
      have HCD:=zh (HC6.o.below HBD.o)
      have HTD:=zh (HT6.o.below HBD.o)
      have d4:wd.cell? ⟨gc,4,none⟩=some (.int .i64 c.size):=cell_heap HCD.o.cells 4 rfl
      obtain⟨t0,t1,t2,t3,t4,t5,t6,t7,t8⟩:=HTD.o.cells
      rcases Nat.eq_zero_or_pos c.size with hz|hz
      ·have hz2:(c.size:Int)=0:=by omega
       rw[hz2] at d4
       have HZ:=zh hz
       clear hz hz2
       have k0:wd.cell? ⟨gc,5,none⟩=some (bv c.root[0]):=cell_heap HCD.o.cells 5 rfl
       have k1:wd.cell? ⟨gc,6,none⟩=some (bv c.root[1]):=cell_heap HCD.o.cells 6 rfl
       have k2:wd.cell? ⟨gc,7,none⟩=some (bv c.root[2]):=cell_heap HCD.o.cells 7 rfl
       have k3:wd.cell? ⟨gc,8,none⟩=some (bv c.root[3]):=cell_heap HCD.o.cells 8 rfl
       have k4:wd.cell? ⟨gc,9,none⟩=some (bv c.root[4]):=cell_heap HCD.o.cells 9 rfl
       have k5:wd.cell? ⟨gc,10,none⟩=some (bv c.root[5]):=cell_heap HCD.o.cells 10 rfl
       have k6:wd.cell? ⟨gc,11,none⟩=some (bv c.root[6]):=cell_heap HCD.o.cells 11 rfl
       have k7:wd.cell? ⟨gc,12,none⟩=some (bv c.root[7]):=cell_heap HCD.o.cells 12 rfl
       have kf:∀ i,wd.frozen? ⟨gc,i,none⟩=false:=fun i=>frozen_heap HCD.o.cells i
       have kgc:=lt_of_heap HCD.o.cells
       go_upto_region 16 with fail
       go_upto_region 17 with (first|(refine wpList_loadT rfl _ rfl _ rfl _ _ HTD.o ?_)|fail)
       go_wp2
       have hq:=cl_st9 HCD.o N qh
       refine upd_door (v:=.slice none 0 0) (y:=.nilIface) (cell_heap hq.cells 0 rfl) (frozen_heap hq.cells 0) rfl rfl ?_
       have hRe:R=(tFine,[],{ c with size:=N,root:=qh },fetchN n (sOf kCp)):=by
        rw[HR.o,HUP.o,if_neg (by have:=HLN.o;omega),if_neg (by have:=HLN.o;omega),if_pos HZ.o]
       rw[hRe]
       have hF:=cl_fr9 wd gc N qh
       have hk:=kinds_one HCD.o.cells
       exact upd_end hq (net_kept ((HN2.o.below HB6.o).below HBD.o) hF hk (by decide) (by decide) (by decide)) ((HFW.o.trans (Fr.ofBelow (HB6.o.trans (HBD.o.mono HB6.o.size)))).step hF fun i hi e=>.inl (.inl e)) (Sub.refl _ _) (World.ownsRow_nil _ _ _ _) (.inl ⟨rfl,rfl⟩)
      ·have hzb:((c.size:Int) == 0)=false:=by rw[beq_eq_false_iff_ne];omega
       obtain⟨n1,hn1⟩:∃ n1,n1=fetchN n (sOf kCp):=⟨_,rfl⟩
       have hdf1:d.files=n1.files:=by rw[hn1,(fetchN_same n (sOf kCp)).2.1];exact HDF.o
       obtain⟨ha1,ha2,ha3⟩:=HAS.o HLN.o hz
       have hnd:NetIs wd gn gd vl vt n1:=by rw[hn1];exact (HN2.o.below HB6.o).below HBD.o
       have hdd:DiskAt wd gd v d:=((HD1.o.kept HF2.o (kinds_net HN1.o) (by decide) (by decide)).below HB6.o).below HBD.o
       have hed:EnvS F (cnS gc gk mc gn vt qs) wd:=HE6.o.below HBD.o
       have hud:=HUP.o
       rw[if_neg (by have:=HLN.o;omega),if_neg (by have:=HLN.o;omega),if_neg (by omega)] at hud
       rw[←hn1] at hud ha1 ha2
       obtain⟨s0,hs0⟩:∃ s,s=askQ n1 c.cache:=⟨_,rfl⟩
       rw[←hs0] at hud ha1 ha2
       obtain⟨o2,s2,hr2⟩:∃ o s,proofQ c.size N s0=(o,s):=⟨_,_,rfl⟩
       rw[hr2] at hud ha2
       have hfrd:Fr (cnS gc gk mc gn vt qs) w wd:=HFW.o.trans (Fr.ofBelow (HB6.o.trans (HBD.o.mono HB6.o.size)))
       have HFRD:=zh hfrd
       have HZ:=zh hz
       have HUD:=zh hud
       have HA1:=zh ha1
       have HA2:=zh ha2
       have HA3:=zh ha3
       have HND:=zh hnd
       have HDD:=zh hdd
       have HED:=zh hed
       have HDF1:=zh hdf1
       have HS0:=zh hs0
       have HR2:=zh hr2
       clear hz ha1 ha2 ha3 hnd hdd hed hud hs0 hr2 hdf1 hn1 hfrd t1 t2 t3 t4 t5 t6 t7 t8
       go_upto_region 19 with (first
        | (go_at_call 86;refine (look_any wd gc N).mono ?_;rintro e w3 ⟨gq,mq,rfl,hq3,hm3,hb3,hg3,hmm3⟩;have HQ3:=zh hq3;have HM3:=zh hm3;have HB3:=zh hb3;clear hq3 hm3 hb3)
        | fail)
       have hq0:=ask_is (N:=N) HCD.o HND.o HDD.o HDF1.o (fun z hz=>by cases hz) HB3.o HQ3.o HM3.o hmm3
       rw[←HS0.o] at hq0
       have hE3:EnvS F (QS (cQ gq gc gk mc gn gd mq vl vt v c) ⟨.slice none 0 0,qs,[]⟩) w3:=HED.o.step (Fr.ofBelow HB3.o) fun k hk=>by
        rcases Nat.lt_or_ge k wd.heap.size with hlk|hge
        ·exact .inl (ask_sub hg3 hmm3 hlk hk)
        ·exact .inr hge
       have hpr:=fun W hW g1 g3 hc=>qproof_any F W (cQ gq gc gk mc gn gd mq vl vt v c) ⟨.slice none 0 0,qs,[]⟩ N s0 d (hq0.below hW) (hE3.below hW) g1 g3 hc c.size N HZ.o (Nat.le_of_lt HLN.o) (Nat.le_refl _) hN63 HA1.o (by show (proofQ c.size N s0).1≠_;rw[HR2.o];exact HA2.o)
       rw[show gatherQ N (partR N 0 N c.size).reverse s0=(o2,s2) from HR2.o] at hpr
       have hwh:=fun W hW=>mwholeQ_any W (cQ gq gc gk mc gn gd mq vl vt v c) ⟨.slice none 0 0,qs,[]⟩ N s0 d (hq0.below hW)
       have hT3:=HTD.o.below HB3.o
       have k99:w3.cell? ⟨gc,4,none⟩=some (.int .i64 c.size):=cell_heap (HCD.o.below HB3.o).cells 4 rfl
       have kd99:w3.drew.cell? ⟨gc,4,none⟩=some (.int .i64 c.size):=k99
       have r0:w3.cell? ⟨q6,0,none⟩=some (.int .i64 N):=hT3.cells.1
       have rd0:w3.drew.cell? ⟨q6,0,none⟩=some (.int .i64 N):=r0
       have hb3g:gc<w3.heap.size:=lt_of_heap (HCD.o.below HB3.o).cells
       have hb3q:q6<w3.heap.size:=lt_of_heap hT3
       have HQ0:=zh hq0
       have HE3:=zh hE3
       have HPR:=zh hpr
       have HWH:=zh hwh
       have HT3:=zh hT3
       clear hq0 hE3 hpr hwh hT3
       go_region_held3 (fun w'=>w'.cell? ⟨gc,4,none⟩=some (.int .i64 c.size)∧w'.cell? ⟨q6,0,none⟩=some (.int .i64 N)) (first|with_reducible exact⟨k99,r0⟩|with_reducible exact⟨kd99,rd0⟩|with_reducible exact⟨m99,n0⟩|with_reducible exact⟨e99,f0⟩|fail) (first
        | (go_at_call 88;refine (HWH.o _ (below_drew w3)).mono ?_;rintro e w4 ⟨g1,g3,rfl,hc4,hb4⟩;have HC4:=zh hc4;have HB4:=zh (show Below w3.heap.size w3 w4 from (below_drew w3).trans hb4);have m99:=(HB4.o.cell (p:=⟨gc,4,none⟩) hb3g).trans k99;have n0:=(HB4.o.cell (p:=⟨q6,0,none⟩) hb3q).trans r0;clear hc4 hb4)
        | (go_at_call 87;refine (HPR.o w4 HB4.o g1 g3 HC4.o).mono ?_;intro e w5 h5;obtain⟨v5,y5,rfl,⟨x5,hx5,hf5,hs5⟩,hy5⟩:=gath_two h5;have HX5:=zh hx5;have HF5:=zh hf5;have HS5:=zh hs5;have HY5:=zh hy5;have HTQ:=zh (show TrAt w5 q6 N qh from heap_kept (HT3.o.below HB4.o) hf5 (kinds_QS (HQ0.o.below HB4.o)) (by decide));have e99:w5.cell? ⟨gc,4,none⟩=some (.int .i64 c.size):=cell_heap hx5.cli 4 rfl;have f0:w5.cell? ⟨q6,0,none⟩=some (.int .i64 N):=HTQ.o.cells.1;clear h5 hx5 hf5 hs5 hy5)
        | fail)
       all_goals (
        have hF5:Fr (QS (cQ gq gc gk mc gn gd mq vl vt v c) ⟨.slice none 0 0,qs,[]⟩) w3 w5:=(Fr.ofBelow HB4.o).trans HF5.o
        have hS5:Sub w3 (QS (cQ gq gc gk mc gn gd mq vl vt v c) ⟨.slice none 0 0,qs,[]⟩) (QS (cQ gq gc gk mc gn gd mq vl vt v c) x5):=HS5.o.mono HB4.o.size
        have hcli:w5.heap[gc]?=some (.cells (cliC 1 (.iface 44 (.pointer (some ⟨gn,0,none⟩))) c.key c.size c.root gk) 177 (0,0)):=HX5.o.cli
        have hz4:w.heap.size≤w4.heap.size:=Nat.le_trans HFRD.o.size (Nat.le_trans HB3.o.size HB4.o.size)
        have hY5:=HY5.o
        have HFF:=zh hF5
        have HSS:=zh hS5
        have HCLI:=zh hcli
        have HZ4:=zh hz4
        clear hF5 hS5 hcli hz4 HY5 e99 f0
        rcases hY5 with ⟨l5,hol,rfl,hv5⟩|⟨p,hop,rfl,⟨ge,rfl⟩,hme⟩
        rotate_left
        ·have HOP:=zh hop
         have HME:=zh hme
         clear hop hme
         go_wp2
         refine upd_door (v:=.slice none 0 0) (y:=.iface 153 (.pointer (some ⟨ge,0,none⟩))) (cell_heap HCLI.o 0 rfl) (frozen_heap HCLI.o 0) rfl rfl ?_
         have hRe:R=((6,p),[],{ c with cache:=s2.cache },s2.net):=by
          have hop2:o2=.error (.miss p):=HOP.o
          rw[HR.o,HUD.o,hop2]
         rw[hRe]
         obtain⟨qs',u1,u2,u3,u4⟩:=upd_fin HFRD.o HB3.o hg3 hmm3 HX5.o HFF.o HSS.o
         exact upd_end u1 u2 u3 u4 (World.ownsRow_nil _ _ _ _) (.inr (.inr ⟨p,rfl,MissErr.low HME.o HZ4.o⟩))
        ·have hol:o2=.ok l5:=hol
         subst hol
         have hpl:l5.length≤1048576:=by
          have e:=gatherQ_len N (partR N 0 N c.size).reverse s0 s2 l5 HR2.o
          have:=partR_len N 63 0 N c.size (by omega) (Nat.le_refl _) HZ.o
          rw[e,List.length_reverse]
          omega
         have hco:∀ W,Below w5.heap.size w5 W→Calls prog 90 #[.int .i64 c.size,.int .i64 N,.agg #[bv c.root[0],bv c.root[1],bv c.root[2],bv c.root[3],bv c.root[4],bv c.root[5],bv c.root[6],bv c.root[7]],.agg #[bv qh[0],bv qh[1],bv qh[2],bv qh[3],bv qh[4],bv qh[5],bv qh[6],bv qh[7]],v5] W fun e w'=>e=.returned (.bool (consistent c.size N c.root qh l5))∧Below W.heap.size W w':=fun W hW=>by
          have:=mconsistent_any l5 c.root qh c.size N v5 W (OwnHs.at (ownsRow_below hv5 hW)) (by omega) (by omega) hpl
          rw[h8_lit,h8_lit] at this
          exact this
         obtain⟨ib,hib⟩:∃ x,x=consistent c.size N c.root qh l5:=⟨_,rfl⟩
         rw[←hib] at hco
         have k99:w5.cell? ⟨gc,4,none⟩=some (.int .i64 c.size):=cell_heap HCLI.o 4 rfl
         have kd99:w5.drew.cell? ⟨gc,4,none⟩=some (.int .i64 c.size):=k99
         have k0:w5.cell? ⟨gc,5,none⟩=some (bv c.root[0]):=cell_heap HCLI.o 5 rfl
         have k1:w5.cell? ⟨gc,6,none⟩=some (bv c.root[1]):=cell_heap HCLI.o 6 rfl
         have k2:w5.cell? ⟨gc,7,none⟩=some (bv c.root[2]):=cell_heap HCLI.o 7 rfl
         have k3:w5.cell? ⟨gc,8,none⟩=some (bv c.root[3]):=cell_heap HCLI.o 8 rfl
         have k4:w5.cell? ⟨gc,9,none⟩=some (bv c.root[4]):=cell_heap HCLI.o 9 rfl
         have k5:w5.cell? ⟨gc,10,none⟩=some (bv c.root[5]):=cell_heap HCLI.o 10 rfl
         have k6:w5.cell? ⟨gc,11,none⟩=some (bv c.root[6]):=cell_heap HCLI.o 11 rfl
         have k7:w5.cell? ⟨gc,12,none⟩=some (bv c.root[7]):=cell_heap HCLI.o 12 rfl
         have kd0:w5.drew.cell? ⟨gc,5,none⟩=some (bv c.root[0]):=k0
         have kd1:w5.drew.cell? ⟨gc,6,none⟩=some (bv c.root[1]):=k1
         have kd2:w5.drew.cell? ⟨gc,7,none⟩=some (bv c.root[2]):=k2
         have kd3:w5.drew.cell? ⟨gc,8,none⟩=some (bv c.root[3]):=k3
         have kd4:w5.drew.cell? ⟨gc,9,none⟩=some (bv c.root[4]):=k4
         have kd5:w5.drew.cell? ⟨gc,10,none⟩=some (bv c.root[5]):=k5
         have kd6:w5.drew.cell? ⟨gc,11,none⟩=some (bv c.root[6]):=k6
         have kd7:w5.drew.cell? ⟨gc,12,none⟩=some (bv c.root[7]):=k7
         obtain⟨r0,r1,r2,r3,r4,r5,r6,r7,r8⟩:=HTQ.o.cells
         have rd0:w5.drew.cell? ⟨q6,0,none⟩=some (.int .i64 N):=r0
         have rd1:w5.drew.cell? ⟨q6,1,none⟩=some (bv qh[0]):=r1
         have rd2:w5.drew.cell? ⟨q6,2,none⟩=some (bv qh[1]):=r2
         have rd3:w5.drew.cell? ⟨q6,3,none⟩=some (bv qh[2]):=r3
         have rd4:w5.drew.cell? ⟨q6,4,none⟩=some (bv qh[3]):=r4
         have rd5:w5.drew.cell? ⟨q6,5,none⟩=some (bv qh[4]):=r5
         have rd6:w5.drew.cell? ⟨q6,6,none⟩=some (bv qh[5]):=r6
         have rd7:w5.drew.cell? ⟨q6,7,none⟩=some (bv qh[6]):=r7
         have rd8:w5.drew.cell? ⟨q6,8,none⟩=some (bv qh[7]):=r8
         have hb5g:gc<w5.heap.size:=lt_of_heap HCLI.o
         have hb5q:q6<w5.heap.size:=lt_of_heap HTQ.o
         have HV5:=zh hv5
         have HCO:=zh hco
         have HIB:=zh hib
         clear hv5 hco hib hpl
         go_upto_region 22 with fail
         go_cut [126] from 110 to 125 (fun s126 wx=>s126=.bool (!ib)∧Aside (Below w5.heap.size w5 wx))
         case first=>
          go_region_held3 (fun w'=>w'.cell? ⟨gc,4,none⟩=some (.int .i64 c.size)∧w'.cell? ⟨gc,5,none⟩=some (bv c.root[0])∧w'.cell? ⟨gc,6,none⟩=some (bv c.root[1])∧w'.cell? ⟨gc,7,none⟩=some (bv c.root[2])∧w'.cell? ⟨gc,8,none⟩=some (bv c.root[3])∧w'.cell? ⟨gc,9,none⟩=some (bv c.root[4])∧w'.cell? ⟨gc,10,none⟩=some (bv c.root[5])∧w'.cell? ⟨gc,11,none⟩=some (bv c.root[6])∧w'.cell? ⟨gc,12,none⟩=some (bv c.root[7])∧w'.cell? ⟨q6,0,none⟩=some (.int .i64 N)∧w'.cell? ⟨q6,1,none⟩=some (bv qh[0])∧w'.cell? ⟨q6,2,none⟩=some (bv qh[1])∧w'.cell? ⟨q6,3,none⟩=some (bv qh[2])∧w'.cell? ⟨q6,4,none⟩=some (bv qh[3])∧w'.cell? ⟨q6,5,none⟩=some (bv qh[4])∧w'.cell? ⟨q6,6,none⟩=some (bv qh[5])∧w'.cell? ⟨q6,7,none⟩=some (bv qh[6])∧w'.cell? ⟨q6,8,none⟩=some (bv qh[7])) (first|with_reducible exact⟨k99,k0,k1,k2,k3,k4,k5,k6,k7,r0,r1,r2,r3,r4,r5,r6,r7,r8⟩|with_reducible exact⟨kd99,kd0,kd1,kd2,kd3,kd4,kd5,kd6,kd7,rd0,rd1,rd2,rd3,rd4,rd5,rd6,rd7,rd8⟩|with_reducible exact⟨m99,m0,m1,m2,m3,m4,m5,m6,m7,n0,n1,n2,n3,n4,n5,n6,n7,n8⟩|fail) (first|(go_at_call 90;refine (HCO.o _ (below_drew w5)).mono ?_;rintro e w7 ⟨rfl,hb7⟩;have HB7:=zh (show Below w5.heap.size w5 w7 from (below_drew w5).trans hb7);have m99:=(HB7.o.cell (p:=⟨gc,4,none⟩) hb5g).trans k99;have m0:=(HB7.o.cell (p:=⟨gc,5,none⟩) hb5g).trans k0;have m1:=(HB7.o.cell (p:=⟨gc,6,none⟩) hb5g).trans k1;have m2:=(HB7.o.cell (p:=⟨gc,7,none⟩) hb5g).trans k2;have m3:=(HB7.o.cell (p:=⟨gc,8,none⟩) hb5g).trans k3;have m4:=(HB7.o.cell (p:=⟨gc,9,none⟩) hb5g).trans k4;have m5:=(HB7.o.cell (p:=⟨gc,10,none⟩) hb5g).trans k5;have m6:=(HB7.o.cell (p:=⟨gc,11,none⟩) hb5g).trans k6;have m7:=(HB7.o.cell (p:=⟨gc,12,none⟩) hb5g).trans k7;have n0:=(HB7.o.cell (p:=⟨q6,0,none⟩) hb5q).trans r0;have n1:=(HB7.o.cell (p:=⟨q6,1,none⟩) hb5q).trans r1;have n2:=(HB7.o.cell (p:=⟨q6,2,none⟩) hb5q).trans r2;have n3:=(HB7.o.cell (p:=⟨q6,3,none⟩) hb5q).trans r3;have n4:=(HB7.o.cell (p:=⟨q6,4,none⟩) hb5q).trans r4;have n5:=(HB7.o.cell (p:=⟨q6,5,none⟩) hb5q).trans r5;have n6:=(HB7.o.cell (p:=⟨q6,6,none⟩) hb5q).trans r6;have n7:=(HB7.o.cell (p:=⟨q6,7,none⟩) hb5q).trans r7;have n8:=(HB7.o.cell (p:=⟨q6,8,none⟩) hb5q).trans r8;clear hb7)|fail)
          all_goals (
           go_wp2_with fail
           go_meet
           exact⟨rfl,HB7.o⟩)
         case rest=>
          obtain⟨rfl,HB7⟩:=hcut
          obtain⟨w7,hw7⟩:∃ w7,w7=wc:=⟨_,rfl⟩
          rw[←hw7] at HB7
          rw[←hw7]
          clear hw7 k99 kd99 k0 k1 k2 k3 k4 k5 k6 k7 kd0 kd1 kd2 kd3 kd4 kd5 kd6 kd7 r0 r1 r2 r3 r4 r5 r6 r7 r8 rd0 rd1 rd2 rd3 rd4 rd5 rd6 rd7 rd8
          cases ib with
          | false=>
           rename_i K1 a1 K2 a2
           refine a2 _ _ ?_
           refine wp_cond_true rfl ?_
           have hg:=((HE3.o.step HFF.o HSS.o).below HB7.o).sents.cells.2.2.2.2.1
           have HCLI7:=zh ((HB7.o.block _ hb5g).trans HCLI.o)
           go_upto_region 23 with fail
           go_region
           all_goals (
            go_wp2
            have hb:Below w5.heap.size w5 w7.drew:=HB7.o.trans ((below_drew w7).mono HB7.o.size)
            refine upd_door (v:=.slice none 0 0) (y:=.iface 338 (.pointer (some (F 4)))) (cell_heap (w:=w7.drew) HCLI7.o 0 rfl) (frozen_heap (w:=w7.drew) HCLI7.o 0) rfl rfl ?_
            have hRe:R=((5,⟨#[]⟩),[],{ c with cache:=s2.cache },s2.net):=by
             rw[HR.o,HUD.o]
             try dsimp only
             rw[←HIB.o]
             rfl
            rw[hRe]
            obtain⟨qs',u1,u2,u3,u4⟩:=upd_fin HFRD.o HB3.o hg3 hmm3 (HX5.o.below hb) (HFF.o.trans (Fr.ofBelow hb)) HSS.o
            exact upd_end u1 u2 u3 u4 (World.ownsRow_nil _ _ _ _) (.inr (.inl ⟨4,by decide,by decide,rfl,rfl⟩)))
          | true=>
           rename_i K1 a1 K2 a2
           refine a2 _ _ ?_
           refine wp_cond_false rfl ?_
           have hq7:=HX5.o.below HB7.o
           have hcost:Cost (gatherT N (partR N 0 N c.size).reverse).length s0 s2:=by
            have:=gatherQ_costs N (partR N 0 N c.size).reverse s0
            rw[show gatherQ N (partR N 0 N c.size).reverse s0=(.ok l5,s2) from HR2.o] at this
            exact this
           have hln:x5.qs.length+x5.vs.length<1099511627775:=by
            have a1:s2.cache.items.length=x5.qs.length:=by rw[hq7.cache.items,List.length_map]
            have a2:s2.files.length=x5.vs.length:=by rw[hq7.files,List.length_map]
            have a3:=hcost.files
            have a4:=hcost.items
            have a5:s0.files.length=0:=by rw[HS0.o];rfl
            have a6:s0.cache.items.length=c.cache.items.length:=by rw[HS0.o];rfl
            have:=HA3.o
            omega
           have hre:=remember_any w7 _ x5 N s2 d hq7 hln
           have hkc:=kinds_cache hq7.cache
           have HRE:=zh hre
           have HKC:=zh hkc
           clear hq7 hcost hln hre hkc
           go_upto_region 25 with (first
            | (go_at_call 91;refine HRE.o.mono ?_;rintro e w9 ⟨rfl,qs9,hq9,hf9,hs9⟩;have HQ9:=zh hq9;have HF9:=zh hf9;have HS9:=zh hs9;clear hq9 hf9 hs9)
            | fail)
           have HTQ9:=zh (show TrAt w9 q6 N qh from heap_kept (HTQ.o.below HB7.o) HF9.o HKC.o (by decide))
           have hcli9:w9.heap[gc]?=some (.cells (cliC 1 (.iface 44 (.pointer (some ⟨gn,0,none⟩))) c.key c.size c.root gk) 177 (0,0)):=HQ9.o.cli
           have HCLI9:=zh hcli9
           have j99:w9.cell? ⟨gc,4,none⟩=some (.int .i64 c.size):=cell_heap HCLI9.o 4 rfl
           have j0:w9.cell? ⟨gc,5,none⟩=some (bv c.root[0]):=cell_heap HCLI9.o 5 rfl
           have j1:w9.cell? ⟨gc,6,none⟩=some (bv c.root[1]):=cell_heap HCLI9.o 6 rfl
           have j2:w9.cell? ⟨gc,7,none⟩=some (bv c.root[2]):=cell_heap HCLI9.o 7 rfl
           have j3:w9.cell? ⟨gc,8,none⟩=some (bv c.root[3]):=cell_heap HCLI9.o 8 rfl
           have j4:w9.cell? ⟨gc,9,none⟩=some (bv c.root[4]):=cell_heap HCLI9.o 9 rfl
           have j5:w9.cell? ⟨gc,10,none⟩=some (bv c.root[5]):=cell_heap HCLI9.o 10 rfl
           have j6:w9.cell? ⟨gc,11,none⟩=some (bv c.root[6]):=cell_heap HCLI9.o 11 rfl
           have j7:w9.cell? ⟨gc,12,none⟩=some (bv c.root[7]):=cell_heap HCLI9.o 12 rfl
           have jf:∀ i,w9.frozen? ⟨gc,i,none⟩=false:=fun i=>frozen_heap HCLI9.o i
           have jgc:=lt_of_heap HCLI9.o
           clear hcli9
           go_upto_region 26 with (first|(refine wpList_loadT rfl _ rfl _ rfl _ _ HTQ9.o ?_)|fail)
           go_wp2
           have hF8:Fr (QS (cQ gq gc gk mc gn gd mq vl vt v c) ⟨.slice none 0 0,qs,[]⟩) w3 w7:=HFF.o.trans (Fr.ofBelow HB7.o)
           obtain⟨qs',u1,u2,u3,u4⟩:=upd_fin (s:={ s2 with cache:=rememberQ s2.cache s2.files }) HFRD.o HB3.o hg3 hmm3 HQ9.o (Fr.sub hF8 (HF9.o.weak fun _ _ e=>.inr (.inl e)) HSS.o) (fun k hk=>by
            rcases hk with e|e|e
            ·exact HSS.o k (.inl e)
            ·rcases Nat.lt_or_ge k w7.heap.size with hlk|hge
             ·exact HSS.o k (.inr (.inl (HS9.o k hlk e)))
             ·exact .inr (Nat.le_trans hF8.size hge)
            ·exact HSS.o k (.inr (.inr e)))
           have hq:=cl_st9 u1 N qh
           refine upd_door (v:=v5) (y:=.nilIface) (cell_heap hq.cells 0 rfl) (frozen_heap hq.cells 0) rfl rfl ?_
           have hRe:R=(tFine,l5,{ c with size:=N,root:=qh,cache:=rememberQ s2.cache s2.files },s2.net):=by
            rw[HR.o,HUD.o]
            try dsimp only
            rw[←HIB.o]
            rfl
           rw[hRe]
           have hF:=cl_fr9 w9 gc N qh
           have hk:=kinds_one HCLI9.o
           exact upd_end hq (net_kept u2 hF hk (by decide) (by decide) (by decide)) (u3.step hF fun i hi e=>.inl (.inl e)) u4 (row_kept (ownsRow_mono (row_kept (ownsRow_below HV5.o HB7.o) HF9.o HKC.o (by decide)) HZ4.o) hF hk (by decide)) (.inl ⟨rfl,rfl⟩))))
end
end
end Go.Proofs.YtefccfakhgdfbabGreatDoor
