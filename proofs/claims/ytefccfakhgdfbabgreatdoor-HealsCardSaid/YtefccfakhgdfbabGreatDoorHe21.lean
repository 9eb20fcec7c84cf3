/- A publisher over a store, step by step, without a World: for Survives and Heals. Conditions: bounds as the statements claim them. -/
import Derived.Test.YtefccfakhgdfbabGreatDoorHe20
set_option linter.unusedVariables false
set_option linter.unusedSimpArgs false
open Go.RowKit Go.Proofs.Tryz
set_option maxRecDepth 100000
set_option maxHeartbeats 4000000
namespace Go.Proofs.YtefccfakhgdfbabGreatDoor
section
open Go.RowKit Go.MuLone
def UpdPost (F:Nat→Addr) (w:World) (gc gk mc gn gd:Nat) (vl vt:Value) (qs:List CEnt) (r:Tld×List Hsh×Cl×Nt) (e:Ending) (w':World):Prop:=
 ∃ v y,e=.returned (.tuple #[v,y])∧OwnHs w' w.heap.size v r.2.1∧ErrIs F w' w.heap.size r.1 y∧
  ∃ qs',ClM 0 w' gc gk mc (.iface 44 (.pointer (some ⟨gn,0,none⟩))) r.2.2.1 qs'∧NetIs w' gn gd vl vt r.2.2.2∧Fr (cnS gc gk mc gn vt qs) w w'∧Sub w (cnS gc gk mc gn vt qs) (cnS gc gk mc gn vt qs')
theorem upd_door {R:Ending→World→Prop} {T:Array Value} {W:World} {gc:Nat} {v y:Value} (h0:W.cell? ⟨gc,0,none⟩=some (.int .i32 1)) (h1:W.frozen? ⟨gc,0,none⟩=false) (hT2:T.getD 2 undef=v) (hT3:T.getD 3 undef=y)
  (hR:R (.returned (.tuple #[v,y])) (W.setCell ⟨gc,0,none⟩ (.int .i32 0))) :
  bodyPostD prog f42 R Exit.ret { tmps:=T,defers:=[{ target:=.fn (.func 84) #[],args:=#[.pointer (some ⟨gc,0,none⟩)] }] } W:=by
 refine leaves_cons (f:=84) (args:=#[.pointer (some ⟨gc,0,none⟩)]) (by simp) (by simp[go_sem]) ?_
 refine (unlock_deferred muLib ⟨gc,0,none⟩ .returning W h0 h1).mono ?_
 rintro e u' w'' ⟨rfl,rfl,rfl⟩
 simp only[Leaves,settle]
 refine⟨.tuple #[v,y],?_,hR⟩
 have a2:T[2]?.getD undef=v:=by simpa [Array.getD_eq_getD_getElem?] using hT2
 have a3:T[3]?.getD undef=y:=by simpa [Array.getD_eq_getD_getElem?] using hT3
 simp[results,results42,go_sem,a2,a3]
theorem upd_end {F:Nat→Addr} {w W:World} {gc gk mc gn gd:Nat} {vl vt v y:Value} {qs qs':List CEnt} {t:Tld} {l:List Hsh} {c':Cl} {n':Nt} (hc:ClM 1 W gc gk mc (.iface 44 (.pointer (some ⟨gn,0,none⟩))) c' qs') (hn:NetIs W gn gd vl vt n') (hf:Fr (cnS gc gk mc gn vt qs) w W) (hs:Sub w (cnS gc gk mc gn vt qs) (cnS gc gk mc gn vt qs'))
  (hv:OwnHs W w.heap.size v l) (he:ErrIs F W w.heap.size t y):UpdPost F w gc gk mc gn gd vl vt qs (t,l,c',n') (.returned (.tuple #[v,y])) (W.setCell ⟨gc,0,none⟩ (.int .i32 0)):=by
 have hF:=Fr.set1 W gc 0 (.int .i32 0)
 have hk:=kinds_one hc.cells
 refine⟨v,y,rfl,row_kept hv hF hk (by decide),he.fr hF fun k C fz hC=>kinds_not hk hC (by decide),qs',hc.turn 0,?_,hf.step hF fun i hi e=>.inl (.inl e),hs⟩
 exact net_kept hn hF hk (by decide) (by decide) (by decide)
theorem tr_fr9 (w:World) (g:Nat) (n:Int) (k:Hsh):Fr (·=g) w (((((((((w.setCell ⟨g,0,none⟩ (.int .i64 n)).setCell ⟨g,1,none⟩ (u8 k[0])).setCell ⟨g,2,none⟩ (u8 k[1])).setCell ⟨g,3,none⟩ (u8 k[2])).setCell ⟨g,4,none⟩ (u8 k[3])).setCell ⟨g,5,none⟩ (u8 k[4])).setCell ⟨g,6,none⟩ (u8 k[5])).setCell ⟨g,7,none⟩ (u8 k[6])).setCell ⟨g,8,none⟩ (u8 k[7])):=(((((((((Fr.set1 w g 0 (.int .i64 n)).set 1 (u8 k[0])).set 2 (u8 k[1])).set 3 (u8 k[2])).set 4 (u8 k[3])).set 5 (u8 k[4])).set 6 (u8 k[5])).set 7 (u8 k[6])).set 8 (u8 k[7]))
theorem tr_st9 {w:World} {g:Nat} (h:TrAt w g 0 zero8) (n:Int) (k:Hsh):TrAt (((((((((w.setCell ⟨g,0,none⟩ (.int .i64 n)).setCell ⟨g,1,none⟩ (u8 k[0])).setCell ⟨g,2,none⟩ (u8 k[1])).setCell ⟨g,3,none⟩ (u8 k[2])).setCell ⟨g,4,none⟩ (u8 k[3])).setCell ⟨g,5,none⟩ (u8 k[4])).setCell ⟨g,6,none⟩ (u8 k[5])).setCell ⟨g,7,none⟩ (u8 k[6])).setCell ⟨g,8,none⟩ (u8 k[7])) g n k:=
 (heap_setCell (i:=8) (heap_setCell (i:=7) (heap_setCell (i:=6) (heap_setCell (i:=5) (heap_setCell (i:=4) (heap_setCell (i:=3) (heap_setCell (i:=2) (heap_setCell (i:=1) (heap_setCell (i:=0) h (.int .i64 n)) (u8 k[0])) (u8 k[1])) (u8 k[2])) (u8 k[3])) (u8 k[4])) (u8 k[5])) (u8 k[6])) (u8 k[7])).trans (by simp[trC,bv])
theorem cl_fr9 (w:World) (g:Nat) (n:Int) (k:Hsh):Fr (·=g) w (((((((((w.setCell ⟨g,4,none⟩ (.int .i64 n)).setCell ⟨g,5,none⟩ (u8 k[0])).setCell ⟨g,6,none⟩ (u8 k[1])).setCell ⟨g,7,none⟩ (u8 k[2])).setCell ⟨g,8,none⟩ (u8 k[3])).setCell ⟨g,9,none⟩ (u8 k[4])).setCell ⟨g,10,none⟩ (u8 k[5])).setCell ⟨g,11,none⟩ (u8 k[6])).setCell ⟨g,12,none⟩ (u8 k[7])):=(((((((((Fr.set1 w g 4 (.int .i64 n)).set 5 (u8 k[0])).set 6 (u8 k[1])).set 7 (u8 k[2])).set 8 (u8 k[3])).set 9 (u8 k[4])).set 10 (u8 k[5])).set 11 (u8 k[6])).set 12 (u8 k[7]))
theorem cl_st9 {mu:Int} {w:World} {g gk mc:Nat} {vf:Value} {c:Cl} {qs:List CEnt} (h:ClM mu w g gk mc vf c qs) (n:Nat) (k:Hsh):ClM mu (((((((((w.setCell ⟨g,4,none⟩ (.int .i64 n)).setCell ⟨g,5,none⟩ (u8 k[0])).setCell ⟨g,6,none⟩ (u8 k[1])).setCell ⟨g,7,none⟩ (u8 k[2])).setCell ⟨g,8,none⟩ (u8 k[3])).setCell ⟨g,9,none⟩ (u8 k[4])).setCell ⟨g,10,none⟩ (u8 k[5])).setCell ⟨g,11,none⟩ (u8 k[6])).setCell ⟨g,12,none⟩ (u8 k[7])) g gk mc vf { c with size:=n,root:=k } qs:=
 ⟨(heap_setCell (i:=12) (heap_setCell (i:=11) (heap_setCell (i:=10) (heap_setCell (i:=9) (heap_setCell (i:=8) (heap_setCell (i:=7) (heap_setCell (i:=6) (heap_setCell (i:=5) (heap_setCell (i:=4) h.cells (.int .i64 n)) (u8 k[0])) (u8 k[1])) (u8 k[2])) (u8 k[3])) (u8 k[4])) (u8 k[5])) (u8 k[6])) (u8 k[7])).trans (by simp[bv]),h.cache.fr (cl_fr9 w g n k) (fun i hi e=>h.apart i hi e) h.noBytes⟩
theorem neq_hashU (w:World) (a b:Hsh):Sem.run prog (binOp .neq 109 (.agg (h8 a)) (.agg (h8 b))) w=.ok (Value.bool (!(some a == some b))) w:=by
 rw[run_neq_struct,eqn]
 rfl
theorem neq_lit (w:World) (a b:Hsh):Sem.run prog (binOp .neq 109 (.agg #[bv a[0],bv a[1],bv a[2],bv a[3],bv a[4],bv a[5],bv a[6],bv a[7]]) (.agg #[bv b[0],bv b[1],bv b[2],bv b[3],bv b[4],bv b[5],bv b[6],bv b[7]])) w=.ok (Value.bool (!decide (a=b))) w:=by
 have h:=neq_hashU w a b
 rw[h8_lit,h8_lit] at h
 rw[h]
 by_cases e:a=b
 ·simp[e]
 ·simp[e,beq_eq_false_iff_ne.2 e]
theorem ClM.netTurn {mu:Int} {w w':World} {gc gk mc gn gd:Nat} {vl vt vf:Value} {c:Cl} {qs:List CEnt} {n:Nt} (h:ClM mu w gc gk mc vf c qs) (hn:NetIs w gn gd vl vt n) (hf:Fr (netS gn vt) w w'):ClM mu w' gc gk mc vf c qs:=by
 have hk:=kinds_net hn
 refine⟨heap_kept h.cells hf hk (by decide),cache_kept h.cache hf hk ?_ (by decide) (by decide) (by decide)⟩
 obtain⟨D,⟨es,cl,hb,_⟩,_⟩:=h.cache.km.ex
 rintro (e|e)
 ·rw[e,hn.cells] at hb;cases hb
 ·obtain⟨C,hC⟩:=ownBlock_type hn.told e
  rw[hC] at hb;cases hb
theorem upd_fin {w wd w3 W:World} {gc gk mc gn gd gq mq N:Nat} {vl vt v:Value} {qs:List CEnt} {x:Qv} {c:Cl} {s:Cs} {d:Dk} (hF:Fr (cnS gc gk mc gn vt qs) w wd) (hb3:Below wd.heap.size wd w3) (hgq:wd.heap.size≤gq) (hmq:wd.heap.size≤mq)
  (h:QIs W (cQ gq gc gk mc gn gd mq vl vt v c) x N s d) (hf:Fr (QS (cQ gq gc gk mc gn gd mq vl vt v c) ⟨.slice none 0 0,qs,[]⟩) w3 W) (hs:Sub w3 (QS (cQ gq gc gk mc gn gd mq vl vt v c) ⟨.slice none 0 0,qs,[]⟩) (QS (cQ gq gc gk mc gn gd mq vl vt v c) x)) :
  ∃ qs',ClM 1 W gc gk mc (.iface 44 (.pointer (some ⟨gn,0,none⟩))) { c with cache:=s.cache } qs'∧NetIs W gn gd vl vt s.net∧Fr (cnS gc gk mc gn vt qs) w W∧Sub w (cnS gc gk mc gn vt qs) (cnS gc gk mc gn vt qs'):=by
 obtain⟨vo,qs',vs⟩:=x
 obtain⟨e1,e2,e3,e4⟩:=ask_end hgq hmq hb3 h hf hs
 exact⟨qs',e1,e2,hF.trans e3,fun k hk=>(e4 k hk).imp id fun e=>Nat.le_trans hF.size e⟩
def cvUpd:Op:=.convert 94 9 (.tmp 26)
theorem cvUpd_eq:Op.convert 94 9 (.tmp 26)=cvUpd:=rfl
section
attribute [local go_sem] cvUpd
theorem update_any (F:Nat→Addr) (w:World) (gc gk mc gn gd:Nat) (vl vt v:Value) (c:Cl) (qs:List CEnt) (n:Nt) (d:Dk) (h:ClIs w gc gk mc (.iface 44 (.pointer (some ⟨gn,0,none⟩))) c qs) (hn:NetIs w gn gd vl vt n) (hd:DiskAt w gd v d) (hdf:d.files=n.files) (hE:EnvS F (cnS gc gk mc gn vt qs) w)
  (hft:n.fetches<1152921504606000000) (hkey:c.key.size≤9223372036854775807) (hcs:∀ data,fetchA n (sOf kCp)=some data→data.length≤1048576) (hsz:c.size<9223372036854775808)
  (hask:∀ (data:List UInt8) (N:Nat),fetchA n (sOf kCp)=some data→(checkGo data c.key.data.toList).2.2=true→(checkGo data c.key.data.toList).1=(N:Int)→c.size<N→0<c.size→
   Bnd (askQ (fetchN n (sOf kCp)) c.cache) (gatherT N (partR N 0 N c.size).reverse).length∧(proofQ c.size N (askQ (fetchN n (sOf kCp)) c.cache)).1≠.error .panic∧c.cache.items.length+(gatherT N (partR N 0 N c.size).reverse).length<1099511627775) :
  Calls prog 42 #[.pointer (some ⟨gc,0,none⟩)] w (UpdPost F w gc gk mc gn gd vl vt qs (updateP c n)):=by
 obtain⟨R,hR⟩:∃ R,R=updateP c n:=⟨_,rfl⟩
 have hlt:=h.lt
 rw[←hR]
 have H:=zh h
 have HN:=zh hn
 have HD:=zh hd
 have HDF:=zh hdf
 have HE:=zh hE
 have HR:=zh hR
 have HCS:=zh hcs
 have HASK:=zh hask
 clear h hn hd hdf hE hR hcs hask
 go_enter_defers func42,ntmps42
 go_upto_region 3 with (first
  | (go_at_call 83;refine (lock_cl H.o).mono ?_;rintro e w1 ⟨rfl,h1,hf1,hz1⟩;have H1:=zh h1;have HF1:=zh hf1;have HZ1:=zh hz1;clear h1 hf1 hz1)
  | fail)
 have hn1:NetIs w1 gn gd vl vt n:=net_kept HN.o HF1.o (kinds_one H.o.cells) (by decide) (by decide) (by decide)
 have hd1:DiskAt w1 gd v d:=HD.o.kept HF1.o (kinds_one H.o.cells) (by decide) (by decide)
 have hfe:=cfetch0 w1 gc gn gd vl vt v n d (sOf kCp) (cell_heap H1.o.cells 2 rfl) hn1 hd1 HDF.o (by omega)
 have hcp:sOf kCp=⟨#[99,104,101,99,107,112,111,105,110,116]⟩:=by rfl
 have HFE:=zh hfe
 rw[hcp] at hfe
 have HFE2:=zh hfe
 have HN1:=zh hn1
 have HD1:=zh hd1
 clear hn1 hd1 hfe
 go_upto_region 4 with (first
  | (go_at_call 85;refine HFE2.o.mono ?_;intro e w2 h2;rw[←hcp] at h2;obtain⟨hn2,hf2,u2,y2,rfl,hy2⟩:=h2;have HN2:=zh hn2;have HF2:=zh hf2;have HY2:=zh hy2;clear hn2 hf2 hy2)
  | fail)
 clear hcp
 have hC2:ClM 1 w2 gc gk mc (.iface 44 (.pointer (some ⟨gn,0,none⟩))) c qs:=H1.o.netTurn HN1.o HF2.o
 have hFW:Fr (cnS gc gk mc gn vt qs) w w2:=(HF1.o.weak fun _ _ e=>.inl (.inl e)).trans (HF2.o.weak fun _ _ e=>.inr e)
 have hE2:EnvS F (cnS gc gk mc gn vt qs) w2:=HE.o.fr hFW
 have hY2:=HY2.o
 have HC2:=zh hC2
 have HFW:=zh hFW
 have HE2:=zh hE2
 clear hC2 hFW hE2 HY2
 rcases hY2 with ⟨data,hfd,rfl,hob,a,k,cc,rfl⟩|⟨hfn,⟨q9,rfl⟩,a,k,cc,rfl⟩
 rotate_left
 ·have HFN:=zh hfn
  have hg:=HE2.o.sents.cells.2.2.1
  clear hfn
  go_wp2
  go_region
  all_goals (
   go_wp2
   refine upd_door (v:=.slice none 0 0) (y:=.iface 338 (.pointer (some (F 2)))) (cell_heap (w:=w2.drew) HC2.o.cells 0 rfl) (frozen_heap (w:=w2.drew) HC2.o.cells 0) rfl rfl ?_
   have hRe:R=((3,⟨#[]⟩),[],c,fetchN n (sOf kCp)):=by
    rw[HR.o]
    unfold updateP
    rw[HFN.o]
   rw[hRe]
   exact upd_end (HC2.o.below (below_drew w2)) (HN2.o.below (below_drew w2)) HFW.o.drew (Sub.refl _ _) (World.ownsRow_nil _ _ _ _) (.inr (.inl ⟨2,by decide,by decide,rfl,rfl⟩)))
 obtain⟨q,hq⟩:∃ q,q=checkGo data c.key.data.toList:=⟨_,rfl⟩
 have hlen:=HCS.o data hfd
 have hsnd:=checkGo_sound data c.key.data.toList
 rw[←hq] at hsnd
 have hcv:∀ W,Below w2.heap.size w2 W→Sem.run prog (convert 94 9 (.slice a k cc)) W=.ok (.string (sOf data)) W:=fun W hW=>run_bs (hob.at.below hW)
 have hcon:∀ W,Below w2.heap.size w2 W→Calls prog 67 #[.string (sOf data),.string c.key] W (fcheckPost q W):=fun W hW=>by
  have h1:=fcheck_any (sOf data) c.key W (by rw[sOf_size];exact hlen) hkey (HE2.o.below hW).num
  rw[show (sOf data).data.toList=data by simp[sOf],←hq] at h1
  exact h1
 obtain⟨qn,qh,qb⟩:=q
 have hcd:=hcv w2.drew (below_drew w2)
 have HFD:=zh hfd
 have HQ:=zh hq
 have HSND:=zh hsnd
 have HCON:=zh hcon
 have HCV:=zh hcv
 clear hfd hob hq hlen hsnd hcon hcv
 go_upto_region 6 with fail
 go_cut [6,7] from 25 to 34 (fun s6 s7 wx=>∃ q6,s6=.pointer (some ⟨q6,0,none⟩)∧s7=.bool qb∧Aside (TrAt wx q6 qn qh)∧Aside (Below w2.heap.size w2 wx)∧w2.heap.size≤q6)
 case first=>
  have hgc2:gc<w2.heap.size:=HC2.o.lt
  have hne1:¬ gc=w2.heap.size:=by omega
  have k1:w2.cell? ⟨gc,3,none⟩=some (.string c.key):=cell_heap HC2.o.cells 3 rfl
  have k1d:w2.drew.cell? ⟨gc,3,none⟩=some (.string c.key):=k1
  have ka1:(w2.alloc (.cells #[.int .i64 0,.int .u8 0,.int .u8 0,.int .u8 0,.int .u8 0,.int .u8 0,.int .u8 0,.int .u8 0,.int .u8 0] 111)).drew.cell? ⟨gc,3,none⟩=some (.string c.key):=((below_alloc w2 _).cell (p:=⟨gc,3,none⟩) hgc2).trans k1
  have hca:=HCV.o (w2.alloc (.cells #[.int .i64 0,.int .u8 0,.int .u8 0,.int .u8 0,.int .u8 0,.int .u8 0,.int .u8 0,.int .u8 0,.int .u8 0] 111)).drew ((below_alloc w2 _).drew)
  rw[cvUpd_eq]
  go_region_held3 (fun w'=>w'.cell? ⟨gc,3,none⟩=some (.string c.key)) (first|(with_reducible first|exact k1d|exact m1|exact ka1|exact mz1|exact (tr_fr9 w7 _ _ _).cell m1 hne1)|exact ((below_alloc w7 _).cell (p:=⟨gc,3,none⟩) mb1).trans m1|fail) (first|(go_at_call 67;refine (HCON.o _ (below_drew w2)).mono ?_;rintro e w7 ⟨rfl,hb7⟩;have HB7:=zh (show Below w2.heap.size w2 w7 from (below_drew w2).trans hb7);have m1:=(HB7.o.cell (p:=⟨gc,3,none⟩) hgc2).trans k1;have mb1:=Nat.lt_of_lt_of_le hgc2 HB7.o.size;have mz1:(w7.alloc (.cells #[.int .i64 0,.int .u8 0,.int .u8 0,.int .u8 0,.int .u8 0,.int .u8 0,.int .u8 0,.int .u8 0,.int .u8 0] 111)).cell? ⟨gc,3,none⟩=some (.string c.key):=((below_alloc w7 _).cell (p:=⟨gc,3,none⟩) mb1).trans m1;clear hb7)|(go_at_call 67;refine (HCON.o _ ((below_drew w2).alloc (Nat.le_refl _) _)).mono ?_;rintro e w7 ⟨rfl,hb7⟩;have HB7:=zh (show Below w2.heap.size w2 w7 from ((below_drew w2).alloc (Nat.le_refl _) _).trans (hb7.mono (by simp)));have m1:=(HB7.o.cell (p:=⟨gc,3,none⟩) hgc2).trans k1;have mb1:=Nat.lt_of_lt_of_le hgc2 HB7.o.size;have mz1:(w7.alloc (.cells #[.int .i64 0,.int .u8 0,.int .u8 0,.int .u8 0,.int .u8 0,.int .u8 0,.int .u8 0,.int .u8 0,.int .u8 0] 111)).cell? ⟨gc,3,none⟩=some (.string c.key):=((below_alloc w7 _).cell (p:=⟨gc,3,none⟩) mb1).trans m1;have HT7:=zh (TrAt.below (show TrAt (w2.drew.alloc (.cells (trC 0 zero8) 111)) w2.heap.size 0 zero8 from heap_alloc_new w2.drew _) hb7);have ⟨n0,n1,n2,n3,n4,n5,n6,n7,n8⟩:=HT7.o.cells;have nf:=(fun i=>frozen_heap HT7.o i:∀ i,w7.frozen? ⟨w2.heap.size,i,none⟩=false);have nb:=lt_of_heap HT7.o;clear hb7)|fail)
  all_goals (
   go_wp2_with fail
   go_meet
   show ∃ q6,_∧_∧Aside (TrAt _ q6 qn qh)∧Aside (Below w2.heap.size w2 _)∧w2.heap.size≤q6
   first
    | (
      refine⟨w7.heap.size,rfl,rfl,?_,?_,HB7.o.size⟩
      ·show TrAt _ _ _ _
       exact heap_alloc_new w7 _
      ·show Below _ _ _
       exact HB7.o.alloc HB7.o.size _)
    | (
      refine⟨w2.heap.size,rfl,rfl,?_,?_,Nat.le_refl _⟩
      ·show TrAt _ _ _ _
       exact tr_st9 HT7.o qn qh
      ·show Below _ _ _
       exact HB7.o.trans ((tr_fr9 w7 w2.heap.size qn qh).below HB7.o.size fun k hk e=>by omega)))
 case rest=>
  obtain⟨q6,rfl,rfl,HT6,HB6,hq6⟩:=hcut
  have HC6:=zh (HC2.o.below HB6.o)
  have HE6:=zh (HE2.o.below HB6.o)
  have ht0:=HT6.o.cells.1
  have hc4:wc.cell? ⟨gc,4,none⟩=some (.int .i64 c.size):=cell_heap HC6.o.cells 4 rfl
  obtain⟨_,_,g2,g3,g4,_,_⟩:=HE6.o.sents.cells
  cases qb with
  | false=>
   go_wp2
   go_region
   all_goals (
    go_wp2
    refine upd_door (v:=.slice none 0 0) (y:=.iface 338 (.pointer (some (F 2)))) (cell_heap (w:=wc.drew) HC6.o.cells 0 rfl) (frozen_heap (w:=wc.drew) HC6.o.cells 0) rfl rfl ?_
    have hRe:R=((3,⟨#[]⟩),[],c,fetchN n (sOf kCp)):=by
     rw[HR.o]
     unfold updateP
     rw[HFD.o]
     dsimp only
     rw[←HQ.o]
     rfl
    rw[hRe]
    exact upd_end (HC6.o.below (below_drew wc)) ((HN2.o.below HB6.o).below (below_drew wc)) ((HFW.o.trans (Fr.ofBelow HB6.o)).drew) (Sub.refl _ _) (World.ownsRow_nil _ _ _ _) (.inr (.inl ⟨2,by decide,by decide,rfl,rfl⟩)))
  | true=>
   obtain⟨p1,p2,_⟩:=HSND.o.1 rfl
   dsimp only at p1 p2
   obtain⟨N,rfl⟩:∃ N:Nat,qn=N:=⟨qn.toNat,by omega⟩
   have hUP:updateP c n=(if N<c.size then ((4,⟨#[]⟩),[],c,fetchN n (sOf kCp)) else
     if N=c.size then (if qh=c.root then (tFine,[],c,fetchN n (sOf kCp)) else ((5,⟨#[]⟩),[],c,fetchN n (sOf kCp))) else
     if c.size=0 then (tFine,[],{ c with size:=N,root:=qh },fetchN n (sOf kCp)) else
     match proofQ c.size N (askQ (fetchN n (sOf kCp)) c.cache) with
     | (.error (.miss p),s)=>((6,p),[],{ c with cache:=s.cache },s.net)
     | (.error .panic,s)=>((99,⟨#[]⟩),[],{ c with cache:=s.cache },s.net)
     | (.ok l,s)=>if consistent c.size N c.root qh l=true then (tFine,l,{ c with size:=N,root:=qh,cache:=rememberQ s.cache s.files },s.net) else ((5,⟨#[]⟩),[],{ c with cache:=s.cache },s.net)):=by
    unfold updateP
    rw[HFD.o]
    dsimp only
    rw[←HQ.o]
    dsimp only
    rw[if_neg (by decide),Int.toNat_natCast]
    rfl
   have HUP:=zh hUP
   have hask:=fun h1 h2=>HASK.o data N HFD.o (by rw[←HQ.o]) (by rw[←HQ.o]) h1 h2
   have HAS:=zh hask
   clear hUP hask HASK
   rcases Nat.lt_trichotomy N c.size with hl|hl|hl
   ·have hli:(N:Int)<(c.size:Int):=by omega
    have HLN:=zh hl
    clear hl
    go_upto_region 9 with fail
    go_region
    all_goals (
     go_wp2
     go_region
     all_goals (
      go_wp2
      have hb:Below wc.heap.size wc wc.drew.drew:=(below_drew wc).drew
      refine upd_door (v:=.slice none 0 0) (y:=.iface 338 (.pointer (some (F 3)))) (cell_heap (w:=wc.drew.drew) HC6.o.cells 0 rfl) (frozen_heap (w:=wc.drew.drew) HC6.o.cells 0) rfl rfl ?_
      have hRe:R=((4,⟨#[]⟩),[],c,fetchN n (sOf kCp)):=by rw[HR.o,HUP.o,if_pos HLN.o]
      rw[hRe]
      exact upd_end (HC6.o.below hb) ((HN2.o.below HB6.o).below hb) (HFW.o.trans (Fr.ofBelow (HB6.o.trans (hb.mono HB6.o.size)))) (Sub.refl _ _) (World.ownsRow_nil _ _ _ _) (.inr (.inl ⟨3,by decide,by decide,rfl,rfl⟩))))
   ·have hc4N:wc.cell? ⟨gc,4,none⟩=some (.int .i64 N):=by rw[hl];exact hc4
    have HLN:=zh hl
    obtain⟨_,t1,t2,t3,t4,t5,t6,t7,t8⟩:=HT6.o.cells
    have k0:wc.cell? ⟨gc,5,none⟩=some (bv c.root[0]):=cell_heap HC6.o.cells 5 rfl
    have k1:wc.cell? ⟨gc,6,none⟩=some (bv c.root[1]):=cell_heap HC6.o.cells 6 rfl
    have k2:wc.cell? ⟨gc,7,none⟩=some (bv c.root[2]):=cell_heap HC6.o.cells 7 rfl
    have k3:wc.cell? ⟨gc,8,none⟩=some (bv c.root[3]):=cell_heap HC6.o.cells 8 rfl
    have k4:wc.cell? ⟨gc,9,none⟩=some (bv c.root[4]):=cell_heap HC6.o.cells 9 rfl
    have k5:wc.cell? ⟨gc,10,none⟩=some (bv c.root[5]):=cell_heap HC6.o.cells 10 rfl
    have k6:wc.cell? ⟨gc,11,none⟩=some (bv c.root[6]):=cell_heap HC6.o.cells 11 rfl
    have k7:wc.cell? ⟨gc,12,none⟩=some (bv c.root[7]):=cell_heap HC6.o.cells 12 rfl
    have hnq:=fun W=>neq_lit W qh c.root
    obtain⟨eb,heb⟩:∃ eb,eb=decide (qh=c.root):=⟨_,rfl⟩
    rw[←heb] at hnq
    have HEB:=zh heb
    clear hl hc4 heb
    go_upto_region 9 with fail
    go_region
    all_goals (
     go_upto_region 11 with fail
     cases eb with
     | false=>
      go_quiet (fail)
      go_wp2
      go_region
      all_goals (
       go_wp2
       have hb:Below wc.heap.size wc (wc.drewN (1+nq+1)):=below_drewN (Below.refl _ _) _
       refine upd_door (v:=.slice none 0 0) (y:=.iface 338 (.pointer (some (F 4)))) (cell_heap (w:=wc.drewN (1+nq+1)) HC6.o.cells 0 rfl) (frozen_heap (w:=wc.drewN (1+nq+1)) HC6.o.cells 0) rfl rfl ?_
       have hRe:R=((5,⟨#[]⟩),[],c,fetchN n (sOf kCp)):=by
        rw[HR.o,HUP.o,if_neg (by rw[HLN.o];exact Nat.lt_irrefl _),if_pos HLN.o,if_neg (of_decide_eq_false HEB.o.symm)]
       rw[hRe]
       exact upd_end (HC6.o.below hb) ((HN2.o.below HB6.o).below hb) (HFW.o.trans (Fr.ofBelow (HB6.o.trans (hb.mono HB6.o.size)))) (Sub.refl _ _) (World.ownsRow_nil _ _ _ _) (.inr (.inl ⟨4,by decide,by decide,rfl,rfl⟩)))
     | true=>
      go_quiet (fail)
      go_wp2
      go_region
      all_goals (
       try go_wp2
       have hb:Below wc.heap.size wc (wc.drewN (1+nq+1)):=below_drewN (Below.refl _ _) _
       refine upd_door (v:=.slice none 0 0) (y:=.nilIface) (cell_heap (w:=wc.drewN (1+nq+1)) HC6.o.cells 0 rfl) (frozen_heap (w:=wc.drewN (1+nq+1)) HC6.o.cells 0) rfl rfl ?_
       have hRe:R=(tFine,[],c,fetchN n (sOf kCp)):=by
        rw[HR.o,HUP.o,if_neg (by rw[HLN.o];exact Nat.lt_irrefl _),if_pos HLN.o,if_pos (of_decide_eq_true HEB.o.symm)]
       rw[hRe]
       exact upd_end (HC6.o.below hb) ((HN2.o.below HB6.o).below hb) (HFW.o.trans (Fr.ofBelow (HB6.o.trans (hb.mono HB6.o.size)))) (Sub.refl _ _) (World.ownsRow_nil _ _ _ _) (.inl ⟨rfl,rfl⟩)))
   ·have hlt1:¬ (N:Int)<(c.size:Int):=by omega
    have hne1:((N:Int) == (c.size:Int))=false:=by rw[beq_eq_false_iff_ne];omega
    have HLN:=zh hl
    have hN63:N<9223372036854775808:=by omega
    clear hl
    go_upto_region 9 with fail
    go_region
    all_goals (
     go_upto_region 11 with fail
     go_quiet (fail)
     go_upto_region 13 with fail
     go_region
     all_goals (
      go_upto_region 15 with fail
      obtain⟨wd,hwd⟩:∃ wd,wd=wc.drewN (1+nq+1):=⟨_,rfl⟩
      have hbd:Below wc.heap.size wc wd:=by rw[hwd];exact below_drewN (Below.refl _ _) _
      have HBD:=zh hbd
      rw[←hwd]
      clear hwd hbd hc4 ht0 hne1 hlt1 g2 g3 g4
      have HCD:=zh (HC6.o.below HBD.o)
      have HTD:=zh (HT6.o.below HBD.o)
      have d4:wd.cell? ⟨gc,4,none⟩=some (.int .i64 c.size):=cell_heap HCD.o.cells 4 rfl
      obtain⟨t0,t1,t2,t3,t4,t5,t6,t7,t8⟩:=HTD.o.cells
      rcases Nat.eq_zero_or_pos c.size with hz|hz
      ·have hz2:(c.size:Int)=0:=by omega
       rw[hz2] at d4
       have HZ:=zh hz
       clear hz hz2
       have k0:wd.cell? ⟨gc,5,none⟩=some (bv c.root[0]):=cell_heap HCD.o.cells 5 rfl
       have k1:wd.cell? ⟨gc,6,none⟩=some (bv c.root[1]):=cell_heap HCD.o.cells 6 rfl
       have k2:wd.cell? ⟨gc,7,none⟩=some (bv c.root[2]):=cell_heap HCD.o.cells 7 rfl
       have k3:wd.cell? ⟨gc,8,none⟩=some (bv c.root[3]):=cell_heap HCD.o.cells 8 rfl
       have k4:wd.cell? ⟨gc,9,none⟩=some (bv c.root[4]):=cell_heap HCD.o.cells 9 rfl
       have k5:wd.cell? ⟨gc,10,none⟩=some (bv c.root[5]):=cell_heap HCD.o.cells 10 rfl
       have k6:wd.cell? ⟨gc,11,none⟩=some (bv c.root[6]):=cell_heap HCD.o.cells 11 rfl
       have k7:wd.cell? ⟨gc,12,none⟩=some (bv c.root[7]):=cell_heap HCD.o.cells 12 rfl
       have kf:∀ i,wd.frozen? ⟨gc,i,none⟩=false:=fun i=>frozen_heap HCD.o.cells i
       have kgc:=lt_of_heap HCD.o.cells
       go_upto_region 16 with fail
       go_upto_region 17 with (first|(refine wpList_loadT rfl _ rfl _ rfl _ _ HTD.o ?_)|fail)
       go_wp2
       have hq:=cl_st9 HCD.o N qh
       refine upd_door (v:=.slice none 0 0) (y:=.nilIface) (cell_heap hq.cells 0 rfl) (frozen_heap hq.cells 0) rfl rfl ?_
       have hRe:R=(tFine,[],{ c with size:=N,root:=qh },fetchN n (sOf kCp)):=by
        rw[HR.o,HUP.o,if_neg (by have:=HLN.o;omega),if_neg (by have:=HLN.o;omega),if_pos HZ.o]
       rw[hRe]
       have hF:=cl_fr9 wd gc N qh
       have hk:=kinds_one HCD.o.cells
       exact upd_end hq (net_kept ((HN2.o.below HB6.o).below HBD.o) hF hk (by decide) (by decide) (by decide)) ((HFW.o.trans (Fr.ofBelow (HB6.o.trans (HBD.o.mono HB6.o.size)))).step hF fun i hi e=>.inl (.inl e)) (Sub.refl _ _) (World.ownsRow_nil _ _ _ _) (.inl ⟨rfl,rfl⟩)
      ·have hzb:((c.size:Int) == 0)=false:=by rw[beq_eq_false_iff_ne];omega
       obtain⟨n1,hn1⟩:∃ n1,n1=fetchN n (sOf kCp):=⟨_,rfl⟩
       have hdf1:d.files=n1.files:=by rw[hn1,(fetchN_same n (sOf kCp)).2.1];exact HDF.o
       obtain⟨ha1,ha2,ha3⟩:=HAS.o HLN.o hz
       have hnd:NetIs wd gn gd vl vt n1:=by rw[hn1];exact (HN2.o.below HB6.o).below HBD.o
       have hdd:DiskAt wd gd v d:=((HD1.o.kept HF2.o (kinds_net HN1.o) (by decide) (by decide)).below HB6.o).below HBD.o
       have hed:EnvS F (cnS gc gk mc gn vt qs) wd:=HE6.o.below HBD.o
       have hud:=HUP.o
       rw[if_neg (by have:=HLN.o;omega),if_neg (by have:=HLN.o;omega),if_neg (by omega)] at hud
       rw[←hn1] at hud ha1 ha2
       obtain⟨s0,hs0⟩:∃ s,s=askQ n1 c.cache:=⟨_,rfl⟩
       rw[←hs0] at hud ha1 ha2
       obtain⟨o2,s2,hr2⟩:∃ o s,proofQ c.size N s0=(o,s):=⟨_,_,rfl⟩
       rw[hr2] at hud ha2
       have hfrd:Fr (cnS gc gk mc gn vt qs) w wd:=HFW.o.trans (Fr.ofBelow (HB6.o.trans (HBD.o.mono HB6.o.size)))
       have HFRD:=zh hfrd
       have HZ:=zh hz
       have HUD:=zh hud
       have HA1:=zh ha1
       have HA2:=zh ha2
       have HA3:=zh ha3
       have HND:=zh hnd
       have HDD:=zh hdd
       have HED:=zh hed
       have HDF1:=zh hdf1
       have HS0:=zh hs0
       have HR2:=zh hr2
       clear hz ha1 ha2 ha3 hnd hdd hed hud hs0 hr2 hdf1 hn1 hfrd t1 t2 t3 t4 t5 t6 t7 t8
       go_upto_region 19 with (first
        | (go_at_call 86;refine (look_any wd gc N).mono ?_;rintro e w3 ⟨gq,mq,rfl,hq3,hm3,hb3,hg3,hmm3⟩;have HQ3:=zh hq3;have HM3:=zh hm3;have HB3:=zh hb3;clear hq3 hm3 hb3)
        | fail)
       have hq0:=ask_is (N:=N) HCD.o HND.o HDD.o HDF1.o (fun z hz=>by cases hz) HB3.o HQ3.o HM3.o hmm3
       rw[←HS0.o] at hq0
       have hE3:EnvS F (QS (cQ gq gc gk mc gn gd mq vl vt v c) ⟨.slice none 0 0,qs,[]⟩) w3:=HED.o.step (Fr.ofBelow HB3.o) fun k hk=>by
        rcases Nat.lt_or_ge k wd.heap.size with hlk|hge
        ·exact .inl (ask_sub hg3 hmm3 hlk hk)
        ·exact .inr hge
       have hpr:=fun W hW g1 g3 hc=>qproof_any F W (cQ gq gc gk mc gn gd mq vl vt v c) ⟨.slice none 0 0,qs,[]⟩ N s0 d (hq0.below hW) (hE3.below hW) g1 g3 hc c.size N HZ.o (Nat.le_of_lt HLN.o) (Nat.le_refl _) hN63 HA1.o (by show (proofQ c.size N s0).1≠_;rw[HR2.o];exact HA2.o)
       rw[show gatherQ N (partR N 0 N c.size).reverse s0=(o2,s2) from HR2.o] at hpr
       have hwh:=fun W hW=>mwholeQ_any W (cQ gq gc gk mc gn gd mq vl vt v c) ⟨.slice none 0 0,qs,[]⟩ N s0 d (hq0.below hW)
       have hT3:=HTD.o.below HB3.o
       have k99:w3.cell? ⟨gc,4,none⟩=some (.int .i64 c.size):=cell_heap (HCD.o.below HB3.o).cells 4 rfl
       have kd99:w3.drew.cell? ⟨gc,4,none⟩=some (.int .i64 c.size):=k99
       have r0:w3.cell? ⟨q6,0,none⟩=some (.int .i64 N):=hT3.cells.1
       have rd0:w3.drew.cell? ⟨q6,0,none⟩=some (.int .i64 N):=r0
       have hb3g:gc<w3.heap.size:=lt_of_heap (HCD.o.below HB3.o).cells
       have hb3q:q6<w3.heap.size:=lt_of_heap hT3
       have HQ0:=zh hq0
       have HE3:=zh hE3
       have HPR:=zh hpr
       have HWH:=zh hwh
       have HT3:=zh hT3
       clear hq0 hE3 hpr hwh hT3
       go_region_held3 (fun w'=>w'.cell? ⟨gc,4,none⟩=some (.int .i64 c.size)∧w'.cell? ⟨q6,0,none⟩=some (.int .i64 N)) (first|with_reducible exact⟨k99,r0⟩|with_reducible exact⟨kd99,rd0⟩|with_reducible exact⟨m99,n0⟩|with_reducible exact⟨e99,f0⟩|fail) (first
        | (go_at_call 88;refine (HWH.o _ (below_drew w3)).mono ?_;rintro e w4 ⟨g1,g3,rfl,hc4,hb4⟩;have HC4:=zh hc4;have HB4:=zh (show Below w3.heap.size w3 w4 from (below_drew w3).trans hb4);have m99:=(HB4.o.cell (p:=⟨gc,4,none⟩) hb3g).trans k99;have n0:=(HB4.o.cell (p:=⟨q6,0,none⟩) hb3q).trans r0;clear hc4 hb4)
        | (go_at_call 87;refine (HPR.o w4 HB4.o g1 g3 HC4.o).mono ?_;intro e w5 h5;obtain⟨v5,y5,rfl,⟨x5,hx5,hf5,hs5⟩,hy5⟩:=gath_two h5;have HX5:=zh hx5;have HF5:=zh hf5;have HS5:=zh hs5;have HY5:=zh hy5;have HTQ:=zh (show TrAt w5 q6 N qh from heap_kept (HT3.o.below HB4.o) hf5 (kinds_QS (HQ0.o.below HB4.o)) (by decide));have e99:w5.cell? ⟨gc,4,none⟩=some (.int .i64 c.size):=cell_heap hx5.cli 4 rfl;have f0:w5.cell? ⟨q6,0,none⟩=some (.int .i64 N):=HTQ.o.cells.1;clear h5 hx5 hf5 hs5 hy5)
        | fail)
       all_goals (
        have hF5:Fr (QS (cQ gq gc gk mc gn gd mq vl vt v c) ⟨.slice none 0 0,qs,[]⟩) w3 w5:=(Fr.ofBelow HB4.o).trans HF5.o
        have hS5:Sub w3 (QS (cQ gq gc gk mc gn gd mq vl vt v c) ⟨.slice none 0 0,qs,[]⟩) (QS (cQ gq gc gk mc gn gd mq vl vt v c) x5):=HS5.o.mono HB4.o.size
        have hcli:w5.heap[gc]?=some (.cells (cliC 1 (.iface 44 (.pointer (some ⟨gn,0,none⟩))) c.key c.size c.root gk) 177 (0,0)):=HX5.o.cli
        have hz4:w.heap.size≤w4.heap.size:=Nat.le_trans HFRD.o.size (Nat.le_trans HB3.o.size HB4.o.size)
        have hY5:=HY5.o
        have HFF:=zh hF5
        have HSS:=zh hS5
        have HCLI:=zh hcli
        have HZ4:=zh hz4
        clear hF5 hS5 hcli hz4 HY5 e99 f0
        rcases hY5 with ⟨l5,hol,rfl,hv5⟩|⟨p,hop,rfl,⟨ge,rfl⟩,hme⟩
        rotate_left
        ·have HOP:=zh hop
         have HME:=zh hme
         clear hop hme
         go_wp2
         refine upd_door (v:=.slice none 0 0) (y:=.iface 153 (.pointer (some ⟨ge,0,none⟩))) (cell_heap HCLI.o 0 rfl) (frozen_heap HCLI.o 0) rfl rfl ?_
         have hRe:R=((6,p),[],{ c with cache:=s2.cache },s2.net):=by
          have hop2:o2=.error (.miss p):=HOP.o
          rw[HR.o,HUD.o,hop2]
         rw[hRe]
         obtain⟨qs',u1,u2,u3,u4⟩:=upd_fin HFRD.o HB3.o hg3 hmm3 HX5.o HFF.o HSS.o
         exact upd_end u1 u2 u3 u4 (World.ownsRow_nil _ _ _ _) (.inr (.inr ⟨p,rfl,MissErr.low HME.o HZ4.o⟩))
        ·have hol:o2=.ok l5:=hol
         subst hol
         have hpl:l5.length≤1048576:=by
          have e:=gatherQ_len N (partR N 0 N c.size).reverse s0 s2 l5 HR2.o
          have:=partR_len N 63 0 N c.size (by omega) (Nat.le_refl _) HZ.o
          rw[e,List.length_reverse]
          omega
         have hco:∀ W,Below w5.heap.size w5 W→Calls prog 90 #[.int .i64 c.size,.int .i64 N,.agg #[bv c.root[0],bv c.root[1],bv c.root[2],bv c.root[3],bv c.root[4],bv c.root[5],bv c.root[6],bv c.root[7]],.agg #[bv qh[0],bv qh[1],bv qh[2],bv qh[3],bv qh[4],bv qh[5],bv qh[6],bv qh[7]],v5] W fun e w'=>e=.returned (.bool (consistent c.size N c.root qh l5))∧Below W.heap.size W w':=fun W hW=>by
          have:=mconsistent_any l5 c.root qh c.size N v5 W (OwnHs.at (ownsRow_below hv5 hW)) (by omega) (by omega) hpl
          rw[h8_lit,h8_lit] at this
          exact this
         obtain⟨ib,hib⟩:∃ x,x=consistent c.size N c.root qh l5:=⟨_,rfl⟩
         rw[←hib] at hco
         have k99:w5.cell? ⟨gc,4,none⟩=some (.int .i64 c.size):=cell_heap HCLI.o 4 rfl
         have kd99:w5.drew.cell? ⟨gc,4,none⟩=some (.int .i64 c.size):=k99
         have k0:w5.cell? ⟨gc,5,none⟩=some (bv c.root[0]):=cell_heap HCLI.o 5 rfl
         have k1:w5.cell? ⟨gc,6,none⟩=some (bv c.root[1]):=cell_heap HCLI.o 6 rfl
         have k2:w5.cell? ⟨gc,7,none⟩=some (bv c.root[2]):=cell_heap HCLI.o 7 rfl
         have k3:w5.cell? ⟨gc,8,none⟩=some (bv c.root[3]):=cell_heap HCLI.o 8 rfl
         have k4:w5.cell? ⟨gc,9,none⟩=some (bv c.root[4]):=cell_heap HCLI.o 9 rfl
         have k5:w5.cell? ⟨gc,10,none⟩=some (bv c.root[5]):=cell_heap HCLI.o 10 rfl
         have k6:w5.cell? ⟨gc,11,none⟩=some (bv c.root[6]):=cell_heap HCLI.o 11 rfl
         have k7:w5.cell? ⟨gc,12,none⟩=some (bv c.root[7]):=cell_heap HCLI.o 12 rfl
         have kd0:w5.drew.cell? ⟨gc,5,none⟩=some (bv c.root[0]):=k0
         have kd1:w5.drew.cell? ⟨gc,6,none⟩=some (bv c.root[1]):=k1
         have kd2:w5.drew.cell? ⟨gc,7,none⟩=some (bv c.root[2]):=k2
         have kd3:w5.drew.cell? ⟨gc,8,none⟩=some (bv c.root[3]):=k3
         have kd4:w5.drew.cell? ⟨gc,9,none⟩=some (bv c.root[4]):=k4
         have kd5:w5.drew.cell? ⟨gc,10,none⟩=some (bv c.root[5]):=k5
         have kd6:w5.drew.cell? ⟨gc,11,none⟩=some (bv c.root[6]):=k6
         have kd7:w5.drew.cell? ⟨gc,12,none⟩=some (bv c.root[7]):=k7
         obtain⟨r0,r1,r2,r3,r4,r5,r6,r7,r8⟩:=HTQ.o.cells
         have rd0:w5.drew.cell? ⟨q6,0,none⟩=some (.int .i64 N):=r0
         have rd1:w5.drew.cell? ⟨q6,1,none⟩=some (bv qh[0]):=r1
         have rd2:w5.drew.cell? ⟨q6,2,none⟩=some (bv qh[1]):=r2
         have rd3:w5.drew.cell? ⟨q6,3,none⟩=some (bv qh[2]):=r3
         have rd4:w5.drew.cell? ⟨q6,4,none⟩=some (bv qh[3]):=r4
         have rd5:w5.drew.cell? ⟨q6,5,none⟩=some (bv qh[4]):=r5
         have rd6:w5.drew.cell? ⟨q6,6,none⟩=some (bv qh[5]):=r6
         have rd7:w5.drew.cell? ⟨q6,7,none⟩=some (bv qh[6]):=r7
         have rd8:w5.drew.cell? ⟨q6,8,none⟩=some (bv qh[7]):=r8
         have hb5g:gc<w5.heap.size:=lt_of_heap HCLI.o
         have hb5q:q6<w5.heap.size:=lt_of_heap HTQ.o
         have HV5:=zh hv5
         have HCO:=zh hco
         have HIB:=zh hib
         clear hv5 hco hib hpl
         go_upto_region 22 with fail
         go_cut [126] from 110 to 125 (fun s126 wx=>s126=.bool (!ib)∧Aside (Below w5.heap.size w5 wx))
         case first=>
          go_region_held3 (fun w'=>w'.cell? ⟨gc,4,none⟩=some (.int .i64 c.size)∧w'.cell? ⟨gc,5,none⟩=some (bv c.root[0])∧w'.cell? ⟨gc,6,none⟩=some (bv c.root[1])∧w'.cell? ⟨gc,7,none⟩=some (bv c.root[2])∧w'.cell? ⟨gc,8,none⟩=some (bv c.root[3])∧w'.cell? ⟨gc,9,none⟩=some (bv c.root[4])∧w'.cell? ⟨gc,10,none⟩=some (bv c.root[5])∧w'.cell? ⟨gc,11,none⟩=some (bv c.root[6])∧w'.cell? ⟨gc,12,none⟩=some (bv c.root[7])∧w'.cell? ⟨q6,0,none⟩=some (.int .i64 N)∧w'.cell? ⟨q6,1,none⟩=some (bv qh[0])∧w'.cell? ⟨q6,2,none⟩=some (bv qh[1])∧w'.cell? ⟨q6,3,none⟩=some (bv qh[2])∧w'.cell? ⟨q6,4,none⟩=some (bv qh[3])∧w'.cell? ⟨q6,5,none⟩=some (bv qh[4])∧w'.cell? ⟨q6,6,none⟩=some (bv qh[5])∧w'.cell? ⟨q6,7,none⟩=some (bv qh[6])∧w'.cell? ⟨q6,8,none⟩=some (bv qh[7])) (first|with_reducible exact⟨k99,k0,k1,k2,k3,k4,k5,k6,k7,r0,r1,r2,r3,r4,r5,r6,r7,r8⟩|with_reducible exact⟨kd99,kd0,kd1,kd2,kd3,kd4,kd5,kd6,kd7,rd0,rd1,rd2,rd3,rd4,rd5,rd6,rd7,rd8⟩|with_reducible exact⟨m99,m0,m1,m2,m3,m4,m5,m6,m7,n0,n1,n2,n3,n4,n5,n6,n7,n8⟩|fail) (first|(go_at_call 90;refine (HCO.o _ (below_drew w5)).mono ?_;rintro e w7 ⟨rfl,hb7⟩;have HB7:=zh (show Below w5.heap.size w5 w7 from (below_drew w5).trans hb7);have m99:=(HB7.o.cell (p:=⟨gc,4,none⟩) hb5g).trans k99;have m0:=(HB7.o.cell (p:=⟨gc,5,none⟩) hb5g).trans k0;have m1:=(HB7.o.cell (p:=⟨gc,6,none⟩) hb5g).trans k1;have m2:=(HB7.o.cell (p:=⟨gc,7,none⟩) hb5g).trans k2;have m3:=(HB7.o.cell (p:=⟨gc,8,none⟩) hb5g).trans k3;have m4:=(HB7.o.cell (p:=⟨gc,9,none⟩) hb5g).trans k4;have m5:=(HB7.o.cell (p:=⟨gc,10,none⟩) hb5g).trans k5;have m6:=(HB7.o.cell (p:=⟨gc,11,none⟩) hb5g).trans k6;have m7:=(HB7.o.cell (p:=⟨gc,12,none⟩) hb5g).trans k7;have n0:=(HB7.o.cell (p:=⟨q6,0,none⟩) hb5q).trans r0;have n1:=(HB7.o.cell (p:=⟨q6,1,none⟩) hb5q).trans r1;have n2:=(HB7.o.cell (p:=⟨q6,2,none⟩) hb5q).trans r2;have n3:=(HB7.o.cell (p:=⟨q6,3,none⟩) hb5q).trans r3;have n4:=(HB7.o.cell (p:=⟨q6,4,none⟩) hb5q).trans r4;have n5:=(HB7.o.cell (p:=⟨q6,5,none⟩) hb5q).trans r5;have n6:=(HB7.o.cell (p:=⟨q6,6,none⟩) hb5q).trans r6;have n7:=(HB7.o.cell (p:=⟨q6,7,none⟩) hb5q).trans r7;have n8:=(HB7.o.cell (p:=⟨q6,8,none⟩) hb5q).trans r8;clear hb7)|fail)
          all_goals (
           go_wp2_with fail
           go_meet
           exact⟨rfl,HB7.o⟩)
         case rest=>
          obtain⟨rfl,HB7⟩:=hcut
          obtain⟨w7,hw7⟩:∃ w7,w7=wc:=⟨_,rfl⟩
          rw[←hw7] at HB7
          rw[←hw7]
          clear hw7 k99 kd99 k0 k1 k2 k3 k4 k5 k6 k7 kd0 kd1 kd2 kd3 kd4 kd5 kd6 kd7 r0 r1 r2 r3 r4 r5 r6 r7 r8 rd0 rd1 rd2 rd3 rd4 rd5 rd6 rd7 rd8
          cases ib with
          | false=>
           rename_i K1 a1 K2 a2
           refine a2 _ _ ?_
           refine wp_cond_true rfl ?_
           have hg:=((HE3.o.step HFF.o HSS.o).below HB7.o).sents.cells.2.2.2.2.1
           have HCLI7:=zh ((HB7.o.block _ hb5g).trans HCLI.o)
           go_upto_region 23 with fail
           go_region
           all_goals (
            go_wp2
            have hb:Below w5.heap.size w5 w7.drew:=HB7.o.trans ((below_drew w7).mono HB7.o.size)
            refine upd_door (v:=.slice none 0 0) (y:=.iface 338 (.pointer (some (F 4)))) (cell_heap (w:=w7.drew) HCLI7.o 0 rfl) (frozen_heap (w:=w7.drew) HCLI7.o 0) rfl rfl ?_
            have hRe:R=((5,⟨#[]⟩),[],{ c with cache:=s2.cache },s2.net):=by
             rw[HR.o,HUD.o]
             try dsimp only
             rw[←HIB.o]
             rfl
            rw[hRe]
            obtain⟨qs',u1,u2,u3,u4⟩:=upd_fin HFRD.o HB3.o hg3 hmm3 (HX5.o.below hb) (HFF.o.trans (Fr.ofBelow hb)) HSS.o
            exact upd_end u1 u2 u3 u4 (World.ownsRow_nil _ _ _ _) (.inr (.inl ⟨4,by decide,by decide,rfl,rfl⟩)))
          | true=>
           rename_i K1 a1 K2 a2
           refine a2 _ _ ?_
           refine wp_cond_false rfl ?_
           have hq7:=HX5.o.below HB7.o
           have hcost:Cost (gatherT N (partR N 0 N c.size).reverse).length s0 s2:=by
            have:=gatherQ_costs N (partR N 0 N c.size).reverse s0
            rw[show gatherQ N (partR N 0 N c.size).reverse s0=(.ok l5,s2) from HR2.o] at this
            exact this
           have hln:x5.qs.length+x5.vs.length<1099511627775:=by
            have a1:s2.cache.items.length=x5.qs.length:=by rw[hq7.cache.items,List.length_map]
            have a2:s2.files.length=x5.vs.length:=by rw[hq7.files,List.length_map]
            have a3:=hcost.files
            have a4:=hcost.items
            have a5:s0.files.length=0:=by rw[HS0.o];rfl
            have a6:s0.cache.items.length=c.cache.items.length:=by rw[HS0.o];rfl
            have:=HA3.o
            omega
           have hre:=remember_any w7 _ x5 N s2 d hq7 hln
           have hkc:=kinds_cache hq7.cache
           have HRE:=zh hre
           have HKC:=zh hkc
           clear hq7 hcost hln hre hkc
           go_upto_region 25 with (first
            | (go_at_call 91;refine HRE.o.mono ?_;rintro e w9 ⟨rfl,qs9,hq9,hf9,hs9⟩;have HQ9:=zh hq9;have HF9:=zh hf9;have HS9:=zh hs9;clear hq9 hf9 hs9)
            | fail)
           have HTQ9:=zh (show TrAt w9 q6 N qh from heap_kept (HTQ.o.below HB7.o) HF9.o HKC.o (by decide))
           have hcli9:w9.heap[gc]?=some (.cells (cliC 1 (.iface 44 (.pointer (some ⟨gn,0,none⟩))) c.key c.size c.root gk) 177 (0,0)):=HQ9.o.cli
           have HCLI9:=zh hcli9
           have j99:w9.cell? ⟨gc,4,none⟩=some (.int .i64 c.size):=cell_heap HCLI9.o 4 rfl
           have j0:w9.cell? ⟨gc,5,none⟩=some (bv c.root[0]):=cell_heap HCLI9.o 5 rfl
           have j1:w9.cell? ⟨gc,6,none⟩=some (bv c.root[1]):=cell_heap HCLI9.o 6 rfl
           have j2:w9.cell? ⟨gc,7,none⟩=some (bv c.root[2]):=cell_heap HCLI9.o 7 rfl
           have j3:w9.cell? ⟨gc,8,none⟩=some (bv c.root[3]):=cell_heap HCLI9.o 8 rfl
           have j4:w9.cell? ⟨gc,9,none⟩=some (bv c.root[4]):=cell_heap HCLI9.o 9 rfl
           have j5:w9.cell? ⟨gc,10,none⟩=some (bv c.root[5]):=cell_heap HCLI9.o 10 rfl
           have j6:w9.cell? ⟨gc,11,none⟩=some (bv c.root[6]):=cell_heap HCLI9.o 11 rfl
           have j7:w9.cell? ⟨gc,12,none⟩=some (bv c.root[7]):=cell_heap HCLI9.o 12 rfl
           have jf:∀ i,w9.frozen? ⟨gc,i,none⟩=false:=fun i=>frozen_heap HCLI9.o i
           have jgc:=lt_of_heap HCLI9.o
           clear hcli9
           go_upto_region 26 with (first|(refine wpList_loadT rfl _ rfl _ rfl _ _ HTQ9.o ?_)|fail)
           go_wp2
           have hF8:Fr (QS (cQ gq gc gk mc gn gd mq vl vt v c) ⟨.slice none 0 0,qs,[]⟩) w3 w7:=HFF.o.trans (Fr.ofBelow HB7.o)
           obtain⟨qs',u1,u2,u3,u4⟩:=upd_fin (s:={ s2 with cache:=rememberQ s2.cache s2.files }) HFRD.o HB3.o hg3 hmm3 HQ9.o (Fr.sub hF8 (HF9.o.weak fun _ _ e=>.inr (.inl e)) HSS.o) (fun k hk=>by
            rcases hk with e|e|e
            ·exact HSS.o k (.inl e)
            ·rcases Nat.lt_or_ge k w7.heap.size with hlk|hge
             ·exact HSS.o k (.inr (.inl (HS9.o k hlk e)))
             ·exact .inr (Nat.le_trans hF8.size hge)
            ·exact HSS.o k (.inr (.inr e)))
           have hq:=cl_st9 u1 N qh
           refine upd_door (v:=v5) (y:=.nilIface) (cell_heap hq.cells 0 rfl) (frozen_heap hq.cells 0) rfl rfl ?_
           have hRe:R=(tFine,l5,{ c with size:=N,root:=qh,cache:=rememberQ s2.cache s2.files },s2.net):=by
            rw[HR.o,HUD.o]
            try dsimp only
            rw[←HIB.o]
            rfl
           rw[hRe]
           have hF:=cl_fr9 w9 gc N qh
           have hk:=kinds_one HCLI9.o
           exact upd_end hq (net_kept u2 hF hk (by decide) (by decide) (by decide)) (u3.step hF fun i hi e=>.inl (.inl e)) u4 (row_kept (ownsRow_mono (row_kept (ownsRow_below HV5.o HB7.o) HF9.o HKC.o (by decide)) HZ4.o) hF hk (by decide)) (.inl ⟨rfl,rfl⟩))))
end
end
section
def PUpdPost (w:World) (gc gk mc gn gd:Nat) (vl vt:Value) (qs:List CEnt) (r:Tld×List Hsh×Cl×Nt) (e:Ending) (w':World):Prop:=
 ∃ v',e=.returned (.tuple #[v',toldV r.1.1 r.1.2])∧OwnStrs w' w.heap.size v' (r.2.1.map HS)∧
  ∃ qs',ClIs w' gc gk mc (.iface 44 (.pointer (some ⟨gn,0,none⟩))) r.2.2.1 qs'∧NetIs w' gn gd vl vt r.2.2.2∧Fr (cnS gc gk mc gn vt qs) w w'∧Sub w (cnS gc gk mc gn vt qs) (cnS gc gk mc gn vt qs')
theorem pupdate_of (F:Nat→Addr) (w:World) (ga gc gk mc gn gd:Nat) (vl vt:Value) (qs:List CEnt) (r:Tld×List Hsh×Cl×Nt) (hga:PcAt w ga gc) (hE:EnvS F (cnS gc gk mc gn vt qs) w) (hlt:∀ k,cnS gc gk mc gn vt qs k→k<w.heap.size) (hlen:r.2.1.length≤1048576)
  (hc:Calls prog 42 #[.pointer (some ⟨gc,0,none⟩)] (w.alloc (.cells #[.int .i64 0,.string ⟨#[]⟩] 29)) (UpdPost F (w.alloc (.cells #[.int .i64 0,.string ⟨#[]⟩] 29)) gc gk mc gn gd vl vt qs r)) :
  Calls prog 20 #[.pointer (some ⟨ga,0,none⟩)] w (PUpdPost w gc gk mc gn gd vl vt qs r):=by
 obtain⟨⟨tk,tp⟩,hh,c1,n1⟩:=r
 obtain⟨W0,hW0⟩:∃ W0,W0=w.alloc (.cells #[.int .i64 0,.string ⟨#[]⟩] 29):=⟨_,rfl⟩
 have hb0:Below w.heap.size w W0:=by rw[hW0];exact below_alloc w _
 have ht0:ToldAt' W0 w.heap.size 0 ⟨#[]⟩:=by rw[hW0];exact told_new w
 have hz0:W0.heap.size=w.heap.size+1:=by rw[hW0];simp
 have c0:W0.cell? ⟨ga,0,none⟩=some (.pointer (some ⟨gc,0,none⟩)):=cell_heap ((hb0.block _ (lt_of_heap hga)).trans hga) 0 rfl
 rw[←hW0] at hc
 have HW0:=zh hW0
 have HB0:=zh hb0
 have HT0:=zh ht0
 have HE:=zh hE
 have HLT:=zh hlt
 have HLEN:=zh hlen
 have HC:=zh hc
 clear hga hE hlt hlen hc hW0 hb0 ht0
 go_enter func20,ntmps20
 go_upto_region 1 with fail
 rw[show w.alloc (.cells #[.int .i64 0,.string ⟨#[]⟩] 29)=W0 from HW0.o.symm]
 go_upto_region 2 with (first
  | (go_at_call 42;refine HC.o.mono ?_;rintro e w3 ⟨v,y,rfl,hv,hy,qs1,hcl,hn1,hf1,hs1⟩;have HV:=zh hv;have HV3:=zh (show OwnHs w3 0 v hh from ownsRow_mono hv (Nat.zero_le _));have HY:=zh hy;have HCL:=zh hcl;have HN1:=zh hn1;have HF1:=zh hf1;have HS1:=zh hs1;clear hv hy hcl hn1 hf1 hs1)
  | fail)
 have ht1:ToldAt' w3 w.heap.size 0 ⟨#[]⟩:=HF1.o.heap HT0.o fun e=>by have:=HLT.o _ e;omega
 have hfr1:Fr (cnS gc gk mc gn vt qs) w w3:=(Fr.ofBelow HB0.o).trans HF1.o
 have HT1:=zh ht1
 have HFR1:=zh hfr1
 clear ht1 hfr1 c0
 go_wp2_with (first
  | (go_at_call 43;refine (texts_fr v hh w3 HV3.o HLEN.o).mono ?_;rintro e w4 ⟨v4,rfl,ho4,hf4⟩;obtain⟨va,vc,rfl⟩:=own_any ho4;have HO4:=zh ho4;have HF4:=zh hf4;have HK4:=zh (kinds_row HV3.o);clear ho4 hf4)
  | (go_at_call 37;have hfr4:Fr (cnS gc gk mc gn vt qs) w w4:=HFR1.o.step HF4.o (fun i h1 h2=>absurd (HV.o.lt i h2).1 (by omega));have HFR4:=zh hfr4;have hy4:=HY.o.fr HF4.o (fun k C fz hC=>kinds_not HK4.o hC (by decide));have ht4:=HT1.o.kept HF4.o HK4.o (by decide);refine (of_err (HE.o w4 hfr4).2.1 hy4).mono ?_;rintro e w5 ⟨rfl,hb5⟩;have HB5:=zh hb5;have HT5:=zh (ht4.below hb5);obtain⟨t0,t1,t2,t3,t4⟩:=HT5.o.facts;clear hfr4 hy4 ht4 hb5)
  | fail)
 have hts:=told_set (m:=tk) (t:=tp) HT5.o
 have hkt:=kinds_one HT5.o
 have hf5:=hts.2
 have e4:Value.slice va (hh.map HS).length vc=Value.slice va hh.length vc:=by rw[List.length_map]
 refine bodyPost_ret (v:=.tuple #[.slice va hh.length vc,toldV tk tp]) (by simp[results,results20,go_sem,t0,t1]) rfl ⟨_,rfl,?_,qs1,?_,?_,?_,?_⟩
 ·rw[←e4]
  exact ownsRow_mono (row_kept (ownsRow_below HO4.o HB5.o) hf5 hkt (by decide)) (by have:=HF1.o.size;omega)
 ·have h4:=HCL.o.kept HF4.o HK4.o (fun k hk=>by obtain⟨C,hC⟩:=ownBlock_type HV3.o hk;exact⟨C,_,_,hC⟩) (by decide) (by decide) (by decide) (by decide)
  exact (h4.below HB5.o).kept hf5 hkt (fun k hk=>⟨_,_,_,(show w5.heap[k]?=_ from hk ▸ HT5.o)⟩) (by decide) (by decide) (by decide) (by decide)
 ·have h4:=net_kept HN1.o HF4.o HK4.o (by decide) (by decide) (by decide)
  exact net_kept (h4.below HB5.o) hf5 hkt (by decide) (by decide) (by decide)
 ·exact (HFR4.o.trans (Fr.ofBelow HB5.o)).step hf5 fun i h1 h2=>by omega
 ·exact HS1.o.mono (by omega)
end
section
theorem Quiet.calm {d d':Dk} {j:Nat} (h:Quiet d) (c:Calm j d d'):Quiet d':=⟨c.failAt.trans h.failAt,c.dead.trans h.dead,c.hit.trans h.hit⟩
section
variable {m:Wm} {L:Lg} {P:Nat} (h:RdW m L P) (hl:m.es.length≤1048576) {c:Cl} (k:RdC m P c) {n:Nt} (hn:n.files=m.d.files) (hc:∀ x∈n.lies,CutLie n.files x)
include h hl k hn hc
theorem heal_read {i:Nat} (hi:i<c.size) :
  SameN n (readP c n i).2.2.2∧RdC m P (readP c n i).2.2.1∧(readP c n i).2.2.1.size=c.size∧(readP c n i).2.2.1.cache.most=c.cache.most∧
   (((readP c n i).1=tFine∧(readP c n i).2.1=((lists m.es).getD i [],pathOf ((lists m.es).take c.size) i))∨(∃ p,(readP c n i).1=(6,p)∧(readP c n i).2.1=([],[]))):=by
 have hle:(lists m.es).length≤1048576:=by rw[lists_len];exact hl
 obtain⟨u1,u2,u3,u4,u5,u6,u7⟩:=readP_true hle h.short k.tr (netTrue_cut hle h.short (by rw[hn];exact h.sound.true') hc) hi (av:=false) (fun e=>by cases e)
 refine⟨u2,⟨u1,by rw[u4];exact k.le,by rw[u4];exact k.has,u3.trans k.key⟩,u4,u6,?_⟩
 rcases u7 with ⟨v1,v2⟩|⟨_,p,v1,v2⟩
 ·left
  refine⟨v1,?_⟩
  rw[v2]
  congr 1
  rw[List.getD_eq_getElem?_getD,List.getD_eq_getElem?_getD,List.getElem?_take_of_lt hi]
 ·exact .inr ⟨p,v1,v2⟩
theorem heal_update (hs:c.size=P) (hcp:getF m.d.files (sOf kCp)=some (cpOf ((lists m.es).take P) m.key)) :
  (updateP c n).2.1 = []∧(updateP c n).2.2=(c,fetchN n (sOf kCp))∧((updateP c n).1=tFine∨(updateP c n).1=(3,⟨#[]⟩)):=by
 have hle:(lists m.es).length≤1048576:=by rw[lists_len];exact hl
 have hcs:=k.tr.size
 refine updateP_cut k.tr (fun data hd=>?_) (by omega)
 obtain⟨b,hb,hdb⟩:=fetch_cut hc hd
 rw[hn] at hb
 have hg:=once_get h.sound.fresh.once hb
 rw[hcp] at hg
 rw[hs,k.key]
 rw[←Option.some.inj hg] at hdb
 exact hdb
end
end
section
structure KeEnv (F:Nat→Addr) (w:World) (gd:Nat) (v:Value) (m:Wm) (L:Lg) (P:Nat) (ga gc gk mc gn:Nat) (vl vt:Value) (n:Nt) (c:Cl) (qs:List CEnt):Prop where
 disk:DiskAt w gd v m.d
 net:NetIs w gn gd vl vt n
 pc:PcAt w ga gc
 cl:ClIs w gc gk mc (.iface 44 (.pointer (some ⟨gn,0,none⟩))) c qs
 env:EnvS F (cnS gc gk mc gn vt qs) w
 rdw:RdW m L P
 rdc:RdC m P c
 nf:n.files=m.d.files
 cut:∀ x∈n.lies,CutLie n.files x
 few:m.es.length≤8192
 small:∀ f∈m.d.files,f.2.size≤1048576
 key:m.key.size≤9223372036854775807
 fetches:n.fetches<1000000000000
 items:c.cache.items.length<100000000000
section
variable {F:Nat→Addr} {w:World} {gd:Nat} {v:Value} {m:Wm} {L:Lg} {P:Nat} {ga gc gk mc gn:Nat} {vl vt:Value} {n:Nt} {c:Cl} {qs:List CEnt}
theorem KeEnv.lt (h:KeEnv F w gd v m L P ga gc gk mc gn vl vt n c qs):∀ k,cnS gc gk mc gn vt qs k→k<w.heap.size:=fun k hk=>by
 rcases hk with hk|hk|hk
 ·exact h.cl.ltS hk
 ·exact hk ▸ h.net.lt
 ·obtain⟨C,hC⟩:=ownBlock_type h.net.told hk
  exact lt_of_heap hC
theorem KeEnv.ll (h:KeEnv F w gd v m L P ga gc gk mc gn vl vt n c qs):(lists m.es).length≤1048576:=by
 rw[lists_len]
 have:=h.few
 omega
theorem KeEnv.netTrue (h:KeEnv F w gd v m L P ga gc gk mc gn vl vt n c qs):NetTrue (lists m.es) n:=
 netTrue_cut h.ll h.rdw.short (by rw[h.nf];exact h.rdw.sound.true') h.cut
theorem KeEnv.netSmall (h:KeEnv F w gd v m L P ga gc gk mc gn vl vt n c qs):NetSmall n:=⟨fun f hf=>by
  rw[h.nf] at hf
  have:=h.small f hf
  omega,fun l hl=>by
  obtain⟨_,f,hf,_,hd⟩:=h.cut l hl
  rw[h.nf] at hf
  have h1:=h.small f hf
  have h2:=congrArg List.length hd
  rw[List.length_dropLast,Array.length_toList,Array.length_toList] at h2
  have h3:l.data.size=l.data.data.size:=rfl
  have h4:f.2.size=f.2.data.size:=rfl
  omega⟩
theorem KeEnv.csize (h:KeEnv F w gd v m L P ga gc gk mc gn vl vt n c qs):c.size≤8192:=by
 have h1:=h.rdc.tr.size
 have h2:=h.few
 rw[lists_len] at h1
 omega
theorem kread_call (h:KeEnv F w gd v m L P ga gc gk mc gn vl vt n c qs) (j:Nat) (hj:j<c.size) :
  Calls prog 22 #[.pointer (some ⟨ga,0,none⟩),.int .i64 j] w (PReadPost w gc gk mc gn gd vl vt qs (readP c n j)):=by
 have hb:=below_alloc w (.cells #[.int .i64 0,.string ⟨#[]⟩] 29)
 have hcs:=h.csize
 have hlle:=h.ll
 have hnt:=h.netTrue
 obtain⟨_,_,_,_,_,_,r7⟩:=readP_true hlle h.rdw.short h.rdc.tr hnt hj (av:=false) (fun e=>by cases e)
 have hT:=readT_small hcs hj
 have hTQ:TrueQ (lists m.es) c.size false (askQ n c.cache):=⟨fun y hy=>by simp[askQ] at hy,h.rdc.tr.cache,hnt,fun e=>by cases e⟩
 have hq:=readQ_true hlle h.rdc.tr.size h.rdw.short (av:=false) hj (askQ n c.cache) hTQ
 refine pread_of F w ga gc gk mc gn gd vl vt j qs _ h.pc h.env h.lt ?_ ?_
 ·rcases r7 with ⟨_,r6⟩|⟨_,p,_,r6⟩
  ·rw[r6]
   show (pathOf ((lists m.es).take c.size) j).length≤_
   have:=pathOf_len ((lists m.es).take c.size) j
   rw[List.length_take,lists_len] at this
   have:=h.few
   omega
  ·rw[r6];simp
 ·refine read_ask F _ gc gk mc gn gd vl vt v c qs n m.d (h.cl.below hb) (h.net.below hb) (h.disk.below hb) h.nf.symm (h.env.below hb) j hj (by omega) ⟨?_,?_,h.netSmall⟩ ?_ (fun hp=>?_) ?_
  ·show n.fetches+_<_
   have:=h.fetches
   omega
  ·show 0+_<_
   omega
  ·intro b s1 hb1
   have:=bun_small hlle h.rdw.short h.rdc.tr.size hj hTQ hb1
   omega
  ·obtain⟨_,p,hp2⟩:=hq.2.2 _ hp
   cases hp2
  ·have:=h.items
   omega
theorem kupd_call (h:KeEnv F w gd v m L P ga gc gk mc gn vl vt n c qs) (hcp:getF m.d.files (sOf kCp)=some (cpOf ((lists m.es).take P) m.key)) (hs:c.size=0∨c.size=P) :
  Calls prog 20 #[.pointer (some ⟨ga,0,none⟩)] w (PUpdPost w gc gk mc gn gd vl vt qs (updateP c n)):=by
 have hb:=below_alloc w (.cells #[.int .i64 0,.string ⟨#[]⟩] 29)
 have hcs:=h.csize
 have hP:=h.rdw.le
 have hfew:=h.few
 rw[lists_len] at hP
 have hlen:((lists m.es).take P).length=P:=by rw[List.length_take,lists_len];omega
 have hfc:∀ data,fetchA n (sOf kCp)=some data→data=(cpOf ((lists m.es).take P) m.key).data.toList∨data=(cpOf ((lists m.es).take P) m.key).data.toList.dropLast:=fun data hd=>by
  obtain⟨b,hb1,hdb⟩:=fetch_cut h.cut hd
  rw[h.nf] at hb1
  have hg:=once_get h.rdw.sound.fresh.once hb1
  rw[hcp] at hg
  rw[←Option.some.inj hg] at hdb
  exact hdb
 have hno:∀ (data:List UInt8) (N:Nat),fetchA n (sOf kCp)=some data→(checkGo data c.key.data.toList).2.2=true→(checkGo data c.key.data.toList).1=(N:Int)→c.size<N→0<c.size→False:=fun data N hd hok hN hlt hpos=>by
  have hcP:c.size=P:=by omega
  have e:(cpOf ((lists m.es).take P) m.key).data.toList=signOf ((lists m.es).take P).length (rootOf ((lists m.es).take P)) m.key.data.toList:=rfl
  rcases hfc data hd with h1|h1
  ·rw[h1,e,h.rdc.key,checkGo_sign _ _ _ (by omega),hlen] at hN
   have:=Int.ofNat.inj hN
   omega
  ·rw[h1,e,check_short] at hok
   cases hok
 have hul:(updateP c n).2.1 = []:=by
  unfold updateP
  cases hf:fetchA n (sOf kCp) with
  | none=>rfl
  | some data=>
   dsimp only
   split
   ·rfl
   split
   ·rfl
   split
   ·split <;> rfl
   split
   ·rfl
   ·rename_i k1 k2 k3 k4
    exfalso
    have hck:(checkGo data c.key.data.toList).2.2=true:=by
     cases hq:(checkGo data c.key.data.toList).2.2 with
     | true=>rfl
     | false=>exact absurd hq k1
    have hcP:c.size=P:=by omega
    have e:(cpOf ((lists m.es).take P) m.key).data.toList=signOf ((lists m.es).take P).length (rootOf ((lists m.es).take P)) m.key.data.toList:=rfl
    rcases hfc data hf with h1|h1
    ·rw[h1,e,h.rdc.key,checkGo_sign _ _ _ (by omega),hlen] at k3
     simp at k3
     omega
    ·rw[h1,e,check_short] at hck
     cases hck
 refine pupdate_of F w ga gc gk mc gn gd vl vt qs _ h.pc h.env h.lt ?_ ?_
 ·rw[hul];simp
 ·refine update_any F _ gc gk mc gn gd vl vt v c qs n m.d (h.cl.below hb) (h.net.below hb) (h.disk.below hb) h.nf.symm (h.env.below hb) (by have:=h.fetches;omega) (by rw[h.rdc.key];exact h.key) (fun data hd=>?_) (by omega) fun data N hd hok hN hlt hpos=>(hno data N hd hok hN hlt hpos).elim
  obtain⟨b,hb1,hdb⟩:=fetch_cut h.cut hd
  rw[h.nf] at hb1
  have h1:=h.small _ hb1
  have h4:b.size=b.data.size:=rfl
  dsimp only at h1
  rcases hdb with rfl|rfl
  ·rw[Array.length_toList];omega
  ·rw[List.length_dropLast,Array.length_toList];omega
end
end
section
structure KeSt (w0 w:World) (k:Nat) (gd:Nat) (v:Value) (m:Wm) (L:Lg) (P:Nat) (ga gc gk mc gn:Nat) (vl vt:Value) (n:Nt) (c:Cl) (qs:List CEnt):Prop where
 disk:DiskAt w gd v m.d
 net:NetIs w gn gd vl vt n
 pc:PcAt w ga gc
 cl:ClIs w gc gk mc (.iface 44 (.pointer (some ⟨gn,0,none⟩))) c qs
 below:Below w0.heap.size w0 w
 new:∀ i,cnS gc gk mc gn vt qs i→w0.heap.size≤i
 rdw:RdW m L P
 cp:getF m.d.files (sOf kCp)=some (cpOf ((lists m.es).take P) m.key)
 rdc:RdC m P c
 nf:n.files=m.d.files
 cut:∀ x∈n.lies,CutLie n.files x
 few:m.es.length≤8192
 small:∀ f∈m.d.files,f.2.size≤1048576
 key:m.key.size≤9223372036854775807
 fetches:n.fetches≤k*900000
 items:c.cache.items.length≤k*450000
section
variable {F:Nat→Addr} {w0 w:World} {k:Nat} {gd:Nat} {v:Value} {m:Wm} {L:Lg} {P:Nat} {ga gc gk mc gn:Nat} {vl vt:Value} {n:Nt} {c:Cl} {qs:List CEnt}
theorem KeSt.env (h:KeSt w0 w k gd v m L P ga gc gk mc gn vl vt n c qs) (hk:k≤10000) (hn:NumEnv w0) (hS:Sents w0 F) (hT:ErrT w0):KeEnv F w gd v m L P ga gc gk mc gn vl vt n c qs:=
 ⟨h.disk,h.net,h.pc,h.cl,envS_of h.below hn hS hT h.new,h.rdw,h.rdc,h.nf,h.cut,h.few,h.small,h.key,by have:=h.fetches;omega,by have:=h.items;omega⟩
theorem KeSt.grow (h:KeSt w0 w k gd v m L P ga gc gk mc gn vl vt n c qs) {w':World} (hb:Below w.heap.size w w'):KeSt w0 w' k gd v m L P ga gc gk mc gn vl vt n c qs:=
 { h with disk:=h.disk.below hb,net:=h.net.below hb,pc:=(hb.block _ (lt_of_heap h.pc)).trans h.pc,cl:=h.cl.below hb,below:=h.below.trans (hb.mono h.below.size) }
def KeRead (w0 w:World) (k:Nat) (gd:Nat) (v:Value) (m:Wm) (L:Lg) (P:Nat) (ga gc gk mc gn:Nat) (vl vt:Value) (n:Nt) (c:Cl) (j:Nat) (e:Ending) (w':World):Prop:=
 ∃ (nn:Bool) (v':Value) (s:ByteArray) (tk:Nat) (tp:ByteArray) (n':Nt) (c':Cl) (qs':List CEnt),e=.returned (.tuple #[.string s,.bool nn,v',toldV tk tp])∧KeSt w0 w' k gd v m L P ga gc gk mc gn vl vt n' c' qs'∧(∀ tb x u,ToldAt' w tb x u→ToldAt' w' tb x u)∧
  SameN n n'∧c'.size=c.size∧(tk=0→s=sOf ((lists m.es).getD j []))∧(n.lies = []→tk=0)
def KeUpd (w0 w:World) (k:Nat) (gd:Nat) (v:Value) (m:Wm) (L:Lg) (P:Nat) (ga gc gk mc gn:Nat) (vl vt:Value) (n:Nt) (e:Ending) (w':World):Prop:=
 ∃ (v':Value) (tk:Nat) (tp:ByteArray) (n':Nt) (c':Cl) (qs':List CEnt),e=.returned (.tuple #[v',toldV tk tp])∧KeSt w0 w' k gd v m L P ga gc gk mc gn vl vt n' c' qs'∧(∀ tb x u,ToldAt' w tb x u→ToldAt' w' tb x u)∧
  SameN n n'∧c'.size=P∧(n.lies = []→tk=0)
theorem KeSt.next (h:KeSt w0 w k gd v m L P ga gc gk mc gn vl vt n c qs) {w':World} {c':Cl} {n':Nt} {qs':List CEnt} (hf:Fr (cnS gc gk mc gn vt qs) w w') (hs:Sub w (cnS gc gk mc gn vt qs) (cnS gc gk mc gn vt qs')) (hcl:ClIs w' gc gk mc (.iface 44 (.pointer (some ⟨gn,0,none⟩))) c' qs') (hn:NetIs w' gn gd vl vt n')
  (hrc:RdC m P c') (hsn:SameN n n') (hfe:n'.fetches≤n.fetches+900000) (hit:c'.cache.items.length≤c.cache.items.length+450000) :
  KeSt w0 w' (k+1) gd v m L P ga gc gk mc gn vl vt n' c' qs'∧∀ tb x u,ToldAt' w tb x u→ToldAt' w' tb x u:=by
 have hk:Kinds w (cnS gc gk mc gn vt qs) (([177] ++ [246,244]) ++ [103,3]):=((kinds_one h.cl.cells).or (kinds_cache h.cl.cache)).or (kinds_net h.net)
 have hz:=h.below.size
 refine⟨⟨h.disk.kept hf hk (by decide) (by decide),hn,heap_kept h.pc hf hk (by decide),hcl,h.below.trans (hf.below hz fun i hi e=>by have:=h.new i e;omega),fun i hi=>?_,h.rdw,h.cp,hrc,hsn.2.trans h.nf,by rw[hsn.1,hsn.2];exact h.cut,h.few,h.small,h.key,?_,?_⟩,fun tb x u ht=>ht.kept hf hk (by decide)⟩
 ·rcases hs i hi with e|e
  ·exact h.new i e
  ·omega
 ·have:=h.fetches
  omega
 ·have:=h.items
  omega
theorem KeSt.ll (h:KeSt w0 w k gd v m L P ga gc gk mc gn vl vt n c qs):m.es.length≤1048576:=by have:=h.few;omega
theorem KeSt.read (h:KeSt w0 w k gd v m L P ga gc gk mc gn vl vt n c qs) (hk:k≤10000) (hn:NumEnv w0) (hS:Sents w0 F) (hT:ErrT w0) (j:Nat) (hj:j<c.size) :
  Calls prog 22 #[.pointer (some ⟨ga,0,none⟩),.int .i64 j] w (KeRead w0 w (k+1) gd v m L P ga gc gk mc gn vl vt n c j):=by
 have hE:=h.env (F:=F) hk hn hS hT
 have hcost:=readP_cost (n:=n) (i:=(j:Int)) hE.csize
 obtain⟨r1,r2,r3,_,r5⟩:=heal_read h.rdw h.ll h.rdc h.nf h.cut hj
 refine (kread_call hE j hj).mono fun e w' hq=>?_
 obtain⟨nn,v',he,_,_,_,qs',hcl,hnet,hf,hs⟩:=hq
 obtain⟨h1,h2⟩:=h.next hf hs hcl hnet r2 r1 (by omega) (by omega)
 refine⟨nn,v',_,_,_,_,_,qs',he,h1,h2,r1,r3,fun ht=>?_,fun hl=>?_⟩
 ·rcases r5 with ⟨_,e2⟩|⟨p,e1,_⟩
  ·rw[e2]
  ·rw[e1] at ht;cases ht
 ·rw[(rd_read h.rdw h.ll h.rdc h.nf hl hj).2.2.2.2.1]
  rfl
theorem KeSt.update (h:KeSt w0 w k gd v m L P ga gc gk mc gn vl vt n c qs) (hk:k≤10000) (hn:NumEnv w0) (hS:Sents w0 F) (hT:ErrT w0) (hs:(c.size=0∧n.lies = [])∨c.size=P) :
  Calls prog 20 #[.pointer (some ⟨ga,0,none⟩)] w (KeUpd w0 w (k+1) gd v m L P ga gc gk mc gn vl vt n):=by
 have hE:=h.env (F:=F) hk hn hS hT
 have hcost:=updateP_cost (c:=c) (n:=n)
 refine (kupd_call hE h.cp (hs.imp (fun e=>e.1) id)).mono fun e w' hq=>?_
 obtain⟨v',he,_,qs',hcl,hnet,hf,hsub⟩:=hq
 have key:SameN n (updateP c n).2.2.2∧RdC m P (updateP c n).2.2.1∧(updateP c n).2.2.1.size=P∧(n.lies = []→(updateP c n).1.1=0):=by
  have good:n.lies = []→SameN n (updateP c n).2.2.2∧RdC m P (updateP c n).2.2.1∧(updateP c n).2.2.1.size=P∧(n.lies = []→(updateP c n).1.1=0):=fun hl=>by
   obtain⟨u1,_,u3,u4|u4⟩:=rd_update h.rdw h.ll h.rdc h.nf hl
   ·rw[h.cp] at u4
    cases u4.2.1
   ·exact⟨u1,u3,u4.2.2.2,fun _=>by rw[u4.2.1];rfl⟩
  rcases hs with ⟨_,hl⟩|hs
  ·exact good hl
  ·obtain⟨_,u2,u3⟩:=heal_update h.rdw h.ll h.rdc h.nf h.cut hs h.cp
   refine⟨?_,?_,?_,fun hl=>(good hl).2.2.2 hl⟩
   ·rw[u2];exact sameN_fetch n _
   ·rw[u2];exact h.rdc
   ·rw[u2];exact hs
 obtain⟨g1,g2,g3,g4⟩:=key
 obtain⟨h1,h2⟩:=h.next hf hsub hcl hnet g2 g1 (by omega) (by omega)
 exact⟨v',_,_,_,_,qs',he,h1,h2,g1,g3,g4⟩
theorem kest_new {w1 w2 w3:World} {key:ByteArray} {cap:Int} (hb1:Below w0.heap.size w0 w1) (hD:DiskAt w1 gd v m.d) (hr:RdW m L P) (hcp:getF m.d.files (sOf kCp)=some (cpOf ((lists m.es).take P) m.key)) (hfew:m.es.length≤8192) (hsm:∀ f∈m.d.files,f.2.size≤1048576) (hmk:m.key=key) (hkey:key.size≤9223372036854775807)
  (hn:NetIs w2 gn gd (.slice none 0 0) (.slice none 0 0) ⟨m.d.files,[],[],0⟩) (hb2:Below w1.heap.size w1 w2) (hg:w1.heap.size≤gn) (hpc:PcAt w3 ga gc) (hcl:ClIs w3 gc gk mc (.iface 44 (.pointer (some ⟨gn,0,none⟩))) ⟨key,0,hash [],⟨cap.toNat,[]⟩⟩ []) (hb3:Below w2.heap.size w2 w3) (h2:w2.heap.size≤gc) (h3:w2.heap.size≤gk) (h4:w2.heap.size≤mc) :
  KeSt w0 w3 0 gd v m L P ga gc gk mc gn (.slice none 0 0) (.slice none 0 0) ⟨m.d.files,[],[],0⟩ ⟨key,0,hash [],⟨cap.toNat,[]⟩⟩ [] where
 disk:=(hD.below hb2).below hb3
 net:=hn.below hb3
 pc:=hpc
 cl:=hcl
 below:=(hb1.trans (hb2.mono hb1.size)).trans (hb3.mono (Nat.le_trans hb1.size hb2.size))
 new i hi:=by
  have z1:=hb1.size
  have z2:=hb2.size
  rcases hi with (e|e|e|e)|e|e
  ·omega
  ·omega
  ·omega
  ·simp at e
  ·omega
  ·cases e
 rdw:=hr
 cp:=hcp
 rdc:=by rw[←hmk];exact rdc_new m.key rfl P _
 nf:=rfl
 cut x hx:=by simp at hx
 few:=hfew
 small:=hsm
 key:=by rw[hmk];exact hkey
 fetches:=Nat.le_refl _
 items:=Nat.le_refl _
theorem KeSt.trusted (h:KeSt w0 w k gd v m L P ga gc gk mc gn vl vt n c qs) :
  Calls prog 21 #[.pointer (some ⟨ga,0,none⟩)] w fun e w'=>e=.returned (.tuple #[.int .i64 c.size,.string (HS c.root)])∧KeSt w0 w' k gd v m L P ga gc gk mc gn vl vt n c qs∧∀ tb x u,ToldAt' w tb x u→ToldAt' w' tb x u:=by
 refine (ptrusted_any w ga gc gk mc _ c qs h.pc h.cl).mono fun e w' hq=>?_
 obtain⟨he,hcl,hf⟩:=hq
 have hk:=kinds_one h.cl.cells
 exact⟨he,{ h with disk:=h.disk.kept hf hk (by decide) (by decide),net:=net_kept h.net hf hk (by decide) (by decide) (by decide),pc:=heap_kept h.pc hf hk (by decide),cl:=hcl,below:=h.below.trans (hf.below h.below.size fun i hi e=>by have:=h.new i (.inl (.inl e));omega) },fun tb x u ht=>ht.kept hf hk (by decide)⟩
end
end
section
theorem open_empty (key:ByteArray):OpensTo [] key (.good [] 0):=
 opens_all (es:=[]) (n:=0) (by simp) (fun e he=>by simp at he) (DiskTrue.nil _) (fun j hj=>by simp at hj) (Nat.le_refl _) (fun j hj=>by simp at hj) (head_none rfl)
end
section
structure KpIs (w:World) (p:Pl) (m:Wm) (L:Lg):Prop where
 disk:DiskAt w p.gd p.v m.d
 pl:PlIs w p.gl p.g
 log:LogIs w p.g p.gd p.ve p.vl p.vp p.vs L
def kpS (p:Pl) (k:Nat):Prop:=k=p.gl∨bothS p.g p.gd p.v p.ve p.vl p.vp p.vs k
theorem KpIs.below {w w':World} {p:Pl} {m:Wm} {L:Lg} (h:KpIs w p m L) (hb:Below w.heap.size w w'):KpIs w' p m L:=
 ⟨h.disk.below hb,(hb.block _ (lt_of_heap h.pl)).trans h.pl,h.log.below hb⟩
theorem KpIs.kinds {w:World} {p:Pl} {m:Wm} {L:Lg} (h:KpIs w p m L):Kinds w (kpS p) ([93]++([41,73]++logTs)):=(kinds_one h.pl).or ((kinds_disk h.disk).or (kinds_log h.log))
structure KpSt (w0 w:World) (k:Nat) (key:ByteArray) (p:Pl) (m:Wm) (L:Lg):Prop where
 is:KpIs w p m L
 rdw:RdW0 m L
 mkey:m.key=key
 good:∃ U,U.length≤k∧Good m U ((k+1)*2097152)
 few:m.es.length≤k
 below:Below w0.heap.size w0 w
 new:∀ i,kpS p i→w0.heap.size≤i
def KpNext (w0 w:World) (k:Nat) (key:ByteArray) (p:Pl) (m':Wm) (e0 e:Ending) (w':World):Prop:=
 e=e0∧∃ p' L',p'.gl=p.gl∧p'.gd=p.gd∧KpSt w0 w' k key p' m' L'∧Fr (kpS p) w w'
section
variable {F:Nat→Addr} {w0 w:World} {k:Nat} {key:ByteArray} {p:Pl} {m:Wm} {L:Lg}
theorem KpSt.grow (h:KpSt w0 w k key p m L) {w':World} (hb:Below w.heap.size w w'):KpSt w0 w' k key p m L:=
 ⟨h.is.below hb,h.rdw,h.mkey,h.good,h.few,h.below.trans (hb.mono h.below.size),h.new⟩
theorem KpSt.told (h:KpSt w0 w k key p m L) {tb:Nat} {n:Int} {s:ByteArray} (ht:ToldAt' w tb n s) (htb:w0.heap.size≤tb) {w':World} (hf:Fr (·=tb) w w'):KpSt w0 w' k key p m L:=by
 have hk:=kinds_one ht
 exact⟨⟨h.is.disk.kept hf hk (by decide) (by decide),heap_kept h.is.pl hf hk (by decide),h.is.log.kept hf hk (by decide) (by decide)⟩,h.rdw,h.mkey,h.good,h.few,h.below.trans (hf.below h.below.size fun i hi e=>by omega),h.new⟩
theorem KpSt.turn (h:KpSt w0 w k key p m L) {w':World} {p':Pl} {m':Wm} {L':Lg} {U:List Nat} (hi:KpIs w' p' m' L') (hr:RdW0 m' L') (hk:m'.key=m.key) (hU:U.length≤k+1) (hG:Good m' U ((k+1+1)*2097152)) (hl:m'.es.length≤k+1)
  (hf:Fr (kpS p) w w') (hs:Sub w (kpS p) (kpS p')):KpSt w0 w' (k+1) key p' m' L':=by
 have hz:=h.below.size
 refine⟨hi,hr,hk.trans h.mkey,⟨U,hU,hG⟩,hl,h.below.trans (hf.below hz fun i hi hj=>by have:=h.new i hj;omega),fun i hi=>?_⟩
 rcases hs i hi with e|e
 ·exact h.new i e
 ·omega
theorem KpSt.append (h:KpSt w0 w k key p m L) (hk:k≤8000) (hn:NumEnv w0) (hS:Sents w0 F) (hT:ErrT w0) (s:ByteArray) (hs:s.size≤20) :
  Calls prog 12 #[.pointer (some ⟨p.gl,0,none⟩),.string s] w (KpNext w0 w (k+1) key p (moreW m L s) (.returned (.tuple #[.int .i64 m.es.length,toldV 0 ⟨#[]⟩]))):=by
 obtain⟨U,hU,hG⟩:=h.good
 obtain⟨_,_,hen,hlv,hfl,_⟩:=hG.run L h.rdw.log
 have hlen:L.entries.length=m.es.length:=by rw[hen,lists_len]
 have hfew:=h.few
 have hc:=pappend_any F w p.gl p.g p.gd p.ve p.vl p.vp p.vs L s h.is.pl h.is.log (envS_of h.below hn hS hT fun i hi=>h.new i (.inr (.inr hi))) hlv (by omega)
 refine hc.mono fun e w' hq=>?_
 unfold pappPost at hq
 rw[if_neg (by simp;exact hs),if_neg (by rw[h.rdw.live];simp)] at hq
 obtain⟨he,ve',vl',vs',hl',hf,hsub⟩:=hq
 have hkl:=kinds_log h.is.log
 have hF:Fr (kpS p) w w':=hf.weak fun i _ hi=>.inr (.inr hi)
 refine⟨by rw[←hlen];exact he,{ p with ve:=ve',vl:=vl',vs:=vs' },_,rfl,rfl,h.turn (U:=L.entries.length / 4 :: U) ⟨h.is.disk.kept hf hkl (by decide) (by decide),heap_kept h.is.pl hf hkl (by decide),hl'⟩ (rdw0_more h.rdw hs) rfl (by rw[List.length_cons];omega) ((good_append hG h.rdw.log h.rdw.failed hs).bound (by omega)) ?_ hF ?_,hF⟩
 ·show (m.es ++ [s]).length≤k+1
  rw[List.length_append]
  simp
  omega
 ·intro i hi
  rcases hi with hi|hi|hi
  ·exact .inl (.inl hi)
  ·exact .inl (.inr (.inl hi))
  ·exact (hsub i hi).imp (fun e=>.inr (.inr e)) id
theorem KpSt.publish (h:KpSt w0 w k key p m L) (hk:k≤8000) (hn:NumEnv w0) (hS:Sents w0 F) (hT:ErrT w0) (hkey:key.size≤9223372036854775807) :
  Calls prog 15 #[.pointer (some ⟨p.gl,0,none⟩)] w (KpNext w0 w (k+1) key p (pubW m L) (.returned (.tuple #[.int .i64 m.es.length,toldV 0 ⟨#[]⟩]))):=by
 obtain⟨U,hU,hG⟩:=h.good
 obtain⟨_,hmk,hen,hlv,hfl,hky⟩:=hG.run L h.rdw.log
 have hlen:L.entries.length=m.es.length:=by rw[hen,lists_len]
 have hfew:=h.few
 have hes:m.es.length≤1048576:=by omega
 have h1:=hG.sane.calls
 have h2:=hG.sane.len
 have hc:=ppublish_any F w p.gl p.g p.gd p.v p.ve p.vl p.vp p.vs m.d L h.is.pl h.is.log h.is.disk (envS_of h.below hn hS hT fun i hi=>h.new i (.inr hi)) hlv (by omega) (by rw[hen];exact h.rdw.short) hmk (by omega) (by omega) (by rw[hky,h.mkey];exact hkey)
 refine hc.mono fun e w' hq=>?_
 unfold ppubPost at hq
 rw[if_neg (by rw[h.rdw.live];simp)] at hq
 obtain⟨v',vp',Q,hQ,hD,hL,hf,hsub,hend⟩:=hq
 have hnone:=(rdw_fine h.rdw hes).1
 subst hQ
 have he:e=.returned (.tuple #[.int .i64 L.entries.length,toldV 0 ⟨#[]⟩]):=by
  rcases hend with ⟨_,e1⟩|⟨q,e1,_⟩
  ·exact e1
  ·rw[hnone] at e1;cases e1
 have hGp:=good_publish hG (by omega) h.rdw.log h.rdw.failed (rdw_noClash h.rdw hes) m.es.length false
 have hGp2:Good (pubW m L) U ((k+1+1)*2097152):=by
  rw[hnone] at hGp
  refine (Good.bound ?_ (show (k+1)*2097152+1048576≤(k+1+1)*2097152 by omega))
  unfold pubW
  rw[hnone,h.rdw.failed]
  exact hGp
 have hF:Fr (kpS p) w w':=hf.weak fun i _ hi=>.inr hi
 refine⟨by rw[←hlen];exact he,{ p with v:=v',vp:=vp' },_,rfl,rfl,h.turn (U:=U) ⟨hD,?_,hL⟩ (rdw_pub h.rdw hes).toRdW0 rfl (by omega) hGp2 (by show m.es.length≤k+1;omega) hF ?_,hF⟩
 ·exact heap_kept h.is.pl hf ((kinds_disk h.is.disk).or (kinds_log h.is.log)) (by decide)
 ·intro i hi
  rcases hi with hi|hi
  ·exact .inl (.inl hi)
  ·exact (hsub i hi).imp (fun e=>.inr e) id
end
def KpOpened (w:World) (gd:Nat) (v:Value) (d:Dk) (key:ByteArray) (ss:List ByteArray) (n:Nat) (e:Ending) (w':World):Prop:=
 ∃ p d' j,e=.returned (.tuple #[.pointer (some ⟨p.gl,0,none⟩),toldV 0 ⟨#[]⟩])∧p.gd=gd∧p.v=v∧Calm j d d'∧KpIs w' p ⟨key,d',some ⟨key,lists ss,levels (lists ss),[],false⟩,ss,n,false,false⟩ ⟨key,lists ss,levels (lists ss),[],false⟩∧Fr (·=gd) w w'∧(∀ i,kpS p i→dkS gd v i∨w.heap.size≤i)∧j≤2097152
theorem kp_open {F:Nat→Addr} {w:World} {gd:Nat} {v:Value} {d:Dk} {key:ByteArray} {ss:List ByteArray} {n:Nat} {U:List Nat} {K:Nat} (hD:DiskAt w gd v d) (hE:EnvS F (·=gd) w) (hq:Quiet d) (hs:Sane d U K) (hU:U.length≤16384) (hK:K<900000000000) (hkey:key.size≤9223372036854775807) (ho:OpensTo d.files key (.good (lists ss) n)) :
  Calls prog 10 #[.pointer (some ⟨gd,0,none⟩),.string key] w (KpOpened w gd v d key ss n):=by
 have hcl:=hs.calls
 refine (popen_any F w gd v d key hD U.length hE (hs.few (by omega)) (by omega) (by omega) hs.size hkey).mono fun e w' hp=>?_
 obtain⟨d',hD',hf,h1|h1|h1⟩:=hp
 ·exfalso
  obtain⟨_,h2,_⟩:=h1
  have:=h2.why
  rw[hq.dead,hq.failAt] at this
  simp at this
 ·obtain⟨j,q,_,h2,_⟩:=h1
  exact absurd (h2.one ho) (by simp)
 ·obtain⟨es,n',gl,g,hc,h2,he,hpl,hgl,ve,vl,vs,hl,hg,hls⟩:=h1
  have e1:=h2.one ho
  simp only[Opn.good.injEq] at e1
  obtain⟨rfl,rfl⟩:=e1
  refine⟨⟨0,gd,v,.slice none 0 0,gl,g,ve,vl,.slice none 0 0,vs⟩,d',_,he,rfl,rfl,hc,⟨hD',hpl,hl⟩,hf,fun i hi=>?_,by omega⟩
  rcases hi with hi|hi|hi
  ·have:i=gl:=hi
   exact .inr (by omega)
  ·exact .inl hi
  ·exact .inr (hls i hi)
theorem kp_new {w0 w w':World} {gd:Nat} {v:Value} {key:ByteArray} {p:Pl} {d':Dk} {j:Nat} (hb:Below w0.heap.size w0 w) (hg:w0.heap.size≤gd) (hv:∀ i,v.ownBlock=some i→w0.heap.size≤i) (hc:Calm j (dk0 (firsts [])) d') (hj:j≤2097152)
  (hk:KpIs w' p ⟨key,d',some ⟨key,lists [],levels (lists []),[],false⟩,[],0,false,false⟩ ⟨key,lists [],levels (lists []),[],false⟩) (hf:Fr (·=gd) w w') (hS:∀ i,kpS p i→dkS gd v i∨w.heap.size≤i) :
  KpSt w0 w' 0 key p ⟨key,d',some ⟨key,lists [],levels (lists []),[],false⟩,[],0,false,false⟩ ⟨key,lists [],levels (lists []),[],false⟩:=by
 have hG0:Good ⟨key,dk0 (firsts []),none,[],0,false,false⟩ [] 0:=⟨sane_new (l:=[]) (Nat.le_refl _) (fun f hf=>by simp at hf),fun L hL=>by cases hL⟩
 have hq:Quiet (dk0 (firsts [])):=⟨rfl,rfl,rfl⟩
 have hG1:=good_open (d':=d') (k:=j) (ss:=[]) (n:=0) hG0 (by simp) hc (open_empty key) false
 have hz:=hb.size
 refine⟨hk,(rdw_new key rfl rfl rfl rfl rfl rfl rfl rfl rfl rfl (hq.calm hc) hc.turned hc.files).toRdW0,rfl,⟨[],Nat.le_refl _,hG1.bound (by omega)⟩,Nat.zero_le _,hb.trans (hf.below hz fun i hi e=>by omega),fun i hi=>?_⟩
 rcases hS i hi with (e|e)|e
 ·omega
 ·exact hv i e
 ·omega
end
end Go.Proofs.YtefccfakhgdfbabGreatDoor
