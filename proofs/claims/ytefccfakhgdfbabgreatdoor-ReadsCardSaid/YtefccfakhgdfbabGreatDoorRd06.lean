/- A client's questions where nothing but the truth is taken: the hashes, the roots, the paths: plain. Conditions: at most 2^20 entries of at most 20 bytes. -/
import Derived.Test.YtefccfakhgdfbabGreatDoorRd05
import Derived.StillTailTactics
import Derived.Conc.MuLone
import Derived.Conc.RwLib
import Derived.Conc.MuData
set_option linter.unusedVariables false
set_option linter.unusedSimpArgs false
open Go.RowKit Go.Proofs.Tryz
set_option maxRecDepth 100000
set_option maxHeartbeats 4000000
namespace Go.Proofs.YtefccfakhgdfbabGreatDoor
section
section
variable [Inhabited OutT]
variable {w:World} {m n g:Nat} {ps:List (Nat×ByteArray×Value)}
theorem Qlc {k:TypeId} {get:ByteArray→Option Value} {mo:Nat} (h:KmAt w k m get n) (hr:Je w g m mo ps):m≠g∧m ∉ ps.map (·.1):=by
 have:=(inferInstance:Inhabited OutT)
 obtain⟨D,⟨es,c,hb,_⟩,_⟩:=h.ex;refine⟨?_,fun hm=>?_⟩
 ·rintro rfl
  obtain⟨l,e,h2⟩:=hr.ends;rw[hb] at h2;cases h2
 ·obtain⟨k',v,_,l,e,h2⟩:=hr.node hm
  rw[hb] at h2;cases h2
theorem Qgf (h:Je w g m n ps):Qb7 w (fun i=>i=g∨i∈ps.map (·.1)):=by
 have:=(inferInstance:Inhabited OutT)
 intro k C fz hk hs;rcases hs with rfl|hs
 ·obtain⟨l,e,h2⟩:=h.ends
  rw[hk] at h2;cases h2
 ·obtain⟨k',v,_,l,e,h2⟩:=h.node hs
  rw[hk] at h2;cases h2
def Qmq (w:World) (g m:Nat) (c:Cch) (qs:List CEnt) (k:ByteArray) (e:Ending) (w':World):Prop:=
 (cfind qs k=none∧e=.returned (.tuple #[.slice none 0 0,.bool false])∧w'=w)∨
 ∃ q qs',cfind qs k=some q∧e=.returned (.tuple #[q.val,.bool true])∧Zx w' g m (Yi c k) qs'∧q∈qs'∧Fr (Yh g m qs) w w'∧w'.heap.size=w.heap.size∧∀ i,Yh g m qs' i↔Yh g m qs i
theorem Q3z (w:World) (g m:Nat) (c:Cch) (qs:List CEnt) (k:ByteArray) (h:Zx w g m c qs) (hk:k.size≤maxLen) (hf:cfind qs k=none) :
  Calls prog 146 #[.pointer (some ⟨g,0,none⟩),.string k] w (Qmq w g m c qs k):=by
 have hc1:=h.ring.ends.all;have hcg:cget qs k=none:=by simp[cget,hf]
 have KM:=zh h.km
 go_enter func146,ntmps146
 go_wp2_with (first|(at_lookup;refine Yo _ rfl _ _ 241 rfl 9 242 underlying9 underlying241 (z:=.pointer none) rfl m qs.length (cget qs) rfl KM.o k rfl hk ?_;rw[hcg];simp only[Option.getD,Option.isSome])|fail)
 refine bodyPost_ret (results_tmp2 rfl _ _ _) rfl ?_;exact .inl ⟨hf,rfl,rfl⟩
variable {qs:List CEnt}
theorem Q6a (hn:(qs.map (·.key)).Nodup) {x y:CEnt} (hx:x∈qs) (hy:y∈qs) (e:x.key=y.key):x=y:=by
 have:=(inferInstance:Inhabited OutT)
 induction qs with
 | nil=>cases hx
 | cons a qs ih=>
  rw[List.map_cons,List.nodup_cons] at hn;rcases List.mem_cons.1 hx with h1|h1
  ·rcases List.mem_cons.1 hy with h2|h2
   ·rw[h1,h2]
   ·subst h1
    exact absurd (List.mem_map.2 ⟨y,h2,e.symm⟩) hn.1
  ·rcases List.mem_cons.1 hy with h2|h2
   ·subst h2
    exact absurd (List.mem_map.2 ⟨x,h1,e⟩) hn.1
   ·exact ih hn.2 h1 h2
variable {q:CEnt}
theorem Qbv (hn:(qs.map (·.key)).Nodup) {s:ByteArray}:cfind qs s=some q↔q∈qs∧q.key=s:=by
 constructor
 ·intro h
  obtain⟨h1,l,r,rfl,_⟩:=Qb9 h;exact⟨by simp,h1⟩
 ·rintro ⟨h1,h2⟩
  cases h:cfind qs s with
  | none=>exact absurd h2 (Qgz h q h1)
  | some x=>
   obtain⟨h3,l,r,h4,_⟩:=Qb9 h;rw[Q6a hn (x:=x) (y:=q) (by rw[h4];simp) h1 (h3.trans h2.symm)]
variable {rs:List CEnt}
theorem Quz (hn:(qs.map (·.key)).Nodup) (hm:(rs.map (·.key)).Nodup) (h:∀ x,x∈qs↔x∈rs) (s:ByteArray):cfind qs s=cfind rs s:=by
 cases h1:cfind rs s with
 | none=>
  cases h2:cfind qs s with
  | none=>rfl
  | some x=>exact absurd ((Qbv hn).1 h2).2 (Qgz h1 x ((h x).1 ((Qbv hn).1 h2).1))
 | some x=>exact (Qbv hn).2 ⟨(h x).2 ((Qbv hm).1 h1).1,((Qbv hm).1 h1).2⟩
theorem Qwu (hn:(qs.map (·.key)).Nodup) (hm:(rs.map (·.key)).Nodup) (h:∀ x,x∈qs↔x∈rs):cget qs=cget rs:=by
 funext s
 unfold cget;rw[Quz hn hm h]
theorem Zx.got {w':World} {c:Cch} {l r:List CEnt} (h:Zx w g m c (l++q :: r)) (hr:Je w' g m c.most ((q :: (l++r)).map CEnt.tri)) (hf:Fr (fun i=>i=g∨i∈((l++q :: r).map CEnt.tri).map (·.1)) w w') :
  Zx w' g m (Yi c q.key) (q :: (l++r)):=by
 have hp:(l++q :: r).Perm (q :: (l++r)):=List.perm_middle;have hk:((q :: (l++r)).map (·.key)).Nodup:=(List.Perm.nodup_iff (hp.map _)).1 h.keys;have hmem:∀ x,x∈q :: (l++r)↔x∈l++q :: r:=fun x=>hp.symm.mem_iff
 have hg:Z3 c.items q.key=some q.data:=by rw[h.items,Qd0,(Qbv h.keys).2 ⟨by simp,rfl⟩];rfl
 have hlen:(q :: (l++r)).length=(l++q :: r).length:=hp.symm.length_eq;have ec:Yi c q.key={ c with items:=(q.key,q.data) :: Jb c.items q.key }:=by unfold Yi;rw[hg]
 have hkm:=h.km;rw[←Qwu hk h.keys hmem,←hlen] at hkm;have hni:=Qlc h.km h.ring;refine⟨by rw[ec];exact hr,?_,fun x hx=>?_,hkm.fr hf (by rintro (e|e);exact hni.1 e;exact hni.2 e),hk,fun x hx=>h.small x ((hmem x).1 hx),?_,by rw[ec];exact h.most⟩
 ·rw[ec]
  show (q.key,q.data) :: Jb c.items q.key=_;rw[h.items,Qrf,Qot rfl h.keys];rfl
 ·exact (h.vals x ((hmem x).1 hx)).same fun k C fz hk=>hf.block k (Qc hk) (Qgf h.ring k C fz hk)
 ·rw[ec,hlen];exact h.fits
theorem Q3m (w:World) (g m:Nat) (c:Cch) (l r:List CEnt) (q:CEnt) (h:Zx w g m c (l++q :: r)) (hk:q.key.size≤maxLen) :
  Calls prog 146 #[.pointer (some ⟨g,0,none⟩),.string q.key] w (Qmq w g m c (l++q :: r) q.key):=by
 have hc1:=h.ring.ends.all;have hf:cfind (l++q :: r) q.key=some q:=(Qbv h.keys).2 ⟨by simp,rfl⟩;have hcg:cget (l++q :: r) q.key=some (.pointer (some ⟨q.b,0,none⟩)):=by simp[cget,hf]
 have hr:Je w g m c.most (l.map CEnt.tri++(q.b,q.key,q.val) :: r.map CEnt.tri):=by have:=h.ring;rwa [List.map_append,List.map_cons] at this
 have KM:=zh h.km;have hnb:q.b ∉ (l.map CEnt.tri++r.map CEnt.tri).map (·.1):=by
  have h1:=hr.nd;have h2:((l.map CEnt.tri++(q.b,q.key,q.val) :: r.map CEnt.tri).map (·.1)).Perm (q.b :: (l.map CEnt.tri++r.map CEnt.tri).map (·.1)):=by
   have:=(List.perm_middle (a:=(q.b,q.key,q.val)) (l₁:=l.map CEnt.tri) (l₂:=r.map CEnt.tri)).map (·.1)
   exact this
  exact (List.nodup_cons.1 ((List.Perm.nodup_iff h2).1 h1)).1
 have HR:=zh hr;have HNB:=zh hnb;clear hnb
 go_enter func146,ntmps146
 go_wp2_with (first
  | (at_lookup;refine Yo _ rfl _ _ 241 rfl 9 242 underlying9 underlying241 (z:=.pointer none) rfl m (l++q :: r).length (cget (l++q :: r)) rfl KM.o q.key rfl hk ?_;rw[hcg];simp only[Option.getD,Option.isSome])
  | (go_at_call 183;refine (Qmw w g m c.most _ _ q.b q.key q.val HR.o _).mono ?_;rintro e w1 ⟨rfl,hr1,hn1,hf1,hs1⟩;have HR1:=zh hr1;have HN1:=zh hn1;have HF1:=zh hf1;have HS1:=zh hs1;clear hr1 hn1 hf1 hs1)
  | (go_at_call 184;refine (Qg1 _ g m c.most _ q.b q.key q.val HR1.o HNB.o HN1.o).mono ?_;rintro e w2 ⟨rfl,hr2,hf2,hs2⟩;have HV:=(hr2.nodes _ (.head _)).val;have HR2:=zh hr2;have HF2:=zh hf2;have HS2:=zh hs2;clear hr2 hf2 hs2)
  | fail)
 refine bodyPost_ret (results_tmp2 rfl _ _ _) rfl ?_;have hin:∀ i,(i=g∨i∈((l.map CEnt.tri++(q.b,q.key,q.val) :: r.map CEnt.tri)).map (·.1))↔(i=g∨i∈((l++q :: r).map CEnt.tri).map (·.1)):=fun i=>by simp[CEnt.tri]
 have hf1:Fr (fun i=>i=g∨i∈((l++q :: r).map CEnt.tri).map (·.1)) w w1:=HF1.o.weak fun i _ hi=>(hin i).1 hi
 have hf2:Fr (fun i=>i=g∨i∈((l++q :: r).map CEnt.tri).map (·.1)) w1 w2:=HF2.o.weak fun i _ hi=>by
  rw[←hin];rcases hi with rfl|rfl|hi
  ·exact .inl rfl
  ·exact .inr (by simp)
  ·refine .inr ?_
   simp only[List.map_append,List.map_cons,List.mem_append,List.mem_cons] at hi ⊢;rcases hi with hi|hi
   ·exact .inl hi
   ·exact .inr (.inr hi)
 have hff:=hf1.trans hf2;have hr2:Je w2 g m c.most ((q :: (l++r)).map CEnt.tri):=by have:=HR2.o;rwa [List.map_cons,List.map_append]
 refine .inr ⟨q,q :: (l++r),hf,rfl,h.got hr2 hff,.head _,hff.weak fun i _ hi=>?_,HS2.o.trans HS1.o,fun i=>?_⟩
 ·rw[Qce] at hi
  rcases hi with hi|hi
  ·exact .inl hi
  ·exact .inr (.inr hi)
 ·have hp:((q :: (l++r)).map (·.b)).Perm ((l++q :: r).map (·.b)):=List.perm_middle.symm.map _
  unfold Yh;rw[hp.mem_iff]
theorem Qk7 (w:World) (g m:Nat) (c:Cch) (qs:List CEnt) (k:ByteArray) (h:Zx w g m c qs) (hk:k.size≤maxLen) :
  Calls prog 146 #[.pointer (some ⟨g,0,none⟩),.string k] w (Qmq w g m c qs k):=by
 cases hf:cfind qs k with
 | none=>exact Q3z w g m c qs k h hk hf
 | some q=>
  obtain⟨rfl,l,r,rfl,_⟩:=Qb9 hf;exact Q3m w g m c l r q h hk
end
end
section
section
variable [Inhabited OutT]
theorem Qen (w:World) (o:Obj):(w.alloc o).heap.size=w.heap.size+1:=have:=(inferInstance:Inhabited OutT);Array.size_push _
theorem Q4i (w:World) (i:Int) (hi:i≤9223372036854775807) :
  Calls prog 82 #[.int .i64 i] w (fun e w'=>∃ g m,e=.returned (.pointer (some ⟨g,0,none⟩))∧Zx w' g m ⟨i.toNat,[]⟩ []∧Below w.heap.size w w'∧w.heap.size≤g∧w.heap.size≤m):=by
 have hmm:=@run_makeMap prog
 go_enter func82,ntmps82
 go_upto_region 2 with fail
 first|rw[show (if i<0 then 0 else i)=(i.toNat:Int) by split <;> omega]|rw[show max i 0=(i.toNat:Int) by omega]
 obtain⟨W,hW⟩:∃ W,W=(w.alloc (.map #[] 0)).alloc (.cells #[.int .i64 i.toNat,.map (some w.heap.size),.string ⟨#[]⟩,.slice none 0 0,.pointer none,.pointer none] 246):=⟨_,rfl⟩
 rw[←hW];obtain⟨g,hg⟩:∃ g,g=w.heap.size+1:=⟨_,rfl⟩
 rw[←hg];have hb:Below w.heap.size w W:=by rw[hW];exact (Qa w _).trans ((Qa (w.alloc (.map #[] 0)) _).mono (by rw[Qen];exact Nat.le_succ _))
 have hend:W.heap[g]?=some (.cells #[.int .i64 i.toNat,.map (some w.heap.size),.string ⟨#[]⟩,.slice none 0 0,.pointer none,.pointer none] 246 (0,0)):=by rw[hW,hg,←Qen w (.map #[] 0)];exact Array.getElem?_push_size
 have hmap:W.heap[w.heap.size]?=some (.map #[] 0):=by rw[hW];refine (heap_alloc_old _ _ (by rw[Qen];exact Nat.lt_succ_self _)).trans ?_;exact Array.getElem?_push_size
 have c4:W.drew.cell? ⟨g,4,none⟩=some (.pointer none):=Qd hend 4 rfl;have c5:W.drew.cell? ⟨g,5,none⟩=some (.pointer none):=Qd hend 5 rfl;have f4:W.drew.frozen? ⟨g,4,none⟩=false:=Qq hend 4;have f5:W.drew.frozen? ⟨g,5,none⟩=false:=Qq hend 5;have k4:(W.setCell ⟨g,5,none⟩ (.pointer (some ⟨g,2,none⟩))).drew.cell? ⟨g,4,none⟩=some (.pointer none):=(World.cell?_setCell_other _ _ _ _ (by simp)).trans c4;have k5:(W.setCell ⟨g,5,none⟩ (.pointer (some ⟨g,2,none⟩))).drew.frozen? ⟨g,4,none⟩=false:=(World.frozen?_setCell _ _ _ _).trans f4;have HW:=zh hW;have HB:=zh hb;have HE:=zh hend;have HM:=zh hmap;have HG:=zh hg;clear hW hb hend hmap hg;go_region;obtain⟨W2,hW2⟩:∃ W2,W2=((W.setCell ⟨g,5,none⟩ (.pointer (some ⟨g,2,none⟩))).setCell ⟨g,4,none⟩ (.pointer (some ⟨g,2,none⟩))).drew:=⟨_,rfl⟩
 rw[←hW2];have hT:Two W W2 ⟨g,5,none⟩ (.pointer (some ⟨g,2,none⟩)) ⟨g,4,none⟩ (.pointer (some ⟨g,2,none⟩)):=.inl hW2;have HT:=zh hT;clear hW2 hT;go_wp2;refine bodyPost_ret (results_tmp rfl _ _ _) rfl ?_;have n54:(⟨g,5,none⟩:Addr)≠⟨g,4,none⟩:=by simp
 have hgm:w.heap.size≠g:=by rw[HG.o];exact Nat.ne_of_lt (Nat.lt_succ_self _)
 have hE:Ends W g w.heap.size i.toNat:=⟨none,none,HE.o⟩
 refine⟨g,w.heap.size,rfl,⟨⟨hE.two HT.o (fun _=>.inr rfl) (fun _=>.inl rfl),fun p hp=>(by cases hp),⟨HT.o.left c5 n54,HT.o.right c4 n54⟩,List.nodup_nil⟩,rfl,fun q hq=>(by cases hq),?_,List.nodup_nil,fun q hq=>(by cases hq),Nat.zero_le _,?_⟩,?_,by rw[HG.o];exact Nat.le_succ _,Nat.le_refl _⟩
 ·have h1:=(KmAt.made_at W 9 HM.o).fr HT.o.fr (by rintro (e|e) <;> exact hgm e)
  exact h1
 ·show i.toNat≤maxLen
  have:maxLen=9223372036854775807:=rfl
  omega
 ·refine⟨HT.o.fr.os.trans HB.o.os,HT.o.fr.tape.trans HB.o.tape,HT.o.fr.output.trans HB.o.output,Nat.le_trans HB.o.size HT.o.fr.size,fun k hk=>?_⟩
  refine (HT.o.fr.block k (Nat.lt_of_lt_of_le hk HB.o.size) ?_).trans (HB.o.block k hk);rintro (e|e) <;> (have e:k=g:=e;have:=HG.o;omega)
end
end
section
section
variable [Inhabited OutT]
def Ql3 (w:World) (g m:Nat) (c:Cch) (qs:List CEnt) (k:ByteArray) (dat:List UInt8) (e:Ending) (w':World):Prop:=
 e=.returned (.tuple #[])∧∃ qs',Zx w' g m (Z1 c k dat) qs'∧qs'.length≤qs.length+1∧Fr (Yh g m qs) w w'∧∀ i,i<w.heap.size→Yh g m qs' i→Yh g m qs i
theorem Zx.fr {w w':World} {g m:Nat} {c:Cch} {qs:List CEnt} (h:Zx w g m c qs) {S:Nat→Prop} (hf:Fr S w w') (hs:∀ i,Yh g m qs i→¬ S i) (hn:Qb7 w S):Zx w' g m c qs:=by
 have hb:∀ q∈qs,¬ S q.b:=fun q hq=>hs _ (.inr (.inr (List.mem_map_of_mem hq)))
 have hg:¬ S g:=hs _ (.inl rfl);have hE:w'.heap[g]?=w.heap[g]?:=by obtain⟨l,e,h2⟩:=h.ring.ends;exact hf.block g (Qc h2) hg
 have hN:∀ b∈(qs.map CEnt.tri).map (·.1),w'.heap[b]?=w.heap[b]?:=by intro b hb';obtain⟨k,v,_,l,e,h2⟩:=h.ring.node hb';rw[Qce] at hb';exact hf.block b (Qc h2) (hs _ (.inr (.inr hb')))
 refine⟨⟨h.ring.ends.below hE,fun p hp=>(h.ring.nodes p hp).below (hN _ (List.mem_map_of_mem hp)),?_,h.ring.nd⟩,h.items,fun q hq=>?_,h.km.fr hf (hs _ (.inr (.inl rfl))),h.keys,h.small,h.fits,h.most⟩
 ·refine h.ring.chn.agree (fun y hy=>?_) (fun y hy=>?_)
  ·rcases hy with rfl|⟨b,hb',rfl⟩
   ·exact World.cell?_of_block (w:=w) hE
   ·exact World.cell?_of_block (w:=w) (hN b hb')
  ·rcases hy with rfl|⟨b,hb',rfl⟩
   ·exact World.cell?_of_block (w:=w) hE
   ·exact World.cell?_of_block (w:=w) (hN b hb')
 ·exact (h.vals q hq).same fun k C fz hk=>hf.block k (Qc hk) (hn k C fz hk)
theorem Q1q (w:World) (g m:Nat) (c:Cch) (qs:List CEnt) (k:ByteArray) (v:Value) (dat:List UInt8) (h:Zx w g m c qs) (h0:c.most=0) :
  Calls prog 145 #[.pointer (some ⟨g,0,none⟩),.string k,v] w (Ql3 w g m c qs k dat):=by
 have hm:=h.ring.ends.most;rw[h0] at hm;have H:=zh h;clear h
 go_enter func145,ntmps145
 go_wp2;refine bodyPost_ret (results_none rfl _ _ _) rfl ⟨rfl,qs,?_,Nat.le_succ _,Fr.refl _ _,fun _ _ hi=>hi⟩;unfold Z1;rw[if_pos h0];exact H.o
variable {w w':World} {g m n:Nat} {ps:List (Nat×ByteArray×Value)} {S:Nat→Prop}
theorem Je.fr (h:Je w g m n ps) (hf:Fr S w w') (hg:¬ S g) (hs:∀ b∈ps.map (·.1),¬ S b):Je w' g m n ps:=by
 have:=(inferInstance:Inhabited OutT)
 have hE:w'.heap[g]?=w.heap[g]?:=by obtain⟨l,e,h2⟩:=h.ends;exact hf.block g (Qc h2) hg
 have hN:∀ b∈ps.map (·.1),w'.heap[b]?=w.heap[b]?:=by intro b hb';obtain⟨k,v,_,l,e,h2⟩:=h.node hb';exact hf.block b (Qc h2) (hs b hb')
 refine⟨h.ends.below hE,fun p hp=>(h.nodes p hp).below (hN _ (List.mem_map_of_mem hp)),h.chn.agree (fun y hy=>?_) (fun y hy=>?_),h.nd⟩
 ·rcases hy with rfl|⟨b,hb',rfl⟩
  ·exact World.cell?_of_block (w:=w) hE
  ·exact World.cell?_of_block (w:=w) (hN b hb')
 ·rcases hy with rfl|⟨b,hb',rfl⟩
  ·exact World.cell?_of_block (w:=w) hE
  ·exact World.cell?_of_block (w:=w) (hN b hb')
variable {b:Nat}
theorem Je.lt (h:Je w g m n ps) (hb:b∈ps.map (·.1)):b<w.heap.size:=by
 have:=(inferInstance:Inhabited OutT)
 obtain⟨k,v,_,l,e,h2⟩:=h.node hb;exact Qc h2
theorem Qql (w:World) (k:ByteArray) (v:Value):Node (w.alloc (.cells #[.string k,v,.pointer none,.pointer none] 244)) w.heap.size k v:=have:=(inferInstance:Inhabited OutT);⟨none,none,Array.getElem?_push_size⟩
variable {w1 w2:World} {k:ByteArray} {v:Value}
theorem Qn4 (h:w2=w1.alloc (.cells #[.string k,v,.pointer none,.pointer none] 244)):Fr (fun _=>False) w1 w2∧Node w2 w1.heap.size k v:=by subst h;exact⟨Fr.ofBelow (Qa _ _),Qql _ _ _⟩
variable {c:Cch} {qs:List CEnt} {get:ByteArray→Option Value}
theorem Zx.newer {rs:List CEnt} {dat:List UInt8} (h:Zx w g m c qs) (hsub:∀ x∈rs,x∈qs) (hn:(rs.map (·.key)).Nodup) (hk:∀ x∈rs,x.key≠k) (hks:k.size≤maxLen) (hl:rs.length+1≤c.most)
  (hr:Je w' g m c.most ((b,k,v) :: rs.map CEnt.tri)) (hv:OwnB w' 0 v dat) (hvs:∀ x∈rs,OwnB w' 0 x.val x.data) (hkm:KmAt w' 9 m get (rs.length+1))
  (hget:∀ u,get u=if u=k then some (.pointer (some ⟨b,0,none⟩)) else cget rs u):Zx w' g m { c with items:=(k,dat) :: rs.map CEnt.kv } (⟨b,k,v,dat⟩ :: rs):=by
 have he:get=cget (⟨b,k,v,dat⟩ :: rs):=by
  funext u
  rw[hget u];unfold cget cfind;by_cases e:u=k
  ·rw[if_pos e,List.find?_cons_of_pos (by simp[e])];rfl
  ·rw[if_neg e,List.find?_cons_of_neg (by simp;exact fun q=>e q.symm)]
 rw[he] at hkm;refine⟨hr,rfl,fun q hq=>?_,hkm,?_,fun q hq=>?_,hl,h.most⟩
 ·rcases List.mem_cons.1 hq with rfl|hq
  ·exact hv
  ·exact hvs q hq
 ·rw[List.map_cons,List.nodup_cons]
  refine⟨fun hm=>?_,hn⟩;obtain⟨x,hx,e⟩:=List.mem_map.1 hm;exact hk x hx e
 ·rcases List.mem_cons.1 hq with rfl|hq
  ·exact hks
  ·exact h.small q (hsub q hq)
theorem Qet (h:Zx w g m c qs):Qb7 w (Yh g m qs):=by
 intro k C fz hk hs;rcases hs with rfl|rfl|hs
 ·exact Qgf h.ring _ C fz hk (.inl rfl)
 ·obtain⟨D,⟨es,cl,hb,_⟩,_⟩:=h.km.ex
  rw[hk] at hb;cases hb
 ·exact Qgf h.ring _ C fz hk (.inr (by rw[Qce];exact hs))
theorem Qrd {l r:List CEnt} {q:CEnt} {u:ByteArray} (h:u≠q.key):cget (l++q :: r) u=cget (l++r) u:=by
 have:=(inferInstance:Inhabited OutT)
 unfold cget cfind;rw[List.find?_append,List.find?_append,List.find?_cons_of_neg (by simp;exact fun e=>h e.symm)]
theorem Q2a (w:World) (g m:Nat) (c:Cch) (l r:List CEnt) (q:CEnt) (a:Option Addr) (n cc:Nat) (dat:List UInt8) (h:Zx w g m c (l++q :: r)) (hv:OwnB w 0 (.slice a n cc) dat) (h0:c.most≠0) (hk:q.key.size≤maxLen) (hlen:(l++q :: r).length<maxLen) :
  Calls prog 145 #[.pointer (some ⟨g,0,none⟩),.string q.key,.slice a n cc] w (Ql3 w g m c (l++q :: r) q.key dat):=by
 have hm:=h.ring.ends.most;have hc1:=h.ring.ends.all;have hz:((c.most:Int)=0)=False:=by simp[h0]
 have hf:cfind (l++q :: r) q.key=some q:=(Qbv h.keys).2 ⟨by simp,rfl⟩;have hcg:cget (l++q :: r) q.key=some (.pointer (some ⟨q.b,0,none⟩)):=by simp[cget,hf]
 have hr:Je w g m c.most (l.map CEnt.tri++(q.b,q.key,q.val) :: r.map CEnt.tri):=by have:=h.ring;rwa [List.map_append,List.map_cons] at this
 have hni:=Qlc h.km h.ring;have hmg:m≠g:=hni.1;have hmr:∀ b∈(l.map CEnt.tri++r.map CEnt.tri).map (·.1),¬ b=m:=by
  rintro b hb rfl;refine hni.2 ?_;simp only[List.map_append,List.map_cons,List.mem_append,List.mem_cons] at hb ⊢;rcases hb with hb|hb
  ·exact .inl hb
  ·exact .inr (.inr hb)
 have hmw:=h.km.lt;have KM:=zh h.km;have HR:=zh hr;have HNI:=zh hni;have H:=zh h;have HV:=zh hv;clear hr hni h hv
 go_enter func145,ntmps145
 go_wp2_with (first
  | (at_lookup;refine Yo _ rfl _ _ 241 rfl 9 242 underlying9 underlying241 (z:=.pointer none) rfl m (l++q :: r).length (cget (l++q :: r)) rfl KM.o q.key rfl hk ?_;rw[hcg];simp only[Option.getD,Option.isSome])
  | (go_at_call 183;refine (Qmw w g m c.most _ _ q.b q.key q.val HR.o _).mono ?_;rintro e w1 ⟨rfl,hr1,hn1,hf1,hs1⟩;obtain⟨w2,hw2⟩:∃ w2,w2=w1.alloc (.cells #[.string q.key,.slice a n cc,.pointer none,.pointer none] 244):=⟨_,rfl⟩;obtain⟨hf2,hn2⟩:=Qn4 hw2;have hr2:=hr1.fr hf2 id (fun _ _=>id);have hk2:=(KM.o.fr hf1 (by rintro (e|e);exact HNI.o.1 e;exact HNI.o.2 (by simpa [CEnt.tri] using e))).fr hf2 id;have HM2:=hr2.ends.all;rw[hw2] at HM2;have HW2:=zh hw2;have HR2:=zh hr2;have HN2:=zh hn2;have HK2:=zh hk2;have HF1:=zh hf1;have HS1:=zh hs1;have HF2:=zh hf2;have HNB:=zh (fun hb=>Nat.lt_irrefl _ (hr1.lt hb):w1.heap.size ∉ (l.map CEnt.tri++r.map CEnt.tri).map (·.1));clear hr1 hn1 hf1 hs1 hw2 hf2 hr2 hn2 hk2)
  | (at_mapUpdate;rw[←HW2.o];refine Qdy _ rfl _ _ _ 241 rfl 9 242 underlying9 underlying241 m _ _ rfl HK2.o hlen q.key (.pointer (some ⟨w1.heap.size,0,none⟩)) rfl hk rfl ?_;intro w3 hk3 hf3 hs3;have HK3:=zh hk3;have HF3:=zh hf3;have HS3:=zh hs3;clear hk3 hf3 hs3)
  | (go_at_call 184;refine (Qg1 w3 g m c.most _ w1.heap.size q.key (.slice a n cc) (HR2.o.fr HF3.o (fun e=>hmg e.symm) hmr) HNB.o (HN2.o.below (HF3.o.block _ (by obtain⟨_,_,hh⟩:=HN2.o;exact Qc hh) (by have:=HS1.o;omega)))).mono ?_;rintro e w4 ⟨rfl,hr4,hf4,hs4⟩;have HR4:=zh hr4;have HF4:=zh hf4;have HS4:=zh hs4;clear hr4 hf4 hs4)
  | fail)
 have hin:∀ i,(i=g∨i∈((l.map CEnt.tri++(q.b,q.key,q.val) :: r.map CEnt.tri)).map (·.1))→Yh g m (l++q :: r) i:=by
  intro i hi;rcases hi with hi|hi
  ·exact .inl hi
  ·exact .inr (.inr (by simpa [CEnt.tri] using hi))
 have hF1:Fr (Yh g m (l++q :: r)) w w1:=HF1.o.weak fun i _ hi=>hin i hi
 have hF2:Fr (Yh g m (l++q :: r)) w w2:=hF1.step HF2.o fun _ _ hi=>hi.elim
 have hF3:Fr (Yh g m (l++q :: r)) w w3:=hF2.step HF3.o fun _ _ hi=>.inr (.inl hi)
 have hF:Fr (Yh g m (l++q :: r)) w w4:=hF3.step HF4.o fun i hi hs=>by
  rcases hs with e|e|e
  ·exact .inl e
  ·have:=HS1.o;omega
  ·refine .inr (.inr ?_)
   simp only[List.map_append,List.map_cons,List.mem_append,List.mem_cons,List.map_map] at e ⊢;rcases e with e|e
   ·exact .inl e
   ·exact .inr (.inr e)
 refine bodyPost_end (results_none rfl _ _ _) rfl ⟨rfl,⟨w1.heap.size,q.key,.slice a n cc,dat⟩ :: (l++r),?_,by simp,hF,?_⟩
 ·have hB:∀ (k:Nat) (C:Array Value) (fz:Nat×Nat),w.heap[k]?=some (Obj.cells C 5 fz)→w4.heap[k]?=w.heap[k]?:=fun k C fz hk=>hF.block k (Qc hk) (Qet H.o k C fz hk)
  have hp:(l++q :: r).Perm (q :: (l++r)):=List.perm_middle;have hks:((q :: (l++r)).map (·.key)).Nodup:=(List.Perm.nodup_iff (hp.map _)).1 H.o.keys;rw[List.map_cons,List.nodup_cons] at hks;have hlr:(l++r).length+1=(l++q :: r).length:=by simp;omega
  have hmem:∀ x∈l++r,x∈l++q :: r:=fun x hx=>hp.mem_iff.2 (.tail _ hx)
  have hg:(Z3 c.items q.key).isSome=true:=by rw[H.o.items,Qd0,hf];rfl
  have ec:Z1 c q.key dat={ c with items:=(q.key,dat) :: (l++r).map CEnt.kv }:=by unfold Z1;rw[if_neg h0,if_pos hg,H.o.items,Qrf,Qot rfl H.o.keys]
  rw[ec];have hk4:=HK3.o.fr HF4.o (by
   rintro (e|e|e)
   ·exact hmg e
   ·have:=HS1.o;omega
   ·exact hmr _ e rfl)
  rw[hcg] at hk4;simp only[Option.isSome,if_true] at hk4;rw[←hlr] at hk4;refine H.o.newer hmem hks.2 (fun x hx e=>hks.1 (List.mem_map.2 ⟨x,hx,e⟩)) hk (by rw[hlr];exact H.o.fits) ?_ (HV.o.same hB) (fun x hx=>(H.o.vals x (hmem x hx)).same hB) hk4 (fun u=>?_)
  ·rw[List.map_append];exact HR4.o
  ·by_cases e:u=q.key
   ·rw[if_pos e,if_pos e]
   ·rw[if_neg e,if_neg e,Qrd e]
 ·intro i hi hS
  rcases hS with rfl|rfl|hS
  ·exact .inl rfl
  ·exact .inr (.inl rfl)
  ·rw[List.map_cons,List.mem_cons] at hS
   rcases hS with e|hS
   ·have:=HS1.o
    have e:i=w1.heap.size:=e;omega
   ·refine .inr (.inr ?_)
    simp only[List.map_append,List.map_cons,List.mem_append,List.mem_cons] at hS ⊢;rcases hS with h|h
    ·exact .inl h
    ·exact .inr (.inr h)
theorem Qtz (h:w2=(w1.alloc (.cells #[.string k,v,.pointer none,.pointer none] 244)).drew):Fr (fun _=>False) w1 w2∧Node w2 w1.heap.size k v:=by subst h;exact⟨(Fr.ofBelow (Qa _ _)).drew,Qql _ _ _⟩
theorem KmAt.run_len {k:TypeId} (h:KmAt w k b get n) {t e:TypeId} (ht:prog.underlying t=some (.map k e)) (ty:TypeId):(Builtin.len_ #[t] ty #[.map (some b)]).run prog w=.ok (.int .i64 n) w:=by
 have:=(inferInstance:Inhabited OutT)
 obtain⟨D,hown,hnD,_⟩:=h.ex
 have:=hown.len ht ty
 rwa [hnD] at this
theorem Qzv (w:World) (g m:Nat) (c:Cch) (qs:List CEnt) (k:ByteArray) (a:Option Addr) (n cc:Nat) (dat:List UInt8) (h:Zx w g m c qs) (hv:OwnB w 0 (.slice a n cc) dat) (hk:k.size≤maxLen) (hlen:qs.length<c.most) (hf:cfind qs k=none) :
  Calls prog 145 #[.pointer (some ⟨g,0,none⟩),.string k,.slice a n cc] w (Ql3 w g m c qs k dat):=by
 have hm:=h.ring.ends.most;have hc1:=h.ring.ends.all;have h0:c.most≠0:=by omega
 have hz:((c.most:Int)=0)=False:=by simp[h0]
 have hne:((qs.length:Int)=(c.most:Int))=False:=by simp;omega
 have hcg:cget qs k=none:=by simp[cget,hf]
 have hni:=Qlc h.km h.ring;have hmw:=h.km.lt;have dm:w.drew.cell? ⟨g,0,none⟩=some (.int .i64 c.most):=hm;have dc:w.drew.cell? ⟨g,1,none⟩=some (.map (some m)):=hc1;have KM:=zh h.km;have HNI:=zh hni;have HR:=zh h.ring;have H:=zh h;have HV:=zh hv;have dl:=fun ty=>(h.km.same (w':=w.drew) rfl).run_len underlying241 ty
 have hbe:((qs.length:Int) == (c.most:Int))=false:=by simp;omega
 obtain⟨w2,hw2⟩:∃ w2,w2=(w.alloc (.cells #[.string k,.slice a n cc,.pointer none,.pointer none] 244)).drew:=⟨_,rfl⟩
 obtain⟨hF2,hn2⟩:=Qtz hw2;have hr2:=h.ring.fr hF2 id (fun _ _=>id);have hk2:=h.km.fr hF2 id;have hM2:=hr2.ends.all;have HM2:=hM2;rw[hw2] at HM2;have hmr:∀ b∈(qs.map CEnt.tri).map (·.1),¬ b=m:=by rintro b hb rfl;exact hni.2 hb
 have hmg:=hni.1;have hnb:w.heap.size ∉ (qs.map CEnt.tri).map (·.1):=fun hb=>Nat.lt_irrefl _ (h.ring.lt hb)
 have hle:qs.length<maxLen:=Nat.lt_of_lt_of_le hlen h.most;have HR2:=zh hr2;have HK2:=zh hk2;have HN2:=zh hn2;have HF2:=zh hF2;have HW2:=zh hw2;have HNB:=zh hnb;clear hni h hv hw2 hn2 hF2 hr2 hk2 hM2 hnb
 go_enter func145,ntmps145
 go_upto_region 4 with (first
  | (at_lookup;refine Yo _ rfl _ _ 241 rfl 9 242 underlying9 underlying241 (z:=.pointer none) rfl m qs.length (cget qs) rfl KM.o k rfl hk ?_;rw[hcg];simp only[Option.getD,Option.isSome])
  | fail)
 go_region
 go_wp2_with (first
  | (at_mapUpdate;rw[←HW2.o];refine Qdy _ rfl _ _ _ 241 rfl 9 242 underlying9 underlying241 m _ _ rfl HK2.o hle k (.pointer (some ⟨w.heap.size,0,none⟩)) rfl hk rfl ?_;intro w3 hk3 hf3 hs3;have HK3:=zh hk3;have HF3:=zh hf3;have HS3:=zh hs3;clear hk3 hf3 hs3)
  | (go_at_call 184;refine (Qg1 w3 g m c.most _ w.heap.size k (.slice a n cc) (HR2.o.fr HF3.o (fun e=>hmg e.symm) hmr) HNB.o (HN2.o.below (HF3.o.block _ (by obtain⟨_,_,hh⟩:=HN2.o;exact Qc hh) (by omega)))).mono ?_;rintro e w4 ⟨rfl,hr4,hf4,hs4⟩;have HR4:=zh hr4;have HF4:=zh hf4;have HS4:=zh hs4;clear hr4 hf4 hs4)
  | fail)
 have hF2:Fr (Yh g m qs) w w2:=HF2.o.weak fun _ _ hi=>hi.elim
 have hF3:Fr (Yh g m qs) w w3:=hF2.step HF3.o fun _ _ hi=>.inr (.inl hi)
 have hF:Fr (Yh g m qs) w w4:=hF3.step HF4.o fun i hi hs=>by
  rcases hs with e|e|e
  ·exact .inl e
  ·omega
  ·exact .inr (.inr (by rw[Qce] at e;exact e))
 have hB:∀ (k:Nat) (C:Array Value) (fz:Nat×Nat),w.heap[k]?=some (Obj.cells C 5 fz)→w4.heap[k]?=w.heap[k]?:=fun k C fz hk=>hF.block k (Qc hk) (Qet H.o k C fz hk)
 refine bodyPost_end (results_none rfl _ _ _) rfl ⟨rfl,⟨w.heap.size,k,.slice a n cc,dat⟩ :: qs,?_,by simp,hF,?_⟩
 ·have hg:¬ (Z3 c.items k).isSome=true:=by rw[H.o.items,Qd0,hf];simp
  have hl:¬ c.items.length=c.most:=by rw[H.o.items,List.length_map];omega
  have ec:Z1 c k dat={ c with items:=(k,dat) :: qs.map CEnt.kv }:=by unfold Z1;rw[if_neg h0,if_neg hg,if_neg hl,H.o.items]
  rw[ec];have hk4:=HK3.o.fr HF4.o (by
   rintro (e|e|e)
   ·exact hmg e
   ·omega
   ·exact hmr _ e rfl)
  rw[hcg] at hk4;simp only[Option.isSome] at hk4;exact H.o.newer (fun _ hx=>hx) H.o.keys (Qgz hf) hk hlen HR4.o (HV.o.same hB) (fun x hx=>(H.o.vals x hx).same hB) hk4 (fun u=>rfl)
 ·intro i hi hS
  rcases hS with rfl|rfl|hS
  ·exact .inl rfl
  ·exact .inr (.inl rfl)
  ·rw[List.map_cons,List.mem_cons] at hS
   rcases hS with e|hS
   ·have e:i=w.heap.size:=e
    omega
   ·exact .inr (.inr hS)
end
end
section
section
variable [Inhabited OutT]
structure FEnt where
 key:ByteArray
 val:Value
 data:List UInt8
def FEnt.kv (x:FEnt):Kv:=(x.key,x.data)
def ffind (vs:List FEnt) (p:ByteArray):Option FEnt:=vs.find? fun x=>decide (x.key=p)
def fget (vs:List FEnt) (p:ByteArray):Option Value:=(ffind vs p).map (·.val)
theorem Qlb (vs:List FEnt) (p:ByteArray):Z3 (vs.map FEnt.kv) p=(ffind vs p).map (·.data):=by
 have:=(inferInstance:Inhabited OutT)
 unfold Z3 ffind;rw[List.find?_map];simp only[Option.map_map];rfl
variable {vs:List FEnt} {p:ByteArray}
theorem Qls {x:FEnt} (h:ffind vs p=some x):x∈vs∧x.key=p:=by
 have:=(inferInstance:Inhabited OutT)
 unfold ffind at h;exact⟨List.mem_of_find?_eq_some h,by have:=List.find?_some h;simpa using this⟩
theorem Qo2 (h:ffind vs p=none):∀ x∈vs,x.key≠p:=have:=(inferInstance:Inhabited OutT);fun x hx=>by
 unfold ffind at h
 have:=List.find?_eq_none.1 h x hx
 simpa using this
theorem Qxw (vs:List FEnt) (x:FEnt) (p:ByteArray):ffind (vs ++ [x]) p=(ffind vs p).or (if x.key=p then some x else none):=by
 have:=(inferInstance:Inhabited OutT)
 unfold ffind;rw[List.find?_append,List.find?_cons];by_cases h:x.key=p
 ·simp[h]
 ·simp[h]
structure Qf where
 gq:Nat
 gc:Nat
 gk:Nat
 mc:Nat
 gn:Nat
 gd:Nat
 mq:Nat
 vl:Value
 vt:Value
 v:Value
 C:Array Value
structure Qv where
 vo:Value
 qs:List CEnt
 vs:List FEnt
def Que (q:Qf) (N:Nat) (vo:Value):Array Value:=#[.pointer (some ⟨q.gc,0,none⟩),.int .i64 N,.map (some q.mq),vo]
structure QIs (w:World) (q:Qf) (x:Qv) (N:Nat) (s:Cs) (d:Dk):Prop where
 look:w.heap[q.gq]?=some (.cells (Que q N x.vo) 250 (0,0))
 km:KmAt w 9 q.mq (fget x.vs) x.vs.length
 ord:Q5 w 0 x.vo (x.vs.map (·.key))
 vals:∀ y∈x.vs,OwnB w 0 y.val y.data
 keys:(x.vs.map (·.key)).Nodup
 small:∀ y∈x.vs,y.key.size≤maxLen
 files:s.files=x.vs.map FEnt.kv
 cli:w.heap[q.gc]?=some (.cells q.C 177 (0,0))
 c2:q.C[2]?=some (.iface 44 (.pointer (some ⟨q.gn,0,none⟩)))
 c13:q.C[13]?=some (.pointer (some ⟨q.gk,0,none⟩))
 cache:Zx w q.gk q.mc s.cache x.qs
 net:Yk w q.gn q.gd q.vl q.vt s.net
 disk:Q3 w q.gd q.v d
 dfiles:d.files=s.net.files
 maps:q.mq≠q.mc
 o:∀ z,Out.blk=some z→z<w.heap.size
def Qzc (q:Qf) (x:Qv) (k:Nat):Prop:=k=q.gq∨k=q.mq∨x.vo.ownBlock=some k
def QS (q:Qf) (x:Qv) (k:Nat):Prop:=Qzc q x k∨Yh q.gk q.mc x.qs k∨netS q.gn q.vt k
variable {w:World} {m:Nat}
theorem Qhf {k:TypeId} {n:Nat} {get:ByteArray→Option Value} (h:KmAt w k m get n):∃ es c,w.heap[m]?=some (.map es c):=by
 have:=(inferInstance:Inhabited OutT)
 obtain⟨D,⟨es,c,hb,_⟩,_⟩:=h.ex;exact⟨es,c,hb⟩
theorem Qai {w:World} {g m:Nat} {c:Cch} {qs:List CEnt} (h:Zx w g m c qs):Qae w (Yh g m qs) [246,244]:=fun k C t f hk hc=>by
 rcases hk with rfl|rfl|hk
 ·obtain⟨l,e,h2⟩:=h.ring.ends
  rw[h2] at hc
  cases hc
  exact List.mem_cons_self
 ·obtain⟨es,c,hb⟩:=Qhf h.km
  rw[hb] at hc
  cases hc
 ·obtain⟨k',v,_,l,e,h2⟩:=h.ring.node (by rw[Qce];exact hk)
  rw[h2] at hc
  cases hc
  exact List.mem_cons_of_mem _ List.mem_cons_self
variable {g gd:Nat} {vl vt:Value} {n:Nt}
theorem Qcm (h:Yk w g gd vl vt n):Qae w (netS g vt) [103,3]:=have:=(inferInstance:Inhabited OutT);fun k C t f hk hc=>by
 rcases hk with hk|hk
 ·have:=Qw h.cells k C t f hk hc
  simp at this ⊢
  exact .inl this
 ·have:=Qdi h.told k C t f hk hc
  simp at this ⊢
  exact .inr this
variable {q:Qf} {x:Qv} {N:Nat} {s:Cs} {d:Dk}
theorem QIs.kindsLook (h:QIs w q x N s d):Qae w (Qzc q x) [250,9]:=fun k C t f hk hc=>by
 rcases hk with hk|rfl|hk
 ·have:=Qw h.look k C t f hk hc
  simp at this ⊢
  exact .inl this
 ·obtain⟨es,c,hb⟩:=Qhf h.km
  rw[hb] at hc
  cases hc
 ·have:=Qdi h.ord k C t f hk hc
  simp at this ⊢
  exact .inr this
variable {w':World} {S:Nat→Prop} {ts:List TypeId} {base:Nat} {v:Value} {l:List UInt8}
theorem Qo5 (h:Qz w base v l) (hf:Fr S w w') (hS:Qae w S ts) (h1:5 ∉ ts):Qz w' base v l:=have:=(inferInstance:Inhabited OutT);h.same fun k C fz hk=>hf.block k (Qc hk) (Zo hS hk h1)
theorem Qdc (h:OwnB w base v l) (hf:Fr S w w') (hS:Qae w S ts) (h1:5 ∉ ts):OwnB w' base v l:=⟨Qo5 h.1 hf hS h1,h.2⟩
theorem Yq (h:Yk w g gd vl vt n) (hf:Fr S w w') (hS:Qae w S ts) (h1:103 ∉ ts) (h2:75 ∉ ts) (h3:3 ∉ ts):Yk w' g gd vl vt n:=have:=(inferInstance:Inhabited OutT);⟨Ze h.cells hf hS h1,Zi h.lies hf hS h2,Zi h.told hf hS h3,h.len,h.le⟩
variable {c:Cch} {qs:List CEnt}
theorem Qek (h:Zx w g m c qs) (hf:Fr S w w') (hS:Qae w S ts) (hm:¬ S m) (h1:246 ∉ ts) (h2:244 ∉ ts) (h3:5 ∉ ts):Zx w' g m c qs:=
 h.fr hf (fun i hi=>by
  rcases hi with rfl|rfl|hi
  ·obtain⟨l,e,h4⟩:=h.ring.ends
   exact Zo hS h4 h1
  ·exact hm
  ·obtain⟨k',v,_,l,e,h4⟩:=h.ring.node (by rw[Qce];exact hi)
   exact Zo hS h4 h2) fun k C fz hk=>Zo hS hk h3
theorem QIs.mapOut (h:QIs w q x N s d):(¬ Yh q.gk q.mc x.qs q.mq∧¬ netS q.gn q.vt q.mq)∧¬ Qzc q x q.mc:=by
 obtain⟨es,c,hb⟩:=Qhf h.km;obtain⟨es2,c2,hb2⟩:=Qhf h.cache.km;refine⟨⟨fun hs=>?_,fun hs=>?_⟩,fun hs=>?_⟩
 ·rcases hs with e|e|e
  ·obtain⟨l,r,h2⟩:=h.cache.ring.ends
   rw[e,h2] at hb;cases hb
  ·exact h.maps e
  ·obtain⟨k',v,_,l,r,h2⟩:=h.cache.ring.node (by rw[Qce];exact e)
   rw[h2] at hb;cases hb
 ·rcases hs with e|e
  ·rw[e,h.net.cells] at hb;cases hb
  ·obtain⟨C,hC⟩:=Qh h.net.told e
   rw[hC] at hb;cases hb
 ·rcases hs with e|e|e
  ·rw[e,h.look] at hb2;cases hb2
  ·exact h.maps e.symm
  ·obtain⟨C,hC⟩:=Qh h.ord e
   rw[hC] at hb2;cases hb2
theorem QIs.below {w w':World} {q:Qf} {x:Qv} {N:Nat} {s:Cs} {d:Dk} (h:QIs w q x N s d) (hb:Below w.heap.size w w'):QIs w' q x N s d where
 look:=(hb.block _ (Qc h.look)).trans h.look
 km:=h.km.below hb h.km.lt
 ord:=Qn h.ord hb
 vals y hy:=(h.vals y hy).same fun k C fz hk=>hb.block k (Qc hk)
 keys:=h.keys
 small:=h.small
 files:=h.files
 cli:=(hb.block _ (Qc h.cli)).trans h.cli
 c2:=h.c2
 c13:=h.c13
 cache:=h.cache.fr (S:=fun _=>False) (Fr.ofBelow hb) (fun _ _=>id) (fun _ _ _ _=>id)
 net:=h.net.below hb
 disk:=h.disk.below hb
 dfiles:=h.dfiles
 maps:=h.maps
 o z hz:=Nat.lt_of_lt_of_le (h.o z hz) hb.size
theorem QIs.cacheStep (h:QIs w q x N s d) {c':Cch} {qs':List CEnt} (hc:Zx w' q.gk q.mc c' qs') (hf:Fr (Yh q.gk q.mc x.qs) w w'):QIs w' q { x with qs:=qs' } N { s with cache:=c' } d:=
 have hk:=Qai h.cache
 {
  look:=Ze h.look hf hk (by decide)
  km:=h.km.fr hf h.mapOut.1.1
  ord:=Zi h.ord hf hk (by decide)
  vals:=fun y hy=>Qdc (h.vals y hy) hf hk (by decide)
  keys:=h.keys
  small:=h.small
  files:=h.files
  cli:=Ze h.cli hf hk (by decide)
  c2:=h.c2
  c13:=h.c13
  cache:=hc
  net:=Yq h.net hf hk (by decide) (by decide) (by decide)
  disk:=h.disk.kept hf hk (by decide) (by decide)
  dfiles:=h.dfiles
  maps:=h.maps
  o:=fun z hz=>Nat.lt_of_lt_of_le (h.o z hz) hf.size }
theorem QIs.netStep (h:QIs w q x N s d) {n':Nt} (hn:Yk w' q.gn q.gd q.vl q.vt n') (hf:Fr (netS q.gn q.vt) w w') (hd:n'.files=s.net.files):QIs w' q x N { s with net:=n' } d:=
 have hk:=Qcm h.net
 have hm:¬ netS q.gn q.vt q.mc:=by
  obtain⟨es2,c2,hb2⟩:=Qhf h.cache.km
  rintro (e|e)
  ·rw[e,h.net.cells] at hb2;cases hb2
  ·obtain⟨C,hC⟩:=Qh h.net.told e
   rw[hC] at hb2;cases hb2
 {
  look:=Ze h.look hf hk (by decide)
  km:=h.km.fr hf h.mapOut.1.2
  ord:=Zi h.ord hf hk (by decide)
  vals:=fun y hy=>Qdc (h.vals y hy) hf hk (by decide)
  keys:=h.keys
  small:=h.small
  files:=h.files
  cli:=Ze h.cli hf hk (by decide)
  c2:=h.c2
  c13:=h.c13
  cache:=Qek h.cache hf hk hm (by decide) (by decide) (by decide)
  net:=hn
  disk:=h.disk.kept hf hk (by decide) (by decide)
  dfiles:=h.dfiles.trans hd.symm
  maps:=h.maps
  o:=fun z hz=>Nat.lt_of_lt_of_le (h.o z hz) hf.size }
theorem QIs.lookStep (h:QIs w q x N s d) (hf:Fr (Qzc q x) w w') {vo':Value} {y:FEnt} (hl:w'.heap[q.gq]?=some (.cells (Que q N vo') 250 (0,0)))
  (hk:KmAt w' 9 q.mq (fun u=>if u=y.key then some y.val else fget x.vs u) (x.vs.length+1)) (ho:Q5 w' 0 vo' (x.vs.map (·.key) ++ [y.key])) (hv:OwnB w' 0 y.val y.data) (hn:ffind x.vs y.key=none) (hs:y.key.size≤maxLen) :
  QIs w' q { x with vo:=vo',vs:=x.vs ++ [y] } N (Qgi y.key y.data s) d:=
 have hK:=h.kindsLook
 {
  look:=hl
  km:=by
   have e:fget (x.vs ++ [y])=fun u=>if u=y.key then some y.val else fget x.vs u:=by
    funext u
    unfold fget
    rw[Qxw]
    by_cases hu:u=y.key
    ·subst hu
     rw[hn,if_pos rfl,if_pos rfl]
     rfl
    ·rw[if_neg hu,if_neg (fun e=>hu e.symm),Option.or_none]
   rw[List.length_append,List.length_singleton,e]
   exact hk
  ord:=by rw[List.map_append];exact ho
  vals:=fun z hz=>by
   rcases List.mem_append.1 hz with hz|hz
   ·exact Qdc (h.vals z hz) hf hK (by decide)
   ·rw[List.mem_singleton.1 hz];exact hv
  keys:=by
   rw[List.map_append,List.nodup_append]
   refine⟨h.keys,by simp,fun a ha b hb e=>?_⟩
   simp at hb
   obtain⟨z,hz,rfl⟩:=List.mem_map.1 ha
   exact Qo2 hn z hz (e.trans hb)
  small:=fun z hz=>by
   rcases List.mem_append.1 hz with hz|hz
   ·exact h.small z hz
   ·rw[List.mem_singleton.1 hz];exact hs
  files:=by
   show s.files ++ [(y.key,y.data)]=_
   rw[h.files,List.map_append]
   rfl
  cli:=Ze h.cli hf hK (by decide)
  c2:=h.c2
  c13:=h.c13
  cache:=Qek h.cache hf hK h.mapOut.2 (by decide) (by decide) (by decide)
  net:=Yq h.net hf hK (by decide) (by decide) (by decide)
  disk:=h.disk.kept hf hK (by decide) (by decide)
  dfiles:=h.dfiles
  maps:=h.maps
  o:=fun z hz=>Nat.lt_of_lt_of_le (h.o z hz) hf.size }
def Yn (w:World) (q:Qf) (x:Qv) (N:Nat) (d:Dk) (w':World) (s':Cs):Prop:=∃ x',QIs w' q x' N s' d∧Fr (QS q x) w w'∧Sub w (QS q x) (QS q x')
variable {a b:World}
theorem Yn.trans {c:World} {y:Qv} (hf:Fr (QS q x) a b) (hs:Sub a (QS q x) (QS q y)) (h:Yn b q y N d c s):Yn a q x N d c s:=by obtain⟨z,h1,h2,h3⟩:=h;exact⟨z,h1,hf.sub h2 hs,hs.trans h3 hf.size⟩
theorem Yn.below {c:World} (h:Yn a q x N d b s) (hb:Below b.heap.size b c):Yn a q x N d c s:=by obtain⟨z,h1,h2,h3⟩:=h;exact⟨z,h1.below hb,h2.trans (Fr.ofBelow hb),h3⟩
theorem Yn.here (h:QIs w q x N s d):Yn w q x N d w s:=⟨x,h,Fr.refl _ _,Sub.refl _ _⟩
theorem QIs.heads (h:QIs w q x N s d):w.cell? ⟨q.gq,0,none⟩=some (.pointer (some ⟨q.gc,0,none⟩))∧w.cell? ⟨q.gq,1,none⟩=some (.int .i64 N)∧w.cell? ⟨q.gq,2,none⟩=some (.map (some q.mq))∧w.cell? ⟨q.gq,3,none⟩=some x.vo∧
  w.cell? ⟨q.gc,2,none⟩=some (.iface 44 (.pointer (some ⟨q.gn,0,none⟩)))∧w.cell? ⟨q.gc,13,none⟩=some (.pointer (some ⟨q.gk,0,none⟩))∧w.frozen? ⟨q.gq,3,none⟩=false:=
 ⟨Qd h.look 0 rfl,Qd h.look 1 rfl,Qd h.look 2 rfl,Qd h.look 3 rfl,Qd h.cli 2 h.c2,Qd h.cli 13 h.c13,Qq h.look 3⟩
end
end
section
section
variable [Inhabited OutT]
theorem Qs8 {w1 w2:World} {k:ByteArray} {v:Value} (h:w2=w1.alloc (.cells #[.string k,v,.pointer none,.pointer none] 244)):Fr (fun _=>False) w1 w2∧Node w2 w1.heap.size k v:=Qn4 h
theorem Qz1 (w:World) (g m:Nat) (c:Cch) (l:List CEnt) (q:CEnt) (k:ByteArray) (a:Option Addr) (n cc:Nat) (dat:List UInt8) (h:Zx w g m c (l ++ [q])) (hv:OwnB w 0 (.slice a n cc) dat) (hk:k.size≤maxLen) (hlen:(l ++ [q]).length=c.most) (hf:cfind (l ++ [q]) k=none) :
  Calls prog 145 #[.pointer (some ⟨g,0,none⟩),.string k,.slice a n cc] w (Ql3 w g m c (l ++ [q]) k dat):=by
 obtain⟨ln,hln⟩:∃ ln,ln=(l ++ [q]).length:=⟨_,rfl⟩
 have hm:=h.ring.ends.most;have hc1:=h.ring.ends.all;have hlp:ln=l.length+1:=by rw[hln];simp
 have h0:c.most≠0:=by omega
 have hz:((c.most:Int)=0)=False:=by simp[h0]
 have hne:((ln:Int) == (c.most:Int))=true:=by rw[beq_iff_eq];omega
 have hcg:cget (l ++ [q]) k=none:=by simp[cget,hf]
 have hni:=Qlc h.km h.ring;have hmw:=h.km.lt;have hr:Je w g m c.most (l.map CEnt.tri++(q.b,q.key,q.val) :: []):=by have:=h.ring;rwa [List.map_append,List.map_cons] at this
 have hlast:w.cell? ⟨g,4,none⟩=some (.pointer (some ⟨q.b,0,none⟩)):=by have h1:=hr.chn.last.l;rw[List.map_append] at h1;have e:lst none (l.map CEnt.tri |>.map (·.1) |>.append [q.b])=some q.b:=Qx1 none _ q.b;have e2:lst none ((l.map CEnt.tri).map (·.1)++((q.b,q.key,q.val) :: []).map (·.1))=some q.b:=e;rw[e2] at h1;exact h1
 have dm:w.drew.cell? ⟨g,0,none⟩=some (.int .i64 c.most):=hm;have dc:w.drew.cell? ⟨g,1,none⟩=some (.map (some m)):=hc1;have dl:=fun ty=>(h.km.same (w':=w.drew) rfl).run_len underlying241 ty
 rw[←hln] at dl;have hmg:m≠g:=hni.1;have hks:q.key.size≤maxLen:=h.small q (by simp);have hbq:q.b∈(l.map CEnt.tri++(q.b,q.key,q.val) :: []).map (·.1):=by simp
 have hmr:∀ b∈(l.map CEnt.tri).map (·.1),¬ b=m:=by rintro b hb rfl;refine hni.2 ?_;rw[List.map_append,List.map_append];exact List.mem_append_left _ hb
 have hle:ln≤maxLen:=by have:=h.most;omega
 have KM:=zh h.km;have HR:=zh hr;have HNI:=zh hni;have H:=zh h;have HV:=zh hv;have HLN:=zh hln;clear hr hni h hv
 go_enter func145,ntmps145
 go_upto_region 4 with (first
  | (at_lookup;refine Yo _ rfl _ _ 241 rfl 9 242 underlying9 underlying241 (z:=.pointer none) rfl m _ (cget (l ++ [q])) rfl KM.o k rfl hk ?_;rw[hcg];simp only[Option.getD,Option.isSome])
  | fail)
 go_region;have hlast':w.drew.cell? ⟨g,4,none⟩=some (.pointer (some ⟨q.b,0,none⟩)):=hlast;have hrd:Je w.drew g m c.most (l.map CEnt.tri++(q.b,q.key,q.val) :: []):=HR.o.fr (S:=fun _=>False) (Fr.ofBelow (Ql w)) id (fun _ _=>id);have HRD:=zh hrd;clear hrd
 go_upto_region 7 with (first
  | (go_at_call 183;refine (Qmw w.drew g m c.most _ _ q.b q.key q.val HRD.o _).mono ?_;rintro e w1 ⟨rfl,hr1,hn1,hf1,hs1⟩;have HR1:=zh hr1;have HN1:=zh hn1;have HF1:=zh hf1;have HS1:=zh hs1;clear hr1 hn1 hf1 hs1)
  | fail)
 have a1:=HR1.o.ends.all;have a2:=HN1.o.key;have hk1:KmAt w1 9 m (cget (l ++ [q])) ln:=by
  have:=(KM.o.same (w':=w.drew) rfl).fr HF1.o (by
   rintro (e|e)
   ·exact HNI.o.1 e
   ·exact HNI.o.2 (by rw[List.map_append,List.map_cons];exact e))
  rw[←HLN.o] at this;exact this
 have HK1:=zh hk1;clear hk1 dm dc dl hlast hlast' hne hm hc1
 go_still_tail 8,(by kernel_rfl)
 change wpList _ _ _ _ _ w1.drew
 refine Qq9 _ rfl _ _ 241 9 rfl 242 underlying9 underlying241 m ln (cget (l ++ [q])) rfl (HK1.o.same (w':=w1.drew) rfl) q.key rfl hks ?_;intro w2 hk2 hf2 hs2;have hgk:(cget (l ++ [q]) q.key).isSome=true:=by
  have:cfind (l ++ [q]) q.key=some q:=(Qbv H.o.keys).2 ⟨by simp,rfl⟩
  unfold cget;rw[this];rfl
 rw[if_pos hgk] at hk2;obtain⟨w3,hw3⟩:∃ w3,w3=w2.alloc (.cells #[.string k,.slice a n cc,.pointer none,.pointer none] 244):=⟨_,rfl⟩
 obtain⟨hf3,hn3⟩:=Qs8 hw3;have hf12:Fr (·=m) w1 w2:=(Fr.ofBelow (Ql w1)).trans hf2;have hr1':Je w1 g m c.most (l.map CEnt.tri):=by have:=HR1.o;rwa [List.append_nil] at this
 have hr2:=hr1'.fr hf12 (fun e=>hmg e.symm) hmr;have hr3:=hr2.fr hf3 id (fun _ _=>id);have hk3:=hk2.fr hf3 id;have hM3:=hr3.ends.all;have hM3':=hM3;have hM2:=hr2.ends.all;rw[hw3] at hM3';have hsz2:w2.heap.size=w.heap.size:=hs2.trans HS1.o;have hnb:w2.heap.size ∉ (l.map CEnt.tri).map (·.1):=fun hb=>by
  have:=hr1'.lt hb
  rw[HS1.o] at this;rw[hsz2] at this;exact Nat.lt_irrefl _ this
 have hg0:(if k=q.key then none else cget (l ++ [q]) k)=none:=by
  split
  ·rfl
  ·exact hcg
 have HR3:=zh hr3;have HK3:=zh hk3;have HN3:=zh hn3;have HF3:=zh hf3;have HW3:=zh hw3;have HNB:=zh hnb;have HF12:=zh hf12;have HG0:=zh hg0;have hle1:ln-1<maxLen:=by omega
 have hmw2:m<w2.heap.size:=by rw[hsz2];exact hmw
 have hgw2:g<w2.heap.size:=Qk hM2;have HSZ2:=zh hsz2;clear hgk hk2 hf2 hs2 hf3 hn3 hf12 hr1' hr2 hr3 hk3 hM3 hnb hg0 hw3 hM3' a2 hsz2 a1
 go_wp2_with (first
  | (at_mapUpdate;rw[←HW3.o];refine Qdy _ rfl _ _ _ 241 rfl 9 242 underlying9 underlying241 m _ _ rfl HK3.o hle1 k (.pointer (some ⟨w2.heap.size,0,none⟩)) rfl hk rfl ?_;intro w4 hk4 hf4 hs4;have HK4:=zh hk4;have HF4:=zh hf4;have HS4:=zh hs4;clear hk4 hf4 hs4)
  | (go_at_call 184;refine (Qg1 w4 g m c.most _ w2.heap.size k (.slice a n cc) (HR3.o.fr HF4.o (fun e=>hmg e.symm) hmr) HNB.o (HN3.o.below (HF4.o.block _ (by obtain⟨_,_,hh⟩:=HN3.o;exact Qc hh) (by omega)))).mono ?_;rintro e w5 ⟨rfl,hr5,hf5,hs5⟩;have HR5:=zh hr5;have HF5:=zh hf5;have HS5:=zh hs5;clear hr5 hf5 hs5)
  | fail)
 have hsz2:=HSZ2.o;have hin:∀ i,(i=g∨i∈((l.map CEnt.tri++(q.b,q.key,q.val) :: [])).map (·.1))→Yh g m (l ++ [q]) i:=by
  intro i hi;rcases hi with hi|hi
  ·exact .inl hi
  ·exact .inr (.inr (by simpa [CEnt.tri] using hi))
 have hF1:Fr (Yh g m (l ++ [q])) w w1:=((Fr.ofBelow (Ql w)).trans HF1.o).weak fun i _ hi=>hin i hi
 have hF2:Fr (Yh g m (l ++ [q])) w w2:=hF1.step HF12.o fun _ _ hi=>.inr (.inl hi)
 have hF3:Fr (Yh g m (l ++ [q])) w w3:=hF2.step HF3.o fun _ _ hi=>hi.elim
 have hF4:Fr (Yh g m (l ++ [q])) w w4:=hF3.step HF4.o fun _ _ hi=>.inr (.inl hi)
 have hsub:∀ i,i∈(l.map CEnt.tri).map (·.1)→i∈(l ++ [q]).map (·.b):=fun i hi=>by rw[Qce] at hi;rw[List.map_append];exact List.mem_append_left _ hi
 have hF:Fr (Yh g m (l ++ [q])) w w5:=hF4.step HF5.o fun i hi hs=>by
  rcases hs with e|e|e
  ·exact .inl e
  ·omega
  ·exact .inr (.inr (hsub i e))
 have hB:∀ (k:Nat) (C:Array Value) (fz:Nat×Nat),w.heap[k]?=some (Obj.cells C 5 fz)→w5.heap[k]?=w.heap[k]?:=fun k C fz hk=>hF.block k (Qc hk) (Qet H.o k C fz hk)
 refine bodyPost_end (results_none rfl _ _ _) rfl ⟨rfl,⟨w2.heap.size,k,.slice a n cc,dat⟩ :: l,?_,by simp,hF,?_⟩
 ·have hg:¬ (Z3 c.items k).isSome=true:=by rw[H.o.items,Qd0,hf];simp
  have hl:c.items.length=c.most:=by rw[H.o.items,List.length_map];exact hlen
  have ec:Z1 c k dat={ c with items:=(k,dat) :: l.map CEnt.kv }:=by unfold Z1;rw[if_neg h0,if_neg hg,if_pos hl,H.o.items,List.map_append];simp
  rw[ec];have hk5:=HK4.o.fr HF5.o (by
   rintro (e|e|e)
   ·exact hmg e
   ·omega
   ·exact hmr _ e rfl)
  rw[HG0.o] at hk5;simp only[Option.isSome] at hk5;have hkeys:=H.o.keys;rw[List.map_append,List.nodup_append] at hkeys;have hqn:∀ x∈l,x.key≠q.key:=fun x hx=>hkeys.2.2 x.key (List.mem_map_of_mem hx) q.key (by simp)
  have hlc:l.length+1≤c.most:=by omega
  rw[show ln-1=l.length by omega] at hk5;refine H.o.newer (fun x hx=>List.mem_append_left _ hx) hkeys.1 (fun x hx=>Qgz hf x (List.mem_append_left _ hx)) hk hlc HR5.o (HV.o.same hB) (fun x hx=>(H.o.vals x (List.mem_append_left _ hx)).same hB) hk5 (fun u=>?_);by_cases e:u=k
  ·rw[if_pos e,if_pos e]
  ·rw[if_neg e,if_neg e]
   by_cases e2:u=q.key
   ·rw[if_pos e2]
    have:cfind l u=none:=by unfold cfind;rw[List.find?_eq_none];intro x hx;simp;rw[e2];exact hqn x hx
    unfold cget;rw[this];rfl
   ·rw[if_neg e2]
    have:=Qrd (l:=l) (r:=[]) e2
    rw[List.append_nil] at this;exact this
 ·intro i hi hS
  rcases hS with rfl|rfl|hS
  ·exact .inl rfl
  ·exact .inr (.inl rfl)
  ·rw[List.map_cons,List.mem_cons] at hS
   rcases hS with e|hS
   ·have e:i=w2.heap.size:=e
    omega
   ·exact .inr (.inr (by rw[List.map_append];exact List.mem_append_left _ hS))
theorem Q40 (w:World) (g m:Nat) (c:Cch) (qs:List CEnt) (k:ByteArray) (a:Option Addr) (n cc:Nat) (dat:List UInt8) (h:Zx w g m c qs) (hv:OwnB w 0 (.slice a n cc) dat) (hk:k.size≤maxLen) (hlen:qs.length<maxLen) :
  Calls prog 145 #[.pointer (some ⟨g,0,none⟩),.string k,.slice a n cc] w (Ql3 w g m c qs k dat):=by
 by_cases h0:c.most=0
 ·exact Q1q w g m c qs k _ dat h h0
 ·cases hf:cfind qs k with
  | some q=>
   obtain⟨rfl,l,r,rfl,_⟩:=Qb9 hf;exact Q2a w g m c l r q a n cc dat h hv h0 hk hlen
  | none=>
   rcases Nat.lt_or_ge qs.length c.most with hlt|hge
   ·exact Qzv w g m c qs k a n cc dat h hv hk hlt hf
   ·have he:qs.length=c.most:=Nat.le_antisymm h.fits hge
    have hne:qs≠[]:=fun e=>by rw[e] at he;exact h0 he.symm
    rw[←List.dropLast_concat_getLast hne] at h hf he ⊢;exact Qz1 w g m c _ _ k a n cc dat h hv hk he hf
end
end
section
open Go.RowKit Go.Maps Go.ChangeMaps Go.WideMaps
section
theorem Qhh:∀ (xs:List Kv) (c:Cch) (x:Kv),Zf c (xs ++ [x])=Z1 (Zf c xs) x.1 x.2
 | [],_,_=>have:=(inferInstance:Inhabited OutT);rfl
 | _ :: ys,c,x=>Qhh ys _ x
variable [Inhabited OutT]
variable {w:World}
theorem KmAt.run_look {k:TypeId} {b n:Nat} {get:ByteArray→Option Value} (h:KmAt w k b get n) (hk:prog.underlying k=some .string) {t e:TypeId} (ht:prog.underlying t=some (.map k e)) {z:Value} (hz:(zeroValue e).run prog w=.ok z w) (s:ByteArray) (hs:s.size≤maxLen) {v:Value} (hv:get s=some v) :
  (Instr.lookup t (.map (some b)) (.string s) false).run prog w=.ok v w:=by
 have:=(inferInstance:Inhabited OutT)
 obtain⟨D,hown,hn,hh,ha⟩:=h.ex;obtain⟨v',ps,h1,h2⟩:=hown.lookup (string_keyed hk) ht hz (zd:=.held z) (zp:=[]) rfl (keyOf_string_mk hk hs);have e1:DataW.held v'=D.atKey (klit s) (.held z):=by
  have:=congrArg (Option.map Prod.fst) h2
  simp only[Qmx,Option.map_some] at this;exact Option.some.inj this
 rw[ha s v _ hv] at e1;cases e1;exact h1
variable {j:Nat} {y:FEnt}
theorem Q64 {vs:List FEnt} (hk:(vs.map (·.key)).Nodup) (hj:vs[j]?=some y):fget vs y.key=some y.val:=by
 obtain⟨hlt,he⟩:=List.getElem?_eq_some_iff.1 hj;cases hf:ffind vs y.key with
 | none=>exact absurd rfl (Qo2 hf y (List.mem_of_getElem? hj))
 | some z=>
  obtain⟨hz,hzk⟩:=Qls hf
  have:z=y:=by
   obtain⟨i,hi,rfl⟩:=List.mem_iff_getElem.1 hz;have e1:(vs.map (·.key))[i]'(by rw[List.length_map];exact hi)=(vs.map (·.key))[j]'(by rw[List.length_map];exact hlt):=by rw[List.getElem_map,List.getElem_map,hzk,he]
   have hij:i=j:=by
    rcases Nat.lt_trichotomy i j with h|h|h
    ·exact absurd e1 (List.pairwise_iff_getElem.1 hk i j (by rw[List.length_map];exact hi) (by rw[List.length_map];exact hlt) h)
    ·exact h
    ·exact absurd e1.symm (List.pairwise_iff_getElem.1 hk j i (by rw[List.length_map];exact hlt) (by rw[List.length_map];exact hi) h)
   subst hij;exact he
  unfold fget;rw[hf,this];rfl
structure RSt (w wr:World) (q:Qf) (x:Qv) (N:Nat) (s:Cs) (d:Dk) (j:Nat) (qs:List CEnt):Prop where
 is:QIs wr q { x with qs:=qs } N { s with cache:=Zf s.cache (s.files.take j) } d
 fr:Fr (Yh q.gk q.mc x.qs) w wr
 sub:∀ i,i<w.heap.size→Yh q.gk q.mc qs i→Yh q.gk q.mc x.qs i
 len:qs.length≤x.qs.length+j
theorem Q3w {wr wf:World} {q:Qf} {x:Qv} {N:Nat} {s:Cs} {d:Dk} {qs qs':List CEnt} (h:RSt w wr q x N s d j qs) (hy:x.vs[j]?=some y) (hc:Zx wf q.gk q.mc (Z1 (Zf s.cache (s.files.take j)) y.key y.data) qs') (hl:qs'.length≤qs.length+1)
  (hf:Fr (Yh q.gk q.mc qs) wr wf) (hs:∀ i,i<wr.heap.size→Yh q.gk q.mc qs' i→Yh q.gk q.mc qs i):RSt w wf q x N s d (j+1) qs':=by
 have hk:s.files[j]?=some (y.key,y.data):=by
  have:=h.is.files
  dsimp only at this;rw[this,List.getElem?_map,hy];rfl
 refine⟨?_,h.fr.step hf h.sub,fun i hi e=>h.sub i hi (hs i (Nat.lt_of_lt_of_le hi h.fr.size) e),by have:=h.len;omega⟩
 have:=h.is.cacheStep hc hf
 rw[List.take_add_one,hk,Option.toList_some,Qhh];exact this
theorem Qkw (w:World) (q:Qf) (x:Qv) (N:Nat) (s:Cs) (d:Dk) (h:QIs w q x N s d) (hlen:x.qs.length+x.vs.length<1099511627775) :
  Calls prog 91 #[.pointer (some ⟨q.gq,0,none⟩)] w fun e w'=>e=.returned (.tuple #[])∧∃ qs',QIs w' q { x with qs:=qs' } N { s with cache:=Zf s.cache s.files } d∧Fr (Yh q.gk q.mc x.qs) w w'∧∀ i,i<w.heap.size→Yh q.gk q.mc qs' i→Yh q.gk q.mc x.qs i:=by
 obtain⟨ao,co,hvo⟩:=Zs h.ord;have hst:RSt w w q x N s d 0 x.qs:=⟨h,Fr.refl _ _,fun _ _ e=>e,Nat.le_refl _⟩
 obtain⟨ln,hln⟩:∃ ln,ln=x.vs.length:=⟨_,rfl⟩
 rw[List.length_map,←hln] at hvo;obtain⟨_,_,_,c3,_⟩:=h.heads;rw[hvo] at c3;have HST:=zh hst;have HVO:=zh hvo;have HLN:=zh hln;have HKE:=zh h.keys;have HFL:=zh h.files;have hlen2:x.qs.length+ln<1099511627775:=by rw[hln];exact hlen
 clear h hst hvo hln hlen
 go_enter func91,ntmps91
 go_wp2
 go_loopw [9] (fun i wr=>∃ (j:Nat) (qs:List CEnt),j≤ln∧i=.int .i64 j∧Hid (RSt w wr q x N s d j qs)) (fun i _=>ln-(intOf i).toNat)
 case atStart=>exact⟨0,x.qs,Nat.zero_le _,rfl,HST⟩
 case round=>
  obtain⟨j,qs,hj,rfl,HR⟩:=hrel;by_cases hlt:j<ln
  ·have hjl:(j:Int)<(ln:Int):=by omega
   have hj0:(0:Int)≤(j:Int):=by omega
   obtain⟨y,hy⟩:∃ y,x.vs[j]?=some y:=⟨_,List.getElem?_eq_getElem (by rw[←HLN.o];exact hlt)⟩
   obtain⟨_,_,hve,_,hcell⟩:=Ya HR.o.is.ord;have hg:((x.vs.map (·.key)).map Value.string)[j]?=some (.string y.key):=by rw[List.getElem?_map,List.getElem?_map,hy];rfl
   obtain⟨b,off,hbo,d1⟩:=hcell _ _ hg;dsimp only at hve;rw[HVO.o] at hve;simp only[Value.slice.injEq] at hve;have hae:=hve.1.trans hbo;clear hve hbo hcell hg;subst hae;have hym:=List.mem_of_getElem? hy;have hys:=HR.o.is.small y hym;have hyv:=HR.o.is.vals y hym;obtain⟨av,nv,cv,hval⟩:=Qgo hyv.1;have hfg:=Q64 HKE.o hy;obtain⟨e0,e1,e2,e3,e4,e5,_⟩:=HR.o.is.heads;have hlk:=HR.o.is.km.run_look (t:=248) (e:=94) underlying9 underlying248 (z:=.slice none 0 0) rfl y.key hys hfg;have hlk2:=(HR.o.is.km.same (w':=wr.drew) rfl).run_look (t:=248) (e:=94) underlying9 underlying248 (z:=.slice none 0 0) rfl y.key hys hfg;rw[hval] at hlk hlk2 hyv;have hql:qs.length<maxLen:=by have:=HR.o.len;unfold maxLen;omega
   have hcall:=Q40 wr.drew q.gk q.mc _ qs y.key av nv cv y.data (HR.o.is.cache.fr (S:=fun _=>False) (Fr.ofBelow (Ql wr)) (fun _ _=>id) (fun _ _ _ _=>id)) (OwnB.below hyv (Ql wr)) hys hql;have CALL:=zh hcall;have HY:=zh hy;clear hcall hy hym hys hyv hval hfg hql
   go_upto_region 3 with fail
   go_still_tail 14,(by kernel_rfl)
   change wpList _ _ _ _ _ wr.drew
   go_wp2_with (go_at_call 145;refine CALL.o.mono ?_;rintro e w1 ⟨rfl,qs1,hc1,hl1,hf1,hs1⟩;have HC1:=zh hc1;have HL1:=zh hl1;have HF1:=zh hf1;have HS1:=zh hs1;clear hc1 hl1 hf1 hs1)
   go_roundw
   case rel=>exact⟨j+1,qs1,by omega,by go_num,zh (Q3w HR.o HY.o HC1.o HL1.o ((Fr.ofBelow (Ql wr)).trans HF1.o) HS1.o)⟩
   case measure=>simp[intOf];omega
  ·have hjl:¬ (j:Int)<(ln:Int):=by omega
   have hje:j=ln:=by omega
   have HJ:=zh hje;clear hje;go_wp2;refine bodyPost_end (results_none rfl _ _ _) rfl ⟨rfl,qs,?_,HR.o.fr,HR.o.sub⟩
   have:=HR.o.is
   rw[List.take_of_length_le (by rw[HFL.o,List.length_map,←HLN.o,HJ.o];exact Nat.le_refl _)] at this;exact this
end
end
section
abbrev Q75:Go.Conc.Locks.MuLink:={ lock:=83,unlock:=84,ilock:=138,iunlock:=139,lockSlow:=179,unlockSlow:=182,disable:=175,enable:=177,acquire:=178,relMerge:=180,cas32:=176,add32:=181,tMutex:=175,tIMutex:=173,tPMutex:=247,tPIMutex:=296,tPI32:=298,tUP:=228,tNoCopy:=170,tU32:=171 }
theorem Q2t:Go.Conc.Locks.MuLib prog Q75:=
 ⟨func83,func84,func138,func139,func175,func177,func178,func180,func176,func181,
 underlying173,runUnderlying173,sizeOf173,isAgg173,zeroValue173,underlying175,runUnderlying175,sizeOf175,isAgg175,zeroValue175,underlying247,runUnderlying247,sizeOf247,isAgg247,zeroValue247,underlying296,runUnderlying296,sizeOf296,isAgg296,zeroValue296,underlying298,runUnderlying298,sizeOf298,isAgg298,zeroValue298,underlying228,runUnderlying228,sizeOf228,isAgg228,zeroValue228,underlying170,runUnderlying170,sizeOf170,isAgg170,zeroValue170,underlying21,runUnderlying21,sizeOf21,isAgg21,zeroValue21,(by kernel_rfl)⟩
end
section
def cutR (r:List (List UInt8)) (j w:Nat):List UInt8:=((r.drop (4*j)).take w).flatten
def Qcv (es:List (List UInt8)) (p:ByteArray) (b:List UInt8):Prop:=
 ∃ (m j w:Nat) (r:List (List UInt8)),(Zc es)[m]?=some r∧1≤w∧w≤4∧4*j+w≤r.length∧p=Qr ((m:Int)-1) j w∧b=cutR r j w
variable {es r:List (List UInt8)} {m j w:Nat}
theorem Qnr (hl:es.length≤1048576) (hr:(Zc es)[m]?=some r) (h1:1≤w) (h4:w≤4) (hj:4*j+w≤r.length):Jm ((m:Int)-1) j w∧(j:Int)<9223372036854775808:=by obtain⟨a1,a2,a3⟩:=Qct hl;have hn:=(List.getElem?_eq_some_iff.1 hr).1;have hlr:=a3 r (List.mem_of_getElem? hr);unfold Jm;omega
variable {b:List UInt8}
theorem Qpc (hl:es.length≤1048576) (hr:(Zc es)[m]?=some r) (h1:1≤w) (h4:w≤4) (hj:4*j+w≤r.length) (h:Qcv es (Qr ((m:Int)-1) j w) b):b=cutR r j w:=by
 obtain⟨m',j',w',r',k1,k2,k3,k4,k5,rfl⟩:=h;have a:=Qnr hl hr h1 h4 hj;have c:=Qnr hl k1 k2 k3 k4;have e:=Qed a.1 c.1 a.2 c.2 (Qcw k5);obtain rfl:m=m':=by omega
 obtain rfl:j=j':=by omega
 obtain rfl:w=w':=by omega
 rw[hr] at k1;cases k1;rfl
def Qis (n:Nt):Prop:=∀ l∈n.lies,l.times≤0
variable {n n':Nt}
theorem Qpz (h:Qis n) (hl:n'.lies=n.lies) (p:ByteArray) (i:Nat):Qdx n' p i=Qdx n p i:=by
 unfold Qdx;rw[hl];cases hi:n.lies[i]? with
 | none=>rfl
 | some l=>
  have h0:=h l (List.mem_of_getElem? hi)
  have:¬ 0<l.times:=by omega
  simp[this]
theorem Qhg (h:Qis n) (hl:n'.lies=n.lies) (p:ByteArray):∀ (k i:Nat),Qbu n' p k i=Qbu n p k i
 | 0,_=>rfl
 | k+1,i=>by rw[Qbu,Qbu,Qpz h hl,Qhg h hl p k (i+1)]
theorem Qeu (h:Qis n) (hl:n'.lies=n.lies) (hf:n'.files=n.files) (p:ByteArray):Yt n' p=Yt n p:=by unfold Yt Qc4;rw[hl,hf,Qhg h hl]
theorem Yg (n:Nt) (q:ByteArray):(Zm n q).lies=n.lies∧(Zm n q).files=n.files∧(Zm n q).fetches=n.fetches+1:=by
 unfold Zm
 split <;> exact⟨rfl,rfl,rfl⟩
theorem Qve (h:Qis n) (q p:ByteArray):Yt (Zm n q) p=Yt n p:=Qeu h (Yg n q).1 (Yg n q).2.1 p
def Qb4 (m:Nat):Qir:=if m=0 then Zv else Z5
structure Qd3 (es:List (List UInt8)) (n:Nt):Prop where
 steady:Qis n
 fits:∀ (m j w0 w:Nat) (r:List (List UInt8)) (data b:List UInt8),(Zc es)[m]?=some r→1≤w→w≤w0→w0≤4→4*j+w≤r.length→(w0=w∨w0=4)→Yt n (Qr ((m:Int)-1) j w0)=some data→Qb4 m data w0 w=some b→b=cutR r j w
theorem Qd3.next (h:Qd3 es n) (q:ByteArray):Qd3 es (Zm n q) where
 steady:=by rw[Qis,(Yg n q).1];exact h.steady
 fits m j w0 w r data b h1 h2 h3 h4 h5 h6 h7 h8:=h.fits m j w0 w r data b h1 h2 h3 h4 h5 h6 (by rw[←Qve h.steady q];exact h7) h8
def Qmi (es:List (List UInt8)) (N:Nat) (n:Nt):Prop:=
 ∀ (m j:Nat) (r:List (List UInt8)),(Zc (es.take N))[m]?=some r→4*j<r.length→Yt n (Qr ((m:Int)-1) j (min 4 (r.length-4*j)))=some (cutR r j (min 4 (r.length-4*j)))
structure Qff (es:List (List UInt8)) (N:Nat) (av:Bool) (s:Cs):Prop where
 files:∀ x∈s.files,Qcv es x.1 x.2
 cache:∀ x∈s.cache.items,Qcv es x.1 x.2
 net:Qd3 es s.net
 has:av=true→Qmi es N s.net
variable {N:Nat} {av:Bool} {s:Cs} {p:ByteArray}
theorem Qff.keep (h:Qff es N av s) (hb:Qcv es p b):Qff es N av (Qgi p b s):=
 ⟨fun x hx=>by
  rcases List.mem_append.1 hx with h1|h1
  ·exact h.files x h1
  ·rw[List.mem_singleton.1 h1];exact hb,h.cache,h.net,h.has⟩
theorem Qff.fetched (h:Qff es N av s) (q:ByteArray):Qff es N av (Zd q s):=
 ⟨h.files,h.cache,h.net.next q,fun ha m j r h1 h2=>by
  show Yt (Zm s.net q) _=_
  rw[Qve h.net.steady]
  exact h.has ha m j r h1 h2⟩
theorem Qf9 {l:List Kv} (h:Z3 l p=some b):(p,b)∈l:=by
 unfold Z3 at h;obtain⟨x,hx,rfl⟩:=Option.map_eq_some_iff.1 h;have h1:=List.find?_some hx;have h2:=List.mem_of_find?_eq_some hx;obtain rfl:x.1=p:=by simpa using h1
 exact h2
theorem Qqr {c:Cch} {x:Kv} (h:x∈(Yi c p).items):x∈c.items:=by
 unfold Yi at h
 split at h
 ·rename_i v hv
  rcases List.mem_cons.1 h with h1|h1
  ·rw[h1];exact Qf9 hv
  ·exact (List.mem_filter.1 h1).1
 ·exact h
def Qdo {α:Type} (I:Cs→Prop) (m:Qm α) (Q:α→Prop) (E:QErr→Prop):Prop:=∀ s,I s→I (m s).2∧(∀ a,(m s).1=.ok a→Q a)∧∀ e,(m s).1=.error e→E e
variable {α:Type} {I:Cs→Prop} {Q:α→Prop} {E:QErr→Prop}
theorem Qdo.pure {a:α} (h:Q a):Qdo I (Qm.pure a) Q E:=fun s hs=>⟨hs,fun b hb=>by cases hb;exact h,fun e he=>by cases he⟩
theorem Qdo.bind {β:Type} {m:Qm α} {f:α→Qm β} {R:β→Prop} (h:Qdo I m Q E) (k:∀ a,Q a→Qdo I (f a) R E):Qdo I (Qm.bind m f) R E:=fun s hs=>by
 obtain⟨h1,h2,h3⟩:=h s hs
 unfold Qm.bind
 cases hm:m s with
 | mk o s1=>
  rw[hm] at h1 h2 h3
  cases o with
  | ok a=>exact k a (h2 a rfl) s1 h1
  | error e=>exact⟨h1,fun a ha=>(by cases ha),fun e' he=>by cases he;exact h3 e rfl⟩
theorem Qdo.mono {m:Qm α} {R:α→Prop} (h:Qdo I m Q E) (k:∀ a,Q a→R a):Qdo I m R E:=fun s hs=>⟨(h s hs).1,fun a ha=>k a ((h s hs).2.1 a ha),(h s hs).2.2⟩
def Qsl (av:Bool) (e:QErr):Prop:=av=false∧∃ p,e=.miss p
theorem Qim {k:Nat} (h:4*j+w≤r.length) (hr:∀ x∈r,x.length=k):(cutR r j w).length=k*w:=by
 unfold cutR
 have:∀ (l:List (List UInt8)),(∀ x∈l,x.length=k)→l.flatten.length=k*l.length:=by
  intro l hl
  induction l with
  | nil=>simp
  | cons a l ih=>
   rw[List.flatten_cons,List.length_append,ih (fun x hx=>hl x (List.mem_cons_of_mem _ hx)),hl a List.mem_cons_self,List.length_cons,Nat.mul_add,Nat.mul_one];omega
 rw[this _ fun x hx=>hr x (List.mem_of_mem_drop (List.mem_of_mem_take hx)),List.length_take,List.length_drop,Nat.min_eq_left (by omega)]
theorem Qnj (es:List (List UInt8)) (N:Nat) (h:(Zc (es.take N))[m]?=some r):∃ r0 s,(Zc es)[m]?=some r0∧r0=r++s:=by
 have key:∀ (k:Nat),(∃ r0 s,(Zc (es.take (N+k)))[m]?=some r0∧r0=r++s):=by
  intro k
  induction k with
  | zero=>exact⟨r,[],h,by simp⟩
  | succ k ih=>
   obtain⟨r0,s,h1,h2⟩:=ih;rcases Nat.lt_or_ge (N+k) es.length with hlt|hge
   ·have e:es.take (N+(k+1))=es.take (N+k) ++ [es[N+k]]:=by rw[←Nat.add_assoc,List.take_succ_eq_append_getElem hlt]
    have hm:m<(Zc (es.take (N+k))).length:=(List.getElem?_eq_some_iff.1 h1).1;have hm2:m<(Zc (es.take (N+k) ++ [es[N+k]])).length:=by
     rw[Jv] at hm ⊢
     have:=Qsa (es.take (N+k)).length
     rw[List.length_append,List.length_singleton];omega
    obtain⟨r1,s1,h3,h4⟩:=Qmt es[N+k] (List.getElem?_eq_getElem hm2) hm;rw[h1] at h3;cases h3;rw[e];exact⟨_,s++s1,List.getElem?_eq_getElem hm2,by rw[h4,h2,List.append_assoc]⟩
   ·have e:es.take (N+(k+1))=es.take (N+k):=by rw[List.take_of_length_le (by omega),List.take_of_length_le (by omega)]
    rw[e];exact⟨r0,s,h1,h2⟩
 obtain⟨r0,s,h1,h2⟩:=key es.length;rw[List.take_of_length_le (by omega)] at h1;exact⟨r0,s,h1,h2⟩
theorem Qhw {s:List (List UInt8)} (h:4*j+w≤r.length):cutR (r++s) j w=cutR r j w:=by unfold cutR;rw[List.drop_append_of_le_length (by omega),List.take_append_of_le_length (by simp;omega)]
theorem Quq (hl:es.length≤1048576) (hr:(Zc (es.take N))[m]?=some r) (hj:4*j<r.length) (hfit:∀ w,1≤w→w≤4→4*j+w≤r.length→Qb4 m (cutR r j w) w w=some (cutR r j w)) :
  Qdo (Qff es N av) (Qbq (Qb4 m) ((m:Int)-1) j (Zt j r.length)) (fun b=>b=cutR r j (Zt j r.length)) (Qsl av):=by
 intro s hs;obtain⟨r0,s0,hr0,he0⟩:=Qnj es N hr;obtain⟨w,hw⟩:∃ w,w=Zt j r.length:=⟨_,rfl⟩
 rw[←hw];have hw2:1≤w∧w≤4∧4*j+w≤r.length:=by unfold Zt at hw;omega
 have hlr:4*j+w≤r0.length:=by rw[he0,List.length_append];omega
 have hcut:cutR r0 j w=cutR r j w:=by rw[he0];exact Qhw hw2.2.2
 have tok:Qcv es (Qr ((m:Int)-1) j w) (cutR r j w):=⟨m,j,w,r0,hr0,hw2.1,hw2.2.1,hlr,rfl,hcut.symm⟩
 unfold Qbq;cases ht:tryQ (Qb4 m) (Qr ((m:Int)-1) j w) w w s with
 | some b=>
  have hb:b=cutR r j w:=by unfold tryQ at ht;obtain⟨data,hd,hf⟩:=Option.bind_eq_some_iff.1 ht;rw[←hcut];exact hs.net.fits m j w w r0 data b hr0 hw2.1 (Nat.le_refl _) hw2.2.1 hlr (.inl rfl) hd hf
  subst hb;exact⟨(hs.fetched _).keep tok,fun a ha=>by cases ha;rfl,fun e he=>by cases he⟩
 | none=>
  have hav:av=false:=by
   cases hav:av with
   | false=>rfl
   | true=>
    exfalso;have h1:=hs.has hav m j r hr hj;rw[show min 4 (r.length-4*j)=w by rw[hw];rfl] at h1;unfold tryQ at ht;rw[h1,Option.bind_some,hfit w hw2.1 hw2.2.1 hw2.2.2] at ht;cases ht
  by_cases h4:w=4
  ·dsimp only
   rw[if_pos h4];exact⟨hs.fetched _,fun a ha=>(by cases ha),fun e he=>by cases he;exact⟨hav,_,rfl⟩⟩
  ·dsimp only
   rw[if_neg h4];cases ht2:tryQ (Qb4 m) (Qr ((m:Int)-1) j 4) 4 w (Zd (Qr ((m:Int)-1) j w) s) with
   | some b=>
    have hb:b=cutR r j w:=by unfold tryQ at ht2;obtain⟨data,hd,hf⟩:=Option.bind_eq_some_iff.1 ht2;rw[←hcut];exact (hs.fetched _).net.fits m j 4 w r0 data b hr0 hw2.1 hw2.2.1 (Nat.le_refl _) hlr (.inr rfl) hd hf
    subst hb;exact⟨((hs.fetched _).fetched _).keep tok,fun a ha=>by cases ha;rfl,fun e he=>by cases he⟩
   | none=>exact⟨(hs.fetched _).fetched _,fun a ha=>(by cases ha),fun e he=>by cases he;exact⟨hav,_,rfl⟩⟩
theorem Qjj (hl:es.length≤1048576) (hr:(Zc (es.take N))[m]?=some r) (hj:4*j<r.length) (hfit:∀ w,1≤w→w≤4→4*j+w≤r.length→Qb4 m (cutR r j w) w w=some (cutR r j w)) :
  Qdo (Qff es N av) (Qau (Qb4 m) ((m:Int)-1) j r.length) (fun b=>b=cutR r j (Zt j r.length)) (Qsl av):=by
 intro s hs;obtain⟨r0,s0,hr0,he0⟩:=Qnj es N hr;obtain⟨w,hw⟩:∃ w,w=Zt j r.length:=⟨_,rfl⟩
 have hw2:1≤w∧w≤4∧4*j+w≤r.length:=by unfold Zt at hw;omega
 have hlr:4*j+w≤r0.length:=by rw[he0,List.length_append];omega
 have hcut:cutR r0 j w=cutR r j w:=by rw[he0];exact Qhw hw2.2.2
 have tok:Qcv es (Qr ((m:Int)-1) j w) (cutR r j w):=⟨m,j,w,r0,hr0,hw2.1,hw2.2.1,hlr,rfl,hcut.symm⟩
 have hF:=Quq hl (av:=av) hr hj hfit s hs;unfold Qau;rw[←hw] at hF ⊢;cases h1:Z3 s.files (Qr ((m:Int)-1) j w) with
 | some b=>
  have hb:b=cutR r j w:=by rw[←hcut];exact Qpc hl hr0 hw2.1 hw2.2.1 hlr (hs.files _ (Qf9 h1))
  exact⟨hs,fun a ha=>by cases ha;exact hb,fun e he=>by cases he⟩
 | none=>
  dsimp only;cases h2:Z3 s.cache.items (Qr ((m:Int)-1) j w) with
  | some b=>
   have hb:b=cutR r j w:=by rw[←hcut];exact Qpc hl hr0 hw2.1 hw2.2.1 hlr (hs.cache _ (Qf9 h2))
   subst hb;have hs2:Qff es N av { s with cache:=Yi s.cache (Qr ((m:Int)-1) j w) }:=⟨hs.files,fun x hx=>hs.cache x (Qqr hx),hs.net,hs.has⟩
   exact⟨hs2.keep tok,fun a ha=>by cases ha;rfl,fun e he=>by cases he⟩
  | none=>exact hF
end
section
theorem Q1x (h:Hsh) (t:List UInt8):Yw (h.toList++t)=h:=by
 have hl:h.toList.length=8:=by simp
 have hg:∀ i,i<8→(h.toList++t).getD i 0=h.toList.getD i 0:=fun i hi=>by rw[List.getD_eq_getElem?_getD,List.getD_eq_getElem?_getD,List.getElem?_append_left (by omega)]
 unfold Yw;rw[hg 0 (by decide),hg 1 (by decide),hg 2 (by decide),hg 3 (by decide),hg 4 (by decide),hg 5 (by decide),hg 6 (by decide),hg 7 (by decide)];apply Vector.ext;intro i hi
 match i,hi with
 | 0,_=>simp[List.getD_eq_getElem?_getD]
 | 1,_=>simp[List.getD_eq_getElem?_getD]
 | 2,_=>simp[List.getD_eq_getElem?_getD]
 | 3,_=>simp[List.getD_eq_getElem?_getD]
 | 4,_=>simp[List.getD_eq_getElem?_getD]
 | 5,_=>simp[List.getD_eq_getElem?_getD]
 | 6,_=>simp[List.getD_eq_getElem?_getD]
 | 7,_=>simp[List.getD_eq_getElem?_getD]
variable {k:Nat}
theorem Qm0:∀ (l:List (List UInt8)) (q:Nat),(∀ x∈l,x.length=k)→l.flatten.drop (k*q)=(l.drop q).flatten
 | l,0,_=>by simp
 | [],q+1,_=>by simp
 | a :: l,q+1,h=>by
   rw[List.flatten_cons,List.drop_succ_cons,←Qm0 l q fun x hx=>h x (List.mem_cons_of_mem _ hx),Nat.mul_add,Nat.mul_one,Nat.add_comm,←List.drop_drop,List.drop_append_of_le_length (by rw[h a List.mem_cons_self];exact Nat.le_refl _)]
   rw[show List.drop k a = [] from List.drop_eq_nil_of_le (by rw[h a List.mem_cons_self];exact Nat.le_refl _),List.nil_append]
theorem Qys {r:List Hsh} {j w q:Nat} (hq:q<w) (hw:4*j+w≤r.length):Qss (cutR (r.map fun (h:Hsh)=>h.toList) j w) q=r.getD (4*j+q) zero8:=by
 unfold Qss cutR;have h8:∀ x∈((r.map fun (h:Hsh)=>h.toList).drop (4*j)).take w,x.length=8:=fun x hx=>by obtain⟨h,_,rfl⟩:=List.mem_map.1 (List.mem_of_mem_drop (List.mem_of_mem_take hx));simp
 rw[Qm0 _ q h8];have hl:q<(((r.map fun (h:Hsh)=>h.toList).drop (4*j)).take w).length:=by simp;omega
 rw[List.drop_eq_getElem_cons hl,List.flatten_cons];have hr:4*j+q<r.length:=by omega
 have e:(((r.map fun (h:Hsh)=>h.toList).drop (4*j)).take w)[q]=(r[4*j+q]).toList:=by simp
 rw[e,Q1x,List.getD_eq_getElem?_getD,List.getElem?_eq_getElem hr];rfl
section
variable {es:List (List UInt8)} {N:Nat} {av:Bool} (hl:es.length≤1048576) (hN:N≤es.length)
include hl hN
variable {index:Nat}
theorem Qj5 (h:(index+1)*4 ^ k≤N):Qdo (Qff es N av) (Qcd N (2*k) index) (fun a=>a=Zq (es.take N) (2*k) index) (Qsl av):=by
 have hlen:(es.take N).length=N:=by rw[List.length_take,Nat.min_eq_left hN]
 have hp:0<4 ^ k:=Nat.pow_pos (by decide);have hlt:index<N / 4 ^ k:=(Nat.le_div_iff_mul_le hp).2 h;have hk:k<nLev (es.take N).length:=by rw[Qac,hlen];exact Nat.le_trans (Nat.le_mul_of_pos_left _ (by omega)) h
 have hr:=Qdg (es.take N) k hk;have hlr:((Zy (es.take N) k).map fun (x:Hsh)=>x.toList).length=N / 4 ^ k:=by rw[List.length_map,Jz,hlen]
 have h8:∀ x∈(Zy (es.take N) k).map (fun (x:Hsh)=>x.toList),x.length=8:=fun x hx=>by obtain⟨y,_,rfl⟩:=List.mem_map.1 hx;simp
 have hfile:=Qjj hl (av:=av) hr (j:=index / 4) (by rw[hlr];omega) (fun w h1 h4 hw=>by
  have e:=Qim hw h8
  unfold Qb4
  rw[if_neg (by omega)]
  unfold Z5
  rw[if_pos e,List.take_of_length_le (by omega)])
 rw[hlr] at hfile;unfold Qcd;rw[show 2*k / 2=k by omega,pow24];have hf:Qb4 (k+1)=Z5:=by unfold Qb4;rw[if_neg (by omega)]
 rw[hf,show (((k+1:Nat):Int)-1)=((k:Nat):Int) by omega] at hfile;refine hfile.bind fun b hb=>?_
 have hw:Zt (index / 4) (N / 4 ^ k)=min 4 (N / 4 ^ k-4*(index / 4)):=rfl;have hb2:b.length=8*Zt (index / 4) (N / 4 ^ k):=by rw[hb];exact Qim (by rw[hlr,hw];omega) h8
 intro s hs;unfold Qk2;rw[if_neg (by rw[hb2,hw];omega)];refine⟨hs,fun a ha=>?_,fun e he=>by cases he⟩;cases ha;rw[hb,Qys (by rw[hw];omega) (by rw[Jz,hlen,hw];omega),Qcq _ _ _ (by rw[hlen];omega)]
 congr 1
 omega
theorem Qyg {level:Nat} (h:(index+1)*2 ^ level≤N):Qdo (Qff es N av) (Qdq N level index) (fun a=>a=Zq (es.take N) level index) (Qsl av):=by
 unfold Qdq;by_cases ho:level%2=1
 ·rw[if_pos ho]
  obtain⟨k,rfl⟩:∃ k,level=2*k+1:=⟨level / 2,by omega⟩
  have hp:(index+1)*2 ^ (2*k+1)=(2*index+1+1)*4 ^ k:=by
   rw[Nat.pow_succ,pow24,Nat.mul_comm (4 ^ k) 2,←Nat.mul_assoc]
   congr 1
   omega
  rw[hp] at h;have h2:(2*index+1)*4 ^ k≤N:=Nat.le_trans (Nat.mul_le_mul_right _ (by omega)) h;rw[show 2*k+1-1=2*k by omega];refine (Qj5 hl hN h2).bind fun a ha=>(Qj5 hl hN h).bind fun b hb=>Qdo.pure ?_
  rw[ha,hb];rfl
 ·rw[if_neg ho]
  obtain⟨k,rfl⟩:∃ k,level=2*k:=⟨level / 2,by omega⟩
  rw[pow24] at h;exact Qj5 hl hN h
theorem Qji:∀ (f i n:Nat),n≤f→1≤n→i+n≤N→Qdo (Qff es N av) (rootQ N f i n) (fun a=>a=rootOf (part (es.take N) i (i+n))) (Qsl av)
 | 0,i,n,h0,h1,_=>by omega
 | f+1,i,n,h0,h1,h2=>by
  have hlen:(es.take N).length=N:=by rw[List.length_take,Nat.min_eq_left hN]
  rw[rootQ]
  by_cases hp:n &&& (n-1)=0∧i%n=0
  ·rw[if_pos hp]
   have hpw:=Qej h1 (by omega) hp.1
   obtain⟨e,he⟩:∃ e,e=Lib.bitLen n-1:=⟨_,rfl⟩
   rw[←he] at hpw ⊢
   have he20:e≤62:=by
    rcases Nat.lt_or_ge 62 e with hlt|hge
    ·have:=Nat.pow_le_pow_right (n:=2) (by decide) hlt
     omega
    ·exact hge
   have hdiv:i / n*n=i:=by have:=Nat.div_add_mod i n;rw[hp.2] at this;rw[Nat.mul_comm];omega
   have hq:(i / n+1)*2 ^ e≤N:=by rw[←hpw,Nat.add_mul,hdiv];omega
   refine (Qyg hl hN hq).mono fun a ha=>?_
   rw[ha,Qda _ _ _ he20 (by rw[hlen];exact hq),←hpw,hdiv]
   unfold part
   rw[show i+n-i=n by omega]
  ·rw[if_neg hp]
   have hn2:2≤n:=by
    rcases Nat.lt_or_ge n 2 with hlt|hge
    ·obtain rfl:n=1:=by omega
     exact absurd ⟨by decide,Nat.mod_one i⟩ hp
    ·exact hge
   have hb:=Yl hn2
   refine (Qji f i (below n) (by omega) (by omega) (by omega)).bind fun a ha=>(Qji f (i+below n) (n-below n) (by omega) (by omega) (by omega)).bind fun b hb'=>Qdo.pure ?_
   have hpl:(part (es.take N) i (i+n)).length=n:=by rw[Qp3 (by omega)];omega
   rw[Qbd (by omega),hpl,Qfy (by omega),Qfr,ha,hb',show i+below n+(n-below n)=i+n by omega]
theorem Qfw:∀ (rs:List (Nat×Nat)),(∀ x∈rs,x.1<x.2∧x.2≤N)→Qdo (Qff es N av) (Zg N rs) (fun l=>l=rs.map fun x=>rootOf (part (es.take N) x.1 x.2)) (Qsl av)
 | [],_=>Qdo.pure rfl
 | x :: rs,h=>by
  obtain⟨h1,h2⟩:=h x List.mem_cons_self
  rw[Zg]
  refine (Qji hl hN (x.2-x.1) x.1 (x.2-x.1) (Nat.le_refl _) (by omega) (by omega)).bind fun a ha=>(Qfw rs fun y hy=>h y (List.mem_cons_of_mem _ hy)).bind fun l hl'=>Qdo.pure ?_
  rw[ha,hl',show x.1+(x.2-x.1)=x.2 by omega]
  rfl
theorem Qv6:part (es.take N) 0 N=es.take N:=by
 have:=hl
 unfold part;rw[List.drop_zero,List.take_of_length_le (by simp;omega)]
theorem Ql2 {m:Nat} (h1:1≤m) (h2:m≤N):Qdo (Qff es N av) (Qgc m N) (fun l=>l=Qam m (es.take N) true) (Qsl av):=by
 have hlen:(es.take N).length=N:=by rw[List.length_take,Nat.min_eq_left hN]
 refine (Qfw hl hN _ fun x hx=>Qi1 N 0 N m (by omega) (by omega) h2 x (List.mem_reverse.1 hx)).mono fun l hl'=>?_
 rw[hl',Qpw (es.take N) N 0 N m (by omega) (by omega) h2 (by omega),Qv6 hl hN];rfl
theorem Qn7 (hs20:∀ e∈es,e.length≤20) {i:Nat} (hi:i<N):Qdo (Qff es N av) (Qbr N i) (fun r=>r=((es.take N).getD i [],J4 (es.take N) i)) (Qsl av):=by
 have hlen:(es.take N).length=N:=by rw[List.length_take,Nat.min_eq_left hN]
 have hr:=Qbb (es.take N);have hlr:((es.take N).map encE).length=N:=by rw[List.length_map,hlen]
 have hsn:∀ e∈es.take N,e.length≤20:=fun e he=>hs20 e (List.mem_of_mem_take he)
 have hcut:∀ w,cutR ((es.take N).map encE) (i / 4) w=(((es.take N).drop (4*(i / 4))).take w).flatMap encE:=fun w=>by unfold cutR;rw[←List.map_drop,←List.map_take,List.flatMap_def]
 have hun:∀ w,1≤w→w≤4→4*(i / 4)+w≤N→Qx (cutR ((es.take N).map encE) (i / 4) w)=some (((es.take N).drop (4*(i / 4))).take w):=fun w h1 h4 hw=>by
  rw[hcut];have hll:(((es.take N).drop (4*(i / 4))).take w).length=w:=by rw[List.length_take,List.length_drop,hlen];omega
  refine Qhs ?_ (by omega) (by omega) fun x hx=>hsn x (List.mem_of_mem_drop (List.mem_of_mem_take hx))
  have key:∀ l:List (List UInt8),(∀ x∈l,x.length≤20)→rawU (l.flatMap encE)=some l:=by
   intro l
   induction l with
   | nil=>intro _;rfl
   | cons a l ih=>
    intro h;have ha:=h a List.mem_cons_self;have h20:(UInt8.ofNat a.length).toNat=a.length:=by rw[UInt8.toNat_ofNat'];omega
    rw[List.flatMap_cons];show rawU (UInt8.ofNat a.length :: (a++l.flatMap encE))=_;rw[Qil,h20,if_pos (by simp),List.drop_left,List.take_left,ih fun x hx=>h x (List.mem_cons_of_mem _ hx)];rfl
  exact key _ fun x hx=>hsn x (List.mem_of_mem_drop (List.mem_of_mem_take hx))
 have hfile:=Qjj hl (av:=av) hr (j:=i / 4) (by rw[hlr];omega) (fun w h1 h4 hw=>by
  rw[hlr] at hw
  have hll:(((es.take N).drop (4*(i / 4))).take w).length=w:=by rw[List.length_take,List.length_drop,hlen];omega
  unfold Qb4
  rw[if_pos rfl]
  unfold Zv
  rw[hun w h1 h4 hw,Option.bind_some,if_pos hll,List.take_of_length_le (by omega),Qba (by omega) (by omega) fun j l hjl=>hsn l (List.mem_of_mem_drop (List.mem_of_mem_take (List.mem_of_getElem? hjl))),hcut])
 rw[hlr] at hfile;unfold Qbr;have hf:Qb4 0=Zv:=by unfold Qb4;rw[if_pos rfl]
 rw[hf,show (((0:Nat):Int)-1) = -1 by omega] at hfile;refine hfile.bind fun b hb=>?_
 have hw:Zt (i / 4) N=min 4 (N-4*(i / 4)):=rfl;rw[hb,hun _ (by rw[hw];omega) (by rw[hw];omega) (by rw[hw];omega),Option.getD_some];have hge:(((es.take N).drop (4*(i / 4))).take (Zt (i / 4) N))[i%4]?=some ((es.take N).getD i []):=by rw[List.getElem?_take_of_lt (by rw[hw];omega),List.getElem?_drop,show 4*(i / 4)+i%4=i by omega,List.getD_eq_getElem?_getD,List.getElem?_eq_getElem (by omega:i<(es.take N).length)];rfl
 rw[hge];refine (Qfw hl hN _ fun x hx=>Qd8 N 0 N i (by omega) (by omega) hi x (List.mem_reverse.1 hx)).bind fun p hp=>Qdo.pure ?_
 rw[hp,Qqe (es.take N) N 0 N i (by omega) (by omega) hi (by omega),Qv6 hl hN];rfl
end
end
end Go.Proofs.YtefccfakhgdfbabGreatDoor
