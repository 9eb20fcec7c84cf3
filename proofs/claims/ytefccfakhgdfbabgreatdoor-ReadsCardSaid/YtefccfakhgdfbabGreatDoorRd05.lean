/- recent.Cache in memory: what it remembers. No walk. Conditions: the block is such a cache. -/
import Derived.Test.YtefccfakhgdfbabGreatDoorRd04
import Derived.Maps.OwnIn
set_option linter.unusedVariables false
set_option linter.unusedSimpArgs false
open Go.RowKit Go.Proofs.Tryz
set_option maxRecDepth 100000
set_option maxHeartbeats 4000000
namespace Go.Proofs.YtefccfakhgdfbabGreatDoor
section
def Qjz (o:Option (List UInt8)) (w:World) (e:Ending) (w':World):Prop:=
 Below w.heap.size w w'∧((o=none∧∃ a n c,e=.returned (.tuple #[.slice a n c,.bool false]))∨∃ b a n c,o=some b∧e=.returned (.tuple #[.slice a n c,.bool true])∧Qz w' w.heap.size (.slice a n c) b)
variable {w:World} {a:Option Addr} {c k:Nat} {l:List UInt8}
theorem Qtw (h:Q6 w (.slice a l.length c) l) (hk:k≤l.length):Q6 w (.slice a k c) (l.take k):=by
 obtain⟨a',c',hv,hc,hx⟩:=h;simp only[Value.slice.injEq,true_and] at hv;obtain⟨rfl,rfl⟩:=hv;refine⟨a,c,?_,by rw[List.length_take];omega,fun j u hu=>?_⟩
 ·rw[List.length_take,Nat.min_eq_left hk]
 ·refine hx j u ?_
  rw[List.map_take] at hu;have hj:=(List.getElem?_eq_some_iff.1 hu).1;rw[List.length_take] at hj
  rwa [List.getElem?_take_of_lt (by omega)] at hu
variable {v:Value}
theorem Qgo {base:Nat} (h:Qz w base v l):∃ a n c,v=.slice a n c:=by
 rcases h with ⟨rfl,rfl⟩|⟨b,off,c,C,fz,rfl,_⟩
 ·exact⟨none,0,0,rfl⟩
 ·exact⟨_,_,c,rfl⟩
theorem Q39 (w:World) (v:Value) (data:List UInt8) (hv want:Nat) (h:Q6 w v data) (h1:1≤want) (h2:want≤hv) (h4:hv≤4) :
  Calls prog 143 #[v,.int .i64 hv,.int .i64 want] w (Qjz (Z5 data hv want) w):=by
 obtain⟨a,c,rfl⟩:∃ a c,v=.slice a data.length c:=by obtain⟨a,c,h1,_,_⟩:=h;exact⟨a,c,h1⟩
 by_cases hf:data.length=8*hv
 ·have hfit:Z5 data hv want=some (data.take (8*want)):=by unfold Z5;rw[if_pos hf]
  have hb:=Qtw h (k:=8*want) (by omega);have hcl:=fun (W:World) (hW:Below w.heap.size w W)=>Qfi (.slice a (8*want) c) (data.take (8*want)) W (hb.below hW) (by rw[List.length_take];omega)
  have hle:(8*want:Nat)≤c:=by obtain⟨_,_,hv',hc,_⟩:=h;simp only[Value.slice.injEq,true_and] at hv';omega
  have hw1:wrap64 (8*(hv:Int))=8*(hv:Int):=by unfold wrap64;omega
  have hw2:wrap64 (8*(want:Int))=8*(want:Int):=by unfold wrap64;omega
  have hz:((data.length:Int) == 8*(hv:Int))=true:=by rw[beq_iff_eq];omega
  have he:(data.length:Int)=8*(hv:Int):=by omega
  have htn:(8*(want:Int)).toNat=8*want:=by omega
  have h0:(0:Int)≤8*(want:Int):=by omega
  have hlc:8*(want:Int)≤(c:Int):=by omega
  have HF:=zh hfit;have HCL:=zh hcl;clear hfit hcl hb h hf
  go_enter func143,ntmps143
  go_wp2_with (go_at_call 75;refine (HCL.o _ (Below.refl _ _)).mono ?_;rintro e w1 ⟨v1,rfl,ho1,hb1⟩;have HO1:=zh ho1;have HB1:=zh hb1;obtain⟨a1,n1,c1,rfl⟩:=Qgo ho1;clear ho1 hb1)
  go_ret2;exact⟨HB1.o,.inr ⟨_,_,_,_,HF.o,rfl,HO1.o⟩⟩
 ·have hfit:Z5 data hv want=none:=by unfold Z5;rw[if_neg hf]
  have hw1:wrap64 (8*(hv:Int))=8*(hv:Int):=by unfold wrap64;omega
  have hz:((data.length:Int) == 8*(hv:Int))=false:=by rw[beq_eq_false_iff_ne];omega
  have he:¬ (data.length:Int)=8*(hv:Int):=by omega
  have HF:=zh hfit;clear hfit h hf
  go_enter func143,ntmps143
  go_wp2;go_ret2;exact⟨Below.refl _ _,.inl ⟨HF.o,_,_,_,rfl⟩⟩
variable {ls:List (List UInt8)}
theorem Qzr (h:Qes w (.slice a ls.length c) ls) (hk:k≤ls.length):Qes w (.slice a k c) (ls.take k):=by
 obtain⟨vs,hl,⟨a',c',hv,hc,hx⟩,hall⟩:=h;simp only[Value.slice.injEq] at hv;obtain⟨rfl,hlen,rfl⟩:=hv;refine⟨vs.take k,by rw[List.length_take,List.length_take,hl],⟨a,c,?_,by rw[List.length_take];omega,fun j u hu=>?_⟩,fun j u l hu hl'=>?_⟩
 ·rw[List.length_take,Nat.min_eq_left hk]
 ·have hj:=(List.getElem?_eq_some_iff.1 hu).1
  rw[List.length_take] at hj;rw[List.getElem?_take_of_lt (by omega)] at hu;exact hx j u hu
 ·have hj:=(List.getElem?_eq_some_iff.1 hu).1
  rw[List.length_take] at hj;rw[List.getElem?_take_of_lt (by omega)] at hu hl';exact hall j u l hu hl'
theorem Q5j {n:Nat} (h:Qes w (.slice a n c) ls):ls.length≤c:=by obtain⟨vs,hl,⟨a',c',hv,hc,hx⟩,hall⟩:=h;simp only[Value.slice.injEq] at hv;omega
theorem Q5y {w':World} (hb:Yj ls=some l) (h:(Yj ls=none∧v=.slice none 0 0)∨∃ l,Yj ls=some l∧Qz w' w.heap.size v l∧∃ a n c,v=.slice (some a) n c):Qz w' w.heap.size v l∧∃ a n c,v=.slice a n c:=by
 rcases h with ⟨h,_⟩|⟨l',h1,h2,a,n,c,h3⟩
 ·rw[hb] at h;cases h
 ·rw[hb] at h1
  cases h1;exact⟨h2,_,n,c,h3⟩
theorem Q4a (w:World) (v:Value) (data:List UInt8) (hv want:Nat) (h:Q6 w v data) (hl:data.length≤1099511627776) (h1:1≤want) (h2:want≤hv) (h4:hv≤4) :
  Calls prog 93 #[v,.int .i64 hv,.int .i64 want] w (Qjz (Zv data hv want) w):=by
 cases hu:Qx data with
 | none=>
  have hfit:Zv data hv want=none:=by unfold Zv;rw[hu];rfl
  have hcon:=Qpv h hl hu;have HF:=zh hfit;have HC:=zh hcon;clear hfit hcon h hu
  go_enter func93,ntmps93
  go_wp2_with (go_at_call 94;refine HC.o.mono ?_;rintro e w1 ⟨rfl,hb1⟩;have HB1:=zh hb1;clear hb1)
  go_ret2;exact⟨HB1.o,.inl ⟨HF.o,_,_,_,rfl⟩⟩
 | some ls=>
  have hcon:=Qqc h hl hu;have hlens:=Qag hu;by_cases hlen:ls.length=hv
  ·have hz:((ls.length:Int) == (hv:Int))=true:=by rw[beq_iff_eq];omega
   have he:(ls.length:Int)=(hv:Int):=by omega
   have hlt:(ls.take want).length=want:=by rw[List.length_take];omega
   have hbo:Yj (ls.take want)=some ((ls.take want).map encE).flatten:=by rw[Qba (by omega) (by omega) fun j l hj=>hlens.2.2 l (List.mem_of_mem_take (List.mem_of_getElem? hj)),List.flatMap_def]
   have hfit:Zv data hv want=some ((ls.take want).map encE).flatten:=by unfold Zv;rw[hu,Option.bind_some,if_pos hlen];exact hbo
   have hwc:(want:Int)≤(hv:Int):=by omega
   have h0:(0:Int)≤(want:Int):=by omega
   have HF:=zh hfit;have HC:=zh hcon;have HBO:=zh hbo;have HLT:=zh hlt;clear hfit hcon h hu hlens hbo hlt
   go_enter func93,ntmps93
   go_wp2_with (first|(go_at_call 94;refine HC.o.mono ?_;rintro e w1 ⟨b1,c1,rfl,ho1,hb1⟩;have HB1:=zh hb1;have hbs:=Qzr (k:=want) ho1.at (by omega);have hcap:=Q5j ho1.at;have hcz:(want:Int)≤(c1:Int):=(by omega);have HBS:=zh hbs;clear ho1 hb1 hbs hcap)|(go_at_call 79;refine (Qnp _ (ls.take want) _ HBS.o (by rw[HLT.o];omega)).mono ?_;intro e w2 h2;obtain⟨v2,rfl,hb2,h2⟩:=h2;have hy:=Q5y HBO.o h2;obtain⟨ho2,a2,n2,c2,rfl⟩:=hy;have HO2:=zh ho2;have HB2:=zh hb2;clear h2 hb2 ho2)|fail)
   go_ret2;exact⟨HB1.o.trans (HB2.o.mono HB1.o.size),.inr ⟨_,_,_,_,HF.o,rfl,HO2.o.mono HB1.o.size⟩⟩
  ·have hfit:Zv data hv want=none:=by unfold Zv;rw[hu,Option.bind_some,if_neg hlen]
   have he:¬ (ls.length:Int)=(hv:Int):=by omega
   have hz:((ls.length:Int) == (hv:Int))=false:=by rw[beq_eq_false_iff_ne];omega
   have HF:=zh hfit;have HC:=zh hcon;clear hfit hcon h hu hlens
   go_enter func93,ntmps93
   go_wp2_with (go_at_call 94;refine HC.o.mono ?_;rintro e w1 ⟨b1,c1,rfl,ho1,hb1⟩;have HB1:=zh hb1;clear ho1 hb1)
   go_ret2;exact⟨HB1.o,.inl ⟨HF.o,_,_,_,rfl⟩⟩
end
section
variable {w w1:World} {g gd:Nat} {ve vl vp:Value} {vs:List Value} {L:Lg}
theorem Zn.rest (h:Zn w g gd ve vl vp vs L) {T:Nat→Prop} (hf:Fr T w w1) (t:TypeId) (hT:∀ k C s f,T k→w.heap[k]?=some (.cells C s f)→s=t) :
  (t≠138→w1.heap[g]?=w.heap[g]?)∧(t≠94→t≠5→Y8 w1 0 ve L.entries)∧(t≠104→w1.ownsRow 0 104 1 vl L.levels.length vs)∧
   (t≠109→∀ (j:Nat) (v:Value) (r:List Hsh),vs[j]?=some v→L.levels[j]?=some r→Qcu w1 0 v r)∧(t≠3→w1.ownsRow 0 3 1 vp L.put.length (L.put.map fun (n:Nat)=>.int .i64 (n:Int))):=by
 have key:∀ {k:Nat} {C:Array Value} {s:TypeId} {f:Nat×Nat},w.heap[k]?=some (.cells C s f)→t≠s→¬ T k:=fun hk hs hd=>hs (hT _ _ _ _ hd hk).symm
 refine⟨fun ht=>hf.block g (Qc h.cells) (key h.cells ht),fun ht ht2=>?_,fun ht=>?_,fun ht j v r hv hr=>?_,fun ht=>?_⟩
 ·refine h.ents.fr hf (fun k hk=>?_) (fun k C fz hk=>key hk ht2)
  obtain⟨vs',h1,_⟩:=h.ents;obtain⟨C,hC⟩:=Qh h1 hk;exact key hC ht
 ·refine Zb h.rows hf fun k hk=>?_
  obtain⟨C,hC⟩:=Qh h.rows hk;exact key hC ht
 ·refine Zb (h.each j v r hv hr) hf fun k hk=>?_
  obtain⟨C,hC⟩:=Qh (h.each j v r hv hr) hk;exact key hC ht
 ·refine Zb h.puts hf fun k hk=>?_
  obtain⟨C,hC⟩:=Qh h.puts hk;exact key hC ht
variable {i:Nat} {C:Array Value} {f:Nat×Nat} {u v:Value} {ls:List (List UInt8)}
theorem Y8.setLog (hg:w.heap[g]?=some (.cells C 138 f)) (h:Y8 w 0 v ls):Y8 (w.setCell ⟨g,i,none⟩ u) 0 v ls:=by refine h.fr (Fr.set1 w g i u) (fun k hk e=>?_) (fun k C fz hk e=>Zp hk hg (by decide) e);obtain⟨vs',h1,_⟩:=h;obtain⟨C,hC⟩:=Qh h1 hk;exact Zp hC hg (by decide) e
variable {n:Nat}
theorem Yv (hg:w.heap[g]?=some (.cells C 138 f)) {base:Nat} {e:TypeId} {size:Nat} {xs:List Value} (h:w.ownsRow base e size v n xs) (he:e≠138):(w.setCell ⟨g,i,none⟩ u).ownsRow base e size v n xs:=
 Zb h (Fr.set1 w g i u) fun k hk ee=>by
  obtain⟨C,hC⟩:=Qh h hk
  exact Zp hC hg he ee
theorem Zn.setEnts {ve':Value} {es:List (List UInt8)} (h:Zn w g gd ve vl vp vs L) (hf:Fr (fun k=>ve.ownBlock=some k) w w1) (h2:Y8 w1 0 ve' es) (hm:J7 w ve ve') :
  Zn (w1.setCell ⟨g,2,none⟩ ve') g gd ve' vl vp vs { L with entries:=es }∧Fr (LogS g ve vl vp vs) w (w1.setCell ⟨g,2,none⟩ ve')∧Sub w (LogS g ve vl vp vs) (LogS g ve' vl vp vs):=by
 have hT:∀ k C s f,ve.ownBlock=some k→w.heap[k]?=some (.cells C s f)→s=94:=fun k C s f hk hC=>by obtain⟨vs',h1,_⟩:=h.ents;obtain⟨C',hC'⟩:=Qh h1 hk;rw[hC] at hC';cases hC';rfl
 obtain⟨a1,_,a3,a4,a5⟩:=h.rest hf 94 hT;have hg1:=(a1 (by decide)).trans h.cells;refine⟨⟨(heap_setCell hg1 _).trans (by simp[Qjw]),h2.setLog hg1,Yv hg1 (a3 (by decide)) (by decide),fun j v r hv hr=>Yv hg1 (a4 (by decide) j v r hv hr) (by decide),h.apart,Yv hg1 (a5 (by decide)) (by decide)⟩,
  (hf.weak fun k _ hk=>.inr (.inl hk)).trans ((Fr.set1 w1 g 2 ve').weak fun k _ hk=>.inl hk),fun k hk=>?_⟩
 rcases hk with hk|hk|hk
 ·exact .inl (.inl hk)
 ·exact (hm k hk).imp (fun h=>.inr (.inl h)) id
 ·exact .inl (.inr (.inr hk))
theorem Zn.setPuts {vp':Value} {ps:List Nat} (h:Zn w g gd ve vl vp vs L) (hf:Fr (fun k=>vp.ownBlock=some k) w w1) (h2:w1.ownsRow 0 3 1 vp' ps.length (ps.map fun (n:Nat)=>.int .i64 (n:Int))) (hm:J7 w vp vp') :
  Zn (w1.setCell ⟨g,4,none⟩ vp') g gd ve vl vp' vs { L with put:=ps }∧Fr (LogS g ve vl vp vs) w (w1.setCell ⟨g,4,none⟩ vp')∧Sub w (LogS g ve vl vp vs) (LogS g ve vl vp' vs):=by
 have hT:∀ k C s f,vp.ownBlock=some k→w.heap[k]?=some (.cells C s f)→s=3:=fun k C s f hk hC=>by obtain⟨C',hC'⟩:=Qh h.puts hk;rw[hC] at hC';cases hC';rfl
 obtain⟨a1,a2,a3,a4,_⟩:=h.rest hf 3 hT;have hg1:=(a1 (by decide)).trans h.cells;refine⟨⟨(heap_setCell hg1 _).trans (by simp[Qjw]),(a2 (by decide) (by decide)).setLog hg1,Yv hg1 (a3 (by decide)) (by decide),fun j v r hv hr=>Yv hg1 (a4 (by decide) j v r hv hr) (by decide),h.apart,Yv hg1 h2 (by decide)⟩,
  (hf.weak fun k _ hk=>.inr (.inr (.inr (.inl hk)))).trans ((Fr.set1 w1 g 4 vp').weak fun k _ hk=>.inl hk),fun k hk=>?_⟩
 rcases hk with hk|hk|hk|hk|hk
 ·exact .inl (.inl hk)
 ·exact .inl (.inr (.inl hk))
 ·exact .inl (.inr (.inr (.inl hk)))
 ·exact (hm k hk).imp (fun h=>.inr (.inr (.inr (.inl h)))) id
 ·exact .inl (.inr (.inr (.inr (.inr hk))))
theorem Zn.fail (h:Zn w g gd ve vl vp vs L) (b:Bool) :
  Zn (w.setCell ⟨g,5,none⟩ (.bool b)) g gd ve vl vp vs { L with failed:=b }∧Fr (LogS g ve vl vp vs) w (w.setCell ⟨g,5,none⟩ (.bool b)):=by
 have hg1:=h.cells;exact⟨⟨(heap_setCell hg1 _).trans (by simp[Qjw]),h.ents.setLog hg1,Yv hg1 h.rows (by decide),fun j v r hv hr=>Yv hg1 (h.each j v r hv hr) (by decide),h.apart,Yv hg1 h.puts (by decide)⟩,(Fr.set1 w g 5 (.bool b)).weak fun k _ hk=>.inl hk⟩
theorem Zn.setPut (h:Zn w g gd ve vl vp vs L) {bp cp:Nat} (hvp:vp=.slice (some ⟨bp,0,none⟩) L.put.length cp) (n x:Nat) :
  Zn (w.setCell ⟨bp,n,none⟩ (.int .i64 x)) g gd ve vl vp vs { L with put:=L.put.set n x }∧Fr (LogS g ve vl vp vs) w (w.setCell ⟨bp,n,none⟩ (.int .i64 x)):=by
 have hk:vp.ownBlock=some bp:=by rw[hvp];rfl
 obtain⟨C,hC⟩:=Qh h.puts hk;have hf:=Fr.set1 w bp n (.int .i64 (x:Int));obtain⟨a1,a2,a3,a4,_⟩:=h.rest hf 3 fun k C' s f hk' hC'=>by subst hk';rw[hC] at hC';cases hC';rfl
 refine⟨⟨(a1 (by decide)).trans h.cells,a2 (by decide) (by decide),a3 (by decide),a4 (by decide),h.apart,?_⟩,hf.weak fun k _ hk=>.inr (.inr (.inr (.inl (by rw[hvp,hk];rfl))))⟩;rcases h.puts.2 with ⟨e,_⟩|⟨b,cap,cur,e,hb0,hb,r1,r2,r3,r4⟩
 ·rw[hvp] at e;cases e
 ·rw[hvp] at e
  cases e;refine⟨by simp,.inr ⟨bp,cp,_,by simpa using hvp,Nat.zero_le _,heap_setCell hb _,by simpa using r1,r2,by simpa using r3,?_⟩⟩;rw[Array.toList_setIfInBounds,List.take_set];simp only[List.length_set];rw[r4,List.map_set]
theorem Y8.push {v':Value} {m:Nat} {ls':List (List UInt8)} {us:List Value} (hrow:w.ownsRow 0 94 1 v n vs) (h2:∀ (j:Nat) (u:Value) (l:List UInt8),vs[j]?=some u→ls[j]?=some l→Qz w 0 u l) (hn:n=ls.length)
  (hf:Fr (fun k=>v.ownBlock=some k) w w1) (hr:w1.ownsRow 0 94 1 v' m (vs++us)) (hm:m=ls.length+ls'.length) (hb:∀ (j:Nat) (u:Value) (l:List UInt8),us[j]?=some u→ls'[j]?=some l→Qz w 0 u l):Y8 w1 0 v' (ls++ls'):=by
 have hl:vs.length=n:=by simpa using hrow.1
 have hno:∀ (k:Nat) (C:Array Value) (fz:Nat×Nat),w.heap[k]?=some (Obj.cells C 5 fz)→w1.heap[k]?=w.heap[k]?:=fun k C fz hk=>hf.block k (Qc hk) fun e=>by obtain⟨C',hC'⟩:=Qh hrow e;exact Zp hk hC' (by decide) rfl
 refine⟨vs++us,by rw[List.length_append,←hm];exact hr,fun j u l hu' hl'=>?_⟩;by_cases hj:j<vs.length
 ·rw[List.getElem?_append_left hj] at hu'
  rw[List.getElem?_append_left (by omega)] at hl';exact (h2 j u l hu' hl').same hno
 ·rw[List.getElem?_append_right (by omega)] at hu' hl'
  rw[hl,hn] at hu';exact (hb _ u l hu' hl').same hno
end
section
def Qae (w:World) (S:Nat→Prop) (ts:List TypeId):Prop:=∀ k C t f,S k→w.heap[k]?=some (.cells C t f)→t∈ts
variable {w:World} {S:Nat→Prop} {ts:List TypeId} {C:Array Value} {t:TypeId} {f:Nat×Nat}
theorem Zo (h:Qae w S ts) {k:Nat} (hk:w.heap[k]?=some (.cells C t f)) (ht:t ∉ ts):¬ S k:=fun hs=>ht (h k C t f hs hk)
variable {g:Nat}
theorem Qw (h:w.heap[g]?=some (.cells C t f)):Qae w (·=g) [t]:=fun k C' t' f' hk hc=>by
 subst hk
 rw[h] at hc
 cases hc
 exact List.mem_singleton.2 rfl
variable {base size:Nat} {e:TypeId} {v:Value} {xs:List Value}
theorem Qdi {n:Nat} (h:w.ownsRow base e size v n xs):Qae w (fun k=>v.ownBlock=some k) [e]:=fun k C' t' f' hk hc=>by
 obtain⟨C,hC⟩:=Qh h hk
 rw[hC] at hc
 cases hc
 exact List.mem_singleton.2 rfl
variable {d:Dk}
theorem Qb8 (h:Q3 w g v d):Qae w (dkS g v) [41,73]:=fun k C' t' f' hk hc=>by
 rcases hk with hk|hk
 ·have:=Qw h.1 k C' t' f' hk hc
  simp at this ⊢
  exact .inl this
 ·have:=Qdi h.2 k C' t' f' hk hc
  simp at this ⊢
  exact .inr this
def Qzl:List TypeId:=[138,94,104,3,109]
variable {gd:Nat} {ve vl vp:Value} {vs:List Value} {L:Lg}
theorem Qfp (h:Zn w g gd ve vl vp vs L):Qae w (LogS g ve vl vp vs) Qzl:=fun k C' t' f' hk hc=>by
 obtain⟨C,t,h1,h2⟩:=h.kinds hk
 rw[h1] at hc
 cases hc
 unfold Qzl
 simpa using h2
theorem Qae.or {T:Nat→Prop} {a b:List TypeId} (h:Qae w S a) (i:Qae w T b):Qae w (fun k=>S k∨T k) (a++b):=fun k C t f hk hc=>by
 rcases hk with hk|hk
 ·exact List.mem_append_left _ (h k C t f hk hc)
 ·exact List.mem_append_right _ (i k C t f hk hc)
variable {w':World}
theorem Q3.kept (h:Q3 w g v d) (hf:Fr S w w') (hS:Qae w S ts) (h1:41 ∉ ts) (h2:73 ∉ ts):Q3 w' g v d:=
 h.fr hf fun k hk=>by
  rcases hk with rfl|hk
  ·exact Zo hS h.1 h1
  ·obtain⟨C,hC⟩:=Qh h.2 hk
   exact Zo hS hC h2
theorem Zi {n:Nat} (h:w.ownsRow base e size v n xs) (hf:Fr S w w') (hS:Qae w S ts) (h1:e ∉ ts):w'.ownsRow base e size v n xs:=
 Zb h hf fun k hk=>by
  obtain⟨C,hC⟩:=Qh h hk
  exact Zo hS hC h1
theorem Zn.kept (h:Zn w g gd ve vl vp vs L) (hf:Fr S w w') (hS:Qae w S ts) (h1:∀ t∈Qzl,t ∉ ts) (h2:5 ∉ ts):Zn w' g gd ve vl vp vs L:=
 h.fr hf (fun k hk=>by
  obtain⟨C,t,hC,ht⟩:=h.kinds hk
  exact Zo hS hC (h1 t (by unfold Qzl;simpa using ht))) (fun k C fz hk=>Zo hS hk h2)
theorem Ze (h:w.heap[g]?=some (.cells C t f)) (hf:Fr S w w') (hS:Qae w S ts) (h1:t ∉ ts):w'.heap[g]?=some (.cells C t f):=
 hf.heap h (Zo hS h h1)
def Z4 (w:World) (g:Nat) (n:Int) (s:ByteArray):Prop:=w.heap[g]?=some (.cells #[.int .i64 n,.string s] 29 (0,0))
theorem Qch (w:World):Z4 (w.alloc (.cells #[.int .i64 0,.string ⟨#[]⟩] 29)) w.heap.size 0 ⟨#[]⟩:=heap_alloc_new w _
variable {n:Int} {s:ByteArray}
theorem Z4.facts (h:Z4 w g n s):w.cell? ⟨g,0,none⟩=some (.int .i64 n)∧w.cell? ⟨g,1,none⟩=some (.string s)∧w.frozen? ⟨g,0,none⟩=false∧w.frozen? ⟨g,1,none⟩=false∧g<w.heap.size:=
 ⟨Qd h 0 rfl,Qd h 1 rfl,Qq h 0,Qq h 1,Qc h⟩
theorem Z4.below (h:Z4 w g n s) (hb:Below w.heap.size w w'):Z4 w' g n s:=(hb.block g (Qc h)).trans h
theorem Z4.kept (h:Z4 w g n s) (hf:Fr S w w') (hS:Qae w S ts) (h1:29 ∉ ts):Z4 w' g n s:=Ze h hf hS h1
theorem Qdv {m:Int} {t:ByteArray} (h:Z4 w g n s):Z4 ((w.setCell ⟨g,0,none⟩ (.int .i64 m)).setCell ⟨g,1,none⟩ (.string t)) g m t∧Fr (·=g) w ((w.setCell ⟨g,0,none⟩ (.int .i64 m)).setCell ⟨g,1,none⟩ (.string t)):=
 ⟨(heap_setCell (heap_setCell h _) _).trans (by simp),(Fr.set1 w g 0 _).set 1 _⟩
end
section
def Q28 (l:Lie1):List Value:=[.string l.path,.string l.data,.bool l.fails,.int .i64 l.times]
def Ql9 (ls:List Lie1):List Value:=ls.flatMap Q28
theorem Qrz:∀ (l:List Lie1) (j:Nat) (x:Lie1),l[j]?=some x→(Ql9 l)[j*4]?=some (.string x.path)∧(Ql9 l)[j*4+1]?=some (.string x.data)∧(Ql9 l)[j*4+2]?=some (.bool x.fails)∧(Ql9 l)[j*4+3]?=some (.int .i64 x.times)
 | [],j,x,h=>by simp at h
 | a :: l,0,x,h=>by simp at h;subst h;exact⟨rfl,rfl,rfl,rfl⟩
 | a :: l,j+1,x,h=>by
   have:=Qrz l j x (by simpa using h)
   have e:Ql9 (a :: l)=.string a.path :: .string a.data :: .bool a.fails :: .int .i64 a.times :: Ql9 l:=rfl
   rw[e,show (j+1)*4=j*4+1+1+1+1 by omega]
   simpa using this
def Qj7 (l:List Nat):List Value:=l.map fun (k:Nat)=>.int .i64 (k:Int)
def Q0a (gd:Nat) (vl vt:Value) (n:Nt):Array Value:=#[.pointer (some ⟨gd,0,none⟩),vl,vt,.int .i64 n.fetches]
structure Yk (w:World) (g gd:Nat) (vl vt:Value) (n:Nt):Prop where
 cells:w.heap[g]?=some (.cells (Q0a gd vl vt n) 103 (0,0))
 lies:w.ownsRow 0 75 4 vl n.lies.length (Ql9 n.lies)
 told:w.ownsRow 0 3 1 vt n.told.length (Qj7 n.told)
 len:n.told.length=n.lies.length
 le:∀ k∈n.told,k≤n.fetches
def netS (g:Nat) (vt:Value) (k:Nat):Prop:=k=g∨vt.ownBlock=some k
variable {w w':World} {g gd:Nat} {vl vt:Value} {n:Nt}
theorem Yk.fr {S:Nat→Prop} (h:Yk w g gd vl vt n) (hf:Fr S w w') (hg:¬ S g) (hl:∀ k,vl.ownBlock=some k→¬ S k) (ht:∀ k,vt.ownBlock=some k→¬ S k):Yk w' g gd vl vt n:=
 ⟨hf.heap h.cells hg,Zb h.lies hf hl,Zb h.told hf ht,h.len,h.le⟩
theorem Yk.below (h:Yk w g gd vl vt n) (hb:Below w.heap.size w w'):Yk w' g gd vl vt n:=
 h.fr (S:=fun _=>False) (Fr.ofBelow hb) id (fun _ _=>id) (fun _ _=>id)
theorem Yk.lt (h:Yk w g gd vl vt n):g<w.heap.size:=Qc h.cells
theorem Yk.parts (h:Yk w g gd vl vt n):(∀ k,vl.ownBlock=some k→k≠g)∧(∀ k,vt.ownBlock=some k→k≠g)∧∀ k,vl.ownBlock=some k→¬ vt.ownBlock=some k:=by
 refine⟨fun k hk e=>?_,fun k hk e=>?_,fun k hk ht=>?_⟩
 ·obtain⟨C,hC⟩:=Qh h.lies hk
  exact Zp hC h.cells (by decide) e
 ·obtain⟨C,hC⟩:=Qh h.told hk
  exact Zp hC h.cells (by decide) e
 ·obtain⟨C,hC⟩:=Qh h.lies hk
  obtain⟨C',hC'⟩:=Qh h.told ht;exact Zp hC hC' (by decide) rfl
theorem Yk.heads (h:Yk w g gd vl vt n) :
  (w.cell? ⟨g,0,none⟩=some (.pointer (some ⟨gd,0,none⟩))∧w.cell? ⟨g,1,none⟩=some vl∧w.cell? ⟨g,2,none⟩=some vt∧w.cell? ⟨g,3,none⟩=some (.int .i64 n.fetches))∧∀ i,w.frozen? ⟨g,i,none⟩=false:=
 ⟨⟨Qd h.cells 0 rfl,Qd h.cells 1 rfl,Qd h.cells 2 rfl,Qd h.cells 3 rfl⟩,fun i=>Qq h.cells i⟩
theorem Yk.count (h:Yk w g gd vl vt n):Yk (w.setCell ⟨g,3,none⟩ (.int .i64 ((n.fetches:Int)+1))) g gd vl vt { n with fetches:=n.fetches+1 }:=by have hf:=Fr.set1 w g 3 (.int .i64 ((n.fetches:Int)+1));obtain⟨p1,p2,_⟩:=h.parts;exact⟨(heap_setCell h.cells _).trans (by simp[Q0a]),Zb h.lies hf fun k hk e=>p1 k hk e,Zb h.told hf fun k hk e=>p2 k hk e,h.len,fun k hk=>Nat.le_succ_of_le (h.le k hk)⟩
variable {v:Value}
theorem Yk.apartDisk {g':Nat} {d:Dk} (h:Yk w g gd vl vt n) (hd:Q3 w g' v d):∀ k,netS g vt k→¬ dkS g' v k:=by
 intro k hk hs;have h1:∃ C t,w.heap[k]?=some (.cells C t (0,0))∧(t=103∨t=3):=by
  rcases hk with rfl|hk
  ·exact⟨_,_,h.cells,.inl rfl⟩
  ·obtain⟨C,hC⟩:=Qh h.told hk
   exact⟨C,_,hC,.inr rfl⟩
 obtain⟨C,t,h1,h2⟩:=h1;rcases hs with rfl|hs
 ·rw[hd.1] at h1
  cases h1
  revert h2
  decide
 ·obtain⟨C',h3⟩:=Qh hd.2 hs
  rw[h3] at h1;cases h1
  revert h2
  decide
theorem Qs9 (l:List Nat) (i k:Nat):(Qj7 l).set i (.int .i64 (k:Int))=Qj7 (l.set i k):=by unfold Qj7;rw[List.map_set]
variable {i k:Nat}
theorem Qyx {l:List Nat} (h:l[i]?=some k):(Qj7 l)[i]?=some (.int .i64 (k:Int)):=by unfold Qj7;rw[List.getElem?_map,h];rfl
def Qlr (w:World) (g gd:Nat) (vl vt:Value) (n:Nt) (p:ByteArray) (e:Ending) (w':World):Prop:=
 Yk w' g gd vl vt (Zm n p)∧Fr (netS g vt) w w'∧∃ u x,e=.returned (.tuple #[u,x])∧
  ((∃ data,Yt n p=some data∧x=.nilIface∧Qz w' w.heap.size u data∧∃ a k c,u=.slice a k c)∨(Yt n p=none∧(∃ q,x=.iface 152 (.pointer (some q)))∧∃ a k c,u=.slice a k c))
variable {p:ByteArray}
theorem Qtd (h:Qdx n p i=true):Qbu n p (k+1) i=some i:=by rw[Qbu,if_pos h]
theorem Qxt (h:Qdx n p i=false):Qbu n p (k+1) i=Qbu n p k (i+1):=by rw[Qbu,if_neg (by simp[h])]
variable {x:Lie1}
theorem Q16 (hx:n.lies[i]?=some x) (h:¬ x.path=p):Qdx n p i=false:=by unfold Qdx;rw[hx];simp[h]
variable {t:Nat}
theorem Qzu (hx:n.lies[i]?=some x) (ht:n.told[i]?=some t) (h1:0<x.times) (h2:x.times≤(t:Int)):Qdx n p i=false:=by unfold Qdx;rw[hx,List.getD_eq_getElem?_getD,ht];simp[h1,h2]
theorem Qwf (hx:n.lies[i]?=some x) (ht:n.told[i]?=some t) (h:x.path=p) (h2:¬ 0<x.times∨¬ x.times≤(t:Int)):Qdx n p i=true:=by unfold Qdx;rw[hx,List.getD_eq_getElem?_getD,ht];rcases h2 with h2|h2 <;> simp[h,h2]
variable {gt ln cp:Nat}
theorem Q23 (h:Yk w g gd vl (.slice (some ⟨gt,0,none⟩) ln cp) n) (hl:ln=n.told.length) (hk:k≤n.fetches) :
  Yk (w.setCell ⟨gt,i,none⟩ (.int .i64 (k:Int))) g gd vl (.slice (some ⟨gt,0,none⟩) ln cp) { n with told:=n.told.set i k }∧Fr (netS g (.slice (some ⟨gt,0,none⟩) ln cp)) w (w.setCell ⟨gt,i,none⟩ (.int .i64 (k:Int))):=by
 subst hl;obtain⟨p1,p2,p3⟩:=h.parts;have hf:=Fr.setCell1 w ⟨gt,i,none⟩ (.int .i64 (k:Int));have hs:=(h.told.stored i (.int .i64 (k:Int))).1;rw[Qs9] at hs;refine⟨⟨hf.heap h.cells (fun e=>p2 gt rfl e.symm),Zb h.lies hf fun j hj e=>p3 j hj (congrArg some e.symm),?_,by rw[List.length_set];exact h.len,fun x hx=>?_⟩,hf.weak fun j _ e=>.inr (congrArg some e.symm)⟩
 ·rw[List.length_set];exact hs
 ·rcases List.mem_or_eq_of_mem_set hx with hx|rfl
  ·exact h.le x hx
  ·exact hk
variable {kk:Nat}
theorem Qrm (h:Yk w g gd vl (.slice (some ⟨gt,0,none⟩) ln cp) n) (ht:n.told[kk]?=some t):w.cell? ⟨gt,kk,none⟩=some (.int .i64 t):=by
 obtain⟨a,k,hv,_,hc⟩:=Ya h.told;simp only[Value.slice.injEq] at hv;obtain⟨b,off,hb,h1⟩:=hc kk _ (Qyx ht);have e:=hv.1.trans hb;cases e
 rwa [Nat.zero_add] at h1
theorem Qli (w:World) (s:ByteArray):Below w.heap.size w (Lib.bytesWorld w 5 s):=
 ⟨by simp[Lib.bytesWorld,World.freeze,World.alloc,World.drew,-World.alloc_eq,-World.drew_eq],by simp[Lib.bytesWorld,World.freeze,World.alloc,World.drew,-World.alloc_eq,-World.drew_eq],by simp[Lib.bytesWorld,World.freeze,World.alloc,World.drew,-World.alloc_eq,-World.drew_eq],by rw[Lib.bytesWorld_size];omega,fun k hk=>Lib.bytesWorld_at_old w _ s k hk⟩
theorem Qzs {base:Nat} {e:TypeId} {size:Nat} {n:Nat} {xs:List Value} (h:w.ownsRow base e size v n xs):n≤9223372036854775807:=by
 rcases h.2 with ⟨_,h0⟩|⟨_,_,_,_,_,_,hnc,hcm,_⟩
 ·omega
 ·unfold maxLen at hcm;omega
structure Live (w1:World) (g gd gt:Nat) (vl vt:Value) (n:Nt) (kk t:Nat) (x:Lie1) (bx:Nat) (wt:World):Prop where
 net:Yk wt g gd vl vt { n with fetches:=n.fetches+1,told:=n.told.set kk t }
 fr:Fr (netS g vt) w1 wt
 data:wt.cell? ⟨bx,1,none⟩=some (.string x.data)
 flag:wt.cell? ⟨bx,2,none⟩=some (.bool x.fails)
 size:w1.heap.size≤bx∧bx<wt.heap.size
theorem Q09 {w1 wr:World} (h:Yk wr g gd vl (.slice (some ⟨gt,0,none⟩) ln cp) { n with fetches:=n.fetches+1 }) (hb:Below w1.heap.size w1 wr) (hl:ln=n.told.length) (ht:t≤n.fetches) (hgt:gt<wr.heap.size) (j:Nat) :
  Live w1 g gd gt vl (.slice (some ⟨gt,0,none⟩) ln cp) n kk (t+1) x wr.heap.size (((wr.alloc (.cells #[.string x.path,.string x.data,.bool x.fails,.int .i64 x.times] 75)).drewN j).setCell ⟨gt,kk,none⟩ (.int .i64 ((t:Int)+1))):=by
 have hb2:=Za (Qa wr (.cells #[.string x.path,.string x.data,.bool x.fails,.int .i64 x.times] 75)) j;obtain⟨h1,h2⟩:=Q23 (i:=kk) (k:=t+1) (h.below hb2) hl (by dsimp only;omega);refine⟨h1,(Fr.ofBelow (hb.trans (hb2.mono hb.size))).trans h2,?_,?_,hb.size,?_⟩
 ·rw[World.cell?_setCell_other _ _ _ _ (by simp)]
  exact Qd (heap_alloc_new wr _) 1 rfl
 ·rw[World.cell?_setCell_other _ _ _ _ (by simp)]
  exact Qd (heap_alloc_new wr _) 2 rfl
 ·simp[World.setCell]
theorem Qrk (hx:n.lies[kk]?=some x) (h:Qbu n p (n.lies.length-kk) kk=Qc4 n p) (hl:Qdx n p kk=true):Qc4 n p=some kk:=by have hlt:=(List.getElem?_eq_some_iff.1 hx).1;rw[←h,show n.lies.length-kk=(n.lies.length-kk-1)+1 by omega,Qtd hl]
theorem Qj6 (h:Qc4 n p=some kk) (ht:n.told[kk]?=some t):Zm n p={ n with fetches:=n.fetches+1,told:=n.told.set kk (t+1) }:=by unfold Zm;rw[h];dsimp only;rw[List.getD_eq_getElem?_getD,ht];rfl
theorem Qs1 (h:Qc4 n p=none):Zm n p={ n with fetches:=n.fetches+1 }:=by unfold Zm;rw[h]
theorem Qng (h:Qc4 n p=none):Yt n p=(getF n.files p).map (·.data.toList):=by unfold Yt;rw[h]
theorem Qjd (h:Qc4 n p=some kk) (hx:n.lies[kk]?=some x):Yt n p=if x.fails=true then none else some x.data.data.toList:=by unfold Yt;rw[h];dsimp only;rw[hx];rfl
theorem Qiu {wt wf:World} {a:Option Addr} {c:Nat} {q:Addr} (h:Yk wt g gd vl vt { n with fetches:=n.fetches+1,told:=n.told.set kk (t+1) }) (hf:Fr (netS g vt) w wt) (hl:Qc4 n p=some kk) (ht:n.told[kk]?=some t) (hx:n.lies[kk]?=some x) (hfl:x.fails=true)
  (hb:Below wt.heap.size wt wf):Qlr w g gd vl vt n p (.returned (.tuple #[.slice a k c,.iface 152 (.pointer (some q))])) wf:=
 ⟨by rw[Qj6 hl ht];exact h.below hb,hf.trans (Fr.ofBelow hb),_,_,rfl,.inr ⟨by rw[Qjd hl hx,if_pos hfl],⟨_,rfl⟩,_,_,_,rfl⟩⟩
theorem Qz8 (w:World) (g gd:Nat) (vl vt v:Value) (n:Nt) (d:Dk) (p:ByteArray) (h:Yk w g gd vl vt n) (hd:Q3 w gd v d) (hf:d.files=n.files) (hc:n.fetches<1152921504606846976) :
  Calls prog 254 #[.pointer (some ⟨g,0,none⟩),.string p] w (Qlr w g gd vl vt n p):=by
 obtain⟨⟨c0,c1,c2,c3⟩,f0⟩:=h.heads;have h1:=h.count;obtain⟨al,cl,rfl,_,hcl⟩:=Ya h.lies;obtain⟨at',ct,rfl⟩:=Zs h.told;obtain⟨w1,hw1⟩:∃ w1,w1=w.setCell ⟨g,3,none⟩ (.int .i64 ((n.fetches:Int)+1)):=⟨_,rfl⟩
 rw[←hw1] at h1;have hF1:Fr (netS g (.slice at' n.told.length ct)) w w1:=by rw[hw1];exact (Fr.set1 w g 3 _).weak fun _ _ e=>.inl e
 have hd1:Q3 w1 gd v d:=hd.fr hF1 fun k hk hs=>h.apartDisk hd k hs hk
 have hw:wrap64 ((n.fetches:Int)+1)=(n.fetches:Int)+1:=by unfold wrap64;omega
 have H1:=zh h1;have HF1:=zh hF1;have HW1:=zh hw1;have HD:=zh hd1;have HFL:=zh hf;have HH:=zh h;have HCL:=zh hcl;have HLEN:=zh h.len;have HN0:=zh h.le;have hshort:=Qzs h.lies;clear h h1 hd hd1 hf hw1 hF1 hcl
 go_enter func254,ntmps254
 go_wp2;rw[←HW1.o]
 go_loopg [21] n.lies.length (fun gg s21 wr=>∃ kk:Nat,kk≤n.lies.length∧n.lies.length-kk≤gg∧s21=.int .i64 kk∧Aside (Below w1.heap.size w1 wr)∧Aside (Qbu n p (n.lies.length-kk) kk=Qc4 n p))
 case atStart=>exact⟨0,Nat.zero_le _,by omega,rfl,Below.refl _ _,rfl⟩
 case round=>
  obtain⟨kk,hkk,hg,rfl,BW,HL⟩:=hrel;have hbw:=BW.o;have HN:=zh (H1.o.below hbw);obtain⟨⟨r0,r1,r2,r3⟩,rf⟩:=HN.o.heads;by_cases hlt:kk<n.lies.length
  ·obtain⟨x,hx⟩:∃ x,n.lies[kk]?=some x:=⟨_,List.getElem?_eq_getElem hlt⟩
   obtain⟨t,ht⟩:∃ t,n.told[kk]?=some t:=⟨_,List.getElem?_eq_getElem (by rw[HLEN.o];exact hlt)⟩
   obtain⟨g1,g2,g3,g4⟩:=Qrz n.lies kk x hx;obtain⟨b,off,rfl,e1⟩:=HCL.o _ _ g1;obtain⟨_,_,hbo,e2⟩:=HCL.o _ _ g2;cases hbo;obtain⟨_,_,hbo,e3⟩:=HCL.o _ _ g3;cases hbo;obtain⟨_,_,hbo,e4⟩:=HCL.o _ _ g4;cases hbo;have hb:b<w.heap.size:=Qk e1;have hbg:¬ netS g (.slice at' n.told.length ct) b:=by
    obtain⟨q1,_,q3⟩:=HH.o.parts;rintro (e|e)
    ·exact q1 b rfl e
    ·exact q3 b rfl e
   have cv:∀ i u,w.cell? ⟨b,i,none⟩=some u→wr.cell? ⟨b,i,none⟩=some u:=fun i u hu=>(hbw.cell (p:=⟨b,i,none⟩) (Nat.lt_of_lt_of_le hb HF1.o.size)).trans (HF1.o.cell hu hbg)
   have d1:wr.cell? ⟨b,off+kk*4,none⟩=some (.string x.path):=cv _ _ e1;have d2:wr.cell? ⟨b,off+kk*4+1,none⟩=some (.string x.data):=cv _ _ e2;have d3:wr.cell? ⟨b,off+kk*4+2,none⟩=some (.bool x.fails):=cv _ _ e3;have d4:wr.cell? ⟨b,off+kk*4+3,none⟩=some (.int .i64 x.times):=cv _ _ e4;have hk0:(0:Int)≤(kk:Int):=by omega
   have hltz:(kk:Int)<(n.lies.length:Int):=by omega
   have hltt:(kk:Int)<(n.told.length:Int):=by have:=HLEN.o;omega
   have HX:=zh hx;have HT:=zh ht;have hbr:b<wr.heap.size:=Qk d1;clear e1 e2 e3 e4 g1 g2 g3 g4 cv hx;have hno:Qdx n p kk=false→Qbu n p (n.lies.length-(kk+1)) (kk+1)=Qc4 n p:=fun hl=>by
    have:=HL.o
    rw[show n.lies.length-kk=(n.lies.length-(kk+1))+1 by omega,Qxt hl] at this;exact this
   have HNO:=zh hno;clear hno;have hgr:g<wr.heap.size:=Qk r0;obtain⟨gt,rfl⟩:∃ gt,at'=some ⟨gt,0,none⟩:=by
    rcases HN.o.told.2 with ⟨_,h0⟩|⟨gt,_,_,hv,_⟩
    ·have h0':n.told.length=0:=h0
     omega
    ·simp only[Value.slice.injEq] at hv
     exact⟨gt,hv.1⟩
   have t1:=Qrm HN.o (t:=t) ht;have hgtr:gt<wr.heap.size:=Qk t1;have hfz:wr.frozen? ⟨gt,kk,none⟩=false:=HN.o.told.frozenAt kk;have htle:t≤n.fetches:=HN0.o t (List.mem_of_getElem? ht);have hwt:wrap64 ((t:Int)+1)=(t:Int)+1:=by unfold wrap64;omega
   have hgne:¬ g=gt:=fun e=>HN.o.parts.2.1 gt rfl e.symm
   obtain⟨wy,hwy⟩:∃ wy,wy=wr.alloc (.cells #[.string x.path,.string x.data,.bool x.fails,.int .i64 x.times] 75):=⟨_,rfl⟩
   have hby:Below w1.heap.size w1 wy:=by rw[hwy];exact hbw.trans ((Qa wr _).mono hbw.size)
   have hNy:=H1.o.below hby;obtain⟨⟨y0,y1,y2,y3⟩,yf⟩:=hNy.heads;have hoy:wy.heap[wr.heap.size]?=some (.cells #[.string x.path,.string x.data,.bool x.fails,.int .i64 x.times] 75 (0,0)):=by rw[hwy];exact heap_alloc_new wr _
   have x0:=Qd hoy 0 rfl;have x1:=Qd hoy 1 rfl;have x2:=Qd hoy 2 rfl;have x3:=Qd hoy 3 rfl;have ty:=Qrm hNy (t:=t) ht;have hfy:wy.frozen? ⟨gt,kk,none⟩=false:=hNy.told.frozenAt kk;have HWY:=zh hwy;have HBY:=zh hby;have HNY:=zh hNy;clear t1 hfz;have hxd:wr.heap.size<wy.heap.size:=Qk x0;clear hwy hby hNy hoy;by_cases he:x.path=p
   ·have e:(x.path.toList == p.toList)=true:=Qao he
    have HE:=zh he;clear he;by_cases h0:0<x.times
    ·have hd0:decide (0<x.times)=true:=decide_eq_true h0
     by_cases hov:x.times≤(t:Int)
     ·have hd1:decide (x.times≤(t:Int))=true:=decide_eq_true hov
      have HOV:=zh (Qzu (p:=p) HX.o HT.o h0 hov);clear h0 hov
      go_upto_region 5 with fail
      rw[←HWY.o];clear r0 r1 r2 r3 rf d1 d2 d3 d4
      go_quiet (fail)
      go_wp2
      go_roundg (n.lies.length-(kk+1))
      case measure=>omega
      case rel=>exact⟨kk+1,by omega,by omega,by go_num,Za HBY.o _,HNO.o HOV.o⟩
     ·have hd1:decide (x.times≤(t:Int))=false:=decide_eq_false hov
      have HOV:=zh (Qwf HX.o HT.o HE.o (.inr hov));clear h0 hov
      go_upto_region 5 with fail
      rw[←HWY.o];clear r0 r1 r2 r3 rf d1 d2 d3 d4
      go_quiet (fail)
      obtain⟨wz,hwz⟩:∃ wz,wz=wy.drewN nq:=⟨_,rfl⟩
      rw[←hwz];have z0:wz.cell? ⟨g,0,none⟩=some (.pointer (some ⟨gd,0,none⟩)):=by rw[hwz];exact y0
      have z2:wz.cell? ⟨g,2,none⟩=some (.slice (some ⟨gt,0,none⟩) n.told.length ct):=by rw[hwz];exact y2
      have z3:wz.cell? ⟨g,3,none⟩=some (.int .i64 ((n.fetches:Int)+1)):=by rw[hwz];exact y3
      have zt:wz.cell? ⟨gt,kk,none⟩=some (.int .i64 t):=by rw[hwz];exact ty
      have zf:wz.frozen? ⟨gt,kk,none⟩=false:=by rw[hwz];exact hfy
      have hLV:Live w1 g gd gt (.slice (some ⟨b,off,none⟩) n.lies.length cl) (.slice (some ⟨gt,0,none⟩) n.told.length ct) n kk (t+1) x wr.heap.size (wz.setCell ⟨gt,kk,none⟩ (.int .i64 ((t:Int)+1))):=by rw[hwz,HWY.o];exact Q09 HN.o hbw rfl htle hgtr nq
      have HLV:=zh hLV;have HFR1:=zh (HF1.o.trans hLV.fr);have hsz1:w.heap.size≤w1.heap.size:=HF1.o.size;clear hwz hLV y0 y1 y2 y3 yf ty hfy x0 x1 x2 x3 hgtr hgr hgne hxd htle hbr
      go_upto_region 7 with fail
      obtain⟨wt,hwt2⟩:∃ wt,wt=wz.setCell ⟨gt,kk,none⟩ (.int .i64 ((t:Int)+1)):=⟨_,rfl⟩
      rw[←hwt2] at HLV HFR1;rw[←hwt2];clear hwt2;have s1:=HLV.o.data;have s2:=HLV.o.flag;have sg:=HLV.o.net.heads.1.2.2.2;have hbl:wr.heap.size<wt.heap.size:=Qk s1;have hgl:g<wt.heap.size:=Qk sg;have HLF:=zh (Qrk HX.o HL.o HOV.o);cases hfl:x.fails with
      | true=>
       rw[hfl] at s2;have HFLAG:=zh hfl;clear hfl;have hcv:=fun W=>Lib.run_convert_string_bytes (P:=prog) W 9 94 5 x.data underlying9 underlying94 underlying5
       go_wp2_with fail
       have a1:wt.drew.cell? ⟨g,3,none⟩=some (.int .i64 ((n.fetches:Int)+1)):=sg;have a2:(Lib.bytesWorld wt.drew 5 x.data).cell? ⟨g,3,none⟩=some (.int .i64 ((n.fetches:Int)+1)):=(Lib.bytesWorld_old _ _ _ _ hgl).trans sg;have b1:wt.drew.cell? ⟨wr.heap.size,1,none⟩=some (.string x.data):=s1;have b2:(wt.alloc (.cells #[.int .i64 ((n.fetches:Int)+1)] 366)).drew.cell? ⟨wr.heap.size,1,none⟩=some (.string x.data):=((Qa wt _).cell (p:=⟨wr.heap.size,1,none⟩) hbl).trans s1;clear sg s1 s2 hbl hgl z0 z2 z3 zt zf;go_region
       all_goals (
        go_wp2
        go_ret2
        have hBA:Below wt.heap.size wt (Lib.bytesWorld wt.drew 5 x.data):=(Ql wt).trans (Qli wt.drew _)
        have hBB:Below wt.heap.size wt (wt.alloc (.cells #[.int .i64 ((n.fetches:Int)+1)] 366)).drew:=(Qa wt _).drew
        first
         | exact Qiu HLV.o.net HFR1.o HLF.o HT.o HX.o HFLAG.o (hBA.alloc hBA.size _)
         | exact Qiu HLV.o.net HFR1.o HLF.o HT.o HX.o HFLAG.o (hBB.trans ((Qli _ _).mono hBB.size)))
      | false=>
       rw[hfl] at s2;have HFLAG:=zh hfl;clear hfl
       go_wp2_with (refine Qde rfl _ _ _ _ rfl underlying9 underlying94 underlying5 rfl _ rfl ?_;rintro v' w3 h1 h2 h3 ⟨b',c',h4⟩;have H1:=zh h1;have H2:=zh h2;subst h4;clear h1 h2 h3)
       go_ret2;exact⟨by rw[Qj6 HLF.o HT.o];exact HLV.o.net.below H2.o,HFR1.o.trans (Fr.ofBelow H2.o),_,_,rfl,.inl ⟨_,by rw[Qjd HLF.o HX.o,HFLAG.o];rfl,rfl,H1.o.mono (Nat.le_trans hsz1 HLV.o.fr.size),_,_,_,rfl⟩⟩
    ·have hd0:decide (0<x.times)=false:=decide_eq_false h0
     have HOV:=zh (Qwf HX.o HT.o HE.o (.inl h0));clear h0
     go_upto_region 5 with fail
     rw[←HWY.o];clear r0 r1 r2 r3 rf d1 d2 d3 d4
     go_quiet (fail)
     obtain⟨wz,hwz⟩:∃ wz,wz=wy.drewN nq:=⟨_,rfl⟩
     rw[←hwz];have z0:wz.cell? ⟨g,0,none⟩=some (.pointer (some ⟨gd,0,none⟩)):=by rw[hwz];exact y0
     have z2:wz.cell? ⟨g,2,none⟩=some (.slice (some ⟨gt,0,none⟩) n.told.length ct):=by rw[hwz];exact y2
     have z3:wz.cell? ⟨g,3,none⟩=some (.int .i64 ((n.fetches:Int)+1)):=by rw[hwz];exact y3
     have zt:wz.cell? ⟨gt,kk,none⟩=some (.int .i64 t):=by rw[hwz];exact ty
     have zf:wz.frozen? ⟨gt,kk,none⟩=false:=by rw[hwz];exact hfy
     have hLV:Live w1 g gd gt (.slice (some ⟨b,off,none⟩) n.lies.length cl) (.slice (some ⟨gt,0,none⟩) n.told.length ct) n kk (t+1) x wr.heap.size (wz.setCell ⟨gt,kk,none⟩ (.int .i64 ((t:Int)+1))):=by rw[hwz,HWY.o];exact Q09 HN.o hbw rfl htle hgtr nq
     have HLV:=zh hLV;have HFR1:=zh (HF1.o.trans hLV.fr);have hsz1:w.heap.size≤w1.heap.size:=HF1.o.size;clear hwz hLV y0 y1 y2 y3 yf ty hfy x0 x1 x2 x3 hgtr hgr hgne hxd htle hbr
     go_upto_region 7 with fail
     obtain⟨wt,hwt2⟩:∃ wt,wt=wz.setCell ⟨gt,kk,none⟩ (.int .i64 ((t:Int)+1)):=⟨_,rfl⟩
     rw[←hwt2] at HLV HFR1;rw[←hwt2];clear hwt2;have s1:=HLV.o.data;have s2:=HLV.o.flag;have sg:=HLV.o.net.heads.1.2.2.2;have hbl:wr.heap.size<wt.heap.size:=Qk s1;have hgl:g<wt.heap.size:=Qk sg;have HLF:=zh (Qrk HX.o HL.o HOV.o);cases hfl:x.fails with
     | true=>
      rw[hfl] at s2;have HFLAG:=zh hfl;clear hfl;have hcv:=fun W=>Lib.run_convert_string_bytes (P:=prog) W 9 94 5 x.data underlying9 underlying94 underlying5
      go_wp2_with fail
      have a1:wt.drew.cell? ⟨g,3,none⟩=some (.int .i64 ((n.fetches:Int)+1)):=sg;have a2:(Lib.bytesWorld wt.drew 5 x.data).cell? ⟨g,3,none⟩=some (.int .i64 ((n.fetches:Int)+1)):=(Lib.bytesWorld_old _ _ _ _ hgl).trans sg;have b1:wt.drew.cell? ⟨wr.heap.size,1,none⟩=some (.string x.data):=s1;have b2:(wt.alloc (.cells #[.int .i64 ((n.fetches:Int)+1)] 366)).drew.cell? ⟨wr.heap.size,1,none⟩=some (.string x.data):=((Qa wt _).cell (p:=⟨wr.heap.size,1,none⟩) hbl).trans s1;clear sg s1 s2 hbl hgl z0 z2 z3 zt zf;go_region
      all_goals (
       go_wp2
       go_ret2
       have hBA:Below wt.heap.size wt (Lib.bytesWorld wt.drew 5 x.data):=(Ql wt).trans (Qli wt.drew _)
       have hBB:Below wt.heap.size wt (wt.alloc (.cells #[.int .i64 ((n.fetches:Int)+1)] 366)).drew:=(Qa wt _).drew
       first
        | exact Qiu HLV.o.net HFR1.o HLF.o HT.o HX.o HFLAG.o (hBA.alloc hBA.size _)
        | exact Qiu HLV.o.net HFR1.o HLF.o HT.o HX.o HFLAG.o (hBB.trans ((Qli _ _).mono hBB.size)))
     | false=>
      rw[hfl] at s2;have HFLAG:=zh hfl;clear hfl
      go_wp2_with (refine Qde rfl _ _ _ _ rfl underlying9 underlying94 underlying5 rfl _ rfl ?_;rintro v' w3 h1 h2 h3 ⟨b',c',h4⟩;have H1:=zh h1;have H2:=zh h2;subst h4;clear h1 h2 h3)
      go_ret2;exact⟨by rw[Qj6 HLF.o HT.o];exact HLV.o.net.below H2.o,HFR1.o.trans (Fr.ofBelow H2.o),_,_,rfl,.inl ⟨_,by rw[Qjd HLF.o HX.o,HFLAG.o];rfl,rfl,H1.o.mono (Nat.le_trans hsz1 HLV.o.fr.size),_,_,_,rfl⟩⟩
   ·have e:(x.path.toList == p.toList)=false:=J3 he
    have HE:=zh he;clear he
    go_upto_region 5 with fail
    rw[←HWY.o];clear r0 r1 r2 r3 rf d1 d2 d3 d4
    go_quiet (fail)
    go_wp2
    go_roundg (n.lies.length-(kk+1))
    case measure=>omega
    case rel=>exact⟨kk+1,by omega,by omega,by go_num,Za HBY.o _,HNO.o (Q16 HX.o HE.o)⟩
  ·have hltz:¬ (kk:Int)<(n.lies.length:Int):=by omega
   have hz:Qc4 n p=none:=by rw[←HL.o,show n.lies.length-kk=0 by omega];rfl
   have HZ:=zh hz;clear hz;have hdr:=HD.o.below hbw;have HDR:=zh hdr;have hfc:=Qi5 wr gd v d hdr p;have HN1:=zh (Qs1 HZ.o);have HFR:=zh (HF1.o.trans (Fr.ofBelow hbw));have hszr:w.heap.size≤wr.heap.size:=Nat.le_trans HF1.o.size hbw.size;by_cases hf:Z9 d.files p<d.files.length
   ·have hF:Jk d.files p=Z9 d.files p:=by unfold Jk;rw[if_pos hf]
    rw[hF] at hfc;obtain⟨x,hx⟩:∃ x,x=d.files[Z9 d.files p]'hf:=⟨_,rfl⟩
    have hxj:d.files[Z9 d.files p]?=some x:=by rw[hx,List.getElem?_eq_getElem hf]
    have hgf:getF d.files p=some x.2:=by rw[Qi3 hf,hx]
    obtain⟨j,hj⟩:∃ j,j=Z9 d.files p:=⟨_,rfl⟩
    rw[←hj] at hfc hf hxj;have hjz:(0:Int)≤(j:Int):=by omega
    have hjl:(j:Int)<(d.files.length:Int):=by omega
    have HX:=zh hxj;have HG:=zh hgf;clear hj hF hx hxj hgf hdr
    go_wp2_with (first|(go_at_call 64;refine hfc.mono ?_;rintro e w2 ⟨rfl,hb2⟩;have HB2:=zh hb2;have hd2:=HDR.o.below hb2;have HD2:=zh hd2;have q0:=(hb2.cell (p:=⟨g,0,none⟩) (Qk r0)).trans r0;have c0:=hd2.cells.1.1;obtain⟨bk,cap,rfl,hbl,hbg,_,c1⟩:=hd2.data (j:=j) (x:=x) HX.o;clear hb2 hd2)|(refine Qde rfl _ _ _ _ rfl underlying9 underlying94 underlying5 rfl _ rfl ?_;rintro v' w3 h1 h2 h3 ⟨b',c',h4⟩;have H1:=zh h1;have H2:=zh h2;subst h4;clear h1 h2 h3))
    go_ret2;have hbf:=HB2.o.trans (H2.o.mono HB2.o.size);exact⟨by rw[HN1.o];exact HN.o.below hbf,HFR.o.trans (Fr.ofBelow hbf),_,_,rfl,.inl ⟨_,by rw[Qng HZ.o,←HFL.o,HG.o];rfl,rfl,H1.o.mono (Nat.le_trans hszr HB2.o.size),_,_,_,rfl⟩⟩
   ·have hF:Jk d.files p = -1:=by unfold Jk;rw[if_neg hf]
    have hgf:=Qdl hf;rw[hF] at hfc;have HG:=zh hgf;clear hF hgf hf hdr
    go_wp2_with (go_at_call 64;refine hfc.mono ?_;rintro e w2 ⟨rfl,hb2⟩;have HB2:=zh hb2;have q3:=(hb2.cell (p:=⟨g,3,none⟩) (Qk r3)).trans r3;clear hb2)
    go_region
    all_goals (
     go_wp2
     go_ret2
     have hbf:=HB2.o.trans (((Qa w2 (.cells #[.int .i64 ((n.fetches:Int)+1)] 366)).drew).mono HB2.o.size)
     exact⟨by rw[HN1.o];exact HN.o.below hbf,HFR.o.trans (Fr.ofBelow hbf),_,_,rfl,.inr ⟨by rw[Qng HZ.o,←HFL.o,HG.o];rfl,⟨_,rfl⟩,_,_,_,rfl⟩⟩)
end
section
def rA (g:Nat):Option Nat→Addr
 | none=>⟨g,2,none⟩
 | some b=>⟨b,0,none⟩
def rE (g:Nat):Option Nat→Addr
 | none=>⟨g,5,none⟩
 | some b=>⟨b,3,none⟩
def rL (g:Nat):Option Nat→Addr
 | none=>⟨g,4,none⟩
 | some b=>⟨b,2,none⟩
abbrev rP (g:Nat) (x:Option Nat):Value:=.pointer (some (rA g x))
variable {g:Nat} {x y:Option Nat}
theorem Qvd (h:rE g x=rE g y):x=y:=by
 cases x <;> cases y <;> simp[rE] at h ⊢
 exact h
theorem Qwt (h:rL g x=rL g y):x=y:=by
 cases x <;> cases y <;> simp[rL] at h ⊢
 exact h
theorem Qbn (g:Nat) (x y:Option Nat):rE g x≠rL g y:=by cases x <;> cases y <;> simp[rE,rL]
structure Lk (w:World) (g:Nat) (x y:Option Nat):Prop where
 e:w.cell? (rE g x)=some (rP g y)
 l:w.cell? (rL g y)=some (rP g x)
def Chn (w:World) (g:Nat):Option Nat→List Nat→Prop
 | x,[]=>Lk w g x none
 | x,b :: bs=>Lk w g x (some b)∧Chn w g (some b) bs
def lst:Option Nat→List Nat→Option Nat
 | x,[]=>x
 | _,b :: bs=>lst (some b) bs
theorem Qx1 (x:Option Nat) (l:List Nat) (b:Nat):lst x (l ++ [b])=some b:=by
 induction l generalizing x with
 | nil=>rfl
 | cons a l ih=>exact ih (some a)
variable {l:List Nat}
theorem Qqf:lst x l=x∨∃ b∈l,lst x l=some b:=by
 induction l generalizing x with
 | nil=>exact .inl rfl
 | cons a l ih=>
  rcases ih (x:=some a) with h|⟨b,hb,h⟩
  ·exact .inr ⟨a,.head _,h⟩
  ·exact .inr ⟨b,.tail _ hb,h⟩
variable {w w':World}
theorem Chn.agree (h:Chn w g x l) (he:∀ y,(y=x∨∃ b∈l,y=some b)→w'.cell? (rE g y)=w.cell? (rE g y))
  (hl:∀ y,(y=none∨∃ b∈l,y=some b)→w'.cell? (rL g y)=w.cell? (rL g y)):Chn w' g x l:=by
 induction l generalizing x with
 | nil=>exact⟨(he _ (.inl rfl)).trans h.e,(hl _ (.inl rfl)).trans h.l⟩
 | cons b l ih=>
  refine⟨⟨(he _ (.inl rfl)).trans h.1.e,(hl _ (.inr ⟨b,.head _,rfl⟩)).trans h.1.l⟩,ih h.2 ?_ ?_⟩
  ·rintro y (rfl|⟨c,hc,rfl⟩)
   ·exact he _ (.inr ⟨b,.head _,rfl⟩)
   ·exact he _ (.inr ⟨c,.tail _ hc,rfl⟩)
  ·rintro y (rfl|⟨c,hc,rfl⟩)
   ·exact hl _ (.inl rfl)
   ·exact hl _ (.inr ⟨c,.tail _ hc,rfl⟩)
variable {m:List Nat} {b:Nat}
theorem Chn.before (h:Chn w g x (l++b :: m)):Lk w g (lst x l) (some b)∧Chn w g (some b) m:=by
 induction l generalizing x with
 | nil=>exact h
 | cons a l ih=>exact ih h.2
theorem Chn.first (h:Chn w g x l):Lk w g x l.head?:=by
 cases l with
 | nil=>exact h
 | cons b l=>exact h.1
theorem Chn.last (h:Chn w g x l):Lk w g (lst x l) none:=by
 induction l generalizing x with
 | nil=>exact h
 | cons b l ih=>exact ih h.2
structure Qzg (w w':World) (g:Nat) (x y:Option Nat):Prop where
 lk:Lk w' g x y
 rest:∀ a,a≠rE g x→a≠rL g y→w'.cell? a=w.cell? a
theorem Chn.take (h:Chn w g x (l++b :: m)) (hx:∀ c∈l++b :: m,x≠some c) (hn:(l++b :: m).Nodup) (hj:Qzg w w' g (lst x l) m.head?):Chn w' g x (l++m):=by
 induction l generalizing x with
 | nil=>
  simp only[List.nil_append,lst] at *;cases m with
  | nil=>exact hj.lk
  | cons c m=>
   refine⟨hj.lk,Chn.agree h.2.2 (fun y hy=>?_) (fun y hy=>?_)⟩
   ·refine hj.rest _ (fun e=>?_) (Qbn _ _ _)
    have e:=Qvd e;subst e;rcases hy with hy|⟨d,hd,hy⟩
    ·exact hx c (by simp) hy
    ·exact hx d (by simp[hd]) hy
   ·refine hj.rest _ (fun e=>Qbn _ _ _ e.symm) (fun e=>?_)
    have e:=Qwt e;subst e;rcases hy with hy|⟨d,hd,hy⟩
    ·simp at hy
    ·simp only[List.head?_cons,Option.some.injEq] at hy
     subst hy
     have:=(List.nodup_cons.1 (List.nodup_cons.1 hn).2).1
     exact this hd
 | cons a l ih=>
  have hn':=List.nodup_cons.1 hn;have hne:∀ d,lst (some a) l=some d→d∈a :: l:=by
   intro d hd;rcases Qqf (x:=some a) (l:=l) with e|⟨c,hc,e⟩
   ·rw[e] at hd;cases hd;exact .head _
   ·rw[e] at hd;cases hd;exact .tail _ hc
  have hsome:∃ d,lst (some a) l=some d:=by
   rcases Qqf (x:=some a) (l:=l) with e|⟨c,_,e⟩
   ·exact⟨a,e⟩
   ·exact⟨c,e⟩
  refine⟨⟨(hj.rest _ (fun e=>?_) (Qbn _ _ _)).trans h.1.e,(hj.rest _ (fun e=>Qbn _ _ _ e.symm) (fun e=>?_)).trans h.1.l⟩,ih h.2 ?_ hn'.2 hj⟩
  ·obtain⟨d,hd⟩:=hsome
   have e:=Qvd e;have e:x=some d:=e.trans hd;refine hx d ?_ e
   have:=hne d hd
   simp only[List.cons_append,List.mem_cons,List.mem_append] at this ⊢;rcases this with h|h
   ·exact .inl h
   ·exact .inr (.inl h)
  ·have e:=Qwt e
   cases m with
   | nil=>simp at e
   | cons c m=>
    simp only[List.head?_cons,Option.some.injEq] at e;subst e;exact hn'.1 (by simp)
  ·intro c hc e
   cases e;exact hn'.1 hc
structure Qy7 (w w':World) (g b:Nat) (y:Option Nat):Prop where
 top:Lk w' g none (some b)
 two:Lk w' g (some b) y
 rest:∀ p,p≠rE g none→p≠rL g (some b)→p≠rE g (some b)→p≠rL g y→w'.cell? p=w.cell? p
theorem Chn.front (h:Chn w g none l) (hb:b ∉ l) (hn:l.Nodup) (hf:Qy7 w w' g b l.head?):Chn w' g none (b :: l):=by
 refine⟨hf.top,?_⟩;cases l with
 | nil=>exact hf.two
 | cons c l=>
  refine⟨hf.two,Chn.agree h.2 (fun y hy=>?_) (fun y hy=>?_)⟩
  ·have hy':∃ d∈c :: l,y=some d:=by
    rcases hy with hy|⟨d,hd,hy⟩
    ·exact⟨c,.head _,hy⟩
    ·exact⟨d,.tail _ hd,hy⟩
   obtain⟨d,hd,rfl⟩:=hy';refine hf.rest _ (fun e=>by have:=Qvd e;cases this) (Qbn _ _ _) (fun e=>?_) (Qbn _ _ _);have e:=Qvd e;cases e;exact hb hd
  ·refine hf.rest _ (fun e=>Qbn _ _ _ e.symm) (fun e=>?_) (fun e=>Qbn _ _ _ e.symm) (fun e=>?_)
   ·have e:=Qwt e
    subst e;rcases hy with hy|⟨d,hd,hy⟩
    ·cases hy
    ·cases hy
     exact hb (.tail _ hd)
   ·have e:=Qwt e
    subst e;rcases hy with hy|⟨d,hd,hy⟩
    ·simp at hy
    ·simp only[List.head?_cons,Option.some.injEq] at hy
     subst hy;exact (List.nodup_cons.1 hn).1 hd
end
section
def Two (w w':World) (p:Addr) (u:Value) (q:Addr) (v:Value):Prop:=w'=(w.drew.setCell p u).setCell q v∨w'=(w.drew.setCell q v).setCell p u
variable {w w':World} {p q:Addr} {u v:Value}
theorem Two.swap (h:Two w w' p u q v):Two w w' q v p u:=h.symm
variable {x:Value}
theorem Two.left (h:Two w w' p u q v) (hp:w.cell? p=some x) (hne:p≠q):w'.cell? p=some u:=by
 rcases h with rfl|rfl
 ·rw[World.cell?_setCell_other _ _ _ _ hne.symm]
  exact World.cell?_setCell_same _ _ _ (u:=x) hp
 ·exact World.cell?_setCell_same _ _ _ (u:=x) ((World.cell?_setCell_other _ _ _ _ hne.symm).trans hp)
theorem Two.right (h:Two w w' p u q v) (hq:w.cell? q=some x) (hne:p≠q):w'.cell? q=some v:=h.swap.left hq hne.symm
theorem Two.other (h:Two w w' p u q v) {a:Addr} (hp:a≠p) (hq:a≠q):w'.cell? a=w.cell? a:=by
 rcases h with rfl|rfl
 ·rw[World.cell?_setCell_other _ _ _ _ hq.symm,World.cell?_setCell_other _ _ _ _ hp.symm];rfl
 ·rw[World.cell?_setCell_other _ _ _ _ hp.symm,World.cell?_setCell_other _ _ _ _ hq.symm];rfl
theorem Two.frozen (h:Two w w' p u q v) (a:Addr):w'.frozen? a=w.frozen? a:=by
 rcases h with rfl|rfl
 ·rw[World.frozen?_setCell,World.frozen?_setCell];rfl
 ·rw[World.frozen?_setCell,World.frozen?_setCell];rfl
theorem Two.fr (h:Two w w' p u q v):Fr (fun k=>k=p.block∨k=q.block) w w':=by
 rcases h with rfl|rfl
 ·exact ((Fr.ofBelow (Ql w)).setCell (fun _=>.inl rfl) u).setCell (fun _=>.inr rfl) v
 ·exact ((Fr.ofBelow (Ql w)).setCell (fun _=>.inr rfl) v).setCell (fun _=>.inl rfl) u
theorem Q2w (w:World) (c:Value) (b ax ox ay oy:Nat) (ux uy:Value) (h2:w.cell? ⟨b,2,none⟩=some (.pointer (some ⟨ax,ox,none⟩))) (h3:w.cell? ⟨b,3,none⟩=some (.pointer (some ⟨ay,oy,none⟩)))
  (hx:w.cell? ⟨ax,ox+3,none⟩=some ux) (hy:w.cell? ⟨ay,oy+2,none⟩=some uy) (fx:w.frozen? ⟨ax,ox+3,none⟩=false) (fy:w.frozen? ⟨ay,oy+2,none⟩=false)
  (hbx:b≠ax) (hby:b≠ay) (hne:ax≠ay∨ox+3≠oy+2) :
  Calls prog 183 #[c,.pointer (some ⟨b,0,none⟩)] w (fun e w'=>e=.returned (.tuple #[])∧Two w w' ⟨ay,oy+2,none⟩ (.pointer (some ⟨ax,ox,none⟩)) ⟨ax,ox+3,none⟩ (.pointer (some ⟨ay,oy,none⟩))):=by
 have d2:w.drew.cell? ⟨b,2,none⟩=some (.pointer (some ⟨ax,ox,none⟩)):=h2;have d3:w.drew.cell? ⟨b,3,none⟩=some (.pointer (some ⟨ay,oy,none⟩)):=h3;have dx:w.drew.cell? ⟨ax,ox+3,none⟩=some ux:=hx;have dy:w.drew.cell? ⟨ay,oy+2,none⟩=some uy:=hy;have dfx:w.drew.frozen? ⟨ax,ox+3,none⟩=false:=fx;have dfy:w.drew.frozen? ⟨ay,oy+2,none⟩=false:=fy;have ne1:(⟨ay,oy+2,none⟩:Addr)≠⟨ax,ox+3,none⟩:=by
  intro e
  injection e with e1 e2
  rcases hne with h|h
  ·exact h e1.symm
  ·exact h e2.symm
 have ex:(w.setCell ⟨ay,oy+2,none⟩ (.pointer (some ⟨ax,ox,none⟩))).drew.cell? ⟨ax,ox+3,none⟩=some ux:=(World.cell?_setCell_other _ _ _ _ ne1).trans hx;have ey:(w.setCell ⟨ax,ox+3,none⟩ (.pointer (some ⟨ay,oy,none⟩))).drew.cell? ⟨ay,oy+2,none⟩=some uy:=(World.cell?_setCell_other _ _ _ _ ne1.symm).trans hy;have gx:(w.setCell ⟨ay,oy+2,none⟩ (.pointer (some ⟨ax,ox,none⟩))).drew.frozen? ⟨ax,ox+3,none⟩=false:=(World.frozen?_setCell _ _ _ _).trans fx;have gy:(w.setCell ⟨ax,ox+3,none⟩ (.pointer (some ⟨ay,oy,none⟩))).drew.frozen? ⟨ay,oy+2,none⟩=false:=(World.frozen?_setCell _ _ _ _).trans fy
 go_enter func183,ntmps183
 go_region
 all_goals (
  go_wp2
  refine bodyPost_end (results_none rfl _ _ _) rfl ⟨rfl,?_⟩
  first
   | exact .inl rfl
   | exact .inr rfl)
theorem Q0u (w:World) (g b ay oy:Nat) (u2 u3 uy:Value) (h2:w.cell? ⟨b,2,none⟩=some u2) (h3:w.cell? ⟨b,3,none⟩=some u3) (h5:w.cell? ⟨g,5,none⟩=some (.pointer (some ⟨ay,oy,none⟩)))
  (hy:w.cell? ⟨ay,oy+2,none⟩=some uy) (f2:w.frozen? ⟨b,2,none⟩=false) (f3:w.frozen? ⟨b,3,none⟩=false) (f5:w.frozen? ⟨g,5,none⟩=false) (fy:w.frozen? ⟨ay,oy+2,none⟩=false)
  (hbg:b≠g) (hby:b≠ay) (hne:ay≠g∨oy+2≠5) :
  Calls prog 184 #[.pointer (some ⟨g,0,none⟩),.pointer (some ⟨b,0,none⟩)] w (fun e w'=>e=.returned (.tuple #[])∧
   ∃ w1,Two w w1 ⟨b,2,none⟩ (.pointer (some ⟨g,2,none⟩)) ⟨b,3,none⟩ (.pointer (some ⟨ay,oy,none⟩))∧Two w1 w' ⟨ay,oy+2,none⟩ (.pointer (some ⟨b,0,none⟩)) ⟨g,5,none⟩ (.pointer (some ⟨b,0,none⟩))):=by
 have d5:w.drew.cell? ⟨g,5,none⟩=some (.pointer (some ⟨ay,oy,none⟩)):=h5;have d2:w.drew.cell? ⟨b,2,none⟩=some u2:=h2;have d3:w.drew.cell? ⟨b,3,none⟩=some u3:=h3;have df2:w.drew.frozen? ⟨b,2,none⟩=false:=f2;have df3:w.drew.frozen? ⟨b,3,none⟩=false:=f3;have n23:(⟨b,2,none⟩:Addr)≠⟨b,3,none⟩:=by simp
 have a1:(w.setCell ⟨b,2,none⟩ (.pointer (some ⟨g,2,none⟩))).drew.cell? ⟨b,3,none⟩=some u3:=(World.cell?_setCell_other _ _ _ _ n23).trans h3;have a2:(w.setCell ⟨b,3,none⟩ (.pointer (some ⟨ay,oy,none⟩))).drew.cell? ⟨b,2,none⟩=some u2:=(World.cell?_setCell_other _ _ _ _ n23.symm).trans h2;have a3:(w.setCell ⟨b,2,none⟩ (.pointer (some ⟨g,2,none⟩))).drew.frozen? ⟨b,3,none⟩=false:=(World.frozen?_setCell _ _ _ _).trans f3;have a4:(w.setCell ⟨b,3,none⟩ (.pointer (some ⟨ay,oy,none⟩))).drew.frozen? ⟨b,2,none⟩=false:=(World.frozen?_setCell _ _ _ _).trans f2;have a5:(w.setCell ⟨b,2,none⟩ (.pointer (some ⟨g,2,none⟩))).drew.cell? ⟨g,5,none⟩=some (.pointer (some ⟨ay,oy,none⟩)):=(World.cell?_setCell_other _ _ _ _ (by simp[hbg])).trans h5
 go_enter func184,ntmps184
 go_wp2;go_region;obtain⟨w1,hw1⟩:∃ w1,w1=((w.setCell ⟨b,2,none⟩ (.pointer (some ⟨g,2,none⟩))).setCell ⟨b,3,none⟩ (.pointer (some ⟨ay,oy,none⟩))).drew:=⟨_,rfl⟩
 rw[←hw1];have HT:Two w w1 ⟨b,2,none⟩ (.pointer (some ⟨g,2,none⟩)) ⟨b,3,none⟩ (.pointer (some ⟨ay,oy,none⟩)):=.inl hw1;clear hw1 a1 a2 a3 a4 a5 d2 d3 d5 df2 df3;have b2:w1.drew.cell? ⟨b,2,none⟩=some (.pointer (some ⟨g,2,none⟩)):=HT.left h2 n23;have b3:w1.drew.cell? ⟨b,3,none⟩=some (.pointer (some ⟨ay,oy,none⟩)):=HT.right h3 n23;have by':w1.cell? ⟨ay,oy+2,none⟩=some uy:=(HT.other (fun e=>hby (by injection e with e;exact e.symm)) (fun e=>hby (by injection e with e;exact e.symm))).trans hy
 have b5:w1.cell? ⟨g,5,none⟩=some (.pointer (some ⟨ay,oy,none⟩)):=(HT.other (fun e=>hbg (by injection e with e;exact e.symm)) (fun e=>hbg (by injection e with e;exact e.symm))).trans h5;have gy:w1.frozen? ⟨ay,oy+2,none⟩=false:=(HT.frozen _).trans fy;have g5:w1.frozen? ⟨g,5,none⟩=false:=(HT.frozen _).trans f5;have ey:w1.drew.cell? ⟨ay,oy+2,none⟩=some uy:=by'
 have e5:w1.drew.cell? ⟨g,5,none⟩=some (.pointer (some ⟨ay,oy,none⟩)):=b5;have fy1:w1.drew.frozen? ⟨ay,oy+2,none⟩=false:=gy;have f51:w1.drew.frozen? ⟨g,5,none⟩=false:=g5;have ny:(⟨ay,oy+2,none⟩:Addr)≠⟨g,5,none⟩:=by
  intro e
  injection e with e1 e2
  rcases hne with h|h
  ·exact h e1
  ·exact h e2
 have k5:(w1.setCell ⟨ay,oy+2,none⟩ (.pointer (some ⟨b,0,none⟩))).drew.cell? ⟨g,5,none⟩=some (.pointer (some ⟨ay,oy,none⟩)):=(World.cell?_setCell_other _ _ _ _ ny).trans b5;have k6:(w1.setCell ⟨ay,oy+2,none⟩ (.pointer (some ⟨b,0,none⟩))).drew.frozen? ⟨g,5,none⟩=false:=(World.frozen?_setCell _ _ _ _).trans g5;have k7:(w1.setCell ⟨g,5,none⟩ (.pointer (some ⟨b,0,none⟩))).drew.cell? ⟨ay,oy+2,none⟩=some uy:=(World.cell?_setCell_other _ _ _ _ ny.symm).trans by'
 have k8:(w1.setCell ⟨g,5,none⟩ (.pointer (some ⟨b,0,none⟩))).drew.frozen? ⟨ay,oy+2,none⟩=false:=(World.frozen?_setCell _ _ _ _).trans gy;clear h2 h3 h5 hy f2 f3 f5 fy n23;go_wp2;go_region
 all_goals (
  refine bodyPost_end (results_none rfl _ _ _) rfl ⟨rfl,w1,HT,?_⟩
  first
   | exact .inl rfl
   | exact .inr rfl)
end
section
open Go.RowKit Go.Maps Go.ChangeMaps Go.WideMaps
def Qmx (v:Value):Option (DataW Value×List MemPlace):=some (.held v,[])
def klit (s:ByteArray):Lit:=.string s.data.toList
variable {s:ByteArray}
theorem Qlf {u:ByteArray} (h:klit s=klit u):s=u:=by
 have h1:s.data.toList=u.data.toList:=by injection h
 cases s;cases u;simp only[ByteArray.mk.injEq];exact Array.toList_inj.1 h1
structure KmAt (w:World) (k:TypeId) (b:Nat) (get:ByteArray→Option Value) (n:Nat):Prop where
 ex:∃ D:DataW Value,w.ownsMap prog k Qmx b n D∧Maps.size D=n∧(∀ s,Maps.has D (klit s)=(get s).isSome)∧∀ s v z,get s=some v→D.atKey (klit s) z=.held v
section
variable {w:World} {k:TypeId} {b n:Nat} {get:ByteArray→Option Value}
variable {m:Nat}
theorem Qii {H:Type} {P:Program} {R:Value→Option (DataW H×List MemPlace)} {D:DataW H} (h:w.ownsMap P k R b m D):w.ownsMap P k R b (Maps.size D) D:=by
 obtain⟨es,clock,hb,F,hs,rfl⟩:=h;refine⟨es,clock,hb,F,?_,rfl⟩;have e1:Maps.size (DataW.map ((es.toList.map (Go.WideElems.rg P k R)).foldr DataW.insert []))=es.size:=by simp[Maps.size,length_sorted]
 rw[e1];exact Nat.le_refl _
theorem KmAt.made_at (w:World) (k:TypeId) {b:Nat} (hb:w.heap[b]?=some (.map #[] 0)):KmAt w k b (fun _=>none) 0:=by refine⟨.map [],⟨#[],0,hb,?_,Nat.le_refl _,rfl⟩,rfl,fun _=>rfl,fun _ _ _ h=>by cases h⟩;obtain⟨es,c,h1,F,_,_⟩:=World.ownsMap_made (H:=Value) w prog k Qmx;have h2:(w.alloc (.map #[] 0)).heap[w.heap.size]?=some (.map #[] 0):=Array.getElem?_push_size;rw[h2] at h1;cases h1;exact F
theorem KmAt.lt (h:KmAt w k b get n):b<w.heap.size:=by obtain⟨D,hD,_⟩:=h.ex;exact hD.lt
variable {w':World}
theorem KmAt.same (h:KmAt w k b get n) (e:w'.heap[b]?=w.heap[b]?):KmAt w' k b get n:=by obtain⟨D,⟨es,c,hb,r⟩,q⟩:=h.ex;exact⟨D,⟨es,c,by rw[e];exact hb,r⟩,q⟩
theorem KmAt.fr {S:Nat→Prop} (h:KmAt w k b get n) (hf:Fr S w w') (hs:¬ S b):KmAt w' k b get n:=h.same (hf.block b h.lt hs)
theorem KmAt.below {B:Nat} (h:KmAt w k b get n) (hb:Below B w w') (hB:b<B):KmAt w' k b get n:=h.same (hb.block b hB)
theorem Fr.ofTurned (h:w.mapTurned w' b):Fr (·=b) w w':=by obtain⟨es,c,es',c',_,rfl⟩:=h;refine⟨rfl,rfl,rfl,by simp[setBlock],fun i _ hs=>?_⟩;simp only[setBlock];exact Array.getElem?_setIfInBounds_ne (fun e=>hs e.symm)
theorem Qna (h:w.mapTurned w' b):w'.heap.size=w.heap.size:=by obtain⟨es,c,es',c',_,rfl⟩:=h;simp[setBlock]
variable {D:DataW Value}
theorem KmAt.put {v:Value} (hk:prog.underlying k=some .string) (hown:w.ownsMap prog k Qmx b m D) (hh:∀ s,Maps.has D (klit s)=(get s).isSome) (ha:∀ s v z,get s=some v→D.atKey (klit s) z=.held v)
  (h':w'.ownsMap prog k Qmx b (m+1) (D.put (klit s) (.held v))):KmAt w' k b (fun u=>if u=s then some v else get u) (if (get s).isSome then Maps.size D else Maps.size D+1):=by
 have K:=string_keyed hk;have hT:=hown.tidy K;have hsz:=size_put (k:=klit s) hT (DataW.held v);rw[hh s] at hsz;have ht:=Qii h';rw[hsz] at ht;refine⟨_,ht,hsz,fun u=>?_,fun u x z hu=>?_⟩
 ·by_cases e:u=s
  ·subst e;simp[has_put_same hown.isMap (show WideAt.IsKeyLit (klit u) from trivial)]
  ·simp only[if_neg e]
   rw[has_put_other (fun q=>e (Qlf q)),hh u]
 ·by_cases e:u=s
  ·subst e
   simp only[if_true,Option.some.injEq] at hu;rw[atKey_put_same hown.isMap (show WideAt.IsKeyLit (klit u) from trivial),hu]
  ·simp only[if_neg e] at hu
   rw[atKey_put_other (fun q=>e (Qlf q)),ha u x z hu]
theorem KmAt.del (hk:prog.underlying k=some .string) (hown:w.ownsMap prog k Qmx b m D) (hh:∀ s,Maps.has D (klit s)=(get s).isSome) (ha:∀ s v z,get s=some v→D.atKey (klit s) z=.held v)
  (h':w'.ownsMap prog k Qmx b m (D.del (klit s))):KmAt w' k b (fun u=>if u=s then none else get u) (Maps.size D-(if (get s).isSome then 1 else 0)):=by
 have K:=string_keyed hk;have hT:=hown.tidy K;have hsz:=size_del (k:=klit s) hT;rw[hh s] at hsz;have ht:=Qii h';have e1:Maps.size (D.del (klit s))=Maps.size D-(if (get s).isSome then 1 else 0):=by omega
 rw[e1] at ht;refine⟨_,ht,e1,fun u=>?_,fun u x z hu=>?_⟩
 ·by_cases e:u=s
  ·subst e;simp[has_del_same]
  ·simp only[if_neg e]
   rw[has_del_other (fun q=>e (Qlf q)),hh u]
 ·by_cases e:u=s
  ·subst e;simp at hu
  ·simp only[if_neg e] at hu
   rw[atKey_del_other (fun q=>e (Qlf q)),ha u x z hu]
end
section
variable (w:World) {ops:Array Oper} {rest:List Oper} {o:Oper} {a:Act} {Q:Exit→Act→World→Prop}
theorem Yo (hg:o.guard=none) (m x:Operand) (t:TypeId) (hop:o.op=Op.lookup t m x true) (k e:TypeId) (hk:prog.underlying k=some .string) (ht:prog.underlying t=some (.map k e)) {z:Value} (hz:(zeroValue e).run prog w=.ok z w) (b n:Nat) (get:ByteArray→Option Value) (hm:a.eval m=.map (some b)) (h:KmAt w k b get n) (s:ByteArray) (hx:a.eval x=.string s) (hs:s.size≤maxLen)
  (hK:wpList prog ops Q rest (a.put o.dst (.tuple #[(get s).getD z,.bool (get s).isSome])) w):wpList prog ops Q (o :: rest) a w:=by
 obtain⟨D,hown,hn,hh,ha⟩:=h.ex;refine wpList_lookup_own_ok w hg m x t hop k e (string_keyed hk) ht Qmx hz (.held z) [] rfl b n D hm hown (.string s) (klit s) hx (keyOf_string_mk hk hs) fun v ps hv=>?_
 have e1:DataW.held v=D.atKey (klit s) (.held z):=by
  have:=congrArg (Option.map Prod.fst) hv
  simpa [Qmx] using this
 cases hg':get s with
 | none=>
  rw[atKey_of_not_has (by rw[hh s,hg'];rfl)] at e1
  injection e1 with e1
  subst e1;rw[hh s];simpa [hg'] using hK
 | some y=>
  rw[ha s y _ hg'] at e1
  injection e1 with e1
  subst e1;rw[hh s];simpa [hg'] using hK
theorem Qdy (hg:o.guard=none) (m x v:Operand) (t:TypeId) (hop:o.op=Op.mapUpdate t m x v) (k e:TypeId) (hk:prog.underlying k=some .string) (ht:prog.underlying t=some (.map k e))
  (b n:Nat) (get:ByteArray→Option Value) (hm:a.eval m=.map (some b)) (h:KmAt w k b get n) (hn:n<maxLen) (s:ByteArray) (y:Value) (hx:a.eval x=.string s) (hs:s.size≤maxLen) (hv:a.eval v=y)
  (hK:∀ w',KmAt w' k b (fun u=>if u=s then some y else get u) (if (get s).isSome then n else n+1)→Fr (·=b) w w'→w'.heap.size=w.heap.size→wpList prog ops Q rest (a.put o.dst undef) w'):wpList prog ops Q (o :: rest) a w:=by
 obtain⟨D,hown,hnD,hh,ha⟩:=h.ex;refine wpList_mapUpdate_in w hg m x v t hop k e (string_keyed hk) ht Qmx b n D hm hown hn (.string s) y (klit s) hx hv (keyOf_string_mk hk hs) (.held y) [] rfl fun w' h1 h2=>?_
 have h3:=KmAt.put hk hown hh ha h1;rw[hnD] at h3;exact hK w' h3 (Fr.ofTurned h2) (Qna h2)
theorem Qq9 (hg:o.guard=none) (m x:Operand) (t k:TypeId) (hop:o.op=Op.call { callee:=Callee.builtin Builtin.delete,args:=#[m,x],argTypes:=#[t,k] }) (e:TypeId) (hk:prog.underlying k=some .string) (ht:prog.underlying t=some (.map k e))
  (b n:Nat) (get:ByteArray→Option Value) (hm:a.eval m=.map (some b)) (h:KmAt w k b get n) (s:ByteArray) (hx:a.eval x=.string s) (hs:s.size≤maxLen)
  (hK:∀ w',KmAt w' k b (fun u=>if u=s then none else get u) (n-(if (get s).isSome then 1 else 0))→Fr (·=b) w w'→w'.heap.size=w.heap.size→wpList prog ops Q rest (a.put o.dst (.tuple #[])) w'):wpList prog ops Q (o :: rest) a w:=by
 obtain⟨D,hown,hnD,hh,ha⟩:=h.ex;refine wpList_delete_own w hg m x t k hop e (string_keyed hk) ht Qmx b n D hm hown (.string s) (klit s) hx (keyOf_string_mk hk hs) fun w' h1 h2=>?_
 have h3:=KmAt.del hk hown hh ha h1;rw[hnD] at h3;exact hK w' h3 (Fr.ofTurned h2) (Qna h2)
end
end
section
def Node (w:World) (b:Nat) (k:ByteArray) (v:Value):Prop:=∃ l e,w.heap[b]?=some (.cells #[.string k,v,.pointer l,.pointer e] 244 (0,0))
def Ends (w:World) (g m n:Nat):Prop:=∃ l e,w.heap[g]?=some (.cells #[.int .i64 n,.map (some m),.string ⟨#[]⟩,.slice none 0 0,.pointer l,.pointer e] 246 (0,0))
variable {w:World} {b:Nat} {k:ByteArray} {v:Value} {a:Addr} {p:Option Addr}
theorem Node.set (h:Node w b k v) (ha:a.block=b→a=⟨b,2,none⟩∨a=⟨b,3,none⟩):Node (w.setCell a (.pointer p)) b k v:=by
 obtain⟨l,e,h⟩:=h;by_cases hb:a.block=b
 ·rcases ha hb with rfl|rfl
  ·exact⟨p,e,by rw[heap_setCell h];rfl⟩
  ·exact⟨l,p,by rw[heap_setCell h];rfl⟩
 ·exact⟨l,e,Jg h (fun e=>hb e.symm) _⟩
variable {g m n:Nat}
theorem Ends.set (h:Ends w g m n) (ha:a.block=g→a=⟨g,4,none⟩∨a=⟨g,5,none⟩):Ends (w.setCell a (.pointer p)) g m n:=by
 obtain⟨l,e,h⟩:=h;by_cases hb:a.block=g
 ·rcases ha hb with rfl|rfl
  ·exact⟨p,e,by rw[heap_setCell h];rfl⟩
  ·exact⟨l,p,by rw[heap_setCell h];rfl⟩
 ·exact⟨l,e,Jg h (fun e=>hb e.symm) _⟩
variable {w':World} {q:Addr} {y:Option Addr}
theorem Node.two {p:Addr} {x:Option Addr} (h:Node w b k v) (ht:Two w w' p (.pointer x) q (.pointer y)) (hp:p.block=b→p=⟨b,2,none⟩∨p=⟨b,3,none⟩) (hq:q.block=b→q=⟨b,2,none⟩∨q=⟨b,3,none⟩):Node w' b k v:=by
 have hd:Node w.drew b k v:=h;rcases ht with rfl|rfl
 ·exact (hd.set hp).set hq
 ·exact (hd.set hq).set hp
theorem Ends.two {p:Addr} {x:Option Addr} (h:Ends w g m n) (ht:Two w w' p (.pointer x) q (.pointer y)) (hp:p.block=g→p=⟨g,4,none⟩∨p=⟨g,5,none⟩) (hq:q.block=g→q=⟨g,4,none⟩∨q=⟨g,5,none⟩):Ends w' g m n:=by
 have hd:Ends w.drew g m n:=h;rcases ht with rfl|rfl
 ·exact (hd.set hp).set hq
 ·exact (hd.set hq).set hp
theorem Node.below (h:Node w b k v) (e:w'.heap[b]?=w.heap[b]?):Node w' b k v:=by obtain⟨l,r,h⟩:=h;exact⟨l,r,e.trans h⟩
theorem Ends.below (h:Ends w g m n) (e:w'.heap[g]?=w.heap[g]?):Ends w' g m n:=by obtain⟨l,r,h⟩:=h;exact⟨l,r,e.trans h⟩
theorem Node.free (h:Node w b k v) (i:Nat):w.frozen? ⟨b,i,none⟩=false:=by obtain⟨l,e,h⟩:=h;exact Qq h i
theorem Ends.free (h:Ends w g m n) (i:Nat):w.frozen? ⟨g,i,none⟩=false:=by obtain⟨l,e,h⟩:=h;exact Qq h i
theorem Node.key (h:Node w b k v):w.cell? ⟨b,0,none⟩=some (.string k):=by obtain⟨l,e,h⟩:=h;exact Qd h 0 rfl
theorem Node.val (h:Node w b k v):w.cell? ⟨b,1,none⟩=some v:=by obtain⟨l,e,h⟩:=h;exact Qd h 1 rfl
theorem Ends.most (h:Ends w g m n):w.cell? ⟨g,0,none⟩=some (.int .i64 n):=by obtain⟨l,e,h⟩:=h;exact Qd h 0 rfl
theorem Ends.all (h:Ends w g m n):w.cell? ⟨g,1,none⟩=some (.map (some m)):=by obtain⟨l,e,h⟩:=h;exact Qd h 1 rfl
theorem Node.ne (h:Node w b k v) (h':Ends w g m n):b≠g:=by rintro rfl;obtain⟨l,e,h⟩:=h;obtain⟨l',e',h'⟩:=h';rw[h] at h';cases h'
structure Je (w:World) (g m n:Nat) (ps:List (Nat×ByteArray×Value)):Prop where
 ends:Ends w g m n
 nodes:∀ p∈ps,Node w p.1 p.2.1 p.2.2
 chn:Chn w g none (ps.map (·.1))
 nd:(ps.map (·.1)).Nodup
variable {x:Option Nat}
theorem Qo9 (hg:b≠g) (h:(rL g x).block=b):rL g x=⟨b,2,none⟩∨rL g x=⟨b,3,none⟩:=by
 cases x with
 | none=>exact absurd h.symm hg
 | some c=>exact .inl (by cases h;rfl)
theorem Qwk (hg:b≠g) (h:(rE g x).block=b):rE g x=⟨b,2,none⟩∨rE g x=⟨b,3,none⟩:=by
 cases x with
 | none=>exact absurd h.symm hg
 | some c=>exact .inr (by cases h;rfl)
theorem Q0f (hx:x≠some g) (h:(rL g x).block=g):rL g x=⟨g,4,none⟩∨rL g x=⟨g,5,none⟩:=by
 cases x with
 | none=>exact .inl rfl
 | some c=>exact absurd (congrArg some h) hx
theorem Q6z (hx:x≠some g) (h:(rE g x).block=g):rE g x=⟨g,4,none⟩∨rE g x=⟨g,5,none⟩:=by
 cases x with
 | none=>exact .inr rfl
 | some c=>exact absurd (congrArg some h) hx
theorem Q0n {y:Option Nat} {u:Value} (h:Two w w' (rL g y) (rP g x) (rE g x) (rP g y)) (hl:w.cell? (rL g y)=some u) (he:w.cell? (rE g x)=some v):Qzg w w' g x y:=
 ⟨⟨h.right he (Qbn g x y).symm,h.left hl (Qbn g x y).symm⟩,fun _ h1 h2=>h.other h2 h1⟩
end
section
def aB (g:Nat):Option Nat→Nat
 | none=>g
 | some c=>c
def aO:Option Nat→Nat
 | none=>2
 | some _=>0
theorem Qxo (g:Nat) (x:Option Nat):rA g x=⟨aB g x,aO x,none⟩:=by cases x <;> rfl
theorem Q6s (g:Nat) (x:Option Nat):rE g x=⟨aB g x,aO x+3,none⟩:=by cases x <;> rfl
theorem Qq1 (g:Nat) (x:Option Nat):rL g x=⟨aB g x,aO x+2,none⟩:=by cases x <;> rfl
theorem Q78 (x y:Option Nat):aO x+3≠aO y+2:=by cases x <;> cases y <;> simp[aO]
theorem Q77 (y:Option Nat):aO y+2≠5:=by cases y <;> simp[aO]
section
variable {w:World} {g m n:Nat} {ps:List (Nat×ByteArray×Value)}
variable {b:Nat}
theorem Je.node (h:Je w g m n ps) (hb:b∈ps.map (·.1)):∃ k v,(b,k,v)∈ps∧Node w b k v:=by obtain⟨p,hp,rfl⟩:=List.mem_map.1 hb;exact⟨p.2.1,p.2.2,hp,h.nodes p hp⟩
theorem Je.ne (h:Je w g m n ps) (hb:b∈ps.map (·.1)):b≠g:=by obtain⟨k,v,_,hN⟩:=h.node hb;exact hN.ne h.ends
theorem Je.free (h:Je w g m n ps) {x:Option Nat} (hx:x=none∨∃ b∈ps.map (·.1),x=some b) (i:Nat):w.frozen? ⟨aB g x,i,none⟩=false:=by
 rcases hx with rfl|⟨b,hb,rfl⟩
 ·exact h.ends.free i
 ·obtain⟨k,v,_,hN⟩:=h.node hb
  exact hN.free i
variable {w':World} {p q:Addr}
theorem Je.turn (h:Je w g m n ps) {x y:Option Addr} (ht:Two w w' p (.pointer x) q (.pointer y)) {qs:List (Nat×ByteArray×Value)} (hq:∀ z∈qs,z∈ps)
  (hp2:∀ b,b≠g→p.block=b→p=⟨b,2,none⟩∨p=⟨b,3,none⟩) (hq2:∀ b,b≠g→q.block=b→q=⟨b,2,none⟩∨q=⟨b,3,none⟩) (hpg:p.block=g→p=⟨g,4,none⟩∨p=⟨g,5,none⟩) (hqg:q.block=g→q=⟨g,4,none⟩∨q=⟨g,5,none⟩)
  (hc:Chn w' g none (qs.map (·.1))) (hn:(qs.map (·.1)).Nodup):Je w' g m n qs:=
 ⟨h.ends.two ht hpg hqg,fun z hz=>(h.nodes z (hq z hz)).two ht (hp2 _ (h.ne (List.mem_map_of_mem (hq z hz)))) (hq2 _ (h.ne (List.mem_map_of_mem (hq z hz)))),hc,hn⟩
end
theorem Qmw (w:World) (g m n:Nat) (l r:List (Nat×ByteArray×Value)) (b:Nat) (k:ByteArray) (v:Value) (h:Je w g m n (l++(b,k,v) :: r)) (c:Value) :
  Calls prog 183 #[c,.pointer (some ⟨b,0,none⟩)] w (fun e w'=>e=.returned (.tuple #[])∧Je w' g m n (l++r)∧Node w' b k v∧Fr (fun i=>i=g∨i∈(l++(b,k,v) :: r).map (·.1)) w w'∧w'.heap.size=w.heap.size):=by
 have hm:(l++(b,k,v) :: r).map (·.1)=l.map (·.1)++b :: r.map (·.1):=by simp
 have hC:=h.chn;rw[hm] at hC;have hN:=h.nd;rw[hm] at hN;obtain⟨K1,K2⟩:=hC.before;have K3:=K2.first;obtain⟨x,hx⟩:∃ x,x=lst none (l.map (·.1)):=⟨_,rfl⟩
 obtain⟨y,hy⟩:∃ y,y=(r.map (·.1)).head?:=⟨_,rfl⟩
 rw[←hx] at K1;rw[←hy] at K3;have hxin:x=none∨∃ d∈(l++(b,k,v) :: r).map (·.1),x=some d:=by
  rcases Qqf (x:=none) (l:=l.map (·.1)) with e|⟨d,hd,e⟩
  ·exact .inl (hx.trans e)
  ·exact .inr ⟨d,by rw[hm];exact List.mem_append_left _ hd,hx.trans e⟩
 have hyin:y=none∨∃ d∈(l++(b,k,v) :: r).map (·.1),y=some d:=by
  cases r with
  | nil=>exact .inl hy
  | cons z r=>exact .inr ⟨z.1,by simp,hy⟩
 have hbin:b∈(l++(b,k,v) :: r).map (·.1):=by simp
 have hbg:=h.ne hbin;have hxb:b≠aB g x:=by
  rcases Qqf (x:=none) (l:=l.map (·.1)) with e|⟨d,hd,e⟩
  ·rw[hx,e];exact hbg
  ·rw[hx,e]
   rintro rfl
   have:=(List.nodup_append.1 hN).2.2 _ hd _ (.head _)
   exact this rfl
 have hyb:b≠aB g y:=by
  cases r with
  | nil=>rw[hy];exact hbg
  | cons z r=>
   rw[hy];rintro rfl;exact (List.nodup_cons.1 (List.nodup_append.1 hN).2.1).1 (.head _)
 have hxg:x≠some g:=by
  rcases hxin with e|⟨d,hd,e⟩
  ·rw[e];simp
  ·rw[e];intro q;cases q;exact h.ne hd rfl
 have hyg:y≠some g:=by
  rcases hyin with e|⟨d,hd,e⟩
  ·rw[e];simp
  ·rw[e];intro q;cases q;exact h.ne hd rfl
 have c2:w.cell? ⟨b,2,none⟩=some (.pointer (some ⟨aB g x,aO x,none⟩)):=by have:=K1.l;rwa [rP,Qxo] at this
 have c3:w.cell? ⟨b,3,none⟩=some (.pointer (some ⟨aB g y,aO y,none⟩)):=by have:=K3.e;rwa [rP,Qxo] at this
 have cx:w.cell? ⟨aB g x,aO x+3,none⟩=some (rP g (some b)):=by have:=K1.e;rwa [Q6s] at this
 have cy:w.cell? ⟨aB g y,aO y+2,none⟩=some (rP g (some b)):=by have:=K3.l;rwa [Qq1] at this
 refine (Q2w w c b _ _ _ _ _ _ c2 c3 cx cy (h.free hxin _) (h.free hyin _) hxb hyb (.inr (Q78 x y))).mono ?_;rintro e w' ⟨rfl,ht⟩;rw[←Qq1,←Q6s,←Qxo,←Qxo] at ht;have hj:Qzg w w' g x y:=Q0n ht (by rw[Qq1];exact cy) (by rw[Q6s];exact cx);have hsub:∀ z∈l++r,z∈l++(b,k,v) :: r:=by
  intro z hz;rcases List.mem_append.1 hz with hz|hz
  ·exact List.mem_append_left _ hz
  ·exact List.mem_append_right _ (.tail _ hz)
 refine⟨rfl,h.turn ht hsub (fun d hd=>Qo9 hd) (fun d hd=>Qwk hd) (Q0f hyg) (Q6z hxg) ?_ ?_,(h.nodes (b,k,v) (by simp)).two ht (Qo9 hbg) (Qwk hbg),?_,?_⟩
 ·rw[List.map_append]
  refine Chn.take hC (fun c _=>by simp) hN ?_;rw[←hx,←hy];exact hj
 ·rw[List.map_append]
  exact hN.sublist (List.Sublist.append_left (List.sublist_cons_self _ _) _)
 ·refine ht.fr.weak fun i _ hi=>?_
  rcases hi with rfl|rfl
  ·rcases hyin with e|⟨d,hd,e⟩
   ·rw[e];exact .inl rfl
   ·rw[e];exact .inr hd
  ·rcases hxin with e|⟨d,hd,e⟩
   ·rw[e];exact .inl rfl
   ·rw[e];exact .inr hd
 ·rcases ht with rfl|rfl <;> (simp only[World.setCell,Array.size_modify];rfl)
variable {w':World} {p q:Addr}
theorem Two.size {w:World} {u v:Value} (h:Two w w' p u q v):w'.heap.size=w.heap.size:=by rcases h with rfl|rfl <;> (simp only[World.setCell,Array.size_modify];rfl)
theorem Qg1 (w:World) (g m n:Nat) (ps:List (Nat×ByteArray×Value)) (b:Nat) (k:ByteArray) (v:Value) (h:Je w g m n ps) (hb:b ∉ ps.map (·.1)) (hB:Node w b k v) :
  Calls prog 184 #[.pointer (some ⟨g,0,none⟩),.pointer (some ⟨b,0,none⟩)] w (fun e w'=>e=.returned (.tuple #[])∧Je w' g m n ((b,k,v) :: ps)∧Fr (fun i=>i=g∨i=b∨i∈ps.map (·.1)) w w'∧w'.heap.size=w.heap.size):=by
 have hbg:=hB.ne h.ends;obtain⟨y,hy⟩:∃ y,y=(ps.map (·.1)).head?:=⟨_,rfl⟩
 have K:=h.chn.first;rw[←hy] at K;have hyin:y=none∨∃ d∈ps.map (·.1),y=some d:=by
  cases ps with
  | nil=>exact .inl hy
  | cons z r=>exact .inr ⟨z.1,by simp,hy⟩
 have hyb:b≠aB g y:=by
  rcases hyin with e|⟨d,hd,e⟩
  ·rw[e];exact hbg
  ·rw[e];rintro rfl;exact hb hd
 have hyg:y≠some g:=by
  rcases hyin with e|⟨d,hd,e⟩
  ·rw[e];simp
  ·rw[e];intro q;cases q;exact h.ne hd rfl
 obtain⟨l0,e0,hb0⟩:=id hB;have c2:w.cell? ⟨b,2,none⟩=some (.pointer l0):=Qd hb0 2 rfl;have c3:w.cell? ⟨b,3,none⟩=some (.pointer e0):=Qd hb0 3 rfl;have c5:w.cell? ⟨g,5,none⟩=some (.pointer (some ⟨aB g y,aO y,none⟩)):=by have:=K.e;rwa [rP,Qxo] at this
 have cy:w.cell? ⟨aB g y,aO y+2,none⟩=some (rP g none):=by have:=K.l;rwa [Qq1] at this
 refine (Q0u w g b _ _ _ _ _ c2 c3 c5 cy (hB.free _) (hB.free _) (h.ends.free _) (h.free hyin _) hbg hyb (.inr (Q77 y))).mono ?_;rintro e w' ⟨rfl,w1,h1,h2⟩;rw[←Qxo] at h1;rw[←Qq1] at h2;have n23:(⟨b,2,none⟩:Addr)≠⟨b,3,none⟩:=by simp
 have hyb2:rL g y≠⟨b,2,none⟩:=by rw[Qq1];intro q;injection q with q;exact hyb q.symm
 have hyb3:rL g y≠⟨b,3,none⟩:=by rw[Qq1];intro q;injection q with q;exact hyb q.symm
 have hg2:(⟨g,5,none⟩:Addr)≠⟨b,2,none⟩:=by intro q;injection q with q;exact hbg q.symm
 have hg3:(⟨g,5,none⟩:Addr)≠⟨b,3,none⟩:=by intro q;injection q with q;exact hbg q.symm
 have hy5:rL g y≠⟨g,5,none⟩:=(Qbn g none y).symm;have q2:=h1.left c2 n23;have q3:=h1.right c3 n23;have q5:=(h1.other hg2 hg3).trans c5;have qy:w1.cell? (rL g y)=some (rP g none):=(h1.other hyb2 hyb3).trans (by rw[Qq1];exact cy);have hf:Qy7 w w' g b y:=by refine⟨⟨h2.right q5 hy5,(h2.other hyb2.symm hg2.symm).trans q2⟩,⟨(h2.other hyb3.symm hg3.symm).trans q3,h2.left qy hy5⟩,fun p p1 p2 p3 p4=>?_⟩;exact (h2.other p4 p1).trans (h1.other p2 p3)
 have N1:∀ d k v,d≠g→Node w d k v→Node w' d k v:=by intro d k v hd hN;refine (hN.two h1 (fun e=>.inl (by cases e;rfl)) (fun e=>.inr (by cases e;rfl))).two h2 (Qo9 hd) (fun e=>absurd e.symm hd)
 have E1:Ends w' g m n:=(h.ends.two h1 (fun e=>absurd e hbg) (fun e=>absurd e hbg)).two h2 (Q0f hyg) (fun _=>.inr rfl);refine⟨rfl,⟨E1,?_,?_,?_⟩,?_,h2.size.trans h1.size⟩
 ·intro p hp
  rcases List.mem_cons.1 hp with rfl|hp
  ·exact N1 _ _ _ hbg hB
  ·exact N1 _ _ _ (h.ne (List.mem_map_of_mem hp)) (h.nodes p hp)
 ·refine Chn.front h.chn hb h.nd ?_
  rw[←hy];exact hf
 ·exact List.nodup_cons.2 ⟨hb,h.nd⟩
 ·refine Fr.trans (h1.fr.weak fun i _ hi=>?_) (h2.fr.weak fun i _ hi=>?_)
  ·rcases hi with rfl|rfl <;> exact .inr (.inl rfl)
  ·rcases hi with rfl|rfl
   ·rcases hyin with e|⟨d,hd,e⟩
    ·rw[e];exact .inl rfl
    ·rw[e];exact .inr (.inr hd)
   ·exact .inl rfl
end
section
structure OutT where
 blk:Option Nat
instance Q8j:Inhabited OutT:=⟨⟨none⟩⟩
section
variable [Inhabited OutT]
def Out.blk:Option Nat:=(default:OutT).blk
def OwnB (w:World) (base:Nat) (v:Value) (l:List UInt8):Prop:=Qz w base v l∧∀ z,Out.blk=some z→v.ownBlock≠some z
variable {w w':World} {base:Nat} {v:Value} {l:List UInt8}
theorem OwnB.same (h:OwnB w base v l) (hs:∀ (k:Nat) (C:Array Value) (fz:Nat×Nat),w.heap[k]?=some (Obj.cells C 5 fz)→w'.heap[k]?=w.heap[k]?):OwnB w' base v l:=⟨h.1.same hs,h.2⟩
theorem OwnB.below (h:OwnB w base v l) (hb:Below w.heap.size w w'):OwnB w' base v l:=⟨h.1.below hb,h.2⟩
theorem OwnB.new (h:Qz w base v l) (hb:∀ z,Out.blk=some z→z<base):OwnB w 0 v l:=by
 refine⟨h.mono (Nat.zero_le _),fun z hz e=>?_⟩;have hlt:=hb z hz;rcases h with ⟨rfl,_⟩|⟨b,off,c,C,fz,rfl,_,h2,_⟩
 ·cases e
 ·simp[Value.ownBlock] at e
  omega
structure CEnt where
 b:Nat
 key:ByteArray
 val:Value
 data:List UInt8
def CEnt.tri (q:CEnt):Nat×ByteArray×Value:=(q.b,q.key,q.val)
def CEnt.kv (q:CEnt):Kv:=(q.key,q.data)
def cfind (qs:List CEnt) (s:ByteArray):Option CEnt:=qs.find? fun q=>decide (q.key=s)
def cget (qs:List CEnt) (s:ByteArray):Option Value:=(cfind qs s).map fun q=>.pointer (some ⟨q.b,0,none⟩)
structure Zx (w:World) (g m:Nat) (c:Cch) (qs:List CEnt):Prop where
 ring:Je w g m c.most (qs.map CEnt.tri)
 items:c.items=qs.map CEnt.kv
 vals:∀ q∈qs,OwnB w 0 q.val q.data
 km:KmAt w 9 m (cget qs) qs.length
 keys:(qs.map (·.key)).Nodup
 small:∀ q∈qs,q.key.size≤maxLen
 fits:qs.length≤c.most
 most:c.most≤maxLen
def Yh (g m:Nat) (qs:List CEnt) (k:Nat):Prop:=k=g∨k=m∨k∈qs.map (·.b)
theorem Qce (qs:List CEnt):(qs.map CEnt.tri).map (·.1)=qs.map (·.b):=by have:=(inferInstance:Inhabited OutT);simp[CEnt.tri]
theorem Qd0 (qs:List CEnt) (s:ByteArray):Z3 (qs.map CEnt.kv) s=(cfind qs s).map (·.data):=by
 have:=(inferInstance:Inhabited OutT)
 unfold Z3 cfind;rw[List.find?_map];simp only[Option.map_map];rfl
variable {qs:List CEnt} {s:ByteArray} {q:CEnt}
theorem Qb9 (h:cfind qs s=some q):q.key=s∧∃ l r,qs=l++q :: r∧∀ x∈l,x.key≠s:=by
 have:=(inferInstance:Inhabited OutT)
 unfold cfind at h;obtain⟨h1,l,r,h2,h3⟩:=List.find?_eq_some_iff_append.1 h;exact⟨by simpa using h1,l,r,h2,fun x hx=>by simpa using h3 x hx⟩
theorem Qgz (h:cfind qs s=none):∀ x∈qs,x.key≠s:=by
 have:=(inferInstance:Inhabited OutT)
 unfold cfind at h;intro x hx
 have:=List.find?_eq_none.1 h x hx
 simpa using this
theorem Qrf (qs:List CEnt) (s:ByteArray):Jb (qs.map CEnt.kv) s=(qs.filter fun q=>!decide (q.key=s)).map CEnt.kv:=by
 have:=(inferInstance:Inhabited OutT)
 unfold Jb;rw[List.filter_map];rfl
theorem Qot {l r:List CEnt} (hq:q.key=s) (hn:((l++q :: r).map (·.key)).Nodup):(l++q :: r).filter (fun x=>!decide (x.key=s))=l++r:=by
 have:=(inferInstance:Inhabited OutT)
 have h1:∀ x∈l++r,(!decide (x.key=s))=true:=by
  intro x hx;have hne:x.key≠s:=by intro e;have hn':((q :: (l++r)).map (·.key)).Nodup:=(List.Perm.nodup_iff (List.Perm.map _ List.perm_middle)).1 hn;rw[List.map_cons,List.nodup_cons] at hn';exact hn'.1 (by rw[hq,←e];exact List.mem_map_of_mem hx)
  simp[hne]
 rw[List.filter_append,List.filter_cons,if_neg (by simp[hq]),←List.filter_append];exact List.filter_eq_self.2 h1
end
end
end Go.Proofs.YtefccfakhgdfbabGreatDoor
