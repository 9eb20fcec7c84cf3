/- The walk of merkle.Entries' closure: the hash of 2^level entries. -/
import Derived.Handy
import Derived.Deep.RegionHeld3
import Derived.Test.YtefccfakhgdfbaaGreatDoorLi08
set_option linter.unusedVariables false
set_option linter.unusedSimpArgs false
open Go.RowKit Go.Proofs.Tryz
set_option maxRecDepth 100000
set_option maxHeartbeats 4000000
namespace Go.Proofs.YtefccfakhgdfbaaGreatDoor
section
section
variable [Inhabited OutT]
theorem Q14:(prog.info? 9).map (fun i=>(i.zero,i.size,i.bytes))=some (some (.string ⟨#[]⟩),1,16):=by have:=(inferInstance:Inhabited OutT);show _=_;kernel_rfl
theorem Qwa (w:World) (q:Qf) (x:Qv) (N:Nat) (s:Cs) (d:Dk) (h:QIs w q x N s d) (key:ByteArray) (a:Option Addr) (n c:Nat) (data:List UInt8) (hv:OwnB w 0 (.slice a n c) data) (hn:ffind x.vs key=none) (hs:key.size≤maxLen) (hlen:x.vs.length<1099511627775) :
  Calls prog 193 #[.pointer (some ⟨q.gq,0,none⟩),.string key,.slice a n c] w fun e w'=>e=.returned (.tuple #[])∧Y7 w q x N d w' (Qg5 key data s):=by
 obtain⟨c0,c1,c2,c3,_,_,c6⟩:=h.heads;obtain⟨i0,z,t,F,r⟩:=info_parts Q14;have HI:=zh (⟨z,t,F,r⟩:_∧_∧_∧_);have aa:q.gq<w.heap.size:=Qc h.look;obtain⟨ao,co,b⟩:=Zi h.ord;rw[b] at c3;have W:fget x.vs key=none:=by unfold fget;rw[hn];rfl
 have H:=zh h;have HV:=zh hv;have V:=zh b;have v:q.gq≠q.mq:=fun e=>by obtain⟨es,c,hb⟩:=Qg8 h.km;rw[←e,h.look] at hb;cases hb
 have l:(x.vs.map (·.key)).length=x.vs.length:=List.length_map _;clear h hv b z t F r
 go_enter func193,ntmps193
 go_upto_region 1 with (first|(at_mapUpdate;refine Qed _ rfl _ _ _ 261 rfl 9 147 underlying9 underlying261 q.mq _ _ rfl H.o.km (by unfold maxLen;omega) key (.slice a n c) rfl hs rfl ?_;intro w1 I E D;have T:=zh I;have p:=zh E;have M:=zh D;clear I E D)|fail)
 have f:=p.o.heap H.o.look v;have B:Q0 w1 0 x.vo (x.vs.map (·.key)):=Q3 H.o.ord p.o fun k hk e=>by obtain⟨es,cc,hb⟩:=Qg8 H.o.km;obtain⟨C,hC⟩:=Qe H.o.ord hk;rw[e] at hC;rw[hb] at hC;cases hC
 obtain⟨ln,i⟩:∃ ln,ln=x.vs.length:=⟨_,rfl⟩
 have b:x.vo=.slice ao ln co:=by rw[i,←l];exact V.o
 have d3:w1.cell? ⟨q.gq,3,none⟩=some (.slice ao ln co):=by rw[←b];exact Qd f 3 rfl
 have dz:w1.frozen? ⟨q.gq,3,none⟩=false:=Qs f 3;have Z:q.gq<w1.heap.size:=Qc f;have A:w1.ownsRow 0 9 1 (.slice ao ln co) ln ((x.vs.map (·.key)).map Value.string):=by
  have:=B
  unfold Q0 at this;rw[l,←i,b] at this;exact this
 have K:ln+1≤1099511627776:=by omega
 have J:∀ k,x.vo.ownBlock=some k→k≠q.gq:=fun k hk e=>by obtain⟨C,hC⟩:=Qe H.o.ord hk;exact Zp hC H.o.look (by decide) e
 have Q:=zh J;have P:=zh A;have U:=zh f;have m:=zh b;have R:=zh i;clear B A f c0 c1 c2 c3 c6 b i J l
 go_wp2_with (at_builtin;refine Yr rfl _ _ _ rfl 0 9 i0 _ 1 16 underlying22 HI.o.1 HI.o.2.1 HI.o.2.2.1 HI.o.2.2.2 rfl (by decide) (by decide) (.slice ao ln co) ln _ rfl (Ql P.o (Qa _ _)) ⟨w1.heap.size,0,none⟩ 1 1 [.string key] rfl rfl (by have:=cell_one_new w1 (.string key) 9;simpa using this) (by simp[Value.oneCell']) (by decide) K (Nat.zero_le _) ?_;intro v' w2 g2 g3 g4 g5;have G2:=zh g2;have G3:=zh (Fr.ofGrown (S:=fun k=>x.vo.ownBlock=some k) g3 fun k _ e=>by rw[m.o];exact e.symm ▸ rfl);have G4:=zh g4;obtain⟨gb,cpb,Y,ab⟩:=Jm g2 g5;have j:=G3.o.heap (Qvn U.o _) (fun e=>Q.o _ e rfl);have e3:=Qd j 3 rfl;have ez:=Qs j 3;have G:=zh j;subst Y;clear g2 g3 g4 g5 j)
 have hF:Fr (Q2r q x) w (w2.setCell ⟨q.gq,3,none⟩ (.slice (some ⟨gb,0,none⟩) (ln+1) cpb)):=
  (((p.o.weak fun _ _ e=>.inr (.inl e)).trans (Fr.ofBelow (Qa w1 (.cells #[.string key] 9)))).trans (G3.o.weak fun _ _ e=>.inr (.inr e))).trans ((Fr.set1 w2 q.gq 3 _).weak fun _ _ e=>.inl e)
 have X:∀ k,x.vo.ownBlock=some k→q.mq≠k:=fun k hk e=>by obtain⟨es,cc,hb⟩:=Qg8 H.o.km;obtain⟨C,hC⟩:=Qe H.o.ord hk;rw[←e,hb] at hC;cases hC
 have L:KmAt (w2.setCell ⟨q.gq,3,none⟩ (.slice (some ⟨gb,0,none⟩) (ln+1) cpb)) 9 q.mq (fun u=>if u=key then some (.slice a n c) else fget x.vs u) (x.vs.length+1):=by have k1:=T.o;rw[W] at k1;exact ((k1.below (Qa w1 (.cells #[.string key] 9)) k1.lt).fr G3.o fun e=>X _ e rfl).fr (Fr.set1 w2 q.gq 3 _) fun e=>v e.symm
 have O:Q0 (w2.setCell ⟨q.gq,3,none⟩ (.slice (some ⟨gb,0,none⟩) (ln+1) cpb)) 0 (.slice (some ⟨gb,0,none⟩) (ln+1) cpb) (x.vs.map (·.key) ++ [key]):=by
  have g:=G2.o;have hg:gb≠q.gq:=fun e=>by obtain⟨C,hC⟩:=Qe g (k:=gb) rfl;exact Zp hC G.o (by decide) e
  have g':=Q3 g (Fr.set1 w2 q.gq 3 (.slice (some ⟨gb,0,none⟩) (ln+1) cpb)) fun k hk e=>hg (by simp[Value.ownBlock] at hk;exact hk.trans e)
  unfold Q0;rw[List.length_append,List.length_singleton,List.length_map,←R.o,List.map_append];exact g'
 have hq:=H.o.lookStep hF (y:=⟨key,.slice a n c,data⟩) ((heap_setCell G.o _).trans (by simp[Qty])) L O (Qdr HV.o hF H.o.kindsLook (by decide)) hn hs;refine bodyPost_end (results_none rfl _ _ _) rfl ⟨rfl,_,hq,hF.weak fun _ _ e=>.inl e,?_⟩;intro k hk;rcases hk with (e|e|e)|e|e
 ·exact .inl (.inl (.inl e))
 ·exact .inl (.inl (.inr (.inl e)))
 ·rcases G4.o k e with e|e
  ·exact .inl (.inl (.inr (.inr (by rw[m.o];exact e))))
  ·have hz:w.heap.size=w1.heap.size:=M.o.symm
   exact .inr (by rw[hz];exact Nat.le_trans (Nat.le_succ _) (by simpa using e))
 ·exact .inl (.inr (.inl e))
 ·exact .inl (.inr (.inr e))
end
end
section
section
variable [Inhabited OutT]
theorem Qub (n:Nat) (v:Value) (w:World):(Go.method (n+1) 48 v "Fetch").run prog w=.ok (298,v) w:=by have:=(inferInstance:Inhabited OutT);show _=_;kernel_rfl
theorem cfetch0 (w:World) (gc g gd:Nat) (vl vt v:Value) (n:Nt) (d:Dk) (p:ByteArray) (h2:w.cell? ⟨gc,2,none⟩=some (.iface 48 (.pointer (some ⟨g,0,none⟩)))) (h:Y1 w g gd vl vt n) (hd:Q1 w gd v d) (hf:d.files=n.files) (hc:n.fetches<1152921504606846976) :
  Calls prog 136 #[.pointer (some ⟨gc,0,none⟩),.string p] w (Qnr w g gd vl vt n p):=by
 have HF:=zh (Q1y w g gd vl vt v n d p h hd hf hc);clear h hd hf;have hm:=fun n W=>Qub n (.pointer (some ⟨g,0,none⟩)) W
 go_enter func136,ntmps136
 go_wp2_with (go_at_call 298;refine HF.o.mono ?_;intro e w1 h1;obtain⟨c,a,u,y,rfl,b⟩:=h1;have i:=zh c;have j:=zh a;have f:=zh b;clear c a b)
 go_ret2;exact⟨i.o,j.o,_,_,rfl,f.o⟩
def Qff (w:World) (q:Qf) (x:Qv) (N:Nat) (s:Cs) (d:Dk) (p:ByteArray) (e:Ending) (w':World):Prop:=
 (QIs w' q x N (Zt p s) d∧Fr (netS q.gn q.vt) w w')∧∃ u y,e=.returned (.tuple #[u,y])∧((∃ data,Q6 s.net p=some data∧y=.nilIface∧Qy w' w.heap.size u data∧∃ a k c,u=.slice a k c)∨(Q6 s.net p=none∧(∃ t,y=.iface 218 (.pointer (some t)))∧∃ a k c,u=.slice a k c))
theorem Qyc (w:World) (q:Qf) (x:Qv) (N:Nat) (s:Cs) (d:Dk) (h:QIs w q x N s d) (p:ByteArray) (hc:s.net.fetches<1152921504606846976) :
  Calls prog 136 #[.pointer (some ⟨q.gc,0,none⟩),.string p] w (Qff w q x N s d p):=
 (cfetch0 w q.gc q.gn q.gd q.vl q.vt q.v s.net d p h.heads.2.2.2.2.1 h.net h.disk h.dfiles hc).mono fun e w' hp=>by
  obtain⟨h1,h2,h3⟩:=hp
  exact⟨⟨h.netStep h1 h2 (Yj s.net p).2.1,h2⟩,h3⟩
end
end
section
section
variable [Inhabited OutT]
structure Rnd (fits:Qjz) (level:Int) (index w:Nat) (s:Cs) (kk:Nat) (sk:Cs) (nm:ByteArray) (wd:Nat):Prop where
 name:nm=Qq level index wd
 wide:w≤wd∧wd≤4
 fit:∀ b,tryQ fits nm wd w sk=some b→Qb9 fits level index w s=(.ok b,Qg5 (Qq level index w) b (Zt nm sk))
 last:tryQ fits nm wd w sk=none→w=4∨kk=1→Qb9 fits level index w s=(.error (.miss (Qq level index w)),Zt nm sk)
theorem rnd0 (fits:Qjz) (level:Int) (index w:Nat) (s:Cs) (hw:w≤4):Rnd fits level index w s 0 s (Qq level index w) w:=have:=(inferInstance:Inhabited OutT);⟨rfl,⟨Nat.le_refl _,hw⟩,fun b hb=>by unfold Qb9;rw[hb],fun hn h=>by
  unfold Qb9
  rw[hn]
  dsimp only
  rw[if_pos (by omega)]⟩
variable {fits:Qjz} {level:Int} {index wd:Nat} {s:Cs} {nm:ByteArray}
theorem rnd1 {w:Nat} (h:nm=Qq level index w) (hwd:wd=w) (hn:tryQ fits nm wd w s=none) (h4:w≠4) (hw:w≤4):Rnd fits level index w s 1 (Zt nm s) (Qq level index 4) 4:=by
 have:=(inferInstance:Inhabited OutT)
 subst h hwd;refine⟨rfl,⟨hw,Nat.le_refl _⟩,fun b hb=>?_,fun hm _=>?_⟩
 ·unfold Qb9
  rw[hn];dsimp only;rw[if_neg h4,hb]
 ·unfold Qb9
  rw[hn];dsimp only;rw[if_neg h4,hm]
def Y8 (f:Nat→Addr) (w:World) (base:Nat) (p:ByteArray) (u:Value):Prop:=Q28 w base p (.iface 370 (.pointer (some (f 5)))) u
def Qit (f:Nat→Addr) (w:World) (q:Qf) (x:Qv) (N:Nat) (d:Dk) (r:Except QErr (List UInt8)×Cs) (e:Ending) (w':World):Prop:=
 Y7 w q x N d w' r.2∧((∃ b a n c,r.1=.ok b∧e=.returned (.tuple #[.slice a n c,.nilIface])∧Qy w' 0 (.slice a n c) b)∨∃ p u,r.1=.error (.miss p)∧e=.returned (.tuple #[.slice none 0 0,u])∧Y8 f w' w.heap.size p u)
def Qa6 (n:Nt):Prop:=(∀ x∈n.files,x.2.size≤1099511627776)∧∀ l∈n.lies,l.data.size≤1099511627776
variable {n:Nt} {p:ByteArray} {data:List UInt8}
theorem Qhq (h:Qa6 n) (hd:Q6 n p=some data):data.length≤1099511627776:=by
 have:=(inferInstance:Inhabited OutT)
 unfold Q6 at hd;cases hl:Qcd n p with
 | none=>
  rw[hl] at hd;obtain⟨b,hb,rfl⟩:=Option.map_eq_some_iff.1 hd
  have:=h.1 _ (Qai hb)
  simpa using this
 | some i=>
  rw[hl] at hd;dsimp only at hd;cases hx:n.lies[i]? with
  | none=>rw[hx] at hd;cases hd
  | some x=>
   rw[hx,Option.bind_some] at hd
   split at hd
   ·cases hd
   ·have:=h.2 x (List.mem_of_getElem? hx)
    rw[←Option.some.inj hd];simpa using this
theorem Qhb (h:Qa6 n) (q:ByteArray):Qa6 (Zy n q):=by
 have:=(inferInstance:Inhabited OutT)
 unfold Qa6;rw[(Yj n q).1,(Yj n q).2.1];exact h
theorem Q13 (l:Int) (i w:Nat) (hi:i<9223372036854775808):(Qq l i w).size≤maxLen:=by
 have:=(inferInstance:Inhabited OutT)
 unfold Qq;rw[Qb0];unfold Y4
 split
 ·rename_i h
  unfold Jl at h;unfold Qa1;have h1:=Jt (n:=l.toNat) (by omega);have h2:=Jt (n:=(i:Int).toNat) (by omega);have h3:=Jt (n:=(w:Int).toNat) (by omega);unfold maxLen;simp only[List.length_append]
  split <;> split <;> simp only[List.length_append,List.length_cons,List.length_nil,kT,kE,kP] <;> omega
 ·exact Nat.zero_le _
variable {w:World} {q:Qf} {x:Qv} {N:Nat} {d:Dk}
theorem Q9h (h:QIs w q x N s d) {y:FEnt} (hy:y∈x.vs):∃ a n c,y.val=.slice a n c:=Qgm (h.vals y hy).1
variable {g m:Nat} {c:Cch} {qs:List CEnt}
theorem Q9m (h:Z3 w g m c qs) {y:CEnt} (hy:y∈qs):∃ a n c,y.val=.slice a n c:=Qgm (h.vals y hy).1
variable {count:Nat} {b:List UInt8}
theorem Qrv (h:Qaf s.files (Qq level index (Zc index count))=some b):J3 fits level index count s=(.ok b,s):=by have:=(inferInstance:Inhabited OutT);unfold J3;rw[h]
theorem Qux (h:Qaf s.files (Qq level index (Zc index count))=none) (h2:Qaf s.cache.items (Qq level index (Zc index count))=some b):J3 fits level index count s=(.ok b,Qg5 (Qq level index (Zc index count)) b { s with cache:=Ju s.cache (Qq level index (Zc index count)) }):=by have:=(inferInstance:Inhabited OutT);unfold J3;rw[h];dsimp only;rw[h2]
theorem Qup (h:Qaf s.files (Qq level index (Zc index count))=none) (h2:Qaf s.cache.items (Qq level index (Zc index count))=none):J3 fits level index count s=Qb9 fits level index (Zc index count) s:=by have:=(inferInstance:Inhabited OutT);unfold J3;rw[h];dsimp only;rw[h2]
variable {k:ByteArray} {e:Ending} {w':World}
theorem Q41 {z:CEnt} (hf:cfind qs k=some z) (h:Ql6 w g m c qs k e w') :
  e=.returned (.tuple #[z.val,.bool true])∧∃ qs',Z3 w' g m (Ju c k) qs'∧Fr (Yl g m qs) w w'∧w'.heap.size=w.heap.size∧(∀ i,Yl g m qs' i↔Yl g m qs i)∧OwnB w' 0 z.val z.data:=by
 rcases h with ⟨h,_⟩|⟨z',qs',h1,h2,h3,h4,h5,h6,h7⟩
 ·rw[hf] at h;cases h
 ·rw[hf] at h1
  cases h1;exact⟨h2,qs',h3,h5,h6,h7,h3.vals z h4⟩
theorem Q0s (hf:cfind qs k=none) (h:Ql6 w g m c qs k e w'):e=.returned (.tuple #[.slice none 0 0,.bool false])∧w'=w:=by
 rcases h with ⟨_,h1,h2⟩|⟨z',qs',h1,_⟩
 ·exact⟨h1,h2⟩
 ·rw[hf] at h1;cases h1
theorem Qy8 (h:QIs w q x N s d):Qei w (QS q x):=fun k C fz hk hs=>by
 rcases hs with hs|hs|hs
 ·exact Yk h.kindsLook hk (by decide) hs
 ·exact Yk (Qbl h.cache) hk (by decide) hs
 ·exact Yk (Qdu h.net) hk (by decide) hs
theorem Qqd {w w':World} {q:Qf} {x:Qv} {N:Nat} {s:Cs} {d:Dk} {base:Nat} {v:Value} {l:List UInt8} (hb:Qy w base v l) (hf:Fr (QS q x) w w') (h:QIs w q x N s d):Qy w' base v l:=
 hb.same fun k C fz hk=>hf.block k (Qc hk) (Qy8 h k C fz hk)
theorem Qzz (hf:Q6 s.net p=none) (h:Qff w q x N s d p e w') :
  QIs w' q x N (Zt p s) d∧Fr (netS q.gn q.vt) w w'∧∃ a n c t,e=.returned (.tuple #[.slice a n c,.iface 218 (.pointer (some t))]):=by
 obtain⟨⟨h1,h2⟩,u,y,rfl,⟨data,h3,_⟩|⟨_,⟨t,rfl⟩,a,n,c,rfl⟩⟩:=h
 ·rw[hf] at h3;cases h3
 ·exact⟨h1,h2,a,n,c,t,rfl⟩
theorem Qt7 (hf:Q6 s.net p=some data) (h:Qff w q x N s d p e w') :
  QIs w' q x N (Zt p s) d∧Fr (netS q.gn q.vt) w w'∧∃ a n c,∃ _:Qy w' w.heap.size (.slice a n c) data,e=.returned (.tuple #[.slice a n c,.nilIface]):=by
 obtain⟨⟨h1,h2⟩,u,y,rfl,⟨data',h3,rfl,h4,a,n,c,rfl⟩|⟨h3,_⟩⟩:=h
 ·rw[hf] at h3
  cases h3;exact⟨h1,h2,a,n,c,h4,rfl⟩
 ·rw[hf] at h3;cases h3
variable {o:Option (List UInt8)}
theorem Q7a (ho:o=none) (h:Qlr o w e w'):Below w.heap.size w w'∧∃ a n c,e=.returned (.tuple #[.slice a n c,.bool false]):=by
 have:=(inferInstance:Inhabited OutT)
 obtain⟨h1,⟨_,a,n,c,h2⟩|⟨b,a,n,c,h2,_⟩⟩:=h
 ·exact⟨h1,a,n,c,h2⟩
 ·rw[ho] at h2;cases h2
theorem Q7t (ho:o=some b) (h:Qlr o w e w'):Below w.heap.size w w'∧∃ a n c,∃ _:Qy w' w.heap.size (.slice a n c) b,e=.returned (.tuple #[.slice a n c,.bool true]):=by
 have:=(inferInstance:Inhabited OutT)
 obtain⟨h1,⟨h2,_⟩|⟨b',a,n,c,h2,h3,h4⟩⟩:=h
 ·rw[ho] at h2;cases h2
 ·rw[ho] at h2
  cases h2;exact⟨h1,a,n,c,h4,h3⟩
theorem Qs2 {w1:Nat} {kk gg:Nat} {sk:Cs} {t0:ByteArray} {wb w5:World} {s63:Value} (hR:Rnd fits level index w1 s kk sk nm wd) (hQ:QIs w5 q x N (Zt nm sk) d) (hn:Qa6 sk.net) (hfe:sk.net.fetches≤s.net.fetches+kk) (hwd:wd=(if kk=0 then w1 else 4)) (hs0:kk=0→sk=s) (ht0:t0=Qq level index w1)
  (hty:tryQ fits nm wd w1 sk=none) (h4:¬ w1=4) (hw:w1≤4) (hk:kk<2) (hF:Fr (netS q.gn q.vt) wb w5) (hg:2-(kk+1)≤gg) (hs:s63=.int .i64 ((kk+1:Nat):Int)) :
  ∃ kk:Nat,kk≤2∧2-kk≤gg∧s63=.int .i64 kk∧Aside (Fr (netS q.gn q.vt) wb w5)∧Aside ((∃ sk nm wd,kk<2∧Rnd fits level index w1 s kk sk nm wd∧QIs w5 q x N sk d∧sk.net.fetches≤s.net.fetches+kk∧Qa6 sk.net∧wd=(if kk=0 then w1 else 4)∧(kk=0→sk=s))∨(kk=2∧∃ sk,Qb9 fits level index w1 s=(.error (.miss t0),sk)∧QIs w5 q x N sk d)):=by
 refine⟨kk+1,by omega,hg,hs,hF,?_⟩;rcases Nat.lt_or_ge kk 1 with h0|h0
 ·obtain rfl:kk=0:=by omega
  obtain rfl:=hs0 rfl;refine .inl ⟨Zt nm sk,Qq level index 4,4,by omega,rnd1 (by rw[hR.name,hwd,if_pos rfl]) (by rw[hwd,if_pos rfl]) hty h4 hw,hQ,?_,Qhb hn nm,by rw[if_neg (by decide)],fun h=>by cases h⟩;show (Zy sk.net nm).fetches≤_;rw[(Yj sk.net nm).2.2];omega
 ·obtain rfl:kk=1:=by omega
  exact .inr ⟨rfl,Zt nm sk,by rw[ht0];exact hR.last hty (.inr rfl),hQ⟩
theorem Qw5 (fits:Qjz) (g:Nat) (hen:∀ args w,(callFunc g args).run prog w=.ok (.enter g args) w) (hfitl:∀ (W:World) (v:Value) (data:List UInt8) (wd w1:Nat),Q8 W v data→data.length≤1099511627776→1≤w1→w1≤wd→wd≤4→Calls prog g #[v,.int .i64 wd,.int .i64 w1] W (Qlr (fits data wd w1) W)) (f:Nat→Addr) (w:World) (q:Qf) (x:Qv) (N:Nat) (s:Cs) (d:Dk) (h:QIs w q x N s d) (hE:EnvS f (QS q x) w) (level:Int) (index count:Nat) (hi:4*index<count) (hc:count<9223372036854775808) (hft:s.net.fetches<1152921504606846000) (hlen:x.vs.length<1099511627775) (hsm:Qa6 s.net) :
  Calls prog 146 #[.pointer (some ⟨q.gq,0,none⟩),.int .i64 level,.int .i64 index,.int .i64 count,.func (.func g) #[] #[]] w (Qit f w q x N d (J3 fits level index count s)):=by
 obtain⟨w1,ac⟩:∃ w1,w1=Zc index count:=⟨_,rfl⟩
 have a:1≤w1∧w1≤4:=by unfold Zc at ac;omega
 obtain⟨t0,ad⟩:∃ t0,t0=Qq level index w1:=⟨_,rfl⟩
 have Z:=Qtu level index count w hi hc hE.num;rw[show min 4 (count-4*index)=w1 from ac.symm] at Z;have e0:sOf (Y4 level (index:Int) ((w1:Nat):Int))=t0:=ad.symm;rw[e0] at Z;have m:t0.size≤maxLen:=by rw[ad];exact Q13 level index w1 (by omega)
 have V:=zh hfitl;have aq:=zh Z;have L:=zh ac;have j:=zh ad;have H:=zh h;have HE:=zh hE;have cb:q.gq<w.heap.size:=Qc h.look;clear hfitl Z ac e0 h hE ad;obtain⟨k0,k1,k2,k3,k4,k5,k6⟩:=H.o.heads;cases hff:ffind x.vs t0 with
 | some y=>
  obtain⟨am,b0⟩:=Qsh hff;obtain⟨ya,yn,yc,O⟩:=Q9h H.o am;have af:fget x.vs t0=some (.slice ya yn yc):=by unfold fget;rw[hff,←O];rfl
  have hq:J3 fits level index count s=(.ok y.data,s):=Qrv (by rw[←L.o,←j.o,H.o.files,Qxe,hff];rfl);have ar:=(H.o.vals y am).1;rw[O] at ar;have HQ:=zh hq;have b1:=zh ar;clear hq ar O am b0 hff
  go_enter func146,ntmps146
  go_wp2_with (first|(go_at_call 191;refine aq.o.mono ?_;rintro e w2 ⟨rfl,i⟩;have H2:=zh (H.o.below i);have B:=zh i;obtain⟨j0,j1,j2,j3,j4,j5,j6⟩:=H2.o.heads;clear i)|(at_lookup;refine Jn _ rfl _ _ 261 rfl 9 147 underlying9 underlying261 (z:=.slice none 0 0) rfl q.mq x.vs.length (fget x.vs) rfl H2.o.km t0 rfl m ?_;rw[af];simp only[Option.getD,Option.isSome])|fail)
  go_ret2;rw[HQ.o];exact⟨(Y7.here H.o).below B.o,.inl ⟨_,_,_,_,rfl,rfl,b1.o.same fun k C fz hk=>B.o.block k (Qc hk)⟩⟩
 | none=>
  have af:fget x.vs t0=none:=by unfold fget;rw[hff];rfl
  have P:Qaf s.files (Qq level index (Zc index count))=none:=by rw[←L.o,←j.o,H.o.files,Qxe,hff];rfl
  have bh:=zh hff;cases hcf:cfind x.qs t0 with
  | some z=>
   obtain⟨b6,lz,rz,bb,_⟩:=Qdm hcf;have bl:z∈x.qs:=by rw[bb];simp
   obtain⟨ya,yn,yc,O⟩:=Q9m H.o.cache bl;have hq:J3 fits level index count s=(.ok z.data,Qg5 t0 z.data { s with cache:=Ju s.cache t0 }):=by
    have:=Qux (fits:=fits) P (b:=z.data) (by rw[←L.o,←j.o,H.o.cache.items,Qgp,hcf];rfl)
    rw[←L.o,←j.o] at this;exact this
   have HQ:=zh hq;have bz:=zh O;have an:=zh hcf;clear hq O b6 bb bl P hff hcf
   go_enter func146,ntmps146
   go_wp2_with (first|(go_at_call 191;refine aq.o.mono ?_;rintro e w2 ⟨rfl,i⟩;have H2:=zh (H.o.below i);have B:=zh i;obtain⟨j0,j1,j2,j3,j4,j5,j6⟩:=H2.o.heads;clear i)|(at_lookup;refine Jn _ rfl _ _ 261 rfl 9 147 underlying9 underlying261 (z:=.slice none 0 0) rfl q.mq x.vs.length (fget x.vs) rfl H2.o.km t0 rfl m ?_;rw[af];simp only[Option.getD,Option.isSome])|(go_at_call 192;refine (Qwk _ q.gk q.mc s.cache x.qs t0 H2.o.cache m).mono ?_;intro e w3 h3;have bi:=Q41 an.o h3;rw[bz.o] at bi;obtain⟨rfl,qs',bm,ak,av,ah,bg⟩:=bi;have a4:=H2.o.cacheStep bm ak;have H3:=zh a4;have bu:=zh ak;have b9:=zh av;have b3:=zh ah;have bk:=zh bg;clear h3 bm ak av ah bg a4)|(go_at_call 193;refine (Qwa _ q _ N _ d H3.o t0 ya yn yc z.data bk.o bh.o m hlen).mono ?_;rintro e w4 ⟨rfl,bp⟩;have bw:=zh bp;clear bp)|fail)
   go_ret2;rw[HQ.o];have I:=bw.o;obtain⟨x4,h4,bd,b4⟩:=I;refine⟨Y7.trans ((Fr.ofBelow B.o).trans (bu.o.weak fun _ _ e=>.inr (.inl e))) ?_ ⟨x4,h4,bd,b4⟩,.inl ⟨_,_,_,_,rfl,rfl,?_⟩⟩
   ·intro k hk
    rcases hk with e|e|e
    ·exact .inl (.inl e)
    ·exact .inl (.inr (.inl ((b3.o k).1 e)))
    ·exact .inl (.inr (.inr e))
   ·exact Qqd bk.o.1 bd H3.o
  | none=>
   have hq:J3 fits level index count s=Qb9 fits level index w1 s:=by
    have:=Qup (fits:=fits) P (by rw[←L.o,←j.o,H.o.cache.items,Qgp,hcf];rfl)
    rw[←L.o] at this;exact this
   have HQ:=zh hq;have an:=zh hcf;have b2:=zh hsm;clear hq P hff hcf hsm
   go_enter func146,ntmps146
   go_upto_region 9 with (first|(go_at_call 191;refine aq.o.mono ?_;rintro e w2 ⟨rfl,i⟩;have H2:=zh (H.o.below i);have B:=zh i;obtain⟨j0,j1,j2,j3,j4,j5,j6⟩:=H2.o.heads;clear i)|(at_lookup;refine Jn _ rfl _ _ 261 rfl 9 147 underlying9 underlying261 (z:=.slice none 0 0) rfl q.mq x.vs.length (fget x.vs) rfl H2.o.km t0 rfl m ?_;rw[af];simp only[Option.getD,Option.isSome])|(go_at_call 192;refine (Qwk _ q.gk q.mc s.cache x.qs t0 H2.o.cache m).mono ?_;intro e w3 h3;obtain⟨rfl,rfl⟩:=Q0s an.o h3;clear h3)|fail)
   go_wp2;obtain⟨wb,a⟩:∃ wb,wb=w3.alloc (.cells #[.int .i64 w1,.int .i64 4] 3):=⟨_,rfl⟩
   rw[←a];have aj:Below w.heap.size w wb:=by rw[a];exact B.o.trans ((Qa w3 _).mono B.o.size)
   have a7:wb.heap[w3.heap.size]?=some (.cells #[.int .i64 w1,.int .i64 4] 3 (0,0)):=by rw[a];exact heap_alloc_new w3 _
   have az:QIs wb q x N s d:=H.o.below aj;have a0:¬ netS q.gn q.vt w3.heap.size:=fun e=>by
    have hz:=B.o.size;rcases e with e|e
    ·have:=H.o.net.lt;omega
    ·obtain⟨C,hC⟩:=Qe H.o.net.told e
     have:=Qc hC;omega
   have E:=zh aj;have ax:=zh a7;have bx:=zh a0;have br:=zh az;clear a aj a7 az a0 j0 j1 j2 j3 j4 j5 j6 k0 k1 k2 k3 k4 k5 k6
   go_loopg [63] 2 (fun gg s63 wr=>∃ kk:Nat,kk≤2∧2-kk≤gg∧s63=.int .i64 kk∧Aside (Fr (netS q.gn q.vt) wb wr)∧Aside ((∃ sk nm wd,kk<2∧Rnd fits level index w1 s kk sk nm wd∧QIs wr q x N sk d∧sk.net.fetches≤s.net.fetches+kk∧Qa6 sk.net∧wd=(if kk=0 then w1 else 4)∧(kk=0→sk=s))∨(kk=2∧∃ sk,Qb9 fits level index w1 s=(.error (.miss t0),sk)∧QIs wr q x N sk d)))
   case atStart=>exact⟨0,by omega,by omega,rfl,Fr.refl _ _,.inl ⟨s,Qq level index w1,w1,by omega,rnd0 _ _ _ _ _ a.2,br.o,Nat.le_refl _,b2.o,rfl,fun _=>rfl⟩⟩
   case round=>
    obtain⟨kk,cc,hg,rfl,c,HR⟩:=hrel;have ab:=zh ((HE.o.below E.o).fr (c.o.weak fun _ _ e=>.inr (.inr e)));obtain⟨_,_,_,_,_,g5,_⟩:=ab.o.sents.cells;rcases HR.o with ⟨sk,nm,wd,ay,hR,hQ,bo,a1,ae,bn⟩|⟨ay,sk,M,hQ⟩
    ·have b7:wr.cell? ⟨w3.heap.size,kk,none⟩=some (.int .i64 wd):=by
      refine c.o.cell (p:=⟨w3.heap.size,kk,none⟩) ?_ bx.o;rcases Nat.lt_or_ge kk 1 with h0|h0
      ·obtain rfl:kk=0:=by omega
       rw[ae,if_pos rfl];exact Qd ax.o 0 rfl
      ·obtain rfl:kk=1:=by omega
       rw[ae,if_neg (by decide)];exact Qd ax.o 1 rfl
     have ca:(kk:Int)<2:=by omega
     have cd:(0:Int)≤(kk:Int):=by omega
     have A:=hR.wide;have c0:=hQ.heads.1;have Y:wr.drew.cell? ⟨q.gq,0,none⟩=some (.pointer (some ⟨q.gc,0,none⟩)):=c0;have bc:q.gq<wr.heap.size:=Qk c0;have bj:=hR.name;have ag:∀ W,Below wr.heap.size wr W→Calls prog 156 #[.int .i64 level,.int .i64 index,.int .i64 wd] W fun e w'=>e=.returned (.string nm)∧Below W.heap.size W w':=fun W hW=>by rw[bj];exact Qny level index wd W (by omega) ((ab.o.below hW).num)
     have ao:∀ W,Below wr.heap.size wr W→Calls prog 136 #[.pointer (some ⟨q.gc,0,none⟩),.string nm] W (Qff W q x N sk d nm):=fun W hW=>Qyc W q x N sk d (hQ.below hW) nm (by omega)
     have X:=zh ag;have ap:=zh ao;have U:=zh hR;have F:=zh a1;have a8:=zh bo;have a9:=zh ae;have a2:=zh bn;have b8:=zh hQ;clear HR hR a1 bo ae bn hQ bj ag ao
     go_upto_region 12 with fail
     cases hfa:Q6 sk.net nm with
     | none=>
      have n:=zh hfa;clear hfa
      go_region_held3 (fun w'=>w'.cell? ⟨q.gq,0,none⟩=some (.pointer (some ⟨q.gc,0,none⟩))) (first|(with_reducible first|exact c0|exact Y|exact m0|exact n0)|exact Y|fail) (first|(go_at_call 156;refine (X.o _ (Qn wr)).mono ?_;rintro e w4 ⟨rfl,I⟩;have G:=zh (show Below wr.heap.size wr w4 from (Qn wr).trans I);have m0:=(G.o.cell (p:=⟨q.gq,0,none⟩) bc).trans c0;clear I)|(go_at_call 136;refine (ap.o w4 G.o).mono ?_;intro e w5 h5;obtain⟨K,S,au⟩:=Qzz n.o h5;have J:=zh K;have l:=zh ((Fr.ofBelow G.o).trans S);have n0:=K.heads.1;obtain⟨a5,n5,c5,q5,rfl⟩:=au;clear h5 K S)|fail)
      all_goals (
       have D:tryQ fits nm wd w1 sk=none:=by unfold tryQ;rw[n.o];rfl
       have T:=zh D
       clear D
       by_cases h4:w1=4
       ·have ai:(w1:Int)=4:=by omega
        have u:=zh (U.o.last T.o (.inl h4))
        rw[←j.o] at u
        have R:=zh J.o
        obtain⟨_,_,_,_,_,g5,_⟩:=(ab.o.fr (l.o.weak fun _ _ e=>.inr (.inr e))).sents.cells
        clear h4
        have aw:w5.drew.cell? ⟨6,0,none⟩=some (.iface 370 (.pointer (some (f 5)))):=g5
        go_wp2_with fail
        go_region
        all_goals (
         go_wp2
         go_ret2
         have Q:Below w5.heap.size w5 (w5.alloc (.cells #[.string t0,.iface 370 (.pointer (some (f 5)))] 221)).drew:=(Qa w5 _).drew
         rw[HQ.o,u.o]
         exact⟨(Y7.trans ((Fr.ofBelow E.o).trans ((c.o.trans l.o).weak fun _ _ e=>.inr (.inr e))) (Sub.refl _ _) (Y7.here R.o)).below Q,.inr ⟨t0,_,rfl,rfl,w5.heap.size,rfl,Nat.le_trans E.o.size (c.o.trans l.o).size,heap_alloc_new w5 _⟩⟩)
       ·have ai:¬ (w1:Int)=4:=by omega
        have H4:=zh h4
        clear h4
        go_wp2
        go_roundg (2-(kk+1))
        case measure=>omega
        case rel=>exact Qs2 U.o J.o F.o a8.o a9.o a2.o j.o T.o H4.o a.2 (by omega) (c.o.trans l.o) (Nat.le_refl _) (by go_num))
     | some data=>
      have n:=zh hfa;clear hfa
      go_region_held3 (fun w'=>w'.cell? ⟨q.gq,0,none⟩=some (.pointer (some ⟨q.gc,0,none⟩))) (first|(with_reducible first|exact c0|exact Y|exact m0|exact n0)|exact Y|fail) (first|(go_at_call 156;refine (X.o _ (Qn wr)).mono ?_;rintro e w4 ⟨rfl,I⟩;have G:=zh (show Below wr.heap.size wr w4 from (Qn wr).trans I);have m0:=(G.o.cell (p:=⟨q.gq,0,none⟩) bc).trans c0;clear I)|(go_at_call 136;refine (ap.o w4 G.o).mono ?_;intro e w5 h5;obtain⟨K,S,au⟩:=Qt7 n.o h5;have J:=zh K;have l:=zh ((Fr.ofBelow G.o).trans S);have n0:=K.heads.1;obtain⟨a5,n5,c5,q5,rfl⟩:=au;clear h5 K S)|fail)
      all_goals (
       have al:=zh q5
       clear q5
       cases hfv:fits data wd w1 with
       | none=>
        have D:tryQ fits nm wd w1 sk=none:=by unfold tryQ;rw[n.o];exact hfv
        have T:=zh D
        have aa:=zh hfv
        clear D hfv
        by_cases h4:w1=4
        ·have u:=zh (U.o.last T.o (.inl h4))
         rw[←j.o] at u
         have H4:=zh h4
         clear h4
         go_upto_region 15 with (first|(refine (V.o _ _ data wd w1 al.o.at (Qhq F.o n.o) a.1 A.1 A.2).mono ?_;intro e w6 h6;obtain⟨t,a6,n6,c6,rfl⟩:=Q7a aa.o h6;have r:=zh t;clear h6 t)|fail)
         have R:=zh (J.o.below r.o)
         have ai:(w1:Int)=4:=by have:=H4.o;omega
         obtain⟨_,_,_,_,_,g5,_⟩:=((ab.o.fr (l.o.weak fun _ _ e=>.inr (.inr e))).below r.o).sents.cells
         have aw:w6.drew.cell? ⟨6,0,none⟩=some (.iface 370 (.pointer (some (f 5)))):=g5
         go_wp2_with fail
         go_region
         all_goals (
          go_wp2
          go_ret2
          have Q:Below w6.heap.size w6 (w6.alloc (.cells #[.string t0,.iface 370 (.pointer (some (f 5)))] 221)).drew:=(Qa w6 _).drew
          rw[HQ.o,u.o]
          exact⟨(Y7.trans ((Fr.ofBelow E.o).trans (((c.o.trans l.o).trans (Fr.ofBelow r.o)).weak fun _ _ e=>.inr (.inr e))) (Sub.refl _ _) (Y7.here R.o)).below Q,.inr ⟨t0,_,rfl,rfl,w6.heap.size,rfl,Nat.le_trans E.o.size ((c.o.trans l.o).trans (Fr.ofBelow r.o)).size,heap_alloc_new w6 _⟩⟩)
        ·have ai:¬ (w1:Int)=4:=by omega
         have H4:=zh h4
         clear h4
         go_wp2_with (first|(refine (V.o _ _ data wd w1 al.o.at (Qhq F.o n.o) a.1 A.1 A.2).mono ?_;intro e w6 h6;obtain⟨t,a6,n6,c6,rfl⟩:=Q7a aa.o h6;have r:=zh t;clear h6 t)|fail)
         go_roundg (2-(kk+1))
         case measure=>omega
         case rel=>exact Qs2 U.o (J.o.below r.o) F.o a8.o a9.o a2.o j.o T.o H4.o a.2 (by omega) ((c.o.trans l.o).trans (Fr.ofBelow r.o)) (Nat.le_refl _) (by go_num)
       | some b=>
        have D:tryQ fits nm wd w1 sk=some b:=by unfold tryQ;rw[n.o];exact hfv
        have M:=U.o.fit b D
        rw[←j.o] at M
        have u:=zh M
        have aa:=zh hfv
        clear D hfv M
        go_wp2_with (first|(refine (V.o _ _ data wd w1 al.o.at (Qhq F.o n.o) a.1 A.1 A.2).mono ?_;intro e w6 h6;obtain⟨t,a6,n6,c6,bq,rfl⟩:=Q7t aa.o h6;have r:=zh t;have a3:=zh bq;have ba:=zh (J.o.below t);clear h6 t bq)|(go_at_call 193;refine (Qwa _ q x N _ d ba.o t0 a6 n6 c6 b (OwnB.new a3.o J.o.o) bh.o m hlen).mono ?_;rintro e w7 ⟨rfl,be⟩;have bt:=zh be;clear be)|fail)
        go_ret2
        rw[HQ.o,u.o]
        obtain⟨x7,h7,bf,b5⟩:=bt.o
        exact⟨Y7.trans ((Fr.ofBelow E.o).trans (((c.o.trans l.o).trans (Fr.ofBelow r.o)).weak fun _ _ e=>.inr (.inr e))) (Sub.refl _ _) ⟨x7,h7,bf,b5⟩,.inl ⟨_,_,_,_,rfl,rfl,Qqd (a3.o.mono (Nat.zero_le _)) bf ba.o⟩⟩)
    ·subst ay
     have R:=zh hQ;have u:=zh M;clear hQ M HR;have aw:wr.drew.cell? ⟨6,0,none⟩=some (.iface 370 (.pointer (some (f 5)))):=g5
     go_wp2_with fail
     go_region
     all_goals (
      go_wp2
      go_ret2
      have Q:Below wr.heap.size wr (wr.alloc (.cells #[.string t0,.iface 370 (.pointer (some (f 5)))] 221)).drew:=(Qa wr _).drew
      rw[HQ.o,u.o]
      exact⟨(Y7.trans ((Fr.ofBelow E.o).trans (c.o.weak fun _ _ e=>.inr (.inr e))) (Sub.refl _ _) (Y7.here R.o)).below Q,.inr ⟨t0,_,rfl,rfl,wr.heap.size,rfl,Nat.le_trans E.o.size c.o.size,heap_alloc_new wr _⟩⟩)
section
variable (f:Nat→Addr) (w:World) (q:Qf) (x:Qv) (N:Nat) (s:Cs) (d:Dk) (h:QIs w q x N s d) (hE:EnvS f (QS q x) w) (level:Int) (index count:Nat) (hi:4*index<count) (hc:count<9223372036854775808) (hft:s.net.fetches<1152921504606846000) (hlen:x.vs.length<1099511627775) (hsm:Qa6 s.net)
include h hE hi hc hft hlen hsm
theorem Q0t:Calls prog 146 #[.pointer (some ⟨q.gq,0,none⟩),.int .i64 level,.int .i64 index,.int .i64 count,.func (.func 182) #[] #[]] w (Qit f w q x N d (J3 Zh level index count s)):=
 Qw5 Zh _ (enters_of func182 (by kernel_rfl) rfl) (fun W v data wd w1 hb hl _ _ _=>Q4b W _ data wd w1 hb (by omega) (by omega) (by omega)) f w q x N s d h hE level index count hi hc hft hlen hsm
theorem Q5e:Calls prog 146 #[.pointer (some ⟨q.gq,0,none⟩),.int .i64 level,.int .i64 index,.int .i64 count,.func (.func 147) #[] #[]] w (Qit f w q x N d (J3 Z2 level index count s)):=
 Qw5 Z2 _ (enters_of func147 (by kernel_rfl) rfl) (fun W v data wd w1 hb hl _ _ _=>Q4y W _ data wd w1 hb hl (by omega) (by omega) (by omega)) f w q x N s d h hE level index count hi hc hft hlen hsm
end
end
end
section
section
variable [Inhabited OutT]
variable {w:World}
theorem Qi1 {P:Program} {ops:Array Oper} {rest:List Oper} {o:Oper} {a:Act} {Q:Exit→Act→World→Prop} (hgd:o.guard=none) (x y:Operand) (t ts:TypeId)
  (ho:o.op=.call { callee:=.builtin .copy,args:=#[x,y],argTypes:=#[t,ts] }) (e:TypeId) (ht:P.underlying t=some (.slice e)) (hsz:(P.info? e).map (·.size)=some 1)
  (g:Nat) (hx:a.eval x=.slice (some ⟨g,0,none⟩) 8 8) (ad:Option Addr) (n c:Nat) (l:List UInt8) (hy:a.eval y=.slice ad n c) (hb:Q8 w (.slice ad n c) l) (hg:Qw w g zero8)
  (h:∀ k w',Qw w' g (Yo l)→Fr (·=g) w w'→w'.heap.size=w.heap.size→wpList P ops Q rest (a.put o.dst k) w'):wpList P ops Q (o :: rest) a w:=by
 have:=(inferInstance:Inhabited OutT)
 obtain⟨ad',c',hv,hc,f⟩:=hb;simp only[Value.slice.injEq] at hv;obtain⟨rfl,rfl,rfl⟩:=hv;cases l with
 | nil=>
  refine wpList_copy_nothing hgd x y t ts ho e ht hsz (some ⟨g,0,none⟩) ad 8 8 0 c hx hy rfl ?_;exact h _ w (by rw[show Yo []=zero8 from rfl];exact hg) (Fr.refl _ _) rfl
 | cons b l=>
  obtain⟨bk,off,rfl,_⟩:=f 0 (u8 b) (by simp);obtain⟨cs,d⟩:∃ cs,cs=((b :: l).take 8).map u8:=⟨_,rfl⟩
  have m:w.heap[g]?=some (.cells (h8 zero8) 143 (0,0)):=hg;refine wpList_copy_own hgd x y t ts ho e ht hsz g 0 8 8 ⟨bk,off,none⟩ _ c hx hy (h8 zero8) 143 m cs (by rw[d,List.length_map,List.length_take,Nat.min_comm]) (fun j v hj=>?_) (by rw[d,List.length_map,List.length_take,h8_size];omega) (fun v hv=>by
   rw[d] at hv
   obtain⟨z,_,rfl⟩:=List.mem_map.1 hv
   rfl) ?_
  ·rw[d,List.map_take] at hj
   have p:=(List.getElem?_eq_some_iff.1 hj).1;rw[List.length_take] at p;rw[List.getElem?_take_of_lt (by omega)] at hj;obtain⟨bk',off',q,h1⟩:=f j v hj;cases q;rw[Addr.add_lit];exact h1
  ·have i:((h8 zero8).toList.take 0++(cs++(h8 zero8).toList.drop (0+cs.length))).toArray=h8 (Yo (b :: l)):=by
    apply Array.ext';have hz:(h8 zero8).toList=List.replicate 8 (Value.int .u8 0):=by rw[Qz5];rfl
    rw[←Qzo,d,hz];simp[Nat.min_comm];rw[show min (l.length+1) 8=min l.length 7+1 by omega];rfl
   rw[i];refine h _ _ (Qx hg _) ⟨rfl,rfl,rfl,by simp[World.setRow],fun k hk hs=>setRow_other w g k _ (fun e=>hs e)⟩ (by simp[World.setRow])
variable {n c k:Nat} {l:List UInt8}
theorem Q0x {b off:Nat} (h:Q8 w (.slice (some ⟨b,off,none⟩) n c) l) (hk:k≤l.length) (hn:n=l.length) (hc:n≤c):Q8 w (.slice (if c=k then some ⟨b,off,none⟩ else some ⟨b,off+k,none⟩) (n-k) (c-k)) (l.drop k):=by
 have:=(inferInstance:Inhabited OutT)
 by_cases e:c=k
 ·rw[if_pos e]
  refine⟨some ⟨b,off,none⟩,c-k,by rw[List.length_drop,hn],by rw[List.length_drop];omega,fun j u hu=>?_⟩
  have:=(List.getElem?_eq_some_iff.1 hu).1
  rw[List.length_map,List.length_drop] at this;omega
 ·rw[if_neg e]
  obtain⟨a0,c0,hv,hc,hx⟩:=h;simp only[Value.slice.injEq] at hv;obtain⟨rfl,rfl,rfl⟩:=hv;refine⟨some ⟨b,off+k,none⟩,c-k,by rw[List.length_drop],by rw[List.length_drop];omega,fun j u hu=>?_⟩;rw[List.map_drop,List.getElem?_drop] at hu;obtain⟨b',off',a,h1⟩:=hx (k+j) u hu;cases a;exact⟨b,off+k,rfl,by rw[Nat.add_assoc];exact h1⟩
theorem Qv7:(prog.info? 5).map (·.size)=some 1:=by have:=(inferInstance:Inhabited OutT);show _=_;kernel_rfl
theorem Q1o {a:Option Addr} (h:Q8 w (.slice a n c) l):n=l.length∧n≤c:=by
 have:=(inferInstance:Inhabited OutT)
 obtain⟨a0,c0,hv,hc,hx⟩:=h;simp only[Value.slice.injEq] at hv;obtain⟨rfl,rfl,rfl⟩:=hv;exact⟨rfl,hc⟩
variable {q:Qf} {x:Qv} {N:Nat} {s:Cs} {d:Dk}
theorem QIs.lt (h:QIs w q x N s d) (hk:QS q x k):k<w.heap.size:=by
 rcases hk with (e|e|e)|(e|e|e)|(e|e)
 ·rw[e];exact Qc h.look
 ·rw[e];exact h.km.lt
 ·obtain⟨C,hC⟩:=Qe h.ord e
  exact Qc hC
 ·obtain⟨l,r,h2⟩:=h.cache.ring.ends
  rw[e];exact Qc h2
 ·rw[e];exact h.cache.km.lt
 ·exact h.cache.ring.lt (by rw[Qcy];exact e)
 ·rw[e];exact h.net.lt
 ·obtain⟨C,hC⟩:=Qe h.net.told e
  exact Qc hC
variable {g:Nat}
theorem Qrj {k:Hsh} (h:Qw w g k):Qw w.drew g k:=have:=(inferInstance:Inhabited OutT);h
variable {S:Nat→Prop} {w':World}
theorem Qfa {k:Hsh} (h:Qw w g k) (hf:Fr S w w') (hg:¬ S g):Qw w' g k:=have:=(inferInstance:Inhabited OutT);hf.heap h hg
def qTs:List TypeId:=[263,9,5,205,253,251,126,47,3,116,132]
variable {ts:List TypeId}
theorem QIs.kept (h:QIs w q x N s d) (hf:Fr S w w') (hS:Qa0 w S ts) (ht:∀ t∈qTs,t ∉ ts) (hm:∀ k es c,w.heap[k]?=some (.map es c)→¬ S k):QIs w' q x N s d where
 look:=Zl h.look hf hS (ht _ (by decide))
 km:=by obtain⟨es,c,hb⟩:=Qg8 h.km;exact h.km.fr hf (hm _ _ _ hb)
 ord:=Zk h.ord hf hS (ht _ (by decide))
 vals y hy:=Qdr (h.vals y hy) hf hS (ht _ (by decide))
 keys:=h.keys
 small:=h.small
 files:=h.files
 cli:=Zl h.cli hf hS (ht _ (by decide))
 c2:=h.c2
 c13:=h.c13
 cache:=by obtain⟨es,c,hb⟩:=Qg8 h.cache.km;exact Qer h.cache hf hS (hm _ _ _ hb) (ht _ (by decide)) (ht _ (by decide)) (ht _ (by decide))
 net:=J1 h.net hf hS (ht _ (by decide)) (ht _ (by decide)) (ht _ (by decide))
 disk:=h.disk.kept hf hS (ht _ (by decide)) (ht _ (by decide))
 dfiles:=h.dfiles
 maps:=h.maps
 o z hz:=Nat.lt_of_lt_of_le (h.o z hz) hf.size
theorem Y7.own {a b c:World} {C:Array Value} {t:TypeId} (h:Y7 a q x N d b s) (hf:Fr (·=g) b c) (hg:b.heap[g]?=some (.cells C t (0,0))) (ht:t ∉ qTs) (hga:a.heap.size≤g):Y7 a q x N d c s:=by obtain⟨y,h1,h2,h3⟩:=h;exact⟨y,h1.kept hf (Q5 hg) (fun t' h' e=>ht (by rw[List.mem_singleton] at e;rw[←e];exact h')) (fun k es c' hk e=>by subst e;rw[hg] at hk;cases hk),h2.step hf fun i hi e=>by omega,h3⟩
theorem J5 (w:World) (g:Nat) (cs:Array Value):Fr (·=g) w (w.setRow g cs):=have:=(inferInstance:Inhabited OutT);⟨rfl,rfl,rfl,by simp[World.setRow],fun k _ hs=>setRow_other w g k cs (fun e=>hs e)⟩
variable {f:Nat→Addr} {base:Nat} {p:ByteArray} {u:Value}
theorem Y8.fr (h:Y8 f w base p u) (hf:Fr S w w') (hS:Qa0 w S ts) (ht:221 ∉ ts):Y8 f w' base p u:=by
 have:=(inferInstance:Inhabited OutT)
 obtain⟨q,rfl,h1,h2⟩:=h;exact⟨q,rfl,h1,Zl h2 hf hS ht⟩
theorem Y8.low {base':Nat} (h:Y8 f w base p u) (hb:base'≤base):Y8 f w base' p u:=by
 have:=(inferInstance:Inhabited OutT)
 obtain⟨q,rfl,h1,h2⟩:=h;exact⟨q,rfl,Nat.le_trans hb h1,h2⟩
def Qbh (f:Nat→Addr) (w:World) (q:Qf) (x:Qv) (N:Nat) (d:Dk) (r:Except QErr Hsh×Cs) (e:Ending) (w':World):Prop:=
 Y7 w q x N d w' r.2∧((∃ h,r.1=.ok h∧e=.returned (.tuple #[.agg (h8 h),.nilIface]))∨∃ p u h,r.1=.error (.miss p)∧e=.returned (.tuple #[.agg (h8 h),u])∧Y8 f w' w.heap.size p u)
theorem Q25 (f:Nat→Addr) (w:World) (q:Qf) (x:Qv) (N:Nat) (s:Cs) (d:Dk) (h:QIs w q x N s d) (hE:EnvS f (QS q x) w) (level index:Nat) (hev:level%2=0) (hlv:level≤62) (hi:(index+1)*2 ^ level≤N) (hN:N<9223372036854775808) (hft:s.net.fetches<1152921504606846000) (hlen:x.vs.length<1099511627775) (hsm:Qa6 s.net) (hp:(Qat N level index s).1≠.error .panic) :
  Calls prog 141 #[.pointer (some ⟨q.gq,0,none⟩),.int .i64 level,.int .i64 index] w (Qbh f w q x N d (Qat N level index s)):=by
 obtain⟨R,F⟩:∃ R,R=Qat N level index s:=⟨_,rfl⟩
 rw[←F] at hp ⊢;have Y:=zh F;clear F;have m:=Qa w (.cells zc 143);have M:=Nat.two_pow_pos level;have H:index<N / 2 ^ level:=(Nat.le_div_iff_mul_le M).2 hi;have ab:N / 2 ^ level≤N:=Nat.div_le_self _ _;have HF:=zh (Q0t f _ q x N s d (h.below m) (hE.below m) ((level / 2:Nat):Int) (index / 4) (N / 2 ^ level) (by omega) (by omega) hft hlen hsm);have HQ:=zh (h.below m);have l0:(0:Int)≤(level:Int):=by omega
 have l1:(level:Int)≤62:=by omega
 have i0:(0:Int)≤(index:Int):=by omega
 have i1:(index:Int)<9223372036854775807:=by omega
 have Q:((level:Int)%2 == 1)=false:=by rw[beq_eq_false_iff_ne];omega
 have k1:=HQ.o.heads.2.1;have V:q.gq<(w.alloc (.cells zc 143)).heap.size:=Qk k1;have h0:=h;clear h hE m M
 go_enter func141,ntmps141
 have W:w.heap.size<(w.alloc (.cells zc 143)).heap.size:=by simp
 have U:¬ QS q x w.heap.size:=fun e=>Nat.lt_irrefl _ (h0.lt e)
 have e1:(level:Int) / 2=((level / 2:Nat):Int):=rfl;have e2:(index:Int) / 4=((index / 4:Nat):Int):=rfl;have e3:(N:Int) / 2 ^ level=((N / 2 ^ level:Nat):Int):=by simp
 have t:=zh (And.intro e1 (And.intro e2 e3));have af:=zh U;clear e1 e2 e3 U h0
 go_wp2_with fail
 rw[t.o.1,t.o.2.1,t.o.2.2];refine HF.o.mono ?_;intro e w1 h1;obtain⟨D,h1⟩:=h1;have g:Qw w1 w.heap.size zero8:=by obtain⟨_,_,aj,_⟩:=D;exact Qfa (Qh rfl) aj af.o
 obtain⟨r,hr⟩:∃ r,r=J3 Zh ((level / 2:Nat):Int) (index / 4) (N / 2 ^ level) s:=⟨_,rfl⟩
 rw[←hr] at D h1;obtain⟨o,s1⟩:=r;have ah:=zh D;have HR:=zh hr;clear D hr;have ad:w.heap.size≤(w.alloc (.cells zc 143)).heap.size:=by simp
 have fin:∀ (wx:World) (k:Hsh),Fr (·=w.heap.size) w1 wx→Y7 w q x N d (wx.setRow w.heap.size (h8 k)) s1:=fun wx k hf=>
  (Y7.trans (Fr.ofBelow (Qa w _)) (Sub.refl _ _) ah.o).own (hf.trans (J5 wx w.heap.size (h8 k))) g (by decide) (Nat.le_refl _)
 have FIN:=zh fin;clear fin;rcases h1 with ⟨b,a,n,c,rfl,rfl,I⟩|⟨p,u,rfl,rfl,ac⟩
 ·have i:R=Qjj b (index%4) s1:=by rw[Y.o];unfold Qat Qm.bind;rw[←HR.o]
  rw[i] at hp;have K:¬ b.length<8*(index%4):=fun hlt=>hp (by unfold Qjj;rw[if_pos hlt])
  have B:R=(.ok (Qdn b (index%4)),s1):=by rw[i];unfold Qjj;rw[if_neg K]
  clear i;obtain⟨aa,A⟩:=Q1o I.at;have ak:=zh I;have HP:=zh B;obtain⟨kk,S⟩:∃ kk,kk=8*(index%4):=⟨_,rfl⟩
  have O:IntKind.i64.wrap (8*(index:Int).tmod 4)=(kk:Int):=by rw[Int.tmod_eq_emod_of_nonneg i0,IntWalk.i64_in _ (by omega)];omega
  have z:kk≤n:=by omega
  have J:n≤c:=A;have T:=zh S;rw[←S] at K;clear hp K B S;rcases I with ⟨hv,m⟩|⟨bk,off,c',C,fz,hv,_⟩
  ·simp only[Value.slice.injEq] at hv
   obtain⟨rfl,rfl,rfl⟩:=hv;obtain rfl:kk=0:=by omega
   have Z:Q8 w1 (.slice none 0 0) (b.drop 0):=by rw[m];exact⟨none,0,rfl,Nat.le_refl _,fun j u hu=>by simp at hu⟩
   have E:=zh Z;clear Z aa
   go_upto_region 10 with fail
   go_still_tail 6,(by kernel_rfl)
   change wpList _ _ _ _ _ w1.drew
   refine Qi1 rfl _ _ 147 147 rfl 5 underlying147 Qv7 w.heap.size rfl _ _ _ _ rfl (E.o.below (Qn w1)) (Qrj g) ?_;intro kx wx v y P;have G:=zh y;obtain⟨y8,l⟩:∃ y8,y8=Yo (b.drop 0):=⟨_,rfl⟩
   rw[←l] at v;have L:=zh l;have ai:=zh g;clear y P l g O z J i0 i1 l0 l1 Q k1 V W A H ab
   go_wp2_with (first|((first|refine Qz rfl 143 _ rfl _ rfl _ underlying143 info8 ?_ ?_ ?_|refine Qt rfl 143 _ _ rfl _ _ rfl rfl info8 ?_ ?_ ?_);rotate_left;focus((repeat(first|(with_reducible first|assumption|exact Qj ⟨_,by assumption⟩ _)|((with_reducible first|refine Qh ?_|refine Q2 ?_|refine Qj (Zb ?_) _);(first|rfl|(simp;done)|(simp;omega)))|with_reducible refine Qp ?_ _|((with_reducible refine Qi ?_ _ ?_);rotate_left;(focus(first|(simp;done)|(simp;omega)|omega)))|with_reducible first|refine Qo ?_|refine Qg ?_ (by assumption)));done)))
   all_goals (
    refine ret8t w.heap.size y8 .nilIface rfl rfl rfl _ underlying143 info8 (Qx v _) rfl ?_
    rw[HP.o,L.o]
    exact⟨FIN.o wx _ ((Fr.ofBelow (Qn w1)).trans G.o),.inl ⟨_,by unfold Qdn;rw[←T.o],rfl⟩⟩)
  ·simp only[Value.slice.injEq] at hv
   obtain⟨rfl,rfl,rfl⟩:=hv;have X:=Q0x ak.o.at (k:=kk) z rfl A;have E:=zh X;clear X aa
   go_upto_region 10 with fail
   go_still_tail 6,(by kernel_rfl)
   change wpList _ _ _ _ _ w1.drew
   refine Qi1 rfl _ _ 147 147 rfl 5 underlying147 Qv7 w.heap.size rfl _ _ _ _ rfl (E.o.below (Qn w1)) (Qrj g) ?_;intro kx wx v y P;have G:=zh y;obtain⟨y8,l⟩:∃ y8,y8=Yo (b.drop kk):=⟨_,rfl⟩
   rw[←l] at v;have L:=zh l;have ai:=zh g;clear y P l g O z J i0 i1 l0 l1 Q k1 V W A H ab
   go_wp2_with (first|((first|refine Qz rfl 143 _ rfl _ rfl _ underlying143 info8 ?_ ?_ ?_|refine Qt rfl 143 _ _ rfl _ _ rfl rfl info8 ?_ ?_ ?_);rotate_left;focus((repeat(first|(with_reducible first|assumption|exact Qj ⟨_,by assumption⟩ _)|((with_reducible first|refine Qh ?_|refine Q2 ?_|refine Qj (Zb ?_) _);(first|rfl|(simp;done)|(simp;omega)))|with_reducible refine Qp ?_ _|((with_reducible refine Qi ?_ _ ?_);rotate_left;(focus(first|(simp;done)|(simp;omega)|omega)))|with_reducible first|refine Qo ?_|refine Qg ?_ (by assumption)));done)))
   all_goals (
    refine ret8t w.heap.size y8 .nilIface rfl rfl rfl _ underlying143 info8 (Qx v _) rfl ?_
    rw[HP.o,L.o,T.o]
    exact⟨FIN.o wx _ ((Fr.ofBelow (Qn w1)).trans G.o),.inl ⟨_,rfl,rfl⟩⟩)
 ·have ae:=zh ac
  obtain⟨q9,rfl,al,ag⟩:=ac;clear ag
  go_wp2_with (first|((first|refine Qz rfl 143 _ rfl _ rfl _ underlying143 info8 ?_ ?_ ?_|refine Qt rfl 143 _ _ rfl _ _ rfl rfl info8 ?_ ?_ ?_);rotate_left;focus((repeat(first|(with_reducible first|assumption|exact Qj ⟨_,by assumption⟩ _)|((with_reducible first|refine Qh ?_|refine Q2 ?_|refine Qj (Zb ?_) _);(first|rfl|(simp;done)|(simp;omega)))|with_reducible refine Qp ?_ _|((with_reducible refine Qi ?_ _ ?_);rotate_left;(focus(first|(simp;done)|(simp;omega)|omega)))|with_reducible first|refine Qo ?_|refine Qg ?_ (by assumption)));done)))
  refine ret8t w.heap.size zero8 _ rfl rfl rfl _ underlying143 info8 (Qx g _) rfl ?_;have i:R=(.error (.miss p),s1):=by rw[Y.o];unfold Qat Qm.bind;rw[←HR.o]
  rw[i];refine⟨FIN.o w1 _ (Fr.refl _ _),.inr ⟨p,_,zero8,rfl,rfl,?_⟩⟩;exact ((ae.o.fr (J5 w1 w.heap.size _) (Q5 g) (by decide)).low ad)
end
end
section
open Go.RowKit Go.MuLone
abbrev cliC (mu:Int) (vf:Value) (key:ByteArray) (n:Int) (h:Hsh) (gk:Nat):Array Value:=#[.int .i32 mu,.int .u32 0,vf,.string key,.int .i64 n,bv h[0],bv h[1],bv h[2],bv h[3],bv h[4],bv h[5],bv h[6],bv h[7],.pointer (some ⟨gk,0,none⟩)]
section
variable [Inhabited OutT]
structure ClM (mu:Int) (w:World) (gc gk mc:Nat) (vf:Value) (c:Cl) (qs:List CEnt):Prop where
 cells:w.heap[gc]?=some (.cells (cliC mu vf c.key c.size c.root gk) 205 (0,0))
 cache:Z3 w gk mc c.cache qs
abbrev ClIs (w:World) (gc gk mc:Nat) (vf:Value) (c:Cl) (qs:List CEnt):Prop:=ClM 0 w gc gk mc vf c qs
def clS (gc gk mc:Nat) (qs:List CEnt) (k:Nat):Prop:=k=gc∨Yl gk mc qs k
section
variable {mu:Int} {w w':World} {gc gk mc:Nat} {vf:Value} {c:Cl} {qs:List CEnt}
theorem ClM.below (h:ClM mu w gc gk mc vf c qs) (hb:Below w.heap.size w w'):ClM mu w' gc gk mc vf c qs:=
 ⟨(hb.block _ (Qc h.cells)).trans h.cells,h.cache.fr (S:=fun _=>False) (Fr.ofBelow hb) (fun _ _=>id) (fun _ _ _ _=>id)⟩
theorem ClM.fr {S:Nat→Prop} (h:ClM mu w gc gk mc vf c qs) (hf:Fr S w w') (hs:∀ k,clS gc gk mc qs k→¬ S k) (hn:Qei w S):ClM mu w' gc gk mc vf c qs:=
 ⟨hf.heap h.cells (hs _ (.inl rfl)),h.cache.fr hf (fun i hi=>hs i (.inr hi)) hn⟩
theorem ClM.lt (h:ClM mu w gc gk mc vf c qs):gc<w.heap.size:=Qc h.cells
theorem ClM.noBytes (h:ClM mu w gc gk mc vf c qs):Qei w (·=gc):=fun k C fz hk e=>Zp hk h.cells (by decide) e
theorem ClM.apart (h:ClM mu w gc gk mc vf c qs):∀ k,Yl gk mc qs k→¬ k=gc:=fun k hk e=>by
 rcases hk with e1|e1|e1
 ·obtain⟨l,r,h2⟩:=h.cache.ring.ends
  rw[←e1,e,h.cells] at h2;cases h2
 ·obtain⟨D,⟨es,cl,hb,_⟩,_⟩:=h.cache.km.ex
  rw[←e1,e,h.cells] at hb;cases hb
 ·obtain⟨k',v,_,l,r,h2⟩:=h.cache.ring.node (by rw[Qcy];exact e1)
  rw[e,h.cells] at h2;cases h2
theorem ClM.ltS (h:ClM mu w gc gk mc vf c qs) {k:Nat} (hk:clS gc gk mc qs k):k<w.heap.size:=by
 rcases hk with rfl|rfl|rfl|hk
 ·exact h.lt
 ·obtain⟨l,r,h2⟩:=h.cache.ring.ends
  exact Qc h2
 ·exact h.cache.km.lt
 ·obtain⟨k',v,_,l,r,h2⟩:=h.cache.ring.node (by rw[Qcy];exact hk)
  exact Qc h2
theorem ClM.turn (h:ClM mu w gc gk mc vf c qs) (mu':Int):ClM mu' (w.setCell ⟨gc,0,none⟩ (.int .i32 mu')) gc gk mc vf c qs:=
 ⟨(heap_setCell h.cells _).trans (by simp),h.cache.fr (Fr.set1 w gc 0 _) (fun i hi e=>h.apart i hi e) h.noBytes⟩
theorem Qug (h:ClM 0 w gc gk mc vf c qs):Calls prog 134 #[.pointer (some ⟨gc,0,none⟩)] w fun e w'=>e=.returned (.tuple #[])∧ClM 1 w' gc gk mc vf c qs∧Fr (·=gc) w w'∧w'.heap.size=w.heap.size:=
 (lock_free Q6d ⟨gc,0,none⟩ w (Qd h.cells 0 rfl) (Qs h.cells 0)).mono fun e w' hp=>by
  obtain⟨rfl,rfl⟩:=hp
  exact⟨rfl,h.turn 1,Fr.set1 w gc 0 _,by simp⟩
theorem Q3f (u:FrameMode) (h:ClM 1 w gc gk mc vf c qs):CallsD prog 135 #[.pointer (some ⟨gc,0,none⟩)] u w fun e u' w'=>u'=u∧e=.returned (.tuple #[])∧ClM 0 w' gc gk mc vf c qs∧Fr (·=gc) w w':=
 (unlock_deferred Q6d ⟨gc,0,none⟩ u w (Qd h.cells 0 rfl) (Qs h.cells 0)).mono fun e u' w' hp=>by
  obtain⟨rfl,rfl,rfl⟩:=hp
  exact⟨rfl,rfl,h.turn 0,Fr.set1 w gc 0 _⟩
end
theorem Q70 (w:World):Calls prog 129 #[.slice none 0 0] w fun e w'=>e=.returned (.agg #[bv (hash [])[0],bv (hash [])[1],bv (hash [])[2],bv (hash [])[3],bv (hash [])[4],bv (hash [])[5],bv (hash [])[6],bv (hash [])[7]])∧Below w.heap.size w w':=by
 have:=(inferInstance:Inhabited OutT)
 have h:=Qjq (.slice none 0 0) [] w ⟨[],rfl,⟨none,0,rfl,Nat.le_refl _,fun j u h=>by cases h⟩,fun j u l h1 h2=>by cases h1⟩ (by simp) (fun l hl=>by cases hl);rw[Qgh] at h;exact h
theorem Qqe (w:World) (vf:Value) (m:vf=.nilIface∨∃ a,vf=.iface 48 (.pointer (some a))) (key:ByteArray) (i:Int) (hi:i≤9223372036854775807) :
  Calls prog 82 #[vf,.string key,.int .i64 i] w fun e w'=>∃ gc gk mc,e=.returned (.pointer (some ⟨gc,0,none⟩))∧ClIs w' gc gk mc vf ⟨key,0,(hash []),⟨i.toNat,[]⟩⟩ []∧Below w.heap.size w w'∧w.heap.size≤gc∧w.heap.size≤gk∧w.heap.size≤mc:=by
 rcases m with rfl|⟨a,rfl⟩
 all_goals
  go_enter func82,ntmps82
  go_wp2_with (first
   | (go_at_call 129;refine (Q70 w).mono ?_;rintro e w1 ⟨rfl,d⟩;have b:=zh d;clear d)
   | (go_at_call 130;refine (Q34 w1 i hi).mono ?_;rintro e w2 ⟨gk,mc,rfl,f,g,h,l⟩;have k:=zh f;have c:=zh g;clear f g)
   | fail)
  refine bodyPost_ret (results_tmp rfl _ _ _) rfl ⟨w2.heap.size,gk,mc,rfl,⟨heap_alloc_new w2 _,?_⟩,?_,?_,?_,?_⟩
  ·exact k.o.fr (S:=fun _=>False) (Fr.ofBelow (Qa w2 _)) (fun _ _=>id) (fun _ _ _ _=>id)
  ·have j:=b.o.size
   have n:=c.o.size;exact (b.o.trans (c.o.mono j)).alloc (by omega) _
  ·exact Nat.le_trans b.o.size c.o.size
  ·exact Nat.le_trans b.o.size h
  ·exact Nat.le_trans b.o.size l
theorem Qrm (w:World) (gc gk mc:Nat) (vf:Value) (c:Cl) (qs:List CEnt) (h:ClIs w gc gk mc vf c qs) :
  Calls prog 91 #[.pointer (some ⟨gc,0,none⟩)] w fun e w'=>e=.returned (trV c.size c.root)∧ClIs w' gc gk mc vf c qs∧Fr (·=gc) w w':=by
 have l:=h.lt;obtain⟨W0,a⟩:∃ x,x=w.alloc (.cells (trC 0 zero8) 145):=⟨_,rfl⟩
 have T0:TrAt W0 w.heap.size 0 zero8:=by rw[a];exact heap_alloc_new w _
 have b0:Below w.heap.size w W0:=by rw[a];exact Qa w _
 have H:=zh (h.below b0);have H0:=zh h;have HT:=zh T0;have HB:=zh b0;have HW:=zh a;clear h a T0 b0
 go_enter_defers func91,ntmps91
 go_upto_region 1 with fail
 rw[show w.alloc (.cells #[.int .i64 0,.int .u8 0,.int .u8 0,.int .u8 0,.int .u8 0,.int .u8 0,.int .u8 0,.int .u8 0,.int .u8 0] 145)=W0 from HW.o.symm]
 go_wp2_with (first
  | (go_at_call 134;refine (Qug H.o).mono ?_;rintro e w1 ⟨rfl,h1,b,t⟩;have H1:=zh h1;have p:=zh b;have d4:=Qd h1.cells 4 rfl;have d5:=Qd h1.cells 5 rfl;have d6:=Qd h1.cells 6 rfl;have d7:=Qd h1.cells 7 rfl;have d8:=Qd h1.cells 8 rfl;have d9:=Qd h1.cells 9 rfl;have r:=Qd h1.cells 10 rfl;have s:=Qd h1.cells 11 rfl;have u:=Qd h1.cells 12 rfl;have q:=h1.lt;have T1:TrAt w1 w.heap.size 0 zero8:=b.heap HT.o (Nat.ne_of_gt l);have d:=zh T1;clear h1 b T1)
  | (refine Z8 rfl _ _ rfl _ c.size c.root rfl rfl _ _ d.o ?_)
  | fail)
 have m:TrAt (w1.setRow w.heap.size (trC c.size c.root)) w.heap.size c.size c.root:=d.o.set _ _;have j:Fr (·=w.heap.size) w1 (w1.setRow w.heap.size (trC c.size c.root)):=J5 w1 w.heap.size _;have h2:ClM 1 (w1.setRow w.heap.size (trC c.size c.root)) gc gk mc vf c qs:=H1.o.fr j (fun k hk e=>by
  have:=H0.o.ltS hk
  have e:k=w.heap.size:=e
  omega) (fun k C fz hk e=>Zp hk d.o (by decide) e)
 refine leaves_cons (f:=135) (args:=#[.pointer (some ⟨gc,0,none⟩)]) (by simp) (by simp[go_sem]) ?_;refine (Q3f .returning h2).mono ?_;rintro e u' w3 ⟨rfl,rfl,h3,g⟩;simp only[Leaves,settle];have n:TrAt w3 w.heap.size c.size c.root:=g.heap m (Nat.ne_of_gt l);have hl:=run_loadVar_row (P:=prog) w3 w.heap.size _ 145 (trC c.size c.root) _ _ n underlying145 rfl (by rw[Q5a];rfl);refine⟨trV c.size c.root,?_,rfl,h3,?_⟩
 ·simp[results,results91,go_sem,asAddr,hl] at *
  try exact hl
 ·refine (((Fr.ofBelow HB.o).trans p.o).step j fun i hi e=>?_).trans g
  have e:i=w.heap.size:=e;omega
end
end
section
section
variable [Inhabited OutT]
structure Bnd (s:Cs) (k:Nat):Prop where
 fetches:s.net.fetches+2*k<1152921504606840000
 files:s.files.length+k<1099511627000
 small:Qa6 s.net
variable {j k:Nat} {s:Cs}
theorem Bnd.next {α:Type} {m:Qm α} (h:Bnd s (j+k)) (hm:Qfr m j) (hs:Qd1 s.net (m s).2.net):Bnd (m s).2 k:=by
 have:=(inferInstance:Inhabited OutT)
 have h1:=(hm s).fetches;have h2:=(hm s).files
 have:=h.fetches
 have:=h.files
 exact⟨by omega,by omega,by unfold Qa6;rw[hs.1,hs.2];exact h.small⟩
theorem Bnd.less (h:Bnd s k) (hj:j≤k):Bnd s j:=have:=(inferInstance:Inhabited OutT);⟨by have:=h.fetches;omega,by have:=h.files;omega,h.small⟩
variable {w:World} {q:Qf} {x:Qv} {N:Nat} {d:Dk}
theorem QIs.vsLen (h:QIs w q x N s d):x.vs.length=s.files.length:=by rw[h.files,List.length_map]
theorem Y7.env {w':World} {f:Nat→Addr} (h:Y7 w q x N d w' s) (hE:EnvS f (QS q x) w):∃ y,QIs w' q y N s d∧EnvS f (QS q y) w'∧Fr (QS q x) w w'∧Sub w (QS q x) (QS q y):=by obtain⟨y,h1,h2,h3⟩:=h;exact⟨y,h1,hE.step h2 h3,h2,h3⟩
theorem Qj3 (f:Nat→Addr) (w:World) (q:Qf) (x:Qv) (N:Nat) (s:Cs) (d:Dk) (h:QIs w q x N s d) (hE:EnvS f (QS q x) w) (level index:Nat) (hev:level%2=0) (hlv:level≤62) (hi:(index+1)*2 ^ level≤N) (hN:N<9223372036854775808) (hb:Bnd s 1) (hp:(Qat N level index s).1≠.error .panic) :
  Calls prog 141 #[.pointer (some ⟨q.gq,0,none⟩),.int .i64 level,.int .i64 index] w (Qbh f w q x N d (Qat N level index s)):=
 Q25 f w q x N s d h hE level index hev hlv hi hN (by have:=hb.fetches;omega) (by have:=hb.files;rw[h.vsLen];omega) hb.small hp
theorem Q4f (f:Nat→Addr) (w:World) (q:Qf) (x:Qv) (N:Nat) (s:Cs) (d:Dk) (h:QIs w q x N s d) (hE:EnvS f (QS q x) w) (level index:Nat) (hod:level%2=1) (hlv:level≤62) (hi:(index+1)*2 ^ level≤N) (hN:N<9223372036854775808) (hb:Bnd s 2) (hp:(Qej N level index s).1≠.error .panic) :
  Calls prog 141 #[.pointer (some ⟨q.gq,0,none⟩),.int .i64 level,.int .i64 index] w (Qbh f w q x N d (Qej N level index s)):=by
 obtain⟨R,c⟩:∃ R,R=Qej N level index s:=⟨_,rfl⟩
 rw[←c] at hp ⊢;unfold Qej at c;rw[if_pos hod] at c;unfold Qm.bind at c;obtain⟨lv,J⟩:∃ lv,level=lv+1:=⟨level-1,by omega⟩
 rw[show level-1=lv by omega] at c;have af:2 ^ level=2*2 ^ lv:=by rw[J,Nat.pow_succ];omega
 have ac:=Nat.two_pow_pos lv;have az:(2*index+1)*2 ^ lv≤N:=by refine Nat.le_trans ?_ hi;rw[af,←Nat.mul_assoc];exact Nat.mul_le_mul_right _ (by omega)
 have a4:(2*index+1+1)*2 ^ lv≤N:=by refine Nat.le_trans ?_ hi;rw[af,←Nat.mul_assoc];exact Nat.mul_le_mul_right _ (by omega)
 have be:index+1≤N:=Nat.le_trans (Nat.le_mul_of_pos_right _ (Nat.two_pow_pos _)) hi;have D:=Qa w (.cells zc 143);have aj:(Qat N lv (2*index) s).1≠.error .panic:=fun e=>by
  apply hp;rw[c];cases hq:Qat N lv (2*index) s with
  | mk o s1=>
   rw[hq] at e;dsimp only at e;subst e;rfl
 have ab:=zh (Qj3 f _ q x N s d (h.below D) (hE.below D) lv (2*index) (by omega) (by omega) az hN (hb.less (by decide)) aj);have ae:Bnd (Qat N lv (2*index) s).2 1:=hb.next (j:=1) (Qe5 N lv (2*index)) (Qgs (Qd6 s.net) N lv (2*index) s (Qd1.refl _));obtain⟨r1,ah⟩:∃ r1,r1=Qat N lv (2*index) s:=⟨_,rfl⟩
 rw[←ah] at ab ae;rw[←ah] at c;have l0:(0:Int)≤(lv:Int):=by omega
 have l1:(lv:Int)≤62:=by omega
 have i0:(0:Int)≤(index:Int):=by omega
 have i1:2*(index:Int)+1<9223372036854775807:=by
  have:2*index+1+1≤(2*index+1+1)*2 ^ lv:=Nat.le_mul_of_pos_right _ ac
  omega
 have bc:((level:Int)%2 == 1)=true:=by rw[beq_iff_eq];omega
 have l2:(0:Int)≤(level:Int):=by omega
 have l3:(level:Int)≤62:=by omega
 have e1:(level:Int)-1=(lv:Int):=by omega
 have e2:2*(index:Int)=((2*index:Nat):Int):=by omega
 have e3:2*(index:Int)+1=((2*index+1:Nat):Int):=by omega
 have K:lv%2=0:=by omega
 have ad:lv≤62:=by omega
 have aq:=zh (And.intro K ad);have F:=zh (And.intro e1 (And.intro e2 e3));have H:=zh h;have HE:=zh (hE.below D);have C:=zh c;have HP:=zh hp;have bd:q.gq<w.heap.size:=Qc h.look;have am:¬ QS q x w.heap.size:=fun e=>Nat.lt_irrefl _ (h.lt e)
 have ak:=zh am;clear h hE c D ah aj af ac hp am J K ad e1 e2 e3 l0 l1
 go_enter func141,ntmps141
 go_wp2_with fail
 rw[F.o.1,F.o.2.1];refine ab.o.mono ?_;intro e w1 h1;obtain⟨B,h1⟩:=h1;have M:w.heap.size≤(w.alloc (.cells zc 143)).heap.size:=by simp
 have ai:(w.alloc (.cells zc 143)).heap.size=w.heap.size+1:=by simp
 have a8:w.heap.size<w1.heap.size:=by
  obtain⟨_,_,hf,_⟩:=B
  have:=hf.size
  simp at this;omega
 have X:Qw w1 w.heap.size zero8:=by obtain⟨_,_,hf,_⟩:=B;exact Qfa (Qh rfl) hf ak.o
 obtain⟨x1,v,an,ap,l⟩:=B.env HE.o;have P:Fr (QS q x) w w1:=(Fr.ofBelow (Qa w _)).trans ap;have E:Sub w (QS q x) (QS q x1):=l.mono M;have aa:=zh P;have A:=zh E;have ax:=zh (show ¬ QS q x1 w.heap.size from fun e=>(l _ e).elim (fun e=>ak.o e) (fun hle=>by rw[ai] at hle;omega));have U:=zh v;have ay:=zh an;have a0:=zh ae;have ba:q.gq<w1.heap.size:=Qc v.look;clear B v an ap l P E ae ab HE;obtain⟨o1,s1⟩:=r1;rcases h1 with ⟨ha,hr,rfl⟩|⟨p,u,hh,hr,rfl,r⟩
 ·try dsimp only at hr
  subst hr;obtain⟨W2,n⟩:∃ W2,W2=(w1.alloc (.cells zc 143)).setRow w1.heap.size (h8 ha):=⟨_,rfl⟩
  have g:Below w1.heap.size w1 W2:=by rw[n];exact below_setRow (Qa w1 _) (Nat.le_refl _) _
  have k1:Qw W2 w1.heap.size ha:=by rw[n];exact Qx (Qh rfl) _
  have k0:Qw W2 w.heap.size zero8:=Qg X g;have kz:w1.heap.size<W2.heap.size:=by rw[n];simp
  have ao:(Qat N lv (2*index+1) s1).1≠.error .panic:=fun e=>by
   apply HP.o;rw[C.o];dsimp only;cases hq:Qat N lv (2*index+1) s1 with
   | mk o s2=>
    rw[hq] at e;dsimp only at e;subst e;rfl
  have a7:=zh (Qj3 f W2 q x1 N s1 d (U.o.below g) (ay.o.below g) lv (2*index+1) aq.o.1 aq.o.2 a4 hN a0.o ao);have G:=zh g;have K1:=zh k1;have K0:=zh k0;have a6:=zh n;have a1:Qw ((w1.alloc (.cells zc 143)).setRow w1.heap.size (h8 ha)) w1.heap.size ha:=Qx (Qh rfl) _;clear g k1 k0 ao X n
  go_wp2_with (first|((first|refine Qz rfl 143 _ rfl _ rfl _ underlying143 info8 ?_ ?_ ?_|refine Qt rfl 143 _ _ rfl _ _ rfl rfl info8 ?_ ?_ ?_);rotate_left;focus((repeat(first|(with_reducible first|assumption|exact Qj ⟨_,by assumption⟩ _)|((with_reducible first|refine Qh ?_|refine Q2 ?_|refine Qj (Zb ?_) _);(first|rfl|(simp;done)|(simp;omega)))|with_reducible refine Qp ?_ _|((with_reducible refine Qi ?_ _ ?_);rotate_left;(focus(first|(simp;done)|(simp;omega)|omega)))|with_reducible first|refine Qo ?_|refine Qg ?_ (by assumption)));done)))
  rw[F.o.1,F.o.2.2,←a6.o];clear a1;refine a7.o.mono ?_;intro e w2 h2;obtain⟨a5,h2⟩:=h2;have ar:¬ QS q x1 w1.heap.size:=fun e=>Nat.lt_irrefl _ (U.o.lt e)
  obtain⟨x2,Q,m,z⟩:=a5;have au:Qw w2 w1.heap.size ha:=Qfa K1.o m ar;have L:Qw w2 w.heap.size zero8:=Qfa K0.o m ax.o;have t:Y7 w q x N d w2 (Qat N lv (2*index+1) s1).2:=Y7.trans (b:=W2) (y:=x1) (aa.o.trans (Fr.ofBelow G.o)) A.o ⟨x2,Q,m,z⟩;have a9:w1.heap.size<w2.heap.size:=Nat.lt_of_lt_of_le kz m.size;obtain⟨r2,ag⟩:∃ r2,r2=Qat N lv (2*index+1) s1:=⟨_,rfl⟩
  rw[←ag] at h2 t;have av:=zh ag;have aw:=zh t;clear Q m z t ag ar;obtain⟨o2,s2⟩:=r2;have Y:∀ (k bb:Hsh) (w3:World),Below w2.heap.size ((w2.alloc (.cells zc 143)).setRow w2.heap.size (h8 bb)) w3→Y7 w q x N d (w3.setRow w.heap.size (h8 k)) s2∧Qw w3 w.heap.size zero8∧Below w2.heap.size w2 w3:=fun k bb w3 hb3=>by have a2:Below w2.heap.size w2 ((w2.alloc (.cells zc 143)).setRow w2.heap.size (h8 bb)):=below_setRow (Qa w2 _) (Nat.le_refl _) _;have W:=a2.trans hb3;have al:=Qg L W;exact⟨(aw.o.below W).own (J5 w3 w.heap.size _) al (by decide) (Nat.le_refl _),al,W⟩
  have Z:=zh Y;clear Y;rcases h2 with ⟨a,hr,rfl⟩|⟨p,u,a,hr,rfl,r⟩
  ·try dsimp only at hr
   subst hr;have q1:Qw ((w2.alloc (.cells zc 143)).setRow w2.heap.size (h8 a)) w1.heap.size ha:=Qi (Qp au _) _ (by omega);have q2:Qw ((w2.alloc (.cells zc 143)).setRow w2.heap.size (h8 a)) w2.heap.size a:=Qx (Qh rfl) _;have q3:Qw ((w2.alloc (.cells zc 143)).setRow w2.heap.size (h8 a)) w.heap.size zero8:=Qi (Qp L _) _ (by omega)
   go_wp2_with (first|((first|refine Qz rfl 143 _ rfl _ rfl _ underlying143 info8 ?_ ?_ ?_|refine Qt rfl 143 _ _ rfl _ _ rfl rfl info8 ?_ ?_ ?_);rotate_left;focus((repeat(first|(with_reducible first|assumption|exact Qj ⟨_,by assumption⟩ _)|((with_reducible first|refine Qh ?_|refine Q2 ?_|refine Qj (Zb ?_) _);(first|rfl|(simp;done)|(simp;omega)))|with_reducible refine Qp ?_ _|((with_reducible refine Qi ?_ _ ?_);rotate_left;(focus(first|(simp;done)|(simp;omega)|omega)))|with_reducible first|refine Qo ?_|refine Qg ?_ (by assumption)));done)))
   refine (Qbz ha a _).mono ?_;rintro e w3 ⟨rfl,i⟩;have r1:=Qg q3 i;have V:=zh (i.mono (show w2.heap.size≤((w2.alloc (.cells zc 143)).setRow w2.heap.size (h8 a)).heap.size by simp));clear q1 q2 q3 i
   go_wp2_with (first|((first|refine Qz rfl 143 _ rfl _ rfl _ underlying143 info8 ?_ ?_ ?_|refine Qt rfl 143 _ _ rfl _ _ rfl rfl info8 ?_ ?_ ?_);rotate_left;focus((repeat(first|(with_reducible first|assumption|exact Qj ⟨_,by assumption⟩ _)|((with_reducible first|refine Qh ?_|refine Q2 ?_|refine Qj (Zb ?_) _);(first|rfl|(simp;done)|(simp;omega)))|with_reducible refine Qp ?_ _|((with_reducible refine Qi ?_ _ ?_);rotate_left;(focus(first|(simp;done)|(simp;omega)|omega)))|with_reducible first|refine Qo ?_|refine Qg ?_ (by assumption)));done)))
   refine ret8t w.heap.size (Z1 ha a) .nilIface rfl rfl rfl _ underlying143 info8 (Qx r1 _) rfl ?_;rw[C.o,←av.o];exact⟨(Z.o _ a w3 V.o).1,.inl ⟨_,rfl,rfl⟩⟩
  ·try dsimp only at hr
   subst hr;have I:=zh r;obtain⟨q9,rfl,a3,O⟩:=r;clear O;have q1:Qw ((w2.alloc (.cells zc 143)).setRow w2.heap.size (h8 a)) w1.heap.size ha:=Qi (Qp au _) _ (by omega);have q2:Qw ((w2.alloc (.cells zc 143)).setRow w2.heap.size (h8 a)) w2.heap.size a:=Qx (Qh rfl) _;have q3:Qw ((w2.alloc (.cells zc 143)).setRow w2.heap.size (h8 a)) w.heap.size zero8:=Qi (Qp L _) _ (by omega)
   go_wp2_with (first|((first|refine Qz rfl 143 _ rfl _ rfl _ underlying143 info8 ?_ ?_ ?_|refine Qt rfl 143 _ _ rfl _ _ rfl rfl info8 ?_ ?_ ?_);rotate_left;focus((repeat(first|(with_reducible first|assumption|exact Qj ⟨_,by assumption⟩ _)|((with_reducible first|refine Qh ?_|refine Q2 ?_|refine Qj (Zb ?_) _);(first|rfl|(simp;done)|(simp;omega)))|with_reducible refine Qp ?_ _|((with_reducible refine Qi ?_ _ ?_);rotate_left;(focus(first|(simp;done)|(simp;omega)|omega)))|with_reducible first|refine Qo ?_|refine Qg ?_ (by assumption)));done)))
   refine (Qbz ha a _).mono ?_;rintro e w3 ⟨rfl,i⟩;have r1:=Qg q3 i;have V:=zh (i.mono (show w2.heap.size≤((w2.alloc (.cells zc 143)).setRow w2.heap.size (h8 a)).heap.size by simp));clear q1 q2 q3 i
   go_wp2_with (first|((first|refine Qz rfl 143 _ rfl _ rfl _ underlying143 info8 ?_ ?_ ?_|refine Qt rfl 143 _ _ rfl _ _ rfl rfl info8 ?_ ?_ ?_);rotate_left;focus((repeat(first|(with_reducible first|assumption|exact Qj ⟨_,by assumption⟩ _)|((with_reducible first|refine Qh ?_|refine Q2 ?_|refine Qj (Zb ?_) _);(first|rfl|(simp;done)|(simp;omega)))|with_reducible refine Qp ?_ _|((with_reducible refine Qi ?_ _ ?_);rotate_left;(focus(first|(simp;done)|(simp;omega)|omega)))|with_reducible first|refine Qo ?_|refine Qg ?_ (by assumption)));done)))
   refine ret8t w.heap.size (Z1 ha a) _ rfl rfl rfl _ underlying143 info8 (Qx r1 _) rfl ?_;rw[C.o,←av.o];obtain⟨f1,f2,f3⟩:=Z.o (Z1 ha a) a w3 V.o;refine⟨f1,.inr ⟨p,_,_,rfl,rfl,?_⟩⟩;have T:Y8 f w3 W2.heap.size p _:=I.o.fr (S:=fun _=>False) (ts:=[]) (Fr.ofBelow f3) (fun _ _ _ _ h=>h.elim) (by decide);exact (T.fr (J5 w3 w.heap.size _) (Q5 f2) (by decide)).low (by omega)
 ·try dsimp only at hr
  subst hr;have I:=zh r;obtain⟨q9,rfl,a3,O⟩:=r;have k1:Qw ((w1.alloc (.cells zc 143)).setRow w1.heap.size (h8 hh)) w1.heap.size hh:=Qx (Qh rfl) _;have g:Below w1.heap.size w1 ((w1.alloc (.cells zc 143)).setRow w1.heap.size (h8 hh)):=below_setRow (Qa w1 _) (Nat.le_refl _) _;have k0:Qw ((w1.alloc (.cells zc 143)).setRow w1.heap.size (h8 hh)) w.heap.size zero8:=Qg X g;have G:=zh g;clear O g
  go_wp2_with (first|((first|refine Qz rfl 143 _ rfl _ rfl _ underlying143 info8 ?_ ?_ ?_|refine Qt rfl 143 _ _ rfl _ _ rfl rfl info8 ?_ ?_ ?_);rotate_left;focus((repeat(first|(with_reducible first|assumption|exact Qj ⟨_,by assumption⟩ _)|((with_reducible first|refine Qh ?_|refine Q2 ?_|refine Qj (Zb ?_) _);(first|rfl|(simp;done)|(simp;omega)))|with_reducible refine Qp ?_ _|((with_reducible refine Qi ?_ _ ?_);rotate_left;(focus(first|(simp;done)|(simp;omega)|omega)))|with_reducible first|refine Qo ?_|refine Qg ?_ (by assumption)));done)))
  refine ret8t w.heap.size zero8 _ rfl rfl rfl _ underlying143 info8 (Qx k0 _) rfl ?_;rw[C.o];dsimp only;refine⟨((Y7.trans aa.o A.o (Y7.here U.o)).below G.o).own (J5 _ w.heap.size _) k0 (by decide) (Nat.le_refl _),.inr ⟨p,_,zero8,rfl,rfl,?_⟩⟩;have T:Y8 f _ _ p _:=I.o.fr (S:=fun _=>False) (ts:=[]) (Fr.ofBelow G.o) (fun _ _ _ _ h=>h.elim) (by decide);exact (T.fr (J5 _ w.heap.size _) (Q5 k0) (by decide)).low M
theorem Q2p (N level index:Nat):1≤(Qku N level index).length∧(level%2=1→(Qku N level index).length=2):=by
 have:=(inferInstance:Inhabited OutT)
 unfold Qku
 split
 ·exact⟨by simp[Qs1],fun _=>by simp[Qs1]⟩
 ·exact⟨by simp[Qs1],fun h=>by contradiction⟩
theorem Q35 (f:Nat→Addr) (w:World) (q:Qf) (x:Qv) (N:Nat) (s:Cs) (d:Dk) (h:QIs w q x N s d) (hE:EnvS f (QS q x) w) (level index:Nat) (hlv:level≤62) (hi:(index+1)*2 ^ level≤N) (hN:N<9223372036854775808) (hb:Bnd s (Qku N level index).length) (hp:(Qej N level index s).1≠.error .panic) :
  Calls prog 141 #[.pointer (some ⟨q.gq,0,none⟩),.int .i64 level,.int .i64 index] w (Qbh f w q x N d (Qej N level index s)):=by
 obtain⟨h1,h2⟩:=Q2p N level index;by_cases ho:level%2=1
 ·rw[h2 ho] at hb
  exact Q4f f w q x N s d h hE level index ho hlv hi hN hb hp
 ·have e:Qej N level index=Qat N level index:=by unfold Qej;rw[if_neg ho]
  rw[e] at hp ⊢;exact Qj3 f w q x N s d h hE level index (by omega) hlv hi hN (hb.less h1) hp
end
end
section
section
variable [Inhabited OutT]
structure ClAt (w:World) (q:Qf) (x:Qv) (g1 g3:Nat):Prop where
 c1:w.cell? ⟨g1,0,none⟩=some (.func (.func 141) #[.pointer (some ⟨q.gq,0,none⟩)] #[])
 c3:w.cell? ⟨g3,0,none⟩=some (.func (.func 180) #[] #[.pointer (some ⟨g1,0,none⟩),.pointer (some ⟨g3,0,none⟩)])
 n1:¬ QS q x g1
 n3:¬ QS q x g3
variable {w w':World} {q:Qf} {x:Qv} {g1 g3:Nat}
theorem ClAt.below (h:ClAt w q x g1 g3) (hb:Below w.heap.size w w'):ClAt w' q x g1 g3:=have:=(inferInstance:Inhabited OutT);⟨(hb.cell (p:=⟨g1,0,none⟩) (Qk h.c1)).trans h.c1,(hb.cell (p:=⟨g3,0,none⟩) (Qk h.c3)).trans h.c3,h.n1,h.n3⟩
variable {y:Qv}
theorem ClAt.step (h:ClAt w q x g1 g3) (hf:Fr (QS q x) w w') (hs:Sub w (QS q x) (QS q y)):ClAt w' q y g1 g3:=have:=(inferInstance:Inhabited OutT);⟨hf.cell h.c1 h.n1,hf.cell h.c3 h.n3,fun e=>(hs _ e).elim h.n1 (fun hle=>by have:=Qk h.c1;dsimp only at this;omega),fun e=>(hs _ e).elim h.n3 (fun hle=>by have:=Qk h.c3;dsimp only at this;omega)⟩
variable {F:Nat→Addr} {N:Nat} {d:Dk} {r:Except QErr Hsh×Cs}
theorem Qcn {e:Ending} (h:Qbh F w q x N d r e w') :
  ∃ k u,e=.returned (.tuple #[.agg (h8 k),u])∧Y7 w q x N d w' r.2∧((r.1=.ok k∧u=.nilIface)∨∃ p,r.1=.error (.miss p)∧Y8 F w' w.heap.size p u):=by
 obtain⟨h1,⟨k,h2,h3⟩|⟨p,u,k,h2,h3,h4⟩⟩:=h
 ·exact⟨k,.nilIface,h3,h1,.inl ⟨h2,rfl⟩⟩
 ·exact⟨k,u,h3,h1,.inr ⟨p,h2,h4⟩⟩
variable {w2 wf:World} {k k0:Hsh} {u:Value} {g:Nat}
theorem Q5j {w0:World} (hs:Y7 w0 q y N d w2 r.2) (hv:(r.1=.ok k∧u=.nilIface)∨∃ p,r.1=.error (.miss p)∧Y8 F w2 w0.heap.size p u) (hz:Qw w2 g k0) (hf:Fr (QS q x) w w0) (hsub:Sub w (QS q x) (QS q y)) (hg:w.heap.size≤g) (hsz:w.heap.size≤w0.heap.size) (hw:Fr (·=g) w2 wf) :
  Qbh F w q x N d r (.returned (.tuple #[.agg (h8 k),u])) wf:=by
 refine⟨(Y7.trans hf hsub hs).own hw hz (by decide) hg,?_⟩;rcases hv with ⟨h1,rfl⟩|⟨p,h1,h2⟩
 ·exact .inl ⟨k,h1,rfl⟩
 ·exact .inr ⟨p,u,k,h1,rfl,(h2.fr hw (Q5 hz) (by decide)).low hsz⟩
section
attribute [local go_sem] h8_0 h8_1 h8_2 h8_3 h8_4 h8_5 h8_6 h8_7 Qbm h8_size Qa7
theorem Q1z (F:Nat→Addr) (w:World) (q:Qf) (x:Qv) (N:Nat) (s:Cs) (d:Dk) (h:QIs w q x N s d) (hE:EnvS F (QS q x) w) (g1 g3 i n:Nat) (lo hi:Int) (hc:ClAt w q x g1 g3) (hlo:lo=i) (hhi:hi=i+n) (h1:1≤n) (hin:i+n≤N) (hN:N<9223372036854775808) (hpr:n &&& (n-1)=0∧i%n=0)
  (hb:Bnd s (Qku N (Lib.bitLen n-1) (i / n)).length) (hpp:(Qej N (Lib.bitLen n-1) (i / n) s).1≠.error .panic) :
  Calls prog 180 #[.int .i64 lo,.int .i64 hi,.pointer (some ⟨g1,0,none⟩),.pointer (some ⟨g3,0,none⟩)] w (Qbh F w q x N d (Qej N (Lib.bitLen n-1) (i / n) s)):=by
 have hA:=Qt3 n (n-1) (by omega) (by omega);have m:((n-1:Nat):Int)=hi-lo-1:=by omega
 have c:(n:Int)=hi-lo:=by omega
 rw[m,c] at hA;have hm:lo%(hi-lo)=((i%n:Nat):Int):=by rw[←c,hlo];rfl
 have l0:0≤lo:=by omega
 have l1:lo<hi:=by omega
 have l2:hi≤9223372036854775807:=by omega
 obtain⟨hp,hr⟩:=hpr;rw[hp] at hA;have tm:(lo%(hi-lo) == 0)=true:=by rw[hm,hr];rfl
 have ta:(bits .and .i64 (hi-lo) (hi-lo-1) == 0)=true:=by rw[hA];rfl
 have a:=Qdb h1 (by omega) hp;obtain⟨e,he⟩:∃ e,Lib.bitLen n=e+1:=by
  refine⟨Lib.bitLen n-1,?_⟩
  have:=(Lib.bitLenAux_bounds 64 n (by omega) (by omega)).1
  have hb:Lib.bitLen n=Lib.bitLenAux 64 n:=rfl;omega
 rw[he,Nat.add_sub_cancel] at a hb hpp ⊢;have v:e≤62:=by
  rcases Nat.lt_or_ge 62 e with C|D
  ·have:=Nat.pow_le_pow_right (n:=2) (by decide) C
   omega
  ·exact D
 have HE:=zh he;have H:decide (hi-lo=0)=false:=decide_eq_false (by omega);have hdiv:i / n*n=i:=by have:=Nat.div_add_mod i n;rw[hr] at this;rw[Nat.mul_comm];omega
 have hq:(i / n+1)*2 ^ e≤N:=by rw[←a,Nat.add_mul,hdiv];omega
 have b0:Below w.heap.size w (w.alloc (.cells zc 143)).drew:=(Qa w _).drew;have f:=zh (Q35 F _ q x N s d (h.below b0) (hE.below b0) e (i / n) v hq hN hb hpp);have j:lo / 2 ^ e=((i / n:Nat):Int):=by rw[hlo,a];simp
 have E:=zh j;have B:=zh c;have gl:=Qk hc.c1;have d1:=hc.c1;have I:(w.alloc (.cells zc 143)).drew.cell? ⟨g1,0,none⟩=some (.func (.func 141) #[.pointer (some ⟨q.gq,0,none⟩)] #[]):=(b0.cell (p:=⟨g1,0,none⟩) gl).trans d1;have l:¬ QS q x w.heap.size:=fun e=>Nat.lt_irrefl _ (h.lt e)
 have y:=zh l;obtain⟨R,hR⟩:∃ R,R=Qej N e (i / n) s:=⟨_,rfl⟩
 rw[←hR] at f hpp ⊢;clear h hE hc a hp hr hdiv he c m hA hm hlo hhi j hq hb l b0 hpp
 go_enter func180,ntmps180
 go_wp2_with fail
 refine (bits_Len _ _ (by omega) (by omega)).mono ?_;rintro e' w1 ⟨rfl,rfl⟩;have ht:Lib.bitLen (hi-lo).toNat=e+1:=by rw[←HE.o,←B.o];rfl
 rw[ht];clear ht
 go_wp2_with fail
 go_region_with (go_at_call 141;rw[E.o];refine f.o.mono ?_;intro e' w2 h2;obtain⟨k,u,rfl,g,r⟩:=Qcn h2;have z:=zh g;have A:=zh r;have b:Qw w2 w.heap.size zero8:=(by obtain⟨_,_,hf,_⟩:=g;exact Qfa (Qo (Qh rfl)) hf y.o);have hz:w.heap.size<w2.heap.size:=Qc b;have G:Is8 w2 w.heap.size:=⟨zero8,b⟩;have t:=zh b;clear h2 g r b)
 go_wp2;refine ret8t w.heap.size k u rfl rfl rfl _ underlying143 info8 (Qx t.o _) rfl ?_;exact Q5j z.o A.o t.o (Fr.ofBelow ((Qa w _).drew)) (Sub.refl _ _) (Nat.le_refl _) (by simp) (J5 w2 w.heap.size _)
theorem Q4k {W2 w3:World} {f i n:Nat} {s1:Cs} {R:Except QErr Hsh×Cs} {ha:Hsh}
  (hR:R=match rootQ N f i n s1 with
   | (.ok b,s2)=>Qm.pure (Z1 ha b) s2
   | (.error p,s2)=>(.error p,s2))
  (hs:Y7 W2 q y N d w2 (rootQ N f i n s1).2) (hv:((rootQ N f i n s1).1=.ok k∧u=.nilIface)∨∃ p,(rootQ N f i n s1).1=.error (.miss p)∧Y8 F w2 W2.heap.size p u) (hb:Below w2.heap.size w2 w3) (hz:Qw w3 g k0) (hf:Fr (QS q x) w W2) (hsub:Sub w (QS q x) (QS q y)) (hg:w.heap.size≤g) (hsz:w.heap.size≤W2.heap.size) (hw:Fr (·=g) w3 wf) :
  Qbh F w q x N d R (.returned (.tuple #[.agg (h8 (Z1 ha k)),u])) wf:=by
 have a:Y7 w q x N d wf (rootQ N f i n s1).2:=((Y7.trans hf hsub hs).below hb).own hw hz (by decide) hg
 cases hq:rootQ N f i n s1 with
 | mk o s2=>
  rw[hq] at hR hv a
  dsimp only at hv a
  rcases hv with ⟨h1,rfl⟩|⟨p,h1,h2⟩
  ·subst h1
   rw[hR]
   exact⟨a,.inl ⟨_,rfl,rfl⟩⟩
  ·subst h1
   rw[hR]
   have c:Y8 F w3 W2.heap.size p u:=h2.fr (S:=fun _=>False) (ts:=[]) (Fr.ofBelow hb) (fun _ _ _ _ h=>h.elim) (by decide)
   exact⟨a,.inr ⟨p,u,_,rfl,rfl,(c.fr hw (Q5 hz) (by decide)).low hsz⟩⟩
theorem Q0d (F:Nat→Addr) (q:Qf) (N:Nat) (d:Dk) (g1 g3:Nat) (hN:N<9223372036854775808) (f:Nat):∀ (i n:Nat) (lo hi:Int) (w:World) (x:Qv) (s:Cs),QIs w q x N s d→EnvS F (QS q x) w→ClAt w q x g1 g3→lo=i→hi=i+n→n≤f→1≤n→i+n≤N→
  Bnd s (Qce N f i n).length→(rootQ N f i n s).1≠.error .panic→
  Calls prog 180 #[.int .i64 lo,.int .i64 hi,.pointer (some ⟨g1,0,none⟩),.pointer (some ⟨g3,0,none⟩)] w (Qbh F w q x N d (rootQ N f i n s)):=by
 induction f with
 | zero=>intros;omega
 | succ f ih=>
  intro i n lo hi w x s h hE hc A ag hf h1 ab hb hp;by_cases hpr:n &&& (n-1)=0∧i%n=0
  ·rw[Qce,if_pos hpr] at hb
   rw[rootQ,if_pos hpr] at hp ⊢;exact Q1z F w q x N s d h hE g1 g3 i n lo hi hc A ag h1 ab hN hpr hb hp
  ·rw[Qce,if_neg hpr,List.length_append] at hb
   obtain⟨R,b⟩:∃ R,R=rootQ N (f+1) i n s:=⟨_,rfl⟩
   rw[←b] at hp ⊢;rw[rootQ,if_neg hpr] at b;have hA:=Qt3 n (n-1) (by omega) (by omega);have g:((n-1:Nat):Int)=hi-lo-1:=by omega
   have v:(n:Int)=hi-lo:=by omega
   rw[g,v] at hA;have hm:lo%(hi-lo)=((i%n:Nat):Int):=by rw[←v,A];rfl
   have l0:0≤lo:=by omega
   have l1:lo<hi:=by omega
   have l2:hi≤9223372036854775807:=by omega
   have Q:((bits .and .i64 (hi-lo) (hi-lo-1) == 0)=true∧(lo%(hi-lo) == 0)=false)∨(bits .and .i64 (hi-lo) (hi-lo-1) == 0)=false:=by
    by_cases hp:n &&& (n-1)=0
    ·refine .inl ⟨by rw[hA,hp];rfl,?_⟩
     have hr:¬ i%n=0:=fun e=>hpr ⟨hp,e⟩
     rw[hm,beq_eq_false_iff_ne];omega
    ·refine .inr ?_
     rw[hA,beq_eq_false_iff_ne];omega
   have Y:2≤n:=by
    rcases Nat.lt_or_ge n 2 with be|a0
    ·obtain rfl:n=1:=by omega
     exact absurd ⟨rfl,Nat.mod_one i⟩ hpr
    ·exact a0
   have bb:decide (hi-lo=0)=false:=decide_eq_false (by omega);have ad:=Yi Y;obtain⟨k,hk⟩:∃ k,k=below n:=⟨_,rfl⟩
   rw[←hk] at ad b hb;unfold Qm.bind at b;have T:(rootQ N f i k s).1≠.error .panic:=fun e=>by
    apply hp;rw[b];cases hq:rootQ N f i k s with
    | mk o s1=>
     rw[hq] at e;dsimp only at e;subst e;rfl
   have m:=Qa w (.cells zc 143);have ac:=zh (fun lo hi e1' e2'=>ih i k lo hi _ x s (h.below m) (hE.below m) (hc.below m) e1' e2' (by omega) (by omega) (by omega) (hb.less (Nat.le_add_right _ _)) T);have O:Bnd (rootQ N f i k s).2 (Qce N f (i+k) (n-k)).length:=hb.next (Qdy N f i k) (Qeo (Qd6 s.net) N f i k s (Qd1.refl _));have ap:=zh (fun lo hi w x s h hE hc e1' e2' hb hp=>ih (i+k) (n-k) lo hi w x s h hE hc e1' e2' (by omega) (by omega) (by omega) hb hp);obtain⟨r1,P⟩:∃ r1,r1=rootQ N f i k s:=⟨_,rfl⟩
   rw[←P] at ac O;rw[←P] at b;have bf:(k:Int)<hi-lo:=by omega
   have bg:(1:Int)≤k:=by omega
   have HK:=zh (show (below (hi-lo).toNat:Int)=k by rw[←v,Int.toNat_natCast,hk]);have aa:=zh A;have ay:=zh (show hi=((i+k:Nat):Int)+((n-k:Nat):Int) by omega);have a2:=zh (show lo+k=((i+k:Nat):Int) by omega);have bc:2≤hi-lo:=by omega
   have H:=zh h;have HE:=zh (hE.below m);have HC:=zh (hc.below m);have L:=zh b;have HP:=zh hp;have au:=zh O;have V:¬ QS q x w.heap.size:=fun e=>Nat.lt_irrefl _ (h.lt e)
   have U:=zh V;have d3:=hc.c3;have bh:=Qk d3;clear ih h hE hc hb hp b P T hpr hA hm v g A ag hf h1 ab hk ad Y m V O;rcases Q with ⟨ta,tm⟩|ta
   all_goals (
    go_enter func180,ntmps180
    go_wp2_with fail
    refine (Qb2 _ _ (by omega) (by omega)).mono ?_
    rintro e w0 ⟨rfl,rfl⟩
    rw[HK.o]
    go_wp2_with fail
    refine (ac.o lo (lo+k) aa.o (by rw[aa.o])).mono ?_
    intro e w1 h1
    obtain⟨ha,u1,rfl,g,ae⟩:=Qcn h1
    have a6:(w.alloc (.cells zc 143)).heap.size=w.heap.size+1:=by simp
    have a7:w.heap.size<w1.heap.size:=by
     obtain⟨_,_,hf,_⟩:=g
     have:=hf.size
     omega
    have I:Qw w1 w.heap.size zero8:=by
     obtain⟨_,_,hf,_⟩:=g
     exact Qfa (Qh rfl) hf U.o
    obtain⟨x1,J,W,K,c⟩:=g.env HE.o
    have G:=HC.o.step K c
    have M:=zh (show Fr (QS q x) w w1 from (Fr.ofBelow (Qa w _)).trans K)
    have u:=zh (show Sub w (QS q x) (QS q x1) from c.mono (by omega))
    have aj:=zh (show ¬ QS q x1 w.heap.size from fun e=>(c _ e).elim (fun e=>U.o e) (fun hle=>by omega))
    have E:=zh J
    have am:=zh W
    have ax:=zh G
    have ba:g3<w1.heap.size:=Qk G.c3
    have a8:=zh ae
    clear g J W K c h1 G
    obtain⟨o1,s1⟩:=r1
    rcases ae with ⟨hr,rfl⟩|⟨p,hr,ai⟩
    ·try dsimp only at hr
     subst hr
     obtain⟨W2,l⟩:∃ W2,W2=(w1.alloc (.cells zc 143)).setRow w1.heap.size (h8 ha):=⟨_,rfl⟩
     have a:Below w1.heap.size w1 W2:=by rw[l];exact below_setRow (Qa w1 _) (Nat.le_refl _) _
     have k1:Qw W2 w1.heap.size ha:=by rw[l];exact Qx (Qh rfl) _
     have k0:Qw W2 w.heap.size zero8:=Qg I a
     have kz:w1.heap.size<W2.heap.size:=by rw[l];simp
     have Z:(rootQ N f (i+k) (n-k) s1).1≠.error .panic:=fun e=>by
      apply HP.o
      rw[L.o]
      dsimp only
      cases hq:rootQ N f (i+k) (n-k) s1 with
      | mk o s2=>
       rw[hq] at e
       dsimp only at e
       subst e
       rfl
     have C:=ax.o.below a
     have az:=zh (ap.o (lo+k) hi W2 x1 s1 (E.o.below a) (am.o.below a) C a2.o ay.o au.o Z)
     have X:=C.c3
     have y:=zh a
     have K1:=zh k1
     have K0:=zh k0
     have a5:=zh l
     have a1:Qw ((w1.alloc (.cells zc 143)).setRow w1.heap.size (h8 ha)) w1.heap.size ha:=Qx (Qh rfl) _
     rw[l] at X
     clear a k1 k0 Z I l C
     go_wp2_with (first|((first|refine Qz rfl 143 _ rfl _ rfl _ underlying143 info8 ?_ ?_ ?_|refine Qt rfl 143 _ _ rfl _ _ rfl rfl info8 ?_ ?_ ?_);rotate_left;focus((repeat(first|(with_reducible first|assumption|exact Qj ⟨_,by assumption⟩ _)|((with_reducible first|refine Qh ?_|refine Q2 ?_|refine Qj (Zb ?_) _);(first|rfl|(simp;done)|(simp;omega)))|with_reducible refine Qp ?_ _|((with_reducible refine Qi ?_ _ ?_);rotate_left;(focus(first|(simp;done)|(simp;omega)|omega)))|with_reducible first|refine Qo ?_|refine Qg ?_ (by assumption)));done)))
     rw[←a5.o]
     clear a1 X
     refine az.o.mono ?_
     intro e w2 h2
     obtain⟨j,u2,rfl,a3,ah⟩:=Qcn h2
     have af:¬ QS q x1 w1.heap.size:=fun e=>Nat.lt_irrefl _ (E.o.lt e)
     obtain⟨x2,D,r,t⟩:=a3
     have a4:Qw w2 w1.heap.size ha:=Qfa K1.o r af
     have al:Qw w2 w.heap.size zero8:=Qfa K0.o r aj.o
     have a9:w1.heap.size<w2.heap.size:=Nat.lt_of_lt_of_le kz r.size
     have an:=zh (show Y7 W2 q x1 N d w2 (rootQ N f (i+k) (n-k) s1).2 from ⟨x2,D,r,t⟩)
     have av:=zh ah
     clear D r t af h2 ah
     have q1:Qw ((w2.alloc (.cells zc 143)).setRow w2.heap.size (h8 j)) w1.heap.size ha:=Qi (Qp a4 _) _ (by omega)
     have q2:Qw ((w2.alloc (.cells zc 143)).setRow w2.heap.size (h8 j)) w2.heap.size j:=Qx (Qh rfl) _
     have q3:Qw ((w2.alloc (.cells zc 143)).setRow w2.heap.size (h8 j)) w.heap.size zero8:=Qi (Qp al _) _ (by omega)
     go_wp2_with (first|((first|refine Qz rfl 143 _ rfl _ rfl _ underlying143 info8 ?_ ?_ ?_|refine Qt rfl 143 _ _ rfl _ _ rfl rfl info8 ?_ ?_ ?_);rotate_left;focus((repeat(first|(with_reducible first|assumption|exact Qj ⟨_,by assumption⟩ _)|((with_reducible first|refine Qh ?_|refine Q2 ?_|refine Qj (Zb ?_) _);(first|rfl|(simp;done)|(simp;omega)))|with_reducible refine Qp ?_ _|((with_reducible refine Qi ?_ _ ?_);rotate_left;(focus(first|(simp;done)|(simp;omega)|omega)))|with_reducible first|refine Qo ?_|refine Qg ?_ (by assumption)));done)))
     refine (Qbz ha j _).mono ?_
     rintro e w3 ⟨rfl,B⟩
     have r1:=Qg q3 B
     have ar:=zh (B.mono (show w2.heap.size≤((w2.alloc (.cells zc 143)).setRow w2.heap.size (h8 j)).heap.size by simp))
     clear q1 q2 q3 B
     go_wp2_with (first|((first|refine Qz rfl 143 _ rfl _ rfl _ underlying143 info8 ?_ ?_ ?_|refine Qt rfl 143 _ _ rfl _ _ rfl rfl info8 ?_ ?_ ?_);rotate_left;focus((repeat(first|(with_reducible first|assumption|exact Qj ⟨_,by assumption⟩ _)|((with_reducible first|refine Qh ?_|refine Q2 ?_|refine Qj (Zb ?_) _);(first|rfl|(simp;done)|(simp;omega)))|with_reducible refine Qp ?_ _|((with_reducible refine Qi ?_ _ ?_);rotate_left;(focus(first|(simp;done)|(simp;omega)|omega)))|with_reducible first|refine Qo ?_|refine Qg ?_ (by assumption)));done)))
     refine ret8t w.heap.size (Z1 ha j) u2 rfl rfl rfl _ underlying143 info8 (Qx r1 _) rfl ?_
     have aw:Below w2.heap.size w2 w3:=(below_setRow (Qa w2 _) (Nat.le_refl _) _).trans ar.o
     refine Q4k (f:=f) (i:=i+k) (n:=n-k) (s1:=s1) (by rw[L.o];generalize rootQ N f (i+k) (n-k) s1=z;obtain⟨o,s2⟩:=z;cases o <;> rfl) an.o av.o aw r1 (M.o.trans (Fr.ofBelow y.o)) u.o (Nat.le_refl _) (by omega) (J5 w3 w.heap.size _)
    ·try dsimp only at hr
     subst hr
     have ak:=zh ai
     obtain⟨q9,rfl,bd,ao⟩:=ai
     have k1:Qw ((w1.alloc (.cells zc 143)).setRow w1.heap.size (h8 ha)) w1.heap.size ha:=Qx (Qh rfl) _
     have a:Below w1.heap.size w1 ((w1.alloc (.cells zc 143)).setRow w1.heap.size (h8 ha)):=below_setRow (Qa w1 _) (Nat.le_refl _) _
     have k0:Qw ((w1.alloc (.cells zc 143)).setRow w1.heap.size (h8 ha)) w.heap.size zero8:=Qg I a
     have y:=zh a
     clear ao a
     go_wp2_with (first|((first|refine Qz rfl 143 _ rfl _ rfl _ underlying143 info8 ?_ ?_ ?_|refine Qt rfl 143 _ _ rfl _ _ rfl rfl info8 ?_ ?_ ?_);rotate_left;focus((repeat(first|(with_reducible first|assumption|exact Qj ⟨_,by assumption⟩ _)|((with_reducible first|refine Qh ?_|refine Q2 ?_|refine Qj (Zb ?_) _);(first|rfl|(simp;done)|(simp;omega)))|with_reducible refine Qp ?_ _|((with_reducible refine Qi ?_ _ ?_);rotate_left;(focus(first|(simp;done)|(simp;omega)|omega)))|with_reducible first|refine Qo ?_|refine Qg ?_ (by assumption)));done))|(refine Qt rfl 143 _ _ rfl _ zero8 rfl (by rw[Qmw];rfl) info8 ?_ ?_ ?_;rotate_left;focus ((repeat(first|(with_reducible first|assumption|exact Qj ⟨_,by assumption⟩ _)|((with_reducible first|refine Qh ?_|refine Q2 ?_|refine Qj (Zb ?_) _);(first|rfl|(simp;done)|(simp;omega)))|with_reducible refine Qp ?_ _|((with_reducible refine Qi ?_ _ ?_);rotate_left;(focus(first|(simp;done)|(simp;omega)|omega)))|with_reducible first|refine Qo ?_|refine Qg ?_ (by assumption)));done)))
     refine ret8t w.heap.size zero8 _ rfl rfl rfl _ underlying143 info8 (Qx k0 _) rfl ?_
     rw[L.o]
     dsimp only
     refine⟨((Y7.trans M.o u.o (Y7.here E.o)).below y.o).own (J5 _ w.heap.size _) k0 (by decide) (Nat.le_refl _),.inr ⟨p,_,zero8,rfl,rfl,?_⟩⟩
     have aq:Y8 F _ _ p _:=ak.o.fr (S:=fun _=>False) (ts:=[]) (Fr.ofBelow y.o) (fun _ _ _ _ h=>h.elim) (by decide)
     exact (aq.fr (J5 _ w.heap.size _) (Q5 k0) (by decide)).low (by omega))
end
end
end
section
theorem Q4o (L:Nat):∀ (i:Nat) (lv ix:Int) (g1 g3:Nat) (v:Value) (ls:List (List UInt8)) (w:World),lv=L→ix=i→L≤40→(i+1)*2 ^ L≤ls.length→ls.length≤1048576→(∀ l∈ls,l.length≤9223372036854775807)→
  w.cell? ⟨g1,0,none⟩=some v→w.cell? ⟨g3,0,none⟩=some (.func (.func 196) #[] #[.pointer (some ⟨g1,0,none⟩),.pointer (some ⟨g3,0,none⟩)])→Qem w v ls→
  Calls prog 196 #[.int .i64 lv,.int .i64 ix,.pointer (some ⟨g1,0,none⟩),.pointer (some ⟨g3,0,none⟩)] w fun e w'=>e=.returned (.tuple #[.agg (h8 (Zu ls L i)),.nilIface])∧Below w.heap.size w w':=by
 induction L with
 | zero=>
  rintro i lv ix g1 g3 v ls w rfl rfl hL hi hl hs c1 c3 h;simp only[Nat.pow_zero,Nat.mul_one] at hi;have k:=Qk c1;obtain⟨vs,H,⟨a,c,rfl,C,hc⟩,m⟩:=h;have B:i<vs.length:=by omega
  obtain⟨b,off,rfl,t⟩:=hc i vs[i] (by simp[B]);have hu:=m i vs[i] ls[i] (by simp[B]) (by simp);have r:=hs ls[i] (List.getElem_mem _);have d:Zu ls 0 i=Jx ls[i]:=by simp[Zu,List.getD,(by omega:i<ls.length)]
  have I:=Qk t;have HU:=zh hu;have HF:=zh d;have HL:=zh r;clear hc m c3 hs hu d r;generalize vs[i]=u at *;generalize ls[i]=l at *;have E:i<ls.length:=by omega
  obtain⟨n,hn⟩:∃ n,n=ls.length:=⟨_,rfl⟩
  rw[←hn] at c1 E C hl;simp only[Int.ofNat_zero] at *
  go_enter func196,ntmps196
  go_wp2_with fail
  refine (Qk4 u l _ (HU.o.below (Qa w _)) HL.o).mono ?_;rintro e w1 ⟨rfl,hb⟩;have g1:Qw w1 w.heap.size zero8:=Qg (Qh rfl) hb
  go_wp2_with (first|((first|refine Qz rfl 143 _ rfl _ rfl _ underlying143 info8 ?_ ?_ ?_|refine Qt rfl 143 _ _ rfl _ _ rfl rfl info8 ?_ ?_ ?_);rotate_left;focus((repeat(first|(with_reducible first|assumption|exact Qj ⟨_,by assumption⟩ _)|((with_reducible first|refine Qh ?_|refine Q2 ?_|refine Qj (Zb ?_) _);(first|rfl|(simp;done)|(simp;omega)))|with_reducible refine Qp ?_ _|((with_reducible refine Qi ?_ _ ?_);rotate_left;(focus(first|(simp;done)|(simp;omega)|omega)))|with_reducible first|refine Qo ?_|refine Qg ?_ (by assumption)));done)))
  refine ret8t w.heap.size (Jx l) .nilIface rfl rfl rfl _ underlying143 info8 (Qx g1 _) rfl ⟨by rw[HF.o],below_setRow ((Qa w _).trans (hb.mono (by simp))) (Nat.le_refl _) _⟩
 | succ L ih=>
  rintro i lv ix g1 g3 v ls w rfl rfl hL hi hl hs c1 c3 h;have hp:2 ^ L≥1:=Nat.two_pow_pos L;have e4:(i+1)*2 ^ (L+1)=(2*i)*2 ^ L+2 ^ L+2 ^ L:=by
   have e1:i*2 ^ (L+1)=(2*i)*2 ^ L:=by rw[Nat.pow_succ,Nat.mul_comm 2 i,Nat.mul_assoc,Nat.mul_comm (2 ^ L) 2]
   rw[Nat.add_mul,Nat.one_mul,e1,Nat.pow_succ];omega
  have e3:(2*i+1)*2 ^ L=(2*i)*2 ^ L+2 ^ L:=by rw[Nat.add_mul,Nat.one_mul]
  have z:(2*i+1)*2 ^ L≤ls.length:=by omega
  have A:(2*i+1+1)*2 ^ L≤ls.length:=by rw[Nat.add_mul (2*i+1),Nat.one_mul];omega
  have F:2*i≤(2*i)*2 ^ L:=Nat.le_mul_of_pos_right _ hp;have J:i≤1048576:=by omega
  have d:Zu ls (L+1) i=Z1 (Zu ls L (2*i)) (Zu ls L (2*i+1)):=rfl;obtain⟨x,hx⟩:∃ x,x=Zu ls L (2*i):=⟨_,rfl⟩
  obtain⟨y,hy⟩:∃ y,y=Zu ls L (2*i+1):=⟨_,rfl⟩
  rw[←hx,←hy] at d;have I1:=zh (fun lv ix w e1 e2=>ih (2*i) lv ix g1 g3 v ls w e1 e2 (by omega) z hl hs);have I2:=zh (fun lv ix w e1 e2=>ih (2*i+1) lv ix g1 g3 v ls w e1 e2 (by omega) A hl hs);rw[←hx] at I1;rw[←hy] at I2;have HF:=zh d;have HH:=zh h;have C1:=zh c1;have k:=Qk c1;have s:=Qk c3;clear ih hs h d hx hy e3 e4 hi z A F hp c1 hl;have G:(((L+1:Nat):Int) == 0)=false:=by rw[beq_eq_false_iff_ne];omega
  go_enter func196,ntmps196
  go_wp2_with fail
  have b0:=Qa w (.cells zc 143);refine (I1.o _ _ _ (by omega) (by omega) ((b0.cell (p:=⟨g1,0,none⟩) k).trans C1.o) ((b0.cell (p:=⟨g3,0,none⟩) s).trans c3) (HH.o.below b0)).mono ?_;rintro e w1 ⟨rfl,g⟩;have B1:=b0.trans (g.mono b0.size);have z1:Qw w1 w.heap.size zero8:=Qg (Qh rfl) g;have s1:w.heap.size+1≤w1.heap.size:=by have:=g.size;simpa using this
  have q:=(B1.cell (p:=⟨g3,0,none⟩) s).trans c3;have D:=Qk q;have BB1:=zh B1;clear b0 g B1 c3 s;have k1:Qw ((w1.alloc (.cells zc 143)).setRow w1.heap.size (h8 x)) w1.heap.size x:=Qx (Qh rfl) _;have k2:Below w.heap.size w ((w1.alloc (.cells zc 143)).setRow w1.heap.size (h8 x)):=below_setRow (BB1.o.alloc BB1.o.size _) BB1.o.size _;have k3:Qw ((w1.alloc (.cells zc 143)).setRow w1.heap.size (h8 x)) w.heap.size zero8:=Qi (Qp z1 _) _ (by omega);have k5:((w1.alloc (.cells zc 143)).setRow w1.heap.size (h8 x)).heap.size=w1.heap.size+1:=by simp
  have k4:((w1.alloc (.cells zc 143)).setRow w1.heap.size (h8 x)).cell? ⟨g3,0,none⟩=some (.func (.func 196) #[] #[.pointer (some ⟨g1,0,none⟩),.pointer (some ⟨g3,0,none⟩)]):=((below_setRow (Qa w1 _) (Nat.le_refl _) _).cell (p:=⟨g3,0,none⟩) D).trans q;have K1:=zh k1;have K2:=zh k2;have K3:=zh k3;have K5:=zh k5;clear k1 k2 k3 k5 q z1
  go_wp2_with (first|((first|refine Qz rfl 143 _ rfl _ rfl _ underlying143 info8 ?_ ?_ ?_|refine Qt rfl 143 _ _ rfl _ _ rfl rfl info8 ?_ ?_ ?_);rotate_left;focus((repeat(first|(with_reducible first|assumption|exact Qj ⟨_,by assumption⟩ _)|((with_reducible first|refine Qh ?_|refine Q2 ?_|refine Qj (Zb ?_) _);(first|rfl|(simp;done)|(simp;omega)))|with_reducible refine Qp ?_ _|((with_reducible refine Qi ?_ _ ?_);rotate_left;(focus(first|(simp;done)|(simp;omega)|omega)))|with_reducible first|refine Qo ?_|refine Qg ?_ (by assumption)));done)))
  generalize ((w1.alloc (.cells zc 143)).setRow w1.heap.size (h8 x))=W2 at *;refine (I2.o _ _ W2 (by omega) (by omega) ((K2.o.cell (p:=⟨g1,0,none⟩) k).trans C1.o) k4 (HH.o.below K2.o)).mono ?_;rintro e w2 ⟨rfl,f⟩;have s2:w1.heap.size+1≤w2.heap.size:=by have:=f.size;rw[K5.o] at this;exact this
  have B2:=zh (K2.o.trans (f.mono K2.o.size));have q1:Qw ((w2.alloc (.cells zc 143)).setRow w2.heap.size (h8 y)) w1.heap.size x:=Qi (Qp (Qg K1.o f) _) _ (by omega);have q2:Qw ((w2.alloc (.cells zc 143)).setRow w2.heap.size (h8 y)) w2.heap.size y:=Qx (Qh rfl) _;have q3:Qw ((w2.alloc (.cells zc 143)).setRow w2.heap.size (h8 y)) w.heap.size zero8:=Qi (Qp (Qg K3.o f) _) _ (by omega);have q4:Below w.heap.size w ((w2.alloc (.cells zc 143)).setRow w2.heap.size (h8 y)):=below_setRow (B2.o.alloc B2.o.size _) B2.o.size _;have Q4:=zh q4;clear f q4 k4
  go_wp2_with (first|((first|refine Qz rfl 143 _ rfl _ rfl _ underlying143 info8 ?_ ?_ ?_|refine Qt rfl 143 _ _ rfl _ _ rfl rfl info8 ?_ ?_ ?_);rotate_left;focus((repeat(first|(with_reducible first|assumption|exact Qj ⟨_,by assumption⟩ _)|((with_reducible first|refine Qh ?_|refine Q2 ?_|refine Qj (Zb ?_) _);(first|rfl|(simp;done)|(simp;omega)))|with_reducible refine Qp ?_ _|((with_reducible refine Qi ?_ _ ?_);rotate_left;(focus(first|(simp;done)|(simp;omega)|omega)))|with_reducible first|refine Qo ?_|refine Qg ?_ (by assumption)));done)))
  refine (Qbz x y _).mono ?_;rintro e w3 ⟨rfl,j⟩;have r1:=Qg q3 j;clear q1 q2 q3;have R1:=zh (Q4.o.trans (j.mono Q4.o.size));clear j
  go_wp2_with (first|((first|refine Qz rfl 143 _ rfl _ rfl _ underlying143 info8 ?_ ?_ ?_|refine Qt rfl 143 _ _ rfl _ _ rfl rfl info8 ?_ ?_ ?_);rotate_left;focus((repeat(first|(with_reducible first|assumption|exact Qj ⟨_,by assumption⟩ _)|((with_reducible first|refine Qh ?_|refine Q2 ?_|refine Qj (Zb ?_) _);(first|rfl|(simp;done)|(simp;omega)))|with_reducible refine Qp ?_ _|((with_reducible refine Qi ?_ _ ?_);rotate_left;(focus(first|(simp;done)|(simp;omega)|omega)))|with_reducible first|refine Qo ?_|refine Qg ?_ (by assumption)));done)))
  refine ret8t w.heap.size (Z1 x y) .nilIface rfl rfl rfl _ underlying143 info8 (Qx r1 _) rfl ⟨by rw[HF.o],below_setRow R1.o (Nat.le_refl _) _⟩
end
end Go.Proofs.YtefccfakhgdfbaaGreatDoor
