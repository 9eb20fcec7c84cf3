/- tiles.Open: a publisher over a store. Conditions: bounds on calls, files, indices, the key. -/
import Derived.Test.YtefccfakhgdfbaaGreatDoorLi16
set_option linter.unusedVariables false
set_option linter.unusedSimpArgs false
open Go.RowKit Go.Proofs.Tryz
set_option maxRecDepth 100000
set_option maxHeartbeats 4000000
namespace Go.Proofs.YtefccfakhgdfbaaGreatDoor
section
def Took (w:World) (g gd:Nat) (ve vl vp:Value) (vs:List Value) (L:Lg) (b:List UInt8) (w':World):Prop:=
 ∃ ve' vl' vs' vs0 u,Zq w' g gd ve' vl' vp vs' { L with entries:=L.entries ++ [b],levels:=levels (L.entries ++ [b]) }∧Fr (LogS g ve vl vp vs) w w'∧Sub w (LogS g ve vl vp vs) (LogS g ve' vl' vp vs')∧
  w.ownsRow 0 147 1 ve L.entries.length vs0∧w'.ownsRow 0 147 1 ve' (L.entries.length+1) (vs0 ++ [u])∧Qy w' w.heap.size u b
variable {w:World}
theorem Qnu {base:Nat} {v:Value} {l:List UInt8} (h:Qy w base v l):∃ a n c,v=.slice a n c:=by
 rcases h with ⟨rfl,_⟩|⟨b,off,c,C,fz,rfl,_⟩
 ·exact⟨_,_,_,rfl⟩
 ·exact⟨_,_,_,rfl⟩
theorem Qs0 {es:List (List UInt8)} (h:es.length≤1048576):(levels es).length<1048576∧∀ r∈levels es,r.length<1099511627776:=by
 have h1:=Qa3 h;refine⟨by simp[levels];omega,fun r hr=>?_⟩;obtain⟨k,hk,rfl⟩:=List.mem_map.1 hr;rw[Qac]
 have:=Nat.div_le_self es.length (4 ^ k)
 omega
theorem Q0b {g gd k:Nat} {ve vl vp:Value} {vs:List Value} {L:Lg} (h:Zq w g gd ve vl vp vs L) {C:Array Value} {f:Nat×Nat} (hk:w.heap[k]?=some (.cells C 147 f)) (hs:LvS g ve vl vp vs k):False:=by
 rcases hs with rfl|hs|⟨v,hv,hs⟩
 ·exact Zp hk h.cells (by decide) rfl
 ·obtain⟨C',h1⟩:=Qe h.rows hs
  exact Zp hk h1 (by decide) rfl
 ·obtain⟨j,hj⟩:=List.mem_iff_getElem?.1 hv
  have hl:vs.length=L.levels.length:=by simpa using h.rows.1
  have a:j<L.levels.length:=by have:=(List.getElem?_eq_some_iff.1 hj).1;omega
  obtain⟨C',h1⟩:=Qe (h.each j v _ hj (List.getElem?_eq_getElem a)) hs;exact Zp hk h1 (by decide) rfl
def Qey (f:Nat→Addr) (g gd:Nat) (ve vl vp:Value) (vs:List Value) (L:Lg) (b:List UInt8) (w:World) (e:Ending) (w':World):Prop:=
 if 20<b.length then e=.returned (.tuple #[.int .i64 0,.iface 370 (.pointer (some (f 0)))])∧Below w.heap.size w w'
 else if L.failed=true then e=.returned (.tuple #[.int .i64 0,.iface 370 (.pointer (some (f 6)))])∧Below w.heap.size w w'
 else e=.returned (.tuple #[.int .i64 L.entries.length,.nilIface])∧Took w g gd ve vl vp vs L b w'
theorem Qy0 (f:Nat→Addr) (w:World) (g gd:Nat) (ve vl vp:Value) (vs:List Value) (L:Lg) (h:Zq w g gd ve vl vp vs L) (va:Value) (b:List UInt8) (hb:Qy w 0 va b) (hn:L.entries.length<1048576) (hlv:L.levels=levels L.entries)
  (hS:Qbs w f):Calls prog 128 #[.pointer (some ⟨g,0,none⟩),va] w (Qey f g gd ve vl vp vs L b w):=by
 obtain⟨s0,_,_,_,_,_,s6⟩:=hS.cells;obtain⟨a,c,rfl⟩:∃ a c,va=.slice a b.length c:=by obtain⟨a,c,h1,_,_⟩:=hb.at;exact⟨a,c,h1⟩
 have HB:=zh hb;have HH:=zh h;have hd:=h.heads;obtain⟨⟨_,_,c2,_,_,c5⟩,f0⟩:=hd;have hg:=Qc h.cells;clear h hb hS;by_cases hlong:20<b.length
 ·have hz:(20:Int)<(b.length:Int):=by omega
  go_enter func128,ntmps128
  go_wp2;go_region
  all_goals (
   go_wp2
   go_ret2
   unfold Qey
   rw[if_pos hlong]
   exact⟨rfl,Qn w⟩)
 ·have hz:¬ (20:Int)<(b.length:Int):=by omega
  have av:b.length≤1048576:=by omega
  cases hfl:L.failed with
  | true=>
   rw[hfl] at c5
   go_enter func128,ntmps128
   go_wp2;go_region
   all_goals (
    go_wp2
    go_ret2
    unfold Qey
    rw[if_neg hlong,if_pos hfl]
    exact⟨rfl,Qn w⟩)
  | false=>
   rw[hfl] at c5;have am:=zh hfl;have H:=zh hlv;obtain⟨z,v,U⟩:=HH.o.ents;obtain⟨a1,d,rfl⟩:=Zi v;obtain⟨ln,y⟩:∃ ln,ln=L.entries.length:=⟨_,rfl⟩
   rw[←y] at c2 hn;have n:w.ownsRow 0 147 1 (.slice a1 ln d) ln z:=by rw[y];exact v
   have W:¬ (Value.slice a1 ln d).ownBlock=some g:=fun e=>by obtain⟨C,hC⟩:=Qe n e;exact Zp HH.o.cells hC (by decide) rfl
   obtain⟨i0,P,K,V,J⟩:=Qpu;have HI:=zh (⟨P,K,V,J⟩:_∧_∧_∧_);have m:=zh y;have q:=zh n;have ad:=zh U;have B:=zh W;clear hfl hlv v U y n W P K V J
   go_enter func128,ntmps128
   go_upto_region 5 with fail
   go_cut [] from 17 to 27 (fun wx=>∃ ve',Aside (Zq wx g gd ve' vl vp vs { L with entries:=L.entries ++ [b] })∧Aside (Fr (LogS g (.slice a1 L.entries.length d) vl vp vs) w wx)∧Aside (Sub w (LogS g (.slice a1 L.entries.length d) vl vp vs) (LogS g ve' vl vp vs))∧Aside (Qy wx 0 (.slice a b.length c) b)∧∃ u,Aside (wx.ownsRow 0 147 1 ve' (ln+1) (z ++ [u]))∧Aside (Qy wx w.heap.size u b))
   case first=>
    go_region_law (first|(go_simp;go_at_call 170;refine (Qf0 _ b _ (HB.o.at.below (Qn w)) (by omega)).mono ?_;rintro e w2 ⟨v2,rfl,G,t⟩;obtain⟨q2,n2,k2,rfl⟩:=Qnu G;have F:=zh G;have i:=zh t;have ao:=(t.cell (p:=⟨g,2,none⟩) hg).trans c2;have ap:=(t.frozen (p:=⟨g,2,none⟩) hg).trans (f0 2);have ar:g<w2.heap.size:=Nat.lt_of_lt_of_le hg t.size;clear G t)|(refine Qcp rfl _ _ _ rfl 0 147 i0 _ 1 24 underlying157 HI.o.1 HI.o.2.1 HI.o.2.2.1 HI.o.2.2.2 rfl (by decide) (by decide) (.slice a1 ln d) ln z rfl (Ql q.o (((Qn w).trans i.o).alloc (Nat.le_trans (Nat.le_refl _) i.o.size) _)) ⟨w2.heap.size,0,none⟩ 1 1 [.slice q2 n2 k2] rfl rfl (cell_one_new _ _ _) (by simp[F.o.one]) (by decide) (by omega) (Nat.zero_le _) ?_;intro v' w' h2 h3 h4 h5;obtain⟨gb,cpb,rfl,aq⟩:=Jm h2 h5;have H2:=zh h2;have H3:=zh ((Fr.ofBelow (S:=fun k=>(Value.slice a1 ln d).ownBlock=some k) (((Qn w).trans i.o).alloc (Nat.le_trans (Nat.le_refl _) i.o.size) (.cells #[.slice q2 n2 k2] 147))).trans (Fr.ofGrown h3 fun k _ e=>e));have M:=zh (Fr.ofGrown (S:=fun k=>(Value.slice a1 ln d).ownBlock=some k) h3 fun k _ e=>e);have H4:=zh ((J2.refl w (.slice a1 ln d)).trans h4 (((Qn w).trans i.o).alloc (Nat.le_trans (Nat.le_refl _) i.o.size) (.cells #[.slice q2 n2 k2] 147)).size);have k3:=H3.o.cell c2 B.o;have k4:=(H3.o.frozen (p:=⟨g,2,none⟩) hg B.o).trans (f0 2);clear h2 h3 h4 h5))
    all_goals (
     go_wp2_with fail
     go_meet
     have B2:Below w.heap.size w (w2.alloc (.cells #[.slice q2 n2 k2] 147)):=((Qn w).trans i.o).alloc (Nat.le_trans (Nat.le_refl _) i.o.size) _
     have aa:Ja w' 0 (.slice (some ⟨gb,0,none⟩) (ln+1) cpb) (L.entries ++ [b]):=
      Ja.push (ls':=[b]) (Ql q.o B2) (fun j u l hu hl=>(ad.o j u l hu hl).below B2) m.o M.o H2.o (by rw[m.o];rfl) (fun j u l hu hl=>by
       cases j with
       | zero=>cases hu;cases hl;exact (F.o.mono (Nat.zero_le _)).below (Qa _ _)
       | succ j=>simp at hu)
     have ak:J2 w (.slice a1 L.entries.length d) (.slice (some ⟨gb,0,none⟩) (ln+1) cpb):=by rw[←m.o];exact H4.o
     have ag:Fr (fun k=>(Value.slice a1 L.entries.length d).ownBlock=some k) w w':=by rw[←m.o];exact H3.o
     have hp:=HH.o.setEnts ag aa ak
     have X:w'.heap[g]?=some (.cells (Qjt gd (.slice a1 L.entries.length d) vl vp L) 237 (0,0)):=H3.o.heap HH.o.cells B.o
     refine⟨_,hp.1,hp.2.1,hp.2.2,?_,_,Q3 H2.o (Fr.set1 w' g 2 _) (fun k hk e=>?_),?_⟩
     ·exact HB.o.same fun k C fz hk=>hp.2.1.block k (Qc hk) fun hS=>HH.o.noBytes k C fz hk hS
     ·obtain⟨C,hC⟩:=Qe H2.o hk
      exact Zp hC X (by decide) e
     ·have o1:Qy (w2.alloc (.cells #[.slice q2 n2 k2] 147)) w.heap.size (.slice q2 n2 k2) b:=(F.o.mono (Qn w).size).below (Qa _ _)
      have o2:Qy w' w.heap.size (.slice q2 n2 k2) b:=o1.same fun k C fz hk=>M.o.block k (Qc hk) fun e=>by
       obtain⟨C',an⟩:=Qe (Ql q.o B2) e
       exact Zp hk an (by decide) rfl
      exact o2.same fun k C fz hk=>(Fr.set1 w' g 2 _).block k (Qc hk) fun e=>Zp hk X (by decide) e)
   case rest=>
    obtain⟨ve',HL,O,T,ab,u,Y,al⟩:=hcut;obtain⟨vse,x,_⟩:=HL.o.ents;obtain⟨ae,ce,rfl⟩:=Zi x;clear x;have au:=HL.o.heads;have R:L.entries.length≤1048576:=by have:=m.o;omega
    have N:=zh (Qs0 R);clear R
    go_wp2_with (first
     | (go_at_call 151;refine (Qk4 _ b _ ab.o.at (by omega)).mono ?_;rintro e w3 ⟨rfl,I⟩;have E:=zh (HL.o.below I);have s:=zh I;clear I)
     | (go_at_call 163;refine (Qxd w3 g gd _ _ _ _ _ E.o (Jx b) (by show L.levels.length<_;rw[H.o];exact N.o.1) (by show ∀ r∈L.levels,_;rw[H.o];exact N.o.2)).mono ?_;rintro e w4 ⟨rfl,af,ah,D,Q,Z⟩;have aj:=zh D;have A:=zh Q;have ac:=zh Z;have ai:=D.heads;clear D Q Z))
    obtain⟨⟨_,_,e2,_,_,_⟩,_⟩:=ai
    go_wp2_with fail
    go_ret2;unfold Qey;rw[if_neg hlong,if_neg (by rw[am.o];decide)];refine⟨?_,.slice ae (L.entries ++ [b]).length ce,af,ah,z,u,?_,?_,?_,?_,?_,?_⟩
    ·simp
     have:=m.o
     unfold wrap64;omega
    ·have:=aj.o
     rw[show Qd7 ({ L with entries:=L.entries ++ [b] }:Lg).levels (Jx b)=levels (L.entries ++ [b]) by show Qd7 L.levels _=_;rw[H.o,Qsx]] at this;exact this
    ·exact (Fr.sub (O.o.trans (Fr.ofBelow s.o)) (A.o.weak fun _ _ h=>h.log) T.o)
    ·exact T.o.trans (Q64 ac.o) (by have:=O.o.size;have:=s.o.size;omega)
    ·rw[←m.o];exact q.o
    ·rw[←m.o]
     exact Q3 (Ql Y.o s.o) A.o fun k hk e=>by obtain⟨C,hC⟩:=Qe (Ql Y.o s.o) hk;exact Q0b E.o hC e
    ·exact (al.o.below s.o).same fun k C fz hk=>A.o.block k (Qc hk) fun e=>E.o.noBytes k C fz hk e.log
end
section
def Qhi (w:World) (gd:Nat) (key:ByteArray) (es:List (List UInt8)) (g:Nat) (w':World):Prop:=
 ∃ ve vl vs,Zq w' g gd ve vl (.slice none 0 0) vs ⟨key,es,levels es,[],false⟩∧w.heap.size≤g∧∀ k,LogS g ve vl (.slice none 0 0) vs k→w.heap.size≤k
def Q2l (w:World) (gd:Nat) (v:Value) (d:Dk) (key:ByteArray) (f:Nat→Addr) (B:Nat) (e:Ending) (w':World):Prop:=
 ∃ d',Q1 w' gd v d'∧Fr (·=gd) w w'∧
  ((∃ q m r p,Hurt B d d'∧e=.returned (.tuple #[.pointer none,.iface 219 (.pointer (some ⟨r,0,none⟩))])∧w.heap.size≤q∧w.heap.size≤r∧w'.heap[q]?=some (.cells #[.int .i64 m] 398 (0,0))∧
    w'.heap[r]?=some (.cells #[.string p,.iface 218 (.pointer (some ⟨q,0,none⟩))] 221 (0,0)))∨
     (Calm B d d'∧Yh d.files key (.bad 3 ⟨#[]⟩)∧e=.returned (.tuple #[.pointer none,.iface 370 (.pointer (some (f 2)))]))∨
     (Calm B d d'∧Yh d.files key (.bad 5 ⟨#[]⟩)∧e=.returned (.tuple #[.pointer none,.iface 370 (.pointer (some (f 4)))]))∨
     (∃ p r,Calm B d d'∧Yh d.files key (.bad 6 p)∧e=.returned (.tuple #[.pointer none,.iface 219 (.pointer (some ⟨r,0,none⟩))])∧w.heap.size≤r∧
    w'.heap[r]?=some (.cells #[.string p,.iface 370 (.pointer (some (f 5)))] 221 (0,0)))∨
     (∃ es n g,Calm B d d'∧Yh d.files key (.good es n)∧e=.returned (.tuple #[.pointer (some ⟨g,0,none⟩),.nilIface])∧Qhi w gd key es g w'))
theorem Q7j (w:World) (gd:Nat) (key:ByteArray):Zq (w.alloc (.cells #[.iface 50 (.pointer (some ⟨gd,0,none⟩)),.string key,.slice none 0 0,.slice none 0 0,.slice none 0 0,.bool false] 237)) w.heap.size gd (.slice none 0 0) (.slice none 0 0) (.slice none 0 0) [] ⟨key,[],[],[],false⟩ where
 cells:=heap_alloc_new w _
 ents:=⟨[],World.ownsRow_nil _ _ _ _,fun j u l hu=>by simp at hu⟩
 rows:=World.ownsRow_nil _ _ _ _
 each:=fun j v r hv=>by simp at hv
 apart:=fun i j a b k ha=>by simp at ha
 puts:=World.ownsRow_nil _ _ _ _
variable {g:Nat}
theorem Qqf {k:Nat} (h:LogS g (.slice none 0 0) (.slice none 0 0) (.slice none 0 0) [] k):k=g:=by
 rcases h with h|h|h|h|⟨v,h,_⟩
 ·exact h
 ·simp[Value.ownBlock] at h
 ·simp[Value.ownBlock] at h
 ·simp[Value.ownBlock] at h
 ·simp at h
theorem Q4t (w:World) (x:Value):(binOp .eql 234 (.iface 50 x) .nilIface).run prog w=.ok (.bool false) w:=by
 have h:∀ d:Nat,(Op.equalIn (d+1) 234 (.iface 50 x) .nilIface).run prog w=.ok false w:=fun d=>by simp[Op.equalIn,run_underlying underlying234]
 simp only[binOp];simp[Op.equal,Op.maxDepth,h 9999]
variable {w w1 w2:World} {gd:Nat} {v ve:Value} {L:Lg} {d1:Dk} {es1:List (List UInt8)}
theorem Lkd.trans {vl vp ve1 ve2:Value} {vs:List Value} {d2:Dk} {es2:List (List UInt8)} (h:Lkd w g gd v ve vl vp vs L ve1 d1 es1 w1) (k:Lkd w1 g gd v ve1 vl vp vs { L with entries:=es1 } ve2 d2 es2 w2):Lkd w g gd v ve vl vp vs L ve2 d2 es2 w2:=
 ⟨k.disk,k.log,Fr.sub h.fr k.fr (lks h.sub),h.sub.trans k.sub h.fr.size⟩
theorem Qvp {B:Nat} {w':World} (h:Below B w w'):Below B w w'.drew:=h.drew
theorem Qdl (h:Lkd w1 g gd v (.slice none 0 0) (.slice none 0 0) (.slice none 0 0) [] L ve d1 es1 w2) (hg:g=w.heap.size) (hb:Below w.heap.size w w1) :
  Fr (·=gd) w w2∧Sub w (·=gd) (fun k=>k=gd∨LogS g ve (.slice none 0 0) (.slice none 0 0) [] k):=by
 refine⟨(Fr.ofBelow hb:Fr (·=gd) w w1).step h.fr fun i hi hk=>?_,fun k hk=>?_⟩
 ·rcases hk with hk|hk
  ·exact hk
  ·have:=Qqf hk
   omega
 ·rcases hk with hk|hk
  ·exact .inl hk
  ·rcases h.sub k hk with h1|h1
   ·exact .inr (by have:=Qqf h1;omega)
   ·exact .inr (Nat.le_trans hb.size h1)
theorem Qyl:levels [] = []:=by unfold levels;rw[show nLev ([]:List (List UInt8)).length=0 by rw[nLev];rfl];rfl
def Zad (d:Dk) (w':World) (a:Option Addr) (n c:Nat):Prop:=(a=none∧getF d.files (sOf kCp)=none)∨∃ s b,a=some ⟨b,0,none⟩∧n=s.size∧getF d.files (sOf kCp)=some s∧Q8 w' (.slice (some ⟨b,0,none⟩) n c) s.data.toList
theorem Q94 {d:Dk} (h:Q1 w g v d) (hc:d.calls<1099511627776) (hk:Zv d=0) :
  Calls prog 299 #[.pointer (some ⟨g,0,none⟩),.string (sOf kCp)] w fun e w'=>∃ a n c,e=.returned (.tuple #[.slice a n c,.nilIface])∧Zad d w' a n c∧Q1 w' g v (Zj d)∧Fr (·=g) w w':=by
 cases hg:getF d.files (sOf kCp) with
 | none=>
  refine (Qw9 h hc hk hg).mono ?_;rintro e w' ⟨rfl,h1,h2⟩;exact⟨none,0,0,rfl,.inl ⟨rfl,hg⟩,h1,h2⟩
 | some s=>
  refine (Qvc h hc hk hg).mono ?_;rintro e w' ⟨b,c,rfl,h0,h1,h2⟩;exact⟨some ⟨b,0,none⟩,s.size,c,rfl,.inr ⟨s,b,rfl,rfl,hg,h0.at⟩,h1,h2⟩
theorem Q9y (y:Hsh):Array.foldl (fun (cs:Array Value) (x:Value×Nat)=>cs.setIfInBounds (1+x.snd) x.fst) #[.int .i64 0,.int .u8 0,.int .u8 0,.int .u8 0,.int .u8 0,.int .u8 0,.int .u8 0,.int .u8 0,.int .u8 0] (h8 y).zipIdx 0 8=trC 0 y:=by rw[Qgh];simp
section
attribute [local go_sem] Q9y h8_0 h8_1 h8_2 h8_3 h8_4 h8_5 h8_6 h8_7 Qbm h8_size
theorem Qz6 (f:Nat→Addr) (w:World) (gd:Nat) (v:Value) (d:Dk) (key:ByteArray) (hD:Q1 w gd v d) (N:Nat) (hE:EnvS f (·=gd) w) (hN:FewB d.files N) (hN2:N≤262144) (hc:d.calls<900000000000) (hsz:∀ b∈d.files,b.2.size≤1048576) (hkey:key.size≤9223372036854775807) :
  Calls prog 119 #[.iface 50 (.pointer (some ⟨gd,0,none⟩)),.string key] w (Q2l w gd v d key f (8*N+16)):=by
 have HE:=zh hE;have HN:=zh hN;have HZ:=zh hsz;have eu:=hD.lt;have el:=Q4t w (.pointer (some ⟨gd,0,none⟩));obtain⟨g,W⟩:∃ g,g=w.heap.size:=⟨_,rfl⟩
 obtain⟨w1,P⟩:∃ w1,w1=w.alloc (.cells #[.iface 50 (.pointer (some ⟨gd,0,none⟩)),.string key,.slice none 0 0,.slice none 0 0,.slice none 0 0,.bool false] 237):=⟨_,rfl⟩
 have az:Below w.heap.size w w1:=by rw[P];exact Qa _ _
 have ch:Lkd w1 g gd v (.slice none 0 0) (.slice none 0 0) (.slice none 0 0) [] ⟨key,[],[],[],false⟩ (.slice none 0 0) d [] w1:=
  ⟨hD.below az,by rw[P,W];exact Q7j w gd key,Fr.refl _ _,Sub.refl _ _⟩
 have ay:=zh ch;have en:=zh P;have C:=zh az;have B:=zh W;have cp:d.calls<1099511627776:=by omega
 clear hD hE hN hsz ch;rcases Nat.eq_zero_or_pos (Zv d) with h0|h0
 ·go_enter func119,ntmps119
  go_upto_region 4 with fail
  rw[←P,←W];clear P W az
  go_upto_region 8 with (first
   | (go_at_call 299;refine (Q94 ay.o.disk cp h0).mono ?_;rintro e w2 ⟨a,n,c,rfl,b1,ah,T⟩;have I:=zh (ay.o.look ah T);have df:=zh b1;have dp:=Y3 w2;clear b1 ah T)
   | (go_at_call 129;refine (Qjq _ [] _ ⟨[],rfl,⟨none,0,rfl,Nat.le_refl _,fun j x hx=>by simp at hx⟩,fun j u l hu _=>by simp at hu⟩ (by simp) (by simp)).mono ?_;rintro e w3 ⟨rfl,Q⟩;have a7:=zh (I.o.below Q);have R:=zh Q;clear Q)
   | (refine Z8 rfl _ _ rfl w3.heap.size 0 (hash []) rfl rfl 0 zero8 (heap_alloc_new w3 _) ?_))
  obtain⟨w4,bd⟩:∃ w4,w4=(w3.alloc (.cells #[.int .i64 0,.int .u8 0,.int .u8 0,.int .u8 0,.int .u8 0,.int .u8 0,.int .u8 0,.int .u8 0,.int .u8 0] 145)).setRow w3.heap.size (trC 0 (hash [])):=⟨_,rfl⟩
  obtain⟨g9,a4⟩:∃ g9,g9=w3.heap.size:=⟨_,rfl⟩
  rw[←bd,←a4];have b0:Below w3.heap.size w3 w4:=by rw[bd];exact below_setRow (Qa _ _) (Nat.le_refl _) _
  have c6:TrAt w4 g9 0 (hash []):=by rw[bd,a4];exact TrAt.set (show TrAt (w3.alloc (.cells (trC 0 zero8) 145)) w3.heap.size 0 zero8 from heap_alloc_new w3 _) 0 (hash [])
  have cd:=zh (a7.o.below b0);have a9:=zh c6;have dy:=zh b0;have et:=Qii w4 a n c;have H:=zh (Qjp h0);have bm:=zh a4;clear bd a4 b0 c6;simp only[Act.put]
  go_upto_if 35 with fail
  go_cut [] from 36 to 45 (fun wx=>∃ (n:Nat) (root:Hsh),Aside (Yt d.files key=some (n,root))∧n<9223372036854775808∧Aside (TrAt wx g9 n root)∧Aside (Lkd w1 g gd v (.slice none 0 0) (.slice none 0 0) (.slice none 0 0) [] ⟨key,[],[],[],false⟩ (.slice none 0 0) (Zj d) [] wx))
  case first=>
   rcases df.o with ⟨rfl,K⟩|⟨s,b,rfl,rfl,K,c4⟩
   ·have HG:=zh K
    clear K
    go_wp2_with fail
    go_meet;exact⟨0,hash [],by show Yt _ _=_;unfold Yt;rw[HG.o],by decide,a9.o,cd.o⟩
   ·have c9:s.size≤1048576:=HZ.o _ (Qai K)
    have ec:w2.heap.size≤w3.heap.size:=R.o.size;have B24:=R.o.trans (dy.o.mono R.o.size);have ep:Sem.run prog (convert 147 9 (.slice (some ⟨b,0,none⟩) s.size c)) w4=.ok (.string s) w4:=by have h1:=Qeu (c4.below B24);rw[show (ByteArray.mk s.data.toList.toArray)=s from Qag s] at h1;exact h1
    have y:=Qdl (w:=w) cd.o B.o C.o;have ap:=Qoq s key w4 c9 hkey (HE.o.step y.1 y.2).num;obtain⟨q,hq⟩:∃ q,q=Zw s.data.toList key.data.toList:=⟨_,rfl⟩
    rw[←hq] at ap;have aw:=Js s.data.toList key.data.toList;rw[←hq] at aw;have ct:Yt d.files key=if q.2.2=true then some (q.1.toNat,q.2.1) else none:=by unfold Yt;rw[K,hq]
    obtain⟨qn,qh,qb⟩:=q;have G:=zh B24;have dc:=zh aw;have U:=zh ct;have bt:w2.heap.size≤g9:=by have:=bm.o;omega
    have Y:=zh bt;clear K c4 y hq aw ct B24 bt ec;cases qb with
    | false=>
     go_wp2_with (first
      | (go_at_call 137;refine ap.mono ?_;rintro e w5 ⟨rfl,ae⟩;have M:=zh ae;clear ae)
      | (refine Z8 rfl _ _ rfl g9 qn qh rfl rfl 0 (hash []) (a9.o.below M.o) ?_;have s2:=(HE.o.step (Qdl (w:=w) (I.o.below (below_setRow (G.o.trans (M.o.mono G.o.size)) Y.o (trC qn qh))) B.o C.o).1 (Qdl (w:=w) (I.o.below (below_setRow (G.o.trans (M.o.mono G.o.size)) Y.o (trC qn qh))) B.o C.o).2).sents.cells.2.2.1;have b2:=Qk s2))
     go_region
     all_goals (
      go_wp2
      go_ret2
      have ak:=I.o.below (Qvp (below_setRow (G.o.trans (M.o.mono G.o.size)) Y.o (trC qn qh)))
      exact⟨Zj d,ak.disk,(Qdl (w:=w) ak B.o C.o).1,.inr (.inl ⟨H.o.more (by omega),.checkpoint U.o,rfl⟩)⟩)
    | true=>
     go_wp2_with (first
      | (go_at_call 137;refine ap.mono ?_;rintro e w5 ⟨rfl,ae⟩;have M:=zh ae;clear ae)
      | (refine Z8 rfl _ _ rfl g9 qn qh rfl rfl 0 (hash []) (a9.o.below M.o) ?_))
     go_meet;obtain⟨p1,p2,_⟩:=dc.o.1 rfl;have ds:qn=(qn.toNat:Int):=by omega
     refine⟨qn.toNat,qh,?_,by omega,?_,?_⟩
     ·show Yt _ _=_
      rw[U.o];rfl
     ·rw[←ds]
      exact TrAt.set (a9.o.below M.o) qn qh
     ·exact I.o.below (below_setRow (G.o.trans (M.o.mono G.o.size)) Y.o _)
  case rest=>
   obtain⟨n0,root,U,dq,ck,L⟩:=hcut;have ei:=ck.o.cells.1;have y:=Qdl (w:=w) L.o B.o C.o;have ci:=Q51 f wc g gd v (.slice none 0 0) (.slice none 0 0) (.slice none 0 0) [] (Zj d) ⟨key,[],[],[],false⟩ L.o.log L.o.disk n0 N (HE.o.step y.1 y.2) rfl dq (by rw[H.o.files];exact HN.o) (by omega) (by have:=H.o.calls;omega) (by rw[H.o.files];exact HZ.o);have bf:=zh ci;clear y ci
   go_wp2_with fail
   refine bf.o.mono ?_;rintro e w6 (⟨cl,d6,A,i6,q,m,r,J,cm,rfl,hq,hr,aa,E⟩|⟨cl,d6,A,i6,r,J,al,ag,rfl,hr,E⟩|⟨cl,d6,A,J,al,ag,rfl⟩)
   ·have F:=zh (L.o.trans J)
    have d3:=zh (H.o.hurt cm);have HQ:=zh aa;have HR:=zh E;have cj:=Qax w6 219 (.pointer (some ⟨r,0,none⟩));have S:w.heap.size≤wc.heap.size:=(Qdl (w:=w) L.o B.o C.o).1.size;clear J cm aa E
    go_wp2_with fail
    go_ret2;exact⟨d6,F.o.disk,(Qdl (w:=w) F.o B.o C.o).1,.inl ⟨q,m,r,_,d3.o.more (by omega),rfl,Nat.le_trans S hq,Nat.le_trans S hr,HQ.o,HR.o⟩⟩
   ·have F:=zh (L.o.trans J)
    have a0:=zh (H.o.trans al);have ad:=zh ag;have HR:=zh E;have cj:=Qax w6 219 (.pointer (some ⟨r,0,none⟩));have S:w.heap.size≤wc.heap.size:=(Qdl (w:=w) L.o B.o C.o).1.size;clear J al ag E
    go_wp2_with fail
    go_ret2;refine⟨d6,F.o.disk,(Qdl (w:=w) F.o B.o C.o).1,.inr (.inr (.inr (.inl ⟨_,r,a0.o.more (by omega),.tile (d:=A) U.o ?_,rfl,Nat.le_trans S hr,HR.o⟩)))⟩
    have:=ad.o
    rw[H.o.files] at this;exact this
   ·have F:=zh (L.o.trans J)
    have a0:=zh (H.o.trans al);have ad:=zh (show Qbx d.files n0 ((n0+3) / 4) 0 []=(A,none) by rw[←H.o.files];exact ag);have cj:=Y3 w6;have bx:=zh (show TrAt w6 g9 n0 root from J.fr.heap ck.o fun hk=>by
     rcases hk with hk|hk
     ·have:=I.o.disk.lt;have:=bm.o;have:=R.o.size;omega
     ·have:=Qqf hk;have h2:=Qc I.o.log.cells;have:=bm.o;have:=R.o.size;omega)
    clear J al ag;have c3:=F.o.log.heads;have d2:=c3.1.2.2.1;obtain⟨em,ax,_⟩:=F.o.log.ents;obtain⟨a6,d0,rfl⟩:=Zi ax;clear ax c3;obtain⟨_,k1,k2,k3,k4,k5,k6,k7,k8⟩:=bx.o.cells;have a3:Qa9 d.files A:=by have h1:=Qa9.load (l:=d.files) (n:=n0) ((n0+3) / 4) 0 [] (Qa9.nil _) (by simp) (by omega);rw[ad.o] at h1;exact h1
    have dg:=a3.few HN.o;have c7:A.length≤1048576:=by omega
    have b3:∀ e∈A,e.length≤9223372036854775807:=fun e he=>by have:=a3.short e he;omega
    have ca:=zh a3;have dz:=zh c7;have c8:=zh b3;have d7:=zh (F.o.log.ents.at);have ek:=Qc F.o.log.cells;have ef:=Qc bx.o;clear a3 dg c7 b3;obtain⟨cr,cv⟩:∃ cr,cr=(some (rootOf A) == some root):=⟨_,rfl⟩
    have bz:=zh cv;clear cv
    go_upto_region 16 with fail
    go_cut [60] from 53 to 60 (fun s60 wx=>s60=.bool (!cr)∧Aside (Lkd w1 g gd v (.slice none 0 0) (.slice none 0 0) (.slice none 0 0) [] ⟨key,[],[],[],false⟩ (.slice a6 A.length d0) d6 A wx))
    case first=>
     go_region_law (go_simp;go_at_call 98;refine (Qlj _ A _ (d7.o.below (Qn w6)) dz.o c8.o).mono ?_;rintro e w7 ⟨rfl,br⟩;have dv:=eqn w7 (rootOf A) root;rw[←bz.o] at dv;have an:=zh ((F.o.below (Qn w6)).below br);have ⟨_,j1,j2,j3,j4,j5,j6,j7,j8⟩:=((bx.o.below (Qn w6)).below br).cells;clear br)
     all_goals (
      go_wp2_with fail
      go_meet
      exact⟨rfl,an.o⟩)
    case rest=>
     obtain⟨rfl,an⟩:=hcut;clear k1 k2 k3 k4 k5 k6 k7 k8 d2;cases cr with
     | false=>
      have bh:rootOf A≠root:=fun e=>by have:=bz.o;rw[e] at this;simp at this
      have y:=Qdl (w:=w) an.o B.o C.o;have s4:=(HE.o.step y.1 y.2).sents.cells.2.2.2.2.1;have b4:=Qk s4;have db:=zh bh;clear bh y
      go_wp2_with fail
      go_region
      all_goals (
       go_wp2
       go_ret2
       have ak:=an.o.below (Qn wc)
       exact⟨d6,ak.disk,(Qdl (w:=w) ak B.o C.o).1,.inr (.inr (.inl ⟨a0.o.more (by omega),.proof U.o ad.o db.o,rfl⟩))⟩)
     | true=>
      have bl:rootOf A=root:=by have:=bz.o;simpa using this.symm
      have de:=zh bl;clear bl
      go_wp2_with fail
      go_loopg [] (N+2) (fun gg wr=>∃ bu d1 z,Aside (Lkd w1 g gd v (.slice none 0 0) (.slice none 0 0) (.slice none 0 0) [] ⟨key,[],[],[],false⟩ bu d1 z wr)∧Aside (Calm (N+2+4*(z.length / 4)) d d1)∧Aside (∀ r,Goes d.files z r→Goes d.files A r)∧Aside (Qa9 d.files z)∧N+1-z.length / 4≤gg)
      case atStart=>exact⟨_,d6,A,an.o,a0.o.more (by omega),fun r h=>h,ca.o,by omega⟩
      case round=>
       obtain⟨bu,d1,z,af,V,cw,a1,ej⟩:=hrel;have bc:=a1.o.few HN.o;have y:=Qdl (w:=w) af.o B.o C.o;obtain⟨bw,b5⟩:∃ bw,bw=(Zo d.files z).2:=⟨_,rfl⟩
       have ai:=Qtk f wr g gd v bu (.slice none 0 0) (.slice none 0 0) [] d1 ⟨key,z,[],[],false⟩ af.o.log af.o.disk (HE.o.step y.1 y.2) (by rw[V.o.files];exact a1.o) (by show z.length<_;omega) (by have:=V.o.calls;omega) (by rw[V.o.files];exact HZ.o);unfold Q1g at ai;rw[V.o.files] at ai;simp only[←b5] at ai;have du:=zh ai;have bo:=zh b5;have ar:=zh bc;have S:w.heap.size≤wr.heap.size:=y.1.size;clear ai b5 bc y
       go_wp2_with fail
       refine du.o.mono ?_;rintro e w8 (⟨d8,q,m,r,p,am,cg,rfl,hq,hr,aa,E⟩|⟨cs,d8,am,cy,rfl⟩)
       ·have ac:=zh (af.o.trans am)
        have d4:=zh (V.o.hurt cg);have HQ:=zh aa;have HR:=zh E;have eb:=Qax w8 219 (.pointer (some ⟨r,0,none⟩));clear am cg aa E
        go_wp2_with fail
        go_ret2;exact⟨d8,ac.o.disk,(Qdl (w:=w) ac.o B.o C.o).1,.inl ⟨q,m,r,p,d4.o.more (by have:=ar.o;omega),rfl,Nat.le_trans S hq,Nat.le_trans S hr,HQ.o,HR.o⟩⟩
       ·have ac:=zh (af.o.trans am)
        have cq:=zh (V.o.trans cy);have eb:=Y3 w8;clear am cy;cases bw with
        | true=>
         go_wp2_with fail
         go_roundg (N+1-(z.length / 4+1))
         case measure=>have:=ar.o;omega
         case rel=>
          have bb:(z++(Zo d.files z).1).length=4*(z.length / 4+1):=(a1.o.further 4 (by omega)).2 bo.o.symm;refine⟨cs,d8,z++(Zo d.files z).1,ac.o,cq.o.more (by omega),fun r h=>cw.o r (.more bo.o.symm h),(a1.o.further 4 (by omega)).1,by omega⟩
        | false=>
         obtain⟨t,au⟩:∃ t,t=z++(Zo d.files z).1:=⟨_,rfl⟩
         have a5:Lkd w1 g gd v (.slice none 0 0) (.slice none 0 0) (.slice none 0 0) [] ⟨key,[],[],[],false⟩ cs d8 t w8:=by rw[au];exact ac.o
         have bn:Goes d.files A t:=by rw[au];exact cw.o _ (.stop bo.o.symm)
         have ao:Qa9 d.files t:=ca.o.goes bn;have b6:=ao.few HN.o;have bb:t.length≤1048576:=by omega
         have aj:=zh a5;have dw:=zh bn;have dd:=zh ao;have cb:=a5.log.heads;have cn:=cb.1.2.2.1;obtain⟨eq,Z,_⟩:=a5.log.ents;obtain⟨a8,O,rfl⟩:=Zi Z;obtain⟨D,aq⟩:∃ D,D=t.length:=⟨_,rfl⟩
         have ee:w8.cell? ⟨g,2,none⟩=some (.slice a8 D O):=by rw[aq];exact cn
         have bi:0<D→∃ b8,a8=some ⟨b8,0,none⟩:=by
          rcases Z.2 with ⟨e,h0⟩|⟨b,cap,cur,e,_⟩
          ·intro h
           have er:t.length=0:=h0;omega
          ·simp at e;exact fun _=>⟨b,e.1⟩
         have da:=zh bi;have av:=zh aq;have ed:D≤1048576:=by omega
         have dk:=zh (cq.o.more (show N+2+4*(z.length / 4)+4≤8*N+16 by have:=ar.o;omega));clear au a5 bn ao b6 bb cb Z aq bi cn
         go_wp2_with fail
         go_loopg [77,15] D (fun gg s77 _ wr=>∃ i:Nat,i≤D∧D-i≤gg∧s77=.int .i64 i∧∃ be a2,Aside (Zq wr g gd (.slice a8 t.length O) be (.slice none 0 0) a2 ⟨key,t,levels (t.take i),[],false⟩)∧Aside (Fr (LogS g (.slice a8 t.length O) (.slice none 0 0) (.slice none 0 0) []) w8 wr)∧
          Aside (Sub w8 (LogS g (.slice a8 t.length O) (.slice none 0 0) (.slice none 0 0) []) (LogS g (.slice a8 t.length O) be (.slice none 0 0) a2))∧w8.heap.size≤wr.heap.size)
         case atStart=>
          refine⟨0,by omega,by omega,rfl,.slice none 0 0,[],?_,Fr.refl _ _,Sub.refl _ _,Nat.le_refl _⟩;show Zq _ _ _ _ _ _ _ _;rw[List.take_zero,Qyl];exact aj.o.log
         case round=>
          obtain⟨i,hi,eo,rfl,be,a2,bg,bp,bq,eg⟩:=hrel;by_cases hlt:i<D
          ·have dh:(i:Int)<(D:Int):=by omega
           obtain⟨b8,rfl⟩:=da.o (by omega);obtain⟨ce,X,b7⟩:=bg.o.ents;have co:i<t.length:=by have:=av.o;omega
           have dn:ce.length=t.length:=by simpa using X.1
           obtain⟨u,hu⟩:∃ u,ce[i]?=some u:=⟨_,List.getElem?_eq_getElem (by omega)⟩
           obtain⟨x,hx⟩:∃ x,t[i]?=some x:=⟨_,List.getElem?_eq_getElem co⟩
           have k1:wr.cell? ⟨b8,i,none⟩=some u:=by have h1:=X.cells (g:=b8) rfl i u hu;rw[Addr.add_lit] at h1;simpa using h1
           have cc:=(b7 i u x hu hx).at;have ea:x.length≤9223372036854775807:=by have:=dd.o.short x (List.mem_of_getElem? hx);omega
           have ba:t.take (i+1)=t.take i ++ [x]:=by rw[List.take_add_one,hx];rfl
           have cx:=Qs0 (es:=t.take i) (by rw[List.length_take];have:=av.o;omega);have d5:=zh cc;have dt:=zh ba;have c1:=zh cx;clear X b7 co dn hu hx cc ba cx
           go_wp2_with (first
            | (go_at_call 151;refine (Qk4 u x _ d5.o ea).mono ?_;rintro e w9 ⟨rfl,bj⟩;have dl:=zh (bg.o.below bj);have bk:=zh bj;clear bj)
            | (go_at_call 163;refine (Qxd w9 g gd _ _ _ _ _ dl.o (Jx x) c1.o.1 c1.o.2).mono ?_;rintro e eh ⟨rfl,d9,dj,c2,c0,b9⟩;have bf:=zh c2;have cu:=zh c0;have di:=zh b9;clear c2 c0 b9))
           go_roundg (D-(i+1))
           case measure=>omega
           case rel=>
            refine⟨i+1,by omega,by omega,by go_num,d9,dj,?_,Fr.sub (bp.o.trans (Fr.ofBelow bk.o)) (cu.o.weak fun _ _ h=>h.log) bq.o,bq.o.trans (Q64 di.o) (by have:=bk.o.size;omega),by have:=bk.o.size;have:=cu.o.size;omega⟩;have h1:=bf.o;rw[Qsx,←dt.o] at h1;exact h1
          ·have dh:¬ (i:Int)<(D:Int):=by omega
           have c5:i=D:=by omega
           have dm:=zh c5;clear c5
           go_wp2_with fail
           go_ret2;have y:=Qdl (w:=w) aj.o B.o C.o;have ab:=aj.o.log.apartDisk aj.o.disk;have cz:∀ k,LogS g (.slice a8 t.length O) (.slice none 0 0) (.slice none 0 0) [] k→w.heap.size≤k:=fun k hk=>by
            rcases y.2 k (.inr hk) with h1|h1
            ·exact absurd (.inl h1) (ab k hk)
            ·exact h1
           refine⟨d8,aj.o.disk.fr bp.o fun k hk hS=>ab k hS hk,y.1.step bp.o fun k hk hS=>absurd (cz k hS) (by omega),.inr (.inr (.inr (.inr ⟨t,n0,g,dk.o,.fine U.o ad.o de.o dw.o,rfl,.slice a8 t.length O,be,a2,?_,by have:=B.o;omega,fun k hk=>?_⟩)))⟩
           ·have h1:=bg.o
            rw[List.take_of_length_le (by have:=av.o;have:=dm.o;omega)] at h1;exact h1
           ·rcases bq.o k hk with h1|h1
            ·exact cz k h1
            ·exact Nat.le_trans y.1.size h1
 ·have dx:=zh (Qju h0)
  go_enter func119,ntmps119
  go_upto_region 4 with fail
  rw[←P,←W];clear P W az
  go_wp2_with (first
   | (go_at_call 299;refine (Q1i (p:=sOf kCp) ay.o.disk cp h0).mono ?_;rintro e w2 ⟨q,m,rfl,hq,hh,ah,T⟩;have I:=zh (ay.o.look ah T);have HQ:=zh hh;have dr:=zh T;have dp:=Qax w2 218 (.pointer (some ⟨q,0,none⟩));clear hh ah T)
   | (go_at_call 160;refine (Qot _ _ _ _).mono ?_;rintro e w3 ⟨u,rfl,⟨r,rfl,hr,E⟩,Q⟩;have HR:=zh E;have a7:=zh (I.o.below Q);have R:=zh Q;clear E Q))
  go_ret2;have cf:=C.o.size;exact⟨Zj d,a7.o.disk,(Qdl (w:=w) a7.o B.o C.o).1,.inl ⟨q,m,r,sOf kCp,dx.o.more (by omega),rfl,Nat.le_trans cf hq,Nat.le_trans cf (Nat.le_trans dr.o.size hr),(R.o.block _ (Qc HQ.o)).trans HQ.o,HR.o⟩⟩
end
end
end Go.Proofs.YtefccfakhgdfbaaGreatDoor
