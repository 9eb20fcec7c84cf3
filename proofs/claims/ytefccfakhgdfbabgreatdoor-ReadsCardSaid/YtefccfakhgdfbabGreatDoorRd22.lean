/- The bridge for rows that list variables, with the world's shape handed on; with a specification's own condition, and without. No walk. -/
import Derived.Test.YtefccfakhgdfbabGreatDoorRd21
import Derived.LaidSub
import Derived.Lay
import Derived.ShutString
import Derived.Deep.Fields
import Derived.LaidMore
set_option linter.unusedVariables false
set_option linter.unusedSimpArgs false
open Go.RowKit Go.Proofs.Tryz
set_option maxRecDepth 100000
set_option maxHeartbeats 4000000
namespace Go.Proofs.YtefccfakhgdfbabGreatDoor
section
theorem Qgh.below {Q:Wm→Prop} {w w1:World} {p:Pl} {m:Wm} {U:List Nat} {K:Nat} {e:Ending} {w':World} (h:Qgh Q w1 p m U K e w') (hb:Below w.heap.size w w1):Qgh Q w p m U K e w':=by obtain⟨he,p',m',a,b,c,d,hf,hs,x,y⟩:=h;exact⟨he,p',m',a,b,c,d,(Fr.ofBelow hb).trans hf,hs.mono hb.size,x,y⟩
theorem Qq3 (f:Nat→Addr) (w:World) (p:Pl) (m:Wm) (L:Lg) (U:List Nat) (K:Nat) (a:Int) (two:Bool) (s:ByteArray) (h:WdIs w p m) (hG:Good m U K) (hL:m.l=some L) (hfo:m.foreign=false) (hE:EnvS f (WdS p m) w) (hU:U.length≤16000) :
  Calls prog 26 #[.pointer (some ⟨p.gw,0,none⟩),.agg #[.int .i64 2,.int .i64 a,.bool two,.string s]] w (Qgh (AppQ m L s) w p m (L.entries.length / 4 :: U) K):=by
 have hb:=Qa w (.cells #[.int .i64 2,.int .i64 a,.bool two,.string s] 60);obtain⟨⟨c0,_,c2,_,_,_,c6⟩,_⟩:=h.heads;have hgw:p.gw<w.heap.size:=Qk c0;have hrun:=hG.run L hL;have hlen:L.entries.length=m.es.length:=by rw[hrun.2.2.1];simp[lists]
 have hes:m.es.length<1048576:=by have:=hrun.1.len;omega
 have HA:=zh (Qxg f _ p m L s U K (h.below hb) hG hL hfo (hE.below hb) (by omega) hes);rw[hfo] at c6;rw[hL] at c2;have c2':w.cell? ⟨p.gw,2,none⟩=some (.pointer (some ⟨p.gl,0,none⟩)):=c2;have HB:=zh hb;clear h hG hL hfo hE c0 c2 hb hrun hlen hes
 go_enter func26,ntmps26
 go_wp2_with (first|(go_at_call 48;refine HA.o.mono ?_;intro e w1 h1;obtain⟨he,h1⟩:=h1;subst he;have H1:=zh h1;clear h1)|fail)
 go_ret;exact Qgh.below ⟨rfl,H1.o⟩ HB.o
theorem Qpy (f:Nat→Addr) (w:World) (p:Pl) (m:Wm) (L:Lg) (U:List Nat) (K:Nat) (a:Int) (two:Bool) (s:ByteArray) (h:WdIs w p m) (hG:Good m U K) (hL:m.l=some L) (hfl:L.failed=false) (hfo:m.foreign=false) (hE:EnvS f (WdS p m) w) (hU:U.length≤16000) (hK:K≤700000000000) (hkey:m.key.size≤1048600) :
  Calls prog 26 #[.pointer (some ⟨p.gw,0,none⟩),.agg #[.int .i64 3,.int .i64 a,.bool two,.string s]] w (Qgh (PubQ m L) w p m U (K+1048576)):=by
 have hb:=Qa w (.cells #[.int .i64 3,.int .i64 a,.bool two,.string s] 60);obtain⟨⟨c0,_,c2,_,_,_,c6⟩,_⟩:=h.heads;have hgw:p.gw<w.heap.size:=Qk c0;have HA:=zh (Qtp f _ p m L U K (h.below hb) hG hL hfo hfl (hE.below hb) (by omega) (by omega) hkey);rw[hfo] at c6;rw[hL] at c2;have c2':w.cell? ⟨p.gw,2,none⟩=some (.pointer (some ⟨p.gl,0,none⟩)):=c2;have HB:=zh hb;clear h hG hL hfo hE c0 c2 hb
 go_enter func26,ntmps26
 go_wp2_with (first|(go_at_call 49;refine HA.o.mono ?_;intro e w1 h1;obtain⟨he,h1⟩:=h1;subst he;have H1:=zh h1;clear h1)|fail)
 go_ret;exact Qgh.below ⟨rfl,H1.o⟩ HB.o
end
section
open Go.RowKit Go.MuLone
def Qd2 (w:World):Prop:=∃ a,w.cell? ⟨8,0,none⟩=some (.iface 338 (.pointer (some a)))
theorem Qd2.below {B:Nat} {w w':World} (h:Qd2 w) (hb:Below B w w') (hB:8<B):Qd2 w':=by obtain⟨a,ha⟩:=h;exact⟨a,(hb.cell (p:=⟨8,0,none⟩) hB).trans ha⟩
theorem Qu3 (w:World) (gc:Nat) (p:ByteArray) (h2:w.cell? ⟨gc,2,none⟩=some .nilIface) (hn:Qd2 w) :
  Calls prog 85 #[.pointer (some ⟨gc,0,none⟩),.string p] w fun e w'=>∃ a,e=.returned (.tuple #[.slice none 0 0,.iface 338 (.pointer (some a))])∧Below w.heap.size w w':=by
 obtain⟨a,ha⟩:=hn
 go_enter func85,ntmps85
 go_wp2_with fail
 go_region
 all_goals (
  go_wp2
  go_ret2
  exact⟨a,rfl,Ql w⟩)
def Q6n (F:Nat→Addr) (w:World) (gc gk mc:Nat) (c:Cl) (qs:List CEnt) (e:Ending) (w':World):Prop:=
 e=.returned (.tuple #[.slice none 0 0,.iface 338 (.pointer (some (F 2)))])∧ClIs w' gc gk mc .nilIface c qs∧Fr (·=gc) w w'
theorem Qui (F:Nat→Addr) (w:World) (gc gk mc:Nat) (c:Cl) (qs:List CEnt) (h:ClIs w gc gk mc .nilIface c qs) (hS:∀ w',Fr (·=gc) w w'→Qav w' F∧Qd2 w') :
  Calls prog 42 #[.pointer (some ⟨gc,0,none⟩)] w (Q6n F w gc gk mc c qs):=by
 have hlt:=h.lt;have H:=zh h;have HS:=zh hS;clear h hS
 go_enter_defers func42,ntmps42
 go_upto_region 3 with (first
  | (go_at_call 83;refine (Qlk H.o).mono ?_;rintro e w1 ⟨rfl,h1,hf1,hz1⟩;have H1:=zh h1;have HF1:=zh hf1;clear h1 hf1 hz1)
  | fail)
 have hfe:=Qu3 w1 gc (sOf kCp) (Qd H1.o.cells 2 rfl) (HS.o _ HF1.o).2;rw[show sOf kCp=⟨#[99,104,101,99,107,112,111,105,110,116]⟩ from rfl] at hfe;have HFE:=zh hfe;clear hfe
 go_upto_region 4 with (first
  | (go_at_call 85;refine HFE.o.mono ?_;rintro e w2 ⟨a,rfl,hb2⟩;have HB2:=zh hb2;clear hb2)
  | fail)
 have H2:=zh (H1.o.below HB2.o);have hg:=(HS.o _ (HF1.o.trans (Fr.ofBelow HB2.o))).1.cells.2.2.1;go_wp2;go_region
 all_goals (
  go_wp2
  refine Qcf (v:=.slice none 0 0) (y:=.iface 338 (.pointer (some (F 2)))) (Qd (w:=w2.drew) H2.o.cells 0 rfl) (Qq (w:=w2.drew) H2.o.cells 0) rfl rfl ?_
  have h3:=H2.o.below (Ql w2)
  exact⟨rfl,h3.turn 0,((HF1.o.trans (Fr.ofBelow HB2.o)).drew).trans (Fr.set1 _ gc 0 _)⟩)
theorem Qqx (F:Nat→Addr) (w:World) (ga gc gk mc:Nat) (c:Cl) (qs:List CEnt) (hga:PcAt w ga gc) (h:ClIs w gc gk mc .nilIface c qs) (hS:∀ w',Fr (·=gc) w w'→Qav w' F∧Qd2 w') :
  Calls prog 20 #[.pointer (some ⟨ga,0,none⟩)] w fun e w'=>∃ a k,e=.returned (.tuple #[.slice a 0 k,Jn 3 ⟨#[]⟩])∧Fr (·=gc) w w':=by
 obtain⟨W0,hW0⟩:∃ W0,W0=w.alloc (.cells #[.int .i64 0,.string ⟨#[]⟩] 29):=⟨_,rfl⟩
 have hb0:Below w.heap.size w W0:=by rw[hW0];exact Qa w _
 have ht0:Z4 W0 w.heap.size 0 ⟨#[]⟩:=by rw[hW0];exact Qch w
 have c0:W0.cell? ⟨ga,0,none⟩=some (.pointer (some ⟨gc,0,none⟩)):=Qd ((hb0.block _ (Qc hga)).trans hga) 0 rfl;have hu:=Qui F W0 gc gk mc c qs (h.below hb0) fun w' hf=>hS w' ((Fr.ofBelow hb0).step hf fun _ _ e=>e)
 have hlt:=h.lt;have HS:=zh hS;have HC:=zh hu;have HW0:=zh hW0;have HB0:=zh hb0;have HT0:=zh ht0;clear hga h hS hu hW0 hb0 ht0
 go_enter func20,ntmps20
 go_upto_region 1 with fail
 rw[show w.alloc (.cells #[.int .i64 0,.string ⟨#[]⟩] 29)=W0 from HW0.o.symm]
 go_upto_region 2 with (first
  | (go_at_call 42;refine HC.o.mono ?_;rintro e w3 ⟨rfl,_,hf1⟩;have HF1:=zh hf1;clear hf1)
  | fail)
 have HT1:=zh (show Z4 w3 w.heap.size 0 ⟨#[]⟩ from HF1.o.heap HT0.o fun e=>by omega);have HFR1:=zh (show Fr (·=gc) w w3 from (Fr.ofBelow HB0.o).step HF1.o fun _ _ e=>e);clear c0
 go_wp2_with (first
  | (go_at_call 43;refine (Qpj (.slice none 0 0) [] w3 (World.ownsRow_nil _ _ _ _) (by simp)).mono ?_;rintro e w4 ⟨v4,rfl,ho4,hf4⟩;obtain⟨va,vc,rfl⟩:=Zs ho4;have HO4:=zh ho4;have HF4:=zh hf4;clear ho4 hf4)
  | (go_at_call 37;have hfr4:Fr (·=gc) w w4:=HFR1.o.step HF4.o (fun i h1 h2=>by cases h2);have HFR4:=zh hfr4;have ht4:Z4 w4 w.heap.size 0 ⟨#[]⟩:=HF4.o.heap HT1.o (fun h2=>by cases h2);refine (Q1r (base:=0) (HS.o w4 hfr4).1 (.inr (.inl ⟨2,by decide,by decide,rfl,rfl⟩))).mono ?_;rintro e w5 ⟨rfl,hb5⟩;have HB5:=zh hb5;have HT5:=zh (ht4.below hb5);obtain⟨t0,t1,t2,t3,t4⟩:=HT5.o.facts;clear hfr4 ht4 hb5)
  | fail)
 have hts:=Qdv (m:=3) (t:=⟨#[]⟩) HT5.o;exact bodyPost_ret (v:=.tuple #[.slice va 0 vc,Jn 3 ⟨#[]⟩]) (by simp[results,results20,go_sem,t0,t1,Qcn]) rfl ⟨va,vc,rfl,(HFR4.o.trans (Fr.ofBelow HB5.o)).step hts.2 fun i h1 h2=>by omega⟩
end
section
structure Q7r (k:Nat) (x:Rdr):Prop where
 size:x.size=x.c.size
 cap:x.c.cache.most=x.cap.toNat
 items:x.c.cache.items.length≤k*450000
structure RdSt (w0 w:World) (gw gn:Nat) (vl vt:Value) (k:Nat) (key:ByteArray) (p:Pl) (m:Wm) (L:Lg) (P:Nat) (n:Nt) (x y:Rdr):Prop where
 wd:WdIs w p m
 net:Yk w gn p.gd vl vt n
 rx:Qb6 w gn x
 ry:Qb6 w gn y
 gw:p.gw=gw
 mkey:m.key=key
 rdw:RdW m L P
 cx:RdC m P x.c
 cy:RdC m P y.c
 nf:n.files=m.d.files
 nl:n.lies = []
 nol:vl=.slice none 0 0
 fx:Q7r k x
 fy:Q7r k y
 good:∃ U,U.length≤k∧Good m U ((k+1)*2097152)
 few:m.es.length≤k
 fetches:n.fetches≤k*900000
 below:Below w0.heap.size w0 w
 newW:∀ i,WdS p m i→w0.heap.size≤i
 newN:∀ i,netS gn vt i→w0.heap.size≤i
 newX:∀ i,rdrS x i→w0.heap.size≤i
 newY:∀ i,rdrS y i→w0.heap.size≤i
 apWN:∀ i,WdS p m i→¬ netS gn vt i
 apWX:∀ i,WdS p m i→¬ rdrS x i
 apWY:∀ i,WdS p m i→¬ rdrS y i
 apXY:∀ i,rdrS x i→¬ rdrS y i
section
variable {F:Nat→Addr} {w0 w:World} {gw gn:Nat} {vl vt:Value} {k:Nat} {key:ByteArray} {p:Pl} {m:Wm} {L:Lg} {P:Nat} {n:Nt} {x y:Rdr}
theorem Qb6.lt (h:Qb6 w gn x):∀ i,rdrS x i→i<w.heap.size:=fun i hi=>by
 rcases hi with e|e|e
 ·exact e ▸ Qc h.cells
 ·exact e ▸ Qc h.pc
 ·exact h.cl.ltS e
variable {w':World}
theorem Qb6.fr {S:Nat→Prop} (h:Qb6 w gn x) (hf:Fr S w w') (hS:∀ i,rdrS x i→¬ S i) (hb:Qb7 w S):Qb6 w' gn x:=
 ⟨hf.heap h.cells (hS _ (.inl rfl)),hf.heap h.pc (hS _ (.inr (.inl rfl))),h.cl.fr hf (fun i hi=>hS i (.inr (.inr hi))) hb⟩
theorem Qb6.net {gd:Nat} (h:Qb6 w gn x) (hn:Yk w gn gd vl vt n):∀ i,rdrS x i→¬ netS gn vt i:=fun i hi hs=>by
 have hk:=Qcm hn
 rcases hi with e|e|e|e|e|e
 ·exact Zo hk h.cells (by decide) (e ▸ hs)
 ·exact Zo hk h.pc (by decide) (e ▸ hs)
 ·exact Zo hk h.cl.cells (by decide) (e ▸ hs)
 ·obtain⟨l,r,h2⟩:=h.cl.cache.ring.ends
  exact Zo hk h2 (by decide) (e ▸ hs)
 ·obtain⟨D,⟨es,cl,hb,_⟩,_⟩:=h.cl.cache.km.ex
  rcases hs with e2|e2
  ·rw[←e,e2,hn.cells] at hb;cases hb
  ·obtain⟨C,hC⟩:=Qh hn.told e2
   rw[←e,hC] at hb;cases hb
 ·obtain⟨k',v,_,l,r,h2⟩:=h.cl.cache.ring.node (by rw[Qce];exact e)
  exact Zo hk h2 (by decide) hs
theorem RdSt.env (h:RdSt w0 w gw gn vl vt k key p m L P n x y) (hk:k≤4096) (hn:Jr w0) (hS:Qav w0 F) (hT:ErrT w0) (hkey:key.size≤1048600):Qb3 F w p m L P gn vl vt n x where
 wd:=h.wd
 net:=h.net
 rd:=h.rx
 envR:=Qs6 h.below hn hS hT fun i hi=>by
  rcases hi with (e|e)|e
  ·exact h.newX i (.inr (.inr e))
  ·exact h.newN i e
  ·exact h.newX i (.inl e)
 apart i hi hj:=by
  rcases hj with e|e
  ·exact h.apWX i hi (.inr (.inr e))
  ·exact h.apWN i hi e
 rdw:=h.rdw
 rdc:=h.cx
 nf:=h.nf
 nl:=h.nl
 few:=by have:=h.few;omega
 small f hf:=by obtain⟨U,_,hG⟩:=h.good;exact hG.sane.size f hf
 key:=by rw[h.mkey];exact Nat.le_trans hkey (by decide)
 fetches:=by have:=h.fetches;omega
 items:=by have:=h.fx.items;omega
variable {e:Ending}
theorem RdSt.step (h:RdSt w0 w gw gn vl vt k key p m L P n x y) (hs:Qkj w p m P gn vl vt n x e w'):e=.returned (.bool true)∧∃ n' x',RdSt w0 w' gw gn vl vt (k+1) key p m L P n' x' y∧x'.ra=x.ra:=by
 obtain⟨he,c',n',qs',hr,hn',hw',hf,hsub,hc,hsn,hm,hfe,hit⟩:=hs;have hz:=h.below.size;have hkx:Qae w (fun i=>cnS x.gc x.gk x.mc gn vt x.qs i∨i=x.ra) ((([177] ++ [246,244]) ++ [103,3]) ++ [81]):=(((Qw h.rx.cl.cells).or (Qai h.rx.cl.cache)).or (Qcm h.net)).or (Qw h.rx.cells);have hSx:∀ i,(cnS x.gc x.gk x.mc gn vt x.qs i∨i=x.ra)→rdrS x i∨netS gn vt i:=fun i hi=>by
  rcases hi with (e1|e1)|e1
  ·exact .inl (.inr (.inr e1))
  ·exact .inr e1
  ·exact .inl (.inl e1)
 have hx':∀ i,rdrS { x with c:=c',qs:=qs',size:=c'.size } i→(rdrS x i∨netS gn vt i)∨w.heap.size≤i:=fun i hi=>by
  rcases hi with e1|e1|e1
  ·exact .inl (.inl (.inl e1))
  ·exact .inl (.inl (.inr (.inl e1)))
  ·rcases hsub i (.inl e1) with e2|e2
   ·exact .inl (hSx i (.inl e2))
   ·exact .inr e2
 have hyS:∀ i,rdrS y i→¬ (cnS x.gc x.gk x.mc gn vt x.qs i∨i=x.ra):=fun i hi hj=>by
  rcases hSx i hj with e1|e1
  ·exact h.apXY i e1 hi
  ·exact h.ry.net h.net i hi e1
 obtain⟨U,hU,hG⟩:=h.good;refine⟨he,n',{ x with c:=c',qs:=qs',size:=c'.size },⟨hw',hn',hr,h.ry.fr hf hyS fun i C fz hk=>Zo hkx hk (by decide),h.gw,h.mkey,h.rdw,hc,h.cy,hsn.2.trans h.nf,hsn.1.trans h.nl,h.nol,⟨rfl,hm.trans h.fx.cap,?_⟩,⟨h.fy.size,h.fy.cap,?_⟩,⟨U,by omega,hG.bound (by omega)⟩,?_,?_,?_,h.newW,h.newN,?_,h.newY,h.apWN,?_,h.apWY,?_⟩,rfl⟩
 ·have:=h.fx.items
  have h2:c'.cache.items.length≤(k+1)*450000:=by omega
  exact h2
 ·exact Nat.le_trans h.fy.items (Nat.mul_le_mul_right _ (Nat.le_succ k))
 ·have:=h.few;omega
 ·have:=h.fetches;omega
 ·refine h.below.trans (hf.below hz fun i hi hj=>?_)
  rcases hSx i hj with e1|e1
  ·have:=h.newX i e1;omega
  ·have:=h.newN i e1;omega
 ·intro i hi
  rcases hx' i hi with (e1|e1)|e1
  ·exact h.newX i e1
  ·exact h.newN i e1
  ·omega
 ·intro i hi hj
  rcases hx' i hj with (e1|e1)|e1
  ·exact h.apWX i hi e1
  ·exact h.apWN i hi e1
  ·have:=h.wd.lt hi;omega
 ·intro i hi hj
  rcases hx' i hi with (e1|e1)|e1
  ·exact h.apXY i e1 hj
  ·exact h.ry.net h.net i hj e1
  ·have:=h.ry.lt i hj;omega
theorem RdSt.swap (h:RdSt w0 w gw gn vl vt k key p m L P n x y):RdSt w0 w gw gn vl vt k key p m L P n y x:=
 ⟨h.wd,h.net,h.ry,h.rx,h.gw,h.mkey,h.rdw,h.cy,h.cx,h.nf,h.nl,h.nol,h.fy,h.fx,h.good,h.few,h.fetches,h.below,h.newW,h.newN,h.newY,h.newX,h.apWN,h.apWY,h.apWX,fun i hi hj=>h.apXY i hj hi⟩
theorem RdSt.turn (h:RdSt w0 w gw gn vl vt k key p m L P n x y) {p':Pl} {m':Wm} {L':Lg} {P':Nat} {U:List Nat} (hgw:p'.gw=p.gw) (hgd:p'.gd=p.gd) (hkey:m'.key=m.key) (hw':WdIs w' p' m') (hU:U.length≤k+1) (hG:Good m' U ((k+1+1)*2097152)) (hf:Fr (WdS p m) w w') (hs:Sub w (WdS p m) (WdS p' m'))
  (hr:RdW m' L' P') (hx:RdC m' P' x.c) (hy:RdC m' P' y.c) (hl:m'.es.length≤k+1):RdSt w0 w' gw gn vl vt (k+1) key p' m' L' P' { n with files:=m'.d.files } x y:=by
 have hz:=h.below.size;have hnb:=h.wd.noBytes;have hn:Yk w' gn p'.gd vl vt n:=by rw[hgd];exact h.net.fr hf (fun e=>h.apWN _ e (.inl rfl)) (fun i hi e=>by rw[h.nol] at hi;cases hi) (fun i hi e=>h.apWN _ e (.inr hi))
 have hnew:∀ i,WdS p' m' i→WdS p m i∨w.heap.size≤i:=hs;refine⟨hw',⟨hn.cells,hn.lies,hn.told,hn.len,hn.le⟩,h.rx.fr hf (fun i hi hj=>h.apWX i hj hi) hnb,h.ry.fr hf (fun i hi hj=>h.apWY i hj hi) hnb,hgw.trans h.gw,hkey.trans h.mkey,hr,hx,hy,rfl,h.nl,h.nol,⟨h.fx.size,h.fx.cap,Nat.le_trans h.fx.items (Nat.mul_le_mul_right _ (Nat.le_succ k))⟩,⟨h.fy.size,h.fy.cap,Nat.le_trans h.fy.items (Nat.mul_le_mul_right _ (Nat.le_succ k))⟩,⟨U,hU,hG⟩,hl,Nat.le_trans h.fetches (Nat.mul_le_mul_right _ (Nat.le_succ k)),h.below.trans (hf.below hz fun i hi hj=>by have:=h.newW i hj;omega),?_,h.newN,h.newX,h.newY,?_,?_,?_,h.apXY⟩
 ·intro i hi
  rcases hnew i hi with e1|e1
  ·exact h.newW i e1
  ·omega
 ·intro i hi hj
  rcases hnew i hi with e1|e1
  ·exact h.apWN i e1 hj
  ·rcases hj with e2|e2
   ·have:=h.net.lt;omega
   ·obtain⟨C,hC⟩:=Qh h.net.told e2
    have:=Qc hC
    omega
 ·intro i hi hj
  rcases hnew i hi with e1|e1
  ·exact h.apWX i e1 hj
  ·have:=h.rx.lt i hj;omega
 ·intro i hi hj
  rcases hnew i hi with e1|e1
  ·exact h.apWY i e1 hj
  ·have:=h.ry.lt i hj;omega
def Q43 (w0:World) (gw gn:Nat) (vl vt:Value) (k:Nat) (key:ByteArray) (x y:Rdr) (e:Ending) (w':World):Prop:=
 e=.returned (.bool true)∧∃ p m L P n,RdSt w0 w' gw gn vl vt k key p m L P n x y
theorem RdSt.envW (h:RdSt w0 w gw gn vl vt k key p m L P n x y) (hn:Jr w0) (hS:Qav w0 F) (hT:ErrT w0):EnvS F (WdS p m) w:=Qs6 h.below hn hS hT h.newW
theorem RdSt.append (h:RdSt w0 w gw gn vl vt k key p m L P n x y) (hk:k≤4096) (hn:Jr w0) (hS:Qav w0 F) (hT:ErrT w0) (a:Int) (two:Bool) (s:ByteArray) :
  Calls prog 26 #[.pointer (some ⟨gw,0,none⟩),.agg #[.int .i64 2,.int .i64 a,.bool two,.string s]] w (Q43 w0 gw gn vl vt (k+1) key x y):=by
 obtain⟨U,hU,hG⟩:=h.good;have hst:=Qq3 F w p m L U ((k+1)*2097152) a two s h.wd hG h.rdw.log h.rdw.foreign (h.envW hn hS hT) (by omega);rw[h.gw] at hst;refine hst.mono fun e w' hs=>?_
 obtain⟨he,p',m',x1,x2,x3,x4,x5,x6,x7,x8⟩:=hs;have hfo:m'.foreign=false:=by rcases x8 with ⟨_,e1⟩|⟨_,e1⟩|⟨_,e1⟩ <;> rw[e1] <;> exact h.rdw.foreign
 have hG':Good m' (L.entries.length / 4 :: U) ((k+1+1)*2097152):=by
  rcases x4 with e1|⟨_,e1⟩
  ·rw[hfo] at e1;cases e1
  ·exact e1.bound (by omega)
 have hUl:(L.entries.length / 4 :: U).length≤k+1:=by rw[List.length_cons];omega
 refine⟨he,?_⟩;have same:m'=m→∃ p m L P n,RdSt w0 w' gw gn vl vt (k+1) key p m L P n x y:=fun em=>by subst em;exact⟨p',m',L,P,_,h.turn x1 x7 x2 x3 hUl hG' x5 x6 h.rdw h.cx h.cy (by have:=h.few;omega)⟩
 rcases x8 with ⟨_,e1⟩|⟨_,e1⟩|⟨hs20,e1⟩
 ·exact same e1
 ·exact same e1
 ·subst e1
  exact⟨p',_,_,P,_,h.turn x1 x7 x2 x3 hUl hG' x5 x6 (Q38 h.rdw hs20) (Qvk h.rdw h.cx s) (Qvk h.rdw h.cy s) (by
   show (m.es ++ [s]).length≤k+1
   have:=h.few
   rw[List.length_append]
   simp
   omega)⟩
theorem RdSt.publish (h:RdSt w0 w gw gn vl vt k key p m L P n x y) (hk:k≤4096) (hn:Jr w0) (hS:Qav w0 F) (hT:ErrT w0) (hkey:key.size≤1048600) (a:Int) (two:Bool) (s:ByteArray) :
  Calls prog 26 #[.pointer (some ⟨gw,0,none⟩),.agg #[.int .i64 3,.int .i64 a,.bool two,.string s]] w (Q43 w0 gw gn vl vt (k+1) key x y):=by
 obtain⟨U,hU,hG⟩:=h.good;have hes:m.es.length≤1048576:=by have:=h.few;omega
 have hst:=Qpy F w p m L U ((k+1)*2097152) a two s h.wd hG h.rdw.log h.rdw.live h.rdw.foreign (h.envW hn hS hT) (by omega) (by omega) (by rw[h.mkey];exact hkey);rw[h.gw] at hst;refine hst.mono fun e w' hs=>?_
 obtain⟨he,p',m',x1,x2,x3,x4,x5,x6,x7,x8⟩:=hs;have em:m'=pubW m L:=x8 (Qup h.rdw.toRdW0 hes) (Q41 h.rdw.toRdW0 hes).1;subst em;have hG':Good (pubW m L) U ((k+1+1)*2097152):=by
  rcases x4 with e1|⟨_,e1⟩
  ·cases e1
  ·exact e1.bound (by omega)
 exact⟨he,p',_,_,_,_,h.turn x1 x7 x2 x3 (by omega) hG' x5 x6 (Q6d h.rdw.toRdW0 hes) (Qy4 h.rdw hes h.cx) (Qy4 h.rdw hes h.cy) (by
  show m.es.length≤k+1
  have:=h.few
  omega)⟩
def Qvi (w0:World) (gw gn:Nat) (vl vt:Value) (k:Nat) (key:ByteArray) (ra:Nat) (y:Rdr) (e:Ending) (w':World):Prop:=
 e=.returned (.bool true)∧∃ p m L P n x',RdSt w0 w' gw gn vl vt k key p m L P n x' y∧x'.ra=ra
theorem RdSt.turned (h:RdSt w0 w gw gn vl vt k key p m L P n x y) (hs:Qkj w p m P gn vl vt n x e w'):Qvi w0 gw gn vl vt (k+1) key x.ra y e w':=by obtain⟨he,n',x',h1,h2⟩:=h.step hs;exact⟨he,p,m,L,P,n',x',h1,h2⟩
theorem RdSt.read (h:RdSt w0 w gw gn vl vt k key p m L P n x y) (hk:k≤4096) (hn:Jr w0) (hS:Qav w0 F) (hT:ErrT w0) (hkey:key.size≤1048600) (i:Int) (hi1 : -9223372036854775808≤i) (hi2:i≤9223372036854775807) :
  Calls prog 33 #[.pointer (some ⟨x.ra,0,none⟩),.pointer (some ⟨gw,0,none⟩),.pointer (some ⟨gn,0,none⟩),.int .i64 i] w (Qvi w0 gw gn vl vt (k+1) key x.ra y):=by
 have hE:=h.env (F:=F) hk hn hS hT hkey;have hlt:=Qvz i (n:=x.size+3) (by omega);rw[←h.gw];rcases Nat.lt_or_ge 0 (Qi9 i (x.size+3)) with h0|h0
 ·rcases Nat.lt_or_ge (Qi9 i (x.size+3)) (x.size+1) with h1|h1
  ·obtain⟨t,ht⟩:∃ t,Qi9 i (x.size+3)=t+1:=⟨Qi9 i (x.size+3)-1,by omega⟩
   have hc:=Qzf F w p m L P gn vl vt n x hE h.fx.size h.fx.cap (by have:=h.fetches;omega) (by have:=h.fx.items;omega) i hi1 hi2 t ht (by omega);rw[h.gw] at hc ⊢;exact hc.mono fun e w' hs=>h.turned hs
  ·have hc:=Qkv F w p m L P gn vl vt n x hE h.fx.size i hi1 hi2 (.inr h1)
   rw[h.gw] at hc ⊢;exact hc.mono fun e w' hs=>h.turned hs
 ·have hc:=Qkv F w p m L P gn vl vt n x hE h.fx.size i hi1 hi2 (.inl (by omega))
  rw[h.gw] at hc ⊢;exact hc.mono fun e w' hs=>h.turned hs
theorem RdSt.update (h:RdSt w0 w gw gn vl vt k key p m L P n x y) (hk:k≤4096) (hn:Jr w0) (hS:Qav w0 F) (hT:ErrT w0) (hkey:key.size≤1048600) :
  Calls prog 32 #[.pointer (some ⟨x.ra,0,none⟩),.pointer (some ⟨gw,0,none⟩)] w (Qvi w0 gw gn vl vt (k+1) key x.ra y):=by
 have hE:=h.env (F:=F) hk hn hS hT hkey;obtain⟨U,hU,hG⟩:=h.good;have hc:=Qr8 F w p m L P gn vl vt n x hE h.fx.size (fun i hi e=>h.apWX i hi (.inl e)) (fun i hi e=>Zo hE.kinds h.rx.cells (by decide) (e ▸ hi)) (by have:=h.fetches;omega) (by have:=h.fx.items;omega) (by have:=hG.sane.len;omega);rw[h.gw] at hc;exact hc.mono fun e w' hs=>h.turned hs
theorem RdSt.trusts (h:RdSt w0 w gw gn vl vt k key p m L P n x y) (hk:k≤4096) :
  Calls prog 34 #[.pointer (some ⟨x.ra,0,none⟩),.pointer (some ⟨gw,0,none⟩)] w (Qvi w0 gw gn vl vt (k+1) key x.ra y):=by
 have hle:=h.rdw.le;have hcl:=h.cx.le;rw[Q0] at hle;have hfew:=h.few;have hc:=Qee w p m gn x h.wd h.rx (fun i hi e=>h.apWX i hi (.inr (.inr (.inl e)))) h.fx.size (by rw[h.fx.size];omega) (by omega) (fun u hu=>by
  have:=h.rdw.short u.data.toList (List.mem_map.2 ⟨u,hu,rfl⟩)
  simpa using this) h.cx.tr.root
 rw[h.gw] at hc;refine hc.mono fun e w' hs=>?_
 obtain⟨he,hw',hr,hf⟩:=hs;refine h.turned ⟨he,x.c,n,x.qs,?_,Yq h.net hf (Qw h.rx.cl.cells) (by decide) (by decide) (by decide),hw',hf.weak fun _ _ e=>.inl (.inl (.inl e)),Sub.refl _ _,h.cx,Qbk.refl n,rfl,by omega,by omega⟩;rw[←h.fx.size];exact hr
end
end
section
theorem Qxx (d:Dk):Qas (Qiz d):=⟨rfl,rfl,rfl⟩
theorem Qas.calm {d d':Dk} {j:Nat} (h:Qas d) (c:Calm j d d'):Qas d':=⟨c.failAt.trans h.failAt,c.dead.trans h.dead,c.hit.trans h.hit⟩
end
section
theorem Qoc (key:ByteArray):Yf [] key (.good [] 0):=
 Q0y (es:=[]) (n:=0) (by simp) (fun e he=>by simp at he) (Qa6.nil _) (fun j hj=>by simp at hj) (Nat.le_refl _) (fun j hj=>by simp at hj) (Qz9 rfl)
theorem Q4s {m m':Wm} (h:Q7p m m') (hf:m.d.files = []) (ht:m.d.turned=false) (hfo:m.foreign=false):∃ L,RdW m' L 0∧m'.es = []∧m'.key=m.key:=by
 obtain⟨d',k,hc,hq⟩:=h;rw[hf] at hq;rcases hq with ⟨ss,n,ho,rfl⟩|⟨⟨kn,q,ho⟩,_⟩
 ·have e:=ho.one (Qoc m.key)
  simp only[Opn.good.injEq] at e;obtain⟨e1,rfl⟩:=e;have e2:ss = []:=by
   cases ss with
   | nil=>rfl
   | cons a l=>simp[lists] at e1
  subst e2;exact⟨_,Q7a m.key rfl rfl rfl rfl rfl rfl rfl rfl hfo rfl ((Qxx m.d).calm hc) (hc.turned.trans ht) (by show d'.files = [];rw[hc.files];exact hf),rfl,rfl⟩
 ·exact absurd (ho.one (Qoc m.key)) (by simp)
end
section
variable {w0 w:World} {gw gn:Nat} {key:ByteArray} {p:Pl} {m:Wm} {L:Lg} {x y:Rdr}
theorem Q4p {R C:Nat} {K:Nat} (hw:WdIs w p m) (hn:Yk w gn p.gd (.slice none 0 0) (.slice none 0 0) ⟨m.d.files,[],[],0⟩) (hx:Qb6 w gn x) (hy:Qb6 w gn y)
  (hxs:x.size=0) (hxc:x.c=⟨key,0,hash [],⟨x.cap.toNat,[]⟩⟩) (hys:y.size=0) (hyc:y.c=⟨key,0,hash [],⟨y.cap.toNat,[]⟩⟩) (hgw:p.gw=gw) (hk:m.key=key) (hr:RdW m L 0) (hes:m.es = []) (hG:Q47 m [] K) (hK:K≤2097152)
  (hb:Below w0.heap.size w0 w) (hW:∀ i,WdS p m i→w0.heap.size≤i∧i<gn) (hgn:w0.heap.size≤gn) (hgR:gn<R) (hX:∀ i,rdrS x i→i=R∨(R+2≤i∧i<C)) (hY:∀ i,rdrS y i→i=R+1∨C≤i) (hC:R+2≤C) :
  RdSt w0 w gw gn (.slice none 0 0) (.slice none 0 0) 0 key p m L 0 ⟨m.d.files,[],[],0⟩ x y where
 wd:=hw
 net:=hn
 rx:=hx
 ry:=hy
 gw:=hgw
 mkey:=hk
 rdw:=hr
 cx:=by rw[hxc];exact Qz6 key hk 0 _
 cy:=by rw[hyc];exact Qz6 key hk 0 _
 nf:=rfl
 nl:=rfl
 nol:=rfl
 fx:=⟨by rw[hxs,hxc],by rw[hxc],by rw[hxc];simp⟩
 fy:=⟨by rw[hys,hyc],by rw[hyc],by rw[hyc];simp⟩
 good:=⟨[],Nat.le_refl _,by
  rcases hG with h|⟨_,h⟩
  ·rw[hr.foreign] at h;cases h
  ·exact h.bound (by omega)⟩
 few:=by rw[hes];simp
 fetches:=Nat.le_refl _
 below:=hb
 newW:=fun i hi=>(hW i hi).1
 newN:=fun i hi=>by
  rcases hi with e|e
  ·omega
  ·cases e
 newX:=fun i hi=>by have:=hX i hi;omega
 newY:=fun i hi=>by have:=hY i hi;omega
 apWN:=fun i hi hj=>by
  have:=(hW i hi).2
  rcases hj with e|e
  ·omega
  ·cases e
 apWX:=fun i hi hj=>by
  have:=(hW i hi).2
  have:=hX i hj
  omega
 apWY:=fun i hi hj=>by
  have:=(hW i hi).2
  have:=hY i hj
  omega
 apXY:=fun i hi hj=>by
  have:=hX i hi
  have:=hY i hj
  omega
theorem Qpm (hq:x.qs = []) {i:Nat} (hi:rdrS x i):i=x.ra∨i=x.pa∨i=x.gc∨i=x.gk∨i=x.mc:=by
 rcases hi with e|e|e|e|e|e
 ·exact .inl e
 ·exact .inr (.inl e)
 ·exact .inr (.inr (.inl e))
 ·exact .inr (.inr (.inr (.inl e)))
 ·exact .inr (.inr (.inr (.inr e)))
 ·rw[hq] at e;simp at e
variable {w':World}
theorem RdSt.grow {vl vt:Value} {k:Nat} {P:Nat} {n:Nt} (h:RdSt w0 w gw gn vl vt k key p m L P n x y) (hb:Below w.heap.size w w'):RdSt w0 w' gw gn vl vt k key p m L P n x y:=
 { h with wd:=h.wd.below hb,net:=h.net.below hb,rx:=h.rx.below hb,ry:=h.ry.below hb,below:=h.below.trans (hb.mono h.below.size) }
def Qc3 (w0 w:World) (gw gn ra rb k:Nat) (key:ByteArray):Prop:=∃ p m L P n x y,RdSt w0 w gw gn (.slice none 0 0) (.slice none 0 0) k key p m L P n x y∧x.ra=ra∧y.ra=rb
def RdGo (w0:World) (gw gn ra rb k:Nat) (key:ByteArray) (e:Ending) (w':World):Prop:=e=.returned (.bool true)∧Qc3 w0 w' gw gn ra rb k key
section
variable {F:Nat→Addr} {w0 w:World} {gw gn ra rb k:Nat} {key:ByteArray}
theorem Qc3.grow (h:Qc3 w0 w gw gn ra rb k key) (hb:Below w.heap.size w w'):Qc3 w0 w' gw gn ra rb k key:=by obtain⟨p,m,L,P,n,x,y,h1,h2,h3⟩:=h;exact⟨p,m,L,P,n,x,y,h1.grow hb,h2,h3⟩
theorem Qc3.below (h:Qc3 w0 w gw gn ra rb k key):Below w0.heap.size w0 w:=by obtain⟨p,m,L,P,n,x,y,h1,h2,h3⟩:=h;exact h1.below
theorem Qc3.skip (h:Qc3 w0 w gw gn ra rb k key):Qc3 w0 w gw gn ra rb (k+1) key:=by obtain⟨p,m,L,P,n,x,y,h1,h2,h3⟩:=h;obtain⟨U,hU,hG⟩:=h1.good;have hl:=h1.few;exact⟨p,m,L,P,_,x,y,h1.turn rfl rfl rfl h1.wd (U:=U) (by omega) (hG.bound (by omega)) (Fr.refl _ _) (Sub.refl _ _) h1.rdw h1.cx h1.cy (by omega),h2,h3⟩
theorem Qc3.append (h:Qc3 w0 w gw gn ra rb k key) (hk:k≤4096) (hn:Jr w0) (hS:Qav w0 F) (hT:ErrT w0) (a:Int) (two:Bool) (s:ByteArray) :
  Calls prog 26 #[.pointer (some ⟨gw,0,none⟩),.agg #[.int .i64 2,.int .i64 a,.bool two,.string s]] w (RdGo w0 gw gn ra rb (k+1) key):=by
 obtain⟨p,m,L,P,n,x,y,h1,h2,h3⟩:=h;refine (h1.append hk hn hS hT a two s).mono fun e w' hq=>?_
 obtain⟨he,p',m',L',P',n',h4⟩:=hq;exact⟨he,p',m',L',P',n',x,y,h4,h2,h3⟩
theorem Qc3.publish (h:Qc3 w0 w gw gn ra rb k key) (hk:k≤4096) (hn:Jr w0) (hS:Qav w0 F) (hT:ErrT w0) (hkey:key.size≤1048600) (a:Int) (two:Bool) (s:ByteArray) :
  Calls prog 26 #[.pointer (some ⟨gw,0,none⟩),.agg #[.int .i64 3,.int .i64 a,.bool two,.string s]] w (RdGo w0 gw gn ra rb (k+1) key):=by
 obtain⟨p,m,L,P,n,x,y,h1,h2,h3⟩:=h;refine (h1.publish hk hn hS hT hkey a two s).mono fun e w' hq=>?_
 obtain⟨he,p',m',L',P',n',h4⟩:=hq;exact⟨he,p',m',L',P',n',x,y,h4,h2,h3⟩
theorem Qc3.swap (h:Qc3 w0 w gw gn ra rb k key):Qc3 w0 w gw gn rb ra k key:=by obtain⟨p,m,L,P,n,x,y,h1,h2,h3⟩:=h;exact⟨p,m,L,P,n,y,x,h1.swap,h3,h2⟩
theorem Qc3.read (h:Qc3 w0 w gw gn ra rb k key) (hk:k≤4096) (hn:Jr w0) (hS:Qav w0 F) (hT:ErrT w0) (hkey:key.size≤1048600) (i:Int) (hi1 : -9223372036854775808≤i) (hi2:i≤9223372036854775807) :
  Calls prog 33 #[.pointer (some ⟨ra,0,none⟩),.pointer (some ⟨gw,0,none⟩),.pointer (some ⟨gn,0,none⟩),.int .i64 i] w (RdGo w0 gw gn ra rb (k+1) key):=by
 obtain⟨p,m,L,P,n,x,y,h1,rfl,h3⟩:=h;refine (h1.read hk hn hS hT hkey i hi1 hi2).mono fun e w' hq=>?_
 obtain⟨he,p',m',L',P',n',x',h4,h5⟩:=hq;exact⟨he,p',m',L',P',n',x',y,h4,h5,h3⟩
theorem Qc3.update (h:Qc3 w0 w gw gn ra rb k key) (hk:k≤4096) (hn:Jr w0) (hS:Qav w0 F) (hT:ErrT w0) (hkey:key.size≤1048600) :
  Calls prog 32 #[.pointer (some ⟨ra,0,none⟩),.pointer (some ⟨gw,0,none⟩)] w (RdGo w0 gw gn ra rb (k+1) key):=by
 obtain⟨p,m,L,P,n,x,y,h1,rfl,h3⟩:=h;refine (h1.update hk hn hS hT hkey).mono fun e w' hq=>?_
 obtain⟨he,p',m',L',P',n',x',h4,h5⟩:=hq;exact⟨he,p',m',L',P',n',x',y,h4,h5,h3⟩
theorem Qc3.trusts (h:Qc3 w0 w gw gn ra rb k key) (hk:k≤4096) :
  Calls prog 34 #[.pointer (some ⟨ra,0,none⟩),.pointer (some ⟨gw,0,none⟩)] w (RdGo w0 gw gn ra rb (k+1) key):=by
 obtain⟨p,m,L,P,n,x,y,h1,rfl,h3⟩:=h;refine (h1.trusts hk).mono fun e w' hq=>?_
 obtain⟨he,p',m',L',P',n',x',h4,h5⟩:=hq;exact⟨he,p',m',L',P',n',x',y,h4,h5,h3⟩
end
end
section
theorem Qw3 (f:Nat→Addr) (w:World) (vo:Value) (key:ByteArray) (cap:Int) (ops:List Op1) (ho:Qyz w vo ops) (hm:ops.length≤9223372036854775807) (hn:Jr w) (hS:Qav w f) (hT:ErrT w) (hN:Qd2 w) (hcap:cap≤9223372036854775807)
  (hab:∀ o∈ops,-9223372036854775808≤o.a∧o.a≤9223372036854775807) :
  Calls prog 7 #[.string key,.int .i64 cap,vo] w (Q6p w):=by
 have hnil:Jf w (.slice none 0 0) []:=⟨none,0,rfl,Nat.le_refl _,fun j x hx=>by simp at hx⟩
 have HO:=zh ho;have HCL:=zh (Qtn w (.slice none 0 0) vo [] ops hnil ho (by decide) hm);obtain⟨ao,co,rfl,_,_⟩:=ho;have HN:=zh hn;have HS:=zh hS;have HT:=zh hT;have HE:=zh hN;have HAB:=zh hab;have HCP:=zh hcap;clear hn hS hT hN hab hnil hcap
 go_enter func7,ntmps7
 go_upto_region 2 with (first|(go_at_call 23;refine HCL.o.mono ?_;rintro e w1 ⟨b,rfl,rfl,hb⟩;have HBB:=zh hb;clear hb)|fail)
 cases b with
 | false=>
  go_wp2;go_ret;exact⟨rfl,Below.refl _ _⟩
 | true=>
  by_cases hky:1048576<key.size
  ·have hkz:(1048576:Int)<(key.size:Int):=by omega
   go_wp2;go_ret;exact⟨rfl,Below.refl _ _⟩
  ·have hkz:¬ (1048576:Int)<(key.size:Int):=by omega
   obtain⟨_,ho4,_⟩:=HBB.o rfl;have hnc:=Qd4 w (.pointer none) .nilIface (.inl ⟨rfl,rfl⟩) key cap HCP.o;have HNC:=zh hnc;clear hnc
   go_upto_region 5 with (first|(go_at_call 18;refine HNC.o.mono ?_;rintro e w1 ⟨la,lc,lk,lm,rfl,hpc,hcl,hb1,hla,hlc,hlk,hlm⟩;have HPC:=zh hpc;have HLC:=zh hcl;have HB1:=zh hb1;clear hpc hcl hb1)|fail)
   have hwn:=Q0q w1 (.slice none 0 0) [] key ⟨none,0,rfl,Nat.le_refl _,fun j x hx=>by simp at hx⟩ (by decide);have HWN:=zh hwn;clear hwn
   go_upto_region 6 with (first|(go_at_call 25;refine HWN.o.mono ?_;rintro e w2 ⟨p0,rfl,hf2⟩;have HF2:=zh hf2;clear hf2)|fail)
   have hb2:Below w.heap.size w w2:=HB1.o.trans (HF2.o.2.1.mono HB1.o.size);have hG0:Good ⟨key,dk0 (firsts []),none,[],0,false,false⟩ [] 0:=⟨Q2z (l:=[]) (Nat.le_refl _) (fun f hf=>by simp at hf),fun L hL=>by cases hL⟩
   have hop:=Q3n f w2 p0 _ [] 0 HF2.o.1 hG0 rfl (Qs6 hb2 HN.o HS.o HT.o fun i hi=>Nat.le_trans HB1.o.size (HF2.o.2.2 i hi)) (by simp) (by omega) (by show key.size≤_;omega);have HOP:=zh hop;have HB2:=zh hb2;clear hop hG0 hb2
   go_upto_region 7 with (first|(go_at_call 31;refine HOP.o.mono ?_;intro e w3 h3;obtain⟨he,p1,m1,x1,x2,x3,x4,x5,x6,x7,x8⟩:=h3;subst he;have X1:=zh x1;have X2:=zh x2;have X3:=zh x3;have X4:=zh x4;have X5:=zh x5;have X6:=zh x6;have X7:=zh x7;have X8:=zh x8;clear x1 x2 x3 x4 x5 x6 x7 x8)|fail)
   have hb13:Below w1.heap.size w1 w3:=HF2.o.2.1.trans (X5.o.below HF2.o.2.1.size fun i hi hj=>by have:=HF2.o.2.2 i hj;omega);have hb3:Below w.heap.size w w3:=HB1.o.trans (hb13.mono HB1.o.size);have hne:∀ w',Below w.heap.size w w'→Qav w' f∧Qd2 w':=fun w' hb=>⟨HS.o.below hb,HE.o.below hb (by obtain⟨a,ha⟩:=HE.o;exact Qk ha)⟩
   have hlu:=Qqx f w3 la lc lk lm _ _ ((hb13.block _ (Qc HPC.o)).trans HPC.o) (HLC.o.below hb13) fun w' hf=>hne w' (hb3.trans (hf.below hb3.size fun i hi e=>by omega))
   have HLU:=zh hlu;have HB3:=zh hb3;clear hb13 hb3 hne hlu
   go_upto_region 10 with (first|(go_at_call 20;refine HLU.o.mono ?_;rintro e w4 ⟨la4,lk4,rfl,hf4⟩;have HF4:=zh hf4;clear hf4)|fail)
   obtain⟨W4,hW4⟩:∃ W,W=w4.alloc (.cells #[.int .i64 3,.string ⟨#[]⟩] 29):=⟨_,rfl⟩
   have hb4:Below w4.heap.size w4 W4:=by rw[hW4];exact Qa w4 _
   have hT4:Z4 W4 w4.heap.size 3 ⟨#[]⟩:=by rw[hW4];exact heap_alloc_new w4 _
   rw[←hW4];have hlc1:lc<w1.heap.size:=HLC.o.lt;have hold:∀ i,WdS p1 m1 i→w1.heap.size≤i:=fun i hi=>by
    rcases X6.o i hi with e|e
    ·exact HF2.o.2.2 i e
    ·have:=HF2.o.2.1.size;omega
   have hwd4:WdIs W4 p1 m1:=(X3.o.fr HF4.o (fun i hi e=>by have:=hold i hi;omega) (fun i C fz hk e=>by
    have hb13:Below w1.heap.size w1 w3:=HF2.o.2.1.trans (X5.o.below HF2.o.2.1.size fun i hi hj=>by have:=HF2.o.2.2 i hj;omega)
    exact Zp hk (HLC.o.below hb13).cells (by decide) e)).below hb4
   have hbw4:Below w.heap.size w W4:=(HB3.o.trans (HF4.o.below HB3.o.size fun i hi e=>by omega)).trans (hb4.mono (Nat.le_trans HB3.o.size HF4.o.size));obtain⟨t0,t1,tf0,tf1,tlt⟩:=hT4.facts;have d0:=hwd4.heads.1.1;rw[X1.o] at d0;have WD4:=zh hwd4;have BW4:=zh hbw4;have HOLD:=zh hold;clear hW4 hb4 hT4 hwd4 hbw4 hold hlc1;have hnn:=Qx5 W4 p1.gd m1.d.files;have HNN:=zh hnn;clear hnn
   go_upto_region 13 with (first|(go_at_call 19;refine HNN.o.mono ?_;rintro e w5 ⟨gn,rfl,hn5,hb5,hg5⟩;have N5:=zh hn5;have B5:=zh hb5;clear hn5 hb5)|fail)
   have hna:=fun W=>Qd4 W (.pointer (some ⟨gn,0,none⟩)) (.iface 44 (.pointer (some ⟨gn,0,none⟩))) (.inr ⟨_,rfl,rfl⟩) key 16 (by decide)
   have hnb:=fun W=>Qd4 W (.pointer (some ⟨gn,0,none⟩)) (.iface 44 (.pointer (some ⟨gn,0,none⟩))) (.inr ⟨_,rfl,rfl⟩) key cap HCP.o
   have HNA:=zh hna;have HNB:=zh hnb;clear hna hnb t0 t1 tf0 tf1 tlt d0
   go_upto_region 15 with fail
   obtain⟨ra,hra⟩:∃ r,r=w5.heap.size:=⟨_,rfl⟩
   obtain⟨W6,hW6⟩:∃ W,W=(w5.alloc (.cells #[.pointer none,.int .i64 0,.int .i64 16] 81)).alloc (.cells #[.pointer none,.int .i64 0,.int .i64 cap] 81):=⟨_,rfl⟩
   have z6:W6.heap.size=ra+2:=by rw[hW6,hra];simp
   have a6:W6.heap[ra]?=some (.cells #[.pointer none,.int .i64 0,.int .i64 16] 81 (0,0)):=by rw[hW6,hra];exact ((Qa _ _).block _ (by simp)).trans (heap_alloc_new w5 _)
   have b6:W6.heap[ra+1]?=some (.cells #[.pointer none,.int .i64 0,.int .i64 cap] 81 (0,0)):=by
    rw[hW6,hra]
    have:=heap_alloc_new (w5.alloc (.cells #[.pointer none,.int .i64 0,.int .i64 16] 81)) (.cells #[.pointer none,.int .i64 0,.int .i64 cap] 81)
    simpa using this
   have hb6:Below w5.heap.size w5 W6:=by rw[hW6];exact (Qa w5 _).alloc (by simp) _
   have A6:=zh a6;have B6:=zh b6;have HB6:=zh hb6;have Z6:=zh z6;have HRA:=zh hra;rw[←hW6,←hra];clear hW6 a6 b6 hb6 z6 hra
   go_upto_region 16 with (first|(go_at_call 18;refine (HNA.o W6).mono ?_;rintro e w7 ⟨la7,lc7,lk7,lm7,rfl,hpc7,hcl7,hb7,hg1,hg2,hg3,hg4⟩;have a7:=(hb7.block _ (Qc A6.o)).trans A6.o;have A7:=zh a7;have x0:=Qd a7 0 rfl;have xf:=Qq a7 0;have xl:=Qc a7;have HPC7:=zh hpc7;have HCL7:=zh hcl7;have HB7:=zh hb7;have HG7:=zh (show W6.heap.size≤la7∧W6.heap.size≤lc7∧W6.heap.size≤lk7∧W6.heap.size≤lm7 from ⟨hg1,hg2,hg3,hg4⟩);clear a7 hpc7 hcl7 hb7 hg1 hg2 hg3 hg4)|fail)
   have hf8:=Fr.set1 w7 ra 0 (.pointer (some ⟨la7,0,none⟩));have hk7:=Qw A7.o;obtain⟨W8,hW8⟩:∃ W,W=w7.setCell ⟨ra,0,none⟩ (.pointer (some ⟨la7,0,none⟩)):=⟨_,rfl⟩
   have hx8:Qb6 W8 gn ⟨ra,la7,lc7,lk7,lm7,16,0,⟨key,0,hash [],⟨(16:Int).toNat,[]⟩⟩,[]⟩:=by rw[hW8];exact⟨(heap_setCell A7.o _).trans (by simp),Ze HPC7.o hf8 hk7 (by decide),HCL7.o.kept hf8 hk7 (fun k hk=>⟨_,_,_,hk ▸ A7.o⟩) (by decide) (by decide) (by decide) (by decide)⟩
   have hb58:Below w5.heap.size w5 W8:=by rw[hW8];exact (HB6.o.trans (HB7.o.mono HB6.o.size)).setCell (by rw[←HRA.o];exact Nat.le_refl _) _
   have b8:W8.heap[ra+1]?=some (.cells #[.pointer none,.int .i64 0,.int .i64 cap] 81 (0,0)):=by rw[hW8];exact hf8.heap ((HB7.o.block _ (Qc B6.o)).trans B6.o) (by omega)
   have z78:w7.heap.size=W8.heap.size:=by rw[hW8];simp
   have HX8:=zh hx8;have HB58:=zh hb58;have B8:=zh b8;have Z78:=zh z78;rw[←hW8];clear hW8 hf8 hk7 hx8 hb58 b8 z78 x0 xf xl
   go_upto_region 17 with (first|(go_at_call 18;refine (HNB.o W8).mono ?_;rintro e w9 ⟨la9,lc9,lk9,lm9,rfl,hpc9,hcl9,hb9,hg1,hg2,hg3,hg4⟩;have a9:=(hb9.block _ (Qc B8.o)).trans B8.o;have A9:=zh a9;have x0:=Qd a9 0 rfl;have xf:=Qq a9 0;have xl:=Qc a9;have HPC9:=zh hpc9;have HCL9:=zh hcl9;have HB9:=zh hb9;have HG9:=zh (show W8.heap.size≤la9∧W8.heap.size≤lc9∧W8.heap.size≤lk9∧W8.heap.size≤lm9 from ⟨hg1,hg2,hg3,hg4⟩);clear a9 hpc9 hcl9 hb9 hg1 hg2 hg3 hg4)|fail)
   have hf10:=Fr.set1 w9 (ra+1) 0 (.pointer (some ⟨la9,0,none⟩));have hk9:=Qw A9.o;obtain⟨W10,hW10⟩:∃ W,W=w9.setCell ⟨ra+1,0,none⟩ (.pointer (some ⟨la9,0,none⟩)):=⟨_,rfl⟩
   have hx10:Qb6 W10 gn ⟨ra,la7,lc7,lk7,lm7,16,0,⟨key,0,hash [],⟨(16:Int).toNat,[]⟩⟩,[]⟩:=by
    rw[hW10];refine (HX8.o.below HB9.o).fr hf10 (fun i hi e=>?_) fun i C fz hk e=>Zp hk A9.o (by decide) e
    have h1:=Qpm rfl hi;have h2:=HG7.o;have h3:=Z6.o;dsimp only at h1;omega
   have hy10:Qb6 W10 gn ⟨ra+1,la9,lc9,lk9,lm9,cap,0,⟨key,0,hash [],⟨cap.toNat,[]⟩⟩,[]⟩:=by rw[hW10];exact⟨(heap_setCell A9.o _).trans (by simp),Ze HPC9.o hf10 hk9 (by decide),HCL9.o.kept hf10 hk9 (fun k hk=>⟨_,_,_,hk ▸ A9.o⟩) (by decide) (by decide) (by decide) (by decide)⟩
   have hb510:Below w5.heap.size w5 W10:=by rw[hW10];exact (HB58.o.trans (HB9.o.mono HB58.o.size)).setCell (by have:=HRA.o;show w5.heap.size≤ra+1;omega) _
   obtain⟨L,hrw,hes,hmk⟩:=Q4s X8.o rfl rfl rfl;have HR0:=zh (show Qc3 w W10 p0.gw gn ra (ra+1) 0 key from ⟨p1,m1,L,0,_,_,_,Q4p (R:=ra) (C:=W8.heap.size) ((WD4.o.below B5.o).below hb510) (N5.o.below hb510) hx10 hy10 rfl rfl rfl rfl X1.o hmk hrw hes X4.o (by omega) ((BW4.o.trans (B5.o.mono BW4.o.size)).trans (hb510.mono (Nat.le_trans BW4.o.size B5.o.size))) (fun i hi=>by
    have h1:=HOLD.o i hi
    have h2:=WD4.o.lt hi
    have h3:=HB1.o.size
    omega) (by have:=BW4.o.size;omega) (by have:=N5.o.lt;have:=HRA.o;omega) (fun i hi=>by
    have h0:=HX8.o.lt i hi
    have h1:=Qpm rfl hi
    have h2:=HG7.o
    have h3:=Z6.o
    dsimp only at h1
    omega) (fun i hi=>by
    have h1:=Qpm rfl hi
    have h2:=HG9.o
    dsimp only at h1
    omega) (by have:=HB7.o.size;have:=Z6.o;have:=Z78.o;omega),rfl,rfl⟩)
   have x0:=Qd hx10.cells 0 rfl;have y0:=Qd hy10.cells 0 rfl;rw[←hW10];clear hW10 hf10 hk9 hx10 hy10 hb510 hrw hes hmk xf xl
   go_wp2_with fail
   go_loopw [7,16] (fun s7 s16 wr=>∃ k:Nat,k≤ops.length∧s16=.int .i64 k∧s7=.bool true∧Aside (Qc3 w wr p0.gw gn ra (ra+1) k key)) (fun _ s16 _=>ops.length-(intOf s16).toNat)
   case atStart=>exact⟨0,Nat.zero_le _,rfl,rfl,HR0.o⟩
   case round=>
    obtain⟨k,hk,rfl,rfl,HP⟩:=hrel;clear x0 y0;by_cases hlt:k<ops.length
    ·obtain⟨o,hox⟩:∃ o,ops[k]?=some o:=⟨_,List.getElem?_eq_getElem hlt⟩
     obtain⟨ao',co',hae,_,hxx⟩:=HO.o.below HP.o.below;obtain⟨b,off,hbe,d0,d1,d2,d3⟩:=hxx k o hox;cases hae;subst hbe;have hkz:(k:Int)<(ops.length:Int):=by omega
     have hk0:(0:Int)≤(k:Int):=by omega
     have hoa:=HAB.o o (List.mem_of_getElem? hox);obtain⟨kd,oa,ow,os⟩:=o;dsimp only at d0 d1 d2 d3 hoa;clear hxx hox
     go_upto_region 23 with fail
     obtain⟨WA,hWA⟩:∃ W,W=wr.alloc (.cells #[.int .i64 kd,.int .i64 oa,.bool ow,.string os] 60):=⟨_,rfl⟩
     have hbA:Below wr.heap.size wr WA:=by rw[hWA];exact Qa wr _
     have hobA:WA.heap[wr.heap.size]?=some (.cells #[.int .i64 kd,.int .i64 oa,.bool ow,.string os] 60 (0,0)):=by rw[hWA];exact heap_alloc_new wr _
     have HA:=zh (HP.o.grow hbA);have o0:=Qd hobA 0 rfl;have o1:=Qd hobA 1 rfl;have o2:=Qd hobA 2 rfl;have o3:=Qd hobA 3 rfl;rw[←hWA];clear hWA hbA hobA d0 d1 d2 d3;cases ow with
     | true=>
      by_cases k2:kd=2
      ·subst k2
       have HC:=zh (HA.o.append (F:=f) (by omega) HN.o HS.o HT.o oa true os)
       go_wp2_with (first|(go_at_call 26;refine HC.o.mono ?_;rintro e w11 ⟨rfl,hq⟩;have HQ:=zh hq;clear hq)|fail)
       go_roundw
       case rel=>exact⟨k+1,by omega,by go_num,rfl,HQ.o⟩
       case measure=>simp[intOf];omega
      ·have t2:(kd == 2)=false:=by rw[beq_eq_false_iff_ne];exact k2
       by_cases k3:kd=3
       ·subst k3
        have HC:=zh (HA.o.publish (F:=f) (by omega) HN.o HS.o HT.o (by omega) oa true os)
        go_wp2_with (first|(go_at_call 26;refine HC.o.mono ?_;rintro e w11 ⟨rfl,hq⟩;have HQ:=zh hq;clear hq)|fail)
        go_roundw
        case rel=>exact⟨k+1,by omega,by go_num,rfl,HQ.o⟩
        case measure=>simp[intOf];omega
       ·have t3:(kd == 3)=false:=by rw[beq_eq_false_iff_ne];exact k3
        by_cases k6:kd=6
        ·subst k6
         have HC:=zh (HA.o.swap.update (F:=f) (by omega) HN.o HS.o HT.o (by omega))
         go_wp2_with (first|(go_at_call 32;refine HC.o.mono ?_;rintro e w11 ⟨rfl,hq⟩;have HQ:=zh hq;clear hq)|fail)
         go_roundw
         case rel=>exact⟨k+1,by omega,by go_num,rfl,HQ.o.swap⟩
         case measure=>simp[intOf];omega
        ·have t6:(kd == 6)=false:=by rw[beq_eq_false_iff_ne];exact k6
         by_cases k7:kd=7
         ·subst k7
          have HC:=zh (HA.o.swap.read (F:=f) (by omega) HN.o HS.o HT.o (by omega) oa hoa.1 hoa.2)
          go_wp2_with (first|(go_at_call 33;refine HC.o.mono ?_;rintro e w11 ⟨rfl,hq⟩;have HQ:=zh hq;clear hq)|fail)
          go_roundw
          case rel=>exact⟨k+1,by omega,by go_num,rfl,HQ.o.swap⟩
          case measure=>simp[intOf];omega
         ·have t7:(kd == 7)=false:=by rw[beq_eq_false_iff_ne];exact k7
          by_cases k8:kd=8
          ·subst k8
           have HC:=zh (HA.o.swap.trusts (by omega))
           go_wp2_with (first|(go_at_call 34;refine HC.o.mono ?_;rintro e w11 ⟨rfl,hq⟩;have HQ:=zh hq;clear hq)|fail)
           go_roundw
           case rel=>exact⟨k+1,by omega,by go_num,rfl,HQ.o.swap⟩
           case measure=>simp[intOf];omega
          ·have t8:(kd == 8)=false:=by rw[beq_eq_false_iff_ne];exact k8
           have HQ:=zh HA.o.skip
           go_wp2_with fail
           go_roundw
           case rel=>exact⟨k+1,by omega,by go_num,rfl,HQ.o⟩
           case measure=>simp[intOf];omega
     | false=>
      by_cases k2:kd=2
      ·subst k2
       have HC:=zh (HA.o.append (F:=f) (by omega) HN.o HS.o HT.o oa false os)
       go_wp2_with (first|(go_at_call 26;refine HC.o.mono ?_;rintro e w11 ⟨rfl,hq⟩;have HQ:=zh hq;clear hq)|fail)
       go_roundw
       case rel=>exact⟨k+1,by omega,by go_num,rfl,HQ.o⟩
       case measure=>simp[intOf];omega
      ·have t2:(kd == 2)=false:=by rw[beq_eq_false_iff_ne];exact k2
       by_cases k3:kd=3
       ·subst k3
        have HC:=zh (HA.o.publish (F:=f) (by omega) HN.o HS.o HT.o (by omega) oa false os)
        go_wp2_with (first|(go_at_call 26;refine HC.o.mono ?_;rintro e w11 ⟨rfl,hq⟩;have HQ:=zh hq;clear hq)|fail)
        go_roundw
        case rel=>exact⟨k+1,by omega,by go_num,rfl,HQ.o⟩
        case measure=>simp[intOf];omega
       ·have t3:(kd == 3)=false:=by rw[beq_eq_false_iff_ne];exact k3
        by_cases k6:kd=6
        ·subst k6
         have HC:=zh (HA.o.update (F:=f) (by omega) HN.o HS.o HT.o (by omega))
         go_wp2_with (first|(go_at_call 32;refine HC.o.mono ?_;rintro e w11 ⟨rfl,hq⟩;have HQ:=zh hq;clear hq)|fail)
         go_roundw
         case rel=>exact⟨k+1,by omega,by go_num,rfl,HQ.o⟩
         case measure=>simp[intOf];omega
        ·have t6:(kd == 6)=false:=by rw[beq_eq_false_iff_ne];exact k6
         by_cases k7:kd=7
         ·subst k7
          have HC:=zh (HA.o.read (F:=f) (by omega) HN.o HS.o HT.o (by omega) oa hoa.1 hoa.2)
          go_wp2_with (first|(go_at_call 33;refine HC.o.mono ?_;rintro e w11 ⟨rfl,hq⟩;have HQ:=zh hq;clear hq)|fail)
          go_roundw
          case rel=>exact⟨k+1,by omega,by go_num,rfl,HQ.o⟩
          case measure=>simp[intOf];omega
         ·have t7:(kd == 7)=false:=by rw[beq_eq_false_iff_ne];exact k7
          by_cases k8:kd=8
          ·subst k8
           have HC:=zh (HA.o.trusts (by omega))
           go_wp2_with (first|(go_at_call 34;refine HC.o.mono ?_;rintro e w11 ⟨rfl,hq⟩;have HQ:=zh hq;clear hq)|fail)
           go_roundw
           case rel=>exact⟨k+1,by omega,by go_num,rfl,HQ.o⟩
           case measure=>simp[intOf];omega
          ·have t8:(kd == 8)=false:=by rw[beq_eq_false_iff_ne];exact k8
           have HQ:=zh HA.o.skip
           go_wp2_with fail
           go_roundw
           case rel=>exact⟨k+1,by omega,by go_num,rfl,HQ.o⟩
           case measure=>simp[intOf];omega
    ·have hkz:¬ (k:Int)<(ops.length:Int):=by omega
     go_wp2;go_ret;exact⟨rfl,HP.o.below⟩
end
section
theorem Q7u {W:World} {r r':List (String×DataW Unit)} (h1:laidMet prog (("internal/strconv.uint64pow10",Rows.laid_internal_strconv_uint64pow10) :: r) W)
  (h2:laidMet prog (("strconv.ErrRange",Rows.laid_strconv_ErrRange) :: ("strconv.ErrSyntax",Rows.laid_strconv_ErrSyntax) :: r') W) (hsh:W.ShapedOpen prog):Jr W:=by
 have htab:Lib.TabIs prog W "internal/strconv.uint64pow10" .u64 Lib.pow10Tab:=Lib.tabIs_of_head (g:=12) (t:=342) (by kernel_rfl) (by kernel_rfl) underlying342 underlying210 (by kernel_rfl) (by kernel_rfl) h1;obtain⟨a2,s2⟩:=Qa4 (g:=10) h2 (by kernel_rfl) (by kernel_rfl);obtain⟨a1,s1⟩:=Qa4 (g:=9) h2.tail (by kernel_rfl) (by kernel_rfl);have hm:=cell_of_shapedOpen_int (P:=prog) (g:=11) (t:=3) (zero:=#[.int .i64 0]) hsh (of_decide_eq_true (by kernel_rfl)) (by kernel_rfl) rfl (by kernel_rfl) (by kernel_rfl) underlying3;exact⟨htab,hm,⟨_,s1.1,.inr ⟨_,_,rfl⟩⟩,⟨_,s2.1,.inr ⟨_,_,rfl⟩⟩⟩
end
section
variable {W:World}
theorem Q2i {r:List (String×DataW Unit)} (h:laidMet prog (("tiles/api.ErrEntry",Rows.laid_tiles_api_ErrEntry) :: ("tiles/api.ErrRange",Rows.laid_tiles_api_ErrRange) :: ("tiles/api.ErrCheckpoint",Rows.laid_tiles_api_ErrCheckpoint) :: ("tiles/api.ErrOld",Rows.laid_tiles_api_ErrOld) ::
  ("tiles/api.ErrProof",Rows.laid_tiles_api_ErrProof) :: ("tiles/api.ErrTile",Rows.laid_tiles_api_ErrTile) :: ("tiles/api.ErrFailed",Rows.laid_tiles_api_ErrFailed) :: r) W):∃ f,Qav W f:=by
 obtain⟨a0,h0⟩:=Qa4 (text:=Qhd.getD 0 []) (g:=3) h (by kernel_rfl) (by kernel_rfl);have h:=h.tail;obtain⟨a1,h1⟩:=Qa4 (text:=Qhd.getD 1 []) (g:=4) h (by kernel_rfl) (by kernel_rfl);have h:=h.tail;obtain⟨a2,h2⟩:=Qa4 (text:=Qhd.getD 2 []) (g:=1) h (by kernel_rfl) (by kernel_rfl);have h:=h.tail;obtain⟨a3,h3⟩:=Qa4 (text:=Qhd.getD 3 []) (g:=5) h (by kernel_rfl) (by kernel_rfl);have h:=h.tail;obtain⟨a4,h4⟩:=Qa4 (text:=Qhd.getD 4 []) (g:=2) h (by kernel_rfl) (by kernel_rfl);have h:=h.tail;obtain⟨a5,h5⟩:=Qa4 (text:=Qhd.getD 5 []) (g:=6) h (by kernel_rfl) (by kernel_rfl);have h:=h.tail;obtain⟨a6,h6⟩:=Qa4 (text:=Qhd.getD 6 []) (g:=0) h (by kernel_rfl) (by kernel_rfl);refine⟨fun i=>[a0,a1,a2,a3,a4,a5,a6].getD i a0,fun i hi=>?_⟩
 have:i=0∨i=1∨i=2∨i=3∨i=4∨i=5∨i=6:=by omega
 rcases this with rfl|rfl|rfl|rfl|rfl|rfl|rfl <;> assumption
theorem Qy6:prog.globalNamed "errors.errorType"=some 7:=by kernel_rfl
theorem Q6j:(prog.cutTypes.find? (·.1 == "internal/reflectlite.rtype")).map (·.2)=some 282:=by kernel_rfl
theorem Q34:((List.range prog.types.size).filter fun t=>prog.rowNamed t [101,114,114,111,114]) = [88]:=by kernel_rfl
theorem Qtt:typeHandle prog 88=.pointer (some ⟨17,88,none⟩):=by kernel_rfl
theorem Q5w (h:handlesMet prog [("errors.errorType",Rows.laid_errors_errorType)] W):ErrT W:=by
 obtain⟨name,u,ty,e1,e2,e3,e4,e5⟩:=h _ (List.mem_singleton.2 rfl);have en:name = [101,114,114,111,114]:=(Option.some.inj e1).symm;subst en;obtain rfl:=Option.some.inj (Q6j.symm.trans e2);have hm:ty∈(List.range prog.types.size).filter fun t=>prog.rowNamed t [101,114,114,111,114]:=List.mem_filter.2 ⟨List.mem_range.2 e3,e4⟩
 rw[Q34] at hm;obtain rfl:=List.mem_singleton.1 hm;rw[Qtt] at e5
 have:=World.var?_cell Qy6 e5 0
 simpa [ErrT] using this
noncomputable def Qfa (os:Os):World:=
 let w0:=World.holding prog os ⟨#[],#[],[]⟩
 { w0 with heap:=w0.heap.modify 7 fun
   | .cells _ t frozen=>.cells #[.iface 282 (.agg #[.pointer (some ⟨17,88,none⟩)])] t frozen
   | o=>o }
noncomputable def Qqt (os:Os) (laid:List (String×DataW Unit)):World:=(Qfa os).layVars prog (laid.filter fun x=>x.2.handleName?.isNone)
theorem Q33 (os:Os) (laid:List (String×DataW Unit)):(Qqt os laid).os=os:=World.layVars_os _ _ _
theorem Qnx {os:Os} {laid:List (String×DataW Unit)} (args:Array Value)
  (hf:(Qfa os).layFits prog (laid.filter fun x=>x.2.handleName?.isNone) []=true)
  (hi:(Qfa os).layIfaces prog (laid.filter fun x=>x.2.handleName?.isNone) (Qqt os laid)=true)
  (hh:(laid.filter fun x=>x.2.handleName?.isSome).all (handleAtB prog ((Qqt os laid).forCall (fun _ _=>0) ⟨#[],args,[]⟩).memory)=true) :
  laidMetH prog laid ((Qqt os laid).forCall (fun _ _=>0) ⟨#[],args,[]⟩).memory:=by
 refine laidMetH_of_parts ?_ hh;generalize hl:(laid.filter fun x=>x.2.handleName?.isNone)=l at hf hi;have e1:(l.filter fun x=>(l.map (·.1)).contains x.1)=l:=List.filter_eq_self.2 fun x hx=>List.contains_iff_mem.2 (List.mem_map.2 ⟨x,hx,rfl⟩)
 have e2:(l.filter fun x=>!(l.map (·.1)).contains x.1) = []:=List.filter_eq_nil_iff.2 fun x hx=>by rw[List.contains_iff_mem.2 (List.mem_map.2 ⟨x,hx,rfl⟩)];simp
 have h:laidMet prog l (Qqt os laid):=laidMet_layVars (w0:=Qfa os) (l.map (·.1)) [] (by rw[e1];unfold Qqt;rw[hl]) (by rw[e1];exact hf) (by rw[e1];exact hi) (by rw[e2];exact LaidIn.none);exact h.of_heap (by simp[World.memory,World.forCall,Input.heap])
end
section
theorem Qxc {W:World} {r:List (String×DataW Unit)} (h:laidMet prog (("tiles/tiles.errNone",Rows.laid_tiles_tiles_errNone) :: r) W):Qd2 W:=by obtain⟨a,ha⟩:=Qa4 (g:=8) h (by kernel_rfl) (by kernel_rfl);exact⟨a,ha.1⟩
end
section
open Go.ChangeShapes Go.WideShapes Go.ChangeAt Go.RowKit
open Go.ChangeMaps (open_string shut_string)
theorem own:ownKnob prog.godebug=none:=by kernel_rfl
theorem Q52:laidOutB prog=true:=by kernel_rfl
theorem Q7z {n:Nat} (h:n≤maxLen):n≤9223372036854775807:=h
theorem Q5f {n:Int} (h:(Lit.int .i64 n).wf=true) : -9223372036854775808≤n∧n≤9223372036854775807:=by have h1:IntKind.i64.min = -9223372036854775808:=rfl;have h2:IntKind.i64.max=9223372036854775807:=rfl;simp only[Lit.wf,Bool.and_eq_true,decide_eq_true_eq,h1,h2] at h;exact h
end
section
open Go.ChangeShapes Go.WideShapes Go.Deep Go.RowKit
theorem Qud {α:Type} (Q:Nat→α→Prop):∀ (n:Nat),(∀ i,i<n→∃ x,Q i x)→∃ l:List α,l.length=n∧∀ i x,l[i]?=some x→Q i x
 | 0,_=>⟨[],rfl,fun i x hx=>by simp at hx⟩
 | n+1,h=>by
   obtain⟨l,hl,hq⟩:=Qud Q n fun i hi=>h i (by omega)
   obtain⟨x,hx⟩:=h n (by omega)
   refine⟨l ++ [x],by simp[hl],fun i y hy=>?_⟩
   rcases Nat.lt_or_ge i n with hi|hi
   ·rw[List.getElem?_append_left (by omega)] at hy
    exact hq i y hy
   ·rw[List.getElem?_append_right (by omega),hl] at hy
    have:i=n:=by
     rcases Nat.eq_or_lt_of_le hi with e|e
     ·exact e.symm
     ·rw[List.getElem?_eq_none (by simp;omega)] at hy;cases hy
    subst this
    simp at hy
    subst hy
    exact hx
theorem take_one {cs:List Value} {k:Nat} {v:Value} (h:(cs.drop k).take 1 = [v]):cs[k]?=some v:=by
 have:=congrArg (fun l:List Value=>l[0]?) h
 simpa using this
variable {H:Type} {enc:TypeId×Value→H} {W:World} {v:Value} {d:DataW H} {p:List MemPlace}
theorem Q7c (hv:∃ a l c,v=.slice a l c) (h:DataW.Trod enc prog W 0 (fun _=>true) true 39 v d p):∃ l:List Fil,Jf W v l∧l.length≤maxLen:=by
 obtain⟨a,l,c,rfl⟩:=hv;obtain⟨fuel,hf⟩:=h;have hC:prog.cellsOf 73=2:=by kernel_rfl
 have hS:prog.cellsOf 9=1:=by kernel_rfl
 rcases open_slice underlying39 hf with ⟨hcs,_⟩|⟨x,len,cap,m,n,D,Pl,hcs,_,hl,hm,hmm,_,hi⟩
 ·simp[Value.cells] at hcs
  obtain⟨rfl,rfl,rfl⟩:=hcs;exact⟨[],⟨none,0,rfl,Nat.le_refl _,fun j x hx=>by simp at hx⟩,Nat.zero_le _⟩
 ·simp[Value.cells] at hcs
  obtain⟨rfl,rfl,rfl⟩:=hcs;have key:∀ i,i<l→∃ f:Fil,W.cell? ((x.add (i*2)).add 0)=some (.string f.1)∧W.cell? ((x.add (i*2)).add 1)=some (.string f.2):=fun i hil=>by
   obtain⟨cs',hc,ht'⟩:=hi i (by rw[hmm];simp;omega);obtain⟨xs,n',_,_,_,hlen,hg⟩:=DataW.trod_struct underlying73 ht';rw[hC] at hc;obtain⟨_,hcl,hat⟩:=World.cells?_some hc;have g0:=(show DataW.trod enc prog W 0 (fun _=>true) true n' 9 ((cs'.drop 0).take (prog.cellsOf 9))=xs[0]? from hg 0 _ rfl)
   have g1:=(show DataW.trod enc prog W 0 (fun _=>true) true n' 9 ((cs'.drop 1).take (prog.cellsOf 9))=xs[1]? from hg 1 _ rfl)
   have hx0:∃ y,xs[0]?=some y:=⟨_,List.getElem?_eq_getElem (by rw[hlen];decide)⟩
   have hx1:∃ y,xs[1]?=some y:=⟨_,List.getElem?_eq_getElem (by rw[hlen];decide)⟩
   obtain⟨y0,hy0⟩:=hx0;obtain⟨y1,hy1⟩:=hx1;rw[hy0] at g0;rw[hy1] at g1;rw[hS] at g0 g1;obtain⟨s0,e0,_,_⟩:=DataW.trod_string underlying9 g0;obtain⟨s1,e1,_,_⟩:=DataW.trod_string underlying9 g1;have c0:=(hat 0 (by decide)).trans (take_one e0);have c1:=(hat 1 (by decide)).trans (take_one e1);exact⟨(s0,s1),c0,c1⟩
  obtain⟨ls,hls,hq⟩:=Qud _ l key;subst hls;refine⟨ls,⟨some x,c,rfl,hl,fun j f hj=>?_⟩,Nat.le_trans hl hm⟩;obtain⟨k1,k2⟩:=hq j f hj;obtain⟨f0,z0,_⟩:=key 0 (by have:=(List.getElem?_eq_some_iff.1 hj).1;omega);obtain⟨b,off,spot⟩:=x;have hspot:spot=none:=by simpa [Addr.add] using World.cell?_spot z0
  subst hspot;rw[Addr.add_lit,Addr.add_lit] at k1 k2;exact⟨b,off,rfl,by simpa using k1,k2⟩
theorem Q4f (hv:∃ a l c,v=.slice a l c) (h:DataW.Trod enc prog W 0 (fun _=>true) true 53 v d p) :
  ∃ l:List Op1,Qyz W v l∧l.length≤maxLen∧∀ o∈l,-9223372036854775808≤o.a∧o.a≤9223372036854775807:=by
 obtain⟨a,l,c,rfl⟩:=hv;obtain⟨fuel,hf⟩:=h;have hC:prog.cellsOf 60=4:=by kernel_rfl
 have hS:prog.cellsOf 9=1:=by kernel_rfl
 have hI:prog.cellsOf 3=1:=by kernel_rfl
 have hB:prog.cellsOf 4=1:=by kernel_rfl
 rcases open_slice underlying53 hf with ⟨hcs,_⟩|⟨x,len,cap,m,n,D,Pl,hcs,_,hl,hm,hmm,_,hi⟩
 ·simp[Value.cells] at hcs
  obtain⟨rfl,rfl,rfl⟩:=hcs;exact⟨[],⟨none,0,rfl,Nat.le_refl _,fun j x hx=>by simp at hx⟩,Nat.zero_le _,fun o ho=>by cases ho⟩
 ·simp[Value.cells] at hcs
  obtain⟨rfl,rfl,rfl⟩:=hcs;have key:∀ i,i<l→∃ o:Op1,(-9223372036854775808≤o.a∧o.a≤9223372036854775807)∧W.cell? ((x.add (i*4)).add 0)=some (.int .i64 o.kind)∧W.cell? ((x.add (i*4)).add 1)=some (.int .i64 o.a)∧W.cell? ((x.add (i*4)).add 2)=some (.bool o.two)∧W.cell? ((x.add (i*4)).add 3)=some (.string o.s):=fun i hil=>by
   obtain⟨cs',hc,ht'⟩:=hi i (by rw[hmm];simp;omega);obtain⟨xs,n',_,_,_,hlen,hg⟩:=DataW.trod_struct underlying60 ht';rw[hC] at hc;obtain⟨_,hcl,hat⟩:=World.cells?_some hc;have g0:=(show DataW.trod enc prog W 0 (fun _=>true) true n' 3 ((cs'.drop 0).take (prog.cellsOf 3))=xs[0]? from hg 0 _ rfl)
   have g1:=(show DataW.trod enc prog W 0 (fun _=>true) true n' 3 ((cs'.drop 1).take (prog.cellsOf 3))=xs[1]? from hg 1 _ rfl)
   have g2:=(show DataW.trod enc prog W 0 (fun _=>true) true n' 4 ((cs'.drop 2).take (prog.cellsOf 4))=xs[2]? from hg 2 _ rfl)
   have g3:=(show DataW.trod enc prog W 0 (fun _=>true) true n' 9 ((cs'.drop 3).take (prog.cellsOf 9))=xs[3]? from hg 3 _ rfl)
   have hx0:∃ y,xs[0]?=some y:=⟨_,List.getElem?_eq_getElem (by rw[hlen];decide)⟩
   have hx1:∃ y,xs[1]?=some y:=⟨_,List.getElem?_eq_getElem (by rw[hlen];decide)⟩
   have hx2:∃ y,xs[2]?=some y:=⟨_,List.getElem?_eq_getElem (by rw[hlen];decide)⟩
   have hx3:∃ y,xs[3]?=some y:=⟨_,List.getElem?_eq_getElem (by rw[hlen];decide)⟩
   obtain⟨y0,hy0⟩:=hx0;obtain⟨y1,hy1⟩:=hx1;obtain⟨y2,hy2⟩:=hx2;obtain⟨y3,hy3⟩:=hx3;rw[hy0] at g0;rw[hy1] at g1;rw[hy2] at g2;rw[hy3] at g3;rw[hI] at g0 g1;rw[hB] at g2;rw[hS] at g3;obtain⟨s0,e0,_,_⟩:=DataW.trod_int underlying3 g0;obtain⟨s1,e1,_,w1⟩:=DataW.trod_int underlying3 g1;obtain⟨s2,e2,_⟩:=DataW.trod_bool underlying4 g2;obtain⟨s3,e3,_,_⟩:=DataW.trod_string underlying9 g3;have c0:=(hat 0 (by decide)).trans (take_one e0);have c1:=(hat 1 (by decide)).trans (take_one e1);have c2:=(hat 2 (by decide)).trans (take_one e2);have c3:=(hat 3 (by decide)).trans (take_one e3);exact⟨⟨s0,s1,s2,s3⟩,Q5f w1,c0,c1,c2,c3⟩
  obtain⟨ls,hls,hq⟩:=Qud _ l key;subst hls;refine⟨ls,⟨some x,c,rfl,hl,fun j f hj=>?_⟩,Nat.le_trans hl hm,fun o ho=>?_⟩
  ·obtain⟨_,k1,k2,k3,k4⟩:=hq j f hj
   obtain⟨f0,_,z0,_⟩:=key 0 (by have:=(List.getElem?_eq_some_iff.1 hj).1;omega);obtain⟨b,off,spot⟩:=x;have hspot:spot=none:=by simpa [Addr.add] using World.cell?_spot z0
   subst hspot;rw[Addr.add_lit,Addr.add_lit] at k1 k2 k3 k4;exact⟨b,off,rfl,by simpa using k1,k2,k3,k4⟩
  ·obtain⟨j,hj⟩:=List.mem_iff_getElem?.1 ho
   exact (hq j o hj).1
end
section
open Go.ChangeShapes Go.RowKit
variable {H:Type} {enc:TypeId×Value→H}
theorem Qjh {a:Assume} {C:Checked} {os:Os} {f:FuncId} {fn:Func} {s:ChangeSpec} {conds:List PathCond} {apart fresh handsOn again:Bool} {X:World→Array Value→Prop}
  (hX:∀ (w w':World) (args:Array Value),w.heap=w'.heap→X w args→X w' args)
  (own:ownKnob C.prog.godebug=none) (started:os.Started) (noInit:C.prog.inits.idxOf? f=none) (hfn:C.prog.funcs[f]?=some fn)
  (witness:∃ (w:World) (tape:Tape) (i:Input),w.os=os∧(w.forCall tape i).Shaped C.prog∧i.vars = []∧Input.okWide C.prog (w.forCall tape i) .any w.heap.size f i∧
   ((s.pre enc C.prog fn conds apart (w.forCall tape i).memory i.args∧X (w.forCall tape i).memory i.args)∧sizedMet enc C.prog fn (OpenSpec.ofChange s) apart (w.forCall tape i).memory i.args)∧a.holds C.prog (lone (Frame.enter C.prog f i.args .normal) [] (w.forCall tape i)))
  (contract:∀ (W:World) (base:Nat) (args:Array Value) (ds gs:List (DataW H)) (before:List MemPlace),
   (∀ (j:Nat) t v,fn.params[j]?=some t→args[j]?=some v→Value.okWide C.prog W .any base t v)→
   DataW.Whole enc C.prog fn.params.toList s.vars apart W args.toList ds gs before→W.ShapedOpen C.prog→X W args→
   Calls C.prog f args W fun e W'=>∃ v,e=.returned v∧s.post enc C.prog fn apart fresh handsOn again W args v W') :
  ReturnsInHanded a C os f .any (fun w args=>(s.pre enc C.prog fn conds apart w args∧X w args)∧sizedMet enc C.prog fn (OpenSpec.ofChange s) apart w args) (s.post enc C.prog fn apart fresh handsOn again):=by
 refine returnsInHanded_of_calls own started noInit witness ?_;intro w tape i _ hsh _ hok hpre _;obtain⟨_,_,_,fn',hfn',_,_,_,_,hval⟩:=hok;have e:fn'=fn:=Option.some.inj (hfn'.symm.trans hfn);subst e;obtain⟨⟨⟨ds,gs,before,hw,_⟩,hx⟩,_⟩:=hpre;have hw':=DataW.Whole.of_heap (w':=w.forCall tape i) (by rfl) hw;refine (contract (w.forCall tape i) w.heap.size i.args ds gs before hval hw' hsh (hX _ _ _ (by rfl) hx)).mono fun e W' ⟨v,he,hp⟩=>?_
 subst he;exact ChangeSpec.post_blind hp
end
end Go.Proofs.YtefccfakhgdfbabGreatDoor
