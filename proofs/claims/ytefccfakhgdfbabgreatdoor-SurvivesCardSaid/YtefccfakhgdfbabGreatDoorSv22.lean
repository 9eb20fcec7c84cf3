/- The bridge for rows that list variables, with the world's shape handed on; with a specification's own condition, and without. No walk. -/
import Derived.Test.YtefccfakhgdfbabGreatDoorSv21
import Derived.LaidSub
import Derived.Lay
import Derived.ShutString
import Derived.Deep.Fields
import Derived.LaidMore
set_option linter.unusedVariables false
set_option linter.unusedSimpArgs false
open Go.RowKit Go.Proofs.Tryz
set_option maxRecDepth 100000
set_option maxHeartbeats 4000000
namespace Go.Proofs.YtefccfakhgdfbabGreatDoor
section
def PUpdPost (w:World) (gc gk mc gn gd:Nat) (vl vt:Value) (qs:List CEnt) (r:Tld×List Hsh×Cl×Nt) (e:Ending) (w':World):Prop:=
 ∃ v',e=.returned (.tuple #[v',toldV r.1.1 r.1.2])∧OwnStrs w' w.heap.size v' (r.2.1.map HS)∧
  ∃ qs',ClIs w' gc gk mc (.iface 44 (.pointer (some ⟨gn,0,none⟩))) r.2.2.1 qs'∧NetIs w' gn gd vl vt r.2.2.2∧Fr (cnS gc gk mc gn vt qs) w w'∧Sub w (cnS gc gk mc gn vt qs) (cnS gc gk mc gn vt qs')
theorem pupdate_of (F:Nat→Addr) (w:World) (ga gc gk mc gn gd:Nat) (vl vt:Value) (qs:List CEnt) (r:Tld×List Hsh×Cl×Nt) (hga:PcAt w ga gc) (hE:EnvS F (cnS gc gk mc gn vt qs) w) (hlt:∀ k,cnS gc gk mc gn vt qs k→k<w.heap.size) (hlen:r.2.1.length≤1048576)
  (hc:Calls prog 42 #[.pointer (some ⟨gc,0,none⟩)] (w.alloc (.cells #[.int .i64 0,.string ⟨#[]⟩] 29)) (UpdPost F (w.alloc (.cells #[.int .i64 0,.string ⟨#[]⟩] 29)) gc gk mc gn gd vl vt qs r)) :
  Calls prog 20 #[.pointer (some ⟨ga,0,none⟩)] w (PUpdPost w gc gk mc gn gd vl vt qs r):=by
 obtain⟨⟨tk,tp⟩,hh,c1,n1⟩:=r
 obtain⟨W0,hW0⟩:∃ W0,W0=w.alloc (.cells #[.int .i64 0,.string ⟨#[]⟩] 29):=⟨_,rfl⟩
 have hb0:Below w.heap.size w W0:=by rw[hW0];exact below_alloc w _
 have ht0:ToldAt' W0 w.heap.size 0 ⟨#[]⟩:=by rw[hW0];exact told_new w
 have hz0:W0.heap.size=w.heap.size+1:=by rw[hW0];simp
 have c0:W0.cell? ⟨ga,0,none⟩=some (.pointer (some ⟨gc,0,none⟩)):=cell_heap ((hb0.block _ (lt_of_heap hga)).trans hga) 0 rfl
 rw[←hW0] at hc
 have HW0:=zh hW0
 have HB0:=zh hb0
 have HT0:=zh ht0
 have HE:=zh hE
 have HLT:=zh hlt
 have HLEN:=zh hlen
 have HC:=zh hc
 clear hga hE hlt hlen hc hW0 hb0 ht0
 go_enter func20,ntmps20
 go_upto_region 1 with fail
 rw[show w.alloc (.cells #[.int .i64 0,.string ⟨#[]⟩] 29)=W0 from HW0.o.symm]
 go_upto_region 2 with (first
  | (go_at_call 42;refine HC.o.mono ?_;rintro e w3 ⟨v,y,rfl,hv,hy,qs1,hcl,hn1,hf1,hs1⟩;have HV:=zh hv;have HV3:=zh (show OwnHs w3 0 v hh from ownsRow_mono hv (Nat.zero_le _));have HY:=zh hy;have HCL:=zh hcl;have HN1:=zh hn1;have HF1:=zh hf1;have HS1:=zh hs1;clear hv hy hcl hn1 hf1 hs1)
  | fail)
 have ht1:ToldAt' w3 w.heap.size 0 ⟨#[]⟩:=HF1.o.heap HT0.o fun e=>by have:=HLT.o _ e;omega
 have hfr1:Fr (cnS gc gk mc gn vt qs) w w3:=(Fr.ofBelow HB0.o).trans HF1.o
 have HT1:=zh ht1
 have HFR1:=zh hfr1
 clear ht1 hfr1 c0
 go_wp2_with (first
  | (go_at_call 43;refine (texts_fr v hh w3 HV3.o HLEN.o).mono ?_;rintro e w4 ⟨v4,rfl,ho4,hf4⟩;obtain⟨va,vc,rfl⟩:=own_any ho4;have HO4:=zh ho4;have HF4:=zh hf4;have HK4:=zh (kinds_row HV3.o);clear ho4 hf4)
  | (go_at_call 37;have hfr4:Fr (cnS gc gk mc gn vt qs) w w4:=HFR1.o.step HF4.o (fun i h1 h2=>absurd (HV.o.lt i h2).1 (by omega));have HFR4:=zh hfr4;have hy4:=HY.o.fr HF4.o (fun k C fz hC=>kinds_not HK4.o hC (by decide));have ht4:=HT1.o.kept HF4.o HK4.o (by decide);refine (of_err (HE.o w4 hfr4).2.1 hy4).mono ?_;rintro e w5 ⟨rfl,hb5⟩;have HB5:=zh hb5;have HT5:=zh (ht4.below hb5);obtain⟨t0,t1,t2,t3,t4⟩:=HT5.o.facts;clear hfr4 hy4 ht4 hb5)
  | fail)
 have hts:=told_set (m:=tk) (t:=tp) HT5.o
 have hkt:=kinds_one HT5.o
 have hf5:=hts.2
 have e4:Value.slice va (hh.map HS).length vc=Value.slice va hh.length vc:=by rw[List.length_map]
 refine bodyPost_ret (v:=.tuple #[.slice va hh.length vc,toldV tk tp]) (by simp[results,results20,go_sem,t0,t1]) rfl ⟨_,rfl,?_,qs1,?_,?_,?_,?_⟩
 ·rw[←e4]
  exact ownsRow_mono (row_kept (ownsRow_below HO4.o HB5.o) hf5 hkt (by decide)) (by have:=HF1.o.size;omega)
 ·have h4:=HCL.o.kept HF4.o HK4.o (fun k hk=>by obtain⟨C,hC⟩:=ownBlock_type HV3.o hk;exact⟨C,_,_,hC⟩) (by decide) (by decide) (by decide) (by decide)
  exact (h4.below HB5.o).kept hf5 hkt (fun k hk=>⟨_,_,_,(show w5.heap[k]?=_ from hk ▸ HT5.o)⟩) (by decide) (by decide) (by decide) (by decide)
 ·have h4:=net_kept HN1.o HF4.o HK4.o (by decide) (by decide) (by decide)
  exact net_kept (h4.below HB5.o) hf5 hkt (by decide) (by decide) (by decide)
 ·exact (HFR4.o.trans (Fr.ofBelow HB5.o)).step hf5 fun i h1 h2=>by omega
 ·exact HS1.o.mono (by omega)
end
section
structure KeEnv (F:Nat→Addr) (w:World) (gd:Nat) (v:Value) (m:Wm) (L:Lg) (P:Nat) (ga gc gk mc gn:Nat) (vl vt:Value) (n:Nt) (c:Cl) (qs:List CEnt):Prop where
 disk:DiskAt w gd v m.d
 net:NetIs w gn gd vl vt n
 pc:PcAt w ga gc
 cl:ClIs w gc gk mc (.iface 44 (.pointer (some ⟨gn,0,none⟩))) c qs
 env:EnvS F (cnS gc gk mc gn vt qs) w
 rdw:RdW m L P
 rdc:RdC m P c
 nf:n.files=m.d.files
 cut:∀ x∈n.lies,CutLie n.files x
 few:m.es.length≤8192
 small:∀ f∈m.d.files,f.2.size≤1048576
 key:m.key.size≤9223372036854775807
 fetches:n.fetches<1000000000000
 items:c.cache.items.length<100000000000
section
variable {F:Nat→Addr} {w:World} {gd:Nat} {v:Value} {m:Wm} {L:Lg} {P:Nat} {ga gc gk mc gn:Nat} {vl vt:Value} {n:Nt} {c:Cl} {qs:List CEnt}
theorem KeEnv.lt (h:KeEnv F w gd v m L P ga gc gk mc gn vl vt n c qs):∀ k,cnS gc gk mc gn vt qs k→k<w.heap.size:=fun k hk=>by
 rcases hk with hk|hk|hk
 ·exact h.cl.ltS hk
 ·exact hk ▸ h.net.lt
 ·obtain⟨C,hC⟩:=ownBlock_type h.net.told hk
  exact lt_of_heap hC
theorem KeEnv.ll (h:KeEnv F w gd v m L P ga gc gk mc gn vl vt n c qs):(lists m.es).length≤1048576:=by
 rw[lists_len]
 have:=h.few
 omega
theorem KeEnv.netTrue (h:KeEnv F w gd v m L P ga gc gk mc gn vl vt n c qs):NetTrue (lists m.es) n:=
 netTrue_cut h.ll h.rdw.short (by rw[h.nf];exact h.rdw.sound.true') h.cut
theorem KeEnv.netSmall (h:KeEnv F w gd v m L P ga gc gk mc gn vl vt n c qs):NetSmall n:=⟨fun f hf=>by
  rw[h.nf] at hf
  have:=h.small f hf
  omega,fun l hl=>by
  obtain⟨_,f,hf,_,hd⟩:=h.cut l hl
  rw[h.nf] at hf
  have h1:=h.small f hf
  have h2:=congrArg List.length hd
  rw[List.length_dropLast,Array.length_toList,Array.length_toList] at h2
  have h3:l.data.size=l.data.data.size:=rfl
  have h4:f.2.size=f.2.data.size:=rfl
  omega⟩
theorem KeEnv.csize (h:KeEnv F w gd v m L P ga gc gk mc gn vl vt n c qs):c.size≤8192:=by
 have h1:=h.rdc.tr.size
 have h2:=h.few
 rw[lists_len] at h1
 omega
theorem kread_call (h:KeEnv F w gd v m L P ga gc gk mc gn vl vt n c qs) (j:Nat) (hj:j<c.size) :
  Calls prog 22 #[.pointer (some ⟨ga,0,none⟩),.int .i64 j] w (PReadPost w gc gk mc gn gd vl vt qs (readP c n j)):=by
 have hb:=below_alloc w (.cells #[.int .i64 0,.string ⟨#[]⟩] 29)
 have hcs:=h.csize
 have hlle:=h.ll
 have hnt:=h.netTrue
 obtain⟨_,_,_,_,_,_,r7⟩:=readP_true hlle h.rdw.short h.rdc.tr hnt hj (av:=false) (fun e=>by cases e)
 have hT:=readT_small hcs hj
 have hTQ:TrueQ (lists m.es) c.size false (askQ n c.cache):=⟨fun y hy=>by simp[askQ] at hy,h.rdc.tr.cache,hnt,fun e=>by cases e⟩
 have hq:=readQ_true hlle h.rdc.tr.size h.rdw.short (av:=false) hj (askQ n c.cache) hTQ
 refine pread_of F w ga gc gk mc gn gd vl vt j qs _ h.pc h.env h.lt ?_ ?_
 ·rcases r7 with ⟨_,r6⟩|⟨_,p,_,r6⟩
  ·rw[r6]
   show (pathOf ((lists m.es).take c.size) j).length≤_
   have:=pathOf_len ((lists m.es).take c.size) j
   rw[List.length_take,lists_len] at this
   have:=h.few
   omega
  ·rw[r6];simp
 ·refine read_ask F _ gc gk mc gn gd vl vt v c qs n m.d (h.cl.below hb) (h.net.below hb) (h.disk.below hb) h.nf.symm (h.env.below hb) j hj (by omega) ⟨?_,?_,h.netSmall⟩ ?_ (fun hp=>?_) ?_
  ·show n.fetches+_<_
   have:=h.fetches
   omega
  ·show 0+_<_
   omega
  ·intro b s1 hb1
   have:=bun_small hlle h.rdw.short h.rdc.tr.size hj hTQ hb1
   omega
  ·obtain⟨_,p,hp2⟩:=hq.2.2 _ hp
   cases hp2
  ·have:=h.items
   omega
theorem kupd_call (h:KeEnv F w gd v m L P ga gc gk mc gn vl vt n c qs) (hcp:getF m.d.files (sOf kCp)=some (cpOf ((lists m.es).take P) m.key)) (hs:c.size=0∨c.size=P) :
  Calls prog 20 #[.pointer (some ⟨ga,0,none⟩)] w (PUpdPost w gc gk mc gn gd vl vt qs (updateP c n)):=by
 have hb:=below_alloc w (.cells #[.int .i64 0,.string ⟨#[]⟩] 29)
 have hcs:=h.csize
 have hP:=h.rdw.le
 have hfew:=h.few
 rw[lists_len] at hP
 have hlen:((lists m.es).take P).length=P:=by rw[List.length_take,lists_len];omega
 have hfc:∀ data,fetchA n (sOf kCp)=some data→data=(cpOf ((lists m.es).take P) m.key).data.toList∨data=(cpOf ((lists m.es).take P) m.key).data.toList.dropLast:=fun data hd=>by
  obtain⟨b,hb1,hdb⟩:=fetch_cut h.cut hd
  rw[h.nf] at hb1
  have hg:=once_get h.rdw.sound.fresh.once hb1
  rw[hcp] at hg
  rw[←Option.some.inj hg] at hdb
  exact hdb
 have hno:∀ (data:List UInt8) (N:Nat),fetchA n (sOf kCp)=some data→(checkGo data c.key.data.toList).2.2=true→(checkGo data c.key.data.toList).1=(N:Int)→c.size<N→0<c.size→False:=fun data N hd hok hN hlt hpos=>by
  have hcP:c.size=P:=by omega
  have e:(cpOf ((lists m.es).take P) m.key).data.toList=signOf ((lists m.es).take P).length (rootOf ((lists m.es).take P)) m.key.data.toList:=rfl
  rcases hfc data hd with h1|h1
  ·rw[h1,e,h.rdc.key,checkGo_sign _ _ _ (by omega),hlen] at hN
   have:=Int.ofNat.inj hN
   omega
  ·rw[h1,e,check_short] at hok
   cases hok
 have hul:(updateP c n).2.1 = []:=by
  unfold updateP
  cases hf:fetchA n (sOf kCp) with
  | none=>rfl
  | some data=>
   dsimp only
   split
   ·rfl
   split
   ·rfl
   split
   ·split <;> rfl
   split
   ·rfl
   ·rename_i k1 k2 k3 k4
    exfalso
    have hck:(checkGo data c.key.data.toList).2.2=true:=by
     cases hq:(checkGo data c.key.data.toList).2.2 with
     | true=>rfl
     | false=>exact absurd hq k1
    have hcP:c.size=P:=by omega
    have e:(cpOf ((lists m.es).take P) m.key).data.toList=signOf ((lists m.es).take P).length (rootOf ((lists m.es).take P)) m.key.data.toList:=rfl
    rcases hfc data hf with h1|h1
    ·rw[h1,e,h.rdc.key,checkGo_sign _ _ _ (by omega),hlen] at k3
     simp at k3
     omega
    ·rw[h1,e,check_short] at hck
     cases hck
 refine pupdate_of F w ga gc gk mc gn gd vl vt qs _ h.pc h.env h.lt ?_ ?_
 ·rw[hul];simp
 ·refine update_any F _ gc gk mc gn gd vl vt v c qs n m.d (h.cl.below hb) (h.net.below hb) (h.disk.below hb) h.nf.symm (h.env.below hb) (by have:=h.fetches;omega) (by rw[h.rdc.key];exact h.key) (fun data hd=>?_) (by omega) fun data N hd hok hN hlt hpos=>(hno data N hd hok hN hlt hpos).elim
  obtain⟨b,hb1,hdb⟩:=fetch_cut h.cut hd
  rw[h.nf] at hb1
  have h1:=h.small _ hb1
  have h4:b.size=b.data.size:=rfl
  dsimp only at h1
  rcases hdb with rfl|rfl
  ·rw[Array.length_toList];omega
  ·rw[List.length_dropLast,Array.length_toList];omega
end
end
section
structure KeSt (w0 w:World) (k:Nat) (gd:Nat) (v:Value) (m:Wm) (L:Lg) (P:Nat) (ga gc gk mc gn:Nat) (vl vt:Value) (n:Nt) (c:Cl) (qs:List CEnt):Prop where
 disk:DiskAt w gd v m.d
 net:NetIs w gn gd vl vt n
 pc:PcAt w ga gc
 cl:ClIs w gc gk mc (.iface 44 (.pointer (some ⟨gn,0,none⟩))) c qs
 below:Below w0.heap.size w0 w
 new:∀ i,cnS gc gk mc gn vt qs i→w0.heap.size≤i
 rdw:RdW m L P
 cp:getF m.d.files (sOf kCp)=some (cpOf ((lists m.es).take P) m.key)
 rdc:RdC m P c
 nf:n.files=m.d.files
 cut:∀ x∈n.lies,CutLie n.files x
 few:m.es.length≤8192
 small:∀ f∈m.d.files,f.2.size≤1048576
 key:m.key.size≤9223372036854775807
 fetches:n.fetches≤k*900000
 items:c.cache.items.length≤k*450000
section
variable {F:Nat→Addr} {w0 w:World} {k:Nat} {gd:Nat} {v:Value} {m:Wm} {L:Lg} {P:Nat} {ga gc gk mc gn:Nat} {vl vt:Value} {n:Nt} {c:Cl} {qs:List CEnt}
theorem KeSt.env (h:KeSt w0 w k gd v m L P ga gc gk mc gn vl vt n c qs) (hk:k≤10000) (hn:NumEnv w0) (hS:Sents w0 F) (hT:ErrT w0):KeEnv F w gd v m L P ga gc gk mc gn vl vt n c qs:=
 ⟨h.disk,h.net,h.pc,h.cl,envS_of h.below hn hS hT h.new,h.rdw,h.rdc,h.nf,h.cut,h.few,h.small,h.key,by have:=h.fetches;omega,by have:=h.items;omega⟩
theorem KeSt.grow (h:KeSt w0 w k gd v m L P ga gc gk mc gn vl vt n c qs) {w':World} (hb:Below w.heap.size w w'):KeSt w0 w' k gd v m L P ga gc gk mc gn vl vt n c qs:=
 { h with disk:=h.disk.below hb,net:=h.net.below hb,pc:=(hb.block _ (lt_of_heap h.pc)).trans h.pc,cl:=h.cl.below hb,below:=h.below.trans (hb.mono h.below.size) }
theorem KeSt.told (h:KeSt w0 w k gd v m L P ga gc gk mc gn vl vt n c qs) {tb:Nat} {x:Int} {s:ByteArray} (ht:ToldAt' w tb x s) (htb:w0.heap.size≤tb) {w':World} (hf:Fr (·=tb) w w'):KeSt w0 w' k gd v m L P ga gc gk mc gn vl vt n c qs:=by
 have hk:=kinds_one ht
 exact { h with disk:=h.disk.kept hf hk (by decide) (by decide),net:=net_kept h.net hf hk (by decide) (by decide) (by decide),pc:=heap_kept h.pc hf hk (by decide),cl:=h.cl.kept hf hk (fun i hi=>⟨_,_,_,hi ▸ ht⟩) (by decide) (by decide) (by decide) (by decide),below:=h.below.trans (hf.below h.below.size fun i hi e=>by omega) }
def KeRead (w0 w:World) (k:Nat) (gd:Nat) (v:Value) (m:Wm) (L:Lg) (P:Nat) (ga gc gk mc gn:Nat) (vl vt:Value) (n:Nt) (c:Cl) (j:Nat) (e:Ending) (w':World):Prop:=
 ∃ (nn:Bool) (v':Value) (s:ByteArray) (tk:Nat) (tp:ByteArray) (n':Nt) (c':Cl) (qs':List CEnt),e=.returned (.tuple #[.string s,.bool nn,v',toldV tk tp])∧KeSt w0 w' k gd v m L P ga gc gk mc gn vl vt n' c' qs'∧(∀ tb x u,ToldAt' w tb x u→ToldAt' w' tb x u)∧
  SameN n n'∧c'.size=c.size∧(tk=0→s=sOf ((lists m.es).getD j []))∧(n.lies = []→tk=0)
def KeUpd (w0 w:World) (k:Nat) (gd:Nat) (v:Value) (m:Wm) (L:Lg) (P:Nat) (ga gc gk mc gn:Nat) (vl vt:Value) (n:Nt) (e:Ending) (w':World):Prop:=
 ∃ (v':Value) (tk:Nat) (tp:ByteArray) (n':Nt) (c':Cl) (qs':List CEnt),e=.returned (.tuple #[v',toldV tk tp])∧KeSt w0 w' k gd v m L P ga gc gk mc gn vl vt n' c' qs'∧(∀ tb x u,ToldAt' w tb x u→ToldAt' w' tb x u)∧
  SameN n n'∧c'.size=P∧(n.lies = []→tk=0)
theorem KeSt.next (h:KeSt w0 w k gd v m L P ga gc gk mc gn vl vt n c qs) {w':World} {c':Cl} {n':Nt} {qs':List CEnt} (hf:Fr (cnS gc gk mc gn vt qs) w w') (hs:Sub w (cnS gc gk mc gn vt qs) (cnS gc gk mc gn vt qs')) (hcl:ClIs w' gc gk mc (.iface 44 (.pointer (some ⟨gn,0,none⟩))) c' qs') (hn:NetIs w' gn gd vl vt n')
  (hrc:RdC m P c') (hsn:SameN n n') (hfe:n'.fetches≤n.fetches+900000) (hit:c'.cache.items.length≤c.cache.items.length+450000) :
  KeSt w0 w' (k+1) gd v m L P ga gc gk mc gn vl vt n' c' qs'∧∀ tb x u,ToldAt' w tb x u→ToldAt' w' tb x u:=by
 have hk:Kinds w (cnS gc gk mc gn vt qs) (([177] ++ [246,244]) ++ [103,3]):=((kinds_one h.cl.cells).or (kinds_cache h.cl.cache)).or (kinds_net h.net)
 have hz:=h.below.size
 refine⟨⟨h.disk.kept hf hk (by decide) (by decide),hn,heap_kept h.pc hf hk (by decide),hcl,h.below.trans (hf.below hz fun i hi e=>by have:=h.new i e;omega),fun i hi=>?_,h.rdw,h.cp,hrc,hsn.2.trans h.nf,by rw[hsn.1,hsn.2];exact h.cut,h.few,h.small,h.key,?_,?_⟩,fun tb x u ht=>ht.kept hf hk (by decide)⟩
 ·rcases hs i hi with e|e
  ·exact h.new i e
  ·omega
 ·have:=h.fetches
  omega
 ·have:=h.items
  omega
theorem KeSt.ll (h:KeSt w0 w k gd v m L P ga gc gk mc gn vl vt n c qs):m.es.length≤1048576:=by have:=h.few;omega
theorem KeSt.read (h:KeSt w0 w k gd v m L P ga gc gk mc gn vl vt n c qs) (hk:k≤10000) (hn:NumEnv w0) (hS:Sents w0 F) (hT:ErrT w0) (j:Nat) (hj:j<c.size) :
  Calls prog 22 #[.pointer (some ⟨ga,0,none⟩),.int .i64 j] w (KeRead w0 w (k+1) gd v m L P ga gc gk mc gn vl vt n c j):=by
 have hE:=h.env (F:=F) hk hn hS hT
 have hcost:=readP_cost (n:=n) (i:=(j:Int)) hE.csize
 obtain⟨r1,r2,r3,_,r5⟩:=heal_read h.rdw h.ll h.rdc h.nf h.cut hj
 refine (kread_call hE j hj).mono fun e w' hq=>?_
 obtain⟨nn,v',he,_,_,_,qs',hcl,hnet,hf,hs⟩:=hq
 obtain⟨h1,h2⟩:=h.next hf hs hcl hnet r2 r1 (by omega) (by omega)
 refine⟨nn,v',_,_,_,_,_,qs',he,h1,h2,r1,r3,fun ht=>?_,fun hl=>?_⟩
 ·rcases r5 with ⟨_,e2⟩|⟨p,e1,_⟩
  ·rw[e2]
  ·rw[e1] at ht;cases ht
 ·rw[(rd_read h.rdw h.ll h.rdc h.nf hl hj).2.2.2.2.1]
  rfl
theorem KeSt.update (h:KeSt w0 w k gd v m L P ga gc gk mc gn vl vt n c qs) (hk:k≤10000) (hn:NumEnv w0) (hS:Sents w0 F) (hT:ErrT w0) (hs:(c.size=0∧n.lies = [])∨c.size=P) :
  Calls prog 20 #[.pointer (some ⟨ga,0,none⟩)] w (KeUpd w0 w (k+1) gd v m L P ga gc gk mc gn vl vt n):=by
 have hE:=h.env (F:=F) hk hn hS hT
 have hcost:=updateP_cost (c:=c) (n:=n)
 refine (kupd_call hE h.cp (hs.imp (fun e=>e.1) id)).mono fun e w' hq=>?_
 obtain⟨v',he,_,qs',hcl,hnet,hf,hsub⟩:=hq
 have key:SameN n (updateP c n).2.2.2∧RdC m P (updateP c n).2.2.1∧(updateP c n).2.2.1.size=P∧(n.lies = []→(updateP c n).1.1=0):=by
  have good:n.lies = []→SameN n (updateP c n).2.2.2∧RdC m P (updateP c n).2.2.1∧(updateP c n).2.2.1.size=P∧(n.lies = []→(updateP c n).1.1=0):=fun hl=>by
   obtain⟨u1,_,u3,u4|u4⟩:=rd_update h.rdw h.ll h.rdc h.nf hl
   ·rw[h.cp] at u4
    cases u4.2.1
   ·exact⟨u1,u3,u4.2.2.2,fun _=>by rw[u4.2.1];rfl⟩
  rcases hs with ⟨_,hl⟩|hs
  ·exact good hl
  ·obtain⟨_,u2,u3⟩:=heal_update h.rdw h.ll h.rdc h.nf h.cut hs h.cp
   refine⟨?_,?_,?_,fun hl=>(good hl).2.2.2 hl⟩
   ·rw[u2];exact sameN_fetch n _
   ·rw[u2];exact h.rdc
   ·rw[u2];exact hs
 obtain⟨g1,g2,g3,g4⟩:=key
 obtain⟨h1,h2⟩:=h.next hf hsub hcl hnet g2 g1 (by omega) (by omega)
 exact⟨v',_,_,_,_,qs',he,h1,h2,g1,g3,g4⟩
theorem kest_new {w1 w2 w3:World} {key:ByteArray} {cap:Int} (hb1:Below w0.heap.size w0 w1) (hD:DiskAt w1 gd v m.d) (hr:RdW m L P) (hcp:getF m.d.files (sOf kCp)=some (cpOf ((lists m.es).take P) m.key)) (hfew:m.es.length≤8192) (hsm:∀ f∈m.d.files,f.2.size≤1048576) (hmk:m.key=key) (hkey:key.size≤9223372036854775807)
  (hn:NetIs w2 gn gd (.slice none 0 0) (.slice none 0 0) ⟨m.d.files,[],[],0⟩) (hb2:Below w1.heap.size w1 w2) (hg:w1.heap.size≤gn) (hpc:PcAt w3 ga gc) (hcl:ClIs w3 gc gk mc (.iface 44 (.pointer (some ⟨gn,0,none⟩))) ⟨key,0,hash [],⟨cap.toNat,[]⟩⟩ []) (hb3:Below w2.heap.size w2 w3) (h2:w2.heap.size≤gc) (h3:w2.heap.size≤gk) (h4:w2.heap.size≤mc) :
  KeSt w0 w3 0 gd v m L P ga gc gk mc gn (.slice none 0 0) (.slice none 0 0) ⟨m.d.files,[],[],0⟩ ⟨key,0,hash [],⟨cap.toNat,[]⟩⟩ [] where
 disk:=(hD.below hb2).below hb3
 net:=hn.below hb3
 pc:=hpc
 cl:=hcl
 below:=(hb1.trans (hb2.mono hb1.size)).trans (hb3.mono (Nat.le_trans hb1.size hb2.size))
 new i hi:=by
  have z1:=hb1.size
  have z2:=hb2.size
  rcases hi with (e|e|e|e)|e|e
  ·omega
  ·omega
  ·omega
  ·simp at e
  ·omega
  ·cases e
 rdw:=hr
 cp:=hcp
 rdc:=by rw[←hmk];exact rdc_new m.key rfl P _
 nf:=rfl
 cut x hx:=by simp at hx
 few:=hfew
 small:=hsm
 key:=by rw[hmk];exact hkey
 fetches:=Nat.le_refl _
 items:=Nat.le_refl _
theorem KeSt.trusted (h:KeSt w0 w k gd v m L P ga gc gk mc gn vl vt n c qs) :
  Calls prog 21 #[.pointer (some ⟨ga,0,none⟩)] w fun e w'=>e=.returned (.tuple #[.int .i64 c.size,.string (HS c.root)])∧KeSt w0 w' k gd v m L P ga gc gk mc gn vl vt n c qs∧∀ tb x u,ToldAt' w tb x u→ToldAt' w' tb x u:=by
 refine (ptrusted_any w ga gc gk mc _ c qs h.pc h.cl).mono fun e w' hq=>?_
 obtain⟨he,hcl,hf⟩:=hq
 have hk:=kinds_one h.cl.cells
 exact⟨he,{ h with disk:=h.disk.kept hf hk (by decide) (by decide),net:=net_kept h.net hf hk (by decide) (by decide) (by decide),pc:=heap_kept h.pc hf hk (by decide),cl:=hcl,below:=h.below.trans (hf.below h.below.size fun i hi e=>by have:=h.new i (.inl (.inl e));omega) },fun tb x u ht=>ht.kept hf hk (by decide)⟩
end
end
section
theorem survives_walk (F:Nat→Addr) (w:World) (va vt:Value) (l:List ByteArray) (ats:List Int) (key:ByteArray) (fault:Int) (half:Bool) (hs:StrsAt w va l) (ha:IntsAt w vt ats) (hal:ats.length≤9223372036854775807) (hab:∀ a∈ats,-9223372036854775808≤a∧a≤9223372036854775807)
  (hkey:key.size≤9223372036854775807) (hf1 : -9223372036854775808≤fault) (hf2:fault≤9223372036854775807) (hN:NumEnv w) (hS:Sents w F) (hT:ErrT w) :
  Calls prog 3 #[va,vt,.string key,.int .i64 fault,.bool half] w (PubTrue w):=by
 have HSS:=zh hs
 have HAT:=zh ha
 obtain⟨a0,c0,rfl,_,_⟩:=hs
 by_cases hbig:60<l.length
 ·have hz:(60:Int)<(l.length:Int):=by omega
  clear ha
  go_enter func3,ntmps3
  go_wp2
  go_ret
  exact⟨rfl,Below.refl _ _⟩
 ·have hz:¬ (60:Int)<(l.length:Int):=by omega
  have hsh:=short_any (.slice a0 l.length c0) l w HSS.o (by omega)
  obtain⟨ss,hss⟩:∃ ss,ss=l.map shortS:=⟨_,rfl⟩
  obtain⟨n,hn⟩:∃ n,n=ss.length:=⟨_,rfl⟩
  have hsn:n≤60:=by rw[hn,hss,List.length_map];omega
  have h20:∀ s∈ss,s.size≤20:=fun s hs=>by rw[hss] at hs;obtain⟨x,_,rfl⟩:=List.mem_map.1 hs;exact shortS_size x
  rw[←hss] at hsh
  have HSH:=zh hsh
  have H20:=zh h20
  have HN:=zh hN
  have HS:=zh hS
  have HT:=zh hT
  have HAB:=zh hab
  have HKEY:=zh hkey
  have HLN:=zh hn
  have HAL:=zh hal
  have HF:=zh (And.intro hf1 hf2)
  clear ha hss hsh h20 hN hS hT hab hkey hal hf1 hf2 hn
  go_enter func3,ntmps3
  go_upto_region 4 with (first|(go_at_call 8;refine HSH.o.mono ?_;rintro e w1 ⟨v1,rfl,ho1,hb1⟩;obtain⟨a1,c1,rfl⟩:=own_any ho1;have HO1:=zh ho1;have HB1:=zh hb1;clear ho1 hb1)|fail)
  rw[←HLN.o]
  have HN1:=zh (HN.o.below HB1.o)
  have HS1:=zh (HS.o.below HB1.o)
  have HT1:=zh (HT.o.below HB1.o)
  have hst1:StrsAt w1 (.slice a1 n c1) ss:=by rw[HLN.o];exact OwnStrs.at HO1.o
  have HST1:=zh hst1
  have HPUB:=zh (published_any F w1 (.slice a1 n c1) vt ss ats key HST1.o (HAT.o.below HB1.o) (by have:=HLN.o;omega) H20.o HAL.o HAB.o HKEY.o HN1.o HS1.o HT1.o)
  clear hst1
  go_upto_region 7 with (first|(go_at_call 9;refine HPUB.o.mono ?_;rintro e w2 ⟨k2,p2,m2,L2,rfl,hk2,hst2,hr2,hes2,hcp2⟩;have HK2:=zh hk2;have HST2:=zh hst2;have HR2:=zh hr2;have HES2:=zh hes2;have HCP2:=zh hcp2;clear hk2 hst2 hr2 hes2 hcp2)|fail)
  have HOP:=zh (sv_open (F:=F) HST2.o HR2.o HES2.o HCP2.o (by have:=HK2.o;have:=HLN.o;omega) HN1.o HS1.o HT1.o HKEY.o)
  obtain⟨gd,hgd⟩:∃ gd,gd=p2.gd:=⟨_,rfl⟩
  rw[←hgd] at HOP ⊢
  clear hgd
  go_upto_region 8 with (first|(go_at_call 10;refine HOP.o.mono ?_;rintro e w3 ⟨p3,m3,L3,rfl,hg3,hst3,hes3,hpu3,hdt3,hdh3,hcp3⟩;have HG3:=zh hg3;have HST3:=zh hst3;have HES3:=zh hes3;have HPU3:=zh hpu3;have HDT3:=zh hdt3;have HDH3:=zh hdh3;have HCP3:=zh hcp3;clear hg3 hst3 hes3 hpu3 hdt3 hdh3 hcp3)|fail)
  obtain⟨W3,hW3⟩:∃ W,W=w3.alloc (.cells #[.int .i64 0,.string ⟨#[]⟩] 29):=⟨_,rfl⟩
  have hb3:Below w3.heap.size w3 W3:=by rw[hW3];exact below_alloc w3 _
  have ht3:ToldAt' W3 w3.heap.size 0 ⟨#[]⟩:=by rw[hW3];exact heap_alloc_new w3 _
  rw[←hW3]
  obtain⟨gl,hgl⟩:∃ gl,gl=p3.gl:=⟨_,rfl⟩
  obtain⟨tb,htb⟩:∃ tb,tb=w3.heap.size:=⟨_,rfl⟩
  rw[←htb] at ht3 ⊢
  rw[←hgl]
  have hst3:=HST3.o.grow hb3
  have hlen3:L3.entries.length=n:=by rw[HST3.o.rdw.ents,lists_len,HES3.o,HLN.o]
  have hsz3:=psize_any W3 p3.gl p3.g p3.gd p3.ve p3.vl p3.vp p3.vs L3 hst3.is.pl hst3.is.log
  rw[hlen3,←hgl] at hsz3
  have HSZ3:=zh hsz3
  have HTB:=zh (show w1.heap.size≤tb by rw[htb];exact HST3.o.below.size)
  have HM0:=zh (show MoreAt w1 tb gl gd key (ss++List.replicate 5 moreB) n (k2+1) W3 (k2+1) p3 m3 L3 m3.d from ⟨⟨hst3,by rw[HES3.o,HLN.o,List.take_left],hgl.symm,HG3.o,ht3,Nat.le_refl _⟩,rfl,HPU3.o⟩)
  obtain⟨t0,t1,tf0,tf1,tlt⟩:=ht3.facts
  obtain⟨d1,hd1⟩:∃ d1,d1=m3.d:=⟨_,rfl⟩
  rw[←hd1] at HM0 HDT3 HDH3 HCP3
  clear hW3 hb3 ht3 hst3 hlen3 hsz3 hgl htb hd1
  go_wp2_with (first|(go_at_call 11;refine HSZ3.o.mono ?_;rintro e w4 ⟨rfl,rfl⟩)|fail)
  go_loopw [14] (fun s14 wr=>∃ i:Nat,i≤5∧s14=.int .i64 i∧∃ k p m L,Aside (MoreAt w1 tb gl gd key (ss++List.replicate 5 moreB) (n+i) (k2+1+i) wr k p m L d1)) (fun s14 _=>5-(intOf s14).toNat)
  case atStart=>exact⟨0,Nat.zero_le _,rfl,_,_,_,_,HM0.o⟩
  case round=>
   obtain⟨i,hi,rfl,k4,p4,m4,L4,HM⟩:=hrel
   clear t0 t1 tf0 tf1 tlt
   by_cases hlt:i<5
   ·have hltz:(i:Int)<5:=by omega
    have hap:=HM.o.append (F:=F) (s:=moreB) (by have:=HK2.o;have:=HLN.o;omega) HN1.o HS1.o HT1.o (by rw[List.getElem?_append_right (by have:=HLN.o;omega),List.getElem?_replicate,if_pos (by have:=HLN.o;omega)]) (by decide)
    rw[show moreB=⟨#[109,111,114,101]⟩ from rfl] at hap
    have HAP:=zh hap
    clear hap
    go_wp2_with (first|(go_at_call 12;refine HAP.o.mono ?_;rintro e w5 ⟨rfl,k5,p5,m5,L5,hm5⟩;have HM5:=zh hm5;clear hm5)|fail)
    go_roundw
    case rel=>exact⟨i+1,by omega,by go_num,_,_,_,_,HM5.o⟩
    case measure=>simp[intOf];omega
   ·have hltz:¬ (i:Int)<5:=by omega
    have hi5:i=5:=by omega
    subst hi5
    have hlt:=pickN_lt fault (n:=12) (by decide)
    obtain⟨pk,hpk⟩:∃ pk,pk=pickN fault 12:=⟨_,rfl⟩
    have hpick:=fun (W:World)=>kpick_any fault 12 W HF.o.1 HF.o.2 (by decide) (by decide)
    rw[←hpk] at hlt hpick
    have HPICK:=zh hpick
    have hwr:IntKind.i64.wrap (1+(pk:Int))=1+(pk:Int):=IntWalk.i64_in _ (by omega)
    have hdk:=HM.o.pa.st.is.disk
    rw[HM.o.pa.gd,HM.o.d] at hdk
    have HDK:=zh hdk
    have hcl:d1.calls<1099511627776:=by
     obtain⟨U,hU,hG⟩:=HM.o.pa.st.good
     have h1:=hG.sane.calls
     rw[HM.o.d] at h1
     have:=HM.o.pa.kb
     have:=HK2.o
     have:=HLN.o
     omega
    have HCLS:=zh hcl
    clear hpick hpk hdk hcl
    go_upto_region 15 with (first|(go_at_call 14;refine (HPICK.o _).mono ?_;rintro e w5 ⟨rfl,rfl⟩)|(go_at_call 13;refine (fault_int _ gd p4.v d1 HDK.o (1+pk) _ (by simp) _ _ HCLS.o (by omega)).mono ?_;rintro e w5 ⟨rfl,hd5,hf5⟩;have HD5:=zh (show ∃ on,DiskAt w5 gd p4.v (faultD d1 (1+pk) half on) from ⟨_,hd5⟩);have HF5:=zh hf5;clear hd5 hf5)|fail)
    obtain⟨on,hd5⟩:=HD5.o
    have HM2:MoreAt w1 tb gl gd key (ss++List.replicate 5 moreB) (ss.length+5) (k2+1+5) wr k4 p4 m4 L4 d1:=by have:=HM.o;rw[HLN.o] at this;exact this
    have hpb:=sv_publish (F:=F) HM2 (by have:=HK2.o;have:=HLN.o;omega) HN1.o HS1.o HT1.o HKEY.o HDT3.o HDH3.o HCP3.o hd5 HF5.o
    have HPB:=zh hpb
    have ht5:ToldAt' w5 tb 0 ⟨#[]⟩:=HM2.pa.told.kept HF5.o (kinds_one HDK.o.1) (by decide)
    have HT5:=zh ht5
    have HKB:=zh (show k2+1+5+1≤200 by have:=HK2.o;have:=HLN.o;omega)
    clear hpb HM2 hd5 HPICK hwr hlt ht5
    go_upto_region 16 with (first|(go_at_call 15;refine HPB.o.mono ?_;rintro e w6 ⟨nn,tk,tp,v6,d6,ss3,n3,rfl,htk,hd6,ht6,hb6,hdn6,hsv⟩;have HTK:=zh htk;have HD6:=zh hd6;have HT6:=zh ht6;have HB6:=zh hb6;have HDN6:=zh hdn6;have HSV:=zh hsv;obtain⟨t0,t1,tf0,tf1,tlt⟩:=ht6.facts;clear htk hd6 ht6 hb6 hdn6 hsv)|fail)
    have hts:=told_set (m:=tk) (t:=tp) HT6.o
    obtain⟨W6,hW6⟩:∃ W,W=(w6.setCell ⟨tb,0,none⟩ (.int .i64 tk)).setCell ⟨tb,1,none⟩ (.string tp):=⟨_,rfl⟩
    rw[←hW6] at hts ⊢
    have HTS6:=zh hts
    have HDW6:=zh (HD6.o.kept hts.2 (kinds_one HT6.o) (by decide) (by decide))
    have HBW6:=zh (HB6.o.trans (hts.2.below HB6.o.size fun i hi e=>by have:=HTB.o;omega))
    obtain⟨hit,hhit⟩:∃ b,b=d6.hit:=⟨_,rfl⟩
    have hht:=hit_any W6 gd v6 d6 HDW6.o
    rw[←hhit] at hht
    have HHT:=zh hht
    have HHIT:=zh hhit
    clear t0 t1 tf0 tf1 tlt hW6 hts hht hhit
    go_upto_region 17 with (first|(go_at_call 16;refine HHT.o.mono ?_;rintro e w7 ⟨rfl,rfl⟩)|fail)
    obtain⟨t0,t1,tf0,tf1,tlt⟩:=HTS6.o.1.facts
    go_cut [91] from 80 to 91 (fun s91 wx=>s91=.bool false∧W6=wx)
    case first=>
     rcases HTK.o with ⟨h1,h2⟩|⟨h1,h2,h3⟩
     ·rw[←HHIT.o] at h2
      subst h1 h2
      go_wp2_with fail
      go_meet
      exact⟨rfl,rfl⟩
     ·rw[←HHIT.o] at h3
      subst h1 h2 h3
      go_wp2_with fail
      go_meet
      exact⟨rfl,rfl⟩
    case rest=>
     obtain⟨rfl,rfl⟩:=hcut
     clear t0 t1 tf0 tf1 tlt
     have HMD:=zh (mend_any W6 gd v6 d6 HDW6.o)
     go_upto_region 20 with (first|(go_at_call 17;refine HMD.o.mono ?_;rintro e w7 ⟨rfl,hd7,hf7⟩;have HD7:=zh hd7;have HF7:=zh hf7;clear hd7 hf7)|fail)
     have hb7:Below w1.heap.size w1 w7:=HBW6.o.trans (HF7.o.below HBW6.o.size fun i hi e=>by have:=HDN6.o i (.inl e);omega)
     have HOP8:=zh (sv_reopen (F:=F) HSV.o HD7.o hb7 HDN6.o (by have:=HKB.o;omega) HN1.o HS1.o HT1.o HKEY.o)
     have HT7:=zh (HTS6.o.1.kept HF7.o (kinds_one HDW6.o.1) (by decide))
     clear hb7
     go_upto_region 21 with (first|(go_at_call 10;refine HOP8.o.mono ?_;rintro e w8 ⟨p8,m8,L8,rfl,hg8,hst8,hes8,hf8⟩;have ht8:=HT7.o.kept hf8 (kinds_one HD7.o.1) (by decide);have HT8:=zh ht8;obtain⟨t0,t1,tf0,tf1,tlt⟩:=ht8.facts;have HG8:=zh hg8;have HST8:=zh hst8;have HES8:=zh hes8;clear hg8 hst8 hes8 hf8 ht8)|fail)
     have hts:=told_set (m:=0) (t:=⟨#[]⟩) HT8.o
     obtain⟨W8,hW8⟩:∃ W,W=(w8.setCell ⟨tb,0,none⟩ (.int .i64 0)).setCell ⟨tb,1,none⟩ (.string ⟨#[]⟩):=⟨_,rfl⟩
     rw[←hW8] at hts ⊢
     obtain⟨q,hq⟩:∃ q,q=ss3.length:=⟨_,rfl⟩
     obtain⟨gl8,hgl8⟩:∃ gl,gl=p8.gl:=⟨_,rfl⟩
     rw[←hgl8]
     have HQ:=zh hq
     have hst8:=HST8.o.told HT8.o HTB.o hts.2
     have hlen8:L8.entries.length=q:=by rw[hst8.rdw.ents,lists_len,HES8.o,hq]
     have hsz8:=psize_any W8 p8.gl p8.g p8.gd p8.ve p8.vl p8.vp p8.vs L8 hst8.is.pl hst8.is.log
     rw[hlen8,←hgl8] at hsz8
     have HSZ8:=zh hsz8
     have hqn:n≤q:=by rw[HLN.o,hq];exact HSV.o.lo
     have hqn5:q≤n+5:=by rw[HLN.o,hq];exact HSV.o.hi
     have HP8:=zh (show PubAt w1 tb gl8 gd key (ss3 ++ [lastB]) q (k2+1+5+1+1) W8 (k2+1+5+1+1) p8 m8 L8 from ⟨hst8,by rw[HES8.o,hq,List.take_left],hgl8.symm,HG8.o,hts.1,Nat.le_refl _⟩)
     have h1z:¬ (q:Int)<(n:Int):=by omega
     have h2z:¬ (n:Int)+5<(q:Int):=by omega
     clear t0 t1 tf0 tf1 tlt
     obtain⟨t0,t1,tf0,tf1,tlt⟩:=hts.1.facts
     clear hW8 hts hst8 hlen8 hsz8 hgl8 hq
     have hap:=HP8.o.append (F:=F) (s:=lastB) (by have:=HKB.o;omega) HN1.o HS1.o HT1.o (by rw[HQ.o];simp) (by decide)
     rw[show lastB=⟨#[108,97,115,116]⟩ from rfl] at hap
     have HAP:=zh hap
     clear hap
     go_upto_region 23 with (first|(go_at_call 11;refine HSZ8.o.mono ?_;rintro e w9 ⟨rfl,rfl⟩)|fail)
     go_upto_region 24 with (first|(go_at_call 12;refine HAP.o.mono ?_;rintro e w9 ⟨rfl,k9,p9,m9,L9,hp9,_,_⟩;have HP9:=zh hp9;clear t0 t1 tf0 tf1 tlt;obtain⟨t0,t1,tf0,tf1,tlt⟩:=hp9.told.facts;clear hp9)|fail)
     have hts:=told_set (m:=0) (t:=⟨#[]⟩) HP9.o.told
     obtain⟨W9,hW9⟩:∃ W,W=(w9.setCell ⟨tb,0,none⟩ (.int .i64 0)).setCell ⟨tb,1,none⟩ (.string ⟨#[]⟩):=⟨_,rfl⟩
     rw[←hW9] at hts ⊢
     have hp9:=HP9.o.toldTo HTB.o hts.1 hts.2
     have HPB9:=zh (hp9.publish (F:=F) (by have:=HKB.o;omega) HN1.o HS1.o HT1.o (by rw[HQ.o];simp) HKEY.o)
     clear hW9 hp9 t0 t1 tf0 tf1 tlt
     obtain⟨t0,t1,tf0,tf1,tlt⟩:=hts.1.facts
     clear hts
     go_upto_region 25 with (first|(go_at_call 15;refine HPB9.o.mono ?_;rintro e w10 ⟨rfl,k10,p10,m10,L10,hp10,hr10,hcp10⟩;have HP10:=zh hp10;have HR10:=zh hr10;have HCP10:=zh hcp10;clear hp10 hr10 hcp10)|fail)
     obtain⟨W10,hW10⟩:∃ W,W=w10.alloc (.cells #[.int .i64 0,.string ⟨#[]⟩] 29):=⟨_,rfl⟩
     have hb10:Below w10.heap.size w10 W10:=by rw[hW10];exact below_alloc w10 _
     have hT10:ToldAt' W10 w10.heap.size 0 ⟨#[]⟩:=by rw[hW10];exact heap_alloc_new w10 _
     rw[←hW10]
     have hp10:=HP10.o.grow hb10
     have HQ10:=zh hp10
     clear t0 t1 tf0 tf1 tlt
     obtain⟨t0,t1,tf0,tf1,tlt⟩:=hp10.told.facts
     obtain⟨s0,s1,sf0,sf1,slt⟩:=hT10.facts
     obtain⟨⟨_,_,_,_,_,_,_,d7⟩,_⟩:=hp10.st.is.disk.cells
     rw[hp10.st.rdw.sound.fresh.turned,hp10.gd] at d7
     clear hW10 hb10 hT10 hp10
     go_upto_region 27 with fail
     clear s0 s1 sf0 sf1 slt d7
     have hm10:m10.es=ss3 ++ [lastB]:=by rw[HQ10.o.es,List.take_of_length_le (by rw[HQ.o];simp)];rfl
     have hl10:m10.es.length=q+1:=by rw[hm10,HQ.o];simp
     have HM10:=zh hm10
     have HL10:=zh hl10
     have hnn:=newNet_any W10 gd m10.d.files
     have HNN:=zh hnn
     have hnc:=fun (W:World) (g:Nat)=>pnewClient_any W (.pointer (some ⟨g,0,none⟩)) (.iface 44 (.pointer (some ⟨g,0,none⟩))) (.inr ⟨_,rfl,rfl⟩) key 8 (by decide)
     have HNC:=zh hnc
     clear hm10 hl10 hnn hnc
     go_upto_region 28 with (first|(go_at_call 19;refine HNN.o.mono ?_;rintro e w11 ⟨gn,rfl,hn11,hb11,hg11⟩;have HN11:=zh hn11;have HB11:=zh hb11;have HG11:=zh hg11;clear hn11 hb11 hg11)|(go_at_call 18;refine (HNC.o w11 gn).mono ?_;rintro e w12 ⟨ga,gc,gk,mc,rfl,hpc,hcl,hb12,_,hg2,hg3,hg4⟩;have HPC:=zh hpc;have HCL:=zh hcl;have HB12:=zh hb12;have HG12:=zh (And.intro hg2 (And.intro hg3 hg4));clear hpc hcl hb12 hg2 hg3 hg4)|fail)
     have hgd10:=HQ10.o.gd
     have hdk:=HQ10.o.st.is.disk
     rw[hgd10] at hdk
     have hsm:∀ f∈m10.d.files,f.2.size≤1048576:=by
      obtain⟨U,_,hG⟩:=HQ10.o.st.good
      exact hG.sane.size
     have hcpt:getF m10.d.files (sOf kCp)=some (cpOf ((lists m10.es).take (q+1)) m10.key):=by
      rw[List.take_of_length_le (by rw[lists_len,HL10.o];omega)]
      exact HCP10.o
     have hk0:=kest_new (w0:=w1) (cap:=8) HQ10.o.st.below hdk HR10.o hcpt (by have:=HL10.o;omega) hsm HQ10.o.st.mkey HKEY.o HN11.o HB11.o HG11.o HPC.o HCL.o HB12.o HG12.o.1 HG12.o.2.1 HG12.o.2.2
     have ht12:ToldAt' w12 tb 0 ⟨#[]⟩:=(HQ10.o.told.below HB11.o).below HB12.o
     have HT12:=zh ht12
     have HUP:=zh (hk0.update (F:=F) (by omega) HN1.o HS1.o HT1.o (.inl ⟨rfl,rfl⟩))
     clear hgd10 hdk hsm hcpt hk0 ht12 t0 t1 tf0 tf1 tlt
     go_upto_region 31 with (first|(go_at_call 20;refine HUP.o.mono ?_;rintro e w13 ⟨v13,tk13,tp13,n13,c13,qs13,rfl,hk13,hto13,hsn13,hcs13,htk13⟩;obtain rfl:=htk13 rfl;have ht13:=hto13 _ _ _ HT12.o;have HT13:=zh ht13;have HK13:=zh hk13;have HSN13:=zh hsn13;have HCS13:=zh hcs13;obtain⟨t0,t1,tf0,tf1,tlt⟩:=ht13.facts;clear hk13 hto13 hsn13 hcs13 htk13 ht13)|fail)
     have hts:=told_set (m:=0) (t:=tp13) HT13.o
     obtain⟨W13,hW13⟩:∃ W,W=(w13.setCell ⟨tb,0,none⟩ (.int .i64 0)).setCell ⟨tb,1,none⟩ (.string tp13):=⟨_,rfl⟩
     rw[←hW13] at hts ⊢
     have hk13:=HK13.o.told HT13.o HTB.o hts.2
     have htr:=hk13.trusted
     rw[HCS13.o] at htr
     have HTR:=zh htr
     have HTS13:=zh hts.1
     have HNL:=zh (show n13.lies = [] from HSN13.o.1)
     clear hW13 hts hk13 htr t0 t1 tf0 tf1 tlt
     go_upto_region 32 with (first|(go_at_call 21;refine HTR.o.mono ?_;rintro e w14 ⟨rfl,hk14,hto14⟩;have ht14:=hto14 _ _ _ HTS13.o;have HK14:=zh hk14;obtain⟨t0,t1,tf0,tf1,tlt⟩:=ht14.facts;clear hk14 hto14 ht14)|fail)
     go_wp2_with fail
     go_loopw [22] (fun s22 wr=>∃ i:Nat,i≤q+1∧s22=.int .i64 i∧∃ nt c qs,Aside (KeSt w1 wr (i+1) gd p10.v m10 L10 (q+1) ga gc gk mc gn (.slice none 0 0) (.slice none 0 0) nt c qs∧c.size=q+1∧nt.lies = [])) (fun s22 _=>q+1-(intOf s22).toNat)
     case atStart=>exact⟨0,Nat.zero_le _,rfl,_,_,_,HK14.o,HCS13.o,HNL.o⟩
     case round=>
      obtain⟨i,hi,rfl,nt,c,qs,HR⟩:=hrel
      clear t0 t1 tf0 tf1 tlt
      by_cases hlt:i<q+1
      ·have hltz:(i:Int)<(q:Int)+1:=by omega
       have HRD:=zh (HR.o.1.read (F:=F) (by omega) HN1.o HS1.o HT1.o i (by rw[HR.o.2.1];exact hlt))
       have hse:=sv_entry HSV.o.lo HSV.o.hi HSV.o.eq (i:=i) (by rw[←HQ.o];exact hlt)
       rw[←HM10.o,←HLN.o,←HQ.o] at hse
       have HSE:=zh hse
       clear hse
       go_upto_region 38 with (first|(go_at_call 22;refine HRD.o.mono ?_;rintro e w15 ⟨nn,v15,s15,tk15,tp15,n15,c15,qs15,rfl,hk15,hto15,hsn15,hcs15,hs15,htk15⟩;obtain rfl:=htk15 HR.o.2.2;have hs15':=hs15 rfl;have HK15:=zh hk15;have HCS15:=zh (hcs15.trans HR.o.2.1);have HNL15:=zh (hsn15.1.trans HR.o.2.2);have HS15:=zh hs15';clear hk15 hto15 hsn15 hcs15 hs15 htk15 hs15')|fail)
       obtain⟨W15,hW15⟩:∃ W,W=w15.alloc (.cells #[.int .i64 0,.string tp15] 29):=⟨_,rfl⟩
       have hb15:Below w15.heap.size w15 W15:=by rw[hW15];exact below_alloc w15 _
       have hT15:ToldAt' W15 w15.heap.size 0 tp15:=by rw[hW15];exact heap_alloc_new w15 _
       rw[←hW15]
       have hk15:=HK15.o.grow hb15
       have HKK:=zh hk15
       obtain⟨t0,t1,tf0,tf1,tlt⟩:=hT15.facts
       clear hW15 hb15 hT15 hk15
       rcases HSE.o with ⟨hi1,s,hsx,hse⟩|⟨hi1,hi2,hse⟩|⟨hi1,hse⟩
       ·have hss:s15=s:=HS15.o.trans hse
        subst hss
        have hA:(i:Int)<(n:Int):=by omega
        have hB:¬ (n:Int)≤(i:Int):=by omega
        have hC:((i:Int) == (q:Int))=false:=by rw[beq_eq_false_iff_ne];omega
        have hi0:(0:Int)≤(i:Int):=by omega
        obtain⟨a',c',hv,_,hc⟩:=HST1.o
        cases hv
        obtain⟨b,off,rfl,hcell0⟩:=hc i (.string s15) (by simp[hsx])
        have hcell:W15.cell? ⟨b,off+i,none⟩=some (.string s15):=(HKK.o.below.cell (p:=⟨b,off+i,none⟩) (cell_lt hcell0)).trans hcell0
        clear hc hcell0 hsx hse
        go_wp2_with fail
        go_roundw
        case rel=>exact⟨i+1,by omega,by go_num,_,_,_,HKK.o,HCS15.o,HNL15.o⟩
        case measure=>simp[intOf];omega
       ·have hss:s15=⟨#[109,111,114,101]⟩:=HS15.o.trans hse
        subst hss
        have hA:¬ (i:Int)<(n:Int):=by omega
        have hB:(n:Int)≤(i:Int):=by omega
        have hD:(i:Int)<(q:Int):=by omega
        have hC:((i:Int) == (q:Int))=false:=by rw[beq_eq_false_iff_ne];omega
        clear hse
        go_wp2_with fail
        go_roundw
        case rel=>exact⟨i+1,by omega,by go_num,_,_,_,HKK.o,HCS15.o,HNL15.o⟩
        case measure=>simp[intOf];omega
       ·have hss:s15=⟨#[108,97,115,116]⟩:=HS15.o.trans hse
        subst hss
        have hA:¬ (i:Int)<(n:Int):=by omega
        have hB:(n:Int)≤(i:Int):=by omega
        have hD:¬ (i:Int)<(q:Int):=by omega
        have hC:((i:Int) == (q:Int))=true:=by rw[beq_iff_eq];omega
        clear hse
        go_wp2_with fail
        go_roundw
        case rel=>exact⟨i+1,by omega,by go_num,_,_,_,HKK.o,HCS15.o,HNL15.o⟩
        case measure=>simp[intOf];omega
      ·have hltz:¬ (i:Int)<(q:Int)+1:=by omega
       go_wp2
       go_ret
       exact⟨rfl,HB1.o.trans (HR.o.1.below.mono HB1.o.size)⟩
end
section
open Go.RowKit Go.MuLone
def NoneErr (w:World):Prop:=∃ a,w.cell? ⟨8,0,none⟩=some (.iface 338 (.pointer (some a)))
end
section
theorem env_of {W:World} {r r':List (String×DataW Unit)} (h1:laidMet prog (("internal/strconv.uint64pow10",Rows.laid_internal_strconv_uint64pow10) :: r) W)
  (h2:laidMet prog (("strconv.ErrRange",Rows.laid_strconv_ErrRange) :: ("strconv.ErrSyntax",Rows.laid_strconv_ErrSyntax) :: r') W) (hsh:W.ShapedOpen prog):NumEnv W:=by
 have htab:Lib.TabIs prog W "internal/strconv.uint64pow10" .u64 Lib.pow10Tab:=Lib.tabIs_of_head (g:=12) (t:=342) (by kernel_rfl) (by kernel_rfl) underlying342 underlying210 (by kernel_rfl) (by kernel_rfl) h1
 obtain⟨a2,s2⟩:=sent_head (g:=10) h2 (by kernel_rfl) (by kernel_rfl)
 obtain⟨a1,s1⟩:=sent_head (g:=9) h2.tail (by kernel_rfl) (by kernel_rfl)
 have hm:=cell_of_shapedOpen_int (P:=prog) (g:=11) (t:=3) (zero:=#[.int .i64 0]) hsh (of_decide_eq_true (by kernel_rfl)) (by kernel_rfl) rfl (by kernel_rfl) (by kernel_rfl) underlying3
 exact⟨htab,hm,⟨_,s1.1,.inr ⟨_,_,rfl⟩⟩,⟨_,s2.1,.inr ⟨_,_,rfl⟩⟩⟩
end
section
theorem sents_of {W:World} {r:List (String×DataW Unit)} (h:laidMet prog (("tiles/api.ErrEntry",Rows.laid_tiles_api_ErrEntry) :: ("tiles/api.ErrRange",Rows.laid_tiles_api_ErrRange) :: ("tiles/api.ErrCheckpoint",Rows.laid_tiles_api_ErrCheckpoint) :: ("tiles/api.ErrOld",Rows.laid_tiles_api_ErrOld) ::
  ("tiles/api.ErrProof",Rows.laid_tiles_api_ErrProof) :: ("tiles/api.ErrTile",Rows.laid_tiles_api_ErrTile) :: ("tiles/api.ErrFailed",Rows.laid_tiles_api_ErrFailed) :: r) W):∃ f,Sents W f:=by
 obtain⟨a0,h0⟩:=sent_head (text:=sTexts.getD 0 []) (g:=3) h (by kernel_rfl) (by kernel_rfl)
 have h:=h.tail
 obtain⟨a1,h1⟩:=sent_head (text:=sTexts.getD 1 []) (g:=4) h (by kernel_rfl) (by kernel_rfl)
 have h:=h.tail
 obtain⟨a2,h2⟩:=sent_head (text:=sTexts.getD 2 []) (g:=1) h (by kernel_rfl) (by kernel_rfl)
 have h:=h.tail
 obtain⟨a3,h3⟩:=sent_head (text:=sTexts.getD 3 []) (g:=5) h (by kernel_rfl) (by kernel_rfl)
 have h:=h.tail
 obtain⟨a4,h4⟩:=sent_head (text:=sTexts.getD 4 []) (g:=2) h (by kernel_rfl) (by kernel_rfl)
 have h:=h.tail
 obtain⟨a5,h5⟩:=sent_head (text:=sTexts.getD 5 []) (g:=6) h (by kernel_rfl) (by kernel_rfl)
 have h:=h.tail
 obtain⟨a6,h6⟩:=sent_head (text:=sTexts.getD 6 []) (g:=0) h (by kernel_rfl) (by kernel_rfl)
 refine⟨fun i=>[a0,a1,a2,a3,a4,a5,a6].getD i a0,fun i hi=>?_⟩
 have:i=0∨i=1∨i=2∨i=3∨i=4∨i=5∨i=6:=by omega
 rcases this with rfl|rfl|rfl|rfl|rfl|rfl|rfl <;> assumption
theorem errTypeAt:prog.globalNamed "errors.errorType"=some 7:=by kernel_rfl
theorem rtypeAt:(prog.cutTypes.find? (·.1 == "internal/reflectlite.rtype")).map (·.2)=some 282:=by kernel_rfl
theorem errorRow:((List.range prog.types.size).filter fun t=>prog.rowNamed t [101,114,114,111,114]) = [88]:=by kernel_rfl
theorem errorHandle:typeHandle prog 88=.pointer (some ⟨17,88,none⟩):=by kernel_rfl
theorem errT_of {W:World} (h:handlesMet prog [("errors.errorType",Rows.laid_errors_errorType)] W):ErrT W:=by
 obtain⟨name,u,ty,e1,e2,e3,e4,e5⟩:=h _ (List.mem_singleton.2 rfl)
 have en:name = [101,114,114,111,114]:=(Option.some.inj e1).symm
 subst en
 obtain rfl:=Option.some.inj (rtypeAt.symm.trans e2)
 have hm:ty∈(List.range prog.types.size).filter fun t=>prog.rowNamed t [101,114,114,111,114]:=List.mem_filter.2 ⟨List.mem_range.2 e3,e4⟩
 rw[errorRow] at hm
 obtain rfl:=List.mem_singleton.1 hm
 rw[errorHandle] at e5
 have:=World.var?_cell errTypeAt e5 0
 simpa [ErrT] using this
noncomputable def handleWorld (os:Os):World:=
 let w0:=World.holding prog os ⟨#[],#[],[]⟩
 { w0 with heap:=w0.heap.modify 7 fun
   | .cells _ t frozen=>.cells #[.iface 282 (.agg #[.pointer (some ⟨17,88,none⟩)])] t frozen
   | o=>o }
noncomputable def laidH (os:Os) (laid:List (String×DataW Unit)):World:=(handleWorld os).layVars prog (laid.filter fun x=>x.2.handleName?.isNone)
theorem laidH_os (os:Os) (laid:List (String×DataW Unit)):(laidH os laid).os=os:=World.layVars_os _ _ _
theorem laidMetH_laidH {os:Os} {laid:List (String×DataW Unit)} (args:Array Value)
  (hf:(handleWorld os).layFits prog (laid.filter fun x=>x.2.handleName?.isNone) []=true)
  (hi:(handleWorld os).layIfaces prog (laid.filter fun x=>x.2.handleName?.isNone) (laidH os laid)=true)
  (hh:(laid.filter fun x=>x.2.handleName?.isSome).all (handleAtB prog ((laidH os laid).forCall (fun _ _=>0) ⟨#[],args,[]⟩).memory)=true) :
  laidMetH prog laid ((laidH os laid).forCall (fun _ _=>0) ⟨#[],args,[]⟩).memory:=by
 refine laidMetH_of_parts ?_ hh
 generalize hl:(laid.filter fun x=>x.2.handleName?.isNone)=l at hf hi
 have e1:(l.filter fun x=>(l.map (·.1)).contains x.1)=l:=List.filter_eq_self.2 fun x hx=>List.contains_iff_mem.2 (List.mem_map.2 ⟨x,hx,rfl⟩)
 have e2:(l.filter fun x=>!(l.map (·.1)).contains x.1) = []:=List.filter_eq_nil_iff.2 fun x hx=>by rw[List.contains_iff_mem.2 (List.mem_map.2 ⟨x,hx,rfl⟩)];simp
 have h:laidMet prog l (laidH os laid):=laidMet_layVars (w0:=handleWorld os) (l.map (·.1)) [] (by rw[e1];unfold laidH;rw[hl]) (by rw[e1];exact hf) (by rw[e1];exact hi) (by rw[e2];exact LaidIn.none)
 exact h.of_heap (by simp[World.memory,World.forCall,Input.heap])
end
section
theorem noneErr_of {W:World} {r:List (String×DataW Unit)} (h:laidMet prog (("tiles/tiles.errNone",Rows.laid_tiles_tiles_errNone) :: r) W):NoneErr W:=by
 obtain⟨a,ha⟩:=sent_head (g:=8) h (by kernel_rfl) (by kernel_rfl)
 exact⟨a,ha.1⟩
end
section
open Go.ChangeShapes Go.WideShapes Go.ChangeAt Go.RowKit
open Go.ChangeMaps (open_string shut_string)
theorem own:ownKnob prog.godebug=none:=by kernel_rfl
theorem laidOut:laidOutB prog=true:=by kernel_rfl
theorem le_max {n:Nat} (h:n≤maxLen):n≤9223372036854775807:=h
theorem int_bd {n:Int} (h:(Lit.int .i64 n).wf=true) : -9223372036854775808≤n∧n≤9223372036854775807:=by
 have h1:IntKind.i64.min = -9223372036854775808:=rfl
 have h2:IntKind.i64.max=9223372036854775807:=rfl
 simp only[Lit.wf,Bool.and_eq_true,decide_eq_true_eq,h1,h2] at h
 exact h
theorem strs_open {H:Type} {enc:TypeId×Value→H} {W:World} {v:Value} {d:DataW H} {p:List MemPlace} (hv:∃ a l c,v=.slice a l c)
  (h:DataW.Trod enc prog W 0 (fun _=>true) true 22 v d p):∃ ss,StrsAt W v ss∧∀ s∈ss,s.size≤9223372036854775807:=by
 obtain⟨a,l,c,rfl⟩:=hv
 obtain⟨fuel,hf⟩:=h
 rcases open_strings underlying22 underlying9 (by kernel_rfl) hf with ⟨hcs,_⟩|⟨x,len,cap,ss,hcs,_,hl,hm,hz,_,hcell,hws⟩
 ·simp[Value.cells] at hcs
  obtain⟨rfl,rfl,rfl⟩:=hcs
  exact⟨[],⟨none,0,rfl,Nat.le_refl _,fun j x hx=>by simp at hx⟩,by simp⟩
 ·simp[Value.cells] at hcs
  obtain⟨rfl,rfl,rfl⟩:=hcs
  have hz':ss.length=c:=by simpa using hz
  refine⟨ss.take l,⟨some x,c,by simp[hz',hl],by simp;omega,fun j u hu=>?_⟩,fun s hs=>hws s (List.mem_of_mem_take hs)⟩
  have hj:j<l:=by
   have:=(List.getElem?_eq_some_iff.1 hu).1
   simp at this
   omega
  have hc:=hcell j (by omega)
  obtain⟨b,off,spot⟩:=x
  have hspot:spot=none:=by
   have h0:=hcell 0 (by omega)
   simpa [Addr.add] using World.cell?_spot h0
  subst hspot
  rw[Addr.add_lit] at hc
  refine⟨b,off,rfl,hc.trans ?_⟩
  rw[List.getElem?_map,List.getElem?_take_of_lt hj] at hu
  rw[List.getD_eq_getElem?_getD]
  cases hx:ss[j]? with
  | none=>simp[hx] at hu
  | some y=>simp[hx] at hu;subst hu;rfl
end
section
open Go.ChangeShapes Go.WideShapes Go.Deep Go.RowKit
theorem list_of {α:Type} (Q:Nat→α→Prop):∀ (n:Nat),(∀ i,i<n→∃ x,Q i x)→∃ l:List α,l.length=n∧∀ i x,l[i]?=some x→Q i x
 | 0,_=>⟨[],rfl,fun i x hx=>by simp at hx⟩
 | n+1,h=>by
   obtain⟨l,hl,hq⟩:=list_of Q n fun i hi=>h i (by omega)
   obtain⟨x,hx⟩:=h n (by omega)
   refine⟨l ++ [x],by simp[hl],fun i y hy=>?_⟩
   rcases Nat.lt_or_ge i n with hi|hi
   ·rw[List.getElem?_append_left (by omega)] at hy
    exact hq i y hy
   ·rw[List.getElem?_append_right (by omega),hl] at hy
    have:i=n:=by
     rcases Nat.eq_or_lt_of_le hi with e|e
     ·exact e.symm
     ·rw[List.getElem?_eq_none (by simp;omega)] at hy;cases hy
    subst this
    simp at hy
    subst hy
    exact hx
variable {H:Type} {enc:TypeId×Value→H} {W:World} {v:Value} {d:DataW H} {p:List MemPlace}
end
section
open Go.ChangeShapes Go.WideShapes Go.Deep Go.RowKit
theorem ints_open {H:Type} {enc:TypeId×Value→H} {W:World} {v:Value} {d:DataW H} {p:List MemPlace} (hv:∃ a l c,v=.slice a l c) (h:DataW.Trod enc prog W 0 (fun _=>true) true 23 v d p) :
  ∃ l:List Int,IntsAt W v l∧l.length≤maxLen∧∀ a∈l,-9223372036854775808≤a∧a≤9223372036854775807:=by
 obtain⟨a,l,c,rfl⟩:=hv
 obtain⟨fuel,hf⟩:=h
 have hI:prog.cellsOf 3=1:=by kernel_rfl
 rcases open_slice underlying23 hf with ⟨hcs,_⟩|⟨x,len,cap,m,n,D,Pl,hcs,_,hl,hm,hmm,_,hi⟩
 ·simp[Value.cells] at hcs
  obtain⟨rfl,rfl,rfl⟩:=hcs
  exact⟨[],⟨none,0,rfl,Nat.le_refl _,fun j x hx=>by simp at hx⟩,Nat.zero_le _,fun o ho=>by cases ho⟩
 ·simp[Value.cells] at hcs
  obtain⟨rfl,rfl,rfl⟩:=hcs
  have key:∀ i,i<l→∃ y:Int,(-9223372036854775808≤y∧y≤9223372036854775807)∧W.cell? ((x.add (i*1)).add 0)=some (.int .i64 y):=fun i hil=>by
   obtain⟨cs',hc,ht'⟩:=hi i (by rw[hmm];simp;omega)
   rw[hI] at hc
   obtain⟨_,hcl,hat⟩:=World.cells?_some hc
   obtain⟨s0,e0,_,w0⟩:=DataW.trod_int underlying3 ht'
   subst e0
   have c0:=hat 0 (by decide)
   exact⟨s0,int_bd w0,by simpa using c0⟩
  obtain⟨ls,hls,hq⟩:=list_of _ l key
  subst hls
  refine⟨ls,⟨some x,c,rfl,hl,fun j f hj=>?_⟩,Nat.le_trans hl hm,fun o ho=>?_⟩
  ·obtain⟨_,k1⟩:=hq j f hj
   obtain⟨f0,_,z0⟩:=key 0 (by have:=(List.getElem?_eq_some_iff.1 hj).1;omega)
   obtain⟨b,off,spot⟩:=x
   have hspot:spot=none:=by simpa [Addr.add] using World.cell?_spot z0
   subst hspot
   rw[Addr.add_lit,Addr.add_lit] at k1
   exact⟨b,off,rfl,by simpa using k1⟩
  ·obtain⟨j,hj⟩:=List.mem_iff_getElem?.1 ho
   exact (hq j o hj).1
end
section
open Go.ChangeShapes Go.RowKit
variable {H:Type} {enc:TypeId×Value→H}
theorem handed_shaped_and {a:Assume} {C:Checked} {os:Os} {f:FuncId} {fn:Func} {s:ChangeSpec} {conds:List PathCond} {apart fresh handsOn again:Bool} {X:World→Array Value→Prop}
  (hX:∀ (w w':World) (args:Array Value),w.heap=w'.heap→X w args→X w' args)
  (own:ownKnob C.prog.godebug=none) (started:os.Started) (noInit:C.prog.inits.idxOf? f=none) (hfn:C.prog.funcs[f]?=some fn)
  (witness:∃ (w:World) (tape:Tape) (i:Input),w.os=os∧(w.forCall tape i).Shaped C.prog∧i.vars = []∧Input.okWide C.prog (w.forCall tape i) .any w.heap.size f i∧
   ((s.pre enc C.prog fn conds apart (w.forCall tape i).memory i.args∧X (w.forCall tape i).memory i.args)∧sizedMet enc C.prog fn (OpenSpec.ofChange s) apart (w.forCall tape i).memory i.args)∧a.holds C.prog (lone (Frame.enter C.prog f i.args .normal) [] (w.forCall tape i)))
  (contract:∀ (W:World) (base:Nat) (args:Array Value) (ds gs:List (DataW H)) (before:List MemPlace),
   (∀ (j:Nat) t v,fn.params[j]?=some t→args[j]?=some v→Value.okWide C.prog W .any base t v)→
   DataW.Whole enc C.prog fn.params.toList s.vars apart W args.toList ds gs before→W.ShapedOpen C.prog→X W args→
   Calls C.prog f args W fun e W'=>∃ v,e=.returned v∧s.post enc C.prog fn apart fresh handsOn again W args v W') :
  ReturnsInHanded a C os f .any (fun w args=>(s.pre enc C.prog fn conds apart w args∧X w args)∧sizedMet enc C.prog fn (OpenSpec.ofChange s) apart w args) (s.post enc C.prog fn apart fresh handsOn again):=by
 refine returnsInHanded_of_calls own started noInit witness ?_
 intro w tape i _ hsh _ hok hpre _
 obtain⟨_,_,_,fn',hfn',_,_,_,_,hval⟩:=hok
 have e:fn'=fn:=Option.some.inj (hfn'.symm.trans hfn)
 subst e
 obtain⟨⟨⟨ds,gs,before,hw,_⟩,hx⟩,_⟩:=hpre
 have hw':=DataW.Whole.of_heap (w':=w.forCall tape i) (by rfl) hw
 refine (contract (w.forCall tape i) w.heap.size i.args ds gs before hval hw' hsh (hX _ _ _ (by rfl) hx)).mono fun e W' ⟨v,he,hp⟩=>?_
 subst he
 exact ChangeSpec.post_blind hp
end
end Go.Proofs.YtefccfakhgdfbabGreatDoor
