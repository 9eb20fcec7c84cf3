/- The walk of tiles' look.file, with each of its two looks at what comes. Conditions: the block is a question's; numbers in bounds. -/
import Derived.Test.YtefccfakhgdfbabGreatDoorRd07
import Derived.Deep.DeepCutAuto
import Derived.Handy
import Derived.Deep.RegionHeld3
set_option linter.unusedVariables false
set_option linter.unusedSimpArgs false
open Go.RowKit Go.Proofs.Tryz
set_option maxRecDepth 100000
set_option maxHeartbeats 4000000
namespace Go.Proofs.YtefccfakhgdfbabGreatDoor
section
theorem Qo8 (n:Nat) (h:Hsh) (key:List UInt8) (hn:n<9223372036854775808):(Qab n h).length≤100∧(J5 n h key).length≤200:=by
 have h1:=Jj hn;have h2:(Qab n h).length≤100:=by unfold Qab;simp[Qaz,Qan];omega
 refine⟨h2,?_⟩;unfold J5;simp[Qan];omega
theorem Qsm (n:Nat) (h:Hsh) (key:ByteArray) (w:World) (hn:n<9223372036854775808) (hk:key.size≤1048600) :
  Calls prog 100 #[.int .i64 n,.string (HS h),.string key] w fun e w'=>e=.returned (.string (sOf (J5 n h key.data.toList)))∧Below w.heap.size w w':=by
 have hd:(dec n).length≤19:=Jj hn;have hx:(Jp h.toList).length=16:=by rw[Qan,Qcc]
 have hhead:(ByteArray.mk #[116,105,108,101,115,10])++sOf (dec n)++(ByteArray.mk #[10])++sOf (Jp h.toList)++(ByteArray.mk #[10])=sOf (Qab n h):=by apply ByteArray.ext;simp[Qab,Qaz]
 have hall:key++(ByteArray.mk #[0])++sOf (Qab n h)=sOf (key.data.toList++0 :: Qab n h):=by apply ByteArray.ext;simp
 have hhl:=(Qo8 n h key.data.toList hn).1;have HH:=zh hhead;have HA:=zh hall;clear hhead hall
 go_enter func100,ntmps100
 go_wp2_with fail
 refine (Qaq n _ hn).mono ?_;rintro e w1 ⟨rfl,hb1⟩
 go_wp2_with fail
 refine (Qwr (HS h) _ (by rw[Qpb];decide)).mono ?_;rintro e w2 ⟨rfl,hb2⟩;rw[show (HS h).data.toList=h.toList from rfl];have HB2:=zh (hb1.trans (hb2.mono hb1.size));clear hb1 hb2
 go_wp2_with fail
 rw[HH.o,HA.o];refine (Qfs _ _ (by rw[Qbo];simp;omega)).mono ?_;rintro e w3 ⟨rfl,hb3⟩;rw[show (sOf (key.data.toList++0 :: Qab n h)).data.toList=key.data.toList++0 :: Qab n h from rfl];obtain⟨m,hm⟩:∃ m,m=hash (key.data.toList++0 :: Qab n h):=⟨_,rfl⟩
 rw[←hm];have HM:=zh hm;have HB3:=zh (HB2.o.trans (hb3.mono HB2.o.size));clear hm hb3;have hx2:(Jp m.toList).length=16:=by rw[Qan,Qcc]
 go_wp2_with fail
 refine (Qwr (HS m) _ (by rw[Qpb];decide)).mono ?_;rintro e w4 ⟨rfl,hb4⟩;rw[show (HS m).data.toList=m.toList from rfl];have HB4:=zh (HB3.o.trans (hb4.mono HB3.o.size));clear hb4;go_wp2;go_ret;refine⟨Qbc (congrArg Value.string ?_),HB4.o⟩
 have:=HH.o
 unfold J5;rw[←HM.o];apply ByteArray.ext;simp[Qab,Qaz]
end
section
abbrev trC (n:Int) (h:Hsh):Array Value:=#[.int .i64 n,bv h[0],bv h[1],bv h[2],bv h[3],bv h[4],bv h[5],bv h[6],bv h[7]]
abbrev trV (n:Int) (h:Hsh):Value:=.agg (trC n h)
theorem Qgb (h:Hsh):h8 h=#[bv h[0],bv h[1],bv h[2],bv h[3],bv h[4],bv h[5],bv h[6],bv h[7]]:=by
 apply Array.ext
 ·simp
 ·intro i h1 h2
  simp at h2
  have:i=0∨i=1∨i=2∨i=3∨i=4∨i=5∨i=6∨i=7:=by omega
  rcases this with rfl|rfl|rfl|rfl|rfl|rfl|rfl|rfl <;> simp[h8]
theorem Q12 (h:Hsh) (w:World) :
  Calls prog 137 #[.agg #[bv h[0],bv h[1],bv h[2],bv h[3],bv h[4],bv h[5],bv h[6],bv h[7]]] w fun e w'=>e=.returned (.string (sOf (Jp h.toList)))∧Below w.heap.size w w':=by
 have:=Qq8 h w
 rw[Qgb] at this;exact this
def TrAt (w:World) (g:Nat) (n:Int) (h:Hsh):Prop:=w.heap[g]?=some (.cells (trC n h) 111 (0,0))
variable {w:World} {g:Nat} {n:Int} {h:Hsh}
theorem TrAt.below {w':World} (ht:TrAt w g n h) (hb:Below w.heap.size w w'):TrAt w' g n h:=(hb.block g (Qc ht)).trans ht
theorem TrAt.cells (ht:TrAt w g n h):w.cell? ⟨g,0,none⟩=some (.int .i64 n)∧w.cell? ⟨g,1,none⟩=some (bv h[0])∧w.cell? ⟨g,2,none⟩=some (bv h[1])∧w.cell? ⟨g,3,none⟩=some (bv h[2])∧w.cell? ⟨g,4,none⟩=some (bv h[3])∧
  w.cell? ⟨g,5,none⟩=some (bv h[4])∧w.cell? ⟨g,6,none⟩=some (bv h[5])∧w.cell? ⟨g,7,none⟩=some (bv h[6])∧w.cell? ⟨g,8,none⟩=some (bv h[7]):=by
 unfold TrAt at ht;refine⟨?_,?_,?_,?_,?_,?_,?_,?_,?_⟩ <;> simp[World.cell?,ht]
set_option maxHeartbeats 8000000 in
theorem Qsi (n:Nat) (h:Hsh) (key:ByteArray) (w:World) (hn:n<9223372036854775808) (hk:key.size≤9223372036854775807) (hE:Jr w) :
  Calls prog 81 #[trV n h,.string key] w fun e w'=>e=.returned (.string (sOf (J5 n h key.data.toList)))∧Below w.heap.size w w':=by
 have hd:(dec n).length≤19:=Jj hn;have hx:(Jp h.toList).length=16:=by rw[Qan,Qcc]
 have T0:TrAt (w.alloc (.cells (trC n h) 111)) w.heap.size n h:=heap_alloc_new w _;have HE:=zh (hE.below (Qa w (.cells (trC n h) 111)));have HT:=zh T0;clear hE T0
 go_enter func81,ntmps81
 have c0:=(HT.o.below (Ql _)).cells;obtain⟨k0,k1,k2,k3,k4,k5,k6,k7,k8⟩:=c0;have hhead:(ByteArray.mk #[116,105,108,101,115,10])++sOf (dec n)++(ByteArray.mk #[10])++sOf (Jp h.toList)++(ByteArray.mk #[10])=sOf (Qab n h):=by apply ByteArray.ext;simp[Qab,Qaz]
 have HH:=zh hhead;clear hhead
 go_wp2_with fail
 go_cut [5] from 6 (fun s wx=>s=.string (sOf (Qab n h))∧Below w.heap.size w wx)
 case first=>
  go_region_with (first|(go_at_call 136;go_must (refine (Qc1 n _ hn (HE.o.below (Ql _))).mono ?_;rintro e w1 ⟨rfl,hb1⟩;have HB1:=zh hb1;obtain⟨j0,j1,j2,j3,j4,j5,j6,j7,j8⟩:=((HT.o.below (Ql _)).below hb1).cells;clear hb1))|(go_at_call 137;go_must (refine (Q12 h _).mono ?_;rintro e w2 ⟨rfl,hb2⟩;have HB2:=zh hb2;clear hb2)))
  all_goals
   go_wp2_with fail
   go_meet;exact⟨by rw[HH.o],(((Qa w _).drew).trans (HB1.o.mono (Qa w (.cells (trC n h) 111)).size)).trans (HB2.o.mono (Nat.le_trans (Qa w (.cells (trC n h) 111)).size HB1.o.size))⟩
 case rest=>
  obtain⟨rfl,hbc⟩:=hcut;have HBC:=zh hbc;have hhl:=(Qo8 n h key.data.toList hn).1;clear hbc k0 k1 k2 k3 k4 k5 k6 k7 k8;obtain⟨hd',hdd⟩:∃ x,x=Qab n h:=⟨_,rfl⟩
  rw[←hdd] at hhl ⊢;have HDD:=zh hdd;clear hdd
  go_wp2_with (first|(refine Qde rfl 9 94 5 _ rfl underlying9 underlying94 underlying5 rfl key rfl ?_;intro uk wk huk hbk hwk hvk;obtain⟨bk,ck,rfl⟩:=hvk;have HUK:=zh huk;have HBK:=zh hbk;clear huk hbk hwk)|(refine Qde rfl 9 94 5 _ rfl underlying9 underlying94 underlying5 rfl (sOf hd') rfl ?_;intro us wsx hus hbs hws hvs;obtain⟨bs',cs',rfl⟩:=hvs;have HUS:=zh hus;have HBS:=zh hbs;clear hus hbs hws))
  refine (Qjv _ [key.data.toList,[0],hd'] _ (bss3 (fz:=(0,0)) (Zu _ _ _ rfl) ?_ ?_ ?_) (by simp) (by simp;omega)).mono ?_
  ·exact (((HUK.o.at.below (Qa _ _)).below HBS.o).below (Qa _ _))
  ·exact (((bytes1 (x:=0) (fz:=(0,0)) (Zu _ _ _ rfl)).below HBS.o).below (Qa _ _))
  ·exact HUS.o.at.below (Qa _ _)
  rintro e w3 ⟨rfl,hb3⟩;have hfl : [key.data.toList,[0],hd'].flatten=key.data.toList++0 :: hd':=by simp
  rw[hfl];have hbx:=HBC.o.trans (HBK.o.mono HBC.o.size);have hby:=hbx.alloc hbx.size (.cells #[.int .u8 0] 5);have hbz:=hby.trans (HBS.o.mono hby.size);have hbw:=hbz.alloc hbz.size (.cells #[.slice (some ⟨bk,0,none⟩) key.size ck,.slice (some ⟨wk.heap.size,0,none⟩) 1 1,.slice (some ⟨bs',0,none⟩) hd'.length cs'] 94);have HB3:=zh (hbw.trans (hb3.mono hbw.size));clear hb3 hfl hbx hby hbz hbw;obtain⟨m,hm⟩:∃ m,m=hash (key.data.toList++0 :: hd'):=⟨_,rfl⟩
  rw[←hm];have HM:=zh hm;have hx2:(Jp m.toList).length=16:=by rw[Qan,Qcc]
  clear hm
  go_wp2_with fail
  refine (Qq8 m _).mono ?_;rintro e w4 ⟨rfl,hb4⟩;have HB4:=zh (HB3.o.trans (hb4.mono HB3.o.size));clear hb4;go_wp2;go_ret;refine⟨Qbc (congrArg Value.string ?_),HB4.o⟩;unfold J5;rw[←HDD.o,←HM.o];apply ByteArray.ext;simp
end
section
theorem Qbw (n:Int) (w:World) (h2:2≤n) (h3:n≤9223372036854775807) :
  Calls prog 140 #[.int .i64 n] w fun e w'=>e=.returned (.int .i64 (below n.toNat))∧w=w':=by
 obtain⟨e,he,he2,h4,h5⟩:=Qy3 (n:=n.toNat) (by omega) (by omega);have hb:below n.toNat=2 ^ e:=by unfold below;rw[he,Nat.add_sub_cancel]
 have HB:=zh hb;have HE:Hid (Lib.bitLen (n-1).toNat=e+1):=by
  have:(n-1).toNat=n.toNat-1:=by omega
  rw[this];exact he
 have hp:((2:Int) ^ e)=((2 ^ e:Nat):Int):=by simp
 have hle:2 ^ e<9223372036854775808:=by omega
 have HP:=zh hp;have HL:=zh hle;clear hb he hp hle h4 h5
 go_enter func140,ntmps140
 go_wp2_with fail
 refine (bits_Len _ _ (by omega) (by omega)).mono ?_;rintro e w1 ⟨rfl,rfl⟩;rw[HE.o];go_wp2;go_ret;refine⟨Qbc ?_,rfl⟩;rw[HB.o];simp only[HP.o]
 have:=HL.o
 show Value.int IntKind.i64 (wrap64 ((2 ^ e:Nat):Int))=_;generalize 2 ^ e=m at this ⊢
 congr 1
 unfold wrap64;omega
theorem Qeb (n:Int) (w:World) (h2:2≤n) (h3:n≤9223372036854775807) :
  Calls prog 115 #[.int .i64 n] w fun e w'=>e=.returned (.int .i64 (below n.toNat))∧w=w':=by
 go_enter func115,ntmps115
 go_wp2
 go_loop [3] (fun k=>∃ (e:Nat) (k':Int),k=.int .i64 k'∧k'=2 ^ e∧k'<n∧0<k') (fun k=>(n-intOf k).toNat)
 case atStart=>exact⟨0,1,rfl,rfl,by omega,by omega⟩
 case round=>
  obtain⟨e,k,rfl,hke,hkn,hk0⟩:=hrel;have HK:=zh hke;clear hke;by_cases hlt:k<n-k
  ·go_wp2
   go_round
   case rel=>exact⟨e+1,_,rfl,by rw[HK.o,Int.pow_succ];omega,by omega,by omega⟩
   case measure=>simp[intOf];omega
  ·go_wp2
   go_ret;refine⟨Qbc ?_,rfl⟩;have h:=HK.o;have hp:((2:Int) ^ e)=((2 ^ e:Nat):Int):=by simp
   rw[Qjr (n:=n.toNat) (e:=e) (by omega) (by omega) (by omega) (by omega)];show Value.int IntKind.i64 k=_;rw[h,hp]
end
section
variable {w:World} {b off n c k:Nat} {ss:List ByteArray}
theorem Qik (h:Jd w (.slice (some ⟨b,off,none⟩) n c) ss) (hk:k≤ss.length):Jd w (.slice (some ⟨b,off,none⟩) k c) (ss.take k):=by
 obtain⟨a,c',hv,hcap,hc⟩:=h;cases hv;have hl:(ss.take k).length=k:=by simp;omega
 unfold Jd;rw[hl];refine⟨_,c,rfl,by omega,fun j x hx=>?_⟩;rw[List.map_take] at hx;have hj:j<k:=by have:=(List.getElem?_eq_some_iff.1 hx).1;rw[List.length_take] at this;omega
 exact hc j x (by rwa [List.getElem?_take_of_lt hj] at hx)
theorem Qf6 (h:Jd w (.slice (some ⟨b,off,none⟩) n c) ss) (hk:k≤ss.length):Jd w (.slice (some ⟨b,off+k,none⟩) (n-k) (c-k)) (ss.drop k):=by obtain⟨a,c',hv,hcap,hc⟩:=h;cases hv;unfold Jd;rw[List.length_drop];refine⟨_,c-k,rfl,by omega,fun j x hx=>?_⟩;rw[List.map_drop,List.getElem?_drop] at hx;obtain⟨b',off',hb,hcell⟩:=hc (k+j) x hx;cases hb;exact⟨b,off+k,rfl,by rw[Nat.add_assoc];exact hcell⟩
theorem Qby (f:Nat):∀ (ss:List ByteArray) (v:Value) (w:World),ss.length≤f→Jd w v ss→ss.length≤1048576→(∀ s∈ss,s.size≤1048576)→
  Calls prog 63 #[v] w fun e w'=>e=.returned (.string (HS (rootOf (lists ss))))∧Below w.heap.size w w':=by
 have base:∀ (v:Value) (w:World),Jd w v []→Calls prog 63 #[v] w fun e w'=>e=.returned (.string (HS (rootOf (lists []))))∧Below w.heap.size w w':=by
  intro v w h;obtain⟨a,c,rfl,_,_⟩:=h
  go_enter func63,ntmps63
  go_wp2_with fail
  refine (Qfs ⟨#[]⟩ _ (by decide)).mono ?_;rintro e w1 ⟨rfl,hb⟩;go_wp2;go_ret;exact⟨rfl,hb⟩
 induction f with
 | zero=>
  intro ss v w hf h hl hs;obtain rfl:ss = []:=List.eq_nil_of_length_eq_zero (by omega);exact base v w h
 | succ f ih=>
  intro ss v w hf h hl hs
  match ss,hf,h,hl,hs with
  | [],_,h,_,_=>exact base v w h
  | [s],hf,h,hl,hs=>
   obtain⟨a,c,rfl,hcap,hc⟩:=h;obtain⟨b,off,rfl,hcell⟩:=hc 0 (.string s) rfl;simp only[Nat.add_zero] at hcell;have hs1:=hs s (by simp);clear hc hs ih base;simp only[List.length_cons,List.length_nil,Nat.zero_add]
   go_enter func63,ntmps63
   go_wp2_with fail
   refine (Q0l s _ (by omega)).mono ?_;rintro e w1 ⟨rfl,hb⟩;go_wp2;go_ret;exact⟨rfl,hb⟩
  | s1 :: s2 :: st,hf,h,hl,hs=>
   obtain⟨ss,hss⟩:∃ ss,ss=s1 :: s2 :: st:=⟨_,rfl⟩
   rw[←hss] at h hf hl hs ⊢;have h2:2≤ss.length:=by rw[hss];simp
   obtain⟨a,c,hv,hcap,hc⟩:=id h;obtain⟨b,off,rfl,_⟩:=hc 0 (.string s1) (by rw[hss];rfl);clear hc hss;subst hv;obtain⟨n,hn⟩:∃ n,n=ss.length:=⟨_,rfl⟩
   have hbd:=Qiy (n:=n) (by omega) (by omega);have hbl:=Yl (n:=n) (by omega);have hrt:rootOf (lists ss)=Z0 (rootOf (lists (ss.take (below n)))) (rootOf (lists (ss.drop (below n)))):=by rw[Qbd (by simp[lists];omega)];simp only[lists,List.length_map,List.map_take,List.map_drop,hn]
   obtain⟨k,hk⟩:∃ k,k=below n:=⟨_,rfl⟩
   rw[←hk] at hbd hbl hrt;have T:=zh (Qik h (by omega:k≤ss.length));have D:=zh (Qf6 h (by omega:k≤ss.length));have HS':=zh hs;have HK:=zh hk;have HR:=zh hrt;have IH:=zh ih;clear h hs hk hrt ih base;rw[←hn] at D hcap ⊢;have HN:=zh hn;have hf':n≤f+1:=by omega
   have hl':n≤1048576:=by omega
   clear hf hl hn;have d0:((n:Int) == 0)=false:=by rw[beq_eq_false_iff_ne];omega
   have d1:((n:Int) == 1)=false:=by rw[beq_eq_false_iff_ne];omega
   go_enter func63,ntmps63
   go_wp2_with fail
   refine (Qeb n _ (by omega) (by omega)).mono ?_;rintro e w0 ⟨rfl,rfl⟩;rw[Int.toNat_natCast,←HK.o]
   go_wp2_with fail
   refine (IH.o (ss.take k) _ _ (by simp;have:=HN.o;omega) T.o (by simp;omega) (fun s hs=>HS'.o s (List.mem_of_mem_take hs))).mono ?_;rintro e w1 ⟨rfl,hb1⟩
   go_wp2_with fail
   refine (IH.o (ss.drop k) _ _ (by simp;have:=HN.o;omega) (D.o.below hb1) (by simp;have:=HN.o;omega) (fun s hs=>HS'.o s (List.mem_of_mem_drop hs))).mono ?_;rintro e w2 ⟨rfl,hb2⟩;have HB:=zh (hb1.trans (hb2.mono hb1.size));clear hb1 hb2
   go_wp2_with fail
   refine (Q1i _ _ _ (by rw[Qpb];decide) (by rw[Qpb];decide)).mono ?_;rintro e w3 ⟨rfl,hb3⟩;go_wp2;go_ret;exact⟨by rw[HR.o];rfl,HB.o.trans (hb3.mono HB.o.size)⟩
end
section
theorem Qw5 (s:ByteArray) (w:World) (hs:s.size≤1048576) (h:Jr w) :
  Calls prog 120 #[.string s,.string (sOf [10])] w fun e w'=>∃ (v:Value) (Ls:List ByteArray),e=.returned v∧Jd w' v Ls∧lists Ls=linesOf s.data.toList∧Below w.heap.size w w':=by
 obtain⟨m,hm⟩:=h.most;refine (strings_Split s (sOf [10]) m w (by omega) hm (by decide)).mono ?_;rintro e w' ⟨rfl,rfl⟩;have hlen:=Lib.splitB_all (sOf [10]) (by decide) 0 (Lib.countB s (sOf [10])) s rfl;obtain⟨Ls,hLs⟩:∃ Ls,Ls=Lib.splitB (sOf [10]) 0 (Lib.countB s (sOf [10])) s:=⟨_,rfl⟩
 rw[←hLs] at hlen ⊢;refine⟨_,Ls,rfl,?_,?_,Qa _ _⟩
 ·rw[←hlen]
  unfold Jd;refine⟨_,_,rfl,Nat.le_refl _,fun j x hx=>⟨w.heap.size,0,rfl,?_⟩⟩;rw[Nat.zero_add,World.cell?_alloc_at _ _ _ _ rfl];simpa using hx
 ·rw[hLs]
  exact Lib.splitB_data (sOf [10]) 0 _ s
theorem Qnm (w:World) (a:Addr) (v:Value):w.grownBy (w.setCell a v) (some a.block):=by refine⟨rfl,rfl,rfl,by simp[World.setCell],fun k _ hk=>?_⟩;exact Below.heap_setCell w a v k (fun e=>hk (by rw[e]))
theorem Q5n (r:List UInt8) (i:Nat) (hi:i<8):(Yw r)[i]=r.getD i 0:=by
 have:i=0∨i=1∨i=2∨i=3∨i=4∨i=5∨i=6∨i=7:=by omega
 rcases this with rfl|rfl|rfl|rfl|rfl|rfl|rfl|rfl <;> rfl
theorem Qz5 (n:Int) (h:Hsh) (i:Nat) (hi:i<8):(trC n h)[1+i]?=some (bv h[i]):=by
 have:i=0∨i=1∨i=2∨i=3∨i=4∨i=5∨i=6∨i=7:=by omega
 rcases this with rfl|rfl|rfl|rfl|rfl|rfl|rfl|rfl <;> rfl
theorem Q2x (n:Int) (r:List UInt8) (z:UInt8) (hr:r.length<8):(trC n (Yw r)).setIfInBounds (1+r.length) (bv z)=trC n (Yw (r ++ [z])):=by
 match r,hr with
 | [],_=>rfl
 | [a],_=>rfl
 | [a,b],_=>rfl
 | [a,b,c],_=>rfl
 | [a,b,c,d],_=>rfl
 | [a,b,c,d,e],_=>rfl
 | [a,b,c,d,e,f],_=>rfl
 | [a,b,c,d,e,f,g],_=>rfl
variable {w:World} {g:Nat} {n:Int} {r:List UInt8}
theorem TrAt.step (h:TrAt w g n (Yw r)) (z:UInt8) (hr:r.length<8):TrAt (w.setCell ⟨g,1+r.length,none⟩ (bv z)) g n (Yw (r ++ [z])):=by have hlt:=Qc h;unfold TrAt at *;rw[←Q2x n r z hr];simp[World.setCell,Array.getElem?_modify,h]
theorem TrAt.at (h:TrAt w g n (Yw r)) (hr:r.length<8):(∃ y,w.cell? ⟨g,1+r.length,none⟩=some (bv y))∧w.frozen? ⟨g,1+r.length,none⟩=false:=by
 have:=Qz5 n (Yw r) r.length hr
 unfold TrAt at h;exact⟨⟨_,by simp only[World.cell?,h];exact this⟩,by simp[World.frozen?,h]⟩
theorem Q29:(prog.info? 111).map (·.size)=some 9:=by kernel_rfl
section
variable {ops:Array Oper} {rest:List Oper} {o:Oper} {a:Act} {Q:Exit→Act→World→Prop} {w:World}
theorem Yz (hw:Region.wanted o (yielded ops a.tmps)=true) (x:Operand) (ho:o.op=.load 111 x) (g:Nat) (hx:a.eval x=.pointer (some ⟨g,0,none⟩))
  (n:Int) (h:Hsh) (hh:TrAt w g n h) (hk:wpList prog ops Q rest (a.put o.dst (trV n h)) w):wpList prog ops Q (o :: rest) a w:=
 BigFrame.wpList_want hw fun _ hK=>wp_load_row 111 x ho g hx _ (trC n h) _ _ hh underlying111 rfl (by rw[Q29];rfl) (hK _ _ hk)
theorem Z7 (hw:Region.wanted o (yielded ops a.tmps)=true) (x y:Operand) (ho:o.op=.store 111 x y) (g:Nat) (n:Int) (k:Hsh) (hx:a.eval x=.pointer (some ⟨g,0,none⟩)) (hy:a.eval y=trV n k)
  (n0:Int) (h:Hsh) (hh:TrAt w g n0 h) (hk:wpList prog ops Q rest (a.put o.dst undef) (w.setRow g (trC n k))):wpList prog ops Q (o :: rest) a w:=
 BigFrame.wpList_want hw fun _ hK=>wp_store_row 111 x y ho g (trC n k) hx hy _ _ hh (by rw[Q29];rfl) rfl (by simp[Value.oneCell']) (hK _ _ hk)
theorem retT {fn:Func} {R:Ending→World→Prop} {p q:Tmp} (g:Nat) (n:Int) (k:Hsh) (x:Value) (h:fn.results=#[.cell p 111,.tmp q]) (hx:a.tmps.getD p undef=.pointer (some ⟨g,0,none⟩)) (hq:a.tmps.getD q undef=x)
  (hh:TrAt w g n k) (hd:a.defers = []) (hR:R (.returned (.tuple #[trV n k,x])) w):bodyPost prog fn R .ret a w:=by
 refine bodyPost_ret (v:=.tuple #[trV n k,x]) ?_ hd hR;rw[results_cell_tmp h];have hl:=run_loadVar_row (P:=prog) w g _ 111 (trC n k) _ _ hh underlying111 rfl (by rw[Q29];rfl);simp[hx,hq,asAddr,hl] at *
end
theorem TrAt.set {n0:Int} {h0:Hsh} (h:TrAt w g n0 h0) (n:Int) (k:Hsh):TrAt (w.setRow g (trC n k)) g n k:=setRow_heap w g _ _ _ _ h
theorem Qqu (sep:List UInt8):∀ (k:Nat) (s:List UInt8),∀ x∈Lib.splitK sep 0 k s,x.length≤s.length
 | 0,s,x,hx=>by simp only[Lib.splitK,List.mem_singleton] at hx;rw[hx];exact Nat.le_refl _
 | k+1,s,x,hx=>by
  unfold Lib.splitK at hx
  split at hx
  ·simp only[List.mem_singleton] at hx;rw[hx];exact Nat.le_refl _
  ·rcases List.mem_cons.1 hx with rfl|hx
   ·simp;omega
   ·have:=Qqu sep k _ x hx
    simp at this
    omega
theorem Qyh (l:List UInt8):∀ x∈linesOf l,x.length≤l.length:=Qqu [10] _ l
end
section
section
variable [Inhabited OutT]
theorem Q1v:(prog.info? 9).map (fun i=>(i.zero,i.size,i.bytes))=some (some (.string ⟨#[]⟩),1,16):=by have:=(inferInstance:Inhabited OutT);show _=_;kernel_rfl
theorem Qle (w:World) (q:Qf) (x:Qv) (N:Nat) (s:Cs) (d:Dk) (h:QIs w q x N s d) (key:ByteArray) (a:Option Addr) (n c:Nat) (data:List UInt8) (hv:OwnB w 0 (.slice a n c) data) (hn:ffind x.vs key=none) (hs:key.size≤maxLen) (hlen:x.vs.length<1099511627775) :
  Calls prog 147 #[.pointer (some ⟨q.gq,0,none⟩),.string key,.slice a n c] w fun e w'=>e=.returned (.tuple #[])∧Yn w q x N d w' (Qgi key data s):=by
 obtain⟨c0,c1,c2,c3,_,_,c6⟩:=h.heads;obtain⟨i0,hi0,hz0,hs0,hby0⟩:=info_parts Q1v;have HI:=zh (⟨hi0,hz0,hs0,hby0⟩:_∧_∧_∧_);have hgq:q.gq<w.heap.size:=Qc h.look;obtain⟨ao,co,hvo⟩:=Zs h.ord;rw[hvo] at c3;have hcg:fget x.vs key=none:=by unfold fget;rw[hn];rfl
 have H:=zh h;have HV:=zh hv;have HVO:=zh hvo;have hmg:q.gq≠q.mq:=fun e=>by obtain⟨es,c,hb⟩:=Qhf h.km;rw[←e,h.look] at hb;cases hb
 have hvl:(x.vs.map (·.key)).length=x.vs.length:=List.length_map _;clear h hv hvo hi0 hz0 hs0 hby0
 go_enter func147,ntmps147
 go_upto_region 1 with (first|(at_mapUpdate;refine Qdy _ rfl _ _ _ 248 rfl 9 94 underlying9 underlying248 q.mq _ _ rfl H.o.km (by unfold maxLen;omega) key (.slice a n c) rfl hs rfl ?_;intro w1 hk1 hf1 hs1;have HK1:=zh hk1;have HF1:=zh hf1;have HS1:=zh hs1;clear hk1 hf1 hs1)|fail)
 have hl1:=HF1.o.heap H.o.look hmg;have ho1:Q5 w1 0 x.vo (x.vs.map (·.key)):=Zb H.o.ord HF1.o fun k hk e=>by obtain⟨es,cc,hb⟩:=Qhf H.o.km;obtain⟨C,hC⟩:=Qh H.o.ord hk;rw[e] at hC;rw[hb] at hC;cases hC
 obtain⟨ln,hln⟩:∃ ln,ln=x.vs.length:=⟨_,rfl⟩
 have hvo:x.vo=.slice ao ln co:=by rw[hln,←hvl];exact HVO.o
 have d3:w1.cell? ⟨q.gq,3,none⟩=some (.slice ao ln co):=by rw[←hvo];exact Qd hl1 3 rfl
 have dz:w1.frozen? ⟨q.gq,3,none⟩=false:=Qq hl1 3;have hgq1:q.gq<w1.heap.size:=Qc hl1;have hoz:w1.ownsRow 0 9 1 (.slice ao ln co) ln ((x.vs.map (·.key)).map Value.string):=by
  have:=ho1
  unfold Q5 at this;rw[hvl,←hln,hvo] at this;exact this
 have hln2:ln+1≤1099511627776:=by omega
 have hqn:∀ k,x.vo.ownBlock=some k→k≠q.gq:=fun k hk e=>by obtain⟨C,hC⟩:=Qh H.o.ord hk;exact Zp hC H.o.look (by decide) e
 have HQN:=zh hqn;have HOZ:=zh hoz;have HL1:=zh hl1;have HVO2:=zh hvo;have HLN:=zh hln;clear ho1 hoz hl1 c0 c1 c2 c3 c6 hvo hln hqn hvl
 go_wp2_with (at_builtin;refine Qbe rfl _ _ _ rfl 0 9 i0 _ 1 16 underlying22 HI.o.1 HI.o.2.1 HI.o.2.2.1 HI.o.2.2.2 rfl (by decide) (by decide) (.slice ao ln co) ln _ rfl (Qn HOZ.o (Qa _ _)) ⟨w1.heap.size,0,none⟩ 1 1 [.string key] rfl rfl (by have:=cell_one_new w1 (.string key) 9;simpa using this) (by simp[Value.oneCell']) (by decide) hln2 (Nat.zero_le _) ?_;intro v' w2 g2 g3 g4 g5;have G2:=zh g2;have G3:=zh (Fr.ofGrown (S:=fun k=>x.vo.ownBlock=some k) g3 fun k _ e=>by rw[HVO2.o];exact e.symm ▸ rfl);have G4:=zh g4;obtain⟨gb,cpb,hvv,hgb⟩:=Qa3 g2 g5;have hl2:=G3.o.heap (Qu4 HL1.o _) (fun e=>HQN.o _ e rfl);have e3:=Qd hl2 3 rfl;have ez:=Qq hl2 3;have HL2:=zh hl2;subst hvv;clear g2 g3 g4 g5 hl2)
 have hF:Fr (Qzc q x) w (w2.setCell ⟨q.gq,3,none⟩ (.slice (some ⟨gb,0,none⟩) (ln+1) cpb)):=
  (((HF1.o.weak fun _ _ e=>.inr (.inl e)).trans (Fr.ofBelow (Qa w1 (.cells #[.string key] 9)))).trans (G3.o.weak fun _ _ e=>.inr (.inr e))).trans ((Fr.set1 w2 q.gq 3 _).weak fun _ _ e=>.inl e)
 have hmo:∀ k,x.vo.ownBlock=some k→q.mq≠k:=fun k hk e=>by obtain⟨es,cc,hb⟩:=Qhf H.o.km;obtain⟨C,hC⟩:=Qh H.o.ord hk;rw[←e,hb] at hC;cases hC
 have hk3:KmAt (w2.setCell ⟨q.gq,3,none⟩ (.slice (some ⟨gb,0,none⟩) (ln+1) cpb)) 9 q.mq (fun u=>if u=key then some (.slice a n c) else fget x.vs u) (x.vs.length+1):=by have k1:=HK1.o;rw[hcg] at k1;exact ((k1.below (Qa w1 (.cells #[.string key] 9)) k1.lt).fr G3.o fun e=>hmo _ e rfl).fr (Fr.set1 w2 q.gq 3 _) fun e=>hmg e.symm
 have ho3:Q5 (w2.setCell ⟨q.gq,3,none⟩ (.slice (some ⟨gb,0,none⟩) (ln+1) cpb)) 0 (.slice (some ⟨gb,0,none⟩) (ln+1) cpb) (x.vs.map (·.key) ++ [key]):=by
  have g:=G2.o;have hg:gb≠q.gq:=fun e=>by obtain⟨C,hC⟩:=Qh g (k:=gb) rfl;exact Zp hC HL2.o (by decide) e
  have g':=Zb g (Fr.set1 w2 q.gq 3 (.slice (some ⟨gb,0,none⟩) (ln+1) cpb)) fun k hk e=>hg (by simp[Value.ownBlock] at hk;exact hk.trans e)
  unfold Q5;rw[List.length_append,List.length_singleton,List.length_map,←HLN.o,List.map_append];exact g'
 have hq:=H.o.lookStep hF (y:=⟨key,.slice a n c,data⟩) ((heap_setCell HL2.o _).trans (by simp[Que])) hk3 ho3 (Qdc HV.o hF H.o.kindsLook (by decide)) hn hs;refine bodyPost_end (results_none rfl _ _ _) rfl ⟨rfl,_,hq,hF.weak fun _ _ e=>.inl e,?_⟩;intro k hk;rcases hk with (e|e|e)|e|e
 ·exact .inl (.inl (.inl e))
 ·exact .inl (.inl (.inr (.inl e)))
 ·rcases G4.o k e with e|e
  ·exact .inl (.inl (.inr (.inr (by rw[HVO2.o];exact e))))
  ·have hz:w.heap.size=w1.heap.size:=HS1.o.symm
   exact .inr (by rw[hz];exact Nat.le_trans (Nat.le_succ _) (by simpa using e))
 ·exact .inl (.inr (.inl e))
 ·exact .inl (.inr (.inr e))
end
end
section
section
variable [Inhabited OutT]
theorem Qtr (n:Nat) (v:Value) (w:World):(Go.method (n+1) 44 v "Fetch").run prog w=.ok (254,v) w:=by have:=(inferInstance:Inhabited OutT);show _=_;kernel_rfl
theorem cfetch0 (w:World) (gc g gd:Nat) (vl vt v:Value) (n:Nt) (d:Dk) (p:ByteArray) (h2:w.cell? ⟨gc,2,none⟩=some (.iface 44 (.pointer (some ⟨g,0,none⟩)))) (h:Yk w g gd vl vt n) (hd:Q3 w gd v d) (hf:d.files=n.files) (hc:n.fetches<1152921504606846976) :
  Calls prog 85 #[.pointer (some ⟨gc,0,none⟩),.string p] w (Qlr w g gd vl vt n p):=by
 have HF:=zh (Qz8 w g gd vl vt v n d p h hd hf hc);clear h hd hf;have hm:=fun n W=>Qtr n (.pointer (some ⟨g,0,none⟩)) W
 go_enter func85,ntmps85
 go_wp2_with (go_at_call 254;refine HF.o.mono ?_;intro e w1 h1;obtain⟨hn1,hf1,u,y,rfl,ho1⟩:=h1;have HN1:=zh hn1;have HF1:=zh hf1;have HO1:=zh ho1;clear hn1 hf1 ho1)
 go_ret2;exact⟨HN1.o,HF1.o,_,_,rfl,HO1.o⟩
def Qdm (w:World) (q:Qf) (x:Qv) (N:Nat) (s:Cs) (d:Dk) (p:ByteArray) (e:Ending) (w':World):Prop:=
 (QIs w' q x N (Zd p s) d∧Fr (netS q.gn q.vt) w w')∧∃ u y,e=.returned (.tuple #[u,y])∧((∃ data,Yt s.net p=some data∧y=.nilIface∧Qz w' w.heap.size u data∧∃ a k c,u=.slice a k c)∨(Yt s.net p=none∧(∃ t,y=.iface 152 (.pointer (some t)))∧∃ a k c,u=.slice a k c))
theorem Qoj (w:World) (q:Qf) (x:Qv) (N:Nat) (s:Cs) (d:Dk) (h:QIs w q x N s d) (p:ByteArray) (hc:s.net.fetches<1152921504606846976) :
  Calls prog 85 #[.pointer (some ⟨q.gc,0,none⟩),.string p] w (Qdm w q x N s d p):=
 (cfetch0 w q.gc q.gn q.gd q.vl q.vt q.v s.net d p h.heads.2.2.2.2.1 h.net h.disk h.dfiles hc).mono fun e w' hp=>by
  obtain⟨h1,h2,h3⟩:=hp
  exact⟨⟨h.netStep h1 h2 (Yg s.net p).2.1,h2⟩,h3⟩
end
end
section
section
variable [Inhabited OutT]
structure Rnd (fits:Qir) (level:Int) (index w:Nat) (s:Cs) (kk:Nat) (sk:Cs) (nm:ByteArray) (wd:Nat):Prop where
 name:nm=Qr level index wd
 wide:w≤wd∧wd≤4
 fit:∀ b,tryQ fits nm wd w sk=some b→Qbq fits level index w s=(.ok b,Qgi (Qr level index w) b (Zd nm sk))
 last:tryQ fits nm wd w sk=none→w=4∨kk=1→Qbq fits level index w s=(.error (.miss (Qr level index w)),Zd nm sk)
theorem rnd0 (fits:Qir) (level:Int) (index w:Nat) (s:Cs) (hw:w≤4):Rnd fits level index w s 0 s (Qr level index w) w:=have:=(inferInstance:Inhabited OutT);⟨rfl,⟨Nat.le_refl _,hw⟩,fun b hb=>by unfold Qbq;rw[hb],fun hn h=>by
  unfold Qbq
  rw[hn]
  dsimp only
  rw[if_pos (by omega)]⟩
variable {fits:Qir} {level:Int} {index wd:Nat} {s:Cs} {nm:ByteArray}
theorem rnd1 {w:Nat} (h:nm=Qr level index w) (hwd:wd=w) (hn:tryQ fits nm wd w s=none) (h4:w≠4) (hw:w≤4):Rnd fits level index w s 1 (Zd nm s) (Qr level index 4) 4:=by
 have:=(inferInstance:Inhabited OutT)
 subst h hwd;refine⟨rfl,⟨hw,Nat.le_refl _⟩,fun b hb=>?_,fun hm _=>?_⟩
 ·unfold Qbq
  rw[hn];dsimp only;rw[if_neg h4,hb]
 ·unfold Qbq
  rw[hn];dsimp only;rw[if_neg h4,hm]
def Y5 (f:Nat→Addr) (w:World) (base:Nat) (p:ByteArray) (u:Value):Prop:=Q0s w base p (.iface 338 (.pointer (some (f 5)))) u
def Qla (f:Nat→Addr) (w:World) (q:Qf) (x:Qv) (N:Nat) (d:Dk) (r:Except QErr (List UInt8)×Cs) (e:Ending) (w':World):Prop:=
 Yn w q x N d w' r.2∧((∃ b a n c,r.1=.ok b∧e=.returned (.tuple #[.slice a n c,.nilIface])∧Qz w' 0 (.slice a n c) b)∨∃ p u,r.1=.error (.miss p)∧e=.returned (.tuple #[.slice none 0 0,u])∧Y5 f w' w.heap.size p u)
def Qaa (n:Nt):Prop:=(∀ x∈n.files,x.2.size≤1099511627776)∧∀ l∈n.lies,l.data.size≤1099511627776
variable {n:Nt} {p:ByteArray} {data:List UInt8}
theorem Qca (h:Qaa n) (hd:Yt n p=some data):data.length≤1099511627776:=by
 have:=(inferInstance:Inhabited OutT)
 unfold Yt at hd;cases hl:Qc4 n p with
 | none=>
  rw[hl] at hd;obtain⟨b,hb,rfl⟩:=Option.map_eq_some_iff.1 hd
  have:=h.1 _ (Qah hb)
  simpa using this
 | some i=>
  rw[hl] at hd;dsimp only at hd;cases hx:n.lies[i]? with
  | none=>rw[hx] at hd;cases hd
  | some x=>
   rw[hx,Option.bind_some] at hd
   split at hd
   ·cases hd
   ·have:=h.2 x (List.mem_of_getElem? hx)
    rw[←Option.some.inj hd];simpa using this
theorem Qhb (h:Qaa n) (q:ByteArray):Qaa (Zm n q):=by
 have:=(inferInstance:Inhabited OutT)
 unfold Qaa;rw[(Yg n q).1,(Yg n q).2.1];exact h
theorem Qr4 (l:Int) (i w:Nat) (hi:i<9223372036854775808):(Qr l i w).size≤maxLen:=by
 have:=(inferInstance:Inhabited OutT)
 unfold Qr;rw[Qbo];unfold Y6
 split
 ·rename_i h
  unfold Jm at h;unfold Ji;have h1:=Jj (n:=l.toNat) (by omega);have h2:=Jj (n:=(i:Int).toNat) (by omega);have h3:=Jj (n:=(w:Int).toNat) (by omega);unfold maxLen;simp only[List.length_append]
  split <;> split <;> simp only[List.length_append,List.length_cons,List.length_nil,kT,kE,kP] <;> omega
 ·exact Nat.zero_le _
variable {w:World} {q:Qf} {x:Qv} {N:Nat} {d:Dk}
theorem Q5a (h:QIs w q x N s d) {y:FEnt} (hy:y∈x.vs):∃ a n c,y.val=.slice a n c:=Qgo (h.vals y hy).1
variable {g m:Nat} {c:Cch} {qs:List CEnt}
theorem Q5i (h:Zx w g m c qs) {y:CEnt} (hy:y∈qs):∃ a n c,y.val=.slice a n c:=Qgo (h.vals y hy).1
variable {count:Nat} {b:List UInt8}
theorem Qkl (h:Z3 s.files (Qr level index (Zt index count))=some b):Qau fits level index count s=(.ok b,s):=by have:=(inferInstance:Inhabited OutT);unfold Qau;rw[h]
theorem Qlt (h:Z3 s.files (Qr level index (Zt index count))=none) (h2:Z3 s.cache.items (Qr level index (Zt index count))=some b):Qau fits level index count s=(.ok b,Qgi (Qr level index (Zt index count)) b { s with cache:=Yi s.cache (Qr level index (Zt index count)) }):=by have:=(inferInstance:Inhabited OutT);unfold Qau;rw[h];dsimp only;rw[h2]
theorem Qlv (h:Z3 s.files (Qr level index (Zt index count))=none) (h2:Z3 s.cache.items (Qr level index (Zt index count))=none):Qau fits level index count s=Qbq fits level index (Zt index count) s:=by have:=(inferInstance:Inhabited OutT);unfold Qau;rw[h];dsimp only;rw[h2]
variable {k:ByteArray} {e:Ending} {w':World}
theorem Qvx {z:CEnt} (hf:cfind qs k=some z) (h:Qmq w g m c qs k e w') :
  e=.returned (.tuple #[z.val,.bool true])∧∃ qs',Zx w' g m (Yi c k) qs'∧Fr (Yh g m qs) w w'∧w'.heap.size=w.heap.size∧(∀ i,Yh g m qs' i↔Yh g m qs i)∧OwnB w' 0 z.val z.data:=by
 rcases h with ⟨h,_⟩|⟨z',qs',h1,h2,h3,h4,h5,h6,h7⟩
 ·rw[hf] at h;cases h
 ·rw[hf] at h1
  cases h1;exact⟨h2,qs',h3,h5,h6,h7,h3.vals z h4⟩
theorem Qr5 (hf:cfind qs k=none) (h:Qmq w g m c qs k e w'):e=.returned (.tuple #[.slice none 0 0,.bool false])∧w'=w:=by
 rcases h with ⟨_,h1,h2⟩|⟨z',qs',h1,_⟩
 ·exact⟨h1,h2⟩
 ·rw[hf] at h1;cases h1
theorem Qxn (h:QIs w q x N s d):Qb7 w (QS q x):=fun k C fz hk hs=>by
 rcases hs with hs|hs|hs
 ·exact Zo h.kindsLook hk (by decide) hs
 ·exact Zo (Qai h.cache) hk (by decide) hs
 ·exact Zo (Qcm h.net) hk (by decide) hs
theorem Qh6 {w w':World} {q:Qf} {x:Qv} {N:Nat} {s:Cs} {d:Dk} {base:Nat} {v:Value} {l:List UInt8} (hb:Qz w base v l) (hf:Fr (QS q x) w w') (h:QIs w q x N s d):Qz w' base v l:=
 hb.same fun k C fz hk=>hf.block k (Qc hk) (Qxn h k C fz hk)
theorem Qou (hf:Yt s.net p=none) (h:Qdm w q x N s d p e w') :
  QIs w' q x N (Zd p s) d∧Fr (netS q.gn q.vt) w w'∧∃ a n c t,e=.returned (.tuple #[.slice a n c,.iface 152 (.pointer (some t))]):=by
 obtain⟨⟨h1,h2⟩,u,y,rfl,⟨data,h3,_⟩|⟨_,⟨t,rfl⟩,a,n,c,rfl⟩⟩:=h
 ·rw[hf] at h3;cases h3
 ·exact⟨h1,h2,a,n,c,t,rfl⟩
theorem Qmu (hf:Yt s.net p=some data) (h:Qdm w q x N s d p e w') :
  QIs w' q x N (Zd p s) d∧Fr (netS q.gn q.vt) w w'∧∃ a n c,∃ _:Qz w' w.heap.size (.slice a n c) data,e=.returned (.tuple #[.slice a n c,.nilIface]):=by
 obtain⟨⟨h1,h2⟩,u,y,rfl,⟨data',h3,rfl,h4,a,n,c,rfl⟩|⟨h3,_⟩⟩:=h
 ·rw[hf] at h3
  cases h3;exact⟨h1,h2,a,n,c,h4,rfl⟩
 ·rw[hf] at h3;cases h3
variable {o:Option (List UInt8)}
theorem Qv5 (ho:o=none) (h:Qjz o w e w'):Below w.heap.size w w'∧∃ a n c,e=.returned (.tuple #[.slice a n c,.bool false]):=by
 have:=(inferInstance:Inhabited OutT)
 obtain⟨h1,⟨_,a,n,c,h2⟩|⟨b,a,n,c,h2,_⟩⟩:=h
 ·exact⟨h1,a,n,c,h2⟩
 ·rw[ho] at h2;cases h2
theorem Q2c (ho:o=some b) (h:Qjz o w e w'):Below w.heap.size w w'∧∃ a n c,∃ _:Qz w' w.heap.size (.slice a n c) b,e=.returned (.tuple #[.slice a n c,.bool true]):=by
 have:=(inferInstance:Inhabited OutT)
 obtain⟨h1,⟨h2,_⟩|⟨b',a,n,c,h2,h3,h4⟩⟩:=h
 ·rw[ho] at h2;cases h2
 ·rw[ho] at h2
  cases h2;exact⟨h1,a,n,c,h4,h3⟩
theorem Qio {w1:Nat} {kk gg:Nat} {sk:Cs} {t0:ByteArray} {wb w5:World} {s63:Value} (hR:Rnd fits level index w1 s kk sk nm wd) (hQ:QIs w5 q x N (Zd nm sk) d) (hn:Qaa sk.net) (hfe:sk.net.fetches≤s.net.fetches+kk) (hwd:wd=(if kk=0 then w1 else 4)) (hs0:kk=0→sk=s) (ht0:t0=Qr level index w1)
  (hty:tryQ fits nm wd w1 sk=none) (h4:¬ w1=4) (hw:w1≤4) (hk:kk<2) (hF:Fr (netS q.gn q.vt) wb w5) (hg:2-(kk+1)≤gg) (hs:s63=.int .i64 ((kk+1:Nat):Int)) :
  ∃ kk:Nat,kk≤2∧2-kk≤gg∧s63=.int .i64 kk∧Aside (Fr (netS q.gn q.vt) wb w5)∧Aside ((∃ sk nm wd,kk<2∧Rnd fits level index w1 s kk sk nm wd∧QIs w5 q x N sk d∧sk.net.fetches≤s.net.fetches+kk∧Qaa sk.net∧wd=(if kk=0 then w1 else 4)∧(kk=0→sk=s))∨(kk=2∧∃ sk,Qbq fits level index w1 s=(.error (.miss t0),sk)∧QIs w5 q x N sk d)):=by
 refine⟨kk+1,by omega,hg,hs,hF,?_⟩;rcases Nat.lt_or_ge kk 1 with h0|h0
 ·obtain rfl:kk=0:=by omega
  obtain rfl:=hs0 rfl;refine .inl ⟨Zd nm sk,Qr level index 4,4,by omega,rnd1 (by rw[hR.name,hwd,if_pos rfl]) (by rw[hwd,if_pos rfl]) hty h4 hw,hQ,?_,Qhb hn nm,by rw[if_neg (by decide)],fun h=>by cases h⟩;show (Zm sk.net nm).fetches≤_;rw[(Yg sk.net nm).2.2];omega
 ·obtain rfl:kk=1:=by omega
  exact .inr ⟨rfl,Zd nm sk,by rw[ht0];exact hR.last hty (.inr rfl),hQ⟩
theorem Qz7 (f:Nat→Addr) (w:World) (q:Qf) (x:Qv) (N:Nat) (s:Cs) (d:Dk) (h:QIs w q x N s d) (hE:EnvS f (QS q x) w) (level:Int) (index count:Nat) (hi:4*index<count) (hc:count<9223372036854775808) (hft:s.net.fetches<1152921504606846000) (hlen:x.vs.length<1099511627775) (hsm:Qaa s.net) :
  Calls prog 92 #[.pointer (some ⟨q.gq,0,none⟩),.int .i64 level,.int .i64 index,.int .i64 count,.func (.func 143) #[] #[]] w (Qla f w q x N d (Qau Z5 level index count s)):=by
 have hfitl:∀ (W:World) (v:Value) (data:List UInt8) (wd w1:Nat),Q6 W v data→data.length≤1099511627776→1≤w1→w1≤wd→wd≤4→Calls prog 143 #[v,.int .i64 wd,.int .i64 w1] W (Qjz (Z5 data wd w1) W):=fun W v data wd w1 hb hl _ _ _=>Q39 W _ data wd w1 hb (by omega) (by omega) (by omega)
 obtain⟨w1,hw1⟩:∃ w1,w1=Zt index count:=⟨_,rfl⟩
 have hwb:1≤w1∧w1≤4:=by unfold Zt at hw1;omega
 obtain⟨t0,ht0⟩:∃ t0,t0=Qr level index w1:=⟨_,rfl⟩
 have hat:=Qpa level index count w hi hc hE.num;rw[show min 4 (count-4*index)=w1 from hw1.symm] at hat;have e0:sOf (Y6 level (index:Int) ((w1:Nat):Int))=t0:=ht0.symm;rw[e0] at hat;have ht0s:t0.size≤maxLen:=by rw[ht0];exact Qr4 level index w1 (by omega)
 have HFIT:=zh hfitl;have HAT:=zh hat;have HW1:=zh hw1;have HT0:=zh ht0;have H:=zh h;have HE:=zh hE;have hgw:q.gq<w.heap.size:=Qc h.look;clear hfitl hat hw1 e0 h hE ht0;obtain⟨k0,k1,k2,k3,k4,k5,k6⟩:=H.o.heads;cases hff:ffind x.vs t0 with
 | some y=>
  obtain⟨hym,hyk⟩:=Qls hff;obtain⟨ya,yn,yc,hyv⟩:=Q5a H.o hym;have hcg:fget x.vs t0=some (.slice ya yn yc):=by unfold fget;rw[hff,←hyv];rfl
  have hq:Qau Z5 level index count s=(.ok y.data,s):=Qkl (by rw[←HW1.o,←HT0.o,H.o.files,Qlb,hff];rfl);have hob:=(H.o.vals y hym).1;rw[hyv] at hob;have HQ:=zh hq;have HOB:=zh hob;clear hq hob hyv hym hyk hff
  go_enter func92,ntmps92
  go_wp2_with (first|(go_at_call 123;refine HAT.o.mono ?_;rintro e w2 ⟨rfl,hb2⟩;have H2:=zh (H.o.below hb2);have HB2:=zh hb2;obtain⟨j0,j1,j2,j3,j4,j5,j6⟩:=H2.o.heads;clear hb2)|(at_lookup;refine Yo _ rfl _ _ 248 rfl 9 94 underlying9 underlying248 (z:=.slice none 0 0) rfl q.mq x.vs.length (fget x.vs) rfl H2.o.km t0 rfl ht0s ?_;rw[hcg];simp only[Option.getD,Option.isSome])|fail)
  go_ret2;rw[HQ.o];exact⟨(Yn.here H.o).below HB2.o,.inl ⟨_,_,_,_,rfl,rfl,HOB.o.same fun k C fz hk=>HB2.o.block k (Qc hk)⟩⟩
 | none=>
  have hcg:fget x.vs t0=none:=by unfold fget;rw[hff];rfl
  have hkv0:Z3 s.files (Qr level index (Zt index count))=none:=by rw[←HW1.o,←HT0.o,H.o.files,Qlb,hff];rfl
  have HFF:=zh hff;cases hcf:cfind x.qs t0 with
  | some z=>
   obtain⟨hzk,lz,rz,hzs,_⟩:=Qb9 hcf;have hzm:z∈x.qs:=by rw[hzs];simp
   obtain⟨ya,yn,yc,hyv⟩:=Q5i H.o.cache hzm;have hq:Qau Z5 level index count s=(.ok z.data,Qgi t0 z.data { s with cache:=Yi s.cache t0 }):=by
    have:=Qlt (fits:=Z5) hkv0 (b:=z.data) (by rw[←HW1.o,←HT0.o,H.o.cache.items,Qd0,hcf];rfl)
    rw[←HW1.o,←HT0.o] at this;exact this
   have HQ:=zh hq;have HYV:=zh hyv;have HCF:=zh hcf;clear hq hyv hzk hzs hzm hkv0 hff hcf
   go_enter func92,ntmps92
   go_wp2_with (first|(go_at_call 123;refine HAT.o.mono ?_;rintro e w2 ⟨rfl,hb2⟩;have H2:=zh (H.o.below hb2);have HB2:=zh hb2;obtain⟨j0,j1,j2,j3,j4,j5,j6⟩:=H2.o.heads;clear hb2)|(at_lookup;refine Yo _ rfl _ _ 248 rfl 9 94 underlying9 underlying248 (z:=.slice none 0 0) rfl q.mq x.vs.length (fget x.vs) rfl H2.o.km t0 rfl ht0s ?_;rw[hcg];simp only[Option.getD,Option.isSome])|(go_at_call 146;refine (Qk7 _ q.gk q.mc s.cache x.qs t0 H2.o.cache ht0s).mono ?_;intro e w3 h3;have h3':=Qvx HCF.o h3;rw[HYV.o] at h3';obtain⟨rfl,qs',hc3,hf3,hz3,hiff,hv3⟩:=h3';have hq3:=H2.o.cacheStep hc3 hf3;have H3:=zh hq3;have HF3:=zh hf3;have HZ3:=zh hz3;have HI3:=zh hiff;have HV3:=zh hv3;clear h3 hc3 hf3 hz3 hiff hv3 hq3)|(go_at_call 147;refine (Qle _ q _ N _ d H3.o t0 ya yn yc z.data HV3.o HFF.o ht0s hlen).mono ?_;rintro e w4 ⟨rfl,hq4⟩;have HQ4:=zh hq4;clear hq4)|fail)
   go_ret2;rw[HQ.o];have hb4:=HQ4.o;obtain⟨x4,h4,hf4,hs4⟩:=hb4;refine⟨Yn.trans ((Fr.ofBelow HB2.o).trans (HF3.o.weak fun _ _ e=>.inr (.inl e))) ?_ ⟨x4,h4,hf4,hs4⟩,.inl ⟨_,_,_,_,rfl,rfl,?_⟩⟩
   ·intro k hk
    rcases hk with e|e|e
    ·exact .inl (.inl e)
    ·exact .inl (.inr (.inl ((HI3.o k).1 e)))
    ·exact .inl (.inr (.inr e))
   ·exact Qh6 HV3.o.1 hf4 H3.o
  | none=>
   have hq:Qau Z5 level index count s=Qbq Z5 level index w1 s:=by
    have:=Qlv (fits:=Z5) hkv0 (by rw[←HW1.o,←HT0.o,H.o.cache.items,Qd0,hcf];rfl)
    rw[←HW1.o] at this;exact this
   have HQ:=zh hq;have HCF:=zh hcf;have HNS:=zh hsm;clear hq hkv0 hff hcf hsm
   go_enter func92,ntmps92
   go_upto_region 9 with (first|(go_at_call 123;refine HAT.o.mono ?_;rintro e w2 ⟨rfl,hb2⟩;have H2:=zh (H.o.below hb2);have HB2:=zh hb2;obtain⟨j0,j1,j2,j3,j4,j5,j6⟩:=H2.o.heads;clear hb2)|(at_lookup;refine Yo _ rfl _ _ 248 rfl 9 94 underlying9 underlying248 (z:=.slice none 0 0) rfl q.mq x.vs.length (fget x.vs) rfl H2.o.km t0 rfl ht0s ?_;rw[hcg];simp only[Option.getD,Option.isSome])|(go_at_call 146;refine (Qk7 _ q.gk q.mc s.cache x.qs t0 H2.o.cache ht0s).mono ?_;intro e w3 h3;obtain⟨rfl,rfl⟩:=Qr5 HCF.o h3;clear h3)|fail)
   go_wp2;obtain⟨wb,hwb⟩:∃ wb,wb=w3.alloc (.cells #[.int .i64 w1,.int .i64 4] 3):=⟨_,rfl⟩
   rw[←hwb];have hbb:Below w.heap.size w wb:=by rw[hwb];exact HB2.o.trans ((Qa w3 _).mono HB2.o.size)
   have hgb:wb.heap[w3.heap.size]?=some (.cells #[.int .i64 w1,.int .i64 4] 3 (0,0)):=by rw[hwb];exact heap_alloc_new w3 _
   have hQb:QIs wb q x N s d:=H.o.below hbb;have hgn:¬ netS q.gn q.vt w3.heap.size:=fun e=>by
    have hz:=HB2.o.size;rcases e with e|e
    ·have:=H.o.net.lt;omega
    ·obtain⟨C,hC⟩:=Qh H.o.net.told e
     have:=Qc hC;omega
   have HBB:=zh hbb;have HGB:=zh hgb;have HGN:=zh hgn;have HQB:=zh hQb;clear hwb hbb hgb hQb hgn j0 j1 j2 j3 j4 j5 j6 k0 k1 k2 k3 k4 k5 k6
   go_loopg [63] 2 (fun gg s63 wr=>∃ kk:Nat,kk≤2∧2-kk≤gg∧s63=.int .i64 kk∧Aside (Fr (netS q.gn q.vt) wb wr)∧Aside ((∃ sk nm wd,kk<2∧Rnd Z5 level index w1 s kk sk nm wd∧QIs wr q x N sk d∧sk.net.fetches≤s.net.fetches+kk∧Qaa sk.net∧wd=(if kk=0 then w1 else 4)∧(kk=0→sk=s))∨(kk=2∧∃ sk,Qbq Z5 level index w1 s=(.error (.miss t0),sk)∧QIs wr q x N sk d)))
   case atStart=>exact⟨0,by omega,by omega,rfl,Fr.refl _ _,.inl ⟨s,Qr level index w1,w1,by omega,rnd0 _ _ _ _ _ hwb.2,HQB.o,Nat.le_refl _,HNS.o,rfl,fun _=>rfl⟩⟩
   case round=>
    obtain⟨kk,hkk,hg,rfl,HFW,HR⟩:=hrel;have HEr:=zh ((HE.o.below HBB.o).fr (HFW.o.weak fun _ _ e=>.inr (.inr e)));obtain⟨_,_,_,_,_,g5,_⟩:=HEr.o.sents.cells;rcases HR.o with ⟨sk,nm,wd,hk2,hR,hQ,hfe,hns,hwd,hs0⟩|⟨hk2,sk,hfq,hQ⟩
    ·have hcell:wr.cell? ⟨w3.heap.size,kk,none⟩=some (.int .i64 wd):=by
      refine HFW.o.cell (p:=⟨w3.heap.size,kk,none⟩) ?_ HGN.o;rcases Nat.lt_or_ge kk 1 with h0|h0
      ·obtain rfl:kk=0:=by omega
       rw[hwd,if_pos rfl];exact Qd HGB.o 0 rfl
      ·obtain rfl:kk=1:=by omega
       rw[hwd,if_neg (by decide)];exact Qd HGB.o 1 rfl
     have hkz:(kk:Int)<2:=by omega
     have hk0:(0:Int)≤(kk:Int):=by omega
     have hwdb:=hR.wide;have c0:=hQ.heads.1;have c0d:wr.drew.cell? ⟨q.gq,0,none⟩=some (.pointer (some ⟨q.gc,0,none⟩)):=c0;have hgr:q.gq<wr.heap.size:=Qk c0;have hnm:=hR.name;have hname:∀ W,Below wr.heap.size wr W→Calls prog 127 #[.int .i64 level,.int .i64 index,.int .i64 wd] W fun e w'=>e=.returned (.string nm)∧Below W.heap.size W w':=fun W hW=>by rw[hnm];exact Qhz level index wd W (by omega) ((HEr.o.below hW).num)
     have hfet:∀ W,Below wr.heap.size wr W→Calls prog 85 #[.pointer (some ⟨q.gc,0,none⟩),.string nm] W (Qdm W q x N sk d nm):=fun W hW=>Qoj W q x N sk d (hQ.below hW) nm (by omega)
     have HNAME:=zh hname;have HFET:=zh hfet;have HR0:=zh hR;have HNS0:=zh hns;have HFE:=zh hfe;have HWD:=zh hwd;have HS0:=zh hs0;have HQ0:=zh hQ;clear HR hR hns hfe hwd hs0 hQ hnm hname hfet
     go_upto_region 12 with fail
     cases hfa:Yt sk.net nm with
     | none=>
      have HFA:=zh hfa;clear hfa
      go_region_held3 (fun w'=>w'.cell? ⟨q.gq,0,none⟩=some (.pointer (some ⟨q.gc,0,none⟩))) (first|(with_reducible first|exact c0|exact c0d|exact m0|exact n0)|exact c0d|fail) (first|(go_at_call 127;refine (HNAME.o _ (Ql wr)).mono ?_;rintro e w4 ⟨rfl,hb4⟩;have HB4:=zh (show Below wr.heap.size wr w4 from (Ql wr).trans hb4);have m0:=(HB4.o.cell (p:=⟨q.gq,0,none⟩) hgr).trans c0;clear hb4)|(go_at_call 85;refine (HFET.o w4 HB4.o).mono ?_;intro e w5 h5;obtain⟨hq5,hf5,hy5⟩:=Qou HFA.o h5;have HQ5:=zh hq5;have HF5:=zh ((Fr.ofBelow HB4.o).trans hf5);have n0:=hq5.heads.1;obtain⟨a5,n5,c5,q5,rfl⟩:=hy5;clear h5 hq5 hf5)|fail)
      all_goals (
       have hty:tryQ Z5 nm wd w1 sk=none:=by unfold tryQ;rw[HFA.o];rfl
       have HTY:=zh hty
       clear hty
       by_cases h4:w1=4
       ·have h4z:(w1:Int)=4:=by omega
        have HFQ:=zh (HR0.o.last HTY.o (.inl h4))
        rw[←HT0.o] at HFQ
        have HQK:=zh HQ5.o
        obtain⟨_,_,_,_,_,g5,_⟩:=(HEr.o.fr (HF5.o.weak fun _ _ e=>.inr (.inr e))).sents.cells
        clear h4
        have g5d:w5.drew.cell? ⟨6,0,none⟩=some (.iface 338 (.pointer (some (f 5)))):=g5
        go_wp2_with fail
        go_region
        all_goals (
         go_wp2
         go_ret2
         have hbf:Below w5.heap.size w5 (w5.alloc (.cells #[.string t0,.iface 338 (.pointer (some (f 5)))] 155)).drew:=(Qa w5 _).drew
         rw[HQ.o,HFQ.o]
         exact⟨(Yn.trans ((Fr.ofBelow HBB.o).trans ((HFW.o.trans HF5.o).weak fun _ _ e=>.inr (.inr e))) (Sub.refl _ _) (Yn.here HQK.o)).below hbf,.inr ⟨t0,_,rfl,rfl,w5.heap.size,rfl,Nat.le_trans HBB.o.size (HFW.o.trans HF5.o).size,heap_alloc_new w5 _⟩⟩)
       ·have h4z:¬ (w1:Int)=4:=by omega
        have H4:=zh h4
        clear h4
        go_wp2
        go_roundg (2-(kk+1))
        case measure=>omega
        case rel=>exact Qio HR0.o HQ5.o HNS0.o HFE.o HWD.o HS0.o HT0.o HTY.o H4.o hwb.2 (by omega) (HFW.o.trans HF5.o) (Nat.le_refl _) (by go_num))
     | some data=>
      have HFA:=zh hfa;clear hfa
      go_region_held3 (fun w'=>w'.cell? ⟨q.gq,0,none⟩=some (.pointer (some ⟨q.gc,0,none⟩))) (first|(with_reducible first|exact c0|exact c0d|exact m0|exact n0)|exact c0d|fail) (first|(go_at_call 127;refine (HNAME.o _ (Ql wr)).mono ?_;rintro e w4 ⟨rfl,hb4⟩;have HB4:=zh (show Below wr.heap.size wr w4 from (Ql wr).trans hb4);have m0:=(HB4.o.cell (p:=⟨q.gq,0,none⟩) hgr).trans c0;clear hb4)|(go_at_call 85;refine (HFET.o w4 HB4.o).mono ?_;intro e w5 h5;obtain⟨hq5,hf5,hy5⟩:=Qmu HFA.o h5;have HQ5:=zh hq5;have HF5:=zh ((Fr.ofBelow HB4.o).trans hf5);have n0:=hq5.heads.1;obtain⟨a5,n5,c5,q5,rfl⟩:=hy5;clear h5 hq5 hf5)|fail)
      all_goals (
       have HO5:=zh q5
       clear q5
       cases hfv:Z5 data wd w1 with
       | none=>
        have hty:tryQ Z5 nm wd w1 sk=none:=by unfold tryQ;rw[HFA.o];exact hfv
        have HTY:=zh hty
        have HFV:=zh hfv
        clear hty hfv
        by_cases h4:w1=4
        ·have HFQ:=zh (HR0.o.last HTY.o (.inl h4))
         rw[←HT0.o] at HFQ
         have H4:=zh h4
         clear h4
         go_upto_region 15 with (first|(go_at_call 143;refine (HFIT.o _ _ data wd w1 HO5.o.at (Qca HNS0.o HFA.o) hwb.1 hwdb.1 hwdb.2).mono ?_;intro e w6 h6;obtain⟨hb6,a6,n6,c6,rfl⟩:=Qv5 HFV.o h6;have HB6:=zh hb6;clear h6 hb6)|fail)
         have HQK:=zh (HQ5.o.below HB6.o)
         have h4z:(w1:Int)=4:=by have:=H4.o;omega
         obtain⟨_,_,_,_,_,g5,_⟩:=((HEr.o.fr (HF5.o.weak fun _ _ e=>.inr (.inr e))).below HB6.o).sents.cells
         have g5d:w6.drew.cell? ⟨6,0,none⟩=some (.iface 338 (.pointer (some (f 5)))):=g5
         go_wp2_with fail
         go_region
         all_goals (
          go_wp2
          go_ret2
          have hbf:Below w6.heap.size w6 (w6.alloc (.cells #[.string t0,.iface 338 (.pointer (some (f 5)))] 155)).drew:=(Qa w6 _).drew
          rw[HQ.o,HFQ.o]
          exact⟨(Yn.trans ((Fr.ofBelow HBB.o).trans (((HFW.o.trans HF5.o).trans (Fr.ofBelow HB6.o)).weak fun _ _ e=>.inr (.inr e))) (Sub.refl _ _) (Yn.here HQK.o)).below hbf,.inr ⟨t0,_,rfl,rfl,w6.heap.size,rfl,Nat.le_trans HBB.o.size ((HFW.o.trans HF5.o).trans (Fr.ofBelow HB6.o)).size,heap_alloc_new w6 _⟩⟩)
        ·have h4z:¬ (w1:Int)=4:=by omega
         have H4:=zh h4
         clear h4
         go_wp2_with (first|(go_at_call 143;refine (HFIT.o _ _ data wd w1 HO5.o.at (Qca HNS0.o HFA.o) hwb.1 hwdb.1 hwdb.2).mono ?_;intro e w6 h6;obtain⟨hb6,a6,n6,c6,rfl⟩:=Qv5 HFV.o h6;have HB6:=zh hb6;clear h6 hb6)|fail)
         go_roundg (2-(kk+1))
         case measure=>omega
         case rel=>exact Qio HR0.o (HQ5.o.below HB6.o) HNS0.o HFE.o HWD.o HS0.o HT0.o HTY.o H4.o hwb.2 (by omega) ((HFW.o.trans HF5.o).trans (Fr.ofBelow HB6.o)) (Nat.le_refl _) (by go_num)
       | some b=>
        have hty:tryQ Z5 nm wd w1 sk=some b:=by unfold tryQ;rw[HFA.o];exact hfv
        have hfq:=HR0.o.fit b hty
        rw[←HT0.o] at hfq
        have HFQ:=zh hfq
        have HFV:=zh hfv
        clear hty hfv hfq
        go_wp2_with (first|(go_at_call 143;refine (HFIT.o _ _ data wd w1 HO5.o.at (Qca HNS0.o HFA.o) hwb.1 hwdb.1 hwdb.2).mono ?_;intro e w6 h6;obtain⟨hb6,a6,n6,c6,ho6,rfl⟩:=Q2c HFV.o h6;have HB6:=zh hb6;have HO6:=zh ho6;have HQ6:=zh (HQ5.o.below hb6);clear h6 hb6 ho6)|(go_at_call 147;refine (Qle _ q x N _ d HQ6.o t0 a6 n6 c6 b (OwnB.new HO6.o HQ5.o.o) HFF.o ht0s hlen).mono ?_;rintro e w7 ⟨rfl,hq7⟩;have HQ7:=zh hq7;clear hq7)|fail)
        go_ret2
        rw[HQ.o,HFQ.o]
        obtain⟨x7,h7,hf7,hs7⟩:=HQ7.o
        exact⟨Yn.trans ((Fr.ofBelow HBB.o).trans (((HFW.o.trans HF5.o).trans (Fr.ofBelow HB6.o)).weak fun _ _ e=>.inr (.inr e))) (Sub.refl _ _) ⟨x7,h7,hf7,hs7⟩,.inl ⟨_,_,_,_,rfl,rfl,Qh6 (HO6.o.mono (Nat.zero_le _)) hf7 HQ6.o⟩⟩)
    ·subst hk2
     have HQK:=zh hQ;have HFQ:=zh hfq;clear hQ hfq HR;have g5d:wr.drew.cell? ⟨6,0,none⟩=some (.iface 338 (.pointer (some (f 5)))):=g5
     go_wp2_with fail
     go_region
     all_goals (
      go_wp2
      go_ret2
      have hbf:Below wr.heap.size wr (wr.alloc (.cells #[.string t0,.iface 338 (.pointer (some (f 5)))] 155)).drew:=(Qa wr _).drew
      rw[HQ.o,HFQ.o]
      exact⟨(Yn.trans ((Fr.ofBelow HBB.o).trans (HFW.o.weak fun _ _ e=>.inr (.inr e))) (Sub.refl _ _) (Yn.here HQK.o)).below hbf,.inr ⟨t0,_,rfl,rfl,wr.heap.size,rfl,Nat.le_trans HBB.o.size HFW.o.size,heap_alloc_new wr _⟩⟩)
theorem Q2k (f:Nat→Addr) (w:World) (q:Qf) (x:Qv) (N:Nat) (s:Cs) (d:Dk) (h:QIs w q x N s d) (hE:EnvS f (QS q x) w) (level:Int) (index count:Nat) (hi:4*index<count) (hc:count<9223372036854775808) (hft:s.net.fetches<1152921504606846000) (hlen:x.vs.length<1099511627775) (hsm:Qaa s.net) :
  Calls prog 92 #[.pointer (some ⟨q.gq,0,none⟩),.int .i64 level,.int .i64 index,.int .i64 count,.func (.func 93) #[] #[]] w (Qla f w q x N d (Qau Zv level index count s)):=by
 have hfitl:∀ (W:World) (v:Value) (data:List UInt8) (wd w1:Nat),Q6 W v data→data.length≤1099511627776→1≤w1→w1≤wd→wd≤4→Calls prog 93 #[v,.int .i64 wd,.int .i64 w1] W (Qjz (Zv data wd w1) W):=fun W v data wd w1 hb hl _ _ _=>Q4a W _ data wd w1 hb hl (by omega) (by omega) (by omega)
 obtain⟨w1,hw1⟩:∃ w1,w1=Zt index count:=⟨_,rfl⟩
 have hwb:1≤w1∧w1≤4:=by unfold Zt at hw1;omega
 obtain⟨t0,ht0⟩:∃ t0,t0=Qr level index w1:=⟨_,rfl⟩
 have hat:=Qpa level index count w hi hc hE.num;rw[show min 4 (count-4*index)=w1 from hw1.symm] at hat;have e0:sOf (Y6 level (index:Int) ((w1:Nat):Int))=t0:=ht0.symm;rw[e0] at hat;have ht0s:t0.size≤maxLen:=by rw[ht0];exact Qr4 level index w1 (by omega)
 have HFIT:=zh hfitl;have HAT:=zh hat;have HW1:=zh hw1;have HT0:=zh ht0;have H:=zh h;have HE:=zh hE;have hgw:q.gq<w.heap.size:=Qc h.look;clear hfitl hat hw1 e0 h hE ht0;obtain⟨k0,k1,k2,k3,k4,k5,k6⟩:=H.o.heads;cases hff:ffind x.vs t0 with
 | some y=>
  obtain⟨hym,hyk⟩:=Qls hff;obtain⟨ya,yn,yc,hyv⟩:=Q5a H.o hym;have hcg:fget x.vs t0=some (.slice ya yn yc):=by unfold fget;rw[hff,←hyv];rfl
  have hq:Qau Zv level index count s=(.ok y.data,s):=Qkl (by rw[←HW1.o,←HT0.o,H.o.files,Qlb,hff];rfl);have hob:=(H.o.vals y hym).1;rw[hyv] at hob;have HQ:=zh hq;have HOB:=zh hob;clear hq hob hyv hym hyk hff
  go_enter func92,ntmps92
  go_wp2_with (first|(go_at_call 123;refine HAT.o.mono ?_;rintro e w2 ⟨rfl,hb2⟩;have H2:=zh (H.o.below hb2);have HB2:=zh hb2;obtain⟨j0,j1,j2,j3,j4,j5,j6⟩:=H2.o.heads;clear hb2)|(at_lookup;refine Yo _ rfl _ _ 248 rfl 9 94 underlying9 underlying248 (z:=.slice none 0 0) rfl q.mq x.vs.length (fget x.vs) rfl H2.o.km t0 rfl ht0s ?_;rw[hcg];simp only[Option.getD,Option.isSome])|fail)
  go_ret2;rw[HQ.o];exact⟨(Yn.here H.o).below HB2.o,.inl ⟨_,_,_,_,rfl,rfl,HOB.o.same fun k C fz hk=>HB2.o.block k (Qc hk)⟩⟩
 | none=>
  have hcg:fget x.vs t0=none:=by unfold fget;rw[hff];rfl
  have hkv0:Z3 s.files (Qr level index (Zt index count))=none:=by rw[←HW1.o,←HT0.o,H.o.files,Qlb,hff];rfl
  have HFF:=zh hff;cases hcf:cfind x.qs t0 with
  | some z=>
   obtain⟨hzk,lz,rz,hzs,_⟩:=Qb9 hcf;have hzm:z∈x.qs:=by rw[hzs];simp
   obtain⟨ya,yn,yc,hyv⟩:=Q5i H.o.cache hzm;have hq:Qau Zv level index count s=(.ok z.data,Qgi t0 z.data { s with cache:=Yi s.cache t0 }):=by
    have:=Qlt (fits:=Zv) hkv0 (b:=z.data) (by rw[←HW1.o,←HT0.o,H.o.cache.items,Qd0,hcf];rfl)
    rw[←HW1.o,←HT0.o] at this;exact this
   have HQ:=zh hq;have HYV:=zh hyv;have HCF:=zh hcf;clear hq hyv hzk hzs hzm hkv0 hff hcf
   go_enter func92,ntmps92
   go_wp2_with (first|(go_at_call 123;refine HAT.o.mono ?_;rintro e w2 ⟨rfl,hb2⟩;have H2:=zh (H.o.below hb2);have HB2:=zh hb2;obtain⟨j0,j1,j2,j3,j4,j5,j6⟩:=H2.o.heads;clear hb2)|(at_lookup;refine Yo _ rfl _ _ 248 rfl 9 94 underlying9 underlying248 (z:=.slice none 0 0) rfl q.mq x.vs.length (fget x.vs) rfl H2.o.km t0 rfl ht0s ?_;rw[hcg];simp only[Option.getD,Option.isSome])|(go_at_call 146;refine (Qk7 _ q.gk q.mc s.cache x.qs t0 H2.o.cache ht0s).mono ?_;intro e w3 h3;have h3':=Qvx HCF.o h3;rw[HYV.o] at h3';obtain⟨rfl,qs',hc3,hf3,hz3,hiff,hv3⟩:=h3';have hq3:=H2.o.cacheStep hc3 hf3;have H3:=zh hq3;have HF3:=zh hf3;have HZ3:=zh hz3;have HI3:=zh hiff;have HV3:=zh hv3;clear h3 hc3 hf3 hz3 hiff hv3 hq3)|(go_at_call 147;refine (Qle _ q _ N _ d H3.o t0 ya yn yc z.data HV3.o HFF.o ht0s hlen).mono ?_;rintro e w4 ⟨rfl,hq4⟩;have HQ4:=zh hq4;clear hq4)|fail)
   go_ret2;rw[HQ.o];have hb4:=HQ4.o;obtain⟨x4,h4,hf4,hs4⟩:=hb4;refine⟨Yn.trans ((Fr.ofBelow HB2.o).trans (HF3.o.weak fun _ _ e=>.inr (.inl e))) ?_ ⟨x4,h4,hf4,hs4⟩,.inl ⟨_,_,_,_,rfl,rfl,?_⟩⟩
   ·intro k hk
    rcases hk with e|e|e
    ·exact .inl (.inl e)
    ·exact .inl (.inr (.inl ((HI3.o k).1 e)))
    ·exact .inl (.inr (.inr e))
   ·exact Qh6 HV3.o.1 hf4 H3.o
  | none=>
   have hq:Qau Zv level index count s=Qbq Zv level index w1 s:=by
    have:=Qlv (fits:=Zv) hkv0 (by rw[←HW1.o,←HT0.o,H.o.cache.items,Qd0,hcf];rfl)
    rw[←HW1.o] at this;exact this
   have HQ:=zh hq;have HCF:=zh hcf;have HNS:=zh hsm;clear hq hkv0 hff hcf hsm
   go_enter func92,ntmps92
   go_upto_region 9 with (first|(go_at_call 123;refine HAT.o.mono ?_;rintro e w2 ⟨rfl,hb2⟩;have H2:=zh (H.o.below hb2);have HB2:=zh hb2;obtain⟨j0,j1,j2,j3,j4,j5,j6⟩:=H2.o.heads;clear hb2)|(at_lookup;refine Yo _ rfl _ _ 248 rfl 9 94 underlying9 underlying248 (z:=.slice none 0 0) rfl q.mq x.vs.length (fget x.vs) rfl H2.o.km t0 rfl ht0s ?_;rw[hcg];simp only[Option.getD,Option.isSome])|(go_at_call 146;refine (Qk7 _ q.gk q.mc s.cache x.qs t0 H2.o.cache ht0s).mono ?_;intro e w3 h3;obtain⟨rfl,rfl⟩:=Qr5 HCF.o h3;clear h3)|fail)
   go_wp2;obtain⟨wb,hwb⟩:∃ wb,wb=w3.alloc (.cells #[.int .i64 w1,.int .i64 4] 3):=⟨_,rfl⟩
   rw[←hwb];have hbb:Below w.heap.size w wb:=by rw[hwb];exact HB2.o.trans ((Qa w3 _).mono HB2.o.size)
   have hgb:wb.heap[w3.heap.size]?=some (.cells #[.int .i64 w1,.int .i64 4] 3 (0,0)):=by rw[hwb];exact heap_alloc_new w3 _
   have hQb:QIs wb q x N s d:=H.o.below hbb;have hgn:¬ netS q.gn q.vt w3.heap.size:=fun e=>by
    have hz:=HB2.o.size;rcases e with e|e
    ·have:=H.o.net.lt;omega
    ·obtain⟨C,hC⟩:=Qh H.o.net.told e
     have:=Qc hC;omega
   have HBB:=zh hbb;have HGB:=zh hgb;have HGN:=zh hgn;have HQB:=zh hQb;clear hwb hbb hgb hQb hgn j0 j1 j2 j3 j4 j5 j6 k0 k1 k2 k3 k4 k5 k6
   go_loopg [63] 2 (fun gg s63 wr=>∃ kk:Nat,kk≤2∧2-kk≤gg∧s63=.int .i64 kk∧Aside (Fr (netS q.gn q.vt) wb wr)∧Aside ((∃ sk nm wd,kk<2∧Rnd Zv level index w1 s kk sk nm wd∧QIs wr q x N sk d∧sk.net.fetches≤s.net.fetches+kk∧Qaa sk.net∧wd=(if kk=0 then w1 else 4)∧(kk=0→sk=s))∨(kk=2∧∃ sk,Qbq Zv level index w1 s=(.error (.miss t0),sk)∧QIs wr q x N sk d)))
   case atStart=>exact⟨0,by omega,by omega,rfl,Fr.refl _ _,.inl ⟨s,Qr level index w1,w1,by omega,rnd0 _ _ _ _ _ hwb.2,HQB.o,Nat.le_refl _,HNS.o,rfl,fun _=>rfl⟩⟩
   case round=>
    obtain⟨kk,hkk,hg,rfl,HFW,HR⟩:=hrel;have HEr:=zh ((HE.o.below HBB.o).fr (HFW.o.weak fun _ _ e=>.inr (.inr e)));obtain⟨_,_,_,_,_,g5,_⟩:=HEr.o.sents.cells;rcases HR.o with ⟨sk,nm,wd,hk2,hR,hQ,hfe,hns,hwd,hs0⟩|⟨hk2,sk,hfq,hQ⟩
    ·have hcell:wr.cell? ⟨w3.heap.size,kk,none⟩=some (.int .i64 wd):=by
      refine HFW.o.cell (p:=⟨w3.heap.size,kk,none⟩) ?_ HGN.o;rcases Nat.lt_or_ge kk 1 with h0|h0
      ·obtain rfl:kk=0:=by omega
       rw[hwd,if_pos rfl];exact Qd HGB.o 0 rfl
      ·obtain rfl:kk=1:=by omega
       rw[hwd,if_neg (by decide)];exact Qd HGB.o 1 rfl
     have hkz:(kk:Int)<2:=by omega
     have hk0:(0:Int)≤(kk:Int):=by omega
     have hwdb:=hR.wide;have c0:=hQ.heads.1;have c0d:wr.drew.cell? ⟨q.gq,0,none⟩=some (.pointer (some ⟨q.gc,0,none⟩)):=c0;have hgr:q.gq<wr.heap.size:=Qk c0;have hnm:=hR.name;have hname:∀ W,Below wr.heap.size wr W→Calls prog 127 #[.int .i64 level,.int .i64 index,.int .i64 wd] W fun e w'=>e=.returned (.string nm)∧Below W.heap.size W w':=fun W hW=>by rw[hnm];exact Qhz level index wd W (by omega) ((HEr.o.below hW).num)
     have hfet:∀ W,Below wr.heap.size wr W→Calls prog 85 #[.pointer (some ⟨q.gc,0,none⟩),.string nm] W (Qdm W q x N sk d nm):=fun W hW=>Qoj W q x N sk d (hQ.below hW) nm (by omega)
     have HNAME:=zh hname;have HFET:=zh hfet;have HR0:=zh hR;have HNS0:=zh hns;have HFE:=zh hfe;have HWD:=zh hwd;have HS0:=zh hs0;have HQ0:=zh hQ;clear HR hR hns hfe hwd hs0 hQ hnm hname hfet
     go_upto_region 12 with fail
     cases hfa:Yt sk.net nm with
     | none=>
      have HFA:=zh hfa;clear hfa
      go_region_held3 (fun w'=>w'.cell? ⟨q.gq,0,none⟩=some (.pointer (some ⟨q.gc,0,none⟩))) (first|(with_reducible first|exact c0|exact c0d|exact m0|exact n0)|exact c0d|fail) (first|(go_at_call 127;refine (HNAME.o _ (Ql wr)).mono ?_;rintro e w4 ⟨rfl,hb4⟩;have HB4:=zh (show Below wr.heap.size wr w4 from (Ql wr).trans hb4);have m0:=(HB4.o.cell (p:=⟨q.gq,0,none⟩) hgr).trans c0;clear hb4)|(go_at_call 85;refine (HFET.o w4 HB4.o).mono ?_;intro e w5 h5;obtain⟨hq5,hf5,hy5⟩:=Qou HFA.o h5;have HQ5:=zh hq5;have HF5:=zh ((Fr.ofBelow HB4.o).trans hf5);have n0:=hq5.heads.1;obtain⟨a5,n5,c5,q5,rfl⟩:=hy5;clear h5 hq5 hf5)|fail)
      all_goals (
       have hty:tryQ Zv nm wd w1 sk=none:=by unfold tryQ;rw[HFA.o];rfl
       have HTY:=zh hty
       clear hty
       by_cases h4:w1=4
       ·have h4z:(w1:Int)=4:=by omega
        have HFQ:=zh (HR0.o.last HTY.o (.inl h4))
        rw[←HT0.o] at HFQ
        have HQK:=zh HQ5.o
        obtain⟨_,_,_,_,_,g5,_⟩:=(HEr.o.fr (HF5.o.weak fun _ _ e=>.inr (.inr e))).sents.cells
        clear h4
        have g5d:w5.drew.cell? ⟨6,0,none⟩=some (.iface 338 (.pointer (some (f 5)))):=g5
        go_wp2_with fail
        go_region
        all_goals (
         go_wp2
         go_ret2
         have hbf:Below w5.heap.size w5 (w5.alloc (.cells #[.string t0,.iface 338 (.pointer (some (f 5)))] 155)).drew:=(Qa w5 _).drew
         rw[HQ.o,HFQ.o]
         exact⟨(Yn.trans ((Fr.ofBelow HBB.o).trans ((HFW.o.trans HF5.o).weak fun _ _ e=>.inr (.inr e))) (Sub.refl _ _) (Yn.here HQK.o)).below hbf,.inr ⟨t0,_,rfl,rfl,w5.heap.size,rfl,Nat.le_trans HBB.o.size (HFW.o.trans HF5.o).size,heap_alloc_new w5 _⟩⟩)
       ·have h4z:¬ (w1:Int)=4:=by omega
        have H4:=zh h4
        clear h4
        go_wp2
        go_roundg (2-(kk+1))
        case measure=>omega
        case rel=>exact Qio HR0.o HQ5.o HNS0.o HFE.o HWD.o HS0.o HT0.o HTY.o H4.o hwb.2 (by omega) (HFW.o.trans HF5.o) (Nat.le_refl _) (by go_num))
     | some data=>
      have HFA:=zh hfa;clear hfa
      go_region_held3 (fun w'=>w'.cell? ⟨q.gq,0,none⟩=some (.pointer (some ⟨q.gc,0,none⟩))) (first|(with_reducible first|exact c0|exact c0d|exact m0|exact n0)|exact c0d|fail) (first|(go_at_call 127;refine (HNAME.o _ (Ql wr)).mono ?_;rintro e w4 ⟨rfl,hb4⟩;have HB4:=zh (show Below wr.heap.size wr w4 from (Ql wr).trans hb4);have m0:=(HB4.o.cell (p:=⟨q.gq,0,none⟩) hgr).trans c0;clear hb4)|(go_at_call 85;refine (HFET.o w4 HB4.o).mono ?_;intro e w5 h5;obtain⟨hq5,hf5,hy5⟩:=Qmu HFA.o h5;have HQ5:=zh hq5;have HF5:=zh ((Fr.ofBelow HB4.o).trans hf5);have n0:=hq5.heads.1;obtain⟨a5,n5,c5,q5,rfl⟩:=hy5;clear h5 hq5 hf5)|fail)
      all_goals (
       have HO5:=zh q5
       clear q5
       cases hfv:Zv data wd w1 with
       | none=>
        have hty:tryQ Zv nm wd w1 sk=none:=by unfold tryQ;rw[HFA.o];exact hfv
        have HTY:=zh hty
        have HFV:=zh hfv
        clear hty hfv
        by_cases h4:w1=4
        ·have HFQ:=zh (HR0.o.last HTY.o (.inl h4))
         rw[←HT0.o] at HFQ
         have H4:=zh h4
         clear h4
         go_upto_region 15 with (first|(go_at_call 93;refine (HFIT.o _ _ data wd w1 HO5.o.at (Qca HNS0.o HFA.o) hwb.1 hwdb.1 hwdb.2).mono ?_;intro e w6 h6;obtain⟨hb6,a6,n6,c6,rfl⟩:=Qv5 HFV.o h6;have HB6:=zh hb6;clear h6 hb6)|fail)
         have HQK:=zh (HQ5.o.below HB6.o)
         have h4z:(w1:Int)=4:=by have:=H4.o;omega
         obtain⟨_,_,_,_,_,g5,_⟩:=((HEr.o.fr (HF5.o.weak fun _ _ e=>.inr (.inr e))).below HB6.o).sents.cells
         have g5d:w6.drew.cell? ⟨6,0,none⟩=some (.iface 338 (.pointer (some (f 5)))):=g5
         go_wp2_with fail
         go_region
         all_goals (
          go_wp2
          go_ret2
          have hbf:Below w6.heap.size w6 (w6.alloc (.cells #[.string t0,.iface 338 (.pointer (some (f 5)))] 155)).drew:=(Qa w6 _).drew
          rw[HQ.o,HFQ.o]
          exact⟨(Yn.trans ((Fr.ofBelow HBB.o).trans (((HFW.o.trans HF5.o).trans (Fr.ofBelow HB6.o)).weak fun _ _ e=>.inr (.inr e))) (Sub.refl _ _) (Yn.here HQK.o)).below hbf,.inr ⟨t0,_,rfl,rfl,w6.heap.size,rfl,Nat.le_trans HBB.o.size ((HFW.o.trans HF5.o).trans (Fr.ofBelow HB6.o)).size,heap_alloc_new w6 _⟩⟩)
        ·have h4z:¬ (w1:Int)=4:=by omega
         have H4:=zh h4
         clear h4
         go_wp2_with (first|(go_at_call 93;refine (HFIT.o _ _ data wd w1 HO5.o.at (Qca HNS0.o HFA.o) hwb.1 hwdb.1 hwdb.2).mono ?_;intro e w6 h6;obtain⟨hb6,a6,n6,c6,rfl⟩:=Qv5 HFV.o h6;have HB6:=zh hb6;clear h6 hb6)|fail)
         go_roundg (2-(kk+1))
         case measure=>omega
         case rel=>exact Qio HR0.o (HQ5.o.below HB6.o) HNS0.o HFE.o HWD.o HS0.o HT0.o HTY.o H4.o hwb.2 (by omega) ((HFW.o.trans HF5.o).trans (Fr.ofBelow HB6.o)) (Nat.le_refl _) (by go_num)
       | some b=>
        have hty:tryQ Zv nm wd w1 sk=some b:=by unfold tryQ;rw[HFA.o];exact hfv
        have hfq:=HR0.o.fit b hty
        rw[←HT0.o] at hfq
        have HFQ:=zh hfq
        have HFV:=zh hfv
        clear hty hfv hfq
        go_wp2_with (first|(go_at_call 93;refine (HFIT.o _ _ data wd w1 HO5.o.at (Qca HNS0.o HFA.o) hwb.1 hwdb.1 hwdb.2).mono ?_;intro e w6 h6;obtain⟨hb6,a6,n6,c6,ho6,rfl⟩:=Q2c HFV.o h6;have HB6:=zh hb6;have HO6:=zh ho6;have HQ6:=zh (HQ5.o.below hb6);clear h6 hb6 ho6)|(go_at_call 147;refine (Qle _ q x N _ d HQ6.o t0 a6 n6 c6 b (OwnB.new HO6.o HQ5.o.o) HFF.o ht0s hlen).mono ?_;rintro e w7 ⟨rfl,hq7⟩;have HQ7:=zh hq7;clear hq7)|fail)
        go_ret2
        rw[HQ.o,HFQ.o]
        obtain⟨x7,h7,hf7,hs7⟩:=HQ7.o
        exact⟨Yn.trans ((Fr.ofBelow HBB.o).trans (((HFW.o.trans HF5.o).trans (Fr.ofBelow HB6.o)).weak fun _ _ e=>.inr (.inr e))) (Sub.refl _ _) ⟨x7,h7,hf7,hs7⟩,.inl ⟨_,_,_,_,rfl,rfl,Qh6 (HO6.o.mono (Nat.zero_le _)) hf7 HQ6.o⟩⟩)
    ·subst hk2
     have HQK:=zh hQ;have HFQ:=zh hfq;clear hQ hfq HR;have g5d:wr.drew.cell? ⟨6,0,none⟩=some (.iface 338 (.pointer (some (f 5)))):=g5
     go_wp2_with fail
     go_region
     all_goals (
      go_wp2
      go_ret2
      have hbf:Below wr.heap.size wr (wr.alloc (.cells #[.string t0,.iface 338 (.pointer (some (f 5)))] 155)).drew:=(Qa wr _).drew
      rw[HQ.o,HFQ.o]
      exact⟨(Yn.trans ((Fr.ofBelow HBB.o).trans (HFW.o.weak fun _ _ e=>.inr (.inr e))) (Sub.refl _ _) (Yn.here HQK.o)).below hbf,.inr ⟨t0,_,rfl,rfl,wr.heap.size,rfl,Nat.le_trans HBB.o.size HFW.o.size,heap_alloc_new wr _⟩⟩)
end
end
end Go.Proofs.YtefccfakhgdfbabGreatDoor
