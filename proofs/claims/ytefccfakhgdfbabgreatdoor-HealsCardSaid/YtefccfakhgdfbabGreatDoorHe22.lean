/- The bridge for rows that list variables, with the world's shape handed on; with a specification's own condition, and without. No walk. -/
import Derived.Test.YtefccfakhgdfbabGreatDoorHe21
import Derived.LaidSub
import Derived.Lay
import Derived.ShutString
import Derived.Deep.Fields
import Derived.LaidMore
set_option linter.unusedVariables false
set_option linter.unusedSimpArgs false
open Go.RowKit Go.Proofs.Tryz
set_option maxRecDepth 100000
set_option maxHeartbeats 4000000
namespace Go.Proofs.YtefccfakhgdfbabGreatDoor
section
theorem kpick_any (c:Int) (n:Nat) (w:World) (hc1 : -9223372036854775808≤c) (hc2:c≤9223372036854775807) (hn:0<n) (hn2:n≤1073741824):Calls prog 14 #[.int .i64 c,.int .i64 n] w fun e w'=>e=.returned (.int .i64 (pickN c n))∧w=w':=by
 by_cases h0:c<0
 ·have hv:(-(c+1))%(n:Int)=((pickN c n:Nat):Int):=by
   unfold pickN
   rw[if_pos h0]
   obtain⟨k,hk⟩:∃ k:Nat,-(c+1)=(k:Int):=⟨(-(c+1)).toNat,by omega⟩
   rw[hk,Int.toNat_natCast]
   rfl
  have hb1:0≤-(c+1):=by omega
  have hnz:((n:Int) == 0)=false:=by rw[beq_eq_false_iff_ne];omega
  have hnz2:¬ (n:Int)=0:=by omega
  have HV:=zh hv
  clear hv
  go_enter func14,ntmps14
  go_wp2
  go_ret
  refine⟨?_,rfl⟩
  rw[←HV.o]
  show Ending.returned (.int .i64 (-((c+1).tmod (n:Int))))=_
  rw[←Int.neg_tmod,Int.tmod_eq_emod_of_nonneg hb1]
 ·have hv:c%(n:Int)=((pickN c n:Nat):Int):=by
   unfold pickN
   rw[if_neg h0]
   obtain⟨k,hk⟩:∃ k:Nat,c=(k:Int):=⟨c.toNat,by omega⟩
   rw[hk,Int.toNat_natCast]
   rfl
  have hnz:((n:Int) == 0)=false:=by rw[beq_eq_false_iff_ne];omega
  have hnz2:¬ (n:Int)=0:=by omega
  have hc0:0≤c:=by omega
  have HV:=zh hv
  clear hv
  go_enter func14,ntmps14
  go_wp2
  go_ret
  refine⟨?_,rfl⟩
  rw[←HV.o]
  first|rfl|(congr 2;omega)|(simp;omega)
def shortS (s:ByteArray):ByteArray:=if 20<s.size then s.extract 0 20 else s
theorem shortS_size (s:ByteArray):(shortS s).size≤20:=by
 unfold shortS
 split
 ·rw[ByteArray.size_extract];omega
 ·omega
theorem shorts_succ {ss:List ByteArray} {k:Nat} {s:ByteArray} (h:ss[k]?=some s):(ss.take (k+1)).map shortS=(ss.take k).map shortS ++ [shortS s]:=by
 rw[List.take_add_one,h,List.map_append]
 rfl
theorem short_any (v:Value) (ss:List ByteArray) (w:World) (h:StrsAt w v ss) (hn:ss.length≤1048576) :
  Calls prog 8 #[v] w fun e w'=>∃ v',e=.returned v'∧OwnStrs w' w.heap.size v' (ss.map shortS)∧Below w.heap.size w w':=by
 obtain⟨a,c,rfl,hcap,hc⟩:=h
 have HC:=zh hc
 clear hc
 obtain⟨i0,hi,hz0,hz1,hz2⟩:=info_parts info_str
 go_enter func8,ntmps8
 go_wp2
 go_loopw [3,4] (fun v i wr=>∃ k:Nat,k≤ss.length∧i=.int .i64 k∧OwnStrs wr w.heap.size v ((ss.take k).map shortS)∧Below w.heap.size w wr) (fun _ i _=>ss.length-(intOf i).toNat)
 case atStart=>exact⟨0,by omega,rfl,World.ownsRow_nil _ _ _ _,Below.refl _ _⟩
 case round=>
  obtain⟨k,hk,rfl,hown,hbel⟩:=hrel
  by_cases hlt:k<ss.length
  ·obtain⟨s,hs⟩:∃ s,ss[k]?=some s:=⟨_,List.getElem?_eq_getElem hlt⟩
   obtain⟨b,off,rfl,hcell0⟩:=HC.o k (.string s) (by simp[hs])
   have hcell:wr.cell? ⟨b,off+k,none⟩=some (.string s):=(hbel.cell (p:=⟨b,off+k,none⟩) (cell_lt hcell0)).trans hcell0
   have HLEN:=zh (show ((ss.take k).map shortS).length=k by rw[List.length_map,List.length_take];omega)
   have HK:=zh hs
   unfold OwnStrs at hown
   have HR:=zh hown
   have HB:=zh hbel
   clear hs hcell0 hown hbel
   by_cases h20:20<s.size
   ·have hz:(20:Int)<(s.size:Int):=by omega
    obtain⟨t,ht⟩:∃ t,t=s.extract 0 20:=⟨_,rfl⟩
    have HT:=zh (show shortS s=t by unfold shortS;rw[if_pos h20,ht])
    have HT2:=zh ht
    clear ht
    go_wp2_with (at_builtin;refine wpList_app1 rfl _ _ 22 rfl w.heap.size 9 i0 (.string ⟨#[]⟩) 16 underlying22 hi hz0 hz1 hz2 rfl (by decide) _ _ _ rfl HR.o _ rfl rfl (by have:=HLEN.o;omega) HB.o.size ?_;intro v2 w2 hr2 hg2 hne2;have HR2:=zh hr2;have HG2:=zh hg2;clear hr2 hg2 hne2)
    go_roundw
    case rel=>
     refine⟨k+1,by omega,by go_num,?_,?_⟩
     ·rw[shorts_succ HK.o,HT.o,HT2.o]
      unfold OwnStrs
      simpa using HR2.o
     ·exact HB.o.grown HG2.o HB.o.size (fun j hj=>(HR.o.lt j hj).1)
    case measure=>simp[intOf];omega
   ·have hz:¬ (20:Int)<(s.size:Int):=by omega
    have HT:=zh (show shortS s=s by unfold shortS;rw[if_neg h20])
    go_wp2_with (at_builtin;refine wpList_app1 rfl _ _ 22 rfl w.heap.size 9 i0 (.string ⟨#[]⟩) 16 underlying22 hi hz0 hz1 hz2 rfl (by decide) _ _ _ rfl HR.o _ rfl rfl (by have:=HLEN.o;omega) HB.o.size ?_;intro v2 w2 hr2 hg2 hne2;have HR2:=zh hr2;have HG2:=zh hg2;clear hr2 hg2 hne2)
    go_roundw
    case rel=>
     refine⟨k+1,by omega,by go_num,?_,?_⟩
     ·rw[shorts_succ HK.o,HT.o]
      unfold OwnStrs
      simpa using HR2.o
     ·exact HB.o.grown HG2.o HB.o.size (fun j hj=>(HR.o.lt j hj).1)
    case measure=>simp[intOf];omega
  ·have ht:ss.take k=ss:=List.take_of_length_le (by omega)
   rw[ht] at hown
   go_wp2
   go_ret
   exact⟨_,rfl,hown,hbel⟩
end
section
def IntsAt (w:World) (v:Value) (l:List Int):Prop:=
 ∃ a c,v=.slice a l.length c∧l.length≤c∧∀ j x,l[j]?=some x→∃ b off,a=some ⟨b,off,none⟩∧w.cell? ⟨b,off+j,none⟩=some (.int .i64 x)
theorem IntsAt.below {w w':World} {v:Value} {l:List Int} (h:IntsAt w v l) (hb:Below w.heap.size w w'):IntsAt w' v l:=by
 obtain⟨a,c,h1,h2,h3⟩:=h
 refine⟨a,c,h1,h2,fun j x hx=>?_⟩
 obtain⟨b,off,h4,h5⟩:=h3 j x hx
 exact⟨b,off,h4,(hb.cell (p:=⟨b,off+j,none⟩) (cell_lt h5)).trans h5⟩
structure PubAt (w0:World) (tb gl gd:Nat) (key:ByteArray) (ss:List ByteArray) (i kb:Nat) (w:World) (k:Nat) (p:Pl) (m:Wm) (L:Lg):Prop where
 st:KpSt w0 w k key p m L
 es:m.es=ss.take i
 gl:p.gl=gl
 gd:p.gd=gd
 told:ToldAt' w tb 0 ⟨#[]⟩
 kb:k≤kb
section
variable {F:Nat→Addr} {w0 w:World} {tb gl gd:Nat} {key:ByteArray} {ss:List ByteArray} {i kb k:Nat} {p:Pl} {m:Wm} {L:Lg}
theorem PubAt.grow (h:PubAt w0 tb gl gd key ss i kb w k p m L) {w':World} (hb:Below w.heap.size w w'):PubAt w0 tb gl gd key ss i kb w' k p m L:=
 ⟨h.st.grow hb,h.es,h.gl,h.gd,h.told.below hb,h.kb⟩
theorem PubAt.append (h:PubAt w0 tb gl gd key ss i kb w k p m L) (hk:kb≤8000) (hn:NumEnv w0) (hS:Sents w0 F) (hT:ErrT w0) {s:ByteArray} (hs:ss[i]?=some s) (h20:s.size≤20) :
  Calls prog 12 #[.pointer (some ⟨gl,0,none⟩),.string s] w fun e w'=>e=.returned (.tuple #[.int .i64 (i:Nat),toldV 0 ⟨#[]⟩])∧∃ k' p' m' L',PubAt w0 tb gl gd key ss (i+1) (kb+1) w' k' p' m' L'∧m'.d=m.d∧L'.put=L.put:=by
 have hc:=h.st.append (F:=F) (by have:=h.kb;omega) hn hS hT s h20
 rw[h.gl] at hc
 refine hc.mono fun e w' hq=>?_
 obtain⟨he,p',L',h1,h2,h3,hf⟩:=hq
 have hi:=(List.getElem?_eq_some_iff.1 hs).1
 have hlen:m.es.length=i:=by rw[h.es,List.length_take];omega
 rw[hlen] at he
 refine⟨he,k+1,p',_,L',⟨h3,?_,h1.trans h.gl,h2.trans h.gd,h.told.kept hf h.st.is.kinds (by decide),by have:=h.kb;omega⟩,rfl,?_⟩
 ·show m.es ++ [s]=_
  rw[h.es,List.take_add_one,hs]
  rfl
 ·rw[←Option.some.inj (show some _=some L' from h3.rdw.log)]
theorem PubAt.publish (h:PubAt w0 tb gl gd key ss i kb w k p m L) (hk:kb≤8000) (hn:NumEnv w0) (hS:Sents w0 F) (hT:ErrT w0) (hi:i≤ss.length) (hkey:key.size≤9223372036854775807) :
  Calls prog 15 #[.pointer (some ⟨gl,0,none⟩)] w fun e w'=>e=.returned (.tuple #[.int .i64 (i:Nat),toldV 0 ⟨#[]⟩])∧∃ k p m L,PubAt w0 tb gl gd key ss i (kb+1) w' k p m L∧RdW m L i∧getF m.d.files (sOf kCp)=some (cpOf (lists m.es) m.key):=by
 have hc:=h.st.publish (F:=F) (by have:=h.kb;omega) hn hS hT hkey
 rw[h.gl] at hc
 refine hc.mono fun e w' hq=>?_
 obtain⟨he,p',L',h1,h2,h3,hf⟩:=hq
 have hlen:m.es.length=i:=by rw[h.es,List.length_take];omega
 have hfew:=h.st.few
 have hr:=rdw_pub h.st.rdw (by have:=h.kb;omega)
 have hcp:=rdw_pub_cp h.st.rdw (by have:=h.kb;omega)
 have e2:L'={ L with put:=(pubD L.entries L.key L.put m.d).2.1,failed:=(pubD L.entries L.key L.put m.d).2.2.isSome }:=by
  have:=h3.rdw.log
  exact (Option.some.inj this).symm
 rw[hlen] at he hr
 refine⟨he,k+1,p',_,L',⟨h3,h.es,h1.trans h.gl,h2.trans h.gd,h.told.kept hf h.st.is.kinds (by decide),by have:=h.kb;omega⟩,by rw[e2];exact hr,hcp⟩
end
def PublPost (w:World) (key:ByteArray) (ss:List ByteArray) (e:Ending) (w':World):Prop:=
 ∃ k p m L,e=.returned (.pointer (some ⟨p.gd,0,none⟩))∧k≤2*ss.length+2∧KpSt w w' k key p m L∧RdW m L ss.length∧m.es=ss∧getF m.d.files (sOf kCp)=some (cpOf (lists ss) key)
theorem published_any (F:Nat→Addr) (w:World) (va vt:Value) (ss:List ByteArray) (ats:List Int) (key:ByteArray) (hs:StrsAt w va ss) (ha:IntsAt w vt ats) (hn:ss.length≤200) (h20:∀ s∈ss,s.size≤20) (hal:ats.length≤9223372036854775807) (hab:∀ a∈ats,-9223372036854775808≤a∧a≤9223372036854775807)
  (hkey:key.size≤9223372036854775807) (hN:NumEnv w) (hS:Sents w F) (hT:ErrT w) :
  Calls prog 9 #[va,vt,.string key] w (PublPost w key ss):=by
 have HSS:=zh hs
 have HAT:=zh ha
 obtain⟨a0,c0,rfl,_,hc0⟩:=hs
 obtain⟨a1,c1,rfl,_,hc1⟩:=ha
 have HC0:=zh hc0
 have HC1:=zh hc1
 have HND:=zh (newDisk_any w (.slice none 0 0) [] ⟨none,0,rfl,Nat.le_refl _,fun j x hx=>by simp at hx⟩ (by decide))
 have HN:=zh hN
 have HS:=zh hS
 have HT:=zh hT
 have H20:=zh h20
 have HAB:=zh hab
 have HKEY:=zh hkey
 clear hc0 hc1 hN hS hT h20 hab hkey
 go_enter func9,ntmps9
 go_upto_region 2 with (first|(go_at_call 35;refine HND.o.mono ?_;rintro e w1 ⟨gd,dv,rfl,hd,hb1,hg,hdv⟩;have HD:=zh hd;have HB1:=zh hb1;have HG:=zh hg;have HDV:=zh hdv;clear hd hb1 hdv hg)|fail)
 have HOP:=zh (kp_open (F:=F) (U:=[]) (K:=0) (ss:=[]) (n:=0) (key:=key) HD.o (envS_of HB1.o HN.o HS.o HT.o fun i hi=>hi ▸ HG.o) ⟨rfl,rfl,rfl⟩ (sane_new (l:=[]) (Nat.le_refl _) (fun f hf=>by simp at hf)) (by simp) (by omega) HKEY.o (open_empty key))
 go_upto_region 3 with (first|(go_at_call 10;refine HOP.o.mono ?_;rintro e w2 ⟨p,d',j,rfl,hp1,hp2,hcm,hkp,hf2,hnw,hj⟩;have HP1:=zh hp1;have HCM:=zh hcm;have HKP:=zh hkp;have HF2:=zh hf2;have HNW:=zh hnw;have HJ:=zh hj;clear hp1 hp2 hcm hkp hf2 hnw hj)|fail)
 obtain⟨W3,hW3⟩:∃ W,W=w2.alloc (.cells #[.int .i64 0,.string ⟨#[]⟩] 29):=⟨_,rfl⟩
 have hb3:Below w2.heap.size w2 W3:=by rw[hW3];exact below_alloc w2 _
 have ht3:ToldAt' W3 w2.heap.size 0 ⟨#[]⟩:=by rw[hW3];exact heap_alloc_new w2 _
 rw[←hW3]
 obtain⟨gl,hgl⟩:∃ gl,gl=p.gl:=⟨_,rfl⟩
 rw[←hgl]
 have hst:=(kp_new HB1.o HG.o (fun i hi=>HDV.o i hi) HCM.o HJ.o HKP.o HF2.o HNW.o).grow hb3
 have HTB:=zh (show w.heap.size≤w2.heap.size from (Nat.le_trans HB1.o.size HF2.o.size))
 have HP0:=zh (show PubAt w w2.heap.size gl gd key ss 0 0 W3 0 p _ _ from ⟨hst,by simp,hgl.symm,HP1.o,ht3,Nat.le_refl _⟩)
 clear hW3 hb3 hgl hst
 obtain⟨tb,htb⟩:∃ tb,tb=w2.heap.size:=⟨_,rfl⟩
 rw[←htb] at ht3 HP0 HTB ⊢
 obtain⟨t0,t1,tf0,tf1,tlt⟩:=ht3.facts
 clear htb
 go_wp2_with fail
 go_loopw [10] (fun s10 wr=>∃ i:Nat,i≤ss.length∧s10=.int .i64 i∧∃ k p m L,Aside (PubAt w tb gl gd key ss i (2*i) wr k p m L)) (fun s10 _=>ss.length-(intOf s10).toNat)
 case atStart=>exact⟨0,Nat.zero_le _,rfl,_,_,_,_,HP0.o⟩
 case round=>
  obtain⟨i,hi,rfl,k,p1,m,L,HP⟩:=hrel
  clear t0 t1 tf0 tf1 tlt
  by_cases hlt:i<ss.length
  ·have hltz:(i:Int)<(ss.length:Int):=by omega
   have hi0:(0:Int)≤(i:Int):=by omega
   obtain⟨s,hsx⟩:∃ s,ss[i]?=some s:=⟨_,List.getElem?_eq_getElem hlt⟩
   have hsz:=H20.o s (List.mem_of_getElem? hsx)
   obtain⟨b,off,rfl,hcell0⟩:=HC0.o i (.string s) (by simp[hsx])
   have hcell:wr.cell? ⟨b,off+i,none⟩=some (.string s):=(HP.o.st.below.cell (p:=⟨b,off+i,none⟩) (cell_lt hcell0)).trans hcell0
   have HAP:=zh (HP.o.append (F:=F) (by omega) HN.o HS.o HT.o hsx hsz)
   clear hcell0 hsx
   go_upto_region 9 with (first|(go_at_call 12;refine HAP.o.mono ?_;rintro e w4 ⟨rfl,k4,p4,m4,L4,hp4,_,_⟩;have HP4:=zh hp4;clear hp4)|fail)
   obtain⟨W4,hW4⟩:∃ W,W=w4.alloc (.cells #[.int .i64 0,.string ⟨#[]⟩] 29):=⟨_,rfl⟩
   have hb4:Below w4.heap.size w4 W4:=by rw[hW4];exact below_alloc w4 _
   have hT4:ToldAt' W4 w4.heap.size 0 ⟨#[]⟩:=by rw[hW4];exact heap_alloc_new w4 _
   rw[←hW4]
   have HQ4:=zh (HP4.o.grow hb4)
   obtain⟨t0,t1,tf0,tf1,tlt⟩:=hT4.facts
   clear hW4 hb4 hT4 hcell
   go_upto_region 11 with fail
   by_cases hz:ats.length=0
   ·have hd:decide ((0:Int)<(ats.length:Int))=false:=decide_eq_false (by omega)
    go_wp2_with fail
    go_roundw
    case rel=>exact⟨i+1,by omega,by go_num,_,_,_,_,⟨HQ4.o.st,HQ4.o.es,HQ4.o.gl,HQ4.o.gd,HQ4.o.told,by have:=HQ4.o.kb;omega⟩⟩
    case measure=>simp[intOf];omega
   ·have hd:decide ((0:Int)<(ats.length:Int))=true:=decide_eq_true (by omega)
    obtain⟨q,hq⟩:∃ q,q=i%ats.length:=⟨_,rfl⟩
    have hql:q<ats.length:=by rw[hq];exact Nat.mod_lt _ (by omega)
    obtain⟨av,hav⟩:∃ av,ats[q]?=some av:=⟨_,List.getElem?_eq_getElem hql⟩
    have hav2:=HAB.o av (List.mem_of_getElem? hav)
    obtain⟨b1,o1,rfl,hc1⟩:=HC1.o _ _ hav
    have hcell1:W4.cell? ⟨b1,o1+q,none⟩=some (.int .i64 av):=(HQ4.o.st.below.cell (p:=⟨b1,o1+q,none⟩) (cell_lt hc1)).trans hc1
    obtain⟨pk,hpk⟩:∃ pk,pk=pickN av 3:=⟨_,rfl⟩
    have hpick:=fun (W:World)=>kpick_any av 3 W hav2.1 hav2.2 (by decide) (by decide)
    rw[←hpk] at hpick
    have hv:(i:Int)%(ats.length:Int)=(q:Int):=by rw[hq];simp
    have hnz:((ats.length:Int) == 0)=false:=by rw[beq_eq_false_iff_ne];omega
    have hnz2:¬ (ats.length:Int)=0:=by omega
    have HPICK:=zh hpick
    have hq0:(0:Int)≤(q:Int):=by omega
    have hqz:(q:Int)<(ats.length:Int):=by omega
    clear hav hav2 hpick hc1 hq hpk
    rcases Nat.eq_zero_or_pos pk with rfl|hpos
    ·have HPB:=zh (HQ4.o.publish (F:=F) (by omega) HN.o HS.o HT.o (by omega) HKEY.o)
     go_upto_region 12 with (first|(go_at_call 14;refine (HPICK.o _).mono ?_;rintro e w5 ⟨rfl,rfl⟩)|fail)
     clear t0 t1 tf0 tf1 tlt hcell1
     go_upto_region 13 with (first|(go_at_call 15;refine HPB.o.mono ?_;rintro e w6 ⟨rfl,k6,p6,m6,L6,hp6,_,_⟩;have HP6:=zh hp6;clear hp6)|fail)
     obtain⟨W6,hW6⟩:∃ W,W=w6.alloc (.cells #[.int .i64 0,.string ⟨#[]⟩] 29):=⟨_,rfl⟩
     have hb6:Below w6.heap.size w6 W6:=by rw[hW6];exact below_alloc w6 _
     have hT6:ToldAt' W6 w6.heap.size 0 ⟨#[]⟩:=by rw[hW6];exact heap_alloc_new w6 _
     rw[←hW6]
     have HQ6:=zh (HP6.o.grow hb6)
     obtain⟨t0,t1,tf0,tf1,tlt⟩:=hT6.facts
     clear hW6 hb6 hT6
     go_wp2_with fail
     go_roundw
     case rel=>exact⟨i+1,by omega,by go_num,_,_,_,_,⟨HQ6.o.st,HQ6.o.es,HQ6.o.gl,HQ6.o.gd,HQ6.o.told,by have:=HQ6.o.kb;omega⟩⟩
     case measure=>simp[intOf];omega
    ·have hpz:((pk:Int) == 0)=false:=by rw[beq_eq_false_iff_ne];omega
     go_wp2_with (first|(go_at_call 14;refine (HPICK.o _).mono ?_;rintro e w5 ⟨rfl,rfl⟩)|fail)
     go_roundw
     case rel=>exact⟨i+1,by omega,by go_num,_,_,_,_,⟨HQ4.o.st,HQ4.o.es,HQ4.o.gl,HQ4.o.gd,HQ4.o.told,by have:=HQ4.o.kb;omega⟩⟩
     case measure=>simp[intOf];omega
  ·have hltz:¬ (i:Int)<(ss.length:Int):=by omega
   have hie:i=ss.length:=by omega
   subst hie
   have HPB:=zh (HP.o.publish (F:=F) (by omega) HN.o HS.o HT.o (Nat.le_refl _) HKEY.o)
   go_upto_region 15 with fail
   obtain⟨t0,t1,tf0,tf1,tlt⟩:=HP.o.told.facts
   go_upto_region 16 with (first|(go_at_call 15;refine HPB.o.mono ?_;rintro e w4 ⟨rfl,k4,p4,m4,L4,hp4,hr4,hcp4⟩;have HP4:=zh hp4;have HR4:=zh hr4;have HCP4:=zh hcp4;obtain⟨t0,t1,tf0,tf1,tlt⟩:=hp4.told.facts;clear hp4 hr4 hcp4)|fail)
   have hts:=told_set (m:=0) (t:=⟨#[]⟩) HP4.o.told
   obtain⟨W5,hW5⟩:∃ W,W=(w4.setCell ⟨tb,0,none⟩ (.int .i64 0)).setCell ⟨tb,1,none⟩ (.string ⟨#[]⟩):=⟨_,rfl⟩
   rw[←hW5] at hts ⊢
   clear t0 t1 tf0 tf1 tlt
   obtain⟨t0,t1,tf0,tf1,tlt⟩:=hts.1.facts
   have HST:=zh (HP4.o.st.told HP4.o.told HTB.o hts.2)
   obtain⟨⟨_,_,_,_,_,_,_,d7⟩,_⟩:=HST.o.is.disk.cells
   rw[HST.o.rdw.sound.fresh.turned,HP4.o.gd] at d7
   clear hts hW5
   go_wp2_with fail
   go_ret
   exact⟨k4,p4,m4,L4,by rw[HP4.o.gd];rfl,by have:=HP4.o.kb;omega,HST.o,HR4.o,by rw[HP4.o.es,List.take_length],by have:=HCP4.o;rw[HP4.o.es,List.take_length,HST.o.mkey] at this;exact this⟩
end
section
def headB:ByteArray:=⟨#[102,105,114,115,116]⟩
theorem wpList_appG {P:Program} {ops:Array Oper} {rest:List Oper} {o:Oper} {a:Act} {Q:Exit→Act→World→Prop} {w:World} (hgd:o.guard=none) (s x:Operand) (t:TypeId)
  (ho:o.op=.call { callee:=.builtin .append,args:=#[s,x],argTypes:=#[t,t] })
  (e:TypeId) (i:TypeInfo) (z:Value) (bytes:Nat) (ht:P.underlying t=some (.slice e)) (hi:P.info? e=some i) (hz:i.zero=some z)
  (hsize:i.size=1) (hby:i.bytes=bytes) (hzs:z.cells.size=1) (hbb:bytes≤64)
  (base g n0 c0:Nat) (xs0:List Value) (hs:a.eval s=.slice (some ⟨g,0,none⟩) n0 c0) (hown:w.ownsRow base e 1 (.slice (some ⟨g,0,none⟩) n0 c0) n0 xs0) (v:Value) (n:Nat) (xs:List Value) (hx:a.eval x=v) (hc:Cells w v n xs) (hl:xs.length=n) (h1:∀ y∈xs,y.oneCell'=true) (hn:n0+n≤1099511627776) (hbase:base≤w.heap.size)
  (h:∀ v' w',w'.ownsRow base e 1 v' (n0+n) (xs0++xs)→Below base w w'→wpList P ops Q rest (a.put o.dst v') w') :
  wpList P ops Q (o :: rest) a w:=by
 have key:∃ v' w',(Builtin.append_ #[t,t] o.type #[.slice (some ⟨g,0,none⟩) n0 c0,v]).run P w=.ok v' w'∧w'.ownsRow base e 1 v' (n0+n) (xs0++xs)∧Below base w w':=by
  obtain⟨a',c,rfl,hcap,hcell⟩:=hc
  cases a' with
  | some ad=>
   have hnews:∀ j y,xs[j]?=some y→w.cell? (ad.add j)=some y:=by
    intro j y hy
    obtain⟨b,off,hb,hc1⟩:=hcell j y hy
    cases hb
    rw[Addr.add_lit]
    exact hc1
   obtain⟨v',w',hr,h2,h3,_⟩:=run_append_own (P:=P) w base t o.type e i z 1 bytes ht hi hz hsize hby hzs (by decide) _ n0 xs0 hown ad n c xs (by omega) hnews h1 (by unfold maxLen;omega)
    (by refine Nat.le_trans (Nat.mul_le_mul_left _ hbb) ?_;omega) hbase
   exact⟨v',w',hr,h2,(Below.refl base w).grown h3 hbase fun j hj=>(hown.lt j hj).1⟩
  | none=>
   have hx:xs = []:=by
    cases xs with
    | nil=>rfl
    | cons y ys=>obtain⟨b,off,hb,_⟩:=hcell 0 y rfl;cases hb
   subst hx
   have hn0:n=0:=by simpa using hl.symm
   subst hn0
   refine⟨.slice (some ⟨g,0,none⟩) n0 c0,w,?_,by rw[List.append_nil];exact hown,Below.refl _ _⟩
   have hcap0:n0≤c0:=by
    rcases hown.2 with ⟨e1,_⟩|⟨_,_,_,e1,_,_,e2,_⟩
    ·cases e1
    ·cases e1;exact e2
   simp[Builtin.append_,run_underlying ht,sizeOf,typeInfo,hi,Builtin.lenOf,Builtin.firstCells,storeCells,hcap0]
 obtain⟨v',w',hr,h2,h3⟩:=key
 refine wpList_plain hgd fun K hK=>?_
 unfold Oper.wp execOp
 simp only[ho,resolve,invoke,builtin,Sem.run_bind,Sem.run_pure,Result.andThen_ok,List.map_toArray,List.map_cons,List.map_nil,hs,hx,hr]
 exact hK _ _ (h v' w' h2 h3)
theorem cells4_new (w:World) (x y z u:Value) (t:TypeId) (n:Nat) (hn:n=w.heap.size):∀ (j:Nat) (r:Value),[x,y,z,u][j]?=some r→(w.alloc (.cells #[x,y,z,u] t)).cell? ((⟨n,0,none⟩:Addr).add j)=some r:=by
 intro j r hr
 rw[Addr.add_lit,World.cell?_alloc_at _ _ _ _ hn]
 simpa using hr
def cutB (b:ByteArray):ByteArray:=if 0<b.size then b.extract 0 (b.size-1) else b
theorem cutB_list (b:ByteArray):(cutB b).data.toList=b.data.toList.dropLast:=by
 unfold cutB
 split
 ·simp[ByteArray.data_extract]
 ·rename_i h
  have:b.data.toList = []:=List.eq_nil_of_length_eq_zero (by have:b.data.toList.length=b.size:=rfl;omega)
  rw[this];rfl
section
variable {F:Nat→Addr} {w0 w:World} {k:Nat} {gd:Nat} {v:Value} {m:Wm} {L:Lg} {P:Nat} {ga gc gk mc gn:Nat} {vl vt:Value} {n:Nt} {c:Cl} {qs:List CEnt}
theorem KeSt.lied (h:KeSt w0 w k gd v m L P ga gc gk mc gn vl vt n c qs) {w':World} {vl' vt':Value} {l:List Lie1} {ts:List Nat} (hn:NetIs w' gn gd vl' vt' { n with lies:=l,told:=ts }) (hf:Fr (netS gn vt) w w') (hs:Sub w (netS gn vt) (netS gn vt')) (hc:∀ x∈l,CutLie n.files x) :
  KeSt w0 w' k gd v m L P ga gc gk mc gn vl' vt' { n with lies:=l,told:=ts } c qs∧∀ tb x u,ToldAt' w tb x u→ToldAt' w' tb x u:=by
 have hk:=kinds_net h.net
 have hz:=h.below.size
 refine⟨{ h with disk:=h.disk.kept hf hk (by decide) (by decide),net:=hn,pc:=heap_kept h.pc hf hk (by decide),cl:=h.cl.kept hf hk (fun i hi=>?_) (by decide) (by decide) (by decide) (by decide),below:=h.below.trans (hf.below hz fun i hi e=>by have:=h.new i (.inr e);omega),new:=fun i hi=>?_,cut:=hc },fun tb x u ht=>ht.kept hf hk (by decide)⟩
 ·rcases hi with e|e
  ·exact⟨_,_,_,e ▸ h.net.cells⟩
  ·obtain⟨C,hC⟩:=ownBlock_type h.net.told e
   exact⟨C,_,_,hC⟩
 ·rcases hi with e|e
  ·exact h.new i (.inl e)
  ·rcases hs i e with e1|e1
   ·exact h.new i (.inr e1)
   ·omega
end
end
section
theorem heals_walk (F:Nat→Addr) (w:World) (va vt vw:Value) (l:List ByteArray) (ats:List Int) (key:ByteArray) (cap:Int) (wh:List Int) (hs:StrsAt w va l) (ha:IntsAt w vt ats) (hw:IntsAt w vw wh) (hal:ats.length≤9223372036854775807) (hab:∀ a∈ats,-9223372036854775808≤a∧a≤9223372036854775807)
  (hwl:wh.length≤9223372036854775807) (hwb:∀ a∈wh,-9223372036854775808≤a∧a≤9223372036854775807) (hkey:key.size≤9223372036854775807) (hcap:cap≤9223372036854775807) (hN:NumEnv w) (hS:Sents w F) (hT:ErrT w) :
  Calls prog 6 #[va,vt,.string key,.int .i64 cap,vw] w (PubTrue w):=by
 have HSS:=zh hs
 have HAT:=zh ha
 have HWT:=zh hw
 obtain⟨a0,c0,rfl,_,_⟩:=hs
 obtain⟨a4,c4,rfl,_,_⟩:=hw
 obtain⟨i0,hi0,hz0,hz1,hz2⟩:=info_parts info_str
 by_cases hbig:60<l.length
 ·have hz:decide ((60:Int)<(l.length:Int))=true:=decide_eq_true (by omega)
  clear ha
  go_enter func6,ntmps6
  go_wp2
  go_ret
  exact⟨rfl,Below.refl _ _⟩
 by_cases hbig2:1024<wh.length
 ·have hz:decide ((60:Int)<(l.length:Int))=false:=decide_eq_false (by omega)
  have hzz:decide ((1024:Int)<(wh.length:Int))=true:=decide_eq_true (by omega)
  clear ha
  go_enter func6,ntmps6
  go_wp2
  go_ret
  exact⟨rfl,Below.refl _ _⟩
 ·have hz:decide ((60:Int)<(l.length:Int))=false:=decide_eq_false (by omega)
  have hzz:decide ((1024:Int)<(wh.length:Int))=false:=decide_eq_false (by omega)
  obtain⟨Wa,hWa⟩:∃ W,W=w.alloc (.cells #[.string ⟨#[102,105,114,115,116]⟩] 9):=⟨_,rfl⟩
  have hba:Below w.heap.size w Wa:=by rw[hWa];exact below_alloc w _
  have hown:Wa.ownsRow w.heap.size 9 1 (.slice (some ⟨w.heap.size,0,none⟩) 1 1) 1 [.string headB]:=by rw[hWa];exact World.ownsRow_lit w #[.string headB] 1 (Nat.le_refl _) (by unfold maxLen;omega) rfl
  have hsh:=short_any (.slice a0 l.length c0) l Wa (HSS.o.below hba) (by omega)
  obtain⟨ss,hss⟩:∃ ss,ss=l.map shortS:=⟨_,rfl⟩
  have hsn:ss.length≤60:=by rw[hss,List.length_map];omega
  have h20:∀ s∈ss,s.size≤20:=fun s hs=>by rw[hss] at hs;obtain⟨x,_,rfl⟩:=List.mem_map.1 hs;exact shortS_size x
  rw[←hss] at hsh
  obtain⟨ns,hns⟩:∃ n,n=ss.length:=⟨_,rfl⟩
  have HSH:=zh hsh
  have H20:=zh h20
  have HN:=zh hN
  have HS:=zh hS
  have HT:=zh hT
  have HAB:=zh hab
  have HWB:=zh hwb
  have HKEY:=zh hkey
  have HCAP:=zh hcap
  have HAL:=zh hal
  have HBA:=zh hba
  have HOWN:=zh hown
  have HNS:=zh hns
  have HSN:=zh hsn
  have HWA:=zh hWa
  have HX:=zh (show ∀ y∈ss.map Value.string,y.oneCell'=true from fun y hy=>by obtain⟨s,_,rfl⟩:=List.mem_map.1 hy;rfl)
  clear ha hss hsh h20 hN hS hT hab hwb hkey hcap hal hba hown hns hsn hWa
  go_enter func6,ntmps6
  go_upto_region 3 with fail
  go_wp2_with fail
  rw[←HWA.o]
  go_at_call 8
  refine HSH.o.mono ?_
  rintro e w1 ⟨v1,rfl,ho1,hb1⟩
  obtain⟨a1,c1,rfl⟩:=own_any ho1
  have hba1:Below w.heap.size w w1:=HBA.o.trans (hb1.mono HBA.o.size)
  have hown1:=ownsRow_below HOWN.o hb1
  have hc1:Cells w1 (.slice a1 ss.length c1) ss.length (ss.map Value.string):=OwnStrs.at ho1
  rw[←HNS.o] at hc1 ⊢
  have HO1:=zh hown1
  have HC1:=zh hc1
  have HBA1:=zh hba1
  obtain⟨Lh,hLh⟩:∃ L,L=headB :: ss:=⟨_,rfl⟩
  obtain⟨n,hn⟩:∃ n,n=Lh.length:=⟨_,rfl⟩
  have hn1:n=ns+1:=by rw[hn,hLh,HNS.o];rfl
  have HLH:=zh hLh
  have HLN:=zh hn
  have HN1E:=zh hn1
  have hn61:n≤61:=by have:=HNS.o;have:=HSN.o;omega
  clear ho1 hb1 hba1 hown1 hc1 hLh hn hn1
  go_upto_region 4 with (first|(at_builtin;refine wpList_appG rfl _ _ 22 rfl 9 i0 (.string ⟨#[]⟩) 16 underlying22 hi0 hz0 hz1 hz2 rfl (by decide) w.heap.size w.heap.size 1 1 [.string headB] rfl HO1.o (.slice a1 ns c1) ns (ss.map Value.string) rfl HC1.o (by rw[List.length_map];exact HNS.o.symm) HX.o (by have:=HNS.o;have:=HSN.o;omega) HBA1.o.size ?_;intro v2 w2 hr2 hb2;obtain⟨a2,c2,rfl⟩:=own_any hr2;have HR2:=zh hr2;have HB2:=zh hb2;clear hr2 hb2)|fail)
  rw[show 1+ns=n by have:=HN1E.o;omega]
  have hst2:StrsAt w2 (.slice a2 n c2) Lh:=by
   have h:=HR2.o
   rw[show 1+ns=n by have:=HN1E.o;omega] at h
   refine OwnStrs.at (base:=w.heap.size) ?_
   unfold OwnStrs
   rw[←HLN.o,HLH.o]
   exact h
  have hb2:Below w.heap.size w w2:=HBA1.o.trans HB2.o
  have HST2:=zh hst2
  have HBW2:=zh hb2
  have HN2:=zh (HN.o.below hb2)
  have HS2:=zh (HS.o.below hb2)
  have HT2:=zh (HT.o.below hb2)
  have h20L:∀ s∈Lh,s.size≤20:=fun s hs=>by
   rw[HLH.o] at hs
   rcases List.mem_cons.1 hs with rfl|hs
   ·decide
   ·exact H20.o s hs
  have HPUB:=zh (published_any F w2 (.slice a2 n c2) vt Lh ats key HST2.o (HAT.o.below hb2) (by have:=HLN.o;omega) h20L HAL.o HAB.o HKEY.o HN2.o HS2.o HT2.o)
  clear hst2 hb2 h20L
  go_upto_region 7 with (first|(go_at_call 9;refine HPUB.o.mono ?_;rintro e w3 ⟨k3,p3,m3,L3,rfl,hk3,hst3,hr3,hes3,hcp3⟩;have HK3:=zh hk3;have HST3:=zh hst3;have HR3:=zh hr3;have HES3:=zh hes3;have HCP3:=zh hcp3;clear hk3 hst3 hr3 hes3 hcp3)|fail)
  obtain⟨gd,hgd⟩:∃ gd,gd=p3.gd:=⟨_,rfl⟩
  rw[←hgd]
  have hdk:=HST3.o.is.disk
  rw[←hgd] at hdk
  have HDK:=zh hdk
  have hnn:=newNet_any w3 gd m3.d.files
  have HNN:=zh hnn
  have hnc:=fun (W:World) (g:Nat)=>pnewClient_any W (.pointer (some ⟨g,0,none⟩)) (.iface 44 (.pointer (some ⟨g,0,none⟩))) (.inr ⟨_,rfl,rfl⟩) key cap HCAP.o
  have HNC:=zh hnc
  clear hgd hdk hnn hnc
  go_upto_region 9 with (first|(go_at_call 19;refine HNN.o.mono ?_;rintro e w4 ⟨gn,rfl,hn4,hb4,hg4⟩;have HN4:=zh hn4;have HB4:=zh hb4;have HG4:=zh hg4;clear hn4 hb4 hg4)|(go_at_call 18;refine (HNC.o w4 gn).mono ?_;rintro e w5 ⟨ga,gc,gk,mc,rfl,hpc,hcl,hb5,_,hg2,hg3,hg4⟩;have HPC:=zh hpc;have HCL:=zh hcl;have HB5:=zh hb5;have HG5:=zh (And.intro hg2 (And.intro hg3 hg4));clear hpc hcl hb5 hg2 hg3 hg4)|fail)
  have hm3l:m3.es.length=n:=by rw[HES3.o,HLN.o]
  have hsm:∀ f∈m3.d.files,f.2.size≤1048576:=by
   obtain⟨U,_,hG⟩:=HST3.o.good
   exact hG.sane.size
  have hflen:m3.d.files.length≤1000000000:=by
   obtain⟨U,_,hG⟩:=HST3.o.good
   have h1:=hG.sane.len
   have h2:=HK3.o
   have h3:=HLN.o
   omega
  have hr3:RdW m3 L3 n:=by have:=HR3.o;rw[←HLN.o] at this;exact this
  have hcpt:getF m3.d.files (sOf kCp)=some (cpOf ((lists m3.es).take n) m3.key):=by
   rw[List.take_of_length_le (by rw[lists_len];omega),HES3.o,HST3.o.mkey]
   exact HCP3.o
  have hk0:=kest_new (w0:=w2) HST3.o.below HDK.o hr3 hcpt (by omega) hsm HST3.o.mkey HKEY.o HN4.o HB4.o HG4.o HPC.o HCL.o HB5.o HG5.o.1 HG5.o.2.1 HG5.o.2.2
  have HUP:=zh (hk0.update (F:=F) (by omega) HN2.o HS2.o HT2.o (.inl ⟨rfl,rfl⟩))
  have HFL:=zh hflen
  have HCPT:=zh hcpt
  clear hm3l hsm hflen hr3 hcpt hk0
  go_upto_region 12 with (first|(go_at_call 20;refine HUP.o.mono ?_;rintro e w6 ⟨v6,tk6,tp6,n6,c6,qs6,rfl,hk6,hto6,hsn6,hcs6,htk6⟩;obtain rfl:=htk6 rfl;have HK6:=zh hk6;have HSN6:=zh hsn6;have HCS6:=zh hcs6;clear hk6 hto6 hsn6 hcs6 htk6)|fail)
  obtain⟨W6,hW6⟩:∃ W,W=w6.alloc (.cells #[.int .i64 0,.string tp6] 29):=⟨_,rfl⟩
  obtain⟨tb,htb⟩:∃ tb,tb=w6.heap.size:=⟨_,rfl⟩
  have hb6:Below w6.heap.size w6 W6:=by rw[hW6];exact below_alloc w6 _
  have ht6:ToldAt' W6 tb 0 tp6:=by rw[hW6,htb];exact heap_alloc_new w6 _
  rw[←htb,←hW6]
  have hk6:=HK6.o.grow hb6
  have HDF:=zh (dfiles_any W6 gd p3.v m3.d hk6.disk (by have:=HFL.o;omega))
  have HKK6:=zh hk6
  have HTT6:=zh ht6
  have HTB:=zh (show w2.heap.size≤tb by rw[htb];exact HK6.o.below.size)
  clear hW6 htb hb6 ht6 hk6
  go_upto_region 13 with (first|(go_at_call 30;refine HDF.o.mono ?_;rintro e w7 ⟨v7,l7,rfl,ho7,hpm,hb7⟩;have hfa:=own_filesAt ho7;obtain⟨a7,c7,rfl⟩:=own_any ho7;have HFA:=zh hfa;have HPM:=zh hpm;have HB7:=zh hb7;clear ho7 hpm hb7 hfa)|fail)
  have hl7:0<l7.length:=by
   have h1:=HPM.o.length_eq
   have h2:=getF_some HCPT.o
   have h3:=List.length_pos_of_mem h2
   omega
  have hl7b:l7.length≤1000000000:=by rw[HPM.o.length_eq];exact HFL.o
  obtain⟨nf,hnf⟩:∃ n,n=l7.length:=⟨_,rfl⟩
  rw[←hnf] at hl7 hl7b ⊢
  have HNF:=zh hnf
  have HK7:=zh (HKK6.o.grow HB7.o)
  have HT7:=zh (HTT6.o.below HB7.o)
  have HBW7:=zh (HBW2.o.trans (HK7.o.below.mono HBW2.o.size))
  obtain⟨iL,hiL,hzL,hsL,hbyL⟩:=info_lieE
  have HIL:=zh (⟨hiL,hzL,hsL,hbyL⟩:_∧_∧_∧_)
  obtain⟨nw,hnw⟩:∃ n,n=wh.length:=⟨_,rfl⟩
  have hnw1:nw≤1024:=by omega
  have HNW:=zh hnw
  rw[←hnw]
  clear hnf hnw hiL hzL hsL hbyL hbig hbig2 hz hzz
  go_wp2_with fail
  go_loopw [17,18] (fun s17 s18 wr=>∃ i:Nat,i≤nw∧s18=.int .i64 i∧∃ ls:List Lie1,Aside (ls.length=i∧(∀ x∈ls,CutLie m3.d.files x)∧wr.ownsRow w7.heap.size 75 4 s17 ls.length (lieRow ls)∧Below w7.heap.size w7 wr)) (fun _ s18 _=>nw-(intOf s18).toNat)
  case atStart=>exact⟨0,Nat.zero_le _,rfl,[],rfl,fun x hx=>(by simp at hx),World.ownsRow_nil _ _ _ _,Below.refl _ _⟩
  case round=>
   obtain⟨i,hi,rfl,ls,HR⟩:=hrel
   by_cases hlt:i<nw
   ·have hltz:(i:Int)<(nw:Int):=by omega
    have hi00:(0:Int)≤(i:Int):=by omega
    obtain⟨av,hav⟩:∃ av,wh[i]?=some av:=⟨_,List.getElem?_eq_getElem (by have:=HNW.o;omega)⟩
    have hav2:=HWB.o av (List.mem_of_getElem? hav)
    obtain⟨ax,cx,hvx,_,hcx⟩:=HWT.o
    cases hvx
    obtain⟨b4,o4,rfl,hc4⟩:=hcx i av hav
    have hbwr:Below w.heap.size w wr:=HBW7.o.trans (HR.o.2.2.2.mono HBW7.o.size)
    have hcell4:wr.cell? ⟨b4,o4+i,none⟩=some (.int .i64 av):=(hbwr.cell (p:=⟨b4,o4+i,none⟩) (cell_lt hc4)).trans hc4
    have hpl:=pickN_lt av (n:=nf) hl7
    obtain⟨pk,hpk⟩:∃ pk,pk=pickN av nf:=⟨_,rfl⟩
    have hpick:=fun (W:World)=>kpick_any av nf W hav2.1 hav2.2 hl7 (by omega)
    rw[←hpk] at hpl hpick
    obtain⟨f,hf⟩:∃ f,l7[pk]?=some f:=⟨_,List.getElem?_eq_getElem (by have:=HNF.o;omega)⟩
    obtain⟨ay,cy,hvy,_,hcy⟩:=HFA.o.below HR.o.2.2.2
    cases hvy
    obtain⟨b7,o7,rfl,hd1,hd2⟩:=hcy pk f hf
    have hpk0:(0:Int)≤(pk:Int):=by omega
    have hpkl:(pk:Int)<(nf:Int):=by omega
    have HPICK:=zh hpick
    have HFM:=zh (show f∈m3.d.files from HPM.o.mem_iff.1 (List.mem_of_getElem? hf))
    clear hav hav2 hcx hc4 hbwr hpk hpick hf hcy
    go_upto_region 18 with (first|(go_at_call 14;refine (HPICK.o _).mono ?_;rintro e w8 ⟨rfl,rfl⟩)|fail)
    obtain⟨f1,f2⟩:=f
    dsimp only at hd1 hd2 ⊢
    obtain⟨Wf,hWf⟩:∃ W,W=wr.alloc (.cells #[.string f1,.string f2] 73):=⟨_,rfl⟩
    have hbf:Below wr.heap.size wr Wf:=by rw[hWf];exact below_alloc wr _
    have hof:Wf.heap[wr.heap.size]?=some (.cells #[.string f1,.string f2] 73 (0,0)):=by rw[hWf];exact heap_alloc_new wr _
    have e0:=cell_heap hof 0 rfl
    have e1:=cell_heap hof 1 rfl
    have HRF:=zh (ownsRow_below HR.o.2.2.1 hbf)
    have HBF:=zh (HR.o.2.2.2.trans (hbf.mono HR.o.2.2.2.size))
    rw[←hWf]
    clear hWf hbf hof hd1 hd2 hcell4
    by_cases h0:0<f2.size
    ·have h0z:(0:Int)<(f2.size:Int):=by omega
     have hsz2:f2.size≤1048576:=HK7.o.small _ HFM.o
     obtain⟨dd,hdd⟩:∃ d,d=f2.size-1:=⟨_,rfl⟩
     have hwr:wrap64 ((f2.size:Int)-1)=(dd:Int):=by unfold wrap64;omega
     have hle:(dd:Int)≤(f2.size:Int):=by omega
     have hdc:f2.extract 0 (f2.size-1)=cutB f2:=by unfold cutB;rw[if_pos h0]
     have HDC:=zh hdc
     clear hdd hdc
     go_upto_region 21 with fail
     rw[HDC.o]
     go_wp2_with (first|(at_builtin;refine wpList_append_own _ rfl _ _ 65 rfl w7.heap.size 75 iL _ 4 48 underlying65 HIL.o.1 HIL.o.2.1 HIL.o.2.2.1 HIL.o.2.2.2 rfl (by decide) _ ls.length (lieRow ls) rfl (ownsRow_below HRF.o (below_alloc Wf _)) ⟨Wf.heap.size,0,none⟩ 1 1 [.string f1,.string (cutB f2),.bool _,.int .i64 0] rfl rfl (cells4_new _ _ _ _ _ _ _ rfl) (by simp[Value.oneCell']) (by unfold maxLen;have:=HR.o.1;omega) (by have:=HR.o.1;omega) (by have:=HBF.o.size;simp;omega) ?_;intro v9 w9 hr9 hg9 _;have HR9:=zh hr9;have HG9:=zh hg9;clear hr9 hg9)|fail)
     go_roundw
     case rel=>
      refine⟨i+1,by omega,by go_num,ls ++ [⟨f1,(cutB f2),((i:Int)%2 == 0),0⟩],by rw[List.length_append,HR.o.1];rfl,fun x hx=>?_,?_,(HBF.o.alloc HBF.o.size _).grown HG9.o (Nat.le_trans HBF.o.size (by simp)) fun j hj=>(HR.o.2.2.1.lt j hj).1⟩
      ·rcases List.mem_append.1 hx with hx|hx
       ·exact HR.o.2.1 x hx
       ·rw[List.mem_singleton.1 hx]
        exact⟨Int.le_refl 0,(f1,f2),HFM.o,rfl,cutB_list f2⟩
      ·rw[List.length_append]
       have e:lieRow (ls ++ [⟨f1,(cutB f2),((i:Int)%2 == 0),0⟩])=lieRow ls ++ [Value.string f1,Value.string (cutB f2),Value.bool ((i:Int)%2 == 0),Value.int IntKind.i64 0]:=by simp[lieRow,lieCells]
       rw[e]
       exact HR9.o
     case measure=>simp[intOf];omega
    ·have h0z:¬ (0:Int)<(f2.size:Int):=by omega
     have HDC:=zh (show f2=cutB f2 by unfold cutB;rw[if_neg h0])
     go_upto_region 21 with fail
     go_wp2_with (first|(at_builtin;refine wpList_append_own _ rfl _ _ 65 rfl w7.heap.size 75 iL _ 4 48 underlying65 HIL.o.1 HIL.o.2.1 HIL.o.2.2.1 HIL.o.2.2.2 rfl (by decide) _ ls.length (lieRow ls) rfl (ownsRow_below HRF.o (below_alloc Wf _)) ⟨Wf.heap.size,0,none⟩ 1 1 [.string f1,.string f2,.bool _,.int .i64 0] rfl rfl (cells4_new _ _ _ _ _ _ _ rfl) (by simp[Value.oneCell']) (by unfold maxLen;have:=HR.o.1;omega) (by have:=HR.o.1;omega) (by have:=HBF.o.size;simp;omega) ?_;intro v9 w9 hr9 hg9 _;have HR9:=zh hr9;have HG9:=zh hg9;clear hr9 hg9)|fail)
     go_roundw
     case rel=>
      refine⟨i+1,by omega,by go_num,ls ++ [⟨f1,f2,((i:Int)%2 == 0),0⟩],by rw[List.length_append,HR.o.1];rfl,fun x hx=>?_,?_,(HBF.o.alloc HBF.o.size _).grown HG9.o (Nat.le_trans HBF.o.size (by simp)) fun j hj=>(HR.o.2.2.1.lt j hj).1⟩
      ·rcases List.mem_append.1 hx with hx|hx
       ·exact HR.o.2.1 x hx
       ·rw[List.mem_singleton.1 hx]
        exact⟨Int.le_refl 0,(f1,f2),HFM.o,rfl,by have:=cutB_list f2;rw[←HDC.o] at this;exact this⟩
      ·rw[List.length_append]
       have e:lieRow (ls ++ [⟨f1,f2,((i:Int)%2 == 0),0⟩])=lieRow ls ++ [Value.string f1,Value.string f2,Value.bool ((i:Int)%2 == 0),Value.int IntKind.i64 0]:=by simp[lieRow,lieCells]
       rw[e]
       exact HR9.o
     case measure=>simp[intOf];omega
   ·have hltz:¬ (i:Int)<(nw:Int):=by omega
    obtain⟨wo,hwo⟩:∃ W,W=wr:=⟨_,rfl⟩
    have hkr:=HK7.o.grow HR.o.2.2.2
    have htr:=HT7.o.below HR.o.2.2.2
    have hli:=netLie_any wr gn gd _ _ u17 n6 ls hkr.net (ownsRow_mono HR.o.2.2.1 (Nat.zero_le _)) (by have:=HR.o.1;omega)
    have HLI:=zh hli
    have HKR:=zh hkr
    have HTR:=zh htr
    have HLS:=zh HR.o.2.1
    clear hkr htr hli hwo
    go_wp2_with (first|(go_at_call 27;refine HLI.o.mono ?_;rintro e w8 ⟨vl8,vt8,rfl,hn8,hf8,hs8⟩;have hlied:=HKR.o.lied hn8 hf8 hs8 (by rw[HKR.o.nf];exact HLS.o);have HK8:=zh hlied.1;have HT8:=zh (hlied.2 _ _ _ HTR.o);clear hn8 hf8 hs8 hlied)|fail)
    go_loopw [21] (fun s21 wr=>∃ j:Nat,j≤n∧s21=.int .i64 j∧∃ nt c qs,Aside (KeSt w2 wr (1+j) gd p3.v m3 L3 n ga gc gk mc gn vl8 vt8 nt c qs∧c.size=n∧ToldAt' wr tb 0 tp6)) (fun s21 _=>n-(intOf s21).toNat)
    case atStart=>exact⟨0,Nat.zero_le _,rfl,_,_,_,HK8.o,HCS6.o,HT8.o⟩
    case round=>
     obtain⟨j,hj,rfl,nt,c,qs,HR2⟩:=hrel
     by_cases hltj:j<n
     ·have hltjz:(j:Int)<(n:Int):=by omega
      have hj0:(0:Int)≤(j:Int):=by omega
      have HRD:=zh (HR2.o.1.read (F:=F) (by omega) HN2.o HS2.o HT2.o j (by rw[HR2.o.2.1];exact hltj))
      obtain⟨s,hsx⟩:∃ s,Lh[j]?=some s:=⟨_,List.getElem?_eq_getElem (by have:=HLN.o;omega)⟩
      have hse:sOf ((lists m3.es).getD j [])=s:=by
       rw[HES3.o]
       unfold lists
       rw[List.getD_eq_getElem?_getD,List.getElem?_map,hsx]
       exact ByteArray.ext (by simp[sOf])
      have HSE:=zh hse
      have HSX:=zh hsx
      clear hse hsx
      go_upto_region 27 with (first|(go_at_call 22;refine HRD.o.mono ?_;rintro e w10 ⟨nn,v10,s10,tk10,tp10,n10,c10,qs10,rfl,hk10,hto10,hsn10,hcs10,hs10,_⟩;have HK10:=zh hk10;have HT10:=zh (hto10 _ _ _ HR2.o.2.2);have HCS10:=zh (hcs10.trans HR2.o.2.1);have HS10:=zh hs10;clear hk10 hto10 hsn10 hcs10 hs10)|fail)
      obtain⟨W10,hW10⟩:∃ W,W=w10.alloc (.cells #[.int .i64 tk10,.string tp10] 29):=⟨_,rfl⟩
      have hb10:Below w10.heap.size w10 W10:=by rw[hW10];exact below_alloc w10 _
      have hT10:ToldAt' W10 w10.heap.size tk10 tp10:=by rw[hW10];exact heap_alloc_new w10 _
      rw[←hW10]
      have HKK:=zh (HK10.o.grow hb10)
      have HTT:=zh (HT10.o.below hb10)
      obtain⟨t0,t1,tf0,tf1,tlt⟩:=hT10.facts
      clear hW10 hb10 hT10
      by_cases h0:tk10=0
      ·have hss:s10=s:=(HS10.o h0).trans HSE.o
       subst h0 hss
       obtain⟨a',c',hv,_,hc⟩:=HST2.o
       cases hv
       obtain⟨b,off,rfl,hcell0⟩:=hc j (.string s10) (by simp[HSX.o])
       have hcell:W10.cell? ⟨b,off+j,none⟩=some (.string s10):=(HKK.o.below.cell (p:=⟨b,off+j,none⟩) (cell_lt hcell0)).trans hcell0
       clear hc hcell0
       go_wp2_with fail
       go_roundw
       case rel=>exact⟨j+1,by omega,by go_num,_,_,_,HKK.o,HCS10.o,HTT.o⟩
       case measure=>simp[intOf];omega
      ·have h0z:((tk10:Int) == 0)=false:=by rw[beq_eq_false_iff_ne];omega
       go_wp2_with fail
       go_roundw
       case rel=>exact⟨j+1,by omega,by go_num,_,_,_,HKK.o,HCS10.o,HTT.o⟩
       case measure=>simp[intOf];omega
     ·have hltjz:¬ (j:Int)<(n:Int):=by omega
      have hjn:n=j:=by omega
      subst hjn
      have HUP2:=zh (HR2.o.1.update (F:=F) (by omega) HN2.o HS2.o HT2.o (.inr HR2.o.2.1))
      go_upto_region 30 with (first|(go_at_call 20;refine HUP2.o.mono ?_;rintro e w11 ⟨v11,tk11,tp11,n11,c11,qs11,rfl,hk11,hto11,hsn11,hcs11,_⟩;have HK11:=zh hk11;have HT11:=zh (hto11 _ _ _ HR2.o.2.2);have HCS11:=zh hcs11;clear hk11 hto11 hsn11 hcs11)|fail)
      have hli:=netLie_any w11 gn gd _ _ (.slice none 0 0) n11 [] HK11.o.net (World.ownsRow_nil _ _ _ _) (by decide)
      have HLI2:=zh hli
      clear hli
      go_upto_region 31 with (first|(go_at_call 27;refine HLI2.o.mono ?_;rintro e w12 ⟨vl12,vt12,rfl,hn12,hf12,hs12⟩;have hlied:=HK11.o.lied hn12 hf12 hs12 (fun x hx=>by simp at hx);have HK12:=zh hlied.1;have HT12:=zh (hlied.2 _ _ _ HT11.o);clear hn12 hf12 hs12 hlied)|fail)
      have HUP3:=zh (HK12.o.update (F:=F) (by omega) HN2.o HS2.o HT2.o (.inr HCS11.o))
      go_upto_region 32 with (first|(go_at_call 20;refine HUP3.o.mono ?_;rintro e w13 ⟨v13,tk13,tp13,n13,c13,qs13,rfl,hk13,hto13,hsn13,hcs13,htk13⟩;obtain rfl:=htk13 rfl;have HK13:=zh hk13;have HT13:=zh (hto13 _ _ _ HT12.o);have HCS13:=zh hcs13;have HNL13:=zh (show n13.lies = [] from hsn13.1);clear hk13 hto13 hsn13 hcs13 htk13)|fail)
      obtain⟨W13,hW13⟩:∃ W,W=w13.alloc (.cells #[.int .i64 0,.string tp13] 29):=⟨_,rfl⟩
      obtain⟨tb2,htb2⟩:∃ tb,tb=w13.heap.size:=⟨_,rfl⟩
      have hb13:Below w13.heap.size w13 W13:=by rw[hW13];exact below_alloc w13 _
      have ht13:ToldAt' W13 tb2 0 tp13:=by rw[hW13,htb2];exact heap_alloc_new w13 _
      rw[←htb2,←hW13]
      have HKK13:=zh (HK13.o.grow hb13)
      have HTT13:=zh (And.intro (HT13.o.below hb13) ht13)
      clear hW13 htb2 hb13 ht13
      go_wp2_with fail
      go_loopw [28] (fun s28 wr=>∃ j:Nat,j≤n∧s28=.int .i64 j∧∃ k nt c qs,Aside (k≤4+n+j∧KeSt w2 wr k gd p3.v m3 L3 n ga gc gk mc gn vl12 vt12 nt c qs∧c.size=n∧nt.lies = []∧ToldAt' wr tb 0 tp6∧ToldAt' wr tb2 0 tp13)) (fun s28 _=>n-(intOf s28).toNat)
      case atStart=>exact⟨0,Nat.zero_le _,rfl,_,_,_,_,by omega,HKK13.o,HCS13.o,HNL13.o,HTT13.o.1,HTT13.o.2⟩
      case round=>
       obtain⟨j,hj,rfl,k,nt,c,qs,HR3⟩:=hrel
       by_cases hltj:j<n
       ·have hltjz:(j:Int)<(n:Int):=by omega
        have hj0:(0:Int)≤(j:Int):=by omega
        have HRD:=zh (HR3.o.2.1.read (F:=F) (by have:=HR3.o.1;omega) HN2.o HS2.o HT2.o j (by rw[HR3.o.2.2.1];exact hltj))
        obtain⟨s,hsx⟩:∃ s,Lh[j]?=some s:=⟨_,List.getElem?_eq_getElem (by have:=HLN.o;omega)⟩
        have hse:sOf ((lists m3.es).getD j [])=s:=by
         rw[HES3.o]
         unfold lists
         rw[List.getD_eq_getElem?_getD,List.getElem?_map,hsx]
         exact ByteArray.ext (by simp[sOf])
        have HSE:=zh hse
        have HSX:=zh hsx
        clear hse hsx
        go_upto_region 36 with (first|(go_at_call 22;refine HRD.o.mono ?_;rintro e w15 ⟨nn,v15,s15,tk15,tp15,n15,c15,qs15,rfl,hk15,hto15,hsn15,hcs15,hs15,htk15⟩;obtain rfl:=htk15 HR3.o.2.2.2.1;have HK15:=zh hk15;have HT15:=zh (And.intro (hto15 _ _ _ HR3.o.2.2.2.2.1) (hto15 _ _ _ HR3.o.2.2.2.2.2));have HCS15:=zh (hcs15.trans HR3.o.2.2.1);have HNL15:=zh (hsn15.1.trans HR3.o.2.2.2.1);have HS15:=zh (hs15 rfl);clear hk15 hto15 hsn15 hcs15 hs15 htk15)|fail)
        obtain⟨W15,hW15⟩:∃ W,W=w15.alloc (.cells #[.int .i64 0,.string tp15] 29):=⟨_,rfl⟩
        have hb15:Below w15.heap.size w15 W15:=by rw[hW15];exact below_alloc w15 _
        have hT15:ToldAt' W15 w15.heap.size 0 tp15:=by rw[hW15];exact heap_alloc_new w15 _
        rw[←hW15]
        have HKK:=zh (HK15.o.grow hb15)
        have HTT:=zh (And.intro (HT15.o.1.below hb15) (HT15.o.2.below hb15))
        obtain⟨t0,t1,tf0,tf1,tlt⟩:=hT15.facts
        clear hW15 hb15 hT15
        have hss:s15=s:=HS15.o.trans HSE.o
        subst hss
        obtain⟨a',c',hv,_,hc⟩:=HST2.o
        cases hv
        obtain⟨b,off,rfl,hcell0⟩:=hc j (.string s15) (by simp[HSX.o])
        have hcell:W15.cell? ⟨b,off+j,none⟩=some (.string s15):=(HKK.o.below.cell (p:=⟨b,off+j,none⟩) (cell_lt hcell0)).trans hcell0
        clear hc hcell0
        go_wp2_with fail
        go_roundw
        case rel=>exact⟨j+1,by omega,by go_num,k+1,_,_,_,by have:=HR3.o.1;omega,HKK.o,HCS15.o,HNL15.o,HTT.o.1,HTT.o.2⟩
        case measure=>simp[intOf];omega
       ·have hltjz:¬ (j:Int)<(n:Int):=by omega
        have htr3:=HR3.o.2.1.trusted
        rw[HR3.o.2.2.1] at htr3
        have HTR3:=zh htr3
        clear htr3
        go_upto_region 39 with (first|(go_at_call 21;refine HTR3.o.mono ?_;rintro e w16 ⟨rfl,hk16,hto16⟩;have HK16:=zh hk16;obtain⟨t0,_,_,_,_⟩:=(hto16 _ _ _ HR3.o.2.2.2.2.1).facts;obtain⟨s0,_,_,_,_⟩:=(hto16 _ _ _ HR3.o.2.2.2.2.2).facts;clear hk16 hto16)|fail)
        go_wp2_with fail
        go_ret
        exact⟨rfl,HBW2.o.trans (HK16.o.below.mono HBW2.o.size)⟩
end
section
open Go.RowKit Go.MuLone
def NoneErr (w:World):Prop:=∃ a,w.cell? ⟨8,0,none⟩=some (.iface 338 (.pointer (some a)))
end
section
theorem env_of {W:World} {r r':List (String×DataW Unit)} (h1:laidMet prog (("internal/strconv.uint64pow10",Rows.laid_internal_strconv_uint64pow10) :: r) W)
  (h2:laidMet prog (("strconv.ErrRange",Rows.laid_strconv_ErrRange) :: ("strconv.ErrSyntax",Rows.laid_strconv_ErrSyntax) :: r') W) (hsh:W.ShapedOpen prog):NumEnv W:=by
 have htab:Lib.TabIs prog W "internal/strconv.uint64pow10" .u64 Lib.pow10Tab:=Lib.tabIs_of_head (g:=12) (t:=342) (by kernel_rfl) (by kernel_rfl) underlying342 underlying210 (by kernel_rfl) (by kernel_rfl) h1
 obtain⟨a2,s2⟩:=sent_head (g:=10) h2 (by kernel_rfl) (by kernel_rfl)
 obtain⟨a1,s1⟩:=sent_head (g:=9) h2.tail (by kernel_rfl) (by kernel_rfl)
 have hm:=cell_of_shapedOpen_int (P:=prog) (g:=11) (t:=3) (zero:=#[.int .i64 0]) hsh (of_decide_eq_true (by kernel_rfl)) (by kernel_rfl) rfl (by kernel_rfl) (by kernel_rfl) underlying3
 exact⟨htab,hm,⟨_,s1.1,.inr ⟨_,_,rfl⟩⟩,⟨_,s2.1,.inr ⟨_,_,rfl⟩⟩⟩
end
section
theorem sents_of {W:World} {r:List (String×DataW Unit)} (h:laidMet prog (("tiles/api.ErrEntry",Rows.laid_tiles_api_ErrEntry) :: ("tiles/api.ErrRange",Rows.laid_tiles_api_ErrRange) :: ("tiles/api.ErrCheckpoint",Rows.laid_tiles_api_ErrCheckpoint) :: ("tiles/api.ErrOld",Rows.laid_tiles_api_ErrOld) ::
  ("tiles/api.ErrProof",Rows.laid_tiles_api_ErrProof) :: ("tiles/api.ErrTile",Rows.laid_tiles_api_ErrTile) :: ("tiles/api.ErrFailed",Rows.laid_tiles_api_ErrFailed) :: r) W):∃ f,Sents W f:=by
 obtain⟨a0,h0⟩:=sent_head (text:=sTexts.getD 0 []) (g:=3) h (by kernel_rfl) (by kernel_rfl)
 have h:=h.tail
 obtain⟨a1,h1⟩:=sent_head (text:=sTexts.getD 1 []) (g:=4) h (by kernel_rfl) (by kernel_rfl)
 have h:=h.tail
 obtain⟨a2,h2⟩:=sent_head (text:=sTexts.getD 2 []) (g:=1) h (by kernel_rfl) (by kernel_rfl)
 have h:=h.tail
 obtain⟨a3,h3⟩:=sent_head (text:=sTexts.getD 3 []) (g:=5) h (by kernel_rfl) (by kernel_rfl)
 have h:=h.tail
 obtain⟨a4,h4⟩:=sent_head (text:=sTexts.getD 4 []) (g:=2) h (by kernel_rfl) (by kernel_rfl)
 have h:=h.tail
 obtain⟨a5,h5⟩:=sent_head (text:=sTexts.getD 5 []) (g:=6) h (by kernel_rfl) (by kernel_rfl)
 have h:=h.tail
 obtain⟨a6,h6⟩:=sent_head (text:=sTexts.getD 6 []) (g:=0) h (by kernel_rfl) (by kernel_rfl)
 refine⟨fun i=>[a0,a1,a2,a3,a4,a5,a6].getD i a0,fun i hi=>?_⟩
 have:i=0∨i=1∨i=2∨i=3∨i=4∨i=5∨i=6:=by omega
 rcases this with rfl|rfl|rfl|rfl|rfl|rfl|rfl <;> assumption
theorem errTypeAt:prog.globalNamed "errors.errorType"=some 7:=by kernel_rfl
theorem rtypeAt:(prog.cutTypes.find? (·.1 == "internal/reflectlite.rtype")).map (·.2)=some 282:=by kernel_rfl
theorem errorRow:((List.range prog.types.size).filter fun t=>prog.rowNamed t [101,114,114,111,114]) = [88]:=by kernel_rfl
theorem errorHandle:typeHandle prog 88=.pointer (some ⟨17,88,none⟩):=by kernel_rfl
theorem errT_of {W:World} (h:handlesMet prog [("errors.errorType",Rows.laid_errors_errorType)] W):ErrT W:=by
 obtain⟨name,u,ty,e1,e2,e3,e4,e5⟩:=h _ (List.mem_singleton.2 rfl)
 have en:name = [101,114,114,111,114]:=(Option.some.inj e1).symm
 subst en
 obtain rfl:=Option.some.inj (rtypeAt.symm.trans e2)
 have hm:ty∈(List.range prog.types.size).filter fun t=>prog.rowNamed t [101,114,114,111,114]:=List.mem_filter.2 ⟨List.mem_range.2 e3,e4⟩
 rw[errorRow] at hm
 obtain rfl:=List.mem_singleton.1 hm
 rw[errorHandle] at e5
 have:=World.var?_cell errTypeAt e5 0
 simpa [ErrT] using this
noncomputable def handleWorld (os:Os):World:=
 let w0:=World.holding prog os ⟨#[],#[],[]⟩
 { w0 with heap:=w0.heap.modify 7 fun
   | .cells _ t frozen=>.cells #[.iface 282 (.agg #[.pointer (some ⟨17,88,none⟩)])] t frozen
   | o=>o }
noncomputable def laidH (os:Os) (laid:List (String×DataW Unit)):World:=(handleWorld os).layVars prog (laid.filter fun x=>x.2.handleName?.isNone)
theorem laidH_os (os:Os) (laid:List (String×DataW Unit)):(laidH os laid).os=os:=World.layVars_os _ _ _
theorem laidMetH_laidH {os:Os} {laid:List (String×DataW Unit)} (args:Array Value)
  (hf:(handleWorld os).layFits prog (laid.filter fun x=>x.2.handleName?.isNone) []=true)
  (hi:(handleWorld os).layIfaces prog (laid.filter fun x=>x.2.handleName?.isNone) (laidH os laid)=true)
  (hh:(laid.filter fun x=>x.2.handleName?.isSome).all (handleAtB prog ((laidH os laid).forCall (fun _ _=>0) ⟨#[],args,[]⟩).memory)=true) :
  laidMetH prog laid ((laidH os laid).forCall (fun _ _=>0) ⟨#[],args,[]⟩).memory:=by
 refine laidMetH_of_parts ?_ hh
 generalize hl:(laid.filter fun x=>x.2.handleName?.isNone)=l at hf hi
 have e1:(l.filter fun x=>(l.map (·.1)).contains x.1)=l:=List.filter_eq_self.2 fun x hx=>List.contains_iff_mem.2 (List.mem_map.2 ⟨x,hx,rfl⟩)
 have e2:(l.filter fun x=>!(l.map (·.1)).contains x.1) = []:=List.filter_eq_nil_iff.2 fun x hx=>by rw[List.contains_iff_mem.2 (List.mem_map.2 ⟨x,hx,rfl⟩)];simp
 have h:laidMet prog l (laidH os laid):=laidMet_layVars (w0:=handleWorld os) (l.map (·.1)) [] (by rw[e1];unfold laidH;rw[hl]) (by rw[e1];exact hf) (by rw[e1];exact hi) (by rw[e2];exact LaidIn.none)
 exact h.of_heap (by simp[World.memory,World.forCall,Input.heap])
end
section
theorem noneErr_of {W:World} {r:List (String×DataW Unit)} (h:laidMet prog (("tiles/tiles.errNone",Rows.laid_tiles_tiles_errNone) :: r) W):NoneErr W:=by
 obtain⟨a,ha⟩:=sent_head (g:=8) h (by kernel_rfl) (by kernel_rfl)
 exact⟨a,ha.1⟩
end
section
open Go.ChangeShapes Go.WideShapes Go.ChangeAt Go.RowKit
open Go.ChangeMaps (open_string shut_string)
theorem own:ownKnob prog.godebug=none:=by kernel_rfl
theorem laidOut:laidOutB prog=true:=by kernel_rfl
theorem le_max {n:Nat} (h:n≤maxLen):n≤9223372036854775807:=h
theorem int_bd {n:Int} (h:(Lit.int .i64 n).wf=true) : -9223372036854775808≤n∧n≤9223372036854775807:=by
 have h1:IntKind.i64.min = -9223372036854775808:=rfl
 have h2:IntKind.i64.max=9223372036854775807:=rfl
 simp only[Lit.wf,Bool.and_eq_true,decide_eq_true_eq,h1,h2] at h
 exact h
theorem strs_open {H:Type} {enc:TypeId×Value→H} {W:World} {v:Value} {d:DataW H} {p:List MemPlace} (hv:∃ a l c,v=.slice a l c)
  (h:DataW.Trod enc prog W 0 (fun _=>true) true 22 v d p):∃ ss,StrsAt W v ss∧∀ s∈ss,s.size≤9223372036854775807:=by
 obtain⟨a,l,c,rfl⟩:=hv
 obtain⟨fuel,hf⟩:=h
 rcases open_strings underlying22 underlying9 (by kernel_rfl) hf with ⟨hcs,_⟩|⟨x,len,cap,ss,hcs,_,hl,hm,hz,_,hcell,hws⟩
 ·simp[Value.cells] at hcs
  obtain⟨rfl,rfl,rfl⟩:=hcs
  exact⟨[],⟨none,0,rfl,Nat.le_refl _,fun j x hx=>by simp at hx⟩,by simp⟩
 ·simp[Value.cells] at hcs
  obtain⟨rfl,rfl,rfl⟩:=hcs
  have hz':ss.length=c:=by simpa using hz
  refine⟨ss.take l,⟨some x,c,by simp[hz',hl],by simp;omega,fun j u hu=>?_⟩,fun s hs=>hws s (List.mem_of_mem_take hs)⟩
  have hj:j<l:=by
   have:=(List.getElem?_eq_some_iff.1 hu).1
   simp at this
   omega
  have hc:=hcell j (by omega)
  obtain⟨b,off,spot⟩:=x
  have hspot:spot=none:=by
   have h0:=hcell 0 (by omega)
   simpa [Addr.add] using World.cell?_spot h0
  subst hspot
  rw[Addr.add_lit] at hc
  refine⟨b,off,rfl,hc.trans ?_⟩
  rw[List.getElem?_map,List.getElem?_take_of_lt hj] at hu
  rw[List.getD_eq_getElem?_getD]
  cases hx:ss[j]? with
  | none=>simp[hx] at hu
  | some y=>simp[hx] at hu;subst hu;rfl
end
section
open Go.ChangeShapes Go.WideShapes Go.Deep Go.RowKit
theorem list_of {α:Type} (Q:Nat→α→Prop):∀ (n:Nat),(∀ i,i<n→∃ x,Q i x)→∃ l:List α,l.length=n∧∀ i x,l[i]?=some x→Q i x
 | 0,_=>⟨[],rfl,fun i x hx=>by simp at hx⟩
 | n+1,h=>by
   obtain⟨l,hl,hq⟩:=list_of Q n fun i hi=>h i (by omega)
   obtain⟨x,hx⟩:=h n (by omega)
   refine⟨l ++ [x],by simp[hl],fun i y hy=>?_⟩
   rcases Nat.lt_or_ge i n with hi|hi
   ·rw[List.getElem?_append_left (by omega)] at hy
    exact hq i y hy
   ·rw[List.getElem?_append_right (by omega),hl] at hy
    have:i=n:=by
     rcases Nat.eq_or_lt_of_le hi with e|e
     ·exact e.symm
     ·rw[List.getElem?_eq_none (by simp;omega)] at hy;cases hy
    subst this
    simp at hy
    subst hy
    exact hx
variable {H:Type} {enc:TypeId×Value→H} {W:World} {v:Value} {d:DataW H} {p:List MemPlace}
end
section
open Go.ChangeShapes Go.WideShapes Go.Deep Go.RowKit
theorem ints_open {H:Type} {enc:TypeId×Value→H} {W:World} {v:Value} {d:DataW H} {p:List MemPlace} (hv:∃ a l c,v=.slice a l c) (h:DataW.Trod enc prog W 0 (fun _=>true) true 23 v d p) :
  ∃ l:List Int,IntsAt W v l∧l.length≤maxLen∧∀ a∈l,-9223372036854775808≤a∧a≤9223372036854775807:=by
 obtain⟨a,l,c,rfl⟩:=hv
 obtain⟨fuel,hf⟩:=h
 have hI:prog.cellsOf 3=1:=by kernel_rfl
 rcases open_slice underlying23 hf with ⟨hcs,_⟩|⟨x,len,cap,m,n,D,Pl,hcs,_,hl,hm,hmm,_,hi⟩
 ·simp[Value.cells] at hcs
  obtain⟨rfl,rfl,rfl⟩:=hcs
  exact⟨[],⟨none,0,rfl,Nat.le_refl _,fun j x hx=>by simp at hx⟩,Nat.zero_le _,fun o ho=>by cases ho⟩
 ·simp[Value.cells] at hcs
  obtain⟨rfl,rfl,rfl⟩:=hcs
  have key:∀ i,i<l→∃ y:Int,(-9223372036854775808≤y∧y≤9223372036854775807)∧W.cell? ((x.add (i*1)).add 0)=some (.int .i64 y):=fun i hil=>by
   obtain⟨cs',hc,ht'⟩:=hi i (by rw[hmm];simp;omega)
   rw[hI] at hc
   obtain⟨_,hcl,hat⟩:=World.cells?_some hc
   obtain⟨s0,e0,_,w0⟩:=DataW.trod_int underlying3 ht'
   subst e0
   have c0:=hat 0 (by decide)
   exact⟨s0,int_bd w0,by simpa using c0⟩
  obtain⟨ls,hls,hq⟩:=list_of _ l key
  subst hls
  refine⟨ls,⟨some x,c,rfl,hl,fun j f hj=>?_⟩,Nat.le_trans hl hm,fun o ho=>?_⟩
  ·obtain⟨_,k1⟩:=hq j f hj
   obtain⟨f0,_,z0⟩:=key 0 (by have:=(List.getElem?_eq_some_iff.1 hj).1;omega)
   obtain⟨b,off,spot⟩:=x
   have hspot:spot=none:=by simpa [Addr.add] using World.cell?_spot z0
   subst hspot
   rw[Addr.add_lit,Addr.add_lit] at k1
   exact⟨b,off,rfl,by simpa using k1⟩
  ·obtain⟨j,hj⟩:=List.mem_iff_getElem?.1 ho
   exact (hq j o hj).1
end
section
open Go.ChangeShapes Go.RowKit
variable {H:Type} {enc:TypeId×Value→H}
theorem handed_shaped_and {a:Assume} {C:Checked} {os:Os} {f:FuncId} {fn:Func} {s:ChangeSpec} {conds:List PathCond} {apart fresh handsOn again:Bool} {X:World→Array Value→Prop}
  (hX:∀ (w w':World) (args:Array Value),w.heap=w'.heap→X w args→X w' args)
  (own:ownKnob C.prog.godebug=none) (started:os.Started) (noInit:C.prog.inits.idxOf? f=none) (hfn:C.prog.funcs[f]?=some fn)
  (witness:∃ (w:World) (tape:Tape) (i:Input),w.os=os∧(w.forCall tape i).Shaped C.prog∧i.vars = []∧Input.okWide C.prog (w.forCall tape i) .any w.heap.size f i∧
   ((s.pre enc C.prog fn conds apart (w.forCall tape i).memory i.args∧X (w.forCall tape i).memory i.args)∧sizedMet enc C.prog fn (OpenSpec.ofChange s) apart (w.forCall tape i).memory i.args)∧a.holds C.prog (lone (Frame.enter C.prog f i.args .normal) [] (w.forCall tape i)))
  (contract:∀ (W:World) (base:Nat) (args:Array Value) (ds gs:List (DataW H)) (before:List MemPlace),
   (∀ (j:Nat) t v,fn.params[j]?=some t→args[j]?=some v→Value.okWide C.prog W .any base t v)→
   DataW.Whole enc C.prog fn.params.toList s.vars apart W args.toList ds gs before→W.ShapedOpen C.prog→X W args→
   Calls C.prog f args W fun e W'=>∃ v,e=.returned v∧s.post enc C.prog fn apart fresh handsOn again W args v W') :
  ReturnsInHanded a C os f .any (fun w args=>(s.pre enc C.prog fn conds apart w args∧X w args)∧sizedMet enc C.prog fn (OpenSpec.ofChange s) apart w args) (s.post enc C.prog fn apart fresh handsOn again):=by
 refine returnsInHanded_of_calls own started noInit witness ?_
 intro w tape i _ hsh _ hok hpre _
 obtain⟨_,_,_,fn',hfn',_,_,_,_,hval⟩:=hok
 have e:fn'=fn:=Option.some.inj (hfn'.symm.trans hfn)
 subst e
 obtain⟨⟨⟨ds,gs,before,hw,_⟩,hx⟩,_⟩:=hpre
 have hw':=DataW.Whole.of_heap (w':=w.forCall tape i) (by rfl) hw
 refine (contract (w.forCall tape i) w.heap.size i.args ds gs before hval hw' hsh (hX _ _ _ (by rfl) hx)).mono fun e W' ⟨v,he,hp⟩=>?_
 subst he
 exact ChangeSpec.post_blind hp
end
end Go.Proofs.YtefccfakhgdfbabGreatDoor
