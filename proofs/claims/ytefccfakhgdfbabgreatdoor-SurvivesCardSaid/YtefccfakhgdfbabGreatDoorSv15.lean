/- recent.Cache in memory, and its ring under take and front. Conditions: the block is such a cache. -/
import Derived.Test.YtefccfakhgdfbabGreatDoorSv14
import Derived.Maps.OwnIn
set_option linter.unusedVariables false
set_option linter.unusedSimpArgs false
open Go.RowKit Go.Proofs.Tryz
set_option maxRecDepth 100000
set_option maxHeartbeats 4000000
namespace Go.Proofs.YtefccfakhgdfbabGreatDoor
section
def IntsAt (w:World) (v:Value) (l:List Int):Prop:=
 ∃ a c,v=.slice a l.length c∧l.length≤c∧∀ j x,l[j]?=some x→∃ b off,a=some ⟨b,off,none⟩∧w.cell? ⟨b,off+j,none⟩=some (.int .i64 x)
theorem IntsAt.below {w w':World} {v:Value} {l:List Int} (h:IntsAt w v l) (hb:Below w.heap.size w w'):IntsAt w' v l:=by
 obtain⟨a,c,h1,h2,h3⟩:=h
 refine⟨a,c,h1,h2,fun j x hx=>?_⟩
 obtain⟨b,off,h4,h5⟩:=h3 j x hx
 exact⟨b,off,h4,(hb.cell (p:=⟨b,off+j,none⟩) (cell_lt h5)).trans h5⟩
structure PubAt (w0:World) (tb gl gd:Nat) (key:ByteArray) (ss:List ByteArray) (i kb:Nat) (w:World) (k:Nat) (p:Pl) (m:Wm) (L:Lg):Prop where
 st:KpSt w0 w k key p m L
 es:m.es=ss.take i
 gl:p.gl=gl
 gd:p.gd=gd
 told:ToldAt' w tb 0 ⟨#[]⟩
 kb:k≤kb
section
variable {F:Nat→Addr} {w0 w:World} {tb gl gd:Nat} {key:ByteArray} {ss:List ByteArray} {i kb k:Nat} {p:Pl} {m:Wm} {L:Lg}
theorem PubAt.grow (h:PubAt w0 tb gl gd key ss i kb w k p m L) {w':World} (hb:Below w.heap.size w w'):PubAt w0 tb gl gd key ss i kb w' k p m L:=
 ⟨h.st.grow hb,h.es,h.gl,h.gd,h.told.below hb,h.kb⟩
theorem PubAt.append (h:PubAt w0 tb gl gd key ss i kb w k p m L) (hk:kb≤8000) (hn:NumEnv w0) (hS:Sents w0 F) (hT:ErrT w0) {s:ByteArray} (hs:ss[i]?=some s) (h20:s.size≤20) :
  Calls prog 12 #[.pointer (some ⟨gl,0,none⟩),.string s] w fun e w'=>e=.returned (.tuple #[.int .i64 (i:Nat),toldV 0 ⟨#[]⟩])∧∃ k' p' m' L',PubAt w0 tb gl gd key ss (i+1) (kb+1) w' k' p' m' L'∧m'.d=m.d∧L'.put=L.put:=by
 have hc:=h.st.append (F:=F) (by have:=h.kb;omega) hn hS hT s h20
 rw[h.gl] at hc
 refine hc.mono fun e w' hq=>?_
 obtain⟨he,p',L',h1,h2,h3,hf⟩:=hq
 have hi:=(List.getElem?_eq_some_iff.1 hs).1
 have hlen:m.es.length=i:=by rw[h.es,List.length_take];omega
 rw[hlen] at he
 refine⟨he,k+1,p',_,L',⟨h3,?_,h1.trans h.gl,h2.trans h.gd,h.told.kept hf h.st.is.kinds (by decide),by have:=h.kb;omega⟩,rfl,?_⟩
 ·show m.es ++ [s]=_
  rw[h.es,List.take_add_one,hs]
  rfl
 ·rw[←Option.some.inj (show some _=some L' from h3.rdw.log)]
theorem PubAt.publish (h:PubAt w0 tb gl gd key ss i kb w k p m L) (hk:kb≤8000) (hn:NumEnv w0) (hS:Sents w0 F) (hT:ErrT w0) (hi:i≤ss.length) (hkey:key.size≤9223372036854775807) :
  Calls prog 15 #[.pointer (some ⟨gl,0,none⟩)] w fun e w'=>e=.returned (.tuple #[.int .i64 (i:Nat),toldV 0 ⟨#[]⟩])∧∃ k p m L,PubAt w0 tb gl gd key ss i (kb+1) w' k p m L∧RdW m L i∧getF m.d.files (sOf kCp)=some (cpOf (lists m.es) m.key):=by
 have hc:=h.st.publish (F:=F) (by have:=h.kb;omega) hn hS hT hkey
 rw[h.gl] at hc
 refine hc.mono fun e w' hq=>?_
 obtain⟨he,p',L',h1,h2,h3,hf⟩:=hq
 have hlen:m.es.length=i:=by rw[h.es,List.length_take];omega
 have hfew:=h.st.few
 have hr:=rdw_pub h.st.rdw (by have:=h.kb;omega)
 have hcp:=rdw_pub_cp h.st.rdw (by have:=h.kb;omega)
 have e2:L'={ L with put:=(pubD L.entries L.key L.put m.d).2.1,failed:=(pubD L.entries L.key L.put m.d).2.2.isSome }:=by
  have:=h3.rdw.log
  exact (Option.some.inj this).symm
 rw[hlen] at he hr
 refine⟨he,k+1,p',_,L',⟨h3,h.es,h1.trans h.gl,h2.trans h.gd,h.told.kept hf h.st.is.kinds (by decide),by have:=h.kb;omega⟩,by rw[e2];exact hr,hcp⟩
end
def PublPost (w:World) (key:ByteArray) (ss:List ByteArray) (e:Ending) (w':World):Prop:=
 ∃ k p m L,e=.returned (.pointer (some ⟨p.gd,0,none⟩))∧k≤2*ss.length+2∧KpSt w w' k key p m L∧RdW m L ss.length∧m.es=ss∧getF m.d.files (sOf kCp)=some (cpOf (lists ss) key)
theorem published_any (F:Nat→Addr) (w:World) (va vt:Value) (ss:List ByteArray) (ats:List Int) (key:ByteArray) (hs:StrsAt w va ss) (ha:IntsAt w vt ats) (hn:ss.length≤200) (h20:∀ s∈ss,s.size≤20) (hal:ats.length≤9223372036854775807) (hab:∀ a∈ats,-9223372036854775808≤a∧a≤9223372036854775807)
  (hkey:key.size≤9223372036854775807) (hN:NumEnv w) (hS:Sents w F) (hT:ErrT w) :
  Calls prog 9 #[va,vt,.string key] w (PublPost w key ss):=by
 have HSS:=zh hs
 have HAT:=zh ha
 obtain⟨a0,c0,rfl,_,hc0⟩:=hs
 obtain⟨a1,c1,rfl,_,hc1⟩:=ha
 have HC0:=zh hc0
 have HC1:=zh hc1
 have HND:=zh (newDisk_any w (.slice none 0 0) [] ⟨none,0,rfl,Nat.le_refl _,fun j x hx=>by simp at hx⟩ (by decide))
 have HN:=zh hN
 have HS:=zh hS
 have HT:=zh hT
 have H20:=zh h20
 have HAB:=zh hab
 have HKEY:=zh hkey
 clear hc0 hc1 hN hS hT h20 hab hkey
 go_enter func9,ntmps9
 go_upto_region 2 with (first|(go_at_call 35;refine HND.o.mono ?_;rintro e w1 ⟨gd,dv,rfl,hd,hb1,hg,hdv⟩;have HD:=zh hd;have HB1:=zh hb1;have HG:=zh hg;have HDV:=zh hdv;clear hd hb1 hdv hg)|fail)
 have HOP:=zh (kp_open (F:=F) (U:=[]) (K:=0) (ss:=[]) (n:=0) (key:=key) HD.o (envS_of HB1.o HN.o HS.o HT.o fun i hi=>hi ▸ HG.o) ⟨rfl,rfl,rfl⟩ (sane_new (l:=[]) (Nat.le_refl _) (fun f hf=>by simp at hf)) (by simp) (by omega) HKEY.o (open_empty key))
 go_upto_region 3 with (first|(go_at_call 10;refine HOP.o.mono ?_;rintro e w2 ⟨p,d',j,rfl,hp1,hp2,hcm,hkp,hf2,hnw,hj⟩;have HP1:=zh hp1;have HCM:=zh hcm;have HKP:=zh hkp;have HF2:=zh hf2;have HNW:=zh hnw;have HJ:=zh hj;clear hp1 hp2 hcm hkp hf2 hnw hj)|fail)
 obtain⟨W3,hW3⟩:∃ W,W=w2.alloc (.cells #[.int .i64 0,.string ⟨#[]⟩] 29):=⟨_,rfl⟩
 have hb3:Below w2.heap.size w2 W3:=by rw[hW3];exact below_alloc w2 _
 have ht3:ToldAt' W3 w2.heap.size 0 ⟨#[]⟩:=by rw[hW3];exact heap_alloc_new w2 _
 rw[←hW3]
 obtain⟨gl,hgl⟩:∃ gl,gl=p.gl:=⟨_,rfl⟩
 rw[←hgl]
 have hst:=(kp_new HB1.o HG.o (fun i hi=>HDV.o i hi) HCM.o HJ.o HKP.o HF2.o HNW.o).grow hb3
 have HTB:=zh (show w.heap.size≤w2.heap.size from (Nat.le_trans HB1.o.size HF2.o.size))
 have HP0:=zh (show PubAt w w2.heap.size gl gd key ss 0 0 W3 0 p _ _ from ⟨hst,by simp,hgl.symm,HP1.o,ht3,Nat.le_refl _⟩)
 clear hW3 hb3 hgl hst
 obtain⟨tb,htb⟩:∃ tb,tb=w2.heap.size:=⟨_,rfl⟩
 rw[←htb] at ht3 HP0 HTB ⊢
 obtain⟨t0,t1,tf0,tf1,tlt⟩:=ht3.facts
 clear htb
 go_wp2_with fail
 go_loopw [10] (fun s10 wr=>∃ i:Nat,i≤ss.length∧s10=.int .i64 i∧∃ k p m L,Aside (PubAt w tb gl gd key ss i (2*i) wr k p m L)) (fun s10 _=>ss.length-(intOf s10).toNat)
 case atStart=>exact⟨0,Nat.zero_le _,rfl,_,_,_,_,HP0.o⟩
 case round=>
  obtain⟨i,hi,rfl,k,p1,m,L,HP⟩:=hrel
  clear t0 t1 tf0 tf1 tlt
  by_cases hlt:i<ss.length
  ·have hltz:(i:Int)<(ss.length:Int):=by omega
   have hi0:(0:Int)≤(i:Int):=by omega
   obtain⟨s,hsx⟩:∃ s,ss[i]?=some s:=⟨_,List.getElem?_eq_getElem hlt⟩
   have hsz:=H20.o s (List.mem_of_getElem? hsx)
   obtain⟨b,off,rfl,hcell0⟩:=HC0.o i (.string s) (by simp[hsx])
   have hcell:wr.cell? ⟨b,off+i,none⟩=some (.string s):=(HP.o.st.below.cell (p:=⟨b,off+i,none⟩) (cell_lt hcell0)).trans hcell0
   have HAP:=zh (HP.o.append (F:=F) (by omega) HN.o HS.o HT.o hsx hsz)
   clear hcell0 hsx
   go_upto_region 9 with (first|(go_at_call 12;refine HAP.o.mono ?_;rintro e w4 ⟨rfl,k4,p4,m4,L4,hp4,_,_⟩;have HP4:=zh hp4;clear hp4)|fail)
   obtain⟨W4,hW4⟩:∃ W,W=w4.alloc (.cells #[.int .i64 0,.string ⟨#[]⟩] 29):=⟨_,rfl⟩
   have hb4:Below w4.heap.size w4 W4:=by rw[hW4];exact below_alloc w4 _
   have hT4:ToldAt' W4 w4.heap.size 0 ⟨#[]⟩:=by rw[hW4];exact heap_alloc_new w4 _
   rw[←hW4]
   have HQ4:=zh (HP4.o.grow hb4)
   obtain⟨t0,t1,tf0,tf1,tlt⟩:=hT4.facts
   clear hW4 hb4 hT4 hcell
   go_upto_region 11 with fail
   by_cases hz:ats.length=0
   ·have hd:decide ((0:Int)<(ats.length:Int))=false:=decide_eq_false (by omega)
    go_wp2_with fail
    go_roundw
    case rel=>exact⟨i+1,by omega,by go_num,_,_,_,_,⟨HQ4.o.st,HQ4.o.es,HQ4.o.gl,HQ4.o.gd,HQ4.o.told,by have:=HQ4.o.kb;omega⟩⟩
    case measure=>simp[intOf];omega
   ·have hd:decide ((0:Int)<(ats.length:Int))=true:=decide_eq_true (by omega)
    obtain⟨q,hq⟩:∃ q,q=i%ats.length:=⟨_,rfl⟩
    have hql:q<ats.length:=by rw[hq];exact Nat.mod_lt _ (by omega)
    obtain⟨av,hav⟩:∃ av,ats[q]?=some av:=⟨_,List.getElem?_eq_getElem hql⟩
    have hav2:=HAB.o av (List.mem_of_getElem? hav)
    obtain⟨b1,o1,rfl,hc1⟩:=HC1.o _ _ hav
    have hcell1:W4.cell? ⟨b1,o1+q,none⟩=some (.int .i64 av):=(HQ4.o.st.below.cell (p:=⟨b1,o1+q,none⟩) (cell_lt hc1)).trans hc1
    obtain⟨pk,hpk⟩:∃ pk,pk=pickN av 3:=⟨_,rfl⟩
    have hpick:=fun (W:World)=>kpick_any av 3 W hav2.1 hav2.2 (by decide) (by decide)
    rw[←hpk] at hpick
    have hv:(i:Int)%(ats.length:Int)=(q:Int):=by rw[hq];simp
    have hnz:((ats.length:Int) == 0)=false:=by rw[beq_eq_false_iff_ne];omega
    have hnz2:¬ (ats.length:Int)=0:=by omega
    have HPICK:=zh hpick
    have hq0:(0:Int)≤(q:Int):=by omega
    have hqz:(q:Int)<(ats.length:Int):=by omega
    clear hav hav2 hpick hc1 hq hpk
    rcases Nat.eq_zero_or_pos pk with rfl|hpos
    ·have HPB:=zh (HQ4.o.publish (F:=F) (by omega) HN.o HS.o HT.o (by omega) HKEY.o)
     go_upto_region 12 with (first|(go_at_call 14;refine (HPICK.o _).mono ?_;rintro e w5 ⟨rfl,rfl⟩)|fail)
     clear t0 t1 tf0 tf1 tlt hcell1
     go_upto_region 13 with (first|(go_at_call 15;refine HPB.o.mono ?_;rintro e w6 ⟨rfl,k6,p6,m6,L6,hp6,_,_⟩;have HP6:=zh hp6;clear hp6)|fail)
     obtain⟨W6,hW6⟩:∃ W,W=w6.alloc (.cells #[.int .i64 0,.string ⟨#[]⟩] 29):=⟨_,rfl⟩
     have hb6:Below w6.heap.size w6 W6:=by rw[hW6];exact below_alloc w6 _
     have hT6:ToldAt' W6 w6.heap.size 0 ⟨#[]⟩:=by rw[hW6];exact heap_alloc_new w6 _
     rw[←hW6]
     have HQ6:=zh (HP6.o.grow hb6)
     obtain⟨t0,t1,tf0,tf1,tlt⟩:=hT6.facts
     clear hW6 hb6 hT6
     go_wp2_with fail
     go_roundw
     case rel=>exact⟨i+1,by omega,by go_num,_,_,_,_,⟨HQ6.o.st,HQ6.o.es,HQ6.o.gl,HQ6.o.gd,HQ6.o.told,by have:=HQ6.o.kb;omega⟩⟩
     case measure=>simp[intOf];omega
    ·have hpz:((pk:Int) == 0)=false:=by rw[beq_eq_false_iff_ne];omega
     go_wp2_with (first|(go_at_call 14;refine (HPICK.o _).mono ?_;rintro e w5 ⟨rfl,rfl⟩)|fail)
     go_roundw
     case rel=>exact⟨i+1,by omega,by go_num,_,_,_,_,⟨HQ4.o.st,HQ4.o.es,HQ4.o.gl,HQ4.o.gd,HQ4.o.told,by have:=HQ4.o.kb;omega⟩⟩
     case measure=>simp[intOf];omega
  ·have hltz:¬ (i:Int)<(ss.length:Int):=by omega
   have hie:i=ss.length:=by omega
   subst hie
   have HPB:=zh (HP.o.publish (F:=F) (by omega) HN.o HS.o HT.o (Nat.le_refl _) HKEY.o)
   go_upto_region 15 with fail
   obtain⟨t0,t1,tf0,tf1,tlt⟩:=HP.o.told.facts
   go_upto_region 16 with (first|(go_at_call 15;refine HPB.o.mono ?_;rintro e w4 ⟨rfl,k4,p4,m4,L4,hp4,hr4,hcp4⟩;have HP4:=zh hp4;have HR4:=zh hr4;have HCP4:=zh hcp4;obtain⟨t0,t1,tf0,tf1,tlt⟩:=hp4.told.facts;clear hp4 hr4 hcp4)|fail)
   have hts:=told_set (m:=0) (t:=⟨#[]⟩) HP4.o.told
   obtain⟨W5,hW5⟩:∃ W,W=(w4.setCell ⟨tb,0,none⟩ (.int .i64 0)).setCell ⟨tb,1,none⟩ (.string ⟨#[]⟩):=⟨_,rfl⟩
   rw[←hW5] at hts ⊢
   clear t0 t1 tf0 tf1 tlt
   obtain⟨t0,t1,tf0,tf1,tlt⟩:=hts.1.facts
   have HST:=zh (HP4.o.st.told HP4.o.told HTB.o hts.2)
   obtain⟨⟨_,_,_,_,_,_,_,d7⟩,_⟩:=HST.o.is.disk.cells
   rw[HST.o.rdw.sound.fresh.turned,HP4.o.gd] at d7
   clear hts hW5
   go_wp2_with fail
   go_ret
   exact⟨k4,p4,m4,L4,by rw[HP4.o.gd];rfl,by have:=HP4.o.kb;omega,HST.o,HR4.o,by rw[HP4.o.es,List.take_length],by have:=HCP4.o;rw[HP4.o.es,List.take_length,HST.o.mkey] at this;exact this⟩
end
section
def FitPost (o:Option (List UInt8)) (w:World) (e:Ending) (w':World):Prop:=
 Below w.heap.size w w'∧((o=none∧∃ a n c,e=.returned (.tuple #[.slice a n c,.bool false]))∨∃ b a n c,o=some b∧e=.returned (.tuple #[.slice a n c,.bool true])∧OwnBytes w' w.heap.size (.slice a n c) b)
theorem bytes_first {w:World} {a:Option Addr} {c:Nat} {l:List UInt8} (h:BytesAt w (.slice a l.length c) l) {k:Nat} (hk:k≤l.length):BytesAt w (.slice a k c) (l.take k):=by
 obtain⟨a',c',hv,hc,hx⟩:=h
 simp only[Value.slice.injEq,true_and] at hv
 obtain⟨rfl,rfl⟩:=hv
 refine⟨a,c,?_,by rw[List.length_take];omega,fun j u hu=>?_⟩
 ·rw[List.length_take,Nat.min_eq_left hk]
 ·refine hx j u ?_
  rw[List.map_take] at hu
  have hj:=(List.getElem?_eq_some_iff.1 hu).1
  rw[List.length_take] at hj
  rwa [List.getElem?_take_of_lt (by omega)] at hu
theorem ownB_any {w:World} {base:Nat} {v:Value} {l:List UInt8} (h:OwnBytes w base v l):∃ a n c,v=.slice a n c:=by
 rcases h with ⟨rfl,rfl⟩|⟨b,off,c,C,fz,rfl,_⟩
 ·exact⟨none,0,0,rfl⟩
 ·exact⟨_,_,c,rfl⟩
theorem hfit_any (w:World) (v:Value) (data:List UInt8) (hv want:Nat) (h:BytesAt w v data) (h1:1≤want) (h2:want≤hv) (h4:hv≤4) :
  Calls prog 143 #[v,.int .i64 hv,.int .i64 want] w (FitPost (fitsHash data hv want) w):=by
 obtain⟨a,c,rfl⟩:∃ a c,v=.slice a data.length c:=by obtain⟨a,c,h1,_,_⟩:=h;exact⟨a,c,h1⟩
 by_cases hf:data.length=8*hv
 ·have hfit:fitsHash data hv want=some (data.take (8*want)):=by unfold fitsHash;rw[if_pos hf]
  have hb:=bytes_first h (k:=8*want) (by omega)
  have hcl:=fun (W:World) (hW:Below w.heap.size w W)=>clone_any (.slice a (8*want) c) (data.take (8*want)) W (hb.below hW) (by rw[List.length_take];omega)
  have hle:(8*want:Nat)≤c:=by
   obtain⟨_,_,hv',hc,_⟩:=h
   simp only[Value.slice.injEq,true_and] at hv'
   omega
  have hw1:wrap64 (8*(hv:Int))=8*(hv:Int):=by unfold wrap64;omega
  have hw2:wrap64 (8*(want:Int))=8*(want:Int):=by unfold wrap64;omega
  have hz:((data.length:Int) == 8*(hv:Int))=true:=by rw[beq_iff_eq];omega
  have he:(data.length:Int)=8*(hv:Int):=by omega
  have htn:(8*(want:Int)).toNat=8*want:=by omega
  have h0:(0:Int)≤8*(want:Int):=by omega
  have hlc:8*(want:Int)≤(c:Int):=by omega
  have HF:=zh hfit
  have HCL:=zh hcl
  clear hfit hcl hb h hf
  go_enter func143,ntmps143
  go_wp2_with (go_at_call 75;refine (HCL.o _ (Below.refl _ _)).mono ?_;rintro e w1 ⟨v1,rfl,ho1,hb1⟩;have HO1:=zh ho1;have HB1:=zh hb1;obtain⟨a1,n1,c1,rfl⟩:=ownB_any ho1;clear ho1 hb1)
  go_ret2
  exact⟨HB1.o,.inr ⟨_,_,_,_,HF.o,rfl,HO1.o⟩⟩
 ·have hfit:fitsHash data hv want=none:=by unfold fitsHash;rw[if_neg hf]
  have hw1:wrap64 (8*(hv:Int))=8*(hv:Int):=by unfold wrap64;omega
  have hz:((data.length:Int) == 8*(hv:Int))=false:=by rw[beq_eq_false_iff_ne];omega
  have he:¬ (data.length:Int)=8*(hv:Int):=by omega
  have HF:=zh hfit
  clear hfit h hf
  go_enter func143,ntmps143
  go_wp2
  go_ret2
  exact⟨Below.refl _ _,.inl ⟨HF.o,_,_,_,rfl⟩⟩
theorem bss_first {w:World} {a:Option Addr} {c:Nat} {ls:List (List UInt8)} (h:BssAt w (.slice a ls.length c) ls) {k:Nat} (hk:k≤ls.length):BssAt w (.slice a k c) (ls.take k):=by
 obtain⟨vs,hl,⟨a',c',hv,hc,hx⟩,hall⟩:=h
 simp only[Value.slice.injEq] at hv
 obtain⟨rfl,hlen,rfl⟩:=hv
 refine⟨vs.take k,by rw[List.length_take,List.length_take,hl],⟨a,c,?_,by rw[List.length_take];omega,fun j u hu=>?_⟩,fun j u l hu hl'=>?_⟩
 ·rw[List.length_take,Nat.min_eq_left hk]
 ·have hj:=(List.getElem?_eq_some_iff.1 hu).1
  rw[List.length_take] at hj
  rw[List.getElem?_take_of_lt (by omega)] at hu
  exact hx j u hu
 ·have hj:=(List.getElem?_eq_some_iff.1 hu).1
  rw[List.length_take] at hj
  rw[List.getElem?_take_of_lt (by omega)] at hu hl'
  exact hall j u l hu hl'
theorem bss_cap {w:World} {a:Option Addr} {n c:Nat} {ls:List (List UInt8)} (h:BssAt w (.slice a n c) ls):ls.length≤c:=by
 obtain⟨vs,hl,⟨a',c',hv,hc,hx⟩,hall⟩:=h
 simp only[Value.slice.injEq] at hv
 omega
theorem fb_some {ls:List (List UInt8)} {l:List UInt8} {w w':World} {v:Value} (hb:bundleOf ls=some l) (h:(bundleOf ls=none∧v=.slice none 0 0)∨∃ l,bundleOf ls=some l∧OwnBytes w' w.heap.size v l∧∃ a n c,v=.slice (some a) n c):OwnBytes w' w.heap.size v l∧∃ a n c,v=.slice a n c:=by
 rcases h with ⟨h,_⟩|⟨l',h1,h2,a,n,c,h3⟩
 ·rw[hb] at h;cases h
 ·rw[hb] at h1
  cases h1
  exact⟨h2,_,n,c,h3⟩
theorem bfit_any (w:World) (v:Value) (data:List UInt8) (hv want:Nat) (h:BytesAt w v data) (hl:data.length≤1099511627776) (h1:1≤want) (h2:want≤hv) (h4:hv≤4) :
  Calls prog 93 #[v,.int .i64 hv,.int .i64 want] w (FitPost (fitsBun data hv want) w):=by
 cases hu:unbundleOf data with
 | none=>
  have hfit:fitsBun data hv want=none:=by unfold fitsBun;rw[hu];rfl
  have hcon:=unb_none h hl hu
  have HF:=zh hfit
  have HC:=zh hcon
  clear hfit hcon h hu
  go_enter func93,ntmps93
  go_wp2_with (go_at_call 94;refine HC.o.mono ?_;rintro e w1 ⟨rfl,hb1⟩;have HB1:=zh hb1;clear hb1)
  go_ret2
  exact⟨HB1.o,.inl ⟨HF.o,_,_,_,rfl⟩⟩
 | some ls=>
  have hcon:=unb_some h hl hu
  have hlens:=unbundleOf_lens hu
  by_cases hlen:ls.length=hv
  ·have hz:((ls.length:Int) == (hv:Int))=true:=by rw[beq_iff_eq];omega
   have he:(ls.length:Int)=(hv:Int):=by omega
   have hlt:(ls.take want).length=want:=by rw[List.length_take];omega
   have hbo:bundleOf (ls.take want)=some ((ls.take want).map encE).flatten:=by
    rw[bundle_some (by omega) (by omega) fun j l hj=>hlens.2.2 l (List.mem_of_mem_take (List.mem_of_getElem? hj)),List.flatMap_def]
   have hfit:fitsBun data hv want=some ((ls.take want).map encE).flatten:=by
    unfold fitsBun
    rw[hu,Option.bind_some,if_pos hlen]
    exact hbo
   have hwc:(want:Int)≤(hv:Int):=by omega
   have h0:(0:Int)≤(want:Int):=by omega
   have HF:=zh hfit
   have HC:=zh hcon
   have HBO:=zh hbo
   have HLT:=zh hlt
   clear hfit hcon h hu hlens hbo hlt
   go_enter func93,ntmps93
   go_wp2_with (first|(go_at_call 94;refine HC.o.mono ?_;rintro e w1 ⟨b1,c1,rfl,ho1,hb1⟩;have HB1:=zh hb1;have hbs:=bss_first (k:=want) ho1.at (by omega);have hcap:=bss_cap ho1.at;have hcz:(want:Int)≤(c1:Int):=(by omega);have HBS:=zh hbs;clear ho1 hb1 hbs hcap)|(go_at_call 79;refine (fbundle_any _ (ls.take want) _ HBS.o (by rw[HLT.o];omega)).mono ?_;intro e w2 h2;obtain⟨v2,rfl,hb2,h2⟩:=h2;have hy:=fb_some HBO.o h2;obtain⟨ho2,a2,n2,c2,rfl⟩:=hy;have HO2:=zh ho2;have HB2:=zh hb2;clear h2 hb2 ho2)|fail)
   go_ret2
   exact⟨HB1.o.trans (HB2.o.mono HB1.o.size),.inr ⟨_,_,_,_,HF.o,rfl,HO2.o.mono HB1.o.size⟩⟩
  ·have hfit:fitsBun data hv want=none:=by unfold fitsBun;rw[hu,Option.bind_some,if_neg hlen]
   have he:¬ (ls.length:Int)=(hv:Int):=by omega
   have hz:((ls.length:Int) == (hv:Int))=false:=by rw[beq_eq_false_iff_ne];omega
   have HF:=zh hfit
   have HC:=zh hcon
   clear hfit hcon h hu hlens
   go_enter func93,ntmps93
   go_wp2_with (go_at_call 94;refine HC.o.mono ?_;rintro e w1 ⟨b1,c1,rfl,ho1,hb1⟩;have HB1:=zh hb1;clear ho1 hb1)
   go_ret2
   exact⟨HB1.o,.inl ⟨HF.o,_,_,_,rfl⟩⟩
end
section
def lieCells (l:Lie1):List Value:=[.string l.path,.string l.data,.bool l.fails,.int .i64 l.times]
def lieRow (ls:List Lie1):List Value:=ls.flatMap lieCells
theorem lieRow_at:∀ (l:List Lie1) (j:Nat) (x:Lie1),l[j]?=some x→(lieRow l)[j*4]?=some (.string x.path)∧(lieRow l)[j*4+1]?=some (.string x.data)∧(lieRow l)[j*4+2]?=some (.bool x.fails)∧(lieRow l)[j*4+3]?=some (.int .i64 x.times)
 | [],j,x,h=>by simp at h
 | a :: l,0,x,h=>by simp at h;subst h;exact⟨rfl,rfl,rfl,rfl⟩
 | a :: l,j+1,x,h=>by
   have:=lieRow_at l j x (by simpa using h)
   have e:lieRow (a :: l)=.string a.path :: .string a.data :: .bool a.fails :: .int .i64 a.times :: lieRow l:=rfl
   rw[e,show (j+1)*4=j*4+1+1+1+1 by omega]
   simpa using this
def toldRow (l:List Nat):List Value:=l.map fun (k:Nat)=>.int .i64 (k:Int)
def ntCells (gd:Nat) (vl vt:Value) (n:Nt):Array Value:=#[.pointer (some ⟨gd,0,none⟩),vl,vt,.int .i64 n.fetches]
structure NetIs (w:World) (g gd:Nat) (vl vt:Value) (n:Nt):Prop where
 cells:w.heap[g]?=some (.cells (ntCells gd vl vt n) 103 (0,0))
 lies:w.ownsRow 0 75 4 vl n.lies.length (lieRow n.lies)
 told:w.ownsRow 0 3 1 vt n.told.length (toldRow n.told)
 len:n.told.length=n.lies.length
 le:∀ k∈n.told,k≤n.fetches
def netS (g:Nat) (vt:Value) (k:Nat):Prop:=k=g∨vt.ownBlock=some k
theorem NetIs.fr {S:Nat→Prop} {w w':World} {g gd:Nat} {vl vt:Value} {n:Nt} (h:NetIs w g gd vl vt n) (hf:Fr S w w') (hg:¬ S g) (hl:∀ k,vl.ownBlock=some k→¬ S k) (ht:∀ k,vt.ownBlock=some k→¬ S k):NetIs w' g gd vl vt n:=
 ⟨hf.heap h.cells hg,ownsRow_fr h.lies hf hl,ownsRow_fr h.told hf ht,h.len,h.le⟩
theorem NetIs.below {w w':World} {g gd:Nat} {vl vt:Value} {n:Nt} (h:NetIs w g gd vl vt n) (hb:Below w.heap.size w w'):NetIs w' g gd vl vt n:=
 h.fr (S:=fun _=>False) (Fr.ofBelow hb) id (fun _ _=>id) (fun _ _=>id)
theorem NetIs.lt {w:World} {g gd:Nat} {vl vt:Value} {n:Nt} (h:NetIs w g gd vl vt n):g<w.heap.size:=lt_of_heap h.cells
theorem NetIs.parts {w:World} {g gd:Nat} {vl vt:Value} {n:Nt} (h:NetIs w g gd vl vt n):(∀ k,vl.ownBlock=some k→k≠g)∧(∀ k,vt.ownBlock=some k→k≠g)∧∀ k,vl.ownBlock=some k→¬ vt.ownBlock=some k:=by
 refine⟨fun k hk e=>?_,fun k hk e=>?_,fun k hk ht=>?_⟩
 ·obtain⟨C,hC⟩:=ownBlock_type h.lies hk
  exact heap_ne hC h.cells (by decide) e
 ·obtain⟨C,hC⟩:=ownBlock_type h.told hk
  exact heap_ne hC h.cells (by decide) e
 ·obtain⟨C,hC⟩:=ownBlock_type h.lies hk
  obtain⟨C',hC'⟩:=ownBlock_type h.told ht
  exact heap_ne hC hC' (by decide) rfl
theorem NetIs.heads {w:World} {g gd:Nat} {vl vt:Value} {n:Nt} (h:NetIs w g gd vl vt n) :
  (w.cell? ⟨g,0,none⟩=some (.pointer (some ⟨gd,0,none⟩))∧w.cell? ⟨g,1,none⟩=some vl∧w.cell? ⟨g,2,none⟩=some vt∧w.cell? ⟨g,3,none⟩=some (.int .i64 n.fetches))∧∀ i,w.frozen? ⟨g,i,none⟩=false:=
 ⟨⟨cell_heap h.cells 0 rfl,cell_heap h.cells 1 rfl,cell_heap h.cells 2 rfl,cell_heap h.cells 3 rfl⟩,fun i=>frozen_heap h.cells i⟩
theorem NetIs.count {w:World} {g gd:Nat} {vl vt:Value} {n:Nt} (h:NetIs w g gd vl vt n):NetIs (w.setCell ⟨g,3,none⟩ (.int .i64 ((n.fetches:Int)+1))) g gd vl vt { n with fetches:=n.fetches+1 }:=by
 have hf:=Fr.set1 w g 3 (.int .i64 ((n.fetches:Int)+1))
 obtain⟨p1,p2,_⟩:=h.parts
 exact⟨(heap_setCell h.cells _).trans (by simp[ntCells]),ownsRow_fr h.lies hf fun k hk e=>p1 k hk e,ownsRow_fr h.told hf fun k hk e=>p2 k hk e,h.len,fun k hk=>Nat.le_succ_of_le (h.le k hk)⟩
theorem NetIs.apartDisk {w:World} {g gd g':Nat} {vl vt v:Value} {n:Nt} {d:Dk} (h:NetIs w g gd vl vt n) (hd:DiskAt w g' v d):∀ k,netS g vt k→¬ dkS g' v k:=by
 intro k hk hs
 have h1:∃ C t,w.heap[k]?=some (.cells C t (0,0))∧(t=103∨t=3):=by
  rcases hk with rfl|hk
  ·exact⟨_,_,h.cells,.inl rfl⟩
  ·obtain⟨C,hC⟩:=ownBlock_type h.told hk
   exact⟨C,_,hC,.inr rfl⟩
 obtain⟨C,t,h1,h2⟩:=h1
 rcases hs with rfl|hs
 ·rw[hd.1] at h1
  cases h1
  revert h2
  decide
 ·obtain⟨C',h3⟩:=ownBlock_type hd.2 hs
  rw[h3] at h1
  cases h1
  revert h2
  decide
theorem toldRow_set (l:List Nat) (i k:Nat):(toldRow l).set i (.int .i64 (k:Int))=toldRow (l.set i k):=by unfold toldRow;rw[List.map_set]
theorem toldRow_at {l:List Nat} {i k:Nat} (h:l[i]?=some k):(toldRow l)[i]?=some (.int .i64 (k:Int)):=by unfold toldRow;rw[List.getElem?_map,h];rfl
def FetchPost (w:World) (g gd:Nat) (vl vt:Value) (n:Nt) (p:ByteArray) (e:Ending) (w':World):Prop:=
 NetIs w' g gd vl vt (fetchN n p)∧Fr (netS g vt) w w'∧∃ u x,e=.returned (.tuple #[u,x])∧
  ((∃ data,fetchA n p=some data∧x=.nilIface∧OwnBytes w' w.heap.size u data∧∃ a k c,u=.slice a k c)∨(fetchA n p=none∧(∃ q,x=.iface 152 (.pointer (some q)))∧∃ a k c,u=.slice a k c))
theorem lieFrom_yes {n:Nt} {p:ByteArray} {k i:Nat} (h:liveAt n p i=true):lieFrom n p (k+1) i=some i:=by rw[lieFrom,if_pos h]
theorem lieFrom_no {n:Nt} {p:ByteArray} {k i:Nat} (h:liveAt n p i=false):lieFrom n p (k+1) i=lieFrom n p k (i+1):=by rw[lieFrom,if_neg (by simp[h])]
theorem live_path {n:Nt} {p:ByteArray} {i:Nat} {x:Lie1} (hx:n.lies[i]?=some x) (h:¬ x.path=p):liveAt n p i=false:=by unfold liveAt;rw[hx];simp[h]
theorem live_over {n:Nt} {p:ByteArray} {i t:Nat} {x:Lie1} (hx:n.lies[i]?=some x) (ht:n.told[i]?=some t) (h1:0<x.times) (h2:x.times≤(t:Int)):liveAt n p i=false:=by
 unfold liveAt
 rw[hx,List.getD_eq_getElem?_getD,ht]
 simp[h1,h2]
theorem live_yes {n:Nt} {p:ByteArray} {i t:Nat} {x:Lie1} (hx:n.lies[i]?=some x) (ht:n.told[i]?=some t) (h:x.path=p) (h2:¬ 0<x.times∨¬ x.times≤(t:Int)):liveAt n p i=true:=by
 unfold liveAt
 rw[hx,List.getD_eq_getElem?_getD,ht]
 rcases h2 with h2|h2 <;> simp[h,h2]
theorem net_told {w:World} {g gd gt:Nat} {vl:Value} {ln cp:Nat} {n:Nt} {i k:Nat} (h:NetIs w g gd vl (.slice (some ⟨gt,0,none⟩) ln cp) n) (hl:ln=n.told.length) (hk:k≤n.fetches) :
  NetIs (w.setCell ⟨gt,i,none⟩ (.int .i64 (k:Int))) g gd vl (.slice (some ⟨gt,0,none⟩) ln cp) { n with told:=n.told.set i k }∧Fr (netS g (.slice (some ⟨gt,0,none⟩) ln cp)) w (w.setCell ⟨gt,i,none⟩ (.int .i64 (k:Int))):=by
 subst hl
 obtain⟨p1,p2,p3⟩:=h.parts
 have hf:=Fr.setCell1 w ⟨gt,i,none⟩ (.int .i64 (k:Int))
 have hs:=(h.told.stored i (.int .i64 (k:Int))).1
 rw[toldRow_set] at hs
 refine⟨⟨hf.heap h.cells (fun e=>p2 gt rfl e.symm),ownsRow_fr h.lies hf fun j hj e=>p3 j hj (congrArg some e.symm),?_,by rw[List.length_set];exact h.len,fun x hx=>?_⟩,hf.weak fun j _ e=>.inr (congrArg some e.symm)⟩
 ·rw[List.length_set];exact hs
 ·rcases List.mem_or_eq_of_mem_set hx with hx|rfl
  ·exact h.le x hx
  ·exact hk
theorem told_cell {w:World} {g gd gt:Nat} {vl:Value} {ln cp:Nat} {n:Nt} {kk t:Nat} (h:NetIs w g gd vl (.slice (some ⟨gt,0,none⟩) ln cp) n) (ht:n.told[kk]?=some t):w.cell? ⟨gt,kk,none⟩=some (.int .i64 t):=by
 obtain⟨a,k,hv,_,hc⟩:=ownsRow_cells h.told
 simp only[Value.slice.injEq] at hv
 obtain⟨b,off,hb,h1⟩:=hc kk _ (toldRow_at ht)
 have e:=hv.1.trans hb
 cases e
 rwa [Nat.zero_add] at h1
theorem bw_below (w:World) (s:ByteArray):Below w.heap.size w (Lib.bytesWorld w 5 s):=
 ⟨by simp[Lib.bytesWorld,World.freeze,World.alloc,World.drew,-World.alloc_eq,-World.drew_eq],by simp[Lib.bytesWorld,World.freeze,World.alloc,World.drew,-World.alloc_eq,-World.drew_eq],by simp[Lib.bytesWorld,World.freeze,World.alloc,World.drew,-World.alloc_eq,-World.drew_eq],by rw[Lib.bytesWorld_size];omega,fun k hk=>Lib.bytesWorld_at_old w _ s k hk⟩
theorem row_short {w:World} {base:Nat} {e:TypeId} {size:Nat} {v:Value} {n:Nat} {xs:List Value} (h:w.ownsRow base e size v n xs):n≤9223372036854775807:=by
 rcases h.2 with ⟨_,h0⟩|⟨_,_,_,_,_,_,hnc,hcm,_⟩
 ·omega
 ·unfold maxLen at hcm;omega
structure Live (w1:World) (g gd gt:Nat) (vl vt:Value) (n:Nt) (kk t:Nat) (x:Lie1) (bx:Nat) (wt:World):Prop where
 net:NetIs wt g gd vl vt { n with fetches:=n.fetches+1,told:=n.told.set kk t }
 fr:Fr (netS g vt) w1 wt
 data:wt.cell? ⟨bx,1,none⟩=some (.string x.data)
 flag:wt.cell? ⟨bx,2,none⟩=some (.bool x.fails)
 size:w1.heap.size≤bx∧bx<wt.heap.size
theorem live_at {w1 wr:World} {g gd gt:Nat} {vl:Value} {ln cp:Nat} {n:Nt} {kk t:Nat} {x:Lie1} (h:NetIs wr g gd vl (.slice (some ⟨gt,0,none⟩) ln cp) { n with fetches:=n.fetches+1 }) (hb:Below w1.heap.size w1 wr) (hl:ln=n.told.length) (ht:t≤n.fetches) (hgt:gt<wr.heap.size) (j:Nat) :
  Live w1 g gd gt vl (.slice (some ⟨gt,0,none⟩) ln cp) n kk (t+1) x wr.heap.size (((wr.alloc (.cells #[.string x.path,.string x.data,.bool x.fails,.int .i64 x.times] 75)).drewN j).setCell ⟨gt,kk,none⟩ (.int .i64 ((t:Int)+1))):=by
 have hb2:=below_drewN (below_alloc wr (.cells #[.string x.path,.string x.data,.bool x.fails,.int .i64 x.times] 75)) j
 obtain⟨h1,h2⟩:=net_told (i:=kk) (k:=t+1) (h.below hb2) hl (by dsimp only;omega)
 refine⟨h1,(Fr.ofBelow (hb.trans (hb2.mono hb.size))).trans h2,?_,?_,hb.size,?_⟩
 ·rw[World.cell?_setCell_other _ _ _ _ (by simp)]
  exact cell_heap (heap_alloc_new wr _) 1 rfl
 ·rw[World.cell?_setCell_other _ _ _ _ (by simp)]
  exact cell_heap (heap_alloc_new wr _) 2 rfl
 ·simp[World.setCell]
theorem lie_found {n:Nt} {p:ByteArray} {kk:Nat} {x:Lie1} (hx:n.lies[kk]?=some x) (h:lieFrom n p (n.lies.length-kk) kk=lieOf n p) (hl:liveAt n p kk=true):lieOf n p=some kk:=by
 have hlt:=(List.getElem?_eq_some_iff.1 hx).1
 rw[←h,show n.lies.length-kk=(n.lies.length-kk-1)+1 by omega,lieFrom_yes hl]
theorem fetchN_lie {n:Nt} {p:ByteArray} {kk t:Nat} (h:lieOf n p=some kk) (ht:n.told[kk]?=some t):fetchN n p={ n with fetches:=n.fetches+1,told:=n.told.set kk (t+1) }:=by
 unfold fetchN
 rw[h]
 dsimp only
 rw[List.getD_eq_getElem?_getD,ht]
 rfl
theorem fetchN_none {n:Nt} {p:ByteArray} (h:lieOf n p=none):fetchN n p={ n with fetches:=n.fetches+1 }:=by
 unfold fetchN
 rw[h]
theorem fetchA_none {n:Nt} {p:ByteArray} (h:lieOf n p=none):fetchA n p=(getF n.files p).map (·.data.toList):=by
 unfold fetchA
 rw[h]
theorem fetchA_lie {n:Nt} {p:ByteArray} {kk:Nat} {x:Lie1} (h:lieOf n p=some kk) (hx:n.lies[kk]?=some x):fetchA n p=if x.fails=true then none else some x.data.data.toList:=by
 unfold fetchA
 rw[h]
 dsimp only
 rw[hx]
 rfl
theorem lie_fails {w wt wf:World} {g gd:Nat} {vl vt:Value} {n:Nt} {p:ByteArray} {kk t:Nat} {x:Lie1} {a:Option Addr} {k c:Nat} {q:Addr} (h:NetIs wt g gd vl vt { n with fetches:=n.fetches+1,told:=n.told.set kk (t+1) }) (hf:Fr (netS g vt) w wt) (hl:lieOf n p=some kk) (ht:n.told[kk]?=some t) (hx:n.lies[kk]?=some x) (hfl:x.fails=true)
  (hb:Below wt.heap.size wt wf):FetchPost w g gd vl vt n p (.returned (.tuple #[.slice a k c,.iface 152 (.pointer (some q))])) wf:=
 ⟨by rw[fetchN_lie hl ht];exact h.below hb,hf.trans (Fr.ofBelow hb),_,_,rfl,.inr ⟨by rw[fetchA_lie hl hx,if_pos hfl],⟨_,rfl⟩,_,_,_,rfl⟩⟩
theorem fetch_any (w:World) (g gd:Nat) (vl vt v:Value) (n:Nt) (d:Dk) (p:ByteArray) (h:NetIs w g gd vl vt n) (hd:DiskAt w gd v d) (hf:d.files=n.files) (hc:n.fetches<1152921504606846976) :
  Calls prog 254 #[.pointer (some ⟨g,0,none⟩),.string p] w (FetchPost w g gd vl vt n p):=by
 obtain⟨⟨c0,c1,c2,c3⟩,f0⟩:=h.heads
 have h1:=h.count
 obtain⟨al,cl,rfl,_,hcl⟩:=ownsRow_cells h.lies
 obtain⟨at',ct,rfl⟩:=own_any h.told
 obtain⟨w1,hw1⟩:∃ w1,w1=w.setCell ⟨g,3,none⟩ (.int .i64 ((n.fetches:Int)+1)):=⟨_,rfl⟩
 rw[←hw1] at h1
 have hF1:Fr (netS g (.slice at' n.told.length ct)) w w1:=by rw[hw1];exact (Fr.set1 w g 3 _).weak fun _ _ e=>.inl e
 have hd1:DiskAt w1 gd v d:=hd.fr hF1 fun k hk hs=>h.apartDisk hd k hs hk
 have hw:wrap64 ((n.fetches:Int)+1)=(n.fetches:Int)+1:=by unfold wrap64;omega
 have H1:=zh h1
 have HF1:=zh hF1
 have HW1:=zh hw1
 have HD:=zh hd1
 have HFL:=zh hf
 have HH:=zh h
 have HCL:=zh hcl
 have HLEN:=zh h.len
 have HN0:=zh h.le
 have hshort:=row_short h.lies
 clear h h1 hd hd1 hf hw1 hF1 hcl
 go_enter func254,ntmps254
 go_wp2
 rw[←HW1.o]
 go_loopg [21] n.lies.length (fun gg s21 wr=>∃ kk:Nat,kk≤n.lies.length∧n.lies.length-kk≤gg∧s21=.int .i64 kk∧Aside (Below w1.heap.size w1 wr)∧Aside (lieFrom n p (n.lies.length-kk) kk=lieOf n p))
 case atStart=>exact⟨0,Nat.zero_le _,by omega,rfl,Below.refl _ _,rfl⟩
 case round=>
  obtain⟨kk,hkk,hg,rfl,BW,HL⟩:=hrel
  have hbw:=BW.o
  have HN:=zh (H1.o.below hbw)
  obtain⟨⟨r0,r1,r2,r3⟩,rf⟩:=HN.o.heads
  by_cases hlt:kk<n.lies.length
  ·obtain⟨x,hx⟩:∃ x,n.lies[kk]?=some x:=⟨_,List.getElem?_eq_getElem hlt⟩
   obtain⟨t,ht⟩:∃ t,n.told[kk]?=some t:=⟨_,List.getElem?_eq_getElem (by rw[HLEN.o];exact hlt)⟩
   obtain⟨g1,g2,g3,g4⟩:=lieRow_at n.lies kk x hx
   obtain⟨b,off,rfl,e1⟩:=HCL.o _ _ g1
   obtain⟨_,_,hbo,e2⟩:=HCL.o _ _ g2
   cases hbo
   obtain⟨_,_,hbo,e3⟩:=HCL.o _ _ g3
   cases hbo
   obtain⟨_,_,hbo,e4⟩:=HCL.o _ _ g4
   cases hbo
   have hb:b<w.heap.size:=cell_lt e1
   have hbg:¬ netS g (.slice at' n.told.length ct) b:=by
    obtain⟨q1,_,q3⟩:=HH.o.parts
    rintro (e|e)
    ·exact q1 b rfl e
    ·exact q3 b rfl e
   have cv:∀ i u,w.cell? ⟨b,i,none⟩=some u→wr.cell? ⟨b,i,none⟩=some u:=fun i u hu=>(hbw.cell (p:=⟨b,i,none⟩) (Nat.lt_of_lt_of_le hb HF1.o.size)).trans (HF1.o.cell hu hbg)
   have d1:wr.cell? ⟨b,off+kk*4,none⟩=some (.string x.path):=cv _ _ e1
   have d2:wr.cell? ⟨b,off+kk*4+1,none⟩=some (.string x.data):=cv _ _ e2
   have d3:wr.cell? ⟨b,off+kk*4+2,none⟩=some (.bool x.fails):=cv _ _ e3
   have d4:wr.cell? ⟨b,off+kk*4+3,none⟩=some (.int .i64 x.times):=cv _ _ e4
   have hk0:(0:Int)≤(kk:Int):=by omega
   have hltz:(kk:Int)<(n.lies.length:Int):=by omega
   have hltt:(kk:Int)<(n.told.length:Int):=by have:=HLEN.o;omega
   have HX:=zh hx
   have HT:=zh ht
   have hbr:b<wr.heap.size:=cell_lt d1
   clear e1 e2 e3 e4 g1 g2 g3 g4 cv hx
   have hno:liveAt n p kk=false→lieFrom n p (n.lies.length-(kk+1)) (kk+1)=lieOf n p:=fun hl=>by
    have:=HL.o
    rw[show n.lies.length-kk=(n.lies.length-(kk+1))+1 by omega,lieFrom_no hl] at this
    exact this
   have HNO:=zh hno
   clear hno
   have hgr:g<wr.heap.size:=cell_lt r0
   obtain⟨gt,rfl⟩:∃ gt,at'=some ⟨gt,0,none⟩:=by
    rcases HN.o.told.2 with ⟨_,h0⟩|⟨gt,_,_,hv,_⟩
    ·have h0':n.told.length=0:=h0
     omega
    ·simp only[Value.slice.injEq] at hv
     exact⟨gt,hv.1⟩
   have t1:=told_cell HN.o (t:=t) ht
   have hgtr:gt<wr.heap.size:=cell_lt t1
   have hfz:wr.frozen? ⟨gt,kk,none⟩=false:=HN.o.told.frozenAt kk
   have htle:t≤n.fetches:=HN0.o t (List.mem_of_getElem? ht)
   have hwt:wrap64 ((t:Int)+1)=(t:Int)+1:=by unfold wrap64;omega
   have hgne:¬ g=gt:=fun e=>HN.o.parts.2.1 gt rfl e.symm
   obtain⟨wy,hwy⟩:∃ wy,wy=wr.alloc (.cells #[.string x.path,.string x.data,.bool x.fails,.int .i64 x.times] 75):=⟨_,rfl⟩
   have hby:Below w1.heap.size w1 wy:=by rw[hwy];exact hbw.trans ((below_alloc wr _).mono hbw.size)
   have hNy:=H1.o.below hby
   obtain⟨⟨y0,y1,y2,y3⟩,yf⟩:=hNy.heads
   have hoy:wy.heap[wr.heap.size]?=some (.cells #[.string x.path,.string x.data,.bool x.fails,.int .i64 x.times] 75 (0,0)):=by rw[hwy];exact heap_alloc_new wr _
   have x0:=cell_heap hoy 0 rfl
   have x1:=cell_heap hoy 1 rfl
   have x2:=cell_heap hoy 2 rfl
   have x3:=cell_heap hoy 3 rfl
   have ty:=told_cell hNy (t:=t) ht
   have hfy:wy.frozen? ⟨gt,kk,none⟩=false:=hNy.told.frozenAt kk
   have HWY:=zh hwy
   have HBY:=zh hby
   have HNY:=zh hNy
   clear t1 hfz
   have hxd:wr.heap.size<wy.heap.size:=cell_lt x0
   clear hwy hby hNy hoy
   by_cases he:x.path=p
   ·have e:(x.path.toList == p.toList)=true:=beq_str_true he
    have HE:=zh he
    clear he
    by_cases h0:0<x.times
    ·have hd0:decide (0<x.times)=true:=decide_eq_true h0
     by_cases hov:x.times≤(t:Int)
     ·have hd1:decide (x.times≤(t:Int))=true:=decide_eq_true hov
      have HOV:=zh (live_over (p:=p) HX.o HT.o h0 hov)
      clear h0 hov
      go_upto_region 5 with fail
      rw[←HWY.o]
      clear r0 r1 r2 r3 rf d1 d2 d3 d4
      go_quiet (fail)
      go_wp2
      go_roundg (n.lies.length-(kk+1))
      case measure=>omega
      case rel=>exact⟨kk+1,by omega,by omega,by go_num,below_drewN HBY.o _,HNO.o HOV.o⟩
     ·have hd1:decide (x.times≤(t:Int))=false:=decide_eq_false hov
      have HOV:=zh (live_yes HX.o HT.o HE.o (.inr hov))
      clear h0 hov
      go_upto_region 5 with fail
      rw[←HWY.o]
      clear r0 r1 r2 r3 rf d1 d2 d3 d4
      go_quiet (fail)
      obtain⟨wz,hwz⟩:∃ wz,wz=wy.drewN nq:=⟨_,rfl⟩
      rw[←hwz]
      have z0:wz.cell? ⟨g,0,none⟩=some (.pointer (some ⟨gd,0,none⟩)):=by rw[hwz];exact y0
      have z2:wz.cell? ⟨g,2,none⟩=some (.slice (some ⟨gt,0,none⟩) n.told.length ct):=by rw[hwz];exact y2
      have z3:wz.cell? ⟨g,3,none⟩=some (.int .i64 ((n.fetches:Int)+1)):=by rw[hwz];exact y3
      have zt:wz.cell? ⟨gt,kk,none⟩=some (.int .i64 t):=by rw[hwz];exact ty
      have zf:wz.frozen? ⟨gt,kk,none⟩=false:=by rw[hwz];exact hfy
      have hLV:Live w1 g gd gt (.slice (some ⟨b,off,none⟩) n.lies.length cl) (.slice (some ⟨gt,0,none⟩) n.told.length ct) n kk (t+1) x wr.heap.size (wz.setCell ⟨gt,kk,none⟩ (.int .i64 ((t:Int)+1))):=by
       rw[hwz,HWY.o]
       exact live_at HN.o hbw rfl htle hgtr nq
      have HLV:=zh hLV
      have HFR1:=zh (HF1.o.trans hLV.fr)
      have hsz1:w.heap.size≤w1.heap.size:=HF1.o.size
      clear hwz hLV y0 y1 y2 y3 yf ty hfy x0 x1 x2 x3 hgtr hgr hgne hxd htle hbr
      go_upto_region 7 with fail
      obtain⟨wt,hwt2⟩:∃ wt,wt=wz.setCell ⟨gt,kk,none⟩ (.int .i64 ((t:Int)+1)):=⟨_,rfl⟩
      rw[←hwt2] at HLV HFR1
      rw[←hwt2]
      clear hwt2
      have s1:=HLV.o.data
      have s2:=HLV.o.flag
      have sg:=HLV.o.net.heads.1.2.2.2
      have hbl:wr.heap.size<wt.heap.size:=cell_lt s1
      have hgl:g<wt.heap.size:=cell_lt sg
      have HLF:=zh (lie_found HX.o HL.o HOV.o)
      cases hfl:x.fails with
      | true=>
       rw[hfl] at s2
       have HFLAG:=zh hfl
       clear hfl
       have hcv:=fun W=>Lib.run_convert_string_bytes (P:=prog) W 9 94 5 x.data underlying9 underlying94 underlying5
       go_wp2_with fail
       have a1:wt.drew.cell? ⟨g,3,none⟩=some (.int .i64 ((n.fetches:Int)+1)):=sg
       have a2:(Lib.bytesWorld wt.drew 5 x.data).cell? ⟨g,3,none⟩=some (.int .i64 ((n.fetches:Int)+1)):=(Lib.bytesWorld_old _ _ _ _ hgl).trans sg
       have b1:wt.drew.cell? ⟨wr.heap.size,1,none⟩=some (.string x.data):=s1
       have b2:(wt.alloc (.cells #[.int .i64 ((n.fetches:Int)+1)] 366)).drew.cell? ⟨wr.heap.size,1,none⟩=some (.string x.data):=((below_alloc wt _).cell (p:=⟨wr.heap.size,1,none⟩) hbl).trans s1
       clear sg s1 s2 hbl hgl z0 z2 z3 zt zf
       go_region
       all_goals (
        go_wp2
        go_ret2
        have hBA:Below wt.heap.size wt (Lib.bytesWorld wt.drew 5 x.data):=(below_drew wt).trans (bw_below wt.drew _)
        have hBB:Below wt.heap.size wt (wt.alloc (.cells #[.int .i64 ((n.fetches:Int)+1)] 366)).drew:=(below_alloc wt _).drew
        first
         | exact lie_fails HLV.o.net HFR1.o HLF.o HT.o HX.o HFLAG.o (hBA.alloc hBA.size _)
         | exact lie_fails HLV.o.net HFR1.o HLF.o HT.o HX.o HFLAG.o (hBB.trans ((bw_below _ _).mono hBB.size)))
      | false=>
       rw[hfl] at s2
       have HFLAG:=zh hfl
       clear hfl
       go_wp2_with (refine wpList_sb rfl _ _ _ _ rfl underlying9 underlying94 underlying5 rfl _ rfl ?_;rintro v' w3 h1 h2 h3 ⟨b',c',h4⟩;have H1:=zh h1;have H2:=zh h2;subst h4;clear h1 h2 h3)
       go_ret2
       exact⟨by rw[fetchN_lie HLF.o HT.o];exact HLV.o.net.below H2.o,HFR1.o.trans (Fr.ofBelow H2.o),_,_,rfl,.inl ⟨_,by rw[fetchA_lie HLF.o HX.o,HFLAG.o];rfl,rfl,H1.o.mono (Nat.le_trans hsz1 HLV.o.fr.size),_,_,_,rfl⟩⟩
    ·have hd0:decide (0<x.times)=false:=decide_eq_false h0
     have HOV:=zh (live_yes HX.o HT.o HE.o (.inl h0))
     clear h0
     go_upto_region 5 with fail
     rw[←HWY.o]
     clear r0 r1 r2 r3 rf d1 d2 d3 d4
     go_quiet (fail)
     obtain⟨wz,hwz⟩:∃ wz,wz=wy.drewN nq:=⟨_,rfl⟩
     rw[←hwz]
     have z0:wz.cell? ⟨g,0,none⟩=some (.pointer (some ⟨gd,0,none⟩)):=by rw[hwz];exact y0
     have z2:wz.cell? ⟨g,2,none⟩=some (.slice (some ⟨gt,0,none⟩) n.told.length ct):=by rw[hwz];exact y2
     have z3:wz.cell? ⟨g,3,none⟩=some (.int .i64 ((n.fetches:Int)+1)):=by rw[hwz];exact y3
     have zt:wz.cell? ⟨gt,kk,none⟩=some (.int .i64 t):=by rw[hwz];exact ty
     have zf:wz.frozen? ⟨gt,kk,none⟩=false:=by rw[hwz];exact hfy
     have hLV:Live w1 g gd gt (.slice (some ⟨b,off,none⟩) n.lies.length cl) (.slice (some ⟨gt,0,none⟩) n.told.length ct) n kk (t+1) x wr.heap.size (wz.setCell ⟨gt,kk,none⟩ (.int .i64 ((t:Int)+1))):=by
      rw[hwz,HWY.o]
      exact live_at HN.o hbw rfl htle hgtr nq
     have HLV:=zh hLV
     have HFR1:=zh (HF1.o.trans hLV.fr)
     have hsz1:w.heap.size≤w1.heap.size:=HF1.o.size
     clear hwz hLV y0 y1 y2 y3 yf ty hfy x0 x1 x2 x3 hgtr hgr hgne hxd htle hbr
     go_upto_region 7 with fail
     obtain⟨wt,hwt2⟩:∃ wt,wt=wz.setCell ⟨gt,kk,none⟩ (.int .i64 ((t:Int)+1)):=⟨_,rfl⟩
     rw[←hwt2] at HLV HFR1
     rw[←hwt2]
     clear hwt2
     have s1:=HLV.o.data
     have s2:=HLV.o.flag
     have sg:=HLV.o.net.heads.1.2.2.2
     have hbl:wr.heap.size<wt.heap.size:=cell_lt s1
     have hgl:g<wt.heap.size:=cell_lt sg
     have HLF:=zh (lie_found HX.o HL.o HOV.o)
     cases hfl:x.fails with
     | true=>
      rw[hfl] at s2
      have HFLAG:=zh hfl
      clear hfl
      have hcv:=fun W=>Lib.run_convert_string_bytes (P:=prog) W 9 94 5 x.data underlying9 underlying94 underlying5
      go_wp2_with fail
      have a1:wt.drew.cell? ⟨g,3,none⟩=some (.int .i64 ((n.fetches:Int)+1)):=sg
      have a2:(Lib.bytesWorld wt.drew 5 x.data).cell? ⟨g,3,none⟩=some (.int .i64 ((n.fetches:Int)+1)):=(Lib.bytesWorld_old _ _ _ _ hgl).trans sg
      have b1:wt.drew.cell? ⟨wr.heap.size,1,none⟩=some (.string x.data):=s1
      have b2:(wt.alloc (.cells #[.int .i64 ((n.fetches:Int)+1)] 366)).drew.cell? ⟨wr.heap.size,1,none⟩=some (.string x.data):=((below_alloc wt _).cell (p:=⟨wr.heap.size,1,none⟩) hbl).trans s1
      clear sg s1 s2 hbl hgl z0 z2 z3 zt zf
      go_region
      all_goals (
       go_wp2
       go_ret2
       have hBA:Below wt.heap.size wt (Lib.bytesWorld wt.drew 5 x.data):=(below_drew wt).trans (bw_below wt.drew _)
       have hBB:Below wt.heap.size wt (wt.alloc (.cells #[.int .i64 ((n.fetches:Int)+1)] 366)).drew:=(below_alloc wt _).drew
       first
        | exact lie_fails HLV.o.net HFR1.o HLF.o HT.o HX.o HFLAG.o (hBA.alloc hBA.size _)
        | exact lie_fails HLV.o.net HFR1.o HLF.o HT.o HX.o HFLAG.o (hBB.trans ((bw_below _ _).mono hBB.size)))
     | false=>
      rw[hfl] at s2
      have HFLAG:=zh hfl
      clear hfl
      go_wp2_with (refine wpList_sb rfl _ _ _ _ rfl underlying9 underlying94 underlying5 rfl _ rfl ?_;rintro v' w3 h1 h2 h3 ⟨b',c',h4⟩;have H1:=zh h1;have H2:=zh h2;subst h4;clear h1 h2 h3)
      go_ret2
      exact⟨by rw[fetchN_lie HLF.o HT.o];exact HLV.o.net.below H2.o,HFR1.o.trans (Fr.ofBelow H2.o),_,_,rfl,.inl ⟨_,by rw[fetchA_lie HLF.o HX.o,HFLAG.o];rfl,rfl,H1.o.mono (Nat.le_trans hsz1 HLV.o.fr.size),_,_,_,rfl⟩⟩
   ·have e:(x.path.toList == p.toList)=false:=beq_str_false he
    have HE:=zh he
    clear he
    go_upto_region 5 with fail
    rw[←HWY.o]
    clear r0 r1 r2 r3 rf d1 d2 d3 d4
    go_quiet (fail)
    go_wp2
    go_roundg (n.lies.length-(kk+1))
    case measure=>omega
    case rel=>exact⟨kk+1,by omega,by omega,by go_num,below_drewN HBY.o _,HNO.o (live_path HX.o HE.o)⟩
  ·have hltz:¬ (kk:Int)<(n.lies.length:Int):=by omega
   have hz:lieOf n p=none:=by
    rw[←HL.o,show n.lies.length-kk=0 by omega]
    rfl
   have HZ:=zh hz
   clear hz
   have hdr:=HD.o.below hbw
   have HDR:=zh hdr
   have hfc:=find_any wr gd v d hdr p
   have HN1:=zh (fetchN_none HZ.o)
   have HFR:=zh (HF1.o.trans (Fr.ofBelow hbw))
   have hszr:w.heap.size≤wr.heap.size:=Nat.le_trans HF1.o.size hbw.size
   by_cases hf:findN d.files p<d.files.length
   ·have hF:findF d.files p=findN d.files p:=by unfold findF;rw[if_pos hf]
    rw[hF] at hfc
    obtain⟨x,hx⟩:∃ x,x=d.files[findN d.files p]'hf:=⟨_,rfl⟩
    have hxj:d.files[findN d.files p]?=some x:=by rw[hx,List.getElem?_eq_getElem hf]
    have hgf:getF d.files p=some x.2:=by rw[getF_hit hf,hx]
    obtain⟨j,hj⟩:∃ j,j=findN d.files p:=⟨_,rfl⟩
    rw[←hj] at hfc hf hxj
    have hjz:(0:Int)≤(j:Int):=by omega
    have hjl:(j:Int)<(d.files.length:Int):=by omega
    have HX:=zh hxj
    have HG:=zh hgf
    clear hj hF hx hxj hgf hdr
    go_wp2_with (first|(go_at_call 64;refine hfc.mono ?_;rintro e w2 ⟨rfl,hb2⟩;have HB2:=zh hb2;have hd2:=HDR.o.below hb2;have HD2:=zh hd2;have q0:=(hb2.cell (p:=⟨g,0,none⟩) (cell_lt r0)).trans r0;have c0:=hd2.cells.1.1;obtain⟨bk,cap,rfl,hbl,hbg,_,c1⟩:=hd2.data (j:=j) (x:=x) HX.o;clear hb2 hd2)|(refine wpList_sb rfl _ _ _ _ rfl underlying9 underlying94 underlying5 rfl _ rfl ?_;rintro v' w3 h1 h2 h3 ⟨b',c',h4⟩;have H1:=zh h1;have H2:=zh h2;subst h4;clear h1 h2 h3))
    go_ret2
    have hbf:=HB2.o.trans (H2.o.mono HB2.o.size)
    exact⟨by rw[HN1.o];exact HN.o.below hbf,HFR.o.trans (Fr.ofBelow hbf),_,_,rfl,.inl ⟨_,by rw[fetchA_none HZ.o,←HFL.o,HG.o];rfl,rfl,H1.o.mono (Nat.le_trans hszr HB2.o.size),_,_,_,rfl⟩⟩
   ·have hF:findF d.files p = -1:=by unfold findF;rw[if_neg hf]
    have hgf:=getF_miss hf
    rw[hF] at hfc
    have HG:=zh hgf
    clear hF hgf hf hdr
    go_wp2_with (go_at_call 64;refine hfc.mono ?_;rintro e w2 ⟨rfl,hb2⟩;have HB2:=zh hb2;have q3:=(hb2.cell (p:=⟨g,3,none⟩) (cell_lt r3)).trans r3;clear hb2)
    go_region
    all_goals (
     go_wp2
     go_ret2
     have hbf:=HB2.o.trans (((below_alloc w2 (.cells #[.int .i64 ((n.fetches:Int)+1)] 366)).drew).mono HB2.o.size)
     exact⟨by rw[HN1.o];exact HN.o.below hbf,HFR.o.trans (Fr.ofBelow hbf),_,_,rfl,.inr ⟨by rw[fetchA_none HZ.o,←HFL.o,HG.o];rfl,⟨_,rfl⟩,_,_,_,rfl⟩⟩)
end
section
def rA (g:Nat):Option Nat→Addr
 | none=>⟨g,2,none⟩
 | some b=>⟨b,0,none⟩
def rE (g:Nat):Option Nat→Addr
 | none=>⟨g,5,none⟩
 | some b=>⟨b,3,none⟩
def rL (g:Nat):Option Nat→Addr
 | none=>⟨g,4,none⟩
 | some b=>⟨b,2,none⟩
abbrev rP (g:Nat) (x:Option Nat):Value:=.pointer (some (rA g x))
theorem rE_inj {g:Nat} {x y:Option Nat} (h:rE g x=rE g y):x=y:=by
 cases x <;> cases y <;> simp[rE] at h ⊢
 exact h
theorem rL_inj {g:Nat} {x y:Option Nat} (h:rL g x=rL g y):x=y:=by
 cases x <;> cases y <;> simp[rL] at h ⊢
 exact h
theorem rE_ne_rL (g:Nat) (x y:Option Nat):rE g x≠rL g y:=by
 cases x <;> cases y <;> simp[rE,rL]
structure Lk (w:World) (g:Nat) (x y:Option Nat):Prop where
 e:w.cell? (rE g x)=some (rP g y)
 l:w.cell? (rL g y)=some (rP g x)
def Chn (w:World) (g:Nat):Option Nat→List Nat→Prop
 | x,[]=>Lk w g x none
 | x,b :: bs=>Lk w g x (some b)∧Chn w g (some b) bs
def lst:Option Nat→List Nat→Option Nat
 | x,[]=>x
 | _,b :: bs=>lst (some b) bs
theorem lst_append (x:Option Nat) (l:List Nat) (b:Nat):lst x (l ++ [b])=some b:=by
 induction l generalizing x with
 | nil=>rfl
 | cons a l ih=>exact ih (some a)
theorem lst_mem {x:Option Nat} {l:List Nat}:lst x l=x∨∃ b∈l,lst x l=some b:=by
 induction l generalizing x with
 | nil=>exact .inl rfl
 | cons a l ih=>
  rcases ih (x:=some a) with h|⟨b,hb,h⟩
  ·exact .inr ⟨a,.head _,h⟩
  ·exact .inr ⟨b,.tail _ hb,h⟩
theorem Chn.agree {w w':World} {g:Nat} {x:Option Nat} {l:List Nat} (h:Chn w g x l) (he:∀ y,(y=x∨∃ b∈l,y=some b)→w'.cell? (rE g y)=w.cell? (rE g y))
  (hl:∀ y,(y=none∨∃ b∈l,y=some b)→w'.cell? (rL g y)=w.cell? (rL g y)):Chn w' g x l:=by
 induction l generalizing x with
 | nil=>exact⟨(he _ (.inl rfl)).trans h.e,(hl _ (.inl rfl)).trans h.l⟩
 | cons b l ih=>
  refine⟨⟨(he _ (.inl rfl)).trans h.1.e,(hl _ (.inr ⟨b,.head _,rfl⟩)).trans h.1.l⟩,ih h.2 ?_ ?_⟩
  ·rintro y (rfl|⟨c,hc,rfl⟩)
   ·exact he _ (.inr ⟨b,.head _,rfl⟩)
   ·exact he _ (.inr ⟨c,.tail _ hc,rfl⟩)
  ·rintro y (rfl|⟨c,hc,rfl⟩)
   ·exact hl _ (.inl rfl)
   ·exact hl _ (.inr ⟨c,.tail _ hc,rfl⟩)
theorem Chn.before {w:World} {g:Nat} {x:Option Nat} {l m:List Nat} {b:Nat} (h:Chn w g x (l++b :: m)):Lk w g (lst x l) (some b)∧Chn w g (some b) m:=by
 induction l generalizing x with
 | nil=>exact h
 | cons a l ih=>exact ih h.2
theorem Chn.first {w:World} {g:Nat} {x:Option Nat} {l:List Nat} (h:Chn w g x l):Lk w g x l.head?:=by
 cases l with
 | nil=>exact h
 | cons b l=>exact h.1
theorem Chn.last {w:World} {g:Nat} {x:Option Nat} {l:List Nat} (h:Chn w g x l):Lk w g (lst x l) none:=by
 induction l generalizing x with
 | nil=>exact h
 | cons b l ih=>exact ih h.2
structure Joined (w w':World) (g:Nat) (x y:Option Nat):Prop where
 lk:Lk w' g x y
 rest:∀ a,a≠rE g x→a≠rL g y→w'.cell? a=w.cell? a
theorem Chn.take {w w':World} {g:Nat} {x:Option Nat} {l m:List Nat} {b:Nat} (h:Chn w g x (l++b :: m)) (hx:∀ c∈l++b :: m,x≠some c) (hn:(l++b :: m).Nodup) (hj:Joined w w' g (lst x l) m.head?):Chn w' g x (l++m):=by
 induction l generalizing x with
 | nil=>
  simp only[List.nil_append,lst] at *
  cases m with
  | nil=>exact hj.lk
  | cons c m=>
   refine⟨hj.lk,Chn.agree h.2.2 (fun y hy=>?_) (fun y hy=>?_)⟩
   ·refine hj.rest _ (fun e=>?_) (rE_ne_rL _ _ _)
    have e:=rE_inj e
    subst e
    rcases hy with hy|⟨d,hd,hy⟩
    ·exact hx c (by simp) hy
    ·exact hx d (by simp[hd]) hy
   ·refine hj.rest _ (fun e=>rE_ne_rL _ _ _ e.symm) (fun e=>?_)
    have e:=rL_inj e
    subst e
    rcases hy with hy|⟨d,hd,hy⟩
    ·simp at hy
    ·simp only[List.head?_cons,Option.some.injEq] at hy
     subst hy
     have:=(List.nodup_cons.1 (List.nodup_cons.1 hn).2).1
     exact this hd
 | cons a l ih=>
  have hn':=List.nodup_cons.1 hn
  have hne:∀ d,lst (some a) l=some d→d∈a :: l:=by
   intro d hd
   rcases lst_mem (x:=some a) (l:=l) with e|⟨c,hc,e⟩
   ·rw[e] at hd;cases hd;exact .head _
   ·rw[e] at hd;cases hd;exact .tail _ hc
  have hsome:∃ d,lst (some a) l=some d:=by
   rcases lst_mem (x:=some a) (l:=l) with e|⟨c,_,e⟩
   ·exact⟨a,e⟩
   ·exact⟨c,e⟩
  refine⟨⟨(hj.rest _ (fun e=>?_) (rE_ne_rL _ _ _)).trans h.1.e,(hj.rest _ (fun e=>rE_ne_rL _ _ _ e.symm) (fun e=>?_)).trans h.1.l⟩,ih h.2 ?_ hn'.2 hj⟩
  ·obtain⟨d,hd⟩:=hsome
   have e:=rE_inj e
   have e:x=some d:=e.trans hd
   refine hx d ?_ e
   have:=hne d hd
   simp only[List.cons_append,List.mem_cons,List.mem_append] at this ⊢
   rcases this with h|h
   ·exact .inl h
   ·exact .inr (.inl h)
  ·have e:=rL_inj e
   cases m with
   | nil=>simp at e
   | cons c m=>
    simp only[List.head?_cons,Option.some.injEq] at e
    subst e
    exact hn'.1 (by simp)
  ·intro c hc e
   cases e
   exact hn'.1 hc
structure Fronted (w w':World) (g b:Nat) (y:Option Nat):Prop where
 top:Lk w' g none (some b)
 two:Lk w' g (some b) y
 rest:∀ p,p≠rE g none→p≠rL g (some b)→p≠rE g (some b)→p≠rL g y→w'.cell? p=w.cell? p
theorem Chn.front {w w':World} {g b:Nat} {l:List Nat} (h:Chn w g none l) (hb:b ∉ l) (hn:l.Nodup) (hf:Fronted w w' g b l.head?):Chn w' g none (b :: l):=by
 refine⟨hf.top,?_⟩
 cases l with
 | nil=>exact hf.two
 | cons c l=>
  refine⟨hf.two,Chn.agree h.2 (fun y hy=>?_) (fun y hy=>?_)⟩
  ·have hy':∃ d∈c :: l,y=some d:=by
    rcases hy with hy|⟨d,hd,hy⟩
    ·exact⟨c,.head _,hy⟩
    ·exact⟨d,.tail _ hd,hy⟩
   obtain⟨d,hd,rfl⟩:=hy'
   refine hf.rest _ (fun e=>by have:=rE_inj e;cases this) (rE_ne_rL _ _ _) (fun e=>?_) (rE_ne_rL _ _ _)
   have e:=rE_inj e
   cases e
   exact hb hd
  ·refine hf.rest _ (fun e=>rE_ne_rL _ _ _ e.symm) (fun e=>?_) (fun e=>rE_ne_rL _ _ _ e.symm) (fun e=>?_)
   ·have e:=rL_inj e
    subst e
    rcases hy with hy|⟨d,hd,hy⟩
    ·cases hy
    ·cases hy
     exact hb (.tail _ hd)
   ·have e:=rL_inj e
    subst e
    rcases hy with hy|⟨d,hd,hy⟩
    ·simp at hy
    ·simp only[List.head?_cons,Option.some.injEq] at hy
     subst hy
     exact (List.nodup_cons.1 hn).1 hd
end
section
def Two (w w':World) (p:Addr) (u:Value) (q:Addr) (v:Value):Prop:=w'=(w.drew.setCell p u).setCell q v∨w'=(w.drew.setCell q v).setCell p u
theorem Two.swap {w w':World} {p q:Addr} {u v:Value} (h:Two w w' p u q v):Two w w' q v p u:=h.symm
theorem Two.left {w w':World} {p q:Addr} {u v x:Value} (h:Two w w' p u q v) (hp:w.cell? p=some x) (hne:p≠q):w'.cell? p=some u:=by
 rcases h with rfl|rfl
 ·rw[World.cell?_setCell_other _ _ _ _ hne.symm]
  exact World.cell?_setCell_same _ _ _ (u:=x) hp
 ·exact World.cell?_setCell_same _ _ _ (u:=x) ((World.cell?_setCell_other _ _ _ _ hne.symm).trans hp)
theorem Two.right {w w':World} {p q:Addr} {u v x:Value} (h:Two w w' p u q v) (hq:w.cell? q=some x) (hne:p≠q):w'.cell? q=some v:=h.swap.left hq hne.symm
theorem Two.other {w w':World} {p q:Addr} {u v:Value} (h:Two w w' p u q v) {a:Addr} (hp:a≠p) (hq:a≠q):w'.cell? a=w.cell? a:=by
 rcases h with rfl|rfl
 ·rw[World.cell?_setCell_other _ _ _ _ hq.symm,World.cell?_setCell_other _ _ _ _ hp.symm];rfl
 ·rw[World.cell?_setCell_other _ _ _ _ hp.symm,World.cell?_setCell_other _ _ _ _ hq.symm];rfl
theorem Two.frozen {w w':World} {p q:Addr} {u v:Value} (h:Two w w' p u q v) (a:Addr):w'.frozen? a=w.frozen? a:=by
 rcases h with rfl|rfl
 ·rw[World.frozen?_setCell,World.frozen?_setCell];rfl
 ·rw[World.frozen?_setCell,World.frozen?_setCell];rfl
theorem Two.fr {w w':World} {p q:Addr} {u v:Value} (h:Two w w' p u q v):Fr (fun k=>k=p.block∨k=q.block) w w':=by
 rcases h with rfl|rfl
 ·exact ((Fr.ofBelow (below_drew w)).setCell (fun _=>.inl rfl) u).setCell (fun _=>.inr rfl) v
 ·exact ((Fr.ofBelow (below_drew w)).setCell (fun _=>.inr rfl) v).setCell (fun _=>.inl rfl) u
theorem take_any (w:World) (c:Value) (b ax ox ay oy:Nat) (ux uy:Value) (h2:w.cell? ⟨b,2,none⟩=some (.pointer (some ⟨ax,ox,none⟩))) (h3:w.cell? ⟨b,3,none⟩=some (.pointer (some ⟨ay,oy,none⟩)))
  (hx:w.cell? ⟨ax,ox+3,none⟩=some ux) (hy:w.cell? ⟨ay,oy+2,none⟩=some uy) (fx:w.frozen? ⟨ax,ox+3,none⟩=false) (fy:w.frozen? ⟨ay,oy+2,none⟩=false)
  (hbx:b≠ax) (hby:b≠ay) (hne:ax≠ay∨ox+3≠oy+2) :
  Calls prog 183 #[c,.pointer (some ⟨b,0,none⟩)] w (fun e w'=>e=.returned (.tuple #[])∧Two w w' ⟨ay,oy+2,none⟩ (.pointer (some ⟨ax,ox,none⟩)) ⟨ax,ox+3,none⟩ (.pointer (some ⟨ay,oy,none⟩))):=by
 have d2:w.drew.cell? ⟨b,2,none⟩=some (.pointer (some ⟨ax,ox,none⟩)):=h2
 have d3:w.drew.cell? ⟨b,3,none⟩=some (.pointer (some ⟨ay,oy,none⟩)):=h3
 have dx:w.drew.cell? ⟨ax,ox+3,none⟩=some ux:=hx
 have dy:w.drew.cell? ⟨ay,oy+2,none⟩=some uy:=hy
 have dfx:w.drew.frozen? ⟨ax,ox+3,none⟩=false:=fx
 have dfy:w.drew.frozen? ⟨ay,oy+2,none⟩=false:=fy
 have ne1:(⟨ay,oy+2,none⟩:Addr)≠⟨ax,ox+3,none⟩:=by
  intro e
  injection e with e1 e2
  rcases hne with h|h
  ·exact h e1.symm
  ·exact h e2.symm
 have ex:(w.setCell ⟨ay,oy+2,none⟩ (.pointer (some ⟨ax,ox,none⟩))).drew.cell? ⟨ax,ox+3,none⟩=some ux:=(World.cell?_setCell_other _ _ _ _ ne1).trans hx
 have ey:(w.setCell ⟨ax,ox+3,none⟩ (.pointer (some ⟨ay,oy,none⟩))).drew.cell? ⟨ay,oy+2,none⟩=some uy:=(World.cell?_setCell_other _ _ _ _ ne1.symm).trans hy
 have gx:(w.setCell ⟨ay,oy+2,none⟩ (.pointer (some ⟨ax,ox,none⟩))).drew.frozen? ⟨ax,ox+3,none⟩=false:=(World.frozen?_setCell _ _ _ _).trans fx
 have gy:(w.setCell ⟨ax,ox+3,none⟩ (.pointer (some ⟨ay,oy,none⟩))).drew.frozen? ⟨ay,oy+2,none⟩=false:=(World.frozen?_setCell _ _ _ _).trans fy
 go_enter func183,ntmps183
 go_region
 all_goals (
  go_wp2
  refine bodyPost_end (results_none rfl _ _ _) rfl ⟨rfl,?_⟩
  first
   | exact .inl rfl
   | exact .inr rfl)
theorem front_any (w:World) (g b ay oy:Nat) (u2 u3 uy:Value) (h2:w.cell? ⟨b,2,none⟩=some u2) (h3:w.cell? ⟨b,3,none⟩=some u3) (h5:w.cell? ⟨g,5,none⟩=some (.pointer (some ⟨ay,oy,none⟩)))
  (hy:w.cell? ⟨ay,oy+2,none⟩=some uy) (f2:w.frozen? ⟨b,2,none⟩=false) (f3:w.frozen? ⟨b,3,none⟩=false) (f5:w.frozen? ⟨g,5,none⟩=false) (fy:w.frozen? ⟨ay,oy+2,none⟩=false)
  (hbg:b≠g) (hby:b≠ay) (hne:ay≠g∨oy+2≠5) :
  Calls prog 184 #[.pointer (some ⟨g,0,none⟩),.pointer (some ⟨b,0,none⟩)] w (fun e w'=>e=.returned (.tuple #[])∧
   ∃ w1,Two w w1 ⟨b,2,none⟩ (.pointer (some ⟨g,2,none⟩)) ⟨b,3,none⟩ (.pointer (some ⟨ay,oy,none⟩))∧Two w1 w' ⟨ay,oy+2,none⟩ (.pointer (some ⟨b,0,none⟩)) ⟨g,5,none⟩ (.pointer (some ⟨b,0,none⟩))):=by
 have d5:w.drew.cell? ⟨g,5,none⟩=some (.pointer (some ⟨ay,oy,none⟩)):=h5
 have d2:w.drew.cell? ⟨b,2,none⟩=some u2:=h2
 have d3:w.drew.cell? ⟨b,3,none⟩=some u3:=h3
 have df2:w.drew.frozen? ⟨b,2,none⟩=false:=f2
 have df3:w.drew.frozen? ⟨b,3,none⟩=false:=f3
 have n23:(⟨b,2,none⟩:Addr)≠⟨b,3,none⟩:=by simp
 have a1:(w.setCell ⟨b,2,none⟩ (.pointer (some ⟨g,2,none⟩))).drew.cell? ⟨b,3,none⟩=some u3:=(World.cell?_setCell_other _ _ _ _ n23).trans h3
 have a2:(w.setCell ⟨b,3,none⟩ (.pointer (some ⟨ay,oy,none⟩))).drew.cell? ⟨b,2,none⟩=some u2:=(World.cell?_setCell_other _ _ _ _ n23.symm).trans h2
 have a3:(w.setCell ⟨b,2,none⟩ (.pointer (some ⟨g,2,none⟩))).drew.frozen? ⟨b,3,none⟩=false:=(World.frozen?_setCell _ _ _ _).trans f3
 have a4:(w.setCell ⟨b,3,none⟩ (.pointer (some ⟨ay,oy,none⟩))).drew.frozen? ⟨b,2,none⟩=false:=(World.frozen?_setCell _ _ _ _).trans f2
 have a5:(w.setCell ⟨b,2,none⟩ (.pointer (some ⟨g,2,none⟩))).drew.cell? ⟨g,5,none⟩=some (.pointer (some ⟨ay,oy,none⟩)):=(World.cell?_setCell_other _ _ _ _ (by simp[hbg])).trans h5
 go_enter func184,ntmps184
 go_wp2
 go_region
 obtain⟨w1,hw1⟩:∃ w1,w1=((w.setCell ⟨b,2,none⟩ (.pointer (some ⟨g,2,none⟩))).setCell ⟨b,3,none⟩ (.pointer (some ⟨ay,oy,none⟩))).drew:=⟨_,rfl⟩
 rw[←hw1]
 have HT:Two w w1 ⟨b,2,none⟩ (.pointer (some ⟨g,2,none⟩)) ⟨b,3,none⟩ (.pointer (some ⟨ay,oy,none⟩)):=.inl hw1
 clear hw1 a1 a2 a3 a4 a5 d2 d3 d5 df2 df3
 have b2:w1.drew.cell? ⟨b,2,none⟩=some (.pointer (some ⟨g,2,none⟩)):=HT.left h2 n23
 have b3:w1.drew.cell? ⟨b,3,none⟩=some (.pointer (some ⟨ay,oy,none⟩)):=HT.right h3 n23
 have by':w1.cell? ⟨ay,oy+2,none⟩=some uy:=(HT.other (fun e=>hby (by injection e with e;exact e.symm)) (fun e=>hby (by injection e with e;exact e.symm))).trans hy
 have b5:w1.cell? ⟨g,5,none⟩=some (.pointer (some ⟨ay,oy,none⟩)):=(HT.other (fun e=>hbg (by injection e with e;exact e.symm)) (fun e=>hbg (by injection e with e;exact e.symm))).trans h5
 have gy:w1.frozen? ⟨ay,oy+2,none⟩=false:=(HT.frozen _).trans fy
 have g5:w1.frozen? ⟨g,5,none⟩=false:=(HT.frozen _).trans f5
 have ey:w1.drew.cell? ⟨ay,oy+2,none⟩=some uy:=by'
 have e5:w1.drew.cell? ⟨g,5,none⟩=some (.pointer (some ⟨ay,oy,none⟩)):=b5
 have fy1:w1.drew.frozen? ⟨ay,oy+2,none⟩=false:=gy
 have f51:w1.drew.frozen? ⟨g,5,none⟩=false:=g5
 have ny:(⟨ay,oy+2,none⟩:Addr)≠⟨g,5,none⟩:=by
  intro e
  injection e with e1 e2
  rcases hne with h|h
  ·exact h e1
  ·exact h e2
 have k5:(w1.setCell ⟨ay,oy+2,none⟩ (.pointer (some ⟨b,0,none⟩))).drew.cell? ⟨g,5,none⟩=some (.pointer (some ⟨ay,oy,none⟩)):=(World.cell?_setCell_other _ _ _ _ ny).trans b5
 have k6:(w1.setCell ⟨ay,oy+2,none⟩ (.pointer (some ⟨b,0,none⟩))).drew.frozen? ⟨g,5,none⟩=false:=(World.frozen?_setCell _ _ _ _).trans g5
 have k7:(w1.setCell ⟨g,5,none⟩ (.pointer (some ⟨b,0,none⟩))).drew.cell? ⟨ay,oy+2,none⟩=some uy:=(World.cell?_setCell_other _ _ _ _ ny.symm).trans by'
 have k8:(w1.setCell ⟨g,5,none⟩ (.pointer (some ⟨b,0,none⟩))).drew.frozen? ⟨ay,oy+2,none⟩=false:=(World.frozen?_setCell _ _ _ _).trans gy
 clear h2 h3 h5 hy f2 f3 f5 fy n23
 go_wp2
 go_region
 all_goals (
  refine bodyPost_end (results_none rfl _ _ _) rfl ⟨rfl,w1,HT,?_⟩
  first
   | exact .inl rfl
   | exact .inr rfl)
end
section
open Go.RowKit Go.Maps Go.ChangeMaps Go.WideMaps
def heldV (v:Value):Option (DataW Value×List MemPlace):=some (.held v,[])
def klit (s:ByteArray):Lit:=.string s.data.toList
theorem klit_inj {s u:ByteArray} (h:klit s=klit u):s=u:=by
 have h1:s.data.toList=u.data.toList:=by injection h
 cases s;cases u
 simp only[ByteArray.mk.injEq]
 exact Array.toList_inj.1 h1
structure KmAt (w:World) (k:TypeId) (b:Nat) (get:ByteArray→Option Value) (n:Nat):Prop where
 ex:∃ D:DataW Value,w.ownsMap prog k heldV b n D∧Maps.size D=n∧(∀ s,Maps.has D (klit s)=(get s).isSome)∧∀ s v z,get s=some v→D.atKey (klit s) z=.held v
section
variable {w:World} {k:TypeId} {b n:Nat} {get:ByteArray→Option Value}
theorem ownsMap_tight {H:Type} {P:Program} {R:Value→Option (DataW H×List MemPlace)} {m:Nat} {D:DataW H} (h:w.ownsMap P k R b m D):w.ownsMap P k R b (Maps.size D) D:=by
 obtain⟨es,clock,hb,F,hs,rfl⟩:=h
 refine⟨es,clock,hb,F,?_,rfl⟩
 have e1:Maps.size (DataW.map ((es.toList.map (Go.WideElems.rg P k R)).foldr DataW.insert []))=es.size:=by simp[Maps.size,length_sorted]
 rw[e1];exact Nat.le_refl _
theorem KmAt.made_at (w:World) (k:TypeId) {b:Nat} (hb:w.heap[b]?=some (.map #[] 0)):KmAt w k b (fun _=>none) 0:=by
 refine⟨.map [],⟨#[],0,hb,?_,Nat.le_refl _,rfl⟩,rfl,fun _=>rfl,fun _ _ _ h=>by cases h⟩
 obtain⟨es,c,h1,F,_,_⟩:=World.ownsMap_made (H:=Value) w prog k heldV
 have h2:(w.alloc (.map #[] 0)).heap[w.heap.size]?=some (.map #[] 0):=Array.getElem?_push_size
 rw[h2] at h1
 cases h1
 exact F
theorem KmAt.lt (h:KmAt w k b get n):b<w.heap.size:=by
 obtain⟨D,hD,_⟩:=h.ex
 exact hD.lt
theorem KmAt.same {w':World} (h:KmAt w k b get n) (e:w'.heap[b]?=w.heap[b]?):KmAt w' k b get n:=by
 obtain⟨D,⟨es,c,hb,r⟩,q⟩:=h.ex
 exact⟨D,⟨es,c,by rw[e];exact hb,r⟩,q⟩
theorem KmAt.fr {w':World} {S:Nat→Prop} (h:KmAt w k b get n) (hf:Fr S w w') (hs:¬ S b):KmAt w' k b get n:=h.same (hf.block b h.lt hs)
theorem KmAt.below {w':World} {B:Nat} (h:KmAt w k b get n) (hb:Below B w w') (hB:b<B):KmAt w' k b get n:=h.same (hb.block b hB)
theorem Fr.ofTurned {w':World} (h:w.mapTurned w' b):Fr (·=b) w w':=by
 obtain⟨es,c,es',c',_,rfl⟩:=h
 refine⟨rfl,rfl,rfl,by simp[setBlock],fun i _ hs=>?_⟩
 simp only[setBlock]
 exact Array.getElem?_setIfInBounds_ne (fun e=>hs e.symm)
theorem turned_size {w':World} (h:w.mapTurned w' b):w'.heap.size=w.heap.size:=by
 obtain⟨es,c,es',c',_,rfl⟩:=h
 simp[setBlock]
theorem KmAt.put {w':World} {D:DataW Value} {m:Nat} {s:ByteArray} {v:Value} (hk:prog.underlying k=some .string) (hown:w.ownsMap prog k heldV b m D) (hh:∀ s,Maps.has D (klit s)=(get s).isSome) (ha:∀ s v z,get s=some v→D.atKey (klit s) z=.held v)
  (h':w'.ownsMap prog k heldV b (m+1) (D.put (klit s) (.held v))):KmAt w' k b (fun u=>if u=s then some v else get u) (if (get s).isSome then Maps.size D else Maps.size D+1):=by
 have K:=string_keyed hk
 have hT:=hown.tidy K
 have hsz:=size_put (k:=klit s) hT (DataW.held v)
 rw[hh s] at hsz
 have ht:=ownsMap_tight h'
 rw[hsz] at ht
 refine⟨_,ht,hsz,fun u=>?_,fun u x z hu=>?_⟩
 ·by_cases e:u=s
  ·subst e;simp[has_put_same hown.isMap (show WideAt.IsKeyLit (klit u) from trivial)]
  ·simp only[if_neg e]
   rw[has_put_other (fun q=>e (klit_inj q)),hh u]
 ·by_cases e:u=s
  ·subst e
   simp only[if_true,Option.some.injEq] at hu
   rw[atKey_put_same hown.isMap (show WideAt.IsKeyLit (klit u) from trivial),hu]
  ·simp only[if_neg e] at hu
   rw[atKey_put_other (fun q=>e (klit_inj q)),ha u x z hu]
theorem KmAt.del {w':World} {D:DataW Value} {m:Nat} {s:ByteArray} (hk:prog.underlying k=some .string) (hown:w.ownsMap prog k heldV b m D) (hh:∀ s,Maps.has D (klit s)=(get s).isSome) (ha:∀ s v z,get s=some v→D.atKey (klit s) z=.held v)
  (h':w'.ownsMap prog k heldV b m (D.del (klit s))):KmAt w' k b (fun u=>if u=s then none else get u) (Maps.size D-(if (get s).isSome then 1 else 0)):=by
 have K:=string_keyed hk
 have hT:=hown.tidy K
 have hsz:=size_del (k:=klit s) hT
 rw[hh s] at hsz
 have ht:=ownsMap_tight h'
 have e1:Maps.size (D.del (klit s))=Maps.size D-(if (get s).isSome then 1 else 0):=by omega
 rw[e1] at ht
 refine⟨_,ht,e1,fun u=>?_,fun u x z hu=>?_⟩
 ·by_cases e:u=s
  ·subst e;simp[has_del_same]
  ·simp only[if_neg e]
   rw[has_del_other (fun q=>e (klit_inj q)),hh u]
 ·by_cases e:u=s
  ·subst e;simp at hu
  ·simp only[if_neg e] at hu
   rw[atKey_del_other (fun q=>e (klit_inj q)),ha u x z hu]
end
section
variable (w:World) {ops:Array Oper} {rest:List Oper} {o:Oper} {a:Act} {Q:Exit→Act→World→Prop}
theorem wpList_kmLook (hg:o.guard=none) (m x:Operand) (t:TypeId) (hop:o.op=Op.lookup t m x true) (k e:TypeId) (hk:prog.underlying k=some .string) (ht:prog.underlying t=some (.map k e))
  {z:Value} (hz:(zeroValue e).run prog w=.ok z w) (b n:Nat) (get:ByteArray→Option Value) (hm:a.eval m=.map (some b)) (h:KmAt w k b get n) (s:ByteArray) (hx:a.eval x=.string s) (hs:s.size≤maxLen)
  (hK:wpList prog ops Q rest (a.put o.dst (.tuple #[(get s).getD z,.bool (get s).isSome])) w):wpList prog ops Q (o :: rest) a w:=by
 obtain⟨D,hown,hn,hh,ha⟩:=h.ex
 refine wpList_lookup_own_ok w hg m x t hop k e (string_keyed hk) ht heldV hz (.held z) [] rfl b n D hm hown (.string s) (klit s) hx (keyOf_string_mk hk hs) fun v ps hv=>?_
 have e1:DataW.held v=D.atKey (klit s) (.held z):=by
  have:=congrArg (Option.map Prod.fst) hv
  simpa [heldV] using this
 cases hg':get s with
 | none=>
  rw[atKey_of_not_has (by rw[hh s,hg'];rfl)] at e1
  injection e1 with e1
  subst e1
  rw[hh s]
  simpa [hg'] using hK
 | some y=>
  rw[ha s y _ hg'] at e1
  injection e1 with e1
  subst e1
  rw[hh s]
  simpa [hg'] using hK
theorem wpList_kmPut (hg:o.guard=none) (m x v:Operand) (t:TypeId) (hop:o.op=Op.mapUpdate t m x v) (k e:TypeId) (hk:prog.underlying k=some .string) (ht:prog.underlying t=some (.map k e))
  (b n:Nat) (get:ByteArray→Option Value) (hm:a.eval m=.map (some b)) (h:KmAt w k b get n) (hn:n<maxLen) (s:ByteArray) (y:Value) (hx:a.eval x=.string s) (hs:s.size≤maxLen) (hv:a.eval v=y)
  (hK:∀ w',KmAt w' k b (fun u=>if u=s then some y else get u) (if (get s).isSome then n else n+1)→Fr (·=b) w w'→w'.heap.size=w.heap.size→wpList prog ops Q rest (a.put o.dst undef) w'):wpList prog ops Q (o :: rest) a w:=by
 obtain⟨D,hown,hnD,hh,ha⟩:=h.ex
 refine wpList_mapUpdate_in w hg m x v t hop k e (string_keyed hk) ht heldV b n D hm hown hn (.string s) y (klit s) hx hv (keyOf_string_mk hk hs) (.held y) [] rfl fun w' h1 h2=>?_
 have h3:=KmAt.put hk hown hh ha h1
 rw[hnD] at h3
 exact hK w' h3 (Fr.ofTurned h2) (turned_size h2)
theorem wpList_kmDel (hg:o.guard=none) (m x:Operand) (t k:TypeId) (hop:o.op=Op.call { callee:=Callee.builtin Builtin.delete,args:=#[m,x],argTypes:=#[t,k] }) (e:TypeId) (hk:prog.underlying k=some .string) (ht:prog.underlying t=some (.map k e))
  (b n:Nat) (get:ByteArray→Option Value) (hm:a.eval m=.map (some b)) (h:KmAt w k b get n) (s:ByteArray) (hx:a.eval x=.string s) (hs:s.size≤maxLen)
  (hK:∀ w',KmAt w' k b (fun u=>if u=s then none else get u) (n-(if (get s).isSome then 1 else 0))→Fr (·=b) w w'→w'.heap.size=w.heap.size→wpList prog ops Q rest (a.put o.dst (.tuple #[])) w'):wpList prog ops Q (o :: rest) a w:=by
 obtain⟨D,hown,hnD,hh,ha⟩:=h.ex
 refine wpList_delete_own w hg m x t k hop e (string_keyed hk) ht heldV b n D hm hown (.string s) (klit s) hx (keyOf_string_mk hk hs) fun w' h1 h2=>?_
 have h3:=KmAt.del hk hown hh ha h1
 rw[hnD] at h3
 exact hK w' h3 (Fr.ofTurned h2) (turned_size h2)
end
end
section
def Node (w:World) (b:Nat) (k:ByteArray) (v:Value):Prop:=∃ l e,w.heap[b]?=some (.cells #[.string k,v,.pointer l,.pointer e] 244 (0,0))
def Ends (w:World) (g m n:Nat):Prop:=∃ l e,w.heap[g]?=some (.cells #[.int .i64 n,.map (some m),.string ⟨#[]⟩,.slice none 0 0,.pointer l,.pointer e] 246 (0,0))
theorem Node.set {w:World} {b:Nat} {k:ByteArray} {v:Value} (h:Node w b k v) {a:Addr} {p:Option Addr} (ha:a.block=b→a=⟨b,2,none⟩∨a=⟨b,3,none⟩):Node (w.setCell a (.pointer p)) b k v:=by
 obtain⟨l,e,h⟩:=h
 by_cases hb:a.block=b
 ·rcases ha hb with rfl|rfl
  ·exact⟨p,e,by rw[heap_setCell h];rfl⟩
  ·exact⟨l,p,by rw[heap_setCell h];rfl⟩
 ·exact⟨l,e,heap_setCell' h (fun e=>hb e.symm) _⟩
theorem Ends.set {w:World} {g m n:Nat} (h:Ends w g m n) {a:Addr} {p:Option Addr} (ha:a.block=g→a=⟨g,4,none⟩∨a=⟨g,5,none⟩):Ends (w.setCell a (.pointer p)) g m n:=by
 obtain⟨l,e,h⟩:=h
 by_cases hb:a.block=g
 ·rcases ha hb with rfl|rfl
  ·exact⟨p,e,by rw[heap_setCell h];rfl⟩
  ·exact⟨l,p,by rw[heap_setCell h];rfl⟩
 ·exact⟨l,e,heap_setCell' h (fun e=>hb e.symm) _⟩
theorem Node.two {w w':World} {b:Nat} {k:ByteArray} {v:Value} {p q:Addr} {x y:Option Addr} (h:Node w b k v) (ht:Two w w' p (.pointer x) q (.pointer y)) (hp:p.block=b→p=⟨b,2,none⟩∨p=⟨b,3,none⟩) (hq:q.block=b→q=⟨b,2,none⟩∨q=⟨b,3,none⟩):Node w' b k v:=by
 have hd:Node w.drew b k v:=h
 rcases ht with rfl|rfl
 ·exact (hd.set hp).set hq
 ·exact (hd.set hq).set hp
theorem Ends.two {w w':World} {g m n:Nat} {p q:Addr} {x y:Option Addr} (h:Ends w g m n) (ht:Two w w' p (.pointer x) q (.pointer y)) (hp:p.block=g→p=⟨g,4,none⟩∨p=⟨g,5,none⟩) (hq:q.block=g→q=⟨g,4,none⟩∨q=⟨g,5,none⟩):Ends w' g m n:=by
 have hd:Ends w.drew g m n:=h
 rcases ht with rfl|rfl
 ·exact (hd.set hp).set hq
 ·exact (hd.set hq).set hp
theorem Node.below {w w':World} {b:Nat} {k:ByteArray} {v:Value} (h:Node w b k v) (e:w'.heap[b]?=w.heap[b]?):Node w' b k v:=by
 obtain⟨l,r,h⟩:=h
 exact⟨l,r,e.trans h⟩
theorem Ends.below {w w':World} {g m n:Nat} (h:Ends w g m n) (e:w'.heap[g]?=w.heap[g]?):Ends w' g m n:=by
 obtain⟨l,r,h⟩:=h
 exact⟨l,r,e.trans h⟩
theorem Node.free {w:World} {b:Nat} {k:ByteArray} {v:Value} (h:Node w b k v) (i:Nat):w.frozen? ⟨b,i,none⟩=false:=by
 obtain⟨l,e,h⟩:=h
 exact frozen_heap h i
theorem Ends.free {w:World} {g m n:Nat} (h:Ends w g m n) (i:Nat):w.frozen? ⟨g,i,none⟩=false:=by
 obtain⟨l,e,h⟩:=h
 exact frozen_heap h i
theorem Node.key {w:World} {b:Nat} {k:ByteArray} {v:Value} (h:Node w b k v):w.cell? ⟨b,0,none⟩=some (.string k):=by
 obtain⟨l,e,h⟩:=h
 exact cell_heap h 0 rfl
theorem Node.val {w:World} {b:Nat} {k:ByteArray} {v:Value} (h:Node w b k v):w.cell? ⟨b,1,none⟩=some v:=by
 obtain⟨l,e,h⟩:=h
 exact cell_heap h 1 rfl
theorem Ends.most {w:World} {g m n:Nat} (h:Ends w g m n):w.cell? ⟨g,0,none⟩=some (.int .i64 n):=by
 obtain⟨l,e,h⟩:=h
 exact cell_heap h 0 rfl
theorem Ends.all {w:World} {g m n:Nat} (h:Ends w g m n):w.cell? ⟨g,1,none⟩=some (.map (some m)):=by
 obtain⟨l,e,h⟩:=h
 exact cell_heap h 1 rfl
theorem Node.ne {w:World} {b g m n:Nat} {k:ByteArray} {v:Value} (h:Node w b k v) (h':Ends w g m n):b≠g:=by
 rintro rfl
 obtain⟨l,e,h⟩:=h
 obtain⟨l',e',h'⟩:=h'
 rw[h] at h'
 cases h'
structure RingIs (w:World) (g m n:Nat) (ps:List (Nat×ByteArray×Value)):Prop where
 ends:Ends w g m n
 nodes:∀ p∈ps,Node w p.1 p.2.1 p.2.2
 chn:Chn w g none (ps.map (·.1))
 nd:(ps.map (·.1)).Nodup
theorem rL_block {g b:Nat} {x:Option Nat} (hg:b≠g) (h:(rL g x).block=b):rL g x=⟨b,2,none⟩∨rL g x=⟨b,3,none⟩:=by
 cases x with
 | none=>exact absurd h.symm hg
 | some c=>exact .inl (by cases h;rfl)
theorem rE_block {g b:Nat} {x:Option Nat} (hg:b≠g) (h:(rE g x).block=b):rE g x=⟨b,2,none⟩∨rE g x=⟨b,3,none⟩:=by
 cases x with
 | none=>exact absurd h.symm hg
 | some c=>exact .inr (by cases h;rfl)
theorem rL_ends {g:Nat} {x:Option Nat} (hx:x≠some g) (h:(rL g x).block=g):rL g x=⟨g,4,none⟩∨rL g x=⟨g,5,none⟩:=by
 cases x with
 | none=>exact .inl rfl
 | some c=>exact absurd (congrArg some h) hx
theorem rE_ends {g:Nat} {x:Option Nat} (hx:x≠some g) (h:(rE g x).block=g):rE g x=⟨g,4,none⟩∨rE g x=⟨g,5,none⟩:=by
 cases x with
 | none=>exact .inr rfl
 | some c=>exact absurd (congrArg some h) hx
theorem joined_of {w w':World} {g:Nat} {x y:Option Nat} {u v:Value} (h:Two w w' (rL g y) (rP g x) (rE g x) (rP g y)) (hl:w.cell? (rL g y)=some u) (he:w.cell? (rE g x)=some v):Joined w w' g x y:=
 ⟨⟨h.right he (rE_ne_rL g x y).symm,h.left hl (rE_ne_rL g x y).symm⟩,fun _ h1 h2=>h.other h2 h1⟩
end
end Go.Proofs.YtefccfakhgdfbabGreatDoor
