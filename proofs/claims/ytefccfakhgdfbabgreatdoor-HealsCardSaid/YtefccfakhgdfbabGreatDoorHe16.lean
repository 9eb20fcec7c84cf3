/- (*Log).grow: a leaf more; hashes of higher levels that are whole then. Conditions: fewer than 2^40 hashes on each level, fewer than 2^20 levels. -/
import Derived.Test.YtefccfakhgdfbabGreatDoorHe15
set_option linter.unusedVariables false
set_option linter.unusedSimpArgs false
open Go.RowKit Go.Proofs.Tryz
set_option maxRecDepth 100000
set_option maxHeartbeats 4000000
namespace Go.Proofs.YtefccfakhgdfbabGreatDoor
section
theorem info_bsE:∃ i,prog.info? 94=some i∧i.zero=some (.slice none 0 0)∧i.size=1∧i.bytes=24:=by
 have h:(prog.info? 94).map (fun i=>(i.zero,i.size,i.bytes))=some (some (.slice none 0 0),1,24):=by kernel_rfl
 cases hi:prog.info? 94 with
 | none=>rw[hi] at h;simp at h
 | some i=>rw[hi] at h;simp at h;exact⟨i,rfl,h.1,h.2.1,h.2.2⟩
theorem eql_bsnil (w:World) (a:Option Addr) (n c:Nat):(binOp .eql 135 (.slice a n c) (.slice none 0 0)).run prog w=.ok (.bool a.isNone) w:=Lib.run_eql_slice_nil w _ _ a n c 0 0 underlying135
theorem bss_ones {w:World} {base:Nat} {us:List Value} {ls:List (List UInt8)} (hl:us.length=ls.length) (hb:∀ (j:Nat) (u:Value) (l:List UInt8),us[j]?=some u→ls[j]?=some l→OwnBytes w base u l):∀ u∈us,u.oneCell'=true:=by
 intro u hu
 obtain⟨j,hj⟩:=List.mem_iff_getElem?.1 hu
 have hjl:j<ls.length:=by have:=(List.getElem?_eq_some_iff.1 hj).1;omega
 exact (hb j u _ hj (List.getElem?_eq_getElem hjl)).one
theorem bundleF_unb {l:List Fil} {i w:Nat} {s:ByteArray} (h:getF l (bunName i w)=some s):bundleF l i w=unbW s w:=by unfold bundleF unbW;rw[h];rfl
structure Lkd (w:World) (g gd:Nat) (v ve vl vp:Value) (vs:List Value) (L:Lg) (ve':Value) (d':Dk) (es:List (List UInt8)) (w':World):Prop where
 disk:DiskAt w' gd v d'
 log:LogIs w' g gd ve' vl vp vs { L with entries:=es }
 fr:Fr (fun k=>k=gd∨LogS g ve vl vp vs k) w w'
 sub:Sub w (LogS g ve vl vp vs) (LogS g ve' vl vp vs)
theorem lks {w:World} {g gd:Nat} {ve vl vp ve':Value} {vs:List Value} (h:Sub w (LogS g ve vl vp vs) (LogS g ve' vl vp vs)):Sub w (fun k=>k=gd∨LogS g ve vl vp vs k) (fun k=>k=gd∨LogS g ve' vl vp vs k):=fun k hk=>by
 rcases hk with hk|hk
 ·exact .inl (.inl hk)
 ·exact (h k hk).imp (fun h=>.inr h) id
theorem Lkd.look {w w1 w2:World} {g gd:Nat} {v ve vl vp ve1:Value} {vs:List Value} {L:Lg} {d1 d2:Dk} {es:List (List UInt8)} (h:Lkd w g gd v ve vl vp vs L ve1 d1 es w1) (hd:DiskAt w2 gd v d2) (hf:Fr (·=gd) w1 w2):Lkd w g gd v ve vl vp vs L ve1 d2 es w2:=
 ⟨hd,h.log.fr hf (fun k hk e=>h.log.apartDisk h.disk k hk (.inl e)) (fun k C fz hk e=>by subst e;have:=h.disk.1;rw[hk] at this;simp at this),Fr.sub h.fr (hf.weak fun k _ hk=>(.inl hk:k=gd∨LogS g ve1 vl vp vs k)) (lks h.sub),h.sub⟩
theorem Lkd.below {w w1 w2:World} {g gd:Nat} {v ve vl vp ve1:Value} {vs:List Value} {L:Lg} {d1:Dk} {es:List (List UInt8)} (h:Lkd w g gd v ve vl vp vs L ve1 d1 es w1) (hb:Below w1.heap.size w1 w2):Lkd w g gd v ve vl vp vs L ve1 d1 es w2:=
 h.look (h.disk.below hb) (Fr.ofBelow hb)
theorem Lkd.ents {w w1 w2:World} {g gd:Nat} {v ve vl vp ve1 ve2:Value} {vs:List Value} {L:Lg} {d1:Dk} {es es2:List (List UInt8)} (h:Lkd w g gd v ve vl vp vs L ve1 d1 es w1) (hl:LogIs w2 g gd ve2 vl vp vs { L with entries:=es2 }) (hf:Fr (LogS g ve1 vl vp vs) w1 w2) (hs:Sub w1 (LogS g ve1 vl vp vs) (LogS g ve2 vl vp vs)) (hsz:w.heap.size≤w1.heap.size):Lkd w g gd v ve vl vp vs L ve2 d1 es2 w2:=
 ⟨h.disk.fr hf fun k hk hS=>h.log.apartDisk h.disk k hS hk,hl,Fr.sub h.fr (hf.weak fun k _ hk=>(.inr hk:k=gd∨LogS g ve1 vl vp vs k)) (lks h.sub),h.sub.trans hs hsz⟩
def loadPost (w:World) (g gd:Nat) (v ve vl vp:Value) (vs:List Value) (d:Dk) (L:Lg) (f:Nat→Addr) (n B:Nat) (e:Ending) (w':World):Prop:=
 (∃ ve' d' es' i q m r,Lkd w g gd v ve vl vp vs L ve' d' es' w'∧Hurt B d d'∧e=.returned (.iface 153 (.pointer (some ⟨r,0,none⟩)))∧w.heap.size≤q∧w.heap.size≤r∧w'.heap[q]?=some (.cells #[.int .i64 m] 366 (0,0))∧
   w'.heap[r]?=some (.cells #[.string (bunName i (min 4 (n-4*i))),.iface 152 (.pointer (some ⟨q,0,none⟩))] 155 (0,0)))∨
 (∃ ve' d' es' i r,Lkd w g gd v ve vl vp vs L ve' d' es' w'∧Calm B d d'∧loadP d.files n ((n+3) / 4) 0 []=(es',some i)∧e=.returned (.iface 153 (.pointer (some ⟨r,0,none⟩)))∧w.heap.size≤r∧
   w'.heap[r]?=some (.cells #[.string (bunName i (min 4 (n-4*i))),.iface 338 (.pointer (some (f 5)))] 155 (0,0)))∨
 (∃ ve' d' es',Lkd w g gd v ve vl vp vs L ve' d' es' w'∧Calm B d d'∧loadP d.files n ((n+3) / 4) 0 []=(es',none)∧e=.returned .nilIface)
theorem loadP_next {l:List Fil} {n i:Nat} {d:List (List UInt8)} (h:4*i<n):loadP l n ((n+3) / 4-i) i d=match bundleF l i (min 4 (n-4*i)) with
  | none=>(d,some i)
  | some e=>loadP l n ((n+3) / 4-(i+1)) (i+1) (d++e):=by
 obtain⟨m,hm⟩:∃ m,(n+3) / 4-i=m+1:=⟨(n+3) / 4-i-1,by omega⟩
 rw[hm,loadP,show (n+3) / 4-(i+1)=m by omega]
 cases bundleF l i (min 4 (n-4*i)) <;> rfl
theorem loadP_end {l:List Fil} {n i:Nat} {d:List (List UInt8)} (h:n≤4*i):loadP l n ((n+3) / 4-i) i d=(d,none):=by
 rw[show (n+3) / 4-i=0 by omega,loadP]
theorem load_any (f:Nat→Addr) (w:World) (g gd:Nat) (v ve vl vp:Value) (vs:List Value) (d:Dk) (L:Lg) (h:LogIs w g gd ve vl vp vs L) (hD:DiskAt w gd v d) (n N:Nat) (hE:EnvS f (fun k=>k=gd∨LogS g ve vl vp vs k) w)
  (hL:L.entries = []) (hn:n<9223372036854775808) (hN:FewB d.files N) (hN2:N≤1048576) (hc:d.calls<1000000000000) (hsz:∀ b∈d.files,b.2.size≤1048576) :
  Calls prog 68 #[.pointer (some ⟨g,0,none⟩),.int .i64 n] w (loadPost w g gd v ve vl vp vs d L f n (N+1)):=by
 have HE:=zh hE
 have HN:=zh hN
 have HZ:=zh hsz
 have hg:=lt_of_heap h.cells
 have hlk:Lkd w g gd v ve vl vp vs L ve d [] w:=⟨hD,by rw[←hL];exact h,Fr.refl _ _,Sub.refl _ _⟩
 have HL:=zh hlk
 clear h hD hE hL hN hsz hlk
 go_enter func68,ntmps68
 go_wp2
 go_loopg [5] (N+1) (fun gg s5 wr=>∃ i:Nat,i≤N∧N+1-i≤gg∧s5=.int .i64 i∧∃ ve1 d1 es1,Aside (Lkd w g gd v ve vl vp vs L ve1 d1 es1 wr)∧Aside (Calm i d d1)∧Aside (loadP d.files n ((n+3) / 4) 0 []=loadP d.files n ((n+3) / 4-i) i es1)∧Aside (es1.length=min n (4*i))∧Aside (Taken d.files es1)∧w.heap.size≤wr.heap.size)
 case atStart=>exact⟨0,Nat.zero_le _,by omega,rfl,ve,d,[],HL.o,Calm.refl d,rfl,by show [].length=_;simp,Taken.nil _,Nat.le_refl _⟩
 case round=>
  obtain⟨i,hi,hgg,rfl,ve1,d1,es1,HL1,HC1,HP1,HLEN,HT1,hsw⟩:=hrel
  obtain⟨⟨_,_,c2,_,_,_⟩,f0⟩:=HL1.o.log.heads
  have hents:=HL1.o.log.ents
  obtain⟨vsr,hrow,_⟩:=hents
  obtain⟨a1,cp1,rfl⟩:=own_any hrow
  clear hrow
  obtain⟨ln,hln⟩:∃ ln,ln=es1.length:=⟨_,rfl⟩
  have c2':wr.cell? ⟨g,2,none⟩=some (.slice a1 ln cp1):=by rw[hln];exact c2
  have hl4:ln=min n (4*i):=by rw[hln];exact HLEN.o
  have HLN:=zh hln
  clear c2 hln
  by_cases hlt:ln<n
  ·have hltz:(ln:Int)<(n:Int):=by omega
   have h4i:4*i<n:=by omega
   have hcon:=fat_any (-1) i n wr h4i hn (HE.o.step HL1.o.fr (lks HL1.o.sub)).num
   have HL4:=zh hl4
   have H4I:=zh h4i
   clear hl4 h4i
   obtain⟨k,hk⟩:∃ k,k=min 4 (n-4*i):=⟨_,rfl⟩
   rw[←hk] at hcon
   obtain⟨p,hp⟩:∃ p,p=bunName i k:=⟨_,rfl⟩
   rw[show sOf (nameOf (-1) (i:Int) (k:Int))=p from hp.symm] at hcon
   have hc1:d1.calls<1099511627776:=by have:=HC1.o.calls;omega
   have hfl:=HC1.o.files
   have HK:=zh hk
   have HP:=zh hp
   have HFL:=zh hfl
   clear hk hp
   rcases Nat.eq_zero_or_pos (enterK d1) with h0|h0
   ·have HC2:=zh (HC1.o.trans (calm_enter h0))
    cases hget:getF d1.files p with
    | none=>
     have HG:=zh hget
     clear hget hfl
     go_wp2_with (first
      | (go_at_call 123;refine hcon.mono ?_;rintro e w2 ⟨rfl,hb2⟩;have HL2:=zh (HL1.o.below hb2);have HB2:=zh hb2;clear hb2)
      | (go_at_call 124;refine (bun_miss w2 g gd v _ _ _ _ d1 _ HL2.o.log HL2.o.disk p k hc1 h0 HG.o).mono ?_;rintro e w3 ⟨rfl,hd3,hf3⟩;have HL3:=zh (HL2.o.look hd3 hf3);have HF3:=zh hf3;have hn3:=neq_nils w3;have hq3:=eql_bsnil w3 none 0 0;have s5:=(HE.o.step HL3.o.fr (lks HL3.o.sub)).sents.cells.2.2.2.2.2.1;clear hd3 hf3)
      | (go_at_call 65;refine (at_any _ _ _ _).mono ?_;rintro e w4 ⟨u,rfl,⟨r,rfl,hr,hhr⟩,hb4⟩;have HR:=zh hhr;have HL4':=zh (HL3.o.below hb4);clear hhr hb4))
     go_ret
     refine .inr (.inl ⟨_,_,es1,i,r,HL4'.o,HC2.o.more (by omega),?_,rfl,?_,?_⟩)
     ·rw[HP1.o,loadP_next H4I.o,←HK.o,bundleF_none (by rw[←HP.o,←HFL.o];exact HG.o)]
     ·have:=HB2.o.size;have:=HF3.o.size;omega
     ·rw[←HK.o,←HP.o];exact HR.o
    | some s=>
     have hs20:s.size≤1048576:=by have:=HZ.o _ (getF_some (by rw[←hfl];exact hget));exact this
     cases hu:unbW s k with
     | none=>
      have HG:=zh hget
      have HU:=zh hu
      clear hget hfl hu
      go_wp2_with (first
       | (go_at_call 123;refine hcon.mono ?_;rintro e w2 ⟨rfl,hb2⟩;have HL2:=zh (HL1.o.below hb2);have HB2:=zh hb2;clear hb2)
       | (go_at_call 124;refine (bun_bad w2 g gd v _ _ _ _ d1 _ HL2.o.log HL2.o.disk p k hc1 h0 HG.o hs20 HU.o).mono ?_;rintro e w3 ⟨rfl,hd3,hf3⟩;have HL3:=zh (HL2.o.look hd3 hf3);have HF3:=zh hf3;have hn3:=neq_nils w3;have hq3:=eql_bsnil w3 none 0 0;have s5:=(HE.o.step HL3.o.fr (lks HL3.o.sub)).sents.cells.2.2.2.2.2.1;clear hd3 hf3)
       | (go_at_call 65;refine (at_any _ _ _ _).mono ?_;rintro e w4 ⟨u,rfl,⟨r,rfl,hr,hhr⟩,hb4⟩;have HR:=zh hhr;have HL4':=zh (HL3.o.below hb4);clear hhr hb4))
      go_ret
      refine .inr (.inl ⟨_,_,es1,i,r,HL4'.o,HC2.o.more (by omega),?_,rfl,?_,?_⟩)
      ·rw[HP1.o,loadP_next H4I.o,←HK.o,bundleF_unb (s:=s) (by rw[←HP.o,←HFL.o];exact HG.o),HU.o]
      ·have:=HB2.o.size;have:=HF3.o.size;omega
      ·rw[←HK.o,←HP.o];exact HR.o
     | some ls=>
      have hbun:bundleF d.files i k=some ls:=by rw[bundleF_unb (s:=s) (by rw[←HP.o,←HFL.o];exact hget)];exact hu
      have hlens:=bundleF_some hbun
      have htk:=HT1.o.step (w:=k) (e:=ls) (i:=i) (by rw[HLEN.o];have:=H4I.o;omega) hbun
      have hfew:=htk.few HN.o
      have hfew2:es1.length+ls.length≤1099511627776:=by rw[List.length_append] at hfew;omega
      have hlp:0<ls.length:=by omega
      have HTK:=zh htk
      have HBUN:=zh hbun
      have HFEW:=zh hfew
      have HLL:=zh hlens.1
      have HG:=zh hget
      have HU:=zh hu
      obtain⟨i0,hi0,hz0,hs0,hby0⟩:=info_bsE
      have HI:=zh (⟨hi0,hz0,hs0,hby0⟩:_∧_∧_∧_)
      clear hget hfl hu hbun hlens htk hfew hi0 hz0 hs0 hby0
      go_wp2_with (first
       | (go_at_call 123;refine hcon.mono ?_;rintro e w2 ⟨rfl,hb2⟩;have HL2:=zh (HL1.o.below hb2);have HB2:=zh hb2;clear hb2)
       | (go_at_call 124;refine (bun_good w2 g gd v _ _ _ _ d1 _ HL2.o.log HL2.o.disk p k hc1 h0 HG.o hs20 HU.o).mono ?_;rintro e w3 ⟨b3,c3,rfl,ho3,hd3,hf3⟩;have HL3:=zh (HL2.o.look hd3 hf3);have HF3:=zh hf3;have hn3:=neq_nils w3;have hq3:=eql_bsnil w3 (some ⟨b3,0,none⟩) ls.length c3;have hd3':=HL3.o.log.heads;have c3g:=hd3'.1.2.2.1;have f3g:=hd3'.2 2;have HO3:=zh ho3;have c3g':w3.cell? ⟨g,2,none⟩=some (.slice a1 ln cp1):=(by rw[HLN.o];exact c3g);have hg3:=lt_of_heap HL3.o.log.cells;clear hd3 hf3 ho3 hd3' c3g)
       | (at_builtin;obtain⟨vsx,hrx,hbx⟩:=HL3.o.log.ents;obtain⟨us,hus,hub⟩:=HO3.o;have hrx':w3.ownsRow 0 94 1 (.slice a1 ln cp1) ln vsx:=(by rw[HLN.o];exact hrx);have hul:us.length=ls.length:=(by simpa using hus.1);refine wpList_appM rfl _ _ _ rfl 0 94 i0 _ 1 24 underlying135 HI.o.1 HI.o.2.1 HI.o.2.2.1 HI.o.2.2.2 rfl (by decide) (by decide) (.slice a1 ln cp1) ln vsx (by rfl) hrx' ⟨b3,0,none⟩ ls.length c3 us rfl (by omega) (hus.cells (g:=b3) rfl) (bss_ones hul hub) hlp (by rw[HLN.o];exact hfew2) (Nat.zero_le _) ?_;intro v' w' h2 h3 h4 h5;obtain⟨gb,cpb,rfl,hgb⟩:=own_slice h2 h5;have H2:=zh h2;have H3:=zh (Fr.ofGrown (S:=fun k=>(Value.slice a1 ln cp1).ownBlock=some k) h3 fun k _ e=>e);have H4:=zh h4;have hne:¬ (Value.slice a1 ln cp1).ownBlock=some g:=(fun e=>by obtain⟨C,hC⟩:=ownBlock_type hrx' e;exact heap_ne HL3.o.log.cells hC (by decide) rfl);have HUL:=zh hul;have HUB:=zh hub;have HRX:=zh hrx';have HBX:=zh hbx;go_must (have k3:=H3.o.cell c3g' hne;have k4:=(H3.o.frozen (p:=⟨g,2,none⟩) hg3 hne).trans f3g;clear h2 h3 h4 h5 hul hub hrx' hbx hrx hus hne)))
      go_roundg (N+1-(i+1))
      case measure=>omega
      case rel=>
       have hown:OwnBss w' 0 (.slice (some ⟨gb,0,none⟩) (ln+ls.length) cpb) (es1++ls):=by
        exact OwnBss.push HRX.o HBX.o HLN.o H3.o H2.o (by rw[HLN.o]) (fun j u l hu hl=>(HUB.o j u l hu hl).mono (Nat.zero_le _))
       have hmv:Moved w3 (.slice a1 es1.length cp1) (.slice (some ⟨gb,0,none⟩) (ln+ls.length) cpb):=by rw[←HLN.o];exact H4.o
       have hfr:Fr (fun k=>(Value.slice a1 es1.length cp1).ownBlock=some k) w3 w':=by rw[←HLN.o];exact H3.o
       have hp:=HL3.o.log.setEnts hfr hown hmv
       have hw23:w.heap.size≤w3.heap.size:=by have:=HB2.o.size;have:=HF3.o.size;omega
       have hw3':w3.heap.size≤(w'.setCell ⟨g,2,none⟩ (.slice (some ⟨gb,0,none⟩) (ln+ls.length) cpb)).heap.size:=hp.2.1.size
       refine⟨i+1,?_,by omega,by go_num,_,_,_,HL3.o.ents hp.1 hp.2.1 hp.2.2 hw23,HC2.o,?_,?_,HTK.o,by omega⟩
       ·have:=HFEW.o;have:=HN.o (i+1) fun j hj=>HTK.o.has j (by rw[List.length_append,HLEN.o,HLL.o,HK.o];have:=H4I.o;omega);exact this
       ·show loadP _ _ _ _ _=_
        rw[HP1.o,loadP_next H4I.o,←HK.o,HBUN.o]
       ·show (es1++ls).length=_
        rw[List.length_append,HLEN.o,HLL.o,HK.o]
        have:=H4I.o
        omega
   ·have HHU:=zh (HC1.o.hurt (hurt_enter h0))
    clear hfl
    go_wp2_with (first
     | (go_at_call 123;refine hcon.mono ?_;rintro e w2 ⟨rfl,hb2⟩;have HL2:=zh (HL1.o.below hb2);have HB2:=zh hb2;clear hb2)
     | (go_at_call 124;refine (bun_err w2 g gd v _ _ _ _ d1 _ HL2.o.log HL2.o.disk p k hc1 h0).mono ?_;rintro e w3 ⟨q,m,r,rfl,hq,hr,hh3,hhr,hd3,hf3⟩;have HL3:=zh (HL2.o.look hd3 hf3);have HQ:=zh hh3;have HR:=zh hhr;have hn3:=neq_nil w3 153 (.pointer (some ⟨r,0,none⟩));clear hd3 hf3 hh3 hhr))
    go_ret
    refine .inl ⟨_,_,es1,i,q,m,r,HL3.o,HHU.o.more (by omega),rfl,?_,?_,HQ.o,?_⟩
    ·have:=HB2.o.size;omega
    ·have:=HB2.o.size;omega
    ·rw[←HK.o,←HP.o];exact HR.o
  ·have hltz:¬ (ln:Int)<(n:Int):=by omega
   have hend:n≤4*i:=by omega
   have HEN:=zh hend
   clear hl4 hend
   go_wp2
   go_ret
   refine .inr (.inr ⟨_,d1,es1,HL1.o,HC1.o.more (by omega),?_,rfl⟩)
   rw[HP1.o,loadP_end HEN.o]
end
section
theorem bequal_any {w:World} {v1 v2:Value} {l1 l2:List UInt8} (h1:BytesAt w v1 l1) (h2:BytesAt w v2 l2):Calls prog 128 #[v1,v2] w fun e w'=>e=.returned (.bool (l1 == l2))∧w'=w:=by
 have e:∀ l:List UInt8,Lib.bytesOf (l.map fun c=>(c.toNat:Int))=l:=by
  intro l
  unfold Lib.bytesOf
  rw[List.map_map]
  conv=>rhs;rw[←List.map_id l]
  exact List.map_congr_left fun c _=>by simp
 have e2:∀ l:List UInt8,strOfNums (l.map fun c=>(c.toNat:Int))=⟨l.toArray⟩:=by
  intro l
  have:=e l
  unfold Lib.bytesOf at this
  unfold strOfNums
  rw[this]
 have h:=bytes_Equal v1 v2 (l1.map fun c=>(c.toNat:Int)) (l2.map fun c=>(c.toNat:Int)) w (by rw[e2];exact run_bs h1) (by rw[e2];exact run_bs h2)
 rw[e,e] at h
 exact h
def furPost (w:World) (g gd:Nat) (v ve vl vp:Value) (vs:List Value) (d:Dk) (L:Lg) (B:Nat) (e:Ending) (w':World):Prop:=
 (∃ d' q m r p,Lkd w g gd v ve vl vp vs L ve d' L.entries w'∧Hurt B d d'∧e=.returned (.tuple #[.bool false,.iface 153 (.pointer (some ⟨r,0,none⟩))])∧w.heap.size≤q∧w.heap.size≤r∧w'.heap[q]?=some (.cells #[.int .i64 m] 366 (0,0))∧
   w'.heap[r]?=some (.cells #[.string p,.iface 152 (.pointer (some ⟨q,0,none⟩))] 155 (0,0)))∨
 (∃ ve' d',Lkd w g gd v ve vl vp vs L ve' d' (L.entries++(furtherP d.files L.entries).1) w'∧Calm B d d'∧e=.returned (.tuple #[.bool (furtherP d.files L.entries).2,.nilIface]))
theorem furtherW_stop {l:List Fil} {d:List (List UInt8)} {k:Nat} (h:k≤d.length%4):furtherW l d k=([],false):=by
 cases k with
 | zero=>rfl
 | succ k=>rw[furtherW,if_pos h]
theorem furtherW_miss {l:List Fil} {d:List (List UInt8)} {k:Nat} (h:d.length%4<k) (hg:getF l (bunName (d.length / 4) k)=none):furtherW l d k=furtherW l d (k-1):=by
 cases k with
 | zero=>omega
 | succ k=>rw[furtherW,if_neg (by omega),hg];rfl
theorem furtherW_bad {l:List Fil} {d:List (List UInt8)} {k:Nat} {s:ByteArray} (h:d.length%4<k) (hg:getF l (bunName (d.length / 4) k)=some s) (hb:bundleF l (d.length / 4) k=none):furtherW l d k=([],false):=by
 cases k with
 | zero=>omega
 | succ k=>rw[furtherW,if_neg (by omega),hg,hb];rfl
theorem furtherW_good {l:List Fil} {d e:List (List UInt8)} {k:Nat} {s:ByteArray} (h:d.length%4<k) (hg:getF l (bunName (d.length / 4) k)=some s) (hb:bundleF l (d.length / 4) k=some e) :
  furtherW l d k=if e.take (d.length%4)=d.drop (4*(d.length / 4)) then (e.drop (d.length%4),decide (k=4)) else ([],false):=by
 cases k with
 | zero=>omega
 | succ k=>rw[furtherW,if_neg (by omega),hg,hb];rfl
theorem further_any (f:Nat→Addr) (w:World) (g gd:Nat) (v ve vl vp:Value) (vs:List Value) (d:Dk) (L:Lg) (h:LogIs w g gd ve vl vp vs L) (hD:DiskAt w gd v d) (hE:EnvS f (fun k=>k=gd∨LogS g ve vl vp vs k) w)
  (hT:Taken d.files L.entries) (hlen:L.entries.length<1000000000000) (hc:d.calls<1000000000000) (hsz:∀ b∈d.files,b.2.size≤1048576) :
  Calls prog 70 #[.pointer (some ⟨g,0,none⟩)] w (furPost w g gd v ve vl vp vs d L 4):=by
 have HE:=zh hE
 have HZ:=zh hsz
 have HT:=zh hT
 have hg:=lt_of_heap h.cells
 have HL:=zh (⟨hD,h,Fr.refl _ _,Sub.refl _ _⟩:Lkd w g gd v ve vl vp vs L ve d L.entries w)
 obtain⟨⟨_,_,c2,_,_,_⟩,f0⟩:=h.heads
 obtain⟨vsr,hrow,hrb⟩:=h.ents
 obtain⟨a1,cp1,rfl⟩:=own_any hrow
 obtain⟨ln,hln⟩:∃ ln,ln=L.entries.length:=⟨_,rfl⟩
 rw[←hln] at c2 hlen
 have hcap:ln≤cp1∧(0<ln→∃ b1,a1=some ⟨b1,0,none⟩):=by
  rcases hrow.2 with ⟨e,h0⟩|⟨b,cap,cur,e,_,_,hnc,_⟩
  ·exact⟨by omega,fun h=>by omega⟩
  ·simp at e
   exact⟨by omega,fun _=>⟨b,e.1⟩⟩
 obtain⟨hcap,hadr⟩:=hcap
 have HADR:=zh hadr
 clear hadr
 have HLN:=zh hln
 have HROW:=zh hrow
 have HRB:=zh hrb
 clear h hD hE hT hsz hln hrow hrb
 go_enter func70,ntmps70
 obtain⟨q,hq⟩:∃ q,q=ln / 4:=⟨_,rfl⟩
 obtain⟨hn,hhn⟩:∃ hn,hn=ln%4:=⟨_,rfl⟩
 have hq1:(ln:Int) / 4=(q:Int):=by omega
 have hq2:(q:Int)*4≤(ln:Int):=by omega
 have hq3:(0:Int)≤(q:Int)*4:=by omega
 have hq4:ln-q*4=hn:=by omega
 have HQ:=zh hq
 have HHN:=zh hhn
 have hn3:hn<4:=by omega
 have hqb:q<9223372036854775808:=by omega
 clear hq hhn
 go_upto_region 2 with fail
 go_cut [5] from 18 to 24 (fun s5 wx=>w=wx∧∃ av cv,s5=.slice av hn cv∧Aside (0<hn→∃ b1,a1=some ⟨b1,0,none⟩∧av=some ⟨b1,q*4,none⟩))
 case first=>
  by_cases hcq:cp1=q*4
  ·subst hcq
   go_wp2_with fail
   go_meet
   exact⟨rfl,_,_,by rw[hq4],fun h=>by omega⟩
  ·go_wp2_with fail
   go_meet
   refine⟨rfl,_,_,by rw[hq4],fun h=>?_⟩
   obtain⟨b1,rfl⟩:=HADR.o (by omega)
   exact⟨b1,rfl,by simp[Addr.add_lit]⟩
 case rest=>
  obtain⟨rfl,av,cv,rfl,HAV⟩:=hcut
  clear hcap hq1 hq2 hq3 hq4
  go_wp2_with fail
  go_loopg [6] 4 (fun gg s6 wr=>∃ k:Nat,k≤4∧k≤gg∧s6=.int .i64 k∧hn≤k∧∃ d1,Aside (Lkd w g gd v (.slice a1 L.entries.length cp1) vl vp vs L (.slice a1 L.entries.length cp1) d1 L.entries wr)∧Aside (Calm (4-k) d d1)∧Aside (furtherP d.files L.entries=furtherW d.files L.entries k)∧w.heap.size≤wr.heap.size)
  case atStart=>exact⟨4,by omega,by omega,rfl,by omega,d,HL.o,Calm.refl d,rfl,Nat.le_refl _⟩
  case round=>
   obtain⟨k,hk4,hgg,rfl,hnk,d1,HL1,HC1,HP1,hsw⟩:=hrel
   by_cases hlt:hn<k
   ·have hltz:(hn:Int)<(k:Int):=by omega
    have hE1:=HE.o.step HL1.o.fr (lks HL1.o.sub)
    have hcon:=fname_any (-1) (q:Int) (k:Int) wr (by omega) hE1.num
    obtain⟨p,hp⟩:∃ p,p=bunName q k:=⟨_,rfl⟩
    rw[show sOf (nameOf (-1) (q:Int) (k:Int))=p from hp.symm] at hcon
    have hc1:d1.calls<1099511627776:=by have:=HC1.o.calls;omega
    have hfl:=HC1.o.files
    have hmod:L.entries.length%4<k:=by have:=HLN.o;have:=HHN.o;omega
    have hpq:p=bunName (L.entries.length / 4) k:=by rw[hp,HQ.o,HLN.o]
    have HMOD:=zh hmod
    have HPQ:=zh hpq
    have HFL:=zh hfl
    clear hp hmod hpq
    rcases Nat.eq_zero_or_pos (enterK d1) with h0|h0
    ·have HC2:=zh ((HC1.o.trans (calm_enter h0)).more (show 4-k+1≤4-(k-1) by omega))
     cases hget:getF d1.files p with
     | none=>
      have HG:=zh hget
      clear hget hfl
      go_wp2_with (first
       | (go_at_call 127;refine hcon.mono ?_;rintro e w2 ⟨rfl,hb2⟩;have HL2:=zh (HL1.o.below hb2);have HB2:=zh hb2;clear hb2)
       | (go_at_call 124;refine (bun_miss w2 g gd v _ _ _ _ d1 _ HL2.o.log HL2.o.disk p k hc1 h0 HG.o).mono ?_;rintro e w3 ⟨rfl,hd3,hf3⟩;have HL3:=zh (HL2.o.look hd3 hf3);have HF3:=zh hf3;have hn3:=neq_nils w3;clear hd3 hf3))
      go_roundg (k-1)
      case measure=>omega
      case rel=>
       refine⟨k-1,by omega,by omega,by go_num,by omega,_,HL3.o,HC2.o,?_,by have:=HB2.o.size;have:=HF3.o.size;omega⟩
       show furtherP _ _=_
       rw[HP1.o,furtherW_miss HMOD.o (by rw[←HPQ.o,←HFL.o];exact HG.o)]
     | some s=>
      have hs20:s.size≤1048576:=HZ.o _ (getF_some (by rw[←hfl];exact hget))
      have hgetd:getF d.files (bunName (L.entries.length / 4) k)=some s:=by rw[←HPQ.o,←HFL.o];exact hget
      cases hu:unbW s k with
      | none=>
       have hbn:bundleF d.files (L.entries.length / 4) k=none:=by rw[bundleF_unb hgetd];exact hu
       have HG:=zh hget
       have HU:=zh hu
       have hfp:furtherP d.files L.entries=([],false):=by rw[HP1.o,furtherW_bad HMOD.o hgetd hbn]
       have HFP:=zh hfp
       clear hget hfl hu hgetd hbn hfp
       go_wp2_with (first
        | (go_at_call 127;refine hcon.mono ?_;rintro e w2 ⟨rfl,hb2⟩;have HL2:=zh (HL1.o.below hb2);have HB2:=zh hb2;clear hb2)
        | (go_at_call 124;refine (bun_bad w2 g gd v _ _ _ _ d1 _ HL2.o.log HL2.o.disk p k hc1 h0 HG.o hs20 HU.o).mono ?_;rintro e w3 ⟨rfl,hd3,hf3⟩;have HL3:=zh (HL2.o.look hd3 hf3);have HF3:=zh hf3;have hn3:=neq_nils w3;have hq3:=eql_bsnil w3 none 0 0;clear hd3 hf3))
       go_ret2
       refine .inr ⟨.slice a1 L.entries.length cp1,enterD d1,?_,HC2.o.more (by omega),by rw[HFP.o];rfl⟩
       rw[HFP.o,List.append_nil]
       exact HL3.o
      | some ls=>
       have hbn:bundleF d.files (L.entries.length / 4) k=some ls:=by rw[bundleF_unb hgetd];exact hu
       have hlk:=(bundleF_some hbn).1
       have HG:=zh hget
       have HU:=zh hu
       have hfp:furtherP d.files L.entries=if ls.take (L.entries.length%4)=L.entries.drop (4*(L.entries.length / 4)) then (ls.drop (L.entries.length%4),decide (k=4)) else ([],false):=by rw[HP1.o,furtherW_good HMOD.o hgetd hbn]
       have HFP:=zh hfp
       have HLK:=zh hlk
       clear hget hfl hu hgetd hbn hfp hlk
       go_wp2_with (first
        | (go_at_call 127;refine hcon.mono ?_;rintro e w2 ⟨rfl,hb2⟩;have HL2:=zh (HL1.o.below hb2);have HB2:=zh hb2;clear hb2)
        | (go_at_call 124;refine (bun_good w2 g gd v _ _ _ _ d1 _ HL2.o.log HL2.o.disk p k hc1 h0 HG.o hs20 HU.o).mono ?_;rintro e w3 ⟨b3,c3,rfl,ho3,hd3,hf3⟩;have HL3:=zh (HL2.o.look hd3 hf3);have HF3:=zh hf3;have HO3:=zh ho3;have hn3:=neq_nils w3;have hq3:=eql_bsnil w3 (some ⟨b3,0,none⟩) ls.length c3;clear hd3 hf3 ho3))
       go_loopg [50,10,11] hn (fun gg s50 _ _ wx=>∃ jj:Nat,jj≤hn∧hn-jj≤gg∧s50=.int .i64 jj∧w3=wx∧Aside (∀ j,j<jj→ls[j]?=L.entries[4*q+j]?))
       case atStart=>
        refine⟨0,by omega,by omega,rfl,rfl,?_⟩
        show ∀ j,j<0→_
        intro j hj
        omega
       case round=>
        obtain⟨jj,hjj,hg2,rfl,rfl,HJ⟩:=hrel
        by_cases hlt2:jj<hn
        ·have hltz2:(jj:Int)<(hn:Int):=by omega
         obtain⟨b1,ha1,rfl⟩:=HAV.o (by omega)
         subst ha1
         obtain⟨vs3,hrow3,hb3⟩:=HL3.o.log.ents
         obtain⟨us,hus,hub⟩:=HO3.o
         have hle:4*q+jj<L.entries.length:=by have:=HQ.o;have:=HHN.o;have:=HLN.o;omega
         have hv3:vs3.length=L.entries.length:=by simpa using hrow3.1
         have hul:us.length=ls.length:=by simpa using hus.1
         obtain⟨u1,hu1⟩:∃ u,vs3[4*q+jj]?=some u:=⟨_,List.getElem?_eq_getElem (by omega)⟩
         obtain⟨u2,hu2⟩:∃ u,us[jj]?=some u:=⟨_,List.getElem?_eq_getElem (by have:=HLK.o;omega)⟩
         obtain⟨x1,hx1⟩:∃ x,L.entries[4*q+jj]?=some x:=⟨_,List.getElem?_eq_getElem hle⟩
         obtain⟨x2,hx2⟩:∃ x,ls[jj]?=some x:=⟨_,List.getElem?_eq_getElem (by have:=HLK.o;omega)⟩
         have k1:w3.cell? ⟨b1,q*4+jj,none⟩=some u1:=by
          have h1:=hrow3.cells (g:=b1) rfl (4*q+jj) u1 hu1
          rw[Addr.add_lit] at h1
          simpa [Nat.mul_comm] using h1
         have k2:w3.cell? ⟨b3,jj,none⟩=some u2:=by
          have h1:=hus.cells (g:=b3) rfl jj u2 hu2
          rw[Addr.add_lit] at h1
          simpa using h1
         have hj0:(0:Int)≤(jj:Int):=by omega
         have hjl:(jj:Int)<(ls.length:Int):=by have:=HLK.o;omega
         have hcq:=bequal_any (hb3 _ _ _ hu1 hx1).at (hub _ _ _ hu2 hx2).at
         have HX1:=zh hx1
         have HX2:=zh hx2
         clear hrow3 hb3 hus hub hle hv3 hul hu1 hu2 hx1 hx2
         cases hbb:(x1 == x2) with
         | true=>
          rw[hbb] at hcq
          have hxx:x1=x2:=by simpa using hbb
          have HXX:=zh hxx
          clear hbb hxx
          go_wp2_with (go_at_call 128;refine hcq.mono ?_;rintro e w4 ⟨rfl,rfl⟩)
          go_roundg (hn-(jj+1))
          case measure=>omega
          case rel=>
           refine⟨jj+1,by omega,by omega,by go_num,rfl,?_⟩
           show ∀ j,j<jj+1→_
           intro j hj
           by_cases hjk:j=jj
           ·subst hjk
            rw[HX1.o,HX2.o,HXX.o]
           ·exact HJ.o j (by omega)
         | false=>
          rw[hbb] at hcq
          have hxx:x1≠x2:=by simpa using hbb
          have HXX:=zh hxx
          clear hbb hxx
          go_wp2_with (go_at_call 128;refine hcq.mono ?_;rintro e w4 ⟨rfl,rfl⟩)
          go_ret2
          have hfp:furtherP d.files L.entries=([],false):=by
           rw[HFP.o,if_neg]
           intro e
           have h1:(ls.take (L.entries.length%4))[jj]?=(L.entries.drop (4*(L.entries.length / 4)))[jj]?:=by rw[e]
           rw[List.getElem?_take_of_lt (by have:=HHN.o;have:=HLN.o;omega),List.getElem?_drop,HX2.o,show 4*(L.entries.length / 4)+jj=4*q+jj by have:=HQ.o;have:=HLN.o;omega,HX1.o] at h1
           exact HXX.o (Option.some.inj h1).symm
          refine .inr ⟨.slice (some ⟨b1,0,none⟩) L.entries.length cp1,enterD d1,?_,HC2.o.more (by omega),by rw[hfp];rfl⟩
          rw[hfp,List.append_nil]
          exact HL3.o
        ·have hltz2:¬ (jj:Int)<(hn:Int):=by omega
         have hjh:jj=hn:=by omega
         have HJH:=zh hjh
         clear hjh
         obtain⟨i0,hi0,hz0,hs0,hby0⟩:=info_bsE
         have HI:=zh (⟨hi0,hz0,hs0,hby0⟩:_∧_∧_∧_)
         clear hi0 hz0 hs0 hby0
         have hd3:=HL3.o.log.heads
         have c3g:=hd3.1.2.2.1
         have f3g:=hd3.2 2
         have hg3:=lt_of_heap HL3.o.log.cells
         have c3g':w3.cell? ⟨g,2,none⟩=some (.slice a1 ln cp1):=by rw[HLN.o];exact c3g
         obtain⟨vs3,hrow3,hb3⟩:=HL3.o.log.ents
         obtain⟨us,hus,hub⟩:=HO3.o
         have hrow3':w3.ownsRow 0 94 1 (.slice a1 ln cp1) ln vs3:=by rw[HLN.o];exact hrow3
         have hul:us.length=ls.length:=by simpa using hus.1
         have hne:¬ (Value.slice a1 ln cp1).ownBlock=some g:=fun e=>by
          obtain⟨C,hC⟩:=ownBlock_type hrow3' e
          exact heap_ne HL3.o.log.cells hC (by decide) rfl
         have hlk:=HLK.o
         have hc3:ls.length≤c3:=by
          rcases hus.2 with ⟨e,_⟩|⟨b,cap,cur,e,_,_,hnc,_⟩
          ·cases e
          ·simp at e;omega
         have hs1:(hn:Int)≤(ls.length:Int):=by omega
         have hs0:(0:Int)≤(hn:Int):=by omega
         have hs3:¬ c3=hn:=by omega
         have hnews:∀ (j:Nat) (u:Value),(us.drop hn)[j]?=some u→w3.drew.cell? ((⟨b3,hn,none⟩:Addr).add j)=some u:=by
          intro j u hj
          rw[List.getElem?_drop] at hj
          have h1:=hus.cells (g:=b3) rfl (hn+j) u hj
          rw[Addr.add_lit] at h1 ⊢
          simpa using h1
         have hones:∀ u∈us.drop hn,u.oneCell'=true:=fun u hu=>bss_ones hul hub u (List.mem_of_mem_drop hu)
         have hdl:(us.drop hn).length=(ls.length-hn)*1:=by rw[List.length_drop];omega
         have hpos:0<ls.length-hn:=by omega
         have hbig:ln+(ls.length-hn)≤1099511627776:=by omega
         obtain⟨ck,hck,hck2⟩:∃ ck,((k:Int) == 4)=ck∧ck=decide (k=4):=⟨_,rfl,by rw[Bool.eq_iff_iff];simp;omega⟩
         have HCK:=zh hck2
         have HROW3:=zh hrow3'
         have HB3:=zh hb3
         have HUL:=zh hul
         have HUB:=zh hub
         have HNEWS:=zh hnews
         have HONES:=zh hones
         have HDL:=zh hdl
         have HPOS:=zh hpos
         have HBIG:=zh hbig
         have HNE:=zh hne
         clear hck2 hrow3 hrow3' hb3 hul hub hus hnews hones hdl hpos hbig hne hd3 c3g hlk
         go_upto_region 18 with fail
         go_region_law (refine step_appM rfl _ _ _ rfl 0 94 i0 _ 1 24 underlying135 HI.o.1 HI.o.2.1 HI.o.2.2.1 HI.o.2.2.2 rfl (by decide) (by decide) (.slice a1 ln cp1) ln vs3 rfl (ownsRow_below HROW3.o (below_drew w3)) ⟨b3,hn,none⟩ (ls.length-hn) (c3-hn) (us.drop hn) rfl HDL.o HNEWS.o HONES.o HPOS.o HBIG.o (Nat.zero_le _) ?_;intro v' w' h2 h3 h4 h5;obtain⟨gb,cpb,rfl,hgb⟩:=own_slice h2 h5;have H2:=zh h2;have H3:=zh ((Fr.ofBelow (S:=fun k=>(Value.slice a1 ln cp1).ownBlock=some k) (below_drew w3)).trans (Fr.ofGrown h3 fun k _ e=>e));have H4:=zh ((Moved.refl w3 (.slice a1 ln cp1)).trans h4 (by simp));have k3:=H3.o.cell c3g' HNE.o;have k4:=(H3.o.frozen (p:=⟨g,2,none⟩) hg3 HNE.o).trans f3g;clear h2 h3 h4 h5)
         all_goals (
          go_wp2_with fail
          go_ret2
          have hfp:furtherP d.files L.entries=(ls.drop hn,decide (k=4)):=by
           have hm:L.entries.length%4=hn:=by have:=HHN.o;have:=HLN.o;omega
           have hq4:4*(L.entries.length / 4)=4*q:=by have:=HQ.o;have:=HLN.o;omega
           rw[HFP.o,hm,hq4,if_pos]
           apply List.ext_getElem?
           intro j
           by_cases hj:j<hn
           ·rw[List.getElem?_take_of_lt hj,List.getElem?_drop]
            exact HJ.o j (by have:=HJH.o;omega)
           ·rw[List.getElem?_eq_none (by rw[List.length_take];omega),List.getElem?_eq_none (by rw[List.length_drop];omega)]
          have hown:OwnBss w' 0 (.slice (some ⟨gb,0,none⟩) (ln+(ls.length-hn)) cpb) (L.entries++ls.drop hn):=
           OwnBss.push (ls':=ls.drop hn) HROW3.o HB3.o HLN.o H3.o H2.o (by rw[HLN.o,List.length_drop]) (fun j u l hu hl=>by
            rw[List.getElem?_drop] at hu hl
            exact (HUB.o (hn+j) u l hu hl).mono (Nat.zero_le _))
          have hmv:Moved w3 (.slice a1 L.entries.length cp1) (.slice (some ⟨gb,0,none⟩) (ln+(ls.length-hn)) cpb):=by rw[←HLN.o];exact H4.o
          have hfr:Fr (fun k=>(Value.slice a1 L.entries.length cp1).ownBlock=some k) w3 w':=by rw[←HLN.o];exact H3.o
          have hp:=HL3.o.log.setEnts hfr hown hmv
          have hw23:w.heap.size≤w3.heap.size:=by have:=HB2.o.size;have:=HF3.o.size;omega
          refine .inr ⟨.slice (some ⟨gb,0,none⟩) (ln+(ls.length-hn)) cpb,enterD d1,?_,HC2.o.more (by omega),by rw[hfp,←HCK.o];rfl⟩
          rw[hfp]
          exact HL3.o.ents hp.1 hp.2.1 hp.2.2 hw23)
    ·have HHU:=zh ((HC1.o.hurt (hurt_enter h0)).more (show 4-k+1≤4 by omega))
     clear hfl
     go_wp2_with (first
      | (go_at_call 127;refine hcon.mono ?_;rintro e w2 ⟨rfl,hb2⟩;have HL2:=zh (HL1.o.below hb2);have HB2:=zh hb2;clear hb2)
      | (go_at_call 124;refine (bun_err w2 g gd v _ _ _ _ d1 _ HL2.o.log HL2.o.disk p k hc1 h0).mono ?_;rintro e w3 ⟨q3,m,r,rfl,hq,hr,hh3,hhr,hd3,hf3⟩;have HL3:=zh (HL2.o.look hd3 hf3);have HQ3:=zh hh3;have HR:=zh hhr;have hn3:=neq_nil w3 153 (.pointer (some ⟨r,0,none⟩));clear hd3 hf3 hh3 hhr))
     go_ret2
     refine .inl ⟨_,q3,m,r,p,HL3.o,HHU.o,rfl,?_,?_,HQ3.o,HR.o⟩
     ·have:=HB2.o.size;omega
     ·have:=HB2.o.size;omega
   ·have hltz:¬ (hn:Int)<(k:Int):=by omega
    have hst:k≤L.entries.length%4:=by have:=HLN.o;have:=HHN.o;omega
    have HST:=zh hst
    clear hst
    go_wp2_with fail
    go_ret2
    have hfp:furtherP d.files L.entries=([],false):=by rw[HP1.o];exact furtherW_stop HST.o
    refine .inr ⟨.slice a1 L.entries.length cp1,d1,?_,HC1.o.more (by omega),by rw[hfp];rfl⟩
    rw[hfp,List.append_nil]
    exact HL1.o
end
section
theorem info_hs:∃ i,prog.info? 104=some i∧i.zero=some (.slice none 0 0)∧i.size=1∧i.bytes=24:=by
 have h:(prog.info? 104).map (fun i=>(i.zero,i.size,i.bytes))=some (some (.slice none 0 0),1,24):=by kernel_rfl
 cases hi:prog.info? 104 with
 | none=>rw[hi] at h;simp at h
 | some i=>rw[hi] at h;simp at h;exact⟨i,rfl,h.1,h.2.1,h.2.2⟩
theorem hf_hash {w w':World} {q:Nat} {y:Hsh} {S:Nat→Prop} (hy:hashOf w q y) (hf:Fr S w w') (hS:¬ S q):hashOf w' q y:=hf.heap hy hS
theorem Fr.setRow (w:World) (g:Nat) (cs:Array Value):Fr (·=g) w (w.setRow g cs):=⟨rfl,rfl,rfl,by simp,fun b hb hn=>setRow_other w g b cs hn⟩
theorem grow_push (h:Hsh):growP [] h=growP [[]] h:=by simp[growP]
theorem info_h:∃ i,prog.info? 109=some i∧i.zero=some (.agg (h8 zero8))∧i.size=8∧i.bytes=8:=by
 have h:(prog.info? 109).map (fun i=>(i.zero,i.size,i.bytes))=some (some (.agg zc),8,8):=by kernel_rfl
 cases hi:prog.info? 109 with
 | none=>rw[hi] at h;simp at h
 | some i=>rw[hi] at h;simp at h;exact⟨i,rfl,by rw[h8_zero];exact h.1,h.2.1,h.2.2⟩
theorem h8_zip (y:Hsh):Array.foldl (fun (cs:Array Value) (x:Value×Nat)=>cs.setIfInBounds x.snd x.fst) zc (h8 y).zipIdx 0 8=h8 y:=by
 rw[←h8_fold y]
 simp
theorem cells8_new (w:World) (y:Hsh) (t:TypeId) (n:Nat) (hn:n=w.heap.size):∀ (j:Nat) (u:Value),(h8 y).toList[j]?=some u→(w.alloc (.cells (h8 y) t)).cell? ((⟨n,0,none⟩:Addr).add j)=some u:=by
 intro j u hu
 rw[Addr.add_lit,World.cell?_alloc_at _ _ _ _ hn]
 simpa using hu
theorem h8_ones (y:Hsh):∀ u∈(h8 y).toList,u.oneCell'=true:=by
 intro u hu
 have h:=h8_one y
 rw[Array.all_eq_true'] at h
 exact h u (by simpa using hu)
section
attribute [local go_sem] h8_0 h8_1 h8_2 h8_3 h8_4 h8_5 h8_6 h8_7 h8_fold h8_size cell_setRow_ne run_store8 h8_zip
theorem grow_any (w:World) (g gd:Nat) (ve vl vp:Value) (vs:List Value) (L:Lg) (h:LogIs w g gd ve vl vp vs L) (x:Hsh) (hn:L.levels.length<1048576) (hr:∀ r∈L.levels,r.length<1099511627776) :
  Calls prog 71 #[.pointer (some ⟨g,0,none⟩),.agg (h8 x)] w fun e w'=>e=.returned (.tuple #[])∧∃ vl' vs',LogIs w' g gd ve vl' vp vs' { L with levels:=growP L.levels x }∧Fr (LvS g ve vl vp vs) w w'∧
   Sub w (LvS g ve vl vp vs) (LvS g ve vl' vp vs'):=by
 have HH:=zh h
 have hg:=lt_of_heap h.cells
 have HN:=zh hn
 have HR:=zh hr
 obtain⟨i,hi,hz,hs,hby⟩:=info_hs
 have HI:=zh (⟨hi,hz,hs,hby⟩:_∧_∧_∧_)
 clear hi hz hs hby h hr
 go_enter func71,ntmps71
 go_wp2
 go_loopg [4,5,6] (L.levels.length+1) (fun gg s4 _ _ wr=>∃ j:Nat,j≤L.levels.length∧L.levels.length+1-j≤gg∧s4=.int .i64 j∧∃ vl1 vs1 Lv y,Aside (LogIs wr g gd ve vl1 vp vs1 { L with levels:=Lv })∧hashOf wr w.heap.size y∧
  Lv.length=L.levels.length∧Aside (growP L.levels x=Lv.take j++growP (Lv.drop j) y)∧Aside (∀ (i:Nat) (r:List Hsh),j≤i→Lv[i]?=some r→r.length<1099511627776)∧Aside (Fr (LvS g ve vl vp vs) w wr)∧Aside (Sub (w.alloc (.cells (h8 x) 109)) (LvS g ve vl vp vs) (LvS g ve vl1 vp vs1)))
 case atStart=>
  refine⟨0,Nat.zero_le _,by omega,rfl,vl,vs,L.levels,x,HH.o.below (below_alloc _ _),hashOf_new _ _,rfl,?_,?_,Fr.ofBelow (below_alloc _ _),Sub.refl _ _⟩
  ·show growP L.levels x=_
   simp
  ·show ∀ (i:Nat) (r:List Hsh),_→_→_
   exact fun i r _ hr=>HR.o r (List.mem_of_getElem? hr)
 case round=>
  obtain⟨j,hj,hgg,rfl,vl1,vs1,Lv,y,HL,hy,hlen,HG,HB,HF,HS⟩:=hrel
  have hd:=HL.o.heads
  obtain⟨⟨_,_,_,c3,_,_⟩,f0⟩:=hd
  obtain⟨a,c,rfl⟩:=own_any HL.o.rows
  have HY:=zh hy
  have HLE:=zh hlen
  clear hy
  obtain⟨nl,hnl⟩:∃ nl,nl=Lv.length:=⟨_,rfl⟩
  obtain⟨cj,hlj,hcj⟩:∃ cj,((j:Int) == (nl:Int))=cj∧cj=decide (j=nl):=⟨_,rfl,by rw[Bool.eq_iff_iff];simp;omega⟩
  have HCJ:=zh hcj
  clear hcj
  have c3':wr.cell? ⟨g,3,none⟩=some (.slice a nl c):=by rw[hnl];exact c3
  have HRN:=zh (show ¬ (Value.slice a nl c).ownBlock=some g by rw[hnl];exact HL.o.rowsNe)
  have HNL:=zh hnl
  clear hlen hnl c3
  go_upto_if 15 with fail
  go_cut [] from 7 to 76 (fun wx=>∃ vl2 vs2 Lv2,Aside (LogIs wx g gd ve vl2 vp vs2 { L with levels:=Lv2 })∧hashOf wx w.heap.size y∧j<Lv2.length∧(Lv2.length=L.levels.length∨Lv2[j]?=some [])∧Lv2.length≤L.levels.length+1∧
   Aside (growP L.levels x=Lv2.take j++growP (Lv2.drop j) y)∧Aside (∀ (i:Nat) (r:List Hsh),j≤i→Lv2[i]?=some r→r.length<1099511627776)∧Aside (Fr (LvS g ve vl vp vs) w wx)∧Aside (Sub (w.alloc (.cells (h8 x) 109)) (LvS g ve vl vp vs) (LvS g ve vl2 vp vs2)))
  case first=>
   cases cj with
   | true=>
    have HJN:=zh (show j=nl from of_decide_eq_true HCJ.o.symm)
    clear hlj
    go_wp2_with (at_builtin;refine wpList_appM rfl _ _ _ rfl 0 104 i _ 1 24 underlying136 HI.o.1 HI.o.2.1 HI.o.2.2.1 HI.o.2.2.2 rfl (by decide) (by decide) (.slice a nl c) nl vs1 (by rfl) (by have h1:=ownsRow_below HL.o.rows (below_alloc wr (.cells #[.slice none 0 0] 104));rw[HNL.o];exact h1) ⟨wr.heap.size,0,none⟩ 1 1 [.slice none 0 0] rfl rfl (cell_one_new _ _ _) (by simp[Value.oneCell']) (by decide) (by have:=HLE.o;have:=HNL.o;omega) (Nat.zero_le _) ?_;intro v' w' h2 h3 h4 h5;obtain⟨gb,cp,rfl,hgb⟩:=own_slice h2 h5;have H2:=zh h2;have H3:=zh ((Fr.ofBelow (S:=fun k=>(Value.slice a nl c).ownBlock=some k) (below_alloc wr (.cells #[.slice none 0 0] 104))).trans (Fr.ofGrown h3 fun k _ e=>e));have H4:=zh ((Moved.refl wr (.slice a nl c)).trans h4 (by simp));go_must (have k3:=H3.o.cell c3' HRN.o;have k4:=(H3.o.frozen (p:=⟨g,3,none⟩) (cell_lt c3') HRN.o).trans (f0 3);clear h2 h3 h4 h5))
    go_meet
    have e1:=HNL.o
    subst e1
    have e2:=HLE.o
    have hp:=HL.o.pushLevel H3.o H2.o H4.o
    have hyw:=hf_hash HY.o hp.2.1
    have hjl:j=Lv.length:=HJN.o
    have hsz:(w.alloc (.cells (h8 x) 109)).heap.size≤wr.heap.size:=by have:=lt_of_heap HY.o;simp;omega
    have hnq:¬ LvS g ve (.slice a Lv.length c) vp vs1 w.heap.size:=fun hq=>by
     rcases HS.o _ hq with h1|h1
     ·obtain⟨_,_,hC,_⟩:=HH.o.kinds h1.log
      exact absurd (lt_of_heap hC) (by omega)
     ·simp at h1
      omega
    refine⟨_,_,_,hp.1,hyw hnq,by simp;omega,.inr (by rw[hjl];simp),by simp;omega,?_,?_,Fr.sub HF.o hp.2.1 (HS.o.mono (by simp)),HS.o.trans hp.2.2 hsz⟩
    ·show growP L.levels x=_
     rw[HG.o,hjl]
     simp[grow_push]
    ·show ∀ (i:Nat) (r:List Hsh),_→(Lv ++ [[]])[i]?=some r→_
     intro i r hi hr
     rcases List.mem_append.1 (List.mem_of_getElem? hr) with h1|h1
     ·by_cases hlt:i<Lv.length
      ·omega
      ·rw[List.getElem?_append_right (by omega)] at hr
       have:=List.mem_of_getElem? hr
       simp at this
       subst this
       simp
     ·simp at h1
      subst h1
      simp
   | false=>
    have hjn:=zh (of_decide_eq_false HCJ.o.symm)
    clear hlj
    go_wp2_with fail
    go_meet
    have h1:=HLE.o
    have h2:=HNL.o
    have h3:=hjn.o
    exact⟨_,vs1,Lv,HL,HY.o,by omega,.inl h1,by omega,HG,HB,HF,HS⟩
  case rest=>
   obtain⟨vl2,vs2,Lv2,HL2,hy2,hjl2,hor,hlen2,HG2,HB2,HF2,HS2⟩:=hcut
   have HY2:=zh hy2
   have HOR:=zh hor
   have HLN2:=zh hlen2
   have hd2:=HL2.o.heads
   obtain⟨⟨_,_,_,d3,_,_⟩,f2⟩:=hd2
   have hvl:vs2.length=Lv2.length:=by simpa using HL2.o.rows.1
   obtain⟨r,hr⟩:∃ r,Lv2[j]?=some r:=⟨_,List.getElem?_eq_getElem hjl2⟩
   obtain⟨vj,hvj⟩:∃ vj,vs2[j]?=some vj:=⟨_,List.getElem?_eq_getElem (by omega)⟩
   have hrow:=HL2.o.each j vj r hvj hr
   obtain⟨aj,cj',rfl⟩:=own_any hrow
   have hrb:=HB2.o j r (Nat.le_refl _) hr
   obtain⟨bl,cp,rfl,e3,hbl⟩:∃ bl cp,vl2=.slice (some ⟨bl,0,none⟩) Lv2.length cp∧wc.cell? ⟨bl,j,none⟩=some (.slice aj r.length cj')∧bl<wc.heap.size∧wc.frozen? ⟨bl,j,none⟩=false:=by
    rcases HL2.o.rows.2 with ⟨_,h0⟩|⟨b,cap,cur,h0,_,hb,_,_,_,ht⟩
    ·have h00:Lv2.length=0:=h0
     omega
    ·refine⟨b,cap,h0,?_,lt_of_heap hb,frozen_heap hb j⟩
     rw[cell_of_row wc b j cur _ _ hb]
     rw[←ht,List.getElem?_take_of_lt (show j<Lv2.length*1 by omega)] at hvj
     simpa using hvj
   have hjz:(0:Int)≤(j:Int):=by omega
   have hjn:(j:Int)<(Lv2.length:Int):=by omega
   have y0:=hashOf_cell hy2 0 (by decide)
   have y1:=hashOf_cell hy2 1 (by decide)
   have y2:=hashOf_cell hy2 2 (by decide)
   have y3:=hashOf_cell hy2 3 (by decide)
   have y4:=hashOf_cell hy2 4 (by decide)
   have y5:=hashOf_cell hy2 5 (by decide)
   have y6:=hashOf_cell hy2 6 (by decide)
   have y7:=hashOf_cell hy2 7 (by decide)
   have hgc:g<wc.heap.size:=cell_lt d3
   have hqc:w.heap.size<wc.heap.size:=lt_of_heap hy2
   obtain⟨hbl1,hbl2⟩:=hbl
   have HBN:=zh (show ¬ (Value.slice aj r.length cj').ownBlock=some bl from fun e=>by
    obtain⟨C,hC⟩:=ownBlock_type hrow e
    obtain⟨C',hC'⟩:=ownBlock_type HL2.o.rows (k:=bl) rfl
    exact heap_ne hC hC' (by decide) rfl)
   have HGN:=zh (show ¬ (Value.slice aj r.length cj').ownBlock=some g from fun e=>by
    obtain⟨C,hC⟩:=ownBlock_type hrow e
    exact heap_ne HL2.o.cells hC (by decide) rfl)
   have HVJ:=zh hvj
   have HRJ:=zh hr
   have HROW:=zh hrow
   clear hy2 hor hlen2 hvl hr hvj hrow
   obtain⟨i8,hi8,hz8,hs8,hby8⟩:=info_h
   have HI8:=zh (⟨hi8,hz8,hs8,hby8⟩:_∧_∧_∧_)
   clear hi8 hz8 hs8 hby8
   go_upto_region 5 with fail
   go_cut [] from 25 to 76 (fun wx=>∃ v',Aside (LogIs wx g gd ve (.slice (some ⟨bl,0,none⟩) Lv2.length cp) vp (vs2.set j v') { L with levels:=Lv2.set j (r ++ [y]) })∧hashOf wx w.heap.size y∧Aside (Fr (LvS g ve vl vp vs) w wx)∧Aside (Sub (w.alloc (.cells (h8 x) 109)) (LvS g ve vl vp vs) (LvS g ve (.slice (some ⟨bl,0,none⟩) Lv2.length cp) vp (vs2.set j v'))))
   case first=>
    go_region_law (refine step_appM rfl _ _ _ rfl 0 109 i8 _ 8 8 underlying104 HI8.o.1 HI8.o.2.1 HI8.o.2.2.1 HI8.o.2.2.2 (by simp[Value.cells]) (by decide) (by decide) (.slice aj r.length cj') r.length (r.flatMap fun h=>(h8 h).toList) rfl (ownsRow_below HROW.o ((below_drew wc).alloc (Nat.le_refl _) _)) ⟨wc.heap.size,0,none⟩ 1 1 (h8 y).toList rfl (by simp) (cells8_new _ _ _ _ rfl) (h8_ones y) (by decide) (by omega) (Nat.zero_le _) ?_;intro v' w' h2 h3 h4 h5;obtain⟨gb,cp',rfl,hgb⟩:=own_slice h2 h5;have H2:=zh h2;have H3:=zh ((Fr.ofBelow (S:=fun k=>(Value.slice aj r.length cj').ownBlock=some k) ((below_drew wc).alloc (Nat.le_refl _) _)).trans (Fr.ofGrown h3 fun k _ e=>e));have H4:=zh ((Moved.refl wc (.slice aj r.length cj')).trans h4 (by simp));have k3:=H3.o.cell e3 HBN.o;have k5:=H3.o.cell d3 HGN.o;have k4:=(H3.o.frozen (p:=⟨bl,j,none⟩) hbl1 HBN.o).trans hbl2;clear h2 h3 h4 h5)
    all_goals (
     go_wp2_with fail
     go_meet
     have h2:OwnHs w' 0 (.slice (some ⟨gb,0,none⟩) (r.length+1) cp') (r ++ [y]):=by
      have:=H2.o
      unfold OwnHs
      rw[List.length_append,List.flatMap_append]
      simpa using this
     have hp:=HL2.o.pushHash y HVJ.o HRJ.o H3.o h2 H4.o rfl
     have hsz:(w.alloc (.cells (h8 x) 109)).heap.size≤wc.heap.size:=by simp;omega
     have hnq:¬ LvS g ve (.slice (some ⟨bl,0,none⟩) Lv2.length cp) vp vs2 w.heap.size:=fun hq=>by
      rcases HS2.o _ hq with h1|h1
      ·obtain⟨_,_,hC,_⟩:=HH.o.kinds h1.log
       exact absurd (lt_of_heap hC) (by omega)
      ·simp at h1
       omega
     exact⟨_,hp.1,hf_hash HY2.o hp.2.1 hnq,Fr.sub HF2.o hp.2.1 (HS2.o.mono (by simp)),HS2.o.trans hp.2.2 hsz⟩)
   case rest=>
    obtain⟨v3,HL3,hy3,HF3,HS3⟩:=hcut
    have HY3:=zh hy3
    have hrow3:=HL3.o.each j v3 (r ++ [y]) (by rw[List.getElem?_set_self];have:=(List.getElem?_eq_some_iff.1 HVJ.o).1;exact this) (by show (Lv2.set j (r ++ [y]))[j]?=_;rw[List.getElem?_set_self hjl2])
    obtain⟨a3,c3',rfl⟩:=own_any hrow3
    obtain⟨⟨_,_,_,d4,_,_⟩,_⟩:=HL3.o.heads
    have e4:wc.cell? ⟨bl,j,none⟩=some (.slice a3 (r ++ [y]).length c3'):=by
     have hjv:=(List.getElem?_eq_some_iff.1 HVJ.o).1
     rcases HL3.o.rows.2 with ⟨e,_⟩|⟨b,cap,cur,e,_,hb,_,_,_,ht⟩
     ·cases e
     ·simp at e
      obtain⟨rfl,rfl⟩:=e
      have h1:(vs2.set j (.slice a3 (r ++ [y]).length c3'))[j]?=some (.slice a3 (r ++ [y]).length c3'):=List.getElem?_set_self hjv
      rw[←ht,List.getElem?_take_of_lt (show j<(Lv2.set j (r ++ [y])).length*1 by simp;omega)] at h1
      rw[cell_of_row wc bl j cur _ _ hb]
      simpa using h1
    clear hy3
    obtain⟨cb,h51,hcb⟩:∃ cb,(((r.length:Int)+1)%4 != 0)=cb∧cb = !decide ((r.length+1)%4=0):=⟨_,rfl,by rw[Bool.eq_iff_iff];simp;omega⟩
    have HCB:=zh hcb
    have hset:Lv2.set j (r ++ [y])=Lv2.take j++(r ++ [y]) :: Lv2.drop (j+1):=by rw[List.set_eq_take_append_cons_drop];rw[if_pos hjl2]
    have hdrop:Lv2.drop j=r :: Lv2.drop (j+1):=by
     rw[List.drop_eq_getElem_cons hjl2]
     have:=HRJ.o
     rw[List.getElem?_eq_getElem hjl2] at this
     rw[Option.some.inj this]
    have HSET:=zh hset
    have HDROP:=zh hdrop
    clear hcb hset hdrop
    cases cb with
    | true=>
     have hnm:¬ (r.length+1)%4=0:=by have:=HCB.o;simpa using this
     have hlev:growP L.levels x=Lv2.set j (r ++ [y]):=by rw[HG2.o,HDROP.o,HSET.o,growP,if_neg hnm]
     have HLEV:=zh hlev
     clear hnm hlev
     go_wp2_with fail
     refine bodyPost_ret (results_none rfl _ _ _) rfl ?_
     refine⟨rfl,_,_,?_,HF3.o,HS3.o.mono (by simp)⟩
     rw[HLEV.o]
     exact HL3.o
    | false=>
     have hm4:(r.length+1)%4=0:=by have:=HCB.o;simpa using this
     obtain⟨q,hq⟩:∃ q,r.length=q+3:=⟨r.length-3,by omega⟩
     have hrl:(r ++ [y]).length=q+4:=by simp;omega
     obtain⟨g3,rfl⟩:∃ g3,a3=some ⟨g3,0,none⟩:=by
      rcases hrow3.2 with ⟨e,h0⟩|⟨b,cap,cur,e,_⟩
      ·omega
      ·simp at e
       exact⟨b,e.1⟩
     have hgt:∀ i,i<4→∃ z,(r ++ [y])[q+i]?=some z:=fun i hi=>⟨_,List.getElem?_eq_getElem (by omega)⟩
     obtain⟨z0,hz0⟩:=hgt 0 (by decide)
     obtain⟨z1,hz1⟩:=hgt 1 (by decide)
     obtain⟨z2,hz2⟩:=hgt 2 (by decide)
     obtain⟨z3,hz3⟩:=hgt 3 (by decide)
     have hn4:node4 (r ++ [y])=nodeH (nodeH z0 z1) (nodeH z2 z3):=by
      unfold node4
      have e:(r ++ [y]).length-4=q:=by omega
      rw[e]
      simp only[List.getD_eq_getElem?_getD]
      rw[hz1,hz2,hz3]
      have h0:(r ++ [y])[q]?=some z0:=hz0
      rw[h0]
      rfl
     have HN4:=zh hn4
     have hs0:(0:Int)≤(r.length:Int)+1-4:=by omega
     have hs1:(r.length:Int)+1-4≤(r.length:Int)+1:=by omega
     have hs2:((r.length:Int)+1-4).toNat=q:=by omega
     have hl4:r.length+1-q=4:=by omega
     have hs3:¬ c3'=q:=by
      rcases hrow3.2 with ⟨e,h0⟩|⟨b,cap,cur,e,_,_,hnc,_⟩
      ·omega
      ·simp at e hnc
       omega
     have HM4:=zh hm4
     have z0_0:wc.cell? ⟨g3,q*8,none⟩=some (Go.Proofs.YtefccfakhgdfbabGreatDoor.u8 z0[0]):=by
      have h1:=hashes_cell hrow3 hz0 0 (by decide)
      rw[show (q+0)*8+0=q*8+0 by omega] at h1
      exact h1
     have z0_1:wc.cell? ⟨g3,q*8+1,none⟩=some (Go.Proofs.YtefccfakhgdfbabGreatDoor.u8 z0[1]):=by
      have h1:=hashes_cell hrow3 hz0 1 (by decide)
      rw[show (q+0)*8+1=q*8+1 by omega] at h1
      exact h1
     have z0_2:wc.cell? ⟨g3,q*8+2,none⟩=some (Go.Proofs.YtefccfakhgdfbabGreatDoor.u8 z0[2]):=by
      have h1:=hashes_cell hrow3 hz0 2 (by decide)
      rw[show (q+0)*8+2=q*8+2 by omega] at h1
      exact h1
     have z0_3:wc.cell? ⟨g3,q*8+3,none⟩=some (Go.Proofs.YtefccfakhgdfbabGreatDoor.u8 z0[3]):=by
      have h1:=hashes_cell hrow3 hz0 3 (by decide)
      rw[show (q+0)*8+3=q*8+3 by omega] at h1
      exact h1
     have z0_4:wc.cell? ⟨g3,q*8+4,none⟩=some (Go.Proofs.YtefccfakhgdfbabGreatDoor.u8 z0[4]):=by
      have h1:=hashes_cell hrow3 hz0 4 (by decide)
      rw[show (q+0)*8+4=q*8+4 by omega] at h1
      exact h1
     have z0_5:wc.cell? ⟨g3,q*8+5,none⟩=some (Go.Proofs.YtefccfakhgdfbabGreatDoor.u8 z0[5]):=by
      have h1:=hashes_cell hrow3 hz0 5 (by decide)
      rw[show (q+0)*8+5=q*8+5 by omega] at h1
      exact h1
     have z0_6:wc.cell? ⟨g3,q*8+6,none⟩=some (Go.Proofs.YtefccfakhgdfbabGreatDoor.u8 z0[6]):=by
      have h1:=hashes_cell hrow3 hz0 6 (by decide)
      rw[show (q+0)*8+6=q*8+6 by omega] at h1
      exact h1
     have z0_7:wc.cell? ⟨g3,q*8+7,none⟩=some (Go.Proofs.YtefccfakhgdfbabGreatDoor.u8 z0[7]):=by
      have h1:=hashes_cell hrow3 hz0 7 (by decide)
      rw[show (q+0)*8+7=q*8+7 by omega] at h1
      exact h1
     have z1_0:wc.cell? ⟨g3,q*8+8,none⟩=some (Go.Proofs.YtefccfakhgdfbabGreatDoor.u8 z1[0]):=by
      have h1:=hashes_cell hrow3 hz1 0 (by decide)
      rw[show (q+1)*8+0=q*8+8 by omega] at h1
      exact h1
     have z1_1:wc.cell? ⟨g3,q*8+9,none⟩=some (Go.Proofs.YtefccfakhgdfbabGreatDoor.u8 z1[1]):=by
      have h1:=hashes_cell hrow3 hz1 1 (by decide)
      rw[show (q+1)*8+1=q*8+9 by omega] at h1
      exact h1
     have z1_2:wc.cell? ⟨g3,q*8+10,none⟩=some (Go.Proofs.YtefccfakhgdfbabGreatDoor.u8 z1[2]):=by
      have h1:=hashes_cell hrow3 hz1 2 (by decide)
      rw[show (q+1)*8+2=q*8+10 by omega] at h1
      exact h1
     have z1_3:wc.cell? ⟨g3,q*8+11,none⟩=some (Go.Proofs.YtefccfakhgdfbabGreatDoor.u8 z1[3]):=by
      have h1:=hashes_cell hrow3 hz1 3 (by decide)
      rw[show (q+1)*8+3=q*8+11 by omega] at h1
      exact h1
     have z1_4:wc.cell? ⟨g3,q*8+12,none⟩=some (Go.Proofs.YtefccfakhgdfbabGreatDoor.u8 z1[4]):=by
      have h1:=hashes_cell hrow3 hz1 4 (by decide)
      rw[show (q+1)*8+4=q*8+12 by omega] at h1
      exact h1
     have z1_5:wc.cell? ⟨g3,q*8+13,none⟩=some (Go.Proofs.YtefccfakhgdfbabGreatDoor.u8 z1[5]):=by
      have h1:=hashes_cell hrow3 hz1 5 (by decide)
      rw[show (q+1)*8+5=q*8+13 by omega] at h1
      exact h1
     have z1_6:wc.cell? ⟨g3,q*8+14,none⟩=some (Go.Proofs.YtefccfakhgdfbabGreatDoor.u8 z1[6]):=by
      have h1:=hashes_cell hrow3 hz1 6 (by decide)
      rw[show (q+1)*8+6=q*8+14 by omega] at h1
      exact h1
     have z1_7:wc.cell? ⟨g3,q*8+15,none⟩=some (Go.Proofs.YtefccfakhgdfbabGreatDoor.u8 z1[7]):=by
      have h1:=hashes_cell hrow3 hz1 7 (by decide)
      rw[show (q+1)*8+7=q*8+15 by omega] at h1
      exact h1
     have z2_0:wc.cell? ⟨g3,q*8+16,none⟩=some (Go.Proofs.YtefccfakhgdfbabGreatDoor.u8 z2[0]):=by
      have h1:=hashes_cell hrow3 hz2 0 (by decide)
      rw[show (q+2)*8+0=q*8+16 by omega] at h1
      exact h1
     have z2_1:wc.cell? ⟨g3,q*8+17,none⟩=some (Go.Proofs.YtefccfakhgdfbabGreatDoor.u8 z2[1]):=by
      have h1:=hashes_cell hrow3 hz2 1 (by decide)
      rw[show (q+2)*8+1=q*8+17 by omega] at h1
      exact h1
     have z2_2:wc.cell? ⟨g3,q*8+18,none⟩=some (Go.Proofs.YtefccfakhgdfbabGreatDoor.u8 z2[2]):=by
      have h1:=hashes_cell hrow3 hz2 2 (by decide)
      rw[show (q+2)*8+2=q*8+18 by omega] at h1
      exact h1
     have z2_3:wc.cell? ⟨g3,q*8+19,none⟩=some (Go.Proofs.YtefccfakhgdfbabGreatDoor.u8 z2[3]):=by
      have h1:=hashes_cell hrow3 hz2 3 (by decide)
      rw[show (q+2)*8+3=q*8+19 by omega] at h1
      exact h1
     have z2_4:wc.cell? ⟨g3,q*8+20,none⟩=some (Go.Proofs.YtefccfakhgdfbabGreatDoor.u8 z2[4]):=by
      have h1:=hashes_cell hrow3 hz2 4 (by decide)
      rw[show (q+2)*8+4=q*8+20 by omega] at h1
      exact h1
     have z2_5:wc.cell? ⟨g3,q*8+21,none⟩=some (Go.Proofs.YtefccfakhgdfbabGreatDoor.u8 z2[5]):=by
      have h1:=hashes_cell hrow3 hz2 5 (by decide)
      rw[show (q+2)*8+5=q*8+21 by omega] at h1
      exact h1
     have z2_6:wc.cell? ⟨g3,q*8+22,none⟩=some (Go.Proofs.YtefccfakhgdfbabGreatDoor.u8 z2[6]):=by
      have h1:=hashes_cell hrow3 hz2 6 (by decide)
      rw[show (q+2)*8+6=q*8+22 by omega] at h1
      exact h1
     have z2_7:wc.cell? ⟨g3,q*8+23,none⟩=some (Go.Proofs.YtefccfakhgdfbabGreatDoor.u8 z2[7]):=by
      have h1:=hashes_cell hrow3 hz2 7 (by decide)
      rw[show (q+2)*8+7=q*8+23 by omega] at h1
      exact h1
     have z3_0:wc.cell? ⟨g3,q*8+24,none⟩=some (Go.Proofs.YtefccfakhgdfbabGreatDoor.u8 z3[0]):=by
      have h1:=hashes_cell hrow3 hz3 0 (by decide)
      rw[show (q+3)*8+0=q*8+24 by omega] at h1
      exact h1
     have z3_1:wc.cell? ⟨g3,q*8+25,none⟩=some (Go.Proofs.YtefccfakhgdfbabGreatDoor.u8 z3[1]):=by
      have h1:=hashes_cell hrow3 hz3 1 (by decide)
      rw[show (q+3)*8+1=q*8+25 by omega] at h1
      exact h1
     have z3_2:wc.cell? ⟨g3,q*8+26,none⟩=some (Go.Proofs.YtefccfakhgdfbabGreatDoor.u8 z3[2]):=by
      have h1:=hashes_cell hrow3 hz3 2 (by decide)
      rw[show (q+3)*8+2=q*8+26 by omega] at h1
      exact h1
     have z3_3:wc.cell? ⟨g3,q*8+27,none⟩=some (Go.Proofs.YtefccfakhgdfbabGreatDoor.u8 z3[3]):=by
      have h1:=hashes_cell hrow3 hz3 3 (by decide)
      rw[show (q+3)*8+3=q*8+27 by omega] at h1
      exact h1
     have z3_4:wc.cell? ⟨g3,q*8+28,none⟩=some (Go.Proofs.YtefccfakhgdfbabGreatDoor.u8 z3[4]):=by
      have h1:=hashes_cell hrow3 hz3 4 (by decide)
      rw[show (q+3)*8+4=q*8+28 by omega] at h1
      exact h1
     have z3_5:wc.cell? ⟨g3,q*8+29,none⟩=some (Go.Proofs.YtefccfakhgdfbabGreatDoor.u8 z3[5]):=by
      have h1:=hashes_cell hrow3 hz3 5 (by decide)
      rw[show (q+3)*8+5=q*8+29 by omega] at h1
      exact h1
     have z3_6:wc.cell? ⟨g3,q*8+30,none⟩=some (Go.Proofs.YtefccfakhgdfbabGreatDoor.u8 z3[6]):=by
      have h1:=hashes_cell hrow3 hz3 6 (by decide)
      rw[show (q+3)*8+6=q*8+30 by omega] at h1
      exact h1
     have z3_7:wc.cell? ⟨g3,q*8+31,none⟩=some (Go.Proofs.YtefccfakhgdfbabGreatDoor.u8 z3[7]):=by
      have h1:=hashes_cell hrow3 hz3 7 (by decide)
      rw[show (q+3)*8+7=q*8+31 by omega] at h1
      exact h1
     have HQ:=zh hq
     have hnq3:¬ LvS g ve (.slice (some ⟨bl,0,none⟩) Lv2.length cp) vp (vs2.set j (.slice (some ⟨g3,0,none⟩) (r ++ [y]).length c3')) w.heap.size:=fun hk=>by
      rcases HS3.o _ hk with h1|h1
      ·obtain⟨_,_,hC,_⟩:=HH.o.kinds h1.log
       exact absurd (lt_of_heap hC) (by omega)
      ·simp at h1
       omega
     have hg3n:¬ g3=w.heap.size:=fun e=>hnq3 (e ▸ .inr (.inr ⟨_,List.mem_of_getElem? (i:=j) (List.getElem?_set_self (by have:=(List.getElem?_eq_some_iff.1 HVJ.o).1;exact this)),rfl⟩))
     have q8:Is8 wc.drew w.heap.size:=⟨y,HY3.o⟩
     have HBB:=zh (below_drew wc)
     clear hm4 hgt hz0 hz1 hz2 hz3 hn4 hq hrl
     go_upto_region 9 with fail
     go_region_held3 (fun w'=>w'.cell? ⟨g3,q*8,none⟩=some (Go.Proofs.YtefccfakhgdfbabGreatDoor.u8 z0[0])∧w'.cell? ⟨g3,q*8+1,none⟩=some (Go.Proofs.YtefccfakhgdfbabGreatDoor.u8 z0[1])∧w'.cell? ⟨g3,q*8+2,none⟩=some (Go.Proofs.YtefccfakhgdfbabGreatDoor.u8 z0[2])∧w'.cell? ⟨g3,q*8+3,none⟩=some (Go.Proofs.YtefccfakhgdfbabGreatDoor.u8 z0[3])∧w'.cell? ⟨g3,q*8+4,none⟩=some (Go.Proofs.YtefccfakhgdfbabGreatDoor.u8 z0[4])∧w'.cell? ⟨g3,q*8+5,none⟩=some (Go.Proofs.YtefccfakhgdfbabGreatDoor.u8 z0[5])∧w'.cell? ⟨g3,q*8+6,none⟩=some (Go.Proofs.YtefccfakhgdfbabGreatDoor.u8 z0[6])∧w'.cell? ⟨g3,q*8+7,none⟩=some (Go.Proofs.YtefccfakhgdfbabGreatDoor.u8 z0[7])∧w'.cell? ⟨g3,q*8+8,none⟩=some (Go.Proofs.YtefccfakhgdfbabGreatDoor.u8 z1[0])∧w'.cell? ⟨g3,q*8+9,none⟩=some (Go.Proofs.YtefccfakhgdfbabGreatDoor.u8 z1[1])∧w'.cell? ⟨g3,q*8+10,none⟩=some (Go.Proofs.YtefccfakhgdfbabGreatDoor.u8 z1[2])∧w'.cell? ⟨g3,q*8+11,none⟩=some (Go.Proofs.YtefccfakhgdfbabGreatDoor.u8 z1[3])∧w'.cell? ⟨g3,q*8+12,none⟩=some (Go.Proofs.YtefccfakhgdfbabGreatDoor.u8 z1[4])∧w'.cell? ⟨g3,q*8+13,none⟩=some (Go.Proofs.YtefccfakhgdfbabGreatDoor.u8 z1[5])∧w'.cell? ⟨g3,q*8+14,none⟩=some (Go.Proofs.YtefccfakhgdfbabGreatDoor.u8 z1[6])∧w'.cell? ⟨g3,q*8+15,none⟩=some (Go.Proofs.YtefccfakhgdfbabGreatDoor.u8 z1[7])∧w'.cell? ⟨g3,q*8+16,none⟩=some (Go.Proofs.YtefccfakhgdfbabGreatDoor.u8 z2[0])∧w'.cell? ⟨g3,q*8+17,none⟩=some (Go.Proofs.YtefccfakhgdfbabGreatDoor.u8 z2[1])∧w'.cell? ⟨g3,q*8+18,none⟩=some (Go.Proofs.YtefccfakhgdfbabGreatDoor.u8 z2[2])∧w'.cell? ⟨g3,q*8+19,none⟩=some (Go.Proofs.YtefccfakhgdfbabGreatDoor.u8 z2[3])∧w'.cell? ⟨g3,q*8+20,none⟩=some (Go.Proofs.YtefccfakhgdfbabGreatDoor.u8 z2[4])∧w'.cell? ⟨g3,q*8+21,none⟩=some (Go.Proofs.YtefccfakhgdfbabGreatDoor.u8 z2[5])∧w'.cell? ⟨g3,q*8+22,none⟩=some (Go.Proofs.YtefccfakhgdfbabGreatDoor.u8 z2[6])∧w'.cell? ⟨g3,q*8+23,none⟩=some (Go.Proofs.YtefccfakhgdfbabGreatDoor.u8 z2[7])∧w'.cell? ⟨g3,q*8+24,none⟩=some (Go.Proofs.YtefccfakhgdfbabGreatDoor.u8 z3[0])∧w'.cell? ⟨g3,q*8+25,none⟩=some (Go.Proofs.YtefccfakhgdfbabGreatDoor.u8 z3[1])∧w'.cell? ⟨g3,q*8+26,none⟩=some (Go.Proofs.YtefccfakhgdfbabGreatDoor.u8 z3[2])∧w'.cell? ⟨g3,q*8+27,none⟩=some (Go.Proofs.YtefccfakhgdfbabGreatDoor.u8 z3[3])∧w'.cell? ⟨g3,q*8+28,none⟩=some (Go.Proofs.YtefccfakhgdfbabGreatDoor.u8 z3[4])∧w'.cell? ⟨g3,q*8+29,none⟩=some (Go.Proofs.YtefccfakhgdfbabGreatDoor.u8 z3[5])∧w'.cell? ⟨g3,q*8+30,none⟩=some (Go.Proofs.YtefccfakhgdfbabGreatDoor.u8 z3[6])∧w'.cell? ⟨g3,q*8+31,none⟩=some (Go.Proofs.YtefccfakhgdfbabGreatDoor.u8 z3[7])) (first|exact⟨z0_0,z0_1,z0_2,z0_3,z0_4,z0_5,z0_6,z0_7,z1_0,z1_1,z1_2,z1_3,z1_4,z1_5,z1_6,z1_7,z2_0,z2_1,z2_2,z2_3,z2_4,z2_5,z2_6,z2_7,z3_0,z3_1,z3_2,z3_3,z3_4,z3_5,z3_6,z3_7⟩|(simp only[cell_setRow_ne hg3n];exact⟨z0_0,z0_1,z0_2,z0_3,z0_4,z0_5,z0_6,z0_7,z1_0,z1_1,z1_2,z1_3,z1_4,z1_5,z1_6,z1_7,z2_0,z2_1,z2_2,z2_3,z2_4,z2_5,z2_6,z2_7,z3_0,z3_1,z3_2,z3_3,z3_4,z3_5,z3_6,z3_7⟩)) (first|(go_at_call 129;refine (node_any _ _ _).mono ?_;rintro e w5 ⟨rfl,hb5⟩;replace z0_0:=(hb5.cell (p:=⟨g3,q*8,none⟩) (cell_lt z0_0)).trans z0_0;replace z0_1:=(hb5.cell (p:=⟨g3,q*8+1,none⟩) (cell_lt z0_1)).trans z0_1;replace z0_2:=(hb5.cell (p:=⟨g3,q*8+2,none⟩) (cell_lt z0_2)).trans z0_2;replace z0_3:=(hb5.cell (p:=⟨g3,q*8+3,none⟩) (cell_lt z0_3)).trans z0_3;replace z0_4:=(hb5.cell (p:=⟨g3,q*8+4,none⟩) (cell_lt z0_4)).trans z0_4;replace z0_5:=(hb5.cell (p:=⟨g3,q*8+5,none⟩) (cell_lt z0_5)).trans z0_5;replace z0_6:=(hb5.cell (p:=⟨g3,q*8+6,none⟩) (cell_lt z0_6)).trans z0_6;replace z0_7:=(hb5.cell (p:=⟨g3,q*8+7,none⟩) (cell_lt z0_7)).trans z0_7;replace z1_0:=(hb5.cell (p:=⟨g3,q*8+8,none⟩) (cell_lt z1_0)).trans z1_0;replace z1_1:=(hb5.cell (p:=⟨g3,q*8+9,none⟩) (cell_lt z1_1)).trans z1_1;replace z1_2:=(hb5.cell (p:=⟨g3,q*8+10,none⟩) (cell_lt z1_2)).trans z1_2;replace z1_3:=(hb5.cell (p:=⟨g3,q*8+11,none⟩) (cell_lt z1_3)).trans z1_3;replace z1_4:=(hb5.cell (p:=⟨g3,q*8+12,none⟩) (cell_lt z1_4)).trans z1_4;replace z1_5:=(hb5.cell (p:=⟨g3,q*8+13,none⟩) (cell_lt z1_5)).trans z1_5;replace z1_6:=(hb5.cell (p:=⟨g3,q*8+14,none⟩) (cell_lt z1_6)).trans z1_6;replace z1_7:=(hb5.cell (p:=⟨g3,q*8+15,none⟩) (cell_lt z1_7)).trans z1_7;replace z2_0:=(hb5.cell (p:=⟨g3,q*8+16,none⟩) (cell_lt z2_0)).trans z2_0;replace z2_1:=(hb5.cell (p:=⟨g3,q*8+17,none⟩) (cell_lt z2_1)).trans z2_1;replace z2_2:=(hb5.cell (p:=⟨g3,q*8+18,none⟩) (cell_lt z2_2)).trans z2_2;replace z2_3:=(hb5.cell (p:=⟨g3,q*8+19,none⟩) (cell_lt z2_3)).trans z2_3;replace z2_4:=(hb5.cell (p:=⟨g3,q*8+20,none⟩) (cell_lt z2_4)).trans z2_4;replace z2_5:=(hb5.cell (p:=⟨g3,q*8+21,none⟩) (cell_lt z2_5)).trans z2_5;replace z2_6:=(hb5.cell (p:=⟨g3,q*8+22,none⟩) (cell_lt z2_6)).trans z2_6;replace z2_7:=(hb5.cell (p:=⟨g3,q*8+23,none⟩) (cell_lt z2_7)).trans z2_7;replace z3_0:=(hb5.cell (p:=⟨g3,q*8+24,none⟩) (cell_lt z3_0)).trans z3_0;replace z3_1:=(hb5.cell (p:=⟨g3,q*8+25,none⟩) (cell_lt z3_1)).trans z3_1;replace z3_2:=(hb5.cell (p:=⟨g3,q*8+26,none⟩) (cell_lt z3_2)).trans z3_2;replace z3_3:=(hb5.cell (p:=⟨g3,q*8+27,none⟩) (cell_lt z3_3)).trans z3_3;replace z3_4:=(hb5.cell (p:=⟨g3,q*8+28,none⟩) (cell_lt z3_4)).trans z3_4;replace z3_5:=(hb5.cell (p:=⟨g3,q*8+29,none⟩) (cell_lt z3_5)).trans z3_5;replace z3_6:=(hb5.cell (p:=⟨g3,q*8+30,none⟩) (cell_lt z3_6)).trans z3_6;replace z3_7:=(hb5.cell (p:=⟨g3,q*8+31,none⟩) (cell_lt z3_7)).trans z3_7;replace q8:Is8 w5 w.heap.size:=q8.elim fun k hk=>⟨k,hashOf_below hk hb5⟩;replace HBB:=zh (HBB.o.trans (hb5.mono HBB.o.size));clear hb5))
     have hrel:∃ j':Nat,j'≤L.levels.length∧L.levels.length+1-j'≤L.levels.length-j∧Value.int .i64 (((j:Int)+1))=.int .i64 j'∧∃ vl1 vs1 Lv y',Aside (LogIs (w5.setRow w.heap.size (h8 (nodeH (nodeH z0 z1) (nodeH z2 z3)))) g gd ve vl1 vp vs1 { L with levels:=Lv })∧hashOf (w5.setRow w.heap.size (h8 (nodeH (nodeH z0 z1) (nodeH z2 z3)))) w.heap.size y'∧
       Lv.length=L.levels.length∧Aside (growP L.levels x=Lv.take j'++growP (Lv.drop j') y')∧Aside (∀ (i:Nat) (r:List Hsh),j'≤i→Lv[i]?=some r→r.length<1099511627776)∧Aside (Fr (LvS g ve vl vp vs) w (w5.setRow w.heap.size (h8 (nodeH (nodeH z0 z1) (nodeH z2 z3)))))∧Aside (Sub (w.alloc (.cells (h8 x) 109)) (LvS g ve vl vp vs) (LvS g ve vl1 vp vs1)):=by
      obtain⟨k5,hk5⟩:=q8
      have hFW:Fr (·=w.heap.size) wc (w5.setRow w.heap.size (h8 (nodeH (nodeH z0 z1) (nodeH z2 z3)))):=(Fr.ofBelow HBB.o).trans (Fr.setRow _ _ _)
      have hll:Lv2.length=L.levels.length:=by
       rcases HOR.o with h1|h1
       ·exact h1
       ·have h2:=HRJ.o
        rw[h1] at h2
        have h3:r = []:=(Option.some.inj h2).symm
        have h4:=HQ.o
        rw[h3] at h4
        simp at h4
      have hlj:(Lv2.take j).length=j:=by rw[List.length_take];omega
      have e1:(Lv2.take j++(r ++ [y]) :: Lv2.drop (j+1)).take (j+1)=Lv2.take j ++ [r ++ [y]]:=by
       rw[List.take_append,hlj,List.take_of_length_le (by omega),show j+1-j=1 by omega]
       rfl
      have e2:(Lv2.take j++(r ++ [y]) :: Lv2.drop (j+1)).drop (j+1)=Lv2.drop (j+1):=by
       rw[List.drop_append,hlj,List.drop_of_length_le (by omega),show j+1-j=1 by omega]
       rfl
      refine⟨j+1,by omega,by omega,by rfl,_,_,Lv2.set j (r ++ [y]),node4 (r ++ [y]),HL3.o.fr hFW (fun k hk e=>hnq3 (by subst e;exact HL3.o.lvOf HY3.o hk)) (fun k C fz hk e=>?_),?_,by simpa using hll,?_,?_,HF3.o.step hFW (fun i hi e=>by omega),HS3.o⟩
      ·subst e
       have:=HY3.o
       unfold hashOf at this
       rw[hk] at this
       simp at this
      ·rw[HN4.o]
       exact hashOf_set hk5 _
      ·show growP L.levels x=_
       rw[HSET.o,e1,e2,HG2.o,HDROP.o,growP,if_pos HM4.o,List.append_assoc]
       rfl
      ·show ∀ (i:Nat) (r':List Hsh),j+1≤i→(Lv2.set j (r ++ [y]))[i]?=some r'→_
       intro i r' hi hr'
       rw[List.getElem?_set_ne (by omega)] at hr'
       exact HB2.o i r' (by omega) hr'
     have HREL:=zh hrel
     clear hrel
     go_wp2_with fail
     go_roundg (L.levels.length-j)
     case measure=>omega
     case rel=>exact HREL.o
end
end
end Go.Proofs.YtefccfakhgdfbabGreatDoor
