/- (*Log).Publish: what stands between its steps; the deferred literal. -/
import Derived.Test.YtefccfakhgdfbabGreatDoorHe14
set_option linter.unusedVariables false
set_option linter.unusedSimpArgs false
open Go.RowKit Go.Proofs.Tryz
set_option maxRecDepth 100000
set_option maxHeartbeats 4000000
namespace Go.Proofs.YtefccfakhgdfbabGreatDoor
section
section
variable {l l':List Fil} (h:getF l'=getF l)
include h
end
theorem bundle_flat {ls:List (List UInt8)} (h0:ls.length≠0) (h4:ls.length≤4) (h:∀ l∈ls,l.length≤20):bundleOf ls=some (ls.map encE).flatten:=by
 rw[bundle_some h0 h4 fun j l hl=>h l (List.mem_of_getElem? hl),List.flatMap_def]
end
section
structure Wm where
 key:ByteArray
 d:Dk
 l:Option Lg
 es:List ByteArray
 pub:Int
 failed:Bool
 foreign:Bool
structure Good (m:Wm) (U:List Nat) (K:Nat):Prop where
 sane:Sane m.d U K
 run:∀ L,m.l=some L→Runs m.d L.entries L.put m.failed U∧MarkOk (rowsOf L.entries) L.put∧L.entries=lists m.es∧L.levels=levels L.entries∧L.failed=m.failed∧L.key=m.key
theorem Good.bound {m:Wm} {U:List Nat} {K K':Nat} (h:Good m U K) (hK:K≤K'):Good m U K':=⟨h.sane.more hK,h.run⟩
theorem good_open {m:Wm} {U:List Nat} {K k n:Nat} {d':Dk} {ss:List ByteArray} (h:Good m U K) (hU:U.length<1048576) (c:Calm k (mendD m.d) d') (ho:OpensTo m.d.files m.key (.good (lists ss) n)) (fo:Bool) :
  Good ⟨m.key,d',some ⟨m.key,lists ss,levels (lists ss),[],false⟩,ss,n,false,fo⟩ U (K+k):=by
 have hs:Sane d' U (K+k):=h.sane.mend.calm c
 refine⟨hs,fun L hL=>?_⟩
 cases hL
 have hf:d'.files=m.d.files:=c.files
 exact⟨runs_open hs c.dead c.hit hU (by rw[hf];exact ho),⟨Nat.zero_le _,fun a b r ha=>by simp at ha⟩,rfl,rfl,rfl,rfl⟩
theorem good_append {m:Wm} {U:List Nat} {K:Nat} {L:Lg} {s:ByteArray} (h:Good m U K) (hL:m.l=some L) (hf:m.failed=false) (hs:s.size≤20) :
  Good { m with l:=some { L with entries:=L.entries ++ [s.data.toList],levels:=levels (L.entries ++ [s.data.toList]) },es:=m.es ++ [s] } (L.entries.length / 4 :: U) K:=by
 obtain⟨h1,h2,h3,h4,h5,h6⟩:=h.run L hL
 refine⟨h.sane.grow _ (Nat.le_refl _),fun L2 hL2=>?_⟩
 cases hL2
 rw[hf] at h1
 have hr:=runs_append s.data.toList h1 (by simpa using hs)
 refine⟨by show Runs m.d _ _ m.failed _;rw[hf];exact hr,(hr.live rfl).2.mark,?_,rfl,h5,h6⟩
 show L.entries ++ [s.data.toList]=lists (m.es ++ [s])
 rw[h3]
 simp[lists]
theorem pubJ_mark (R:List (List (List UInt8))):∀ (k n:Nat) (put:List Nat) (d:Dk),k+n=R.length→MarkOk R put→MarkOk R (pubJ n (R.drop n) put d).2.1
 | 0,n,put,d,hn,h=>by
   rw[List.drop_of_length_le (by omega)]
   exact h
 | k+1,n,put,d,hn,h=>by
   have hlt:n<R.length:=by omega
   rw[List.drop_eq_getElem_cons hlt,pubJ]
   have hr:R[n]?=some R[n]:=List.getElem?_eq_getElem hlt
   have hx:=h.next hr (writeJ_mark ((n:Int)-1) R[n] ((put++List.replicate (n+1-put.length) 0).getD n 0 / 4) d)
   split
   ·exact hx
   ·exact pubJ_mark R k (n+1) _ _ (by omega) hx
theorem pubD_mark {es:List (List UInt8)} {put:List Nat} (key:ByteArray) (d:Dk) (h:MarkOk (rowsOf es) put):MarkOk (rowsOf es) (pubD es key put d).2.1:=by
 have:=pubJ_mark (rowsOf es) (rowsOf es).length 0 put d (by omega) h
 rw[List.drop_zero] at this
 unfold pubD
 split <;> exact this
theorem good_publish {m:Wm} {U:List Nat} {K:Nat} {L:Lg} (h:Good m U K) (hU:U.length≤16384) (hL:m.l=some L) (hf:m.failed=false) (hn:NoClash (filesP L.entries) m.d.files) (pub:Int) (fo:Bool) :
  Good ⟨m.key,(pubD L.entries L.key L.put m.d).1,some { L with put:=(pubD L.entries L.key L.put m.d).2.1,failed:=(pubD L.entries L.key L.put m.d).2.2.isSome },m.es,pub,(pubD L.entries L.key L.put m.d).2.2.isSome,fo⟩ U (K+1048576):=by
 obtain⟨h1,h2,h3,h4,h5,h6⟩:=h.run L hL
 rw[hf] at h1
 obtain⟨r1,r2⟩:=runs_publish L.key h.sane h1 hU hn
 refine⟨r1,fun L2 hL2=>?_⟩
 cases hL2
 exact⟨r2,pubD_mark _ _ h2,h3,h4,rfl,h6⟩
abbrev moreW (m:Wm) (L:Lg) (s:ByteArray):Wm:={ m with l:=some { L with entries:=L.entries ++ [s.data.toList],levels:=levels (L.entries ++ [s.data.toList]) },es:=m.es ++ [s] }
abbrev pubW (m:Wm) (L:Lg):Wm:=⟨m.key,(pubD L.entries L.key L.put m.d).1,some { L with put:=(pubD L.entries L.key L.put m.d).2.1,failed:=(pubD L.entries L.key L.put m.d).2.2.isSome },m.es,m.es.length,m.failed,false⟩
end
section
structure RdW0 (m:Wm) (L:Lg):Prop where
 log:m.l=some L
 live:L.failed=false
 failed:m.failed=false
 foreign:m.foreign=false
 ents:L.entries=lists m.es
 key:L.key=m.key
 quiet:Quiet m.d
 sound:Sound1 (lists m.es) L.put m.d
 short:∀ e∈lists m.es,e.length≤20
structure RdW (m:Wm) (L:Lg) (P:Nat):Prop extends RdW0 m L where
 pub:m.pub=P
 le:P≤(lists m.es).length
 has:DiskHas (lists m.es) P m.d.files
 cp:(P=0∧getF m.d.files (sOf kCp)=none)∨getF m.d.files (sOf kCp)=some (cpOf ((lists m.es).take P) m.key)
structure RdC (m:Wm) (P:Nat) (c:Cl):Prop where
 tr:TrueC (lists m.es) c
 le:c.size≤P
 has:DiskHas (lists m.es) c.size m.d.files
 key:c.key=m.key
theorem lists_snoc (es:List ByteArray) (s:ByteArray):lists (es ++ [s])=lists es ++ [s.data.toList]:=by simp[lists]
theorem lists_len (es:List ByteArray):(lists es).length=es.length:=by simp[lists]
theorem rdw0_more {m:Wm} {L:Lg} (h:RdW0 m L) {s:ByteArray} (hs:s.size≤20):RdW0 (moreW m L s) { L with entries:=L.entries ++ [s.data.toList],levels:=levels (L.entries ++ [s.data.toList]) } where
 log:=rfl
 live:=h.live
 failed:=h.failed
 foreign:=h.foreign
 ents:=by show L.entries++_=_;rw[lists_snoc,h.ents]
 key:=h.key
 quiet:=h.quiet
 sound:=by show Sound1 (lists (m.es ++ [s])) _ _;rw[lists_snoc];exact h.sound.append _
 short e he:=by
  have he':e∈lists (m.es ++ [s]):=he
  rw[lists_snoc,List.mem_append] at he'
  rcases he' with he|he
  ·exact h.short e he
  ·rw[List.mem_singleton.1 he];simpa using hs
theorem readP_fine {c:Cl} {n:Nt} {i:Nat} (hi:i<c.size) (hf:(readP c n i).1=tFine):∃ r,(readQ c.size i (askQ n c.cache)).1=.ok r∧readP c n i=(tFine,r,{ c with cache:=rememberQ (readQ c.size i (askQ n c.cache)).2.cache (readQ c.size i (askQ n c.cache)).2.files },(readQ c.size i (askQ n c.cache)).2.net):=by
 revert hf
 unfold readP
 rw[if_neg (by omega),Int.toNat_natCast]
 have no:∀ {a b:Nat} {x:ByteArray},a≠b→(a,x)=((b,⟨#[]⟩):Tld)→False:=fun hab e=>hab (congrArg Prod.fst e)
 rcases hq:readQ c.size i (askQ n c.cache) with ⟨r|r,s⟩
 ·cases r with
  | miss p=>intro hf;exact (no (by decide) hf).elim
  | panic=>intro hf;exact (no (by decide) hf).elim
 ·dsimp only
  split
  ·intro _;exact⟨r,rfl,rfl⟩
  ·intro hf;exact (no (by decide) hf).elim
section
variable {m:Wm} {L:Lg} (h:RdW0 m L) (hl:m.es.length≤1048576)
include h hl
theorem rdw_pub:RdW (pubW m L) { L with put:=(pubD L.entries L.key L.put m.d).2.1,failed:=(pubD L.entries L.key L.put m.d).2.2.isSome } m.es.length:=by
 have hq:=publish_quiet (es:=lists m.es) L.key (by rw[lists_len];exact hl) h.quiet h.sound
 rw[←h.ents] at hq
 obtain⟨q1,q2,q3,q4,q5,q6,q7,q8⟩:=hq
 have hen:lists m.es=L.entries:=h.ents.symm
 have hle:L.entries.length=m.es.length:=by rw[h.ents,lists_len]
 refine⟨⟨rfl,by show Option.isSome _=false;rw[q1];rfl,h.failed,rfl,h.ents,h.key,q2,?_,h.short⟩,rfl,?_,?_,.inr ?_⟩
 ·show Sound1 (lists m.es) _ _
  rw[hen];exact q3
 ·show m.es.length≤(lists m.es).length
  rw[lists_len];exact Nat.le_refl _
 ·show DiskHas (lists m.es) _ _
  rw[hen,←hle];exact q4
 ·show getF (pubD L.entries L.key L.put m.d).1.files (sOf kCp)=some (cpOf ((lists m.es).take m.es.length) m.key)
  rw[hen,←hle,List.take_length,←h.key];exact q5
theorem rdw_pub_cp:getF (pubW m L).d.files (sOf kCp)=some (cpOf (lists m.es) m.key):=by
 have hq:=publish_quiet (es:=lists m.es) L.key (by rw[lists_len];exact hl) h.quiet h.sound
 rw[←h.ents] at hq
 show getF (pubD L.entries L.key L.put m.d).1.files _=_
 rw[←h.ents,←h.key]
 exact hq.2.2.2.2.1
theorem rdw_noClash:NoClash (filesP L.entries) m.d.files:=by
 rw[h.ents]
 exact h.sound.true'.noClash (by rw[lists_len];exact hl)
theorem rdw_fine:(pubD L.entries L.key L.put m.d).2.2=none∧(pubD L.entries L.key L.put m.d).1.files.length≤m.d.files.length+12*(m.es.length+3)+1:=by
 have hq:=publish_quiet (es:=lists m.es) L.key (by rw[lists_len];exact hl) h.quiet h.sound
 rw[←h.ents] at hq
 refine⟨hq.1,?_⟩
 have:=hq.2.2.2.2.2.2.1
 rw[h.ents,lists_len] at this
 rw[h.ents]
 exact this
end
section
variable {m:Wm} {L:Lg} {P:Nat} (h:RdW m L P) (hl:m.es.length≤1048576)
include h hl
theorem rdw_true {n:Nt} (hn:n.files=m.d.files) (h0:n.lies = []):NetTrue (lists m.es) n:=
 netTrue_plain (by rw[lists_len];exact hl) h.short (by rw[hn];exact h.sound.true') h0
theorem rd_update {c:Cl} (k:RdC m P c) {n:Nt} (hn:n.files=m.d.files) (h0:n.lies = []) :
  SameN n (updateP c n).2.2.2∧(updateP c n).2.2.1.cache.most=c.cache.most∧RdC m P (updateP c n).2.2.1∧
   ((P=0∧getF m.d.files (sOf kCp)=none∧(updateP c n).1=(3,⟨#[]⟩)∧(updateP c n).2.1 = []∧(updateP c n).2.2.1.size=0)∨
       ((P=0→getF m.d.files (sOf kCp)≠none)∧(updateP c n).1=tFine∧(updateP c n).2.1=(if 0<c.size∧c.size<P then partOf c.size ((lists m.es).take P) true else [])∧(updateP c n).2.2.1.size=P)):=by
 have hle:(lists m.es).length≤1048576:=by rw[lists_len];exact hl
 have hnt:=rdw_true h hl hn h0
 have upd:∀ {x:ByteArray},getF m.d.files (sOf kCp)=some x→x=cpOf ((lists m.es).take P) m.key→SameN n (updateP c n).2.2.2∧(updateP c n).2.2.1.cache.most=c.cache.most∧RdC m P (updateP c n).2.2.1∧(updateP c n).1=tFine∧(updateP c n).2.1=(if 0<c.size∧c.size<P then partOf c.size ((lists m.es).take P) true else [])∧(updateP c n).2.2.1.size=P:=fun {x} hx he=>by
  obtain⟨u1,u2,u3,u4,u5,u6,u7⟩:=updateP_true hle h.short k.tr hnt (M:=P) h.le k.le (by rw[k.key,fetch_cp (by rw[hn];exact hx) h0,he]) (netHas_plain (by rw[hn];exact h.has) h0)
  exact⟨u7,u6,⟨u3,by rw[u4];exact Nat.le_refl _,by rw[u4];exact h.has,u5.trans k.key⟩,u1,u2,u4⟩
 rcases h.cp with ⟨hp,hc⟩|hc
 ·have hf:fetchA n (sOf kCp)=none:=by
   unfold fetchA
   rw[show lieOf n (sOf kCp)=none by unfold lieOf;rw[h0];rfl,hn,hc]
   rfl
  have hz:c.size=0:=by have:=k.le;omega
  have e:updateP c n=((3,⟨#[]⟩),[],c,fetchN n (sOf kCp)):=by unfold updateP;rw[hf]
  rw[e]
  exact⟨sameN_fetch _ _,rfl,k,.inl ⟨hp,hc,rfl,rfl,hz⟩⟩
 ·obtain⟨a1,a2,a3,a4,a5,a6⟩:=upd hc rfl
  exact⟨a1,a2,a3,.inr ⟨fun _ e=>(by rw[hc] at e;cases e),a4,a5,a6⟩⟩
theorem rd_read {c:Cl} (k:RdC m P c) {n:Nt} (hn:n.files=m.d.files) (h0:n.lies = []) {i:Nat} (hi:i<c.size) :
  SameN n (readP c n i).2.2.2∧RdC m P (readP c n i).2.2.1∧(readP c n i).2.2.1.size=c.size∧(readP c n i).2.2.1.cache.most=c.cache.most∧(readP c n i).1=tFine∧
   (readP c n i).2.1=((lists m.es).getD i [],pathOf ((lists m.es).take c.size) i)∧
   ((c.cache.most<16∨256<c.size∨(readP (readP c n i).2.2.1 (readP c n i).2.2.2 i).2.2.2.fetches=(readP c n i).2.2.2.fetches)∧
       (0<c.cache.most∨(readP c n i).2.2.2.fetches<(readP (readP c n i).2.2.1 (readP c n i).2.2.2 i).2.2.2.fetches)∧
       (1<c.cache.most∨c.size<2∨(readP c n i).2.2.2.fetches<(readP (readP c n i).2.2.1 (readP c n i).2.2.2 i).2.2.2.fetches)):=by
 have hle:(lists m.es).length≤1048576:=by rw[lists_len];exact hl
 have hcs:=k.tr.size
 have one:∀ (c:Cl) (k:RdC m P c) (n:Nt) (hn:n.files=m.d.files) (h0:n.lies = []) (hi:i<c.size),SameN n (readP c n i).2.2.2∧RdC m P (readP c n i).2.2.1∧(readP c n i).2.2.1.size=c.size∧(readP c n i).2.2.1.cache.most=c.cache.most∧(readP c n i).1=tFine∧
   (readP c n i).2.1=((lists m.es).getD i [],pathOf ((lists m.es).take c.size) i):=fun c k n hn h0 hi=>by
  obtain⟨u1,u2,u3,u4,u5,u6,u7⟩:=readP_true hle h.short k.tr (rdw_true h hl hn h0) hi (av:=true) (fun _=>netHas_plain (by rw[hn];exact k.has) h0)
  obtain⟨v1,v2⟩|⟨v,_⟩:=u7
  ·refine⟨u2,⟨u1,by rw[u4];exact k.le,by rw[u4];exact k.has,u3.trans k.key⟩,u4,u6,v1,?_⟩
   rw[v2]
   congr 1
   rw[List.getD_eq_getElem?_getD,List.getD_eq_getElem?_getD,List.getElem?_take_of_lt hi]
  ·cases v
 obtain⟨a1,a2,a3,a4,a5,a6⟩:=one c k n hn h0 hi
 refine⟨a1,a2,a3,a4,a5,a6,?_⟩
 obtain⟨r,hr,hre⟩:=readP_fine hi a5
 obtain⟨b1,b2,b3,b4⟩:=again k.tr.ok (by omega) hi hr
 have hi2:i<(readP c n i).2.2.1.size:=by rw[a3];exact hi
 obtain⟨_,_,_,_,e5,_⟩:=one _ a2 (readP c n i).2.2.2 (a1.2.trans hn) (a1.1.trans h0) hi2
 obtain⟨r2,hr2,hre2⟩:=readP_fine hi2 e5
 have hfew:=fun h256=>read_few (N:=c.size) (i:=i) h256 hi n c.cache
 rw[hre2,hre]
 dsimp only at b2 b3 b4 ⊢
 refine⟨?_,?_,?_⟩
 ·by_cases h1:c.cache.most<16
  ·exact .inl h1
  ·by_cases h2:256<c.size
   ·exact .inr (.inl h2)
   ·exact .inr (.inr (by rw[b2 (Nat.le_trans (hfew (by omega)) (by omega))]))
 ·rcases Nat.eq_zero_or_pos c.cache.most with h1|h1
  ·exact .inr (b3 h1)
  ·exact .inl h1
 ·by_cases h1:1<c.cache.most
  ·exact .inl h1
  ·by_cases h2:c.size<2
   ·exact .inr (.inl h2)
   ·exact .inr (.inr (b4 (by omega) (by omega)))
end
theorem rdw_new {m:Wm} {L:Lg} (key:ByteArray) (hL:m.l=some L) (hk:m.key=key) (hlk:L.key=key) (he:m.es = []) (hle:L.entries = []) (hlp:L.put = []) (hlf:L.failed=false) (hf:m.failed=false) (hfo:m.foreign=false) (hp:m.pub=0)
  (hq:Quiet m.d) (ht:m.d.turned=false) (hd:m.d.files = []):RdW m L 0 where
 toRdW0:=⟨hL,hlf,hf,hfo,by rw[hle,he];rfl,hlk.trans hk.symm,hq,by rw[he,hlp];exact sound_new m.d hd hq.dead hq.hit ht,fun e he'=>by rw[he] at he';simp[lists] at he'⟩
 pub:=hp
 le:=Nat.zero_le _
 has:=DiskHas.zero _ _
 cp:=.inl ⟨rfl,by rw[hd];rfl⟩
theorem rdc_new {m:Wm} (key:ByteArray) (hk:m.key=key) (P most:Nat):RdC m P ⟨key,0,hash [],⟨most,[]⟩⟩ where
 tr:=⟨Nat.zero_le _,by show hash []=rootOf (List.take 0 _);rw[List.take_zero];rfl,fun x hx=>by simp at hx,⟨List.nodup_nil,Nat.zero_le _⟩⟩
 le:=Nat.zero_le _
 has:=DiskHas.zero _ _
 key:=hk.symm
end
section
theorem rootT_two (N:Nat) {f c e:Nat} (hc:c%2 ^ e=0):(rootT N f c (2 ^ e)).length≤2:=by
 cases f with
 | zero=>simp[rootT]
 | succ f=>
  rw[rootT,if_pos ⟨pow_and e,hc⟩]
  exact fullT_len _ _ _
theorem below_exp {n mm:Nat} (h2:2≤n) (hn:n≤2 ^ mm) (hm:mm≤63):∃ e,e<mm∧below n=2 ^ e∧2 ^ e<n∧n-2 ^ e≤2 ^ e:=by
 have h63:(2:Nat) ^ mm≤2 ^ 63:=Nat.pow_le_pow_right (by decide) hm
 rcases Nat.lt_or_ge n 9223372036854775808 with hlt|hge
 ·obtain⟨e,he,he2,h4,h5⟩:=bl_bd h2 hlt
  have hb:below n=2 ^ e:=by unfold below;rw[he];rfl
  have hem:e<mm:=(Nat.pow_lt_pow_iff_right (a:=2) (by decide)).1 (Nat.lt_of_lt_of_le h4 hn)
  exact⟨e,hem,hb,h4,by omega⟩
 ·have he:n=2 ^ 63:=by omega
  have hmm:62<mm:=by
   rcases Nat.lt_or_ge 62 mm with h|h
   ·exact h
   ·have:(2:Nat) ^ mm≤2 ^ 62:=Nat.pow_le_pow_right (by decide) h
    omega
  refine⟨62,hmm,?_,?_,?_⟩
  ·subst he;decide
  ·subst he;decide
  ·subst he;decide
theorem mod_sub {a x y:Nat} (h:a%2 ^ y=0) (hx:x≤y):a%2 ^ x=0:=Nat.mod_eq_zero_of_dvd (Nat.dvd_trans (Nat.pow_dvd_pow 2 hx) (Nat.dvd_of_mod_eq_zero h))
theorem rootT_log (N:Nat):∀ (f i n mm:Nat),1≤n→n≤2 ^ mm→i%2 ^ mm=0→mm≤63→(rootT N f i n).length≤2*mm+2
 | 0,_,_,_,_,_,_,_=>by simp[rootT]
 | f+1,i,n,mm,h1,hn,hi,hm=>by
  rw[rootT]
  split
  ·have:=fullT_len N (Lib.bitLen n-1) (i / n)
   omega
  ·rename_i hne
   have h2:2≤n:=by
    rcases Nat.lt_or_ge n 2 with hlt|hge
    ·obtain rfl:n=1:=by omega
     exact absurd ⟨by decide,Nat.mod_one i⟩ hne
    ·exact hge
   obtain⟨e,he,hb,h4,h5⟩:=below_exp h2 hn hm
   have hie:=mod_sub hi (Nat.le_of_lt he)
   have h6:=rootT_two N (f:=f) hie
   have h7:=rootT_log N f (i+2 ^ e) (n-2 ^ e) e (by omega) h5 (by rw[Nat.add_mod_right];exact hie) (by omega)
   rw[hb,List.length_append]
   omega
theorem partR_fit:∀ (f a b m mm:Nat),a<b→a<m→b-a≤2 ^ mm→a%2 ^ mm=0→mm≤63→∀ x∈partR f a b m,x.1<x.2∧∃ z,z≤mm∧x.2-x.1≤2 ^ z∧x.1%2 ^ z=0
 | 0,_,_,_,_,_,_,_,_,_=>fun x hx=>by simp[partR] at hx
 | f+1,a,b,m,mm,hab,ham,hs,ha,hm=>fun x hx=>by
  unfold partR at hx
  by_cases h1:b≤m
  ·rw[if_pos h1] at hx
   split at hx
   ·rw[List.mem_singleton.1 hx]
    exact⟨hab,mm,Nat.le_refl _,hs,ha⟩
   ·simp at hx
  ·rw[if_neg h1] at hx
   obtain⟨e,he,hb,h4,h5⟩:=below_exp (show 2≤b-a by omega) hs hm
   have hae:=mod_sub ha (Nat.le_of_lt he)
   have hae2:(a+2 ^ e)%2 ^ e=0:=by rw[Nat.add_mod_right];exact hae
   have h0:=Nat.two_pow_pos e
   rw[hb] at hx
   split at hx
   ·rcases List.mem_cons.1 hx with rfl|hx
    ·exact⟨by dsimp only;omega,e,Nat.le_of_lt he,by dsimp only;omega,hae2⟩
    ·obtain⟨k1,z,k2,k3⟩:=partR_fit f a (a+2 ^ e) m e (by omega) ham (by omega) hae (by omega) x hx
     exact⟨k1,z,by omega,k3⟩
   ·rcases List.mem_cons.1 hx with rfl|hx
    ·exact⟨by dsimp only;omega,e,Nat.le_of_lt he,by dsimp only;omega,hae⟩
    ·obtain⟨k1,z,k2,k3⟩:=partR_fit f (a+2 ^ e) b m e (by omega) (by omega) (by omega) hae2 (by omega) x hx
     exact⟨k1,z,by omega,k3⟩
theorem gatherT_each (N K:Nat):∀ rs:List (Nat×Nat),(∀ x∈rs,(rootT N (x.2-x.1) x.1 (x.2-x.1)).length≤K)→(gatherT N rs).length≤rs.length*K
 | [],_=>by simp[gatherT]
 | x :: xs,h=>by
  have h1:=gatherT_each N K xs fun y hy=>h y (List.mem_cons_of_mem _ hy)
  have h2:=h x List.mem_cons_self
  have e:gatherT N (x :: xs)=rootT N (x.2-x.1) x.1 (x.2-x.1)++gatherT N xs:=rfl
  rw[e,List.length_append,List.length_cons,Nat.add_mul]
  omega
theorem proofT_log {N m:Nat} (hN:N≤2 ^ 63) (hm:1≤m) (hmN:m≤N):(gatherT N (partR N 0 N m).reverse).length≤8192:=by
 have h1:=partR_len N 63 0 N m (by omega) (Nat.le_refl _) (by omega)
 have h2:=gatherT_each N 128 (partR N 0 N m).reverse fun x hx=>by
  obtain⟨k1,z,k2,k3,k4⟩:=partR_fit N 0 N m 63 (by omega) (by omega) (by omega) (Nat.zero_mod _) (Nat.le_refl _) x (List.mem_reverse.1 hx)
  have:=rootT_log N (x.2-x.1) x.1 (x.2-x.1) z (by omega) k3 k4 k2
  omega
 rw[List.length_reverse] at h2
 have h3:(partR N 0 N m).length*128≤64*128:=Nat.mul_le_mul h1 (Nat.le_refl _)
 omega
end
section
theorem neq_bnil (w:World) (a:Option Addr) (n c:Nat):(binOp .neq 94 (.slice a n c) (.slice none 0 0)).run prog w=.ok (.bool (!a.isNone)) w:=run_neq_slice_nil_any w _ _ a n c 0 0 underlying94
def unbW (s:ByteArray) (k:Nat):Option (List (List UInt8)):=(unbundleOf s.data.toList).bind fun e=>if e.length=k then some e else none
section
variable (w:World) (g gd:Nat) (v ve vl vp:Value) (vs:List Value) (d:Dk) (L:Lg) (h:LogIs w g gd ve vl vp vs L) (hD:DiskAt w gd v d) (p:ByteArray) (k:Nat) (hc:d.calls<1099511627776)
include h hD hc
theorem bun_err (hk:0<enterK d):Calls prog 124 #[.pointer (some ⟨g,0,none⟩),.string p,.int .i64 k] w fun e w'=>
  ∃ q n r,e=.returned (.tuple #[.slice none 0 0,.bool false,.iface 153 (.pointer (some ⟨r,0,none⟩))])∧w.heap.size≤q∧w.heap.size≤r∧w'.heap[q]?=some (.cells #[.int .i64 n] 366 (0,0))∧
   w'.heap[r]?=some (.cells #[.string p,.iface 152 (.pointer (some ⟨q,0,none⟩))] 155 (0,0))∧DiskAt w' gd v (enterD d)∧Fr (·=gd) w w':=by
 obtain⟨⟨c0,_⟩,f0⟩:=h.heads
 have hcon:=get_err (p:=p) hD hc hk
 clear h hD
 go_enter func124,ntmps124
 go_wp2_with (first
  | (go_at_call 249;refine hcon.mono ?_;rintro e w2 ⟨q,n,rfl,hq,hh,hd2,hf2⟩;have hn:=neq_nil w2 152 (.pointer (some ⟨q,0,none⟩));have HD:=zh hd2;have HF:=zh hf2;have HH:=zh hh;clear hd2 hf2 hh)
  | (go_at_call 65;refine (at_any _ _ _ _).mono ?_;rintro e w3 ⟨u,rfl,⟨r,rfl,hr,hhr⟩,hb3⟩;have HR:=zh hhr;have HB:=zh hb3;clear hhr hb3))
 go_returns
 exact⟨_,_,_,rfl,hq,Nat.le_trans HF.o.size hr,(HB.o.block _ (lt_of_heap HH.o)).trans HH.o,HR.o,HD.o.below HB.o,HF.o.trans (Fr.ofBelow HB.o)⟩
theorem bun_miss (hk:enterK d=0) (hg:getF d.files p=none):Calls prog 124 #[.pointer (some ⟨g,0,none⟩),.string p,.int .i64 k] w fun e w'=>
  e=.returned (.tuple #[.slice none 0 0,.bool false,.nilIface])∧DiskAt w' gd v (enterD d)∧Fr (·=gd) w w':=by
 obtain⟨⟨c0,_⟩,f0⟩:=h.heads
 have hcon:=get_miss (p:=p) hD hc hk hg
 clear h hD hg
 go_enter func124,ntmps124
 go_wp2_with (first
  | (go_at_call 249;refine hcon.mono ?_;rintro e w2 ⟨rfl,hd2,hf2⟩;have hn:=neq_nils w2;have HD:=zh hd2;have HF:=zh hf2;clear hd2 hf2)
  | (go_at_call 94;refine (unb_none (data:=[]) ⟨none,0,rfl,Nat.le_refl _,fun j x hx=>by simp at hx⟩ (by simp) unbundle_empty).mono ?_;rintro e w3 ⟨rfl,hb3⟩;have hq:=neq_bnil w3 none 0 0;have HB:=zh hb3;clear hb3))
 go_returns
 exact⟨rfl,HD.o.below HB.o,HF.o.trans (Fr.ofBelow HB.o)⟩
theorem bun_bad {s:ByteArray} (hk:enterK d=0) (hg:getF d.files p=some s) (hs:s.size≤1048576) (hu:unbW s k=none):Calls prog 124 #[.pointer (some ⟨g,0,none⟩),.string p,.int .i64 k] w fun e w'=>
  e=.returned (.tuple #[.slice none 0 0,.bool true,.nilIface])∧DiskAt w' gd v (enterD d)∧Fr (·=gd) w w':=by
 obtain⟨⟨c0,_⟩,f0⟩:=h.heads
 have hcon:=get_hit (p:=p) hD hc hk hg
 clear h hD hg
 cases hb:unbundleOf s.data.toList with
 | none=>
  have HU:=zh hb
  clear hb hu
  go_enter func124,ntmps124
  go_wp2_with (first
   | (go_at_call 249;refine hcon.mono ?_;rintro e w2 ⟨b,c,rfl,ho,hd2,hf2⟩;have hn:=neq_nils w2;have HO:=zh ho.at;have HD:=zh hd2;have HF:=zh hf2;clear hd2 hf2 ho)
   | (go_at_call 94;refine (unb_none HO.o (by simpa using Nat.le_trans hs (by decide)) HU.o).mono ?_;rintro e w3 ⟨rfl,hb3⟩;have hq:=neq_bnil w3 (some ⟨b,0,none⟩) s.size c;have HB:=zh hb3;clear hb3))
  go_returns
  exact⟨rfl,HD.o.below HB.o,HF.o.trans (Fr.ofBelow HB.o)⟩
 | some ls=>
  have hne:ls.length≠k:=by
   intro e
   unfold unbW at hu
   rw[hb,Option.bind_some,if_pos e] at hu
   cases hu
  have hnz:((ls.length:Int) != (k:Int))=true:=by simp;omega
  have HU:=zh hb
  clear hb hu hne
  go_enter func124,ntmps124
  go_wp2_with (first
   | (go_at_call 249;refine hcon.mono ?_;rintro e w2 ⟨b,c,rfl,ho,hd2,hf2⟩;have hn:=neq_nils w2;have HO:=zh ho.at;have HD:=zh hd2;have HF:=zh hf2;clear hd2 hf2 ho)
   | (go_at_call 94;refine (unb_some HO.o (by simpa using Nat.le_trans hs (by decide)) HU.o).mono ?_;rintro e w3 ⟨b3,c3,rfl,_,hb3⟩;have hq:=neq_bnil w3 (some ⟨b,0,none⟩) s.size c;have HB:=zh hb3;clear hb3))
  go_returns
  exact⟨rfl,HD.o.below HB.o,HF.o.trans (Fr.ofBelow HB.o)⟩
theorem bun_good {s:ByteArray} {ls:List (List UInt8)} (hk:enterK d=0) (hg:getF d.files p=some s) (hs:s.size≤1048576) (hu:unbW s k=some ls):Calls prog 124 #[.pointer (some ⟨g,0,none⟩),.string p,.int .i64 k] w fun e w'=>
  ∃ b c,e=.returned (.tuple #[.slice (some ⟨b,0,none⟩) ls.length c,.bool true,.nilIface])∧OwnBss w' w.heap.size (.slice (some ⟨b,0,none⟩) ls.length c) ls∧DiskAt w' gd v (enterD d)∧Fr (·=gd) w w':=by
 obtain⟨⟨c0,_⟩,f0⟩:=h.heads
 have hcon:=get_hit (p:=p) hD hc hk hg
 clear h hD hg
 obtain⟨hb,hl⟩:unbundleOf s.data.toList=some ls∧ls.length=k:=by
  unfold unbW at hu
  cases hb:unbundleOf s.data.toList with
  | none=>rw[hb] at hu;cases hu
  | some ls'=>
   rw[hb,Option.bind_some] at hu
   split at hu
   ·rename_i e;cases hu;exact⟨rfl,e⟩
   ·cases hu
 have hnz:((ls.length:Int) != (k:Int))=false:=by simp;omega
 have HU:=zh hb
 clear hb hu hl
 go_enter func124,ntmps124
 go_wp2_with (first
  | (go_at_call 249;refine hcon.mono ?_;rintro e w2 ⟨b,c,rfl,ho,hd2,hf2⟩;have hn:=neq_nils w2;have HO:=zh ho.at;have HD:=zh hd2;have HF:=zh hf2;clear hd2 hf2 ho)
  | (go_at_call 94;refine (unb_some HO.o (by simpa using Nat.le_trans hs (by decide)) HU.o).mono ?_;rintro e w3 ⟨b3,c3,rfl,ho3,hb3⟩;have hq:=neq_bnil w3 (some ⟨b,0,none⟩) s.size c;have HO3:=zh ho3;have HB:=zh hb3;clear hb3 ho3))
 go_returns
 refine⟨_,_,rfl,?_,HD.o.below HB.o,HF.o.trans (Fr.ofBelow HB.o)⟩
 exact HO3.o.mono HF.o.size
end
end
section
def bothS (g gd:Nat) (v ve vl vp:Value) (vs:List Value) (k:Nat):Prop:=dkS gd v k∨LogS g ve vl vp vs k
structure Wk (w:World) (g gd:Nat) (v ve vl vp:Value) (vs:List Value) (L:Lg) (v' vp':Value) (d':Dk) (ps:List Nat) (w':World):Prop where
 disk:DiskAt w' gd v' d'
 log:LogIs w' g gd ve vl vp' vs { L with put:=ps }
 fr:Fr (bothS g gd v ve vl vp vs) w w'
 sub:Sub w (bothS g gd v ve vl vp vs) (bothS g gd v' ve vl vp' vs)
section
variable {w w1 w2:World} {g gd:Nat} {v v1 v2 ve vl vp vp1 vp2:Value} {vs:List Value} {L:Lg} {d1 d2:Dk} {ps ps2:List Nat}
theorem Wk.put (h:Wk w g gd v ve vl vp vs L v1 vp1 d1 ps w1) (hd:DiskAt w2 gd v2 d2) (hf:Fr (dkS gd v1) w1 w2) (hm:Moved w1 v1 v2) (hsz:w.heap.size≤w1.heap.size):Wk w g gd v ve vl vp vs L v2 vp1 d2 ps w2:=by
 refine⟨hd,h.log.fr hf (fun k hk=>h.log.apartDisk h.disk k hk) h.disk.noBytes,Fr.sub h.fr (hf.weak fun k _ hk=>(.inl hk:bothS g gd v1 ve vl vp1 vs k)) h.sub,h.sub.trans (fun k hk=>?_) hsz⟩
 rcases hk with (hk|hk)|hk
 ·exact .inl (.inl (.inl hk))
 ·exact (hm k hk).imp (fun h=>.inl (.inr h)) id
 ·exact .inl (.inr hk)
theorem Wk.below (h:Wk w g gd v ve vl vp vs L v1 vp1 d1 ps w1) (hb:Below w1.heap.size w1 w2):Wk w g gd v ve vl vp vs L v1 vp1 d1 ps w2:=
 ⟨h.disk.below hb,h.log.below hb,h.fr.trans (Fr.ofBelow hb),h.sub⟩
theorem Wk.marks (h:Wk w g gd v ve vl vp vs L v1 vp1 d1 ps w1) (hl:LogIs w2 g gd ve vl vp2 vs { L with put:=ps2 }) (hf:Fr (LogS g ve vl vp1 vs) w1 w2) (hs:Sub w1 (LogS g ve vl vp1 vs) (LogS g ve vl vp2 vs)) (hsz:w.heap.size≤w1.heap.size):Wk w g gd v ve vl vp vs L v1 vp2 d1 ps2 w2:=by
 refine⟨h.disk.fr hf fun k hk hS=>h.log.apartDisk h.disk k hS hk,hl,Fr.sub h.fr (hf.weak fun k _ hk=>(.inr hk:bothS g gd v1 ve vl vp1 vs k)) h.sub,h.sub.trans (fun k hk=>?_) hsz⟩
 rcases hk with hk|hk
 ·exact .inl (.inl hk)
 ·exact (hs k hk).imp (fun h=>.inr h) id
end
def writePost (w:World) (g gd:Nat) (v ve vl vp:Value) (vs:List Value) (d:Dk) (L:Lg) (t:Int) (n:Nat) (row:List (List UInt8)) (e:Ending) (w':World):Prop:=
 ∃ p1 q,p1=L.put++List.replicate (n+1-L.put.length) 0∧q=writeJ t row (p1.getD n 0 / 4) d∧∃ v' vp',Wk w g gd v ve vl vp vs L v' vp' q.1 (p1.set n q.2.1) w'∧
  ((q.2.2=none∧e=.returned .nilIface)∨∃ p r u m,q.2.2=some p∧e=.returned (.iface 153 (.pointer (some ⟨r,0,none⟩)))∧w.heap.size≤r∧w.heap.size≤u∧w'.heap[u]?=some (.cells #[.int .i64 m] 366 (0,0))∧
   w'.heap[r]?=some (.cells #[.string p,.iface 152 (.pointer (some ⟨u,0,none⟩))] 155 (0,0)))
theorem wr_k4 (j len k:Nat) (hk:k=min 4 (len-4*j)) (h:4*j<len):4*min (j+1) (len / 4)=if k=4 then 4*j+4 else 4*min j (len / 4):=by split <;> omega
theorem int_eq4 (k:Nat):((k:Int) == 4)=decide (k=4):=by rw[Bool.eq_iff_iff];simp;omega
theorem wr_sum (j len k:Nat) (hl:len≤1048576) (hk:k=min 4 (len-4*j)) (h:4*j<len):wrap64 (4*(j:Int)+(k:Int))=4*(j:Int)+(k:Int):=by unfold wrap64;omega
theorem wr_lt {a b j j0 len:Nat} (h:a≤b+(j-j0)) (hb:b<1000000000000) (hj:4*j<len) (hl:len≤1048576):a<1099511627776:=by omega
theorem wr_sum2 (j len k:Nat) (hl:len≤1048576) (hk:k=min 4 (len-4*j)) (h:4*j<len):IntKind.i64.wrap (4*(j:Int)+(k:Int))=4*(j:Int)+(k:Int):=by rw[IntKind.wrap_i64];omega
theorem putD_bd (d:Dk) (p b:ByteArray):(putD d p b).calls=d.calls+1∧(putD d p b).files.length≤d.files.length+1:=by
 unfold putD
 split
 ·exact⟨enterD_calls d,by show (enterD d).files.length≤_;rw[enterD_files];omega⟩
 ·refine⟨(swapD_hit d p b).2.2.2,?_⟩
  rw[swapD_files]
  split
  ·exact (putF_len _ _ _).2
  ·omega
theorem wr_more {a a' b j j0:Nat} (h:a≤b+(j-j0)) (h':a'≤a+1) (hj:j0≤j):a'≤b+(j+1-j0):=by omega
theorem wr_meas {len j gk:Nat} (hj:4*j<len):len+4-4*(j+1)<len+4-4*j:=by omega
theorem puts_map (ps:List Nat) (x:Nat):(ps ++ [x]).map (fun (n:Nat)=>Value.int .i64 (n:Int))=ps.map (fun (n:Nat)=>Value.int .i64 (n:Int)) ++ [.int .i64 (x:Int)]:=by simp
theorem write_any (f:Nat→Addr) (w:World) (g gd:Nat) (v ve vl vp:Value) (vs:List Value) (d:Dk) (L:Lg) (h:LogIs w g gd ve vl vp vs L) (hD:DiskAt w gd v d) (hE:EnvS f (bothS g gd v ve vl vp vs) w) (t:Int) (n:Nat) (ht:t+1=n) (hn:n≤1048576) (hpl:L.put.length≤1048576)
  (row:List (List UInt8)) (hrow:row.length≤1048576) (hmark:∀ a,L.put[n]?=some a→a%4=0∧a≤row.length) (hshort:∀ x∈row,x.length≤64) (hc:d.calls<1000000000000) (hfl:d.files.length<1000000000000)
  (F:FuncId) (gc:Nat) (hen:∀ args w,(callFunc F args).run prog w=.ok (.enter F args) w)
  (hF:∀ (w1:World) (vp1:Value) (ps:List Nat),LogIs w1 g gd ve vl vp1 vs { L with put:=ps }→Fr (bothS g gd v ve vl vp vs) w w1→∀ j,4*j<row.length→
   Calls prog F #[.int .i64 (4*(j:Int)),.int .i64 (4*(j:Int)+((min 4 (row.length-4*j):Nat):Int)),.pointer (some ⟨gc,0,none⟩)] w1 fun e w2=>∃ vb,e=.returned vb∧BytesAt w2 vb ((row.drop (4*j)).take 4).flatten∧Below w1.heap.size w1 w2) :
  Calls prog 77 #[.pointer (some ⟨g,0,none⟩),.int .i64 t,.int .i64 row.length,.func (.func F) #[] #[.pointer (some ⟨gc,0,none⟩)]] w (writePost w g gd v ve vl vp vs d L t n row):=by
 have HE:=zh hE
 have HF:=zh hF
 have HM:=zh hmark
 have HSH:=zh hshort
 have hg:=lt_of_heap h.cells
 have HW0:=zh (⟨hD,h,Fr.refl _ _,Sub.refl _ _⟩:Wk w g gd v ve vl vp vs L v vp d L.put w)
 have htw:wrap64 (t+1)=(n:Int):=by rw[ht];unfold wrap64;omega
 have HT:=zh ht
 clear h hD hE hF hmark hshort ht
 obtain⟨i0,hi0,hz0,hs0,hby0⟩:=info_intE
 have HI:=zh (⟨hi0,hz0,hs0,hby0⟩:_∧_∧_∧_)
 clear hi0 hz0 hs0 hby0
 go_enter func77,ntmps77
 go_wp2_with fail
 go_loopg [] (n+2) (fun gg wr=>∃ (k:Nat) (vp1:Value),k≤n+1-L.put.length∧n+2-k≤gg∧Aside (Wk w g gd v ve vl vp vs L v vp1 d (L.put++List.replicate k 0) wr)∧w.heap.size≤wr.heap.size)
 case atStart=>
  refine⟨0,vp,Nat.zero_le _,by omega,?_,Nat.le_refl _⟩
  show Wk _ _ _ _ _ _ _ _ _ _ _ _ _ _
  rw[List.replicate_zero,List.append_nil]
  exact HW0.o
 case round=>
  obtain⟨k,vp1,hk,hgg,HW1,hsw⟩:=hrel
  have hd1:=HW1.o.log.heads
  have c4:=hd1.1.2.2.2.2.1
  have f4:=hd1.2 4
  have hg1:=lt_of_heap HW1.o.log.cells
  obtain⟨a1,cp1,rfl⟩:=own_any HW1.o.log.puts
  obtain⟨np,hnp⟩:∃ np,np=({ L with put:=L.put++List.replicate k 0 }:Lg).put.length:=⟨_,rfl⟩
  have hnp2:np=L.put.length+k:=by rw[hnp];simp
  have hrow1:=HW1.o.log.puts
  rw[←hnp] at c4 hrow1
  have hne:¬ (Value.slice a1 np cp1).ownBlock=some g:=fun e=>by
   obtain⟨C,hC⟩:=ownBlock_type hrow1 e
   exact heap_ne HW1.o.log.cells hC (by decide) rfl
  have HNP:=zh hnp
  have HROW1:=zh hrow1
  have HNE:=zh hne
  have HNP2:=zh hnp2
  clear hd1 hnp hrow1 hne
  by_cases hlt:np≤n
  ·have hltz:(np:Int)≤(n:Int):=by omega
   have hnb:np+1≤1099511627776:=by omega
   clear hnp2
   go_wp2_with (at_builtin;refine wpList_appM rfl _ _ _ rfl 0 3 i0 _ 1 8 underlying23 HI.o.1 HI.o.2.1 HI.o.2.2.1 HI.o.2.2.2 rfl (by decide) (by decide) (.slice a1 np cp1) np _ (by rfl) (ownsRow_below HROW1.o (below_alloc wr (.cells #[.int .i64 0] 3))) ⟨wr.heap.size,0,none⟩ 1 1 [.int .i64 0] rfl rfl (cell_one_new _ _ _) (by simp[Value.oneCell']) (by decide) hnb (Nat.zero_le _) ?_;intro v' w' h2 h3 h4 h5;obtain⟨gb,cpb,rfl,hgb⟩:=own_slice h2 h5;have H2:=zh h2;have H3:=zh ((Fr.ofBelow (S:=fun k=>(Value.slice a1 np cp1).ownBlock=some k) (below_alloc wr (.cells #[.int .i64 0] 3))).trans (Fr.ofGrown h3 fun k _ e=>e));have H4:=zh ((Moved.refl wr (.slice a1 np cp1)).trans h4 (by simp));go_must (have k3:=H3.o.cell c4 HNE.o;have k4:=(H3.o.frozen (p:=⟨g,4,none⟩) hg1 HNE.o).trans f4;clear h2 h3 h4 h5))
   go_roundg (n+2-(k+1))
   case measure=>omega
   case rel=>
    have hp:=HW1.o.log.setPuts (ps:=L.put++List.replicate (k+1) 0) (vp':=.slice (some ⟨gb,0,none⟩) (np+1) cpb) (by rw[←HNP.o];exact H3.o) (by
     have e:L.put++List.replicate (k+1) 0=L.put++List.replicate k 0 ++ [0]:=by rw[List.append_assoc,List.replicate_succ']
     rw[e,puts_map]
     have e2:(L.put++List.replicate k 0 ++ [0]).length=np+1:=by have:=HNP2.o;simp only[List.length_append,List.length_replicate,List.length_cons,List.length_nil];omega
     rw[e2]
     exact H2.o) (by rw[←HNP.o];exact H4.o)
    exact⟨k+1,.slice (some ⟨gb,0,none⟩) (np+1) cpb,by have:=HNP2.o;omega,by omega,HW1.o.marks hp.1 hp.2.1 hp.2.2 hsw,by have:=hp.2.1.size;omega⟩
  ·have hltz:¬ (np:Int)≤(n:Int):=by omega
   have hkk:k=n+1-L.put.length:=by omega
   obtain⟨p1,hp1⟩:∃ p1,p1=L.put++List.replicate k 0:=⟨_,rfl⟩
   have hpl1:p1.length=np:=by rw[hp1,HNP.o]
   obtain⟨a,ha⟩:∃ a,p1[n]?=some a:=⟨_,List.getElem?_eq_getElem (by omega)⟩
   have ham:a%4=0∧a≤row.length:=by
    rw[hp1] at ha
    by_cases hl:n<L.put.length
    ·rw[List.getElem?_append_left hl] at ha
     exact HM.o a ha
    ·rw[List.getElem?_append_right (by omega),List.getElem?_replicate] at ha
     split at ha
     ·cases ha;exact⟨rfl,by omega⟩
     ·cases ha
   obtain⟨bp,rfl⟩:∃ bp,a1=some ⟨bp,0,none⟩:=by
    rcases HROW1.o.2 with ⟨e,h0⟩|⟨b,cap,cur,e,_⟩
    ·omega
    ·simp at e;exact⟨b,e.1⟩
   have cbp:wr.cell? ⟨bp,n,none⟩=some (.int .i64 (a:Int)):=by
    have h1:=HROW1.o.cells (g:=bp) rfl n (.int .i64 (a:Int)) (by show ((L.put++List.replicate k 0).map _)[n]?=_;rw[←hp1,List.getElem?_map,ha];rfl)
    rw[Addr.add_lit] at h1
    simpa using h1
   obtain⟨j0,hj0⟩:∃ j0,j0=a / 4:=⟨_,rfl⟩
   have haj:a=4*j0:=by omega
   have hset:p1.set n (4*min j0 (row.length / 4))=p1:=by
    have e:4*min j0 (row.length / 4)=a:=by omega
    rw[e]
    obtain⟨hlt',he⟩:=List.getElem?_eq_some_iff.1 ha
    rw[←he]
    exact List.set_getElem_self hlt'
   have hgetD:p1.getD n 0 / 4=j0:=by rw[List.getD_eq_getElem?_getD,ha];exact hj0.symm
   have hnz:(n:Int)<(np:Int):=by omega
   have hn0:(0:Int)≤(n:Int):=by omega
   have cbp':wr.cell? ⟨bp,n,none⟩=some (.int .i64 (4*(j0:Int))):=by rw[cbp,haj];congr 2
   have HSET:=zh hset
   have HGET:=zh hgetD
   have HKK:=zh hkk
   have HP1:=zh hp1
   have HPL1:=zh hpl1
   have hjr:4*j0≤row.length:=by omega
   clear hset hgetD hkk hp1 hpl1 ha cbp haj hj0 ham hnp2
   go_wp2_with fail
   go_loopg [10] (row.length+4) (fun gg s10 wx=>∃ j:Nat,j0≤j∧4*j<row.length+4∧row.length+4-4*j≤gg∧s10=.int .i64 (4*(j:Int))∧∃ v1 d1,Aside (Wk w g gd v ve vl vp vs L v1 (.slice (some ⟨bp,0,none⟩) p1.length cp1) d1 (p1.set n (4*min j (row.length / 4))) wx)∧
    Aside (writeJ t row j0 d=writeJ t row j d1)∧d1.calls≤d.calls+(j-j0)∧d1.files.length≤d.files.length+(j-j0)∧w.heap.size≤wx.heap.size)
   case atStart=>
    refine⟨j0,Nat.le_refl _,by omega,by omega,rfl,v,d,?_,rfl,by omega,by omega,hsw⟩
    show Wk _ _ _ _ _ _ _ _ _ _ _ _ _ _
    rw[HSET.o,HPL1.o,HP1.o,HNP.o]
    exact HW1.o
   case round=>
    obtain⟨j,hj0,hj4,hg2,rfl,v1,d1,HW2,HJ,hdc,hdf,hsx⟩:=hrel
    by_cases hlt2:4*j<row.length
    ·have hltz2:4*(j:Int)<(row.length:Int):=by omega
     have hq4:4*(j:Int) / 4=(j:Int):=by omega
     obtain⟨k',hk'⟩:∃ k',k'=min 4 (row.length-4*j):=⟨_,rfl⟩
     obtain⟨p,hp⟩:∃ p,p=(fileOf t row j).1:=⟨_,rfl⟩
     have hcon:=fat_any t j row.length wr hlt2 (by omega) (HE.o.step HW2.o.fr HW2.o.sub).num
     rw[show sOf (nameOf t (j:Int) ((min 4 (row.length-4*j):Nat):Int))=p from hp.symm,←hk'] at hcon
     have hwr:=wr_sum j row.length k' hrow hk' hlt2
     have hwr2:IntKind.i64.wrap (4*(j:Int)+(k':Int))=4*(j:Int)+(k':Int):=wr_sum2 j row.length k' hrow hk' hlt2
     have hk4:=wr_k4 j row.length k' hk' hlt2
     have hkb:k'≤4:=hk' ▸ Nat.min_le_left _ _
     obtain⟨ck,hck,hck2⟩:∃ ck,((k':Int) == 4)=ck∧ck=decide (k'=4):=⟨_,rfl,int_eq4 k'⟩
     have HK:=zh hk'
     have HP:=zh hp
     have HK4:=zh hk4
     have HCK:=zh hck2
     have hc1:d1.calls<1099511627776:=wr_lt hdc hc hlt2 hrow
     have hf1:d1.files.length<1099511627776:=wr_lt hdf hfl hlt2 hrow
     clear hk' hp hk4 hck2
     go_wp2_with (go_at_call 123;refine hcon.mono ?_;rintro e w3 ⟨rfl,hb3⟩;have HW3:=zh (HW2.o.below hb3);have HB3:=zh hb3;have hd3:=HW3.o.log.heads;clear hb3)
     have c30:=hd3.1.1
     have hg3:=lt_of_heap HW3.o.log.cells
     clear hd3
     go_cut [13] from 54 to 67 (fun s13 wy=>∃ v2,Aside (Wk w g gd v ve vl vp vs L v2 (.slice (some ⟨bp,0,none⟩) p1.length cp1) (putD d1 p (fileOf t row j).2) (p1.set n (4*min j (row.length / 4))) wy)∧Aside (∃ bs,w.heap.size≤bs∧MayErr wy bs (badPut d1 (fileOf t row j)) s13)∧w.heap.size≤wy.heap.size)
     case first=>
      go_region_law (first|(go_simp;have hcF:=HF.o _ _ _ (HW3.o.below (below_drew w3)).log (HW3.o.below (below_drew w3)).fr j hlt2;rw[←HK.o] at hcF;refine hcF.mono ?_;rintro e w4 ⟨vb,rfl,hvb,hb4⟩;have HVB:=zh hvb;have HW4:=zh ((HW3.o.below (below_drew w3)).below hb4);have HB4:=zh hb4;have c40:=(hb4.cell (p:=⟨g,0,none⟩) hg3).trans c30;have hg4:g<w4.heap.size:=Nat.lt_of_lt_of_le hg3 hb4.size;clear hb4 hvb)|(go_simp;go_invoke;go_simp;go_at_call 250;refine (put_any w4 gd v1 d1 HW4.o.disk p vb _ HVB.o hc1 hf1).mono ?_;rintro e w5 ⟨u,rfl,hme,v2,hd5,hf5,hm5⟩;have HME:=zh hme;have HW5:=zh (HW4.o.put hd5 hf5 hm5 (by have:=HW3.o.fr.size;have:=HB4.o.size;exact Nat.le_trans ‹w.heap.size≤w3.heap.size› this));have HF5:=zh hf5;clear hme hd5 hf5 hm5))
      all_goals (
       go_wp2_with fail
       go_meet
       have hw34:w.heap.size≤w4.heap.size:=by have:=HW4.o.fr.size;exact this
       refine⟨v2,HW5.o,⟨w4.heap.size,hw34,?_⟩,Nat.le_trans hw34 HF5.o.size⟩
       unfold badPut
       rw[←HP.o]
       exact HME.o)
     case rest=>
      obtain⟨v2,HW6,HME6,hwc⟩:=hcut
      have HME7:=HME6.o
      clear HME6
      obtain⟨bs,hbs,HME7⟩:=HME7
      cases hbad:badPut d1 (fileOf t row j) with
      | true=>
       rw[hbad] at HME7
       have HBAD:=zh hbad
       obtain⟨q,nn,rfl,hq,hh⟩:OwnErr wc bs u13:=HME7
       have HH:=zh hh
       have hnn:=neq_nil wc 152 (.pointer (some ⟨q,0,none⟩))
       clear hbad hh
       go_wp2_with (go_at_call 65;refine (at_any _ _ _ _).mono ?_;rintro e w7 ⟨u,rfl,⟨r,rfl,hr,hhr⟩,hb7⟩;have HR:=zh hhr;have HB7:=zh hb7;clear hhr hb7)
       go_ret
       have hw:=writeJ_bad t row j d1 hlt2 HBAD.o
       refine⟨p1,writeJ t row j0 d,?_,?_,v2,.slice (some ⟨bp,0,none⟩) p1.length cp1,?_,.inr ⟨p,r,q,nn,?_,rfl,Nat.le_trans hwc hr,Nat.le_trans hbs hq,(HB7.o.block _ (lt_of_heap HH.o)).trans HH.o,HR.o⟩⟩
       ·rw[HP1.o,HKK.o]
       ·rw[HGET.o]
       ·rw[HJ.o,hw,←HP.o]
        exact HW6.o.below HB7.o
       ·rw[HJ.o,hw,←HP.o]
      | false=>
       rw[hbad] at HME7
       have hu13:u13=.nilIface:=HME7
       subst hu13
       have hnn:=neq_nils wc
       have hstep:=writeJ_step t row j d1 hlt2 hbad
       rw[←HP.o] at hstep
       have HSTEP:=zh hstep
       have hpd:=putD_bd d1 p (fileOf t row j).2
       have HPD:=zh hpd
       have hlp:wc.ownsRow 0 3 1 (.slice (some ⟨bp,0,none⟩) p1.length cp1) p1.length ((p1.set n (4*min j (row.length / 4))).map fun (n:Nat)=>.int .i64 (n:Int)):=by
        have h1:=HW6.o.log.puts
        have e:({ L with put:=p1.set n (4*min j (row.length / 4)) }:Lg).put.length=p1.length:=List.length_set
        rw[e] at h1
        exact h1
       have hnp:n<p1.length:=by rw[HPL1.o];omega
       have hcel:wc.cell? ⟨bp,n,none⟩=some (.int .i64 ((4*min j (row.length / 4):Nat):Int)):=by
        have h1:=hlp.cells (g:=bp) rfl n (.int .i64 ((4*min j (row.length / 4):Nat):Int)) (by rw[List.getElem?_map,List.getElem?_set_self hnp];rfl)
        rw[Addr.add_lit] at h1
        simpa using h1
       obtain⟨C,hC⟩:=ownBlock_type hlp (k:=bp) rfl
       have hfz:=frozen_heap hC n
       have hbp:=lt_of_heap hC
       clear hbad hstep hpd HME7 hlp hC hnp
       cases ck with
       | true=>
        have hk44:k'=4:=by have:=HCK.o;simpa using this
        have HK44:=zh hk44
        clear hk44
        obtain⟨old,hold⟩:∃ old,old=((4*min j (row.length / 4):Nat):Int):=⟨_,rfl⟩
        rw[←hold] at hcel
        clear hold
        go_wp2_with fail
        go_roundg (row.length+4-4*(j+1))
        case measure=>exact Nat.lt_of_lt_of_le (wr_meas (gk:=0) hlt2) hg2
        case rel=>
         have hsp:=HW6.o.log.setPut (bp:=bp) (cp:=cp1) (by show _=Value.slice _ (p1.set n _).length _;rw[List.length_set]) n (4*j+k')
         have hxx:((4*j+k':Nat):Int)=4*(j:Int)+(k':Int):=by omega
         rw[hxx] at hsp
         have hmk:(p1.set n (4*min j (row.length / 4))).set n (4*j+k')=p1.set n (4*min (j+1) (row.length / 4)):=by
          rw[List.set_set,HK4.o,if_pos HK44.o,HK44.o]
         refine⟨j+1,Nat.le_succ_of_le hj0,by omega,Nat.le_refl _,by go_num,v2,putD d1 p (fileOf t row j).2,?_,?_,wr_more hdc (Nat.le_of_eq HPD.o.1) hj0,wr_more hdf HPD.o.2 hj0,?_⟩
         ·show Wk _ _ _ _ _ _ _ _ _ _ _ _ _ _
          rw[←hmk]
          exact HW6.o.marks hsp.1 hsp.2 (Sub.refl _ _) hwc
         ·show writeJ _ _ _ _=_
          rw[HJ.o,HSTEP.o]
         ·have:=hsp.2.size;exact Nat.le_trans hwc this
       | false=>
        have hk44:k'≠4:=by have:=HCK.o;simpa using this
        have HK44:=zh hk44
        clear hk44 hcel hfz hbp
        go_wp2_with fail
        go_roundg (row.length+4-4*(j+1))
        case measure=>exact Nat.lt_of_lt_of_le (wr_meas (gk:=0) hlt2) hg2
        case rel=>
         refine⟨j+1,Nat.le_succ_of_le hj0,by omega,Nat.le_refl _,by go_num,v2,putD d1 p (fileOf t row j).2,?_,?_,wr_more hdc (Nat.le_of_eq HPD.o.1) hj0,wr_more hdf HPD.o.2 hj0,hwc⟩
         ·show Wk _ _ _ _ _ _ _ _ _ _ _ _ _ _
          rw[HK4.o,if_neg HK44.o]
          exact HW6.o
         ·show writeJ _ _ _ _=_
          rw[HJ.o,HSTEP.o]
    ·have hltz2:¬ 4*(j:Int)<(row.length:Int):=by omega
     have hend:row.length≤4*j:=by omega
     have HEND:=zh hend
     clear hend
     go_wp2_with fail
     go_ret
     have hw:=writeJ_end t row j d1 HEND.o
     have hmin:4*min j (row.length / 4)=4*(row.length / 4):=by have:=HEND.o;omega
     refine⟨p1,writeJ t row j0 d,?_,?_,v1,.slice (some ⟨bp,0,none⟩) p1.length cp1,?_,.inl ⟨?_,rfl⟩⟩
     ·rw[HP1.o,HKK.o]
     ·rw[HGET.o]
     ·rw[HJ.o,hw,←hmin]
      exact HW2.o
     ·rw[HJ.o,hw]
end
section
theorem flat8_get:∀ (hs:List Hsh) (i:Nat) (x:Hsh),hs[i]?=some x→∀ c,(hc:c<8)→(hs.flatMap fun h=>(h8 h).toList)[i*8+c]?=some (u8 x[c])
 | [],i,x,h,c,hc=>by simp at h
 | a :: hs,0,x,h,c,hc=>by
   simp at h
   subst h
   rw[List.flatMap_cons,List.getElem?_append_left (by simp;omega)]
   simp[h8,hc]
 | a :: hs,i+1,x,h,c,hc=>by
   rw[List.flatMap_cons,List.getElem?_append_right (by simp;omega)]
   have:=flat8_get hs i x (by simpa using h) c hc
   rw[show (i+1)*8+c-(h8 a).toList.length=i*8+c by simp;omega]
   exact this
theorem hashes_cell {w:World} {g n c':Nat} {hs:List Hsh} (h:w.ownsRow 0 109 8 (.slice (some ⟨g,0,none⟩) n c') hs.length (hs.flatMap fun h=>(h8 h).toList)) {i:Nat} {x:Hsh} (hx:hs[i]?=some x) (c:Nat) (hc:c<8):w.cell? ⟨g,i*8+c,none⟩=some (u8 x[c]):=by
 have h1:=h.cells (g:=g) rfl (i*8+c) _ (flat8_get hs i x hx c hc)
 rw[Addr.add_lit] at h1
 simpa using h1
end
section
theorem roots_nil (m n:Nat) (whole:Option Hsh):roots m n whole []=if m=n then whole.map fun a=>(a,a) else none:=by simp[roots,rootsR]
theorem roots_snoc (m n:Nat) (whole:Option Hsh) (q:List Hsh) (r:Hsh):roots m n whole (q ++ [r])=if m=n then (match whole with|some _=>none|none=>if q = [] then some (r,r) else none)
   else if m≤below n then (roots m (below n) whole q).map fun x=>(x.1,nodeH x.2 r) else (roots (m-below n) (n-below n) none q).map fun x=>(nodeH r x.1,nodeH r x.2):=by
 unfold roots below
 rw[List.reverse_append]
 simp only[List.reverse_cons,List.reverse_nil,List.nil_append,List.singleton_append,rootsR]
 cases whole <;> simp
def WholeAt (w:World) (v:Value) (whole:Option Hsh):Prop:=(v=.pointer none∧whole=none)∨∃ g h,v=.pointer (some ⟨g,0,none⟩)∧whole=some h∧hashOf w g h
def ExtendPost (m n:Nat) (whole:Option Hsh) (p:List Hsh) (w:World) (e:Ending) (w':World):Prop:=
 ∃ x y:Hsh,e=.returned (.tuple #[.agg (h8 x),.agg (h8 y),.bool (roots m n whole p).isSome])∧(∀ z,roots m n whole p=some z→(x,y)=z)∧Below w.heap.size w w'
theorem hashOf_cell {w:World} {g:Nat} {h:Hsh} (hh:hashOf w g h) (j:Nat) (hj:j<8):w.cell? ⟨g,j,none⟩=some (u8 h[j]):=by
 unfold hashOf at hh
 simp[World.cell?,hh,h8,hj]
theorem cell_setRow_ne {w:World} {g:Nat} {cs:Array Value} {b o:Nat} (h:b≠g):(w.setRow g cs).cell? ⟨b,o,none⟩=w.cell? ⟨b,o,none⟩:=cell_setRow_other w g cs ⟨b,o,none⟩ h
section
attribute [local go_sem] h8_0 h8_1 h8_2 h8_3 h8_4 h8_5 h8_6 h8_7 h8_fold h8_size cell_setRow_ne run_store8
theorem roots_whole (m:Nat) (a:Hsh) (p:List Hsh):roots m m (some a) p=if p.length=0 then some (a,a) else none:=by
 rcases List.eq_nil_or_concat p with rfl|⟨q,r,rfl⟩
 ·simp[roots_nil]
 ·rw[List.concat_eq_append] at *
  rw[roots_snoc,if_pos rfl];simp
theorem roots_one (m:Nat) (r:Hsh):roots m m none [r]=some (r,r):=by
 have:=roots_snoc m m none [] r
 simpa using this
theorem roots_other (m:Nat) (p:List Hsh) (h:p.length≠1):roots m m none p=none:=by
 rcases List.eq_nil_or_concat p with rfl|⟨q,r,rfl⟩
 ·simp[roots_nil]
 ·rw[List.concat_eq_append] at *
  rw[roots_snoc,if_pos rfl]
  have:q≠[]:=by intro e;subst e;simp at h
  simp[this]
theorem below2_ (w:World):Below w.heap.size w (((w.alloc (.cells zc 109)).alloc (.cells zc 109)).drew):=((below_alloc w _).alloc (by simp) _).drew
theorem slice_of {w:World} {v:Value} {p:List Hsh} (h:HashesAt w v p):∃ a c,v=.slice a p.length c:=by obtain⟨a,c,h1,_⟩:=h;exact⟨a,c,h1⟩
theorem extend_whole (m:Int) (g:Nat) (h:Hsh) (v:Value) (p:List Hsh) (w:World) (hp:HashesAt w v p) (hh:hashOf w g h) :
  Calls prog 144 #[.int .i64 m,.int .i64 m,v,.pointer (some ⟨g,0,none⟩)] w (ExtendPost m.toNat m.toNat (some h) p w):=by
 obtain⟨a,c,rfl⟩:=slice_of hp
 clear hp
 have c0:=hashOf_cell hh 0 (by decide)
 have c1:=hashOf_cell hh 1 (by decide)
 have c2:=hashOf_cell hh 2 (by decide)
 have c3:=hashOf_cell hh 3 (by decide)
 have c4:=hashOf_cell hh 4 (by decide)
 have c5:=hashOf_cell hh 5 (by decide)
 have c6:=hashOf_cell hh 6 (by decide)
 have c7:=hashOf_cell hh 7 (by decide)
 have hg:g<w.heap.size:=cell_lt c0
 have hg1:g<w.heap.size+1:=by omega
 have hn1:g≠w.heap.size:=by omega
 have hn2:g≠w.heap.size+1:=by omega
 have i1:Is8 (((w.alloc (.cells zc 109)).alloc (.cells zc 109)).drew) w.heap.size:=⟨zero8,hashOf_drew (hashOf_old (hashOf_zero' rfl) _)⟩
 have i2:Is8 (((w.alloc (.cells zc 109)).alloc (.cells zc 109)).drew) (w.heap.size+1):=⟨zero8,hashOf_drew (hashOf_zero' (by simp))⟩
 have i3:Is8 ((((w.alloc (.cells zc 109)).alloc (.cells zc 109)).drew).setRow w.heap.size (h8 h)) (w.heap.size+1):=⟨zero8,hashOf_other (hashOf_drew (hashOf_zero' (by simp))) _ (by omega)⟩
 have i4:Is8 ((((w.alloc (.cells zc 109)).alloc (.cells zc 109)).drew).setRow (w.heap.size+1) (h8 h)) w.heap.size:=⟨zero8,hashOf_other (hashOf_drew (hashOf_old (hashOf_zero' rfl) _)) _ (by omega)⟩
 have hl:((p.length:Int) == 0)=decide (p.length=0):=by
  rw[Bool.eq_iff_iff];simp
 have HL:=zh hl
 clear hl
 go_enter func144,ntmps144
 go_wp2_with fail
 go_region
 go_wp2
 refine ret88t w.heap.size (w.heap.size+1) h h (.bool ((p.length:Int) == 0)) rfl rfl rfl rfl _ underlying109 info8 (hashOf_other (hashOf_set' i1 _) _ (by omega)) (hashOf_set' i3 _) rfl ⟨h,h,?_,?_,below_setRow (below_setRow (below2_ w) (Nat.le_refl _) _) (by omega) _⟩
 ·rw[roots_whole,HL.o]
  by_cases h0:p.length=0 <;> simp[h0]
 ·intro z hz
  rw[roots_whole] at hz
  split at hz
  ·cases hz;rfl
  ·cases hz
theorem extend_one (m:Int) (r:Hsh) (v:Value) (w:World) (hp:HashesAt w v [r]) :
  Calls prog 144 #[.int .i64 m,.int .i64 m,v,.pointer none] w (ExtendPost m.toNat m.toNat none [r] w):=by
 obtain⟨a,c,rfl⟩:=slice_of hp
 obtain⟨g,off,rfl,hcap,hcell,_⟩:=hashes_init (q:=[]) (m:=0) hp rfl
 simp only[Nat.zero_mul,Nat.add_zero] at hcell
 have c0:w.cell? ⟨g,off,none⟩=some (u8 r[0]):=hcell 0 (by decide)
 have c1:=hcell 1 (by decide)
 have c2:=hcell 2 (by decide)
 have c3:=hcell 3 (by decide)
 have c4:=hcell 4 (by decide)
 have c5:=hcell 5 (by decide)
 have c6:=hcell 6 (by decide)
 have c7:=hcell 7 (by decide)
 have hg:g<w.heap.size:=cell_lt c0
 have hg1:g<w.heap.size+1:=by omega
 have hn1:g≠w.heap.size:=by omega
 have hn2:g≠w.heap.size+1:=by omega
 have i1:Is8 (((w.alloc (.cells zc 109)).alloc (.cells zc 109)).drew) w.heap.size:=⟨zero8,hashOf_drew (hashOf_old (hashOf_zero' rfl) _)⟩
 have i2:Is8 (((w.alloc (.cells zc 109)).alloc (.cells zc 109)).drew) (w.heap.size+1):=⟨zero8,hashOf_drew (hashOf_zero' (by simp))⟩
 have i3:Is8 ((((w.alloc (.cells zc 109)).alloc (.cells zc 109)).drew).setRow w.heap.size (h8 r)) (w.heap.size+1):=⟨zero8,hashOf_other (hashOf_drew (hashOf_zero' (by simp))) _ (by omega)⟩
 have i4:Is8 ((((w.alloc (.cells zc 109)).alloc (.cells zc 109)).drew).setRow (w.heap.size+1) (h8 r)) w.heap.size:=⟨zero8,hashOf_other (hashOf_drew (hashOf_old (hashOf_zero' rfl) _)) _ (by omega)⟩
 clear hcell hp
 go_enter func144,ntmps144
 go_wp2_with fail
 go_region
 go_wp2
 refine ret88t w.heap.size (w.heap.size+1) r r (.bool true) rfl rfl rfl rfl _ underlying109 info8 (hashOf_other (hashOf_set' i1 _) _ (by omega)) (hashOf_set' i3 _) rfl ⟨r,r,by rw[roots_one];rfl,?_,below_setRow (below_setRow (below2_ w) (Nat.le_refl _) _) (by omega) _⟩
 intro z hz
 rw[roots_one] at hz
 cases hz
 rfl
theorem extend_no (m n:Int) (pv:Value) (whole:Option Hsh) (v:Value) (p:List Hsh) (w:World) (hp:HashesAt w v p) (hw:WholeAt w pv whole) (hmn:m≤n) (hno:(m=n∧whole=none∧p.length≠1)∨(m≠n∧p = [])) (hm1:1≤m) :
  Calls prog 144 #[.int .i64 m,.int .i64 n,v,pv] w (ExtendPost m.toNat n.toNat whole p w):=by
 obtain⟨a,c,rfl⟩:=slice_of hp
 have hroots:roots m.toNat n.toNat whole p=none:=by
  rcases hno with ⟨rfl,rfl,h⟩|⟨h,rfl⟩
  ·exact roots_other _ _ h
  ·rw[roots_nil,if_neg (by omega)]
 have HR:=zh hroots
 clear hroots hp
 have fin:∀ (a:Act) ,a.tmps.getD 8 undef=.pointer (some ⟨w.heap.size,0,none⟩)→a.tmps.getD 9 undef=.pointer (some ⟨w.heap.size+1,0,none⟩)→a.tmps.getD 10 undef=.bool false→a.defers = []→
   bodyPost prog f144 (ExtendPost m.toNat n.toNat whole p w) .ret a (((w.alloc (.cells zc 109)).alloc (.cells zc 109)).drew):=fun a h1 h2 h3 h4=>
  ret88t w.heap.size (w.heap.size+1) zero8 zero8 (.bool false) rfl h1 h2 h3 _ underlying109 info8 (hashOf_drew (hashOf_old (hashOf_zero' rfl) _)) (hashOf_drew (hashOf_zero' (by simp))) h4
   ⟨zero8,zero8,by rw[HR.o];rfl,fun z hz=>(by rw[HR.o] at hz;cases hz),below2_ w⟩
 have FIN:=zh fin
 clear fin
 rcases hno with ⟨rfl,rfl,h⟩|⟨h,rfl⟩
 ·obtain rfl:pv=.pointer none:=by rcases hw with ⟨rfl,_⟩|⟨_,_,_,h,_⟩ <;> first|rfl|cases h
  have d1:((p.length:Int) == 1)=false:=by rw[beq_eq_false_iff_ne];omega
  go_enter func144,ntmps144
  go_wp2_with fail
  go_region
  go_wp2
  exact FIN.o _ rfl rfl rfl rfl
 ·have d1:(m == n)=false:=by rw[beq_eq_false_iff_ne];exact h
  clear hw
  go_enter func144,ntmps144
  go_wp2_with fail
  go_region
  go_wp2
  exact FIN.o _ rfl rfl rfl rfl
end
end
section
theorem sub_flat {es:List (List UInt8)} (i k:Nat) (hk:k≤4) (hk0:0<k) (hi:i<es.length) (hke:k=min 4 (es.length-i)) (hs:∀ e∈es,e.length≤20):bundleOf ((es.drop i).take k)=some (((es.map encE).drop i).take 4).flatten:=by
 have hl:((es.drop i).take k).length=k:=by rw[List.length_take,List.length_drop];omega
 rw[bundle_flat (by omega) (by omega) fun l hl=>hs l (List.mem_of_mem_drop (List.mem_of_mem_take hl)),List.map_take,List.map_drop]
 congr 2
 rcases Nat.lt_or_ge (es.length-i) 4 with h|h
 ·rw[List.take_of_length_le (i:=k) (by rw[List.length_drop,List.length_map];omega),List.take_of_length_le (i:=4) (by rw[List.length_drop,List.length_map];omega)]
 ·rw[show k=4 by omega]
theorem pub2_any (w:World) (g gd:Nat) (ve vl vp:Value) (vs:List Value) (L:Lg) (h:LogIs w g gd ve vl vp vs L) (pl:Nat) (hpl:w.cell? ⟨pl,0,none⟩=some (.pointer (some ⟨g,0,none⟩))) (j:Nat) (hj:4*j<L.entries.length) (hn:L.entries.length≤1048576) (hs:∀ e∈L.entries,e.length≤20) :
  Calls prog 78 #[.int .i64 (4*(j:Int)),.int .i64 (4*(j:Int)+((min 4 (L.entries.length-4*j):Nat):Int)),.pointer (some ⟨pl,0,none⟩)] w fun e w2=>∃ vb,e=.returned vb∧BytesAt w2 vb (((L.entries.map encE).drop (4*j)).take 4).flatten∧Below w.heap.size w w2:=by
 obtain⟨⟨_,_,c2,_,_,_⟩,_⟩:=h.heads
 obtain⟨vsr,hrow,hrb⟩:=h.ents
 obtain⟨b,cp,rfl,hcp⟩:∃ b cp,ve=.slice (some ⟨b,0,none⟩) L.entries.length cp∧L.entries.length≤cp:=by
  rcases hrow.2 with ⟨_,h0⟩|⟨b,cap,cur,e,_,_,hnc,_⟩
  ·omega
  ·exact⟨b,cap,e,hnc⟩
 obtain⟨k,hk⟩:∃ k,k=min 4 (L.entries.length-4*j):=⟨_,rfl⟩
 rw[←hk]
 have hvl:vsr.length=L.entries.length:=by simpa using hrow.1
 have hl:((L.entries.drop (4*j)).take k).length=k:=by rw[List.length_take,List.length_drop];omega
 have hb:BssAt w (.slice (some ⟨b,4*j,none⟩) k (cp-4*j)) ((L.entries.drop (4*j)).take k):=by
  refine⟨(vsr.drop (4*j)).take k,by rw[hl,List.length_take,List.length_drop];omega,⟨some ⟨b,4*j,none⟩,cp-4*j,by rw[hl],by rw[hl];omega,fun i x hx=>⟨b,4*j,rfl,?_⟩⟩,fun i u l hu hx=>?_⟩
  ·have hik:i<k:=by have:=(List.getElem?_eq_some_iff.1 hx).1;rw[List.length_take] at this;omega
   rw[List.getElem?_take_of_lt hik,List.getElem?_drop] at hx
   have h1:=hrow.cells (g:=b) rfl (4*j+i) x hx
   rw[Addr.add_lit] at h1
   simpa using h1
  ·have hik:i<k:=by have:=(List.getElem?_eq_some_iff.1 hx).1;rw[hl] at this;exact this
   rw[List.getElem?_take_of_lt hik,List.getElem?_drop] at hu hx
   exact (hrb (4*j+i) u l hu hx).at
 have hcon:=fbundle_any _ _ w hb (by rw[hl];omega)
 have hflat:=sub_flat (es:=L.entries) (4*j) k (by omega) (by omega) hj hk hs
 obtain⟨ln,hln⟩:∃ ln,ln=L.entries.length:=⟨_,rfl⟩
 rw[←hln] at c2 hcp hk hj
 have HFL:=zh hflat
 have hs1:(0:Int)≤4*(j:Int):=by omega
 have hs2:4*(j:Int)≤4*(j:Int)+(k:Int):=by omega
 have hs3:4*(j:Int)+(k:Int)≤(cp:Int):=by omega
 have ht1:(4*(j:Int)).toNat=4*j:=by omega
 have ht2:(4*(j:Int)+(k:Int)).toNat=4*j+k:=by omega
 have ht3:4*j+k-4*j=k:=by omega
 have ht4:¬ cp=4*j:=by omega
 have HCON:=zh hcon
 clear h hrow hrb hvl hl hb hcon hflat hk hln hj
 go_enter func78,ntmps78
 go_wp2_with fail
 refine HCON.o.mono ?_
 rintro e w2 ⟨v',rfl,hb2,h2⟩
 have HB2:=zh hb2
 have H2:=zh h2
 clear hb2 h2
 go_wp2_with fail
 go_ret
 rcases H2.o with ⟨h3,_⟩|⟨l,h3,ho,_⟩
 ·rw[HFL.o] at h3;cases h3
 ·rw[HFL.o] at h3
  cases h3
  exact⟨_,rfl,ho.at,HB2.o⟩
theorem hash_bytes {w:World} {g:Nat} {x:Hsh} (h:hashOf w g x):BytesAt w (.slice (some ⟨g,0,none⟩) 8 8) x.toList:=by
 unfold BytesAt
 refine⟨_,8,by simp,by simp,fun j y hy=>⟨g,0,rfl,?_⟩⟩
 have hj:j<8:=by have:=(List.getElem?_eq_some_iff.1 hy).1;simpa using this
 rw[show (x.toList.map u8)[j]?=some (u8 x[j]) by simp[hj]] at hy
 cases hy
 rw[Nat.zero_add]
 exact hashOf_cell h j hj
theorem h8_zip' (y:Hsh):Array.foldl (fun (cs:Array Value) (x:Value×Nat)=>cs.setIfInBounds x.snd x.fst) zc (h8 y).zipIdx 0 8=h8 y:=by
 rw[←h8_fold y]
 simp
section
attribute [local go_sem] h8_0 h8_1 h8_2 h8_3 h8_4 h8_5 h8_6 h8_7 h8_fold h8_size run_store8 h8_zip'
theorem pub3_any (w:World) (ph:Nat) (vh:Value) (hs:List Hsh) (hcell:w.cell? ⟨ph,0,none⟩=some vh) (hh:OwnHs w 0 vh hs) (j:Nat) (hj:4*j<hs.length) (hn:hs.length≤1048576) :
  Calls prog 80 #[.int .i64 (4*(j:Int)),.int .i64 (4*(j:Int)+((min 4 (hs.length-4*j):Nat):Int)),.pointer (some ⟨ph,0,none⟩)] w fun e w2=>∃ vb,e=.returned vb∧BytesAt w2 vb (((hs.map fun (h:Hsh)=>h.toList).drop (4*j)).take 4).flatten∧Below w.heap.size w w2:=by
 obtain⟨b,cp,rfl,hcp⟩:∃ b cp,vh=.slice (some ⟨b,0,none⟩) hs.length cp∧hs.length≤cp:=by
  rcases hh.2 with ⟨_,h0⟩|⟨b,cap,cur,e,_,_,hnc,_⟩
  ·omega
  ·exact⟨b,cap,e,hnc⟩
 obtain⟨k,hk⟩:∃ k,k=min 4 (hs.length-4*j):=⟨_,rfl⟩
 rw[←hk]
 obtain⟨ln,hln⟩:∃ ln,ln=hs.length:=⟨_,rfl⟩
 have HH:=zh hh
 rw[←hln] at hcell hcp hk hj
 have hs1:(0:Int)≤4*(j:Int):=by omega
 have hs2:4*(j:Int)≤4*(j:Int)+(k:Int):=by omega
 have hs3:4*(j:Int)+(k:Int)≤(cp:Int):=by omega
 have ht1:(4*(j:Int)).toNat=4*j:=by omega
 have ht2:(4*(j:Int)+(k:Int)).toNat=4*j+k:=by omega
 have ht3:4*j+k-4*j=k:=by omega
 have ht4:¬ cp=4*j:=by omega
 have hk4:k≤4:=by omega
 have HK:=zh hk
 have HLN:=zh hln
 have HJ:=zh hj
 obtain⟨i0,hi,hz0,hz1,hz2⟩:=info_parts info_u8
 have HI:=zh (⟨hi,hz0,hz1,hz2⟩:_∧_∧_∧_)
 clear hh hk hln hj hi hz0 hz1 hz2 hcp
 go_enter func80,ntmps80
 go_wp2_with fail
 go_loopg [5,13] k (fun gg s5 s13 wr=>∃ i:Nat,i≤k∧k-i≤gg∧s13=.int .i64 i∧∃ bs:List UInt8,Aside (bs=((hs.drop (4*j)).take i).flatMap fun (h:Hsh)=>h.toList)∧Aside (wr.ownsRow w.heap.size 5 1 s5 bs.length (bs.map u8))∧Aside (Below w.heap.size w wr))
 case atStart=>exact⟨0,by omega,by omega,rfl,[],rfl,World.ownsRow_nil _ _ _ _,Below.refl _ _⟩
 case round=>
  obtain⟨i,hi,hgg,rfl,bs,HBS,HR,HB⟩:=hrel
  by_cases hlt:i<k
  ·have hltz:(i:Int)<(k:Int):=by omega
   have hi0:(0:Int)≤(i:Int):=by omega
   obtain⟨x,hx⟩:∃ x,hs[4*j+i]?=some x:=⟨_,List.getElem?_eq_getElem (by have:=HK.o;have:=HLN.o;have:=HJ.o;omega)⟩
   have kc:∀ c (hc:c<8),wr.cell? ⟨b,4*j*8+i*8+c,none⟩=some (Go.Proofs.YtefccfakhgdfbabGreatDoor.u8 x[c]):=fun c hc=>by
    have h1:=hashes_cell HH.o hx c hc
    rw[show (4*j+i)*8+c=4*j*8+i*8+c by omega] at h1
    exact (HB.o.cell (p:=⟨b,4*j*8+i*8+c,none⟩) (cell_lt h1)).trans h1
   have k0:wr.cell? ⟨b,4*j*8+i*8,none⟩=some (Go.Proofs.YtefccfakhgdfbabGreatDoor.u8 x[0]):=kc 0 (by decide)
   have k1:wr.cell? ⟨b,4*j*8+i*8+1,none⟩=some (Go.Proofs.YtefccfakhgdfbabGreatDoor.u8 x[1]):=kc 1 (by decide)
   have k2:wr.cell? ⟨b,4*j*8+i*8+2,none⟩=some (Go.Proofs.YtefccfakhgdfbabGreatDoor.u8 x[2]):=kc 2 (by decide)
   have k3:wr.cell? ⟨b,4*j*8+i*8+3,none⟩=some (Go.Proofs.YtefccfakhgdfbabGreatDoor.u8 x[3]):=kc 3 (by decide)
   have k4:wr.cell? ⟨b,4*j*8+i*8+4,none⟩=some (Go.Proofs.YtefccfakhgdfbabGreatDoor.u8 x[4]):=kc 4 (by decide)
   have k5:wr.cell? ⟨b,4*j*8+i*8+5,none⟩=some (Go.Proofs.YtefccfakhgdfbabGreatDoor.u8 x[5]):=kc 5 (by decide)
   have k6:wr.cell? ⟨b,4*j*8+i*8+6,none⟩=some (Go.Proofs.YtefccfakhgdfbabGreatDoor.u8 x[6]):=kc 6 (by decide)
   have k7:wr.cell? ⟨b,4*j*8+i*8+7,none⟩=some (Go.Proofs.YtefccfakhgdfbabGreatDoor.u8 x[7]):=kc 7 (by decide)
   have HX:=zh hx
   have hin:Is8 (wr.alloc (.cells zc 109)) wr.heap.size:=Is8_zero rfl
   have hst:hashOf ((wr.alloc (.cells zc 109)).setRow wr.heap.size (h8 x)) wr.heap.size x:=hashOf_set' hin x
   have hbl:bs.length≤1099511627776:=by
    rw[HBS.o]
    have h1:=flatten_le (((hs.drop (4*j)).take i).map fun (h:Hsh)=>h.toList) 8 (fun y hy=>by obtain⟨z,_,rfl⟩:=List.mem_map.1 hy;simp)
    rw[←List.flatMap_def,List.length_map,List.length_take] at h1
    omega
   have hbw:Below wr.heap.size wr ((wr.alloc (.cells zc 109)).setRow wr.heap.size (h8 x)):=below_setRow (below_alloc wr _) (Nat.le_refl _) _
   have HST:=zh hst
   have HBW:=zh hbw
   have hsz:w.heap.size≤((wr.alloc (.cells zc 109)).setRow wr.heap.size (h8 x)).heap.size:=Nat.le_trans HB.o.size hbw.size
   have HSZ:=zh hsz
   have HRW:=zh (ownsRow_below HR.o hbw)
   clear hx kc hst hbw hsz
   go_wp2_with (at_builtin;refine wpList_appB rfl _ _ 94 rfl w.heap.size i0 underlying94 HI.o.1 HI.o.2.1 HI.o.2.2.1 HI.o.2.2.2 _ bs.length (bs.map Go.Proofs.YtefccfakhgdfbabGreatDoor.u8) rfl HRW.o _ x.toList rfl (hash_bytes HST.o) hbl (by simp) HSZ.o ?_;intro v' w' h2 h3 h4;have H2:=zh h2;have H3:=zh h3;clear h2 h3 h4)
   go_roundg (k-(i+1))
   case measure=>omega
   case rel=>
    refine⟨i+1,by omega,by omega,by go_num,bs++x.toList,?_,?_,?_⟩
    ·show bs++x.toList=_
     rw[List.take_add_one,List.getElem?_drop,HX.o,HBS.o,List.flatMap_append]
     simp
    ·have h1:=H2.o
     rw[List.length_append,List.map_append]
     rw[show x.toList.length=8 by simp] at h1 ⊢
     exact h1
    ·exact (HB.o.trans (HBW.o.mono HB.o.size)).grown H3.o HSZ.o (fun k hk=>(HR.o.lt k hk).1)
  ·have hltz:¬ (i:Int)<(k:Int):=by omega
   have hik:i=k:=by omega
   have HIK:=zh hik
   clear hik
   go_wp2_with fail
   go_ret
   refine⟨_,rfl,?_,HB.o⟩
   have h1:=(ownsRow_bytes HR.o).at
   have e:bs=(((hs.map fun (h:Hsh)=>h.toList).drop (4*j)).take 4).flatten:=by
    have hl:(hs.drop (4*j)).length=ln-4*j:=by rw[List.length_drop,HLN.o]
    rw[HBS.o,HIK.o,←List.map_drop,←List.map_take,List.flatMap_def]
    congr 2
    rcases Nat.lt_or_ge (ln-4*j) 4 with h|h
    ·rw[List.take_of_length_le (i:=k) (by have:=HK.o;omega),List.take_of_length_le (i:=4) (by omega)]
    ·rw[show k=4 by have:=HK.o;omega]
   rw[←e]
   exact h1
end
end
section
theorem bothS_lt {w:World} {g gd:Nat} {v ve vl vp:Value} {vs:List Value} {L:Lg} {d:Dk} (h:LogIs w g gd ve vl vp vs L) (hD:DiskAt w gd v d) {k:Nat} (hk:bothS g gd v ve vl vp vs k):k<w.heap.size:=by
 rcases hk with (hk|hk)|hk
 ·rw[hk];exact hD.lt
 ·obtain⟨C,hC⟩:=ownBlock_type hD.2 hk
  exact lt_of_heap hC
 ·obtain⟨C,t,hC,_⟩:=h.kinds hk
  exact lt_of_heap hC
structure Pk (w:World) (B g gd:Nat) (v ve vl vp:Value) (vs:List Value) (L:Lg) (v' vp':Value) (d':Dk) (ps:List Nat) (w':World):Prop where
 disk:DiskAt w' gd v' d'
 log:LogIs w' g gd ve vl vp' vs { L with put:=ps }
 fr:Fr (bothS g gd v ve vl vp vs) w w'
 sub:∀ k,bothS g gd v' ve vl vp' vs k→bothS g gd v ve vl vp vs k∨B≤k
 lo:∀ k,bothS g gd v ve vl vp vs k→k<w.heap.size
 size:B≤w'.heap.size
 base:w.heap.size≤B
section
variable {w w1 w2:World} {B g gd:Nat} {v v1 v2 ve vl vp vp1 vp2:Value} {vs:List Value} {L:Lg} {d1 d2:Dk} {ps ps2:List Nat}
theorem Pk.o (h:Pk w B g gd v ve vl vp vs L v1 vp1 d1 ps w1) {b:Nat} (h1:w.heap.size≤b) (h2:b<B):¬ bothS g gd v1 ve vl vp1 vs b:=fun hk=>by
 rcases h.sub b hk with h3|h3
 ·have:=h.lo b h3;omega
 ·omega
theorem Pk.subw (h:Pk w B g gd v ve vl vp vs L v1 vp1 d1 ps w1):Sub w (bothS g gd v ve vl vp vs) (bothS g gd v1 ve vl vp1 vs):=fun k hk=>(h.sub k hk).imp id (Nat.le_trans h.base)
theorem Pk.write (h:Pk w B g gd v ve vl vp vs L v1 vp1 d1 ps w1) (k:Wk w1 g gd v1 ve vl vp1 vs { L with put:=ps } v2 vp2 d2 ps2 w2):Pk w B g gd v ve vl vp vs L v2 vp2 d2 ps2 w2 where
 disk:=k.disk
 log:=k.log
 fr:=Fr.sub h.fr k.fr h.subw
 sub i hi:=by
  rcases k.sub i hi with h1|h1
  ·exact h.sub i h1
  ·exact .inr (Nat.le_trans h.size h1)
 lo:=h.lo
 size:=Nat.le_trans h.size k.fr.size
 base:=h.base
theorem Pk.below (h:Pk w B g gd v ve vl vp vs L v1 vp1 d1 ps w1) (hb:Below w1.heap.size w1 w2):Pk w B g gd v ve vl vp vs L v1 vp1 d1 ps w2 where
 disk:=h.disk.below hb
 log:=h.log.below hb
 fr:=h.fr.trans (Fr.ofBelow hb)
 sub:=h.sub
 lo:=h.lo
 size:=Nat.le_trans h.size hb.size
 base:=h.base
theorem Pk.var (h:Pk w B g gd v ve vl vp vs L v1 vp1 d1 ps w1) {b:Nat} (h1:w.heap.size≤b) (h2:b<B) {C:Array Value} {t:TypeId} {fz:Nat×Nat} (hC:w1.heap[b]?=some (.cells C t fz)) (ht:t≠5) (hf:Fr (·=b) w1 w2):Pk w B g gd v ve vl vp vs L v1 vp1 d1 ps w2 where
 disk:=h.disk.fr hf fun k hk e=>h.o h1 h2 (e ▸ .inl hk)
 log:=h.log.fr hf (fun k hk e=>h.o h1 h2 (e ▸ .inr hk)) fun k C' fz' hk e=>by
  subst e
  rw[hC] at hk
  cases hk
  exact ht rfl
 fr:=h.fr.step hf fun k hk e=>by omega
 sub:=h.sub
 lo:=h.lo
 size:=Nat.le_trans h.size hf.size
 base:=h.base
theorem Pk.keeps (h:Pk w B g gd v ve vl vp vs L v1 vp1 d1 ps w1) (hf:Fr (bothS g gd v1 ve vl vp1 vs) w1 w2) {b:Nat} (h1:w.heap.size≤b) (h2:b<B) {o:Obj} (ho:w1.heap[b]?=some o):w2.heap[b]?=some o:=hf.heap ho (h.o h1 h2)
theorem Pk.wk (h:Pk w B g gd v ve vl vp vs L v1 vp1 d1 ps w1):Wk w1 g gd v1 ve vl vp1 vs { L with put:=ps } v1 vp1 d1 ps w1:=⟨h.disk,h.log,Fr.refl _ _,Sub.refl _ _⟩
end
section
variable (pe pn pl g:Nat) (u:FrameMode) (w:World)
theorem pub1_nil (he:w.cell? ⟨pe,0,none⟩=some .nilIface) :
  CallsD prog 76 #[.pointer (some ⟨pe,0,none⟩),.pointer (some ⟨pn,0,none⟩),.pointer (some ⟨pl,0,none⟩)] u w fun e u' w'=>u'=u∧(e=.returned (.tuple #[])∧w'=w):=by
 have hn:=neq_nils w
 go_enter_d func76,ntmps76
 go_wp2
 go_end0
 first|exact⟨rfl,rfl,rfl⟩|exact⟨rfl,rfl⟩|simp
theorem pub1_err {t:TypeId} {x y:Value} (he:w.cell? ⟨pe,0,none⟩=some (.iface t x)) (hl:w.cell? ⟨pl,0,none⟩=some (.pointer (some ⟨g,0,none⟩))) (hn:w.cell? ⟨pn,0,none⟩=some y) (hy:∃ n,y=.int .i64 n) (hnf:w.frozen? ⟨pn,0,none⟩=false) {b:Bool} (hg:w.cell? ⟨g,5,none⟩=some (.bool b)) (hgf:w.frozen? ⟨g,5,none⟩=false) (hgn:¬ g=pn) :
  CallsD prog 76 #[.pointer (some ⟨pe,0,none⟩),.pointer (some ⟨pn,0,none⟩),.pointer (some ⟨pl,0,none⟩)] u w fun e u' w'=>u'=u∧(e=.returned (.tuple #[])∧w'=(w.setCell ⟨pn,0,none⟩ (.int .i64 0)).setCell ⟨g,5,none⟩ (.bool true)):=by
 have hnn:=neq_nil w t x
 obtain⟨n,rfl⟩:=hy
 go_enter_d func76,ntmps76
 go_wp2
 go_end0
 first|exact⟨rfl,rfl,rfl⟩|exact⟨rfl,rfl⟩|simp
end
end
end Go.Proofs.YtefccfakhgdfbabGreatDoor
