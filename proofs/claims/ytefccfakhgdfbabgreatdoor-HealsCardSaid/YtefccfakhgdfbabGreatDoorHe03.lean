/- The walks of tileslaw.eights, plain.hashes. -/
import Derived.Test.YtefccfakhgdfbabGreatDoorHe02
import Derived.Laws.CopyOwn
import Derived.Great.BuildSlice
set_option linter.unusedVariables false
set_option linter.unusedSimpArgs false
open Go.RowKit Go.Proofs.Tryz
set_option maxRecDepth 100000
set_option maxHeartbeats 4000000
namespace Go.Proofs.YtefccfakhgdfbabGreatDoor
section
def kCp:List UInt8:=[99,104,101,99,107,112,111,105,110,116]
theorem nameOf_inj {l i w l' i' w':Int} (h:nameOk l i w) (h':nameOk l' i' w') (hi:i<9223372036854775808) (hi':i'<9223372036854775808) (e:nameOf l i w=nameOf l' i' w'):l=l'∧i=i'∧w=w':=by
 rw[nameOf_body h,nameOf_body h'] at e
 have a:=parseGo_name h hi
 have b:=parseGo_name h' hi'
 rw[e,b] at a
 simp only[Prod.mk.injEq] at a
 exact⟨a.1.symm,a.2.1.symm,a.2.2.1.symm⟩
theorem nameOf_cp (l i w:Int):nameOf l i w≠kCp:=by
 unfold nameOf
 split
 ·unfold nameBody
  split
  ·intro e;simp[kT,kCp] at e
  ·intro e;simp[kE,kCp] at e
 ·simp[kCp]
def fileOf (t:Int) (data:List (List UInt8)) (j:Nat):Fil:=(sOf (nameOf t j ((min 4 (data.length-4*j):Nat):Int)),sOf ((data.drop (4*j)).take 4).flatten)
def levelF (t:Int) (data:List (List UInt8)):List Fil:=(List.range ((data.length+3) / 4)).map (fileOf t data)
theorem levelF_len (t:Int) (data:List (List UInt8)):(levelF t data).length=(data.length+3) / 4:=by simp[levelF]
theorem levelF_get (t:Int) (data:List (List UInt8)) (j:Nat) (h:4*j<data.length):(levelF t data)[j]?=some (fileOf t data j):=by
 unfold levelF
 rw[List.getElem?_map,List.getElem?_range (by omega)]
 rfl
theorem levelF_drop (t:Int) (data:List (List UInt8)) (j:Nat) (h:4*j<data.length):(levelF t data).drop j=fileOf t data j :: (levelF t data).drop (j+1):=by
 have hl:j<(levelF t data).length:=by rw[levelF_len];omega
 rw[List.drop_eq_getElem_cons hl]
 congr 1
 have:=levelF_get t data j h
 rw[List.getElem?_eq_getElem hl] at this
 exact Option.some.inj this
theorem levelF_out (t:Int) (data:List (List UInt8)) (j:Nat) (h:data.length≤4*j):(levelF t data).drop j = []:=by
 apply List.drop_eq_nil_of_le
 rw[levelF_len]
 omega
def filesR:Int→List (List (List UInt8))→List Fil
 | _,[]=>[]
 | t,r :: rs=>levelF t r++filesR (t+1) rs
def rowsOf (es:List (List UInt8)):List (List (List UInt8)):=es.map encE :: (levels es).map fun r=>r.map fun (h:Hsh)=>h.toList
def filesP (es:List (List UInt8)):List Fil:=filesR (-1) (rowsOf es)
theorem filesR_mem {f:Fil}:∀ (rs:List (List (List UInt8))) (t:Int),f∈filesR t rs↔∃ (n:Nat) (r:List (List UInt8)) (j:Nat),rs[n]?=some r∧4*j<r.length∧f=fileOf (t+(n:Int)) r j
 | [],t=>by simp[filesR]
 | r :: rs,t=>by
   rw[filesR,List.mem_append,filesR_mem rs (t+1)]
   constructor
   ·rintro (h|⟨n,r',j,h1,h2,h3⟩)
    ·unfold levelF at h
     obtain⟨j,hj,rfl⟩:=List.mem_map.1 h
     rw[List.mem_range] at hj
     exact⟨0,r,j,rfl,by omega,by simp⟩
    ·exact⟨n+1,r',j,by simpa using h1,h2,by rw[h3];congr 1;omega⟩
   ·rintro ⟨n,r',j,h1,h2,h3⟩
    cases n with
    | zero=>
     simp at h1
     subst h1
     left
     rw[h3]
     unfold levelF
     exact List.mem_map.2 ⟨j,by rw[List.mem_range];omega,by simp⟩
    | succ n=>exact .inr ⟨n,r',j,by simpa using h1,h2,by rw[h3];congr 1;omega⟩
def Small (t:Int) (rs:List (List (List UInt8))):Prop:=-1≤t∧t+rs.length≤21∧∀ r∈rs,r.length<1099511627776
theorem fileOf_ok {t:Int} {rs:List (List (List UInt8))} (h:Small t rs) {n:Nat} {r:List (List UInt8)} {j:Nat} (hr:rs[n]?=some r) (hj:4*j<r.length) :
  nameOk (t+n) j ((min 4 (r.length-4*j):Nat):Int)∧(j:Int)<9223372036854775808:=by
 obtain⟨h1,h2,h3⟩:=h
 have hn:=(List.getElem?_eq_some_iff.1 hr).1
 have hl:=h3 r (List.mem_of_getElem? hr)
 unfold nameOk
 omega
theorem fileOf_inj {t:Int} {rs:List (List (List UInt8))} (h:Small t rs) {n n':Nat} {r r':List (List UInt8)} {j j':Nat} (hr:rs[n]?=some r) (hj:4*j<r.length) (hr':rs[n']?=some r') (hj':4*j'<r'.length)
  (e:(fileOf (t+n) r j).1=(fileOf (t+n') r' j').1):n=n'∧j=j':=by
 have a:=fileOf_ok h hr hj
 have b:=fileOf_ok h hr' hj'
 have:=nameOf_inj a.1 b.1 a.2 b.2 (sOf_inj e)
 omega
theorem filesR_one {t:Int} {rs:List (List (List UInt8))} (h:Small t rs) {p a b:ByteArray} (ha:(p,a)∈filesR t rs) (hb:(p,b)∈filesR t rs):a=b:=by
 obtain⟨n,r,j,h1,h2,h3⟩:=(filesR_mem rs t).1 ha
 obtain⟨n',r',j',k1,k2,k3⟩:=(filesR_mem rs t).1 hb
 have e:(fileOf (t+n) r j).1=(fileOf (t+n') r' j').1:=by rw[←h3,←k3]
 obtain⟨rfl,rfl⟩:=fileOf_inj h h1 h2 k1 k2 e
 rw[h1] at k1
 cases k1
 rw[←h3] at k3
 have:=congrArg Prod.snd k3
 exact this.symm
theorem filesR_cp {t:Int} {rs:List (List (List UInt8))} {f:Fil} (hm:f∈filesR t rs):f.1≠sOf kCp:=by
 obtain⟨n,r,j,h1,h2,rfl⟩:=(filesR_mem rs t).1 hm
 exact fun e=>nameOf_cp _ _ _ (sOf_inj e)
def badPut (d:Dk) (f:Fil):Bool:=clashF d.files f.1 f.2 || decide (0<enterK d)
def putsD:Dk→List Fil→Dk×Nat
 | d,[]=>(d,0)
 | d,f :: fs=>if badPut d f=true then (putD d f.1 f.2,0) else ((putsD (putD d f.1 f.2) fs).1,(putsD (putD d f.1 f.2) fs).2+1)
def writeJ (t:Int) (row:List (List UInt8)) (j:Nat) (d:Dk):Dk×Nat×Option ByteArray:=
 ((putsD d ((levelF t row).drop j)).1,4*min (j+(putsD d ((levelF t row).drop j)).2) (row.length / 4),((levelF t row)[j+(putsD d ((levelF t row).drop j)).2]?).map (·.1))
theorem writeJ_end (t:Int) (row:List (List UInt8)) (j:Nat) (d:Dk) (h:row.length≤4*j):writeJ t row j d=(d,4*(row.length / 4),none):=by
 unfold writeJ
 rw[levelF_out t row j h]
 simp only[putsD,Nat.add_zero]
 rw[List.getElem?_eq_none (by rw[levelF_len];omega),Nat.min_eq_right (by omega)]
 rfl
theorem writeJ_bad (t:Int) (row:List (List UInt8)) (j:Nat) (d:Dk) (h:4*j<row.length) (hb:badPut d (fileOf t row j)=true) :
  writeJ t row j d=(putD d (fileOf t row j).1 (fileOf t row j).2,4*min j (row.length / 4),some (fileOf t row j).1):=by
 unfold writeJ
 rw[levelF_drop t row j h]
 simp only[putsD,if_pos hb,Nat.add_zero]
 rw[levelF_get t row j h]
 rfl
theorem writeJ_step (t:Int) (row:List (List UInt8)) (j:Nat) (d:Dk) (h:4*j<row.length) (hb:badPut d (fileOf t row j)=false) :
  writeJ t row j d=writeJ t row (j+1) (putD d (fileOf t row j).1 (fileOf t row j).2):=by
 have hb':¬ badPut d (fileOf t row j)=true:=by simp[hb]
 unfold writeJ
 rw[levelF_drop t row j h]
 simp only[putsD,if_neg hb']
 generalize putsD (putD d (fileOf t row j).1 (fileOf t row j).2) ((levelF t row).drop (j+1))=q
 rw[show j+(q.2+1)=j+1+q.2 by omega]
def pubJ:Nat→List (List (List UInt8))→List Nat→Dk→Dk×List Nat×Option ByteArray
 | _,[],put,d=>(d,put,none)
 | n,r :: rs,put,d=>
   let p1:=put++List.replicate (n+1-put.length) 0
   let q:=writeJ ((n:Int)-1) r (p1.getD n 0 / 4) d
   match q.2.2 with
   | some p=>(q.1,p1.set n q.2.1,some p)
   | none=>pubJ (n+1) rs (p1.set n q.2.1) q.1
end
section
def Ext (W l l':List Fil):Prop:=∀ p,getF l' p=getF l p∨(getF l p=none∧∃ b,(p,b)∈W∧getF l' p=some b)
def NoClash (W l:List Fil):Prop:=∀ f∈W,clashF l f.1 f.2=false
def OneOf (W:List Fil):Prop:=∀ p a b,(p,a)∈W→(p,b)∈W→a=b
theorem Ext.refl (W l:List Fil):Ext W l l:=fun _=>.inl rfl
theorem Ext.trans {W a b c:List Fil} (h:Ext W a b) (k:Ext W b c):Ext W a c:=fun p=>by
 rcases k p with h1|⟨h1,x,h2,h3⟩
 ·rcases h p with h4|⟨h4,x,h5,h6⟩
  ·exact .inl (h1.trans h4)
  ·exact .inr ⟨h4,x,h5,h1.trans h6⟩
 ·rcases h p with h4|⟨h4,x,h5,h6⟩
  ·exact .inr ⟨h4.symm.trans h1,x,h2,h3⟩
  ·rw[h6] at h1;cases h1
theorem Ext.keeps {W a b:List Fil} (h:Ext W a b) {p x:ByteArray} (hp:getF a p=some x):getF b p=some x:=by
 rcases h p with h1|⟨h1,_⟩
 ·exact h1.trans hp
 ·rw[hp] at h1;cases h1
theorem clashF_false {l:List Fil} {p b:ByteArray}:clashF l p b=false↔getF l p=none∨getF l p=some b:=by
 unfold clashF
 cases getF l p with
 | none=>simp
 | some x=>simp
theorem NoClash.ext {W l l':List Fil} (h:NoClash W l) (ho:OneOf W) (he:Ext W l l'):NoClash W l':=by
 intro f hf
 rw[clashF_false]
 rcases he f.1 with h1|⟨h1,b,h2,h3⟩
 ·rw[h1];exact clashF_false.1 (h f hf)
 ·right;rw[h3,ho f.1 b f.2 h2 hf]
theorem ext_put {W l:List Fil} {f:Fil} (hf:f∈W) (hn:NoClash W l):Ext W l (putF l f.1 f.2):=by
 intro p
 rw[getF_put]
 split
 ·rename_i h
  subst h
  rcases clashF_false.1 (hn f hf) with h1|h1
  ·exact .inr ⟨h1,f.2,hf,rfl⟩
  ·exact .inl h1.symm
 ·exact .inl rfl
theorem mem_put {l:List Fil} {p b:ByteArray} {f:Fil} (h:f∈putF l p b):f∈l∨f=(p,b):=by
 unfold putF at h
 split at h
 ·rcases List.mem_or_eq_of_mem_set h with h1|h1
  ·exact .inl h1
  ·exact .inr h1
 ·rcases List.mem_append.1 h with h1|h1
  ·exact .inl h1
  ·exact .inr (by simpa using h1)
structure Fresh (d:Dk):Prop where
 dead:d.dead=false
 hit:d.hit=false
 turned:d.turned=false
 once:Once d.files
structure Stretch (W:List Fil) (k:Nat) (d d':Dk):Prop where
 ext:Ext W d.files d'.files
 once:Once d'.files
 turned:d'.turned=false
 mem:∀ f∈d'.files,f∈d.files∨f∈W
 len:d'.files.length≤d.files.length+k
 calls:d'.calls≤d.calls+k
theorem Stretch.refl (W:List Fil) {d:Dk} (h:Fresh d):Stretch W 0 d d:=⟨Ext.refl W _,h.once,h.turned,fun f hf=>.inl hf,Nat.le_refl _,Nat.le_refl _⟩
theorem Stretch.trans {W:List Fil} {j k:Nat} {a b c:Dk} (h:Stretch W j a b) (i:Stretch W k b c):Stretch W (j+k) a c where
 ext:=h.ext.trans i.ext
 once:=i.once
 turned:=i.turned
 mem f hf:=by
  rcases i.mem f hf with h1|h1
  ·exact h.mem f h1
  ·exact .inr h1
 len:=by have:=h.len;have:=i.len;omega
 calls:=by have:=h.calls;have:=i.calls;omega
theorem Stretch.more {W:List Fil} {j k:Nat} {a b:Dk} (h:Stretch W j a b) (hk:j≤k):Stretch W k a b where
 ext:=h.ext
 once:=h.once
 turned:=h.turned
 mem:=h.mem
 len:=Nat.le_trans h.len (by omega)
 calls:=Nat.le_trans h.calls (by omega)
theorem fresh_calm {d:Dk} (h:Fresh d) (hk:enterK d=0):(enterD d).hit=false∧(enterD d).dead=false∧(enterD d).turned=false:=by
 unfold enterK at hk
 rw[if_neg (by simp[h.dead])] at hk
 have hh:¬ enterHit d=true:=by
  intro hh
  rw[if_pos hh] at hk
  split at hk <;> omega
 unfold enterD
 rw[if_neg hh]
 exact⟨h.hit,h.dead,h.turned⟩
theorem fresh_hit {d:Dk} (h:Fresh d) (hk:0<enterK d):(enterD d).hit=true∧(enterD d).turned=false:=by
 unfold enterK at hk
 rw[if_neg (by simp[h.dead])] at hk
 have hh:enterHit d=true:=by
  cases hh:enterHit d with
  | true=>rfl
  | false=>rw[hh] at hk;simp at hk
 unfold enterD
 rw[if_pos hh]
 exact⟨rfl,h.turned⟩
theorem swapD_hit (d:Dk) (p b:ByteArray):(swapD d p b).hit=(enterD d).hit∧(swapD d p b).dead=(enterD d).dead∧(swapD d p b).turned=(enterD d).turned∧(swapD d p b).calls=d.calls+1:=by
 unfold swapD
 split <;> exact⟨rfl,rfl,rfl,enterD_calls d⟩
theorem swapD_files (d:Dk) (p b:ByteArray):(swapD d p b).files=if enterK d<2 then putF d.files p b else d.files:=by
 unfold swapD
 split
 ·rfl
 ·exact enterD_files d
theorem put_stretch {W:List Fil} {d:Dk} {f:Fil} (hd:Fresh d) (hn:NoClash W d.files) (hf:f∈W):Stretch W 1 d (putD d f.1 f.2)∧(badPut d f=false→Fresh (putD d f.1 f.2)∧getF (putD d f.1 f.2).files f.1=some f.2)∧(badPut d f=true→(putD d f.1 f.2).hit=true):=by
 have hc:=hn f hf
 have hp:putD d f.1 f.2=swapD d f.1 f.2:=by unfold putD;rw[if_neg (by simp[hc])]
 obtain⟨s1,s2,s3,s4⟩:=swapD_hit d f.1 f.2
 have s5:=swapD_files d f.1 f.2
 have hb:badPut d f=decide (0<enterK d):=by unfold badPut;rw[hc];simp
 have ht:(enterD d).turned=false:=by
  rcases Nat.eq_zero_or_pos (enterK d) with h|h
  ·exact (fresh_calm hd h).2.2
  ·exact (fresh_hit hd h).2
 rw[hp]
 refine⟨⟨?_,?_,by rw[s3,ht],?_,?_,by omega⟩,?_,?_⟩
 ·rw[s5]
  split
  ·exact ext_put hf hn
  ·exact Ext.refl W _
 ·rw[s5]
  split
  ·exact once_put hd.once _ _
  ·exact hd.once
 ·rw[s5]
  intro g hg
  split at hg
  ·rcases mem_put hg with h1|h1
   ·exact .inl h1
   ·exact .inr (by rw[h1];exact hf)
  ·exact .inl hg
 ·rw[s5]
  split
  ·exact (putF_len _ _ _).2
  ·omega
 ·intro h
  rw[hb] at h
  have h0:enterK d=0:=by simpa using h
  obtain⟨t1,t2,t3⟩:=fresh_calm hd h0
  have hfl:(swapD d f.1 f.2).files=putF d.files f.1 f.2:=by rw[s5,if_pos (by omega)]
  exact⟨⟨by rw[s2,t2],by rw[s1,t1],by rw[s3,t3],by rw[hfl];exact once_put hd.once _ _⟩,by rw[hfl,getF_put,if_pos rfl]⟩
 ·intro h
  rw[hb] at h
  rw[s1]
  exact (fresh_hit hd (by simpa using h)).1
theorem puts_law {W:List Fil} (ho:OneOf W):∀ (fs:List Fil) (d:Dk),(∀ f∈fs,f∈W)→Fresh d→NoClash W d.files→
  Stretch W fs.length d (putsD d fs).1∧(((putsD d fs).2=fs.length∧Fresh (putsD d fs).1∧∀ f∈fs,getF (putsD d fs).1.files f.1=some f.2)∨((putsD d fs).2<fs.length∧(putsD d fs).1.hit=true))
 | [],d,_,hd,_=>⟨Stretch.refl W hd,.inl ⟨rfl,hd,fun f hf=>by simp at hf⟩⟩
 | f :: fs,d,hs,hd,hn=>by
   have hf:=hs f List.mem_cons_self
   obtain⟨h1,h2,h3⟩:=put_stretch hd hn hf
   cases hb:badPut d f with
   | true=>
    simp only[putsD,hb,if_true]
    exact⟨h1.more (by simp),.inr ⟨by simp,h3 hb⟩⟩
   | false=>
    obtain⟨h4,h5⟩:=h2 hb
    obtain⟨h6,h7⟩:=puts_law ho fs (putD d f.1 f.2) (fun g hg=>hs g (List.mem_cons_of_mem _ hg)) h4 (hn.ext ho h1.ext)
    simp only[putsD,hb,Bool.false_eq_true,if_false]
    refine⟨(h1.trans h6).more (by simp;omega),?_⟩
    rcases h7 with ⟨a1,a2,a3⟩|⟨a1,a2⟩
    ·refine .inl ⟨by simp[a1],a2,fun g hg=>?_⟩
     rcases List.mem_cons.1 hg with rfl|hg
     ·exact h6.ext.keeps h5
     ·exact a3 g hg
    ·exact .inr ⟨by simp;omega,a2⟩
def PutOk (l:List Fil) (R:List (List (List UInt8))) (put:List Nat):Prop:=
 put.length≤R.length∧∀ (m a:Nat) (r:List (List UInt8)),put[m]?=some a→R[m]?=some r→a%4=0∧a≤r.length∧∀ j,4*j+4≤a→getF l (fileOf ((m:Int)-1) r j).1=some (fileOf ((m:Int)-1) r j).2
theorem PutOk.pad {l:List Fil} {R:List (List (List UInt8))} {put:List Nat} (h:PutOk l R put) {n:Nat} (hn:n<R.length):PutOk l R (put++List.replicate (n+1-put.length) 0):=by
 refine⟨by simp;have:=h.1;omega,fun m a r ha hr=>?_⟩
 rcases Nat.lt_or_ge m put.length with hm|hm
 ·rw[List.getElem?_append_left hm] at ha
  exact h.2 m a r ha hr
 ·rw[List.getElem?_append_right hm,List.getElem?_replicate] at ha
  split at ha
  ·cases ha
   exact⟨rfl,by omega,fun j hj=>by omega⟩
  ·cases ha
def roomR (R:List (List (List UInt8))):Nat:=(R.map fun r=>(r.length+3) / 4).sum
theorem pub_law {W:List Fil} (ho:OneOf W) (R:List (List (List UInt8))):∀ (m n:Nat) (put:List Nat) (d:Dk),m+n=R.length→(∀ f∈filesR ((n:Int)-1) (R.drop n),f∈W)→Fresh d→NoClash W d.files→PutOk d.files R put→
  Stretch W (roomR (R.drop n)) d (pubJ n (R.drop n) put d).1∧
  (((pubJ n (R.drop n) put d).2.2=none∧Fresh (pubJ n (R.drop n) put d).1∧PutOk (pubJ n (R.drop n) put d).1.files R (pubJ n (R.drop n) put d).2.1∧∀ f∈filesR ((n:Int)-1) (R.drop n),getF (pubJ n (R.drop n) put d).1.files f.1=some f.2)∨
     (∃ p b,(pubJ n (R.drop n) put d).2.2=some p∧(p,b)∈W∧(pubJ n (R.drop n) put d).1.hit=true)):=by
 intro m
 induction m with
 | zero=>
  intro n put d hmn hW hd hn hp
  rw[List.drop_eq_nil_of_le (by omega)]
  simp only[pubJ,filesR,roomR]
  exact⟨Stretch.refl W hd,.inl ⟨trivial,hd,hp,fun f hf=>by simp at hf⟩⟩
 | succ m ih=>
  intro n put d hmn hW hd hn hp
  have hnl:n<R.length:=by omega
  rw[List.drop_eq_getElem_cons hnl] at hW ⊢
  obtain⟨r,hr⟩:∃ r,r=R[n]:=⟨_,rfl⟩
  have hrn:R[n]?=some r:=by rw[List.getElem?_eq_getElem hnl,hr]
  rw[←hr] at hW ⊢
  simp only[pubJ]
  obtain⟨p1,hp1⟩:∃ p1,p1=put++List.replicate (n+1-put.length) 0:=⟨_,rfl⟩
  have hP:=hp.pad hnl
  rw[←hp1] at hP ⊢
  have hnp:n<p1.length:=by rw[hp1];simp;omega
  obtain⟨a,ha⟩:∃ a,p1[n]?=some a:=⟨_,List.getElem?_eq_getElem hnp⟩
  have hga:p1.getD n 0=a:=by rw[List.getD_eq_getElem?_getD,ha];rfl
  rw[hga]
  obtain⟨b1,b2,b3⟩:=hP.2 n a r ha hrn
  simp only[filesR] at hW
  have hW1:∀ f∈levelF ((n:Int)-1) r,f∈W:=fun f hf=>hW f (List.mem_append_left _ hf)
  obtain⟨c1,c2⟩:=puts_law ho ((levelF ((n:Int)-1) r).drop (a / 4)) d (fun f hf=>hW1 f (List.mem_of_mem_drop hf)) hd hn
  obtain⟨q,hq⟩:∃ q,q=putsD d ((levelF ((n:Int)-1) r).drop (a / 4)):=⟨_,rfl⟩
  have hlen:((levelF ((n:Int)-1) r).drop (a / 4)).length=(r.length+3) / 4-a / 4:=by rw[List.length_drop,levelF_len]
  rw[←hq,hlen] at c1 c2
  have hroom:roomR (r :: R.drop (n+1))=(r.length+3) / 4+roomR (R.drop (n+1)):=rfl
  have hw:writeJ ((n:Int)-1) r (a / 4) d=(q.1,4*min (a / 4+q.2) (r.length / 4),((levelF ((n:Int)-1) r)[a / 4+q.2]?).map (·.1)):=by unfold writeJ;rw[←hq]
  rw[hw]
  have hold:∀ j,j<a / 4→getF q.1.files (fileOf ((n:Int)-1) r j).1=some (fileOf ((n:Int)-1) r j).2:=fun j hj=>c1.ext.keeps (b3 j (by omega))
  rcases c2 with ⟨d1,d2,d3⟩|⟨d1,d2⟩
  ·have hall:∀ j,4*j<r.length→getF q.1.files (fileOf ((n:Int)-1) r j).1=some (fileOf ((n:Int)-1) r j).2:=by
    intro j hj
    rcases Nat.lt_or_ge j (a / 4) with h|h
    ·exact hold j h
    ·apply d3
     apply List.mem_of_getElem? (i:=j-a / 4)
     rw[List.getElem?_drop,show a / 4+(j-a / 4)=j by omega,levelF_get _ _ _ hj]
   have hnone:(levelF ((n:Int)-1) r)[a / 4+q.2]?=none:=List.getElem?_eq_none (by rw[levelF_len];omega)
   rw[hnone]
   simp only[Option.map_none]
   have hP2:PutOk q.1.files R (p1.set n (4*min (a / 4+q.2) (r.length / 4))):=by
    refine⟨by rw[List.length_set];exact hP.1,fun i x y hx hy=>?_⟩
    rw[List.getElem?_set] at hx
    split at hx
    ·rename_i hi
     subst hi
     rw[hrn] at hy
     cases hx
     cases hy
     exact⟨by omega,by omega,fun j hj=>hall j (by omega)⟩
    ·exact⟨(hP.2 i x y hx hy).1,(hP.2 i x y hx hy).2.1,fun j hj=>c1.ext.keeps ((hP.2 i x y hx hy).2.2 j hj)⟩
   have hI:=ih (n+1) (p1.set n (4*min (a / 4+q.2) (r.length / 4))) q.1 (by omega) (fun f hf=>hW f (List.mem_append_right _ (by rw[show ((n:Int)-1+1)=((n+1:Nat):Int)-1 by omega];exact hf))) d2 (hn.ext ho c1.ext) hP2
   obtain⟨i1,i2⟩:=hI
   refine⟨?_,?_⟩
   ·rw[hroom]
    exact (c1.trans i1).more (by omega)
   ·rcases i2 with ⟨e1,e2,e3,e4⟩|h
    ·refine .inl ⟨e1,e2,e3,fun f hf=>?_⟩
     simp only[filesR] at hf
     rcases List.mem_append.1 hf with hf|hf
     ·unfold levelF at hf
      obtain⟨j,hj,rfl⟩:=List.mem_map.1 hf
      rw[List.mem_range] at hj
      exact i1.ext.keeps (hall j (by omega))
     ·exact e4 f (by rw[show (((n+1:Nat):Int)-1)=(n:Int)-1+1 by omega];exact hf)
    ·exact .inr h
  ·have hlt:a / 4+q.2<(r.length+3) / 4:=by omega
   have hg:=levelF_get ((n:Int)-1) r (a / 4+q.2) (by omega)
   rw[hg]
   simp only[Option.map_some]
   exact⟨by rw[hroom];exact c1.more (by omega),.inr ⟨_,(fileOf ((n:Int)-1) r (a / 4+q.2)).2,rfl,hW1 _ (List.mem_of_getElem? hg),d2⟩⟩
end
section
theorem nLev_small {n:Nat} (h:n≤1048576):nLev n≤11:=by
 rcases Nat.lt_or_ge 11 (nLev n) with h1|h1
 ·have:=(nLev_iff n 11).1 h1
  have e:4 ^ 11=4194304:=rfl
  omega
 ·exact h1
theorem rowsOf_len (es:List (List UInt8)):(rowsOf es).length=nLev es.length+1:=by simp[rowsOf,levels]
theorem rowsOf_zero (es:List (List UInt8)):(rowsOf es)[0]?=some (es.map encE):=rfl
theorem rowsOf_succ (es:List (List UInt8)) (k:Nat) (h:k<nLev es.length):(rowsOf es)[k+1]?=some ((levelRow es k).map fun (x:Hsh)=>x.toList):=by
 unfold rowsOf levels
 rw[List.getElem?_cons_succ,List.getElem?_map,List.getElem?_map,List.getElem?_range h]
 rfl
theorem rowsOf_row {es:List (List UInt8)} {m:Nat} {r:List (List UInt8)} (h:(rowsOf es)[m]?=some r):(m=0∧r=es.map encE)∨∃ k,m=k+1∧k<nLev es.length∧r=(levelRow es k).map fun (x:Hsh)=>x.toList:=by
 cases m with
 | zero=>rw[rowsOf_zero] at h;cases h;exact .inl ⟨rfl,rfl⟩
 | succ k=>
  have hk:k<nLev es.length:=by
   have:=(List.getElem?_eq_some_iff.1 h).1
   rw[rowsOf_len] at this
   omega
  rw[rowsOf_succ es k hk] at h
  cases h
  exact .inr ⟨k,rfl,hk,rfl⟩
theorem rowsOf_short {es:List (List UInt8)} {r:List (List UInt8)} (h:r∈rowsOf es):r.length≤es.length:=by
 obtain⟨m,hm⟩:=List.mem_iff_getElem?.1 h
 rcases rowsOf_row hm with ⟨_,rfl⟩|⟨k,_,_,rfl⟩
 ·simp
 ·rw[List.length_map,levelRow_len]
  exact Nat.div_le_self _ _
theorem rowsOf_small {es:List (List UInt8)} (h:es.length≤1048576):Small (-1) (rowsOf es):=by
 have:=nLev_small h
 refine⟨by omega,by rw[rowsOf_len];omega,fun r hr=>by have:=rowsOf_short hr;omega⟩
theorem filesP_one {es:List (List UInt8)} (h:es.length≤1048576):OneOf (filesP es):=fun _ _ _ ha hb=>filesR_one (rowsOf_small h) ha hb
def cpOf (es:List (List UInt8)) (key:ByteArray):ByteArray:=sOf (signOf es.length (rootOf es) key.data.toList)
def pubD (es:List (List UInt8)) (key:ByteArray) (put:List Nat) (d:Dk):Dk×List Nat×Option ByteArray:=
 match (pubJ 0 (rowsOf es) put d).2.2 with
 | some p=>((pubJ 0 (rowsOf es) put d).1,(pubJ 0 (rowsOf es) put d).2.1,some p)
 | none=>(swapD (pubJ 0 (rowsOf es) put d).1 (sOf kCp) (cpOf es key),(pubJ 0 (rowsOf es) put d).2.1,if 0<enterK (pubJ 0 (rowsOf es) put d).1 then some (sOf kCp) else none)
def KeptP (l l' W:List Fil) (c:ByteArray):Prop:=∀ p,getF l' p=getF l p∨(getF l p=none∧∃ b,(p,b)∈W∧getF l' p=some b)∨(p=sOf kCp∧getF l' p=some c)
theorem roomR_le (R:List (List (List UInt8))) (k:Nat) (h:∀ r∈R,r.length≤k):roomR R≤R.length*(k+3):=by
 induction R with
 | nil=>simp[roomR]
 | cons a R ih=>
  have h1:=ih fun r hr=>h r (List.mem_cons_of_mem _ hr)
  have h2:=h a List.mem_cons_self
  have e:roomR (a :: R)=(a.length+3) / 4+roomR R:=rfl
  rw[e,List.length_cons,Nat.add_mul]
  omega
theorem room_rows {es:List (List UInt8)} (h:es.length≤1048576):roomR (rowsOf es)≤12*(es.length+3):=by
 refine Nat.le_trans (roomR_le _ es.length fun r hr=>rowsOf_short hr) (Nat.mul_le_mul_right _ ?_)
 rw[rowsOf_len]
 have:=nLev_small h
 omega
theorem publish_law {es:List (List UInt8)} (key:ByteArray) {put:List Nat} {d:Dk} (hl:es.length≤1048576) (hd:Fresh d) (hn:NoClash (filesP es) d.files) (hp:PutOk d.files (rowsOf es) put) :
  KeptP d.files (pubD es key put d).1.files (filesP es) (cpOf es key)∧Once (pubD es key put d).1.files∧(pubD es key put d).1.turned=false∧
  (∀ f∈(pubD es key put d).1.files,f∈d.files∨f∈filesP es∨f=(sOf kCp,cpOf es key))∧(pubD es key put d).1.files.length≤d.files.length+12*(es.length+3)+1∧(pubD es key put d).1.calls≤d.calls+12*(es.length+3)+1∧
  (((pubD es key put d).2.2=none∧Fresh (pubD es key put d).1∧PutOk (pubD es key put d).1.files (rowsOf es) (pubD es key put d).2.1∧(∀ f∈filesP es,getF (pubD es key put d).1.files f.1=some f.2)∧getF (pubD es key put d).1.files (sOf kCp)=some (cpOf es key))∨
     (∃ p,(pubD es key put d).2.2=some p∧(pubD es key put d).1.hit=true∧((∃ b,(p,b)∈filesP es)∨p=sOf kCp))):=by
 have ho:=filesP_one hl
 have hr:=room_rows hl
 have h:=pub_law ho (rowsOf es) (rowsOf es).length 0 put d (by omega) (fun f hf=>hf) hd hn hp
 rw[List.drop_zero] at h
 unfold pubD
 generalize pubJ 0 (rowsOf es) put d=q at h ⊢
 obtain⟨h1,h2⟩:=h
 have hkeep:∀ p,getF q.1.files p=getF d.files p∨(getF d.files p=none∧∃ b,(p,b)∈filesP es∧getF q.1.files p=some b):=h1.ext
 rcases h2 with ⟨e1,e2,e3,e4⟩|⟨p,b,e1,e2,e3⟩
 ·rw[e1]
  simp only[]
  obtain⟨s1,s2,s3,s4⟩:=swapD_hit q.1 (sOf kCp) (cpOf es key)
  have s5:=swapD_files q.1 (sOf kCp) (cpOf es key)
  have hget:∀ p,getF (swapD q.1 (sOf kCp) (cpOf es key)).files p=getF q.1.files p∨(p=sOf kCp∧getF (swapD q.1 (sOf kCp) (cpOf es key)).files p=some (cpOf es key)):=by
   intro p
   rw[s5]
   split
   ·rw[getF_put]
    split
    ·rename_i h;exact .inr ⟨h,rfl⟩
    ·exact .inl rfl
   ·exact .inl rfl
  refine⟨fun p=>?_,?_,?_,?_,?_,?_,?_⟩
  ·rcases hget p with h3|h3
   ·rw[h3]
    rcases hkeep p with h4|h4
    ·exact .inl h4
    ·exact .inr (.inl h4)
   ·exact .inr (.inr h3)
  ·rw[s5]
   split
   ·exact once_put h1.once _ _
   ·exact h1.once
  ·rw[s3]
   rcases Nat.eq_zero_or_pos (enterK q.1) with h|h
   ·exact (fresh_calm e2 h).2.2
   ·exact (fresh_hit e2 h).2
  ·intro f hf
   rw[s5] at hf
   split at hf
   ·rcases mem_put hf with h3|h3
    ·rcases h1.mem f h3 with h4|h4
     ·exact .inl h4
     ·exact .inr (.inl h4)
    ·exact .inr (.inr h3)
   ·rcases h1.mem f hf with h4|h4
    ·exact .inl h4
    ·exact .inr (.inl h4)
  ·have:=h1.len
   rw[s5]
   split
   ·have:=(putF_len q.1.files (sOf kCp) (cpOf es key)).2;omega
   ·omega
  ·have:=h1.calls;omega
  ·rcases Nat.eq_zero_or_pos (enterK q.1) with h|h
   ·left
    obtain⟨t1,t2,t3⟩:=fresh_calm e2 h
    have hfl:(swapD q.1 (sOf kCp) (cpOf es key)).files=putF q.1.files (sOf kCp) (cpOf es key):=by rw[s5,if_pos (by omega)]
    have hcp:∀ f∈filesP es,f.1≠sOf kCp:=fun f hf=>filesR_cp hf
    refine⟨if_neg (by omega),⟨by rw[s2,t2],by rw[s1,t1],by rw[s3,t3],by rw[hfl];exact once_put h1.once _ _⟩,⟨e3.1,fun m a r ha hr=>?_⟩,fun f hf=>?_,by rw[hfl,getF_put,if_pos rfl]⟩
    ·obtain⟨k1,k2,k3⟩:=e3.2 m a r ha hr
     refine⟨k1,k2,fun j hj=>?_⟩
     rw[hfl,getF_put,if_neg]
     ·exact k3 j hj
     ·exact fun e=>nameOf_cp _ _ _ (sOf_inj e)
    ·rw[hfl,getF_put,if_neg (hcp f hf)]
     exact e4 f hf
   ·right
    exact⟨sOf kCp,if_pos h,by rw[s1];exact (fresh_hit e2 h).1,.inr rfl⟩
 ·rw[e1]
  simp only[]
  refine⟨fun p=>?_,h1.once,h1.turned,fun f hf=>?_,by have:=h1.len;omega,by have:=h1.calls;omega,.inr ⟨p,rfl,e3,.inl ⟨b,e2⟩⟩⟩
  ·rcases hkeep p with h4|h4
   ·exact .inl h4
   ·exact .inr (.inl h4)
  ·rcases h1.mem f hf with h4|h4
   ·exact .inl h4
   ·exact .inr (.inl h4)
theorem fileOf_more (t:Int) (r s:List (List UInt8)) (j:Nat) (h:4*j+4≤r.length):fileOf t (r++s) j=fileOf t r j:=by
 unfold fileOf
 have e:min 4 ((r++s).length-4*j)=min 4 (r.length-4*j):=by rw[List.length_append];omega
 rw[e,List.drop_append_of_le_length (by omega),List.take_append_of_le_length (by rw[List.length_drop];omega)]
theorem levelRow_prefix (es:List (List UInt8)) (e:List UInt8) (k:Nat):∃ s,levelRow (es ++ [e]) k=levelRow es k++s:=by
 have hp:0<4 ^ k:=Nat.pow_pos (by decide)
 by_cases h:(es.length+1) / 4 ^ k=es.length / 4 ^ k
 ·exact⟨[],by rw[levelRow_same es e k h,List.append_nil]⟩
 ·refine⟨_,levelRow_more es e k (es.length / 4 ^ k) rfl ?_⟩
  rw[Nat.succ_div] at h ⊢
  split
  ·rfl
  ·rename_i hd
   rw[if_neg hd] at h
   exact absurd rfl h
theorem nLev_mono (n:Nat):nLev n≤nLev (n+1):=by
 rcases Nat.lt_or_ge (nLev (n+1)) (nLev n) with h|h
 ·have a:=(nLev_iff n _).1 h
  have b:=(nLev_iff (n+1) (nLev (n+1))).2 (by omega)
  omega
 ·exact h
theorem rows_prefix {es:List (List UInt8)} (e:List UInt8) {m:Nat} {r:List (List UInt8)} (h:(rowsOf (es ++ [e]))[m]?=some r) (hm:m<(rowsOf es).length):∃ r0 s,(rowsOf es)[m]?=some r0∧r=r0++s:=by
 rw[rowsOf_len] at hm
 rcases rowsOf_row h with ⟨rfl,rfl⟩|⟨k,rfl,hk,rfl⟩
 ·exact⟨_,[encE e],rowsOf_zero es,by simp⟩
 ·obtain⟨s,hs⟩:=levelRow_prefix es e k
  exact⟨_,s.map fun (x:Hsh)=>x.toList,rowsOf_succ es k (by omega),by rw[hs,List.map_append]⟩
theorem putOk_more {l:List Fil} {es:List (List UInt8)} {put:List Nat} (e:List UInt8) (h:PutOk l (rowsOf es) put):PutOk l (rowsOf (es ++ [e])) put:=by
 refine⟨?_,fun m a r ha hr=>?_⟩
 ·have:=h.1
  rw[rowsOf_len] at this ⊢
  have:=nLev_mono es.length
  simp only[List.length_append,List.length_cons,List.length_nil,Nat.zero_add] at *
  omega
 ·have hm:=(List.getElem?_eq_some_iff.1 ha).1
  obtain⟨r0,s,h0,rfl⟩:=rows_prefix e hr (by have:=h.1;omega)
  obtain⟨k1,k2,k3⟩:=h.2 m a r0 ha h0
  refine⟨k1,by rw[List.length_append];omega,fun j hj=>?_⟩
  rw[fileOf_more _ _ _ _ (by omega)]
  exact k3 j hj
theorem putOk_nil (l:List Fil) (es:List (List UInt8)):PutOk l (rowsOf es) []:=⟨by simp,fun m a r ha=>by simp at ha⟩
def MarkOk (R:List (List (List UInt8))) (put:List Nat):Prop:=put.length≤R.length∧∀ (m a:Nat) (r:List (List UInt8)),put[m]?=some a→R[m]?=some r→a%4=0∧a≤r.length
theorem PutOk.mark {l:List Fil} {R:List (List (List UInt8))} {put:List Nat} (h:PutOk l R put):MarkOk R put:=⟨h.1,fun m a r h1 h2=>⟨(h.2 m a r h1 h2).1,(h.2 m a r h1 h2).2.1⟩⟩
theorem MarkOk.next {R:List (List (List UInt8))} {put:List Nat} (h:MarkOk R put) {n x:Nat} {r:List (List UInt8)} (hr:R[n]?=some r) (hx:x%4=0∧x≤r.length):MarkOk R ((put++List.replicate (n+1-put.length) 0).set n x):=by
 have hn:=(List.getElem?_eq_some_iff.1 hr).1
 refine⟨by simp;have:=h.1;omega,fun m a q ha hq=>?_⟩
 rw[List.getElem?_set] at ha
 split at ha
 ·rename_i hnm
  subst hnm
  split at ha
  ·cases ha;rw[hr] at hq;cases hq;exact hx
  ·cases ha
 ·rcases Nat.lt_or_ge m put.length with hm|hm
  ·rw[List.getElem?_append_left hm] at ha
   exact h.2 m a q ha hq
  ·rw[List.getElem?_append_right hm,List.getElem?_replicate] at ha
   split at ha
   ·cases ha;exact⟨rfl,by omega⟩
   ·cases ha
theorem writeJ_mark (t:Int) (row:List (List UInt8)) (j:Nat) (d:Dk):(writeJ t row j d).2.1%4=0∧(writeJ t row j d).2.1≤row.length:=by
 unfold writeJ
 simp only[]
 omega
theorem pubJ_step {R:List (List (List UInt8))} {n:Nat} {r:List (List UInt8)} (hr:R[n]?=some r) (put:List Nat) (d:Dk) {p1:List Nat} {q:Dk×Nat×Option ByteArray} (hp:p1=put++List.replicate (n+1-put.length) 0) (hq:q=writeJ ((n:Int)-1) r (p1.getD n 0 / 4) d) :
  pubJ n (R.drop n) put d=match q.2.2 with|some p=>(q.1,p1.set n q.2.1,some p)|none=>pubJ (n+1) (R.drop (n+1)) (p1.set n q.2.1) q.1:=by
 obtain⟨hlt,he⟩:=List.getElem?_eq_some_iff.1 hr
 rw[List.drop_eq_getElem_cons hlt,he]
 simp only[pubJ]
 rw[←hp,←hq] <;> cases q.2.2 <;> rfl
theorem pubJ_out {R:List (List (List UInt8))} {n:Nat} (h:R.length≤n) (put:List Nat) (d:Dk):pubJ n (R.drop n) put d=(d,put,none):=by rw[List.drop_eq_nil_of_le h];rfl
end
section
def bunName (i w:Nat):ByteArray:=sOf (nameOf (-1) i w)
def bundleF (l:List Fil) (i w:Nat):Option (List (List UInt8)):=(getF l (bunName i w)).bind fun b=>(unbundleOf b.data.toList).bind fun e=>if e.length=w then some e else none
theorem bundleF_none {l:List Fil} {i w:Nat} (h:getF l (bunName i w)=none):bundleF l i w=none:=by unfold bundleF;rw[h];rfl
theorem bundleF_bad {l:List Fil} {i w:Nat} {b:ByteArray} (h:getF l (bunName i w)=some b) (hb:unbundleOf b.data.toList=none):bundleF l i w=none:=by unfold bundleF;rw[h,Option.bind_some,hb];rfl
theorem bundleF_ok {l:List Fil} {i w:Nat} {b:ByteArray} {e:List (List UInt8)} (h:getF l (bunName i w)=some b) (hb:unbundleOf b.data.toList=some e):bundleF l i w=if e.length=w then some e else none:=by unfold bundleF;rw[h,Option.bind_some,hb];rfl
theorem unbundleOf_lens {b:List UInt8} {e:List (List UInt8)} (h:unbundleOf b=some e):0<e.length∧e.length≤4∧∀ x∈e,x.length≤20:=by
 unfold unbundleOf at h
 cases hr:rawU b with
 | none=>rw[hr] at h;simp at h
 | some ls=>
  rw[hr,Option.bind_some] at h
  split at h
  ·rename_i hs
   cases h
   unfold bundleOf at hs
   split at hs
   ·simp at hs
   ·rename_i h0
    split at hs
    ·rename_i ha
     refine⟨by omega,by omega,fun x hx=>?_⟩
     exact of_decide_eq_true (List.all_eq_true.1 ha x hx)
    ·simp at hs
  ·cases h
theorem bundleF_some {l:List Fil} {i w:Nat} {e:List (List UInt8)} (h:bundleF l i w=some e):e.length=w∧0<w∧w≤4∧(∀ x∈e,x.length≤20)∧∃ b,getF l (bunName i w)=some b:=by
 cases hg:getF l (bunName i w) with
 | none=>rw[bundleF_none hg] at h;cases h
 | some b=>
  cases hb:unbundleOf b.data.toList with
  | none=>rw[bundleF_bad hg hb] at h;cases h
  | some e'=>
   rw[bundleF_ok hg hb] at h
   split at h
   ·rename_i hw
    cases h
    obtain⟨h1,h2,h3⟩:=unbundleOf_lens hb
    exact⟨hw,by omega,by omega,h3,b,rfl⟩
   ·cases h
def loadP (l:List Fil) (n:Nat):Nat→Nat→List (List UInt8)→List (List UInt8)×Option Nat
 | 0,_,d=>(d,none)
 | m+1,i,d=>match bundleF l i (min 4 (n-4*i)) with
  | none=>(d,some i)
  | some e=>loadP l n m (i+1) (d++e)
def furtherW (l:List Fil) (d:List (List UInt8)):Nat→List (List UInt8)×Bool
 | 0=>([],false)
 | w+1=>if w+1≤d.length%4 then ([],false) else
   if (getF l (bunName (d.length / 4) (w+1))).isNone then furtherW l d w else
   match bundleF l (d.length / 4) (w+1) with
   | none=>([],false)
   | some e=>if e.take (d.length%4)=d.drop (4*(d.length / 4)) then (e.drop (d.length%4),decide (w+1=4)) else ([],false)
def furtherP (l:List Fil) (d:List (List UInt8)):List (List UInt8)×Bool:=furtherW l d 4
inductive Goes (l:List Fil):List (List UInt8)→List (List UInt8)→Prop where
 | stop {d:List (List UInt8)}:(furtherP l d).2=false→Goes l d (d++(furtherP l d).1)
 | more {d r:List (List UInt8)}:(furtherP l d).2=true→Goes l (d++(furtherP l d).1) r→Goes l d r
theorem Goes.one {l:List Fil} {d a b:List (List UInt8)} (h:Goes l d a) (k:Goes l d b):a=b:=by
 induction h with
 | stop h1=>
  cases k with
  | stop=>rfl
  | more k1 _=>rw[h1] at k1;cases k1
 | more h1 _ ih=>
  cases k with
  | stop k1=>rw[h1] at k1;cases k1
  | more _ k2=>exact ih k2
def openHead (l:List Fil) (key:ByteArray):Option (Nat×Hsh):=match getF l (sOf kCp) with
 | none=>some (0,hash [])
 | some b=>if (checkGo b.data.toList key.data.toList).2.2=true then some ((checkGo b.data.toList key.data.toList).1.toNat,(checkGo b.data.toList key.data.toList).2.1) else none
inductive Opn where
 | bad (k:Nat) (p:ByteArray)
 | good (es:List (List UInt8)) (n:Nat)
inductive OpensTo (l:List Fil) (key:ByteArray):Opn→Prop where
 | checkpoint:openHead l key=none→OpensTo l key (.bad 3 ⟨#[]⟩)
 | tile {n:Nat} {root:Hsh} {d:List (List UInt8)} {i:Nat}:openHead l key=some (n,root)→loadP l n ((n+3) / 4) 0 []=(d,some i)→OpensTo l key (.bad 6 (bunName i (min 4 (n-4*i))))
 | proof {n:Nat} {root:Hsh} {d:List (List UInt8)}:openHead l key=some (n,root)→loadP l n ((n+3) / 4) 0 []=(d,none)→rootOf d≠root→OpensTo l key (.bad 5 ⟨#[]⟩)
 | fine {n:Nat} {root:Hsh} {d r:List (List UInt8)}:openHead l key=some (n,root)→loadP l n ((n+3) / 4) 0 []=(d,none)→rootOf d=root→Goes l d r→OpensTo l key (.good r n)
theorem OpensTo.one {l:List Fil} {key:ByteArray} {a b:Opn} (h:OpensTo l key a) (k:OpensTo l key b):a=b:=by
 cases h with
 | checkpoint h1=>
  cases k with
  | checkpoint=>rfl
  | tile k1=>rw[h1] at k1;cases k1
  | proof k1=>rw[h1] at k1;cases k1
  | fine k1=>rw[h1] at k1;cases k1
 | tile h1 h2=>
  cases k with
  | checkpoint k1=>rw[h1] at k1;cases k1
  | tile k1 k2=>rw[h1] at k1;cases k1;rw[h2] at k2;cases k2;rfl
  | proof k1 k2=>rw[h1] at k1;cases k1;rw[h2] at k2;cases k2
  | fine k1 k2=>rw[h1] at k1;cases k1;rw[h2] at k2;cases k2
 | proof h1 h2 h3=>
  cases k with
  | checkpoint k1=>rw[h1] at k1;cases k1
  | tile k1 k2=>rw[h1] at k1;cases k1;rw[h2] at k2;cases k2
  | proof k1 k2=>rfl
  | fine k1 k2 k3=>rw[h1] at k1;cases k1;rw[h2] at k2;cases k2;exact absurd k3 h3
 | fine h1 h2 h3 h4=>
  cases k with
  | checkpoint k1=>rw[h1] at k1;cases k1
  | tile k1 k2=>rw[h1] at k1;cases k1;rw[h2] at k2;cases k2
  | proof k1 k2 k3=>rw[h1] at k1;cases k1;rw[h2] at k2;cases k2;exact absurd h3 k3
  | fine k1 k2 k3 k4=>rw[h1] at k1;cases k1;rw[h2] at k2;cases k2;rw[h4.one k4]
def Has (l:List Fil) (i:Nat):Prop:=∃ w,1≤w∧w≤4∧∃ b,getF l (bunName i w)=some b
def FewB (l:List Fil) (N:Nat):Prop:=∀ m,(∀ i,i<m→Has l i)→m≤N
theorem pigeon:∀ (U:List Nat) (m:Nat),(∀ i,i<m→i∈U)→m≤U.length:=by
 intro U m
 induction m generalizing U with
 | zero=>intro _;omega
 | succ m ih=>
  intro h
  have hm:=h m (by omega)
  have:=ih (U.erase m) fun i hi=>by
   rw[List.mem_erase_of_ne (by omega)]
   exact h i (by omega)
  rw[List.length_erase_of_mem hm] at this
  have:=List.length_pos_of_mem hm
  omega
theorem fewB_of {l:List Fil} {U:List Nat} (h:∀ i,i<9223372036854775808→Has l i→i∈U) (hU:U.length<9223372036854775808):FewB l U.length:=by
 intro m hm
 rcases Nat.lt_or_ge m 9223372036854775808 with h1|h1
 ·exact pigeon U m fun i hi=>h i (by omega) (hm i hi)
 ·have:=pigeon U 9223372036854775808 fun i hi=>h i hi (hm i (by omega))
  omega
structure Taken (l:List Fil) (d:List (List UInt8)):Prop where
 short:∀ e∈d,e.length≤20
 has:∀ i,4*i<d.length→Has l i
theorem Taken.few {l:List Fil} {d:List (List UInt8)} {N:Nat} (h:Taken l d) (hN:FewB l N):d.length≤4*N:=by
 have:=hN ((d.length+3) / 4) fun i hi=>h.has i (by omega)
 omega
theorem Taken.nil (l:List Fil):Taken l []:=⟨fun _ h=>by simp at h,fun i h=>by simp at h⟩
theorem Taken.step {l:List Fil} {d e:List (List UInt8)} {i w:Nat} (h:Taken l d) (hd:d.length=4*i) (hb:bundleF l i w=some e):Taken l (d++e):=by
 obtain⟨h1,h2,h3,h4,b,h5⟩:=bundleF_some hb
 refine⟨fun x hx=>?_,fun j hj=>?_⟩
 ·rcases List.mem_append.1 hx with hx|hx
  ·exact h.short x hx
  ·exact h4 x hx
 ·rw[List.length_append] at hj
  rcases Nat.lt_or_ge j i with hji|hji
  ·exact h.has j (by omega)
  ·exact⟨w,h2,h3,b,by rw[show j=i by omega];exact h5⟩
theorem Taken.further {l:List Fil} {d:List (List UInt8)} (h:Taken l d):∀ w,w≤4→Taken l (d++(furtherW l d w).1)∧((furtherW l d w).2=true→(d++(furtherW l d w).1).length=4*(d.length / 4+1))
 | 0,_=>by simp only[furtherW,List.append_nil];exact⟨h,fun h=>by cases h⟩
 | w+1,hw=>by
   rw[furtherW]
   split
   ·rw[List.append_nil];exact⟨h,fun h=>by cases h⟩
   ·rename_i h0
    split
    ·exact h.further w (by omega)
    ·cases hb:bundleF l (d.length / 4) (w+1) with
     | none=>simp only[List.append_nil];exact⟨h,fun h=>by cases h⟩
     | some e=>
      simp only[]
      split
      ·rename_i he
       obtain⟨h1,h2,h3,h4,b,h5⟩:=bundleF_some hb
       refine⟨⟨fun x hx=>?_,fun j hj=>?_⟩,fun ht=>?_⟩
       ·rcases List.mem_append.1 hx with hx|hx
        ·exact h.short x hx
        ·exact h4 x (List.mem_of_mem_drop hx)
       ·rw[List.length_append,List.length_drop] at hj
        rcases Nat.lt_or_ge j (d.length / 4) with hji|hji
        ·exact h.has j (by omega)
        ·exact⟨w+1,h2,h3,b,by rw[show j=d.length / 4 by omega];exact h5⟩
       ·have:=of_decide_eq_true ht
        rw[List.length_append,List.length_drop]
        omega
      ·rw[List.append_nil];exact⟨h,fun h=>by cases h⟩
theorem Taken.goes {l:List Fil} {d r:List (List UInt8)} (h:Taken l d) (hg:Goes l d r):Taken l r:=by
 induction hg with
 | stop _=>exact (h.further 4 (by omega)).1
 | more _ _ ih=>exact ih (h.further 4 (by omega)).1
theorem Taken.load {l:List Fil} {n:Nat}:∀ (m i:Nat) (d:List (List UInt8)),Taken l d→d.length=min n (4*i)→4*(m+i)<n+4→Taken l (loadP l n m i d).1
 | 0,_,d,h,_,_=>h
 | m+1,i,d,h,hd,hm=>by
   rw[loadP]
   cases hb:bundleF l i (min 4 (n-4*i)) with
   | none=>exact h
   | some e=>
    obtain⟨h1,h2,h3,h4,b,h5⟩:=bundleF_some hb
    exact Taken.load m (i+1) (d++e) (h.step (by omega) hb) (by rw[List.length_append];omega) (by omega)
theorem OpensTo.taken {l:List Fil} {key:ByteArray} {es:List (List UInt8)} {n:Nat} (h:OpensTo l key (.good es n)):Taken l es:=by
 cases h with
 | fine h1 h2 h3 h4=>
  have:=Taken.load (l:=l) (n:=n) ((n+3) / 4) 0 [] (Taken.nil l) (by simp) (by omega)
  rw[h2] at this
  exact this.goes h4
end
section
theorem rootsp_nil (m n:Nat) (whole:Option Hsh):roots m n whole []=if m=n then whole.map fun a=>(a,a) else none:=by simp[roots,rootsR]
theorem rootsp_snoc (m n:Nat) (whole:Option Hsh) (q:List Hsh) (r:Hsh):roots m n whole (q ++ [r])=if m=n then (match whole with|some _=>none|none=>if q = [] then some (r,r) else none)
   else if m≤below n then (roots m (below n) whole q).map fun x=>(x.1,nodeH x.2 r) else (roots (m-below n) (n-below n) none q).map fun x=>(nodeH r x.1,nodeH r x.2):=by
 unfold roots below
 rw[List.reverse_append]
 simp only[List.reverse_cons,List.reverse_nil,List.nil_append,List.singleton_append,rootsR]
 cases whole <;> simp
theorem rootsp_whole (m:Nat) (a:Hsh) (p:List Hsh):roots m m (some a) p=if p.length=0 then some (a,a) else none:=by
 rcases List.eq_nil_or_concat p with rfl|⟨q,r,rfl⟩
 ·simp[rootsp_nil]
 ·rw[List.concat_eq_append] at *
  rw[rootsp_snoc,if_pos rfl];simp
theorem rootsp_one (m:Nat) (r:Hsh):roots m m none [r]=some (r,r):=by
 have:=rootsp_snoc m m none [] r
 simpa using this
end
section
def pathF:Nat→List (List UInt8)→Nat→List Hsh
 | 0,_,_=>[]
 | f+1,l,i=>if l.length≤1 then [] else if i<below l.length then pathF f (l.take (below l.length)) i ++ [rootOf (l.drop (below l.length))]
   else pathF f (l.drop (below l.length)) (i-below l.length) ++ [rootOf (l.take (below l.length))]
def pathOf (l:List (List UInt8)) (i:Nat):List Hsh:=pathF l.length l i
def partF:Nat→Nat→List (List UInt8)→Bool→List Hsh
 | 0,_,_,_=>[]
 | f+1,m,l,whole=>if m=l.length then (if whole then [] else [rootOf l]) else if m≤below l.length then partF f m (l.take (below l.length)) whole ++ [rootOf (l.drop (below l.length))]
   else partF f (m-below l.length) (l.drop (below l.length)) false ++ [rootOf (l.take (below l.length))]
def partOf (m:Nat) (l:List (List UInt8)) (whole:Bool):List Hsh:=partF l.length m l whole
theorem pathF_more:∀ (f g:Nat) (l:List (List UInt8)) (i:Nat),l.length≤f→l.length≤g→pathF f l i=pathF g l i
 | 0,0,_,_,_,_=>rfl
 | 0,g+1,l,i,h,_=>by
  have:l.length=0:=by omega
  simp[pathF,this]
 | f+1,0,l,i,_,h=>by
  have:l.length=0:=by omega
  simp[pathF,this]
 | f+1,g+1,l,i,h1,h2=>by
  simp only[pathF]
  split
  ·rfl
  ·have hb:=below_lt (n:=l.length) (by omega)
   rw[pathF_more f g _ i (by simp;omega) (by simp;omega),pathF_more f g (l.drop _) _ (by simp;omega) (by simp;omega)]
theorem partF_more:∀ (f g m:Nat) (l:List (List UInt8)) (b:Bool),1≤m→m≤l.length→l.length≤f→l.length≤g→partF f m l b=partF g m l b
 | 0,_,_,l,_,h0,_,h,_=>by omega
 | f+1,0,_,l,_,h0,_,_,h=>by omega
 | f+1,g+1,m,l,b,h0,hm,h1,h2=>by
  simp only[partF]
  split
  ·rfl
  ·have hb:=below_lt (n:=l.length) (by omega)
   split
   ·rw[partF_more f g m _ b h0 (by simp;omega) (by simp;omega) (by simp;omega)]
   ·rw[partF_more f g _ (l.drop _) _ (by omega) (by simp;omega) (by simp;omega) (by simp;omega)]
theorem pathF_len:∀ (f:Nat) (l:List (List UInt8)) (i:Nat),(pathF f l i).length≤f
 | 0,_,_=>Nat.le_refl _
 | f+1,l,i=>by
  simp only[pathF]
  split
  ·simp
  ·split
   ·have:=pathF_len f (l.take (below l.length)) i;simp;omega
   ·have:=pathF_len f (l.drop (below l.length)) (i-below l.length);simp;omega
theorem pathOf_len (l:List (List UInt8)) (i:Nat):(pathOf l i).length≤l.length:=pathF_len _ _ _
theorem pathOf_one {l:List (List UInt8)} (h:l.length≤1) (i:Nat):pathOf l i = []:=by
 unfold pathOf
 rcases Nat.lt_or_ge 0 l.length with h0|h0
 ·obtain⟨n,hn⟩:∃ n,l.length=n+1:=⟨l.length-1,by omega⟩
  rw[hn];simp only[pathF];rw[if_pos h]
 ·rw[show l.length=0 by omega];rfl
theorem pathOf_more {l:List (List UInt8)} (h:2≤l.length) (i:Nat):pathOf l i=if i<below l.length then pathOf (l.take (below l.length)) i ++ [rootOf (l.drop (below l.length))]
   else pathOf (l.drop (below l.length)) (i-below l.length) ++ [rootOf (l.take (below l.length))]:=by
 unfold pathOf
 have hb:=below_lt h
 obtain⟨n,hn⟩:∃ n,l.length=n+1:=⟨l.length-1,by omega⟩
 rw[hn]
 simp only[pathF]
 rw[if_neg (by omega),hn]
 rw[hn] at hb
 rw[pathF_more n _ (l.take _) i (by simp;omega) (Nat.le_refl _),pathF_more n _ (l.drop _) _ (by simp;omega) (Nat.le_refl _)]
theorem partOf_all (l:List (List UInt8)) (b:Bool) (h:1≤l.length):partOf l.length l b=if b then [] else [rootOf l]:=by
 unfold partOf
 obtain⟨n,hn⟩:∃ n,l.length=n+1:=⟨l.length-1,by omega⟩
 rw[hn]
 simp only[partF]
 rw[if_pos hn.symm]
theorem partOf_more {l:List (List UInt8)} {m:Nat} (h1:1≤m) (h:m<l.length) (b:Bool):partOf m l b=if m≤below l.length then partOf m (l.take (below l.length)) b ++ [rootOf (l.drop (below l.length))]
   else partOf (m-below l.length) (l.drop (below l.length)) false ++ [rootOf (l.take (below l.length))]:=by
 unfold partOf
 have hb:=below_lt (n:=l.length) (by omega)
 obtain⟨n,hn⟩:∃ n,l.length=n+1:=⟨l.length-1,by omega⟩
 rw[hn]
 simp only[partF]
 rw[if_neg (by omega),hn]
 rw[hn] at hb
 split
 ·rw[partF_more n _ m (l.take _) b h1 (by simp;omega) (by simp;omega) (Nat.le_refl _)]
 ·rw[partF_more n _ _ (l.drop _) _ (by omega) (by simp;omega) (by simp;omega) (Nat.le_refl _)]
def pathR:Nat→Nat→Nat→Nat→List (Nat×Nat)
 | 0,_,_,_=>[]
 | f+1,a,b,i=>if b-a≤1 then [] else if i<a+below (b-a) then (a+below (b-a),b) :: pathR f a (a+below (b-a)) i else (a,a+below (b-a)) :: pathR f (a+below (b-a)) b i
def partR:Nat→Nat→Nat→Nat→List (Nat×Nat)
 | 0,_,_,_=>[]
 | f+1,a,b,m=>if b≤m then (if 0<a then [(a,b)] else []) else if m≤a+below (b-a) then (a+below (b-a),b) :: partR f a (a+below (b-a)) m else (a,a+below (b-a)) :: partR f (a+below (b-a)) b m
def part (l:List (List UInt8)) (a b:Nat):List (List UInt8):=(l.drop a).take (b-a)
theorem part_len {l:List (List UInt8)} {a b:Nat} (hb:b≤l.length):(part l a b).length=b-a:=by
 unfold part;rw[List.length_take,List.length_drop];omega
theorem part_take {l:List (List UInt8)} {a b k:Nat} (hk:a+k≤b):(part l a b).take k=part l a (a+k):=by
 unfold part;rw[List.take_take];congr 1;omega
theorem part_drop {l:List (List UInt8)} {a b k:Nat}:(part l a b).drop k=part l (a+k) b:=by
 unfold part;rw[List.drop_take,List.drop_drop];congr 1;omega
theorem pathR_eq (l:List (List UInt8)):∀ (f a b i:Nat),b-a≤f→a≤i→i<b→b≤l.length→(pathR f a b i).reverse.map (fun x=>rootOf (part l x.1 x.2))=pathOf (part l a b) (i-a)
 | 0,a,b,i,h,h1,h2,_=>by omega
 | f+1,a,b,i,h,h1,h2,h3=>by
  have hl:=part_len (l:=l) (a:=a) h3
  simp only[pathR]
  by_cases h4:b-a≤1
  ·rw[if_pos h4,pathOf_one (by omega)];rfl
  ·rw[if_neg h4,pathOf_more (by omega),hl]
   have hb:=below_lt (n:=b-a) (by omega)
   by_cases h5:i<a+below (b-a)
   ·rw[if_pos h5,if_pos (by omega),List.reverse_cons,List.map_append,pathR_eq l f a _ i (by omega) h1 h5 (by omega),part_take (by omega),part_drop]
    rfl
   ·rw[if_neg h5,if_neg (by omega),List.reverse_cons,List.map_append,pathR_eq l f _ b i (by omega) (by omega) h2 h3,part_take (by omega),part_drop]
    rw[show i-(a+below (b-a))=i-a-below (b-a) by omega]
    rfl
theorem partR_eq (l:List (List UInt8)):∀ (f a b m:Nat),b-a≤f→a<m→m≤b→b≤l.length→(partR f a b m).reverse.map (fun x=>rootOf (part l x.1 x.2))=partOf (m-a) (part l a b) (a == 0)
 | 0,a,b,m,h,h1,h2,_=>by omega
 | f+1,a,b,m,h,h1,h2,h3=>by
  have hl:=part_len (l:=l) (a:=a) h3
  simp only[partR]
  by_cases h4:b≤m
  ·obtain rfl:b=m:=by omega
   have:=partOf_all (part l a b) (a == 0) (by omega)
   rw[hl] at this
   rw[if_pos h4,this]
   rcases Nat.eq_zero_or_pos a with rfl|h0
   ·simp
   ·have:(a == 0)=false:=by simp;omega
    simp[this,h0]
  ·have hb:=below_lt (n:=b-a) (by omega)
   rw[if_neg h4,partOf_more (by omega) (by omega),hl]
   by_cases h5:m≤a+below (b-a)
   ·rw[if_pos h5,if_pos (by omega),List.reverse_cons,List.map_append,partR_eq l f a _ m (by omega) h1 h5 (by omega),part_take (by omega),part_drop]
    rfl
   ·rw[if_neg h5,if_neg (by omega),List.reverse_cons,List.map_append,partR_eq l f _ b m (by omega) (by omega) h2 h3,part_take (by omega),part_drop]
    rw[show m-(a+below (b-a))=m-a-below (b-a) by omega,show (a+below (b-a) == 0)=false by simp;omega]
    rfl
theorem pathR_mem:∀ (f a b i:Nat),b-a≤f→a≤i→i<b→∀ x∈pathR f a b i,x.1<x.2∧x.2≤b
 | 0,a,b,i,h,h1,h2,x,hx=>by simp[pathR] at hx
 | f+1,a,b,i,h,h1,h2,x,hx=>by
  simp only[pathR] at hx
  split at hx
  ·simp at hx
  ·have hb:=below_lt (n:=b-a) (by omega)
   split at hx
   ·rcases List.mem_cons.1 hx with rfl|hx
    ·exact⟨by show a+below (b-a)<b;omega,Nat.le_refl _⟩
    ·have:=pathR_mem f a _ i (by omega) h1 (by assumption) x hx
     exact⟨this.1,by omega⟩
   ·rcases List.mem_cons.1 hx with rfl|hx
    ·exact⟨by show a<a+below (b-a);omega,by show a+below (b-a)≤b;omega⟩
    ·exact pathR_mem f _ b i (by omega) (by omega) h2 x hx
theorem partR_mem:∀ (f a b m:Nat),b-a≤f→a<m→m≤b→∀ x∈partR f a b m,x.1<x.2∧x.2≤b
 | 0,a,b,m,h,h1,h2,x,hx=>by simp[partR] at hx
 | f+1,a,b,m,h,h1,h2,x,hx=>by
  simp only[partR] at hx
  split at hx
  ·split at hx
   ·simp at hx;subst hx;exact⟨by show a<b;omega,Nat.le_refl _⟩
   ·simp at hx
  ·have hb:=below_lt (n:=b-a) (by omega)
   split at hx
   ·rcases List.mem_cons.1 hx with rfl|hx
    ·exact⟨by show a+below (b-a)<b;omega,Nat.le_refl _⟩
    ·have:=partR_mem f a _ m (by omega) h1 (by assumption) x hx
     exact⟨this.1,by omega⟩
   ·rcases List.mem_cons.1 hx with rfl|hx
    ·exact⟨by show a<a+below (b-a);omega,by show a+below (b-a)≤b;omega⟩
    ·exact partR_mem f _ b m (by omega) (by omega) h2 x hx
theorem rebuildp_snoc (leaf last:Hsh) (i n:Nat) (q:List Hsh):rebuild leaf i n (q ++ [last])=if n=1 then none else if i<below n then (rebuild leaf i (below n) q).map (nodeH · last) else (rebuild leaf (i-below n) (n-below n) q).map (nodeH last ·):=by
 unfold rebuild below
 rw[List.reverse_append]
 rfl
theorem rebuild_path:∀ (f:Nat) (l:List (List UInt8)) (i:Nat),l.length≤f→i<l.length→rebuild (leafH (l.getD i [])) i l.length (pathOf l i)=some (rootOf l)
 | 0,l,i,h1,h=>by omega
 | f+1,l,i,h1,h=>by
  by_cases h2:2≤l.length
  ·have hb:=below_lt h2
   rw[pathOf_more h2,rootOf_more h2]
   by_cases h3:i<below l.length
   ·rw[if_pos h3,rebuildp_snoc,if_neg (by omega),if_pos h3]
    have:=rebuild_path f (l.take (below l.length)) i (by simp;omega) (by simp;omega)
    have he:(l.take (below l.length)).getD i []=l.getD i []:=by simp[List.getD_eq_getElem?_getD,h3]
    rw[he,List.length_take,Nat.min_eq_left (by omega)] at this
    rw[this];rfl
   ·rw[if_neg h3,rebuildp_snoc,if_neg (by omega),if_neg h3]
    have:=rebuild_path f (l.drop (below l.length)) (i-below l.length) (by simp;omega) (by simp;omega)
    have he:(l.drop (below l.length)).getD (i-below l.length) []=l.getD i []:=by
     rw[List.getD_eq_getElem?_getD,List.getD_eq_getElem?_getD,List.getElem?_drop];congr 2;omega
    rw[he,List.length_drop] at this
    rw[this];rfl
  ·obtain⟨e,rfl⟩:∃ e,l = [e]:=List.length_eq_one_iff.1 (by omega)
   simp only[List.length_cons,List.length_nil] at h
   obtain rfl:i=0:=by omega
   rfl
theorem roots_part:∀ (f:Nat) (l:List (List UInt8)) (m:Nat) (b:Bool),l.length≤f→l.length<9223372036854775808→1≤m→m≤l.length→roots m l.length (if b then some (rootOf (l.take m)) else none) (partOf m l b)=some (rootOf (l.take m),rootOf l)
 | 0,l,m,b,h1,hx,h,h2=>by omega
 | f+1,l,m,b,h1,hx,h,h2=>by
  rcases Nat.lt_or_ge m l.length with hlt|hge
  ·have hb:=below_lt (n:=l.length) (by omega)
   rw[partOf_more h hlt,rootOf_more (l:=l) (by omega)]
   by_cases h3:m≤below l.length
   ·rw[if_pos h3,rootsp_snoc,if_neg (by omega),if_pos h3]
    have:=roots_part f (l.take (below l.length)) m b (by simp;omega) (by simp;omega) h (by simp;omega)
    rw[List.take_take,List.length_take,Nat.min_eq_left h3,Nat.min_eq_left (by omega:below l.length≤l.length)] at this
    rw[this];rfl
   ·rw[if_neg h3,rootsp_snoc,if_neg (by omega),if_neg h3]
    have:=roots_part f (l.drop (below l.length)) (m-below l.length) false (by simp;omega) (by simp;omega) (by omega) (by simp;omega)
    rw[List.length_drop] at this
    simp only[Bool.false_eq_true,if_false] at this
    rw[this]
    have e1:rootOf (l.take m)=nodeH (rootOf (l.take (below l.length))) (rootOf ((l.drop (below l.length)).take (m-below l.length))):=by
     have hlm:(l.take m).length=m:=by simp;omega
     have hbm:below m=below l.length:=by
      obtain⟨e,he,_,h6,h7⟩:=bl_bd (n:=l.length) (by omega) hx
      have hbl:below l.length=2 ^ e:=by unfold below;rw[he,Nat.add_sub_cancel]
      rw[hbl] at h3 ⊢
      exact below_uniq (by omega) (by omega) (by omega) (by omega)
     rw[rootOf_more (by omega),hlm,hbm,List.take_take,Nat.min_eq_left (by omega),List.drop_take]
    rw[e1];rfl
  ·obtain rfl:m=l.length:=by omega
   rw[partOf_all l b h,List.take_of_length_le (Nat.le_refl _)]
   cases b
   ·simp only[Bool.false_eq_true,if_false];rw[rootsp_one]
   ·simp only[if_true];rw[rootsp_whole];rfl
end
section
theorem and_i64 (a b:Nat) (ha:a<9223372036854775808) (hb:b<9223372036854775808):bits .and .i64 (a:Int) (b:Int)=((a &&& b:Nat):Int):=by
 have h1:(BitVec.ofInt 64 (a:Int)).toNat=a:=by
  rw[BitVec.ofInt_natCast,BitVec.toNat_ofNat];exact Nat.mod_eq_of_lt (by omega)
 have h2:(BitVec.ofInt 64 (b:Int)).toNat=b:=by
  rw[BitVec.ofInt_natCast,BitVec.toNat_ofNat];exact Nat.mod_eq_of_lt (by omega)
 have h3:a &&& b≤a:=Nat.and_le_left
 show IntKind.i64.wrap ((BitVec.ofInt 64 (a:Int) &&& BitVec.ofInt 64 (b:Int)).toNat:Int)=_
 rw[BitVec.toNat_and,h1,h2]
 generalize a &&& b=c at *
 simp[IntKind.wrap,IntKind.bits,IntKind.signed]
 omega
theorem pow_of_and {n:Nat} (h1:1≤n) (hn:n<2 ^ 64) (h:n &&& (n-1)=0):n=2 ^ (Lib.bitLen n-1):=by
 obtain⟨e,he⟩:∃ e,e=Lib.bitLen n-1:=⟨_,rfl⟩
 have hb:=Lib.bitLenAux_bounds 64 n hn (by omega)
 have hb':2 ^ e≤n∧n<2 ^ e*2:=by
  rw[he]
  have hs:Lib.bitLen n=Lib.bitLenAux 64 n:=rfl
  rw[hs]
  obtain⟨a1,a2,a3⟩:=hb
  refine⟨a2,?_⟩
  rw[←Nat.pow_succ]
  have:(Lib.bitLenAux 64 n-1).succ=Lib.bitLenAux 64 n:=by omega
  rw[this]
  exact a3
 rw[←he]
 rcases Nat.lt_or_ge (2 ^ e) n with hlt|hge
 ·exfalso
  have t1:n.testBit e=true:=by
   rw[Nat.testBit_eq_decide_div_mod_eq,(Nat.div_eq_of_lt_le (k:=1) (by omega) (by omega):n / 2 ^ e=1)];rfl
  have t2:(n-1).testBit e=true:=by
   rw[Nat.testBit_eq_decide_div_mod_eq,(Nat.div_eq_of_lt_le (k:=1) (by omega) (by omega):(n-1) / 2 ^ e=1)];rfl
  have t3:(n &&& (n-1)).testBit e=true:=by rw[Nat.testBit_and,t1,t2];rfl
  rw[h] at t3
  simp at t3
 ·omega
end
section
structure Lie1 where
 path:ByteArray
 data:ByteArray
 fails:Bool
 times:Int
structure Nt where
 files:List Fil
 lies:List Lie1
 told:List Nat
 fetches:Nat
def liveAt (n:Nt) (p:ByteArray) (i:Nat):Bool:=match n.lies[i]? with
 | some l=>decide (l.path=p) && !(decide (0<l.times) && decide (l.times≤((n.told.getD i 0:Nat):Int)))
 | none=>false
def lieFrom (n:Nt) (p:ByteArray):Nat→Nat→Option Nat
 | 0,_=>none
 | k+1,i=>if liveAt n p i=true then some i else lieFrom n p k (i+1)
def lieOf (n:Nt) (p:ByteArray):Option Nat:=lieFrom n p n.lies.length 0
def fetchA (n:Nt) (p:ByteArray):Option (List UInt8):=match lieOf n p with
 | some i=>(n.lies[i]?).bind fun l=>if l.fails=true then none else some l.data.data.toList
 | none=>(getF n.files p).map (·.data.toList)
def fetchN (n:Nt) (p:ByteArray):Nt:=match lieOf n p with
 | some i=>{ n with fetches:=n.fetches+1,told:=n.told.set i (n.told.getD i 0+1) }
 | none=>{ n with fetches:=n.fetches+1 }
abbrev Kv:=ByteArray×List UInt8
structure Cch where
 most:Nat
 items:List Kv
def kvGet (l:List Kv) (p:ByteArray):Option (List UInt8):=(l.find? fun x=>decide (x.1=p)).map (·.2)
def kvDrop (l:List Kv) (p:ByteArray):List Kv:=l.filter fun x=>!decide (x.1=p)
def cacheGet (c:Cch) (p:ByteArray):Cch:=match kvGet c.items p with
 | some v=>{ c with items:=(p,v) :: kvDrop c.items p }
 | none=>c
def cachePut (c:Cch) (p:ByteArray) (v:List UInt8):Cch:=
 if c.most=0 then c else
 if (kvGet c.items p).isSome=true then { c with items:=(p,v) :: kvDrop c.items p } else
 if c.items.length=c.most then { c with items:=(p,v) :: c.items.dropLast } else { c with items:=(p,v) :: c.items }
structure Cs where
 net:Nt
 cache:Cch
 files:List Kv
inductive QErr where
 | miss (p:ByteArray)
 | panic
abbrev Qm (α:Type):=Cs→Except QErr α×Cs
def Qm.pure {α:Type} (a:α):Qm α:=fun s=>(.ok a,s)
def Qm.bind {α β:Type} (m:Qm α) (f:α→Qm β):Qm β:=fun s=>match m s with
 | (.ok a,s1)=>f a s1
 | (.error p,s1)=>(.error p,s1)
def keepQ (p:ByteArray) (b:List UInt8) (s:Cs):Cs:={ s with files:=s.files ++ [(p,b)] }
abbrev FitsF:=List UInt8→Nat→Nat→Option (List UInt8)
def tryQ (fits:FitsF) (q:ByteArray) (have' want:Nat) (s:Cs):Option (List UInt8):=(fetchA s.net q).bind fun data=>fits data have' want
def fetchedQ (q:ByteArray) (s:Cs):Cs:={ s with net:=fetchN s.net q }
def tileName (level:Int) (index w:Nat):ByteArray:=sOf (nameOf level index w)
def wideAt (index count:Nat):Nat:=min 4 (count-4*index)
def fetchQ (fits:FitsF) (level:Int) (index w:Nat):Qm (List UInt8):=fun s=>
 match tryQ fits (tileName level index w) w w s with
 | some b=>(.ok b,keepQ (tileName level index w) b (fetchedQ (tileName level index w) s))
 | none=>if w=4 then (.error (.miss (tileName level index w)),fetchedQ (tileName level index w) s) else
  match tryQ fits (tileName level index 4) 4 w (fetchedQ (tileName level index w) s) with
  | some b=>(.ok b,keepQ (tileName level index w) b (fetchedQ (tileName level index 4) (fetchedQ (tileName level index w) s)))
  | none=>(.error (.miss (tileName level index w)),fetchedQ (tileName level index 4) (fetchedQ (tileName level index w) s))
def fileQ (fits:FitsF) (level:Int) (index count:Nat):Qm (List UInt8):=fun s=>
 match kvGet s.files (tileName level index (wideAt index count)) with
 | some b=>(.ok b,s)
 | none=>match kvGet s.cache.items (tileName level index (wideAt index count)) with
  | some b=>(.ok b,keepQ (tileName level index (wideAt index count)) b { s with cache:=cacheGet s.cache (tileName level index (wideAt index count)) })
  | none=>fetchQ fits level index (wideAt index count) s
def fitsHash:FitsF:=fun data have' want=>if data.length=8*have' then some (data.take (8*want)) else none
def fitsBun:FitsF:=fun data have' want=>(unbundleOf data).bind fun l=>if l.length=have' then bundleOf (l.take want) else none
def hashAt (b:List UInt8) (k:Nat):Hsh:=eightOf (b.drop (8*k))
def partQ (b:List UInt8) (k:Nat):Qm Hsh:=fun s=>if b.length<8*k then (.error .panic,s) else (.ok (hashAt b k),s)
def evenQ (n level index:Nat):Qm Hsh:=Qm.bind (fileQ fitsHash ((level / 2:Nat):Int) (index / 4) (n / 2 ^ level)) fun b=>partQ b (index%4)
def fullQ (n level index:Nat):Qm Hsh:=
 if level%2=1 then Qm.bind (evenQ n (level-1) (2*index)) fun a=>Qm.bind (evenQ n (level-1) (2*index+1)) fun b=>Qm.pure (nodeH a b)
 else evenQ n level index
def rootQ (N:Nat):Nat→Nat→Nat→Qm Hsh
 | 0,_,_=>fun s=>(.error .panic,s)
 | f+1,i,n=>if n &&& (n-1)=0∧i%n=0 then fullQ N (Lib.bitLen n-1) (i / n)
  else Qm.bind (rootQ N f i (below n)) fun a=>Qm.bind (rootQ N f (i+below n) (n-below n)) fun b=>Qm.pure (nodeH a b)
def gatherQ (N:Nat):List (Nat×Nat)→Qm (List Hsh)
 | []=>Qm.pure []
 | x :: xs=>Qm.bind (rootQ N (x.2-x.1) x.1 (x.2-x.1)) fun h=>Qm.bind (gatherQ N xs) fun l=>Qm.pure (h :: l)
def askQ (net:Nt) (cache:Cch):Cs:=⟨net,cache,[]⟩
def rememberQ (c:Cch):List Kv→Cch
 | []=>c
 | x :: xs=>rememberQ (cachePut c x.1 x.2) xs
def readQ (N i:Nat):Qm (List UInt8×List Hsh):=
 Qm.bind (fileQ fitsBun (-1) (i / 4) N) fun b=>match ((unbundleOf b).getD [])[i%4]? with
  | none=>fun s=>(.error .panic,s)
  | some e=>Qm.bind (gatherQ N (pathR N 0 N i).reverse) fun p=>Qm.pure (e,p)
def proofQ (m N:Nat):Qm (List Hsh):=gatherQ N (partR N 0 N m).reverse
end
section
def HS (h:Hsh):ByteArray:=⟨h.toArray⟩
end
section
theorem info8:(prog.info? 109).map (·.size)=some 8:=by kernel_rfl
theorem h8_0 (a:Hsh):(h8 a)[0]?=some (u8 a[0]):=by simp[h8]
theorem h8_1 (a:Hsh):(h8 a)[1]?=some (u8 a[1]):=by simp[h8]
theorem h8_2 (a:Hsh):(h8 a)[2]?=some (u8 a[2]):=by simp[h8]
theorem h8_3 (a:Hsh):(h8 a)[3]?=some (u8 a[3]):=by simp[h8]
theorem h8_4 (a:Hsh):(h8 a)[4]?=some (u8 a[4]):=by simp[h8]
theorem h8_5 (a:Hsh):(h8 a)[5]?=some (u8 a[5]):=by simp[h8]
theorem h8_6 (a:Hsh):(h8 a)[6]?=some (u8 a[6]):=by simp[h8]
theorem h8_7 (a:Hsh):(h8 a)[7]?=some (u8 a[7]):=by simp[h8]
theorem h8_fold (a:Hsh):(#[u8 a[0],u8 a[1],u8 a[2],u8 a[3],u8 a[4],u8 a[5],u8 a[6],u8 a[7]]:Array Value)=h8 a:=by
 apply Array.ext
 ·simp
 ·intro i h1 h2
  have:i=0∨i=1∨i=2∨i=3∨i=4∨i=5∨i=6∨i=7:=by simp at h1;omega
  rcases this with rfl|rfl|rfl|rfl|rfl|rfl|rfl|rfl <;> simp[h8]
theorem h8_list (a:Hsh):(h8 a).toList = [u8 a[0],u8 a[1],u8 a[2],u8 a[3],u8 a[4],u8 a[5],u8 a[6],u8 a[7]]:=by
 rw[←h8_fold]
theorem run_store8 {P:Program} {w:World} {g:Nat} (k:Hsh) (h:Is8 w g):Sem.run P (storeCells ⟨g,0,none⟩ (h8 k).toList) w=.ok () (w.setRow g (h8 k)):=by
 obtain⟨h0,hh⟩:=h
 have hst:=run_storeCells_at P g 0 109 (h8 k).toList 0 (h8 h0) w hh (by simp) (fun u hu=>by
  have:=h8_one k
  rw[Array.all_eq_true'] at this
  exact this u (by simpa using hu))
 simp only[Nat.zero_add,Nat.add_zero] at hst
 rw[hst]
 congr 2
 apply Array.ext'
 simp
theorem below_nest5 (w:World) (a b c d e:Obj):Below w.heap.size w (((((w.alloc a).alloc b).alloc c).alloc d).alloc e).drew:=
 ((((((Below.refl _ _).alloc (Nat.le_refl _) _).alloc (by simp) _).alloc (by simp;omega) _).alloc (by simp;omega) _).alloc (by simp;omega) _).drew
section
attribute [local go_sem] h8_0 h8_1 h8_2 h8_3 h8_4 h8_5 h8_6 h8_7 h8_fold h8_size run_store8
theorem leaf_any (v:Value) (l:List UInt8) (w:World) (h:BytesAt w v l) (hn:l.length≤9223372036854775807) :
  Calls prog 72 #[v] w fun e w'=>e=.returned (.agg (h8 (leafH l)))∧Below w.heap.size w w':=by
 obtain⟨a,c,rfl⟩:∃ a c,v=.slice a l.length c:=by obtain⟨a,c,h1,_,_⟩:=h;exact⟨a,c,h1⟩
 have HH:=zh h
 clear h
 go_enter func72,ntmps72
 go_wp2_with fail
 refine (sum_any _ [[0],l] _ (bss2 (fz:=(0,0)) (heap_alloc_new' _ _ _ (by simp)) ?_ ?_) (by simp) (by simp;omega)).mono ?_
 ·exact (bytes1 (x:=0) (fz:=(0,0)) (heap_alloc_new' _ _ _ (by simp))).below (below_alloc _ _)
 ·exact ((HH.o.below (below_alloc _ _)).below (below_alloc _ _)).below (below_alloc _ _)
 rintro e w1 ⟨rfl,hb⟩
 go_wp2_with (first|(refine wpList_store8 rfl 109 _ _ rfl _ _ rfl rfl info8 ?_ ?_ ?_;rotate_left;focus ((repeat(first|(with_reducible first|assumption|exact hashOf_set' ⟨_,by assumption⟩ _)|((with_reducible first|refine hashOf_zero' ?_|refine hashOf_at ?_|refine hashOf_set' (Is8_zero ?_) _);(first|rfl|(simp;done)|(simp;omega)))|with_reducible refine hashOf_old ?_ _|((with_reducible refine hashOf_other ?_ _ ?_);rotate_left;(focus(first|(simp;done)|(simp;omega)|omega)))|with_reducible first|refine hashOf_drew ?_|refine hashOf_below ?_ (by assumption)));done)))
 have hz:hashOf w1 w.heap.size zero8:=by
  (repeat(first|(with_reducible first|assumption|exact hashOf_set' ⟨_,by assumption⟩ _)|((with_reducible first|refine hashOf_zero' ?_|refine hashOf_at ?_|refine hashOf_set' (Is8_zero ?_) _);(first|rfl|(simp;done)|(simp;omega)))|with_reducible refine hashOf_old ?_ _|((with_reducible refine hashOf_other ?_ _ ?_);rotate_left;(focus(first|(simp;done)|(simp;omega)|omega)))|with_reducible first|refine hashOf_drew ?_|refine hashOf_below ?_ (by assumption)))
 refine ret8 w.heap.size (leafH l) rfl rfl _ underlying109 info8 (by simpa [leafH] using hashOf_set hz _) rfl ⟨rfl,?_⟩
 exact below_setRow ((((below_alloc w _).alloc (by simp) _).alloc (by simp;omega) _).trans (hb.mono (by simp;omega))) (by omega) _
theorem node_any (a b:Hsh) (w:World) :
  Calls prog 129 #[.agg (h8 a),.agg (h8 b)] w fun e w'=>e=.returned (.agg (h8 (nodeH a b)))∧Below w.heap.size w w':=by
 go_enter func129,ntmps129
 go_wp2_with fail
 go_region_with (go_at_call 66;refine (sum_any _ _ _ (node_bss w a b _) (by simp) (by simp)).mono ?_;rintro e w1 ⟨rfl,hb⟩;have HB:=zh hb;have hz:w.heap.size+4<w1.heap.size:=(by have:=hb.size;simp at this;omega);have hI8:Is8 w1 (w.heap.size+1+1):=⟨zero8,hashOf_below (hashOf_drew (hashOf_old (hashOf_old (hashOf_zero' (by simp)) _) _)) hb⟩;clear hb)
 go_wp2
 obtain⟨z,hz8⟩:=hI8
 refine ret8 (w.heap.size+1+1) (nodeH a b) rfl rfl _ underlying109 info8 (hashOf_set hz8 _) rfl ⟨rfl,?_⟩
 exact below_setRow ((below_nest5 w _ _ _ _ _).trans (HB.o.mono (by simp;omega))) (by omega) _
end
end
section
theorem eight_list (l:List UInt8):(l.take 8).map u8++(List.replicate 8 (Value.int .u8 0)).drop (min l.length 8)=(h8 (eightOf l)).toList:=by
 rw[h8_list]
 match l with
 | []=>rfl
 | [_]=>rfl
 | [_,_]=>rfl
 | [_,_,_]=>rfl
 | [_,_,_,_]=>rfl
 | [_,_,_,_,_]=>rfl
 | [_,_,_,_,_,_]=>rfl
 | [_,_,_,_,_,_,_]=>rfl
 | a0 :: a1 :: a2 :: a3 :: a4 :: a5 :: a6 :: a7 :: r=>
  have:min (a0 :: a1 :: a2 :: a3 :: a4 :: a5 :: a6 :: a7 :: r).length 8=8:=by simp
  rw[this]
  rfl
theorem info_u8:(prog.info? 5).map (fun i=>(i.zero,i.size,i.bytes))=some (some (.int .u8 0),1,1):=by kernel_rfl
end
section
def HashesAt (w:World) (v:Value) (hs:List Hsh):Prop:=Cells w v hs.length (hs.flatMap fun h=>(h8 h).toList)
def OwnHs (w:World) (base:Nat) (v:Value) (hs:List Hsh):Prop:=w.ownsRow base 109 8 v hs.length (hs.flatMap fun h=>(h8 h).toList)
theorem OwnHs.at {w:World} {base:Nat} {v:Value} {hs:List Hsh} (h:OwnHs w base v hs):HashesAt w v hs:=ownsRow_cells h
theorem info_str:(prog.info? 9).map (fun i=>(i.zero,i.size,i.bytes))=some (some (.string ⟨#[]⟩),1,16):=by kernel_rfl
theorem info_hash:(prog.info? 109).map (fun i=>(i.zero,i.size,i.bytes))=some (some (.agg zc),8,8):=by kernel_rfl
theorem fill8 (h:Hsh) (sz:Nat) (hs:sz=8) (Z:Array Value) (hZ:Z.size=8):Instr.fill (fun i=>some (i*sz,sz)) Z [(0,.agg (h8 h))]=some (h8 h):=by
 subst hs
 obtain⟨l⟩:=Z
 match l,hZ with
 | [a0,a1,a2,a3,a4,a5,a6,a7],_=>
  rw[←h8_fold h]
  simp[Instr.fill,Value.cells]
theorem wpList_bs8 {P:Program} {ops:Array Oper} {rest:List Oper} {o:Oper} {a:Act} {Q:Exit→Act→World→Prop} {w:World} (hg:o.guard=none) (t:TypeId) (x:Operand) (ho:o.op=.buildSlice t 1 #[(0,x)])
  (i:TypeInfo) (hu:P.underlying t=some (.slice 109)) (hi:P.info? 109=some i) (hz:i.zero=some (.agg (h8 zero8))) (hsize:i.size=8) (h:Hsh) (hx:a.eval x=.agg (h8 h))
  (hk:wpList P ops Q rest (a.put o.dst (.slice (some ⟨w.heap.size,0,none⟩) 1 1)) (w.alloc (.cells (h8 h) 109))):wpList P ops Q (o :: rest) a w:=
 wpList_plain hg fun _ hK=>wp_buildSlice t 109 1 _ ho (h8 h) i _ hu hi hz (by omega) (by omega) (by
  simp only[List.map_toArray,List.map_cons,List.map_nil,hx]
  exact fill8 h _ hsize _ (by simp[hsize])) (hK _ _ hk)
end
end Go.Proofs.YtefccfakhgdfbabGreatDoor
