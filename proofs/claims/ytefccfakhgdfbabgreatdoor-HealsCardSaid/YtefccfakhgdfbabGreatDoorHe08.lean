/- The walk of tilesref.Sign. -/
import Derived.Test.YtefccfakhgdfbabGreatDoorHe07
import Derived.Deep.AppendLies
set_option linter.unusedVariables false
set_option linter.unusedSimpArgs false
open Go.RowKit Go.Proofs.Tryz
set_option maxRecDepth 100000
set_option maxHeartbeats 4000000
namespace Go.Proofs.YtefccfakhgdfbabGreatDoor
section
theorem bytes_one {a b:ByteArray} (h:a.data.toList=b.data.toList):a=b:=ByteArray.ext (Array.toList_inj.1 h)
def DiskTrue (es:List (List UInt8)) (l:List Fil):Prop:=∀ f∈l,f.1=sOf kCp∨TileOk es f.1 f.2.data.toList
def DiskHas (es:List (List UInt8)) (N:Nat) (l:List Fil):Prop:=∀ f∈filesP (es.take N),getF l f.1=some f.2
def HasBun (es:List (List UInt8)) (l:List Fil):Prop:=∀ j,4*j<es.length→getF l (bunName j (min 4 (es.length-4*j)))=some (sOf (cutR (es.map encE) j (min 4 (es.length-4*j))))
theorem fileOf_cut (t:Int) (r:List (List UInt8)) (j:Nat):fileOf t r j=(tileName t j (min 4 (r.length-4*j)),sOf (cutR r j (min 4 (r.length-4*j)))):=by
 unfold fileOf tileName cutR
 congr 3
 rw[←List.length_drop]
 rcases Nat.le_total 4 (r.drop (4*j)).length with h|h
 ·rw[Nat.min_eq_left h]
 ·rw[Nat.min_eq_right h,List.take_of_length_le h,List.take_of_length_le (Nat.le_refl _)]
theorem file_tile {es:List (List UInt8)} {f:Fil} (h:f∈filesP es):∃ (m j:Nat) (r:List (List UInt8)),(rowsOf es)[m]?=some r∧4*j<r.length∧f=(tileName ((m:Int)-1) j (min 4 (r.length-4*j)),sOf (cutR r j (min 4 (r.length-4*j)))):=by
 obtain⟨m,r,j,h1,h2,rfl⟩:=(filesR_mem (rowsOf es) (-1)).1 h
 refine⟨m,j,r,h1,h2,?_⟩
 rw[fileOf_cut,show (-1:Int)+(m:Int)=(m:Int)-1 by omega]
theorem tile_file {es:List (List UInt8)} {m j:Nat} {r:List (List UInt8)} (h1:(rowsOf es)[m]?=some r) (h2:4*j<r.length):(tileName ((m:Int)-1) j (min 4 (r.length-4*j)),sOf (cutR r j (min 4 (r.length-4*j))))∈filesP es:=
 (filesR_mem (rowsOf es) (-1)).2 ⟨m,r,j,h1,h2,by rw[fileOf_cut,show (-1:Int)+(m:Int)=(m:Int)-1 by omega]⟩
theorem tileOk_file {es:List (List UInt8)} {f:Fil} (h:f∈filesP es):TileOk es f.1 f.2.data.toList:=by
 obtain⟨m,j,r,h1,h2,rfl⟩:=file_tile h
 exact⟨m,j,min 4 (r.length-4*j),r,h1,by omega,by omega,by omega,rfl,rfl⟩
theorem TileOk.more {es:List (List UInt8)} {p:ByteArray} {b:List UInt8} (h:TileOk es p b) (xs:List (List UInt8)):TileOk (es++xs) p b:=by
 obtain⟨m,j,w,r,h1,h2,h3,h4,h5,rfl⟩:=h
 obtain⟨r0,s,k1,rfl⟩:=rows_take (es++xs) es.length (m:=m) (r:=r) (by rw[List.take_left];exact h1)
 exact⟨m,j,w,_,k1,h2,h3,by rw[List.length_append];omega,h5,(cutR_append h4).symm⟩
theorem TileOk.not_cp {es:List (List UInt8)} {p:ByteArray} {b:List UInt8} (h:TileOk es p b):p≠sOf kCp:=by
 obtain⟨m,j,w,r,_,_,_,_,rfl,_⟩:=h
 exact fun e=>nameOf_cp _ _ _ (sOf_inj e)
theorem tileOk_uniq {es:List (List UInt8)} (hl:es.length≤1048576) {p:ByteArray} {a b:List UInt8} (h:TileOk es p a) (k:TileOk es p b):a=b:=by
 obtain⟨m,j,w,r,h1,h2,h3,h4,rfl,rfl⟩:=h
 exact (tile_one hl h1 h2 h3 h4 k).symm
theorem DiskTrue.more {es:List (List UInt8)} {l:List Fil} (h:DiskTrue es l) (xs:List (List UInt8)):DiskTrue (es++xs) l:=fun f hf=>(h f hf).imp id fun k=>k.more xs
theorem DiskTrue.nil (es:List (List UInt8)):DiskTrue es []:=fun f hf=>by simp at hf
theorem DiskTrue.noClash {es:List (List UInt8)} {l:List Fil} (h:DiskTrue es l) (hl:es.length≤1048576):NoClash (filesP es) l:=fun f hf=>by
 rw[clashF_false]
 cases hg:getF l f.1 with
 | none=>exact .inl rfl
 | some b=>
  right
  rcases h _ (getF_some hg) with h1|h1
  ·exact absurd h1 (tileOk_file hf).not_cp
  ·exact congrArg some (bytes_one (tileOk_uniq (p:=f.1) (a:=b.data.toList) (b:=f.2.data.toList) hl h1 (tileOk_file hf)))
theorem DiskHas.kept {es:List (List UInt8)} {N:Nat} {l l' W:List Fil} {c:ByteArray} (h:DiskHas es N l) (k:KeptP l l' W c):DiskHas es N l':=fun f hf=>by
 rcases k f.1 with h1|⟨h1,_⟩|⟨h1,_⟩
 ·rw[h1];exact h f hf
 ·rw[h f hf] at h1;cases h1
 ·exact absurd h1 (tileOk_file hf).not_cp
theorem DiskHas.zero (es:List (List UInt8)) (l:List Fil):DiskHas es 0 l:=fun f hf=>by
 obtain⟨m,j,r,h1,h2,_⟩:=file_tile hf
 have:=rowsOf_short (List.mem_of_getElem? h1)
 simp at this
 subst this
 simp at h2
theorem unbundle_cut {es:List (List UInt8)} (hs:∀ e∈es,e.length≤20) {j w:Nat} (h1:1≤w) (h4:w≤4) (hw:4*j+w≤es.length):unbundleOf (cutR (es.map encE) j w)=some ((es.drop (4*j)).take w):=by
 have hcut:cutR (es.map encE) j w=((es.drop (4*j)).take w).flatMap encE:=by
  unfold cutR
  rw[←List.map_drop,←List.map_take,List.flatMap_def]
 rw[hcut]
 have hll:((es.drop (4*j)).take w).length=w:=by rw[List.length_take,List.length_drop];omega
 have hsn:∀ x∈(es.drop (4*j)).take w,x.length≤20:=fun x hx=>hs x (List.mem_of_mem_drop (List.mem_of_mem_take hx))
 refine unbundle_ok ?_ (by omega) (by omega) hsn
 have key:∀ l:List (List UInt8),(∀ x∈l,x.length≤20)→rawU (l.flatMap encE)=some l:=by
  intro l
  induction l with
  | nil=>intro _;rfl
  | cons a l ih=>
   intro h
   have ha:=h a List.mem_cons_self
   have h20:(UInt8.ofNat a.length).toNat=a.length:=by rw[UInt8.toNat_ofNat'];omega
   rw[List.flatMap_cons]
   show rawU (UInt8.ofNat a.length :: (a++l.flatMap encE))=_
   rw[rawU_cons,h20,if_pos (by simp),List.drop_left,List.take_left,ih fun x hx=>h x (List.mem_cons_of_mem _ hx)]
   rfl
 exact key _ hsn
theorem bundle_cut {es:List (List UInt8)} (hs:∀ e∈es,e.length≤20) {j w:Nat} (h1:1≤w) (h4:w≤4) (hw:4*j+w≤es.length):bundleOf ((es.drop (4*j)).take w)=some (cutR (es.map encE) j w):=by
 have hll:((es.drop (4*j)).take w).length=w:=by rw[List.length_take,List.length_drop];omega
 rw[bundle_some (by omega) (by omega) fun k l hjl=>hs l (List.mem_of_mem_drop (List.mem_of_mem_take (List.mem_of_getElem? hjl)))]
 unfold cutR
 rw[←List.map_drop,←List.map_take,List.flatMap_def]
theorem bundleF_cut {es:List (List UInt8)} (hs:∀ e∈es,e.length≤20) {l:List Fil} {j w:Nat} (h1:1≤w) (h4:w≤4) (hw:4*j+w≤es.length) (hg:getF l (bunName j w)=some (sOf (cutR (es.map encE) j w))):bundleF l j w=some ((es.drop (4*j)).take w):=by
 rw[bundleF_ok hg (unbundle_cut hs h1 h4 hw),if_pos (by rw[List.length_take,List.length_drop];omega)]
theorem flat_take {k:Nat} (l:List (List UInt8)) (q:Nat) (h:∀ x∈l,x.length=k):l.flatten.take (k*q)=(l.take q).flatten:=by
 have e:=flat_drop l q h
 have e2:l.flatten=(l.take q).flatten++(l.drop q).flatten:=by rw[←List.flatten_append,List.take_append_drop]
 rcases Nat.le_total q l.length with hq|hq
 ·have hl:(l.take q).flatten.length=k*q:=by
   have:=cutR_len (r:=l) (j:=0) (w:=q) (k:=k) (by omega) h
   unfold cutR at this
   simpa using this
  rw[e2,List.take_append_of_le_length (by omega),List.take_of_length_le (by omega)]
 ·rw[List.take_of_length_le hq,List.take_of_length_le]
  have:=cutR_len (r:=l) (j:=0) (w:=l.length) (k:=k) (by omega) h
  unfold cutR at this
  simp at this
  rw[List.length_flatten]
  rw[this]
  exact Nat.mul_le_mul_left _ hq
theorem fits_cut {es:List (List UInt8)} (hs:∀ e∈es,e.length≤20) {m j w0 w:Nat} {r:List (List UInt8)} {b:List UInt8} (hr:(rowsOf es)[m]?=some r) (h1:1≤w) (hw:w≤w0) (h4:w0≤4) (hj:4*j+w0≤r.length) (h:fitsOf m (cutR r j w0) w0 w=some b):b=cutR r j w:=by
 rcases rowsOf_row hr with ⟨rfl,rfl⟩|⟨k,rfl,hk,rfl⟩
 ·rw[List.length_map] at hj
  unfold fitsOf at h
  rw[if_pos rfl] at h
  unfold fitsBun at h
  rw[unbundle_cut hs (by omega) h4 hj,Option.bind_some,if_pos (by rw[List.length_take,List.length_drop];omega),List.take_take,Nat.min_eq_left hw,bundle_cut hs h1 (by omega) (by omega)] at h
  exact (Option.some.inj h).symm
 ·unfold fitsOf at h
  rw[if_neg (by omega)] at h
  unfold fitsHash at h
  have h8:∀ x∈(levelRow es k).map (fun (x:Hsh)=>x.toList),x.length=8:=fun x hx=>by
   obtain⟨y,_,rfl⟩:=List.mem_map.1 hx
   simp
  rw[if_pos (cutR_len hj h8)] at h
  rw[←Option.some.inj h]
  unfold cutR
  rw[flat_take _ _ fun x hx=>h8 x (List.mem_of_mem_drop (List.mem_of_mem_take hx)),List.take_take,Nat.min_eq_left hw]
theorem tile_at {es:List (List UInt8)} (hl:es.length≤1048576) {m j w0:Nat} {r:List (List UInt8)} (hr:(rowsOf es)[m]?=some r) (h1:1≤w0) (h4:w0≤4) (hj:4*j<r.length) {b:List UInt8} (h:TileOk es (tileName ((m:Int)-1) j w0) b):b=cutR r j w0∧4*j+w0≤r.length:=by
 obtain⟨m',j',w',r',k1,k2,k3,k4,k5,rfl⟩:=h
 have a:=tile_ok hl hr (Nat.le_refl 1) (by decide) (show 4*j+1≤r.length by omega)
 have c:=tile_ok hl k1 k2 k3 k4
 have a':nameOk ((m:Int)-1) j w0:=by
  have:=a.1
  unfold nameOk at this ⊢
  omega
 have e:=nameOf_inj a' c.1 a.2 c.2 (sOf_inj k5)
 obtain rfl:m=m':=by omega
 obtain rfl:j=j':=by omega
 obtain rfl:w0=w':=by omega
 rw[hr] at k1
 cases k1
 exact⟨rfl,k4⟩
theorem netTrue_plain {es:List (List UInt8)} (hl:es.length≤1048576) (hs:∀ e∈es,e.length≤20) {n:Nt} (h:DiskTrue es n.files) (h0:n.lies = []):NetTrue es n where
 steady:=by unfold Steady;rw[h0];intro l hl;simp at hl
 fits m j w0 w r data b h1 h2 h3 h4 h5 h6 h7 h8:=by
  have hlie:lieOf n (tileName ((m:Int)-1) j w0)=none:=by unfold lieOf;rw[h0];rfl
  unfold fetchA at h7
  rw[hlie] at h7
  obtain⟨x,hx,rfl⟩:=Option.map_eq_some_iff.1 h7
  rcases h _ (getF_some hx) with k|k
  ·exact absurd k fun e=>nameOf_cp _ _ _ (sOf_inj e)
  ·obtain⟨e,hj⟩:=tile_at hl h1 (by omega) h4 (by omega) k
   dsimp only at e h8
   rw[e] at h8
   exact fits_cut hs h1 h2 h3 h4 hj h8
theorem netHas_plain {es:List (List UInt8)} {N:Nat} {n:Nt} (h:DiskHas es N n.files) (h0:n.lies = []):NetHas es N n:=fun m j r h1 h2=>by
 have hlie:lieOf n (tileName ((m:Int)-1) j (min 4 (r.length-4*j)))=none:=by unfold lieOf;rw[h0];rfl
 unfold fetchA
 rw[hlie]
 have:=h _ (tile_file h1 h2)
 dsimp only at this ⊢
 rw[this]
 rfl
theorem fetch_cp {n:Nt} {c:ByteArray} (h:getF n.files (sOf kCp)=some c) (h0:n.lies = []):fetchA n (sOf kCp)=some c.data.toList:=by
 unfold fetchA
 rw[show lieOf n (sOf kCp)=none by unfold lieOf;rw[h0];rfl,h]
 rfl
end
section
def CutLie (l:List Fil) (x:Lie1):Prop:=x.times≤0∧∃ f∈l,x.path=f.1∧x.data.data.toList=f.2.data.toList.dropLast
theorem lieFrom_at {n:Nt} {p:ByteArray}:∀ {k i j:Nat},lieFrom n p k i=some j→∃ x,n.lies[j]?=some x∧x.path=p
 | 0,i,j,h=>by cases h
 | k+1,i,j,h=>by
  rw[lieFrom] at h
  split at h
  ·rename_i hl
   cases h
   unfold liveAt at hl
   cases hx:n.lies[i]? with
   | none=>rw[hx] at hl;cases hl
   | some x=>
    rw[hx] at hl
    dsimp only at hl
    rw[Bool.and_eq_true] at hl
    exact⟨x,rfl,of_decide_eq_true hl.1⟩
  ·exact lieFrom_at h
theorem fetch_cut {n:Nt} (hc:∀ x∈n.lies,CutLie n.files x) {p:ByteArray} {data:List UInt8} (h:fetchA n p=some data):∃ b,(p,b)∈n.files∧(data=b.data.toList∨data=b.data.toList.dropLast):=by
 unfold fetchA at h
 cases hl:lieOf n p with
 | none=>
  rw[hl] at h
  obtain⟨b,hb,rfl⟩:=Option.map_eq_some_iff.1 h
  exact⟨b,getF_some hb,.inl rfl⟩
 | some i=>
  rw[hl] at h
  obtain⟨x,hx,hp⟩:=lieFrom_at hl
  dsimp only at h
  rw[hx,Option.bind_some] at h
  split at h
  ·cases h
  ·obtain⟨_,f,hf,h1,h2⟩:=hc x (List.mem_of_getElem? hx)
   refine⟨f.2,?_,.inr ?_⟩
   ·rw[←hp,h1];exact hf
   ·rw[←Option.some.inj h];exact h2
theorem enc_short:∀ (a b:List (List UInt8)) (c:UInt8),(∀ x∈a,x.length≤20)→(∀ x∈b,x.length≤20)→a.length=b.length→a.flatMap encE ++ [c]=b.flatMap encE→False
 | [],[],c,_,_,_,h=>by simp at h
 | [],_ :: _,_,_,_,hl,_=>by simp at hl
 | _ :: _,[],_,_,_,hl,_=>by simp at hl
 | x :: a,y :: b,c,ha,hb,hl,h=>by
  rw[List.flatMap_cons,List.flatMap_cons] at h
  unfold encE at h
  rw[List.cons_append,List.cons_append,List.cons_append] at h
  injection h with h1 h2
  have hx:=ha x List.mem_cons_self
  have hy:=hb y List.mem_cons_self
  have e:x.length=y.length:=by
   have:=congrArg UInt8.toNat h1
   rw[UInt8.toNat_ofNat',UInt8.toNat_ofNat'] at this
   omega
  rw[List.append_assoc] at h2
  have h3:=(List.append_inj h2 e).2
  exact enc_short a b c (fun z hz=>ha z (List.mem_cons_of_mem _ hz)) (fun z hz=>hb z (List.mem_cons_of_mem _ hz)) (by simpa using hl) h3
theorem fits_short {es:List (List UInt8)} (hs:∀ e∈es,e.length≤20) {m j w0 w:Nat} {r:List (List UInt8)} (hr:(rowsOf es)[m]?=some r) (h1:1≤w0) (hj:4*j+w0≤r.length):fitsOf m (cutR r j w0).dropLast w0 w=none:=by
 rcases rowsOf_row hr with ⟨rfl,rfl⟩|⟨k,rfl,hk,rfl⟩
 ·rw[List.length_map] at hj
  unfold fitsOf
  rw[if_pos rfl]
  unfold fitsBun
  cases hu:unbundleOf (cutR (es.map encE) j w0).dropLast with
  | none=>rfl
  | some l=>
   rw[Option.bind_some]
   by_cases hll:l.length=w0
   ·exfalso
    have hlen:=(unbundleOf_lens hu).2.2
    have hflat:l.flatMap encE=(cutR (es.map encE) j w0).dropLast:=by
     unfold unbundleOf at hu
     obtain⟨l',h2,h3⟩:=Option.bind_eq_some_iff.1 hu
     split at h3
     ·cases h3
      exact unbundle_flat h2
     ·cases h3
    have hcut:cutR (es.map encE) j w0=((es.drop (4*j)).take w0).flatMap encE:=by
     unfold cutR
     rw[←List.map_drop,←List.map_take,List.flatMap_def]
    have hl2:((es.drop (4*j)).take w0).length=w0:=by rw[List.length_take,List.length_drop];omega
    have hne:cutR (es.map encE) j w0≠[]:=by
     rw[hcut]
     cases hc:(es.drop (4*j)).take w0 with
     | nil=>rw[hc] at hl2;simp at hl2;omega
     | cons a t=>rw[List.flatMap_cons];unfold encE;simp
    refine enc_short l ((es.drop (4*j)).take w0) ((cutR (es.map encE) j w0).getLast hne) hlen (fun x hx=>hs x (List.mem_of_mem_drop (List.mem_of_mem_take hx))) (by rw[hll,hl2]) ?_
    rw[hflat,List.dropLast_concat_getLast,hcut]
   ·rw[if_neg hll]
 ·unfold fitsOf
  rw[if_neg (by omega)]
  unfold fitsHash
  have h8:∀ x∈(levelRow es k).map (fun (x:Hsh)=>x.toList),x.length=8:=fun x hx=>by
   obtain⟨y,_,rfl⟩:=List.mem_map.1 hx
   simp
  have:=cutR_len hj h8
  rw[if_neg (by rw[List.length_dropLast,this];omega)]
theorem netTrue_cut {es:List (List UInt8)} (hl:es.length≤1048576) (hs:∀ e∈es,e.length≤20) {n:Nt} (h:DiskTrue es n.files) (hc:∀ x∈n.lies,CutLie n.files x):NetTrue es n where
 steady:=fun x hx=>(hc x hx).1
 fits m j w0 w r data b h1 h2 h3 h4 h5 h6 h7 h8:=by
  obtain⟨x,hx,hd⟩:=fetch_cut hc h7
  rcases h _ hx with k|k
  ·exact absurd k fun e=>nameOf_cp _ _ _ (sOf_inj e)
  ·obtain⟨e,hj⟩:=tile_at hl h1 (by omega) h4 (by omega) k
   dsimp only at e
   rw[e] at hd
   rcases hd with rfl|rfl
   ·exact fits_cut hs h1 h2 h3 h4 hj h8
   ·rw[fits_short hs h1 (by omega) hj] at h8
    cases h8
theorem check_short (n:Nat) (h:Hsh) (key key2:List UInt8):(checkGo (signOf n h key).dropLast key2).2.2=false:=by
 cases hq:(checkGo (signOf n h key).dropLast key2).2.2 with
 | false=>rfl
 | true=>
  exfalso
  have hs:=((checkGo_sound (signOf n h key).dropLast key2).1 hq).2.2
  have e1:(signOf n h key).dropLast=headOf n h++hexOf (hash (key++0 :: headOf n h)).toList:=by
   unfold signOf
   rw[List.dropLast_concat]
  rw[e1] at hs
  unfold signOf at hs
  have e2:∀ x:Hsh,∃ c t,hexOf x.toList=t ++ [c]∧c≠10:=fun x=>by
   have hl:(hexOf x.toList).length=16:=by rw[hexOf_len];simp
   have hne:hexOf x.toList≠[]:=fun e=>by rw[e] at hl;simp at hl
   exact⟨(hexOf x.toList).getLast hne,(hexOf x.toList).dropLast,(List.dropLast_concat_getLast hne).symm,hexOf_ne _ _ (List.getLast_mem hne)⟩
  obtain⟨c,t,h1,h2⟩:=e2 (hash (key++0 :: headOf n h))
  rw[h1,←List.append_assoc] at hs
  have:=List.append_inj_right' hs rfl
  simp at this
  exact h2 this.symm
end
section
theorem included_path (ls:List (List UInt8)) (i:Nat) (hi:i<ls.length):included (leafH (ls.getD i [])) i ls.length (pathOf ls i) (rootOf ls)=true:=by
 unfold included
 rw[Int.toNat_natCast,Int.toNat_natCast,rebuild_path ls.length ls i (Nat.le_refl _) hi]
 simp
 omega
theorem consistent_part (ls:List (List UInt8)) (m:Nat) (h1:1≤m) (hm:m≤ls.length) (hl:ls.length<9223372036854775808):consistent m ls.length (rootOf (ls.take m)) (rootOf ls) (partOf m ls true)=true:=by
 unfold consistent
 have h:=roots_part ls.length ls m true (Nat.le_refl _) hl h1 hm
 rw[if_pos rfl] at h
 rw[Int.toNat_natCast,Int.toNat_natCast,h]
 simp
 omega
end
section
structure Cl where
 key:ByteArray
 size:Nat
 root:Hsh
 cache:Cch
abbrev Tld:=Nat×ByteArray
def tFine:Tld:=(0,⟨#[]⟩)
def updateP (c:Cl) (n:Nt):Tld×List Hsh×Cl×Nt:=
 match fetchA n (sOf kCp) with
 | none=>((3,⟨#[]⟩),[],c,fetchN n (sOf kCp))
 | some data=>
  if (checkGo data c.key.data.toList).2.2=false then ((3,⟨#[]⟩),[],c,fetchN n (sOf kCp)) else
  if (checkGo data c.key.data.toList).1.toNat<c.size then ((4,⟨#[]⟩),[],c,fetchN n (sOf kCp)) else
  if (checkGo data c.key.data.toList).1.toNat=c.size then (if (checkGo data c.key.data.toList).2.1=c.root then (tFine,[],c,fetchN n (sOf kCp)) else ((5,⟨#[]⟩),[],c,fetchN n (sOf kCp))) else
  if c.size=0 then (tFine,[],{ c with size:=(checkGo data c.key.data.toList).1.toNat,root:=(checkGo data c.key.data.toList).2.1 },fetchN n (sOf kCp)) else
  match proofQ c.size (checkGo data c.key.data.toList).1.toNat (askQ (fetchN n (sOf kCp)) c.cache) with
  | (.error (.miss p),s)=>((6,p),[],{ c with cache:=s.cache },s.net)
  | (.error .panic,s)=>((99,⟨#[]⟩),[],{ c with cache:=s.cache },s.net)
  | (.ok l,s)=>
   if consistent c.size (checkGo data c.key.data.toList).1.toNat c.root (checkGo data c.key.data.toList).2.1 l=true then (tFine,l,{ c with size:=(checkGo data c.key.data.toList).1.toNat,root:=(checkGo data c.key.data.toList).2.1,cache:=rememberQ s.cache s.files },s.net)
   else ((5,⟨#[]⟩),[],{ c with cache:=s.cache },s.net)
def readP (c:Cl) (n:Nt) (i:Int):Tld×(List UInt8×List Hsh)×Cl×Nt:=
 if i<0∨(c.size:Int)≤i then ((2,⟨#[]⟩),([],[]),c,n) else
 match readQ c.size i.toNat (askQ n c.cache) with
 | (.error (.miss p),s)=>((6,p),([],[]),{ c with cache:=s.cache },s.net)
 | (.error .panic,s)=>((99,⟨#[]⟩),([],[]),{ c with cache:=s.cache },s.net)
 | (.ok r,s)=>
  if included (leafH r.1) i c.size r.2 c.root=true then (tFine,r,{ c with cache:=rememberQ s.cache s.files },s.net)
  else ((5,⟨#[]⟩),([],[]),{ c with cache:=s.cache },s.net)
structure KeepsQ (I:Cs→Prop):Prop where
 keep:∀ s p b,I s→I (keepQ p b s)
 get:∀ s p,I s→I { s with cache:=cacheGet s.cache p }
 fetched:∀ s q,I s→I (fetchedQ q s)
def Kept {α:Type} (I:Cs→Prop) (m:Qm α):Prop:=∀ s,I s→I (m s).2
theorem Kept.bind {α β:Type} {I:Cs→Prop} {m:Qm α} {f:α→Qm β} (h:Kept I m) (k:∀ a,Kept I (f a)):Kept I (Qm.bind m f):=fun s hs=>by
 have h1:=h s hs
 unfold Qm.bind
 cases hm:m s with
 | mk o s1=>
  rw[hm] at h1
  cases o with
  | ok a=>exact k a s1 h1
  | error e=>exact h1
section
variable {I:Cs→Prop} (hI:KeepsQ I)
include hI
theorem fileQ_kept (fits:FitsF) (level:Int) (index count:Nat):Kept I (fileQ fits level index count):=fun s hs=>by
 unfold fileQ
 split
 ·exact hs
 ·split
  ·exact hI.keep _ _ _ (hI.get _ _ hs)
  ·unfold fetchQ
   split
   ·exact hI.keep _ _ _ (hI.fetched _ _ hs)
   ·split
    ·exact hI.fetched _ _ hs
    ·split
     ·exact hI.keep _ _ _ (hI.fetched _ _ (hI.fetched _ _ hs))
     ·exact hI.fetched _ _ (hI.fetched _ _ hs)
theorem evenQ_kept (n level index:Nat):Kept I (evenQ n level index):=(fileQ_kept hI _ _ _ _).bind fun b s hs=>by
 unfold partQ
 split <;> exact hs
theorem fullQ_kept (n level index:Nat):Kept I (fullQ n level index):=by
 unfold fullQ
 split
 ·exact (evenQ_kept hI _ _ _).bind fun a=>(evenQ_kept hI _ _ _).bind fun b s hs=>hs
 ·exact evenQ_kept hI _ _ _
theorem rootQ_kept (N:Nat):∀ (f i n:Nat),Kept I (rootQ N f i n)
 | 0,_,_=>fun s hs=>hs
 | f+1,i,n=>by
  rw[rootQ]
  split
  ·exact fullQ_kept hI _ _ _
  ·exact (rootQ_kept N f _ _).bind fun a=>(rootQ_kept N f _ _).bind fun b s hs=>hs
theorem gatherQ_kept (N:Nat):∀ rs,Kept I (gatherQ N rs)
 | []=>fun s hs=>hs
 | x :: xs=>by
  rw[gatherQ]
  exact (rootQ_kept hI _ _ _ _).bind fun a=>(gatherQ_kept N xs).bind fun b s hs=>hs
theorem readQ_kept (N i:Nat):Kept I (readQ N i):=by
 unfold readQ
 refine (fileQ_kept hI _ _ _ _).bind fun b=>?_
 split
 ·exact fun s hs=>hs
 ·exact (gatherQ_kept hI _ _).bind fun p s hs=>hs
end
def SameN (n n':Nt):Prop:=n'.lies=n.lies∧n'.files=n.files
theorem SameN.refl (n:Nt):SameN n n:=⟨rfl,rfl⟩
theorem SameN.trans {a b c:Nt} (h:SameN a b) (k:SameN b c):SameN a c:=⟨k.1.trans h.1,k.2.trans h.2⟩
theorem sameN_fetch (n:Nt) (q:ByteArray):SameN n (fetchN n q):=⟨(fetchN_same n q).1,(fetchN_same n q).2.1⟩
theorem keepsQ_same (n:Nt):KeepsQ fun s=>SameN n s.net:=⟨fun _ _ _ h=>h,fun _ _ h=>h,fun s q h=>h.trans (sameN_fetch s.net q)⟩
theorem netHas_same {es:List (List UInt8)} {N:Nat} {n n':Nt} (h:NetHas es N n) (hs:Steady n) (k:SameN n n'):NetHas es N n':=fun m j r h1 h2=>by
 rw[fetchA_steady hs k.1 k.2];exact h m j r h1 h2
structure TrueC (es:List (List UInt8)) (c:Cl):Prop where
 size:c.size≤es.length
 root:c.root=rootOf (es.take c.size)
 cache:∀ x∈c.cache.items,TileOk es x.1 x.2
 ok:CacheOk c.cache
theorem cacheOk_asks {α:Type} {m:Qm α} {T:List ByteArray} (h:Asks m T) {s:Cs} (hc:CacheOk s.cache):CacheOk (m s).2.cache∧(m s).2.cache.most=s.cache.most:=by
 obtain⟨g,_⟩:=h s
 refine⟨⟨(g.len hc.once).1,?_⟩,g.most⟩
 rw[(g.len hc.once).2,g.most]
 exact hc.len
section
variable {es:List (List UInt8)} (hl:es.length≤1048576) (hs:∀ e∈es,e.length≤20) {c:Cl} (hc:TrueC es c) {n:Nt} (hn:NetTrue es n)
include hl hs hc hn
theorem readP_true {i:Nat} (hi:i<c.size) {av:Bool} (hh:av=true→NetHas es c.size n) :
  TrueC es (readP c n i).2.2.1∧SameN n (readP c n i).2.2.2∧(readP c n i).2.2.1.key=c.key∧(readP c n i).2.2.1.size=c.size∧(readP c n i).2.2.1.root=c.root∧(readP c n i).2.2.1.cache.most=c.cache.most∧
   (((readP c n i).1=tFine∧(readP c n i).2.1=((es.take c.size).getD i [],pathOf (es.take c.size) i))∨(av=false∧∃ p,(readP c n i).1=(6,p)∧(readP c n i).2.1=([],[]))):=by
 have hT:TrueQ es c.size av (askQ n c.cache):=⟨fun x hx=>by simp[askQ] at hx,hc.cache,hn,hh⟩
 obtain⟨h1,h2,h3⟩:=readQ_true hl hc.size hs (av:=av) hi (askQ n c.cache) hT
 have h4:=readQ_kept (keepsQ_same n) c.size i (askQ n c.cache) (SameN.refl n)
 obtain⟨h5,h6⟩:=cacheOk_asks (readQ_asks c.size i) (s:=askQ n c.cache) hc.ok
 have hlen:(es.take c.size).length=c.size:=by rw[List.length_take,Nat.min_eq_left hc.size]
 unfold readP
 rw[if_neg (by omega),Int.toNat_natCast]
 cases hq:readQ c.size i (askQ n c.cache) with
 | mk o s=>
  rw[hq] at h1 h2 h3 h4 h5 h6
  dsimp only at h1 h2 h3 h4 h5 h6
  cases o with
  | error e=>
   obtain⟨hav,p,rfl⟩:=h3 e rfl
   exact⟨⟨hc.size,hc.root,h1.cache,h5⟩,h4,rfl,rfl,rfl,h6,.inr ⟨hav,p,rfl,rfl⟩⟩
  | ok r=>
   have hr:=h2 r rfl
   subst hr
   dsimp only
   have hinc:=included_path (es.take c.size) i (by omega)
   rw[hlen,←hc.root] at hinc
   rw[if_pos hinc]
   refine⟨⟨hc.size,hc.root,fun x hx=>?_,remember_ok _ _ h5⟩,h4,rfl,rfl,rfl,(remember_most _ _).trans h6,.inl ⟨rfl,rfl⟩⟩
   rcases remember_mem _ _ _ hx with h7|h7
   ·exact h1.cache x h7
   ·exact h1.files x h7
theorem updateP_true {M:Nat} (hM:M≤es.length) (hcM:c.size≤M) (hcp:fetchA n (sOf kCp)=some (cpOf (es.take M) c.key).data.toList) (hh:NetHas es M n) :
  (updateP c n).1=tFine∧(updateP c n).2.1=(if 0<c.size∧c.size<M then partOf c.size (es.take M) true else [])∧TrueC es (updateP c n).2.2.1∧(updateP c n).2.2.1.size=M∧(updateP c n).2.2.1.key=c.key∧(updateP c n).2.2.1.cache.most=c.cache.most∧SameN n (updateP c n).2.2.2:=by
 have:=hs
 have hlen:(es.take M).length=M:=by rw[List.length_take,Nat.min_eq_left hM]
 have hck:checkGo (cpOf (es.take M) c.key).data.toList c.key.data.toList=((M:Int),rootOf (es.take M),true):=by
  have e:(cpOf (es.take M) c.key).data.toList=signOf (es.take M).length (rootOf (es.take M)) c.key.data.toList:=rfl
  rw[e,checkGo_sign _ _ _ (by omega),hlen]
 unfold updateP
 rw[hcp]
 dsimp only
 rw[hck]
 dsimp only
 rw[if_neg (by simp),Int.toNat_natCast,if_neg (by omega)]
 by_cases h0:M=c.size
 ·rw[if_pos h0,if_pos (by rw[hc.root,h0]),if_neg (by omega)]
  exact⟨rfl,rfl,hc,h0.symm,rfl,rfl,sameN_fetch n _⟩
 ·rw[if_neg h0]
  by_cases hz:c.size=0
  ·rw[if_pos hz,if_neg (by omega)]
   exact⟨rfl,rfl,⟨hM,rfl,hc.cache,hc.ok⟩,rfl,rfl,rfl,sameN_fetch n _⟩
  ·rw[if_neg hz,if_pos (by omega)]
   have hT:TrueQ es M true (askQ (fetchN n (sOf kCp)) c.cache):=⟨fun x hx=>by simp[askQ] at hx,hc.cache,hn.next _,fun _=>netHas_same hh hn.steady (sameN_fetch n _)⟩
   obtain⟨h1,h2,h3⟩:=proofQ_true hl hM (av:=true) (m:=c.size) (by omega) hcM (askQ (fetchN n (sOf kCp)) c.cache) hT
   have h4:SameN n (proofQ c.size M (askQ (fetchN n (sOf kCp)) c.cache)).2.net:=gatherQ_kept (keepsQ_same n) M _ (askQ (fetchN n (sOf kCp)) c.cache) (sameN_fetch n _)
   obtain⟨h5,h6⟩:=cacheOk_asks (m:=proofQ c.size M) (gatherQ_asks M (partR M 0 M c.size).reverse) (s:=askQ (fetchN n (sOf kCp)) c.cache) hc.ok
   cases hq:proofQ c.size M (askQ (fetchN n (sOf kCp)) c.cache) with
   | mk o s=>
    rw[hq] at h1 h2 h3 h4 h5 h6
    dsimp only at h1 h2 h3 h4 h5 h6
    cases o with
    | error e=>
     obtain⟨hav,_⟩:=h3 e rfl
     cases hav
    | ok r=>
     have hr:=h2 r rfl
     subst hr
     dsimp only
     have hcon:=consistent_part (es.take M) c.size (by omega) (by omega) (by omega)
     rw[hlen,List.take_take,Nat.min_eq_left hcM,←hc.root] at hcon
     rw[if_pos hcon]
     refine⟨rfl,rfl,⟨hM,rfl,fun x hx=>?_,remember_ok _ _ h5⟩,rfl,rfl,(remember_most _ _).trans h6,h4⟩
     rcases remember_mem _ _ _ hx with h7|h7
     ·exact h1.cache x h7
     ·exact h1.files x h7
omit hl hs hn
theorem updateP_cut (hcp:∀ data,fetchA n (sOf kCp)=some data→data=(cpOf (es.take c.size) c.key).data.toList∨data=(cpOf (es.take c.size) c.key).data.toList.dropLast) (hsz:c.size<9223372036854775808) :
  (updateP c n).2.1 = []∧(updateP c n).2.2=(c,fetchN n (sOf kCp))∧((updateP c n).1=tFine∨(updateP c n).1=(3,⟨#[]⟩)):=by
 have hlen:(es.take c.size).length=c.size:=by rw[List.length_take,Nat.min_eq_left hc.size]
 have e:(cpOf (es.take c.size) c.key).data.toList=signOf (es.take c.size).length (rootOf (es.take c.size)) c.key.data.toList:=rfl
 unfold updateP
 cases hf:fetchA n (sOf kCp) with
 | none=>exact⟨rfl,rfl,.inr rfl⟩
 | some data=>
  dsimp only
  rcases hcp data hf with h|h
  ·rw[h,e,checkGo_sign _ _ _ (by omega)]
   dsimp only
   rw[if_neg (by simp),Int.toNat_natCast,if_neg (by omega),if_pos hlen,if_pos hc.root.symm]
   exact⟨rfl,rfl,.inl rfl⟩
  ·rw[h,e,if_pos (check_short _ _ _ _)]
   exact⟨rfl,rfl,.inr rfl⟩
end
end
section
section
variable {P:Program} {md:Region.Mode} {ops:Array Oper} {Q:Exit→Act→World→Prop}
theorem wpAny_inv (I:Nat→Array Bool→Act→World→Prop) (h0:∀ L a w,I 0 L a w→Region.ready md ops L = []∧Q .normal a w)
  (h1:∀ f L a w,I (f+1) L a w→Region.ready md ops L≠[]∧∀ i∈Region.ready md ops L,wpOp P ops Q i (I f (L.setIfInBounds i true)) a w) :
  ∀ (f:Nat) (L:Array Bool) (a:Act) (w:World),I f L a w→wpAny P md ops Q f L a w
 | 0,L,a,w,h=>h0 L a w h
 | f+1,L,a,w,h=>⟨fun hr=>absurd hr (h1 f L a w h).1,fun i hi=>wpOp_mono (fun a' w' h'=>wpAny_inv I h0 h1 f _ a' w' h') ((h1 f L a w h).2 i hi)⟩
theorem wpOp_of {i:Nat} {o:Oper} {K:Act→World→Prop} {a:Act} {w:World} (hi:ops[i]?=some o) (hg:o.guard=none) (h:o.wp P a w K Q):wpOp P ops Q i K a w:=by
 have hw:Region.wanted o (yielded ops a.tmps)=true:=by unfold Region.wanted;rw[hg]
 unfold wpOp
 rw[hi]
 simp only[hw,if_true]
 exact Or.inl h
theorem getD_put {a:Act} {d k:Nat} {v x:Value} (hk:a.tmps.getD k undef=x) (hne:d≠k):(a.put (some d) v).tmps.getD k undef=x:=by
 unfold Act.put
 simp only[Array.getD_eq_getD_getElem?,Array.getElem?_setIfInBounds] at *
 rw[if_neg hne]
 exact hk
theorem getD_put_same {a:Act} {d:Nat} {v:Value} (hd:d<a.tmps.size):(a.put (some d) v).tmps.getD d undef=v:=by
 unfold Act.put
 simp[Array.getD_eq_getD_getElem?,hd]
theorem put_size {a:Act} {d:Option Tmp} {v:Value}:(a.put d v).tmps.size=a.tmps.size:=by
 cases d <;> simp[Act.put]
theorem put_defers {a:Act} {d:Option Tmp} {v:Value}:(a.put d v).defers=a.defers:=by
 cases d <;> rfl
def bs (b:Nat→Bool):Array Bool:=#[b 0,b 1,b 2,b 3,b 4,b 5,b 6,b 7,b 8,b 9]
def left (b:Nat→Bool):Nat:=(!b 0).toNat+(!b 1).toNat+(!b 2).toNat+(!b 3).toNat+(!b 4).toNat+(!b 5).toNat+(!b 6).toNat+(!b 7).toNat+(!b 8).toNat+(!b 9).toNat
def upd (b:Nat→Bool) (i:Nat):Nat→Bool:=fun j=>if j=i then true else b j
theorem bs_upd (b:Nat→Bool) (i:Nat) (hi:i<10):(bs b).setIfInBounds i true=bs (upd b i):=by
 have:i=0∨i=1∨i=2∨i=3∨i=4∨i=5∨i=6∨i=7∨i=8∨i=9:=by omega
 rcases this with rfl|rfl|rfl|rfl|rfl|rfl|rfl|rfl|rfl|rfl <;> rfl
theorem left_upd (b:Nat→Bool) (i:Nat) (hi:i<10) (hb:b i=false) (f:Nat) (h:f+1=left b):f=left (upd b i):=by
 have:i=0∨i=1∨i=2∨i=3∨i=4∨i=5∨i=6∨i=7∨i=8∨i=9:=by omega
 rcases this with rfl|rfl|rfl|rfl|rfl|rfl|rfl|rfl|rfl|rfl <;> (simp only[left,upd,hb,Bool.not_false,Bool.toNat_true] at *;simp;omega)
theorem wp_call2 {o:Oper} {K:Act→World→Prop} {a:Act} {w:World} (f:FuncId) (x y:Operand) (ts:Array TypeId) (ho:o.op=.call { callee:=.value (.func f),args:=#[x,y],argTypes:=ts })
  (hf:∀ args w,(callFunc f args).run P w=.ok (.enter f args) w) (h:Calls P f #[a.eval x,a.eval y] w fun e w'=>∃ v,e=.returned v∧K (a.put o.dst v) w'):o.wp P a w K Q:=by
 have hr:(execOp a.eval o).run P w=.ok (.enter f #[a.eval x,a.eval y]) w:=by
  unfold execOp
  rw[ho]
  go_simp
 unfold Oper.wp
 rw[hr,Oper.upon_enter]
 refine h.mono ?_
 rintro e w' ⟨v,rfl,hk⟩
 exact hk
end
end
section
abbrev bv (x:UInt8):Value:=.int .u8 x.toNat
def OwnRow (w:World) (base:Nat) (v:Value) (l:List UInt8):Prop:=w.ownsRow base 5 1 v l.length (l.map bv)
theorem OwnRow.bytes {w:World} {base:Nat} {v:Value} {l:List UInt8} (h:OwnRow w base v l):BytesAt w v l:=ownsRow_cells h
theorem index_h8 (h:Hsh) (k:Nat) (hk:k<8) (w:World):(Instr.index 109 (.agg (h8 h)) (.int .i64 k)).run prog w=.ok (bv (h.toList.getD k 0)) w:=by
 have hu:=underlying109
 have hs:(sizeOf 5).run prog w=.ok 1 w:=by kernel_rfl
 have hg:(isAgg 5).run prog w=.ok false w:=by kernel_rfl
 have hx:(h8 h)[k]?=some (bv (h.toList.getD k 0)):=by simp[h8,hk,List.getD]
 simp[Instr.index,asIntOf,run_underlying hu,Go.part,hs,hg,hk,hx]
 simp[h8]
def kHex:ByteArray:=⟨#[48,49,50,51,52,53,54,55,56,57,97,98,99,100,101,102]⟩
theorem kHex_get (n:Nat) (h:n<16):kHex[n]?=some (hexD n):=by
 have:∀ m:Fin 16,kHex[m.1]?=some (hexD m.1):=by decide
 exact this ⟨n,h⟩
theorem index_hex (n:Nat) (h:n<16) (w:World):(Instr.index 9 (.string kHex) (.int .u8 n)).run prog w=.ok (bv (hexD n)) w:=by
 have hu:=underlying9
 have hx:=kHex_get n h
 simp[Instr.index,asIntOf,run_underlying hu,hx]
theorem shr_val (x:UInt8) (w:World):(binOp .shr 5 (bv x) (.int .u64 4)).run prog w=.ok (.int .u8 ((x.toNat / 16:Nat):Int)) w:=by
 go_simp
theorem and_val (x:UInt8) (w:World):(binOp .and 5 (bv x) (.int .u8 15)).run prog w=.ok (.int .u8 ((x.toNat%16:Nat):Int)) w:=by
 go_simp
 have h:∀ n:Fin 256,bits BinOp.and IntKind.u8 ((n.1:Nat):Int) 15=(n.1:Int)%16:=by decide +kernel
 exact h ⟨x.toNat,x.toNat_lt⟩
theorem build2 (p q:UInt8) (w:World):(Instr.buildSlice 94 2 #[(0,bv p),(1,bv q)]).run prog w=.ok (.slice (some ⟨w.heap.size,0,none⟩) 2 2) (w.alloc (.cells #[bv p,bv q] 5)):=by
 kernel_rfl
end
section
theorem wp_val {P:Program} {o:Oper} {K:Act→World→Prop} {Q:Exit→Act→World→Prop} {a:Act} {w:World} (val:Value) (hr:(execOp a.eval o).run P w=.ok (.value val) w) (h:K (a.put o.dst val) w):o.wp P a w K Q:=by
 unfold Oper.wp
 rw[hr]
 exact h
theorem wp_valw {P:Program} {o:Oper} {K:Act→World→Prop} {Q:Exit→Act→World→Prop} {a:Act} {w:World} (val:Value) (w':World) (hr:(execOp a.eval o).run P w=.ok (.value val) w') (h:K (a.put o.dst val) w'):o.wp P a w K Q:=by
 unfold Oper.wp
 rw[hr]
 exact h
structure InHex (base:Array Value) (v:Value) (x p q:UInt8) (l:List UInt8) (B:Nat) (W:World) (b:Nat→Bool) (a:Act) (w:World):Prop where
 d:a.defers = []
 s:a.tmps.size=22
 t5:a.tmps.getD 5 undef=bv x
 keep:∀ k,k≠3→(k<10∨18<k)→a.tmps.getD k undef=base.getD k undef
 t3:b 9=false→a.tmps.getD 3 undef=v
 r0:b 0=true→a.tmps.getD 10 undef=v
 r1:b 1=true→a.tmps.getD 11 undef=bv x
 r2:b 2=true→a.tmps.getD 12 undef=.int .u8 ((x.toNat / 16:Nat):Int)
 r3:b 3=true→a.tmps.getD 13 undef=bv p
 r4:b 4=true→a.tmps.getD 14 undef=bv x
 r5:b 5=true→a.tmps.getD 15 undef=.int .u8 ((x.toNat%16:Nat):Int)
 r6:b 6=true→a.tmps.getD 16 undef=bv q
 r7:b 7=true→a.tmps.getD 17 undef=.slice (some ⟨W.heap.size,0,none⟩) 2 2
 w0:b 7=false→w=W
 w1:b 7=true→b 8=false→w=W.alloc (.cells #[bv p,bv q] 5)
 r8:b 8=true→OwnRow w B (a.tmps.getD 18 undef) (l ++ [p,q])∧W.grownBy w v.ownBlock
 e9:b 9=true→b 8=true∧a.tmps.getD 3 undef=a.tmps.getD 18 undef
 c8:b 8=true→b 7=true
 c80:b 8=true→b 0=true
theorem wp_app2 {P:Program} {o:Oper} {a:Act} {K:Act→World→Prop} {Q:Exit→Act→World→Prop} {w:World} (s x:Operand) (t:TypeId)
  (ho:o.op=.call { callee:=.builtin .append,args:=#[s,x],argTypes:=#[t,t] })
  (base:Nat) (i:TypeInfo) (ht:P.underlying t=some (.slice 5)) (hi:P.info? 5=some i) (hz:i.zero=some (.int .u8 0)) (hsize:i.size=1) (hby:i.bytes=1)
  (v:Value) (l:List UInt8) (hs:a.eval s=v) (hown:OwnRow w base v l) (p q:UInt8) (hx:a.eval x=.slice (some ⟨w.heap.size,0,none⟩) 2 2)
  (hn:l.length≤1099511627776) (hbase:base≤w.heap.size)
  (h:∀ v' w',OwnRow w' base v' (l ++ [p,q])→w.grownBy w' v.ownBlock→K (a.put o.dst v') w') :
  o.wp P a (w.alloc (.cells #[bv p,bv q] 5)) K Q:=by
 refine wp_append_own _ s x t ho base _ i _ 1 1 ht hi hz hsize hby rfl (by decide) v _ _ hs (World.ownsRow.alloc hown _) ⟨w.heap.size,0,none⟩ 2 2 [bv p,bv q] hx rfl ?_ (by simp[Value.oneCell']) (by unfold maxLen;omega) (by omega) (by simp;omega) fun v' w' h2 h3 _=>?_
 ·intro j u hj
  rw[Addr.add_lit,Nat.zero_add,World.cell?_alloc_at _ _ _ _ rfl]
  simpa using hj
 ·refine h v' w' ?_ (grownBy_trans (World.grownBy_alloc w _ _) h3)
  unfold OwnRow
  simpa using h2
theorem drawHex {base:Array Value} {v:Value} {x p q:UInt8} {l:List UInt8} {B:Nat} {W:World} {ops:Array Oper} {Q:Exit→Act→World→Prop}
  (r:∀ b:Nat→Bool,∀ i∈Region.ready .any ops (bs b),i<10∧b i=false∧(i=2→b 1=true)∧(i=3→b 2=true)∧(i=5→b 4=true)∧(i=6→b 5=true)∧(i=7→b 3=true∧b 6=true)∧(i=8→b 0=true∧b 7=true)∧(i=9→b 8=true))
  (r0:∀ b:Nat→Bool,left b=0→Region.ready .any ops (bs b) = []) (r1:∀ (b:Nat→Bool) (f:Nat),f+1=left b→Region.ready .any ops (bs b)≠[])
  (o0:∃ (o:Oper),ops[0]?=some o∧o.guard=none∧o.dst=some 10∧o.op=.move (.tmp 3))
  (o1:∃ (o:Oper),ops[1]?=some o∧o.guard=none∧o.dst=some 11∧o.op=.move (.tmp 5))
  (o2:∃ (o:Oper) (ty:TypeId),ops[2]?=some o∧o.guard=none∧o.dst=some 12∧o.op=.binOp .shr 5 (.tmp 11) (.const (.int .u64 4)) ty)
  (o3:∃ (o:Oper),ops[3]?=some o∧o.guard=none∧o.dst=some 13∧o.op=.index 9 (.const (.string kHex)) (.tmp 12))
  (o4:∃ (o:Oper),ops[4]?=some o∧o.guard=none∧o.dst=some 14∧o.op=.move (.tmp 5))
  (o5:∃ (o:Oper) (ty:TypeId),ops[5]?=some o∧o.guard=none∧o.dst=some 15∧o.op=.binOp .and 5 (.tmp 14) (.const (.int .u8 15)) ty)
  (o6:∃ (o:Oper),ops[6]?=some o∧o.guard=none∧o.dst=some 16∧o.op=.index 9 (.const (.string kHex)) (.tmp 15))
  (o7:∃ (o:Oper),ops[7]?=some o∧o.guard=none∧o.dst=some 17∧o.op=.buildSlice 94 2 #[(0,.tmp 13),(1,.tmp 16)])
  (o8:∃ (o:Oper),ops[8]?=some o∧o.guard=none∧o.dst=some 18∧o.op=.call { callee:=.builtin .append,args:=#[.tmp 10,.tmp 17],argTypes:=#[94,94] })
  (o9:∃ (o:Oper),ops[9]?=some o∧o.guard=none∧o.dst=some 3∧o.op=.assign (.tmp 18))
  (hp:p=hexD (x.toNat / 16)) (hq:q=hexD (x.toNat%16)) (hown:OwnRow W B v l) (hll:l.length≤1000) (hB:B≤W.heap.size)
  (hQ:∀ a w,InHex base v x p q l B W (fun _=>true) a w→Q .normal a w) :
  ∀ a w,InHex base v x p q l B W (fun _=>false) a w→wpAny prog .any ops Q 10 (Array.replicate 10 false) a w:=by
 obtain⟨i0,hi0,hz0,hz1,hz2⟩:=info_parts info_u8
 have hxb:=x.toNat_lt
 intro a w h
 refine wpAny_inv (fun f L a w=>∃ b,L=bs b∧f=left b∧InHex base v x p q l B W b a w) ?_ ?_ 10 _ a w ⟨fun _=>false,rfl,rfl,h⟩
 ·rintro L a w ⟨b,rfl,hf,h⟩
  refine⟨r0 b hf.symm,hQ a w ?_⟩
  have hh:∀ c:Bool,(!c).toNat=0→c=true:=by intro c;cases c <;> simp
  unfold left at hf
  have e:∀ k,k<10→b k=true:=by
   intro k hk
   have:k=0∨k=1∨k=2∨k=3∨k=4∨k=5∨k=6∨k=7∨k=8∨k=9:=by omega
   rcases this with rfl|rfl|rfl|rfl|rfl|rfl|rfl|rfl|rfl|rfl <;> exact hh _ (by omega)
  exact { d:=h.d,s:=h.s,t5:=h.t5,keep:=h.keep,t3:=fun k=>absurd k (by decide),r0:=fun _=>h.r0 (e 0 (by omega)),r1:=fun _=>h.r1 (e 1 (by omega)),r2:=fun _=>h.r2 (e 2 (by omega)),r3:=fun _=>h.r3 (e 3 (by omega)),r4:=fun _=>h.r4 (e 4 (by omega)),r5:=fun _=>h.r5 (e 5 (by omega)),r6:=fun _=>h.r6 (e 6 (by omega)),r7:=fun _=>h.r7 (e 7 (by omega)),w0:=fun k=>absurd k (by decide),w1:=fun _ k=>absurd k (by decide),r8:=fun _=>h.r8 (e 8 (by omega)),e9:=fun _=>⟨rfl,(h.e9 (e 9 (by omega))).2⟩,c8:=fun _=>rfl,c80:=fun _=>rfl }
 ·rintro f L a w ⟨b,rfl,hf,h⟩
  refine⟨r1 b f hf,fun i hi=>?_⟩
  obtain⟨hi10,hbi,d2,d3,d5,d6,d7,d8,d9⟩:=r b i hi
  have hL:=bs_upd b i hi10
  have hF:=left_upd b i hi10 hbi f hf
  have:i=0∨i=1∨i=2∨i=3∨i=4∨i=5∨i=6∨i=7∨i=8∨i=9:=by omega
  rcases this with rfl|rfl|rfl|rfl|rfl|rfl|rfl|rfl|rfl|rfl
  ·obtain⟨o,h1,h2,h3,h4⟩:=o0
   have n9:b 9=false:=by rcases hh:b 9 with _|_;rfl;exact absurd (h.c80 (h.e9 hh).1) (by rw[hbi];decide)
   refine wpOp_of h1 h2 (BigFrame.wp_move _ h4 ⟨upd b 0,hL,hF,?_⟩)
   rw[h3,show a.eval (.tmp 3)=v from h.t3 n9]
   exact { d:=put_defers.trans h.d,s:=by rw[put_size];exact h.s,t5:=getD_put h.t5 (by decide),keep:=fun k h3 hk=>getD_put (h.keep k h3 hk) (by omega),t3:=fun e=>getD_put (h.t3 e) (by decide),r0:=fun _=>getD_put_same (by rw[h.s];decide),r1:=fun e=>getD_put (h.r1 e) (by decide),r2:=fun e=>getD_put (h.r2 e) (by decide),r3:=fun e=>getD_put (h.r3 e) (by decide),r4:=fun e=>getD_put (h.r4 e) (by decide),r5:=fun e=>getD_put (h.r5 e) (by decide),r6:=fun e=>getD_put (h.r6 e) (by decide),r7:=fun e=>getD_put (h.r7 e) (by decide),w0:=h.w0,w1:=h.w1,c8:=h.c8,c80:=fun _=>rfl,r8:=fun e=>(by rw[getD_put rfl (by decide)];exact h.r8 e),e9:=fun e=>⟨(h.e9 e).1,by rw[getD_put rfl (by decide),getD_put rfl (by decide)];exact (h.e9 e).2⟩ }
  ·obtain⟨o,h1,h2,h3,h4⟩:=o1
   refine wpOp_of h1 h2 (BigFrame.wp_move _ h4 ⟨upd b 1,hL,hF,?_⟩)
   rw[h3,show a.eval (.tmp 5)=bv x from h.t5]
   exact { d:=put_defers.trans h.d,s:=by rw[put_size];exact h.s,t5:=getD_put h.t5 (by decide),keep:=fun k h3 hk=>getD_put (h.keep k h3 hk) (by omega),t3:=fun e=>getD_put (h.t3 e) (by decide),r0:=fun e=>getD_put (h.r0 e) (by decide),r1:=fun _=>getD_put_same (by rw[h.s];decide),r2:=fun e=>getD_put (h.r2 e) (by decide),r3:=fun e=>getD_put (h.r3 e) (by decide),r4:=fun e=>getD_put (h.r4 e) (by decide),r5:=fun e=>getD_put (h.r5 e) (by decide),r6:=fun e=>getD_put (h.r6 e) (by decide),r7:=fun e=>getD_put (h.r7 e) (by decide),w0:=h.w0,w1:=h.w1,c8:=h.c8,c80:=h.c80,r8:=fun e=>(by rw[getD_put rfl (by decide)];exact h.r8 e),e9:=fun e=>⟨(h.e9 e).1,by rw[getD_put rfl (by decide),getD_put rfl (by decide)];exact (h.e9 e).2⟩ }
  ·obtain⟨o,ty,h1,h2,h3,h4⟩:=o2
   have e1:a.eval (.tmp 11)=bv x:=h.r1 (d2 rfl)
   refine wpOp_of h1 h2 (wp_val (.int .u8 ((x.toNat / 16:Nat):Int)) ?_ ⟨upd b 2,hL,hF,?_⟩)
   ·unfold execOp
    rw[h4]
    have e2:a.eval (.const (.int .u64 4))=.int .u64 4:=rfl
    have hv:=shr_val x w
    simp only[e1,e2,eqGuard_shr,Sem.run_bind,hv,Result.andThen_ok,Sem.run_pure]
   ·rw[h3]
    exact { d:=put_defers.trans h.d,s:=by rw[put_size];exact h.s,t5:=getD_put h.t5 (by decide),keep:=fun k h3 hk=>getD_put (h.keep k h3 hk) (by omega),t3:=fun e=>getD_put (h.t3 e) (by decide),r0:=fun e=>getD_put (h.r0 e) (by decide),r1:=fun e=>getD_put (h.r1 e) (by decide),r2:=fun _=>getD_put_same (by rw[h.s];decide),r3:=fun e=>getD_put (h.r3 e) (by decide),r4:=fun e=>getD_put (h.r4 e) (by decide),r5:=fun e=>getD_put (h.r5 e) (by decide),r6:=fun e=>getD_put (h.r6 e) (by decide),r7:=fun e=>getD_put (h.r7 e) (by decide),w0:=h.w0,w1:=h.w1,c8:=h.c8,c80:=h.c80,r8:=fun e=>(by rw[getD_put rfl (by decide)];exact h.r8 e),e9:=fun e=>⟨(h.e9 e).1,by rw[getD_put rfl (by decide),getD_put rfl (by decide)];exact (h.e9 e).2⟩ }
  ·obtain⟨o,h1,h2,h3,h4⟩:=o3
   have e1:a.eval (.tmp 12)=.int .u8 ((x.toNat / 16:Nat):Int):=h.r2 (d3 rfl)
   have hv:=index_hex (x.toNat / 16) (by omega) w
   rw[←hp] at hv
   refine wpOp_of h1 h2 (wp_val (bv p) ?_ ⟨upd b 3,hL,hF,?_⟩)
   ·unfold execOp
    rw[h4]
    have e2:a.eval (.const (.string kHex))=.string kHex:=rfl
    simp only[e1,e2,Sem.run_bind,hv,Result.andThen_ok,Sem.run_pure]
   ·rw[h3]
    exact { d:=put_defers.trans h.d,s:=by rw[put_size];exact h.s,t5:=getD_put h.t5 (by decide),keep:=fun k h3 hk=>getD_put (h.keep k h3 hk) (by omega),t3:=fun e=>getD_put (h.t3 e) (by decide),r0:=fun e=>getD_put (h.r0 e) (by decide),r1:=fun e=>getD_put (h.r1 e) (by decide),r2:=fun e=>getD_put (h.r2 e) (by decide),r3:=fun _=>getD_put_same (by rw[h.s];decide),r4:=fun e=>getD_put (h.r4 e) (by decide),r5:=fun e=>getD_put (h.r5 e) (by decide),r6:=fun e=>getD_put (h.r6 e) (by decide),r7:=fun e=>getD_put (h.r7 e) (by decide),w0:=h.w0,w1:=h.w1,c8:=h.c8,c80:=h.c80,r8:=fun e=>(by rw[getD_put rfl (by decide)];exact h.r8 e),e9:=fun e=>⟨(h.e9 e).1,by rw[getD_put rfl (by decide),getD_put rfl (by decide)];exact (h.e9 e).2⟩ }
  ·obtain⟨o,h1,h2,h3,h4⟩:=o4
   refine wpOp_of h1 h2 (BigFrame.wp_move _ h4 ⟨upd b 4,hL,hF,?_⟩)
   rw[h3,show a.eval (.tmp 5)=bv x from h.t5]
   exact { d:=put_defers.trans h.d,s:=by rw[put_size];exact h.s,t5:=getD_put h.t5 (by decide),keep:=fun k h3 hk=>getD_put (h.keep k h3 hk) (by omega),t3:=fun e=>getD_put (h.t3 e) (by decide),r0:=fun e=>getD_put (h.r0 e) (by decide),r1:=fun e=>getD_put (h.r1 e) (by decide),r2:=fun e=>getD_put (h.r2 e) (by decide),r3:=fun e=>getD_put (h.r3 e) (by decide),r4:=fun _=>getD_put_same (by rw[h.s];decide),r5:=fun e=>getD_put (h.r5 e) (by decide),r6:=fun e=>getD_put (h.r6 e) (by decide),r7:=fun e=>getD_put (h.r7 e) (by decide),w0:=h.w0,w1:=h.w1,c8:=h.c8,c80:=h.c80,r8:=fun e=>(by rw[getD_put rfl (by decide)];exact h.r8 e),e9:=fun e=>⟨(h.e9 e).1,by rw[getD_put rfl (by decide),getD_put rfl (by decide)];exact (h.e9 e).2⟩ }
  ·obtain⟨o,ty,h1,h2,h3,h4⟩:=o5
   have e1:a.eval (.tmp 14)=bv x:=h.r4 (d5 rfl)
   have hv:=and_val x w
   refine wpOp_of h1 h2 (wp_val (.int .u8 ((x.toNat%16:Nat):Int)) ?_ ⟨upd b 5,hL,hF,?_⟩)
   ·unfold execOp
    rw[h4]
    have e2:a.eval (.const (.int .u8 15))=.int .u8 15:=rfl
    simp only[e1,e2,eqGuard_and,Sem.run_bind,hv,Result.andThen_ok,Sem.run_pure]
   ·rw[h3]
    exact { d:=put_defers.trans h.d,s:=by rw[put_size];exact h.s,t5:=getD_put h.t5 (by decide),keep:=fun k h3 hk=>getD_put (h.keep k h3 hk) (by omega),t3:=fun e=>getD_put (h.t3 e) (by decide),r0:=fun e=>getD_put (h.r0 e) (by decide),r1:=fun e=>getD_put (h.r1 e) (by decide),r2:=fun e=>getD_put (h.r2 e) (by decide),r3:=fun e=>getD_put (h.r3 e) (by decide),r4:=fun e=>getD_put (h.r4 e) (by decide),r5:=fun _=>getD_put_same (by rw[h.s];decide),r6:=fun e=>getD_put (h.r6 e) (by decide),r7:=fun e=>getD_put (h.r7 e) (by decide),w0:=h.w0,w1:=h.w1,c8:=h.c8,c80:=h.c80,r8:=fun e=>(by rw[getD_put rfl (by decide)];exact h.r8 e),e9:=fun e=>⟨(h.e9 e).1,by rw[getD_put rfl (by decide),getD_put rfl (by decide)];exact (h.e9 e).2⟩ }
  ·obtain⟨o,h1,h2,h3,h4⟩:=o6
   have e1:a.eval (.tmp 15)=.int .u8 ((x.toNat%16:Nat):Int):=h.r5 (d6 rfl)
   have hv:=index_hex (x.toNat%16) (by omega) w
   rw[←hq] at hv
   refine wpOp_of h1 h2 (wp_val (bv q) ?_ ⟨upd b 6,hL,hF,?_⟩)
   ·unfold execOp
    rw[h4]
    have e2:a.eval (.const (.string kHex))=.string kHex:=rfl
    simp only[e1,e2,Sem.run_bind,hv,Result.andThen_ok,Sem.run_pure]
   ·rw[h3]
    exact { d:=put_defers.trans h.d,s:=by rw[put_size];exact h.s,t5:=getD_put h.t5 (by decide),keep:=fun k h3 hk=>getD_put (h.keep k h3 hk) (by omega),t3:=fun e=>getD_put (h.t3 e) (by decide),r0:=fun e=>getD_put (h.r0 e) (by decide),r1:=fun e=>getD_put (h.r1 e) (by decide),r2:=fun e=>getD_put (h.r2 e) (by decide),r3:=fun e=>getD_put (h.r3 e) (by decide),r4:=fun e=>getD_put (h.r4 e) (by decide),r5:=fun e=>getD_put (h.r5 e) (by decide),r6:=fun _=>getD_put_same (by rw[h.s];decide),r7:=fun e=>getD_put (h.r7 e) (by decide),w0:=h.w0,w1:=h.w1,c8:=h.c8,c80:=h.c80,r8:=fun e=>(by rw[getD_put rfl (by decide)];exact h.r8 e),e9:=fun e=>⟨(h.e9 e).1,by rw[getD_put rfl (by decide),getD_put rfl (by decide)];exact (h.e9 e).2⟩ }
  ·obtain⟨o,h1,h2,h3,h4⟩:=o7
   have e1:a.eval (.tmp 13)=bv p:=h.r3 (d7 rfl).1
   have e2:a.eval (.tmp 16)=bv q:=h.r6 (d7 rfl).2
   obtain rfl:=h.w0 hbi
   refine wpOp_of h1 h2 (wp_valw (.slice (some ⟨w.heap.size,0,none⟩) 2 2) (w.alloc (.cells #[bv p,bv q] 5)) ?_ ⟨upd b 7,hL,hF,?_⟩)
   ·unfold execOp
    rw[h4]
    have hv:=build2 p q w
    simp only[List.map_toArray,List.map_cons,List.map_nil,e1,e2]
    simp[hv]
   ·rw[h3]
    exact { d:=put_defers.trans h.d,s:=by rw[put_size];exact h.s,t5:=getD_put h.t5 (by decide),keep:=fun k h3 hk=>getD_put (h.keep k h3 hk) (by omega),t3:=fun e=>getD_put (h.t3 e) (by decide),r0:=fun e=>getD_put (h.r0 e) (by decide),r1:=fun e=>getD_put (h.r1 e) (by decide),r2:=fun e=>getD_put (h.r2 e) (by decide),r3:=fun e=>getD_put (h.r3 e) (by decide),r4:=fun e=>getD_put (h.r4 e) (by decide),r5:=fun e=>getD_put (h.r5 e) (by decide),r6:=fun e=>getD_put (h.r6 e) (by decide),r7:=fun _=>getD_put_same (by rw[h.s];decide),w0:=fun e=>absurd (show true=false from e) (by decide),w1:=fun _ _=>rfl,c8:=fun e=>rfl,c80:=h.c80,r8:=fun e=>absurd (h.c8 e) (by rw[hbi];decide),e9:=fun e=>absurd (h.c8 (h.e9 e).1) (by rw[hbi];decide) }
  ·obtain⟨o,h1,h2,h3,h4⟩:=o8
   obtain rfl:=h.w1 (d8 rfl).2 hbi
   refine wpOp_of h1 h2 (wp_app2 _ _ _ h4 B i0 underlying94 hi0 hz0 hz1 hz2 v l (h.r0 (d8 rfl).1) hown p q (h.r7 (d8 rfl).2) (by omega) hB fun v' w' hr hg=>⟨upd b 8,hL,hF,?_⟩)
   rw[h3]
   exact { d:=put_defers.trans h.d,s:=by rw[put_size];exact h.s,t5:=getD_put h.t5 (by decide),keep:=fun k h3 hk=>getD_put (h.keep k h3 hk) (by omega),t3:=fun e=>getD_put (h.t3 e) (by decide),r0:=fun e=>getD_put (h.r0 e) (by decide),r1:=fun e=>getD_put (h.r1 e) (by decide),r2:=fun e=>getD_put (h.r2 e) (by decide),r3:=fun e=>getD_put (h.r3 e) (by decide),r4:=fun e=>getD_put (h.r4 e) (by decide),r5:=fun e=>getD_put (h.r5 e) (by decide),r6:=fun e=>getD_put (h.r6 e) (by decide),r7:=fun e=>getD_put (h.r7 e) (by decide),w0:=fun e=>absurd (show b 7=false from e) (by rw[(d8 rfl).2];decide),w1:=fun _ e=>absurd (show true=false from e) (by decide),c8:=fun _=>(d8 rfl).2,c80:=fun _=>(d8 rfl).1,r8:=fun _=>(by rw[getD_put_same (by rw[h.s];decide)];exact⟨hr,hg⟩),e9:=fun e=>absurd (h.e9 e).1 (by rw[hbi];decide) }
  ·obtain⟨o,h1,h2,h3,h4⟩:=o9
   refine wpOp_of h1 h2 (BigFrame.wp_assign _ h4 ⟨upd b 9,hL,hF,?_⟩)
   rw[h3,show a.eval (.tmp 18)=a.tmps.getD 18 undef from rfl]
   exact { d:=put_defers.trans h.d,s:=by rw[put_size];exact h.s,t5:=getD_put h.t5 (by decide),keep:=fun k h3 hk=>getD_put (h.keep k h3 hk) (Ne.symm h3),t3:=fun e=>absurd (show true=false from e) (by decide),r0:=fun e=>getD_put (h.r0 e) (by decide),r1:=fun e=>getD_put (h.r1 e) (by decide),r2:=fun e=>getD_put (h.r2 e) (by decide),r3:=fun e=>getD_put (h.r3 e) (by decide),r4:=fun e=>getD_put (h.r4 e) (by decide),r5:=fun e=>getD_put (h.r5 e) (by decide),r6:=fun e=>getD_put (h.r6 e) (by decide),r7:=fun e=>getD_put (h.r7 e) (by decide),w0:=h.w0,w1:=h.w1,c8:=h.c8,c80:=h.c80,r8:=fun e=>(by rw[getD_put rfl (by decide)];exact h.r8 e),e9:=fun _=>⟨d9 rfl,by rw[getD_put_same (by rw[h.s];decide),getD_put rfl (by decide)]⟩ }
abbrev putsHex (base:Array Value) (v:Value) (x p q:UInt8) (W:World) (v':Value):Act:=
 ((((((((((⟨base,[]⟩:Act).put (some 10) v).put (some 11) (bv x)).put (some 12) (.int .u8 ((x.toNat / 16:Nat):Int))).put (some 13) (bv p)).put (some 14) (bv x)).put (some 15) (.int .u8 ((x.toNat%16:Nat):Int))).put (some 16) (bv q)).put (some 17) (.slice (some ⟨W.heap.size,0,none⟩) 2 2)).put (some 18) v').put (some 3) v'
theorem act_eq {a c:Act} (hd:a.defers=c.defers) (hs:a.tmps.size=c.tmps.size) (h:∀ k,k<c.tmps.size→a.tmps.getD k undef=c.tmps.getD k undef):a=c:=by
 obtain⟨t,d⟩:=a
 obtain⟨t',d'⟩:=c
 simp only at hd hs h
 subst hd
 congr 1
 apply Array.ext hs
 intro i h1 h2
 have:=h i h2
 simpa [Array.getD_eq_getD_getElem?,h1,h2] using this
theorem InHex.act {base:Array Value} {v:Value} {x p q:UInt8} {l:List UInt8} {B:Nat} {W:World} {a:Act} {w:World} (hb:base.size=22) (h:InHex base v x p q l B W (fun _=>true) a w) :
  a=putsHex base v x p q W (a.tmps.getD 18 undef):=by
 obtain⟨y,hy⟩:∃ y,y=a.tmps.getD 18 undef:=⟨_,rfl⟩
 rw[←hy]
 have hsz:(putsHex base v x p q W y).tmps.size=22:=by simp[Act.put,hb]
 refine act_eq h.d (h.s.trans hsz.symm) fun k hk=>?_
 rw[hsz] at hk
 have hc:k=3∨k=10∨k=11∨k=12∨k=13∨k=14∨k=15∨k=16∨k=17∨k=18∨(k≠3∧(k<10∨18<k)):=by omega
 rcases hc with rfl|rfl|rfl|rfl|rfl|rfl|rfl|rfl|rfl|rfl|⟨h3,hk'⟩
 ·rw[(h.e9 rfl).2,←hy,getD_put_same (by simp[Act.put,hb])]
 ·rw[h.r0 rfl]
  refine (?_:_=_).symm
  exact getD_put (getD_put (getD_put (getD_put (getD_put (getD_put (getD_put (getD_put (getD_put (getD_put_same (by simp[Act.put,hb])) (by decide)) (by decide)) (by decide)) (by decide)) (by decide)) (by decide)) (by decide)) (by decide)) (by decide)
 ·rw[h.r1 rfl]
  refine (?_:_=_).symm
  exact getD_put (getD_put (getD_put (getD_put (getD_put (getD_put (getD_put (getD_put (getD_put_same (by simp[Act.put,hb])) (by decide)) (by decide)) (by decide)) (by decide)) (by decide)) (by decide)) (by decide)) (by decide)
 ·rw[h.r2 rfl]
  refine (?_:_=_).symm
  exact getD_put (getD_put (getD_put (getD_put (getD_put (getD_put (getD_put (getD_put_same (by simp[Act.put,hb])) (by decide)) (by decide)) (by decide)) (by decide)) (by decide)) (by decide)) (by decide)
 ·rw[h.r3 rfl]
  refine (?_:_=_).symm
  exact getD_put (getD_put (getD_put (getD_put (getD_put (getD_put (getD_put_same (by simp[Act.put,hb])) (by decide)) (by decide)) (by decide)) (by decide)) (by decide)) (by decide)
 ·rw[h.r4 rfl]
  refine (?_:_=_).symm
  exact getD_put (getD_put (getD_put (getD_put (getD_put (getD_put_same (by simp[Act.put,hb])) (by decide)) (by decide)) (by decide)) (by decide)) (by decide)
 ·rw[h.r5 rfl]
  refine (?_:_=_).symm
  exact getD_put (getD_put (getD_put (getD_put (getD_put_same (by simp[Act.put,hb])) (by decide)) (by decide)) (by decide)) (by decide)
 ·rw[h.r6 rfl]
  refine (?_:_=_).symm
  exact getD_put (getD_put (getD_put (getD_put_same (by simp[Act.put,hb])) (by decide)) (by decide)) (by decide)
 ·rw[h.r7 rfl]
  refine (?_:_=_).symm
  exact getD_put (getD_put (getD_put_same (by simp[Act.put,hb])) (by decide)) (by decide)
 ·rw[←hy]
  refine (?_:_=_).symm
  exact getD_put (getD_put_same (by simp[Act.put,hb])) (by decide)
 ·rw[h.keep k h3 hk']
  refine (?_:_=_).symm
  exact getD_put (getD_put (getD_put (getD_put (getD_put (getD_put (getD_put (getD_put (getD_put (getD_put (rfl) (by omega)) (by omega)) (by omega)) (by omega)) (by omega)) (by omega)) (by omega)) (by omega)) (by omega)) (by omega)
theorem drawHex' {base:Array Value} {v:Value} {x:UInt8} {l:List UInt8} {B:Nat} {W:World} {ops:Array Oper} {Q:Exit→Act→World→Prop}
  (hb:base.size=22) (h3:base.getD 3 undef=v) (h5:base.getD 5 undef=bv x)
  (r:∀ b:Nat→Bool,∀ i∈Region.ready .any ops (bs b),i<10∧b i=false∧(i=2→b 1=true)∧(i=3→b 2=true)∧(i=5→b 4=true)∧(i=6→b 5=true)∧(i=7→b 3=true∧b 6=true)∧(i=8→b 0=true∧b 7=true)∧(i=9→b 8=true))
  (r0:∀ b:Nat→Bool,left b=0→Region.ready .any ops (bs b) = []) (r1:∀ (b:Nat→Bool) (f:Nat),f+1=left b→Region.ready .any ops (bs b)≠[])
  (o0:∃ (o:Oper),ops[0]?=some o∧o.guard=none∧o.dst=some 10∧o.op=.move (.tmp 3))
  (o1:∃ (o:Oper),ops[1]?=some o∧o.guard=none∧o.dst=some 11∧o.op=.move (.tmp 5))
  (o2:∃ (o:Oper) (ty:TypeId),ops[2]?=some o∧o.guard=none∧o.dst=some 12∧o.op=.binOp .shr 5 (.tmp 11) (.const (.int .u64 4)) ty)
  (o3:∃ (o:Oper),ops[3]?=some o∧o.guard=none∧o.dst=some 13∧o.op=.index 9 (.const (.string kHex)) (.tmp 12))
  (o4:∃ (o:Oper),ops[4]?=some o∧o.guard=none∧o.dst=some 14∧o.op=.move (.tmp 5))
  (o5:∃ (o:Oper) (ty:TypeId),ops[5]?=some o∧o.guard=none∧o.dst=some 15∧o.op=.binOp .and 5 (.tmp 14) (.const (.int .u8 15)) ty)
  (o6:∃ (o:Oper),ops[6]?=some o∧o.guard=none∧o.dst=some 16∧o.op=.index 9 (.const (.string kHex)) (.tmp 15))
  (o7:∃ (o:Oper),ops[7]?=some o∧o.guard=none∧o.dst=some 17∧o.op=.buildSlice 94 2 #[(0,.tmp 13),(1,.tmp 16)])
  (o8:∃ (o:Oper),ops[8]?=some o∧o.guard=none∧o.dst=some 18∧o.op=.call { callee:=.builtin .append,args:=#[.tmp 10,.tmp 17],argTypes:=#[94,94] })
  (o9:∃ (o:Oper),ops[9]?=some o∧o.guard=none∧o.dst=some 3∧o.op=.assign (.tmp 18))
  (hown:OwnRow W B v l) (hll:l.length≤1000) (hB:B≤W.heap.size)
  (hQ:∀ v' w',OwnRow w' B v' (l ++ [hexD (x.toNat / 16),hexD (x.toNat%16)])→W.grownBy w' v.ownBlock→Q .normal (putsHex base v x (hexD (x.toNat / 16)) (hexD (x.toNat%16)) W v') w') :
  wpAny prog .any ops Q 10 (Array.replicate 10 false) ⟨base,[]⟩ W:=by
 refine drawHex (p:=hexD (x.toNat / 16)) (q:=hexD (x.toNat%16)) (v:=v) (x:=x) (l:=l) (B:=B) (base:=base) r r0 r1 o0 o1 o2 o3 o4 o5 o6 o7 o8 o9 rfl rfl hown hll hB (fun a w h=>?_) ⟨base,[]⟩ W ?_
 ·rw[InHex.act hb h]
  exact hQ _ _ (h.r8 rfl).1 (h.r8 rfl).2
 ·exact { d:=rfl,s:=hb,t5:=h5,keep:=fun _ _ _=>rfl,t3:=fun _=>h3,r0:=fun k=>absurd k (by decide),r1:=fun k=>absurd k (by decide),r2:=fun k=>absurd k (by decide),r3:=fun k=>absurd k (by decide),r4:=fun k=>absurd k (by decide),r5:=fun k=>absurd k (by decide),r6:=fun k=>absurd k (by decide),r7:=fun k=>absurd k (by decide),w0:=fun _=>rfl,w1:=fun k=>absurd k (by decide),r8:=fun k=>absurd k (by decide),e9:=fun k=>absurd k (by decide),c8:=fun k=>absurd k (by decide),c80:=fun k=>absurd k (by decide) }
end
section
theorem hexOf_succ {l:List UInt8} {k:Nat} (hk:k<l.length):hexOf (l.take (k+1))=hexOf (l.take k) ++ [hexD ((l.getD k 0).toNat / 16),hexD ((l.getD k 0).toNat%16)]:=by
 have e:l.take (k+1)=l.take k ++ [l.getD k 0]:=by
  rw[List.take_add_one,List.getElem?_eq_getElem hk]
  simp[List.getD,hk]
 rw[e]
 unfold hexOf
 rw[List.flatMap_append]
 rfl
theorem hexed_any (h:Hsh) (w:World) :
  Calls prog 137 #[.agg (h8 h)] w fun e w'=>e=.returned (.string (sOf (hexOf h.toList)))∧Below w.heap.size w w':=by
 have hown0:∀ W,OwnRow W w.heap.size (.slice none 0 0) (hexOf (h.toList.take 0)):=fun W=>World.ownsRow_nil _ _ _ _
 have HO0:=zh hown0
 clear hown0
 go_enter func137,ntmps137
 go_wp2_with (first|(refine wpList_load8 rfl 109 _ rfl _ rfl _ underlying109 info8 ?_ ?_ ?_;rotate_left;focus ((repeat(first|(with_reducible first|assumption|exact hashOf_set' ⟨_,by assumption⟩ _)|((with_reducible first|refine hashOf_zero' ?_|refine hashOf_at ?_|refine hashOf_set' (Is8_zero ?_) _);(first|rfl|(simp;done)|(simp;omega)))|with_reducible refine hashOf_old ?_ _|((with_reducible refine hashOf_other ?_ _ ?_);rotate_left;(focus(first|(simp;done)|(simp;omega)|omega)))|with_reducible first|refine hashOf_drew ?_|refine hashOf_below ?_ (by assumption)));done)))
 go_loopw [3,7] (fun v i wr=>∃ k:Nat,k≤8∧i=.int .i64 k∧OwnRow wr w.heap.size v (hexOf (h.toList.take k))∧Below w.heap.size w wr) (fun _ i _=>8-(intOf i).toNat)
 case atStart=>exact⟨0,by omega,rfl,HO0.o _,below_alloc _ _⟩
 case round=>
  obtain⟨k,hk,rfl,hown,hbel⟩:=hrel
  have HOWN:=zh hown
  have HBEL:=zh hbel
  clear hown hbel
  by_cases hlt:k<8
  ·have hx:=index_h8 h k hlt wr
   obtain⟨x,hxx⟩:∃ x,x=h.toList.getD k 0:=⟨_,rfl⟩
   rw[←hxx] at hx
   have hsucc:=hexOf_succ (l:=h.toList) (k:=k) (by simpa using hlt)
   rw[←hxx] at hsucc
   have HSU:=zh hsucc
   clear hxx hsucc
   go_wp2_with fail
   refine wp_region_any (by kernel_rfl) ?_
   have hdr:OwnRow wr.drew w.heap.size _ _:=HOWN.o
   refine drawHex' (x:=x) (B:=w.heap.size) rfl rfl rfl ?_ ?_ ?_ ⟨_,rfl,rfl,rfl,rfl⟩ ⟨_,rfl,rfl,rfl,rfl⟩ ⟨_,_,rfl,rfl,rfl,rfl⟩ ⟨_,rfl,rfl,rfl,rfl⟩ ⟨_,rfl,rfl,rfl,rfl⟩ ⟨_,_,rfl,rfl,rfl,rfl⟩ ⟨_,rfl,rfl,rfl,rfl⟩ ⟨_,rfl,rfl,rfl,rfl⟩ ⟨_,rfl,rfl,rfl,rfl⟩ ⟨_,rfl,rfl,rfl,rfl⟩ hdr (by rw[hexOf_len];simp;omega) (below_drewN HBEL.o 1).size ?_
   ·intro b i hi
    rw[Region.ready,List.mem_filter] at hi
    obtain⟨hi1,hi2⟩:=hi
    have hi10:i<10:=List.mem_range.1 hi1
    have:i=0∨i=1∨i=2∨i=3∨i=4∨i=5∨i=6∨i=7∨i=8∨i=9:=by omega
    clear hi1
    rcases this with rfl|rfl|rfl|rfl|rfl|rfl|rfl|rfl|rfl|rfl <;> simp[bs,Region.binds] at hi2 ⊢ <;> simp[hi2]
   ·intro b hb
    have hh:∀ c:Bool,(!c).toNat=0→c=true:=by intro c;cases c <;> simp
    unfold left at hb
    have k0:=hh (b 0) (by omega)
    have k1:=hh (b 1) (by omega)
    have k2:=hh (b 2) (by omega)
    have k3:=hh (b 3) (by omega)
    have k4:=hh (b 4) (by omega)
    have k5:=hh (b 5) (by omega)
    have k6:=hh (b 6) (by omega)
    have k7:=hh (b 7) (by omega)
    have k8:=hh (b 8) (by omega)
    have k9:=hh (b 9) (by omega)
    rw[show bs b=#[true,true,true,true,true,true,true,true,true,true] by simp only[bs,k0,k1,k2,k3,k4,k5,k6,k7,k8,k9]]
    rfl
   ·intro b f hf
    rcases k0:b 0 with _|_
    ·exact List.ne_nil_of_mem (a:=0) (by rw[Region.ready,List.mem_filter];exact⟨List.mem_range.2 (by show 0<10;decide),by simp[bs,Region.binds,k0]⟩)
    rcases k1:b 1 with _|_
    ·exact List.ne_nil_of_mem (a:=1) (by rw[Region.ready,List.mem_filter];exact⟨List.mem_range.2 (by show 1<10;decide),by simp[bs,Region.binds,k0,k1]⟩)
    rcases k2:b 2 with _|_
    ·exact List.ne_nil_of_mem (a:=2) (by rw[Region.ready,List.mem_filter];exact⟨List.mem_range.2 (by show 2<10;decide),by simp[bs,Region.binds,k0,k1,k2]⟩)
    rcases k3:b 3 with _|_
    ·exact List.ne_nil_of_mem (a:=3) (by rw[Region.ready,List.mem_filter];exact⟨List.mem_range.2 (by show 3<10;decide),by simp[bs,Region.binds,k0,k1,k2,k3]⟩)
    rcases k4:b 4 with _|_
    ·exact List.ne_nil_of_mem (a:=4) (by rw[Region.ready,List.mem_filter];exact⟨List.mem_range.2 (by show 4<10;decide),by simp[bs,Region.binds,k0,k1,k2,k3,k4]⟩)
    rcases k5:b 5 with _|_
    ·exact List.ne_nil_of_mem (a:=5) (by rw[Region.ready,List.mem_filter];exact⟨List.mem_range.2 (by show 5<10;decide),by simp[bs,Region.binds,k0,k1,k2,k3,k4,k5]⟩)
    rcases k6:b 6 with _|_
    ·exact List.ne_nil_of_mem (a:=6) (by rw[Region.ready,List.mem_filter];exact⟨List.mem_range.2 (by show 6<10;decide),by simp[bs,Region.binds,k0,k1,k2,k3,k4,k5,k6]⟩)
    rcases k7:b 7 with _|_
    ·exact List.ne_nil_of_mem (a:=7) (by rw[Region.ready,List.mem_filter];exact⟨List.mem_range.2 (by show 7<10;decide),by simp[bs,Region.binds,k0,k1,k2,k3,k4,k5,k6,k7]⟩)
    rcases k8:b 8 with _|_
    ·exact List.ne_nil_of_mem (a:=8) (by rw[Region.ready,List.mem_filter];exact⟨List.mem_range.2 (by show 8<10;decide),by simp[bs,Region.binds,k0,k1,k2,k3,k4,k5,k6,k7,k8]⟩)
    rcases k9:b 9 with _|_
    ·exact List.ne_nil_of_mem (a:=9) (by rw[Region.ready,List.mem_filter];exact⟨List.mem_range.2 (by show 9<10;decide),by simp[bs,Region.binds,k0,k1,k2,k3,k4,k5,k6,k7,k8,k9]⟩)
    exfalso
    simp only[left,k0,k1,k2,k3,k4,k5,k6,k7,k8,k9,Bool.not_true,Bool.toNat_false] at hf
    omega
   ·intro v' w' ho hg
    have hg':Below w.heap.size w w':=(HBEL.o.drew).grown hg HBEL.o.drew.size (fun j hj=>(HOWN.o.lt j hj).1)
    have HO':=zh ho
    have HG':=zh hg'
    clear ho hg hg'
    go_wp2
    go_roundw
    case rel=>exact⟨k+1,by omega,by go_num,by rw[HSU.o];exact HO'.o,HG'.o⟩
    case measure=>(simp[intOf] <;> omega)
  ·have ht:h.toList.take k=h.toList:=List.take_of_length_le (by simp;omega)
   have hb:=HOWN.o.bytes
   rw[ht] at hb
   have HBY:=zh hb
   clear hb ht
   go_wp2_with (refine wpList_bs rfl 94 9 _ rfl _ underlying94 underlying5 underlying9 _ ?_ rfl ?_ ?_;rotate_left;focus exact HBY.o)
   go_ret
   exact⟨rfl,HBEL.o⟩
end
section
theorem signOf_len (n:Nat) (h:Hsh) (key:List UInt8) (hn:n<9223372036854775808):(headOf n h).length≤100∧(signOf n h key).length≤200:=by
 have h1:=dec_len19 hn
 have h2:(headOf n h).length≤100:=by
  unfold headOf
  simp[kTiles,hexOf_len]
  omega
 refine⟨h2,?_⟩
 unfold signOf
 simp[hexOf_len]
 omega
end
end Go.Proofs.YtefccfakhgdfbabGreatDoor
