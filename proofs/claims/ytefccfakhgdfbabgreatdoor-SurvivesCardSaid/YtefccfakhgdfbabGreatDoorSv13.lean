/- A transport that tells files without their last byte: nothing of that fits: plain. Conditions: at most 2^20 entries of at most 20 bytes. -/
import Derived.Test.YtefccfakhgdfbabGreatDoorSv12
set_option linter.unusedVariables false
set_option linter.unusedSimpArgs false
open Go.RowKit Go.Proofs.Tryz
set_option maxRecDepth 100000
set_option maxHeartbeats 4000000
namespace Go.Proofs.YtefccfakhgdfbabGreatDoor
section
theorem eight_app (h:Hsh) (t:List UInt8):eightOf (h.toList++t)=h:=by
 have hl:h.toList.length=8:=by simp
 have hg:∀ i,i<8→(h.toList++t).getD i 0=h.toList.getD i 0:=fun i hi=>by
  rw[List.getD_eq_getElem?_getD,List.getD_eq_getElem?_getD,List.getElem?_append_left (by omega)]
 unfold eightOf
 rw[hg 0 (by decide),hg 1 (by decide),hg 2 (by decide),hg 3 (by decide),hg 4 (by decide),hg 5 (by decide),hg 6 (by decide),hg 7 (by decide)]
 apply Vector.ext
 intro i hi
 match i,hi with
 | 0,_=>simp[List.getD_eq_getElem?_getD]
 | 1,_=>simp[List.getD_eq_getElem?_getD]
 | 2,_=>simp[List.getD_eq_getElem?_getD]
 | 3,_=>simp[List.getD_eq_getElem?_getD]
 | 4,_=>simp[List.getD_eq_getElem?_getD]
 | 5,_=>simp[List.getD_eq_getElem?_getD]
 | 6,_=>simp[List.getD_eq_getElem?_getD]
 | 7,_=>simp[List.getD_eq_getElem?_getD]
theorem flat_drop {k:Nat}:∀ (l:List (List UInt8)) (q:Nat),(∀ x∈l,x.length=k)→l.flatten.drop (k*q)=(l.drop q).flatten
 | l,0,_=>by simp
 | [],q+1,_=>by simp
 | a :: l,q+1,h=>by
   rw[List.flatten_cons,List.drop_succ_cons,←flat_drop l q fun x hx=>h x (List.mem_cons_of_mem _ hx),Nat.mul_add,Nat.mul_one,Nat.add_comm,←List.drop_drop,List.drop_append_of_le_length (by rw[h a List.mem_cons_self];exact Nat.le_refl _)]
   rw[show List.drop k a = [] from List.drop_eq_nil_of_le (by rw[h a List.mem_cons_self];exact Nat.le_refl _),List.nil_append]
theorem hashAt_row {r:List Hsh} {j w q:Nat} (hq:q<w) (hw:4*j+w≤r.length):hashAt (cutR (r.map fun (h:Hsh)=>h.toList) j w) q=r.getD (4*j+q) zero8:=by
 unfold hashAt cutR
 have h8:∀ x∈((r.map fun (h:Hsh)=>h.toList).drop (4*j)).take w,x.length=8:=fun x hx=>by
  obtain⟨h,_,rfl⟩:=List.mem_map.1 (List.mem_of_mem_drop (List.mem_of_mem_take hx))
  simp
 rw[flat_drop _ q h8]
 have hl:q<(((r.map fun (h:Hsh)=>h.toList).drop (4*j)).take w).length:=by simp;omega
 rw[List.drop_eq_getElem_cons hl,List.flatten_cons]
 have hr:4*j+q<r.length:=by omega
 have e:(((r.map fun (h:Hsh)=>h.toList).drop (4*j)).take w)[q]=(r[4*j+q]).toList:=by simp
 rw[e,eight_app,List.getD_eq_getElem?_getD,List.getElem?_eq_getElem hr]
 rfl
section
variable {es:List (List UInt8)} {N:Nat} {av:Bool} (hl:es.length≤1048576) (hN:N≤es.length)
include hl hN
theorem evenQ_true {k index:Nat} (h:(index+1)*4 ^ k≤N):Holds (TrueQ es N av) (evenQ N (2*k) index) (fun a=>a=fullRoot (es.take N) (2*k) index) (MissE av):=by
 have hlen:(es.take N).length=N:=by rw[List.length_take,Nat.min_eq_left hN]
 have hp:0<4 ^ k:=Nat.pow_pos (by decide)
 have hlt:index<N / 4 ^ k:=(Nat.le_div_iff_mul_le hp).2 h
 have hk:k<nLev (es.take N).length:=by
  rw[nLev_iff,hlen]
  exact Nat.le_trans (Nat.le_mul_of_pos_left _ (by omega)) h
 have hr:=rowsOf_succ (es.take N) k hk
 have hlr:((levelRow (es.take N) k).map fun (x:Hsh)=>x.toList).length=N / 4 ^ k:=by rw[List.length_map,levelRow_len,hlen]
 have h8:∀ x∈(levelRow (es.take N) k).map (fun (x:Hsh)=>x.toList),x.length=8:=fun x hx=>by
  obtain⟨y,_,rfl⟩:=List.mem_map.1 hx
  simp
 have hfile:=fileQ_true hl (av:=av) hr (j:=index / 4) (by rw[hlr];omega) (fun w h1 h4 hw=>by
  have e:=cutR_len hw h8
  unfold fitsOf
  rw[if_neg (by omega)]
  unfold fitsHash
  rw[if_pos e,List.take_of_length_le (by omega)])
 rw[hlr] at hfile
 unfold evenQ
 rw[show 2*k / 2=k by omega,pow24]
 have hf:fitsOf (k+1)=fitsHash:=by unfold fitsOf;rw[if_neg (by omega)]
 rw[hf,show (((k+1:Nat):Int)-1)=((k:Nat):Int) by omega] at hfile
 refine hfile.bind fun b hb=>?_
 have hw:wideAt (index / 4) (N / 4 ^ k)=min 4 (N / 4 ^ k-4*(index / 4)):=rfl
 have hb2:b.length=8*wideAt (index / 4) (N / 4 ^ k):=by rw[hb];exact cutR_len (by rw[hlr,hw];omega) h8
 intro s hs
 unfold partQ
 rw[if_neg (by rw[hb2,hw];omega)]
 refine⟨hs,fun a ha=>?_,fun e he=>by cases he⟩
 cases ha
 rw[hb,hashAt_row (by rw[hw];omega) (by rw[levelRow_len,hlen,hw];omega),levelRow_get _ _ _ (by rw[hlen];omega)]
 congr 1
 omega
theorem fullQ_true {level index:Nat} (h:(index+1)*2 ^ level≤N):Holds (TrueQ es N av) (fullQ N level index) (fun a=>a=fullRoot (es.take N) level index) (MissE av):=by
 unfold fullQ
 by_cases ho:level%2=1
 ·rw[if_pos ho]
  obtain⟨k,rfl⟩:∃ k,level=2*k+1:=⟨level / 2,by omega⟩
  have hp:(index+1)*2 ^ (2*k+1)=(2*index+1+1)*4 ^ k:=by
   rw[Nat.pow_succ,pow24,Nat.mul_comm (4 ^ k) 2,←Nat.mul_assoc]
   congr 1
   omega
  rw[hp] at h
  have h2:(2*index+1)*4 ^ k≤N:=Nat.le_trans (Nat.mul_le_mul_right _ (by omega)) h
  rw[show 2*k+1-1=2*k by omega]
  refine (evenQ_true hl hN h2).bind fun a ha=>(evenQ_true hl hN h).bind fun b hb=>Holds.pure ?_
  rw[ha,hb]
  rfl
 ·rw[if_neg ho]
  obtain⟨k,rfl⟩:∃ k,level=2*k:=⟨level / 2,by omega⟩
  rw[pow24] at h
  exact evenQ_true hl hN h
theorem rootQ_true:∀ (f i n:Nat),n≤f→1≤n→i+n≤N→Holds (TrueQ es N av) (rootQ N f i n) (fun a=>a=rootOf (part (es.take N) i (i+n))) (MissE av)
 | 0,i,n,h0,h1,_=>by omega
 | f+1,i,n,h0,h1,h2=>by
  have hlen:(es.take N).length=N:=by rw[List.length_take,Nat.min_eq_left hN]
  rw[rootQ]
  by_cases hp:n &&& (n-1)=0∧i%n=0
  ·rw[if_pos hp]
   have hpw:=pow_of_and h1 (by omega) hp.1
   obtain⟨e,he⟩:∃ e,e=Lib.bitLen n-1:=⟨_,rfl⟩
   rw[←he] at hpw ⊢
   have he20:e≤62:=by
    rcases Nat.lt_or_ge 62 e with hlt|hge
    ·have:=Nat.pow_le_pow_right (n:=2) (by decide) hlt
     omega
    ·exact hge
   have hdiv:i / n*n=i:=by have:=Nat.div_add_mod i n;rw[hp.2] at this;rw[Nat.mul_comm];omega
   have hq:(i / n+1)*2 ^ e≤N:=by rw[←hpw,Nat.add_mul,hdiv];omega
   refine (fullQ_true hl hN hq).mono fun a ha=>?_
   rw[ha,fullRoot_eq _ _ _ he20 (by rw[hlen];exact hq),←hpw,hdiv]
   unfold part
   rw[show i+n-i=n by omega]
  ·rw[if_neg hp]
   have hn2:2≤n:=by
    rcases Nat.lt_or_ge n 2 with hlt|hge
    ·obtain rfl:n=1:=by omega
     exact absurd ⟨by decide,Nat.mod_one i⟩ hp
    ·exact hge
   have hb:=below_lt hn2
   refine (rootQ_true f i (below n) (by omega) (by omega) (by omega)).bind fun a ha=>(rootQ_true f (i+below n) (n-below n) (by omega) (by omega) (by omega)).bind fun b hb'=>Holds.pure ?_
   have hpl:(part (es.take N) i (i+n)).length=n:=by rw[part_len (by omega)];omega
   rw[rootOf_more (by omega),hpl,part_take (by omega),part_drop,ha,hb',show i+below n+(n-below n)=i+n by omega]
theorem gatherQ_true:∀ (rs:List (Nat×Nat)),(∀ x∈rs,x.1<x.2∧x.2≤N)→Holds (TrueQ es N av) (gatherQ N rs) (fun l=>l=rs.map fun x=>rootOf (part (es.take N) x.1 x.2)) (MissE av)
 | [],_=>Holds.pure rfl
 | x :: rs,h=>by
  obtain⟨h1,h2⟩:=h x List.mem_cons_self
  rw[gatherQ]
  refine (rootQ_true hl hN (x.2-x.1) x.1 (x.2-x.1) (Nat.le_refl _) (by omega) (by omega)).bind fun a ha=>(gatherQ_true rs fun y hy=>h y (List.mem_cons_of_mem _ hy)).bind fun l hl'=>Holds.pure ?_
  rw[ha,hl',show x.1+(x.2-x.1)=x.2 by omega]
  rfl
theorem part_all:part (es.take N) 0 N=es.take N:=by
 have:=hl
 unfold part
 rw[List.drop_zero,List.take_of_length_le (by simp;omega)]
theorem proofQ_true {m:Nat} (h1:1≤m) (h2:m≤N):Holds (TrueQ es N av) (proofQ m N) (fun l=>l=partOf m (es.take N) true) (MissE av):=by
 have hlen:(es.take N).length=N:=by rw[List.length_take,Nat.min_eq_left hN]
 refine (gatherQ_true hl hN _ fun x hx=>partR_mem N 0 N m (by omega) (by omega) h2 x (List.mem_reverse.1 hx)).mono fun l hl'=>?_
 rw[hl',partR_eq (es.take N) N 0 N m (by omega) (by omega) h2 (by omega),part_all hl hN]
 rfl
theorem readQ_true (hs20:∀ e∈es,e.length≤20) {i:Nat} (hi:i<N):Holds (TrueQ es N av) (readQ N i) (fun r=>r=((es.take N).getD i [],pathOf (es.take N) i)) (MissE av):=by
 have hlen:(es.take N).length=N:=by rw[List.length_take,Nat.min_eq_left hN]
 have hr:=rowsOf_zero (es.take N)
 have hlr:((es.take N).map encE).length=N:=by rw[List.length_map,hlen]
 have hsn:∀ e∈es.take N,e.length≤20:=fun e he=>hs20 e (List.mem_of_mem_take he)
 have hcut:∀ w,cutR ((es.take N).map encE) (i / 4) w=(((es.take N).drop (4*(i / 4))).take w).flatMap encE:=fun w=>by
  unfold cutR
  rw[←List.map_drop,←List.map_take,List.flatMap_def]
 have hun:∀ w,1≤w→w≤4→4*(i / 4)+w≤N→unbundleOf (cutR ((es.take N).map encE) (i / 4) w)=some (((es.take N).drop (4*(i / 4))).take w):=fun w h1 h4 hw=>by
  rw[hcut]
  have hll:(((es.take N).drop (4*(i / 4))).take w).length=w:=by rw[List.length_take,List.length_drop,hlen];omega
  refine unbundle_ok ?_ (by omega) (by omega) fun x hx=>hsn x (List.mem_of_mem_drop (List.mem_of_mem_take hx))
  have key:∀ l:List (List UInt8),(∀ x∈l,x.length≤20)→rawU (l.flatMap encE)=some l:=by
   intro l
   induction l with
   | nil=>intro _;rfl
   | cons a l ih=>
    intro h
    have ha:=h a List.mem_cons_self
    have h20:(UInt8.ofNat a.length).toNat=a.length:=by rw[UInt8.toNat_ofNat'];omega
    rw[List.flatMap_cons]
    show rawU (UInt8.ofNat a.length :: (a++l.flatMap encE))=_
    rw[rawU_cons,h20,if_pos (by simp),List.drop_left,List.take_left,ih fun x hx=>h x (List.mem_cons_of_mem _ hx)]
    rfl
  exact key _ fun x hx=>hsn x (List.mem_of_mem_drop (List.mem_of_mem_take hx))
 have hfile:=fileQ_true hl (av:=av) hr (j:=i / 4) (by rw[hlr];omega) (fun w h1 h4 hw=>by
  rw[hlr] at hw
  have hll:(((es.take N).drop (4*(i / 4))).take w).length=w:=by rw[List.length_take,List.length_drop,hlen];omega
  unfold fitsOf
  rw[if_pos rfl]
  unfold fitsBun
  rw[hun w h1 h4 hw,Option.bind_some,if_pos hll,List.take_of_length_le (by omega),bundle_some (by omega) (by omega) fun j l hjl=>hsn l (List.mem_of_mem_drop (List.mem_of_mem_take (List.mem_of_getElem? hjl))),hcut])
 rw[hlr] at hfile
 unfold readQ
 have hf:fitsOf 0=fitsBun:=by unfold fitsOf;rw[if_pos rfl]
 rw[hf,show (((0:Nat):Int)-1) = -1 by omega] at hfile
 refine hfile.bind fun b hb=>?_
 have hw:wideAt (i / 4) N=min 4 (N-4*(i / 4)):=rfl
 rw[hb,hun _ (by rw[hw];omega) (by rw[hw];omega) (by rw[hw];omega),Option.getD_some]
 have hge:(((es.take N).drop (4*(i / 4))).take (wideAt (i / 4) N))[i%4]?=some ((es.take N).getD i []):=by
  rw[List.getElem?_take_of_lt (by rw[hw];omega),List.getElem?_drop,show 4*(i / 4)+i%4=i by omega,List.getD_eq_getElem?_getD,List.getElem?_eq_getElem (by omega:i<(es.take N).length)]
  rfl
 rw[hge]
 refine (gatherQ_true hl hN _ fun x hx=>pathR_mem N 0 N i (by omega) (by omega) hi x (List.mem_reverse.1 hx)).bind fun p hp=>Holds.pure ?_
 rw[hp,pathR_eq (es.take N) N 0 N i (by omega) (by omega) hi (by omega),part_all hl hN]
 rfl
end
end
section
theorem bytes_one {a b:ByteArray} (h:a.data.toList=b.data.toList):a=b:=ByteArray.ext (Array.toList_inj.1 h)
theorem sOf_list (l:List UInt8):(sOf l).data.toList=l:=rfl
def DiskTrue (es:List (List UInt8)) (l:List Fil):Prop:=∀ f∈l,f.1=sOf kCp∨TileOk es f.1 f.2.data.toList
def DiskHas (es:List (List UInt8)) (N:Nat) (l:List Fil):Prop:=∀ f∈filesP (es.take N),getF l f.1=some f.2
def HasBun (es:List (List UInt8)) (l:List Fil):Prop:=∀ j,4*j<es.length→getF l (bunName j (min 4 (es.length-4*j)))=some (sOf (cutR (es.map encE) j (min 4 (es.length-4*j))))
theorem fileOf_cut (t:Int) (r:List (List UInt8)) (j:Nat):fileOf t r j=(tileName t j (min 4 (r.length-4*j)),sOf (cutR r j (min 4 (r.length-4*j)))):=by
 unfold fileOf tileName cutR
 congr 3
 rw[←List.length_drop]
 rcases Nat.le_total 4 (r.drop (4*j)).length with h|h
 ·rw[Nat.min_eq_left h]
 ·rw[Nat.min_eq_right h,List.take_of_length_le h,List.take_of_length_le (Nat.le_refl _)]
theorem file_tile {es:List (List UInt8)} {f:Fil} (h:f∈filesP es):∃ (m j:Nat) (r:List (List UInt8)),(rowsOf es)[m]?=some r∧4*j<r.length∧f=(tileName ((m:Int)-1) j (min 4 (r.length-4*j)),sOf (cutR r j (min 4 (r.length-4*j)))):=by
 obtain⟨m,r,j,h1,h2,rfl⟩:=(filesR_mem (rowsOf es) (-1)).1 h
 refine⟨m,j,r,h1,h2,?_⟩
 rw[fileOf_cut,show (-1:Int)+(m:Int)=(m:Int)-1 by omega]
theorem tile_file {es:List (List UInt8)} {m j:Nat} {r:List (List UInt8)} (h1:(rowsOf es)[m]?=some r) (h2:4*j<r.length):(tileName ((m:Int)-1) j (min 4 (r.length-4*j)),sOf (cutR r j (min 4 (r.length-4*j))))∈filesP es:=
 (filesR_mem (rowsOf es) (-1)).2 ⟨m,r,j,h1,h2,by rw[fileOf_cut,show (-1:Int)+(m:Int)=(m:Int)-1 by omega]⟩
theorem tileOk_file {es:List (List UInt8)} {f:Fil} (h:f∈filesP es):TileOk es f.1 f.2.data.toList:=by
 obtain⟨m,j,r,h1,h2,rfl⟩:=file_tile h
 exact⟨m,j,min 4 (r.length-4*j),r,h1,by omega,by omega,by omega,rfl,rfl⟩
theorem TileOk.more {es:List (List UInt8)} {p:ByteArray} {b:List UInt8} (h:TileOk es p b) (xs:List (List UInt8)):TileOk (es++xs) p b:=by
 obtain⟨m,j,w,r,h1,h2,h3,h4,h5,rfl⟩:=h
 obtain⟨r0,s,k1,rfl⟩:=rows_take (es++xs) es.length (m:=m) (r:=r) (by rw[List.take_left];exact h1)
 exact⟨m,j,w,_,k1,h2,h3,by rw[List.length_append];omega,h5,(cutR_append h4).symm⟩
theorem TileOk.not_cp {es:List (List UInt8)} {p:ByteArray} {b:List UInt8} (h:TileOk es p b):p≠sOf kCp:=by
 obtain⟨m,j,w,r,_,_,_,_,rfl,_⟩:=h
 exact fun e=>nameOf_cp _ _ _ (sOf_inj e)
theorem tileOk_uniq {es:List (List UInt8)} (hl:es.length≤1048576) {p:ByteArray} {a b:List UInt8} (h:TileOk es p a) (k:TileOk es p b):a=b:=by
 obtain⟨m,j,w,r,h1,h2,h3,h4,rfl,rfl⟩:=h
 exact (tile_one hl h1 h2 h3 h4 k).symm
theorem DiskTrue.more {es:List (List UInt8)} {l:List Fil} (h:DiskTrue es l) (xs:List (List UInt8)):DiskTrue (es++xs) l:=fun f hf=>(h f hf).imp id fun k=>k.more xs
theorem DiskTrue.nil (es:List (List UInt8)):DiskTrue es []:=fun f hf=>by simp at hf
theorem DiskTrue.noClash {es:List (List UInt8)} {l:List Fil} (h:DiskTrue es l) (hl:es.length≤1048576):NoClash (filesP es) l:=fun f hf=>by
 rw[clashF_false]
 cases hg:getF l f.1 with
 | none=>exact .inl rfl
 | some b=>
  right
  rcases h _ (getF_some hg) with h1|h1
  ·exact absurd h1 (tileOk_file hf).not_cp
  ·exact congrArg some (bytes_one (tileOk_uniq (p:=f.1) (a:=b.data.toList) (b:=f.2.data.toList) hl h1 (tileOk_file hf)))
theorem DiskHas.kept {es:List (List UInt8)} {N:Nat} {l l' W:List Fil} {c:ByteArray} (h:DiskHas es N l) (k:KeptP l l' W c):DiskHas es N l':=fun f hf=>by
 rcases k f.1 with h1|⟨h1,_⟩|⟨h1,_⟩
 ·rw[h1];exact h f hf
 ·rw[h f hf] at h1;cases h1
 ·exact absurd h1 (tileOk_file hf).not_cp
theorem DiskHas.zero (es:List (List UInt8)) (l:List Fil):DiskHas es 0 l:=fun f hf=>by
 obtain⟨m,j,r,h1,h2,_⟩:=file_tile hf
 have:=rowsOf_short (List.mem_of_getElem? h1)
 simp at this
 subst this
 simp at h2
theorem DiskHas.bun {es:List (List UInt8)} {N:Nat} {l:List Fil} (h:DiskHas es N l):HasBun (es.take N) l:=fun j hj=>by
 have:=h _ (tile_file (rowsOf_zero (es.take N)) (by rw[List.length_map];exact hj))
 rw[List.length_map] at this
 exact this
theorem unbundle_cut {es:List (List UInt8)} (hs:∀ e∈es,e.length≤20) {j w:Nat} (h1:1≤w) (h4:w≤4) (hw:4*j+w≤es.length):unbundleOf (cutR (es.map encE) j w)=some ((es.drop (4*j)).take w):=by
 have hcut:cutR (es.map encE) j w=((es.drop (4*j)).take w).flatMap encE:=by
  unfold cutR
  rw[←List.map_drop,←List.map_take,List.flatMap_def]
 rw[hcut]
 have hll:((es.drop (4*j)).take w).length=w:=by rw[List.length_take,List.length_drop];omega
 have hsn:∀ x∈(es.drop (4*j)).take w,x.length≤20:=fun x hx=>hs x (List.mem_of_mem_drop (List.mem_of_mem_take hx))
 refine unbundle_ok ?_ (by omega) (by omega) hsn
 have key:∀ l:List (List UInt8),(∀ x∈l,x.length≤20)→rawU (l.flatMap encE)=some l:=by
  intro l
  induction l with
  | nil=>intro _;rfl
  | cons a l ih=>
   intro h
   have ha:=h a List.mem_cons_self
   have h20:(UInt8.ofNat a.length).toNat=a.length:=by rw[UInt8.toNat_ofNat'];omega
   rw[List.flatMap_cons]
   show rawU (UInt8.ofNat a.length :: (a++l.flatMap encE))=_
   rw[rawU_cons,h20,if_pos (by simp),List.drop_left,List.take_left,ih fun x hx=>h x (List.mem_cons_of_mem _ hx)]
   rfl
 exact key _ hsn
theorem bundle_cut {es:List (List UInt8)} (hs:∀ e∈es,e.length≤20) {j w:Nat} (h1:1≤w) (h4:w≤4) (hw:4*j+w≤es.length):bundleOf ((es.drop (4*j)).take w)=some (cutR (es.map encE) j w):=by
 have hll:((es.drop (4*j)).take w).length=w:=by rw[List.length_take,List.length_drop];omega
 rw[bundle_some (by omega) (by omega) fun k l hjl=>hs l (List.mem_of_mem_drop (List.mem_of_mem_take (List.mem_of_getElem? hjl)))]
 unfold cutR
 rw[←List.map_drop,←List.map_take,List.flatMap_def]
theorem bundleF_cut {es:List (List UInt8)} (hs:∀ e∈es,e.length≤20) {l:List Fil} {j w:Nat} (h1:1≤w) (h4:w≤4) (hw:4*j+w≤es.length) (hg:getF l (bunName j w)=some (sOf (cutR (es.map encE) j w))):bundleF l j w=some ((es.drop (4*j)).take w):=by
 rw[bundleF_ok hg (unbundle_cut hs h1 h4 hw),if_pos (by rw[List.length_take,List.length_drop];omega)]
theorem flat_take {k:Nat} (l:List (List UInt8)) (q:Nat) (h:∀ x∈l,x.length=k):l.flatten.take (k*q)=(l.take q).flatten:=by
 have e:=flat_drop l q h
 have e2:l.flatten=(l.take q).flatten++(l.drop q).flatten:=by rw[←List.flatten_append,List.take_append_drop]
 rcases Nat.le_total q l.length with hq|hq
 ·have hl:(l.take q).flatten.length=k*q:=by
   have:=cutR_len (r:=l) (j:=0) (w:=q) (k:=k) (by omega) h
   unfold cutR at this
   simpa using this
  rw[e2,List.take_append_of_le_length (by omega),List.take_of_length_le (by omega)]
 ·rw[List.take_of_length_le hq,List.take_of_length_le]
  have:=cutR_len (r:=l) (j:=0) (w:=l.length) (k:=k) (by omega) h
  unfold cutR at this
  simp at this
  rw[List.length_flatten]
  rw[this]
  exact Nat.mul_le_mul_left _ hq
theorem fits_cut {es:List (List UInt8)} (hs:∀ e∈es,e.length≤20) {m j w0 w:Nat} {r:List (List UInt8)} {b:List UInt8} (hr:(rowsOf es)[m]?=some r) (h1:1≤w) (hw:w≤w0) (h4:w0≤4) (hj:4*j+w0≤r.length) (h:fitsOf m (cutR r j w0) w0 w=some b):b=cutR r j w:=by
 rcases rowsOf_row hr with ⟨rfl,rfl⟩|⟨k,rfl,hk,rfl⟩
 ·rw[List.length_map] at hj
  unfold fitsOf at h
  rw[if_pos rfl] at h
  unfold fitsBun at h
  rw[unbundle_cut hs (by omega) h4 hj,Option.bind_some,if_pos (by rw[List.length_take,List.length_drop];omega),List.take_take,Nat.min_eq_left hw,bundle_cut hs h1 (by omega) (by omega)] at h
  exact (Option.some.inj h).symm
 ·unfold fitsOf at h
  rw[if_neg (by omega)] at h
  unfold fitsHash at h
  have h8:∀ x∈(levelRow es k).map (fun (x:Hsh)=>x.toList),x.length=8:=fun x hx=>by
   obtain⟨y,_,rfl⟩:=List.mem_map.1 hx
   simp
  rw[if_pos (cutR_len hj h8)] at h
  rw[←Option.some.inj h]
  unfold cutR
  rw[flat_take _ _ fun x hx=>h8 x (List.mem_of_mem_drop (List.mem_of_mem_take hx)),List.take_take,Nat.min_eq_left hw]
theorem tile_at {es:List (List UInt8)} (hl:es.length≤1048576) {m j w0:Nat} {r:List (List UInt8)} (hr:(rowsOf es)[m]?=some r) (h1:1≤w0) (h4:w0≤4) (hj:4*j<r.length) {b:List UInt8} (h:TileOk es (tileName ((m:Int)-1) j w0) b):b=cutR r j w0∧4*j+w0≤r.length:=by
 obtain⟨m',j',w',r',k1,k2,k3,k4,k5,rfl⟩:=h
 have a:=tile_ok hl hr (Nat.le_refl 1) (by decide) (show 4*j+1≤r.length by omega)
 have c:=tile_ok hl k1 k2 k3 k4
 have a':nameOk ((m:Int)-1) j w0:=by
  have:=a.1
  unfold nameOk at this ⊢
  omega
 have e:=nameOf_inj a' c.1 a.2 c.2 (sOf_inj k5)
 obtain rfl:m=m':=by omega
 obtain rfl:j=j':=by omega
 obtain rfl:w0=w':=by omega
 rw[hr] at k1
 cases k1
 exact⟨rfl,k4⟩
theorem netTrue_plain {es:List (List UInt8)} (hl:es.length≤1048576) (hs:∀ e∈es,e.length≤20) {n:Nt} (h:DiskTrue es n.files) (h0:n.lies = []):NetTrue es n where
 steady:=by unfold Steady;rw[h0];intro l hl;simp at hl
 fits m j w0 w r data b h1 h2 h3 h4 h5 h6 h7 h8:=by
  have hlie:lieOf n (tileName ((m:Int)-1) j w0)=none:=by unfold lieOf;rw[h0];rfl
  unfold fetchA at h7
  rw[hlie] at h7
  obtain⟨x,hx,rfl⟩:=Option.map_eq_some_iff.1 h7
  rcases h _ (getF_some hx) with k|k
  ·exact absurd k fun e=>nameOf_cp _ _ _ (sOf_inj e)
  ·obtain⟨e,hj⟩:=tile_at hl h1 (by omega) h4 (by omega) k
   dsimp only at e h8
   rw[e] at h8
   exact fits_cut hs h1 h2 h3 h4 hj h8
theorem netHas_plain {es:List (List UInt8)} {N:Nat} {n:Nt} (h:DiskHas es N n.files) (h0:n.lies = []):NetHas es N n:=fun m j r h1 h2=>by
 have hlie:lieOf n (tileName ((m:Int)-1) j (min 4 (r.length-4*j)))=none:=by unfold lieOf;rw[h0];rfl
 unfold fetchA
 rw[hlie]
 have:=h _ (tile_file h1 h2)
 dsimp only at this ⊢
 rw[this]
 rfl
theorem fetch_cp {n:Nt} {c:ByteArray} (h:getF n.files (sOf kCp)=some c) (h0:n.lies = []):fetchA n (sOf kCp)=some c.data.toList:=by
 unfold fetchA
 rw[show lieOf n (sOf kCp)=none by unfold lieOf;rw[h0];rfl,h]
 rfl
end
section
theorem take_cut (es:List (List UInt8)) (k w:Nat):(es.take (4*k))++(es.drop (4*k)).take w=es.take (4*k+w):=by rw[List.take_add]
section
variable {es:List (List UInt8)} {l:List Fil} (hl:es.length≤1048576) (hs:∀ e∈es,e.length≤20) (hT:DiskTrue es l) (hB:HasBun es l)
include hl hs hT hB
theorem load_all {n:Nat} (hn:n≤es.length) (hBn:HasBun (es.take n) l):∀ (m i:Nat),4*(m+i)<n+4→n≤4*(m+i)→loadP l n m i (es.take (min n (4*i)))=(es.take n,none)
 | 0,i,h1,h2=>by have:=hl;have:=hT;have:=hB;rw[loadP,Nat.min_eq_left (by omega)]
 | m+1,i,h1,h2=>by
  have hlen:(es.take n).length=n:=by rw[List.length_take,Nat.min_eq_left hn]
  have hsn:∀ e∈es.take n,e.length≤20:=fun e he=>hs e (List.mem_of_mem_take he)
  have hg:=hBn i (by rw[hlen];omega)
  rw[hlen] at hg
  have hb:=bundleF_cut hsn (l:=l) (j:=i) (w:=min 4 (n-4*i)) (by omega) (by omega) (by rw[hlen];omega) hg
  rw[loadP,hb]
  dsimp only
  have e:es.take (min n (4*i))++((es.take n).drop (4*i)).take (min 4 (n-4*i))=es.take (min n (4*(i+1))):=by
   rw[Nat.min_eq_right (show 4*i≤n by omega)]
   rw[show es.take (4*i)=(es.take n).take (4*i) by rw[List.take_take,Nat.min_eq_left (by omega)],take_cut,List.take_take]
   congr 1
   omega
  rw[e]
  exact load_all hn hBn m (i+1) (by omega) (by omega)
theorem no_wider {k W:Nat} (hk:k≤es.length) (h1:1≤W) (h4:W≤4) (h:es.length<4*(k / 4)+W):getF l (bunName (k / 4) W)=none:=by
 have:=hs;have:=hB
 rw[getF_none]
 intro f hf e
 rcases hT f hf with h2|h2
 ·exact nameOf_cp _ _ _ (sOf_inj (e.symm.trans h2))
 ·rw[e] at h2
  obtain⟨m,j,w,r,k1,k2,k3,k4,k5,_⟩:=h2
  have c:=tile_ok hl k1 k2 k3 k4
  have a:nameOk (-1) ((k / 4:Nat):Int) W:=by unfold nameOk;omega
  have e2:=nameOf_inj a c.1 (by omega) c.2 (sOf_inj k5)
  obtain rfl:m=0:=by omega
  rw[rowsOf_zero] at k1
  cases k1
  rw[List.length_map] at k4
  omega
theorem further_down {k:Nat} (hk:k≤es.length) {w0:Nat} (h0:k%4≤w0) (hb:es.length<4*(k / 4)+(w0+1)):∀ (x:Nat),w0+x≤4→furtherW l (es.take k) (w0+x)=furtherW l (es.take k) w0
 | 0,_=>rfl
 | x+1,h=>by
  have hlen:(es.take k).length=k:=by rw[List.length_take,Nat.min_eq_left hk]
  rw[show w0+(x+1)=w0+x+1 by omega,furtherW,hlen,if_neg (by omega),no_wider hl hs hT hB hk (by omega) (by omega) (by omega),if_pos (show (none:Option ByteArray).isNone=true from rfl)]
  exact further_down hk h0 hb x (by omega)
theorem further_end:furtherP l es=([],false):=by
 have h:=further_down hl hs hT hB (Nat.le_refl es.length) (w0:=es.length%4) (Nat.le_refl _) (by omega) (4-es.length%4) (by omega)
 rw[List.take_length,show es.length%4+(4-es.length%4)=4 by omega] at h
 unfold furtherP
 rw[h]
 cases hm:es.length%4 with
 | zero=>rfl
 | succ x=>rw[furtherW,if_pos (by omega)]
theorem further_more {k:Nat} (hk:k<es.length):furtherP l (es.take k)=(((es.drop (4*(k / 4))).take (min 4 (es.length-4*(k / 4)))).drop (k%4),decide (min 4 (es.length-4*(k / 4))=4)):=by
 have hlen:(es.take k).length=k:=by rw[List.length_take,Nat.min_eq_left (by omega)]
 obtain⟨w,hw⟩:∃ w,w+1=min 4 (es.length-4*(k / 4)):=⟨min 4 (es.length-4*(k / 4))-1,by omega⟩
 have hg:=hB (k / 4) (by omega)
 rw[←hw] at hg ⊢
 have hd:furtherP l (es.take k)=furtherW l (es.take k) (w+1):=by
  unfold furtherP
  rcases Nat.lt_or_ge (w+1) 4 with h4|h4
  ·have h:=further_down hl hs hT hB (Nat.le_of_lt hk) (w0:=w+1) (by omega) (by omega) (4-(w+1)) (by omega)
   rw[show w+1+(4-(w+1))=4 by omega] at h
   exact h
  ·rw[show w+1=4 by omega]
 have hb:=bundleF_cut hs (l:=l) (j:=k / 4) (w:=w+1) (by omega) (by omega) (by omega) hg
 rw[hd,furtherW,hlen,if_neg (by omega),hg,if_neg (by simp),hb]
 dsimp only
 rw[if_pos]
 rw[List.take_take,List.drop_take,Nat.min_eq_left (by omega)]
 congr 1
 omega
theorem goes_all:∀ (x k:Nat),k+x=es.length→Goes l (es.take k) es
 | x,k,h=>by
  rcases Nat.lt_or_ge k es.length with hk|hk
  ·have hf:=further_more hl hs hT hB hk
   have e:es.take k++(((es.drop (4*(k / 4))).take (min 4 (es.length-4*(k / 4)))).drop (k%4))=es.take (min (4*(k / 4)+4) es.length):=by
    have e1:es.take k=es.take (4*(k / 4))++(es.drop (4*(k / 4))).take (k%4):=by rw[take_cut];congr 1;omega
    have e2:(es.drop (4*(k / 4))).take (k%4)=((es.drop (4*(k / 4))).take (min 4 (es.length-4*(k / 4)))).take (k%4):=by rw[List.take_take,Nat.min_eq_left (by omega)]
    rw[e1,e2,List.append_assoc,List.take_append_drop,take_cut]
    congr 1
    omega
   by_cases h4:min 4 (es.length-4*(k / 4))=4
   ·refine .more (by rw[hf];simp[h4]) ?_
    rw[hf]
    dsimp only
    rw[e,show min (4*(k / 4)+4) es.length=4*(k / 4)+4 by omega]
    exact goes_all (es.length-(4*(k / 4)+4)) (4*(k / 4)+4) (by omega)
   ·have h2:Goes l (es.take k) (es.take k++(furtherP l (es.take k)).1):=.stop (by rw[hf];simp[h4])
    rw[hf] at h2
    dsimp only at h2
    rw[e,show min (4*(k / 4)+4) es.length=es.length by omega,List.take_length] at h2
    exact h2
  ·obtain rfl:k=es.length:=by omega
   rw[List.take_length]
   have hf:=further_end hl hs hT hB
   have h2:Goes l es (es++(furtherP l es).1):=.stop (by rw[hf])
   rw[hf,List.append_nil] at h2
   exact h2
termination_by x=>x
decreasing_by omega
theorem opens_all {n:Nat} {key:ByteArray} (hn:n≤es.length) (hBn:HasBun (es.take n) l) (hc:openHead l key=some (n,rootOf (es.take n))):OpensTo l key (.good es n):=by
 refine .fine hc ?_ rfl (goes_all hl hs hT hB (es.length-n) n (by omega))
 have:=load_all hl hs hT hB hn hBn ((n+3) / 4) 0 (by omega) (by omega)
 rw[Nat.mul_zero,Nat.min_zero,List.take_zero] at this
 exact this
end
theorem head_cp {l:List Fil} {es:List (List UInt8)} {key:ByteArray} (hl:es.length≤1048576) (h:getF l (sOf kCp)=some (cpOf es key)):openHead l key=some (es.length,rootOf es):=by
 unfold openHead
 rw[h]
 dsimp only
 have e:(cpOf es key).data.toList=signOf es.length (rootOf es) key.data.toList:=rfl
 rw[e,checkGo_sign _ _ _ (by omega)]
 simp
theorem head_none {l:List Fil} {key:ByteArray} (h:getF l (sOf kCp)=none):openHead l key=some (0,rootOf []):=by
 unfold openHead
 rw[h]
 rfl
end
section
def HasB (n:Nat) (l:List Fil):Prop:=∀ i,4*i<n→(getF l (bunName i (min 4 (n-4*i)))).isSome=true
theorem get_put_some (l:List Fil) (p b q:ByteArray) (h:(getF l q).isSome=true):(getF (putF l p b) q).isSome=true:=by
 rw[getF_put]
 split
 ·rfl
 ·exact h
theorem HasB.put {n:Nat} {l:List Fil} (h:HasB n l) (p b:ByteArray):HasB n (putF l p b):=fun i hi=>get_put_some l p b _ (h i hi)
theorem HasB.bun {es:List (List UInt8)} {l:List Fil} (h:HasB es.length l) (hl:es.length≤1048576) (hT:DiskTrue es l):HasBun es l:=fun j hj=>by
 have hs:=h j hj
 cases hg:getF l (bunName j (min 4 (es.length-4*j))) with
 | none=>rw[hg] at hs;cases hs
 | some b=>
  rcases hT _ (getF_some hg) with k|k
  ·exact absurd k fun e=>nameOf_cp _ _ _ (sOf_inj e)
  ·have t:TileOk es (bunName j (min 4 (es.length-4*j))) (sOf (cutR (es.map encE) j (min 4 (es.length-4*j)))).data.toList:=⟨0,j,min 4 (es.length-4*j),es.map encE,rowsOf_zero es,by omega,by omega,by rw[List.length_map];omega,rfl,rfl⟩
   exact congrArg some (bytes_one (tileOk_uniq (p:=bunName j (min 4 (es.length-4*j))) (a:=b.data.toList) hl k t))
theorem HasBun.some {es:List (List UInt8)} {l:List Fil} (h:HasBun es l):HasB es.length l:=fun i hi=>by rw[h i hi];rfl
theorem putD_files (d:Dk) (p b:ByteArray):(putD d p b).files=d.files∨(putD d p b).files=putF d.files p b:=by
 unfold putD
 split
 ·left
  show (enterD d).files=_
  exact enterD_files d
 ·rw[swapD_files]
  split
  ·exact .inr rfl
  ·exact .inl rfl
theorem putD_good {d:Dk} {f:Fil} (h:badPut d f=false):(putD d f.1 f.2).files=putF d.files f.1 f.2:=by
 unfold badPut at h
 rw[Bool.or_eq_false_iff] at h
 have h2:enterK d=0:=by have:=h.2;simp at this;exact this
 unfold putD
 rw[if_neg (by simp[h.1]),swapD_files,if_pos (by omega)]
section
variable {W:List Fil} {P:List Fil→Prop} (hP:∀ l f,f∈W→P l→P (putF l f.1 f.2))
include hP
theorem puts_keep:∀ (fs:List Fil) (d:Dk),(∀ f∈fs,f∈W)→P d.files→P (putsD d fs).1.files
 | [],d,_,h=>h
 | f :: fs,d,hs,h=>by
  have hf:=hs f List.mem_cons_self
  have h1:P (putD d f.1 f.2).files:=by
   rcases putD_files d f.1 f.2 with e|e
   ·rw[e];exact h
   ·rw[e];exact hP _ _ hf h
  unfold putsD
  split
  ·exact h1
  ·exact puts_keep fs _ (fun g hg=>hs g (List.mem_cons_of_mem _ hg)) h1
theorem pubJ_keep:∀ (rs:List (List (List UInt8))) (n:Nat) (put:List Nat) (d:Dk),(∀ f∈filesR ((n:Int)-1) rs,f∈W)→P d.files→P (pubJ n rs put d).1.files
 | [],n,put,d,_,h=>h
 | r :: rs,n,put,d,hs,h=>by
  rw[filesR] at hs
  have h1:∀ j,P (writeJ ((n:Int)-1) r j d).1.files:=fun j=>by
   unfold writeJ
   exact puts_keep hP _ d (fun f hf=>hs f (List.mem_append.2 (.inl (List.mem_of_mem_drop hf)))) h
  unfold pubJ
  dsimp only
  split
  ·exact h1 _
  ·exact pubJ_keep rs (n+1) _ _ (fun f hf=>hs f (List.mem_append.2 (.inr (by rw[show ((n:Int)-1+1)=(((n+1:Nat):Int)-1) by omega];exact hf)))) (h1 _)
end
def farK (L n j:Nat):Nat:=max L (min (4*j) n)
structure LeftJ (all:List (List UInt8)) (L:Nat) (c:ByteArray) (j:Nat) (l:List Fil):Prop where
 tr:DiskTrue (all.take (farK L all.length j)) l
 bun:HasB (farK L all.length j) l
 old:HasB L l
 cp:getF l (sOf kCp)=some c
theorem LeftJ.step {all:List (List UInt8)} {L:Nat} {c:ByteArray} {j:Nat} {l:List Fil} (h:LeftJ all L c j l) (hL:L≤all.length) (hj:4*j<all.length):LeftJ all L c (j+1) (putF l (fileOf (-1) (all.map encE) j).1 (fileOf (-1) (all.map encE) j).2):=by
 have hf:=fileOf_cut (-1) (all.map encE) j
 rw[List.length_map] at hf
 rw[hf]
 obtain⟨k,hk⟩:∃ k,k=farK L all.length j:=⟨_,rfl⟩
 obtain⟨k',hk'⟩:∃ k',k'=farK L all.length (j+1):=⟨_,rfl⟩
 have hkk:k≤k':=by rw[hk,hk'];unfold farK;omega
 have hkn:k'≤all.length:=by rw[hk'];unfold farK;omega
 have hw:4*j+min 4 (all.length-4*j)≤k':=by rw[hk'];unfold farK;omega
 obtain⟨h1,h2,h3,h4⟩:=h
 rw[←hk] at h1 h2
 have hlen:(all.take k').length=k':=by rw[List.length_take,Nat.min_eq_left hkn]
 refine⟨fun f hf=>?_,fun i hi=>?_,h3.put _ _,?_⟩
 ·rw[←hk']
  rcases mem_put hf with h5|h5
  ·have e:all.take k'=all.take k++(all.drop k).take (k'-k):=by rw[←List.take_add];congr 1;omega
   exact (h1 f h5).imp id fun x=>by rw[e];exact x.more _
  ·right
   rw[h5]
   refine⟨0,j,min 4 (all.length-4*j),(all.take k').map encE,rowsOf_zero _,by omega,by omega,by rw[List.length_map,hlen];exact hw,rfl,?_⟩
   rw[sOf_list,List.map_take]
   have e2:all.map encE=(all.map encE).take k'++(all.map encE).drop k':=(List.take_append_drop _ _).symm
   conv=>lhs;rw[e2]
   exact cutR_append (by rw[List.length_take,List.length_map];omega)
 ·rw[←hk'] at hi ⊢
  by_cases e:k'=k
  ·rw[e] at hi ⊢
   exact get_put_some _ _ _ _ (h2 i hi)
  ·have e3:k'=min (4*(j+1)) all.length:=by rw[hk'] at e ⊢;rw[hk] at e;unfold farK at *;omega
   have e4:4*j≤k:=by rw[hk];unfold farK;omega
   rcases Nat.lt_or_ge i j with hij|hij
   ·have:=get_put_some _ (tileName (-1) j (min 4 (all.length-4*j))) (sOf (cutR (all.map encE) j (min 4 (all.length-4*j)))) _ (h2 i (by omega))
    rw[show min 4 (k-4*i)=min 4 (k'-4*i) by omega] at this
    exact this
   ·obtain rfl:i=j:=by omega
    rw[getF_put,if_pos]
    ·rfl
    ·show tileName (-1) i _=_
     congr 1
     omega
 ·rw[getF_put,if_neg]
  ·exact h4
  ·exact fun e=>nameOf_cp _ _ _ (sOf_inj e.symm)
theorem row_puts {all:List (List UInt8)} {L:Nat} {c:ByteArray} (hL:L≤all.length):∀ (x j:Nat) (d:Dk),j+x=(all.length+3) / 4→LeftJ all L c j d.files→
  (∃ j',LeftJ all L c j' (putsD d ((levelF (-1) (all.map encE)).drop j)).1.files)∧(x≤(putsD d ((levelF (-1) (all.map encE)).drop j)).2→LeftJ all L c ((all.length+3) / 4) (putsD d ((levelF (-1) (all.map encE)).drop j)).1.files)
 | 0,j,d,hx,h=>by
  rw[levelF_out _ _ _ (by rw[List.length_map];omega)]
  exact⟨⟨j,h⟩,fun _=>by rw[←hx,Nat.add_zero];exact h⟩
 | x+1,j,d,hx,h=>by
  have hj:4*j<all.length:=by omega
  rw[levelF_drop _ _ _ (by rw[List.length_map];exact hj)]
  unfold putsD
  cases hb:badPut d (fileOf (-1) (all.map encE) j) with
  | true=>
   rw[if_pos rfl]
   refine⟨?_,fun h=>by simp at h⟩
   rcases putD_files d (fileOf (-1) (all.map encE) j).1 (fileOf (-1) (all.map encE) j).2 with e|e
   ·exact⟨j,by dsimp only;rw[e];exact h⟩
   ·exact⟨j+1,by dsimp only;rw[e];exact h.step hL hj⟩
  | false=>
   rw[if_neg (by simp)]
   obtain⟨h1,h2⟩:=row_puts hL x (j+1) _ (by omega) (show LeftJ all L c (j+1) (putD d (fileOf (-1) (all.map encE) j).1 (fileOf (-1) (all.map encE) j).2).files by rw[putD_good hb];exact h.step hL hj)
   exact⟨h1,fun hh=>h2 (by dsimp only at hh;omega)⟩
theorem publish_left {es0 more:List (List UInt8)} {key c:ByteArray} {d:Dk} (hT:DiskTrue es0 d.files) (hB:HasB es0.length d.files) (hc:getF d.files (sOf kCp)=some c) :
  ∃ k,es0.length≤k∧k≤(es0++more).length∧DiskTrue ((es0++more).take k) (pubD (es0++more) key [] d).1.files∧HasB k (pubD (es0++more) key [] d).1.files∧HasB es0.length (pubD (es0++more) key [] d).1.files∧
   (getF (pubD (es0++more) key [] d).1.files (sOf kCp)=some c∨(k=(es0++more).length∧getF (pubD (es0++more) key [] d).1.files (sOf kCp)=some (cpOf (es0++more) key))):=by
 obtain⟨all,hall⟩:∃ all,all=es0++more:=⟨_,rfl⟩
 rw[←hall]
 have hL:es0.length≤all.length:=by rw[hall,List.length_append];omega
 have h0:LeftJ all es0.length c 0 d.files:=by
  have e:farK es0.length all.length 0=es0.length:=by unfold farK;omega
  refine⟨?_,?_,hB,hc⟩
  ·rw[e,hall,List.take_left];exact hT
  ·rw[e];exact hB
 have fin:∀ {j l},LeftJ all es0.length c j l→∃ k,es0.length≤k∧k≤all.length∧DiskTrue (all.take k) l∧HasB k l∧HasB es0.length l∧(getF l (sOf kCp)=some c∨(k=all.length∧getF l (sOf kCp)=some (cpOf all key))):=fun {j l} h=>
  ⟨farK es0.length all.length j,by unfold farK;omega,by unfold farK;omega,h.tr,h.bun,h.old,.inl h.cp⟩
 obtain⟨h1,h2⟩:=row_puts hL ((all.length+3) / 4) 0 d (by omega) h0
 have hfull:farK es0.length all.length ((all.length+3) / 4)=all.length:=by unfold farK;omega
 obtain⟨rs,hrs⟩:∃ rs,rowsOf all=all.map encE :: rs:=⟨_,rfl⟩
 have hJ:(∃ j,LeftJ all es0.length c j (pubJ 0 (rowsOf all) [] d).1.files)∧((pubJ 0 (rowsOf all) [] d).2.2=none→LeftJ all es0.length c ((all.length+3) / 4) (pubJ 0 (rowsOf all) [] d).1.files):=by
  have hW:∀ f∈filesR (((0+1:Nat):Int)-1) rs,f∈filesP all:=fun f hf=>by
   unfold filesP
   rw[hrs,filesR]
   exact List.mem_append.2 (.inr hf)
  have hw:writeJ (((0:Nat):Int)-1) (all.map encE) 0 d=((putsD d ((levelF (-1) (all.map encE)).drop 0)).1,4*min (0+(putsD d ((levelF (-1) (all.map encE)).drop 0)).2) ((all.map encE).length / 4),((levelF (-1) (all.map encE))[0+(putsD d ((levelF (-1) (all.map encE)).drop 0)).2]?).map (·.1)):=rfl
  rw[hrs]
  unfold pubJ
  dsimp only
  have hz:(([]:List Nat)++List.replicate (0+1-([]:List Nat).length) 0).getD 0 0 / 4=0:=rfl
  rw[hz,hw]
  dsimp only
  cases hq:(levelF (-1) (all.map encE))[0+(putsD d ((levelF (-1) (all.map encE)).drop 0)).2]? with
  | some f=>exact⟨h1,fun e=>by cases e⟩
  | none=>
   have hge:=List.getElem?_eq_none_iff.1 hq
   rw[levelF_len,List.length_map] at hge
   have h3:=h2 (by omega)
   have h4:=pubJ_keep (W:=filesP all) (P:=LeftJ all es0.length c ((all.length+3) / 4)) (fun l f hf h=>⟨fun g hg=>by
     rw[hfull,List.take_length]
     rcases mem_put hg with h5|h5
     ·have:=h.tr g h5
      rw[hfull,List.take_length] at this
      exact this
     ·rw[h5];exact .inr (tileOk_file hf),h.bun.put _ _,h.old.put _ _,by
     rw[getF_put,if_neg (fun e=>(tileOk_file hf).not_cp e.symm)];exact h.cp⟩) rs (0+1) (([]++List.replicate (0+1-([]:List Nat).length) 0).set 0 (4*min (0+(putsD d ((levelF (-1) (all.map encE)).drop 0)).2) ((all.map encE).length / 4))) (putsD d ((levelF (-1) (all.map encE)).drop 0)).1 hW h3
   exact⟨⟨_,h4⟩,fun _=>h4⟩
 unfold pubD
 cases hp:(pubJ 0 (rowsOf all) [] d).2.2 with
 | some p=>
  obtain⟨⟨j,h5⟩,_⟩:=hJ
  exact fin h5
 | none=>
  have h5:=hJ.2 hp
  dsimp only
  rw[swapD_files]
  split
  ·refine⟨all.length,hL,Nat.le_refl _,fun g hg=>?_,?_,h5.old.put _ _,.inr ⟨rfl,?_⟩⟩
   ·rcases mem_put hg with h6|h6
    ·have:=h5.tr g h6
     rw[hfull] at this
     exact this
    ·left;rw[h6]
   ·have:=h5.bun
    rw[hfull] at this
    exact this.put _ _
   ·rw[getF_put,if_pos rfl]
  ·exact fin h5
end
section
structure Quiet (d:Dk):Prop where
 failAt:d.failAt=0
 dead:d.dead=false
 hit:d.hit=false
theorem Quiet.noHit {d:Dk} (h:Quiet d):enterHit d=false:=by unfold enterHit;rw[h.failAt];simp
theorem Quiet.enter {d:Dk} (h:Quiet d):Quiet (enterD d):=by
 unfold enterD
 rw[h.noHit]
 exact⟨h.failAt,h.dead,h.hit⟩
theorem Quiet.swap {d:Dk} (h:Quiet d) (p b:ByteArray):Quiet (swapD d p b):=by
 have:=h.enter
 unfold swapD
 split
 ·exact⟨this.failAt,this.dead,this.hit⟩
 ·exact this
theorem Quiet.put {d:Dk} (h:Quiet d) (p b:ByteArray):Quiet (putD d p b):=by
 have:=h.enter
 unfold putD
 split
 ·exact⟨this.failAt,this.dead,this.hit⟩
 ·exact h.swap p b
theorem Quiet.puts:∀ (fs:List Fil) {d:Dk},Quiet d→Quiet (putsD d fs).1
 | [],_,h=>h
 | f :: fs,d,h=>by
  unfold putsD
  split
  ·exact h.put _ _
  ·exact Quiet.puts fs (h.put _ _)
theorem Quiet.pubJ:∀ (rs:List (List (List UInt8))) (n:Nat) (put:List Nat) {d:Dk},Quiet d→Quiet (pubJ n rs put d).1
 | [],_,_,_,h=>h
 | r :: rs,n,put,d,h=>by
  unfold Proofs.YtefccfakhgdfbabGreatDoor.pubJ
  dsimp only
  split
  ·exact Quiet.puts _ h
  ·exact Quiet.pubJ rs (n+1) _ (Quiet.puts _ h)
theorem Quiet.pub {d:Dk} (h:Quiet d) (es:List (List UInt8)) (key:ByteArray) (put:List Nat):Quiet (pubD es key put d).1:=by
 unfold pubD
 split
 ·exact Quiet.pubJ _ _ _ h
 ·exact (Quiet.pubJ _ _ _ h).swap _ _
structure Sound1 (es:List (List UInt8)) (put:List Nat) (d:Dk):Prop where
 fresh:Fresh d
 true':DiskTrue es d.files
 puts:PutOk d.files (rowsOf es) put
theorem Sound1.append {es:List (List UInt8)} {put:List Nat} {d:Dk} (h:Sound1 es put d) (e:List UInt8):Sound1 (es ++ [e]) put d:=⟨h.fresh,h.true'.more _,putOk_more e h.puts⟩
theorem publish_quiet {es:List (List UInt8)} {put:List Nat} {d:Dk} (key:ByteArray) (hl:es.length≤1048576) (hq:Quiet d) (h:Sound1 es put d) :
  (pubD es key put d).2.2=none∧Quiet (pubD es key put d).1∧Sound1 es (pubD es key put d).2.1 (pubD es key put d).1∧DiskHas es es.length (pubD es key put d).1.files∧getF (pubD es key put d).1.files (sOf kCp)=some (cpOf es key)∧
   (∀ N,DiskHas es N d.files→DiskHas es N (pubD es key put d).1.files)∧(pubD es key put d).1.files.length≤d.files.length+12*(es.length+3)+1∧(pubD es key put d).1.calls≤d.calls+12*(es.length+3)+1:=by
 obtain⟨h1,h2,h3,h4,h5,h6,h7⟩:=publish_law key hl h.fresh (h.true'.noClash hl) h.puts
 have hQ:=hq.pub es key put
 rcases h7 with ⟨k1,k2,k3,k4,k5⟩|⟨p,k1,k2,_⟩
 ·refine⟨k1,hQ,⟨k2,fun f hf=>?_,k3⟩,?_,k5,fun N hN=>hN.kept h1,h5,h6⟩
  ·rcases h4 f hf with h8|h8|h8
   ·exact h.true' f h8
   ·exact .inr (tileOk_file h8)
   ·left;rw[h8]
  ·unfold DiskHas
   rw[List.take_length]
   exact k4
 ·have:=hQ.hit
  rw[k2] at this
  cases this
theorem sound_new (d:Dk) (hf:d.files = []) (hd:d.dead=false) (hh:d.hit=false) (ht:d.turned=false):Sound1 [] [] d:=
 ⟨⟨hd,hh,ht,by rw[hf];exact List.nodup_nil⟩,by rw[hf];exact DiskTrue.nil _,putOk_nil _ _⟩
end
section
def evenT (n level index:Nat):List ByteArray:=[tileName ((level / 2:Nat):Int) (index / 4) (wideAt (index / 4) (n / 2 ^ level))]
def fullT (n level index:Nat):List ByteArray:=if level%2=1 then evenT n (level-1) (2*index)++evenT n (level-1) (2*index+1) else evenT n level index
def rootT (N:Nat):Nat→Nat→Nat→List ByteArray
 | 0,_,_=>[]
 | f+1,i,n=>if n &&& (n-1)=0∧i%n=0 then fullT N (Lib.bitLen n-1) (i / n) else rootT N f i (below n)++rootT N f (i+below n) (n-below n)
def gatherT (N:Nat) (rs:List (Nat×Nat)):List ByteArray:=rs.flatMap fun x=>rootT N (x.2-x.1) x.1 (x.2-x.1)
def bunT (N i:Nat):ByteArray:=tileName (-1) (i / 4) (wideAt (i / 4) N)
def readT (N i:Nat):List ByteArray:=bunT N i :: gatherT N (pathR N 0 N i).reverse
def Has1 (s:Cs) (p:ByteArray):Prop:=(kvGet s.files p).isSome=true∨(kvGet s.cache.items p).isSome=true
theorem kvGet_app (l k:List Kv) (p:ByteArray):kvGet (l++k) p=(kvGet l p).or (kvGet k p):=by
 unfold kvGet
 rw[List.find?_append]
 cases l.find? fun x=>decide (x.1=p) <;> rfl
theorem kvGet_one (p q:ByteArray) (b:List UInt8):kvGet [(p,b)] q=if p=q then some b else none:=by
 unfold kvGet
 rw[List.find?_cons]
 by_cases h:p=q
 ·simp[h]
 ·simp[h]
theorem kvGet_cons (p q:ByteArray) (b:List UInt8) (l:List Kv):kvGet ((p,b) :: l) q=if p=q then some b else kvGet l q:=by
 have:=kvGet_app [(p,b)] l q
 rw[List.singleton_append] at this
 rw[this,kvGet_one]
 split <;> rfl
theorem kvGet_drop (l:List Kv) (p q:ByteArray) (h:q≠p):kvGet (kvDrop l p) q=kvGet l q:=by
 unfold kvGet kvDrop
 rw[List.find?_filter]
 congr 1
 congr 1
 funext x
 by_cases hx:x.1=q
 ·simp[hx,h]
 ·simp[hx]
theorem kvGet_isSome {l:List Kv} {p:ByteArray}:(kvGet l p).isSome=true↔p∈l.map (·.1):=by
 unfold kvGet
 rw[Option.isSome_map,List.find?_isSome,List.mem_map]
 constructor
 ·rintro ⟨x,hx,he⟩;exact⟨x,hx,by simpa using he⟩
 ·rintro ⟨x,hx,he⟩;exact⟨x,hx,by simpa using he⟩
theorem cacheGet_keys (c:Cch) (p q:ByteArray):(kvGet (cacheGet c p).items q).isSome=(kvGet c.items q).isSome:=by
 unfold cacheGet
 split
 ·rename_i v hv
  show (kvGet ((p,v) :: kvDrop c.items p) q).isSome=_
  rw[kvGet_cons]
  by_cases h:p=q
  ·subst h;rw[if_pos rfl,hv]
  ·rw[if_neg h,kvGet_drop _ _ _ fun e=>h e.symm]
 ·rfl
def Calls0 {α:Type} (m:Qm α) (T:List ByteArray):Prop:=∀ s,(∀ p∈T,Has1 s p)→(m s).2.net=s.net∧∀ q,Has1 s q→Has1 (m s).2 q
theorem Calls0.pure {α:Type} (a:α):Calls0 (Qm.pure a) []:=fun s _=>⟨rfl,fun _ h=>h⟩
theorem Calls0.bind {α β:Type} {m:Qm α} {f:α→Qm β} {T U:List ByteArray} (h:Calls0 m T) (k:∀ a,Calls0 (f a) U):Calls0 (Qm.bind m f) (T++U):=fun s hs=>by
 obtain⟨h1,h2⟩:=h s fun p hp=>hs p (List.mem_append_left _ hp)
 unfold Qm.bind
 cases hm:m s with
 | mk o s1=>
  rw[hm] at h1 h2
  cases o with
  | ok a=>
   obtain⟨k1,k2⟩:=k a s1 fun p hp=>h2 p (hs p (List.mem_append_right _ hp))
   exact⟨k1.trans h1,fun q hq=>k2 q (h2 q hq)⟩
  | error e=>exact⟨h1,h2⟩
theorem fileQ_calls0 (fits:FitsF) (level:Int) (index count:Nat):Calls0 (fileQ fits level index count) [tileName level index (wideAt index count)]:=fun s hs=>by
 have h:=hs _ (List.mem_singleton.2 rfl)
 unfold fileQ
 cases h1:kvGet s.files (tileName level index (wideAt index count)) with
 | some b=>exact⟨rfl,fun q hq=>hq⟩
 | none=>
  dsimp only
  cases h2:kvGet s.cache.items (tileName level index (wideAt index count)) with
  | some b=>
   refine⟨rfl,fun q hq=>?_⟩
   rcases hq with hq|hq
   ·left
    show (kvGet (s.files++_) q).isSome=true
    rw[kvGet_app,Option.isSome_or,hq]
    rfl
   ·right
    show (kvGet (cacheGet s.cache _).items q).isSome=true
    rw[cacheGet_keys]
    exact hq
  | none=>
   rcases h with h|h
   ·rw[h1] at h;cases h
   ·rw[h2] at h;cases h
theorem partQ_calls0 (b:List UInt8) (k:Nat):Calls0 (partQ b k) []:=fun s _=>by
 unfold partQ
 split <;> exact⟨rfl,fun _ h=>h⟩
theorem evenQ_calls0 (n level index:Nat):Calls0 (evenQ n level index) (evenT n level index):=by
 have:=(fileQ_calls0 fitsHash ((level / 2:Nat):Int) (index / 4) (n / 2 ^ level)).bind fun b=>partQ_calls0 b (index%4)
 simpa [evenQ,evenT] using this
theorem fullQ_calls0 (n level index:Nat):Calls0 (fullQ n level index) (fullT n level index):=by
 unfold fullQ fullT
 split
 ·have:=(evenQ_calls0 n (level-1) (2*index)).bind fun a=>(evenQ_calls0 n (level-1) (2*index+1)).bind fun b=>Calls0.pure (nodeH a b)
  simpa using this
 ·exact evenQ_calls0 n level index
theorem rootQ_calls0 (N:Nat):∀ (f i n:Nat),Calls0 (rootQ N f i n) (rootT N f i n)
 | 0,_,_=>fun s _=>⟨rfl,fun _ h=>h⟩
 | f+1,i,n=>by
   rw[rootQ,rootT]
   split
   ·exact fullQ_calls0 _ _ _
   ·have:=(rootQ_calls0 N f i (below n)).bind fun a=>(rootQ_calls0 N f (i+below n) (n-below n)).bind fun b=>Calls0.pure (nodeH a b)
    simpa using this
theorem gatherQ_calls0 (N:Nat):∀ (rs:List (Nat×Nat)),Calls0 (gatherQ N rs) (gatherT N rs)
 | []=>Calls0.pure _
 | x :: rs=>by
   have:=(rootQ_calls0 N (x.2-x.1) x.1 (x.2-x.1)).bind fun h=>(gatherQ_calls0 N rs).bind fun l=>Calls0.pure (h :: l)
   rw[gatherQ]
   simpa [gatherT] using this
theorem readQ_calls0 (N i:Nat):Calls0 (readQ N i) (readT N i):=by
 have h2:∀ b,Calls0 (match ((unbundleOf b).getD [])[i%4]? with
  | none=>fun s=>(.error .panic,s)
  | some e=>Qm.bind (gatherQ N (pathR N 0 N i).reverse) fun p=>Qm.pure (e,p)) (gatherT N (pathR N 0 N i).reverse):=fun b=>by
  cases ((unbundleOf b).getD [])[i%4]? with
  | none=>exact fun s _=>⟨rfl,fun _ h=>h⟩
  | some e=>
   have:=(gatherQ_calls0 N (pathR N 0 N i).reverse).bind fun p=>Calls0.pure (e,p)
   simpa using this
 exact (fileQ_calls0 fitsBun (-1) (i / 4) N).bind h2
structure Grew (T:List ByteArray) (s s':Cs):Prop where
 keep:∀ p,(kvGet s.files p).isSome=true→(kvGet s'.files p).isSome=true
 only:∀ p,(kvGet s'.files p).isSome=true→(kvGet s.files p).isSome=true∨p∈T
 once:(s.files.map (·.1)).Nodup→(s'.files.map (·.1)).Nodup
 pre:∃ k,s'.files=s.files++k
 most:s'.cache.most=s.cache.most
 cache:∀ p,(kvGet s'.cache.items p).isSome=(kvGet s.cache.items p).isSome
 len:(s.cache.items.map (·.1)).Nodup→(s'.cache.items.map (·.1)).Nodup∧s'.cache.items.length=s.cache.items.length
 count:s.net.fetches≤s'.net.fetches
theorem Grew.refl (T:List ByteArray) (s:Cs):Grew T s s:=⟨fun _ h=>h,fun _ h=>.inl h,fun h=>h,⟨[],by simp⟩,rfl,fun _=>rfl,fun h=>⟨h,rfl⟩,Nat.le_refl _⟩
theorem Grew.trans {T U:List ByteArray} {a b c:Cs} (h:Grew T a b) (k:Grew U b c):Grew (T++U) a c where
 keep p hp:=k.keep p (h.keep p hp)
 only p hp:=by
  rcases k.only p hp with h1|h1
  ·exact (h.only p h1).imp id fun h2=>List.mem_append_left _ h2
  ·exact .inr (List.mem_append_right _ h1)
 once hn:=k.once (h.once hn)
 pre:=by
  obtain⟨x,hx⟩:=h.pre
  obtain⟨y,hy⟩:=k.pre
  exact⟨x++y,by rw[hy,hx,List.append_assoc]⟩
 most:=k.most.trans h.most
 cache p:=(k.cache p).trans (h.cache p)
 len hn:=⟨(k.len (h.len hn).1).1,(k.len (h.len hn).1).2.trans (h.len hn).2⟩
 count:=Nat.le_trans h.count k.count
theorem Grew.more {T T':List ByteArray} {s s':Cs} (h:Grew T s s') (ht:∀ p∈T,p∈T'):Grew T' s s':=⟨h.keep,fun p hp=>(h.only p hp).imp id (ht p),h.once,h.pre,h.most,h.cache,h.len,h.count⟩
def Asks {α:Type} (m:Qm α) (T:List ByteArray):Prop:=∀ s,Grew T s (m s).2∧∀ a,(m s).1=.ok a→∀ p∈T,(kvGet (m s).2.files p).isSome=true
theorem Asks.pure {α:Type} (a:α):Asks (Qm.pure a) []:=fun s=>⟨Grew.refl _ s,fun _ _ p hp=>by cases hp⟩
theorem Asks.bind {α β:Type} {m:Qm α} {f:α→Qm β} {T U:List ByteArray} (h:Asks m T) (k:∀ a,Asks (f a) U):Asks (Qm.bind m f) (T++U):=fun s=>by
 obtain⟨h1,h2⟩:=h s
 unfold Qm.bind
 cases hm:m s with
 | mk o s1=>
  rw[hm] at h1 h2
  cases o with
  | ok a=>
   obtain⟨k1,k2⟩:=k a s1
   refine⟨h1.trans k1,fun b hb p hp=>?_⟩
   rcases List.mem_append.1 hp with hp|hp
   ·exact k1.keep p (h2 a rfl p hp)
   ·exact k2 b hb p hp
  | error e=>exact⟨h1.more fun p hp=>List.mem_append_left _ hp,fun a ha=>by cases ha⟩
theorem grew_keep {T:List ByteArray} {s s1:Cs} {p:ByteArray} {b:List UInt8} (hp:p∈T) (hn:kvGet s.files p=none) (hf:s1.files=s.files) (hm:s1.cache.most=s.cache.most) (hc:∀ q,(kvGet s1.cache.items q).isSome=(kvGet s.cache.items q).isSome)
  (hl:(s.cache.items.map (·.1)).Nodup→(s1.cache.items.map (·.1)).Nodup∧s1.cache.items.length=s.cache.items.length) (hk:s.net.fetches≤s1.net.fetches):Grew T s (keepQ p b s1)∧(kvGet (keepQ p b s1).files p).isSome=true:=by
 have e:(keepQ p b s1).files=s.files ++ [(p,b)]:=by show s1.files++_=_;rw[hf]
 refine⟨⟨fun q hq=>?_,fun q hq=>?_,fun hd=>?_,⟨_,e⟩,hm,hc,hl,hk⟩,?_⟩
 ·rw[e,kvGet_app,Option.isSome_or,hq];rfl
 ·rw[e,kvGet_app,Option.isSome_or,Bool.or_eq_true] at hq
  rcases hq with hq|hq
  ·exact .inl hq
  ·rw[kvGet_one] at hq
   split at hq
   ·rename_i h;exact .inr (h ▸ hp)
   ·cases hq
 ·rw[e,List.map_append,List.nodup_append]
  refine⟨hd,by simp,fun a ha b' hb' e2=>?_⟩
  simp at hb'
  subst hb'
  subst e2
  have:=kvGet_isSome.2 ha
  rw[hn] at this
  cases this
 ·rw[e,kvGet_app,kvGet_one,if_pos rfl,Option.isSome_or];simp
theorem cacheGet_len {c:Cch} {p:ByteArray} (h:(c.items.map (·.1)).Nodup):((cacheGet c p).items.map (·.1)).Nodup∧(cacheGet c p).items.length=c.items.length:=by
 unfold cacheGet
 split
 ·rename_i v hv
  have hm:=kvGet_mem hv
  have key:∀ l:List Kv,(l.map (·.1)).Nodup→(p,v)∈l→((kvDrop l p).map (·.1)).Nodup∧(kvDrop l p).length+1=l.length∧p ∉ (kvDrop l p).map (·.1):=by
   intro l hl hml
   refine⟨?_,?_,?_⟩
   ·unfold kvDrop
    exact List.Nodup.sublist (List.Sublist.map _ List.filter_sublist) hl
   ·induction l with
    | nil=>cases hml
    | cons a l ih=>
     rw[List.map_cons,List.nodup_cons] at hl
     unfold kvDrop
     by_cases ha:a.1=p
     ·rw[List.filter_cons_of_neg (by simp[ha]),List.length_cons]
      have:l.filter (fun x=>!decide (x.1=p))=l:=by
       apply List.filter_eq_self.2
       intro x hx
       have hne:x.1≠p:=fun e=>hl.1 (by rw[ha,←e];exact List.mem_map_of_mem hx)
       simp[hne]
      rw[this]
     ·rw[List.filter_cons_of_pos (by simp[ha]),List.length_cons,List.length_cons]
      have:=ih hl.2 (by rcases List.mem_cons.1 hml with e|e;exact absurd (by rw[←e]) ha;exact e)
      unfold kvDrop at this
      omega
   ·intro hx
    obtain⟨x,hx,he⟩:=List.mem_map.1 hx
    unfold kvDrop at hx
    have:=(List.mem_filter.1 hx).2
    simp[he] at this
  obtain⟨k1,k2,k3⟩:=key c.items h hm
  refine⟨?_,?_⟩
  ·show (((p,v) :: kvDrop c.items p).map (·.1)).Nodup
   rw[List.map_cons,List.nodup_cons]
   exact⟨k3,k1⟩
  ·show ((p,v) :: kvDrop c.items p).length=_
   rw[List.length_cons]
   exact k2
 ·exact⟨h,rfl⟩
theorem fetched_grew (T:List ByteArray) (q:ByteArray) (s:Cs):Grew T s (fetchedQ q s):=⟨fun _ h=>h,fun _ h=>.inl h,fun h=>h,⟨[],by simp[fetchedQ]⟩,rfl,fun _=>rfl,fun h=>⟨h,rfl⟩,by show _≤(fetchN s.net q).fetches;rw[(fetchN_same _ _).2.2];omega⟩
theorem fileQ_asks (fits:FitsF) (level:Int) (index count:Nat):Asks (fileQ fits level index count) [tileName level index (wideAt index count)]:=fun s=>by
 unfold fileQ
 obtain⟨p,hp⟩:∃ p,p=tileName level index (wideAt index count):=⟨_,rfl⟩
 rw[←hp]
 have hpm:p ∈ [p]:=List.mem_singleton.2 rfl
 cases h1:kvGet s.files p with
 | some b=>
  refine⟨Grew.refl _ s,fun a ha q hq=>?_⟩
  rw[List.mem_singleton.1 hq]
  show (kvGet s.files p).isSome=true
  rw[h1]
  rfl
 | none=>
  dsimp only
  cases h2:kvGet s.cache.items p with
  | some b=>
   obtain⟨g1,g2⟩:=grew_keep (T:=[p]) (s:=s) (s1:={ s with cache:=cacheGet s.cache p }) (p:=p) (b:=b) hpm h1 rfl (by show (cacheGet s.cache p).most=_;unfold cacheGet;split <;> rfl) (fun q=>cacheGet_keys s.cache p q) cacheGet_len (Nat.le_refl _)
   exact⟨g1,fun a ha q hq=>by rw[List.mem_singleton.1 hq];exact g2⟩
  | none=>
   dsimp only
   unfold fetchQ
   rw[←hp]
   have hk1:s.net.fetches≤(fetchedQ p s).net.fetches:=(fetched_grew [] p s).count
   cases h3:tryQ fits p (wideAt index count) (wideAt index count) s with
   | some b=>
    obtain⟨g1,g2⟩:=grew_keep (T:=[p]) (s:=s) (s1:=fetchedQ p s) (p:=p) (b:=b) hpm h1 rfl rfl (fun _=>rfl) (fun h=>⟨h,rfl⟩) hk1
    exact⟨g1,fun a ha q hq=>by rw[List.mem_singleton.1 hq];exact g2⟩
   | none=>
    dsimp only
    split
    ·exact⟨fetched_grew _ _ _,fun a ha=>by cases ha⟩
    ·cases h4:tryQ fits (tileName level index 4) 4 (wideAt index count) (fetchedQ p s) with
     | some b=>
      obtain⟨g1,g2⟩:=grew_keep (T:=[p]) (s:=s) (s1:=fetchedQ (tileName level index 4) (fetchedQ p s)) (p:=p) (b:=b) hpm h1 rfl rfl (fun _=>rfl) (fun h=>⟨h,rfl⟩) (Nat.le_trans hk1 (fetched_grew [] _ _).count)
      exact⟨g1,fun a ha q hq=>by rw[List.mem_singleton.1 hq];exact g2⟩
     | none=>exact⟨((fetched_grew [p] p s).trans (fetched_grew [] _ _)).more (by simp),fun a ha=>by cases ha⟩
theorem partQ_asks (b:List UInt8) (k:Nat):Asks (partQ b k) []:=fun s=>by
 unfold partQ
 split <;> exact⟨Grew.refl _ s,fun _ _ p hp=>by cases hp⟩
theorem evenQ_asks (n level index:Nat):Asks (evenQ n level index) (evenT n level index):=by
 have:=(fileQ_asks fitsHash ((level / 2:Nat):Int) (index / 4) (n / 2 ^ level)).bind fun b=>partQ_asks b (index%4)
 simpa [evenQ,evenT] using this
theorem fullQ_asks (n level index:Nat):Asks (fullQ n level index) (fullT n level index):=by
 unfold fullQ fullT
 split
 ·have:=(evenQ_asks n (level-1) (2*index)).bind fun a=>(evenQ_asks n (level-1) (2*index+1)).bind fun b=>Asks.pure (nodeH a b)
  simpa using this
 ·exact evenQ_asks n level index
theorem rootQ_asks (N:Nat):∀ (f i n:Nat),Asks (rootQ N f i n) (rootT N f i n)
 | 0,_,_=>fun s=>⟨Grew.refl _ s,fun a ha=>by cases ha⟩
 | f+1,i,n=>by
   rw[rootQ,rootT]
   split
   ·exact fullQ_asks _ _ _
   ·have:=(rootQ_asks N f i (below n)).bind fun a=>(rootQ_asks N f (i+below n) (n-below n)).bind fun b=>Asks.pure (nodeH a b)
    simpa using this
theorem gatherQ_asks (N:Nat):∀ (rs:List (Nat×Nat)),Asks (gatherQ N rs) (gatherT N rs)
 | []=>Asks.pure _
 | x :: rs=>by
   have:=(rootQ_asks N (x.2-x.1) x.1 (x.2-x.1)).bind fun h=>(gatherQ_asks N rs).bind fun l=>Asks.pure (h :: l)
   rw[gatherQ]
   simpa [gatherT] using this
theorem readQ_asks (N i:Nat):Asks (readQ N i) (readT N i):=by
 have h2:∀ b,Asks (match ((unbundleOf b).getD [])[i%4]? with
  | none=>fun s=>(.error .panic,s)
  | some e=>Qm.bind (gatherQ N (pathR N 0 N i).reverse) fun p=>Qm.pure (e,p)) (gatherT N (pathR N 0 N i).reverse):=fun b=>by
  cases ((unbundleOf b).getD [])[i%4]? with
  | none=>exact fun s=>⟨Grew.refl _ s,fun a ha=>by cases ha⟩
  | some e=>
   have:=(gatherQ_asks N (pathR N 0 N i).reverse).bind fun p=>Asks.pure (e,p)
   simpa using this
 exact (fileQ_asks fitsBun (-1) (i / 4) N).bind h2
end
section
structure CacheOk (c:Cch):Prop where
 once:(c.items.map (·.1)).Nodup
 len:c.items.length≤c.most
theorem put_most (c:Cch) (p:ByteArray) (v:List UInt8):(cachePut c p v).most=c.most:=by
 unfold cachePut
 split
 ·rfl
 ·split
  ·rfl
  ·split <;> rfl
theorem remember_most:∀ (xs:List Kv) (c:Cch),(rememberQ c xs).most=c.most
 | [],_=>rfl
 | x :: xs,c=>by rw[rememberQ,remember_most xs,put_most]
theorem drop_keys (l:List Kv) (p:ByteArray):(kvDrop l p).map (·.1)=(l.map (·.1)).filter fun q=>!decide (q=p):=by
 unfold kvDrop
 rw[List.filter_map]
 rfl
theorem put_mem {c:Cch} {p:ByteArray} {v:List UInt8} {x:Kv} (h:x∈(cachePut c p v).items):x∈c.items∨x=(p,v):=by
 unfold cachePut at h
 split at h
 ·exact .inl h
 ·split at h
  ·rcases List.mem_cons.1 h with h|h
   ·exact .inr h
   ·exact .inl (List.mem_filter.1 h).1
  ·split at h
   ·rcases List.mem_cons.1 h with h|h
    ·exact .inr h
    ·exact .inl ((List.dropLast_sublist _).mem h)
   ·rcases List.mem_cons.1 h with h|h
    ·exact .inr h
    ·exact .inl h
theorem remember_mem:∀ (xs:List Kv) (c:Cch) (x:Kv),x∈(rememberQ c xs).items→x∈c.items∨x∈xs
 | [],_,_,h=>.inl h
 | y :: xs,c,x,h=>by
   rw[rememberQ] at h
   rcases remember_mem xs _ x h with h|h
   ·rcases put_mem h with h|h
    ·exact .inl h
    ·exact .inr (by rw[h];exact List.mem_cons_self)
   ·exact .inr (List.mem_cons_of_mem _ h)
theorem put_ok {c:Cch} (h:CacheOk c) (p:ByteArray) (v:List UInt8):CacheOk (cachePut c p v):=by
 unfold cachePut
 split
 ·exact h
 ·rename_i h0
  split
  ·rename_i hs
   have hm:=kvGet_isSome.1 hs
   have hlen:(kvDrop c.items p).length<c.items.length:=by
    unfold kvDrop
    obtain⟨x,hx,he⟩:=List.mem_map.1 hm
    refine Nat.lt_of_le_of_ne (List.length_filter_le _ _) ?_
    intro e
    have:=List.length_filter_eq_length_iff.1 e x hx
    simp[he] at this
   refine⟨?_,?_⟩
   ·show (((p,v) :: kvDrop c.items p).map (·.1)).Nodup
    rw[List.map_cons,List.nodup_cons,drop_keys]
    refine⟨fun hx=>?_,h.once.filter _⟩
    have:=(List.mem_filter.1 hx).2
    simp at this
   ·show ((p,v) :: kvDrop c.items p).length≤c.most
    have:=h.len
    rw[List.length_cons]
    omega
  ·rename_i hs
   have hm:p ∉ c.items.map (·.1):=fun hm=>hs (kvGet_isSome.2 hm)
   split
   ·rename_i hl
    refine⟨?_,?_⟩
    ·show (((p,v) :: c.items.dropLast).map (·.1)).Nodup
     rw[List.map_cons,List.nodup_cons]
     refine⟨fun hx=>?_,?_⟩
     ·obtain⟨x,hx,he⟩:=List.mem_map.1 hx
      exact hm (List.mem_map.2 ⟨x,(List.dropLast_sublist _).mem hx,he⟩)
     ·exact List.Nodup.sublist (List.Sublist.map _ (List.dropLast_sublist _)) h.once
    ·show ((p,v) :: c.items.dropLast).length≤c.most
     rw[List.length_cons,List.length_dropLast]
     omega
   ·rename_i hl
    refine⟨?_,?_⟩
    ·show (((p,v) :: c.items).map (·.1)).Nodup
     rw[List.map_cons,List.nodup_cons]
     exact⟨hm,h.once⟩
    ·show ((p,v) :: c.items).length≤c.most
     have:=h.len
     rw[List.length_cons]
     omega
theorem remember_ok:∀ (xs:List Kv) (c:Cch),CacheOk c→CacheOk (rememberQ c xs)
 | [],_,h=>h
 | x :: xs,c,h=>remember_ok xs _ (put_ok h x.1 x.2)
theorem put_front {c:Cch} {front:List ByteArray} {p:ByteArray} (v:List UInt8) (h:front <+: c.items.map (·.1)) (hp:p ∉ front) (hl:front.length+1≤c.most):p :: front <+: (cachePut c p v).items.map (·.1):=by
 unfold cachePut
 rw[if_neg (by omega)]
 split
 ·show _ <+: ((p,v) :: kvDrop c.items p).map (·.1)
  rw[List.map_cons,drop_keys]
  obtain⟨t,ht⟩:=h
  rw[←ht,List.filter_append]
  have:front.filter (fun q=>!decide (q=p))=front:=List.filter_eq_self.2 fun q hq=>by
   have:q≠p:=fun e=>hp (e ▸ hq)
   simp[this]
  rw[this]
  exact⟨_,rfl⟩
 ·split
  ·rename_i hl2
   show _ <+: ((p,v) :: c.items.dropLast).map (·.1)
   rw[List.map_cons,List.map_dropLast]
   obtain⟨t,ht⟩:=h
   rw[←ht]
   have hlen:front.length+t.length=c.most:=by
    have:=congrArg List.length ht
    rw[List.length_append,List.length_map,hl2] at this
    exact this
   have htn:t≠[]:=fun e=>by rw[e] at hlen;simp at hlen;omega
   rw[List.dropLast_append_of_ne_nil htn]
   exact⟨_,rfl⟩
  ·show _ <+: ((p,v) :: c.items).map (·.1)
   rw[List.map_cons]
   obtain⟨t,ht⟩:=h
   rw[←ht]
   exact⟨_,rfl⟩
theorem remember_front:∀ (xs:List Kv) (c:Cch) (front:List ByteArray),front <+: c.items.map (·.1)→(xs.map (·.1)).Nodup→(∀ x∈xs,x.1 ∉ front)→front.length+xs.length≤c.most→(xs.map (·.1)).reverse++front <+: (rememberQ c xs).items.map (·.1)
 | [],c,front,h,_,_,_=>by simpa [rememberQ] using h
 | x :: xs,c,front,h,hn,hd,hl=>by
   rw[List.map_cons,List.nodup_cons] at hn
   rw[List.length_cons] at hl
   have h1:=put_front x.2 h (hd x List.mem_cons_self) (by omega)
   have:=remember_front xs (cachePut c x.1 x.2) (x.1 :: front) h1 hn.2 (fun y hy hm=>by
    rcases List.mem_cons.1 hm with e|e
    ·exact hn.1 (by rw[←e];exact List.mem_map_of_mem hy)
    ·exact hd y (List.mem_cons_of_mem _ hy) e) (by rw[put_most,List.length_cons];omega)
   rw[rememberQ,List.map_cons,List.reverse_cons,List.append_assoc]
   exact this
theorem remember_all {xs:List Kv} {c:Cch} (hn:(xs.map (·.1)).Nodup) (hl:xs.length≤c.most) {p:ByteArray} (hp:(kvGet xs p).isSome=true):(kvGet (rememberQ c xs).items p).isSome=true:=by
 have h:=remember_front xs c [] ⟨_,rfl⟩ hn (fun _ _ h=>by cases h) (by simpa using hl)
 rw[kvGet_isSome] at hp ⊢
 exact h.subset (List.mem_append_left _ (List.mem_reverse.2 hp))
theorem remember_none:∀ (xs:List Kv) (c:Cch),c.most=0→rememberQ c xs=c
 | [],_,_=>rfl
 | x :: xs,c,h=>by
   have e:cachePut c x.1 x.2=c:=by unfold cachePut;rw[if_pos h]
   rw[rememberQ,e,remember_none xs c h]
theorem put_one {c:Cch} (h:CacheOk c) (hm:c.most=1) (p:ByteArray) (v:List UInt8):(cachePut c p v).items = [(p,v)]:=by
 have hl:=h.len
 unfold cachePut
 rw[if_neg (by omega)]
 split
 ·rename_i hs
  show (p,v) :: kvDrop c.items p=_
  have hk:=kvGet_isSome.1 hs
  match hi:c.items,hl,hk with
  | [],_,hk=>simp at hk
  | [x],_,hk=>
   simp at hk
   unfold kvDrop
   simp[←hk]
  | _ :: _ :: _,hl,_=>simp at hl;omega
 ·split
  ·show (p,v) :: c.items.dropLast=_
   rename_i h1
   rw[hm] at h1
   have:=List.length_dropLast (xs:=c.items)
   rw[h1] at this
   rw[List.eq_nil_of_length_eq_zero this]
  ·rename_i h1
   show (p,v) :: c.items=_
   rw[List.eq_nil_of_length_eq_zero (by omega:c.items.length=0)]
theorem remember_one:∀ (xs:List Kv) (c:Cch) (x:Kv),CacheOk c→c.most=1→(rememberQ c (xs ++ [x])).items = [x]
 | [],c,x,h,hm=>by
   show (cachePut c x.1 x.2).items=_
   rw[put_one h hm]
 | y :: xs,c,x,h,hm=>by
   rw[List.cons_append,rememberQ]
   exact remember_one xs _ x (put_ok h _ _) (by rw[put_most,hm])
theorem fileQ_counts {fits:FitsF} {level:Int} {index count:Nat} {s:Cs} (h1:kvGet s.files (tileName level index (wideAt index count))=none) (h2:kvGet s.cache.items (tileName level index (wideAt index count))=none):s.net.fetches<(fileQ fits level index count s).2.net.fetches:=by
 have hk:∀ q s,s.net.fetches+1=(fetchedQ q s).net.fetches:=fun q s=>(fetchN_same s.net q).2.2.symm
 unfold fileQ
 rw[h1,h2]
 dsimp only
 unfold fetchQ
 split
 ·have:=hk (tileName level index (wideAt index count)) s
  show _<(fetchedQ _ s).net.fetches
  omega
 ·split
  ·have:=hk (tileName level index (wideAt index count)) s
   show _<(fetchedQ _ s).net.fetches
   omega
  ·have h3:=hk (tileName level index (wideAt index count)) s
   have h4:=hk (tileName level index 4) (fetchedQ (tileName level index (wideAt index count)) s)
   split
   ·show _<(fetchedQ _ (fetchedQ _ s)).net.fetches
    omega
   ·show _<(fetchedQ _ (fetchedQ _ s)).net.fetches
    omega
theorem bind_counts {α β:Type} {m:Qm α} {f:α→Qm β} {T:List ByteArray} {s:Cs} (h:s.net.fetches<(m s).2.net.fetches) (k:∀ a,Asks (f a) T):s.net.fetches<(Qm.bind m f s).2.net.fetches:=by
 unfold Qm.bind
 cases hm:m s with
 | mk o s1=>
  rw[hm] at h
  cases o with
  | ok a=>exact Nat.lt_of_lt_of_le h (k a s1).1.count
  | error e=>exact h
theorem readQ_tail (N i:Nat) (b:List UInt8):Asks (match ((unbundleOf b).getD [])[i%4]? with
  | none=>fun s=>(.error .panic,s)
  | some e=>Qm.bind (gatherQ N (pathR N 0 N i).reverse) fun p=>Qm.pure (e,p)) (gatherT N (pathR N 0 N i).reverse):=by
 cases ((unbundleOf b).getD [])[i%4]? with
 | none=>exact fun s=>⟨Grew.refl _ s,fun a ha=>by cases ha⟩
 | some e=>
  have:=(gatherQ_asks N (pathR N 0 N i).reverse).bind fun p=>Asks.pure (e,p)
  simpa using this
theorem readQ_counts {N i:Nat} {s:Cs} (h1:kvGet s.files (bunT N i)=none) (h2:kvGet s.cache.items (bunT N i)=none):s.net.fetches<(readQ N i s).2.net.fetches:=
 bind_counts (fileQ_counts h1 h2) fun b=>readQ_tail N i b
theorem readQ_first {N i:Nat} {s:Cs} {r:List UInt8×List Hsh} (hf:s.files = []) (h:(readQ N i s).1=.ok r):∃ b k,(readQ N i s).2.files=(bunT N i,b) :: k:=by
 obtain⟨g,ga⟩:=fileQ_asks fitsBun (-1) (i / 4) N s
 unfold readQ at h ⊢
 unfold Qm.bind at h ⊢
 cases hm:fileQ fitsBun (-1) (i / 4) N s with
 | mk o s1=>
  rw[hm] at h g ga
  cases o with
  | error e=>cases h
  | ok a=>
   have h1:=ga a rfl _ (List.mem_singleton.2 rfl)
   obtain⟨k1,hk1⟩:=g.pre
   rw[hf,List.nil_append] at hk1
   have hone:∀ p,(kvGet k1 p).isSome=true→p=bunT N i:=fun p hp=>by
    rcases g.only p (by show (kvGet s1.files p).isSome=true;rw[hk1];exact hp) with h3|h3
    ·rw[hf] at h3;cases h3
    ·exact List.mem_singleton.1 h3
   obtain⟨k2,hk2⟩:=(readQ_tail N i a s1).1.pre
   show ∃ b k,(_:Except QErr _×Cs).2.files=_
   have e2:∀ o:Except QErr (List UInt8×List Hsh)×Cs,o.2.files=s1.files++k2→∃ b k,o.2.files=(bunT N i,b) :: k:=fun o ho=>by
    rw[ho,hk1]
    cases k1 with
    | nil=>rw[show (_:Cs).files=_ from hk1] at h1;cases h1
    | cons x k1=>
     have hx:=hone x.1 (by rw[kvGet_isSome];simp)
     exact⟨x.2,k1++k2,by rw[List.cons_append,←hx]⟩
   exact e2 _ hk2
theorem tile_not_bun {k index w j w':Nat} (h:nameOk (-1) j w'):tileName ((k:Nat):Int) index w≠tileName (-1) j w':=fun e=>by
 have e2:nameOf ((k:Nat):Int) index w=nameOf (-1) j w':=sOf_inj e
 rw[nameOf_body h] at e2
 unfold nameOf at e2
 split at e2
 ·have e3:nameBody ((k:Nat):Int) index w=kT++(dec k ++ [47]++dec index++(if (w:Int)<4 then kP++dec w else [])):=by
   unfold nameBody
   rw[if_pos (Int.natCast_nonneg k)]
   simp
  have e4:nameBody (-1) (j:Int) (w':Int)=kE++(dec j++(if (w':Int)<4 then kP++dec w' else [])):=by
   unfold nameBody
   rw[if_neg (by decide)]
   simp
  rw[e3,e4] at e2
  simp[kT,kE] at e2
 ·unfold nameBody at e2
  rw[if_neg (by decide)] at e2
  simp[kE] at e2
theorem rootT_some (N:Nat):∀ (f i n:Nat),n≤f→1≤n→∃ (k j w:Nat),tileName ((k:Nat):Int) j w∈rootT N f i n
 | 0,i,n,h,h1=>by omega
 | f+1,i,n,h,h1=>by
   rw[rootT]
   split
   ·unfold fullT
    split
    ·exact⟨_,_,_,List.mem_append_left _ (List.mem_singleton.2 rfl)⟩
    ·exact⟨_,_,_,List.mem_singleton.2 rfl⟩
   ·rename_i hp
    have hn2:2≤n:=by
     rcases Nat.lt_or_ge n 2 with hlt|hge
     ·obtain rfl:n=1:=by omega
      exact absurd ⟨by decide,Nat.mod_one i⟩ hp
     ·exact hge
    have hb:=below_lt hn2
    obtain⟨k,j,w,hm⟩:=rootT_some N f i (below n) (by omega) (by omega)
    exact⟨k,j,w,List.mem_append_left _ hm⟩
theorem gatherT_some {N i:Nat} (hN:2≤N) (hi:i<N):∃ (k j w:Nat),tileName ((k:Nat):Int) j w∈gatherT N (pathR N 0 N i).reverse:=by
 obtain⟨x,hx⟩:∃ x,x∈pathR N 0 N i:=by
  obtain⟨M,rfl⟩:∃ M,N=M+1:=⟨N-1,by omega⟩
  rw[pathR,if_neg (by omega)]
  split
  ·exact⟨_,List.mem_cons_self⟩
  ·exact⟨_,List.mem_cons_self⟩
 have h1:=pathR_mem N 0 N i (by omega) (by omega) hi x hx
 obtain⟨k,j,w,hm⟩:=rootT_some N (x.2-x.1) x.1 (x.2-x.1) (Nat.le_refl _) (by omega)
 exact⟨k,j,w,List.mem_flatMap.2 ⟨x,List.mem_reverse.2 hx,hm⟩⟩
theorem again {N i:Nat} {net:Nt} {c:Cch} {r:List UInt8×List Hsh} (hc:CacheOk c) (hN:N≤1048576) (hi:i<N) (h:(readQ N i (askQ net c)).1=.ok r) :
  let s1:=(readQ N i (askQ net c)).2
  let s2:=(readQ N i (askQ s1.net (rememberQ s1.cache s1.files))).2
  CacheOk (rememberQ s1.cache s1.files)∧(s1.files.length≤c.most→s2.net=s1.net)∧(c.most=0→s1.net.fetches<s2.net.fetches)∧(c.most≤1→2≤N→s1.net.fetches<s2.net.fetches):=by
 intro s1 s2
 obtain⟨g,ga⟩:=readQ_asks N i (askQ net c)
 have hok:CacheOk s1.cache:=⟨(g.len hc.once).1,by
  show s1.cache.items.length≤s1.cache.most
  rw[(g.len hc.once).2,g.most]
  exact hc.len⟩
 have hm:s1.cache.most=c.most:=g.most
 have hb:nameOk (-1) ((i / 4:Nat):Int) ((wideAt (i / 4) N:Nat):Int):=by unfold nameOk wideAt;omega
 have zero:c.most=0→s1.net.fetches<s2.net.fetches:=fun h0=>by
  refine readQ_counts (s:=askQ s1.net (rememberQ s1.cache s1.files)) rfl ?_
  show kvGet (rememberQ s1.cache s1.files).items _=none
  rw[remember_none _ _ (by rw[hm,h0])]
  have:=hok.len
  rw[hm,h0] at this
  rw[List.eq_nil_of_length_eq_zero (by omega:s1.cache.items.length=0)]
  rfl
 refine⟨remember_ok _ _ hok,fun hl=>?_,zero,fun h1 h2=>?_⟩
 ·refine (readQ_calls0 N i (askQ s1.net (rememberQ s1.cache s1.files)) fun p hp=>.inr ?_).1
  exact remember_all (g.once (by simp[askQ])) (by rw[hm];exact hl) (ga r h p hp)
 ·rcases Nat.eq_zero_or_pos c.most with h0|h0
  ·exact zero h0
  ·have hm1:s1.cache.most=1:=by omega
   refine readQ_counts (s:=askQ s1.net (rememberQ s1.cache s1.files)) rfl ?_
   show kvGet (rememberQ s1.cache s1.files).items _=none
   obtain⟨b,k,hk⟩:=readQ_first (s:=askQ net c) rfl h
   have hk':s1.files=(bunT N i,b) :: k:=hk
   have hnd:(s1.files.map (·.1)).Nodup:=g.once (by simp[askQ])
   obtain⟨tk,tj,tw,htm⟩:=gatherT_some h2 hi
   have hin:=kvGet_isSome.1 (ga r h _ (List.mem_cons_of_mem _ htm))
   have hin':tileName ((tk:Nat):Int) tj tw∈s1.files.map (·.1):=hin
   have hkn:k≠[]:=fun e=>by
    rw[hk',e] at hin'
    simp at hin'
    exact tile_not_bun hb hin'
   rw[hk'] at hnd ⊢
   rw[show (bunT N i,b) :: k=((bunT N i,b) :: k.dropLast) ++ [k.getLast hkn] by rw[List.cons_append,List.dropLast_concat_getLast hkn],remember_one _ _ _ hok hm1,kvGet_one_none]
   rw[List.map_cons,List.nodup_cons] at hnd
   intro e
   have e':(k.getLast hkn).1=bunT N i:=e
   exact hnd.1 (List.mem_map.2 ⟨_,List.getLast_mem hkn,e'⟩)
where
 kvGet_one_none {x:Kv} {q:ByteArray}:kvGet [x] q=none↔x.1≠q:=by
  have:=kvGet_one x.1 q x.2
  rw[show (x.1,x.2)=x from rfl] at this
  rw[this]
  split <;> simp_all
end
section
def CutLie (l:List Fil) (x:Lie1):Prop:=x.times≤0∧∃ f∈l,x.path=f.1∧x.data.data.toList=f.2.data.toList.dropLast
theorem lieFrom_at {n:Nt} {p:ByteArray}:∀ {k i j:Nat},lieFrom n p k i=some j→∃ x,n.lies[j]?=some x∧x.path=p
 | 0,i,j,h=>by cases h
 | k+1,i,j,h=>by
  rw[lieFrom] at h
  split at h
  ·rename_i hl
   cases h
   unfold liveAt at hl
   cases hx:n.lies[i]? with
   | none=>rw[hx] at hl;cases hl
   | some x=>
    rw[hx] at hl
    dsimp only at hl
    rw[Bool.and_eq_true] at hl
    exact⟨x,rfl,of_decide_eq_true hl.1⟩
  ·exact lieFrom_at h
theorem fetch_cut {n:Nt} (hc:∀ x∈n.lies,CutLie n.files x) {p:ByteArray} {data:List UInt8} (h:fetchA n p=some data):∃ b,(p,b)∈n.files∧(data=b.data.toList∨data=b.data.toList.dropLast):=by
 unfold fetchA at h
 cases hl:lieOf n p with
 | none=>
  rw[hl] at h
  obtain⟨b,hb,rfl⟩:=Option.map_eq_some_iff.1 h
  exact⟨b,getF_some hb,.inl rfl⟩
 | some i=>
  rw[hl] at h
  obtain⟨x,hx,hp⟩:=lieFrom_at hl
  dsimp only at h
  rw[hx,Option.bind_some] at h
  split at h
  ·cases h
  ·obtain⟨_,f,hf,h1,h2⟩:=hc x (List.mem_of_getElem? hx)
   refine⟨f.2,?_,.inr ?_⟩
   ·rw[←hp,h1];exact hf
   ·rw[←Option.some.inj h];exact h2
theorem enc_short:∀ (a b:List (List UInt8)) (c:UInt8),(∀ x∈a,x.length≤20)→(∀ x∈b,x.length≤20)→a.length=b.length→a.flatMap encE ++ [c]=b.flatMap encE→False
 | [],[],c,_,_,_,h=>by simp at h
 | [],_ :: _,_,_,_,hl,_=>by simp at hl
 | _ :: _,[],_,_,_,hl,_=>by simp at hl
 | x :: a,y :: b,c,ha,hb,hl,h=>by
  rw[List.flatMap_cons,List.flatMap_cons] at h
  unfold encE at h
  rw[List.cons_append,List.cons_append,List.cons_append] at h
  injection h with h1 h2
  have hx:=ha x List.mem_cons_self
  have hy:=hb y List.mem_cons_self
  have e:x.length=y.length:=by
   have:=congrArg UInt8.toNat h1
   rw[UInt8.toNat_ofNat',UInt8.toNat_ofNat'] at this
   omega
  rw[List.append_assoc] at h2
  have h3:=(List.append_inj h2 e).2
  exact enc_short a b c (fun z hz=>ha z (List.mem_cons_of_mem _ hz)) (fun z hz=>hb z (List.mem_cons_of_mem _ hz)) (by simpa using hl) h3
theorem fits_short {es:List (List UInt8)} (hs:∀ e∈es,e.length≤20) {m j w0 w:Nat} {r:List (List UInt8)} (hr:(rowsOf es)[m]?=some r) (h1:1≤w0) (hj:4*j+w0≤r.length):fitsOf m (cutR r j w0).dropLast w0 w=none:=by
 rcases rowsOf_row hr with ⟨rfl,rfl⟩|⟨k,rfl,hk,rfl⟩
 ·rw[List.length_map] at hj
  unfold fitsOf
  rw[if_pos rfl]
  unfold fitsBun
  cases hu:unbundleOf (cutR (es.map encE) j w0).dropLast with
  | none=>rfl
  | some l=>
   rw[Option.bind_some]
   by_cases hll:l.length=w0
   ·exfalso
    have hlen:=(unbundleOf_lens hu).2.2
    have hflat:l.flatMap encE=(cutR (es.map encE) j w0).dropLast:=by
     unfold unbundleOf at hu
     obtain⟨l',h2,h3⟩:=Option.bind_eq_some_iff.1 hu
     split at h3
     ·cases h3
      exact unbundle_flat h2
     ·cases h3
    have hcut:cutR (es.map encE) j w0=((es.drop (4*j)).take w0).flatMap encE:=by
     unfold cutR
     rw[←List.map_drop,←List.map_take,List.flatMap_def]
    have hl2:((es.drop (4*j)).take w0).length=w0:=by rw[List.length_take,List.length_drop];omega
    have hne:cutR (es.map encE) j w0≠[]:=by
     rw[hcut]
     cases hc:(es.drop (4*j)).take w0 with
     | nil=>rw[hc] at hl2;simp at hl2;omega
     | cons a t=>rw[List.flatMap_cons];unfold encE;simp
    refine enc_short l ((es.drop (4*j)).take w0) ((cutR (es.map encE) j w0).getLast hne) hlen (fun x hx=>hs x (List.mem_of_mem_drop (List.mem_of_mem_take hx))) (by rw[hll,hl2]) ?_
    rw[hflat,List.dropLast_concat_getLast,hcut]
   ·rw[if_neg hll]
 ·unfold fitsOf
  rw[if_neg (by omega)]
  unfold fitsHash
  have h8:∀ x∈(levelRow es k).map (fun (x:Hsh)=>x.toList),x.length=8:=fun x hx=>by
   obtain⟨y,_,rfl⟩:=List.mem_map.1 hx
   simp
  have:=cutR_len hj h8
  rw[if_neg (by rw[List.length_dropLast,this];omega)]
theorem netTrue_cut {es:List (List UInt8)} (hl:es.length≤1048576) (hs:∀ e∈es,e.length≤20) {n:Nt} (h:DiskTrue es n.files) (hc:∀ x∈n.lies,CutLie n.files x):NetTrue es n where
 steady:=fun x hx=>(hc x hx).1
 fits m j w0 w r data b h1 h2 h3 h4 h5 h6 h7 h8:=by
  obtain⟨x,hx,hd⟩:=fetch_cut hc h7
  rcases h _ hx with k|k
  ·exact absurd k fun e=>nameOf_cp _ _ _ (sOf_inj e)
  ·obtain⟨e,hj⟩:=tile_at hl h1 (by omega) h4 (by omega) k
   dsimp only at e
   rw[e] at hd
   rcases hd with rfl|rfl
   ·exact fits_cut hs h1 h2 h3 h4 hj h8
   ·rw[fits_short hs h1 (by omega) hj] at h8
    cases h8
theorem check_short (n:Nat) (h:Hsh) (key key2:List UInt8):(checkGo (signOf n h key).dropLast key2).2.2=false:=by
 cases hq:(checkGo (signOf n h key).dropLast key2).2.2 with
 | false=>rfl
 | true=>
  exfalso
  have hs:=((checkGo_sound (signOf n h key).dropLast key2).1 hq).2.2
  have e1:(signOf n h key).dropLast=headOf n h++hexOf (hash (key++0 :: headOf n h)).toList:=by
   unfold signOf
   rw[List.dropLast_concat]
  rw[e1] at hs
  unfold signOf at hs
  have e2:∀ x:Hsh,∃ c t,hexOf x.toList=t ++ [c]∧c≠10:=fun x=>by
   have hl:(hexOf x.toList).length=16:=by rw[hexOf_len];simp
   have hne:hexOf x.toList≠[]:=fun e=>by rw[e] at hl;simp at hl
   exact⟨(hexOf x.toList).getLast hne,(hexOf x.toList).dropLast,(List.dropLast_concat_getLast hne).symm,hexOf_ne _ _ (List.getLast_mem hne)⟩
  obtain⟨c,t,h1,h2⟩:=e2 (hash (key++0 :: headOf n h))
  rw[h1,←List.append_assoc] at hs
  have:=List.append_inj_right' hs rfl
  simp at this
  exact h2 this.symm
end
end Go.Proofs.YtefccfakhgdfbabGreatDoor
