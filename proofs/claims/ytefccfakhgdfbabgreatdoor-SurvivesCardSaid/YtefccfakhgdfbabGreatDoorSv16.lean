/- The numbers under which this dump holds sync.Mutex's functions and types, and that it holds them. No conditions. -/
import Derived.Test.YtefccfakhgdfbabGreatDoorSv15
import Derived.Conc.MuLone
import Derived.Conc.RwLib
import Derived.Conc.MuData
set_option linter.unusedVariables false
set_option linter.unusedSimpArgs false
open Go.RowKit Go.Proofs.Tryz
set_option maxRecDepth 100000
set_option maxHeartbeats 4000000
namespace Go.Proofs.YtefccfakhgdfbabGreatDoor
section
def aB (g:Nat):Option Nat→Nat
 | none=>g
 | some c=>c
def aO:Option Nat→Nat
 | none=>2
 | some _=>0
theorem rA_eq (g:Nat) (x:Option Nat):rA g x=⟨aB g x,aO x,none⟩:=by cases x <;> rfl
theorem rE_eq (g:Nat) (x:Option Nat):rE g x=⟨aB g x,aO x+3,none⟩:=by cases x <;> rfl
theorem rL_eq (g:Nat) (x:Option Nat):rL g x=⟨aB g x,aO x+2,none⟩:=by cases x <;> rfl
theorem aO_ne (x y:Option Nat):aO x+3≠aO y+2:=by cases x <;> cases y <;> simp[aO]
theorem aO_ne5 (y:Option Nat):aO y+2≠5:=by cases y <;> simp[aO]
section
variable {w:World} {g m n:Nat} {ps:List (Nat×ByteArray×Value)}
theorem RingIs.node (h:RingIs w g m n ps) {b:Nat} (hb:b∈ps.map (·.1)):∃ k v,(b,k,v)∈ps∧Node w b k v:=by
 obtain⟨p,hp,rfl⟩:=List.mem_map.1 hb
 exact⟨p.2.1,p.2.2,hp,h.nodes p hp⟩
theorem RingIs.ne (h:RingIs w g m n ps) {b:Nat} (hb:b∈ps.map (·.1)):b≠g:=by
 obtain⟨k,v,_,hN⟩:=h.node hb
 exact hN.ne h.ends
theorem RingIs.free (h:RingIs w g m n ps) {x:Option Nat} (hx:x=none∨∃ b∈ps.map (·.1),x=some b) (i:Nat):w.frozen? ⟨aB g x,i,none⟩=false:=by
 rcases hx with rfl|⟨b,hb,rfl⟩
 ·exact h.ends.free i
 ·obtain⟨k,v,_,hN⟩:=h.node hb
  exact hN.free i
theorem RingIs.turn {w':World} (h:RingIs w g m n ps) {p q:Addr} {x y:Option Addr} (ht:Two w w' p (.pointer x) q (.pointer y)) {qs:List (Nat×ByteArray×Value)} (hq:∀ z∈qs,z∈ps)
  (hp2:∀ b,b≠g→p.block=b→p=⟨b,2,none⟩∨p=⟨b,3,none⟩) (hq2:∀ b,b≠g→q.block=b→q=⟨b,2,none⟩∨q=⟨b,3,none⟩) (hpg:p.block=g→p=⟨g,4,none⟩∨p=⟨g,5,none⟩) (hqg:q.block=g→q=⟨g,4,none⟩∨q=⟨g,5,none⟩)
  (hc:Chn w' g none (qs.map (·.1))) (hn:(qs.map (·.1)).Nodup):RingIs w' g m n qs:=
 ⟨h.ends.two ht hpg hqg,fun z hz=>(h.nodes z (hq z hz)).two ht (hp2 _ (h.ne (List.mem_map_of_mem (hq z hz)))) (hq2 _ (h.ne (List.mem_map_of_mem (hq z hz)))),hc,hn⟩
end
theorem take_ring (w:World) (g m n:Nat) (l r:List (Nat×ByteArray×Value)) (b:Nat) (k:ByteArray) (v:Value) (h:RingIs w g m n (l++(b,k,v) :: r)) (c:Value) :
  Calls prog 183 #[c,.pointer (some ⟨b,0,none⟩)] w (fun e w'=>e=.returned (.tuple #[])∧RingIs w' g m n (l++r)∧Node w' b k v∧Fr (fun i=>i=g∨i∈(l++(b,k,v) :: r).map (·.1)) w w'∧w'.heap.size=w.heap.size):=by
 have hm:(l++(b,k,v) :: r).map (·.1)=l.map (·.1)++b :: r.map (·.1):=by simp
 have hC:=h.chn
 rw[hm] at hC
 have hN:=h.nd
 rw[hm] at hN
 obtain⟨K1,K2⟩:=hC.before
 have K3:=K2.first
 obtain⟨x,hx⟩:∃ x,x=lst none (l.map (·.1)):=⟨_,rfl⟩
 obtain⟨y,hy⟩:∃ y,y=(r.map (·.1)).head?:=⟨_,rfl⟩
 rw[←hx] at K1
 rw[←hy] at K3
 have hxin:x=none∨∃ d∈(l++(b,k,v) :: r).map (·.1),x=some d:=by
  rcases lst_mem (x:=none) (l:=l.map (·.1)) with e|⟨d,hd,e⟩
  ·exact .inl (hx.trans e)
  ·exact .inr ⟨d,by rw[hm];exact List.mem_append_left _ hd,hx.trans e⟩
 have hyin:y=none∨∃ d∈(l++(b,k,v) :: r).map (·.1),y=some d:=by
  cases r with
  | nil=>exact .inl hy
  | cons z r=>exact .inr ⟨z.1,by simp,hy⟩
 have hbin:b∈(l++(b,k,v) :: r).map (·.1):=by simp
 have hbg:=h.ne hbin
 have hxb:b≠aB g x:=by
  rcases lst_mem (x:=none) (l:=l.map (·.1)) with e|⟨d,hd,e⟩
  ·rw[hx,e];exact hbg
  ·rw[hx,e]
   rintro rfl
   have:=(List.nodup_append.1 hN).2.2 _ hd _ (.head _)
   exact this rfl
 have hyb:b≠aB g y:=by
  cases r with
  | nil=>rw[hy];exact hbg
  | cons z r=>
   rw[hy]
   rintro rfl
   exact (List.nodup_cons.1 (List.nodup_append.1 hN).2.1).1 (.head _)
 have hxg:x≠some g:=by
  rcases hxin with e|⟨d,hd,e⟩
  ·rw[e];simp
  ·rw[e];intro q;cases q;exact h.ne hd rfl
 have hyg:y≠some g:=by
  rcases hyin with e|⟨d,hd,e⟩
  ·rw[e];simp
  ·rw[e];intro q;cases q;exact h.ne hd rfl
 have c2:w.cell? ⟨b,2,none⟩=some (.pointer (some ⟨aB g x,aO x,none⟩)):=by have:=K1.l;rwa [rP,rA_eq] at this
 have c3:w.cell? ⟨b,3,none⟩=some (.pointer (some ⟨aB g y,aO y,none⟩)):=by have:=K3.e;rwa [rP,rA_eq] at this
 have cx:w.cell? ⟨aB g x,aO x+3,none⟩=some (rP g (some b)):=by have:=K1.e;rwa [rE_eq] at this
 have cy:w.cell? ⟨aB g y,aO y+2,none⟩=some (rP g (some b)):=by have:=K3.l;rwa [rL_eq] at this
 refine (take_any w c b _ _ _ _ _ _ c2 c3 cx cy (h.free hxin _) (h.free hyin _) hxb hyb (.inr (aO_ne x y))).mono ?_
 rintro e w' ⟨rfl,ht⟩
 rw[←rL_eq,←rE_eq,←rA_eq,←rA_eq] at ht
 have hj:Joined w w' g x y:=joined_of ht (by rw[rL_eq];exact cy) (by rw[rE_eq];exact cx)
 have hsub:∀ z∈l++r,z∈l++(b,k,v) :: r:=by
  intro z hz
  rcases List.mem_append.1 hz with hz|hz
  ·exact List.mem_append_left _ hz
  ·exact List.mem_append_right _ (.tail _ hz)
 refine⟨rfl,h.turn ht hsub (fun d hd=>rL_block hd) (fun d hd=>rE_block hd) (rL_ends hyg) (rE_ends hxg) ?_ ?_,(h.nodes (b,k,v) (by simp)).two ht (rL_block hbg) (rE_block hbg),?_,?_⟩
 ·rw[List.map_append]
  refine Chn.take hC (fun c _=>by simp) hN ?_
  rw[←hx,←hy];exact hj
 ·rw[List.map_append]
  exact hN.sublist (List.Sublist.append_left (List.sublist_cons_self _ _) _)
 ·refine ht.fr.weak fun i _ hi=>?_
  rcases hi with rfl|rfl
  ·rcases hyin with e|⟨d,hd,e⟩
   ·rw[e];exact .inl rfl
   ·rw[e];exact .inr hd
  ·rcases hxin with e|⟨d,hd,e⟩
   ·rw[e];exact .inl rfl
   ·rw[e];exact .inr hd
 ·rcases ht with rfl|rfl <;> (simp only[World.setCell,Array.size_modify];rfl)
theorem Two.size {w w':World} {p q:Addr} {u v:Value} (h:Two w w' p u q v):w'.heap.size=w.heap.size:=by
 rcases h with rfl|rfl <;> (simp only[World.setCell,Array.size_modify];rfl)
theorem front_ring (w:World) (g m n:Nat) (ps:List (Nat×ByteArray×Value)) (b:Nat) (k:ByteArray) (v:Value) (h:RingIs w g m n ps) (hb:b ∉ ps.map (·.1)) (hB:Node w b k v) :
  Calls prog 184 #[.pointer (some ⟨g,0,none⟩),.pointer (some ⟨b,0,none⟩)] w (fun e w'=>e=.returned (.tuple #[])∧RingIs w' g m n ((b,k,v) :: ps)∧Fr (fun i=>i=g∨i=b∨i∈ps.map (·.1)) w w'∧w'.heap.size=w.heap.size):=by
 have hbg:=hB.ne h.ends
 obtain⟨y,hy⟩:∃ y,y=(ps.map (·.1)).head?:=⟨_,rfl⟩
 have K:=h.chn.first
 rw[←hy] at K
 have hyin:y=none∨∃ d∈ps.map (·.1),y=some d:=by
  cases ps with
  | nil=>exact .inl hy
  | cons z r=>exact .inr ⟨z.1,by simp,hy⟩
 have hyb:b≠aB g y:=by
  rcases hyin with e|⟨d,hd,e⟩
  ·rw[e];exact hbg
  ·rw[e];rintro rfl;exact hb hd
 have hyg:y≠some g:=by
  rcases hyin with e|⟨d,hd,e⟩
  ·rw[e];simp
  ·rw[e];intro q;cases q;exact h.ne hd rfl
 obtain⟨l0,e0,hb0⟩:=id hB
 have c2:w.cell? ⟨b,2,none⟩=some (.pointer l0):=cell_heap hb0 2 rfl
 have c3:w.cell? ⟨b,3,none⟩=some (.pointer e0):=cell_heap hb0 3 rfl
 have c5:w.cell? ⟨g,5,none⟩=some (.pointer (some ⟨aB g y,aO y,none⟩)):=by have:=K.e;rwa [rP,rA_eq] at this
 have cy:w.cell? ⟨aB g y,aO y+2,none⟩=some (rP g none):=by have:=K.l;rwa [rL_eq] at this
 refine (front_any w g b _ _ _ _ _ c2 c3 c5 cy (hB.free _) (hB.free _) (h.ends.free _) (h.free hyin _) hbg hyb (.inr (aO_ne5 y))).mono ?_
 rintro e w' ⟨rfl,w1,h1,h2⟩
 rw[←rA_eq] at h1
 rw[←rL_eq] at h2
 have n23:(⟨b,2,none⟩:Addr)≠⟨b,3,none⟩:=by simp
 have hyb2:rL g y≠⟨b,2,none⟩:=by rw[rL_eq];intro q;injection q with q;exact hyb q.symm
 have hyb3:rL g y≠⟨b,3,none⟩:=by rw[rL_eq];intro q;injection q with q;exact hyb q.symm
 have hg2:(⟨g,5,none⟩:Addr)≠⟨b,2,none⟩:=by intro q;injection q with q;exact hbg q.symm
 have hg3:(⟨g,5,none⟩:Addr)≠⟨b,3,none⟩:=by intro q;injection q with q;exact hbg q.symm
 have hy5:rL g y≠⟨g,5,none⟩:=(rE_ne_rL g none y).symm
 have q2:=h1.left c2 n23
 have q3:=h1.right c3 n23
 have q5:=(h1.other hg2 hg3).trans c5
 have qy:w1.cell? (rL g y)=some (rP g none):=(h1.other hyb2 hyb3).trans (by rw[rL_eq];exact cy)
 have hf:Fronted w w' g b y:=by
  refine⟨⟨h2.right q5 hy5,(h2.other hyb2.symm hg2.symm).trans q2⟩,⟨(h2.other hyb3.symm hg3.symm).trans q3,h2.left qy hy5⟩,fun p p1 p2 p3 p4=>?_⟩
  exact (h2.other p4 p1).trans (h1.other p2 p3)
 have N1:∀ d k v,d≠g→Node w d k v→Node w' d k v:=by
  intro d k v hd hN
  refine (hN.two h1 (fun e=>.inl (by cases e;rfl)) (fun e=>.inr (by cases e;rfl))).two h2 (rL_block hd) (fun e=>absurd e.symm hd)
 have E1:Ends w' g m n:=(h.ends.two h1 (fun e=>absurd e hbg) (fun e=>absurd e hbg)).two h2 (rL_ends hyg) (fun _=>.inr rfl)
 refine⟨rfl,⟨E1,?_,?_,?_⟩,?_,h2.size.trans h1.size⟩
 ·intro p hp
  rcases List.mem_cons.1 hp with rfl|hp
  ·exact N1 _ _ _ hbg hB
  ·exact N1 _ _ _ (h.ne (List.mem_map_of_mem hp)) (h.nodes p hp)
 ·refine Chn.front h.chn hb h.nd ?_
  rw[←hy];exact hf
 ·exact List.nodup_cons.2 ⟨hb,h.nd⟩
 ·refine Fr.trans (h1.fr.weak fun i _ hi=>?_) (h2.fr.weak fun i _ hi=>?_)
  ·rcases hi with rfl|rfl <;> exact .inr (.inl rfl)
  ·rcases hi with rfl|rfl
   ·rcases hyin with e|⟨d,hd,e⟩
    ·rw[e];exact .inl rfl
    ·rw[e];exact .inr (.inr hd)
   ·exact .inl rfl
end
section
structure OutT where
 blk:Option Nat
instance noOut:Inhabited OutT:=⟨⟨none⟩⟩
section
variable [Inhabited OutT]
def Out.blk:Option Nat:=(default:OutT).blk
def OwnB (w:World) (base:Nat) (v:Value) (l:List UInt8):Prop:=OwnBytes w base v l∧∀ z,Out.blk=some z→v.ownBlock≠some z
theorem OwnB.same {w w':World} {base:Nat} {v:Value} {l:List UInt8} (h:OwnB w base v l) (hs:∀ (k:Nat) (C:Array Value) (fz:Nat×Nat),w.heap[k]?=some (Obj.cells C 5 fz)→w'.heap[k]?=w.heap[k]?):OwnB w' base v l:=⟨h.1.same hs,h.2⟩
theorem OwnB.below {w w':World} {base:Nat} {v:Value} {l:List UInt8} (h:OwnB w base v l) (hb:Below w.heap.size w w'):OwnB w' base v l:=⟨h.1.below hb,h.2⟩
theorem OwnB.new {w:World} {base:Nat} {v:Value} {l:List UInt8} (h:OwnBytes w base v l) (hb:∀ z,Out.blk=some z→z<base):OwnB w 0 v l:=by
 refine⟨h.mono (Nat.zero_le _),fun z hz e=>?_⟩
 have hlt:=hb z hz
 rcases h with ⟨rfl,_⟩|⟨b,off,c,C,fz,rfl,_,h2,_⟩
 ·cases e
 ·simp[Value.ownBlock] at e
  omega
structure CEnt where
 b:Nat
 key:ByteArray
 val:Value
 data:List UInt8
def CEnt.tri (q:CEnt):Nat×ByteArray×Value:=(q.b,q.key,q.val)
def CEnt.kv (q:CEnt):Kv:=(q.key,q.data)
def cfind (qs:List CEnt) (s:ByteArray):Option CEnt:=qs.find? fun q=>decide (q.key=s)
def cget (qs:List CEnt) (s:ByteArray):Option Value:=(cfind qs s).map fun q=>.pointer (some ⟨q.b,0,none⟩)
structure CacheIs (w:World) (g m:Nat) (c:Cch) (qs:List CEnt):Prop where
 ring:RingIs w g m c.most (qs.map CEnt.tri)
 items:c.items=qs.map CEnt.kv
 vals:∀ q∈qs,OwnB w 0 q.val q.data
 km:KmAt w 9 m (cget qs) qs.length
 keys:(qs.map (·.key)).Nodup
 small:∀ q∈qs,q.key.size≤maxLen
 fits:qs.length≤c.most
 most:c.most≤maxLen
def cacheS (g m:Nat) (qs:List CEnt) (k:Nat):Prop:=k=g∨k=m∨k∈qs.map (·.b)
theorem tri_fst (qs:List CEnt):(qs.map CEnt.tri).map (·.1)=qs.map (·.b):=by have:=(inferInstance:Inhabited OutT);simp[CEnt.tri]
theorem kvGet_kv (qs:List CEnt) (s:ByteArray):kvGet (qs.map CEnt.kv) s=(cfind qs s).map (·.data):=by
 have:=(inferInstance:Inhabited OutT)
 unfold kvGet cfind
 rw[List.find?_map]
 simp only[Option.map_map]
 rfl
theorem cfind_split {qs:List CEnt} {s:ByteArray} {q:CEnt} (h:cfind qs s=some q):q.key=s∧∃ l r,qs=l++q :: r∧∀ x∈l,x.key≠s:=by
 have:=(inferInstance:Inhabited OutT)
 unfold cfind at h
 obtain⟨h1,l,r,h2,h3⟩:=List.find?_eq_some_iff_append.1 h
 exact⟨by simpa using h1,l,r,h2,fun x hx=>by simpa using h3 x hx⟩
theorem cfind_none {qs:List CEnt} {s:ByteArray} (h:cfind qs s=none):∀ x∈qs,x.key≠s:=by
 have:=(inferInstance:Inhabited OutT)
 unfold cfind at h
 intro x hx
 have:=List.find?_eq_none.1 h x hx
 simpa using this
theorem kvDrop_kv (qs:List CEnt) (s:ByteArray):kvDrop (qs.map CEnt.kv) s=(qs.filter fun q=>!decide (q.key=s)).map CEnt.kv:=by
 have:=(inferInstance:Inhabited OutT)
 unfold kvDrop
 rw[List.filter_map]
 rfl
theorem drop_split {l r:List CEnt} {q:CEnt} {s:ByteArray} (hq:q.key=s) (hn:((l++q :: r).map (·.key)).Nodup):(l++q :: r).filter (fun x=>!decide (x.key=s))=l++r:=by
 have:=(inferInstance:Inhabited OutT)
 have h1:∀ x∈l++r,(!decide (x.key=s))=true:=by
  intro x hx
  have hne:x.key≠s:=by
   intro e
   have hn':((q :: (l++r)).map (·.key)).Nodup:=(List.Perm.nodup_iff (List.Perm.map _ List.perm_middle)).1 hn
   rw[List.map_cons,List.nodup_cons] at hn'
   exact hn'.1 (by rw[hq,←e];exact List.mem_map_of_mem hx)
  simp[hne]
 rw[List.filter_append,List.filter_cons,if_neg (by simp[hq]),←List.filter_append]
 exact List.filter_eq_self.2 h1
end
end
section
section
variable [Inhabited OutT]
theorem km_notIn {w:World} {k:TypeId} {m n g:Nat} {get:ByteArray→Option Value} {mo:Nat} {ps:List (Nat×ByteArray×Value)} (h:KmAt w k m get n) (hr:RingIs w g m mo ps):m≠g∧m ∉ ps.map (·.1):=by
 have:=(inferInstance:Inhabited OutT)
 obtain⟨D,⟨es,c,hb,_⟩,_⟩:=h.ex
 refine⟨?_,fun hm=>?_⟩
 ·rintro rfl
  obtain⟨l,e,h2⟩:=hr.ends
  rw[hb] at h2
  cases h2
 ·obtain⟨k',v,_,l,e,h2⟩:=hr.node hm
  rw[hb] at h2
  cases h2
theorem ring_noBytes {w:World} {g m n:Nat} {ps:List (Nat×ByteArray×Value)} (h:RingIs w g m n ps):NoBytes w (fun i=>i=g∨i∈ps.map (·.1)):=by
 have:=(inferInstance:Inhabited OutT)
 intro k C fz hk hs
 rcases hs with rfl|hs
 ·obtain⟨l,e,h2⟩:=h.ends
  rw[hk] at h2
  cases h2
 ·obtain⟨k',v,_,l,e,h2⟩:=h.node hs
  rw[hk] at h2
  cases h2
def getPost (w:World) (g m:Nat) (c:Cch) (qs:List CEnt) (k:ByteArray) (e:Ending) (w':World):Prop:=
 (cfind qs k=none∧e=.returned (.tuple #[.slice none 0 0,.bool false])∧w'=w)∨
 ∃ q qs',cfind qs k=some q∧e=.returned (.tuple #[q.val,.bool true])∧CacheIs w' g m (cacheGet c k) qs'∧q∈qs'∧Fr (cacheS g m qs) w w'∧w'.heap.size=w.heap.size∧∀ i,cacheS g m qs' i↔cacheS g m qs i
theorem get_none (w:World) (g m:Nat) (c:Cch) (qs:List CEnt) (k:ByteArray) (h:CacheIs w g m c qs) (hk:k.size≤maxLen) (hf:cfind qs k=none) :
  Calls prog 146 #[.pointer (some ⟨g,0,none⟩),.string k] w (getPost w g m c qs k):=by
 have hc1:=h.ring.ends.all
 have hcg:cget qs k=none:=by simp[cget,hf]
 have KM:=zh h.km
 go_enter func146,ntmps146
 go_wp2_with (first|(at_lookup;refine wpList_kmLook _ rfl _ _ 241 rfl 9 242 underlying9 underlying241 (z:=.pointer none) rfl m qs.length (cget qs) rfl KM.o k rfl hk ?_;rw[hcg];simp only[Option.getD,Option.isSome])|fail)
 refine bodyPost_ret (results_tmp2 rfl _ _ _) rfl ?_
 exact .inl ⟨hf,rfl,rfl⟩
theorem key_inj {qs:List CEnt} (hn:(qs.map (·.key)).Nodup) {x y:CEnt} (hx:x∈qs) (hy:y∈qs) (e:x.key=y.key):x=y:=by
 have:=(inferInstance:Inhabited OutT)
 induction qs with
 | nil=>cases hx
 | cons a qs ih=>
  rw[List.map_cons,List.nodup_cons] at hn
  rcases List.mem_cons.1 hx with h1|h1
  ·rcases List.mem_cons.1 hy with h2|h2
   ·rw[h1,h2]
   ·subst h1
    exact absurd (List.mem_map.2 ⟨y,h2,e.symm⟩) hn.1
  ·rcases List.mem_cons.1 hy with h2|h2
   ·subst h2
    exact absurd (List.mem_map.2 ⟨x,h1,e⟩) hn.1
   ·exact ih hn.2 h1 h2
theorem cfind_iff {qs:List CEnt} (hn:(qs.map (·.key)).Nodup) {s:ByteArray} {q:CEnt}:cfind qs s=some q↔q∈qs∧q.key=s:=by
 constructor
 ·intro h
  obtain⟨h1,l,r,rfl,_⟩:=cfind_split h
  exact⟨by simp,h1⟩
 ·rintro ⟨h1,h2⟩
  cases h:cfind qs s with
  | none=>exact absurd h2 (cfind_none h q h1)
  | some x=>
   obtain⟨h3,l,r,h4,_⟩:=cfind_split h
   rw[key_inj hn (x:=x) (y:=q) (by rw[h4];simp) h1 (h3.trans h2.symm)]
theorem cfind_congr {qs rs:List CEnt} (hn:(qs.map (·.key)).Nodup) (hm:(rs.map (·.key)).Nodup) (h:∀ x,x∈qs↔x∈rs) (s:ByteArray):cfind qs s=cfind rs s:=by
 cases h1:cfind rs s with
 | none=>
  cases h2:cfind qs s with
  | none=>rfl
  | some x=>exact absurd ((cfind_iff hn).1 h2).2 (cfind_none h1 x ((h x).1 ((cfind_iff hn).1 h2).1))
 | some x=>exact (cfind_iff hn).2 ⟨(h x).2 ((cfind_iff hm).1 h1).1,((cfind_iff hm).1 h1).2⟩
theorem cget_congr {qs rs:List CEnt} (hn:(qs.map (·.key)).Nodup) (hm:(rs.map (·.key)).Nodup) (h:∀ x,x∈qs↔x∈rs):cget qs=cget rs:=by
 funext s
 unfold cget
 rw[cfind_congr hn hm h]
theorem CacheIs.got {w w':World} {g m:Nat} {c:Cch} {l r:List CEnt} {q:CEnt} (h:CacheIs w g m c (l++q :: r)) (hr:RingIs w' g m c.most ((q :: (l++r)).map CEnt.tri)) (hf:Fr (fun i=>i=g∨i∈((l++q :: r).map CEnt.tri).map (·.1)) w w') :
  CacheIs w' g m (cacheGet c q.key) (q :: (l++r)):=by
 have hp:(l++q :: r).Perm (q :: (l++r)):=List.perm_middle
 have hk:((q :: (l++r)).map (·.key)).Nodup:=(List.Perm.nodup_iff (hp.map _)).1 h.keys
 have hmem:∀ x,x∈q :: (l++r)↔x∈l++q :: r:=fun x=>hp.symm.mem_iff
 have hg:kvGet c.items q.key=some q.data:=by
  rw[h.items,kvGet_kv,(cfind_iff h.keys).2 ⟨by simp,rfl⟩];rfl
 have hlen:(q :: (l++r)).length=(l++q :: r).length:=hp.symm.length_eq
 have ec:cacheGet c q.key={ c with items:=(q.key,q.data) :: kvDrop c.items q.key }:=by unfold cacheGet;rw[hg]
 have hkm:=h.km
 rw[←cget_congr hk h.keys hmem,←hlen] at hkm
 have hni:=km_notIn h.km h.ring
 refine⟨by rw[ec];exact hr,?_,fun x hx=>?_,hkm.fr hf (by rintro (e|e);exact hni.1 e;exact hni.2 e),hk,fun x hx=>h.small x ((hmem x).1 hx),?_,by rw[ec];exact h.most⟩
 ·rw[ec]
  show (q.key,q.data) :: kvDrop c.items q.key=_
  rw[h.items,kvDrop_kv,drop_split rfl h.keys]
  rfl
 ·exact (h.vals x ((hmem x).1 hx)).same fun k C fz hk=>hf.block k (lt_of_heap hk) (ring_noBytes h.ring k C fz hk)
 ·rw[ec,hlen];exact h.fits
theorem get_some (w:World) (g m:Nat) (c:Cch) (l r:List CEnt) (q:CEnt) (h:CacheIs w g m c (l++q :: r)) (hk:q.key.size≤maxLen) :
  Calls prog 146 #[.pointer (some ⟨g,0,none⟩),.string q.key] w (getPost w g m c (l++q :: r) q.key):=by
 have hc1:=h.ring.ends.all
 have hf:cfind (l++q :: r) q.key=some q:=(cfind_iff h.keys).2 ⟨by simp,rfl⟩
 have hcg:cget (l++q :: r) q.key=some (.pointer (some ⟨q.b,0,none⟩)):=by simp[cget,hf]
 have hr:RingIs w g m c.most (l.map CEnt.tri++(q.b,q.key,q.val) :: r.map CEnt.tri):=by have:=h.ring;rwa [List.map_append,List.map_cons] at this
 have KM:=zh h.km
 have hnb:q.b ∉ (l.map CEnt.tri++r.map CEnt.tri).map (·.1):=by
  have h1:=hr.nd
  have h2:((l.map CEnt.tri++(q.b,q.key,q.val) :: r.map CEnt.tri).map (·.1)).Perm (q.b :: (l.map CEnt.tri++r.map CEnt.tri).map (·.1)):=by
   have:=(List.perm_middle (a:=(q.b,q.key,q.val)) (l₁:=l.map CEnt.tri) (l₂:=r.map CEnt.tri)).map (·.1)
   exact this
  exact (List.nodup_cons.1 ((List.Perm.nodup_iff h2).1 h1)).1
 have HR:=zh hr
 have HNB:=zh hnb
 clear hnb
 go_enter func146,ntmps146
 go_wp2_with (first
  | (at_lookup;refine wpList_kmLook _ rfl _ _ 241 rfl 9 242 underlying9 underlying241 (z:=.pointer none) rfl m (l++q :: r).length (cget (l++q :: r)) rfl KM.o q.key rfl hk ?_;rw[hcg];simp only[Option.getD,Option.isSome])
  | (go_at_call 183;refine (take_ring w g m c.most _ _ q.b q.key q.val HR.o _).mono ?_;rintro e w1 ⟨rfl,hr1,hn1,hf1,hs1⟩;have HR1:=zh hr1;have HN1:=zh hn1;have HF1:=zh hf1;have HS1:=zh hs1;clear hr1 hn1 hf1 hs1)
  | (go_at_call 184;refine (front_ring _ g m c.most _ q.b q.key q.val HR1.o HNB.o HN1.o).mono ?_;rintro e w2 ⟨rfl,hr2,hf2,hs2⟩;have HV:=(hr2.nodes _ (.head _)).val;have HR2:=zh hr2;have HF2:=zh hf2;have HS2:=zh hs2;clear hr2 hf2 hs2)
  | fail)
 refine bodyPost_ret (results_tmp2 rfl _ _ _) rfl ?_
 have hin:∀ i,(i=g∨i∈((l.map CEnt.tri++(q.b,q.key,q.val) :: r.map CEnt.tri)).map (·.1))↔(i=g∨i∈((l++q :: r).map CEnt.tri).map (·.1)):=fun i=>by simp[CEnt.tri]
 have hf1:Fr (fun i=>i=g∨i∈((l++q :: r).map CEnt.tri).map (·.1)) w w1:=HF1.o.weak fun i _ hi=>(hin i).1 hi
 have hf2:Fr (fun i=>i=g∨i∈((l++q :: r).map CEnt.tri).map (·.1)) w1 w2:=HF2.o.weak fun i _ hi=>by
  rw[←hin]
  rcases hi with rfl|rfl|hi
  ·exact .inl rfl
  ·exact .inr (by simp)
  ·refine .inr ?_
   simp only[List.map_append,List.map_cons,List.mem_append,List.mem_cons] at hi ⊢
   rcases hi with hi|hi
   ·exact .inl hi
   ·exact .inr (.inr hi)
 have hff:=hf1.trans hf2
 have hr2:RingIs w2 g m c.most ((q :: (l++r)).map CEnt.tri):=by have:=HR2.o;rwa [List.map_cons,List.map_append]
 refine .inr ⟨q,q :: (l++r),hf,rfl,h.got hr2 hff,.head _,hff.weak fun i _ hi=>?_,HS2.o.trans HS1.o,fun i=>?_⟩
 ·rw[tri_fst] at hi
  rcases hi with hi|hi
  ·exact .inl hi
  ·exact .inr (.inr hi)
 ·have hp:((q :: (l++r)).map (·.b)).Perm ((l++q :: r).map (·.b)):=List.perm_middle.symm.map _
  unfold cacheS
  rw[hp.mem_iff]
theorem cget_any (w:World) (g m:Nat) (c:Cch) (qs:List CEnt) (k:ByteArray) (h:CacheIs w g m c qs) (hk:k.size≤maxLen) :
  Calls prog 146 #[.pointer (some ⟨g,0,none⟩),.string k] w (getPost w g m c qs k):=by
 cases hf:cfind qs k with
 | none=>exact get_none w g m c qs k h hk hf
 | some q=>
  obtain⟨rfl,l,r,rfl,_⟩:=cfind_split hf
  exact get_some w g m c l r q h hk
end
end
section
section
variable [Inhabited OutT]
theorem alloc_len (w:World) (o:Obj):(w.alloc o).heap.size=w.heap.size+1:=have:=(inferInstance:Inhabited OutT);Array.size_push _
theorem cnew_any (w:World) (i:Int) (hi:i≤9223372036854775807) :
  Calls prog 82 #[.int .i64 i] w (fun e w'=>∃ g m,e=.returned (.pointer (some ⟨g,0,none⟩))∧CacheIs w' g m ⟨i.toNat,[]⟩ []∧Below w.heap.size w w'∧w.heap.size≤g∧w.heap.size≤m):=by
 have hmm:=@run_makeMap prog
 go_enter func82,ntmps82
 go_upto_region 2 with fail
 first|rw[show (if i<0 then 0 else i)=(i.toNat:Int) by split <;> omega]|rw[show max i 0=(i.toNat:Int) by omega]
 obtain⟨W,hW⟩:∃ W,W=(w.alloc (.map #[] 0)).alloc (.cells #[.int .i64 i.toNat,.map (some w.heap.size),.string ⟨#[]⟩,.slice none 0 0,.pointer none,.pointer none] 246):=⟨_,rfl⟩
 rw[←hW]
 obtain⟨g,hg⟩:∃ g,g=w.heap.size+1:=⟨_,rfl⟩
 rw[←hg]
 have hb:Below w.heap.size w W:=by rw[hW];exact (below_alloc w _).trans ((below_alloc (w.alloc (.map #[] 0)) _).mono (by rw[alloc_len];exact Nat.le_succ _))
 have hend:W.heap[g]?=some (.cells #[.int .i64 i.toNat,.map (some w.heap.size),.string ⟨#[]⟩,.slice none 0 0,.pointer none,.pointer none] 246 (0,0)):=by
  rw[hW,hg,←alloc_len w (.map #[] 0)]
  exact Array.getElem?_push_size
 have hmap:W.heap[w.heap.size]?=some (.map #[] 0):=by
  rw[hW]
  refine (heap_alloc_old _ _ (by rw[alloc_len];exact Nat.lt_succ_self _)).trans ?_
  exact Array.getElem?_push_size
 have c4:W.drew.cell? ⟨g,4,none⟩=some (.pointer none):=cell_heap hend 4 rfl
 have c5:W.drew.cell? ⟨g,5,none⟩=some (.pointer none):=cell_heap hend 5 rfl
 have f4:W.drew.frozen? ⟨g,4,none⟩=false:=frozen_heap hend 4
 have f5:W.drew.frozen? ⟨g,5,none⟩=false:=frozen_heap hend 5
 have k4:(W.setCell ⟨g,5,none⟩ (.pointer (some ⟨g,2,none⟩))).drew.cell? ⟨g,4,none⟩=some (.pointer none):=(World.cell?_setCell_other _ _ _ _ (by simp)).trans c4
 have k5:(W.setCell ⟨g,5,none⟩ (.pointer (some ⟨g,2,none⟩))).drew.frozen? ⟨g,4,none⟩=false:=(World.frozen?_setCell _ _ _ _).trans f4
 have HW:=zh hW
 have HB:=zh hb
 have HE:=zh hend
 have HM:=zh hmap
 have HG:=zh hg
 clear hW hb hend hmap hg
 go_region
 obtain⟨W2,hW2⟩:∃ W2,W2=((W.setCell ⟨g,5,none⟩ (.pointer (some ⟨g,2,none⟩))).setCell ⟨g,4,none⟩ (.pointer (some ⟨g,2,none⟩))).drew:=⟨_,rfl⟩
 rw[←hW2]
 have hT:Two W W2 ⟨g,5,none⟩ (.pointer (some ⟨g,2,none⟩)) ⟨g,4,none⟩ (.pointer (some ⟨g,2,none⟩)):=.inl hW2
 have HT:=zh hT
 clear hW2 hT
 go_wp2
 refine bodyPost_ret (results_tmp rfl _ _ _) rfl ?_
 have n54:(⟨g,5,none⟩:Addr)≠⟨g,4,none⟩:=by simp
 have hgm:w.heap.size≠g:=by rw[HG.o];exact Nat.ne_of_lt (Nat.lt_succ_self _)
 have hE:Ends W g w.heap.size i.toNat:=⟨none,none,HE.o⟩
 refine⟨g,w.heap.size,rfl,⟨⟨hE.two HT.o (fun _=>.inr rfl) (fun _=>.inl rfl),fun p hp=>(by cases hp),⟨HT.o.left c5 n54,HT.o.right c4 n54⟩,List.nodup_nil⟩,rfl,fun q hq=>(by cases hq),?_,List.nodup_nil,fun q hq=>(by cases hq),Nat.zero_le _,?_⟩,?_,by rw[HG.o];exact Nat.le_succ _,Nat.le_refl _⟩
 ·have h1:=(KmAt.made_at W 9 HM.o).fr HT.o.fr (by rintro (e|e) <;> exact hgm e)
  exact h1
 ·show i.toNat≤maxLen
  have:maxLen=9223372036854775807:=rfl
  omega
 ·refine⟨HT.o.fr.os.trans HB.o.os,HT.o.fr.tape.trans HB.o.tape,HT.o.fr.output.trans HB.o.output,Nat.le_trans HB.o.size HT.o.fr.size,fun k hk=>?_⟩
  refine (HT.o.fr.block k (Nat.lt_of_lt_of_le hk HB.o.size) ?_).trans (HB.o.block k hk)
  rintro (e|e) <;> (have e:k=g:=e;have:=HG.o;omega)
end
end
section
section
variable [Inhabited OutT]
def putPost (w:World) (g m:Nat) (c:Cch) (qs:List CEnt) (k:ByteArray) (dat:List UInt8) (e:Ending) (w':World):Prop:=
 e=.returned (.tuple #[])∧∃ qs',CacheIs w' g m (cachePut c k dat) qs'∧qs'.length≤qs.length+1∧Fr (cacheS g m qs) w w'∧∀ i,i<w.heap.size→cacheS g m qs' i→cacheS g m qs i
theorem CacheIs.fr {w w':World} {g m:Nat} {c:Cch} {qs:List CEnt} (h:CacheIs w g m c qs) {S:Nat→Prop} (hf:Fr S w w') (hs:∀ i,cacheS g m qs i→¬ S i) (hn:NoBytes w S):CacheIs w' g m c qs:=by
 have hb:∀ q∈qs,¬ S q.b:=fun q hq=>hs _ (.inr (.inr (List.mem_map_of_mem hq)))
 have hg:¬ S g:=hs _ (.inl rfl)
 have hE:w'.heap[g]?=w.heap[g]?:=by
  obtain⟨l,e,h2⟩:=h.ring.ends
  exact hf.block g (lt_of_heap h2) hg
 have hN:∀ b∈(qs.map CEnt.tri).map (·.1),w'.heap[b]?=w.heap[b]?:=by
  intro b hb'
  obtain⟨k,v,_,l,e,h2⟩:=h.ring.node hb'
  rw[tri_fst] at hb'
  exact hf.block b (lt_of_heap h2) (hs _ (.inr (.inr hb')))
 refine⟨⟨h.ring.ends.below hE,fun p hp=>(h.ring.nodes p hp).below (hN _ (List.mem_map_of_mem hp)),?_,h.ring.nd⟩,h.items,fun q hq=>?_,h.km.fr hf (hs _ (.inr (.inl rfl))),h.keys,h.small,h.fits,h.most⟩
 ·refine h.ring.chn.agree (fun y hy=>?_) (fun y hy=>?_)
  ·rcases hy with rfl|⟨b,hb',rfl⟩
   ·exact World.cell?_of_block (w:=w) hE
   ·exact World.cell?_of_block (w:=w) (hN b hb')
  ·rcases hy with rfl|⟨b,hb',rfl⟩
   ·exact World.cell?_of_block (w:=w) hE
   ·exact World.cell?_of_block (w:=w) (hN b hb')
 ·exact (h.vals q hq).same fun k C fz hk=>hf.block k (lt_of_heap hk) (hn k C fz hk)
theorem cput_zero (w:World) (g m:Nat) (c:Cch) (qs:List CEnt) (k:ByteArray) (v:Value) (dat:List UInt8) (h:CacheIs w g m c qs) (h0:c.most=0) :
  Calls prog 145 #[.pointer (some ⟨g,0,none⟩),.string k,v] w (putPost w g m c qs k dat):=by
 have hm:=h.ring.ends.most
 rw[h0] at hm
 have H:=zh h
 clear h
 go_enter func145,ntmps145
 go_wp2
 refine bodyPost_ret (results_none rfl _ _ _) rfl ⟨rfl,qs,?_,Nat.le_succ _,Fr.refl _ _,fun _ _ hi=>hi⟩
 unfold cachePut
 rw[if_pos h0]
 exact H.o
theorem RingIs.fr {w w':World} {g m n:Nat} {ps:List (Nat×ByteArray×Value)} (h:RingIs w g m n ps) {S:Nat→Prop} (hf:Fr S w w') (hg:¬ S g) (hs:∀ b∈ps.map (·.1),¬ S b):RingIs w' g m n ps:=by
 have:=(inferInstance:Inhabited OutT)
 have hE:w'.heap[g]?=w.heap[g]?:=by
  obtain⟨l,e,h2⟩:=h.ends
  exact hf.block g (lt_of_heap h2) hg
 have hN:∀ b∈ps.map (·.1),w'.heap[b]?=w.heap[b]?:=by
  intro b hb'
  obtain⟨k,v,_,l,e,h2⟩:=h.node hb'
  exact hf.block b (lt_of_heap h2) (hs b hb')
 refine⟨h.ends.below hE,fun p hp=>(h.nodes p hp).below (hN _ (List.mem_map_of_mem hp)),h.chn.agree (fun y hy=>?_) (fun y hy=>?_),h.nd⟩
 ·rcases hy with rfl|⟨b,hb',rfl⟩
  ·exact World.cell?_of_block (w:=w) hE
  ·exact World.cell?_of_block (w:=w) (hN b hb')
 ·rcases hy with rfl|⟨b,hb',rfl⟩
  ·exact World.cell?_of_block (w:=w) hE
  ·exact World.cell?_of_block (w:=w) (hN b hb')
theorem RingIs.lt {w:World} {g m n:Nat} {ps:List (Nat×ByteArray×Value)} (h:RingIs w g m n ps) {b:Nat} (hb:b∈ps.map (·.1)):b<w.heap.size:=by
 have:=(inferInstance:Inhabited OutT)
 obtain⟨k,v,_,l,e,h2⟩:=h.node hb
 exact lt_of_heap h2
theorem node_made (w:World) (k:ByteArray) (v:Value):Node (w.alloc (.cells #[.string k,v,.pointer none,.pointer none] 244)) w.heap.size k v:=have:=(inferInstance:Inhabited OutT);⟨none,none,Array.getElem?_push_size⟩
theorem made_facts {w1 w2:World} {k:ByteArray} {v:Value} (h:w2=w1.alloc (.cells #[.string k,v,.pointer none,.pointer none] 244)):Fr (fun _=>False) w1 w2∧Node w2 w1.heap.size k v:=by
 subst h
 exact⟨Fr.ofBelow (below_alloc _ _),node_made _ _ _⟩
theorem CacheIs.newer {w w':World} {g m b:Nat} {c:Cch} {qs rs:List CEnt} {k:ByteArray} {v:Value} {dat:List UInt8} (h:CacheIs w g m c qs) (hsub:∀ x∈rs,x∈qs) (hn:(rs.map (·.key)).Nodup) (hk:∀ x∈rs,x.key≠k) (hks:k.size≤maxLen) (hl:rs.length+1≤c.most)
  (hr:RingIs w' g m c.most ((b,k,v) :: rs.map CEnt.tri)) (hv:OwnB w' 0 v dat) (hvs:∀ x∈rs,OwnB w' 0 x.val x.data) {get:ByteArray→Option Value} (hkm:KmAt w' 9 m get (rs.length+1))
  (hget:∀ u,get u=if u=k then some (.pointer (some ⟨b,0,none⟩)) else cget rs u):CacheIs w' g m { c with items:=(k,dat) :: rs.map CEnt.kv } (⟨b,k,v,dat⟩ :: rs):=by
 have he:get=cget (⟨b,k,v,dat⟩ :: rs):=by
  funext u
  rw[hget u]
  unfold cget cfind
  by_cases e:u=k
  ·rw[if_pos e,List.find?_cons_of_pos (by simp[e])];rfl
  ·rw[if_neg e,List.find?_cons_of_neg (by simp;exact fun q=>e q.symm)]
 rw[he] at hkm
 refine⟨hr,rfl,fun q hq=>?_,hkm,?_,fun q hq=>?_,hl,h.most⟩
 ·rcases List.mem_cons.1 hq with rfl|hq
  ·exact hv
  ·exact hvs q hq
 ·rw[List.map_cons,List.nodup_cons]
  refine⟨fun hm=>?_,hn⟩
  obtain⟨x,hx,e⟩:=List.mem_map.1 hm
  exact hk x hx e
 ·rcases List.mem_cons.1 hq with rfl|hq
  ·exact hks
  ·exact h.small q (hsub q hq)
theorem cache_noBytes {w:World} {g m:Nat} {c:Cch} {qs:List CEnt} (h:CacheIs w g m c qs):NoBytes w (cacheS g m qs):=by
 intro k C fz hk hs
 rcases hs with rfl|rfl|hs
 ·exact ring_noBytes h.ring _ C fz hk (.inl rfl)
 ·obtain⟨D,⟨es,cl,hb,_⟩,_⟩:=h.km.ex
  rw[hk] at hb
  cases hb
 ·exact ring_noBytes h.ring _ C fz hk (.inr (by rw[tri_fst];exact hs))
theorem cget_skip {l r:List CEnt} {q:CEnt} {u:ByteArray} (h:u≠q.key):cget (l++q :: r) u=cget (l++r) u:=by
 have:=(inferInstance:Inhabited OutT)
 unfold cget cfind
 rw[List.find?_append,List.find?_append,List.find?_cons_of_neg (by simp;exact fun e=>h e.symm)]
theorem cput_have (w:World) (g m:Nat) (c:Cch) (l r:List CEnt) (q:CEnt) (a:Option Addr) (n cc:Nat) (dat:List UInt8) (h:CacheIs w g m c (l++q :: r)) (hv:OwnB w 0 (.slice a n cc) dat) (h0:c.most≠0) (hk:q.key.size≤maxLen) (hlen:(l++q :: r).length<maxLen) :
  Calls prog 145 #[.pointer (some ⟨g,0,none⟩),.string q.key,.slice a n cc] w (putPost w g m c (l++q :: r) q.key dat):=by
 have hm:=h.ring.ends.most
 have hc1:=h.ring.ends.all
 have hz:((c.most:Int)=0)=False:=by simp[h0]
 have hf:cfind (l++q :: r) q.key=some q:=(cfind_iff h.keys).2 ⟨by simp,rfl⟩
 have hcg:cget (l++q :: r) q.key=some (.pointer (some ⟨q.b,0,none⟩)):=by simp[cget,hf]
 have hr:RingIs w g m c.most (l.map CEnt.tri++(q.b,q.key,q.val) :: r.map CEnt.tri):=by have:=h.ring;rwa [List.map_append,List.map_cons] at this
 have hni:=km_notIn h.km h.ring
 have hmg:m≠g:=hni.1
 have hmr:∀ b∈(l.map CEnt.tri++r.map CEnt.tri).map (·.1),¬ b=m:=by
  rintro b hb rfl
  refine hni.2 ?_
  simp only[List.map_append,List.map_cons,List.mem_append,List.mem_cons] at hb ⊢
  rcases hb with hb|hb
  ·exact .inl hb
  ·exact .inr (.inr hb)
 have hmw:=h.km.lt
 have KM:=zh h.km
 have HR:=zh hr
 have HNI:=zh hni
 have H:=zh h
 have HV:=zh hv
 clear hr hni h hv
 go_enter func145,ntmps145
 go_wp2_with (first
  | (at_lookup;refine wpList_kmLook _ rfl _ _ 241 rfl 9 242 underlying9 underlying241 (z:=.pointer none) rfl m (l++q :: r).length (cget (l++q :: r)) rfl KM.o q.key rfl hk ?_;rw[hcg];simp only[Option.getD,Option.isSome])
  | (go_at_call 183;refine (take_ring w g m c.most _ _ q.b q.key q.val HR.o _).mono ?_;rintro e w1 ⟨rfl,hr1,hn1,hf1,hs1⟩;obtain⟨w2,hw2⟩:∃ w2,w2=w1.alloc (.cells #[.string q.key,.slice a n cc,.pointer none,.pointer none] 244):=⟨_,rfl⟩;obtain⟨hf2,hn2⟩:=made_facts hw2;have hr2:=hr1.fr hf2 id (fun _ _=>id);have hk2:=(KM.o.fr hf1 (by rintro (e|e);exact HNI.o.1 e;exact HNI.o.2 (by simpa [CEnt.tri] using e))).fr hf2 id;have HM2:=hr2.ends.all;rw[hw2] at HM2;have HW2:=zh hw2;have HR2:=zh hr2;have HN2:=zh hn2;have HK2:=zh hk2;have HF1:=zh hf1;have HS1:=zh hs1;have HF2:=zh hf2;have HNB:=zh (fun hb=>Nat.lt_irrefl _ (hr1.lt hb):w1.heap.size ∉ (l.map CEnt.tri++r.map CEnt.tri).map (·.1));clear hr1 hn1 hf1 hs1 hw2 hf2 hr2 hn2 hk2)
  | (at_mapUpdate;rw[←HW2.o];refine wpList_kmPut _ rfl _ _ _ 241 rfl 9 242 underlying9 underlying241 m _ _ rfl HK2.o hlen q.key (.pointer (some ⟨w1.heap.size,0,none⟩)) rfl hk rfl ?_;intro w3 hk3 hf3 hs3;have HK3:=zh hk3;have HF3:=zh hf3;have HS3:=zh hs3;clear hk3 hf3 hs3)
  | (go_at_call 184;refine (front_ring w3 g m c.most _ w1.heap.size q.key (.slice a n cc) (HR2.o.fr HF3.o (fun e=>hmg e.symm) hmr) HNB.o (HN2.o.below (HF3.o.block _ (by obtain⟨_,_,hh⟩:=HN2.o;exact lt_of_heap hh) (by have:=HS1.o;omega)))).mono ?_;rintro e w4 ⟨rfl,hr4,hf4,hs4⟩;have HR4:=zh hr4;have HF4:=zh hf4;have HS4:=zh hs4;clear hr4 hf4 hs4)
  | fail)
 have hin:∀ i,(i=g∨i∈((l.map CEnt.tri++(q.b,q.key,q.val) :: r.map CEnt.tri)).map (·.1))→cacheS g m (l++q :: r) i:=by
  intro i hi
  rcases hi with hi|hi
  ·exact .inl hi
  ·exact .inr (.inr (by simpa [CEnt.tri] using hi))
 have hF1:Fr (cacheS g m (l++q :: r)) w w1:=HF1.o.weak fun i _ hi=>hin i hi
 have hF2:Fr (cacheS g m (l++q :: r)) w w2:=hF1.step HF2.o fun _ _ hi=>hi.elim
 have hF3:Fr (cacheS g m (l++q :: r)) w w3:=hF2.step HF3.o fun _ _ hi=>.inr (.inl hi)
 have hF:Fr (cacheS g m (l++q :: r)) w w4:=hF3.step HF4.o fun i hi hs=>by
  rcases hs with e|e|e
  ·exact .inl e
  ·have:=HS1.o;omega
  ·refine .inr (.inr ?_)
   simp only[List.map_append,List.map_cons,List.mem_append,List.mem_cons,List.map_map] at e ⊢
   rcases e with e|e
   ·exact .inl e
   ·exact .inr (.inr e)
 refine bodyPost_end (results_none rfl _ _ _) rfl ⟨rfl,⟨w1.heap.size,q.key,.slice a n cc,dat⟩ :: (l++r),?_,by simp,hF,?_⟩
 ·have hB:∀ (k:Nat) (C:Array Value) (fz:Nat×Nat),w.heap[k]?=some (Obj.cells C 5 fz)→w4.heap[k]?=w.heap[k]?:=fun k C fz hk=>hF.block k (lt_of_heap hk) (cache_noBytes H.o k C fz hk)
  have hp:(l++q :: r).Perm (q :: (l++r)):=List.perm_middle
  have hks:((q :: (l++r)).map (·.key)).Nodup:=(List.Perm.nodup_iff (hp.map _)).1 H.o.keys
  rw[List.map_cons,List.nodup_cons] at hks
  have hlr:(l++r).length+1=(l++q :: r).length:=by simp;omega
  have hmem:∀ x∈l++r,x∈l++q :: r:=fun x hx=>hp.mem_iff.2 (.tail _ hx)
  have hg:(kvGet c.items q.key).isSome=true:=by rw[H.o.items,kvGet_kv,hf];rfl
  have ec:cachePut c q.key dat={ c with items:=(q.key,dat) :: (l++r).map CEnt.kv }:=by
   unfold cachePut
   rw[if_neg h0,if_pos hg,H.o.items,kvDrop_kv,drop_split rfl H.o.keys]
  rw[ec]
  have hk4:=HK3.o.fr HF4.o (by
   rintro (e|e|e)
   ·exact hmg e
   ·have:=HS1.o;omega
   ·exact hmr _ e rfl)
  rw[hcg] at hk4
  simp only[Option.isSome,if_true] at hk4
  rw[←hlr] at hk4
  refine H.o.newer hmem hks.2 (fun x hx e=>hks.1 (List.mem_map.2 ⟨x,hx,e⟩)) hk (by rw[hlr];exact H.o.fits) ?_ (HV.o.same hB) (fun x hx=>(H.o.vals x (hmem x hx)).same hB) hk4 (fun u=>?_)
  ·rw[List.map_append];exact HR4.o
  ·by_cases e:u=q.key
   ·rw[if_pos e,if_pos e]
   ·rw[if_neg e,if_neg e,cget_skip e]
 ·intro i hi hS
  rcases hS with rfl|rfl|hS
  ·exact .inl rfl
  ·exact .inr (.inl rfl)
  ·rw[List.map_cons,List.mem_cons] at hS
   rcases hS with e|hS
   ·have:=HS1.o
    have e:i=w1.heap.size:=e
    omega
   ·refine .inr (.inr ?_)
    simp only[List.map_append,List.map_cons,List.mem_append,List.mem_cons] at hS ⊢
    rcases hS with h|h
    ·exact .inl h
    ·exact .inr (.inr h)
theorem made_facts2 {w1 w2:World} {k:ByteArray} {v:Value} (h:w2=(w1.alloc (.cells #[.string k,v,.pointer none,.pointer none] 244)).drew):Fr (fun _=>False) w1 w2∧Node w2 w1.heap.size k v:=by
 subst h
 exact⟨(Fr.ofBelow (below_alloc _ _)).drew,node_made _ _ _⟩
theorem KmAt.run_len {w:World} {k:TypeId} {b n:Nat} {get:ByteArray→Option Value} (h:KmAt w k b get n) {t e:TypeId} (ht:prog.underlying t=some (.map k e)) (ty:TypeId):(Builtin.len_ #[t] ty #[.map (some b)]).run prog w=.ok (.int .i64 n) w:=by
 have:=(inferInstance:Inhabited OutT)
 obtain⟨D,hown,hnD,_⟩:=h.ex
 have:=hown.len ht ty
 rwa [hnD] at this
theorem cput_room (w:World) (g m:Nat) (c:Cch) (qs:List CEnt) (k:ByteArray) (a:Option Addr) (n cc:Nat) (dat:List UInt8) (h:CacheIs w g m c qs) (hv:OwnB w 0 (.slice a n cc) dat) (hk:k.size≤maxLen) (hlen:qs.length<c.most) (hf:cfind qs k=none) :
  Calls prog 145 #[.pointer (some ⟨g,0,none⟩),.string k,.slice a n cc] w (putPost w g m c qs k dat):=by
 have hm:=h.ring.ends.most
 have hc1:=h.ring.ends.all
 have h0:c.most≠0:=by omega
 have hz:((c.most:Int)=0)=False:=by simp[h0]
 have hne:((qs.length:Int)=(c.most:Int))=False:=by simp;omega
 have hcg:cget qs k=none:=by simp[cget,hf]
 have hni:=km_notIn h.km h.ring
 have hmw:=h.km.lt
 have dm:w.drew.cell? ⟨g,0,none⟩=some (.int .i64 c.most):=hm
 have dc:w.drew.cell? ⟨g,1,none⟩=some (.map (some m)):=hc1
 have KM:=zh h.km
 have HNI:=zh hni
 have HR:=zh h.ring
 have H:=zh h
 have HV:=zh hv
 have dl:=fun ty=>(h.km.same (w':=w.drew) rfl).run_len underlying241 ty
 have hbe:((qs.length:Int) == (c.most:Int))=false:=by simp;omega
 obtain⟨w2,hw2⟩:∃ w2,w2=(w.alloc (.cells #[.string k,.slice a n cc,.pointer none,.pointer none] 244)).drew:=⟨_,rfl⟩
 obtain⟨hF2,hn2⟩:=made_facts2 hw2
 have hr2:=h.ring.fr hF2 id (fun _ _=>id)
 have hk2:=h.km.fr hF2 id
 have hM2:=hr2.ends.all
 have HM2:=hM2
 rw[hw2] at HM2
 have hmr:∀ b∈(qs.map CEnt.tri).map (·.1),¬ b=m:=by
  rintro b hb rfl
  exact hni.2 hb
 have hmg:=hni.1
 have hnb:w.heap.size ∉ (qs.map CEnt.tri).map (·.1):=fun hb=>Nat.lt_irrefl _ (h.ring.lt hb)
 have hle:qs.length<maxLen:=Nat.lt_of_lt_of_le hlen h.most
 have HR2:=zh hr2
 have HK2:=zh hk2
 have HN2:=zh hn2
 have HF2:=zh hF2
 have HW2:=zh hw2
 have HNB:=zh hnb
 clear hni h hv hw2 hn2 hF2 hr2 hk2 hM2 hnb
 go_enter func145,ntmps145
 go_upto_region 4 with (first
  | (at_lookup;refine wpList_kmLook _ rfl _ _ 241 rfl 9 242 underlying9 underlying241 (z:=.pointer none) rfl m qs.length (cget qs) rfl KM.o k rfl hk ?_;rw[hcg];simp only[Option.getD,Option.isSome])
  | fail)
 go_region
 go_wp2_with (first
  | (at_mapUpdate;rw[←HW2.o];refine wpList_kmPut _ rfl _ _ _ 241 rfl 9 242 underlying9 underlying241 m _ _ rfl HK2.o hle k (.pointer (some ⟨w.heap.size,0,none⟩)) rfl hk rfl ?_;intro w3 hk3 hf3 hs3;have HK3:=zh hk3;have HF3:=zh hf3;have HS3:=zh hs3;clear hk3 hf3 hs3)
  | (go_at_call 184;refine (front_ring w3 g m c.most _ w.heap.size k (.slice a n cc) (HR2.o.fr HF3.o (fun e=>hmg e.symm) hmr) HNB.o (HN2.o.below (HF3.o.block _ (by obtain⟨_,_,hh⟩:=HN2.o;exact lt_of_heap hh) (by omega)))).mono ?_;rintro e w4 ⟨rfl,hr4,hf4,hs4⟩;have HR4:=zh hr4;have HF4:=zh hf4;have HS4:=zh hs4;clear hr4 hf4 hs4)
  | fail)
 have hF2:Fr (cacheS g m qs) w w2:=HF2.o.weak fun _ _ hi=>hi.elim
 have hF3:Fr (cacheS g m qs) w w3:=hF2.step HF3.o fun _ _ hi=>.inr (.inl hi)
 have hF:Fr (cacheS g m qs) w w4:=hF3.step HF4.o fun i hi hs=>by
  rcases hs with e|e|e
  ·exact .inl e
  ·omega
  ·exact .inr (.inr (by rw[tri_fst] at e;exact e))
 have hB:∀ (k:Nat) (C:Array Value) (fz:Nat×Nat),w.heap[k]?=some (Obj.cells C 5 fz)→w4.heap[k]?=w.heap[k]?:=fun k C fz hk=>hF.block k (lt_of_heap hk) (cache_noBytes H.o k C fz hk)
 refine bodyPost_end (results_none rfl _ _ _) rfl ⟨rfl,⟨w.heap.size,k,.slice a n cc,dat⟩ :: qs,?_,by simp,hF,?_⟩
 ·have hg:¬ (kvGet c.items k).isSome=true:=by rw[H.o.items,kvGet_kv,hf];simp
  have hl:¬ c.items.length=c.most:=by rw[H.o.items,List.length_map];omega
  have ec:cachePut c k dat={ c with items:=(k,dat) :: qs.map CEnt.kv }:=by
   unfold cachePut
   rw[if_neg h0,if_neg hg,if_neg hl,H.o.items]
  rw[ec]
  have hk4:=HK3.o.fr HF4.o (by
   rintro (e|e|e)
   ·exact hmg e
   ·omega
   ·exact hmr _ e rfl)
  rw[hcg] at hk4
  simp only[Option.isSome] at hk4
  exact H.o.newer (fun _ hx=>hx) H.o.keys (cfind_none hf) hk hlen HR4.o (HV.o.same hB) (fun x hx=>(H.o.vals x hx).same hB) hk4 (fun u=>rfl)
 ·intro i hi hS
  rcases hS with rfl|rfl|hS
  ·exact .inl rfl
  ·exact .inr (.inl rfl)
  ·rw[List.map_cons,List.mem_cons] at hS
   rcases hS with e|hS
   ·have e:i=w.heap.size:=e
    omega
   ·exact .inr (.inr hS)
end
end
section
section
variable [Inhabited OutT]
structure FEnt where
 key:ByteArray
 val:Value
 data:List UInt8
def FEnt.kv (x:FEnt):Kv:=(x.key,x.data)
def ffind (vs:List FEnt) (p:ByteArray):Option FEnt:=vs.find? fun x=>decide (x.key=p)
def fget (vs:List FEnt) (p:ByteArray):Option Value:=(ffind vs p).map (·.val)
theorem kvGet_fe (vs:List FEnt) (p:ByteArray):kvGet (vs.map FEnt.kv) p=(ffind vs p).map (·.data):=by
 have:=(inferInstance:Inhabited OutT)
 unfold kvGet ffind
 rw[List.find?_map]
 simp only[Option.map_map]
 rfl
theorem ffind_mem {vs:List FEnt} {p:ByteArray} {x:FEnt} (h:ffind vs p=some x):x∈vs∧x.key=p:=by
 have:=(inferInstance:Inhabited OutT)
 unfold ffind at h
 exact⟨List.mem_of_find?_eq_some h,by have:=List.find?_some h;simpa using this⟩
theorem ffind_none {vs:List FEnt} {p:ByteArray} (h:ffind vs p=none):∀ x∈vs,x.key≠p:=have:=(inferInstance:Inhabited OutT);fun x hx=>by
 unfold ffind at h
 have:=List.find?_eq_none.1 h x hx
 simpa using this
theorem ffind_snoc (vs:List FEnt) (x:FEnt) (p:ByteArray):ffind (vs ++ [x]) p=(ffind vs p).or (if x.key=p then some x else none):=by
 have:=(inferInstance:Inhabited OutT)
 unfold ffind
 rw[List.find?_append,List.find?_cons]
 by_cases h:x.key=p
 ·simp[h]
 ·simp[h]
structure Qf where
 gq:Nat
 gc:Nat
 gk:Nat
 mc:Nat
 gn:Nat
 gd:Nat
 mq:Nat
 vl:Value
 vt:Value
 v:Value
 C:Array Value
structure Qv where
 vo:Value
 qs:List CEnt
 vs:List FEnt
def lkCells (q:Qf) (N:Nat) (vo:Value):Array Value:=#[.pointer (some ⟨q.gc,0,none⟩),.int .i64 N,.map (some q.mq),vo]
structure QIs (w:World) (q:Qf) (x:Qv) (N:Nat) (s:Cs) (d:Dk):Prop where
 look:w.heap[q.gq]?=some (.cells (lkCells q N x.vo) 250 (0,0))
 km:KmAt w 9 q.mq (fget x.vs) x.vs.length
 ord:OwnStrs w 0 x.vo (x.vs.map (·.key))
 vals:∀ y∈x.vs,OwnB w 0 y.val y.data
 keys:(x.vs.map (·.key)).Nodup
 small:∀ y∈x.vs,y.key.size≤maxLen
 files:s.files=x.vs.map FEnt.kv
 cli:w.heap[q.gc]?=some (.cells q.C 177 (0,0))
 c2:q.C[2]?=some (.iface 44 (.pointer (some ⟨q.gn,0,none⟩)))
 c13:q.C[13]?=some (.pointer (some ⟨q.gk,0,none⟩))
 cache:CacheIs w q.gk q.mc s.cache x.qs
 net:NetIs w q.gn q.gd q.vl q.vt s.net
 disk:DiskAt w q.gd q.v d
 dfiles:d.files=s.net.files
 maps:q.mq≠q.mc
 o:∀ z,Out.blk=some z→z<w.heap.size
def lookS (q:Qf) (x:Qv) (k:Nat):Prop:=k=q.gq∨k=q.mq∨x.vo.ownBlock=some k
def QS (q:Qf) (x:Qv) (k:Nat):Prop:=lookS q x k∨cacheS q.gk q.mc x.qs k∨netS q.gn q.vt k
theorem km_obj {w:World} {k:TypeId} {m n:Nat} {get:ByteArray→Option Value} (h:KmAt w k m get n):∃ es c,w.heap[m]?=some (.map es c):=by
 have:=(inferInstance:Inhabited OutT)
 obtain⟨D,⟨es,c,hb,_⟩,_⟩:=h.ex
 exact⟨es,c,hb⟩
theorem kinds_cache {w:World} {g m:Nat} {c:Cch} {qs:List CEnt} (h:CacheIs w g m c qs):Kinds w (cacheS g m qs) [246,244]:=fun k C t f hk hc=>by
 rcases hk with rfl|rfl|hk
 ·obtain⟨l,e,h2⟩:=h.ring.ends
  rw[h2] at hc
  cases hc
  exact List.mem_cons_self
 ·obtain⟨es,c,hb⟩:=km_obj h.km
  rw[hb] at hc
  cases hc
 ·obtain⟨k',v,_,l,e,h2⟩:=h.ring.node (by rw[tri_fst];exact hk)
  rw[h2] at hc
  cases hc
  exact List.mem_cons_of_mem _ List.mem_cons_self
theorem kinds_net {w:World} {g gd:Nat} {vl vt:Value} {n:Nt} (h:NetIs w g gd vl vt n):Kinds w (netS g vt) [103,3]:=have:=(inferInstance:Inhabited OutT);fun k C t f hk hc=>by
 rcases hk with hk|hk
 ·have:=kinds_one h.cells k C t f hk hc
  simp at this ⊢
  exact .inl this
 ·have:=kinds_row h.told k C t f hk hc
  simp at this ⊢
  exact .inr this
theorem QIs.kindsLook {w:World} {q:Qf} {x:Qv} {N:Nat} {s:Cs} {d:Dk} (h:QIs w q x N s d):Kinds w (lookS q x) [250,9]:=fun k C t f hk hc=>by
 rcases hk with hk|rfl|hk
 ·have:=kinds_one h.look k C t f hk hc
  simp at this ⊢
  exact .inl this
 ·obtain⟨es,c,hb⟩:=km_obj h.km
  rw[hb] at hc
  cases hc
 ·have:=kinds_row h.ord k C t f hk hc
  simp at this ⊢
  exact .inr this
theorem bytes_kept {w w':World} {S:Nat→Prop} {ts:List TypeId} {base:Nat} {v:Value} {l:List UInt8} (h:OwnBytes w base v l) (hf:Fr S w w') (hS:Kinds w S ts) (h1:5 ∉ ts):OwnBytes w' base v l:=have:=(inferInstance:Inhabited OutT);h.same fun k C fz hk=>hf.block k (lt_of_heap hk) (kinds_not hS hk h1)
theorem bytes_keptB {w w':World} {S:Nat→Prop} {ts:List TypeId} {base:Nat} {v:Value} {l:List UInt8} (h:OwnB w base v l) (hf:Fr S w w') (hS:Kinds w S ts) (h1:5 ∉ ts):OwnB w' base v l:=⟨bytes_kept h.1 hf hS h1,h.2⟩
theorem net_kept {w w':World} {S:Nat→Prop} {ts:List TypeId} {g gd:Nat} {vl vt:Value} {n:Nt} (h:NetIs w g gd vl vt n) (hf:Fr S w w') (hS:Kinds w S ts) (h1:103 ∉ ts) (h2:75 ∉ ts) (h3:3 ∉ ts):NetIs w' g gd vl vt n:=have:=(inferInstance:Inhabited OutT);⟨heap_kept h.cells hf hS h1,row_kept h.lies hf hS h2,row_kept h.told hf hS h3,h.len,h.le⟩
theorem cache_kept {w w':World} {S:Nat→Prop} {ts:List TypeId} {g m:Nat} {c:Cch} {qs:List CEnt} (h:CacheIs w g m c qs) (hf:Fr S w w') (hS:Kinds w S ts) (hm:¬ S m) (h1:246 ∉ ts) (h2:244 ∉ ts) (h3:5 ∉ ts):CacheIs w' g m c qs:=
 h.fr hf (fun i hi=>by
  rcases hi with rfl|rfl|hi
  ·obtain⟨l,e,h4⟩:=h.ring.ends
   exact kinds_not hS h4 h1
  ·exact hm
  ·obtain⟨k',v,_,l,e,h4⟩:=h.ring.node (by rw[tri_fst];exact hi)
   exact kinds_not hS h4 h2) fun k C fz hk=>kinds_not hS hk h3
theorem QIs.mapOut {w:World} {q:Qf} {x:Qv} {N:Nat} {s:Cs} {d:Dk} (h:QIs w q x N s d):(¬ cacheS q.gk q.mc x.qs q.mq∧¬ netS q.gn q.vt q.mq)∧¬ lookS q x q.mc:=by
 obtain⟨es,c,hb⟩:=km_obj h.km
 obtain⟨es2,c2,hb2⟩:=km_obj h.cache.km
 refine⟨⟨fun hs=>?_,fun hs=>?_⟩,fun hs=>?_⟩
 ·rcases hs with e|e|e
  ·obtain⟨l,r,h2⟩:=h.cache.ring.ends
   rw[e,h2] at hb;cases hb
  ·exact h.maps e
  ·obtain⟨k',v,_,l,r,h2⟩:=h.cache.ring.node (by rw[tri_fst];exact e)
   rw[h2] at hb;cases hb
 ·rcases hs with e|e
  ·rw[e,h.net.cells] at hb;cases hb
  ·obtain⟨C,hC⟩:=ownBlock_type h.net.told e
   rw[hC] at hb;cases hb
 ·rcases hs with e|e|e
  ·rw[e,h.look] at hb2;cases hb2
  ·exact h.maps e.symm
  ·obtain⟨C,hC⟩:=ownBlock_type h.ord e
   rw[hC] at hb2;cases hb2
theorem QIs.below {w w':World} {q:Qf} {x:Qv} {N:Nat} {s:Cs} {d:Dk} (h:QIs w q x N s d) (hb:Below w.heap.size w w'):QIs w' q x N s d where
 look:=(hb.block _ (lt_of_heap h.look)).trans h.look
 km:=h.km.below hb h.km.lt
 ord:=ownsRow_below h.ord hb
 vals y hy:=(h.vals y hy).same fun k C fz hk=>hb.block k (lt_of_heap hk)
 keys:=h.keys
 small:=h.small
 files:=h.files
 cli:=(hb.block _ (lt_of_heap h.cli)).trans h.cli
 c2:=h.c2
 c13:=h.c13
 cache:=h.cache.fr (S:=fun _=>False) (Fr.ofBelow hb) (fun _ _=>id) (fun _ _ _ _=>id)
 net:=h.net.below hb
 disk:=h.disk.below hb
 dfiles:=h.dfiles
 maps:=h.maps
 o z hz:=Nat.lt_of_lt_of_le (h.o z hz) hb.size
theorem QIs.cacheStep {w w':World} {q:Qf} {x:Qv} {N:Nat} {s:Cs} {d:Dk} (h:QIs w q x N s d) {c':Cch} {qs':List CEnt} (hc:CacheIs w' q.gk q.mc c' qs') (hf:Fr (cacheS q.gk q.mc x.qs) w w'):QIs w' q { x with qs:=qs' } N { s with cache:=c' } d:=
 have hk:=kinds_cache h.cache
 {
  look:=heap_kept h.look hf hk (by decide)
  km:=h.km.fr hf h.mapOut.1.1
  ord:=row_kept h.ord hf hk (by decide)
  vals:=fun y hy=>bytes_keptB (h.vals y hy) hf hk (by decide)
  keys:=h.keys
  small:=h.small
  files:=h.files
  cli:=heap_kept h.cli hf hk (by decide)
  c2:=h.c2
  c13:=h.c13
  cache:=hc
  net:=net_kept h.net hf hk (by decide) (by decide) (by decide)
  disk:=h.disk.kept hf hk (by decide) (by decide)
  dfiles:=h.dfiles
  maps:=h.maps
  o:=fun z hz=>Nat.lt_of_lt_of_le (h.o z hz) hf.size }
theorem QIs.netStep {w w':World} {q:Qf} {x:Qv} {N:Nat} {s:Cs} {d:Dk} (h:QIs w q x N s d) {n':Nt} (hn:NetIs w' q.gn q.gd q.vl q.vt n') (hf:Fr (netS q.gn q.vt) w w') (hd:n'.files=s.net.files):QIs w' q x N { s with net:=n' } d:=
 have hk:=kinds_net h.net
 have hm:¬ netS q.gn q.vt q.mc:=by
  obtain⟨es2,c2,hb2⟩:=km_obj h.cache.km
  rintro (e|e)
  ·rw[e,h.net.cells] at hb2;cases hb2
  ·obtain⟨C,hC⟩:=ownBlock_type h.net.told e
   rw[hC] at hb2;cases hb2
 {
  look:=heap_kept h.look hf hk (by decide)
  km:=h.km.fr hf h.mapOut.1.2
  ord:=row_kept h.ord hf hk (by decide)
  vals:=fun y hy=>bytes_keptB (h.vals y hy) hf hk (by decide)
  keys:=h.keys
  small:=h.small
  files:=h.files
  cli:=heap_kept h.cli hf hk (by decide)
  c2:=h.c2
  c13:=h.c13
  cache:=cache_kept h.cache hf hk hm (by decide) (by decide) (by decide)
  net:=hn
  disk:=h.disk.kept hf hk (by decide) (by decide)
  dfiles:=h.dfiles.trans hd.symm
  maps:=h.maps
  o:=fun z hz=>Nat.lt_of_lt_of_le (h.o z hz) hf.size }
theorem QIs.lookStep {w w':World} {q:Qf} {x:Qv} {N:Nat} {s:Cs} {d:Dk} (h:QIs w q x N s d) (hf:Fr (lookS q x) w w') {vo':Value} {y:FEnt} (hl:w'.heap[q.gq]?=some (.cells (lkCells q N vo') 250 (0,0)))
  (hk:KmAt w' 9 q.mq (fun u=>if u=y.key then some y.val else fget x.vs u) (x.vs.length+1)) (ho:OwnStrs w' 0 vo' (x.vs.map (·.key) ++ [y.key])) (hv:OwnB w' 0 y.val y.data) (hn:ffind x.vs y.key=none) (hs:y.key.size≤maxLen) :
  QIs w' q { x with vo:=vo',vs:=x.vs ++ [y] } N (keepQ y.key y.data s) d:=
 have hK:=h.kindsLook
 {
  look:=hl
  km:=by
   have e:fget (x.vs ++ [y])=fun u=>if u=y.key then some y.val else fget x.vs u:=by
    funext u
    unfold fget
    rw[ffind_snoc]
    by_cases hu:u=y.key
    ·subst hu
     rw[hn,if_pos rfl,if_pos rfl]
     rfl
    ·rw[if_neg hu,if_neg (fun e=>hu e.symm),Option.or_none]
   rw[List.length_append,List.length_singleton,e]
   exact hk
  ord:=by rw[List.map_append];exact ho
  vals:=fun z hz=>by
   rcases List.mem_append.1 hz with hz|hz
   ·exact bytes_keptB (h.vals z hz) hf hK (by decide)
   ·rw[List.mem_singleton.1 hz];exact hv
  keys:=by
   rw[List.map_append,List.nodup_append]
   refine⟨h.keys,by simp,fun a ha b hb e=>?_⟩
   simp at hb
   obtain⟨z,hz,rfl⟩:=List.mem_map.1 ha
   exact ffind_none hn z hz (e.trans hb)
  small:=fun z hz=>by
   rcases List.mem_append.1 hz with hz|hz
   ·exact h.small z hz
   ·rw[List.mem_singleton.1 hz];exact hs
  files:=by
   show s.files ++ [(y.key,y.data)]=_
   rw[h.files,List.map_append]
   rfl
  cli:=heap_kept h.cli hf hK (by decide)
  c2:=h.c2
  c13:=h.c13
  cache:=cache_kept h.cache hf hK h.mapOut.2 (by decide) (by decide) (by decide)
  net:=net_kept h.net hf hK (by decide) (by decide) (by decide)
  disk:=h.disk.kept hf hK (by decide) (by decide)
  dfiles:=h.dfiles
  maps:=h.maps
  o:=fun z hz=>Nat.lt_of_lt_of_le (h.o z hz) hf.size }
def QStep (w:World) (q:Qf) (x:Qv) (N:Nat) (d:Dk) (w':World) (s':Cs):Prop:=∃ x',QIs w' q x' N s' d∧Fr (QS q x) w w'∧Sub w (QS q x) (QS q x')
theorem QStep.trans {a b c:World} {q:Qf} {x y:Qv} {N:Nat} {d:Dk} {s:Cs} (hf:Fr (QS q x) a b) (hs:Sub a (QS q x) (QS q y)) (h:QStep b q y N d c s):QStep a q x N d c s:=by
 obtain⟨z,h1,h2,h3⟩:=h
 exact⟨z,h1,hf.sub h2 hs,hs.trans h3 hf.size⟩
theorem QStep.below {a b c:World} {q:Qf} {x:Qv} {N:Nat} {d:Dk} {s:Cs} (h:QStep a q x N d b s) (hb:Below b.heap.size b c):QStep a q x N d c s:=by
 obtain⟨z,h1,h2,h3⟩:=h
 exact⟨z,h1.below hb,h2.trans (Fr.ofBelow hb),h3⟩
theorem QStep.here {w:World} {q:Qf} {x:Qv} {N:Nat} {d:Dk} {s:Cs} (h:QIs w q x N s d):QStep w q x N d w s:=⟨x,h,Fr.refl _ _,Sub.refl _ _⟩
theorem QIs.heads {w:World} {q:Qf} {x:Qv} {N:Nat} {s:Cs} {d:Dk} (h:QIs w q x N s d):w.cell? ⟨q.gq,0,none⟩=some (.pointer (some ⟨q.gc,0,none⟩))∧w.cell? ⟨q.gq,1,none⟩=some (.int .i64 N)∧w.cell? ⟨q.gq,2,none⟩=some (.map (some q.mq))∧w.cell? ⟨q.gq,3,none⟩=some x.vo∧
  w.cell? ⟨q.gc,2,none⟩=some (.iface 44 (.pointer (some ⟨q.gn,0,none⟩)))∧w.cell? ⟨q.gc,13,none⟩=some (.pointer (some ⟨q.gk,0,none⟩))∧w.frozen? ⟨q.gq,3,none⟩=false:=
 ⟨cell_heap h.look 0 rfl,cell_heap h.look 1 rfl,cell_heap h.look 2 rfl,cell_heap h.look 3 rfl,cell_heap h.cli 2 h.c2,cell_heap h.cli 13 h.c13,frozen_heap h.look 3⟩
end
end
section
section
variable [Inhabited OutT]
theorem made_facts0 {w1 w2:World} {k:ByteArray} {v:Value} (h:w2=w1.alloc (.cells #[.string k,v,.pointer none,.pointer none] 244)):Fr (fun _=>False) w1 w2∧Node w2 w1.heap.size k v:=made_facts h
theorem cput_full (w:World) (g m:Nat) (c:Cch) (l:List CEnt) (q:CEnt) (k:ByteArray) (a:Option Addr) (n cc:Nat) (dat:List UInt8) (h:CacheIs w g m c (l ++ [q])) (hv:OwnB w 0 (.slice a n cc) dat) (hk:k.size≤maxLen) (hlen:(l ++ [q]).length=c.most) (hf:cfind (l ++ [q]) k=none) :
  Calls prog 145 #[.pointer (some ⟨g,0,none⟩),.string k,.slice a n cc] w (putPost w g m c (l ++ [q]) k dat):=by
 obtain⟨ln,hln⟩:∃ ln,ln=(l ++ [q]).length:=⟨_,rfl⟩
 have hm:=h.ring.ends.most
 have hc1:=h.ring.ends.all
 have hlp:ln=l.length+1:=by rw[hln];simp
 have h0:c.most≠0:=by omega
 have hz:((c.most:Int)=0)=False:=by simp[h0]
 have hne:((ln:Int) == (c.most:Int))=true:=by rw[beq_iff_eq];omega
 have hcg:cget (l ++ [q]) k=none:=by simp[cget,hf]
 have hni:=km_notIn h.km h.ring
 have hmw:=h.km.lt
 have hr:RingIs w g m c.most (l.map CEnt.tri++(q.b,q.key,q.val) :: []):=by have:=h.ring;rwa [List.map_append,List.map_cons] at this
 have hlast:w.cell? ⟨g,4,none⟩=some (.pointer (some ⟨q.b,0,none⟩)):=by
  have h1:=hr.chn.last.l
  rw[List.map_append] at h1
  have e:lst none (l.map CEnt.tri |>.map (·.1) |>.append [q.b])=some q.b:=lst_append none _ q.b
  have e2:lst none ((l.map CEnt.tri).map (·.1)++((q.b,q.key,q.val) :: []).map (·.1))=some q.b:=e
  rw[e2] at h1
  exact h1
 have dm:w.drew.cell? ⟨g,0,none⟩=some (.int .i64 c.most):=hm
 have dc:w.drew.cell? ⟨g,1,none⟩=some (.map (some m)):=hc1
 have dl:=fun ty=>(h.km.same (w':=w.drew) rfl).run_len underlying241 ty
 rw[←hln] at dl
 have hmg:m≠g:=hni.1
 have hks:q.key.size≤maxLen:=h.small q (by simp)
 have hbq:q.b∈(l.map CEnt.tri++(q.b,q.key,q.val) :: []).map (·.1):=by simp
 have hmr:∀ b∈(l.map CEnt.tri).map (·.1),¬ b=m:=by
  rintro b hb rfl
  refine hni.2 ?_
  rw[List.map_append,List.map_append]
  exact List.mem_append_left _ hb
 have hle:ln≤maxLen:=by have:=h.most;omega
 have KM:=zh h.km
 have HR:=zh hr
 have HNI:=zh hni
 have H:=zh h
 have HV:=zh hv
 have HLN:=zh hln
 clear hr hni h hv
 go_enter func145,ntmps145
 go_upto_region 4 with (first
  | (at_lookup;refine wpList_kmLook _ rfl _ _ 241 rfl 9 242 underlying9 underlying241 (z:=.pointer none) rfl m _ (cget (l ++ [q])) rfl KM.o k rfl hk ?_;rw[hcg];simp only[Option.getD,Option.isSome])
  | fail)
 go_region
 have hlast':w.drew.cell? ⟨g,4,none⟩=some (.pointer (some ⟨q.b,0,none⟩)):=hlast
 have hrd:RingIs w.drew g m c.most (l.map CEnt.tri++(q.b,q.key,q.val) :: []):=HR.o.fr (S:=fun _=>False) (Fr.ofBelow (below_drew w)) id (fun _ _=>id)
 have HRD:=zh hrd
 clear hrd
 go_upto_region 7 with (first
  | (go_at_call 183;refine (take_ring w.drew g m c.most _ _ q.b q.key q.val HRD.o _).mono ?_;rintro e w1 ⟨rfl,hr1,hn1,hf1,hs1⟩;have HR1:=zh hr1;have HN1:=zh hn1;have HF1:=zh hf1;have HS1:=zh hs1;clear hr1 hn1 hf1 hs1)
  | fail)
 have a1:=HR1.o.ends.all
 have a2:=HN1.o.key
 have hk1:KmAt w1 9 m (cget (l ++ [q])) ln:=by
  have:=(KM.o.same (w':=w.drew) rfl).fr HF1.o (by
   rintro (e|e)
   ·exact HNI.o.1 e
   ·exact HNI.o.2 (by rw[List.map_append,List.map_cons];exact e))
  rw[←HLN.o] at this
  exact this
 have HK1:=zh hk1
 clear hk1 dm dc dl hlast hlast' hne hm hc1
 go_still_tail 8,(by kernel_rfl)
 change wpList _ _ _ _ _ w1.drew
 refine wpList_kmDel _ rfl _ _ 241 9 rfl 242 underlying9 underlying241 m ln (cget (l ++ [q])) rfl (HK1.o.same (w':=w1.drew) rfl) q.key rfl hks ?_
 intro w2 hk2 hf2 hs2
 have hgk:(cget (l ++ [q]) q.key).isSome=true:=by
  have:cfind (l ++ [q]) q.key=some q:=(cfind_iff H.o.keys).2 ⟨by simp,rfl⟩
  unfold cget
  rw[this]
  rfl
 rw[if_pos hgk] at hk2
 obtain⟨w3,hw3⟩:∃ w3,w3=w2.alloc (.cells #[.string k,.slice a n cc,.pointer none,.pointer none] 244):=⟨_,rfl⟩
 obtain⟨hf3,hn3⟩:=made_facts0 hw3
 have hf12:Fr (·=m) w1 w2:=(Fr.ofBelow (below_drew w1)).trans hf2
 have hr1':RingIs w1 g m c.most (l.map CEnt.tri):=by have:=HR1.o;rwa [List.append_nil] at this
 have hr2:=hr1'.fr hf12 (fun e=>hmg e.symm) hmr
 have hr3:=hr2.fr hf3 id (fun _ _=>id)
 have hk3:=hk2.fr hf3 id
 have hM3:=hr3.ends.all
 have hM3':=hM3
 have hM2:=hr2.ends.all
 rw[hw3] at hM3'
 have hsz2:w2.heap.size=w.heap.size:=hs2.trans HS1.o
 have hnb:w2.heap.size ∉ (l.map CEnt.tri).map (·.1):=fun hb=>by
  have:=hr1'.lt hb
  rw[HS1.o] at this
  rw[hsz2] at this
  exact Nat.lt_irrefl _ this
 have hg0:(if k=q.key then none else cget (l ++ [q]) k)=none:=by
  split
  ·rfl
  ·exact hcg
 have HR3:=zh hr3
 have HK3:=zh hk3
 have HN3:=zh hn3
 have HF3:=zh hf3
 have HW3:=zh hw3
 have HNB:=zh hnb
 have HF12:=zh hf12
 have HG0:=zh hg0
 have hle1:ln-1<maxLen:=by omega
 have hmw2:m<w2.heap.size:=by rw[hsz2];exact hmw
 have hgw2:g<w2.heap.size:=cell_lt hM2
 have HSZ2:=zh hsz2
 clear hgk hk2 hf2 hs2 hf3 hn3 hf12 hr1' hr2 hr3 hk3 hM3 hnb hg0 hw3 hM3' a2 hsz2 a1
 go_wp2_with (first
  | (at_mapUpdate;rw[←HW3.o];refine wpList_kmPut _ rfl _ _ _ 241 rfl 9 242 underlying9 underlying241 m _ _ rfl HK3.o hle1 k (.pointer (some ⟨w2.heap.size,0,none⟩)) rfl hk rfl ?_;intro w4 hk4 hf4 hs4;have HK4:=zh hk4;have HF4:=zh hf4;have HS4:=zh hs4;clear hk4 hf4 hs4)
  | (go_at_call 184;refine (front_ring w4 g m c.most _ w2.heap.size k (.slice a n cc) (HR3.o.fr HF4.o (fun e=>hmg e.symm) hmr) HNB.o (HN3.o.below (HF4.o.block _ (by obtain⟨_,_,hh⟩:=HN3.o;exact lt_of_heap hh) (by omega)))).mono ?_;rintro e w5 ⟨rfl,hr5,hf5,hs5⟩;have HR5:=zh hr5;have HF5:=zh hf5;have HS5:=zh hs5;clear hr5 hf5 hs5)
  | fail)
 have hsz2:=HSZ2.o
 have hin:∀ i,(i=g∨i∈((l.map CEnt.tri++(q.b,q.key,q.val) :: [])).map (·.1))→cacheS g m (l ++ [q]) i:=by
  intro i hi
  rcases hi with hi|hi
  ·exact .inl hi
  ·exact .inr (.inr (by simpa [CEnt.tri] using hi))
 have hF1:Fr (cacheS g m (l ++ [q])) w w1:=((Fr.ofBelow (below_drew w)).trans HF1.o).weak fun i _ hi=>hin i hi
 have hF2:Fr (cacheS g m (l ++ [q])) w w2:=hF1.step HF12.o fun _ _ hi=>.inr (.inl hi)
 have hF3:Fr (cacheS g m (l ++ [q])) w w3:=hF2.step HF3.o fun _ _ hi=>hi.elim
 have hF4:Fr (cacheS g m (l ++ [q])) w w4:=hF3.step HF4.o fun _ _ hi=>.inr (.inl hi)
 have hsub:∀ i,i∈(l.map CEnt.tri).map (·.1)→i∈(l ++ [q]).map (·.b):=fun i hi=>by
  rw[tri_fst] at hi
  rw[List.map_append]
  exact List.mem_append_left _ hi
 have hF:Fr (cacheS g m (l ++ [q])) w w5:=hF4.step HF5.o fun i hi hs=>by
  rcases hs with e|e|e
  ·exact .inl e
  ·omega
  ·exact .inr (.inr (hsub i e))
 have hB:∀ (k:Nat) (C:Array Value) (fz:Nat×Nat),w.heap[k]?=some (Obj.cells C 5 fz)→w5.heap[k]?=w.heap[k]?:=fun k C fz hk=>hF.block k (lt_of_heap hk) (cache_noBytes H.o k C fz hk)
 refine bodyPost_end (results_none rfl _ _ _) rfl ⟨rfl,⟨w2.heap.size,k,.slice a n cc,dat⟩ :: l,?_,by simp,hF,?_⟩
 ·have hg:¬ (kvGet c.items k).isSome=true:=by rw[H.o.items,kvGet_kv,hf];simp
  have hl:c.items.length=c.most:=by rw[H.o.items,List.length_map];exact hlen
  have ec:cachePut c k dat={ c with items:=(k,dat) :: l.map CEnt.kv }:=by
   unfold cachePut
   rw[if_neg h0,if_neg hg,if_pos hl,H.o.items,List.map_append]
   simp
  rw[ec]
  have hk5:=HK4.o.fr HF5.o (by
   rintro (e|e|e)
   ·exact hmg e
   ·omega
   ·exact hmr _ e rfl)
  rw[HG0.o] at hk5
  simp only[Option.isSome] at hk5
  have hkeys:=H.o.keys
  rw[List.map_append,List.nodup_append] at hkeys
  have hqn:∀ x∈l,x.key≠q.key:=fun x hx=>hkeys.2.2 x.key (List.mem_map_of_mem hx) q.key (by simp)
  have hlc:l.length+1≤c.most:=by omega
  rw[show ln-1=l.length by omega] at hk5
  refine H.o.newer (fun x hx=>List.mem_append_left _ hx) hkeys.1 (fun x hx=>cfind_none hf x (List.mem_append_left _ hx)) hk hlc HR5.o (HV.o.same hB) (fun x hx=>(H.o.vals x (List.mem_append_left _ hx)).same hB) hk5 (fun u=>?_)
  by_cases e:u=k
  ·rw[if_pos e,if_pos e]
  ·rw[if_neg e,if_neg e]
   by_cases e2:u=q.key
   ·rw[if_pos e2]
    have:cfind l u=none:=by
     unfold cfind
     rw[List.find?_eq_none]
     intro x hx
     simp
     rw[e2]
     exact hqn x hx
    unfold cget
    rw[this]
    rfl
   ·rw[if_neg e2]
    have:=cget_skip (l:=l) (r:=[]) e2
    rw[List.append_nil] at this
    exact this
 ·intro i hi hS
  rcases hS with rfl|rfl|hS
  ·exact .inl rfl
  ·exact .inr (.inl rfl)
  ·rw[List.map_cons,List.mem_cons] at hS
   rcases hS with e|hS
   ·have e:i=w2.heap.size:=e
    omega
   ·exact .inr (.inr (by rw[List.map_append];exact List.mem_append_left _ hS))
theorem cput_any (w:World) (g m:Nat) (c:Cch) (qs:List CEnt) (k:ByteArray) (a:Option Addr) (n cc:Nat) (dat:List UInt8) (h:CacheIs w g m c qs) (hv:OwnB w 0 (.slice a n cc) dat) (hk:k.size≤maxLen) (hlen:qs.length<maxLen) :
  Calls prog 145 #[.pointer (some ⟨g,0,none⟩),.string k,.slice a n cc] w (putPost w g m c qs k dat):=by
 by_cases h0:c.most=0
 ·exact cput_zero w g m c qs k _ dat h h0
 ·cases hf:cfind qs k with
  | some q=>
   obtain⟨rfl,l,r,rfl,_⟩:=cfind_split hf
   exact cput_have w g m c l r q a n cc dat h hv h0 hk hlen
  | none=>
   rcases Nat.lt_or_ge qs.length c.most with hlt|hge
   ·exact cput_room w g m c qs k a n cc dat h hv hk hlt hf
   ·have he:qs.length=c.most:=Nat.le_antisymm h.fits hge
    have hne:qs≠[]:=fun e=>by rw[e] at he;exact h0 he.symm
    rw[←List.dropLast_concat_getLast hne] at h hf he ⊢
    exact cput_full w g m c _ _ k a n cc dat h hv hk he hf
end
end
section
open Go.RowKit Go.Maps Go.ChangeMaps Go.WideMaps
section
theorem rememberQ_snoc:∀ (xs:List Kv) (c:Cch) (x:Kv),rememberQ c (xs ++ [x])=cachePut (rememberQ c xs) x.1 x.2
 | [],_,_=>have:=(inferInstance:Inhabited OutT);rfl
 | _ :: ys,c,x=>rememberQ_snoc ys _ x
variable [Inhabited OutT]
theorem KmAt.run_look {w:World} {k:TypeId} {b n:Nat} {get:ByteArray→Option Value} (h:KmAt w k b get n) (hk:prog.underlying k=some .string) {t e:TypeId} (ht:prog.underlying t=some (.map k e)) {z:Value} (hz:(zeroValue e).run prog w=.ok z w) (s:ByteArray) (hs:s.size≤maxLen) {v:Value} (hv:get s=some v) :
  (Instr.lookup t (.map (some b)) (.string s) false).run prog w=.ok v w:=by
 have:=(inferInstance:Inhabited OutT)
 obtain⟨D,hown,hn,hh,ha⟩:=h.ex
 obtain⟨v',ps,h1,h2⟩:=hown.lookup (string_keyed hk) ht hz (zd:=.held z) (zp:=[]) rfl (keyOf_string_mk hk hs)
 have e1:DataW.held v'=D.atKey (klit s) (.held z):=by
  have:=congrArg (Option.map Prod.fst) h2
  simp only[heldV,Option.map_some] at this
  exact Option.some.inj this
 rw[ha s v _ hv] at e1
 cases e1
 exact h1
theorem fget_at {vs:List FEnt} (hk:(vs.map (·.key)).Nodup) {j:Nat} {y:FEnt} (hj:vs[j]?=some y):fget vs y.key=some y.val:=by
 obtain⟨hlt,he⟩:=List.getElem?_eq_some_iff.1 hj
 cases hf:ffind vs y.key with
 | none=>exact absurd rfl (ffind_none hf y (List.mem_of_getElem? hj))
 | some z=>
  obtain⟨hz,hzk⟩:=ffind_mem hf
  have:z=y:=by
   obtain⟨i,hi,rfl⟩:=List.mem_iff_getElem.1 hz
   have e1:(vs.map (·.key))[i]'(by rw[List.length_map];exact hi)=(vs.map (·.key))[j]'(by rw[List.length_map];exact hlt):=by
    rw[List.getElem_map,List.getElem_map,hzk,he]
   have hij:i=j:=by
    rcases Nat.lt_trichotomy i j with h|h|h
    ·exact absurd e1 (List.pairwise_iff_getElem.1 hk i j (by rw[List.length_map];exact hi) (by rw[List.length_map];exact hlt) h)
    ·exact h
    ·exact absurd e1.symm (List.pairwise_iff_getElem.1 hk j i (by rw[List.length_map];exact hlt) (by rw[List.length_map];exact hi) h)
   subst hij
   exact he
  unfold fget
  rw[hf,this]
  rfl
structure RSt (w wr:World) (q:Qf) (x:Qv) (N:Nat) (s:Cs) (d:Dk) (j:Nat) (qs:List CEnt):Prop where
 is:QIs wr q { x with qs:=qs } N { s with cache:=rememberQ s.cache (s.files.take j) } d
 fr:Fr (cacheS q.gk q.mc x.qs) w wr
 sub:∀ i,i<w.heap.size→cacheS q.gk q.mc qs i→cacheS q.gk q.mc x.qs i
 len:qs.length≤x.qs.length+j
theorem rst_next {w wr wf:World} {q:Qf} {x:Qv} {N:Nat} {s:Cs} {d:Dk} {j:Nat} {qs qs':List CEnt} {y:FEnt} (h:RSt w wr q x N s d j qs) (hy:x.vs[j]?=some y) (hc:CacheIs wf q.gk q.mc (cachePut (rememberQ s.cache (s.files.take j)) y.key y.data) qs') (hl:qs'.length≤qs.length+1)
  (hf:Fr (cacheS q.gk q.mc qs) wr wf) (hs:∀ i,i<wr.heap.size→cacheS q.gk q.mc qs' i→cacheS q.gk q.mc qs i):RSt w wf q x N s d (j+1) qs':=by
 have hk:s.files[j]?=some (y.key,y.data):=by
  have:=h.is.files
  dsimp only at this
  rw[this,List.getElem?_map,hy]
  rfl
 refine⟨?_,h.fr.step hf h.sub,fun i hi e=>h.sub i hi (hs i (Nat.lt_of_lt_of_le hi h.fr.size) e),by have:=h.len;omega⟩
 have:=h.is.cacheStep hc hf
 rw[List.take_add_one,hk,Option.toList_some,rememberQ_snoc]
 exact this
theorem remember_any (w:World) (q:Qf) (x:Qv) (N:Nat) (s:Cs) (d:Dk) (h:QIs w q x N s d) (hlen:x.qs.length+x.vs.length<1099511627775) :
  Calls prog 91 #[.pointer (some ⟨q.gq,0,none⟩)] w fun e w'=>e=.returned (.tuple #[])∧∃ qs',QIs w' q { x with qs:=qs' } N { s with cache:=rememberQ s.cache s.files } d∧Fr (cacheS q.gk q.mc x.qs) w w'∧∀ i,i<w.heap.size→cacheS q.gk q.mc qs' i→cacheS q.gk q.mc x.qs i:=by
 obtain⟨ao,co,hvo⟩:=own_any h.ord
 have hst:RSt w w q x N s d 0 x.qs:=⟨h,Fr.refl _ _,fun _ _ e=>e,Nat.le_refl _⟩
 obtain⟨ln,hln⟩:∃ ln,ln=x.vs.length:=⟨_,rfl⟩
 rw[List.length_map,←hln] at hvo
 obtain⟨_,_,_,c3,_⟩:=h.heads
 rw[hvo] at c3
 have HST:=zh hst
 have HVO:=zh hvo
 have HLN:=zh hln
 have HKE:=zh h.keys
 have HFL:=zh h.files
 have hlen2:x.qs.length+ln<1099511627775:=by rw[hln];exact hlen
 clear h hst hvo hln hlen
 go_enter func91,ntmps91
 go_wp2
 go_loopw [9] (fun i wr=>∃ (j:Nat) (qs:List CEnt),j≤ln∧i=.int .i64 j∧Hid (RSt w wr q x N s d j qs)) (fun i _=>ln-(intOf i).toNat)
 case atStart=>exact⟨0,x.qs,Nat.zero_le _,rfl,HST⟩
 case round=>
  obtain⟨j,qs,hj,rfl,HR⟩:=hrel
  by_cases hlt:j<ln
  ·have hjl:(j:Int)<(ln:Int):=by omega
   have hj0:(0:Int)≤(j:Int):=by omega
   obtain⟨y,hy⟩:∃ y,x.vs[j]?=some y:=⟨_,List.getElem?_eq_getElem (by rw[←HLN.o];exact hlt)⟩
   obtain⟨_,_,hve,_,hcell⟩:=ownsRow_cells HR.o.is.ord
   have hg:((x.vs.map (·.key)).map Value.string)[j]?=some (.string y.key):=by rw[List.getElem?_map,List.getElem?_map,hy];rfl
   obtain⟨b,off,hbo,d1⟩:=hcell _ _ hg
   dsimp only at hve
   rw[HVO.o] at hve
   simp only[Value.slice.injEq] at hve
   have hae:=hve.1.trans hbo
   clear hve hbo hcell hg
   subst hae
   have hym:=List.mem_of_getElem? hy
   have hys:=HR.o.is.small y hym
   have hyv:=HR.o.is.vals y hym
   obtain⟨av,nv,cv,hval⟩:=ownB_any hyv.1
   have hfg:=fget_at HKE.o hy
   obtain⟨e0,e1,e2,e3,e4,e5,_⟩:=HR.o.is.heads
   have hlk:=HR.o.is.km.run_look (t:=248) (e:=94) underlying9 underlying248 (z:=.slice none 0 0) rfl y.key hys hfg
   have hlk2:=(HR.o.is.km.same (w':=wr.drew) rfl).run_look (t:=248) (e:=94) underlying9 underlying248 (z:=.slice none 0 0) rfl y.key hys hfg
   rw[hval] at hlk hlk2 hyv
   have hql:qs.length<maxLen:=by have:=HR.o.len;unfold maxLen;omega
   have hcall:=cput_any wr.drew q.gk q.mc _ qs y.key av nv cv y.data (HR.o.is.cache.fr (S:=fun _=>False) (Fr.ofBelow (below_drew wr)) (fun _ _=>id) (fun _ _ _ _=>id)) (OwnB.below hyv (below_drew wr)) hys hql
   have CALL:=zh hcall
   have HY:=zh hy
   clear hcall hy hym hys hyv hval hfg hql
   go_upto_region 3 with fail
   go_still_tail 14,(by kernel_rfl)
   change wpList _ _ _ _ _ wr.drew
   go_wp2_with (go_at_call 145;refine CALL.o.mono ?_;rintro e w1 ⟨rfl,qs1,hc1,hl1,hf1,hs1⟩;have HC1:=zh hc1;have HL1:=zh hl1;have HF1:=zh hf1;have HS1:=zh hs1;clear hc1 hl1 hf1 hs1)
   go_roundw
   case rel=>exact⟨j+1,qs1,by omega,by go_num,zh (rst_next HR.o HY.o HC1.o HL1.o ((Fr.ofBelow (below_drew wr)).trans HF1.o) HS1.o)⟩
   case measure=>simp[intOf];omega
  ·have hjl:¬ (j:Int)<(ln:Int):=by omega
   have hje:j=ln:=by omega
   have HJ:=zh hje
   clear hje
   go_wp2
   refine bodyPost_end (results_none rfl _ _ _) rfl ⟨rfl,qs,?_,HR.o.fr,HR.o.sub⟩
   have:=HR.o.is
   rw[List.take_of_length_le (by rw[HFL.o,List.length_map,←HLN.o,HJ.o];exact Nat.le_refl _)] at this
   exact this
end
end
section
abbrev muLink:Go.Conc.Locks.MuLink:={ lock:=83,unlock:=84,ilock:=138,iunlock:=139,lockSlow:=179,unlockSlow:=182,disable:=175,enable:=177,acquire:=178,relMerge:=180,cas32:=176,add32:=181,tMutex:=175,tIMutex:=173,tPMutex:=247,tPIMutex:=296,tPI32:=298,tUP:=228,tNoCopy:=170,tU32:=171 }
theorem muLib:Go.Conc.Locks.MuLib prog muLink:=
 ⟨func83,func84,func138,func139,func175,func177,func178,func180,func176,func181,
 underlying173,runUnderlying173,sizeOf173,isAgg173,zeroValue173,underlying175,runUnderlying175,sizeOf175,isAgg175,zeroValue175,underlying247,runUnderlying247,sizeOf247,isAgg247,zeroValue247,underlying296,runUnderlying296,sizeOf296,isAgg296,zeroValue296,underlying298,runUnderlying298,sizeOf298,isAgg298,zeroValue298,underlying228,runUnderlying228,sizeOf228,isAgg228,zeroValue228,underlying170,runUnderlying170,sizeOf170,isAgg170,zeroValue170,underlying21,runUnderlying21,sizeOf21,isAgg21,zeroValue21,(by kernel_rfl)⟩
end
end Go.Proofs.YtefccfakhgdfbabGreatDoor
