/- Words for digits of 16. No walk. -/
import Derived.Test.YtefccfakhgdfbaaGreatDoorLi06
import Derived.StillTailTactics
import Derived.Conc.MuLone
import Derived.Conc.RwLib
import Derived.Conc.MuData
import Derived.Deep.AppendLies
set_option linter.unusedVariables false
set_option linter.unusedSimpArgs false
open Go.RowKit Go.Proofs.Tryz
set_option maxRecDepth 100000
set_option maxHeartbeats 4000000
namespace Go.Proofs.YtefccfakhgdfbaaGreatDoor
section
def aB (g:Nat):Option Nat→Nat
 | none=>g
 | some c=>c
def aO:Option Nat→Nat
 | none=>2
 | some _=>0
theorem Qys (g:Nat) (x:Option Nat):rA g x=⟨aB g x,aO x,none⟩:=by cases x <;> rfl
theorem Q8h (g:Nat) (x:Option Nat):rE g x=⟨aB g x,aO x+3,none⟩:=by cases x <;> rfl
theorem Qq9 (g:Nat) (x:Option Nat):rL g x=⟨aB g x,aO x+2,none⟩:=by cases x <;> rfl
theorem Zae (x y:Option Nat):aO x+3≠aO y+2:=by cases x <;> cases y <;> simp[aO]
theorem Q95 (y:Option Nat):aO y+2≠5:=by cases y <;> simp[aO]
section
variable {w:World} {g m n:Nat} {ps:List (Nat×ByteArray×Value)}
variable {b:Nat}
theorem Ji.node (h:Ji w g m n ps) (hb:b∈ps.map (·.1)):∃ k v,(b,k,v)∈ps∧Node w b k v:=by obtain⟨p,hp,rfl⟩:=List.mem_map.1 hb;exact⟨p.2.1,p.2.2,hp,h.nodes p hp⟩
theorem Ji.ne (h:Ji w g m n ps) (hb:b∈ps.map (·.1)):b≠g:=by obtain⟨k,v,_,hN⟩:=h.node hb;exact hN.ne h.ends
theorem Ji.free (h:Ji w g m n ps) {x:Option Nat} (hx:x=none∨∃ b∈ps.map (·.1),x=some b) (i:Nat):w.frozen? ⟨aB g x,i,none⟩=false:=by
 rcases hx with rfl|⟨b,hb,rfl⟩
 ·exact h.ends.free i
 ·obtain⟨k,v,_,hN⟩:=h.node hb
  exact hN.free i
variable {w':World} {p q:Addr}
theorem Ji.turn (h:Ji w g m n ps) {x y:Option Addr} (ht:Two w w' p (.pointer x) q (.pointer y)) {qs:List (Nat×ByteArray×Value)} (hq:∀ z∈qs,z∈ps)
  (hp2:∀ b,b≠g→p.block=b→p=⟨b,2,none⟩∨p=⟨b,3,none⟩) (hq2:∀ b,b≠g→q.block=b→q=⟨b,2,none⟩∨q=⟨b,3,none⟩) (hpg:p.block=g→p=⟨g,4,none⟩∨p=⟨g,5,none⟩) (hqg:q.block=g→q=⟨g,4,none⟩∨q=⟨g,5,none⟩)
  (hc:Chn w' g none (qs.map (·.1))) (hn:(qs.map (·.1)).Nodup):Ji w' g m n qs:=
 ⟨h.ends.two ht hpg hqg,fun z hz=>(h.nodes z (hq z hz)).two ht (hp2 _ (h.ne (List.mem_map_of_mem (hq z hz)))) (hq2 _ (h.ne (List.mem_map_of_mem (hq z hz)))),hc,hn⟩
end
theorem Qmq (w:World) (g m n:Nat) (l r:List (Nat×ByteArray×Value)) (b:Nat) (k:ByteArray) (v:Value) (h:Ji w g m n (l++(b,k,v) :: r)) (c:Value) :
  Calls prog 226 #[c,.pointer (some ⟨b,0,none⟩)] w (fun e w'=>e=.returned (.tuple #[])∧Ji w' g m n (l++r)∧Node w' b k v∧Fr (fun i=>i=g∨i∈(l++(b,k,v) :: r).map (·.1)) w w'∧w'.heap.size=w.heap.size):=by
 have hm:(l++(b,k,v) :: r).map (·.1)=l.map (·.1)++b :: r.map (·.1):=by simp
 have hC:=h.chn;rw[hm] at hC;have hN:=h.nd;rw[hm] at hN;obtain⟨K1,K2⟩:=hC.before;have K3:=K2.first;obtain⟨x,hx⟩:∃ x,x=lst none (l.map (·.1)):=⟨_,rfl⟩
 obtain⟨y,hy⟩:∃ y,y=(r.map (·.1)).head?:=⟨_,rfl⟩
 rw[←hx] at K1;rw[←hy] at K3;have f:x=none∨∃ d∈(l++(b,k,v) :: r).map (·.1),x=some d:=by
  rcases Qpq (x:=none) (l:=l.map (·.1)) with e|⟨d,hd,e⟩
  ·exact .inl (hx.trans e)
  ·exact .inr ⟨d,by rw[hm];exact List.mem_append_left _ hd,hx.trans e⟩
 have a:y=none∨∃ d∈(l++(b,k,v) :: r).map (·.1),y=some d:=by
  cases r with
  | nil=>exact .inl hy
  | cons z r=>exact .inr ⟨z.1,by simp,hy⟩
 have p:b∈(l++(b,k,v) :: r).map (·.1):=by simp
 have j:=h.ne p;have A:b≠aB g x:=by
  rcases Qpq (x:=none) (l:=l.map (·.1)) with e|⟨d,hd,e⟩
  ·rw[hx,e];exact j
  ·rw[hx,e]
   rintro rfl
   have:=(List.nodup_append.1 hN).2.2 _ hd _ (.head _)
   exact this rfl
 have u:b≠aB g y:=by
  cases r with
  | nil=>rw[hy];exact j
  | cons z r=>
   rw[hy];rintro rfl;exact (List.nodup_cons.1 (List.nodup_append.1 hN).2.1).1 (.head _)
 have s:x≠some g:=by
  rcases f with e|⟨d,hd,e⟩
  ·rw[e];simp
  ·rw[e];intro q;cases q;exact h.ne hd rfl
 have t:y≠some g:=by
  rcases a with e|⟨d,hd,e⟩
  ·rw[e];simp
  ·rw[e];intro q;cases q;exact h.ne hd rfl
 have c2:w.cell? ⟨b,2,none⟩=some (.pointer (some ⟨aB g x,aO x,none⟩)):=by have:=K1.l;rwa [rP,Qys] at this
 have c3:w.cell? ⟨b,3,none⟩=some (.pointer (some ⟨aB g y,aO y,none⟩)):=by have:=K3.e;rwa [rP,Qys] at this
 have cx:w.cell? ⟨aB g x,aO x+3,none⟩=some (rP g (some b)):=by have:=K1.e;rwa [Q8h] at this
 have cy:w.cell? ⟨aB g y,aO y+2,none⟩=some (rP g (some b)):=by have:=K3.l;rwa [Qq9] at this
 refine (Q5b w c b _ _ _ _ _ _ c2 c3 cx cy (h.free f _) (h.free a _) A u (.inr (Zae x y))).mono ?_;rintro e w' ⟨rfl,ht⟩;rw[←Qq9,←Q8h,←Qys,←Qys] at ht;have hj:Q32 w w' g x y:=Q3p ht (by rw[Qq9];exact cy) (by rw[Q8h];exact cx);have o:∀ z∈l++r,z∈l++(b,k,v) :: r:=by
  intro z hz;rcases List.mem_append.1 hz with hz|hz
  ·exact List.mem_append_left _ hz
  ·exact List.mem_append_right _ (.tail _ hz)
 refine⟨rfl,h.turn ht o (fun d hd=>Qp4 hd) (fun d hd=>Qvz hd) (Qz2 t) (Q8e s) ?_ ?_,(h.nodes (b,k,v) (by simp)).two ht (Qp4 j) (Qvz j),?_,?_⟩
 ·rw[List.map_append]
  refine Chn.take hC (fun c _=>by simp) hN ?_;rw[←hx,←hy];exact hj
 ·rw[List.map_append]
  exact hN.sublist (List.Sublist.append_left (List.sublist_cons_self _ _) _)
 ·refine ht.fr.weak fun i _ hi=>?_
  rcases hi with rfl|rfl
  ·rcases a with e|⟨d,hd,e⟩
   ·rw[e];exact .inl rfl
   ·rw[e];exact .inr hd
  ·rcases f with e|⟨d,hd,e⟩
   ·rw[e];exact .inl rfl
   ·rw[e];exact .inr hd
 ·rcases ht with rfl|rfl <;> (simp only[World.setCell,Array.size_modify];rfl)
variable {w':World} {p q:Addr}
theorem Two.size {w:World} {u v:Value} (h:Two w w' p u q v):w'.heap.size=w.heap.size:=by rcases h with rfl|rfl <;> (simp only[World.setCell,Array.size_modify];rfl)
theorem Qgt (w:World) (g m n:Nat) (ps:List (Nat×ByteArray×Value)) (b:Nat) (k:ByteArray) (v:Value) (h:Ji w g m n ps) (hb:b ∉ ps.map (·.1)) (hB:Node w b k v) :
  Calls prog 227 #[.pointer (some ⟨g,0,none⟩),.pointer (some ⟨b,0,none⟩)] w (fun e w'=>e=.returned (.tuple #[])∧Ji w' g m n ((b,k,v) :: ps)∧Fr (fun i=>i=g∨i=b∨i∈ps.map (·.1)) w w'∧w'.heap.size=w.heap.size):=by
 have a:=hB.ne h.ends;obtain⟨y,hy⟩:∃ y,y=(ps.map (·.1)).head?:=⟨_,rfl⟩
 have K:=h.chn.first;rw[←hy] at K;have c:y=none∨∃ d∈ps.map (·.1),y=some d:=by
  cases ps with
  | nil=>exact .inl hy
  | cons z r=>exact .inr ⟨z.1,by simp,hy⟩
 have j:b≠aB g y:=by
  rcases c with e|⟨d,hd,e⟩
  ·rw[e];exact a
  ·rw[e];rintro rfl;exact hb hd
 have B:y≠some g:=by
  rcases c with e|⟨d,hd,e⟩
  ·rw[e];simp
  ·rw[e];intro q;cases q;exact h.ne hd rfl
 obtain⟨l0,e0,t⟩:=id hB;have c2:w.cell? ⟨b,2,none⟩=some (.pointer l0):=Qd t 2 rfl;have c3:w.cell? ⟨b,3,none⟩=some (.pointer e0):=Qd t 3 rfl;have c5:w.cell? ⟨g,5,none⟩=some (.pointer (some ⟨aB g y,aO y,none⟩)):=by have:=K.e;rwa [rP,Qys] at this
 have cy:w.cell? ⟨aB g y,aO y+2,none⟩=some (rP g none):=by have:=K.l;rwa [Qq9] at this
 refine (Q2s w g b _ _ _ _ _ c2 c3 c5 cy (hB.free _) (hB.free _) (h.ends.free _) (h.free c _) a j (.inr (Q95 y))).mono ?_;rintro e w' ⟨rfl,w1,h1,h2⟩;rw[←Qys] at h1;rw[←Qq9] at h2;have x:(⟨b,2,none⟩:Addr)≠⟨b,3,none⟩:=by simp
 have f:rL g y≠⟨b,2,none⟩:=by rw[Qq9];intro q;injection q with q;exact j q.symm
 have o:rL g y≠⟨b,3,none⟩:=by rw[Qq9];intro q;injection q with q;exact j q.symm
 have u:(⟨g,5,none⟩:Addr)≠⟨b,2,none⟩:=by intro q;injection q with q;exact a q.symm
 have s:(⟨g,5,none⟩:Addr)≠⟨b,3,none⟩:=by intro q;injection q with q;exact a q.symm
 have A:rL g y≠⟨g,5,none⟩:=(Qb3 g none y).symm;have q2:=h1.left c2 x;have q3:=h1.right c3 x;have q5:=(h1.other u s).trans c5;have qy:w1.cell? (rL g y)=some (rP g none):=(h1.other f o).trans (by rw[Qq9];exact cy);have hf:Q07 w w' g b y:=by refine⟨⟨h2.right q5 A,(h2.other f.symm u.symm).trans q2⟩,⟨(h2.other o.symm s.symm).trans q3,h2.left qy A⟩,fun p p1 p2 p3 p4=>?_⟩;exact (h2.other p4 p1).trans (h1.other p2 p3)
 have N1:∀ d k v,d≠g→Node w d k v→Node w' d k v:=by intro d k v hd hN;refine (hN.two h1 (fun e=>.inl (by cases e;rfl)) (fun e=>.inr (by cases e;rfl))).two h2 (Qp4 hd) (fun e=>absurd e.symm hd)
 have E1:Ends w' g m n:=(h.ends.two h1 (fun e=>absurd e a) (fun e=>absurd e a)).two h2 (Qz2 B) (fun _=>.inr rfl);refine⟨rfl,⟨E1,?_,?_,?_⟩,?_,h2.size.trans h1.size⟩
 ·intro p hp
  rcases List.mem_cons.1 hp with rfl|hp
  ·exact N1 _ _ _ a hB
  ·exact N1 _ _ _ (h.ne (List.mem_map_of_mem hp)) (h.nodes p hp)
 ·refine Chn.front h.chn hb h.nd ?_
  rw[←hy];exact hf
 ·exact List.nodup_cons.2 ⟨hb,h.nd⟩
 ·refine Fr.trans (h1.fr.weak fun i _ hi=>?_) (h2.fr.weak fun i _ hi=>?_)
  ·rcases hi with rfl|rfl <;> exact .inr (.inl rfl)
  ·rcases hi with rfl|rfl
   ·rcases c with e|⟨d,hd,e⟩
    ·rw[e];exact .inl rfl
    ·rw[e];exact .inr (.inr hd)
   ·exact .inl rfl
end
section
structure OutT where
 blk:Option Nat
instance Zam:Inhabited OutT:=⟨⟨none⟩⟩
section
variable [Inhabited OutT]
def Out.blk:Option Nat:=(default:OutT).blk
def OwnB (w:World) (base:Nat) (v:Value) (l:List UInt8):Prop:=Qy w base v l∧∀ z,Out.blk=some z→v.ownBlock≠some z
variable {w w':World} {base:Nat} {v:Value} {l:List UInt8}
theorem OwnB.same (h:OwnB w base v l) (hs:∀ (k:Nat) (C:Array Value) (fz:Nat×Nat),w.heap[k]?=some (Obj.cells C 5 fz)→w'.heap[k]?=w.heap[k]?):OwnB w' base v l:=⟨h.1.same hs,h.2⟩
theorem OwnB.below (h:OwnB w base v l) (hb:Below w.heap.size w w'):OwnB w' base v l:=⟨h.1.below hb,h.2⟩
theorem OwnB.new (h:Qy w base v l) (hb:∀ z,Out.blk=some z→z<base):OwnB w 0 v l:=by
 refine⟨h.mono (Nat.zero_le _),fun z hz e=>?_⟩;have a:=hb z hz;rcases h with ⟨rfl,_⟩|⟨b,off,c,C,fz,rfl,_,h2,_⟩
 ·cases e
 ·simp[Value.ownBlock] at e
  omega
structure CEnt where
 b:Nat
 key:ByteArray
 val:Value
 data:List UInt8
def CEnt.tri (q:CEnt):Nat×ByteArray×Value:=(q.b,q.key,q.val)
def CEnt.kv (q:CEnt):Kv:=(q.key,q.data)
def cfind (qs:List CEnt) (s:ByteArray):Option CEnt:=qs.find? fun q=>decide (q.key=s)
def cget (qs:List CEnt) (s:ByteArray):Option Value:=(cfind qs s).map fun q=>.pointer (some ⟨q.b,0,none⟩)
structure Z3 (w:World) (g m:Nat) (c:Cch) (qs:List CEnt):Prop where
 ring:Ji w g m c.most (qs.map CEnt.tri)
 items:c.items=qs.map CEnt.kv
 vals:∀ q∈qs,OwnB w 0 q.val q.data
 km:KmAt w 9 m (cget qs) qs.length
 keys:(qs.map (·.key)).Nodup
 small:∀ q∈qs,q.key.size≤maxLen
 fits:qs.length≤c.most
 most:c.most≤maxLen
def Yl (g m:Nat) (qs:List CEnt) (k:Nat):Prop:=k=g∨k=m∨k∈qs.map (·.b)
theorem Qcy (qs:List CEnt):(qs.map CEnt.tri).map (·.1)=qs.map (·.b):=by have:=(inferInstance:Inhabited OutT);simp[CEnt.tri]
theorem Qgp (qs:List CEnt) (s:ByteArray):Qaf (qs.map CEnt.kv) s=(cfind qs s).map (·.data):=by
 have:=(inferInstance:Inhabited OutT)
 unfold Qaf cfind;rw[List.find?_map];simp only[Option.map_map];rfl
variable {qs:List CEnt} {s:ByteArray} {q:CEnt}
theorem Qdm (h:cfind qs s=some q):q.key=s∧∃ l r,qs=l++q :: r∧∀ x∈l,x.key≠s:=by
 have:=(inferInstance:Inhabited OutT)
 unfold cfind at h;obtain⟨h1,l,r,h2,h3⟩:=List.find?_eq_some_iff_append.1 h;exact⟨by simpa using h1,l,r,h2,fun x hx=>by simpa using h3 x hx⟩
theorem Qgx (h:cfind qs s=none):∀ x∈qs,x.key≠s:=by
 have:=(inferInstance:Inhabited OutT)
 unfold cfind at h;intro x hx
 have:=List.find?_eq_none.1 h x hx
 simpa using this
theorem Qtb (qs:List CEnt) (s:ByteArray):Qhf (qs.map CEnt.kv) s=(qs.filter fun q=>!decide (q.key=s)).map CEnt.kv:=by
 have:=(inferInstance:Inhabited OutT)
 unfold Qhf;rw[List.filter_map];rfl
theorem Qoo {l r:List CEnt} (hq:q.key=s) (hn:((l++q :: r).map (·.key)).Nodup):(l++q :: r).filter (fun x=>!decide (x.key=s))=l++r:=by
 have:=(inferInstance:Inhabited OutT)
 have h1:∀ x∈l++r,(!decide (x.key=s))=true:=by
  intro x hx;have b:x.key≠s:=by intro e;have a:((q :: (l++r)).map (·.key)).Nodup:=(List.Perm.nodup_iff (List.Perm.map _ List.perm_middle)).1 hn;rw[List.map_cons,List.nodup_cons] at a;exact a.1 (by rw[hq,←e];exact List.mem_map_of_mem hx)
  simp[b]
 rw[List.filter_append,List.filter_cons,if_neg (by simp[hq]),←List.filter_append];exact List.filter_eq_self.2 h1
end
end
section
section
variable [Inhabited OutT]
variable {w:World} {m n g:Nat} {ps:List (Nat×ByteArray×Value)}
theorem Qk8 {k:TypeId} {get:ByteArray→Option Value} {mo:Nat} (h:KmAt w k m get n) (hr:Ji w g m mo ps):m≠g∧m ∉ ps.map (·.1):=by
 have:=(inferInstance:Inhabited OutT)
 obtain⟨D,⟨es,c,hb,_⟩,_⟩:=h.ex;refine⟨?_,fun hm=>?_⟩
 ·rintro rfl
  obtain⟨l,e,h2⟩:=hr.ends;rw[hb] at h2;cases h2
 ·obtain⟨k',v,_,l,e,h2⟩:=hr.node hm
  rw[hb] at h2;cases h2
theorem Qgg (h:Ji w g m n ps):Qei w (fun i=>i=g∨i∈ps.map (·.1)):=by
 have:=(inferInstance:Inhabited OutT)
 intro k C fz hk hs;rcases hs with rfl|hs
 ·obtain⟨l,e,h2⟩:=h.ends
  rw[hk] at h2;cases h2
 ·obtain⟨k',v,_,l,e,h2⟩:=h.node hs
  rw[hk] at h2;cases h2
def Ql6 (w:World) (g m:Nat) (c:Cch) (qs:List CEnt) (k:ByteArray) (e:Ending) (w':World):Prop:=
 (cfind qs k=none∧e=.returned (.tuple #[.slice none 0 0,.bool false])∧w'=w)∨
 ∃ q qs',cfind qs k=some q∧e=.returned (.tuple #[q.val,.bool true])∧Z3 w' g m (Ju c k) qs'∧q∈qs'∧Fr (Yl g m qs) w w'∧w'.heap.size=w.heap.size∧∀ i,Yl g m qs' i↔Yl g m qs i
theorem Q5q (w:World) (g m:Nat) (c:Cch) (qs:List CEnt) (k:ByteArray) (h:Z3 w g m c qs) (hk:k.size≤maxLen) (hf:cfind qs k=none) :
  Calls prog 192 #[.pointer (some ⟨g,0,none⟩),.string k] w (Ql6 w g m c qs k):=by
 have b:=h.ring.ends.all;have a:cget qs k=none:=by simp[cget,hf]
 have KM:=zh h.km
 go_enter func192,ntmps192
 go_wp2_with (first|(at_lookup;refine Jn _ rfl _ _ 248 rfl 9 249 underlying9 underlying248 (z:=.pointer none) rfl m qs.length (cget qs) rfl KM.o k rfl hk ?_;rw[a];simp only[Option.getD,Option.isSome])|fail)
 refine bodyPost_ret (results_tmp2 rfl _ _ _) rfl ?_;exact .inl ⟨hf,rfl,rfl⟩
variable {qs:List CEnt}
theorem Q84 (hn:(qs.map (·.key)).Nodup) {x y:CEnt} (hx:x∈qs) (hy:y∈qs) (e:x.key=y.key):x=y:=by
 have:=(inferInstance:Inhabited OutT)
 induction qs with
 | nil=>cases hx
 | cons a qs ih=>
  rw[List.map_cons,List.nodup_cons] at hn;rcases List.mem_cons.1 hx with h1|h1
  ·rcases List.mem_cons.1 hy with h2|h2
   ·rw[h1,h2]
   ·subst h1
    exact absurd (List.mem_map.2 ⟨y,h2,e.symm⟩) hn.1
  ·rcases List.mem_cons.1 hy with h2|h2
   ·subst h2
    exact absurd (List.mem_map.2 ⟨x,h1,e⟩) hn.1
   ·exact ih hn.2 h1 h2
variable {q:CEnt}
theorem Qbt (hn:(qs.map (·.key)).Nodup) {s:ByteArray}:cfind qs s=some q↔q∈qs∧q.key=s:=by
 constructor
 ·intro h
  obtain⟨h1,l,r,rfl,_⟩:=Qdm h;exact⟨by simp,h1⟩
 ·rintro ⟨h1,h2⟩
  cases h:cfind qs s with
  | none=>exact absurd h2 (Qgx h q h1)
  | some x=>
   obtain⟨h3,l,r,h4,_⟩:=Qdm h;rw[Q84 hn (x:=x) (y:=q) (by rw[h4];simp) h1 (h3.trans h2.symm)]
variable {rs:List CEnt}
theorem Quk (hn:(qs.map (·.key)).Nodup) (hm:(rs.map (·.key)).Nodup) (h:∀ x,x∈qs↔x∈rs) (s:ByteArray):cfind qs s=cfind rs s:=by
 cases h1:cfind rs s with
 | none=>
  cases h2:cfind qs s with
  | none=>rfl
  | some x=>exact absurd ((Qbt hn).1 h2).2 (Qgx h1 x ((h x).1 ((Qbt hn).1 h2).1))
 | some x=>exact (Qbt hn).2 ⟨(h x).2 ((Qbt hm).1 h1).1,((Qbt hm).1 h1).2⟩
theorem Qza (hn:(qs.map (·.key)).Nodup) (hm:(rs.map (·.key)).Nodup) (h:∀ x,x∈qs↔x∈rs):cget qs=cget rs:=by
 funext s
 unfold cget;rw[Quk hn hm h]
theorem Z3.got {w':World} {c:Cch} {l r:List CEnt} (h:Z3 w g m c (l++q :: r)) (hr:Ji w' g m c.most ((q :: (l++r)).map CEnt.tri)) (hf:Fr (fun i=>i=g∨i∈((l++q :: r).map CEnt.tri).map (·.1)) w w') :
  Z3 w' g m (Ju c q.key) (q :: (l++r)):=by
 have hp:(l++q :: r).Perm (q :: (l++r)):=List.perm_middle;have hk:((q :: (l++r)).map (·.key)).Nodup:=(List.Perm.nodup_iff (hp.map _)).1 h.keys;have a:∀ x,x∈q :: (l++r)↔x∈l++q :: r:=fun x=>hp.symm.mem_iff
 have hg:Qaf c.items q.key=some q.data:=by rw[h.items,Qgp,(Qbt h.keys).2 ⟨by simp,rfl⟩];rfl
 have b:(q :: (l++r)).length=(l++q :: r).length:=hp.symm.length_eq;have ec:Ju c q.key={ c with items:=(q.key,q.data) :: Qhf c.items q.key }:=by unfold Ju;rw[hg]
 have d:=h.km;rw[←Qza hk h.keys a,←b] at d;have f:=Qk8 h.km h.ring;refine⟨by rw[ec];exact hr,?_,fun x hx=>?_,d.fr hf (by rintro (e|e);exact f.1 e;exact f.2 e),hk,fun x hx=>h.small x ((a x).1 hx),?_,by rw[ec];exact h.most⟩
 ·rw[ec]
  show (q.key,q.data) :: Qhf c.items q.key=_;rw[h.items,Qtb,Qoo rfl h.keys];rfl
 ·exact (h.vals x ((a x).1 hx)).same fun k C fz hk=>hf.block k (Qc hk) (Qgg h.ring k C fz hk)
 ·rw[ec,b];exact h.fits
theorem Q4v (w:World) (g m:Nat) (c:Cch) (l r:List CEnt) (q:CEnt) (h:Z3 w g m c (l++q :: r)) (hk:q.key.size≤maxLen) :
  Calls prog 192 #[.pointer (some ⟨g,0,none⟩),.string q.key] w (Ql6 w g m c (l++q :: r) q.key):=by
 have H:=h.ring.ends.all;have hf:cfind (l++q :: r) q.key=some q:=(Qbt h.keys).2 ⟨by simp,rfl⟩;have E:cget (l++q :: r) q.key=some (.pointer (some ⟨q.b,0,none⟩)):=by simp[cget,hf]
 have hr:Ji w g m c.most (l.map CEnt.tri++(q.b,q.key,q.val) :: r.map CEnt.tri):=by have:=h.ring;rwa [List.map_append,List.map_cons] at this
 have KM:=zh h.km;have t:q.b ∉ (l.map CEnt.tri++r.map CEnt.tri).map (·.1):=by
  have h1:=hr.nd;have h2:((l.map CEnt.tri++(q.b,q.key,q.val) :: r.map CEnt.tri).map (·.1)).Perm (q.b :: (l.map CEnt.tri++r.map CEnt.tri).map (·.1)):=by
   have:=(List.perm_middle (a:=(q.b,q.key,q.val)) (l₁:=l.map CEnt.tri) (l₂:=r.map CEnt.tri)).map (·.1)
   exact this
  exact (List.nodup_cons.1 ((List.Perm.nodup_iff h2).1 h1)).1
 have HR:=zh hr;have x:=zh t;clear t
 go_enter func192,ntmps192
 go_wp2_with (first
  | (at_lookup;refine Jn _ rfl _ _ 248 rfl 9 249 underlying9 underlying248 (z:=.pointer none) rfl m (l++q :: r).length (cget (l++q :: r)) rfl KM.o q.key rfl hk ?_;rw[E];simp only[Option.getD,Option.isSome])
  | (go_at_call 226;refine (Qmq w g m c.most _ _ q.b q.key q.val HR.o _).mono ?_;rintro e w1 ⟨rfl,p,s,j,k⟩;have C:=zh p;have y:=zh s;have D:=zh j;have B:=zh k;clear p s j k)
  | (go_at_call 227;refine (Qgt _ g m c.most _ q.b q.key q.val C.o x.o y.o).mono ?_;rintro e w2 ⟨rfl,d,f,u⟩;have HV:=(d.nodes _ (.head _)).val;have F:=zh d;have G:=zh f;have A:=zh u;clear d f u)
  | fail)
 refine bodyPost_ret (results_tmp2 rfl _ _ _) rfl ?_;have n:∀ i,(i=g∨i∈((l.map CEnt.tri++(q.b,q.key,q.val) :: r.map CEnt.tri)).map (·.1))↔(i=g∨i∈((l++q :: r).map CEnt.tri).map (·.1)):=fun i=>by simp[CEnt.tri]
 have j:Fr (fun i=>i=g∨i∈((l++q :: r).map CEnt.tri).map (·.1)) w w1:=D.o.weak fun i _ hi=>(n i).1 hi
 have f:Fr (fun i=>i=g∨i∈((l++q :: r).map CEnt.tri).map (·.1)) w1 w2:=G.o.weak fun i _ hi=>by
  rw[←n];rcases hi with rfl|rfl|hi
  ·exact .inl rfl
  ·exact .inr (by simp)
  ·refine .inr ?_
   simp only[List.map_append,List.map_cons,List.mem_append,List.mem_cons] at hi ⊢;rcases hi with hi|hi
   ·exact .inl hi
   ·exact .inr (.inr hi)
 have v:=j.trans f;have d:Ji w2 g m c.most ((q :: (l++r)).map CEnt.tri):=by have:=F.o;rwa [List.map_cons,List.map_append]
 refine .inr ⟨q,q :: (l++r),hf,rfl,h.got d v,.head _,v.weak fun i _ hi=>?_,A.o.trans B.o,fun i=>?_⟩
 ·rw[Qcy] at hi
  rcases hi with hi|hi
  ·exact .inl hi
  ·exact .inr (.inr hi)
 ·have hp:((q :: (l++r)).map (·.b)).Perm ((l++q :: r).map (·.b)):=List.perm_middle.symm.map _
  unfold Yl;rw[hp.mem_iff]
theorem Qwk (w:World) (g m:Nat) (c:Cch) (qs:List CEnt) (k:ByteArray) (h:Z3 w g m c qs) (hk:k.size≤maxLen) :
  Calls prog 192 #[.pointer (some ⟨g,0,none⟩),.string k] w (Ql6 w g m c qs k):=by
 cases hf:cfind qs k with
 | none=>exact Q5q w g m c qs k h hk hf
 | some q=>
  obtain⟨rfl,l,r,rfl,_⟩:=Qdm hf;exact Q4v w g m c l r q h hk
end
end
section
section
variable [Inhabited OutT]
theorem Qen (w:World) (o:Obj):(w.alloc o).heap.size=w.heap.size+1:=have:=(inferInstance:Inhabited OutT);Array.size_push _
theorem Q34 (w:World) (i:Int) (hi:i≤9223372036854775807) :
  Calls prog 130 #[.int .i64 i] w (fun e w'=>∃ g m,e=.returned (.pointer (some ⟨g,0,none⟩))∧Z3 w' g m ⟨i.toNat,[]⟩ []∧Below w.heap.size w w'∧w.heap.size≤g∧w.heap.size≤m):=by
 have h:=@run_makeMap prog
 go_enter func130,ntmps130
 go_upto_region 2 with fail
 first|rw[show (if i<0 then 0 else i)=(i.toNat:Int) by split <;> omega]|rw[show max i 0=(i.toNat:Int) by omega]
 obtain⟨W,hW⟩:∃ W,W=(w.alloc (.map #[] 0)).alloc (.cells #[.int .i64 i.toNat,.map (some w.heap.size),.string ⟨#[]⟩,.slice none 0 0,.pointer none,.pointer none] 253):=⟨_,rfl⟩
 rw[←hW];obtain⟨g,hg⟩:∃ g,g=w.heap.size+1:=⟨_,rfl⟩
 rw[←hg];have hb:Below w.heap.size w W:=by rw[hW];exact (Qa w _).trans ((Qa (w.alloc (.map #[] 0)) _).mono (by rw[Qen];exact Nat.le_succ _))
 have a:W.heap[g]?=some (.cells #[.int .i64 i.toNat,.map (some w.heap.size),.string ⟨#[]⟩,.slice none 0 0,.pointer none,.pointer none] 253 (0,0)):=by rw[hW,hg,←Qen w (.map #[] 0)];exact Array.getElem?_push_size
 have b:W.heap[w.heap.size]?=some (.map #[] 0):=by rw[hW];refine (heap_alloc_old _ _ (by rw[Qen];exact Nat.lt_succ_self _)).trans ?_;exact Array.getElem?_push_size
 have c4:W.drew.cell? ⟨g,4,none⟩=some (.pointer none):=Qd a 4 rfl;have c5:W.drew.cell? ⟨g,5,none⟩=some (.pointer none):=Qd a 5 rfl;have f4:W.drew.frozen? ⟨g,4,none⟩=false:=Qs a 4;have f5:W.drew.frozen? ⟨g,5,none⟩=false:=Qs a 5;have k4:(W.setCell ⟨g,5,none⟩ (.pointer (some ⟨g,2,none⟩))).drew.cell? ⟨g,4,none⟩=some (.pointer none):=(World.cell?_setCell_other _ _ _ _ (by simp)).trans c4;have k5:(W.setCell ⟨g,5,none⟩ (.pointer (some ⟨g,2,none⟩))).drew.frozen? ⟨g,4,none⟩=false:=(World.frozen?_setCell _ _ _ _).trans f4;have HW:=zh hW;have HB:=zh hb;have HE:=zh a;have HM:=zh b;have HG:=zh hg;clear hW hb a b hg;go_region;obtain⟨W2,c⟩:∃ W2,W2=((W.setCell ⟨g,5,none⟩ (.pointer (some ⟨g,2,none⟩))).setCell ⟨g,4,none⟩ (.pointer (some ⟨g,2,none⟩))).drew:=⟨_,rfl⟩
 rw[←c];have hT:Two W W2 ⟨g,5,none⟩ (.pointer (some ⟨g,2,none⟩)) ⟨g,4,none⟩ (.pointer (some ⟨g,2,none⟩)):=.inl c;have HT:=zh hT;clear c hT;go_wp2;refine bodyPost_ret (results_tmp rfl _ _ _) rfl ?_;have d:(⟨g,5,none⟩:Addr)≠⟨g,4,none⟩:=by simp
 have f:w.heap.size≠g:=by rw[HG.o];exact Nat.ne_of_lt (Nat.lt_succ_self _)
 have hE:Ends W g w.heap.size i.toNat:=⟨none,none,HE.o⟩
 refine⟨g,w.heap.size,rfl,⟨⟨hE.two HT.o (fun _=>.inr rfl) (fun _=>.inl rfl),fun p hp=>(by cases hp),⟨HT.o.left c5 d,HT.o.right c4 d⟩,List.nodup_nil⟩,rfl,fun q hq=>(by cases hq),?_,List.nodup_nil,fun q hq=>(by cases hq),Nat.zero_le _,?_⟩,?_,by rw[HG.o];exact Nat.le_succ _,Nat.le_refl _⟩
 ·have h1:=(KmAt.made_at W 9 HM.o).fr HT.o.fr (by rintro (e|e) <;> exact f e)
  exact h1
 ·show i.toNat≤maxLen
  have:maxLen=9223372036854775807:=rfl
  omega
 ·refine⟨HT.o.fr.os.trans HB.o.os,HT.o.fr.tape.trans HB.o.tape,HT.o.fr.output.trans HB.o.output,Nat.le_trans HB.o.size HT.o.fr.size,fun k hk=>?_⟩
  refine (HT.o.fr.block k (Nat.lt_of_lt_of_le hk HB.o.size) ?_).trans (HB.o.block k hk);rintro (e|e) <;> (have e:k=g:=e;have:=HG.o;omega)
end
end
section
section
variable [Inhabited OutT]
def Qmx (w:World) (g m:Nat) (c:Cch) (qs:List CEnt) (k:ByteArray) (dat:List UInt8) (e:Ending) (w':World):Prop:=
 e=.returned (.tuple #[])∧∃ qs',Z3 w' g m (Qap c k dat) qs'∧qs'.length≤qs.length+1∧Fr (Yl g m qs) w w'∧∀ i,i<w.heap.size→Yl g m qs' i→Yl g m qs i
theorem Z3.fr {w w':World} {g m:Nat} {c:Cch} {qs:List CEnt} (h:Z3 w g m c qs) {S:Nat→Prop} (hf:Fr S w w') (hs:∀ i,Yl g m qs i→¬ S i) (hn:Qei w S):Z3 w' g m c qs:=by
 have hb:∀ q∈qs,¬ S q.b:=fun q hq=>hs _ (.inr (.inr (List.mem_map_of_mem hq)))
 have hg:¬ S g:=hs _ (.inl rfl);have hE:w'.heap[g]?=w.heap[g]?:=by obtain⟨l,e,h2⟩:=h.ring.ends;exact hf.block g (Qc h2) hg
 have hN:∀ b∈(qs.map CEnt.tri).map (·.1),w'.heap[b]?=w.heap[b]?:=by intro b a;obtain⟨k,v,_,l,e,h2⟩:=h.ring.node a;rw[Qcy] at a;exact hf.block b (Qc h2) (hs _ (.inr (.inr a)))
 refine⟨⟨h.ring.ends.below hE,fun p hp=>(h.ring.nodes p hp).below (hN _ (List.mem_map_of_mem hp)),?_,h.ring.nd⟩,h.items,fun q hq=>?_,h.km.fr hf (hs _ (.inr (.inl rfl))),h.keys,h.small,h.fits,h.most⟩
 ·refine h.ring.chn.agree (fun y hy=>?_) (fun y hy=>?_)
  ·rcases hy with rfl|⟨b,a,rfl⟩
   ·exact World.cell?_of_block (w:=w) hE
   ·exact World.cell?_of_block (w:=w) (hN b a)
  ·rcases hy with rfl|⟨b,a,rfl⟩
   ·exact World.cell?_of_block (w:=w) hE
   ·exact World.cell?_of_block (w:=w) (hN b a)
 ·exact (h.vals q hq).same fun k C fz hk=>hf.block k (Qc hk) (hn k C fz hk)
theorem Q3z (w:World) (g m:Nat) (c:Cch) (qs:List CEnt) (k:ByteArray) (v:Value) (dat:List UInt8) (h:Z3 w g m c qs) (h0:c.most=0) :
  Calls prog 184 #[.pointer (some ⟨g,0,none⟩),.string k,v] w (Qmx w g m c qs k dat):=by
 have hm:=h.ring.ends.most;rw[h0] at hm;have H:=zh h;clear h
 go_enter func184,ntmps184
 go_wp2;refine bodyPost_ret (results_none rfl _ _ _) rfl ⟨rfl,qs,?_,Nat.le_succ _,Fr.refl _ _,fun _ _ hi=>hi⟩;unfold Qap;rw[if_pos h0];exact H.o
variable {w w':World} {g m n:Nat} {ps:List (Nat×ByteArray×Value)} {S:Nat→Prop}
theorem Ji.fr (h:Ji w g m n ps) (hf:Fr S w w') (hg:¬ S g) (hs:∀ b∈ps.map (·.1),¬ S b):Ji w' g m n ps:=by
 have:=(inferInstance:Inhabited OutT)
 have hE:w'.heap[g]?=w.heap[g]?:=by obtain⟨l,e,h2⟩:=h.ends;exact hf.block g (Qc h2) hg
 have hN:∀ b∈ps.map (·.1),w'.heap[b]?=w.heap[b]?:=by intro b a;obtain⟨k,v,_,l,e,h2⟩:=h.node a;exact hf.block b (Qc h2) (hs b a)
 refine⟨h.ends.below hE,fun p hp=>(h.nodes p hp).below (hN _ (List.mem_map_of_mem hp)),h.chn.agree (fun y hy=>?_) (fun y hy=>?_),h.nd⟩
 ·rcases hy with rfl|⟨b,a,rfl⟩
  ·exact World.cell?_of_block (w:=w) hE
  ·exact World.cell?_of_block (w:=w) (hN b a)
 ·rcases hy with rfl|⟨b,a,rfl⟩
  ·exact World.cell?_of_block (w:=w) hE
  ·exact World.cell?_of_block (w:=w) (hN b a)
variable {b:Nat}
theorem Ji.lt (h:Ji w g m n ps) (hb:b∈ps.map (·.1)):b<w.heap.size:=by
 have:=(inferInstance:Inhabited OutT)
 obtain⟨k,v,_,l,e,h2⟩:=h.node hb;exact Qc h2
theorem Qsp (w:World) (k:ByteArray) (v:Value):Node (w.alloc (.cells #[.string k,v,.pointer none,.pointer none] 251)) w.heap.size k v:=have:=(inferInstance:Inhabited OutT);⟨none,none,Array.getElem?_push_size⟩
variable {w1 w2:World} {k:ByteArray} {v:Value}
theorem Qon (h:w2=w1.alloc (.cells #[.string k,v,.pointer none,.pointer none] 251)):Fr (fun _=>False) w1 w2∧Node w2 w1.heap.size k v:=by subst h;exact⟨Fr.ofBelow (Qa _ _),Qsp _ _ _⟩
variable {c:Cch} {qs:List CEnt} {get:ByteArray→Option Value}
theorem Z3.newer {rs:List CEnt} {dat:List UInt8} (h:Z3 w g m c qs) (hsub:∀ x∈rs,x∈qs) (hn:(rs.map (·.key)).Nodup) (hk:∀ x∈rs,x.key≠k) (hks:k.size≤maxLen) (hl:rs.length+1≤c.most)
  (hr:Ji w' g m c.most ((b,k,v) :: rs.map CEnt.tri)) (hv:OwnB w' 0 v dat) (hvs:∀ x∈rs,OwnB w' 0 x.val x.data) (hkm:KmAt w' 9 m get (rs.length+1))
  (hget:∀ u,get u=if u=k then some (.pointer (some ⟨b,0,none⟩)) else cget rs u):Z3 w' g m { c with items:=(k,dat) :: rs.map CEnt.kv } (⟨b,k,v,dat⟩ :: rs):=by
 have he:get=cget (⟨b,k,v,dat⟩ :: rs):=by
  funext u
  rw[hget u];unfold cget cfind;by_cases e:u=k
  ·rw[if_pos e,List.find?_cons_of_pos (by simp[e])];rfl
  ·rw[if_neg e,List.find?_cons_of_neg (by simp;exact fun q=>e q.symm)]
 rw[he] at hkm;refine⟨hr,rfl,fun q hq=>?_,hkm,?_,fun q hq=>?_,hl,h.most⟩
 ·rcases List.mem_cons.1 hq with rfl|hq
  ·exact hv
  ·exact hvs q hq
 ·rw[List.map_cons,List.nodup_cons]
  refine⟨fun hm=>?_,hn⟩;obtain⟨x,hx,e⟩:=List.mem_map.1 hm;exact hk x hx e
 ·rcases List.mem_cons.1 hq with rfl|hq
  ·exact hks
  ·exact h.small q (hsub q hq)
theorem Qfi (h:Z3 w g m c qs):Qei w (Yl g m qs):=by
 intro k C fz hk hs;rcases hs with rfl|rfl|hs
 ·exact Qgg h.ring _ C fz hk (.inl rfl)
 ·obtain⟨D,⟨es,cl,hb,_⟩,_⟩:=h.km.ex
  rw[hk] at hb;cases hb
 ·exact Qgg h.ring _ C fz hk (.inr (by rw[Qcy];exact hs))
theorem Qsg {l r:List CEnt} {q:CEnt} {u:ByteArray} (h:u≠q.key):cget (l++q :: r) u=cget (l++r) u:=by
 have:=(inferInstance:Inhabited OutT)
 unfold cget cfind;rw[List.find?_append,List.find?_append,List.find?_cons_of_neg (by simp;exact fun e=>h e.symm)]
theorem Q3o (w:World) (g m:Nat) (c:Cch) (l r:List CEnt) (q:CEnt) (a:Option Addr) (n cc:Nat) (dat:List UInt8) (h:Z3 w g m c (l++q :: r)) (hv:OwnB w 0 (.slice a n cc) dat) (h0:c.most≠0) (hk:q.key.size≤maxLen) (hlen:(l++q :: r).length<maxLen) :
  Calls prog 184 #[.pointer (some ⟨g,0,none⟩),.string q.key,.slice a n cc] w (Qmx w g m c (l++q :: r) q.key dat):=by
 have hm:=h.ring.ends.most;have aj:=h.ring.ends.all;have hz:((c.most:Int)=0)=False:=by simp[h0]
 have hf:cfind (l++q :: r) q.key=some q:=(Qbt h.keys).2 ⟨by simp,rfl⟩;have R:cget (l++q :: r) q.key=some (.pointer (some ⟨q.b,0,none⟩)):=by simp[cget,hf]
 have hr:Ji w g m c.most (l.map CEnt.tri++(q.b,q.key,q.val) :: r.map CEnt.tri):=by have:=h.ring;rwa [List.map_append,List.map_cons] at this
 have j:=Qk8 h.km h.ring;have I:m≠g:=j.1;have P:∀ b∈(l.map CEnt.tri++r.map CEnt.tri).map (·.1),¬ b=m:=by
  rintro b hb rfl;refine j.2 ?_;simp only[List.map_append,List.map_cons,List.mem_append,List.mem_cons] at hb ⊢;rcases hb with hb|hb
  ·exact .inl hb
  ·exact .inr (.inr hb)
 have al:=h.km.lt;have KM:=zh h.km;have HR:=zh hr;have J:=zh j;have H:=zh h;have HV:=zh hv;clear hr j h hv
 go_enter func184,ntmps184
 go_wp2_with (first
  | (at_lookup;refine Jn _ rfl _ _ 248 rfl 9 249 underlying9 underlying248 (z:=.pointer none) rfl m (l++q :: r).length (cget (l++q :: r)) rfl KM.o q.key rfl hk ?_;rw[R];simp only[Option.getD,Option.isSome])
  | (go_at_call 226;refine (Qmq w g m c.most _ _ q.b q.key q.val HR.o _).mono ?_;rintro e w1 ⟨rfl,D,ac,t,Q⟩;obtain⟨w2,s⟩:∃ w2,w2=w1.alloc (.cells #[.string q.key,.slice a n cc,.pointer none,.pointer none] 251):=⟨_,rfl⟩;obtain⟨d,O⟩:=Qon s;have B:=D.fr d id (fun _ _=>id);have F:=(KM.o.fr t (by rintro (e|e);exact J.o.1 e;exact J.o.2 (by simpa [CEnt.tri] using e))).fr d id;have ad:=B.ends.all;rw[s] at ad;have ag:=zh s;have ae:=zh B;have N:=zh O;have af:=zh F;have aa:=zh t;have f:=zh Q;have ai:=zh d;have V:=zh (fun hb=>Nat.lt_irrefl _ (D.lt hb):w1.heap.size ∉ (l.map CEnt.tri++r.map CEnt.tri).map (·.1));clear D ac t Q s d B O F)
  | (at_mapUpdate;rw[←ag.o];refine Qed _ rfl _ _ _ 248 rfl 9 249 underlying9 underlying248 m _ _ rfl af.o hlen q.key (.pointer (some ⟨w1.heap.size,0,none⟩)) rfl hk rfl ?_;intro w3 G T S;have X:=zh G;have v:=zh T;have am:=zh S;clear G T S)
  | (go_at_call 227;refine (Qgt w3 g m c.most _ w1.heap.size q.key (.slice a n cc) (ae.o.fr v.o (fun e=>I e.symm) P) V.o (N.o.below (v.o.block _ (by obtain⟨_,_,hh⟩:=N.o;exact Qc hh) (by have:=f.o;omega)))).mono ?_;rintro e w4 ⟨rfl,E,L,U⟩;have ah:=zh E;have K:=zh L;have ak:=zh U;clear E L U)
  | fail)
 have Y:∀ i,(i=g∨i∈((l.map CEnt.tri++(q.b,q.key,q.val) :: r.map CEnt.tri)).map (·.1))→Yl g m (l++q :: r) i:=by
  intro i hi;rcases hi with hi|hi
  ·exact .inl hi
  ·exact .inr (.inr (by simpa [CEnt.tri] using hi))
 have W:Fr (Yl g m (l++q :: r)) w w1:=aa.o.weak fun i _ hi=>Y i hi
 have Z:Fr (Yl g m (l++q :: r)) w w2:=W.step ai.o fun _ _ hi=>hi.elim
 have ab:Fr (Yl g m (l++q :: r)) w w3:=Z.step v.o fun _ _ hi=>.inr (.inl hi)
 have hF:Fr (Yl g m (l++q :: r)) w w4:=ab.step K.o fun i hi hs=>by
  rcases hs with e|e|e
  ·exact .inl e
  ·have:=f.o;omega
  ·refine .inr (.inr ?_)
   simp only[List.map_append,List.map_cons,List.mem_append,List.mem_cons,List.map_map] at e ⊢;rcases e with e|e
   ·exact .inl e
   ·exact .inr (.inr e)
 refine bodyPost_end (results_none rfl _ _ _) rfl ⟨rfl,⟨w1.heap.size,q.key,.slice a n cc,dat⟩ :: (l++r),?_,by simp,hF,?_⟩
 ·have hB:∀ (k:Nat) (C:Array Value) (fz:Nat×Nat),w.heap[k]?=some (Obj.cells C 5 fz)→w4.heap[k]?=w.heap[k]?:=fun k C fz hk=>hF.block k (Qc hk) (Qfi H.o k C fz hk)
  have hp:(l++q :: r).Perm (q :: (l++r)):=List.perm_middle;have A:((q :: (l++r)).map (·.key)).Nodup:=(List.Perm.nodup_iff (hp.map _)).1 H.o.keys;rw[List.map_cons,List.nodup_cons] at A;have M:(l++r).length+1=(l++q :: r).length:=by simp;omega
  have y:∀ x∈l++r,x∈l++q :: r:=fun x hx=>hp.mem_iff.2 (.tail _ hx)
  have hg:(Qaf c.items q.key).isSome=true:=by rw[H.o.items,Qgp,hf];rfl
  have ec:Qap c q.key dat={ c with items:=(q.key,dat) :: (l++r).map CEnt.kv }:=by unfold Qap;rw[if_neg h0,if_pos hg,H.o.items,Qtb,Qoo rfl H.o.keys]
  rw[ec];have p:=X.o.fr K.o (by
   rintro (e|e|e)
   ·exact I e
   ·have:=f.o;omega
   ·exact P _ e rfl)
  rw[R] at p;simp only[Option.isSome,if_true] at p;rw[←M] at p;refine H.o.newer y A.2 (fun x hx e=>A.1 (List.mem_map.2 ⟨x,hx,e⟩)) hk (by rw[M];exact H.o.fits) ?_ (HV.o.same hB) (fun x hx=>(H.o.vals x (y x hx)).same hB) p (fun u=>?_)
  ·rw[List.map_append];exact ah.o
  ·by_cases e:u=q.key
   ·rw[if_pos e,if_pos e]
   ·rw[if_neg e,if_neg e,Qsg e]
 ·intro i hi hS
  rcases hS with rfl|rfl|hS
  ·exact .inl rfl
  ·exact .inr (.inl rfl)
  ·rw[List.map_cons,List.mem_cons] at hS
   rcases hS with e|hS
   ·have:=f.o
    have e:i=w1.heap.size:=e;omega
   ·refine .inr (.inr ?_)
    simp only[List.map_append,List.map_cons,List.mem_append,List.mem_cons] at hS ⊢;rcases hS with h|h
    ·exact .inl h
    ·exact .inr (.inr h)
theorem Qu5 (h:w2=(w1.alloc (.cells #[.string k,v,.pointer none,.pointer none] 251)).drew):Fr (fun _=>False) w1 w2∧Node w2 w1.heap.size k v:=by subst h;exact⟨(Fr.ofBelow (Qa _ _)).drew,Qsp _ _ _⟩
theorem KmAt.run_len {k:TypeId} (h:KmAt w k b get n) {t e:TypeId} (ht:prog.underlying t=some (.map k e)) (ty:TypeId):(Builtin.len_ #[t] ty #[.map (some b)]).run prog w=.ok (.int .i64 n) w:=by
 have:=(inferInstance:Inhabited OutT)
 obtain⟨D,a,c,_⟩:=h.ex
 have:=a.len ht ty
 rwa [c] at this
theorem Q3b (w:World) (g m:Nat) (c:Cch) (qs:List CEnt) (k:ByteArray) (a:Option Addr) (n cc:Nat) (dat:List UInt8) (h:Z3 w g m c qs) (hv:OwnB w 0 (.slice a n cc) dat) (hk:k.size≤maxLen) (hlen:qs.length<c.most) (hf:cfind qs k=none) :
  Calls prog 184 #[.pointer (some ⟨g,0,none⟩),.string k,.slice a n cc] w (Qmx w g m c qs k dat):=by
 have hm:=h.ring.ends.most;have N:=h.ring.ends.all;have h0:c.most≠0:=by omega
 have hz:((c.most:Int)=0)=False:=by simp[h0]
 have ab:((qs.length:Int)=(c.most:Int))=False:=by simp;omega
 have G:cget qs k=none:=by simp[cget,hf]
 have f:=Qk8 h.km h.ring;have Z:=h.km.lt;have dm:w.drew.cell? ⟨g,0,none⟩=some (.int .i64 c.most):=hm;have dc:w.drew.cell? ⟨g,1,none⟩=some (.map (some m)):=N;have KM:=zh h.km;have X:=zh f;have HR:=zh h.ring;have H:=zh h;have HV:=zh hv;have dl:=fun ty=>(h.km.same (w':=w.drew) rfl).run_len underlying248 ty
 have ac:((qs.length:Int) == (c.most:Int))=false:=by simp;omega
 obtain⟨w2,j⟩:∃ w2,w2=(w.alloc (.cells #[.string k,.slice a n cc,.pointer none,.pointer none] 251)).drew:=⟨_,rfl⟩
 obtain⟨d,D⟩:=Qu5 j;have q:=h.ring.fr d id (fun _ _=>id);have s:=h.km.fr d id;have F:=q.ends.all;have R:=F;rw[j] at R;have E:∀ b∈(qs.map CEnt.tri).map (·.1),¬ b=m:=by rintro b hb rfl;exact f.2 hb
 have v:=f.1;have J:w.heap.size ∉ (qs.map CEnt.tri).map (·.1):=fun hb=>Nat.lt_irrefl _ (h.ring.lt hb)
 have P:qs.length<maxLen:=Nat.lt_of_lt_of_le hlen h.most;have S:=zh q;have T:=zh s;have B:=zh D;have W:=zh d;have U:=zh j;have M:=zh J;clear f h hv j D d q s F J
 go_enter func184,ntmps184
 go_upto_region 4 with (first
  | (at_lookup;refine Jn _ rfl _ _ 248 rfl 9 249 underlying9 underlying248 (z:=.pointer none) rfl m qs.length (cget qs) rfl KM.o k rfl hk ?_;rw[G];simp only[Option.getD,Option.isSome])
  | fail)
 go_region
 go_wp2_with (first
  | (at_mapUpdate;rw[←U.o];refine Qed _ rfl _ _ _ 248 rfl 9 249 underlying9 underlying248 m _ _ rfl T.o P k (.pointer (some ⟨w.heap.size,0,none⟩)) rfl hk rfl ?_;intro w3 t K I;have O:=zh t;have p:=zh K;have aa:=zh I;clear t K I)
  | (go_at_call 227;refine (Qgt w3 g m c.most _ w.heap.size k (.slice a n cc) (S.o.fr p.o (fun e=>v e.symm) E) M.o (B.o.below (p.o.block _ (by obtain⟨_,_,hh⟩:=B.o;exact Qc hh) (by omega)))).mono ?_;rintro e w4 ⟨rfl,r,A,L⟩;have V:=zh r;have y:=zh A;have Y:=zh L;clear r A L)
  | fail)
 have d:Fr (Yl g m qs) w w2:=W.o.weak fun _ _ hi=>hi.elim
 have Q:Fr (Yl g m qs) w w3:=d.step p.o fun _ _ hi=>.inr (.inl hi)
 have hF:Fr (Yl g m qs) w w4:=Q.step y.o fun i hi hs=>by
  rcases hs with e|e|e
  ·exact .inl e
  ·omega
  ·exact .inr (.inr (by rw[Qcy] at e;exact e))
 have hB:∀ (k:Nat) (C:Array Value) (fz:Nat×Nat),w.heap[k]?=some (Obj.cells C 5 fz)→w4.heap[k]?=w.heap[k]?:=fun k C fz hk=>hF.block k (Qc hk) (Qfi H.o k C fz hk)
 refine bodyPost_end (results_none rfl _ _ _) rfl ⟨rfl,⟨w.heap.size,k,.slice a n cc,dat⟩ :: qs,?_,by simp,hF,?_⟩
 ·have hg:¬ (Qaf c.items k).isSome=true:=by rw[H.o.items,Qgp,hf];simp
  have hl:¬ c.items.length=c.most:=by rw[H.o.items,List.length_map];omega
  have ec:Qap c k dat={ c with items:=(k,dat) :: qs.map CEnt.kv }:=by unfold Qap;rw[if_neg h0,if_neg hg,if_neg hl,H.o.items]
  rw[ec];have l:=O.o.fr y.o (by
   rintro (e|e|e)
   ·exact v e
   ·omega
   ·exact E _ e rfl)
  rw[G] at l;simp only[Option.isSome] at l;exact H.o.newer (fun _ hx=>hx) H.o.keys (Qgx hf) hk hlen V.o (HV.o.same hB) (fun x hx=>(H.o.vals x hx).same hB) l (fun u=>rfl)
 ·intro i hi hS
  rcases hS with rfl|rfl|hS
  ·exact .inl rfl
  ·exact .inr (.inl rfl)
  ·rw[List.map_cons,List.mem_cons] at hS
   rcases hS with e|hS
   ·have e:i=w.heap.size:=e
    omega
   ·exact .inr (.inr hS)
end
end
section
section
variable [Inhabited OutT]
structure FEnt where
 key:ByteArray
 val:Value
 data:List UInt8
def FEnt.kv (x:FEnt):Kv:=(x.key,x.data)
def ffind (vs:List FEnt) (p:ByteArray):Option FEnt:=vs.find? fun x=>decide (x.key=p)
def fget (vs:List FEnt) (p:ByteArray):Option Value:=(ffind vs p).map (·.val)
theorem Qxe (vs:List FEnt) (p:ByteArray):Qaf (vs.map FEnt.kv) p=(ffind vs p).map (·.data):=by
 have:=(inferInstance:Inhabited OutT)
 unfold Qaf ffind;rw[List.find?_map];simp only[Option.map_map];rfl
variable {vs:List FEnt} {p:ByteArray}
theorem Qsh {x:FEnt} (h:ffind vs p=some x):x∈vs∧x.key=p:=by
 have:=(inferInstance:Inhabited OutT)
 unfold ffind at h;exact⟨List.mem_of_find?_eq_some h,by have:=List.find?_some h;simpa using this⟩
theorem Qpi (h:ffind vs p=none):∀ x∈vs,x.key≠p:=have:=(inferInstance:Inhabited OutT);fun x hx=>by
 unfold ffind at h
 have:=List.find?_eq_none.1 h x hx
 simpa using this
theorem Qxo (vs:List FEnt) (x:FEnt) (p:ByteArray):ffind (vs ++ [x]) p=(ffind vs p).or (if x.key=p then some x else none):=by
 have:=(inferInstance:Inhabited OutT)
 unfold ffind;rw[List.find?_append,List.find?_cons];by_cases h:x.key=p
 ·simp[h]
 ·simp[h]
structure Qf where
 gq:Nat
 gc:Nat
 gk:Nat
 mc:Nat
 gn:Nat
 gd:Nat
 mq:Nat
 vl:Value
 vt:Value
 v:Value
 C:Array Value
structure Qv where
 vo:Value
 qs:List CEnt
 vs:List FEnt
def Qty (q:Qf) (N:Nat) (vo:Value):Array Value:=#[.pointer (some ⟨q.gc,0,none⟩),.int .i64 N,.map (some q.mq),vo]
structure QIs (w:World) (q:Qf) (x:Qv) (N:Nat) (s:Cs) (d:Dk):Prop where
 look:w.heap[q.gq]?=some (.cells (Qty q N x.vo) 263 (0,0))
 km:KmAt w 9 q.mq (fget x.vs) x.vs.length
 ord:Q0 w 0 x.vo (x.vs.map (·.key))
 vals:∀ y∈x.vs,OwnB w 0 y.val y.data
 keys:(x.vs.map (·.key)).Nodup
 small:∀ y∈x.vs,y.key.size≤maxLen
 files:s.files=x.vs.map FEnt.kv
 cli:w.heap[q.gc]?=some (.cells q.C 205 (0,0))
 c2:q.C[2]?=some (.iface 48 (.pointer (some ⟨q.gn,0,none⟩)))
 c13:q.C[13]?=some (.pointer (some ⟨q.gk,0,none⟩))
 cache:Z3 w q.gk q.mc s.cache x.qs
 net:Y1 w q.gn q.gd q.vl q.vt s.net
 disk:Q1 w q.gd q.v d
 dfiles:d.files=s.net.files
 maps:q.mq≠q.mc
 o:∀ z,Out.blk=some z→z<w.heap.size
def Q2r (q:Qf) (x:Qv) (k:Nat):Prop:=k=q.gq∨k=q.mq∨x.vo.ownBlock=some k
def QS (q:Qf) (x:Qv) (k:Nat):Prop:=Q2r q x k∨Yl q.gk q.mc x.qs k∨netS q.gn q.vt k
variable {w:World} {m:Nat}
theorem Qg8 {k:TypeId} {n:Nat} {get:ByteArray→Option Value} (h:KmAt w k m get n):∃ es c,w.heap[m]?=some (.map es c):=by
 have:=(inferInstance:Inhabited OutT)
 obtain⟨D,⟨es,c,hb,_⟩,_⟩:=h.ex;exact⟨es,c,hb⟩
theorem Qbl {w:World} {g m:Nat} {c:Cch} {qs:List CEnt} (h:Z3 w g m c qs):Qa0 w (Yl g m qs) [253,251]:=fun k C t f hk hc=>by
 rcases hk with rfl|rfl|hk
 ·obtain⟨l,e,h2⟩:=h.ring.ends
  rw[h2] at hc
  cases hc
  exact List.mem_cons_self
 ·obtain⟨es,c,hb⟩:=Qg8 h.km
  rw[hb] at hc
  cases hc
 ·obtain⟨k',v,_,l,e,h2⟩:=h.ring.node (by rw[Qcy];exact hk)
  rw[h2] at hc
  cases hc
  exact List.mem_cons_of_mem _ List.mem_cons_self
variable {g gd:Nat} {vl vt:Value} {n:Nt}
theorem Qdu (h:Y1 w g gd vl vt n):Qa0 w (netS g vt) [126,3]:=have:=(inferInstance:Inhabited OutT);fun k C t f hk hc=>by
 rcases hk with hk|hk
 ·have:=Q5 h.cells k C t f hk hc
  simp at this ⊢
  exact .inl this
 ·have:=Qd4 h.told k C t f hk hc
  simp at this ⊢
  exact .inr this
variable {q:Qf} {x:Qv} {N:Nat} {s:Cs} {d:Dk}
theorem QIs.kindsLook (h:QIs w q x N s d):Qa0 w (Q2r q x) [263,9]:=fun k C t f hk hc=>by
 rcases hk with hk|rfl|hk
 ·have:=Q5 h.look k C t f hk hc
  simp at this ⊢
  exact .inl this
 ·obtain⟨es,c,hb⟩:=Qg8 h.km
  rw[hb] at hc
  cases hc
 ·have:=Qd4 h.ord k C t f hk hc
  simp at this ⊢
  exact .inr this
variable {w':World} {S:Nat→Prop} {ts:List TypeId} {base:Nat} {v:Value} {l:List UInt8}
theorem Qpf (h:Qy w base v l) (hf:Fr S w w') (hS:Qa0 w S ts) (h1:5 ∉ ts):Qy w' base v l:=have:=(inferInstance:Inhabited OutT);h.same fun k C fz hk=>hf.block k (Qc hk) (Yk hS hk h1)
theorem Qdr (h:OwnB w base v l) (hf:Fr S w w') (hS:Qa0 w S ts) (h1:5 ∉ ts):OwnB w' base v l:=⟨Qpf h.1 hf hS h1,h.2⟩
theorem J1 (h:Y1 w g gd vl vt n) (hf:Fr S w w') (hS:Qa0 w S ts) (h1:126 ∉ ts) (h2:47 ∉ ts) (h3:3 ∉ ts):Y1 w' g gd vl vt n:=have:=(inferInstance:Inhabited OutT);⟨Zl h.cells hf hS h1,Zk h.lies hf hS h2,Zk h.told hf hS h3,h.len,h.le⟩
variable {c:Cch} {qs:List CEnt}
theorem Qer (h:Z3 w g m c qs) (hf:Fr S w w') (hS:Qa0 w S ts) (hm:¬ S m) (h1:253 ∉ ts) (h2:251 ∉ ts) (h3:5 ∉ ts):Z3 w' g m c qs:=
 h.fr hf (fun i hi=>by
  rcases hi with rfl|rfl|hi
  ·obtain⟨l,e,h4⟩:=h.ring.ends
   exact Yk hS h4 h1
  ·exact hm
  ·obtain⟨k',v,_,l,e,h4⟩:=h.ring.node (by rw[Qcy];exact hi)
   exact Yk hS h4 h2) fun k C fz hk=>Yk hS hk h3
theorem QIs.mapOut (h:QIs w q x N s d):(¬ Yl q.gk q.mc x.qs q.mq∧¬ netS q.gn q.vt q.mq)∧¬ Q2r q x q.mc:=by
 obtain⟨es,c,hb⟩:=Qg8 h.km;obtain⟨b,c2,a⟩:=Qg8 h.cache.km;refine⟨⟨fun hs=>?_,fun hs=>?_⟩,fun hs=>?_⟩
 ·rcases hs with e|e|e
  ·obtain⟨l,r,h2⟩:=h.cache.ring.ends
   rw[e,h2] at hb;cases hb
  ·exact h.maps e
  ·obtain⟨k',v,_,l,r,h2⟩:=h.cache.ring.node (by rw[Qcy];exact e)
   rw[h2] at hb;cases hb
 ·rcases hs with e|e
  ·rw[e,h.net.cells] at hb;cases hb
  ·obtain⟨C,hC⟩:=Qe h.net.told e
   rw[hC] at hb;cases hb
 ·rcases hs with e|e|e
  ·rw[e,h.look] at a;cases a
  ·exact h.maps e.symm
  ·obtain⟨C,hC⟩:=Qe h.ord e
   rw[hC] at a;cases a
theorem QIs.below {w w':World} {q:Qf} {x:Qv} {N:Nat} {s:Cs} {d:Dk} (h:QIs w q x N s d) (hb:Below w.heap.size w w'):QIs w' q x N s d where
 look:=(hb.block _ (Qc h.look)).trans h.look
 km:=h.km.below hb h.km.lt
 ord:=Ql h.ord hb
 vals y hy:=(h.vals y hy).same fun k C fz hk=>hb.block k (Qc hk)
 keys:=h.keys
 small:=h.small
 files:=h.files
 cli:=(hb.block _ (Qc h.cli)).trans h.cli
 c2:=h.c2
 c13:=h.c13
 cache:=h.cache.fr (S:=fun _=>False) (Fr.ofBelow hb) (fun _ _=>id) (fun _ _ _ _=>id)
 net:=h.net.below hb
 disk:=h.disk.below hb
 dfiles:=h.dfiles
 maps:=h.maps
 o z hz:=Nat.lt_of_lt_of_le (h.o z hz) hb.size
theorem QIs.cacheStep (h:QIs w q x N s d) {c':Cch} {qs':List CEnt} (hc:Z3 w' q.gk q.mc c' qs') (hf:Fr (Yl q.gk q.mc x.qs) w w'):QIs w' q { x with qs:=qs' } N { s with cache:=c' } d:=
 have hk:=Qbl h.cache
 {
  look:=Zl h.look hf hk (by decide)
  km:=h.km.fr hf h.mapOut.1.1
  ord:=Zk h.ord hf hk (by decide)
  vals:=fun y hy=>Qdr (h.vals y hy) hf hk (by decide)
  keys:=h.keys
  small:=h.small
  files:=h.files
  cli:=Zl h.cli hf hk (by decide)
  c2:=h.c2
  c13:=h.c13
  cache:=hc
  net:=J1 h.net hf hk (by decide) (by decide) (by decide)
  disk:=h.disk.kept hf hk (by decide) (by decide)
  dfiles:=h.dfiles
  maps:=h.maps
  o:=fun z hz=>Nat.lt_of_lt_of_le (h.o z hz) hf.size }
theorem QIs.netStep (h:QIs w q x N s d) {n':Nt} (hn:Y1 w' q.gn q.gd q.vl q.vt n') (hf:Fr (netS q.gn q.vt) w w') (hd:n'.files=s.net.files):QIs w' q x N { s with net:=n' } d:=
 have hk:=Qdu h.net
 have hm:¬ netS q.gn q.vt q.mc:=by
  obtain⟨b,c2,a⟩:=Qg8 h.cache.km
  rintro (e|e)
  ·rw[e,h.net.cells] at a;cases a
  ·obtain⟨C,hC⟩:=Qe h.net.told e
   rw[hC] at a;cases a
 {
  look:=Zl h.look hf hk (by decide)
  km:=h.km.fr hf h.mapOut.1.2
  ord:=Zk h.ord hf hk (by decide)
  vals:=fun y hy=>Qdr (h.vals y hy) hf hk (by decide)
  keys:=h.keys
  small:=h.small
  files:=h.files
  cli:=Zl h.cli hf hk (by decide)
  c2:=h.c2
  c13:=h.c13
  cache:=Qer h.cache hf hk hm (by decide) (by decide) (by decide)
  net:=hn
  disk:=h.disk.kept hf hk (by decide) (by decide)
  dfiles:=h.dfiles.trans hd.symm
  maps:=h.maps
  o:=fun z hz=>Nat.lt_of_lt_of_le (h.o z hz) hf.size }
theorem QIs.lookStep (h:QIs w q x N s d) (hf:Fr (Q2r q x) w w') {vo':Value} {y:FEnt} (hl:w'.heap[q.gq]?=some (.cells (Qty q N vo') 263 (0,0)))
  (hk:KmAt w' 9 q.mq (fun u=>if u=y.key then some y.val else fget x.vs u) (x.vs.length+1)) (ho:Q0 w' 0 vo' (x.vs.map (·.key) ++ [y.key])) (hv:OwnB w' 0 y.val y.data) (hn:ffind x.vs y.key=none) (hs:y.key.size≤maxLen) :
  QIs w' q { x with vo:=vo',vs:=x.vs ++ [y] } N (Qg5 y.key y.data s) d:=
 have hK:=h.kindsLook
 {
  look:=hl
  km:=by
   have e:fget (x.vs ++ [y])=fun u=>if u=y.key then some y.val else fget x.vs u:=by
    funext u
    unfold fget
    rw[Qxo]
    by_cases hu:u=y.key
    ·subst hu
     rw[hn,if_pos rfl,if_pos rfl]
     rfl
    ·rw[if_neg hu,if_neg (fun e=>hu e.symm),Option.or_none]
   rw[List.length_append,List.length_singleton,e]
   exact hk
  ord:=by rw[List.map_append];exact ho
  vals:=fun z hz=>by
   rcases List.mem_append.1 hz with hz|hz
   ·exact Qdr (h.vals z hz) hf hK (by decide)
   ·rw[List.mem_singleton.1 hz];exact hv
  keys:=by
   rw[List.map_append,List.nodup_append]
   refine⟨h.keys,by simp,fun a ha b hb e=>?_⟩
   simp at hb
   obtain⟨z,hz,rfl⟩:=List.mem_map.1 ha
   exact Qpi hn z hz (e.trans hb)
  small:=fun z hz=>by
   rcases List.mem_append.1 hz with hz|hz
   ·exact h.small z hz
   ·rw[List.mem_singleton.1 hz];exact hs
  files:=by
   show s.files ++ [(y.key,y.data)]=_
   rw[h.files,List.map_append]
   rfl
  cli:=Zl h.cli hf hK (by decide)
  c2:=h.c2
  c13:=h.c13
  cache:=Qer h.cache hf hK h.mapOut.2 (by decide) (by decide) (by decide)
  net:=J1 h.net hf hK (by decide) (by decide) (by decide)
  disk:=h.disk.kept hf hK (by decide) (by decide)
  dfiles:=h.dfiles
  maps:=h.maps
  o:=fun z hz=>Nat.lt_of_lt_of_le (h.o z hz) hf.size }
def Y7 (w:World) (q:Qf) (x:Qv) (N:Nat) (d:Dk) (w':World) (s':Cs):Prop:=∃ x',QIs w' q x' N s' d∧Fr (QS q x) w w'∧Sub w (QS q x) (QS q x')
variable {a b:World}
theorem Y7.trans {c:World} {y:Qv} (hf:Fr (QS q x) a b) (hs:Sub a (QS q x) (QS q y)) (h:Y7 b q y N d c s):Y7 a q x N d c s:=by obtain⟨z,h1,h2,h3⟩:=h;exact⟨z,h1,hf.sub h2 hs,hs.trans h3 hf.size⟩
theorem Y7.below {c:World} (h:Y7 a q x N d b s) (hb:Below b.heap.size b c):Y7 a q x N d c s:=by obtain⟨z,h1,h2,h3⟩:=h;exact⟨z,h1.below hb,h2.trans (Fr.ofBelow hb),h3⟩
theorem Y7.here (h:QIs w q x N s d):Y7 w q x N d w s:=⟨x,h,Fr.refl _ _,Sub.refl _ _⟩
theorem QIs.heads (h:QIs w q x N s d):w.cell? ⟨q.gq,0,none⟩=some (.pointer (some ⟨q.gc,0,none⟩))∧w.cell? ⟨q.gq,1,none⟩=some (.int .i64 N)∧w.cell? ⟨q.gq,2,none⟩=some (.map (some q.mq))∧w.cell? ⟨q.gq,3,none⟩=some x.vo∧
  w.cell? ⟨q.gc,2,none⟩=some (.iface 48 (.pointer (some ⟨q.gn,0,none⟩)))∧w.cell? ⟨q.gc,13,none⟩=some (.pointer (some ⟨q.gk,0,none⟩))∧w.frozen? ⟨q.gq,3,none⟩=false:=
 ⟨Qd h.look 0 rfl,Qd h.look 1 rfl,Qd h.look 2 rfl,Qd h.look 3 rfl,Qd h.cli 2 h.c2,Qd h.cli 13 h.c13,Qs h.look 3⟩
end
end
section
section
variable [Inhabited OutT]
theorem Qvq {w1 w2:World} {k:ByteArray} {v:Value} (h:w2=w1.alloc (.cells #[.string k,v,.pointer none,.pointer none] 251)):Fr (fun _=>False) w1 w2∧Node w2 w1.heap.size k v:=Qon h
theorem Q18 (w:World) (g m:Nat) (c:Cch) (l:List CEnt) (q:CEnt) (k:ByteArray) (a:Option Addr) (n cc:Nat) (dat:List UInt8) (h:Z3 w g m c (l ++ [q])) (hv:OwnB w 0 (.slice a n cc) dat) (hk:k.size≤maxLen) (hlen:(l ++ [q]).length=c.most) (hf:cfind (l ++ [q]) k=none) :
  Calls prog 184 #[.pointer (some ⟨g,0,none⟩),.string k,.slice a n cc] w (Qmx w g m c (l ++ [q]) k dat):=by
 obtain⟨ln,D⟩:∃ ln,ln=(l ++ [q]).length:=⟨_,rfl⟩
 have hm:=h.ring.ends.most;have Y:=h.ring.ends.all;have bn:ln=l.length+1:=by rw[D];simp
 have h0:c.most≠0:=by omega
 have hz:((c.most:Int)=0)=False:=by simp[h0]
 have ay:((ln:Int) == (c.most:Int))=true:=by rw[beq_iff_eq];omega
 have an:cget (l ++ [q]) k=none:=by simp[cget,hf]
 have s:=Qk8 h.km h.ring;have bg:=h.km.lt;have hr:Ji w g m c.most (l.map CEnt.tri++(q.b,q.key,q.val) :: []):=by have:=h.ring;rwa [List.map_append,List.map_cons] at this
 have A:w.cell? ⟨g,4,none⟩=some (.pointer (some ⟨q.b,0,none⟩)):=by have h1:=hr.chn.last.l;rw[List.map_append] at h1;have e:lst none (l.map CEnt.tri |>.map (·.1) |>.append [q.b])=some q.b:=Qzp none _ q.b;have e2:lst none ((l.map CEnt.tri).map (·.1)++((q.b,q.key,q.val) :: []).map (·.1))=some q.b:=e;rw[e2] at h1;exact h1
 have dm:w.drew.cell? ⟨g,0,none⟩=some (.int .i64 c.most):=hm;have dc:w.drew.cell? ⟨g,1,none⟩=some (.map (some m)):=Y;have dl:=fun ty=>(h.km.same (w':=w.drew) rfl).run_len underlying248 ty
 rw[←D] at dl;have B:m≠g:=s.1;have bd:q.key.size≤maxLen:=h.small q (by simp);have bp:q.b∈(l.map CEnt.tri++(q.b,q.key,q.val) :: []).map (·.1):=by simp
 have F:∀ b∈(l.map CEnt.tri).map (·.1),¬ b=m:=by rintro b hb rfl;refine s.2 ?_;rw[List.map_append,List.map_append];exact List.mem_append_left _ hb
 have bo:ln≤maxLen:=by have:=h.most;omega
 have KM:=zh h.km;have HR:=zh hr;have Q:=zh s;have H:=zh h;have HV:=zh hv;have bi:=zh D;clear hr s h hv
 go_enter func184,ntmps184
 go_upto_region 4 with (first
  | (at_lookup;refine Jn _ rfl _ _ 248 rfl 9 249 underlying9 underlying248 (z:=.pointer none) rfl m _ (cget (l ++ [q])) rfl KM.o k rfl hk ?_;rw[an];simp only[Option.getD,Option.isSome])
  | fail)
 go_region;have I:w.drew.cell? ⟨g,4,none⟩=some (.pointer (some ⟨q.b,0,none⟩)):=A;have U:Ji w.drew g m c.most (l.map CEnt.tri++(q.b,q.key,q.val) :: []):=HR.o.fr (S:=fun _=>False) (Fr.ofBelow (Qn w)) id (fun _ _=>id);have bj:=zh U;clear U
 go_upto_region 7 with (first
  | (go_at_call 226;refine (Qmq w.drew g m c.most _ _ q.b q.key q.val bj.o _).mono ?_;rintro e w1 ⟨rfl,ag,ad,al,ak⟩;have R:=zh ag;have av:=zh ad;have am:=zh al;have aj:=zh ak;clear ag ad al ak)
  | fail)
 have a1:=R.o.ends.all;have a2:=av.o.key;have ae:KmAt w1 9 m (cget (l ++ [q])) ln:=by
  have:=(KM.o.same (w':=w.drew) rfl).fr am.o (by
   rintro (e|e)
   ·exact Q.o.1 e
   ·exact Q.o.2 (by rw[List.map_append,List.map_cons];exact e))
  rw[←bi.o] at this;exact this
 have ba:=zh ae;clear ae dm dc dl A I ay hm Y
 go_still_tail 8,(by kernel_rfl)
 change wpList _ _ _ _ _ w1.drew
 refine Qse _ rfl _ _ 248 9 rfl 249 underlying9 underlying248 m ln (cget (l ++ [q])) rfl (ba.o.same (w':=w1.drew) rfl) q.key rfl bd ?_;intro w2 G M af;have P:(cget (l ++ [q]) q.key).isSome=true:=by
  have:cfind (l ++ [q]) q.key=some q:=(Qbt H.o.keys).2 ⟨by simp,rfl⟩
  unfold cget;rw[this];rfl
 rw[if_pos P] at G;obtain⟨w3,y⟩:∃ w3,w3=w2.alloc (.cells #[.string k,.slice a n cc,.pointer none,.pointer none] 251):=⟨_,rfl⟩
 obtain⟨t,ao⟩:=Qvq y;have j:Fr (·=m) w1 w2:=(Fr.ofBelow (Qn w1)).trans M;have p:Ji w1 g m c.most (l.map CEnt.tri):=by have:=R.o;rwa [List.append_nil] at this
 have J:=p.fr j (fun e=>B e.symm) F;have L:=J.fr t id (fun _ _=>id);have ai:=G.fr t id;have N:=L.ends.all;have K:=N;have a5:=J.ends.all;rw[y] at K;have d:w2.heap.size=w.heap.size:=af.trans aj.o;have X:w2.heap.size ∉ (l.map CEnt.tri).map (·.1):=fun hb=>by
  have:=p.lt hb
  rw[aj.o] at this;rw[d] at this;exact Nat.lt_irrefl _ this
 have ac:(if k=q.key then none else cget (l ++ [q]) k)=none:=by
  split
  ·rfl
  ·exact an
 have bh:=zh L;have a4:=zh ai;have W:=zh ao;have az:=zh t;have a3:=zh y;have a0:=zh X;have au:=zh j;have be:=zh ac;have ar:ln-1<maxLen:=by omega
 have bl:m<w2.heap.size:=by rw[d];exact bg
 have bk:g<w2.heap.size:=Qk a5;have aq:=zh d;clear P G M af t ao j p J L ai N X ac y K a2 d a1
 go_wp2_with (first
  | (at_mapUpdate;rw[←a3.o];refine Qed _ rfl _ _ _ 248 rfl 9 249 underlying9 underlying248 m _ _ rfl a4.o ar k (.pointer (some ⟨w2.heap.size,0,none⟩)) rfl hk rfl ?_;intro w4 V ab ah;have bf:=zh V;have E:=zh ab;have bm:=zh ah;clear V ab ah)
  | (go_at_call 227;refine (Qgt w4 g m c.most _ w2.heap.size k (.slice a n cc) (bh.o.fr E.o (fun e=>B e.symm) F) a0.o (W.o.below (E.o.block _ (by obtain⟨_,_,hh⟩:=W.o;exact Qc hh) (by omega)))).mono ?_;rintro e w5 ⟨rfl,Z,T,O⟩;have bc:=zh Z;have aa:=zh T;have bq:=zh O;clear Z T O)
  | fail)
 have d:=aq.o;have a6:∀ i,(i=g∨i∈((l.map CEnt.tri++(q.b,q.key,q.val) :: [])).map (·.1))→Yl g m (l ++ [q]) i:=by
  intro i hi;rcases hi with hi|hi
  ·exact .inl hi
  ·exact .inr (.inr (by simpa [CEnt.tri] using hi))
 have aw:Fr (Yl g m (l ++ [q])) w w1:=((Fr.ofBelow (Qn w)).trans am.o).weak fun i _ hi=>a6 i hi
 have bb:Fr (Yl g m (l ++ [q])) w w2:=aw.step au.o fun _ _ hi=>.inr (.inl hi)
 have a8:Fr (Yl g m (l ++ [q])) w w3:=bb.step az.o fun _ _ hi=>hi.elim
 have ax:Fr (Yl g m (l ++ [q])) w w4:=a8.step E.o fun _ _ hi=>.inr (.inl hi)
 have ap:∀ i,i∈(l.map CEnt.tri).map (·.1)→i∈(l ++ [q]).map (·.b):=fun i hi=>by rw[Qcy] at hi;rw[List.map_append];exact List.mem_append_left _ hi
 have hF:Fr (Yl g m (l ++ [q])) w w5:=ax.step aa.o fun i hi hs=>by
  rcases hs with e|e|e
  ·exact .inl e
  ·omega
  ·exact .inr (.inr (ap i e))
 have hB:∀ (k:Nat) (C:Array Value) (fz:Nat×Nat),w.heap[k]?=some (Obj.cells C 5 fz)→w5.heap[k]?=w.heap[k]?:=fun k C fz hk=>hF.block k (Qc hk) (Qfi H.o k C fz hk)
 refine bodyPost_end (results_none rfl _ _ _) rfl ⟨rfl,⟨w2.heap.size,k,.slice a n cc,dat⟩ :: l,?_,by simp,hF,?_⟩
 ·have hg:¬ (Qaf c.items k).isSome=true:=by rw[H.o.items,Qgp,hf];simp
  have hl:c.items.length=c.most:=by rw[H.o.items,List.length_map];exact hlen
  have ec:Qap c k dat={ c with items:=(k,dat) :: l.map CEnt.kv }:=by unfold Qap;rw[if_neg h0,if_neg hg,if_pos hl,H.o.items,List.map_append];simp
  rw[ec];have v:=bf.o.fr aa.o (by
   rintro (e|e|e)
   ·exact B e
   ·omega
   ·exact F _ e rfl)
  rw[be.o] at v;simp only[Option.isSome] at v;have f:=H.o.keys;rw[List.map_append,List.nodup_append] at f;have a9:∀ x∈l,x.key≠q.key:=fun x hx=>f.2.2 x.key (List.mem_map_of_mem hx) q.key (by simp)
  have a7:l.length+1≤c.most:=by omega
  rw[show ln-1=l.length by omega] at v;refine H.o.newer (fun x hx=>List.mem_append_left _ hx) f.1 (fun x hx=>Qgx hf x (List.mem_append_left _ hx)) hk a7 bc.o (HV.o.same hB) (fun x hx=>(H.o.vals x (List.mem_append_left _ hx)).same hB) v (fun u=>?_);by_cases e:u=k
  ·rw[if_pos e,if_pos e]
  ·rw[if_neg e,if_neg e]
   by_cases e2:u=q.key
   ·rw[if_pos e2]
    have:cfind l u=none:=by unfold cfind;rw[List.find?_eq_none];intro x hx;simp;rw[e2];exact a9 x hx
    unfold cget;rw[this];rfl
   ·rw[if_neg e2]
    have:=Qsg (l:=l) (r:=[]) e2
    rw[List.append_nil] at this;exact this
 ·intro i hi hS
  rcases hS with rfl|rfl|hS
  ·exact .inl rfl
  ·exact .inr (.inl rfl)
  ·rw[List.map_cons,List.mem_cons] at hS
   rcases hS with e|hS
   ·have e:i=w2.heap.size:=e
    omega
   ·exact .inr (.inr (by rw[List.map_append];exact List.mem_append_left _ hS))
theorem Q5n (w:World) (g m:Nat) (c:Cch) (qs:List CEnt) (k:ByteArray) (a:Option Addr) (n cc:Nat) (dat:List UInt8) (h:Z3 w g m c qs) (hv:OwnB w 0 (.slice a n cc) dat) (hk:k.size≤maxLen) (hlen:qs.length<maxLen) :
  Calls prog 184 #[.pointer (some ⟨g,0,none⟩),.string k,.slice a n cc] w (Qmx w g m c qs k dat):=by
 by_cases h0:c.most=0
 ·exact Q3z w g m c qs k _ dat h h0
 ·cases hf:cfind qs k with
  | some q=>
   obtain⟨rfl,l,r,rfl,_⟩:=Qdm hf;exact Q3o w g m c l r q a n cc dat h hv h0 hk hlen
  | none=>
   rcases Nat.lt_or_ge qs.length c.most with f|b
   ·exact Q3b w g m c qs k a n cc dat h hv hk f hf
   ·have he:qs.length=c.most:=Nat.le_antisymm h.fits b
    have d:qs≠[]:=fun e=>by rw[e] at he;exact h0 he.symm
    rw[←List.dropLast_concat_getLast d] at h hf he ⊢;exact Q18 w g m c _ _ k a n cc dat h hv hk he hf
end
end
section
open Go.RowKit Go.Maps Go.ChangeMaps Go.WideMaps
section
theorem Qg9:∀ (xs:List Kv) (c:Cch) (x:Kv),Je c (xs ++ [x])=Qap (Je c xs) x.1 x.2
 | [],_,_=>rfl
 | _ :: ys,c,x=>Qg9 ys _ x
variable [Inhabited OutT]
variable {w:World}
theorem KmAt.run_look {k:TypeId} {b n:Nat} {get:ByteArray→Option Value} (h:KmAt w k b get n) (hk:prog.underlying k=some .string) {t e:TypeId} (ht:prog.underlying t=some (.map k e)) {z:Value} (hz:(zeroValue e).run prog w=.ok z w) (s:ByteArray) (hs:s.size≤maxLen) {v:Value} (hv:get s=some v) :
  (Instr.lookup t (.map (some b)) (.string s) false).run prog w=.ok v w:=by
 have:=(inferInstance:Inhabited OutT)
 obtain⟨D,a,hn,hh,ha⟩:=h.ex;obtain⟨v',ps,h1,h2⟩:=a.lookup (string_keyed hk) ht hz (zd:=.held z) (zp:=[]) rfl (keyOf_string_mk hk hs);have e1:DataW.held v'=D.atKey (klit s) (.held z):=by
  have:=congrArg (Option.map Prod.fst) h2
  simp only[Qmn,Option.map_some] at this;exact Option.some.inj this
 rw[ha s v _ hv] at e1;cases e1;exact h1
variable {j:Nat} {y:FEnt}
theorem Q8p {vs:List FEnt} (hk:(vs.map (·.key)).Nodup) (hj:vs[j]?=some y):fget vs y.key=some y.val:=by
 obtain⟨a,he⟩:=List.getElem?_eq_some_iff.1 hj;cases hf:ffind vs y.key with
 | none=>exact absurd rfl (Qpi hf y (List.mem_of_getElem? hj))
 | some z=>
  obtain⟨hz,c⟩:=Qsh hf
  have:z=y:=by
   obtain⟨i,hi,rfl⟩:=List.mem_iff_getElem.1 hz;have e1:(vs.map (·.key))[i]'(by rw[List.length_map];exact hi)=(vs.map (·.key))[j]'(by rw[List.length_map];exact a):=by rw[List.getElem_map,List.getElem_map,c,he]
   have b:i=j:=by
    rcases Nat.lt_trichotomy i j with h|h|h
    ·exact absurd e1 (List.pairwise_iff_getElem.1 hk i j (by rw[List.length_map];exact hi) (by rw[List.length_map];exact a) h)
    ·exact h
    ·exact absurd e1.symm (List.pairwise_iff_getElem.1 hk j i (by rw[List.length_map];exact a) (by rw[List.length_map];exact hi) h)
   subst b;exact he
  unfold fget;rw[hf,this];rfl
structure RSt (w wr:World) (q:Qf) (x:Qv) (N:Nat) (s:Cs) (d:Dk) (j:Nat) (qs:List CEnt):Prop where
 is:QIs wr q { x with qs:=qs } N { s with cache:=Je s.cache (s.files.take j) } d
 fr:Fr (Yl q.gk q.mc x.qs) w wr
 sub:∀ i,i<w.heap.size→Yl q.gk q.mc qs i→Yl q.gk q.mc x.qs i
 len:qs.length≤x.qs.length+j
theorem Q6v {wr wf:World} {q:Qf} {x:Qv} {N:Nat} {s:Cs} {d:Dk} {qs qs':List CEnt} (h:RSt w wr q x N s d j qs) (hy:x.vs[j]?=some y) (hc:Z3 wf q.gk q.mc (Qap (Je s.cache (s.files.take j)) y.key y.data) qs') (hl:qs'.length≤qs.length+1)
  (hf:Fr (Yl q.gk q.mc qs) wr wf) (hs:∀ i,i<wr.heap.size→Yl q.gk q.mc qs' i→Yl q.gk q.mc qs i):RSt w wf q x N s d (j+1) qs':=by
 have hk:s.files[j]?=some (y.key,y.data):=by
  have:=h.is.files
  dsimp only at this;rw[this,List.getElem?_map,hy];rfl
 refine⟨?_,h.fr.step hf h.sub,fun i hi e=>h.sub i hi (hs i (Nat.lt_of_lt_of_le hi h.fr.size) e),by have:=h.len;omega⟩
 have:=h.is.cacheStep hc hf
 rw[List.take_add_one,hk,Option.toList_some,Qg9];exact this
theorem Qkm (w:World) (q:Qf) (x:Qv) (N:Nat) (s:Cs) (d:Dk) (h:QIs w q x N s d) (hlen:x.qs.length+x.vs.length<1099511627775) :
  Calls prog 143 #[.pointer (some ⟨q.gq,0,none⟩)] w fun e w'=>e=.returned (.tuple #[])∧∃ qs',QIs w' q { x with qs:=qs' } N { s with cache:=Je s.cache s.files } d∧Fr (Yl q.gk q.mc x.qs) w w'∧∀ i,i<w.heap.size→Yl q.gk q.mc qs' i→Yl q.gk q.mc x.qs i:=by
 obtain⟨ao,co,l⟩:=Zi h.ord;have G:RSt w w q x N s d 0 x.qs:=⟨h,Fr.refl _ _,fun _ _ e=>e,Nat.le_refl _⟩
 obtain⟨ln,f⟩:∃ ln,ln=x.vs.length:=⟨_,rfl⟩
 rw[List.length_map,←f] at l;obtain⟨_,_,_,c3,_⟩:=h.heads;rw[l] at c3;have P:=zh G;have R:=zh l;have C:=zh f;have L:=zh h.keys;have V:=zh h.files;have W:x.qs.length+ln<1099511627775:=by rw[f];exact hlen
 clear h G l f hlen
 go_enter func143,ntmps143
 go_wp2
 go_loopw [9] (fun i wr=>∃ (j:Nat) (qs:List CEnt),j≤ln∧i=.int .i64 j∧Hid (RSt w wr q x N s d j qs)) (fun i _=>ln-(intOf i).toNat)
 case atStart=>exact⟨0,x.qs,Nat.zero_le _,rfl,P⟩
 case round=>
  obtain⟨j,qs,hj,rfl,HR⟩:=hrel;by_cases hlt:j<ln
  ·have I:(j:Int)<(ln:Int):=by omega
   have X:(0:Int)≤(j:Int):=by omega
   obtain⟨y,hy⟩:∃ y,x.vs[j]?=some y:=⟨_,List.getElem?_eq_getElem (by rw[←C.o];exact hlt)⟩
   obtain⟨_,_,a,_,c⟩:=Z4 HR.o.is.ord;have hg:((x.vs.map (·.key)).map Value.string)[j]?=some (.string y.key):=by rw[List.getElem?_map,List.getElem?_map,hy];rfl
   obtain⟨b,off,A,d1⟩:=c _ _ hg;dsimp only at a;rw[R.o] at a;simp only[Value.slice.injEq] at a;have U:=a.1.trans A;clear a A c hg;subst U;have p:=List.mem_of_getElem? hy;have g:=HR.o.is.small y p;have m:=HR.o.is.vals y p;obtain⟨av,nv,cv,n⟩:=Qgm m.1;have r:=Q8p L.o hy;obtain⟨e0,e1,e2,e3,e4,e5,_⟩:=HR.o.is.heads;have K:=HR.o.is.km.run_look (t:=261) (e:=147) underlying9 underlying261 (z:=.slice none 0 0) rfl y.key g r;have H:=(HR.o.is.km.same (w':=wr.drew) rfl).run_look (t:=261) (e:=147) underlying9 underlying261 (z:=.slice none 0 0) rfl y.key g r;rw[n] at K H m;have B:qs.length<maxLen:=by have:=HR.o.len;unfold maxLen;omega
   have k:=Q5n wr.drew q.gk q.mc _ qs y.key av nv cv y.data (HR.o.is.cache.fr (S:=fun _=>False) (Fr.ofBelow (Qn wr)) (fun _ _=>id) (fun _ _ _ _=>id)) (OwnB.below m (Qn wr)) g B;have CALL:=zh k;have HY:=zh hy;clear k hy p g m n r B
   go_upto_region 3 with fail
   go_still_tail 14,(by kernel_rfl)
   change wpList _ _ _ _ _ wr.drew
   go_wp2_with (go_at_call 184;refine CALL.o.mono ?_;rintro e w1 ⟨rfl,M,v,u,F,E⟩;have O:=zh v;have Q:=zh u;have T:=zh F;have J:=zh E;clear v u F E)
   go_roundw
   case rel=>exact⟨j+1,M,by omega,by go_num,zh (Q6v HR.o HY.o O.o Q.o ((Fr.ofBelow (Qn wr)).trans T.o) J.o)⟩
   case measure=>simp[intOf];omega
  ·have I:¬ (j:Int)<(ln:Int):=by omega
   have D:j=ln:=by omega
   have HJ:=zh D;clear D;go_wp2;refine bodyPost_end (results_none rfl _ _ _) rfl ⟨rfl,qs,?_,HR.o.fr,HR.o.sub⟩
   have:=HR.o.is
   rw[List.take_of_length_le (by rw[V.o,List.length_map,←C.o,HJ.o];exact Nat.le_refl _)] at this;exact this
end
end
section
abbrev Q9d:Go.Conc.Locks.MuLink:={ lock:=134,unlock:=135,ilock:=173,iunlock:=174,lockSlow:=218,unlockSlow:=221,disable:=214,enable:=216,acquire:=217,relMerge:=219,cas32:=215,add32:=220,tMutex:=203,tIMutex:=201,tPMutex:=256,tPIMutex:=310,tPI32:=312,tUP:=276,tNoCopy:=198,tU32:=199 }
theorem Q6d:Go.Conc.Locks.MuLib prog Q9d:=
 ⟨func134,func135,func173,func174,func214,func216,func217,func219,func215,func220,
 underlying201,runUnderlying201,sizeOf201,isAgg201,zeroValue201,underlying203,runUnderlying203,sizeOf203,isAgg203,zeroValue203,underlying256,runUnderlying256,sizeOf256,isAgg256,zeroValue256,underlying310,runUnderlying310,sizeOf310,isAgg310,zeroValue310,underlying312,runUnderlying312,sizeOf312,isAgg312,zeroValue312,underlying276,runUnderlying276,sizeOf276,isAgg276,zeroValue276,underlying198,runUnderlying198,sizeOf198,isAgg198,zeroValue198,underlying21,runUnderlying21,sizeOf21,isAgg21,zeroValue21,(by kernel_rfl)⟩
end
section
section
variable {P:Program} {md:Region.Mode} {ops:Array Oper} {Q:Exit→Act→World→Prop}
theorem Qmf (I:Nat→Array Bool→Act→World→Prop) (h0:∀ L a w,I 0 L a w→Region.ready md ops L = []∧Q .normal a w)
  (h1:∀ f L a w,I (f+1) L a w→Region.ready md ops L≠[]∧∀ i∈Region.ready md ops L,wpOp P ops Q i (I f (L.setIfInBounds i true)) a w) :
  ∀ (f:Nat) (L:Array Bool) (a:Act) (w:World),I f L a w→wpAny P md ops Q f L a w
 | 0,L,a,w,h=>h0 L a w h
 | f+1,L,a,w,h=>⟨fun hr=>absurd hr (h1 f L a w h).1,fun i hi=>wpOp_mono (fun a' w' h'=>Qmf I h0 h1 f _ a' w' h') ((h1 f L a w h).2 i hi)⟩
variable {o:Oper} {K:Act→World→Prop} {a:Act} {w:World}
theorem J7 {i:Nat} (hi:ops[i]?=some o) (hg:o.guard=none) (h:o.wp P a w K Q):wpOp P ops Q i K a w:=by
 have hw:Region.wanted o (yielded ops a.tmps)=true:=by unfold Region.wanted;rw[hg]
 unfold wpOp;rw[hi];simp only[hw,if_true];exact Or.inl h
variable {d:Nat} {v:Value}
theorem Qb {k:Nat} {x:Value} (hk:a.tmps.getD k undef=x) (hne:d≠k):(a.put (some d) v).tmps.getD k undef=x:=by unfold Act.put;simp only[Array.getD_eq_getD_getElem?,Array.getElem?_setIfInBounds] at *;rw[if_neg hne];exact hk
theorem Q7 (hd:d<a.tmps.size):(a.put (some d) v).tmps.getD d undef=v:=by unfold Act.put;simp[Array.getD_eq_getD_getElem?,hd]
theorem Jh {d:Option Tmp}:(a.put d v).tmps.size=a.tmps.size:=by cases d <;> simp[Act.put]
theorem Yd {d:Option Tmp}:(a.put d v).defers=a.defers:=by cases d <;> rfl
def bs (b:Nat→Bool):Array Bool:=#[b 0,b 1,b 2,b 3,b 4,b 5,b 6,b 7,b 8,b 9]
def left (b:Nat→Bool):Nat:=(!b 0).toNat+(!b 1).toNat+(!b 2).toNat+(!b 3).toNat+(!b 4).toNat+(!b 5).toNat+(!b 6).toNat+(!b 7).toNat+(!b 8).toNat+(!b 9).toNat
def upd (b:Nat→Bool) (i:Nat):Nat→Bool:=fun j=>if j=i then true else b j
theorem Q65 (b:Nat→Bool) (i:Nat) (hi:i<10):(bs b).setIfInBounds i true=bs (upd b i):=by
 have:i=0∨i=1∨i=2∨i=3∨i=4∨i=5∨i=6∨i=7∨i=8∨i=9:=by omega
 rcases this with rfl|rfl|rfl|rfl|rfl|rfl|rfl|rfl|rfl|rfl <;> rfl
theorem Qv2 (b:Nat→Bool) (i:Nat) (hi:i<10) (hb:b i=false) (f:Nat) (h:f+1=left b):f=left (upd b i):=by
 have:i=0∨i=1∨i=2∨i=3∨i=4∨i=5∨i=6∨i=7∨i=8∨i=9:=by omega
 rcases this with rfl|rfl|rfl|rfl|rfl|rfl|rfl|rfl|rfl|rfl <;> (simp only[left,upd,hb,Bool.not_false,Bool.toNat_true] at *;simp;omega)
theorem Qw0 (f:FuncId) (x y:Operand) (ts:Array TypeId) (ho:o.op=.call { callee:=.value (.func f),args:=#[x,y],argTypes:=ts })
  (hf:∀ args w,(callFunc f args).run P w=.ok (.enter f args) w) (h:Calls P f #[a.eval x,a.eval y] w fun e w'=>∃ v,e=.returned v∧K (a.put o.dst v) w'):o.wp P a w K Q:=by
 have hr:(execOp a.eval o).run P w=.ok (.enter f #[a.eval x,a.eval y]) w:=by unfold execOp;rw[ho];go_simp
 unfold Oper.wp;rw[hr,Oper.upon_enter];refine h.mono ?_;rintro e w' ⟨v,rfl,hk⟩;exact hk
end
end
section
abbrev bv (x:UInt8):Value:=.int .u8 x.toNat
def Qfo (w:World) (base:Nat) (v:Value) (l:List UInt8):Prop:=w.ownsRow base 5 1 v l.length (l.map bv)
theorem Qfo.bytes {w:World} {base:Nat} {v:Value} {l:List UInt8} (h:Qfo w base v l):Q8 w v l:=Z4 h
theorem Q4z (h:Hsh) (k:Nat) (hk:k<8) (w:World):(Instr.index 143 (.agg (h8 h)) (.int .i64 k)).run prog w=.ok (bv (h.toList.getD k 0)) w:=by
 have hu:=underlying143;have hs:(sizeOf 5).run prog w=.ok 1 w:=by kernel_rfl
 have hg:(isAgg 5).run prog w=.ok false w:=by kernel_rfl
 have hx:(h8 h)[k]?=some (bv (h.toList.getD k 0)):=by simp[h8,hk,List.getD]
 simp[Instr.index,asIntOf,run_underlying hu,Go.part,hs,hg,hk,hx];simp[h8]
def kHex:ByteArray:=⟨#[48,49,50,51,52,53,54,55,56,57,97,98,99,100,101,102]⟩
theorem Q6u (n:Nat) (h:n<16):kHex[n]?=some (hexD n):=by
 have:∀ m:Fin 16,kHex[m.1]?=some (hexD m.1):=by decide
 exact this ⟨n,h⟩
theorem Qr4 (n:Nat) (h:n<16) (w:World):(Instr.index 9 (.string kHex) (.int .u8 n)).run prog w=.ok (bv (hexD n)) w:=by have hu:=underlying9;have hx:=Q6u n h;simp[Instr.index,asIntOf,run_underlying hu,hx]
theorem Q75 (x:UInt8) (w:World):(binOp .shr 5 (bv x) (.int .u64 4)).run prog w=.ok (.int .u8 ((x.toNat / 16:Nat):Int)) w:=by go_simp
theorem Q7y (x:UInt8) (w:World):(binOp .and 5 (bv x) (.int .u8 15)).run prog w=.ok (.int .u8 ((x.toNat%16:Nat):Int)) w:=by
 go_simp;have h:∀ n:Fin 256,bits BinOp.and IntKind.u8 ((n.1:Nat):Int) 15=(n.1:Int)%16:=by decide +kernel
 exact h ⟨x.toNat,x.toNat_lt⟩
theorem build2 (p q:UInt8) (w:World):(Instr.buildSlice 147 2 #[(0,bv p),(1,bv q)]).run prog w=.ok (.slice (some ⟨w.heap.size,0,none⟩) 2 2) (w.alloc (.cells #[bv p,bv q] 5)):=by
 kernel_rfl
end
end Go.Proofs.YtefccfakhgdfbaaGreatDoor
