/- The walk of recent.Cache.Put. Conditions: the block is such a cache; the value is a row of bytes. -/
import Derived.Maps.OwnIn
import Derived.Test.YtefccfakhgdfbabGreatDoorHe04
set_option linter.unusedVariables false
set_option linter.unusedSimpArgs false
open Go.RowKit Go.Proofs.Tryz
set_option maxRecDepth 100000
set_option maxHeartbeats 4000000
namespace Go.Proofs.YtefccfakhgdfbabGreatDoor
section
def rA (g:Nat):Option Nat→Addr
 | none=>⟨g,2,none⟩
 | some b=>⟨b,0,none⟩
def rE (g:Nat):Option Nat→Addr
 | none=>⟨g,5,none⟩
 | some b=>⟨b,3,none⟩
def rL (g:Nat):Option Nat→Addr
 | none=>⟨g,4,none⟩
 | some b=>⟨b,2,none⟩
abbrev rP (g:Nat) (x:Option Nat):Value:=.pointer (some (rA g x))
theorem rE_inj {g:Nat} {x y:Option Nat} (h:rE g x=rE g y):x=y:=by
 cases x <;> cases y <;> simp[rE] at h ⊢
 exact h
theorem rL_inj {g:Nat} {x y:Option Nat} (h:rL g x=rL g y):x=y:=by
 cases x <;> cases y <;> simp[rL] at h ⊢
 exact h
theorem rE_ne_rL (g:Nat) (x y:Option Nat):rE g x≠rL g y:=by
 cases x <;> cases y <;> simp[rE,rL]
structure Lk (w:World) (g:Nat) (x y:Option Nat):Prop where
 e:w.cell? (rE g x)=some (rP g y)
 l:w.cell? (rL g y)=some (rP g x)
def Chn (w:World) (g:Nat):Option Nat→List Nat→Prop
 | x,[]=>Lk w g x none
 | x,b :: bs=>Lk w g x (some b)∧Chn w g (some b) bs
def lst:Option Nat→List Nat→Option Nat
 | x,[]=>x
 | _,b :: bs=>lst (some b) bs
theorem lst_append (x:Option Nat) (l:List Nat) (b:Nat):lst x (l ++ [b])=some b:=by
 induction l generalizing x with
 | nil=>rfl
 | cons a l ih=>exact ih (some a)
theorem lst_mem {x:Option Nat} {l:List Nat}:lst x l=x∨∃ b∈l,lst x l=some b:=by
 induction l generalizing x with
 | nil=>exact .inl rfl
 | cons a l ih=>
  rcases ih (x:=some a) with h|⟨b,hb,h⟩
  ·exact .inr ⟨a,.head _,h⟩
  ·exact .inr ⟨b,.tail _ hb,h⟩
theorem Chn.agree {w w':World} {g:Nat} {x:Option Nat} {l:List Nat} (h:Chn w g x l) (he:∀ y,(y=x∨∃ b∈l,y=some b)→w'.cell? (rE g y)=w.cell? (rE g y))
  (hl:∀ y,(y=none∨∃ b∈l,y=some b)→w'.cell? (rL g y)=w.cell? (rL g y)):Chn w' g x l:=by
 induction l generalizing x with
 | nil=>exact⟨(he _ (.inl rfl)).trans h.e,(hl _ (.inl rfl)).trans h.l⟩
 | cons b l ih=>
  refine⟨⟨(he _ (.inl rfl)).trans h.1.e,(hl _ (.inr ⟨b,.head _,rfl⟩)).trans h.1.l⟩,ih h.2 ?_ ?_⟩
  ·rintro y (rfl|⟨c,hc,rfl⟩)
   ·exact he _ (.inr ⟨b,.head _,rfl⟩)
   ·exact he _ (.inr ⟨c,.tail _ hc,rfl⟩)
  ·rintro y (rfl|⟨c,hc,rfl⟩)
   ·exact hl _ (.inl rfl)
   ·exact hl _ (.inr ⟨c,.tail _ hc,rfl⟩)
theorem Chn.before {w:World} {g:Nat} {x:Option Nat} {l m:List Nat} {b:Nat} (h:Chn w g x (l++b :: m)):Lk w g (lst x l) (some b)∧Chn w g (some b) m:=by
 induction l generalizing x with
 | nil=>exact h
 | cons a l ih=>exact ih h.2
theorem Chn.first {w:World} {g:Nat} {x:Option Nat} {l:List Nat} (h:Chn w g x l):Lk w g x l.head?:=by
 cases l with
 | nil=>exact h
 | cons b l=>exact h.1
theorem Chn.last {w:World} {g:Nat} {x:Option Nat} {l:List Nat} (h:Chn w g x l):Lk w g (lst x l) none:=by
 induction l generalizing x with
 | nil=>exact h
 | cons b l ih=>exact ih h.2
structure Joined (w w':World) (g:Nat) (x y:Option Nat):Prop where
 lk:Lk w' g x y
 rest:∀ a,a≠rE g x→a≠rL g y→w'.cell? a=w.cell? a
theorem Chn.take {w w':World} {g:Nat} {x:Option Nat} {l m:List Nat} {b:Nat} (h:Chn w g x (l++b :: m)) (hx:∀ c∈l++b :: m,x≠some c) (hn:(l++b :: m).Nodup) (hj:Joined w w' g (lst x l) m.head?):Chn w' g x (l++m):=by
 induction l generalizing x with
 | nil=>
  simp only[List.nil_append,lst] at *
  cases m with
  | nil=>exact hj.lk
  | cons c m=>
   refine⟨hj.lk,Chn.agree h.2.2 (fun y hy=>?_) (fun y hy=>?_)⟩
   ·refine hj.rest _ (fun e=>?_) (rE_ne_rL _ _ _)
    have e:=rE_inj e
    subst e
    rcases hy with hy|⟨d,hd,hy⟩
    ·exact hx c (by simp) hy
    ·exact hx d (by simp[hd]) hy
   ·refine hj.rest _ (fun e=>rE_ne_rL _ _ _ e.symm) (fun e=>?_)
    have e:=rL_inj e
    subst e
    rcases hy with hy|⟨d,hd,hy⟩
    ·simp at hy
    ·simp only[List.head?_cons,Option.some.injEq] at hy
     subst hy
     have:=(List.nodup_cons.1 (List.nodup_cons.1 hn).2).1
     exact this hd
 | cons a l ih=>
  have hn':=List.nodup_cons.1 hn
  have hne:∀ d,lst (some a) l=some d→d∈a :: l:=by
   intro d hd
   rcases lst_mem (x:=some a) (l:=l) with e|⟨c,hc,e⟩
   ·rw[e] at hd;cases hd;exact .head _
   ·rw[e] at hd;cases hd;exact .tail _ hc
  have hsome:∃ d,lst (some a) l=some d:=by
   rcases lst_mem (x:=some a) (l:=l) with e|⟨c,_,e⟩
   ·exact⟨a,e⟩
   ·exact⟨c,e⟩
  refine⟨⟨(hj.rest _ (fun e=>?_) (rE_ne_rL _ _ _)).trans h.1.e,(hj.rest _ (fun e=>rE_ne_rL _ _ _ e.symm) (fun e=>?_)).trans h.1.l⟩,ih h.2 ?_ hn'.2 hj⟩
  ·obtain⟨d,hd⟩:=hsome
   have e:=rE_inj e
   have e:x=some d:=e.trans hd
   refine hx d ?_ e
   have:=hne d hd
   simp only[List.cons_append,List.mem_cons,List.mem_append] at this ⊢
   rcases this with h|h
   ·exact .inl h
   ·exact .inr (.inl h)
  ·have e:=rL_inj e
   cases m with
   | nil=>simp at e
   | cons c m=>
    simp only[List.head?_cons,Option.some.injEq] at e
    subst e
    exact hn'.1 (by simp)
  ·intro c hc e
   cases e
   exact hn'.1 hc
structure Fronted (w w':World) (g b:Nat) (y:Option Nat):Prop where
 top:Lk w' g none (some b)
 two:Lk w' g (some b) y
 rest:∀ p,p≠rE g none→p≠rL g (some b)→p≠rE g (some b)→p≠rL g y→w'.cell? p=w.cell? p
theorem Chn.front {w w':World} {g b:Nat} {l:List Nat} (h:Chn w g none l) (hb:b ∉ l) (hn:l.Nodup) (hf:Fronted w w' g b l.head?):Chn w' g none (b :: l):=by
 refine⟨hf.top,?_⟩
 cases l with
 | nil=>exact hf.two
 | cons c l=>
  refine⟨hf.two,Chn.agree h.2 (fun y hy=>?_) (fun y hy=>?_)⟩
  ·have hy':∃ d∈c :: l,y=some d:=by
    rcases hy with hy|⟨d,hd,hy⟩
    ·exact⟨c,.head _,hy⟩
    ·exact⟨d,.tail _ hd,hy⟩
   obtain⟨d,hd,rfl⟩:=hy'
   refine hf.rest _ (fun e=>by have:=rE_inj e;cases this) (rE_ne_rL _ _ _) (fun e=>?_) (rE_ne_rL _ _ _)
   have e:=rE_inj e
   cases e
   exact hb hd
  ·refine hf.rest _ (fun e=>rE_ne_rL _ _ _ e.symm) (fun e=>?_) (fun e=>rE_ne_rL _ _ _ e.symm) (fun e=>?_)
   ·have e:=rL_inj e
    subst e
    rcases hy with hy|⟨d,hd,hy⟩
    ·cases hy
    ·cases hy
     exact hb (.tail _ hd)
   ·have e:=rL_inj e
    subst e
    rcases hy with hy|⟨d,hd,hy⟩
    ·simp at hy
    ·simp only[List.head?_cons,Option.some.injEq] at hy
     subst hy
     exact (List.nodup_cons.1 hn).1 hd
end
section
def Two (w w':World) (p:Addr) (u:Value) (q:Addr) (v:Value):Prop:=w'=(w.drew.setCell p u).setCell q v∨w'=(w.drew.setCell q v).setCell p u
theorem Two.swap {w w':World} {p q:Addr} {u v:Value} (h:Two w w' p u q v):Two w w' q v p u:=h.symm
theorem Two.left {w w':World} {p q:Addr} {u v x:Value} (h:Two w w' p u q v) (hp:w.cell? p=some x) (hne:p≠q):w'.cell? p=some u:=by
 rcases h with rfl|rfl
 ·rw[World.cell?_setCell_other _ _ _ _ hne.symm]
  exact World.cell?_setCell_same _ _ _ (u:=x) hp
 ·exact World.cell?_setCell_same _ _ _ (u:=x) ((World.cell?_setCell_other _ _ _ _ hne.symm).trans hp)
theorem Two.right {w w':World} {p q:Addr} {u v x:Value} (h:Two w w' p u q v) (hq:w.cell? q=some x) (hne:p≠q):w'.cell? q=some v:=h.swap.left hq hne.symm
theorem Two.other {w w':World} {p q:Addr} {u v:Value} (h:Two w w' p u q v) {a:Addr} (hp:a≠p) (hq:a≠q):w'.cell? a=w.cell? a:=by
 rcases h with rfl|rfl
 ·rw[World.cell?_setCell_other _ _ _ _ hq.symm,World.cell?_setCell_other _ _ _ _ hp.symm];rfl
 ·rw[World.cell?_setCell_other _ _ _ _ hp.symm,World.cell?_setCell_other _ _ _ _ hq.symm];rfl
theorem Two.frozen {w w':World} {p q:Addr} {u v:Value} (h:Two w w' p u q v) (a:Addr):w'.frozen? a=w.frozen? a:=by
 rcases h with rfl|rfl
 ·rw[World.frozen?_setCell,World.frozen?_setCell];rfl
 ·rw[World.frozen?_setCell,World.frozen?_setCell];rfl
theorem Two.fr {w w':World} {p q:Addr} {u v:Value} (h:Two w w' p u q v):Fr (fun k=>k=p.block∨k=q.block) w w':=by
 rcases h with rfl|rfl
 ·exact ((Fr.ofBelow (below_drew w)).setCell (fun _=>.inl rfl) u).setCell (fun _=>.inr rfl) v
 ·exact ((Fr.ofBelow (below_drew w)).setCell (fun _=>.inr rfl) v).setCell (fun _=>.inl rfl) u
theorem take_any (w:World) (c:Value) (b ax ox ay oy:Nat) (ux uy:Value) (h2:w.cell? ⟨b,2,none⟩=some (.pointer (some ⟨ax,ox,none⟩))) (h3:w.cell? ⟨b,3,none⟩=some (.pointer (some ⟨ay,oy,none⟩)))
  (hx:w.cell? ⟨ax,ox+3,none⟩=some ux) (hy:w.cell? ⟨ay,oy+2,none⟩=some uy) (fx:w.frozen? ⟨ax,ox+3,none⟩=false) (fy:w.frozen? ⟨ay,oy+2,none⟩=false)
  (hbx:b≠ax) (hby:b≠ay) (hne:ax≠ay∨ox+3≠oy+2) :
  Calls prog 183 #[c,.pointer (some ⟨b,0,none⟩)] w (fun e w'=>e=.returned (.tuple #[])∧Two w w' ⟨ay,oy+2,none⟩ (.pointer (some ⟨ax,ox,none⟩)) ⟨ax,ox+3,none⟩ (.pointer (some ⟨ay,oy,none⟩))):=by
 have d2:w.drew.cell? ⟨b,2,none⟩=some (.pointer (some ⟨ax,ox,none⟩)):=h2
 have d3:w.drew.cell? ⟨b,3,none⟩=some (.pointer (some ⟨ay,oy,none⟩)):=h3
 have dx:w.drew.cell? ⟨ax,ox+3,none⟩=some ux:=hx
 have dy:w.drew.cell? ⟨ay,oy+2,none⟩=some uy:=hy
 have dfx:w.drew.frozen? ⟨ax,ox+3,none⟩=false:=fx
 have dfy:w.drew.frozen? ⟨ay,oy+2,none⟩=false:=fy
 have ne1:(⟨ay,oy+2,none⟩:Addr)≠⟨ax,ox+3,none⟩:=by
  intro e
  injection e with e1 e2
  rcases hne with h|h
  ·exact h e1.symm
  ·exact h e2.symm
 have ex:(w.setCell ⟨ay,oy+2,none⟩ (.pointer (some ⟨ax,ox,none⟩))).drew.cell? ⟨ax,ox+3,none⟩=some ux:=(World.cell?_setCell_other _ _ _ _ ne1).trans hx
 have ey:(w.setCell ⟨ax,ox+3,none⟩ (.pointer (some ⟨ay,oy,none⟩))).drew.cell? ⟨ay,oy+2,none⟩=some uy:=(World.cell?_setCell_other _ _ _ _ ne1.symm).trans hy
 have gx:(w.setCell ⟨ay,oy+2,none⟩ (.pointer (some ⟨ax,ox,none⟩))).drew.frozen? ⟨ax,ox+3,none⟩=false:=(World.frozen?_setCell _ _ _ _).trans fx
 have gy:(w.setCell ⟨ax,ox+3,none⟩ (.pointer (some ⟨ay,oy,none⟩))).drew.frozen? ⟨ay,oy+2,none⟩=false:=(World.frozen?_setCell _ _ _ _).trans fy
 go_enter func183,ntmps183
 go_region
 all_goals (
  go_wp2
  refine bodyPost_end (results_none rfl _ _ _) rfl ⟨rfl,?_⟩
  first
   | exact .inl rfl
   | exact .inr rfl)
theorem front_any (w:World) (g b ay oy:Nat) (u2 u3 uy:Value) (h2:w.cell? ⟨b,2,none⟩=some u2) (h3:w.cell? ⟨b,3,none⟩=some u3) (h5:w.cell? ⟨g,5,none⟩=some (.pointer (some ⟨ay,oy,none⟩)))
  (hy:w.cell? ⟨ay,oy+2,none⟩=some uy) (f2:w.frozen? ⟨b,2,none⟩=false) (f3:w.frozen? ⟨b,3,none⟩=false) (f5:w.frozen? ⟨g,5,none⟩=false) (fy:w.frozen? ⟨ay,oy+2,none⟩=false)
  (hbg:b≠g) (hby:b≠ay) (hne:ay≠g∨oy+2≠5) :
  Calls prog 184 #[.pointer (some ⟨g,0,none⟩),.pointer (some ⟨b,0,none⟩)] w (fun e w'=>e=.returned (.tuple #[])∧
   ∃ w1,Two w w1 ⟨b,2,none⟩ (.pointer (some ⟨g,2,none⟩)) ⟨b,3,none⟩ (.pointer (some ⟨ay,oy,none⟩))∧Two w1 w' ⟨ay,oy+2,none⟩ (.pointer (some ⟨b,0,none⟩)) ⟨g,5,none⟩ (.pointer (some ⟨b,0,none⟩))):=by
 have d5:w.drew.cell? ⟨g,5,none⟩=some (.pointer (some ⟨ay,oy,none⟩)):=h5
 have d2:w.drew.cell? ⟨b,2,none⟩=some u2:=h2
 have d3:w.drew.cell? ⟨b,3,none⟩=some u3:=h3
 have df2:w.drew.frozen? ⟨b,2,none⟩=false:=f2
 have df3:w.drew.frozen? ⟨b,3,none⟩=false:=f3
 have n23:(⟨b,2,none⟩:Addr)≠⟨b,3,none⟩:=by simp
 have a1:(w.setCell ⟨b,2,none⟩ (.pointer (some ⟨g,2,none⟩))).drew.cell? ⟨b,3,none⟩=some u3:=(World.cell?_setCell_other _ _ _ _ n23).trans h3
 have a2:(w.setCell ⟨b,3,none⟩ (.pointer (some ⟨ay,oy,none⟩))).drew.cell? ⟨b,2,none⟩=some u2:=(World.cell?_setCell_other _ _ _ _ n23.symm).trans h2
 have a3:(w.setCell ⟨b,2,none⟩ (.pointer (some ⟨g,2,none⟩))).drew.frozen? ⟨b,3,none⟩=false:=(World.frozen?_setCell _ _ _ _).trans f3
 have a4:(w.setCell ⟨b,3,none⟩ (.pointer (some ⟨ay,oy,none⟩))).drew.frozen? ⟨b,2,none⟩=false:=(World.frozen?_setCell _ _ _ _).trans f2
 have a5:(w.setCell ⟨b,2,none⟩ (.pointer (some ⟨g,2,none⟩))).drew.cell? ⟨g,5,none⟩=some (.pointer (some ⟨ay,oy,none⟩)):=(World.cell?_setCell_other _ _ _ _ (by simp[hbg])).trans h5
 go_enter func184,ntmps184
 go_wp2
 go_region
 obtain⟨w1,hw1⟩:∃ w1,w1=((w.setCell ⟨b,2,none⟩ (.pointer (some ⟨g,2,none⟩))).setCell ⟨b,3,none⟩ (.pointer (some ⟨ay,oy,none⟩))).drew:=⟨_,rfl⟩
 rw[←hw1]
 have HT:Two w w1 ⟨b,2,none⟩ (.pointer (some ⟨g,2,none⟩)) ⟨b,3,none⟩ (.pointer (some ⟨ay,oy,none⟩)):=.inl hw1
 clear hw1 a1 a2 a3 a4 a5 d2 d3 d5 df2 df3
 have b2:w1.drew.cell? ⟨b,2,none⟩=some (.pointer (some ⟨g,2,none⟩)):=HT.left h2 n23
 have b3:w1.drew.cell? ⟨b,3,none⟩=some (.pointer (some ⟨ay,oy,none⟩)):=HT.right h3 n23
 have by':w1.cell? ⟨ay,oy+2,none⟩=some uy:=(HT.other (fun e=>hby (by injection e with e;exact e.symm)) (fun e=>hby (by injection e with e;exact e.symm))).trans hy
 have b5:w1.cell? ⟨g,5,none⟩=some (.pointer (some ⟨ay,oy,none⟩)):=(HT.other (fun e=>hbg (by injection e with e;exact e.symm)) (fun e=>hbg (by injection e with e;exact e.symm))).trans h5
 have gy:w1.frozen? ⟨ay,oy+2,none⟩=false:=(HT.frozen _).trans fy
 have g5:w1.frozen? ⟨g,5,none⟩=false:=(HT.frozen _).trans f5
 have ey:w1.drew.cell? ⟨ay,oy+2,none⟩=some uy:=by'
 have e5:w1.drew.cell? ⟨g,5,none⟩=some (.pointer (some ⟨ay,oy,none⟩)):=b5
 have fy1:w1.drew.frozen? ⟨ay,oy+2,none⟩=false:=gy
 have f51:w1.drew.frozen? ⟨g,5,none⟩=false:=g5
 have ny:(⟨ay,oy+2,none⟩:Addr)≠⟨g,5,none⟩:=by
  intro e
  injection e with e1 e2
  rcases hne with h|h
  ·exact h e1
  ·exact h e2
 have k5:(w1.setCell ⟨ay,oy+2,none⟩ (.pointer (some ⟨b,0,none⟩))).drew.cell? ⟨g,5,none⟩=some (.pointer (some ⟨ay,oy,none⟩)):=(World.cell?_setCell_other _ _ _ _ ny).trans b5
 have k6:(w1.setCell ⟨ay,oy+2,none⟩ (.pointer (some ⟨b,0,none⟩))).drew.frozen? ⟨g,5,none⟩=false:=(World.frozen?_setCell _ _ _ _).trans g5
 have k7:(w1.setCell ⟨g,5,none⟩ (.pointer (some ⟨b,0,none⟩))).drew.cell? ⟨ay,oy+2,none⟩=some uy:=(World.cell?_setCell_other _ _ _ _ ny.symm).trans by'
 have k8:(w1.setCell ⟨g,5,none⟩ (.pointer (some ⟨b,0,none⟩))).drew.frozen? ⟨ay,oy+2,none⟩=false:=(World.frozen?_setCell _ _ _ _).trans gy
 clear h2 h3 h5 hy f2 f3 f5 fy n23
 go_wp2
 go_region
 all_goals (
  refine bodyPost_end (results_none rfl _ _ _) rfl ⟨rfl,w1,HT,?_⟩
  first
   | exact .inl rfl
   | exact .inr rfl)
end
section
open Go.RowKit Go.Maps Go.ChangeMaps Go.WideMaps
def heldV (v:Value):Option (DataW Value×List MemPlace):=some (.held v,[])
def klit (s:ByteArray):Lit:=.string s.data.toList
theorem klit_inj {s u:ByteArray} (h:klit s=klit u):s=u:=by
 have h1:s.data.toList=u.data.toList:=by injection h
 cases s;cases u
 simp only[ByteArray.mk.injEq]
 exact Array.toList_inj.1 h1
structure KmAt (w:World) (k:TypeId) (b:Nat) (get:ByteArray→Option Value) (n:Nat):Prop where
 ex:∃ D:DataW Value,w.ownsMap prog k heldV b n D∧Maps.size D=n∧(∀ s,Maps.has D (klit s)=(get s).isSome)∧∀ s v z,get s=some v→D.atKey (klit s) z=.held v
section
variable {w:World} {k:TypeId} {b n:Nat} {get:ByteArray→Option Value}
theorem ownsMap_tight {H:Type} {P:Program} {R:Value→Option (DataW H×List MemPlace)} {m:Nat} {D:DataW H} (h:w.ownsMap P k R b m D):w.ownsMap P k R b (Maps.size D) D:=by
 obtain⟨es,clock,hb,F,hs,rfl⟩:=h
 refine⟨es,clock,hb,F,?_,rfl⟩
 have e1:Maps.size (DataW.map ((es.toList.map (Go.WideElems.rg P k R)).foldr DataW.insert []))=es.size:=by simp[Maps.size,length_sorted]
 rw[e1];exact Nat.le_refl _
theorem KmAt.made_at (w:World) (k:TypeId) {b:Nat} (hb:w.heap[b]?=some (.map #[] 0)):KmAt w k b (fun _=>none) 0:=by
 refine⟨.map [],⟨#[],0,hb,?_,Nat.le_refl _,rfl⟩,rfl,fun _=>rfl,fun _ _ _ h=>by cases h⟩
 obtain⟨es,c,h1,F,_,_⟩:=World.ownsMap_made (H:=Value) w prog k heldV
 have h2:(w.alloc (.map #[] 0)).heap[w.heap.size]?=some (.map #[] 0):=Array.getElem?_push_size
 rw[h2] at h1
 cases h1
 exact F
theorem KmAt.lt (h:KmAt w k b get n):b<w.heap.size:=by
 obtain⟨D,hD,_⟩:=h.ex
 exact hD.lt
theorem KmAt.same {w':World} (h:KmAt w k b get n) (e:w'.heap[b]?=w.heap[b]?):KmAt w' k b get n:=by
 obtain⟨D,⟨es,c,hb,r⟩,q⟩:=h.ex
 exact⟨D,⟨es,c,by rw[e];exact hb,r⟩,q⟩
theorem KmAt.fr {w':World} {S:Nat→Prop} (h:KmAt w k b get n) (hf:Fr S w w') (hs:¬ S b):KmAt w' k b get n:=h.same (hf.block b h.lt hs)
theorem KmAt.below {w':World} {B:Nat} (h:KmAt w k b get n) (hb:Below B w w') (hB:b<B):KmAt w' k b get n:=h.same (hb.block b hB)
theorem Fr.ofTurned {w':World} (h:w.mapTurned w' b):Fr (·=b) w w':=by
 obtain⟨es,c,es',c',_,rfl⟩:=h
 refine⟨rfl,rfl,rfl,by simp[setBlock],fun i _ hs=>?_⟩
 simp only[setBlock]
 exact Array.getElem?_setIfInBounds_ne (fun e=>hs e.symm)
theorem turned_size {w':World} (h:w.mapTurned w' b):w'.heap.size=w.heap.size:=by
 obtain⟨es,c,es',c',_,rfl⟩:=h
 simp[setBlock]
theorem KmAt.put {w':World} {D:DataW Value} {m:Nat} {s:ByteArray} {v:Value} (hk:prog.underlying k=some .string) (hown:w.ownsMap prog k heldV b m D) (hh:∀ s,Maps.has D (klit s)=(get s).isSome) (ha:∀ s v z,get s=some v→D.atKey (klit s) z=.held v)
  (h':w'.ownsMap prog k heldV b (m+1) (D.put (klit s) (.held v))):KmAt w' k b (fun u=>if u=s then some v else get u) (if (get s).isSome then Maps.size D else Maps.size D+1):=by
 have K:=string_keyed hk
 have hT:=hown.tidy K
 have hsz:=size_put (k:=klit s) hT (DataW.held v)
 rw[hh s] at hsz
 have ht:=ownsMap_tight h'
 rw[hsz] at ht
 refine⟨_,ht,hsz,fun u=>?_,fun u x z hu=>?_⟩
 ·by_cases e:u=s
  ·subst e;simp[has_put_same hown.isMap (show WideAt.IsKeyLit (klit u) from trivial)]
  ·simp only[if_neg e]
   rw[has_put_other (fun q=>e (klit_inj q)),hh u]
 ·by_cases e:u=s
  ·subst e
   simp only[if_true,Option.some.injEq] at hu
   rw[atKey_put_same hown.isMap (show WideAt.IsKeyLit (klit u) from trivial),hu]
  ·simp only[if_neg e] at hu
   rw[atKey_put_other (fun q=>e (klit_inj q)),ha u x z hu]
theorem KmAt.del {w':World} {D:DataW Value} {m:Nat} {s:ByteArray} (hk:prog.underlying k=some .string) (hown:w.ownsMap prog k heldV b m D) (hh:∀ s,Maps.has D (klit s)=(get s).isSome) (ha:∀ s v z,get s=some v→D.atKey (klit s) z=.held v)
  (h':w'.ownsMap prog k heldV b m (D.del (klit s))):KmAt w' k b (fun u=>if u=s then none else get u) (Maps.size D-(if (get s).isSome then 1 else 0)):=by
 have K:=string_keyed hk
 have hT:=hown.tidy K
 have hsz:=size_del (k:=klit s) hT
 rw[hh s] at hsz
 have ht:=ownsMap_tight h'
 have e1:Maps.size (D.del (klit s))=Maps.size D-(if (get s).isSome then 1 else 0):=by omega
 rw[e1] at ht
 refine⟨_,ht,e1,fun u=>?_,fun u x z hu=>?_⟩
 ·by_cases e:u=s
  ·subst e;simp[has_del_same]
  ·simp only[if_neg e]
   rw[has_del_other (fun q=>e (klit_inj q)),hh u]
 ·by_cases e:u=s
  ·subst e;simp at hu
  ·simp only[if_neg e] at hu
   rw[atKey_del_other (fun q=>e (klit_inj q)),ha u x z hu]
end
section
variable (w:World) {ops:Array Oper} {rest:List Oper} {o:Oper} {a:Act} {Q:Exit→Act→World→Prop}
theorem wpList_kmLook (hg:o.guard=none) (m x:Operand) (t:TypeId) (hop:o.op=Op.lookup t m x true) (k e:TypeId) (hk:prog.underlying k=some .string) (ht:prog.underlying t=some (.map k e))
  {z:Value} (hz:(zeroValue e).run prog w=.ok z w) (b n:Nat) (get:ByteArray→Option Value) (hm:a.eval m=.map (some b)) (h:KmAt w k b get n) (s:ByteArray) (hx:a.eval x=.string s) (hs:s.size≤maxLen)
  (hK:wpList prog ops Q rest (a.put o.dst (.tuple #[(get s).getD z,.bool (get s).isSome])) w):wpList prog ops Q (o :: rest) a w:=by
 obtain⟨D,hown,hn,hh,ha⟩:=h.ex
 refine wpList_lookup_own_ok w hg m x t hop k e (string_keyed hk) ht heldV hz (.held z) [] rfl b n D hm hown (.string s) (klit s) hx (keyOf_string_mk hk hs) fun v ps hv=>?_
 have e1:DataW.held v=D.atKey (klit s) (.held z):=by
  have:=congrArg (Option.map Prod.fst) hv
  simpa [heldV] using this
 cases hg':get s with
 | none=>
  rw[atKey_of_not_has (by rw[hh s,hg'];rfl)] at e1
  injection e1 with e1
  subst e1
  rw[hh s]
  simpa [hg'] using hK
 | some y=>
  rw[ha s y _ hg'] at e1
  injection e1 with e1
  subst e1
  rw[hh s]
  simpa [hg'] using hK
theorem wpList_kmPut (hg:o.guard=none) (m x v:Operand) (t:TypeId) (hop:o.op=Op.mapUpdate t m x v) (k e:TypeId) (hk:prog.underlying k=some .string) (ht:prog.underlying t=some (.map k e))
  (b n:Nat) (get:ByteArray→Option Value) (hm:a.eval m=.map (some b)) (h:KmAt w k b get n) (hn:n<maxLen) (s:ByteArray) (y:Value) (hx:a.eval x=.string s) (hs:s.size≤maxLen) (hv:a.eval v=y)
  (hK:∀ w',KmAt w' k b (fun u=>if u=s then some y else get u) (if (get s).isSome then n else n+1)→Fr (·=b) w w'→w'.heap.size=w.heap.size→wpList prog ops Q rest (a.put o.dst undef) w'):wpList prog ops Q (o :: rest) a w:=by
 obtain⟨D,hown,hnD,hh,ha⟩:=h.ex
 refine wpList_mapUpdate_in w hg m x v t hop k e (string_keyed hk) ht heldV b n D hm hown hn (.string s) y (klit s) hx hv (keyOf_string_mk hk hs) (.held y) [] rfl fun w' h1 h2=>?_
 have h3:=KmAt.put hk hown hh ha h1
 rw[hnD] at h3
 exact hK w' h3 (Fr.ofTurned h2) (turned_size h2)
theorem wpList_kmDel (hg:o.guard=none) (m x:Operand) (t k:TypeId) (hop:o.op=Op.call { callee:=Callee.builtin Builtin.delete,args:=#[m,x],argTypes:=#[t,k] }) (e:TypeId) (hk:prog.underlying k=some .string) (ht:prog.underlying t=some (.map k e))
  (b n:Nat) (get:ByteArray→Option Value) (hm:a.eval m=.map (some b)) (h:KmAt w k b get n) (s:ByteArray) (hx:a.eval x=.string s) (hs:s.size≤maxLen)
  (hK:∀ w',KmAt w' k b (fun u=>if u=s then none else get u) (n-(if (get s).isSome then 1 else 0))→Fr (·=b) w w'→w'.heap.size=w.heap.size→wpList prog ops Q rest (a.put o.dst (.tuple #[])) w'):wpList prog ops Q (o :: rest) a w:=by
 obtain⟨D,hown,hnD,hh,ha⟩:=h.ex
 refine wpList_delete_own w hg m x t k hop e (string_keyed hk) ht heldV b n D hm hown (.string s) (klit s) hx (keyOf_string_mk hk hs) fun w' h1 h2=>?_
 have h3:=KmAt.del hk hown hh ha h1
 rw[hnD] at h3
 exact hK w' h3 (Fr.ofTurned h2) (turned_size h2)
end
end
section
def Node (w:World) (b:Nat) (k:ByteArray) (v:Value):Prop:=∃ l e,w.heap[b]?=some (.cells #[.string k,v,.pointer l,.pointer e] 244 (0,0))
def Ends (w:World) (g m n:Nat):Prop:=∃ l e,w.heap[g]?=some (.cells #[.int .i64 n,.map (some m),.string ⟨#[]⟩,.slice none 0 0,.pointer l,.pointer e] 246 (0,0))
theorem Node.set {w:World} {b:Nat} {k:ByteArray} {v:Value} (h:Node w b k v) {a:Addr} {p:Option Addr} (ha:a.block=b→a=⟨b,2,none⟩∨a=⟨b,3,none⟩):Node (w.setCell a (.pointer p)) b k v:=by
 obtain⟨l,e,h⟩:=h
 by_cases hb:a.block=b
 ·rcases ha hb with rfl|rfl
  ·exact⟨p,e,by rw[heap_setCell h];rfl⟩
  ·exact⟨l,p,by rw[heap_setCell h];rfl⟩
 ·exact⟨l,e,heap_setCell' h (fun e=>hb e.symm) _⟩
theorem Ends.set {w:World} {g m n:Nat} (h:Ends w g m n) {a:Addr} {p:Option Addr} (ha:a.block=g→a=⟨g,4,none⟩∨a=⟨g,5,none⟩):Ends (w.setCell a (.pointer p)) g m n:=by
 obtain⟨l,e,h⟩:=h
 by_cases hb:a.block=g
 ·rcases ha hb with rfl|rfl
  ·exact⟨p,e,by rw[heap_setCell h];rfl⟩
  ·exact⟨l,p,by rw[heap_setCell h];rfl⟩
 ·exact⟨l,e,heap_setCell' h (fun e=>hb e.symm) _⟩
theorem Node.two {w w':World} {b:Nat} {k:ByteArray} {v:Value} {p q:Addr} {x y:Option Addr} (h:Node w b k v) (ht:Two w w' p (.pointer x) q (.pointer y)) (hp:p.block=b→p=⟨b,2,none⟩∨p=⟨b,3,none⟩) (hq:q.block=b→q=⟨b,2,none⟩∨q=⟨b,3,none⟩):Node w' b k v:=by
 have hd:Node w.drew b k v:=h
 rcases ht with rfl|rfl
 ·exact (hd.set hp).set hq
 ·exact (hd.set hq).set hp
theorem Ends.two {w w':World} {g m n:Nat} {p q:Addr} {x y:Option Addr} (h:Ends w g m n) (ht:Two w w' p (.pointer x) q (.pointer y)) (hp:p.block=g→p=⟨g,4,none⟩∨p=⟨g,5,none⟩) (hq:q.block=g→q=⟨g,4,none⟩∨q=⟨g,5,none⟩):Ends w' g m n:=by
 have hd:Ends w.drew g m n:=h
 rcases ht with rfl|rfl
 ·exact (hd.set hp).set hq
 ·exact (hd.set hq).set hp
theorem Node.below {w w':World} {b:Nat} {k:ByteArray} {v:Value} (h:Node w b k v) (e:w'.heap[b]?=w.heap[b]?):Node w' b k v:=by
 obtain⟨l,r,h⟩:=h
 exact⟨l,r,e.trans h⟩
theorem Ends.below {w w':World} {g m n:Nat} (h:Ends w g m n) (e:w'.heap[g]?=w.heap[g]?):Ends w' g m n:=by
 obtain⟨l,r,h⟩:=h
 exact⟨l,r,e.trans h⟩
theorem Node.free {w:World} {b:Nat} {k:ByteArray} {v:Value} (h:Node w b k v) (i:Nat):w.frozen? ⟨b,i,none⟩=false:=by
 obtain⟨l,e,h⟩:=h
 exact frozen_heap h i
theorem Ends.free {w:World} {g m n:Nat} (h:Ends w g m n) (i:Nat):w.frozen? ⟨g,i,none⟩=false:=by
 obtain⟨l,e,h⟩:=h
 exact frozen_heap h i
theorem Node.key {w:World} {b:Nat} {k:ByteArray} {v:Value} (h:Node w b k v):w.cell? ⟨b,0,none⟩=some (.string k):=by
 obtain⟨l,e,h⟩:=h
 exact cell_heap h 0 rfl
theorem Node.val {w:World} {b:Nat} {k:ByteArray} {v:Value} (h:Node w b k v):w.cell? ⟨b,1,none⟩=some v:=by
 obtain⟨l,e,h⟩:=h
 exact cell_heap h 1 rfl
theorem Ends.most {w:World} {g m n:Nat} (h:Ends w g m n):w.cell? ⟨g,0,none⟩=some (.int .i64 n):=by
 obtain⟨l,e,h⟩:=h
 exact cell_heap h 0 rfl
theorem Ends.all {w:World} {g m n:Nat} (h:Ends w g m n):w.cell? ⟨g,1,none⟩=some (.map (some m)):=by
 obtain⟨l,e,h⟩:=h
 exact cell_heap h 1 rfl
theorem Node.ne {w:World} {b g m n:Nat} {k:ByteArray} {v:Value} (h:Node w b k v) (h':Ends w g m n):b≠g:=by
 rintro rfl
 obtain⟨l,e,h⟩:=h
 obtain⟨l',e',h'⟩:=h'
 rw[h] at h'
 cases h'
structure RingIs (w:World) (g m n:Nat) (ps:List (Nat×ByteArray×Value)):Prop where
 ends:Ends w g m n
 nodes:∀ p∈ps,Node w p.1 p.2.1 p.2.2
 chn:Chn w g none (ps.map (·.1))
 nd:(ps.map (·.1)).Nodup
theorem rL_block {g b:Nat} {x:Option Nat} (hg:b≠g) (h:(rL g x).block=b):rL g x=⟨b,2,none⟩∨rL g x=⟨b,3,none⟩:=by
 cases x with
 | none=>exact absurd h.symm hg
 | some c=>exact .inl (by cases h;rfl)
theorem rE_block {g b:Nat} {x:Option Nat} (hg:b≠g) (h:(rE g x).block=b):rE g x=⟨b,2,none⟩∨rE g x=⟨b,3,none⟩:=by
 cases x with
 | none=>exact absurd h.symm hg
 | some c=>exact .inr (by cases h;rfl)
theorem rL_ends {g:Nat} {x:Option Nat} (hx:x≠some g) (h:(rL g x).block=g):rL g x=⟨g,4,none⟩∨rL g x=⟨g,5,none⟩:=by
 cases x with
 | none=>exact .inl rfl
 | some c=>exact absurd (congrArg some h) hx
theorem rE_ends {g:Nat} {x:Option Nat} (hx:x≠some g) (h:(rE g x).block=g):rE g x=⟨g,4,none⟩∨rE g x=⟨g,5,none⟩:=by
 cases x with
 | none=>exact .inr rfl
 | some c=>exact absurd (congrArg some h) hx
theorem joined_of {w w':World} {g:Nat} {x y:Option Nat} {u v:Value} (h:Two w w' (rL g y) (rP g x) (rE g x) (rP g y)) (hl:w.cell? (rL g y)=some u) (he:w.cell? (rE g x)=some v):Joined w w' g x y:=
 ⟨⟨h.right he (rE_ne_rL g x y).symm,h.left hl (rE_ne_rL g x y).symm⟩,fun _ h1 h2=>h.other h2 h1⟩
end
section
def aB (g:Nat):Option Nat→Nat
 | none=>g
 | some c=>c
def aO:Option Nat→Nat
 | none=>2
 | some _=>0
theorem rA_eq (g:Nat) (x:Option Nat):rA g x=⟨aB g x,aO x,none⟩:=by cases x <;> rfl
theorem rE_eq (g:Nat) (x:Option Nat):rE g x=⟨aB g x,aO x+3,none⟩:=by cases x <;> rfl
theorem rL_eq (g:Nat) (x:Option Nat):rL g x=⟨aB g x,aO x+2,none⟩:=by cases x <;> rfl
theorem aO_ne (x y:Option Nat):aO x+3≠aO y+2:=by cases x <;> cases y <;> simp[aO]
theorem aO_ne5 (y:Option Nat):aO y+2≠5:=by cases y <;> simp[aO]
section
variable {w:World} {g m n:Nat} {ps:List (Nat×ByteArray×Value)}
theorem RingIs.node (h:RingIs w g m n ps) {b:Nat} (hb:b∈ps.map (·.1)):∃ k v,(b,k,v)∈ps∧Node w b k v:=by
 obtain⟨p,hp,rfl⟩:=List.mem_map.1 hb
 exact⟨p.2.1,p.2.2,hp,h.nodes p hp⟩
theorem RingIs.ne (h:RingIs w g m n ps) {b:Nat} (hb:b∈ps.map (·.1)):b≠g:=by
 obtain⟨k,v,_,hN⟩:=h.node hb
 exact hN.ne h.ends
theorem RingIs.free (h:RingIs w g m n ps) {x:Option Nat} (hx:x=none∨∃ b∈ps.map (·.1),x=some b) (i:Nat):w.frozen? ⟨aB g x,i,none⟩=false:=by
 rcases hx with rfl|⟨b,hb,rfl⟩
 ·exact h.ends.free i
 ·obtain⟨k,v,_,hN⟩:=h.node hb
  exact hN.free i
theorem RingIs.turn {w':World} (h:RingIs w g m n ps) {p q:Addr} {x y:Option Addr} (ht:Two w w' p (.pointer x) q (.pointer y)) {qs:List (Nat×ByteArray×Value)} (hq:∀ z∈qs,z∈ps)
  (hp2:∀ b,b≠g→p.block=b→p=⟨b,2,none⟩∨p=⟨b,3,none⟩) (hq2:∀ b,b≠g→q.block=b→q=⟨b,2,none⟩∨q=⟨b,3,none⟩) (hpg:p.block=g→p=⟨g,4,none⟩∨p=⟨g,5,none⟩) (hqg:q.block=g→q=⟨g,4,none⟩∨q=⟨g,5,none⟩)
  (hc:Chn w' g none (qs.map (·.1))) (hn:(qs.map (·.1)).Nodup):RingIs w' g m n qs:=
 ⟨h.ends.two ht hpg hqg,fun z hz=>(h.nodes z (hq z hz)).two ht (hp2 _ (h.ne (List.mem_map_of_mem (hq z hz)))) (hq2 _ (h.ne (List.mem_map_of_mem (hq z hz)))),hc,hn⟩
end
theorem take_ring (w:World) (g m n:Nat) (l r:List (Nat×ByteArray×Value)) (b:Nat) (k:ByteArray) (v:Value) (h:RingIs w g m n (l++(b,k,v) :: r)) (c:Value) :
  Calls prog 183 #[c,.pointer (some ⟨b,0,none⟩)] w (fun e w'=>e=.returned (.tuple #[])∧RingIs w' g m n (l++r)∧Node w' b k v∧Fr (fun i=>i=g∨i∈(l++(b,k,v) :: r).map (·.1)) w w'∧w'.heap.size=w.heap.size):=by
 have hm:(l++(b,k,v) :: r).map (·.1)=l.map (·.1)++b :: r.map (·.1):=by simp
 have hC:=h.chn
 rw[hm] at hC
 have hN:=h.nd
 rw[hm] at hN
 obtain⟨K1,K2⟩:=hC.before
 have K3:=K2.first
 obtain⟨x,hx⟩:∃ x,x=lst none (l.map (·.1)):=⟨_,rfl⟩
 obtain⟨y,hy⟩:∃ y,y=(r.map (·.1)).head?:=⟨_,rfl⟩
 rw[←hx] at K1
 rw[←hy] at K3
 have hxin:x=none∨∃ d∈(l++(b,k,v) :: r).map (·.1),x=some d:=by
  rcases lst_mem (x:=none) (l:=l.map (·.1)) with e|⟨d,hd,e⟩
  ·exact .inl (hx.trans e)
  ·exact .inr ⟨d,by rw[hm];exact List.mem_append_left _ hd,hx.trans e⟩
 have hyin:y=none∨∃ d∈(l++(b,k,v) :: r).map (·.1),y=some d:=by
  cases r with
  | nil=>exact .inl hy
  | cons z r=>exact .inr ⟨z.1,by simp,hy⟩
 have hbin:b∈(l++(b,k,v) :: r).map (·.1):=by simp
 have hbg:=h.ne hbin
 have hxb:b≠aB g x:=by
  rcases lst_mem (x:=none) (l:=l.map (·.1)) with e|⟨d,hd,e⟩
  ·rw[hx,e];exact hbg
  ·rw[hx,e]
   rintro rfl
   have:=(List.nodup_append.1 hN).2.2 _ hd _ (.head _)
   exact this rfl
 have hyb:b≠aB g y:=by
  cases r with
  | nil=>rw[hy];exact hbg
  | cons z r=>
   rw[hy]
   rintro rfl
   exact (List.nodup_cons.1 (List.nodup_append.1 hN).2.1).1 (.head _)
 have hxg:x≠some g:=by
  rcases hxin with e|⟨d,hd,e⟩
  ·rw[e];simp
  ·rw[e];intro q;cases q;exact h.ne hd rfl
 have hyg:y≠some g:=by
  rcases hyin with e|⟨d,hd,e⟩
  ·rw[e];simp
  ·rw[e];intro q;cases q;exact h.ne hd rfl
 have c2:w.cell? ⟨b,2,none⟩=some (.pointer (some ⟨aB g x,aO x,none⟩)):=by have:=K1.l;rwa [rP,rA_eq] at this
 have c3:w.cell? ⟨b,3,none⟩=some (.pointer (some ⟨aB g y,aO y,none⟩)):=by have:=K3.e;rwa [rP,rA_eq] at this
 have cx:w.cell? ⟨aB g x,aO x+3,none⟩=some (rP g (some b)):=by have:=K1.e;rwa [rE_eq] at this
 have cy:w.cell? ⟨aB g y,aO y+2,none⟩=some (rP g (some b)):=by have:=K3.l;rwa [rL_eq] at this
 refine (take_any w c b _ _ _ _ _ _ c2 c3 cx cy (h.free hxin _) (h.free hyin _) hxb hyb (.inr (aO_ne x y))).mono ?_
 rintro e w' ⟨rfl,ht⟩
 rw[←rL_eq,←rE_eq,←rA_eq,←rA_eq] at ht
 have hj:Joined w w' g x y:=joined_of ht (by rw[rL_eq];exact cy) (by rw[rE_eq];exact cx)
 have hsub:∀ z∈l++r,z∈l++(b,k,v) :: r:=by
  intro z hz
  rcases List.mem_append.1 hz with hz|hz
  ·exact List.mem_append_left _ hz
  ·exact List.mem_append_right _ (.tail _ hz)
 refine⟨rfl,h.turn ht hsub (fun d hd=>rL_block hd) (fun d hd=>rE_block hd) (rL_ends hyg) (rE_ends hxg) ?_ ?_,(h.nodes (b,k,v) (by simp)).two ht (rL_block hbg) (rE_block hbg),?_,?_⟩
 ·rw[List.map_append]
  refine Chn.take hC (fun c _=>by simp) hN ?_
  rw[←hx,←hy];exact hj
 ·rw[List.map_append]
  exact hN.sublist (List.Sublist.append_left (List.sublist_cons_self _ _) _)
 ·refine ht.fr.weak fun i _ hi=>?_
  rcases hi with rfl|rfl
  ·rcases hyin with e|⟨d,hd,e⟩
   ·rw[e];exact .inl rfl
   ·rw[e];exact .inr hd
  ·rcases hxin with e|⟨d,hd,e⟩
   ·rw[e];exact .inl rfl
   ·rw[e];exact .inr hd
 ·rcases ht with rfl|rfl <;> (simp only[World.setCell,Array.size_modify];rfl)
theorem Two.size {w w':World} {p q:Addr} {u v:Value} (h:Two w w' p u q v):w'.heap.size=w.heap.size:=by
 rcases h with rfl|rfl <;> (simp only[World.setCell,Array.size_modify];rfl)
theorem front_ring (w:World) (g m n:Nat) (ps:List (Nat×ByteArray×Value)) (b:Nat) (k:ByteArray) (v:Value) (h:RingIs w g m n ps) (hb:b ∉ ps.map (·.1)) (hB:Node w b k v) :
  Calls prog 184 #[.pointer (some ⟨g,0,none⟩),.pointer (some ⟨b,0,none⟩)] w (fun e w'=>e=.returned (.tuple #[])∧RingIs w' g m n ((b,k,v) :: ps)∧Fr (fun i=>i=g∨i=b∨i∈ps.map (·.1)) w w'∧w'.heap.size=w.heap.size):=by
 have hbg:=hB.ne h.ends
 obtain⟨y,hy⟩:∃ y,y=(ps.map (·.1)).head?:=⟨_,rfl⟩
 have K:=h.chn.first
 rw[←hy] at K
 have hyin:y=none∨∃ d∈ps.map (·.1),y=some d:=by
  cases ps with
  | nil=>exact .inl hy
  | cons z r=>exact .inr ⟨z.1,by simp,hy⟩
 have hyb:b≠aB g y:=by
  rcases hyin with e|⟨d,hd,e⟩
  ·rw[e];exact hbg
  ·rw[e];rintro rfl;exact hb hd
 have hyg:y≠some g:=by
  rcases hyin with e|⟨d,hd,e⟩
  ·rw[e];simp
  ·rw[e];intro q;cases q;exact h.ne hd rfl
 obtain⟨l0,e0,hb0⟩:=id hB
 have c2:w.cell? ⟨b,2,none⟩=some (.pointer l0):=cell_heap hb0 2 rfl
 have c3:w.cell? ⟨b,3,none⟩=some (.pointer e0):=cell_heap hb0 3 rfl
 have c5:w.cell? ⟨g,5,none⟩=some (.pointer (some ⟨aB g y,aO y,none⟩)):=by have:=K.e;rwa [rP,rA_eq] at this
 have cy:w.cell? ⟨aB g y,aO y+2,none⟩=some (rP g none):=by have:=K.l;rwa [rL_eq] at this
 refine (front_any w g b _ _ _ _ _ c2 c3 c5 cy (hB.free _) (hB.free _) (h.ends.free _) (h.free hyin _) hbg hyb (.inr (aO_ne5 y))).mono ?_
 rintro e w' ⟨rfl,w1,h1,h2⟩
 rw[←rA_eq] at h1
 rw[←rL_eq] at h2
 have n23:(⟨b,2,none⟩:Addr)≠⟨b,3,none⟩:=by simp
 have hyb2:rL g y≠⟨b,2,none⟩:=by rw[rL_eq];intro q;injection q with q;exact hyb q.symm
 have hyb3:rL g y≠⟨b,3,none⟩:=by rw[rL_eq];intro q;injection q with q;exact hyb q.symm
 have hg2:(⟨g,5,none⟩:Addr)≠⟨b,2,none⟩:=by intro q;injection q with q;exact hbg q.symm
 have hg3:(⟨g,5,none⟩:Addr)≠⟨b,3,none⟩:=by intro q;injection q with q;exact hbg q.symm
 have hy5:rL g y≠⟨g,5,none⟩:=(rE_ne_rL g none y).symm
 have q2:=h1.left c2 n23
 have q3:=h1.right c3 n23
 have q5:=(h1.other hg2 hg3).trans c5
 have qy:w1.cell? (rL g y)=some (rP g none):=(h1.other hyb2 hyb3).trans (by rw[rL_eq];exact cy)
 have hf:Fronted w w' g b y:=by
  refine⟨⟨h2.right q5 hy5,(h2.other hyb2.symm hg2.symm).trans q2⟩,⟨(h2.other hyb3.symm hg3.symm).trans q3,h2.left qy hy5⟩,fun p p1 p2 p3 p4=>?_⟩
  exact (h2.other p4 p1).trans (h1.other p2 p3)
 have N1:∀ d k v,d≠g→Node w d k v→Node w' d k v:=by
  intro d k v hd hN
  refine (hN.two h1 (fun e=>.inl (by cases e;rfl)) (fun e=>.inr (by cases e;rfl))).two h2 (rL_block hd) (fun e=>absurd e.symm hd)
 have E1:Ends w' g m n:=(h.ends.two h1 (fun e=>absurd e hbg) (fun e=>absurd e hbg)).two h2 (rL_ends hyg) (fun _=>.inr rfl)
 refine⟨rfl,⟨E1,?_,?_,?_⟩,?_,h2.size.trans h1.size⟩
 ·intro p hp
  rcases List.mem_cons.1 hp with rfl|hp
  ·exact N1 _ _ _ hbg hB
  ·exact N1 _ _ _ (h.ne (List.mem_map_of_mem hp)) (h.nodes p hp)
 ·refine Chn.front h.chn hb h.nd ?_
  rw[←hy];exact hf
 ·exact List.nodup_cons.2 ⟨hb,h.nd⟩
 ·refine Fr.trans (h1.fr.weak fun i _ hi=>?_) (h2.fr.weak fun i _ hi=>?_)
  ·rcases hi with rfl|rfl <;> exact .inr (.inl rfl)
  ·rcases hi with rfl|rfl
   ·rcases hyin with e|⟨d,hd,e⟩
    ·rw[e];exact .inl rfl
    ·rw[e];exact .inr (.inr hd)
   ·exact .inl rfl
end
section
structure OutT where
 blk:Option Nat
instance noOut:Inhabited OutT:=⟨⟨none⟩⟩
section
variable [Inhabited OutT]
def Out.blk:Option Nat:=(default:OutT).blk
def OwnB (w:World) (base:Nat) (v:Value) (l:List UInt8):Prop:=OwnBytes w base v l∧∀ z,Out.blk=some z→v.ownBlock≠some z
theorem OwnB.same {w w':World} {base:Nat} {v:Value} {l:List UInt8} (h:OwnB w base v l) (hs:∀ (k:Nat) (C:Array Value) (fz:Nat×Nat),w.heap[k]?=some (Obj.cells C 5 fz)→w'.heap[k]?=w.heap[k]?):OwnB w' base v l:=⟨h.1.same hs,h.2⟩
theorem OwnB.below {w w':World} {base:Nat} {v:Value} {l:List UInt8} (h:OwnB w base v l) (hb:Below w.heap.size w w'):OwnB w' base v l:=⟨h.1.below hb,h.2⟩
theorem OwnB.new {w:World} {base:Nat} {v:Value} {l:List UInt8} (h:OwnBytes w base v l) (hb:∀ z,Out.blk=some z→z<base):OwnB w 0 v l:=by
 refine⟨h.mono (Nat.zero_le _),fun z hz e=>?_⟩
 have hlt:=hb z hz
 rcases h with ⟨rfl,_⟩|⟨b,off,c,C,fz,rfl,_,h2,_⟩
 ·cases e
 ·simp[Value.ownBlock] at e
  omega
structure CEnt where
 b:Nat
 key:ByteArray
 val:Value
 data:List UInt8
def CEnt.tri (q:CEnt):Nat×ByteArray×Value:=(q.b,q.key,q.val)
def CEnt.kv (q:CEnt):Kv:=(q.key,q.data)
def cfind (qs:List CEnt) (s:ByteArray):Option CEnt:=qs.find? fun q=>decide (q.key=s)
def cget (qs:List CEnt) (s:ByteArray):Option Value:=(cfind qs s).map fun q=>.pointer (some ⟨q.b,0,none⟩)
structure CacheIs (w:World) (g m:Nat) (c:Cch) (qs:List CEnt):Prop where
 ring:RingIs w g m c.most (qs.map CEnt.tri)
 items:c.items=qs.map CEnt.kv
 vals:∀ q∈qs,OwnB w 0 q.val q.data
 km:KmAt w 9 m (cget qs) qs.length
 keys:(qs.map (·.key)).Nodup
 small:∀ q∈qs,q.key.size≤maxLen
 fits:qs.length≤c.most
 most:c.most≤maxLen
def cacheS (g m:Nat) (qs:List CEnt) (k:Nat):Prop:=k=g∨k=m∨k∈qs.map (·.b)
theorem tri_fst (qs:List CEnt):(qs.map CEnt.tri).map (·.1)=qs.map (·.b):=by have:=(inferInstance:Inhabited OutT);simp[CEnt.tri]
theorem kvGet_kv (qs:List CEnt) (s:ByteArray):kvGet (qs.map CEnt.kv) s=(cfind qs s).map (·.data):=by
 have:=(inferInstance:Inhabited OutT)
 unfold kvGet cfind
 rw[List.find?_map]
 simp only[Option.map_map]
 rfl
theorem cfind_split {qs:List CEnt} {s:ByteArray} {q:CEnt} (h:cfind qs s=some q):q.key=s∧∃ l r,qs=l++q :: r∧∀ x∈l,x.key≠s:=by
 have:=(inferInstance:Inhabited OutT)
 unfold cfind at h
 obtain⟨h1,l,r,h2,h3⟩:=List.find?_eq_some_iff_append.1 h
 exact⟨by simpa using h1,l,r,h2,fun x hx=>by simpa using h3 x hx⟩
theorem cfind_none {qs:List CEnt} {s:ByteArray} (h:cfind qs s=none):∀ x∈qs,x.key≠s:=by
 have:=(inferInstance:Inhabited OutT)
 unfold cfind at h
 intro x hx
 have:=List.find?_eq_none.1 h x hx
 simpa using this
theorem kvDrop_kv (qs:List CEnt) (s:ByteArray):kvDrop (qs.map CEnt.kv) s=(qs.filter fun q=>!decide (q.key=s)).map CEnt.kv:=by
 have:=(inferInstance:Inhabited OutT)
 unfold kvDrop
 rw[List.filter_map]
 rfl
theorem drop_split {l r:List CEnt} {q:CEnt} {s:ByteArray} (hq:q.key=s) (hn:((l++q :: r).map (·.key)).Nodup):(l++q :: r).filter (fun x=>!decide (x.key=s))=l++r:=by
 have:=(inferInstance:Inhabited OutT)
 have h1:∀ x∈l++r,(!decide (x.key=s))=true:=by
  intro x hx
  have hne:x.key≠s:=by
   intro e
   have hn':((q :: (l++r)).map (·.key)).Nodup:=(List.Perm.nodup_iff (List.Perm.map _ List.perm_middle)).1 hn
   rw[List.map_cons,List.nodup_cons] at hn'
   exact hn'.1 (by rw[hq,←e];exact List.mem_map_of_mem hx)
  simp[hne]
 rw[List.filter_append,List.filter_cons,if_neg (by simp[hq]),←List.filter_append]
 exact List.filter_eq_self.2 h1
end
end
section
section
variable [Inhabited OutT]
theorem km_notIn {w:World} {k:TypeId} {m n g:Nat} {get:ByteArray→Option Value} {mo:Nat} {ps:List (Nat×ByteArray×Value)} (h:KmAt w k m get n) (hr:RingIs w g m mo ps):m≠g∧m ∉ ps.map (·.1):=by
 have:=(inferInstance:Inhabited OutT)
 obtain⟨D,⟨es,c,hb,_⟩,_⟩:=h.ex
 refine⟨?_,fun hm=>?_⟩
 ·rintro rfl
  obtain⟨l,e,h2⟩:=hr.ends
  rw[hb] at h2
  cases h2
 ·obtain⟨k',v,_,l,e,h2⟩:=hr.node hm
  rw[hb] at h2
  cases h2
theorem ring_noBytes {w:World} {g m n:Nat} {ps:List (Nat×ByteArray×Value)} (h:RingIs w g m n ps):NoBytes w (fun i=>i=g∨i∈ps.map (·.1)):=by
 have:=(inferInstance:Inhabited OutT)
 intro k C fz hk hs
 rcases hs with rfl|hs
 ·obtain⟨l,e,h2⟩:=h.ends
  rw[hk] at h2
  cases h2
 ·obtain⟨k',v,_,l,e,h2⟩:=h.node hs
  rw[hk] at h2
  cases h2
def getPost (w:World) (g m:Nat) (c:Cch) (qs:List CEnt) (k:ByteArray) (e:Ending) (w':World):Prop:=
 (cfind qs k=none∧e=.returned (.tuple #[.slice none 0 0,.bool false])∧w'=w)∨
 ∃ q qs',cfind qs k=some q∧e=.returned (.tuple #[q.val,.bool true])∧CacheIs w' g m (cacheGet c k) qs'∧q∈qs'∧Fr (cacheS g m qs) w w'∧w'.heap.size=w.heap.size∧∀ i,cacheS g m qs' i↔cacheS g m qs i
theorem get_none (w:World) (g m:Nat) (c:Cch) (qs:List CEnt) (k:ByteArray) (h:CacheIs w g m c qs) (hk:k.size≤maxLen) (hf:cfind qs k=none) :
  Calls prog 146 #[.pointer (some ⟨g,0,none⟩),.string k] w (getPost w g m c qs k):=by
 have hc1:=h.ring.ends.all
 have hcg:cget qs k=none:=by simp[cget,hf]
 have KM:=zh h.km
 go_enter func146,ntmps146
 go_wp2_with (first|(at_lookup;refine wpList_kmLook _ rfl _ _ 241 rfl 9 242 underlying9 underlying241 (z:=.pointer none) rfl m qs.length (cget qs) rfl KM.o k rfl hk ?_;rw[hcg];simp only[Option.getD,Option.isSome])|fail)
 refine bodyPost_ret (results_tmp2 rfl _ _ _) rfl ?_
 exact .inl ⟨hf,rfl,rfl⟩
theorem key_inj {qs:List CEnt} (hn:(qs.map (·.key)).Nodup) {x y:CEnt} (hx:x∈qs) (hy:y∈qs) (e:x.key=y.key):x=y:=by
 have:=(inferInstance:Inhabited OutT)
 induction qs with
 | nil=>cases hx
 | cons a qs ih=>
  rw[List.map_cons,List.nodup_cons] at hn
  rcases List.mem_cons.1 hx with h1|h1
  ·rcases List.mem_cons.1 hy with h2|h2
   ·rw[h1,h2]
   ·subst h1
    exact absurd (List.mem_map.2 ⟨y,h2,e.symm⟩) hn.1
  ·rcases List.mem_cons.1 hy with h2|h2
   ·subst h2
    exact absurd (List.mem_map.2 ⟨x,h1,e⟩) hn.1
   ·exact ih hn.2 h1 h2
theorem cfind_iff {qs:List CEnt} (hn:(qs.map (·.key)).Nodup) {s:ByteArray} {q:CEnt}:cfind qs s=some q↔q∈qs∧q.key=s:=by
 constructor
 ·intro h
  obtain⟨h1,l,r,rfl,_⟩:=cfind_split h
  exact⟨by simp,h1⟩
 ·rintro ⟨h1,h2⟩
  cases h:cfind qs s with
  | none=>exact absurd h2 (cfind_none h q h1)
  | some x=>
   obtain⟨h3,l,r,h4,_⟩:=cfind_split h
   rw[key_inj hn (x:=x) (y:=q) (by rw[h4];simp) h1 (h3.trans h2.symm)]
theorem cfind_congr {qs rs:List CEnt} (hn:(qs.map (·.key)).Nodup) (hm:(rs.map (·.key)).Nodup) (h:∀ x,x∈qs↔x∈rs) (s:ByteArray):cfind qs s=cfind rs s:=by
 cases h1:cfind rs s with
 | none=>
  cases h2:cfind qs s with
  | none=>rfl
  | some x=>exact absurd ((cfind_iff hn).1 h2).2 (cfind_none h1 x ((h x).1 ((cfind_iff hn).1 h2).1))
 | some x=>exact (cfind_iff hn).2 ⟨(h x).2 ((cfind_iff hm).1 h1).1,((cfind_iff hm).1 h1).2⟩
theorem cget_congr {qs rs:List CEnt} (hn:(qs.map (·.key)).Nodup) (hm:(rs.map (·.key)).Nodup) (h:∀ x,x∈qs↔x∈rs):cget qs=cget rs:=by
 funext s
 unfold cget
 rw[cfind_congr hn hm h]
theorem CacheIs.got {w w':World} {g m:Nat} {c:Cch} {l r:List CEnt} {q:CEnt} (h:CacheIs w g m c (l++q :: r)) (hr:RingIs w' g m c.most ((q :: (l++r)).map CEnt.tri)) (hf:Fr (fun i=>i=g∨i∈((l++q :: r).map CEnt.tri).map (·.1)) w w') :
  CacheIs w' g m (cacheGet c q.key) (q :: (l++r)):=by
 have hp:(l++q :: r).Perm (q :: (l++r)):=List.perm_middle
 have hk:((q :: (l++r)).map (·.key)).Nodup:=(List.Perm.nodup_iff (hp.map _)).1 h.keys
 have hmem:∀ x,x∈q :: (l++r)↔x∈l++q :: r:=fun x=>hp.symm.mem_iff
 have hg:kvGet c.items q.key=some q.data:=by
  rw[h.items,kvGet_kv,(cfind_iff h.keys).2 ⟨by simp,rfl⟩];rfl
 have hlen:(q :: (l++r)).length=(l++q :: r).length:=hp.symm.length_eq
 have ec:cacheGet c q.key={ c with items:=(q.key,q.data) :: kvDrop c.items q.key }:=by unfold cacheGet;rw[hg]
 have hkm:=h.km
 rw[←cget_congr hk h.keys hmem,←hlen] at hkm
 have hni:=km_notIn h.km h.ring
 refine⟨by rw[ec];exact hr,?_,fun x hx=>?_,hkm.fr hf (by rintro (e|e);exact hni.1 e;exact hni.2 e),hk,fun x hx=>h.small x ((hmem x).1 hx),?_,by rw[ec];exact h.most⟩
 ·rw[ec]
  show (q.key,q.data) :: kvDrop c.items q.key=_
  rw[h.items,kvDrop_kv,drop_split rfl h.keys]
  rfl
 ·exact (h.vals x ((hmem x).1 hx)).same fun k C fz hk=>hf.block k (lt_of_heap hk) (ring_noBytes h.ring k C fz hk)
 ·rw[ec,hlen];exact h.fits
theorem get_some (w:World) (g m:Nat) (c:Cch) (l r:List CEnt) (q:CEnt) (h:CacheIs w g m c (l++q :: r)) (hk:q.key.size≤maxLen) :
  Calls prog 146 #[.pointer (some ⟨g,0,none⟩),.string q.key] w (getPost w g m c (l++q :: r) q.key):=by
 have hc1:=h.ring.ends.all
 have hf:cfind (l++q :: r) q.key=some q:=(cfind_iff h.keys).2 ⟨by simp,rfl⟩
 have hcg:cget (l++q :: r) q.key=some (.pointer (some ⟨q.b,0,none⟩)):=by simp[cget,hf]
 have hr:RingIs w g m c.most (l.map CEnt.tri++(q.b,q.key,q.val) :: r.map CEnt.tri):=by have:=h.ring;rwa [List.map_append,List.map_cons] at this
 have KM:=zh h.km
 have hnb:q.b ∉ (l.map CEnt.tri++r.map CEnt.tri).map (·.1):=by
  have h1:=hr.nd
  have h2:((l.map CEnt.tri++(q.b,q.key,q.val) :: r.map CEnt.tri).map (·.1)).Perm (q.b :: (l.map CEnt.tri++r.map CEnt.tri).map (·.1)):=by
   have:=(List.perm_middle (a:=(q.b,q.key,q.val)) (l₁:=l.map CEnt.tri) (l₂:=r.map CEnt.tri)).map (·.1)
   exact this
  exact (List.nodup_cons.1 ((List.Perm.nodup_iff h2).1 h1)).1
 have HR:=zh hr
 have HNB:=zh hnb
 clear hnb
 go_enter func146,ntmps146
 go_wp2_with (first
  | (at_lookup;refine wpList_kmLook _ rfl _ _ 241 rfl 9 242 underlying9 underlying241 (z:=.pointer none) rfl m (l++q :: r).length (cget (l++q :: r)) rfl KM.o q.key rfl hk ?_;rw[hcg];simp only[Option.getD,Option.isSome])
  | (go_at_call 183;refine (take_ring w g m c.most _ _ q.b q.key q.val HR.o _).mono ?_;rintro e w1 ⟨rfl,hr1,hn1,hf1,hs1⟩;have HR1:=zh hr1;have HN1:=zh hn1;have HF1:=zh hf1;have HS1:=zh hs1;clear hr1 hn1 hf1 hs1)
  | (go_at_call 184;refine (front_ring _ g m c.most _ q.b q.key q.val HR1.o HNB.o HN1.o).mono ?_;rintro e w2 ⟨rfl,hr2,hf2,hs2⟩;have HV:=(hr2.nodes _ (.head _)).val;have HR2:=zh hr2;have HF2:=zh hf2;have HS2:=zh hs2;clear hr2 hf2 hs2)
  | fail)
 refine bodyPost_ret (results_tmp2 rfl _ _ _) rfl ?_
 have hin:∀ i,(i=g∨i∈((l.map CEnt.tri++(q.b,q.key,q.val) :: r.map CEnt.tri)).map (·.1))↔(i=g∨i∈((l++q :: r).map CEnt.tri).map (·.1)):=fun i=>by simp[CEnt.tri]
 have hf1:Fr (fun i=>i=g∨i∈((l++q :: r).map CEnt.tri).map (·.1)) w w1:=HF1.o.weak fun i _ hi=>(hin i).1 hi
 have hf2:Fr (fun i=>i=g∨i∈((l++q :: r).map CEnt.tri).map (·.1)) w1 w2:=HF2.o.weak fun i _ hi=>by
  rw[←hin]
  rcases hi with rfl|rfl|hi
  ·exact .inl rfl
  ·exact .inr (by simp)
  ·refine .inr ?_
   simp only[List.map_append,List.map_cons,List.mem_append,List.mem_cons] at hi ⊢
   rcases hi with hi|hi
   ·exact .inl hi
   ·exact .inr (.inr hi)
 have hff:=hf1.trans hf2
 have hr2:RingIs w2 g m c.most ((q :: (l++r)).map CEnt.tri):=by have:=HR2.o;rwa [List.map_cons,List.map_append]
 refine .inr ⟨q,q :: (l++r),hf,rfl,h.got hr2 hff,.head _,hff.weak fun i _ hi=>?_,HS2.o.trans HS1.o,fun i=>?_⟩
 ·rw[tri_fst] at hi
  rcases hi with hi|hi
  ·exact .inl hi
  ·exact .inr (.inr hi)
 ·have hp:((q :: (l++r)).map (·.b)).Perm ((l++q :: r).map (·.b)):=List.perm_middle.symm.map _
  unfold cacheS
  rw[hp.mem_iff]
theorem cget_any (w:World) (g m:Nat) (c:Cch) (qs:List CEnt) (k:ByteArray) (h:CacheIs w g m c qs) (hk:k.size≤maxLen) :
  Calls prog 146 #[.pointer (some ⟨g,0,none⟩),.string k] w (getPost w g m c qs k):=by
 cases hf:cfind qs k with
 | none=>exact get_none w g m c qs k h hk hf
 | some q=>
  obtain⟨rfl,l,r,rfl,_⟩:=cfind_split hf
  exact get_some w g m c l r q h hk
end
end
section
section
variable [Inhabited OutT]
theorem alloc_len (w:World) (o:Obj):(w.alloc o).heap.size=w.heap.size+1:=have:=(inferInstance:Inhabited OutT);Array.size_push _
theorem cnew_any (w:World) (i:Int) (hi:i≤9223372036854775807) :
  Calls prog 82 #[.int .i64 i] w (fun e w'=>∃ g m,e=.returned (.pointer (some ⟨g,0,none⟩))∧CacheIs w' g m ⟨i.toNat,[]⟩ []∧Below w.heap.size w w'∧w.heap.size≤g∧w.heap.size≤m):=by
 have hmm:=@run_makeMap prog
 go_enter func82,ntmps82
 go_upto_region 2 with fail
 first|rw[show (if i<0 then 0 else i)=(i.toNat:Int) by split <;> omega]|rw[show max i 0=(i.toNat:Int) by omega]
 obtain⟨W,hW⟩:∃ W,W=(w.alloc (.map #[] 0)).alloc (.cells #[.int .i64 i.toNat,.map (some w.heap.size),.string ⟨#[]⟩,.slice none 0 0,.pointer none,.pointer none] 246):=⟨_,rfl⟩
 rw[←hW]
 obtain⟨g,hg⟩:∃ g,g=w.heap.size+1:=⟨_,rfl⟩
 rw[←hg]
 have hb:Below w.heap.size w W:=by rw[hW];exact (below_alloc w _).trans ((below_alloc (w.alloc (.map #[] 0)) _).mono (by rw[alloc_len];exact Nat.le_succ _))
 have hend:W.heap[g]?=some (.cells #[.int .i64 i.toNat,.map (some w.heap.size),.string ⟨#[]⟩,.slice none 0 0,.pointer none,.pointer none] 246 (0,0)):=by
  rw[hW,hg,←alloc_len w (.map #[] 0)]
  exact Array.getElem?_push_size
 have hmap:W.heap[w.heap.size]?=some (.map #[] 0):=by
  rw[hW]
  refine (heap_alloc_old _ _ (by rw[alloc_len];exact Nat.lt_succ_self _)).trans ?_
  exact Array.getElem?_push_size
 have c4:W.drew.cell? ⟨g,4,none⟩=some (.pointer none):=cell_heap hend 4 rfl
 have c5:W.drew.cell? ⟨g,5,none⟩=some (.pointer none):=cell_heap hend 5 rfl
 have f4:W.drew.frozen? ⟨g,4,none⟩=false:=frozen_heap hend 4
 have f5:W.drew.frozen? ⟨g,5,none⟩=false:=frozen_heap hend 5
 have k4:(W.setCell ⟨g,5,none⟩ (.pointer (some ⟨g,2,none⟩))).drew.cell? ⟨g,4,none⟩=some (.pointer none):=(World.cell?_setCell_other _ _ _ _ (by simp)).trans c4
 have k5:(W.setCell ⟨g,5,none⟩ (.pointer (some ⟨g,2,none⟩))).drew.frozen? ⟨g,4,none⟩=false:=(World.frozen?_setCell _ _ _ _).trans f4
 have HW:=zh hW
 have HB:=zh hb
 have HE:=zh hend
 have HM:=zh hmap
 have HG:=zh hg
 clear hW hb hend hmap hg
 go_region
 obtain⟨W2,hW2⟩:∃ W2,W2=((W.setCell ⟨g,5,none⟩ (.pointer (some ⟨g,2,none⟩))).setCell ⟨g,4,none⟩ (.pointer (some ⟨g,2,none⟩))).drew:=⟨_,rfl⟩
 rw[←hW2]
 have hT:Two W W2 ⟨g,5,none⟩ (.pointer (some ⟨g,2,none⟩)) ⟨g,4,none⟩ (.pointer (some ⟨g,2,none⟩)):=.inl hW2
 have HT:=zh hT
 clear hW2 hT
 go_wp2
 refine bodyPost_ret (results_tmp rfl _ _ _) rfl ?_
 have n54:(⟨g,5,none⟩:Addr)≠⟨g,4,none⟩:=by simp
 have hgm:w.heap.size≠g:=by rw[HG.o];exact Nat.ne_of_lt (Nat.lt_succ_self _)
 have hE:Ends W g w.heap.size i.toNat:=⟨none,none,HE.o⟩
 refine⟨g,w.heap.size,rfl,⟨⟨hE.two HT.o (fun _=>.inr rfl) (fun _=>.inl rfl),fun p hp=>(by cases hp),⟨HT.o.left c5 n54,HT.o.right c4 n54⟩,List.nodup_nil⟩,rfl,fun q hq=>(by cases hq),?_,List.nodup_nil,fun q hq=>(by cases hq),Nat.zero_le _,?_⟩,?_,by rw[HG.o];exact Nat.le_succ _,Nat.le_refl _⟩
 ·have h1:=(KmAt.made_at W 9 HM.o).fr HT.o.fr (by rintro (e|e) <;> exact hgm e)
  exact h1
 ·show i.toNat≤maxLen
  have:maxLen=9223372036854775807:=rfl
  omega
 ·refine⟨HT.o.fr.os.trans HB.o.os,HT.o.fr.tape.trans HB.o.tape,HT.o.fr.output.trans HB.o.output,Nat.le_trans HB.o.size HT.o.fr.size,fun k hk=>?_⟩
  refine (HT.o.fr.block k (Nat.lt_of_lt_of_le hk HB.o.size) ?_).trans (HB.o.block k hk)
  rintro (e|e) <;> (have e:k=g:=e;have:=HG.o;omega)
end
end
section
section
variable [Inhabited OutT]
def putPost (w:World) (g m:Nat) (c:Cch) (qs:List CEnt) (k:ByteArray) (dat:List UInt8) (e:Ending) (w':World):Prop:=
 e=.returned (.tuple #[])∧∃ qs',CacheIs w' g m (cachePut c k dat) qs'∧qs'.length≤qs.length+1∧Fr (cacheS g m qs) w w'∧∀ i,i<w.heap.size→cacheS g m qs' i→cacheS g m qs i
theorem CacheIs.fr {w w':World} {g m:Nat} {c:Cch} {qs:List CEnt} (h:CacheIs w g m c qs) {S:Nat→Prop} (hf:Fr S w w') (hs:∀ i,cacheS g m qs i→¬ S i) (hn:NoBytes w S):CacheIs w' g m c qs:=by
 have hb:∀ q∈qs,¬ S q.b:=fun q hq=>hs _ (.inr (.inr (List.mem_map_of_mem hq)))
 have hg:¬ S g:=hs _ (.inl rfl)
 have hE:w'.heap[g]?=w.heap[g]?:=by
  obtain⟨l,e,h2⟩:=h.ring.ends
  exact hf.block g (lt_of_heap h2) hg
 have hN:∀ b∈(qs.map CEnt.tri).map (·.1),w'.heap[b]?=w.heap[b]?:=by
  intro b hb'
  obtain⟨k,v,_,l,e,h2⟩:=h.ring.node hb'
  rw[tri_fst] at hb'
  exact hf.block b (lt_of_heap h2) (hs _ (.inr (.inr hb')))
 refine⟨⟨h.ring.ends.below hE,fun p hp=>(h.ring.nodes p hp).below (hN _ (List.mem_map_of_mem hp)),?_,h.ring.nd⟩,h.items,fun q hq=>?_,h.km.fr hf (hs _ (.inr (.inl rfl))),h.keys,h.small,h.fits,h.most⟩
 ·refine h.ring.chn.agree (fun y hy=>?_) (fun y hy=>?_)
  ·rcases hy with rfl|⟨b,hb',rfl⟩
   ·exact World.cell?_of_block (w:=w) hE
   ·exact World.cell?_of_block (w:=w) (hN b hb')
  ·rcases hy with rfl|⟨b,hb',rfl⟩
   ·exact World.cell?_of_block (w:=w) hE
   ·exact World.cell?_of_block (w:=w) (hN b hb')
 ·exact (h.vals q hq).same fun k C fz hk=>hf.block k (lt_of_heap hk) (hn k C fz hk)
theorem cput_zero (w:World) (g m:Nat) (c:Cch) (qs:List CEnt) (k:ByteArray) (v:Value) (dat:List UInt8) (h:CacheIs w g m c qs) (h0:c.most=0) :
  Calls prog 145 #[.pointer (some ⟨g,0,none⟩),.string k,v] w (putPost w g m c qs k dat):=by
 have hm:=h.ring.ends.most
 rw[h0] at hm
 have H:=zh h
 clear h
 go_enter func145,ntmps145
 go_wp2
 refine bodyPost_ret (results_none rfl _ _ _) rfl ⟨rfl,qs,?_,Nat.le_succ _,Fr.refl _ _,fun _ _ hi=>hi⟩
 unfold cachePut
 rw[if_pos h0]
 exact H.o
theorem RingIs.fr {w w':World} {g m n:Nat} {ps:List (Nat×ByteArray×Value)} (h:RingIs w g m n ps) {S:Nat→Prop} (hf:Fr S w w') (hg:¬ S g) (hs:∀ b∈ps.map (·.1),¬ S b):RingIs w' g m n ps:=by
 have:=(inferInstance:Inhabited OutT)
 have hE:w'.heap[g]?=w.heap[g]?:=by
  obtain⟨l,e,h2⟩:=h.ends
  exact hf.block g (lt_of_heap h2) hg
 have hN:∀ b∈ps.map (·.1),w'.heap[b]?=w.heap[b]?:=by
  intro b hb'
  obtain⟨k,v,_,l,e,h2⟩:=h.node hb'
  exact hf.block b (lt_of_heap h2) (hs b hb')
 refine⟨h.ends.below hE,fun p hp=>(h.nodes p hp).below (hN _ (List.mem_map_of_mem hp)),h.chn.agree (fun y hy=>?_) (fun y hy=>?_),h.nd⟩
 ·rcases hy with rfl|⟨b,hb',rfl⟩
  ·exact World.cell?_of_block (w:=w) hE
  ·exact World.cell?_of_block (w:=w) (hN b hb')
 ·rcases hy with rfl|⟨b,hb',rfl⟩
  ·exact World.cell?_of_block (w:=w) hE
  ·exact World.cell?_of_block (w:=w) (hN b hb')
theorem RingIs.lt {w:World} {g m n:Nat} {ps:List (Nat×ByteArray×Value)} (h:RingIs w g m n ps) {b:Nat} (hb:b∈ps.map (·.1)):b<w.heap.size:=by
 have:=(inferInstance:Inhabited OutT)
 obtain⟨k,v,_,l,e,h2⟩:=h.node hb
 exact lt_of_heap h2
theorem node_made (w:World) (k:ByteArray) (v:Value):Node (w.alloc (.cells #[.string k,v,.pointer none,.pointer none] 244)) w.heap.size k v:=have:=(inferInstance:Inhabited OutT);⟨none,none,Array.getElem?_push_size⟩
theorem made_facts {w1 w2:World} {k:ByteArray} {v:Value} (h:w2=w1.alloc (.cells #[.string k,v,.pointer none,.pointer none] 244)):Fr (fun _=>False) w1 w2∧Node w2 w1.heap.size k v:=by
 subst h
 exact⟨Fr.ofBelow (below_alloc _ _),node_made _ _ _⟩
theorem CacheIs.newer {w w':World} {g m b:Nat} {c:Cch} {qs rs:List CEnt} {k:ByteArray} {v:Value} {dat:List UInt8} (h:CacheIs w g m c qs) (hsub:∀ x∈rs,x∈qs) (hn:(rs.map (·.key)).Nodup) (hk:∀ x∈rs,x.key≠k) (hks:k.size≤maxLen) (hl:rs.length+1≤c.most)
  (hr:RingIs w' g m c.most ((b,k,v) :: rs.map CEnt.tri)) (hv:OwnB w' 0 v dat) (hvs:∀ x∈rs,OwnB w' 0 x.val x.data) {get:ByteArray→Option Value} (hkm:KmAt w' 9 m get (rs.length+1))
  (hget:∀ u,get u=if u=k then some (.pointer (some ⟨b,0,none⟩)) else cget rs u):CacheIs w' g m { c with items:=(k,dat) :: rs.map CEnt.kv } (⟨b,k,v,dat⟩ :: rs):=by
 have he:get=cget (⟨b,k,v,dat⟩ :: rs):=by
  funext u
  rw[hget u]
  unfold cget cfind
  by_cases e:u=k
  ·rw[if_pos e,List.find?_cons_of_pos (by simp[e])];rfl
  ·rw[if_neg e,List.find?_cons_of_neg (by simp;exact fun q=>e q.symm)]
 rw[he] at hkm
 refine⟨hr,rfl,fun q hq=>?_,hkm,?_,fun q hq=>?_,hl,h.most⟩
 ·rcases List.mem_cons.1 hq with rfl|hq
  ·exact hv
  ·exact hvs q hq
 ·rw[List.map_cons,List.nodup_cons]
  refine⟨fun hm=>?_,hn⟩
  obtain⟨x,hx,e⟩:=List.mem_map.1 hm
  exact hk x hx e
 ·rcases List.mem_cons.1 hq with rfl|hq
  ·exact hks
  ·exact h.small q (hsub q hq)
theorem cache_noBytes {w:World} {g m:Nat} {c:Cch} {qs:List CEnt} (h:CacheIs w g m c qs):NoBytes w (cacheS g m qs):=by
 intro k C fz hk hs
 rcases hs with rfl|rfl|hs
 ·exact ring_noBytes h.ring _ C fz hk (.inl rfl)
 ·obtain⟨D,⟨es,cl,hb,_⟩,_⟩:=h.km.ex
  rw[hk] at hb
  cases hb
 ·exact ring_noBytes h.ring _ C fz hk (.inr (by rw[tri_fst];exact hs))
theorem cget_skip {l r:List CEnt} {q:CEnt} {u:ByteArray} (h:u≠q.key):cget (l++q :: r) u=cget (l++r) u:=by
 have:=(inferInstance:Inhabited OutT)
 unfold cget cfind
 rw[List.find?_append,List.find?_append,List.find?_cons_of_neg (by simp;exact fun e=>h e.symm)]
theorem cput_have (w:World) (g m:Nat) (c:Cch) (l r:List CEnt) (q:CEnt) (a:Option Addr) (n cc:Nat) (dat:List UInt8) (h:CacheIs w g m c (l++q :: r)) (hv:OwnB w 0 (.slice a n cc) dat) (h0:c.most≠0) (hk:q.key.size≤maxLen) (hlen:(l++q :: r).length<maxLen) :
  Calls prog 145 #[.pointer (some ⟨g,0,none⟩),.string q.key,.slice a n cc] w (putPost w g m c (l++q :: r) q.key dat):=by
 have hm:=h.ring.ends.most
 have hc1:=h.ring.ends.all
 have hz:((c.most:Int)=0)=False:=by simp[h0]
 have hf:cfind (l++q :: r) q.key=some q:=(cfind_iff h.keys).2 ⟨by simp,rfl⟩
 have hcg:cget (l++q :: r) q.key=some (.pointer (some ⟨q.b,0,none⟩)):=by simp[cget,hf]
 have hr:RingIs w g m c.most (l.map CEnt.tri++(q.b,q.key,q.val) :: r.map CEnt.tri):=by have:=h.ring;rwa [List.map_append,List.map_cons] at this
 have hni:=km_notIn h.km h.ring
 have hmg:m≠g:=hni.1
 have hmr:∀ b∈(l.map CEnt.tri++r.map CEnt.tri).map (·.1),¬ b=m:=by
  rintro b hb rfl
  refine hni.2 ?_
  simp only[List.map_append,List.map_cons,List.mem_append,List.mem_cons] at hb ⊢
  rcases hb with hb|hb
  ·exact .inl hb
  ·exact .inr (.inr hb)
 have hmw:=h.km.lt
 have KM:=zh h.km
 have HR:=zh hr
 have HNI:=zh hni
 have H:=zh h
 have HV:=zh hv
 clear hr hni h hv
 go_enter func145,ntmps145
 go_wp2_with (first
  | (at_lookup;refine wpList_kmLook _ rfl _ _ 241 rfl 9 242 underlying9 underlying241 (z:=.pointer none) rfl m (l++q :: r).length (cget (l++q :: r)) rfl KM.o q.key rfl hk ?_;rw[hcg];simp only[Option.getD,Option.isSome])
  | (go_at_call 183;refine (take_ring w g m c.most _ _ q.b q.key q.val HR.o _).mono ?_;rintro e w1 ⟨rfl,hr1,hn1,hf1,hs1⟩;obtain⟨w2,hw2⟩:∃ w2,w2=w1.alloc (.cells #[.string q.key,.slice a n cc,.pointer none,.pointer none] 244):=⟨_,rfl⟩;obtain⟨hf2,hn2⟩:=made_facts hw2;have hr2:=hr1.fr hf2 id (fun _ _=>id);have hk2:=(KM.o.fr hf1 (by rintro (e|e);exact HNI.o.1 e;exact HNI.o.2 (by simpa [CEnt.tri] using e))).fr hf2 id;have HM2:=hr2.ends.all;rw[hw2] at HM2;have HW2:=zh hw2;have HR2:=zh hr2;have HN2:=zh hn2;have HK2:=zh hk2;have HF1:=zh hf1;have HS1:=zh hs1;have HF2:=zh hf2;have HNB:=zh (fun hb=>Nat.lt_irrefl _ (hr1.lt hb):w1.heap.size ∉ (l.map CEnt.tri++r.map CEnt.tri).map (·.1));clear hr1 hn1 hf1 hs1 hw2 hf2 hr2 hn2 hk2)
  | (at_mapUpdate;rw[←HW2.o];refine wpList_kmPut _ rfl _ _ _ 241 rfl 9 242 underlying9 underlying241 m _ _ rfl HK2.o hlen q.key (.pointer (some ⟨w1.heap.size,0,none⟩)) rfl hk rfl ?_;intro w3 hk3 hf3 hs3;have HK3:=zh hk3;have HF3:=zh hf3;have HS3:=zh hs3;clear hk3 hf3 hs3)
  | (go_at_call 184;refine (front_ring w3 g m c.most _ w1.heap.size q.key (.slice a n cc) (HR2.o.fr HF3.o (fun e=>hmg e.symm) hmr) HNB.o (HN2.o.below (HF3.o.block _ (by obtain⟨_,_,hh⟩:=HN2.o;exact lt_of_heap hh) (by have:=HS1.o;omega)))).mono ?_;rintro e w4 ⟨rfl,hr4,hf4,hs4⟩;have HR4:=zh hr4;have HF4:=zh hf4;have HS4:=zh hs4;clear hr4 hf4 hs4)
  | fail)
 have hin:∀ i,(i=g∨i∈((l.map CEnt.tri++(q.b,q.key,q.val) :: r.map CEnt.tri)).map (·.1))→cacheS g m (l++q :: r) i:=by
  intro i hi
  rcases hi with hi|hi
  ·exact .inl hi
  ·exact .inr (.inr (by simpa [CEnt.tri] using hi))
 have hF1:Fr (cacheS g m (l++q :: r)) w w1:=HF1.o.weak fun i _ hi=>hin i hi
 have hF2:Fr (cacheS g m (l++q :: r)) w w2:=hF1.step HF2.o fun _ _ hi=>hi.elim
 have hF3:Fr (cacheS g m (l++q :: r)) w w3:=hF2.step HF3.o fun _ _ hi=>.inr (.inl hi)
 have hF:Fr (cacheS g m (l++q :: r)) w w4:=hF3.step HF4.o fun i hi hs=>by
  rcases hs with e|e|e
  ·exact .inl e
  ·have:=HS1.o;omega
  ·refine .inr (.inr ?_)
   simp only[List.map_append,List.map_cons,List.mem_append,List.mem_cons,List.map_map] at e ⊢
   rcases e with e|e
   ·exact .inl e
   ·exact .inr (.inr e)
 refine bodyPost_end (results_none rfl _ _ _) rfl ⟨rfl,⟨w1.heap.size,q.key,.slice a n cc,dat⟩ :: (l++r),?_,by simp,hF,?_⟩
 ·have hB:∀ (k:Nat) (C:Array Value) (fz:Nat×Nat),w.heap[k]?=some (Obj.cells C 5 fz)→w4.heap[k]?=w.heap[k]?:=fun k C fz hk=>hF.block k (lt_of_heap hk) (cache_noBytes H.o k C fz hk)
  have hp:(l++q :: r).Perm (q :: (l++r)):=List.perm_middle
  have hks:((q :: (l++r)).map (·.key)).Nodup:=(List.Perm.nodup_iff (hp.map _)).1 H.o.keys
  rw[List.map_cons,List.nodup_cons] at hks
  have hlr:(l++r).length+1=(l++q :: r).length:=by simp;omega
  have hmem:∀ x∈l++r,x∈l++q :: r:=fun x hx=>hp.mem_iff.2 (.tail _ hx)
  have hg:(kvGet c.items q.key).isSome=true:=by rw[H.o.items,kvGet_kv,hf];rfl
  have ec:cachePut c q.key dat={ c with items:=(q.key,dat) :: (l++r).map CEnt.kv }:=by
   unfold cachePut
   rw[if_neg h0,if_pos hg,H.o.items,kvDrop_kv,drop_split rfl H.o.keys]
  rw[ec]
  have hk4:=HK3.o.fr HF4.o (by
   rintro (e|e|e)
   ·exact hmg e
   ·have:=HS1.o;omega
   ·exact hmr _ e rfl)
  rw[hcg] at hk4
  simp only[Option.isSome,if_true] at hk4
  rw[←hlr] at hk4
  refine H.o.newer hmem hks.2 (fun x hx e=>hks.1 (List.mem_map.2 ⟨x,hx,e⟩)) hk (by rw[hlr];exact H.o.fits) ?_ (HV.o.same hB) (fun x hx=>(H.o.vals x (hmem x hx)).same hB) hk4 (fun u=>?_)
  ·rw[List.map_append];exact HR4.o
  ·by_cases e:u=q.key
   ·rw[if_pos e,if_pos e]
   ·rw[if_neg e,if_neg e,cget_skip e]
 ·intro i hi hS
  rcases hS with rfl|rfl|hS
  ·exact .inl rfl
  ·exact .inr (.inl rfl)
  ·rw[List.map_cons,List.mem_cons] at hS
   rcases hS with e|hS
   ·have:=HS1.o
    have e:i=w1.heap.size:=e
    omega
   ·refine .inr (.inr ?_)
    simp only[List.map_append,List.map_cons,List.mem_append,List.mem_cons] at hS ⊢
    rcases hS with h|h
    ·exact .inl h
    ·exact .inr (.inr h)
theorem made_facts2 {w1 w2:World} {k:ByteArray} {v:Value} (h:w2=(w1.alloc (.cells #[.string k,v,.pointer none,.pointer none] 244)).drew):Fr (fun _=>False) w1 w2∧Node w2 w1.heap.size k v:=by
 subst h
 exact⟨(Fr.ofBelow (below_alloc _ _)).drew,node_made _ _ _⟩
theorem KmAt.run_len {w:World} {k:TypeId} {b n:Nat} {get:ByteArray→Option Value} (h:KmAt w k b get n) {t e:TypeId} (ht:prog.underlying t=some (.map k e)) (ty:TypeId):(Builtin.len_ #[t] ty #[.map (some b)]).run prog w=.ok (.int .i64 n) w:=by
 have:=(inferInstance:Inhabited OutT)
 obtain⟨D,hown,hnD,_⟩:=h.ex
 have:=hown.len ht ty
 rwa [hnD] at this
theorem cput_room (w:World) (g m:Nat) (c:Cch) (qs:List CEnt) (k:ByteArray) (a:Option Addr) (n cc:Nat) (dat:List UInt8) (h:CacheIs w g m c qs) (hv:OwnB w 0 (.slice a n cc) dat) (hk:k.size≤maxLen) (hlen:qs.length<c.most) (hf:cfind qs k=none) :
  Calls prog 145 #[.pointer (some ⟨g,0,none⟩),.string k,.slice a n cc] w (putPost w g m c qs k dat):=by
 have hm:=h.ring.ends.most
 have hc1:=h.ring.ends.all
 have h0:c.most≠0:=by omega
 have hz:((c.most:Int)=0)=False:=by simp[h0]
 have hne:((qs.length:Int)=(c.most:Int))=False:=by simp;omega
 have hcg:cget qs k=none:=by simp[cget,hf]
 have hni:=km_notIn h.km h.ring
 have hmw:=h.km.lt
 have dm:w.drew.cell? ⟨g,0,none⟩=some (.int .i64 c.most):=hm
 have dc:w.drew.cell? ⟨g,1,none⟩=some (.map (some m)):=hc1
 have KM:=zh h.km
 have HNI:=zh hni
 have HR:=zh h.ring
 have H:=zh h
 have HV:=zh hv
 have dl:=fun ty=>(h.km.same (w':=w.drew) rfl).run_len underlying241 ty
 have hbe:((qs.length:Int) == (c.most:Int))=false:=by simp;omega
 obtain⟨w2,hw2⟩:∃ w2,w2=(w.alloc (.cells #[.string k,.slice a n cc,.pointer none,.pointer none] 244)).drew:=⟨_,rfl⟩
 obtain⟨hF2,hn2⟩:=made_facts2 hw2
 have hr2:=h.ring.fr hF2 id (fun _ _=>id)
 have hk2:=h.km.fr hF2 id
 have hM2:=hr2.ends.all
 have HM2:=hM2
 rw[hw2] at HM2
 have hmr:∀ b∈(qs.map CEnt.tri).map (·.1),¬ b=m:=by
  rintro b hb rfl
  exact hni.2 hb
 have hmg:=hni.1
 have hnb:w.heap.size ∉ (qs.map CEnt.tri).map (·.1):=fun hb=>Nat.lt_irrefl _ (h.ring.lt hb)
 have hle:qs.length<maxLen:=Nat.lt_of_lt_of_le hlen h.most
 have HR2:=zh hr2
 have HK2:=zh hk2
 have HN2:=zh hn2
 have HF2:=zh hF2
 have HW2:=zh hw2
 have HNB:=zh hnb
 clear hni h hv hw2 hn2 hF2 hr2 hk2 hM2 hnb
 go_enter func145,ntmps145
 go_upto_region 4 with (first
  | (at_lookup;refine wpList_kmLook _ rfl _ _ 241 rfl 9 242 underlying9 underlying241 (z:=.pointer none) rfl m qs.length (cget qs) rfl KM.o k rfl hk ?_;rw[hcg];simp only[Option.getD,Option.isSome])
  | fail)
 go_region
 go_wp2_with (first
  | (at_mapUpdate;rw[←HW2.o];refine wpList_kmPut _ rfl _ _ _ 241 rfl 9 242 underlying9 underlying241 m _ _ rfl HK2.o hle k (.pointer (some ⟨w.heap.size,0,none⟩)) rfl hk rfl ?_;intro w3 hk3 hf3 hs3;have HK3:=zh hk3;have HF3:=zh hf3;have HS3:=zh hs3;clear hk3 hf3 hs3)
  | (go_at_call 184;refine (front_ring w3 g m c.most _ w.heap.size k (.slice a n cc) (HR2.o.fr HF3.o (fun e=>hmg e.symm) hmr) HNB.o (HN2.o.below (HF3.o.block _ (by obtain⟨_,_,hh⟩:=HN2.o;exact lt_of_heap hh) (by omega)))).mono ?_;rintro e w4 ⟨rfl,hr4,hf4,hs4⟩;have HR4:=zh hr4;have HF4:=zh hf4;have HS4:=zh hs4;clear hr4 hf4 hs4)
  | fail)
 have hF2:Fr (cacheS g m qs) w w2:=HF2.o.weak fun _ _ hi=>hi.elim
 have hF3:Fr (cacheS g m qs) w w3:=hF2.step HF3.o fun _ _ hi=>.inr (.inl hi)
 have hF:Fr (cacheS g m qs) w w4:=hF3.step HF4.o fun i hi hs=>by
  rcases hs with e|e|e
  ·exact .inl e
  ·omega
  ·exact .inr (.inr (by rw[tri_fst] at e;exact e))
 have hB:∀ (k:Nat) (C:Array Value) (fz:Nat×Nat),w.heap[k]?=some (Obj.cells C 5 fz)→w4.heap[k]?=w.heap[k]?:=fun k C fz hk=>hF.block k (lt_of_heap hk) (cache_noBytes H.o k C fz hk)
 refine bodyPost_end (results_none rfl _ _ _) rfl ⟨rfl,⟨w.heap.size,k,.slice a n cc,dat⟩ :: qs,?_,by simp,hF,?_⟩
 ·have hg:¬ (kvGet c.items k).isSome=true:=by rw[H.o.items,kvGet_kv,hf];simp
  have hl:¬ c.items.length=c.most:=by rw[H.o.items,List.length_map];omega
  have ec:cachePut c k dat={ c with items:=(k,dat) :: qs.map CEnt.kv }:=by
   unfold cachePut
   rw[if_neg h0,if_neg hg,if_neg hl,H.o.items]
  rw[ec]
  have hk4:=HK3.o.fr HF4.o (by
   rintro (e|e|e)
   ·exact hmg e
   ·omega
   ·exact hmr _ e rfl)
  rw[hcg] at hk4
  simp only[Option.isSome] at hk4
  exact H.o.newer (fun _ hx=>hx) H.o.keys (cfind_none hf) hk hlen HR4.o (HV.o.same hB) (fun x hx=>(H.o.vals x hx).same hB) hk4 (fun u=>rfl)
 ·intro i hi hS
  rcases hS with rfl|rfl|hS
  ·exact .inl rfl
  ·exact .inr (.inl rfl)
  ·rw[List.map_cons,List.mem_cons] at hS
   rcases hS with e|hS
   ·have e:i=w.heap.size:=e
    omega
   ·exact .inr (.inr hS)
end
end
end Go.Proofs.YtefccfakhgdfbabGreatDoor
