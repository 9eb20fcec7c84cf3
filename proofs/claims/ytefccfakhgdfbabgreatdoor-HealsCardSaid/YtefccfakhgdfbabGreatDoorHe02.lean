/- The files of a publisher's entries, and what publishing does to a store: plain. No conditions. -/
import Derived.Test.YtefccfakhgdfbabGreatDoorHe01
import Derived.Lib.ItoaNum
import Derived.Lib.AtoiAll
import Derived.Lib.Split
set_option linter.unusedVariables false
set_option linter.unusedSimpArgs false
open Go.RowKit Go.Proofs.Tryz
set_option maxRecDepth 100000
set_option maxHeartbeats 4000000
namespace Go.Proofs.YtefccfakhgdfbabGreatDoor
section
def mendD (d:Dk):Dk:={ d with failAt:=0,dead:=false,hit:=false }
end
section
def FilesAt (w:World) (v:Value) (l:List (ByteArray×ByteArray)):Prop:=
 ∃ a c,v=.slice a l.length c∧l.length≤c∧∀ j x,l[j]?=some x→∃ b off,a=some ⟨b,off,none⟩∧w.cell? ⟨b,off+j*2,none⟩=some (.string x.1)∧w.cell? ⟨b,off+j*2+1,none⟩=some (.string x.2)
theorem FilesAt.below {w w':World} {v:Value} {l:List (ByteArray×ByteArray)} (h:FilesAt w v l) (hb:Below w.heap.size w w'):FilesAt w' v l:=by
 obtain⟨a,c,hv,hc,hx⟩:=h
 refine⟨a,c,hv,hc,fun j x hj=>?_⟩
 obtain⟨b,off,ha,h1,h2⟩:=hx j x hj
 exact⟨b,off,ha,(hb.cell (cell_lt h1)).trans h1,(hb.cell (cell_lt h2)).trans h2⟩
def addF (acc:List (ByteArray×ByteArray)) (f:ByteArray×ByteArray):List (ByteArray×ByteArray):=if findN acc f.1<acc.length then acc else acc ++ [f]
def firsts (l:List (ByteArray×ByteArray)):List (ByteArray×ByteArray):=l.foldl addF []
def dk0 (l:List (ByteArray×ByteArray)):Dk:=⟨l,0,0,false,false,false,false,false⟩
theorem firsts_len (l:List (ByteArray×ByteArray)):(firsts l).length≤l.length:=by
 have h:∀ (l acc:List (ByteArray×ByteArray)),(l.foldl addF acc).length≤acc.length+l.length:=by
  intro l
  induction l with
  | nil=>intro acc;simp
  | cons a l ih=>
   intro acc
   rw[List.foldl_cons]
   refine Nat.le_trans (ih _) ?_
   unfold addF
   split <;> simp <;> omega
 simpa [firsts] using h l []
theorem firsts_succ {l:List (ByteArray×ByteArray)} {k:Nat} {x:ByteArray×ByteArray} (h:l[k]?=some x):firsts (l.take (k+1))=addF (firsts (l.take k)) x:=by
 have e:l.take (k+1)=l.take k ++ [x]:=by rw[List.take_add_one,h];rfl
 rw[e,firsts,List.foldl_append];rfl
theorem DiskAt.pushed {w w':World} {g:Nat} {v:Value} {d:Dk} (h:DiskAt w g v d) (x:ByteArray×ByteArray) {gb cp:Nat} (hf:Fr (fun k=>v.ownBlock=some k) w w')
  (h2:w'.ownsRow 0 73 2 (.slice (some ⟨gb,0,none⟩) (d.files.length+1) cp) (d.files.length+1) (fileRow d.files ++ [.string x.1,.string x.2])) :
  DiskAt (w'.setCell ⟨g,0,none⟩ (.slice (some ⟨gb,0,none⟩) (d.files.length+1) cp)) g (.slice (some ⟨gb,0,none⟩) (d.files.length+1) cp) { d with files:=d.files ++ [x] }∧
   Fr (dkS g v) w (w'.setCell ⟨g,0,none⟩ (.slice (some ⟨gb,0,none⟩) (d.files.length+1) cp)):=by
 have hgw:=hf.heap h.1 h.parts
 have hne:gb≠g:=by
  rintro rfl
  rcases h2.2 with ⟨e,_⟩|⟨bk,cap',cur',e,_,hb,_⟩
  ·cases e
  ·cases e
   rw[hgw] at hb
   simp at hb
 refine⟨⟨(heap_setCell hgw _).trans (by simp[dkCells]),?_⟩,(hf.weak fun k _ hk=>.inr hk).trans ((Fr.setCell1 w' ⟨g,0,none⟩ _).weak fun k _ hk=>.inl hk)⟩
 show World.ownsRow _ 0 73 2 _ (d.files ++ [x]).length (fileRow (d.files ++ [x]))
 rw[List.length_append,fileRow_snoc]
 exact ownsRow_fr h2 (Fr.setCell1 w' ⟨g,0,none⟩ _) fun k hk e=>by
  simp[Value.ownBlock] at hk
  exact hne (hk.trans e)
theorem newDisk_any (w:World) (va:Value) (l:List (ByteArray×ByteArray)) (h:FilesAt w va l) (hn:l.length≤1073741824) :
  Calls prog 35 #[va] w fun e w'=>∃ g v,e=.returned (.pointer (some ⟨g,0,none⟩))∧DiskAt w' g v (dk0 (firsts l))∧Below w.heap.size w w'∧w.heap.size≤g∧(∀ k,v.ownBlock=some k→w.heap.size≤k):=by
 have HH:=zh h
 obtain⟨a,c,rfl,hc,hx⟩:=h
 have HX:=zh hx
 clear hx
 obtain⟨i,hi,hz,hs,hby⟩:=info_fileE
 have HI:=zh (⟨hi,hz,hs,hby⟩:_∧_∧_∧_)
 clear hi hz hs hby
 go_enter func35,ntmps35
 go_wp2
 go_loopg [5,10] l.length (fun gg _ s10 wr=>∃ kk:Nat,kk≤l.length∧l.length-kk≤gg∧s10=.int .i64 kk∧Aside (Below w.heap.size w wr)∧∃ v,Aside (DiskAt wr w.heap.size v (dk0 (firsts (l.take kk))))∧Aside (∀ k,v.ownBlock=some k→w.heap.size≤k))
 case atStart=>exact⟨0,Nat.zero_le _,by omega,rfl,below_alloc _ _,.slice none 0 0,⟨heap_alloc_new w _,World.ownsRow_nil _ _ _ _⟩,fun k hk=>by simp[Value.ownBlock] at hk⟩
 case round=>
  obtain⟨kk,hkk,hg,rfl,BW,v,HDk,HV⟩:=hrel
  by_cases hlt:kk<l.length
  ·obtain⟨x,hx⟩:∃ x,x=l[kk]:=⟨_,rfl⟩
   have hlx:l[kk]?=some x:=by rw[hx,List.getElem?_eq_getElem hlt]
   obtain⟨b,off,rfl,c1,c2⟩:=HX.o kk x hlx
   have hb:b<w.heap.size:=cell_lt c1
   have d1:wr.cell? ⟨b,off+kk*2,none⟩=some (.string x.1):=(BW.o.cell (p:=⟨b,off+kk*2,none⟩) hb).trans c1
   have d2:wr.cell? ⟨b,off+kk*2+1,none⟩=some (.string x.2):=(BW.o.cell (p:=⟨b,off+kk*2+1,none⟩) hb).trans c2
   have hltz:(kk:Int)<(l.length:Int):=by omega
   have hbr:b<wr.heap.size:=Nat.lt_of_lt_of_le hb BW.o.size
   have HLX:=zh hlx
   clear hx hlx c1 c2
   obtain⟨acc,hacc⟩:∃ acc,acc=firsts (l.take kk):=⟨_,rfl⟩
   have hal:acc.length≤kk:=by rw[hacc];refine Nat.le_trans (firsts_len _) ?_;simp;omega
   have hsucc:firsts (l.take (kk+1))=addF acc x:=by rw[hacc];exact firsts_succ HLX.o
   rw[←hacc] at HDk
   have HS:=zh hsucc
   clear hacc hsucc
   have hd1:=HDk.o.below (below_alloc wr (.cells #[.string x.1,.string x.2] 73))
   have hcon:=find_any _ w.heap.size v (dk0 acc) hd1 x.1
   have HD1:=zh hd1
   clear hd1
   by_cases hf:findN acc x.1<acc.length
   ·have hF:findF acc x.1=findN acc x.1:=by unfold findF;rw[if_pos hf]
    have hadd:addF acc x=acc:=by unfold addF;rw[if_pos hf]
    rw[show findF (dk0 acc).files x.1=findN acc x.1 from hF] at hcon
    have hz:¬ ((findN acc x.1:Nat):Int)<0:=by omega
    have HA:=zh hadd
    clear hF hf hadd
    go_wp2_with (go_at_call 64;refine hcon.mono ?_;rintro e w2 ⟨rfl,hb2⟩;have HB2:=zh hb2;clear hb2)
    go_roundg (l.length-(kk+1))
    case measure=>omega
    case rel=>
     refine⟨kk+1,by omega,by omega,by go_num,(BW.o.trans ((below_alloc wr _).mono BW.o.size)).trans (HB2.o.mono (Nat.le_trans BW.o.size (by simp))),v,?_,HV⟩
     show DiskAt _ _ _ (dk0 (firsts (l.take (kk+1))))
     rw[HS.o,HA.o]
     exact HD1.o.below HB2.o
   ·have hF:findF acc x.1 = -1:=by unfold findF;rw[if_neg hf]
    have hadd:addF acc x=acc ++ [x]:=by unfold addF;rw[if_neg hf]
    rw[show findF (dk0 acc).files x.1 = -1 from hF] at hcon
    have HA:=zh hadd
    clear hF hf hadd
    go_wp2_with (go_at_call 64;refine hcon.mono ?_;rintro e w2 ⟨rfl,hb2⟩;have HB2:=zh hb2;have hd2:=HD1.o.below hb2;have HD2:=zh hd2;have c0:=hd2.cells.1.1;have hfz:=hd2.cells.2 0;have hg2:=hd2.lt;have e1:=(hb2.cell (p:=⟨wr.heap.size,0,none⟩) (by simp)).trans (World.cell?_alloc_at #[.string x.1,.string x.2] 73 wr.heap.size 0 rfl);have e2:=(hb2.cell (p:=⟨wr.heap.size,1,none⟩) (by simp)).trans (World.cell?_alloc_at #[.string x.1,.string x.2] 73 wr.heap.size 1 rfl);have hg3:wr.heap.size<w2.heap.size:=Nat.lt_of_lt_of_le (by simp) hb2.size;clear hb2 hd2)
    go_region_law (refine step_appM rfl _ _ _ rfl 0 73 i _ 2 32 underlying39 HI.o.1 HI.o.2.1 HI.o.2.2.1 HI.o.2.2.2 rfl (by decide) (by decide) v acc.length (fileRow acc) rfl (ownsRow_below HD2.o.2 ((below_drew w2).alloc (Nat.le_refl _) _)) ⟨w2.heap.size,0,none⟩ 1 1 [.string x.1,.string x.2] rfl rfl (cells2_new _ _ _ _ _ rfl) (by simp[Value.oneCell']) (by decide) (by omega) (Nat.zero_le _) ?_;intro v' w' h2 h3 h4 h5;obtain⟨gb,cp,rfl,hgb⟩:=own_slice h2 h5;have H2:=zh h2;have H3:=zh ((Fr.ofBelow (S:=fun k=>v.ownBlock=some k) ((below_drew w2).alloc (Nat.le_refl _) _)).trans (Fr.ofGrown h3 fun k _ e=>e));have H4:=zh ((Moved.refl w2 v).trans h4 (by simp));have k3:=H3.o.cell c0 HD2.o.parts;have k4:=(H3.o.frozen (p:=⟨w.heap.size,0,none⟩) hg2 HD2.o.parts).trans hfz;clear h2 h3 h4 h5)
    all_goals (
     go_wp2_with fail
     go_roundg (l.length-(kk+1))
     case measure=>omega
     case rel=>
      have hp:=HD2.o.pushed x H3.o H2.o
      have hg0:w.heap.size≤w2.heap.size:=Nat.le_trans BW.o.size (Nat.le_of_lt hg3)
      refine⟨kk+1,by omega,by omega,by go_num,((BW.o.trans ((below_alloc wr _).mono BW.o.size)).trans (HB2.o.mono (Nat.le_trans BW.o.size (by simp)))).trans (hp.2.below hg0 ?_),.slice (some ⟨gb,0,none⟩) (acc.length+1) cp,?_,?_⟩
      ·intro k hk hd
       rcases hd with rfl|hd
       ·omega
       ·have:=HV.o k hd
        omega
      ·show DiskAt _ _ _ (dk0 (firsts (l.take (kk+1))))
       rw[HS.o,HA.o]
       exact hp.1
      ·show ∀ k,_→_
       intro k hk
       rcases H4.o k hk with hk' | hk'
       ·exact HV.o k hk'
       ·omega)
  ·have hltz:¬ (kk:Int)<(l.length:Int):=by omega
   have:kk=l.length:=by omega
   subst this
   go_wp2
   go_ret
   refine⟨_,rfl,v,?_,BW.o,Nat.le_refl _,HV.o⟩
   have:=HDk.o
   rw[List.take_length] at this
   exact this
end
section
def hstep (z:Int) (x:UInt8):Int:=IntKind.u64.wrap (bits BinOp.xor IntKind.u64 z (IntKind.u64.wrap x.toNat)*1099511628211)
def hstart:Int:=14695981039346656037
def hfold (l:List UInt8):Int:=l.foldl hstep hstart
theorem wrap_u64_bd (x:Int):0≤IntKind.u64.wrap x∧IntKind.u64.wrap x<2 ^ 64:=by
 simp only[IntKind.wrap,IntKind.bits,IntKind.signed]
 simp
 omega
theorem hfold_bd (l:List UInt8):0≤hfold l∧hfold l<2 ^ 64:=by
 have:∀ (l:List UInt8) (z:Int),0≤z∧z<2 ^ 64→0≤l.foldl hstep z∧l.foldl hstep z<2 ^ 64:=by
  intro l
  induction l with
  | nil=>intro z hz;exact hz
  | cons x l ih=>intro z _;exact ih _ (wrap_u64_bd _)
 exact this l _ (by unfold hstart;omega)
def hbytes (y:Int):Hsh:=#v[UInt8.ofNat (y / 72057594037927936%256).toNat,UInt8.ofNat (y / 281474976710656%256).toNat,UInt8.ofNat (y / 1099511627776%256).toNat,UInt8.ofNat (y / 4294967296%256).toNat,
 UInt8.ofNat (y / 16777216%256).toNat,UInt8.ofNat (y / 65536%256).toNat,UInt8.ofNat (y / 256%256).toNat,UInt8.ofNat (y%256).toNat]
def hash (l:List UInt8):Hsh:=hbytes (hfold l)
theorem u8_of (y:Int):u8 (UInt8.ofNat (y%256).toNat)=.int .u8 (y%256):=by
 have h:0≤y%256∧y%256<256:=by omega
 show Value.int .u8 _=_
 congr 1
 rw[UInt8.toNat_ofNat']
 omega
theorem h8_hbytes (y:Int):h8 (hbytes y)=#[.int .u8 (y / 72057594037927936%256),.int .u8 (y / 281474976710656%256),.int .u8 (y / 1099511627776%256),.int .u8 (y / 4294967296%256),.int .u8 (y / 16777216%256),.int .u8 (y / 65536%256),.int .u8 (y / 256%256),.int .u8 (y%256)]:=by
 simp only[h8,hbytes,←u8_of]
 simp
def leafH (l:List UInt8):Hsh:=hash (0 :: l)
def nodeH (a b:Hsh):Hsh:=hash (1 :: (a.toList++b.toList))
theorem flatten_take_succ {α:Type} {ls:List (List α)} {k:Nat} {l:List α} (h:ls[k]?=some l):(ls.take (k+1)).flatten=(ls.take k).flatten++l:=by
 rw[List.take_add_one,h];simp
theorem hfold_snoc (l:List UInt8) (x:UInt8):hfold (l ++ [x])=hstep (hfold l) x:=by simp[hfold]
theorem take_snoc' {l:List UInt8} {j:Nat} {x:UInt8} (h:l[j]?=some x):l.take (j+1)=l.take j ++ [x]:=by
 rw[List.take_add_one,h];simp
def rebuildR (leaf:Hsh):(i n:Nat)→List Hsh→Option Hsh
 | _,n,[]=>if n=1 then some leaf else none
 | i,n,last :: rest=>if n=1 then none else if i<2 ^ (Lib.bitLen (n-1)-1) then (rebuildR leaf i (2 ^ (Lib.bitLen (n-1)-1)) rest).map (nodeH · last)
   else (rebuildR leaf (i-2 ^ (Lib.bitLen (n-1)-1)) (n-2 ^ (Lib.bitLen (n-1)-1)) rest).map (nodeH last ·)
def rebuild (leaf:Hsh) (i n:Nat) (p:List Hsh):Option Hsh:=rebuildR leaf i n p.reverse
def included (leaf:Hsh) (i n:Int) (p:List Hsh) (root:Hsh):Bool:=decide (0≤i) && decide (i<n) && (rebuild leaf i.toNat n.toNat p == some root)
def rootsR:(m n:Nat)→Option Hsh→List Hsh→Option (Hsh×Hsh)
 | m,n,whole,[]=>if m=n then whole.map fun a=>(a,a) else none
 | m,n,whole,r :: rest=>if m=n then (match whole with|some _=>none|none=>if rest = [] then some (r,r) else none)
   else if m≤2 ^ (Lib.bitLen (n-1)-1) then (rootsR m (2 ^ (Lib.bitLen (n-1)-1)) whole rest).map fun x=>(x.1,nodeH x.2 r)
   else (rootsR (m-2 ^ (Lib.bitLen (n-1)-1)) (n-2 ^ (Lib.bitLen (n-1)-1)) none rest).map fun x=>(nodeH r x.1,nodeH r x.2)
def roots (m n:Nat) (whole:Option Hsh) (p:List Hsh):Option (Hsh×Hsh):=rootsR m n whole p.reverse
def consistent (m n:Int) (a b:Hsh) (p:List Hsh):Bool:=decide (1≤m) && decide (m≤n) && (roots m.toNat n.toNat (some a) p == some (a,b))
def eightOf (l:List UInt8):Hsh:=#v[l.getD 0 0,l.getD 1 0,l.getD 2 0,l.getD 3 0,l.getD 4 0,l.getD 5 0,l.getD 6 0,l.getD 7 0]
def below (n:Nat):Nat:=2 ^ (Lib.bitLen (n-1)-1)
theorem bl_bd {n:Nat} (h2:2≤n) (h3:n<9223372036854775808):∃ e,Lib.bitLen (n-1)=e+1∧e≤62∧2 ^ e<n∧n≤2*2 ^ e:=by
 have h:=Lib.bitLenAux_bounds 64 (n-1) (by omega) (by omega)
 obtain⟨e,he⟩:∃ e,Lib.bitLen (n-1)=e+1:=⟨Lib.bitLen (n-1)-1,by unfold Lib.bitLen;omega⟩
 have he':Lib.bitLenAux 64 (n-1)=e+1:=he
 rw[he'] at h
 simp only[Nat.add_sub_cancel] at h
 refine⟨e,he,?_,by omega,by have:=h.2.2;rw[Nat.pow_succ] at this;omega⟩
 rcases Nat.lt_or_ge e 63 with h' | h'
 ·omega
 ·have:=Nat.pow_le_pow_right (n:=2) (by decide) h'
  omega
theorem below_bd {n:Nat} (h2:2≤n) (h3:n<9223372036854775808):0<below n∧below n<n∧n≤2*below n:=by
 obtain⟨e,he,_,h4,h5⟩:=bl_bd h2 h3
 unfold below
 rw[he,Nat.add_sub_cancel]
 exact⟨Nat.two_pow_pos e,h4,h5⟩
theorem below_uniq {n e:Nat} (h2:2≤n) (h3:n<9223372036854775808) (h4:2 ^ e<n) (h5:n≤2*2 ^ e):below n=2 ^ e:=by
 obtain⟨e',he,_,h6,h7⟩:=bl_bd h2 h3
 unfold below
 rw[he,Nat.add_sub_cancel]
 rcases Nat.lt_trichotomy e e' with h|h|h
 ·have:=Nat.pow_le_pow_right (n:=2) (by decide) (show e+1≤e' from h)
  rw[Nat.pow_succ] at this
  omega
 ·rw[h]
 ·have:=Nat.pow_le_pow_right (n:=2) (by decide) (show e'+1≤e from h)
  rw[Nat.pow_succ] at this
  omega
end
section
def rootF:Nat→List (List UInt8)→Hsh
 | 0,_=>hash []
 | f+1,l=>if l.length=0 then hash [] else if l.length=1 then leafH (l.getD 0 []) else nodeH (rootF f (l.take (below l.length))) (rootF f (l.drop (below l.length)))
def rootOf (l:List (List UInt8)):Hsh:=rootF l.length l
theorem below_lt {n:Nat} (h2:2≤n):0<below n∧below n<n:=by
 unfold below
 have h:=Nat.two_pow_pos (Lib.bitLen (n-1)-1)
 refine⟨h,?_⟩
 by_cases hb:n-1<2 ^ 64
 ·have:=Lib.bitLenAux_bounds 64 (n-1) hb (by omega)
  have h2:=this.2.1
  show 2 ^ (Lib.bitLenAux 64 (n-1)-1)<n
  omega
 ·have:Lib.bitLenAux 64 (n-1)≤64:=by
   have hf:∀ (f x:Nat),Lib.bitLenAux f x≤f:=by
    intro f
    induction f with
    | zero=>intro x;simp[Lib.bitLenAux]
    | succ f ih=>intro x;simp only[Lib.bitLenAux];split;omega;have:=ih (x / 2);omega
   exact hf 64 _
  have h3:2 ^ (Lib.bitLenAux 64 (n-1)-1)≤2 ^ 63:=Nat.pow_le_pow_right (by decide) (by omega)
  show 2 ^ (Lib.bitLenAux 64 (n-1)-1)<n
  omega
theorem rootF_more:∀ (f g:Nat) (l:List (List UInt8)),l.length≤f→l.length≤g→rootF f l=rootF g l
 | 0,0,_,_,_=>rfl
 | 0,g+1,l,h,_=>by
  have:l.length=0:=by omega
  simp[rootF,this]
 | f+1,0,l,_,h=>by
  have:l.length=0:=by omega
  simp[rootF,this]
 | f+1,g+1,l,h1,h2=>by
  simp only[rootF]
  split
  ·rfl
  ·split
   ·rfl
   ·have hb:=below_lt (n:=l.length) (by omega)
    rw[rootF_more f g _ (by simp;omega) (by simp;omega),rootF_more f g (l.drop _) (by simp;omega) (by simp;omega)]
theorem rootOf_one (e:List UInt8):rootOf [e]=leafH e:=rfl
theorem rootOf_more {l:List (List UInt8)} (h:2≤l.length):rootOf l=nodeH (rootOf (l.take (below l.length))) (rootOf (l.drop (below l.length))):=by
 unfold rootOf
 have hb:=below_lt h
 obtain⟨n,hn⟩:∃ n,l.length=n+1:=⟨l.length-1,by omega⟩
 rw[hn]
 simp only[rootF]
 rw[if_neg (by omega),if_neg (by omega),hn]
 rw[hn] at hb
 congr 1
 ·exact rootF_more _ _ _ (by simp;omega) (Nat.le_refl _)
 ·exact rootF_more _ _ _ (by simp;omega) (Nat.le_refl _)
def fullRoot (ls:List (List UInt8)):Nat→Nat→Hsh
 | 0,i=>leafH (ls.getD i [])
 | L+1,i=>nodeH (fullRoot ls L (2*i)) (fullRoot ls L (2*i+1))
theorem below_pow (e:Nat) (he:e+1≤62):below (2 ^ (e+1))=2 ^ e:=by
 have h1:2 ^ (e+1)≤2 ^ 62:=Nat.pow_le_pow_right (by decide) he
 have h2:2 ^ e≥1:=Nat.two_pow_pos e
 rw[Nat.pow_succ] at h1
 apply below_uniq
 ·rw[Nat.pow_succ];omega
 ·rw[Nat.pow_succ];omega
 ·rw[Nat.pow_succ];omega
 ·rw[Nat.pow_succ];omega
theorem fullRoot_eq (ls:List (List UInt8)):∀ (L i:Nat),L≤62→(i+1)*2 ^ L≤ls.length→fullRoot ls L i=rootOf ((ls.drop (i*2 ^ L)).take (2 ^ L))
 | 0,i,_,h=>by
  simp only[Nat.pow_zero,Nat.mul_one] at h ⊢
  have hi:i<ls.length:=by omega
  rw[List.drop_eq_getElem_cons hi]
  show _=rootOf [ls[i]]
  rw[rootOf_one]
  simp[fullRoot,List.getD,hi]
 | L+1,i,hL,h=>by
  have hp:2 ^ L≥1:=Nat.two_pow_pos L
  have hlen:((ls.drop (i*2 ^ (L+1))).take (2 ^ (L+1))).length=2 ^ (L+1):=by
   rw[List.length_take,List.length_drop]
   rw[Nat.add_mul] at h
   omega
  rw[rootOf_more (by rw[hlen,Nat.pow_succ];omega),hlen,below_pow L hL]
  have e1:i*2 ^ (L+1)=(2*i)*2 ^ L:=by rw[Nat.pow_succ,Nat.mul_comm 2 i,Nat.mul_assoc,Nat.mul_comm (2 ^ L) 2]
  have e2:2 ^ (L+1)=2 ^ L+2 ^ L:=by rw[Nat.pow_succ];omega
  have e3:(2*i+1)*2 ^ L=(2*i)*2 ^ L+2 ^ L:=by rw[Nat.add_mul,Nat.one_mul]
  have e4:(i+1)*2 ^ (L+1)=(2*i)*2 ^ L+2 ^ L+2 ^ L:=by rw[Nat.add_mul,Nat.one_mul,e1,e2];omega
  rw[e4] at h
  simp only[fullRoot]
  rw[fullRoot_eq ls L (2*i) (by omega) (by rw[Nat.add_mul,Nat.one_mul];omega),fullRoot_eq ls L (2*i+1) (by omega) (by rw[Nat.add_mul,Nat.one_mul,e3];omega)]
  congr 2
  ·rw[List.take_take,e1,e2];congr 1;omega
  ·rw[e3,e1,e2,List.drop_take,List.drop_drop]
   congr 1
   omega
end
section
def node4 (r:List Hsh):Hsh:=nodeH (nodeH (r.getD (r.length-4) zero8) (r.getD (r.length-4+1) zero8)) (nodeH (r.getD (r.length-4+2) zero8) (r.getD (r.length-4+3) zero8))
def growP:List (List Hsh)→Hsh→List (List Hsh)
 | [],h=>[[h]]
 | r :: rs,h=>if (r.length+1)%4=0 then (r ++ [h]) :: growP rs (node4 (r ++ [h])) else (r ++ [h]) :: rs
def nLev (n:Nat):Nat:=if h:n=0 then 0 else nLev (n / 4)+1
termination_by n
decreasing_by omega
theorem nLev_iff (n:Nat):∀ k,k<nLev n↔4 ^ k≤n:=by
 induction n using Nat.strongRecOn with
 | _ n ih=>
  intro k
  rw[nLev]
  split
  ·rename_i h
   have:=Nat.pow_pos (n:=k) (show 0<4 by decide)
   omega
  ·rename_i h
   cases k with
   | zero=>simp;omega
   | succ k=>
    have h1:=ih (n / 4) (by omega) k
    rw[Nat.add_lt_add_iff_right,h1,Nat.le_div_iff_mul_le (by decide),Nat.pow_succ]
def levelRow (ls:List (List UInt8)) (k:Nat):List Hsh:=(List.range (ls.length / 4 ^ k)).map fun j=>fullRoot ls (2*k) j
def levels (ls:List (List UInt8)):List (List Hsh):=(List.range (nLev ls.length)).map (levelRow ls)
theorem fullRoot_snoc (ls:List (List UInt8)) (e:List UInt8):∀ (L i:Nat),(i+1)*2 ^ L≤ls.length→fullRoot (ls ++ [e]) L i=fullRoot ls L i
 | 0,i,h=>by
  have hi:i<ls.length:=by simp at h;omega
  simp only[fullRoot]
  rw[List.getD_eq_getElem?_getD,List.getD_eq_getElem?_getD,List.getElem?_append_left hi]
 | L+1,i,h=>by
  have e1:(i+1)*2 ^ (L+1)=(2*i+1+1)*2 ^ L:=by rw[Nat.pow_succ,Nat.mul_comm (2 ^ L) 2,←Nat.mul_assoc];congr 1;omega
  have e2:(2*i+1)*2 ^ L≤(2*i+1+1)*2 ^ L:=Nat.mul_le_mul_right _ (by omega)
  simp only[fullRoot]
  rw[fullRoot_snoc ls e L (2*i) (by omega),fullRoot_snoc ls e L (2*i+1) (by omega)]
theorem pow24 (k:Nat):2 ^ (2*k)=4 ^ k:=by rw[Nat.pow_mul]
theorem levelRow_len (ls:List (List UInt8)) (k:Nat):(levelRow ls k).length=ls.length / 4 ^ k:=by simp[levelRow]
theorem levelRow_get (ls:List (List UInt8)) (k j:Nat) (h:j<ls.length / 4 ^ k):(levelRow ls k).getD j zero8=fullRoot ls (2*k) j:=by
 rw[List.getD_eq_getElem?_getD]
 simp[levelRow,h]
theorem levelRow_same (ls:List (List UInt8)) (e:List UInt8) (k:Nat) (h:(ls.length+1) / 4 ^ k=ls.length / 4 ^ k):levelRow (ls ++ [e]) k=levelRow ls k:=by
 unfold levelRow
 rw[List.length_append,show [e].length=1 from rfl,h]
 apply List.map_congr_left
 intro j hj
 have hj':j<ls.length / 4 ^ k:=by simpa using hj
 apply fullRoot_snoc
 rw[pow24]
 have:=(Nat.le_div_iff_mul_le (Nat.pow_pos (n:=k) (show 0<4 by decide))).1 (show j+1≤ls.length / 4 ^ k by omega)
 exact this
theorem levelRow_more (ls:List (List UInt8)) (e:List UInt8) (k q:Nat) (hq:ls.length / 4 ^ k=q) (hq':(ls.length+1) / 4 ^ k=q+1):levelRow (ls ++ [e]) k=levelRow ls k ++ [fullRoot (ls ++ [e]) (2*k) q]:=by
 unfold levelRow
 rw[List.length_append,show [e].length=1 from rfl,hq',hq,List.range_succ,List.map_append]
 congr 1
 apply List.map_congr_left
 intro j hj
 have hj':j<q:=by simpa using hj
 apply fullRoot_snoc
 rw[pow24]
 exact (Nat.le_div_iff_mul_le (Nat.pow_pos (n:=k) (show 0<4 by decide))).1 (show j+1≤ls.length / 4 ^ k by omega)
theorem levels_get (ls:List (List UInt8)) (k:Nat) (h:k<nLev ls.length):(levels ls).drop k=levelRow ls k :: (levels ls).drop (k+1):=by
 have hl:k<(levels ls).length:=by simpa [levels] using h
 rw[List.drop_eq_getElem_cons hl]
 congr 1
 simp[levels]
theorem levels_out (ls:List (List UInt8)) (k:Nat) (h:nLev ls.length≤k):(levels ls).drop k = []:=by
 apply List.drop_eq_nil_of_le
 simpa [levels] using h
theorem node4_row (ls:List (List UInt8)) (k q j:Nat) (hq:ls.length / 4 ^ k=q) (hj:q=4*j+4):node4 (levelRow ls k)=fullRoot ls (2*(k+1)) j:=by
 have hl:(levelRow ls k).length-4=4*j:=by rw[levelRow_len];omega
 unfold node4
 rw[hl,levelRow_get ls k _ (by omega),levelRow_get ls k _ (by omega),levelRow_get ls k _ (by omega),levelRow_get ls k _ (by omega)]
 show _=fullRoot ls (2*k+1+1) j
 simp only[fullRoot]
 have e1:2*(2*j)=4*j:=by omega
 have e2:2*(2*j+1)=4*j+2:=by omega
 rw[e1,e2]
theorem grow_levels (ls:List (List UInt8)) (e:List UInt8):∀ (m k q:Nat),nLev (ls.length+1)≤k+m→ls.length+1=(q+1)*4 ^ k→
  growP ((levels ls).drop k) (fullRoot (ls ++ [e]) (2*k) q)=(levels (ls ++ [e])).drop k:=by
 intro m
 have hlen:(ls ++ [e]).length=ls.length+1:=by simp
 induction m with
 | zero=>
  intro k q h1 h2
  have h3:4 ^ k≤ls.length+1:=by rw[h2];exact Nat.le_mul_of_pos_left _ (by omega)
  have:=(nLev_iff (ls.length+1) k).2 h3
  omega
 | succ m ih=>
  intro k q h1 h2
  have hp:0<4 ^ k:=Nat.pow_pos (by decide)
  have h3:4 ^ k≤ls.length+1:=by rw[h2];exact Nat.le_mul_of_pos_left _ (by omega)
  have h4:=(nLev_iff (ls.length+1) k).2 h3
  have hq':(ls.length+1) / 4 ^ k=q+1:=by rw[h2];exact Nat.mul_div_cancel _ hp
  have hq:ls.length / 4 ^ k=q:=by
   rw[Nat.add_mul,Nat.one_mul] at h2
   exact Nat.div_eq_of_lt_le (by omega) (by rw[Nat.add_mul,Nat.one_mul];omega)
  rw[levels_get (ls ++ [e]) k (by rw[hlen];exact h4),levelRow_more ls e k q hq hq']
  by_cases hk:k<nLev ls.length
  ·rw[levels_get ls k hk]
   rw[growP,levelRow_len,hq]
   by_cases h0:(q+1)%4=0
   ·rw[if_pos h0]
    congr 1
    obtain⟨j,hj⟩:∃ j,q+1=4*j+4:=⟨q / 4,by omega⟩
    have hn:=node4_row (ls ++ [e]) k (q+1) j (by rw[hlen];exact hq') hj
    rw[levelRow_more ls e k q hq hq'] at hn
    rw[hn]
    apply ih (k+1) j (by omega)
    rw[h2,hj,Nat.pow_succ,Nat.mul_comm (4 ^ k) 4,←Nat.mul_assoc]
    congr 1
    omega
   ·rw[if_neg h0]
    congr 1
    have hnd:∀ i,k<i→¬ 4 ^ i ∣ ls.length+1:=by
     intro i hi hd
     have h5:4 ^ (k+1) ∣ ls.length+1:=Nat.dvd_trans (Nat.pow_dvd_pow 4 hi) hd
     rw[h2,Nat.pow_succ,Nat.mul_comm (4 ^ k) 4] at h5
     have h6:=Nat.dvd_of_mul_dvd_mul_right hp h5
     omega
    have hle:nLev (ls.length+1)=nLev ls.length:=by
     have hi:=nLev_iff (ls.length+1) (nLev ls.length)
     have hj:=nLev_iff ls.length (nLev ls.length)
     have hmono:nLev ls.length≤nLev (ls.length+1):=by
      rcases Nat.lt_or_ge (nLev (ls.length+1)) (nLev ls.length) with h|h
      ·have a:=(nLev_iff ls.length _).1 h
       have b:=(nLev_iff (ls.length+1) (nLev (ls.length+1))).2 (by omega)
       omega
      ·exact h
     rcases Nat.lt_or_ge (nLev ls.length) (nLev (ls.length+1)) with h|h
     ·have a:=hi.1 h
      have b:¬ 4 ^ nLev ls.length≤ls.length:=fun c=>by have:=hj.2 c;omega
      have c:4 ^ nLev ls.length=ls.length+1:=by omega
      exact absurd (by rw[c];exact Nat.dvd_refl _) (hnd _ hk)
     ·omega
    apply List.ext_getElem
    ·simp[levels,hle]
    ·intro i hi hj
     simp only[levels,List.getElem_drop,List.getElem_map,List.getElem_range]
     rw[levelRow_same]
     rw[Nat.succ_div_of_not_dvd (hnd _ (by omega))]
  ·have hkn:¬ 4 ^ k≤ls.length:=fun h=>hk ((nLev_iff _ _).2 h)
   have h0:q=0:=by
    have:ls.length / 4 ^ k=0:=Nat.div_eq_of_lt (by omega)
    omega
   subst h0
   have hr:levelRow ls k = []:=List.eq_nil_of_length_eq_zero (by rw[levelRow_len,hq])
   have hn:nLev (ls.length+1)≤k+1:=by
    rcases Nat.lt_or_ge (k+1) (nLev (ls.length+1)) with h|h
    ·have:=(nLev_iff _ _).1 h
     rw[Nat.pow_succ] at this
     omega
    ·exact h
   rw[levels_out ls k (by omega),levels_out (ls ++ [e]) (k+1) (by rw[hlen];exact hn),hr]
   rfl
theorem grow_leaf (ls:List (List UInt8)) (e:List UInt8):growP (levels ls) (leafH e)=levels (ls ++ [e]):=by
 have h:=grow_levels ls e (nLev (ls.length+1)) 0 ls.length (by omega) (by simp)
 have hf:fullRoot (ls ++ [e]) (2*0) ls.length=leafH e:=by
  simp only[Nat.mul_zero,fullRoot]
  rw[List.getD_eq_getElem?_getD]
  simp
 rw[hf] at h
 simpa using h
end
section
abbrev dec (n:Nat):List UInt8:=Lib.decDigits n
def kE:List UInt8:=[101,110,116,114,105,101,115,47]
def kT:List UInt8:=[116,105,108,101,47]
def kP:List UInt8:=[46,112,47]
def nameOk (level index width:Int):Prop:=-1≤level∧level≤20∧0≤index∧1≤width∧width≤4
instance (level index width:Int):Decidable (nameOk level index width):=by unfold nameOk;infer_instance
def nameBody (level index width:Int):List UInt8:=
 (if 0≤level then kT++dec level.toNat ++ [47] else kE)++dec index.toNat++(if width<4 then kP++dec width.toNat else [])
def nameOf (level index width:Int):List UInt8:=if nameOk level index width then nameBody level index width else []
def isDig (c:UInt8):Prop:=48≤c.toNat∧c.toNat≤57
theorem dec_dig (n:Nat):∀ c∈dec n,isDig c:=by
 induction n using Nat.strongRecOn with
 | _ n ih=>
  intro c hc
  unfold dec at hc
  rw[Lib.decDigits] at hc
  split at hc
  ·simp only[List.mem_singleton] at hc
   subst hc
   unfold isDig
   rw[UInt8.toNat_ofNat']
   omega
  ·rw[List.mem_append] at hc
   rcases hc with hc|hc
   ·exact ih (n / 10) (by omega) c hc
   ·simp only[List.mem_singleton] at hc
    subst hc
    unfold isDig
    rw[UInt8.toNat_ofNat']
    omega
theorem dec_ne (n:Nat):dec n≠[]:=by
 unfold dec
 rw[Lib.decDigits]
 split <;> simp
def valD (acc:Nat) (l:List UInt8):Nat:=l.foldl (fun a c=>a*10+(c.toNat-48)) acc
theorem valD_append (acc:Nat) (a b:List UInt8):valD acc (a++b)=valD (valD acc a) b:=by simp[valD]
theorem valD_le (l:List UInt8):∀ acc,acc≤valD acc l:=by
 induction l with
 | nil=>intro acc;exact Nat.le_refl _
 | cons c l ih=>
  intro acc
  have:=ih (acc*10+(c.toNat-48))
  show acc≤valD (acc*10+(c.toNat-48)) l
  omega
theorem valD_dec (n:Nat):valD 0 (dec n)=n:=by
 induction n using Nat.strongRecOn with
 | _ n ih=>
  unfold dec
  rw[Lib.decDigits]
  split
  ·simp only[valD,List.foldl]
   rw[UInt8.toNat_ofNat']
   omega
  ·rw[valD_append]
   have:=ih (n / 10) (by omega)
   unfold dec at this
   rw[this]
   simp only[valD,List.foldl]
   rw[UInt8.toNat_ofNat']
   omega
theorem parseUint10_val:∀ (l:List UInt8) (acc:Nat),(∀ c∈l,isDig c)→valD acc l<18446744073709551616→Lib.parseUint10 acc l=.ok (valD acc l)
 | [],acc,_,_=>rfl
 | c :: l,acc,hd,hv=>by
  have h1:isDig c:=hd c (by simp)
  have h2:=valD_le l (acc*10+(c.toNat-48))
  have h3:valD acc (c :: l)=valD (acc*10+(c.toNat-48)) l:=rfl
  rw[h3] at hv ⊢
  unfold isDig at h1
  simp only[Lib.parseUint10]
  rw[if_pos h1,if_neg (by omega),if_neg (by omega)]
  exact parseUint10_val l _ (fun c hc=>hd c (by simp[hc])) hv
theorem atoi_dec (n:Nat) (h:n<9223372036854775808):Lib.atoiAll (dec n)=.ok (n:Int):=by
 have hp:Lib.parseMag (dec n)=.ok n:=by
  unfold Lib.parseMag
  rw[if_neg (dec_ne n),parseUint10_val _ _ (dec_dig n) (by rw[valD_dec];omega),valD_dec]
 obtain⟨c,r,hcr⟩:∃ c r,dec n=c :: r:=by
  cases hd:dec n with
  | nil=>exact absurd hd (dec_ne n)
  | cons c r=>exact⟨c,r,rfl⟩
 have hc:isDig c:=dec_dig n c (by rw[hcr];simp)
 unfold isDig at hc
 rw[hcr] at hp ⊢
 unfold Lib.atoiAll
 simp only
 rw[if_neg (by omega),hp]
 simp only
 rw[if_neg (by omega),if_neg (by omega),if_neg (by omega)]
theorem isPrefix_cons_ne {a b:UInt8} {s t:List UInt8} (h:a≠b):(a :: s).isPrefixOf (b :: t)=false:=by
 simp[List.isPrefixOf,h]
theorem index_digits (m:UInt8) (ms:List UInt8) (hm:¬ isDig m):∀ (d t:List UInt8),(∀ c∈d,isDig c)→Lib.index (d++(m :: ms++t)) (m :: ms)=d.length
 | [],t,_=>by
  simp[Lib.index,List.isPrefixOf]
 | c :: d,t,hd=>by
  have ih:=index_digits m ms hm d t (fun c hc=>hd c (by simp[hc]))
  have hne:m≠c:=fun e=>hm (e ▸ hd c (by simp))
  simp only[List.cons_append,Lib.index]
  rw[isPrefix_cons_ne hne]
  simp only[List.cons_append] at ih
  rw[ih]
  have:((d.length:Int) == -1)=false:=by rw[beq_eq_false_iff_ne];omega
  simp[this]
theorem index_digits_none (m:UInt8) (ms:List UInt8) (hm:¬ isDig m):∀ (d:List UInt8),(∀ c∈d,isDig c)→Lib.index d (m :: ms) = -1
 | [],_=>by simp[Lib.index]
 | c :: d,hd=>by
  have ih:=index_digits_none m ms hm d (fun c hc=>hd c (by simp[hc]))
  have hne:m≠c:=fun e=>hm (e ▸ hd c (by simp))
  simp only[Lib.index]
  rw[isPrefix_cons_ne hne,ih]
  rfl
theorem cut_digits (m:UInt8) (ms:List UInt8) (hm:¬ isDig m) (d t:List UInt8) (hd:∀ c∈d,isDig c):Lib.cut (d++(m :: ms++t)) (m :: ms)=(d,t,true):=by
 unfold Lib.cut
 rw[index_digits m ms hm d t hd,if_pos (by omega),Int.toNat_natCast]
 simp only[Prod.mk.injEq,and_true]
 refine⟨List.take_left,?_⟩
 rw[←List.append_assoc]
 have:d.length+(m :: ms).length=(d++(m :: ms)).length:=by simp
 rw[this,List.drop_left]
theorem cut_digits_none (m:UInt8) (ms:List UInt8) (hm:¬ isDig m) (d:List UInt8) (hd:∀ c∈d,isDig c):Lib.cut d (m :: ms)=(d,[],false):=by
 unfold Lib.cut
 rw[index_digits_none m ms hm d hd]
 rfl
def atoiO (l:List UInt8):Option Int:=match Lib.atoiAll l with | .ok v=>some v|_=>none
theorem atoiO_dec (n:Nat) (h:n<9223372036854775808):atoiO (dec n)=some (n:Int):=by unfold atoiO;rw[atoi_dec n h]
abbrev Four:=Int×Int×Int×Bool
def noFour:Four:=(0,0,0,false)
def parseTail (path:List UInt8) (level:Int) (rest:List UInt8):Four:=
 match (if (Lib.cut rest kP).2.2=true then atoiO (Lib.cut rest kP).2.1 else some 4) with
 | none=>noFour
 | some width=>match atoiO (Lib.cut rest kP).1 with
  | none=>noFour
  | some index=>if nameOf level index width=path then (level,index,width,true) else noFour
def parseGo (path:List UInt8):Four:=
 if Lib.hasPrefix path kE=true then parseTail path (-1) (Lib.trimPrefix path kE)
 else if Lib.hasPrefix path kT=true∧(Lib.cut (Lib.trimPrefix path kT) [47]).2.2=true then
  match atoiO (Lib.cut (Lib.trimPrefix path kT) [47]).1 with
  | none=>noFour
  | some v=>if v<0 then noFour else parseTail path v (Lib.cut (Lib.trimPrefix path kT) [47]).2.1
 else noFour
theorem atoiO_bd {l:List UInt8} {v:Int} (h:atoiO l=some v):v<9223372036854775808:=by
 unfold atoiO at h
 split at h
 ·rename_i u hu
  simp only[Option.some.injEq] at h
  subst h
  unfold Lib.atoiAll at hu
  split at hu
  ·cases hu
  ·simp only at hu
   split at hu
   ·cases hu
   ·cases hu
   ·split at hu
    ·cases hu
    ·split at hu
     ·cases hu
     ·simp only[Lib.NumEnd.ok.injEq] at hu
      subst hu
      split <;> omega
 ·cases h
theorem hasPrefix_append (p s:List UInt8):Lib.hasPrefix (p++s) p=true:=by
 unfold Lib.hasPrefix
 rw[List.isPrefixOf_iff_prefix]
 exact List.prefix_append p s
theorem trimPrefix_append (p s:List UInt8):Lib.trimPrefix (p++s) p=s:=by
 unfold Lib.trimPrefix
 rw[if_pos (hasPrefix_append p s),List.drop_left]
theorem noE (s:List UInt8):Lib.hasPrefix (kT++s) kE=false:=by
 simp[Lib.hasPrefix,kT,kE,List.isPrefixOf]
def tailOf (w:Int):List UInt8:=if w<4 then kP++dec w.toNat else []
theorem not_dig_46:¬ isDig 46:=by unfold isDig;decide
theorem not_dig_47:¬ isDig 47:=by unfold isDig;decide
theorem nameBody_low {l i w:Int} (h:nameOk l i w) (hl:l<0):nameBody l i w=kE++(dec i.toNat++tailOf w):=by
 unfold nameBody tailOf
 rw[if_neg (by omega),List.append_assoc]
theorem nameBody_high {l i w:Int} (hl:0≤l):nameBody l i w=kT++(dec l.toNat++(47 :: []++(dec i.toNat++tailOf w))):=by
 unfold nameBody tailOf
 rw[if_pos hl]
 simp
theorem nameOf_body {l i w:Int} (h:nameOk l i w):nameOf l i w=nameBody l i w:=by unfold nameOf;rw[if_pos h]
theorem cut_tail (i:Nat) {w:Int} (h1:1≤w) (h4:w≤4):Lib.cut (dec i++tailOf w) kP=(dec i,(if w<4 then dec w.toNat else []),decide (w<4)):=by
 unfold tailOf
 by_cases hw:w<4
 ·rw[if_pos hw,if_pos hw,decide_eq_true hw]
  exact cut_digits 46 [112,47] not_dig_46 (dec i) (dec w.toNat) (dec_dig i)
 ·rw[if_neg hw,if_neg hw,decide_eq_false hw,List.append_nil]
  exact cut_digits_none 46 [112,47] not_dig_46 (dec i) (dec_dig i)
theorem parseTail_name {l i w:Int} (h:nameOk l i w) (hi:i<9223372036854775808):parseTail (nameBody l i w) l (dec i.toNat++tailOf w)=(l,i,w,true):=by
 have hn:=nameOf_body h
 obtain⟨a,b,c,d,e⟩:=h
 unfold parseTail
 rw[cut_tail _ d e]
 have ha:atoiO (dec i.toNat)=some i:=by rw[atoiO_dec _ (by omega)];congr 1;omega
 have hw:(if decide (w<4)=true then atoiO (if w<4 then dec w.toNat else []) else some 4)=some w:=by
  by_cases hw:w<4
  ·rw[if_pos (by simpa using hw),if_pos hw,atoiO_dec _ (by omega)];congr 1;omega
  ·rw[if_neg (by simpa using hw)];congr 1;omega
 simp only[hw,ha,hn,if_true]
theorem parseGo_name {l i w:Int} (h:nameOk l i w) (hi:i<9223372036854775808):parseGo (nameBody l i w)=(l,i,w,true):=by
 have ht:=parseTail_name h hi
 by_cases hl:l<0
 ·obtain rfl:l = -1:=by have:=h.1;omega
  rw[nameBody_low h (by omega)] at ht ⊢
  unfold parseGo
  rw[if_pos (hasPrefix_append _ _),trimPrefix_append]
  exact ht
 ·have hl0:0≤l:=by omega
  have hle:=h.2.1
  rw[nameBody_high hl0] at ht ⊢
  have hc:=cut_digits 47 [] not_dig_47 (dec l.toNat) (dec i.toNat++tailOf w) (dec_dig _)
  unfold parseGo
  rw[if_neg (by rw[noE];simp),trimPrefix_append,hc,if_pos ⟨hasPrefix_append _ _,rfl⟩]
  have ha:atoiO (dec l.toNat)=some l:=by rw[atoiO_dec _ (by omega)];congr 1;omega
  simp only[ha]
  rw[if_neg hl]
  exact ht
end
section
def hexD (n:Nat):UInt8:=if n<10 then UInt8.ofNat (48+n) else UInt8.ofNat (87+n)
def hexOf (l:List UInt8):List UInt8:=l.flatMap fun c=>[hexD (c.toNat / 16),hexD (c.toNat%16)]
theorem hexOf_cons (c:UInt8) (l:List UInt8):hexOf (c :: l)=hexD (c.toNat / 16) :: hexD (c.toNat%16) :: hexOf l:=rfl
theorem hexOf_len (l:List UInt8):(hexOf l).length=2*l.length:=by
 induction l with
 | nil=>rfl
 | cons c l ih=>rw[hexOf_cons];simp only[List.length_cons,ih];omega
def kTiles:List UInt8:=[116,105,108,101,115,10]
def headOf (n:Nat) (h:Hsh):List UInt8:=kTiles++dec n ++ [10]++hexOf h.toList ++ [10]
def signOf (n:Nat) (h:Hsh) (key:List UInt8):List UInt8:=headOf n h++hexOf (hash (key++0 :: headOf n h)).toList ++ [10]
def unhexG (c:UInt8):Option Nat:=if 48≤c.toNat∧c.toNat≤57 then some (c.toNat-48) else if 97≤c.toNat∧c.toNat≤102 then some (c.toNat-87) else if 65≤c.toNat∧c.toNat≤70 then some (c.toNat-55) else none
def unhexL (d:UInt8→Option Nat):List UInt8→Option (List UInt8)
 | a :: b :: r=>match d a,d b with
  | some x,some y=>(unhexL d r).map (UInt8.ofNat (16*x+y) :: ·)
  | _,_=>none
 | _=>some []
theorem hexD_g (n:Nat) (h:n<16):unhexG (hexD n)=some n:=by
 have:∀ m:Fin 16,unhexG (hexD m.1)=some m.1:=by decide
 exact this ⟨n,h⟩
theorem hexD_ne (n:Nat) (h:n<16):hexD n≠10:=by
 have:∀ m:Fin 16,hexD m.1≠10:=by decide
 exact this ⟨n,h⟩
theorem unhexL_hexOf (d:UInt8→Option Nat) (hd:∀ n,n<16→d (hexD n)=some n):∀ l:List UInt8,unhexL d (hexOf l)=some l
 | []=>rfl
 | c :: l=>by
  have hc:=c.toNat_lt
  rw[hexOf_cons]
  unfold unhexL
  rw[hd _ (by omega),hd _ (by omega),unhexL_hexOf d hd l]
  have:UInt8.ofNat (16*(c.toNat / 16)+c.toNat%16)=c:=by
   rw[Nat.div_add_mod];simp
  simp[this]
theorem hexOf_ne (l:List UInt8):∀ c∈hexOf l,c≠10:=by
 intro c hc
 unfold hexOf at hc
 rw[List.mem_flatMap] at hc
 obtain⟨x,_,hx⟩:=hc
 have hb:=x.toNat_lt
 simp only[List.mem_cons,List.not_mem_nil,or_false] at hx
 rcases hx with rfl|rfl
 ·exact hexD_ne _ (by omega)
 ·exact hexD_ne _ (by omega)
theorem dec_ne10 (n:Nat):∀ c∈dec n,c≠10:=by
 intro c hc e
 have:=dec_dig n c hc
 subst e
 unfold isDig at this
 revert this
 decide
theorem index_line:∀ (a t:List UInt8),(∀ c∈a,c≠10)→Lib.index (a++10 :: t) [10]=a.length
 | [],t,_=>by simp[Lib.index,List.isPrefixOf]
 | c :: a,t,h=>by
  have ih:=index_line a t (fun c hc=>h c (by simp[hc]))
  have hne:(10:UInt8)≠c:=fun e=>h c (by simp) e.symm
  simp only[List.cons_append,Lib.index]
  rw[isPrefix_cons_ne hne,ih]
  have:((a.length:Int) == -1)=false:=by rw[beq_eq_false_iff_ne];omega
  simp[this]
def linesOf (s:List UInt8):List (List UInt8):=Lib.splitK [10] 0 (Lib.count s [10]) s
theorem linesOf_line (a t:List UInt8) (h:∀ c∈a,c≠10):linesOf (a++10 :: t)=a :: linesOf t:=by
 have hi:=index_line a t h
 unfold linesOf
 have hd:(a++10 :: t).drop (a.length + [(10:UInt8)].length)=t:=by
  rw[show a++10 :: t=(a ++ [10])++t by simp,show a.length + [(10:UInt8)].length=(a ++ [10]).length by simp,List.drop_left]
 rw[Lib.count_hit (by simp) hi,hd,Nat.add_comm,Lib.splitK,hi]
 rw[if_neg (by simp)]
 simp only[Int.toNat_natCast,Nat.add_zero]
 rw[hd]
 simp
theorem linesOf_nil:linesOf [] = [[]]:=rfl
abbrev Three:=Int×Hsh×Bool
def noThree:Three:=(0,zero8,false)
def checkEnd (text key:List UInt8) (n:Int) (h:Hsh):Three:=if signOf n.toNat h key=text then (n,h,true) else noThree
def checkLines (text key:List UInt8):List (List UInt8)→Three
 | [_,l1,l2,_,_]=>if l2.length≠16 then noThree else match atoiO l1 with
  | none=>noThree
  | some n=>if n<0 then noThree else match unhexL unhexG l2 with
   | none=>noThree
   | some b=>checkEnd text key n (eightOf b)
 | _=>noThree
def checkGo (text key:List UInt8):Three:=checkLines text key (linesOf text)
def CSound (text key:List UInt8) (q:Three):Prop:=(q.2.2=true→0≤q.1∧q.1<9223372036854775808∧signOf q.1.toNat q.2.1 key=text)∧(q.2.2=false→q=noThree)
theorem csound_no (text key:List UInt8):CSound text key noThree:=⟨fun h=>by simp[noThree] at h,fun _=>rfl⟩
theorem checkEnd_sound (text key:List UInt8) (n:Int) (h:Hsh) (h0:0≤n) (h1:n<9223372036854775808):CSound text key (checkEnd text key n h):=by
 unfold checkEnd
 split
 ·rename_i e;exact⟨fun _=>⟨h0,h1,e⟩,fun h=>by simp at h⟩
 ·exact csound_no _ _
theorem checkGo_sound (text key:List UInt8):CSound text key (checkGo text key):=by
 unfold checkGo
 generalize linesOf text=L
 unfold checkLines
 split
 ·split
  ·exact csound_no _ _
  ·split
   ·exact csound_no _ _
   ·rename_i n hn
    split
    ·exact csound_no _ _
    ·split
     ·exact csound_no _ _
     ·exact checkEnd_sound _ _ _ _ (by omega) (atoiO_bd hn)
 ·exact csound_no _ _
theorem eightOf_toList (h:Hsh):eightOf h.toList=h:=by
 apply Vector.ext
 intro i hi
 have:i=0∨i=1∨i=2∨i=3∨i=4∨i=5∨i=6∨i=7:=by omega
 rcases this with rfl|rfl|rfl|rfl|rfl|rfl|rfl|rfl <;> simp[eightOf,List.getD]
theorem toList_len (h:Hsh):h.toList.length=8:=by simp
theorem signOf_lines (n:Nat) (h:Hsh) (key:List UInt8):linesOf (signOf n h key) = [[116,105,108,101,115],dec n,hexOf h.toList,hexOf (hash (key++0 :: headOf n h)).toList,[]]:=by
 unfold signOf
 generalize (hash (key++0 :: headOf n h))=m
 have e:headOf n h++hexOf m.toList ++ [10] = [116,105,108,101,115]++10 :: (dec n++10 :: (hexOf h.toList++10 :: (hexOf m.toList++10 :: []))):=by
  simp[headOf,kTiles]
 rw[e,linesOf_line _ _ (by decide),linesOf_line _ _ (dec_ne10 n),linesOf_line _ _ (hexOf_ne _),linesOf_line _ _ (hexOf_ne _),linesOf_nil]
theorem checkGo_sign (n:Nat) (h:Hsh) (key:List UInt8) (hn:n<9223372036854775808):checkGo (signOf n h key) key=((n:Int),h,true):=by
 unfold checkGo
 rw[signOf_lines]
 have h16:(hexOf h.toList).length=16:=by rw[hexOf_len,toList_len]
 unfold checkLines
 simp only[h16,atoiO_dec n hn,unhexL_hexOf unhexG hexD_g,eightOf_toList]
 rw[if_neg (by simp),if_neg (by omega)]
 unfold checkEnd
 rw[if_pos (by simp)]
end
section
theorem sum_any (v:Value) (ls:List (List UInt8)) (w:World) (h:BssAt w v ls) (hn:ls.length≤1048576) (hm:∀ l∈ls,l.length≤9223372036854775807) :
  Calls prog 66 #[v] w fun e w'=>e=.returned (.agg (h8 (hash ls.flatten)))∧Below w.heap.size w w':=by
 have hW1:Below w.heap.size w (w.alloc (.cells zc 109)):=(Below.refl _ _).alloc (Nat.le_refl _) _
 obtain⟨vs,hlen,⟨a,c,rfl,hcap,hc⟩,hall⟩:=h.below hW1
 have HL:=zh hlen
 have HC:=zh hc
 have HA:=zh hall
 have HM:=zh hm
 clear hc hall hlen hm h hW1
 go_enter func66,ntmps66
 go_wp2
 go_loop [3,11] (fun x i=>∃ k:Nat,k≤ls.length∧i=.int .i64 k∧x=.int .u64 (hfold (ls.take k).flatten)) (fun _ i=>ls.length-(intOf i).toNat)
 case atStart=>exact⟨0,by omega,rfl,rfl⟩
 case round=>
  obtain⟨k,hk,rfl,rfl⟩:=hrel
  by_cases hlt:k<ls.length
  ·obtain⟨l,hl⟩:∃ s,ls[k]?=some s:=⟨_,List.getElem?_eq_getElem hlt⟩
   obtain⟨u,hu⟩:∃ s,vs[k]?=some s:=⟨_,List.getElem?_eq_getElem (by rw[HL.o];exact hlt)⟩
   obtain⟨b,off,rfl,hcell⟩:=HC.o k u hu
   obtain⟨a2,c2,rfl,hcap2,hc2⟩:=HA.o k u l hu hl
   have hb:=HM.o l (List.mem_of_getElem? hl)
   obtain⟨pre,hpre⟩:∃ p,p=(ls.take k).flatten:=⟨_,rfl⟩
   rw[←hpre]
   have HP:=zh hpre
   have HL2:=zh hl
   have HU2:=zh hu
   have HC2:=zh hc2
   clear hl hu hc2 hpre
   go_wp2
   go_loop [3,17] (fun x i=>∃ j:Nat,j≤l.length∧i=.int .i64 j∧x=.int .u64 (hfold (pre++l.take j))) (fun _ i=>l.length-(intOf i).toNat)
   case atStart=>exact⟨0,by omega,rfl,by simp⟩
   case round=>
    obtain⟨j,hj,rfl,rfl⟩:=hrel
    by_cases hjl:j<l.length
    ·obtain⟨x,hx⟩:∃ s,l[j]?=some s:=⟨_,List.getElem?_eq_getElem hjl⟩
     obtain⟨b2,off2,rfl,hcell2⟩:=HC2.o j (u8 x) (by simp[hx])
     have hst:hfold (pre++l.take (j+1))=hstep (hfold (pre++l.take j)) x:=by rw[take_snoc' hx,←List.append_assoc,hfold_snoc]
     have HST:=zh hst
     clear hst hx
     go_wp2
     go_round
     case rel=>exact⟨j+1,by omega,by go_num,by rw[HST.o];rfl⟩
     case measure=>simp[intOf];omega
    ·have ht:l.take j=l:=List.take_of_length_le (by omega)
     rw[ht]
     go_wp2
     go_round
     case rel=>exact⟨k+1,by omega,by go_num,by rw[flatten_take_succ HL2.o,←HP.o]⟩
     case measure=>simp[intOf];omega
  ·have ht:ls.take k=ls:=List.take_of_length_le (by omega)
   rw[ht]
   have hbd:=hfold_bd ls.flatten
   obtain⟨y,hy⟩:∃ y,y=hfold ls.flatten:=⟨_,rfl⟩
   rw[←hy] at hbd ⊢
   have HY:=zh hy
   clear hy ht
   obtain⟨hb0,hb1⟩:=hbd
   go_wp2
   refine wp_loop_rounds 9 ?_
   iterate 9
    rw[rounds_succ]
    go_wp2
   refine bodyPost_ret (v:=.agg (h8 (hash ls.flatten))) ?_ rfl ⟨rfl,(Below.refl _ _).alloc (Nat.le_refl _) _⟩
   unfold hash
   rw[←HY.o,h8_hbytes]
   simp[results,results66,go_sem]
   omega
theorem cells_block {w:World} {k n c:Nat} {vs:Array Value} {e:TypeId} {fz:Nat×Nat} (hcap:n≤c) (hk:w.heap[k]?=some (.cells vs e fz)):Cells w (.slice (some ⟨k,0,none⟩) n c) n vs.toList:=
 ⟨_,c,rfl,hcap,fun j x hx=>⟨k,0,rfl,by simpa [World.cell?,hk] using hx⟩⟩
theorem h8_toList (h:Hsh):(h8 h).toList=h.toList.map u8:=by simp only[h8,Array.toList_map];rfl
theorem hashOf_bytes {w:World} {g:Nat} {h:Hsh} (hh:hashOf w g h) (c:Nat) (hcap:8≤c:=by decide):BytesAt w (.slice (some ⟨g,0,none⟩) 8 c) h.toList:=by
 have:=cells_block (n:=8) (c:=c) hcap hh
 rw[h8_toList] at this
 unfold BytesAt
 simpa using this
theorem hashOf_at {w:World} {g:Nat} {h:Hsh} (e:g=w.heap.size):hashOf (w.alloc (.cells (h8 h) 109)) g h:=by subst e;exact hashOf_new w h
theorem bss2 {w:World} {k c:Nat} {u1 u2:Value} {e:TypeId} {fz:Nat×Nat} {l1 l2:List UInt8} (hk:w.heap[k]?=some (.cells #[u1,u2] e fz)) (h1:BytesAt w u1 l1) (h2:BytesAt w u2 l2) (hcap:2≤c:=by decide) :
  BssAt w (.slice (some ⟨k,0,none⟩) 2 c) [l1,l2]:=by
 refine⟨(#[u1,u2]:Array Value).toList,rfl,cells_block hcap hk,?_⟩
 intro j u l g1 g2
 match j,g1,g2 with
 | 0,g1,g2=>simp at g1 g2;subst g1 g2;exact h1
 | 1,g1,g2=>simp at g1 g2;subst g1 g2;exact h2
theorem bss3 {w:World} {k c:Nat} {u1 u2 u3:Value} {e:TypeId} {fz:Nat×Nat} {l1 l2 l3:List UInt8} (hk:w.heap[k]?=some (.cells #[u1,u2,u3] e fz)) (h1:BytesAt w u1 l1) (h2:BytesAt w u2 l2) (h3:BytesAt w u3 l3) (hcap:3≤c:=by decide) :
  BssAt w (.slice (some ⟨k,0,none⟩) 3 c) [l1,l2,l3]:=by
 refine⟨(#[u1,u2,u3]:Array Value).toList,rfl,cells_block hcap hk,?_⟩
 intro j u l g1 g2
 match j,g1,g2 with
 | 0,g1,g2=>simp at g1 g2;subst g1 g2;exact h1
 | 1,g1,g2=>simp at g1 g2;subst g1 g2;exact h2
 | 2,g1,g2=>simp at g1 g2;subst g1 g2;exact h3
theorem bytes1 {w:World} {k c:Nat} {x:UInt8} {e:TypeId} {fz:Nat×Nat} (hk:w.heap[k]?=some (.cells #[u8 x] e fz)) (hcap:1≤c:=by decide):BytesAt w (.slice (some ⟨k,0,none⟩) 1 c) [x]:=cells_block hcap hk
theorem node_bss (w:World) (a b:Hsh) (o:Obj) :
  BssAt (((((w.alloc (.cells (h8 a) 109)).alloc (.cells (h8 b) 109)).alloc o).alloc (.cells #[.int .u8 1] 5)).alloc
   (.cells #[.slice (some ⟨w.heap.size+1+1+1,0,none⟩) 1 1,.slice (some ⟨w.heap.size,0,none⟩) 8 8,.slice (some ⟨w.heap.size+1,0,none⟩) 8 8] 94)).drew
   (.slice (some ⟨w.heap.size+1+1+1+1,0,none⟩) 3 3) [[1],a.toList,b.toList]:=by
 have ha:hashOf ((((w.alloc (.cells (h8 a) 109)).alloc (.cells (h8 b) 109)).alloc o).alloc (.cells #[.int .u8 1] 5)) w.heap.size a:=hashOf_old (hashOf_old (hashOf_old (hashOf_at rfl) _) _) _
 have hb:hashOf ((((w.alloc (.cells (h8 a) 109)).alloc (.cells (h8 b) 109)).alloc o).alloc (.cells #[.int .u8 1] 5)) (w.heap.size+1) b:=hashOf_old (hashOf_old (hashOf_at (by simp)) _) _
 refine BssAt.below (bss3 (fz:=(0,0)) (heap_alloc_new' _ _ _ (by simp)) ?_ ?_ ?_) (below_drew _)
 ·exact (bytes1 (x:=1) (fz:=(0,0)) (heap_alloc_new' _ _ _ (by simp))).below (below_alloc _ _)
 ·exact (hashOf_bytes ha _).below (below_alloc _ _)
 ·exact (hashOf_bytes hb _).below (below_alloc _ _)
end
section
def encE (l:List UInt8):List UInt8:=UInt8.ofNat l.length :: l
def bundleOf (ls:List (List UInt8)):Option (List UInt8):=if ls.length=0∨4<ls.length then none else if ls.all (fun l=>decide (l.length≤20)) then some (ls.flatMap encE) else none
theorem bundle_none {ls:List (List UInt8)} (h:ls.length=0∨4<ls.length):bundleOf ls=none:=if_pos h
theorem bundle_long {ls:List (List UInt8)} {k:Nat} {l:List UInt8} (h:ls[k]?=some l) (hl:20<l.length):bundleOf ls=none:=by
 unfold bundleOf
 split
 ·rfl
 ·rw[if_neg]
  intro ha
  rw[List.all_eq_true] at ha
  have:=ha l (List.mem_of_getElem? h)
  simp at this
  omega
theorem bundle_some {ls:List (List UInt8)} (h0:ls.length≠0) (h4:ls.length≤4) (h:∀ (j:Nat) (l:List UInt8),ls[j]?=some l→l.length≤20):bundleOf ls=some (ls.flatMap encE):=by
 unfold bundleOf
 rw[if_neg (by omega),if_pos]
 rw[List.all_eq_true]
 intro l hl
 obtain⟨j,hj,rfl⟩:=List.getElem_of_mem hl
 simpa using h j _ (List.getElem?_eq_getElem hj)
end
section
def rawF:Nat→List UInt8→Option (List (List UInt8))
 | _,[]=>some []
 | 0,_ :: _=>none
 | f+1,x :: r=>if x.toNat≤r.length then (rawF f (r.drop x.toNat)).map (r.take x.toNat :: ·) else none
def rawU (l:List UInt8):Option (List (List UInt8)):=rawF l.length l
theorem rawF_more:∀ (f g:Nat) (l:List UInt8),l.length≤f→l.length≤g→rawF f l=rawF g l
 | _,_,[],_,_=>by simp[rawF]
 | 0,_,_ :: _,h,_=>by simp at h
 | _,0,_ :: _,_,h=>by simp at h
 | f+1,g+1,x :: r,h1,h2=>by
  simp only[rawF]
  simp only[List.length_cons] at h1 h2
  rw[rawF_more f g (r.drop x.toNat) (by simp;omega) (by simp;omega)]
theorem rawU_nil:rawU []=some []:=rfl
theorem rawU_cons (x:UInt8) (r:List UInt8):rawU (x :: r)=if x.toNat≤r.length then (rawU (r.drop x.toNat)).map (r.take x.toNat :: ·) else none:=by
 show rawF (r.length+1) (x :: r)=_
 simp only[rawF]
 rw[show rawU (r.drop x.toNat)=rawF r.length (r.drop x.toNat) from rawF_more _ _ _ (by simp) (by simp)]
def unbundleOf (l:List UInt8):Option (List (List UInt8)):=(rawU l).bind fun ls=>if (bundleOf ls).isSome then some ls else none
theorem rawF_flat:∀ (f:Nat) (l:List UInt8) (ls:List (List UInt8)),rawF f l=some ls→ls.flatMap encE=l
 | _,[],ls,h=>by simp[rawF] at h;subst h;rfl
 | 0,_ :: _,ls,h=>by simp[rawF] at h
 | f+1,x :: r,ls,h=>by
  simp only[rawF] at h
  split at h
  ·rename_i hx
   obtain⟨ls',h',rfl⟩:=Option.map_eq_some_iff.1 h
   have:=rawF_flat f _ _ h'
   rw[List.flatMap_cons,this,encE,List.length_take,Nat.min_eq_left hx]
   simp
  ·cases h
theorem unbundle_flat {l:List UInt8} {ls:List (List UInt8)} (h:rawU l=some ls):ls.flatMap encE=l:=rawF_flat _ _ _ h
def Read (data:List UInt8) (ls:List (List UInt8)) (rest:List UInt8):Prop:=rawU data=(rawU rest).map (ls ++ ·)
theorem Read.start (data:List UInt8):Read data [] data:=by unfold Read;simp
theorem Read.step {data r:List UInt8} {ls:List (List UInt8)} {x:UInt8} (h:Read data ls (x :: r)) (hx:x.toNat≤r.length):Read data (ls ++ [r.take x.toNat]) (r.drop x.toNat):=by
 unfold Read at *
 rw[h,rawU_cons,if_pos hx,Option.map_map]
 congr 1
 funext q
 simp
theorem Read.bad {data r:List UInt8} {ls:List (List UInt8)} {x:UInt8} (h:Read data ls (x :: r)) (hx:r.length<x.toNat):rawU data=none:=by
 unfold Read at h
 rw[h,rawU_cons,if_neg (by omega)]
 rfl
theorem Read.done {data:List UInt8} {ls:List (List UInt8)} (h:Read data ls []):rawU data=some ls:=by
 unfold Read at h
 rw[h,rawU_nil]
 simp
theorem bundle_mem_long {ls:List (List UInt8)} {l:List UInt8} (h:l∈ls) (hl:20<l.length):bundleOf ls=none:=by
 obtain⟨k,hk,rfl⟩:=List.getElem_of_mem h
 exact bundle_long (List.getElem?_eq_getElem hk) hl
theorem Read.long {data r:List UInt8} {ls:List (List UInt8)} {x:UInt8} (h:Read data ls (x :: r)) (hx:20<x.toNat):unbundleOf data=none:=by
 unfold unbundleOf
 by_cases hr:x.toNat≤r.length
 ·have h2:=h.step hr
  unfold Read at h2
  rw[h2]
  cases rawU (r.drop x.toNat) with
  | none=>rfl
  | some q=>
   simp only[Option.map_some,Option.bind_some]
   rw[bundle_mem_long (l:=r.take x.toNat) (by simp) (by simp;omega)]
   rfl
 ·rw[h.bad (by omega)]
  rfl
theorem Read.many {data r:List UInt8} {ls:List (List UInt8)} {x:UInt8} (h:Read data ls (x :: r)) (h4:4≤ls.length):unbundleOf data=none:=by
 unfold unbundleOf
 by_cases hr:x.toNat≤r.length
 ·have h2:=h.step hr
  unfold Read at h2
  rw[h2]
  cases rawU (r.drop x.toNat) with
  | none=>rfl
  | some q=>
   simp only[Option.map_some,Option.bind_some]
   rw[bundle_none (.inr (by simp;omega))]
   rfl
 ·rw[h.bad (by omega)]
  rfl
theorem unbundle_bad {data:List UInt8} (h:rawU data=none):unbundleOf data=none:=by unfold unbundleOf;rw[h];rfl
theorem unbundle_ok {data:List UInt8} {ls:List (List UInt8)} (h:rawU data=some ls) (h0:ls.length≠0) (h4:ls.length≤4) (hs:∀ l∈ls,l.length≤20):unbundleOf data=some ls:=by
 unfold unbundleOf
 rw[h,Option.bind_some,bundle_some h0 h4 (fun j l hj=>hs l (List.mem_of_getElem? hj))]
 rfl
theorem unbundle_empty:unbundleOf []=none:=by unfold unbundleOf;rw[rawU_nil];rfl
end
section
abbrev Fil:=ByteArray×ByteArray
theorem findN_lt {l:List Fil} {p:ByteArray}:findN l p<l.length↔∃ f∈l,f.1=p:=by
 unfold findN
 rw[List.findIdx_lt_length]
 simp
theorem getF_some {l:List Fil} {p b:ByteArray} (h:getF l p=some b):(p,b)∈l:=by
 unfold getF at h
 cases hx:l[findN l p]? with
 | none=>rw[hx] at h;simp at h
 | some x=>
  rw[hx] at h
  simp at h
  obtain⟨hlt,hx'⟩:=List.getElem?_eq_some_iff.1 hx
  have hp:=findN_path hlt
  rw[hx'] at hp
  subst h
  rw[←hp]
  exact List.mem_of_getElem? hx
theorem getF_none {l:List Fil} {p:ByteArray}:getF l p=none↔∀ f∈l,f.1≠p:=by
 unfold getF
 rw[Option.map_eq_none_iff,List.getElem?_eq_none_iff]
 constructor
 ·intro h f hf e
  have:=findN_lt.2 ⟨f,hf,e⟩
  omega
 ·intro h
  rcases Nat.lt_or_ge (findN l p) l.length with h1|h1
  ·obtain⟨f,hf,e⟩:=findN_lt.1 h1
   exact absurd e (h f hf)
  ·exact h1
theorem findN_app_left {l k:List Fil} {p:ByteArray} (h:findN l p<l.length):findN (l++k) p=findN l p:=by
 unfold findN at *
 rw[List.findIdx_append,if_pos h]
theorem findN_app_right {l k:List Fil} {p:ByteArray} (h:¬ findN l p<l.length):findN (l++k) p=findN k p+l.length:=by
 unfold findN at *
 rw[List.findIdx_append,if_neg h]
theorem getF_app (l k:List Fil) (p:ByteArray):getF (l++k) p=(getF l p).or (getF k p):=by
 by_cases h:findN l p<l.length
 ·have e:=findN_app_left (k:=k) h
  unfold getF
  rw[e,List.getElem?_append_left h,List.getElem?_eq_getElem h]
  rfl
 ·have e:=findN_app_right (k:=k) h
  have hn:getF l p=none:=getF_miss h
  rw[hn]
  unfold getF
  rw[e,List.getElem?_append_right (by omega),Nat.add_sub_cancel]
  simp
def Once (l:List Fil):Prop:=(l.map (·.1)).Nodup
theorem once_get {l:List Fil} (h:Once l) {p b:ByteArray} (hm:(p,b)∈l):getF l p=some b:=by
 induction l with
 | nil=>simp at hm
 | cons a l ih=>
  unfold Once at h
  rw[List.map_cons,List.nodup_cons] at h
  have e:getF (a :: l) p=(getF [a] p).or (getF l p):=getF_app [a] l p
  rw[e]
  by_cases hp:a.1=p
  ·have hab:a=(p,b):=by
    rcases List.mem_cons.1 hm with h1|h1
    ·exact h1.symm
    ·exact absurd (List.mem_map.2 ⟨_,h1,hp.symm⟩) h.1
   subst hab
   have:getF [(p,b)] p=some b:=by simp[getF,findN]
   rw[this]
   rfl
  ·have hn:getF [a] p=none:=getF_none.2 (by simpa using hp)
   rw[hn]
   rcases List.mem_cons.1 hm with h1|h1
   ·exact absurd (by rw[←h1]) hp
   ·simpa using ih h.2 h1
theorem set_keys (l:List Fil) (p b:ByteArray) (h:findN l p<l.length):(l.set (findN l p) (p,b)).map (·.1)=l.map (·.1):=by
 rw[List.map_set]
 have hp:=findN_path h
 have:(l.map (·.1))[findN l p]?=some p:=by rw[List.getElem?_map,List.getElem?_eq_getElem h];simp[hp]
 exact List.set_getElem_self' this
where
 List.set_getElem_self' {α:Type} {l:List α} {i:Nat} {a:α} (h:l[i]?=some a):l.set i a=l:=by
  obtain⟨hlt,rfl⟩:=List.getElem?_eq_some_iff.1 h
  exact List.set_getElem_self hlt
theorem putF_keys (l:List Fil) (p b:ByteArray):(putF l p b).map (·.1)=if findN l p<l.length then l.map (·.1) else l.map (·.1) ++ [p]:=by
 unfold putF
 split
 ·exact set_keys l p b (by assumption)
 ·simp
theorem once_put {l:List Fil} (h:Once l) (p b:ByteArray):Once (putF l p b):=by
 unfold Once
 rw[putF_keys]
 split
 ·exact h
 ·rename_i hn
  rw[List.nodup_append]
  refine⟨h,by simp,?_⟩
  intro x hx y hy e
  simp at hy
  subst hy
  subst e
  obtain⟨f,hf,hfx⟩:=List.mem_map.1 hx
  exact hn (findN_lt.2 ⟨f,hf,hfx⟩)
theorem findN_keys {l k:List Fil} (h:l.map (·.1)=k.map (·.1)) (p:ByteArray):findN l p=findN k p:=by
 have e:∀ l:List Fil,findN l p=(l.map (·.1)).findIdx fun x=>decide (x=p):=by
  intro l
  unfold findN
  rw[List.findIdx_map]
  rfl
 rw[e,e,h]
theorem getF_put (l:List Fil) (p b q:ByteArray):getF (putF l p b) q=if q=p then some b else getF l q:=by
 unfold putF
 split
 ·rename_i h
  have hk:=findN_keys (set_keys l p b h) q
  by_cases hq:q=p
  ·subst hq
   rw[if_pos rfl]
   unfold getF
   rw[hk,List.getElem?_set_self h]
   rfl
  ·rw[if_neg hq]
   unfold getF
   rw[hk,List.getElem?_set]
   split
   ·rename_i he
    have h2:findN l q<l.length:=by rw[←he];exact h
    have a:=findN_path h
    have c:=findN_path h2
    simp only[he] at a
    exact absurd (c.symm.trans a) hq
   ·rfl
 ·rename_i h
  rw[getF_app]
  by_cases hq:q=p
  ·subst hq
   rw[if_pos rfl,getF_miss h]
   simp[getF,findN]
  ·rw[if_neg hq]
   have:getF [(p,b)] q=none:=getF_none.2 (by simpa using fun e=>hq e.symm)
   rw[this,Option.or_none]
theorem putF_len (l:List Fil) (p b:ByteArray):l.length≤(putF l p b).length∧(putF l p b).length≤l.length+1:=by
 unfold putF
 split <;> simp
theorem once_firsts (l:List Fil):Once (firsts l):=by
 unfold firsts
 have:∀ acc,Once acc→Once (l.foldl addF acc):=by
  induction l with
  | nil=>intro acc h;exact h
  | cons a l ih=>
   intro acc h
   rw[List.foldl_cons]
   apply ih
   unfold addF
   split
   ·exact h
   ·rename_i hn
    have:putF acc a.1 a.2=acc ++ [a]:=by unfold putF;rw[if_neg hn]
    rw[←this]
    exact once_put h _ _
 exact this [] (by simp[Once])
end
end Go.Proofs.YtefccfakhgdfbabGreatDoor
