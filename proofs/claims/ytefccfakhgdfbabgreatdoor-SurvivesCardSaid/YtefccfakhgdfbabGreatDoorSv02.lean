/- DERIVED: THE SHELF's CONTRACTS AT THIS DUMP, IN PLAIN WORDS (tools/lay-plain.mjs out of 'TryzShelf.lean', which tools/lay-shelf.mjs wrote): THE SAME DECLARATIONS UNDER THE SAME NAMES: 'import', 'namespace', 'open', 'def', 'theorem' AND NOTHING ELSE: no command of the shelf's: FOR A HAND-IN. Each laying: the table of numbers ('.._ren') and one theorem, a field a fact of the dump's own or the kernel's comparison; each contract: ONE APPLICATION. -/
import Derived.Test.YtefccfakhgdfbabGreatDoorSv01
import Derived.Laws.CopyOwn
import Derived.Great.BuildSlice
import Derived.Shelf.Small.Bits
import Derived.Shelf.Utf8.RuneCount
import Derived.Shelf.Strconv.Itoa3
import Derived.Shelf.Strconv.ErrVarAll
import Derived.Shelf.Strconv.ParseInt10All
import Derived.Shelf.Pu.ErrVarParseUint
import Derived.Shelf.Strings.Shaped
import Derived.Shelf.Strings.SplitShaped
import Derived.Shelf.Strings.Explode
import Derived.Shelf.Unicode.DecodeAny
import Derived.Shelf.Bytes.Small
set_option linter.unusedVariables false
set_option linter.unusedSimpArgs false
open Go.RowKit Go.Proofs.Tryz
set_option maxRecDepth 100000
set_option maxHeartbeats 4000000
namespace Go.Proofs.YtefccfakhgdfbabGreatDoor
section
def faultD (d:Dk) (a:Nat) (half once:Bool):Dk:={ d with failAt:=(d.calls:Int)+a,half:=half,once:=once,dead:=false,hit:=false }
def mendD (d:Dk):Dk:={ d with failAt:=0,dead:=false,hit:=false }
theorem fault_any (w:World) (g:Nat) (v:Value) (d:Dk) (h:DiskAt w g v d) (a:Nat) (half once:Bool) (hc:d.calls<1099511627776) (ha:a<1099511627776) :
  Calls prog 13 #[.pointer (some ⟨g,0,none⟩),.int .i64 a,.bool half,.bool once] w fun e w'=>e=.returned (.tuple #[])∧DiskAt w' g v (faultD d a half once)∧Fr (·=g) w w':=by
 obtain⟨⟨c0,c1,c2,c3,c4,c5,c6,c7⟩,f0⟩:=h.cells
 have HH:=zh h
 have hw:wrap64 ((d.calls:Int)+(a:Int))=(d.calls:Int)+a:=by unfold wrap64;omega
 clear h
 have HC:=zh (heap_setCell (i:=6) (heap_setCell (i:=3) (heap_setCell (i:=4) (heap_setCell (i:=5) (heap_setCell (i:=2) HH.o.1 (.int .i64 ((d.calls:Int)+a))) (.bool half)) (.bool once)) (.bool false)) (.bool false))
 have HF:=zh (((((Fr.set1 w g 2 (.int .i64 ((d.calls:Int)+a))).set 5 (.bool half)).set 4 (.bool once)).set 3 (.bool false)).set 6 (.bool false))
 go_enter func13,ntmps13
 go_wp2
 go_end0
 exact⟨rfl,HH.o.set HF.o (HC.o.trans (by simp[dkCells,faultD])) rfl,HF.o⟩
theorem mend_any (w:World) (g:Nat) (v:Value) (d:Dk) (h:DiskAt w g v d) :
  Calls prog 17 #[.pointer (some ⟨g,0,none⟩)] w fun e w'=>e=.returned (.tuple #[])∧DiskAt w' g v (mendD d)∧Fr (·=g) w w':=by
 obtain⟨⟨c0,c1,c2,c3,c4,c5,c6,c7⟩,f0⟩:=h.cells
 have HH:=zh h
 clear h
 have HC:=zh (heap_setCell (i:=6) (heap_setCell (i:=3) (heap_setCell (i:=2) HH.o.1 (.int .i64 0)) (.bool false)) (.bool false))
 have HF:=zh (((Fr.set1 w g 2 (.int .i64 0)).set 3 (.bool false)).set 6 (.bool false))
 go_enter func17,ntmps17
 go_wp2
 go_end0
 exact⟨rfl,HH.o.set HF.o (HC.o.trans (by simp[dkCells,mendD])) rfl,HF.o⟩
theorem hit_any (w:World) (g:Nat) (v:Value) (d:Dk) (h:DiskAt w g v d) :
  Calls prog 16 #[.pointer (some ⟨g,0,none⟩)] w fun e w'=>e=.returned (.bool d.hit)∧w=w':=by
 obtain⟨⟨c0,c1,c2,c3,c4,c5,c6,c7⟩,f0⟩:=h.cells
 clear h
 go_enter func16,ntmps16
 go_wp2
 go_ret
 exact⟨rfl,rfl⟩
end
section
def FilesAt (w:World) (v:Value) (l:List (ByteArray×ByteArray)):Prop:=
 ∃ a c,v=.slice a l.length c∧l.length≤c∧∀ j x,l[j]?=some x→∃ b off,a=some ⟨b,off,none⟩∧w.cell? ⟨b,off+j*2,none⟩=some (.string x.1)∧w.cell? ⟨b,off+j*2+1,none⟩=some (.string x.2)
def addF (acc:List (ByteArray×ByteArray)) (f:ByteArray×ByteArray):List (ByteArray×ByteArray):=if findN acc f.1<acc.length then acc else acc ++ [f]
def firsts (l:List (ByteArray×ByteArray)):List (ByteArray×ByteArray):=l.foldl addF []
def dk0 (l:List (ByteArray×ByteArray)):Dk:=⟨l,0,0,false,false,false,false,false⟩
theorem firsts_len (l:List (ByteArray×ByteArray)):(firsts l).length≤l.length:=by
 have h:∀ (l acc:List (ByteArray×ByteArray)),(l.foldl addF acc).length≤acc.length+l.length:=by
  intro l
  induction l with
  | nil=>intro acc;simp
  | cons a l ih=>
   intro acc
   rw[List.foldl_cons]
   refine Nat.le_trans (ih _) ?_
   unfold addF
   split <;> simp <;> omega
 simpa [firsts] using h l []
theorem firsts_succ {l:List (ByteArray×ByteArray)} {k:Nat} {x:ByteArray×ByteArray} (h:l[k]?=some x):firsts (l.take (k+1))=addF (firsts (l.take k)) x:=by
 have e:l.take (k+1)=l.take k ++ [x]:=by rw[List.take_add_one,h];rfl
 rw[e,firsts,List.foldl_append];rfl
theorem DiskAt.pushed {w w':World} {g:Nat} {v:Value} {d:Dk} (h:DiskAt w g v d) (x:ByteArray×ByteArray) {gb cp:Nat} (hf:Fr (fun k=>v.ownBlock=some k) w w')
  (h2:w'.ownsRow 0 73 2 (.slice (some ⟨gb,0,none⟩) (d.files.length+1) cp) (d.files.length+1) (fileRow d.files ++ [.string x.1,.string x.2])) :
  DiskAt (w'.setCell ⟨g,0,none⟩ (.slice (some ⟨gb,0,none⟩) (d.files.length+1) cp)) g (.slice (some ⟨gb,0,none⟩) (d.files.length+1) cp) { d with files:=d.files ++ [x] }∧
   Fr (dkS g v) w (w'.setCell ⟨g,0,none⟩ (.slice (some ⟨gb,0,none⟩) (d.files.length+1) cp)):=by
 have hgw:=hf.heap h.1 h.parts
 have hne:gb≠g:=by
  rintro rfl
  rcases h2.2 with ⟨e,_⟩|⟨bk,cap',cur',e,_,hb,_⟩
  ·cases e
  ·cases e
   rw[hgw] at hb
   simp at hb
 refine⟨⟨(heap_setCell hgw _).trans (by simp[dkCells]),?_⟩,(hf.weak fun k _ hk=>.inr hk).trans ((Fr.setCell1 w' ⟨g,0,none⟩ _).weak fun k _ hk=>.inl hk)⟩
 show World.ownsRow _ 0 73 2 _ (d.files ++ [x]).length (fileRow (d.files ++ [x]))
 rw[List.length_append,fileRow_snoc]
 exact ownsRow_fr h2 (Fr.setCell1 w' ⟨g,0,none⟩ _) fun k hk e=>by
  simp[Value.ownBlock] at hk
  exact hne (hk.trans e)
theorem newDisk_any (w:World) (va:Value) (l:List (ByteArray×ByteArray)) (h:FilesAt w va l) (hn:l.length≤1073741824) :
  Calls prog 35 #[va] w fun e w'=>∃ g v,e=.returned (.pointer (some ⟨g,0,none⟩))∧DiskAt w' g v (dk0 (firsts l))∧Below w.heap.size w w'∧w.heap.size≤g∧(∀ k,v.ownBlock=some k→w.heap.size≤k):=by
 have HH:=zh h
 obtain⟨a,c,rfl,hc,hx⟩:=h
 have HX:=zh hx
 clear hx
 obtain⟨i,hi,hz,hs,hby⟩:=info_fileE
 have HI:=zh (⟨hi,hz,hs,hby⟩:_∧_∧_∧_)
 clear hi hz hs hby
 go_enter func35,ntmps35
 go_wp2
 go_loopg [5,10] l.length (fun gg _ s10 wr=>∃ kk:Nat,kk≤l.length∧l.length-kk≤gg∧s10=.int .i64 kk∧Aside (Below w.heap.size w wr)∧∃ v,Aside (DiskAt wr w.heap.size v (dk0 (firsts (l.take kk))))∧Aside (∀ k,v.ownBlock=some k→w.heap.size≤k))
 case atStart=>exact⟨0,Nat.zero_le _,by omega,rfl,below_alloc _ _,.slice none 0 0,⟨heap_alloc_new w _,World.ownsRow_nil _ _ _ _⟩,fun k hk=>by simp[Value.ownBlock] at hk⟩
 case round=>
  obtain⟨kk,hkk,hg,rfl,BW,v,HDk,HV⟩:=hrel
  by_cases hlt:kk<l.length
  ·obtain⟨x,hx⟩:∃ x,x=l[kk]:=⟨_,rfl⟩
   have hlx:l[kk]?=some x:=by rw[hx,List.getElem?_eq_getElem hlt]
   obtain⟨b,off,rfl,c1,c2⟩:=HX.o kk x hlx
   have hb:b<w.heap.size:=cell_lt c1
   have d1:wr.cell? ⟨b,off+kk*2,none⟩=some (.string x.1):=(BW.o.cell (p:=⟨b,off+kk*2,none⟩) hb).trans c1
   have d2:wr.cell? ⟨b,off+kk*2+1,none⟩=some (.string x.2):=(BW.o.cell (p:=⟨b,off+kk*2+1,none⟩) hb).trans c2
   have hltz:(kk:Int)<(l.length:Int):=by omega
   have hbr:b<wr.heap.size:=Nat.lt_of_lt_of_le hb BW.o.size
   have HLX:=zh hlx
   clear hx hlx c1 c2
   obtain⟨acc,hacc⟩:∃ acc,acc=firsts (l.take kk):=⟨_,rfl⟩
   have hal:acc.length≤kk:=by rw[hacc];refine Nat.le_trans (firsts_len _) ?_;simp;omega
   have hsucc:firsts (l.take (kk+1))=addF acc x:=by rw[hacc];exact firsts_succ HLX.o
   rw[←hacc] at HDk
   have HS:=zh hsucc
   clear hacc hsucc
   have hd1:=HDk.o.below (below_alloc wr (.cells #[.string x.1,.string x.2] 73))
   have hcon:=find_any _ w.heap.size v (dk0 acc) hd1 x.1
   have HD1:=zh hd1
   clear hd1
   by_cases hf:findN acc x.1<acc.length
   ·have hF:findF acc x.1=findN acc x.1:=by unfold findF;rw[if_pos hf]
    have hadd:addF acc x=acc:=by unfold addF;rw[if_pos hf]
    rw[show findF (dk0 acc).files x.1=findN acc x.1 from hF] at hcon
    have hz:¬ ((findN acc x.1:Nat):Int)<0:=by omega
    have HA:=zh hadd
    clear hF hf hadd
    go_wp2_with (go_at_call 64;refine hcon.mono ?_;rintro e w2 ⟨rfl,hb2⟩;have HB2:=zh hb2;clear hb2)
    go_roundg (l.length-(kk+1))
    case measure=>omega
    case rel=>
     refine⟨kk+1,by omega,by omega,by go_num,(BW.o.trans ((below_alloc wr _).mono BW.o.size)).trans (HB2.o.mono (Nat.le_trans BW.o.size (by simp))),v,?_,HV⟩
     show DiskAt _ _ _ (dk0 (firsts (l.take (kk+1))))
     rw[HS.o,HA.o]
     exact HD1.o.below HB2.o
   ·have hF:findF acc x.1 = -1:=by unfold findF;rw[if_neg hf]
    have hadd:addF acc x=acc ++ [x]:=by unfold addF;rw[if_neg hf]
    rw[show findF (dk0 acc).files x.1 = -1 from hF] at hcon
    have HA:=zh hadd
    clear hF hf hadd
    go_wp2_with (go_at_call 64;refine hcon.mono ?_;rintro e w2 ⟨rfl,hb2⟩;have HB2:=zh hb2;have hd2:=HD1.o.below hb2;have HD2:=zh hd2;have c0:=hd2.cells.1.1;have hfz:=hd2.cells.2 0;have hg2:=hd2.lt;have e1:=(hb2.cell (p:=⟨wr.heap.size,0,none⟩) (by simp)).trans (World.cell?_alloc_at #[.string x.1,.string x.2] 73 wr.heap.size 0 rfl);have e2:=(hb2.cell (p:=⟨wr.heap.size,1,none⟩) (by simp)).trans (World.cell?_alloc_at #[.string x.1,.string x.2] 73 wr.heap.size 1 rfl);have hg3:wr.heap.size<w2.heap.size:=Nat.lt_of_lt_of_le (by simp) hb2.size;clear hb2 hd2)
    go_region_law (refine step_appM rfl _ _ _ rfl 0 73 i _ 2 32 underlying39 HI.o.1 HI.o.2.1 HI.o.2.2.1 HI.o.2.2.2 rfl (by decide) (by decide) v acc.length (fileRow acc) rfl (ownsRow_below HD2.o.2 ((below_drew w2).alloc (Nat.le_refl _) _)) ⟨w2.heap.size,0,none⟩ 1 1 [.string x.1,.string x.2] rfl rfl (cells2_new _ _ _ _ _ rfl) (by simp[Value.oneCell']) (by decide) (by omega) (Nat.zero_le _) ?_;intro v' w' h2 h3 h4 h5;obtain⟨gb,cp,rfl,hgb⟩:=own_slice h2 h5;have H2:=zh h2;have H3:=zh ((Fr.ofBelow (S:=fun k=>v.ownBlock=some k) ((below_drew w2).alloc (Nat.le_refl _) _)).trans (Fr.ofGrown h3 fun k _ e=>e));have H4:=zh ((Moved.refl w2 v).trans h4 (by simp));have k3:=H3.o.cell c0 HD2.o.parts;have k4:=(H3.o.frozen (p:=⟨w.heap.size,0,none⟩) hg2 HD2.o.parts).trans hfz;clear h2 h3 h4 h5)
    all_goals (
     go_wp2_with fail
     go_roundg (l.length-(kk+1))
     case measure=>omega
     case rel=>
      have hp:=HD2.o.pushed x H3.o H2.o
      have hg0:w.heap.size≤w2.heap.size:=Nat.le_trans BW.o.size (Nat.le_of_lt hg3)
      refine⟨kk+1,by omega,by omega,by go_num,((BW.o.trans ((below_alloc wr _).mono BW.o.size)).trans (HB2.o.mono (Nat.le_trans BW.o.size (by simp)))).trans (hp.2.below hg0 ?_),.slice (some ⟨gb,0,none⟩) (acc.length+1) cp,?_,?_⟩
      ·intro k hk hd
       rcases hd with rfl|hd
       ·omega
       ·have:=HV.o k hd
        omega
      ·show DiskAt _ _ _ (dk0 (firsts (l.take (kk+1))))
       rw[HS.o,HA.o]
       exact hp.1
      ·show ∀ k,_→_
       intro k hk
       rcases H4.o k hk with hk' | hk'
       ·exact HV.o k hk'
       ·omega)
  ·have hltz:¬ (kk:Int)<(l.length:Int):=by omega
   have:kk=l.length:=by omega
   subst this
   go_wp2
   go_ret
   refine⟨_,rfl,v,?_,BW.o,Nat.le_refl _,HV.o⟩
   have:=HDk.o
   rw[List.take_length] at this
   exact this
end
section
def hstep (z:Int) (x:UInt8):Int:=IntKind.u64.wrap (bits BinOp.xor IntKind.u64 z (IntKind.u64.wrap x.toNat)*1099511628211)
def hstart:Int:=14695981039346656037
def hfold (l:List UInt8):Int:=l.foldl hstep hstart
theorem wrap_u64_bd (x:Int):0≤IntKind.u64.wrap x∧IntKind.u64.wrap x<2 ^ 64:=by
 simp only[IntKind.wrap,IntKind.bits,IntKind.signed]
 simp
 omega
theorem hfold_bd (l:List UInt8):0≤hfold l∧hfold l<2 ^ 64:=by
 have:∀ (l:List UInt8) (z:Int),0≤z∧z<2 ^ 64→0≤l.foldl hstep z∧l.foldl hstep z<2 ^ 64:=by
  intro l
  induction l with
  | nil=>intro z hz;exact hz
  | cons x l ih=>intro z _;exact ih _ (wrap_u64_bd _)
 exact this l _ (by unfold hstart;omega)
def hbytes (y:Int):Hsh:=#v[UInt8.ofNat (y / 72057594037927936%256).toNat,UInt8.ofNat (y / 281474976710656%256).toNat,UInt8.ofNat (y / 1099511627776%256).toNat,UInt8.ofNat (y / 4294967296%256).toNat,
 UInt8.ofNat (y / 16777216%256).toNat,UInt8.ofNat (y / 65536%256).toNat,UInt8.ofNat (y / 256%256).toNat,UInt8.ofNat (y%256).toNat]
def hash (l:List UInt8):Hsh:=hbytes (hfold l)
theorem u8_of (y:Int):u8 (UInt8.ofNat (y%256).toNat)=.int .u8 (y%256):=by
 have h:0≤y%256∧y%256<256:=by omega
 show Value.int .u8 _=_
 congr 1
 rw[UInt8.toNat_ofNat']
 omega
theorem h8_hbytes (y:Int):h8 (hbytes y)=#[.int .u8 (y / 72057594037927936%256),.int .u8 (y / 281474976710656%256),.int .u8 (y / 1099511627776%256),.int .u8 (y / 4294967296%256),.int .u8 (y / 16777216%256),.int .u8 (y / 65536%256),.int .u8 (y / 256%256),.int .u8 (y%256)]:=by
 simp only[h8,hbytes,←u8_of]
 simp
def leafH (l:List UInt8):Hsh:=hash (0 :: l)
def nodeH (a b:Hsh):Hsh:=hash (1 :: (a.toList++b.toList))
theorem flatten_take_succ {α:Type} {ls:List (List α)} {k:Nat} {l:List α} (h:ls[k]?=some l):(ls.take (k+1)).flatten=(ls.take k).flatten++l:=by
 rw[List.take_add_one,h];simp
theorem hfold_snoc (l:List UInt8) (x:UInt8):hfold (l ++ [x])=hstep (hfold l) x:=by simp[hfold]
theorem take_snoc' {l:List UInt8} {j:Nat} {x:UInt8} (h:l[j]?=some x):l.take (j+1)=l.take j ++ [x]:=by
 rw[List.take_add_one,h];simp
def rebuildR (leaf:Hsh):(i n:Nat)→List Hsh→Option Hsh
 | _,n,[]=>if n=1 then some leaf else none
 | i,n,last :: rest=>if n=1 then none else if i<2 ^ (Lib.bitLen (n-1)-1) then (rebuildR leaf i (2 ^ (Lib.bitLen (n-1)-1)) rest).map (nodeH · last)
   else (rebuildR leaf (i-2 ^ (Lib.bitLen (n-1)-1)) (n-2 ^ (Lib.bitLen (n-1)-1)) rest).map (nodeH last ·)
def rebuild (leaf:Hsh) (i n:Nat) (p:List Hsh):Option Hsh:=rebuildR leaf i n p.reverse
def included (leaf:Hsh) (i n:Int) (p:List Hsh) (root:Hsh):Bool:=decide (0≤i) && decide (i<n) && (rebuild leaf i.toNat n.toNat p == some root)
def rootsR:(m n:Nat)→Option Hsh→List Hsh→Option (Hsh×Hsh)
 | m,n,whole,[]=>if m=n then whole.map fun a=>(a,a) else none
 | m,n,whole,r :: rest=>if m=n then (match whole with|some _=>none|none=>if rest = [] then some (r,r) else none)
   else if m≤2 ^ (Lib.bitLen (n-1)-1) then (rootsR m (2 ^ (Lib.bitLen (n-1)-1)) whole rest).map fun x=>(x.1,nodeH x.2 r)
   else (rootsR (m-2 ^ (Lib.bitLen (n-1)-1)) (n-2 ^ (Lib.bitLen (n-1)-1)) none rest).map fun x=>(nodeH r x.1,nodeH r x.2)
def roots (m n:Nat) (whole:Option Hsh) (p:List Hsh):Option (Hsh×Hsh):=rootsR m n whole p.reverse
def consistent (m n:Int) (a b:Hsh) (p:List Hsh):Bool:=decide (1≤m) && decide (m≤n) && (roots m.toNat n.toNat (some a) p == some (a,b))
def eightOf (l:List UInt8):Hsh:=#v[l.getD 0 0,l.getD 1 0,l.getD 2 0,l.getD 3 0,l.getD 4 0,l.getD 5 0,l.getD 6 0,l.getD 7 0]
def below (n:Nat):Nat:=2 ^ (Lib.bitLen (n-1)-1)
theorem bl_bd {n:Nat} (h2:2≤n) (h3:n<9223372036854775808):∃ e,Lib.bitLen (n-1)=e+1∧e≤62∧2 ^ e<n∧n≤2*2 ^ e:=by
 have h:=Lib.bitLenAux_bounds 64 (n-1) (by omega) (by omega)
 obtain⟨e,he⟩:∃ e,Lib.bitLen (n-1)=e+1:=⟨Lib.bitLen (n-1)-1,by unfold Lib.bitLen;omega⟩
 have he':Lib.bitLenAux 64 (n-1)=e+1:=he
 rw[he'] at h
 simp only[Nat.add_sub_cancel] at h
 refine⟨e,he,?_,by omega,by have:=h.2.2;rw[Nat.pow_succ] at this;omega⟩
 rcases Nat.lt_or_ge e 63 with h' | h'
 ·omega
 ·have:=Nat.pow_le_pow_right (n:=2) (by decide) h'
  omega
theorem below_bd {n:Nat} (h2:2≤n) (h3:n<9223372036854775808):0<below n∧below n<n∧n≤2*below n:=by
 obtain⟨e,he,_,h4,h5⟩:=bl_bd h2 h3
 unfold below
 rw[he,Nat.add_sub_cancel]
 exact⟨Nat.two_pow_pos e,h4,h5⟩
theorem below_uniq {n e:Nat} (h2:2≤n) (h3:n<9223372036854775808) (h4:2 ^ e<n) (h5:n≤2*2 ^ e):below n=2 ^ e:=by
 obtain⟨e',he,_,h6,h7⟩:=bl_bd h2 h3
 unfold below
 rw[he,Nat.add_sub_cancel]
 rcases Nat.lt_trichotomy e e' with h|h|h
 ·have:=Nat.pow_le_pow_right (n:=2) (by decide) (show e+1≤e' from h)
  rw[Nat.pow_succ] at this
  omega
 ·rw[h]
 ·have:=Nat.pow_le_pow_right (n:=2) (by decide) (show e'+1≤e from h)
  rw[Nat.pow_succ] at this
  omega
end
section
theorem sum_any (v:Value) (ls:List (List UInt8)) (w:World) (h:BssAt w v ls) (hn:ls.length≤1048576) (hm:∀ l∈ls,l.length≤9223372036854775807) :
  Calls prog 66 #[v] w fun e w'=>e=.returned (.agg (h8 (hash ls.flatten)))∧Below w.heap.size w w':=by
 have hW1:Below w.heap.size w (w.alloc (.cells zc 109)):=(Below.refl _ _).alloc (Nat.le_refl _) _
 obtain⟨vs,hlen,⟨a,c,rfl,hcap,hc⟩,hall⟩:=h.below hW1
 have HL:=zh hlen
 have HC:=zh hc
 have HA:=zh hall
 have HM:=zh hm
 clear hc hall hlen hm h hW1
 go_enter func66,ntmps66
 go_wp2
 go_loop [3,11] (fun x i=>∃ k:Nat,k≤ls.length∧i=.int .i64 k∧x=.int .u64 (hfold (ls.take k).flatten)) (fun _ i=>ls.length-(intOf i).toNat)
 case atStart=>exact⟨0,by omega,rfl,rfl⟩
 case round=>
  obtain⟨k,hk,rfl,rfl⟩:=hrel
  by_cases hlt:k<ls.length
  ·obtain⟨l,hl⟩:∃ s,ls[k]?=some s:=⟨_,List.getElem?_eq_getElem hlt⟩
   obtain⟨u,hu⟩:∃ s,vs[k]?=some s:=⟨_,List.getElem?_eq_getElem (by rw[HL.o];exact hlt)⟩
   obtain⟨b,off,rfl,hcell⟩:=HC.o k u hu
   obtain⟨a2,c2,rfl,hcap2,hc2⟩:=HA.o k u l hu hl
   have hb:=HM.o l (List.mem_of_getElem? hl)
   obtain⟨pre,hpre⟩:∃ p,p=(ls.take k).flatten:=⟨_,rfl⟩
   rw[←hpre]
   have HP:=zh hpre
   have HL2:=zh hl
   have HU2:=zh hu
   have HC2:=zh hc2
   clear hl hu hc2 hpre
   go_wp2
   go_loop [3,17] (fun x i=>∃ j:Nat,j≤l.length∧i=.int .i64 j∧x=.int .u64 (hfold (pre++l.take j))) (fun _ i=>l.length-(intOf i).toNat)
   case atStart=>exact⟨0,by omega,rfl,by simp⟩
   case round=>
    obtain⟨j,hj,rfl,rfl⟩:=hrel
    by_cases hjl:j<l.length
    ·obtain⟨x,hx⟩:∃ s,l[j]?=some s:=⟨_,List.getElem?_eq_getElem hjl⟩
     obtain⟨b2,off2,rfl,hcell2⟩:=HC2.o j (u8 x) (by simp[hx])
     have hst:hfold (pre++l.take (j+1))=hstep (hfold (pre++l.take j)) x:=by rw[take_snoc' hx,←List.append_assoc,hfold_snoc]
     have HST:=zh hst
     clear hst hx
     go_wp2
     go_round
     case rel=>exact⟨j+1,by omega,by go_num,by rw[HST.o];rfl⟩
     case measure=>simp[intOf];omega
    ·have ht:l.take j=l:=List.take_of_length_le (by omega)
     rw[ht]
     go_wp2
     go_round
     case rel=>exact⟨k+1,by omega,by go_num,by rw[flatten_take_succ HL2.o,←HP.o]⟩
     case measure=>simp[intOf];omega
  ·have ht:ls.take k=ls:=List.take_of_length_le (by omega)
   rw[ht]
   have hbd:=hfold_bd ls.flatten
   obtain⟨y,hy⟩:∃ y,y=hfold ls.flatten:=⟨_,rfl⟩
   rw[←hy] at hbd ⊢
   have HY:=zh hy
   clear hy ht
   obtain⟨hb0,hb1⟩:=hbd
   go_wp2
   refine wp_loop_rounds 9 ?_
   iterate 9
    rw[rounds_succ]
    go_wp2
   refine bodyPost_ret (v:=.agg (h8 (hash ls.flatten))) ?_ rfl ⟨rfl,(Below.refl _ _).alloc (Nat.le_refl _) _⟩
   unfold hash
   rw[←HY.o,h8_hbytes]
   simp[results,results66,go_sem]
   omega
theorem cells_block {w:World} {k n c:Nat} {vs:Array Value} {e:TypeId} {fz:Nat×Nat} (hcap:n≤c) (hk:w.heap[k]?=some (.cells vs e fz)):Cells w (.slice (some ⟨k,0,none⟩) n c) n vs.toList:=
 ⟨_,c,rfl,hcap,fun j x hx=>⟨k,0,rfl,by simpa [World.cell?,hk] using hx⟩⟩
theorem h8_toList (h:Hsh):(h8 h).toList=h.toList.map u8:=by simp only[h8,Array.toList_map];rfl
theorem hashOf_bytes {w:World} {g:Nat} {h:Hsh} (hh:hashOf w g h) (c:Nat) (hcap:8≤c:=by decide):BytesAt w (.slice (some ⟨g,0,none⟩) 8 c) h.toList:=by
 have:=cells_block (n:=8) (c:=c) hcap hh
 rw[h8_toList] at this
 unfold BytesAt
 simpa using this
theorem hashOf_at {w:World} {g:Nat} {h:Hsh} (e:g=w.heap.size):hashOf (w.alloc (.cells (h8 h) 109)) g h:=by subst e;exact hashOf_new w h
theorem bss2 {w:World} {k c:Nat} {u1 u2:Value} {e:TypeId} {fz:Nat×Nat} {l1 l2:List UInt8} (hk:w.heap[k]?=some (.cells #[u1,u2] e fz)) (h1:BytesAt w u1 l1) (h2:BytesAt w u2 l2) (hcap:2≤c:=by decide) :
  BssAt w (.slice (some ⟨k,0,none⟩) 2 c) [l1,l2]:=by
 refine⟨(#[u1,u2]:Array Value).toList,rfl,cells_block hcap hk,?_⟩
 intro j u l g1 g2
 match j,g1,g2 with
 | 0,g1,g2=>simp at g1 g2;subst g1 g2;exact h1
 | 1,g1,g2=>simp at g1 g2;subst g1 g2;exact h2
theorem bss3 {w:World} {k c:Nat} {u1 u2 u3:Value} {e:TypeId} {fz:Nat×Nat} {l1 l2 l3:List UInt8} (hk:w.heap[k]?=some (.cells #[u1,u2,u3] e fz)) (h1:BytesAt w u1 l1) (h2:BytesAt w u2 l2) (h3:BytesAt w u3 l3) (hcap:3≤c:=by decide) :
  BssAt w (.slice (some ⟨k,0,none⟩) 3 c) [l1,l2,l3]:=by
 refine⟨(#[u1,u2,u3]:Array Value).toList,rfl,cells_block hcap hk,?_⟩
 intro j u l g1 g2
 match j,g1,g2 with
 | 0,g1,g2=>simp at g1 g2;subst g1 g2;exact h1
 | 1,g1,g2=>simp at g1 g2;subst g1 g2;exact h2
 | 2,g1,g2=>simp at g1 g2;subst g1 g2;exact h3
theorem bytes1 {w:World} {k c:Nat} {x:UInt8} {e:TypeId} {fz:Nat×Nat} (hk:w.heap[k]?=some (.cells #[u8 x] e fz)) (hcap:1≤c:=by decide):BytesAt w (.slice (some ⟨k,0,none⟩) 1 c) [x]:=cells_block hcap hk
theorem node_bss (w:World) (a b:Hsh) (o:Obj) :
  BssAt (((((w.alloc (.cells (h8 a) 109)).alloc (.cells (h8 b) 109)).alloc o).alloc (.cells #[.int .u8 1] 5)).alloc
   (.cells #[.slice (some ⟨w.heap.size+1+1+1,0,none⟩) 1 1,.slice (some ⟨w.heap.size,0,none⟩) 8 8,.slice (some ⟨w.heap.size+1,0,none⟩) 8 8] 94)).drew
   (.slice (some ⟨w.heap.size+1+1+1+1,0,none⟩) 3 3) [[1],a.toList,b.toList]:=by
 have ha:hashOf ((((w.alloc (.cells (h8 a) 109)).alloc (.cells (h8 b) 109)).alloc o).alloc (.cells #[.int .u8 1] 5)) w.heap.size a:=hashOf_old (hashOf_old (hashOf_old (hashOf_at rfl) _) _) _
 have hb:hashOf ((((w.alloc (.cells (h8 a) 109)).alloc (.cells (h8 b) 109)).alloc o).alloc (.cells #[.int .u8 1] 5)) (w.heap.size+1) b:=hashOf_old (hashOf_old (hashOf_at (by simp)) _) _
 refine BssAt.below (bss3 (fz:=(0,0)) (heap_alloc_new' _ _ _ (by simp)) ?_ ?_ ?_) (below_drew _)
 ·exact (bytes1 (x:=1) (fz:=(0,0)) (heap_alloc_new' _ _ _ (by simp))).below (below_alloc _ _)
 ·exact (hashOf_bytes ha _).below (below_alloc _ _)
 ·exact (hashOf_bytes hb _).below (below_alloc _ _)
end
section
def HS (h:Hsh):ByteArray:=⟨h.toArray⟩
end
section
theorem info8:(prog.info? 109).map (·.size)=some 8:=by kernel_rfl
theorem h8_0 (a:Hsh):(h8 a)[0]?=some (u8 a[0]):=by simp[h8]
theorem h8_1 (a:Hsh):(h8 a)[1]?=some (u8 a[1]):=by simp[h8]
theorem h8_2 (a:Hsh):(h8 a)[2]?=some (u8 a[2]):=by simp[h8]
theorem h8_3 (a:Hsh):(h8 a)[3]?=some (u8 a[3]):=by simp[h8]
theorem h8_4 (a:Hsh):(h8 a)[4]?=some (u8 a[4]):=by simp[h8]
theorem h8_5 (a:Hsh):(h8 a)[5]?=some (u8 a[5]):=by simp[h8]
theorem h8_6 (a:Hsh):(h8 a)[6]?=some (u8 a[6]):=by simp[h8]
theorem h8_7 (a:Hsh):(h8 a)[7]?=some (u8 a[7]):=by simp[h8]
theorem h8_fold (a:Hsh):(#[u8 a[0],u8 a[1],u8 a[2],u8 a[3],u8 a[4],u8 a[5],u8 a[6],u8 a[7]]:Array Value)=h8 a:=by
 apply Array.ext
 ·simp
 ·intro i h1 h2
  have:i=0∨i=1∨i=2∨i=3∨i=4∨i=5∨i=6∨i=7:=by simp at h1;omega
  rcases this with rfl|rfl|rfl|rfl|rfl|rfl|rfl|rfl <;> simp[h8]
theorem h8_list (a:Hsh):(h8 a).toList = [u8 a[0],u8 a[1],u8 a[2],u8 a[3],u8 a[4],u8 a[5],u8 a[6],u8 a[7]]:=by
 rw[←h8_fold]
theorem run_store8 {P:Program} {w:World} {g:Nat} (k:Hsh) (h:Is8 w g):Sem.run P (storeCells ⟨g,0,none⟩ (h8 k).toList) w=.ok () (w.setRow g (h8 k)):=by
 obtain⟨h0,hh⟩:=h
 have hst:=run_storeCells_at P g 0 109 (h8 k).toList 0 (h8 h0) w hh (by simp) (fun u hu=>by
  have:=h8_one k
  rw[Array.all_eq_true'] at this
  exact this u (by simpa using hu))
 simp only[Nat.zero_add,Nat.add_zero] at hst
 rw[hst]
 congr 2
 apply Array.ext'
 simp
theorem below_nest5 (w:World) (a b c d e:Obj):Below w.heap.size w (((((w.alloc a).alloc b).alloc c).alloc d).alloc e).drew:=
 ((((((Below.refl _ _).alloc (Nat.le_refl _) _).alloc (by simp) _).alloc (by simp;omega) _).alloc (by simp;omega) _).alloc (by simp;omega) _).drew
section
attribute [local go_sem] h8_0 h8_1 h8_2 h8_3 h8_4 h8_5 h8_6 h8_7 h8_fold h8_size run_store8
theorem leaf_any (v:Value) (l:List UInt8) (w:World) (h:BytesAt w v l) (hn:l.length≤9223372036854775807) :
  Calls prog 72 #[v] w fun e w'=>e=.returned (.agg (h8 (leafH l)))∧Below w.heap.size w w':=by
 obtain⟨a,c,rfl⟩:∃ a c,v=.slice a l.length c:=by obtain⟨a,c,h1,_,_⟩:=h;exact⟨a,c,h1⟩
 have HH:=zh h
 clear h
 go_enter func72,ntmps72
 go_wp2_with fail
 refine (sum_any _ [[0],l] _ (bss2 (fz:=(0,0)) (heap_alloc_new' _ _ _ (by simp)) ?_ ?_) (by simp) (by simp;omega)).mono ?_
 ·exact (bytes1 (x:=0) (fz:=(0,0)) (heap_alloc_new' _ _ _ (by simp))).below (below_alloc _ _)
 ·exact ((HH.o.below (below_alloc _ _)).below (below_alloc _ _)).below (below_alloc _ _)
 rintro e w1 ⟨rfl,hb⟩
 go_wp2_with (first|(refine wpList_store8 rfl 109 _ _ rfl _ _ rfl rfl info8 ?_ ?_ ?_;rotate_left;focus ((repeat(first|(with_reducible first|assumption|exact hashOf_set' ⟨_,by assumption⟩ _)|((with_reducible first|refine hashOf_zero' ?_|refine hashOf_at ?_|refine hashOf_set' (Is8_zero ?_) _);(first|rfl|(simp;done)|(simp;omega)))|with_reducible refine hashOf_old ?_ _|((with_reducible refine hashOf_other ?_ _ ?_);rotate_left;(focus(first|(simp;done)|(simp;omega)|omega)))|with_reducible first|refine hashOf_drew ?_|refine hashOf_below ?_ (by assumption)));done)))
 have hz:hashOf w1 w.heap.size zero8:=by
  (repeat(first|(with_reducible first|assumption|exact hashOf_set' ⟨_,by assumption⟩ _)|((with_reducible first|refine hashOf_zero' ?_|refine hashOf_at ?_|refine hashOf_set' (Is8_zero ?_) _);(first|rfl|(simp;done)|(simp;omega)))|with_reducible refine hashOf_old ?_ _|((with_reducible refine hashOf_other ?_ _ ?_);rotate_left;(focus(first|(simp;done)|(simp;omega)|omega)))|with_reducible first|refine hashOf_drew ?_|refine hashOf_below ?_ (by assumption)))
 refine ret8 w.heap.size (leafH l) rfl rfl _ underlying109 info8 (by simpa [leafH] using hashOf_set hz _) rfl ⟨rfl,?_⟩
 exact below_setRow ((((below_alloc w _).alloc (by simp) _).alloc (by simp;omega) _).trans (hb.mono (by simp;omega))) (by omega) _
theorem node_any (a b:Hsh) (w:World) :
  Calls prog 129 #[.agg (h8 a),.agg (h8 b)] w fun e w'=>e=.returned (.agg (h8 (nodeH a b)))∧Below w.heap.size w w':=by
 go_enter func129,ntmps129
 go_wp2_with fail
 go_region_with (go_at_call 66;refine (sum_any _ _ _ (node_bss w a b _) (by simp) (by simp)).mono ?_;rintro e w1 ⟨rfl,hb⟩;have HB:=zh hb;have hz:w.heap.size+4<w1.heap.size:=(by have:=hb.size;simp at this;omega);have hI8:Is8 w1 (w.heap.size+1+1):=⟨zero8,hashOf_below (hashOf_drew (hashOf_old (hashOf_old (hashOf_zero' (by simp)) _) _)) hb⟩;clear hb)
 go_wp2
 obtain⟨z,hz8⟩:=hI8
 refine ret8 (w.heap.size+1+1) (nodeH a b) rfl rfl _ underlying109 info8 (hashOf_set hz8 _) rfl ⟨rfl,?_⟩
 exact below_setRow ((below_nest5 w _ _ _ _ _).trans (HB.o.mono (by simp;omega))) (by omega) _
end
end
section
theorem eight_list (l:List UInt8):(l.take 8).map u8++(List.replicate 8 (Value.int .u8 0)).drop (min l.length 8)=(h8 (eightOf l)).toList:=by
 rw[h8_list]
 match l with
 | []=>rfl
 | [_]=>rfl
 | [_,_]=>rfl
 | [_,_,_]=>rfl
 | [_,_,_,_]=>rfl
 | [_,_,_,_,_]=>rfl
 | [_,_,_,_,_,_]=>rfl
 | [_,_,_,_,_,_,_]=>rfl
 | a0 :: a1 :: a2 :: a3 :: a4 :: a5 :: a6 :: a7 :: r=>
  have:min (a0 :: a1 :: a2 :: a3 :: a4 :: a5 :: a6 :: a7 :: r).length 8=8:=by simp
  rw[this]
  rfl
theorem info_u8:(prog.info? 5).map (fun i=>(i.zero,i.size,i.bytes))=some (some (.int .u8 0),1,1):=by kernel_rfl
end
section
def HashesAt (w:World) (v:Value) (hs:List Hsh):Prop:=Cells w v hs.length (hs.flatMap fun h=>(h8 h).toList)
def OwnHs (w:World) (base:Nat) (v:Value) (hs:List Hsh):Prop:=w.ownsRow base 109 8 v hs.length (hs.flatMap fun h=>(h8 h).toList)
theorem OwnHs.at {w:World} {base:Nat} {v:Value} {hs:List Hsh} (h:OwnHs w base v hs):HashesAt w v hs:=ownsRow_cells h
theorem info_str:(prog.info? 9).map (fun i=>(i.zero,i.size,i.bytes))=some (some (.string ⟨#[]⟩),1,16):=by kernel_rfl
theorem info_hash:(prog.info? 109).map (fun i=>(i.zero,i.size,i.bytes))=some (some (.agg zc),8,8):=by kernel_rfl
theorem fill8 (h:Hsh) (sz:Nat) (hs:sz=8) (Z:Array Value) (hZ:Z.size=8):Instr.fill (fun i=>some (i*sz,sz)) Z [(0,.agg (h8 h))]=some (h8 h):=by
 subst hs
 obtain⟨l⟩:=Z
 match l,hZ with
 | [a0,a1,a2,a3,a4,a5,a6,a7],_=>
  rw[←h8_fold h]
  simp[Instr.fill,Value.cells]
theorem wpList_bs8 {P:Program} {ops:Array Oper} {rest:List Oper} {o:Oper} {a:Act} {Q:Exit→Act→World→Prop} {w:World} (hg:o.guard=none) (t:TypeId) (x:Operand) (ho:o.op=.buildSlice t 1 #[(0,x)])
  (i:TypeInfo) (hu:P.underlying t=some (.slice 109)) (hi:P.info? 109=some i) (hz:i.zero=some (.agg (h8 zero8))) (hsize:i.size=8) (h:Hsh) (hx:a.eval x=.agg (h8 h))
  (hk:wpList P ops Q rest (a.put o.dst (.slice (some ⟨w.heap.size,0,none⟩) 1 1)) (w.alloc (.cells (h8 h) 109))):wpList P ops Q (o :: rest) a w:=
 wpList_plain hg fun _ hK=>wp_buildSlice t 109 1 _ ho (h8 h) i _ hu hi hz (by omega) (by omega) (by
  simp only[List.map_toArray,List.map_cons,List.map_nil,hx]
  exact fill8 h _ hsize _ (by simp[hsize])) (hK _ _ hk)
end
section
def lgCells (gd:Nat) (ve vl vp:Value) (L:Lg):Array Value:=#[.iface 25 (.pointer (some ⟨gd,0,none⟩)),.string L.key,ve,vl,vp,.bool L.failed]
def LogS (g:Nat) (ve vl vp:Value) (vs:List Value) (k:Nat):Prop:=k=g∨ve.ownBlock=some k∨vl.ownBlock=some k∨vp.ownBlock=some k∨∃ v∈vs,v.ownBlock=some k
structure LogIs (w:World) (g gd:Nat) (ve vl vp:Value) (vs:List Value) (L:Lg):Prop where
 cells:w.heap[g]?=some (.cells (lgCells gd ve vl vp L) 138 (0,0))
 ents:OwnBss w 0 ve L.entries
 rows:w.ownsRow 0 104 1 vl L.levels.length vs
 each:∀ (j:Nat) (v:Value) (r:List Hsh),vs[j]?=some v→L.levels[j]?=some r→OwnHs w 0 v r
 apart:∀ (i j:Nat) (a b:Value) (k:Nat),vs[i]?=some a→vs[j]?=some b→a.ownBlock=some k→b.ownBlock=some k→i=j
 puts:w.ownsRow 0 3 1 vp L.put.length (L.put.map fun (n:Nat)=>.int .i64 (n:Int))
def NoBytes (w:World) (T:Nat→Prop):Prop:=∀ k C fz,w.heap[k]?=some (.cells C 5 fz)→¬ T k
theorem ownBlock_type {w:World} {base:Nat} {e:TypeId} {size:Nat} {v:Value} {n:Nat} {xs:List Value} (h:w.ownsRow base e size v n xs) {k:Nat} (hk:v.ownBlock=some k):∃ C,w.heap[k]?=some (.cells C e (0,0)):=by
 rcases h.2 with ⟨rfl,_⟩|⟨b,cap,cur,rfl,_,hb,_⟩
 ·simp[Value.ownBlock] at hk
 ·simp[Value.ownBlock] at hk
  subst hk
  exact⟨cur,hb⟩
theorem OwnBss.fr {T:Nat→Prop} {w w':World} {base:Nat} {v:Value} {ls:List (List UInt8)} (h:OwnBss w base v ls) (hf:Fr T w w') (hT:∀ k,v.ownBlock=some k→¬ T k) (hn:NoBytes w T):OwnBss w' base v ls:=by
 obtain⟨vs,h1,h2⟩:=h
 exact⟨vs,ownsRow_fr h1 hf hT,fun j u l hu hl=>(h2 j u l hu hl).same fun k C fz hk=>hf.block k (lt_of_heap hk) (hn k C fz hk)⟩
theorem LogIs.fr {T:Nat→Prop} {w w':World} {g gd:Nat} {ve vl vp:Value} {vs:List Value} {L:Lg} (h:LogIs w g gd ve vl vp vs L) (hf:Fr T w w') (hT:∀ k,LogS g ve vl vp vs k→¬ T k) (hn:NoBytes w T):LogIs w' g gd ve vl vp vs L where
 cells:=hf.heap h.cells (hT g (.inl rfl))
 ents:=h.ents.fr hf (fun k hk=>hT k (.inr (.inl hk))) hn
 rows:=ownsRow_fr h.rows hf fun k hk=>hT k (.inr (.inr (.inl hk)))
 each j v r hv hr:=ownsRow_fr (h.each j v r hv hr) hf fun k hk=>hT k (.inr (.inr (.inr (.inr ⟨v,List.mem_of_getElem? hv,hk⟩))))
 apart:=h.apart
 puts:=ownsRow_fr h.puts hf fun k hk=>hT k (.inr (.inr (.inr (.inl hk))))
theorem LogIs.below {w w':World} {g gd:Nat} {ve vl vp:Value} {vs:List Value} {L:Lg} (h:LogIs w g gd ve vl vp vs L) (hb:Below w.heap.size w w'):LogIs w' g gd ve vl vp vs L:=
 h.fr (T:=fun _=>False) (Fr.ofBelow hb) (fun _ _ h=>h) (fun _ _ _ _ h=>h)
theorem LogIs.kinds {w:World} {g gd:Nat} {ve vl vp:Value} {vs:List Value} {L:Lg} (h:LogIs w g gd ve vl vp vs L) {k:Nat} (hk:LogS g ve vl vp vs k) :
  ∃ C t,w.heap[k]?=some (.cells C t (0,0))∧(t=138∨t=94∨t=104∨t=3∨t=109):=by
 rcases hk with rfl|hk|hk|hk|⟨v,hv,hk⟩
 ·exact⟨_,_,h.cells,.inl rfl⟩
 ·obtain⟨vs',h1,_⟩:=h.ents
  obtain⟨C,hC⟩:=ownBlock_type h1 hk
  exact⟨C,_,hC,.inr (.inl rfl)⟩
 ·obtain⟨C,hC⟩:=ownBlock_type h.rows hk
  exact⟨C,_,hC,.inr (.inr (.inl rfl))⟩
 ·obtain⟨C,hC⟩:=ownBlock_type h.puts hk
  exact⟨C,_,hC,.inr (.inr (.inr (.inl rfl)))⟩
 ·obtain⟨j,hj⟩:=List.mem_iff_getElem?.1 hv
  have hl:vs.length=L.levels.length:=by simpa using h.rows.1
  have hjl:j<L.levels.length:=by have:=(List.getElem?_eq_some_iff.1 hj).1;omega
  obtain⟨C,hC⟩:=ownBlock_type (h.each j v _ hj (List.getElem?_eq_getElem hjl)) hk
  exact⟨C,_,hC,.inr (.inr (.inr (.inr rfl)))⟩
theorem LogIs.noBytes {w:World} {g gd:Nat} {ve vl vp:Value} {vs:List Value} {L:Lg} (h:LogIs w g gd ve vl vp vs L):NoBytes w (LogS g ve vl vp vs):=by
 intro k C fz hk hs
 obtain⟨C',t,h1,h2⟩:=h.kinds hs
 rw[hk] at h1
 cases h1
 revert h2
 decide
theorem DiskAt.noBytes {w:World} {g:Nat} {v:Value} {d:Dk} (h:DiskAt w g v d):NoBytes w (dkS g v):=by
 intro k C fz hk hs
 rcases hs with rfl|hs
 ·have:=h.1
  rw[hk] at this
  simp at this
 ·obtain⟨C',h1⟩:=ownBlock_type h.2 hs
  rw[hk] at h1
  simp at h1
theorem LogIs.apartDisk {w:World} {g gd g':Nat} {ve vl vp v:Value} {vs:List Value} {L:Lg} {d:Dk} (h:LogIs w g gd ve vl vp vs L) (hd:DiskAt w g' v d):∀ k,LogS g ve vl vp vs k→¬ dkS g' v k:=by
 intro k hk hs
 obtain⟨C',t,h1,h2⟩:=h.kinds hk
 rcases hs with rfl|hs
 ·rw[hd.1] at h1
  cases h1
  revert h2
  decide
 ·obtain⟨C,h3⟩:=ownBlock_type hd.2 hs
  rw[h3] at h1
  cases h1
  revert h2
  decide
theorem LogIs.heads {w:World} {g gd:Nat} {ve vl vp:Value} {vs:List Value} {L:Lg} (h:LogIs w g gd ve vl vp vs L) :
  (w.cell? ⟨g,0,none⟩=some (.iface 25 (.pointer (some ⟨gd,0,none⟩)))∧w.cell? ⟨g,1,none⟩=some (.string L.key)∧w.cell? ⟨g,2,none⟩=some ve∧w.cell? ⟨g,3,none⟩=some vl∧w.cell? ⟨g,4,none⟩=some vp∧w.cell? ⟨g,5,none⟩=some (.bool L.failed))∧∀ i,w.frozen? ⟨g,i,none⟩=false:=
 ⟨⟨cell_heap h.cells 0 rfl,cell_heap h.cells 1 rfl,cell_heap h.cells 2 rfl,cell_heap h.cells 3 rfl,cell_heap h.cells 4 rfl,cell_heap h.cells 5 rfl⟩,fun i=>frozen_heap h.cells i⟩
theorem lgSize_any (w:World) (g gd:Nat) (ve vl vp:Value) (vs:List Value) (L:Lg) (h:LogIs w g gd ve vl vp vs L) :
  Calls prog 38 #[.pointer (some ⟨g,0,none⟩)] w fun e w'=>e=.returned (.int .i64 L.entries.length)∧w=w':=by
 obtain⟨⟨_,_,c2,_⟩,_⟩:=h.heads
 obtain⟨vs',h1,_⟩:=h.ents
 obtain⟨a,c,rfl⟩:=own_any h1
 clear h
 go_enter func38,ntmps38
 go_wp2
 go_ret
 exact⟨rfl,rfl⟩
def PathErr (w:World) (base:Nat) (p:ByteArray) (e u:Value):Prop:=∃ q,u=.iface 153 (.pointer (some ⟨q,0,none⟩))∧base≤q∧w.heap[q]?=some (.cells #[.string p,e] 155 (0,0))
theorem at_any (w:World) (p:ByteArray) (t:TypeId) (x:Value) :
  Calls prog 65 #[.string p,.iface t x] w fun e w'=>∃ u,e=.returned u∧PathErr w' w.heap.size p (.iface t x) u∧Below w.heap.size w w':=by
 go_enter func65,ntmps65
 go_wp2
 go_ret
 exact⟨_,rfl,⟨w.heap.size,rfl,Nat.le_refl _,heap_alloc_new w _⟩,below_alloc w _⟩
end
section
abbrev dec (n:Nat):List UInt8:=Lib.decDigits n
def kE:List UInt8:=[101,110,116,114,105,101,115,47]
def kT:List UInt8:=[116,105,108,101,47]
def kP:List UInt8:=[46,112,47]
def nameOk (level index width:Int):Prop:=-1≤level∧level≤20∧0≤index∧1≤width∧width≤4
instance (level index width:Int):Decidable (nameOk level index width):=by unfold nameOk;infer_instance
def nameBody (level index width:Int):List UInt8:=
 (if 0≤level then kT++dec level.toNat ++ [47] else kE)++dec index.toNat++(if width<4 then kP++dec width.toNat else [])
def nameOf (level index width:Int):List UInt8:=if nameOk level index width then nameBody level index width else []
def isDig (c:UInt8):Prop:=48≤c.toNat∧c.toNat≤57
theorem dec_dig (n:Nat):∀ c∈dec n,isDig c:=by
 induction n using Nat.strongRecOn with
 | _ n ih=>
  intro c hc
  unfold dec at hc
  rw[Lib.decDigits] at hc
  split at hc
  ·simp only[List.mem_singleton] at hc
   subst hc
   unfold isDig
   rw[UInt8.toNat_ofNat']
   omega
  ·rw[List.mem_append] at hc
   rcases hc with hc|hc
   ·exact ih (n / 10) (by omega) c hc
   ·simp only[List.mem_singleton] at hc
    subst hc
    unfold isDig
    rw[UInt8.toNat_ofNat']
    omega
theorem dec_ne (n:Nat):dec n≠[]:=by
 unfold dec
 rw[Lib.decDigits]
 split <;> simp
def valD (acc:Nat) (l:List UInt8):Nat:=l.foldl (fun a c=>a*10+(c.toNat-48)) acc
theorem valD_append (acc:Nat) (a b:List UInt8):valD acc (a++b)=valD (valD acc a) b:=by simp[valD]
theorem valD_le (l:List UInt8):∀ acc,acc≤valD acc l:=by
 induction l with
 | nil=>intro acc;exact Nat.le_refl _
 | cons c l ih=>
  intro acc
  have:=ih (acc*10+(c.toNat-48))
  show acc≤valD (acc*10+(c.toNat-48)) l
  omega
theorem valD_dec (n:Nat):valD 0 (dec n)=n:=by
 induction n using Nat.strongRecOn with
 | _ n ih=>
  unfold dec
  rw[Lib.decDigits]
  split
  ·simp only[valD,List.foldl]
   rw[UInt8.toNat_ofNat']
   omega
  ·rw[valD_append]
   have:=ih (n / 10) (by omega)
   unfold dec at this
   rw[this]
   simp only[valD,List.foldl]
   rw[UInt8.toNat_ofNat']
   omega
theorem parseUint10_val:∀ (l:List UInt8) (acc:Nat),(∀ c∈l,isDig c)→valD acc l<18446744073709551616→Lib.parseUint10 acc l=.ok (valD acc l)
 | [],acc,_,_=>rfl
 | c :: l,acc,hd,hv=>by
  have h1:isDig c:=hd c (by simp)
  have h2:=valD_le l (acc*10+(c.toNat-48))
  have h3:valD acc (c :: l)=valD (acc*10+(c.toNat-48)) l:=rfl
  rw[h3] at hv ⊢
  unfold isDig at h1
  simp only[Lib.parseUint10]
  rw[if_pos h1,if_neg (by omega),if_neg (by omega)]
  exact parseUint10_val l _ (fun c hc=>hd c (by simp[hc])) hv
theorem atoi_dec (n:Nat) (h:n<9223372036854775808):Lib.atoiAll (dec n)=.ok (n:Int):=by
 have hp:Lib.parseMag (dec n)=.ok n:=by
  unfold Lib.parseMag
  rw[if_neg (dec_ne n),parseUint10_val _ _ (dec_dig n) (by rw[valD_dec];omega),valD_dec]
 obtain⟨c,r,hcr⟩:∃ c r,dec n=c :: r:=by
  cases hd:dec n with
  | nil=>exact absurd hd (dec_ne n)
  | cons c r=>exact⟨c,r,rfl⟩
 have hc:isDig c:=dec_dig n c (by rw[hcr];simp)
 unfold isDig at hc
 rw[hcr] at hp ⊢
 unfold Lib.atoiAll
 simp only
 rw[if_neg (by omega),hp]
 simp only
 rw[if_neg (by omega),if_neg (by omega),if_neg (by omega)]
theorem isPrefix_cons_ne {a b:UInt8} {s t:List UInt8} (h:a≠b):(a :: s).isPrefixOf (b :: t)=false:=by
 simp[List.isPrefixOf,h]
theorem index_digits (m:UInt8) (ms:List UInt8) (hm:¬ isDig m):∀ (d t:List UInt8),(∀ c∈d,isDig c)→Lib.index (d++(m :: ms++t)) (m :: ms)=d.length
 | [],t,_=>by
  simp[Lib.index,List.isPrefixOf]
 | c :: d,t,hd=>by
  have ih:=index_digits m ms hm d t (fun c hc=>hd c (by simp[hc]))
  have hne:m≠c:=fun e=>hm (e ▸ hd c (by simp))
  simp only[List.cons_append,Lib.index]
  rw[isPrefix_cons_ne hne]
  simp only[List.cons_append] at ih
  rw[ih]
  have:((d.length:Int) == -1)=false:=by rw[beq_eq_false_iff_ne];omega
  simp[this]
theorem index_digits_none (m:UInt8) (ms:List UInt8) (hm:¬ isDig m):∀ (d:List UInt8),(∀ c∈d,isDig c)→Lib.index d (m :: ms) = -1
 | [],_=>by simp[Lib.index]
 | c :: d,hd=>by
  have ih:=index_digits_none m ms hm d (fun c hc=>hd c (by simp[hc]))
  have hne:m≠c:=fun e=>hm (e ▸ hd c (by simp))
  simp only[Lib.index]
  rw[isPrefix_cons_ne hne,ih]
  rfl
theorem cut_digits (m:UInt8) (ms:List UInt8) (hm:¬ isDig m) (d t:List UInt8) (hd:∀ c∈d,isDig c):Lib.cut (d++(m :: ms++t)) (m :: ms)=(d,t,true):=by
 unfold Lib.cut
 rw[index_digits m ms hm d t hd,if_pos (by omega),Int.toNat_natCast]
 simp only[Prod.mk.injEq,and_true]
 refine⟨List.take_left,?_⟩
 rw[←List.append_assoc]
 have:d.length+(m :: ms).length=(d++(m :: ms)).length:=by simp
 rw[this,List.drop_left]
theorem cut_digits_none (m:UInt8) (ms:List UInt8) (hm:¬ isDig m) (d:List UInt8) (hd:∀ c∈d,isDig c):Lib.cut d (m :: ms)=(d,[],false):=by
 unfold Lib.cut
 rw[index_digits_none m ms hm d hd]
 rfl
def atoiO (l:List UInt8):Option Int:=match Lib.atoiAll l with | .ok v=>some v|_=>none
theorem atoiO_dec (n:Nat) (h:n<9223372036854775808):atoiO (dec n)=some (n:Int):=by unfold atoiO;rw[atoi_dec n h]
abbrev Four:=Int×Int×Int×Bool
def noFour:Four:=(0,0,0,false)
def parseTail (path:List UInt8) (level:Int) (rest:List UInt8):Four:=
 match (if (Lib.cut rest kP).2.2=true then atoiO (Lib.cut rest kP).2.1 else some 4) with
 | none=>noFour
 | some width=>match atoiO (Lib.cut rest kP).1 with
  | none=>noFour
  | some index=>if nameOf level index width=path then (level,index,width,true) else noFour
def parseGo (path:List UInt8):Four:=
 if Lib.hasPrefix path kE=true then parseTail path (-1) (Lib.trimPrefix path kE)
 else if Lib.hasPrefix path kT=true∧(Lib.cut (Lib.trimPrefix path kT) [47]).2.2=true then
  match atoiO (Lib.cut (Lib.trimPrefix path kT) [47]).1 with
  | none=>noFour
  | some v=>if v<0 then noFour else parseTail path v (Lib.cut (Lib.trimPrefix path kT) [47]).2.1
 else noFour
theorem atoiO_bd {l:List UInt8} {v:Int} (h:atoiO l=some v):v<9223372036854775808:=by
 unfold atoiO at h
 split at h
 ·rename_i u hu
  simp only[Option.some.injEq] at h
  subst h
  unfold Lib.atoiAll at hu
  split at hu
  ·cases hu
  ·simp only at hu
   split at hu
   ·cases hu
   ·cases hu
   ·split at hu
    ·cases hu
    ·split at hu
     ·cases hu
     ·simp only[Lib.NumEnd.ok.injEq] at hu
      subst hu
      split <;> omega
 ·cases h
theorem hasPrefix_append (p s:List UInt8):Lib.hasPrefix (p++s) p=true:=by
 unfold Lib.hasPrefix
 rw[List.isPrefixOf_iff_prefix]
 exact List.prefix_append p s
theorem trimPrefix_append (p s:List UInt8):Lib.trimPrefix (p++s) p=s:=by
 unfold Lib.trimPrefix
 rw[if_pos (hasPrefix_append p s),List.drop_left]
theorem noE (s:List UInt8):Lib.hasPrefix (kT++s) kE=false:=by
 simp[Lib.hasPrefix,kT,kE,List.isPrefixOf]
def tailOf (w:Int):List UInt8:=if w<4 then kP++dec w.toNat else []
theorem not_dig_46:¬ isDig 46:=by unfold isDig;decide
theorem not_dig_47:¬ isDig 47:=by unfold isDig;decide
theorem nameBody_low {l i w:Int} (h:nameOk l i w) (hl:l<0):nameBody l i w=kE++(dec i.toNat++tailOf w):=by
 unfold nameBody tailOf
 rw[if_neg (by omega),List.append_assoc]
theorem nameBody_high {l i w:Int} (hl:0≤l):nameBody l i w=kT++(dec l.toNat++(47 :: []++(dec i.toNat++tailOf w))):=by
 unfold nameBody tailOf
 rw[if_pos hl]
 simp
theorem nameOf_body {l i w:Int} (h:nameOk l i w):nameOf l i w=nameBody l i w:=by unfold nameOf;rw[if_pos h]
theorem cut_tail (i:Nat) {w:Int} (h1:1≤w) (h4:w≤4):Lib.cut (dec i++tailOf w) kP=(dec i,(if w<4 then dec w.toNat else []),decide (w<4)):=by
 unfold tailOf
 by_cases hw:w<4
 ·rw[if_pos hw,if_pos hw,decide_eq_true hw]
  exact cut_digits 46 [112,47] not_dig_46 (dec i) (dec w.toNat) (dec_dig i)
 ·rw[if_neg hw,if_neg hw,decide_eq_false hw,List.append_nil]
  exact cut_digits_none 46 [112,47] not_dig_46 (dec i) (dec_dig i)
theorem parseTail_name {l i w:Int} (h:nameOk l i w) (hi:i<9223372036854775808):parseTail (nameBody l i w) l (dec i.toNat++tailOf w)=(l,i,w,true):=by
 have hn:=nameOf_body h
 obtain⟨a,b,c,d,e⟩:=h
 unfold parseTail
 rw[cut_tail _ d e]
 have ha:atoiO (dec i.toNat)=some i:=by rw[atoiO_dec _ (by omega)];congr 1;omega
 have hw:(if decide (w<4)=true then atoiO (if w<4 then dec w.toNat else []) else some 4)=some w:=by
  by_cases hw:w<4
  ·rw[if_pos (by simpa using hw),if_pos hw,atoiO_dec _ (by omega)];congr 1;omega
  ·rw[if_neg (by simpa using hw)];congr 1;omega
 simp only[hw,ha,hn,if_true]
theorem parseGo_name {l i w:Int} (h:nameOk l i w) (hi:i<9223372036854775808):parseGo (nameBody l i w)=(l,i,w,true):=by
 have ht:=parseTail_name h hi
 by_cases hl:l<0
 ·obtain rfl:l = -1:=by have:=h.1;omega
  rw[nameBody_low h (by omega)] at ht ⊢
  unfold parseGo
  rw[if_pos (hasPrefix_append _ _),trimPrefix_append]
  exact ht
 ·have hl0:0≤l:=by omega
  have hle:=h.2.1
  rw[nameBody_high hl0] at ht ⊢
  have hc:=cut_digits 47 [] not_dig_47 (dec l.toNat) (dec i.toNat++tailOf w) (dec_dig _)
  unfold parseGo
  rw[if_neg (by rw[noE];simp),trimPrefix_append,hc,if_pos ⟨hasPrefix_append _ _,rfl⟩]
  have ha:atoiO (dec l.toNat)=some l:=by rw[atoiO_dec _ (by omega)];congr 1;omega
  simp only[ha]
  rw[if_neg hl]
  exact ht
end
section
theorem dec_small {n:Nat} (h:n<10):dec n = [UInt8.ofNat (48+n)]:=by
 unfold dec
 rw[Lib.decDigits,dif_pos h]
theorem dec_more {n:Nat} (h:¬ n<10):dec n=dec (n / 10) ++ [UInt8.ofNat (48+n%10)]:=by
 unfold dec
 conv=>lhs;rw[Lib.decDigits,dif_neg h]
theorem dec_len:∀ (k n:Nat),n<10 ^ (k+1)→(dec n).length≤k+1
 | 0,n,h=>by rw[dec_small (by omega)];simp
 | k+1,n,h=>by
  by_cases h9:n<10
  ·rw[dec_small h9];simp
  ·rw[dec_more h9,List.length_append]
   have:=dec_len k (n / 10) (by rw[Nat.pow_succ] at h;omega)
   simp only[List.length_cons,List.length_nil]
   omega
theorem dec_len19 {n:Nat} (h:n<9223372036854775808):(dec n).length≤19:=dec_len 18 n (by omega)
end
section
theorem ret_str {a b:ByteArray} (h:a=b):Ending.returned (.string a)=.returned (.string b):=by rw[h]
end
end Go.Proofs.YtefccfakhgdfbabGreatDoor
namespace Go.Proofs
open Go.Shelf
def Tryz.lays125_ren:Go.Shelf.Ren:=⟨fun|125=>109|128=>161|129=>162|n=>n,fun|46=>199|3=>3|51=>171|53=>210|4=>4|5=>5|9=>9|n=>n,fun|n=>n⟩
theorem Tryz.lays125:Go.Proofs.Lays.n125 prog lays125_ren:={
 mixed:=by kernel_rfl
 f125:=func109.trans (congrArg some (by kernel_rfl))
 f128:=func161.trans (congrArg some (by kernel_rfl))
 f129:=func162.trans (congrArg some (by kernel_rfl))
 t3:=underlying3
 a3:=isAgg3
 z3:=sizeOf3
 v3:=zeroValue3
 t4:=underlying4
 a4:=isAgg4
 z4:=sizeOf4
 v4:=zeroValue4
 t5:=underlying5
 a5:=isAgg5
 z5:=sizeOf5
 v5:=zeroValue5
 t9:=underlying9
 a9:=isAgg9
 z9:=sizeOf9
 v9:=zeroValue9
 t46:=underlying199
 a46:=isAgg199
 z46:=sizeOf199
 v46:=zeroValue199
 t51:=underlying171
 a51:=isAgg171
 z51:=sizeOf171
 v51:=zeroValue171
 t53:=underlying210
 a53:=isAgg210
 z53:=sizeOf210
 v53:=zeroValue210 }
theorem Tryz.bits_Len (x:Int) (w:World) (h0:0≤x) (h1:x≤18446744073709551615) :
  Calls prog 109 #[.int .u64 x] w fun e w'=>e=.returned (.int .i64 (Lib.bitLen x.toNat))∧w'=w:=Any.bits_Len lays125 x w h0 h1
def Tryz.lays172_ren:Go.Shelf.Ren:=⟨fun|172=>121|244=>168|245=>169|247=>193|279=>194|280=>195|281=>196|282=>197|287=>170|316=>213|171=>136|205=>214|321=>198|322=>199|243=>174|246=>200|283=>215|284=>216|285=>217|286=>218|129=>162|317=>224|318=>225|319=>226|320=>227|337=>230|338=>231|n=>n,fun|9=>9|3=>3|75=>88|76=>95|4=>4|5=>5|167=>311|37=>94|0=>0|85=>312|2=>2|168=>314|53=>210|175=>213|46=>199|210=>331|127=>337|145=>340|143=>338|21=>21|171=>333|173=>335|212=>342|51=>171|20=>20|213=>343|232=>350|233=>351|80=>352|n=>n,fun|15=>9|16=>10|17=>12|18=>15|19=>16|n=>n⟩
def Tryz.laysM246_ren:Go.Shelf.Ren:=⟨fun|246=>200|283=>215|284=>216|285=>217|286=>218|129=>162|317=>224|318=>225|319=>226|320=>227|337=>230|338=>231|n=>n,fun|2=>2|3=>3|9=>9|4=>4|171=>333|0=>0|53=>210|37=>94|5=>5|173=>335|212=>342|51=>171|20=>20|213=>343|46=>199|232=>350|233=>351|n=>n,fun|17=>12|18=>15|19=>16|n=>n⟩
def Tryz.laysM243_ren:Go.Shelf.Ren:=⟨fun|243=>174|246=>200|283=>215|284=>216|285=>217|286=>218|129=>162|317=>224|318=>225|319=>226|320=>227|337=>230|338=>231|n=>n,fun|3=>3|9=>9|2=>2|4=>4|171=>333|0=>0|53=>210|37=>94|5=>5|173=>335|212=>342|51=>171|20=>20|213=>343|46=>199|232=>350|233=>351|n=>n,fun|17=>12|18=>15|19=>16|n=>n⟩
def Tryz.laysM171_ren:Go.Shelf.Ren:=⟨fun|171=>136|243=>174|246=>200|283=>215|284=>216|285=>217|286=>218|129=>162|317=>224|318=>225|319=>226|320=>227|337=>230|338=>231|n=>n,fun|3=>3|9=>9|2=>2|4=>4|171=>333|0=>0|53=>210|37=>94|5=>5|173=>335|212=>342|51=>171|20=>20|213=>343|46=>199|232=>350|233=>351|n=>n,fun|17=>12|18=>15|19=>16|n=>n⟩
theorem Tryz.laysM171:Go.Proofs.LaysM.n171 prog laysM171_ren:={
 mixed:=by kernel_rfl
 f129:=func162.trans (congrArg some (by kernel_rfl))
 f171:=func136.trans (congrArg some (by kernel_rfl))
 f243:=func174.trans (congrArg some (by kernel_rfl))
 f246:=func200.trans (congrArg some (by kernel_rfl))
 f283:=func215.trans (congrArg some (by kernel_rfl))
 f284:=func216.trans (congrArg some (by kernel_rfl))
 f285:=func217.trans (congrArg some (by kernel_rfl))
 f286:=func218.trans (congrArg some (by kernel_rfl))
 f317:=func224.trans (congrArg some (by kernel_rfl))
 f318:=func225.trans (congrArg some (by kernel_rfl))
 f319:=func226.trans (congrArg some (by kernel_rfl))
 f320:=func227.trans (congrArg some (by kernel_rfl))
 f337:=func230.trans (congrArg some (by kernel_rfl))
 f338:=func231.trans (congrArg some (by kernel_rfl))
 t0:=underlying0
 a0:=isAgg0
 z0:=sizeOf0
 v0:=zeroValue0
 t2:=underlying2
 a2:=isAgg2
 z2:=sizeOf2
 v2:=zeroValue2
 t3:=underlying3
 a3:=isAgg3
 z3:=sizeOf3
 v3:=zeroValue3
 t4:=underlying4
 a4:=isAgg4
 z4:=sizeOf4
 v4:=zeroValue4
 t5:=underlying5
 a5:=isAgg5
 z5:=sizeOf5
 v5:=zeroValue5
 t9:=underlying9
 a9:=isAgg9
 z9:=sizeOf9
 v9:=zeroValue9
 t20:=underlying20
 a20:=isAgg20
 z20:=sizeOf20
 v20:=zeroValue20
 t37:=underlying94
 a37:=isAgg94
 z37:=sizeOf94
 v37:=zeroValue94
 t46:=underlying199
 a46:=isAgg199
 z46:=sizeOf199
 v46:=zeroValue199
 t51:=underlying171
 a51:=isAgg171
 z51:=sizeOf171
 v51:=zeroValue171
 t53:=underlying210
 a53:=isAgg210
 z53:=sizeOf210
 v53:=zeroValue210
 t171:=underlying333
 a171:=isAgg333
 z171:=sizeOf333
 v171:=zeroValue333
 t173:=underlying335
 a173:=isAgg335
 z173:=sizeOf335
 v173:=zeroValue335
 t212:=underlying342
 a212:=isAgg342
 z212:=sizeOf342
 v212:=zeroValue342
 t213:=underlying343
 a213:=isAgg343
 z213:=sizeOf343
 t232:=underlying350
 a232:=isAgg350
 z232:=sizeOf350
 v232:=zeroValue350
 t233:=underlying351
 a233:=isAgg351
 z233:=sizeOf351
 v233:=zeroValue351
 g17:=by kernel_rfl
 g18:=by kernel_rfl
 g19:=by kernel_rfl
 i0:=by kernel_rfl
 i2:=by kernel_rfl
 i3:=by kernel_rfl
 i4:=by kernel_rfl
 i5:=by kernel_rfl
 i9:=by kernel_rfl
 i20:=by kernel_rfl
 i37:=by kernel_rfl
 i46:=by kernel_rfl
 i51:=by kernel_rfl
 i53:=by kernel_rfl
 i171:=by kernel_rfl
 i173:=by kernel_rfl
 i212:=by kernel_rfl
 i232:=by kernel_rfl
 i233:=by kernel_rfl
 m17:=by kernel_rfl
 m18:=by kernel_rfl
 m19:=by kernel_rfl }
open Go.RowKit Go.Sort Go.Lib in
theorem Tryz.strconv_Itoa (n:Int) (h0 : -9223372036854775808≤n) (h1:n≤9223372036854775807) (w:World) (htab:Lib.TabIs prog w "internal/strconv.uint64pow10" .u64 Lib.pow10Tab) :
  Calls prog 136 #[.int .i64 n] w fun e w'=>e=.returned (.string ⟨(Lib.itoa n).toArray⟩)∧∃ k os,w'=grow (w.drewN k) os:=Any.strconv_Itoa laysM171 n h0 h1 w htab
def Tryz.laysC245_ren:Go.Shelf.Ren:=⟨fun|245=>169|279=>194|280=>195|281=>196|282=>197|316=>213|171=>136|205=>214|243=>174|246=>200|283=>215|284=>216|285=>217|286=>218|129=>162|317=>224|318=>225|319=>226|320=>227|337=>230|338=>231|n=>n,fun|9=>9|3=>3|75=>88|167=>311|4=>4|168=>314|210=>331|37=>94|0=>0|127=>337|145=>340|143=>338|2=>2|171=>333|53=>210|5=>5|173=>335|212=>342|51=>171|20=>20|213=>343|46=>199|232=>350|233=>351|80=>352|n=>n,fun|15=>9|16=>10|17=>12|18=>15|19=>16|n=>n⟩
theorem Tryz.laysC245:Go.Proofs.LaysC.n245 prog laysC245_ren:={
 mixed:=by kernel_rfl
 f129:=func162.trans (congrArg some (by kernel_rfl))
 f171:=func136.trans (congrArg some (by kernel_rfl))
 f205:=func214.trans (congrArg some (by kernel_rfl))
 f243:=func174.trans (congrArg some (by kernel_rfl))
 f245:=func169.trans (congrArg some (by kernel_rfl))
 f246:=func200.trans (congrArg some (by kernel_rfl))
 f279:=func194.trans (congrArg some (by kernel_rfl))
 f280:=func195.trans (congrArg some (by kernel_rfl))
 f281:=func196.trans (congrArg some (by kernel_rfl))
 f282:=func197.trans (congrArg some (by kernel_rfl))
 f283:=func215.trans (congrArg some (by kernel_rfl))
 f284:=func216.trans (congrArg some (by kernel_rfl))
 f285:=func217.trans (congrArg some (by kernel_rfl))
 f286:=func218.trans (congrArg some (by kernel_rfl))
 f316:=func213.trans (congrArg some (by kernel_rfl))
 f317:=func224.trans (congrArg some (by kernel_rfl))
 f318:=func225.trans (congrArg some (by kernel_rfl))
 f319:=func226.trans (congrArg some (by kernel_rfl))
 f320:=func227.trans (congrArg some (by kernel_rfl))
 f337:=func230.trans (congrArg some (by kernel_rfl))
 f338:=func231.trans (congrArg some (by kernel_rfl))
 t0:=underlying0
 a0:=isAgg0
 z0:=sizeOf0
 v0:=zeroValue0
 t2:=underlying2
 a2:=isAgg2
 z2:=sizeOf2
 v2:=zeroValue2
 t3:=underlying3
 a3:=isAgg3
 z3:=sizeOf3
 v3:=zeroValue3
 t4:=underlying4
 a4:=isAgg4
 z4:=sizeOf4
 v4:=zeroValue4
 t5:=underlying5
 a5:=isAgg5
 z5:=sizeOf5
 v5:=zeroValue5
 t9:=underlying9
 a9:=isAgg9
 z9:=sizeOf9
 v9:=zeroValue9
 t20:=underlying20
 a20:=isAgg20
 z20:=sizeOf20
 v20:=zeroValue20
 t37:=underlying94
 a37:=isAgg94
 z37:=sizeOf94
 v37:=zeroValue94
 t46:=underlying199
 a46:=isAgg199
 z46:=sizeOf199
 v46:=zeroValue199
 t51:=underlying171
 a51:=isAgg171
 z51:=sizeOf171
 v51:=zeroValue171
 t53:=underlying210
 a53:=isAgg210
 z53:=sizeOf210
 v53:=zeroValue210
 t75:=underlying88
 a75:=isAgg88
 z75:=sizeOf88
 v75:=zeroValue88
 t127:=underlying337
 a127:=isAgg337
 z127:=sizeOf337
 v127:=zeroValue337
 t143:=underlying338
 a143:=isAgg338
 z143:=sizeOf338
 v143:=zeroValue338
 t145:=underlying340
 a145:=isAgg340
 z145:=sizeOf340
 v145:=zeroValue340
 t167:=underlying311
 a167:=isAgg311
 z167:=sizeOf311
 v167:=zeroValue311
 t168:=underlying314
 a168:=isAgg314
 z168:=sizeOf314
 v168:=zeroValue314
 t171:=underlying333
 a171:=isAgg333
 z171:=sizeOf333
 v171:=zeroValue333
 t173:=underlying335
 a173:=isAgg335
 z173:=sizeOf335
 v173:=zeroValue335
 t210:=underlying331
 a210:=isAgg331
 z210:=sizeOf331
 v210:=zeroValue331
 t212:=underlying342
 a212:=isAgg342
 z212:=sizeOf342
 v212:=zeroValue342
 t213:=underlying343
 a213:=isAgg343
 z213:=sizeOf343
 t232:=underlying350
 a232:=isAgg350
 z232:=sizeOf350
 v232:=zeroValue350
 t233:=underlying351
 a233:=isAgg351
 z233:=sizeOf351
 v233:=zeroValue351
 g15:=by kernel_rfl
 g16:=by kernel_rfl
 g17:=by kernel_rfl
 g18:=by kernel_rfl
 g19:=by kernel_rfl
 t80:=underlying352
 a80:=isAgg352
 z80:=sizeOf352
 v80:=zeroValue352
 i0:=by kernel_rfl
 i2:=by kernel_rfl
 i3:=by kernel_rfl
 i4:=by kernel_rfl
 i5:=by kernel_rfl
 i9:=by kernel_rfl
 i20:=by kernel_rfl
 i37:=by kernel_rfl
 i46:=by kernel_rfl
 i51:=by kernel_rfl
 i53:=by kernel_rfl
 i75:=by kernel_rfl
 i80:=by kernel_rfl
 i127:=by kernel_rfl
 i143:=by kernel_rfl
 i145:=by kernel_rfl
 i167:=by kernel_rfl
 i168:=by kernel_rfl
 i171:=by kernel_rfl
 i173:=by kernel_rfl
 i210:=by kernel_rfl
 i212:=by kernel_rfl
 i232:=by kernel_rfl
 i233:=by kernel_rfl
 m15:=by kernel_rfl
 m16:=by kernel_rfl
 m17:=by kernel_rfl
 m18:=by kernel_rfl
 m19:=by kernel_rfl
 c0:=by kernel_rfl
 c2:=by kernel_rfl
 c3:=by kernel_rfl
 c4:=by kernel_rfl
 c5:=by kernel_rfl
 c9:=by kernel_rfl
 c20:=by kernel_rfl
 c37:=by kernel_rfl
 c46:=by kernel_rfl
 c51:=by kernel_rfl
 c53:=by kernel_rfl
 c75:=by kernel_rfl
 c80:=by kernel_rfl
 c127:=by kernel_rfl
 c143:=by kernel_rfl
 c145:=by kernel_rfl
 c167:=by kernel_rfl
 c168:=by kernel_rfl
 c171:=by kernel_rfl
 c173:=by kernel_rfl
 c210:=by kernel_rfl
 c212:=by kernel_rfl
 c213:=by kernel_rfl
 c232:=by kernel_rfl
 c233:=by kernel_rfl }
theorem Tryz.strconv_toError_syntax (fn s:ByteArray) (base bits:Int) (ev:Value) (w:World) (hlim:s.size≤281474976710656) (hv:w.cell? ⟨9,0,none⟩=some ev) (hev:ev=.nilIface∨∃ te pe,ev=.iface te pe) :
  Calls prog 169 #[.string fn,.string s,.int .i64 base,.int .i64 bits,.iface 311 (.int .i64 2)] w fun e w'=>∃ N,e=.returned (.iface 314 (.pointer (some ⟨N,0,none⟩)))∧w.heap.size≤N∧w'.heap[N]?=some (.cells #[.string fn,.string s,ev] 331 (0,0))∧Below w.heap.size w w':=Any.strconv_toError_syntax laysC245 fn s base bits ev w hlim hv hev
def Tryz.lays321_ren:Go.Shelf.Ren:=⟨fun|321=>198|n=>n,fun|5=>5|n=>n,fun|n=>n⟩
theorem Tryz.lays321:Go.Proofs.Lays.n321 prog lays321_ren:={
 mixed:=by kernel_rfl
 f321:=func198.trans (congrArg some (by kernel_rfl))
 t5:=underlying5
 a5:=isAgg5
 z5:=sizeOf5
 v5:=zeroValue5 }
theorem Tryz.internal_strconv_lower (c:Int) (w:World) :
  Calls prog 198 #[.int .u8 c] w fun e w'=>e=.returned (.int .u8 (bits .or .u8 c 32))∧w'=w:=Any.internal_strconv_lower lays321 c w
def Tryz.laysC172_ren:Go.Shelf.Ren:=⟨fun|172=>121|244=>168|245=>169|247=>193|279=>194|280=>195|281=>196|282=>197|287=>170|316=>213|171=>136|205=>214|321=>198|322=>199|243=>174|246=>200|283=>215|284=>216|285=>217|286=>218|129=>162|317=>224|318=>225|319=>226|320=>227|337=>230|338=>231|n=>n,fun|9=>9|3=>3|75=>88|76=>95|4=>4|5=>5|167=>311|37=>94|0=>0|85=>312|2=>2|168=>314|53=>210|175=>213|46=>199|210=>331|127=>337|145=>340|143=>338|21=>21|171=>333|173=>335|212=>342|51=>171|20=>20|213=>343|232=>350|233=>351|80=>352|n=>n,fun|15=>9|16=>10|17=>12|18=>15|19=>16|n=>n⟩
theorem Tryz.laysC172:Go.Proofs.LaysC.n172 prog laysC172_ren:={
 mixed:=by kernel_rfl
 f129:=func162.trans (congrArg some (by kernel_rfl))
 f171:=func136.trans (congrArg some (by kernel_rfl))
 f172:=func121.trans (congrArg some (by kernel_rfl))
 f205:=func214.trans (congrArg some (by kernel_rfl))
 f243:=func174.trans (congrArg some (by kernel_rfl))
 f244:=func168.trans (congrArg some (by kernel_rfl))
 f245:=func169.trans (congrArg some (by kernel_rfl))
 f246:=func200.trans (congrArg some (by kernel_rfl))
 f247:=func193.trans (congrArg some (by kernel_rfl))
 f279:=func194.trans (congrArg some (by kernel_rfl))
 f280:=func195.trans (congrArg some (by kernel_rfl))
 f281:=func196.trans (congrArg some (by kernel_rfl))
 f282:=func197.trans (congrArg some (by kernel_rfl))
 f283:=func215.trans (congrArg some (by kernel_rfl))
 f284:=func216.trans (congrArg some (by kernel_rfl))
 f285:=func217.trans (congrArg some (by kernel_rfl))
 f286:=func218.trans (congrArg some (by kernel_rfl))
 f287:=func170.trans (congrArg some (by kernel_rfl))
 f316:=func213.trans (congrArg some (by kernel_rfl))
 f317:=func224.trans (congrArg some (by kernel_rfl))
 f318:=func225.trans (congrArg some (by kernel_rfl))
 f319:=func226.trans (congrArg some (by kernel_rfl))
 f320:=func227.trans (congrArg some (by kernel_rfl))
 f321:=func198.trans (congrArg some (by kernel_rfl))
 f322:=func199.trans (congrArg some (by kernel_rfl))
 f337:=func230.trans (congrArg some (by kernel_rfl))
 f338:=func231.trans (congrArg some (by kernel_rfl))
 t0:=underlying0
 a0:=isAgg0
 z0:=sizeOf0
 v0:=zeroValue0
 t2:=underlying2
 a2:=isAgg2
 z2:=sizeOf2
 v2:=zeroValue2
 t3:=underlying3
 a3:=isAgg3
 z3:=sizeOf3
 v3:=zeroValue3
 t4:=underlying4
 a4:=isAgg4
 z4:=sizeOf4
 v4:=zeroValue4
 t5:=underlying5
 a5:=isAgg5
 z5:=sizeOf5
 v5:=zeroValue5
 t9:=underlying9
 a9:=isAgg9
 z9:=sizeOf9
 v9:=zeroValue9
 t20:=underlying20
 a20:=isAgg20
 z20:=sizeOf20
 v20:=zeroValue20
 t21:=underlying21
 a21:=isAgg21
 z21:=sizeOf21
 v21:=zeroValue21
 t37:=underlying94
 a37:=isAgg94
 z37:=sizeOf94
 v37:=zeroValue94
 t46:=underlying199
 a46:=isAgg199
 z46:=sizeOf199
 v46:=zeroValue199
 t51:=underlying171
 a51:=isAgg171
 z51:=sizeOf171
 v51:=zeroValue171
 t53:=underlying210
 a53:=isAgg210
 z53:=sizeOf210
 v53:=zeroValue210
 t75:=underlying88
 a75:=isAgg88
 z75:=sizeOf88
 v75:=zeroValue88
 t76:=underlying95
 a76:=isAgg95
 z76:=sizeOf95
 v76:=zeroValue95
 t85:=underlying312
 a85:=isAgg312
 z85:=sizeOf312
 v85:=zeroValue312
 t127:=underlying337
 a127:=isAgg337
 z127:=sizeOf337
 v127:=zeroValue337
 t143:=underlying338
 a143:=isAgg338
 z143:=sizeOf338
 v143:=zeroValue338
 t145:=underlying340
 a145:=isAgg340
 z145:=sizeOf340
 v145:=zeroValue340
 t167:=underlying311
 a167:=isAgg311
 z167:=sizeOf311
 v167:=zeroValue311
 t168:=underlying314
 a168:=isAgg314
 z168:=sizeOf314
 v168:=zeroValue314
 t171:=underlying333
 a171:=isAgg333
 z171:=sizeOf333
 v171:=zeroValue333
 t173:=underlying335
 a173:=isAgg335
 z173:=sizeOf335
 v173:=zeroValue335
 t175:=underlying213
 a175:=isAgg213
 z175:=sizeOf213
 v175:=zeroValue213
 t210:=underlying331
 a210:=isAgg331
 z210:=sizeOf331
 v210:=zeroValue331
 t212:=underlying342
 a212:=isAgg342
 z212:=sizeOf342
 v212:=zeroValue342
 t213:=underlying343
 a213:=isAgg343
 z213:=sizeOf343
 t232:=underlying350
 a232:=isAgg350
 z232:=sizeOf350
 v232:=zeroValue350
 t233:=underlying351
 a233:=isAgg351
 z233:=sizeOf351
 v233:=zeroValue351
 g15:=by kernel_rfl
 g16:=by kernel_rfl
 g17:=by kernel_rfl
 g18:=by kernel_rfl
 g19:=by kernel_rfl
 t80:=underlying352
 a80:=isAgg352
 z80:=sizeOf352
 v80:=zeroValue352
 i0:=by kernel_rfl
 i2:=by kernel_rfl
 i3:=by kernel_rfl
 i4:=by kernel_rfl
 i5:=by kernel_rfl
 i9:=by kernel_rfl
 i20:=by kernel_rfl
 i21:=by kernel_rfl
 i37:=by kernel_rfl
 i46:=by kernel_rfl
 i51:=by kernel_rfl
 i53:=by kernel_rfl
 i75:=by kernel_rfl
 i76:=by kernel_rfl
 i80:=by kernel_rfl
 i85:=by kernel_rfl
 i127:=by kernel_rfl
 i143:=by kernel_rfl
 i145:=by kernel_rfl
 i167:=by kernel_rfl
 i168:=by kernel_rfl
 i171:=by kernel_rfl
 i173:=by kernel_rfl
 i175:=by kernel_rfl
 i210:=by kernel_rfl
 i212:=by kernel_rfl
 i232:=by kernel_rfl
 i233:=by kernel_rfl
 m15:=by kernel_rfl
 m16:=by kernel_rfl
 m17:=by kernel_rfl
 m18:=by kernel_rfl
 m19:=by kernel_rfl
 c0:=by kernel_rfl
 c2:=by kernel_rfl
 c3:=by kernel_rfl
 c4:=by kernel_rfl
 c5:=by kernel_rfl
 c9:=by kernel_rfl
 c20:=by kernel_rfl
 c21:=by kernel_rfl
 c37:=by kernel_rfl
 c46:=by kernel_rfl
 c51:=by kernel_rfl
 c53:=by kernel_rfl
 c75:=by kernel_rfl
 c76:=by kernel_rfl
 c80:=by kernel_rfl
 c85:=by kernel_rfl
 c127:=by kernel_rfl
 c143:=by kernel_rfl
 c145:=by kernel_rfl
 c167:=by kernel_rfl
 c168:=by kernel_rfl
 c171:=by kernel_rfl
 c173:=by kernel_rfl
 c175:=by kernel_rfl
 c210:=by kernel_rfl
 c212:=by kernel_rfl
 c213:=by kernel_rfl
 c232:=by kernel_rfl
 c233:=by kernel_rfl }
theorem Tryz.strconv_Atoi_ok (s:ByteArray) (hmax:s.size≤9223372036854775806) (v:Int) (h:Lib.atoiAll s.data.toList=.ok v) (w:World) :
  Calls prog 121 #[.string s] w fun e w'=>e=.returned (.tuple #[.int .i64 v,.nilIface])∧(w'=w∨∃ t,w'=Lib.bytesWorld w 5 t):=Any.strconv_Atoi_ok laysC172 s hmax v h w
theorem Tryz.strconv_Atoi_syntax (s:ByteArray) (hlim:s.size≤281474976710656) (h:Lib.atoiAll s.data.toList=Lib.NumEnd.syntax) (ev:Value) (w:World) (hv:w.cell? ⟨9,0,none⟩=some ev) (hev:ev=.nilIface∨∃ te pe,ev=.iface te pe) :
  Calls prog 121 #[.string s] w fun e w'=>∃ N,e=.returned (.tuple #[.int .i64 (0),.iface 314 (.pointer (some ⟨N,0,none⟩))])∧w.heap.size≤N∧w'.heap[N]?=some (.cells #[.string ⟨#[65,116,111,105]⟩,.string s,ev] 331 (0,0))∧Below w.heap.size w w':=Any.strconv_Atoi_syntax laysC172 s hlim h ev w hv hev
theorem Tryz.strconv_Atoi_range (s:ByteArray) (hlim:s.size≤281474976710656) (h:Lib.atoiAll s.data.toList=.range) (ev:Value) (w:World) (hv:w.cell? ⟨10,0,none⟩=some ev) (hev:ev=.nilIface∨∃ te pe,ev=.iface te pe) :
  Calls prog 121 #[.string s] w fun e w'=>∃ N,e=.returned (.tuple #[.int .i64 (Lib.atoiSat s.data.toList),.iface 314 (.pointer (some ⟨N,0,none⟩))])∧w.heap.size≤N∧w'.heap[N]?=some (.cells #[.string ⟨#[65,116,111,105]⟩,.string s,ev] 331 (0,0))∧Below w.heap.size w w':=Any.strconv_Atoi_range laysC172 s hlim h ev w hv hev
def Tryz.lays221_ren:Go.Shelf.Ren:=⟨fun|221=>167|268=>190|138=>191|143=>192|195=>209|197=>210|218=>211|219=>212|260=>219|217=>220|225=>221|224=>222|267=>223|266=>228|314=>229|n=>n,fun|9=>9|3=>3|31=>22|4=>4|0=>0|105=>327|21=>21|5=>5|46=>199|119=>344|139=>347|138=>346|146=>348|51=>171|n=>n,fun|1=>11|3=>13|4=>14|n=>n⟩
def Tryz.lays146_ren:Go.Shelf.Ren:=⟨fun|146=>120|221=>167|268=>190|138=>191|143=>192|195=>209|197=>210|218=>211|219=>212|260=>219|217=>220|225=>221|224=>222|267=>223|266=>228|314=>229|n=>n,fun|9=>9|31=>22|3=>3|4=>4|0=>0|105=>327|21=>21|5=>5|46=>199|119=>344|139=>347|138=>346|146=>348|51=>171|n=>n,fun|1=>11|3=>13|4=>14|n=>n⟩
theorem Tryz.lays146:Go.Proofs.Lays.n146 prog lays146_ren:={
 mixed:=by kernel_rfl
 f138:=func191.trans (congrArg some (by kernel_rfl))
 f143:=func192.trans (congrArg some (by kernel_rfl))
 f146:=func120.trans (congrArg some (by kernel_rfl))
 f195:=func209.trans (congrArg some (by kernel_rfl))
 f197:=func210.trans (congrArg some (by kernel_rfl))
 f217:=func220.trans (congrArg some (by kernel_rfl))
 f218:=func211.trans (congrArg some (by kernel_rfl))
 f219:=func212.trans (congrArg some (by kernel_rfl))
 f221:=func167.trans (congrArg some (by kernel_rfl))
 f224:=func222.trans (congrArg some (by kernel_rfl))
 f225:=func221.trans (congrArg some (by kernel_rfl))
 f260:=func219.trans (congrArg some (by kernel_rfl))
 f266:=func228.trans (congrArg some (by kernel_rfl))
 f267:=func223.trans (congrArg some (by kernel_rfl))
 f268:=func190.trans (congrArg some (by kernel_rfl))
 f314:=func229.trans (congrArg some (by kernel_rfl))
 t0:=underlying0
 a0:=isAgg0
 z0:=sizeOf0
 v0:=zeroValue0
 t3:=underlying3
 a3:=isAgg3
 z3:=sizeOf3
 v3:=zeroValue3
 t4:=underlying4
 a4:=isAgg4
 z4:=sizeOf4
 v4:=zeroValue4
 t5:=underlying5
 a5:=isAgg5
 z5:=sizeOf5
 v5:=zeroValue5
 t9:=underlying9
 a9:=isAgg9
 z9:=sizeOf9
 v9:=zeroValue9
 t21:=underlying21
 a21:=isAgg21
 z21:=sizeOf21
 v21:=zeroValue21
 t31:=underlying22
 a31:=isAgg22
 z31:=sizeOf22
 v31:=zeroValue22
 t46:=underlying199
 a46:=isAgg199
 z46:=sizeOf199
 v46:=zeroValue199
 t51:=underlying171
 a51:=isAgg171
 z51:=sizeOf171
 v51:=zeroValue171
 t105:=underlying327
 a105:=isAgg327
 z105:=sizeOf327
 v105:=zeroValue327
 t119:=underlying344
 a119:=isAgg344
 z119:=sizeOf344
 t138:=underlying346
 a138:=isAgg346
 z138:=sizeOf346
 v138:=zeroValue346
 t139:=underlying347
 a139:=isAgg347
 z139:=sizeOf347
 v139:=zeroValue347
 t146:=underlying348
 a146:=isAgg348
 z146:=sizeOf348
 v146:=zeroValue348
 g1:=by kernel_rfl
 g3:=by kernel_rfl
 g4:=by kernel_rfl }
open Go.RowKit Go.Lib in
theorem Tryz.strings_Split (s sep:ByteArray) (m:Int) (w:World) (hs:s.size<4294967281) (hm:w.cell? ⟨11,0,none⟩=some (.int .i64 m)) (h1:1≤sep.size) :
  Calls prog 120 #[.string s,.string sep] w fun e w'=>
   e=.returned (.slice (some ⟨w.heap.size,0,none⟩) (Lib.countB s sep+1) (Lib.countB s sep+1))∧w'=w.alloc (.cells ((Lib.splitB sep 0 (Lib.countB s sep) s).map Value.string).toArray 9):=Any.strings_Split lays146 (by kernel_rfl) s sep m w hs hm h1
def Tryz.lays115_ren:Go.Shelf.Ren:=⟨fun|115=>128|n=>n,fun|37=>94|4=>4|9=>9|5=>5|n=>n,fun|n=>n⟩
theorem Tryz.lays115:Go.Proofs.Lays.n115 prog lays115_ren:={
 mixed:=by kernel_rfl
 f115:=func128.trans (congrArg some (by kernel_rfl))
 t4:=underlying4
 a4:=isAgg4
 z4:=sizeOf4
 v4:=zeroValue4
 t9:=underlying9
 a9:=isAgg9
 z9:=sizeOf9
 v9:=zeroValue9
 t37:=underlying94
 a37:=isAgg94
 z37:=sizeOf94
 v37:=zeroValue94 }
theorem Tryz.bytes_Equal (v1 v2:Value) (xs ys:List Int) (w:World) (h1:(convert 94 9 v1).run prog w=.ok (.string (strOfNums xs)) w) (h2:(convert 94 9 v2).run prog w=.ok (.string (strOfNums ys)) w) :
  Calls prog 128 #[v1,v2] w fun e w'=>e=.returned (.bool (Lib.bytesOf xs == Lib.bytesOf ys))∧w'=w:=Any.bytes_Equal lays115 v1 v2 xs ys w h1 h2
end Go.Proofs
namespace Go.Proofs.YtefccfakhgdfbabGreatDoor
end Go.Proofs.YtefccfakhgdfbabGreatDoor
