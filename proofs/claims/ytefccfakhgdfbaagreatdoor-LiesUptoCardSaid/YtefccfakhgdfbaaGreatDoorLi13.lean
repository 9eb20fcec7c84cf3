/- The walk of merkle.extend. -/
import Derived.Test.YtefccfakhgdfbaaGreatDoorLi12
set_option linter.unusedVariables false
set_option linter.unusedSimpArgs false
open Go.RowKit Go.Proofs.Tryz
set_option maxRecDepth 100000
set_option maxHeartbeats 4000000
namespace Go.Proofs.YtefccfakhgdfbaaGreatDoor
section
def p16 (acc:Nat):List UInt8→Option Nat
 | []=>some acc
 | c :: r=>match Jg c with
  | none=>none
  | some d=>p16 (acc*16+d) r
def lowV (c:UInt8):Int:=bits BinOp.or IntKind.u8 (c.toNat:Int) 32
theorem Q0c (c:UInt8):(48≤c.toNat∧c.toNat≤57∧Jg c=some (c.toNat-48))∨
  (¬ (48≤c.toNat∧c.toNat≤57)∧c.toNat≠95∧97≤lowV c∧lowV c≤102∧Jg c=some (lowV c-87).toNat)∨
  (¬ (48≤c.toNat∧c.toNat≤57)∧¬ (97≤lowV c∧lowV c≤102)∧0≤lowV c∧lowV c≤255∧Jg c=none):=by
 have h:∀ n:Fin 256,(48≤(UInt8.ofNat n.1).toNat∧(UInt8.ofNat n.1).toNat≤57∧Jg (UInt8.ofNat n.1)=some ((UInt8.ofNat n.1).toNat-48))∨
  (¬ (48≤(UInt8.ofNat n.1).toNat∧(UInt8.ofNat n.1).toNat≤57)∧(UInt8.ofNat n.1).toNat≠95∧97≤lowV (UInt8.ofNat n.1)∧lowV (UInt8.ofNat n.1)≤102∧Jg (UInt8.ofNat n.1)=some (lowV (UInt8.ofNat n.1)-87).toNat)∨
  (¬ (48≤(UInt8.ofNat n.1).toNat∧(UInt8.ofNat n.1).toNat≤57)∧¬ (97≤lowV (UInt8.ofNat n.1)∧lowV (UInt8.ofNat n.1)≤102)∧0≤lowV (UInt8.ofNat n.1)∧lowV (UInt8.ofNat n.1)≤255∧Jg (UInt8.ofNat n.1)=none):=by decide +kernel
 have:=h ⟨c.toNat,c.toNat_lt⟩
 simpa using this
def Zai (T:TypeId):Option Nat→Value
 | some n=>.tuple #[.int .u64 n,.nilIface]
 | none=>.tuple #[.int .u64 0,.iface T (.int .i64 2)]
set_option maxHeartbeats 8000000 in
theorem Q7l (t:ByteArray) (ht:t.size=2) (w:World) :
  Calls prog 225 #[.string t,.int .i64 16,.int .i64 8] w fun e w'=>e=.returned (Zai 347 (p16 0 t.data.toList))∧w'=Lib.bytesWorld w 5 t:=by
 have F:t.toList.isEmpty=false:=by rw[←decide_eq_emptyBytes];exact decide_eq_false (fun h=>by rw[h] at ht;exact absurd ht (by decide))
 have z:=Lib.run_convert_string_bytes (P:=prog) w 9 147 5 t (u:=.string) underlying9 underlying147 underlying5;have hB:∀ j,j<t.size→(Lib.bytesWorld w 5 t).cell? ⟨w.heap.size,j,none⟩=some (.int .u8 (t.data.toList.getD j 0).toNat):=fun j hj=>Lib.bytesWorld_cell w 5 t j hj
 obtain⟨W1,s⟩:∃ W1,W1=Lib.bytesWorld w 5 t:=⟨_,rfl⟩
 rw[←s] at z hB ⊢;clear s;obtain⟨bs,hL⟩:∃ bs,bs=t.data.toList:=⟨_,rfl⟩
 have I:bs.length=2:=by rw[hL];simpa using ht
 rw[←hL] at hB ⊢;clear hL;have K:IntKind.u64.wrap (IntKind.u64.wrap 256-1)=255:=by rw[IntKind.wrap_u64,IntKind.wrap_u64];decide
 obtain⟨res,l⟩:∃ r,r=p16 0 bs:=⟨_,rfl⟩
 rw[←l];have v:=zh l;clear l
 go_enter func225,ntmps225
 go_wp2
 go_loop [12,13,101] (fun vu vn vi=>∃ (k acc:Nat) (a:Int),vu=.bool false∧vn=.int .u64 a∧vi=.int .i64 k∧k≤2∧Hid (a=(acc:Int)∧acc<16 ^ k∧res=p16 acc (bs.drop k)))
  (fun _ _ vi=>2-(intOf vi).toNat)
 case atStart=>exact⟨0,0,0,rfl,rfl,rfl,by omega,zh ⟨rfl,by decide,v.o⟩⟩
 case round=>
  obtain⟨k,acc,a,rfl,rfl,rfl,hk,hh⟩:=hrel;obtain⟨ha,f,b⟩:=hh.o;clear hh;have p:16 ^ k≤256:=by
   have:k=0∨k=1∨k=2:=by omega
   rcases this with rfl|rfl|rfl <;> decide
  have a0:0≤a:=by omega
  have a1:a≤255:=by omega
  by_cases hkn:k<2
  ·have hc:=hB k (by omega)
   have m:bs.drop k=bs[k]'(by omega) :: bs.drop (k+1):=List.drop_eq_getElem_cons (by omega);have n:bs.getD k 0=bs[k]'(by omega):=by simp[List.getD,List.getElem?_eq_getElem (show k<bs.length by omega)]
   have g:acc≤15:=by
    have:k=0∨k=1:=by omega
    rcases this with rfl|rfl <;> omega
   have d:16 ^ (k+1)=16 ^ k*16:=Nat.pow_succ 16 k;rw[m] at b;rw[n] at hc;generalize bs[k]'(by omega)=c at hc b;have E:c.toNat<256:=c.toNat_lt;unfold p16 at b;have ia:a≤15:=by omega
   clear hB m n p;have i:=Q0c c;obtain⟨lo,q⟩:∃ x,x=lowV c:=⟨_,rfl⟩
   rw[←q] at i;have y:bits BinOp.or IntKind.u8 (c.toNat:Int) 32=lo:=q.symm;clear q;rcases i with ⟨L,M,hg⟩|⟨D,G,C,A,hg⟩|⟨D,J,C,A,hg⟩
   ·rw[hg] at b
    simp only at b;have HN:Hid (a*16+((c.toNat:Int)-48)=((acc*16+(c.toNat-48):Nat):Int)∧acc*16+(c.toNat-48)<16 ^ (k+1)∧res=p16 (acc*16+(c.toNat-48)) (bs.drop (k+1))):=zh ⟨by omega,by omega,b⟩;have j0:(48:Int)≤c.toNat:=by omega
    have j1:(c.toNat:Int)≤57:=by omega
    clear b hg ha f d g y;go_wp2;refine⟨⟨k+1,acc*16+(c.toNat-48),a*16+((c.toNat:Int)-48),rfl,(by first|rfl|(congr 1;omega)),(by first|rfl|(congr 1;omega)),by omega,HN⟩,by simp[intOf];omega⟩
   ·rw[hg] at b
    simp only at b;have HN:Hid (a*16+(lo-97+10)=((acc*16+(lo-87).toNat:Nat):Int)∧acc*16+(lo-87).toNat<16 ^ (k+1)∧res=p16 (acc*16+(lo-87).toNat) (bs.drop (k+1))):=zh ⟨by omega,by omega,b⟩;have H:((c.toNat:Int) == 95)=false:=by rw[beq_eq_false_iff_ne];omega
    clear b hg ha f d g
    go_wp2_with (go_at_call 253;refine (internal_strconv_lower _ _).mono ?_;rintro e w' ⟨rfl,rfl⟩)
    all_goals exact⟨⟨k+1,acc*16+(lo-87).toNat,a*16+(lo-97+10),rfl,rfl,rfl,by omega,HN⟩,by simp[intOf];omega⟩
   ·rw[hg] at b
    simp only at b;clear hg ha f d g
    go_wp2_with (go_at_call 253;refine (internal_strconv_lower _ _).mono ?_;rintro e w' ⟨rfl,rfl⟩)
    all_goals go_ret2
    all_goals first|exact⟨rfl,rfl⟩|exact⟨by rw[b];rfl,rfl⟩
  ·have B:k=2:=by omega
   subst B;rw[List.drop_eq_nil_of_le (by omega)] at b;unfold p16 at b;subst ha;clear f a0 a1 p;go_wp2;go_ret2
   first|exact⟨rfl,rfl⟩|exact⟨by rw[b];rfl,rfl⟩|exact⟨by subst b;rfl,rfl⟩
theorem Q8v (a b:UInt8):p16 0 [a,b]=(Jg a).bind fun x=>(Jg b).map fun y=>16*x+y:=by
 unfold p16;cases Jg a with
 | none=>rfl
 | some x=>
  simp only[Option.bind_some];unfold p16;cases Jg b with
  | none=>rfl
  | some y=>
   simp only[Option.map_some];unfold p16
   congr 1
   omega
theorem Q4d (a b:UInt8) (w:World) (hE:Qad w) :
  Calls prog 177 #[.string (sOf [a,b]),.int .i64 16,.int .i64 8] w fun e w'=>Below w.heap.size w w'∧match (Jg a).bind fun x=>(Jg b).map fun y=>16*x+y with
   | some n=>e=.returned (.tuple #[.int .u64 n,.nilIface])
   | none=>∃ T p,e=.returned (.tuple #[.int .u64 0,.iface T p]):=by
 obtain⟨_,_,⟨ev,c,g⟩,_⟩:=hE
 have hI:=Q7l (sOf [a,b]) (by rw[Qb0];rfl) w
 rw[show (sOf [a,b]).data.toList = [a,b] from rfl,Q8v] at hI
 obtain⟨r,hr⟩:∃ r,r=(Jg a).bind fun x=>(Jg b).map fun y=>16*x+y:=⟨_,rfl⟩
 rw[←hr] at hI ⊢
 clear hr
 cases r with
 | some n=>
  have d:Calls prog 225 #[.string (sOf [a,b]),.int .i64 16,.int .i64 8] w fun e w'=>e=.returned (.tuple #[.int .u64 n,.nilIface])∧w'=Lib.bytesWorld w 5 (sOf [a,b]):=hI
  clear hI
  go_enter func177,ntmps177
  go_wp2_with (go_at_call 225;refine d.mono ?_;rintro e w1 ⟨rfl,rfl⟩)
  go_ret2
  exact⟨Lib.bytesWorld_below _ _ _,rfl⟩
 | none=>
  have d:Calls prog 225 #[.string (sOf [a,b]),.int .i64 16,.int .i64 8] w fun e w'=>e=.returned (.tuple #[.int .u64 0,.iface 347 (.int .i64 2)])∧w'=Lib.bytesWorld w 5 (sOf [a,b]):=hI
  have hb:=Lib.bytesWorld_below w 5 (sOf [a,b])
  have f:=(hb.cell (Qk c)).trans c
  have HB:=zh hb
  have i:=zh f
  clear hI hb f c
  go_enter func177,ntmps177
  go_wp2_with (go_at_call 225;refine d.mono ?_;rintro e w1 ⟨rfl,rfl⟩)
  refine (strconv_toError_syntax ⟨#[80,97,114,115,101,85,105,110,116]⟩ (sOf [a,b]) 16 8 ev _ (by rw[Qb0];simp) i.o g).mono ?_
  rintro e w2 ⟨N,rfl,_,_,h⟩
  go_wp2
  go_ret2
  exact⟨HB.o.trans (h.mono HB.o.size),_,_,rfl⟩
end
section
theorem Q5i (s:ByteArray) (w:World) (hs:s.size≤1048576) (h:Qad w) :
  Calls prog 176 #[.string s] w fun e w'=>∃ v ev,e=.returned (.tuple #[.int .i64 v,ev])∧((Qgc s.data.toList=some v∧ev=.nilIface)∨(Qgc s.data.toList=none∧∃ T p,ev=.iface T p))∧Below w.heap.size w w':=by
 obtain⟨_,_,⟨e1,h1,a⟩,⟨e2,h2,b⟩⟩:=h;cases hr:Lib.atoiAll s.data.toList with
 | ok v=>
  refine (strconv_Atoi_ok s (by omega) v hr w).mono ?_;rintro e w' ⟨rfl,hw⟩;refine⟨v,.nilIface,rfl,.inl ⟨by unfold Qgc;rw[hr],rfl⟩,?_⟩;rcases hw with rfl|⟨t,rfl⟩
  ·exact Below.refl _ _
  ·exact Lib.bytesWorld_below _ _ _
 | range=>
  refine (strconv_Atoi_range s (by omega) hr e2 w h2 b).mono ?_;rintro e w' ⟨N,rfl,_,_,hb⟩;exact⟨_,_,rfl,.inr ⟨by unfold Qgc;rw[hr],_,_,rfl⟩,hb⟩
 | _=>
  refine (strconv_Atoi_syntax s (by omega) hr e1 w h1 a).mono ?_;rintro e w' ⟨N,rfl,_,_,hb⟩;exact⟨_,_,rfl,.inr ⟨by unfold Qgc;rw[hr],_,_,rfl⟩,hb⟩
end
section
abbrev Q9o (q:Qn2):Value:=.tuple #[trV q.1 q.2.1,.bool q.2.2]
def Qjc (q:Qn2) (w:World) (e:Ending) (w':World):Prop:=e=.returned (Q9o q)∧Below w.heap.size w w'
theorem Qrp {c:UInt8} {m:Nat} (h:Jg c=some m):m<16:=by
 unfold Jg at h
 split at h
 ·cases h;omega
 ·split at h
  ·cases h;omega
  ·split at h
   ·cases h;omega
   ·cases h
set_option maxHeartbeats 8000000 in
theorem Qoq (s key:ByteArray) (w:World) (hs:s.size≤1048576) (hk:key.size≤9223372036854775807) (hE:Qad w) :
  Calls prog 137 #[.string s,.string key] w (Qjc (Zw s.data.toList key.data.toList) w):=by
 obtain⟨l,hl⟩:∃ l,l=s.data.toList:=⟨_,rfl⟩
 have aq:s=sOf l:=by rw[hl,Qag]
 have a8:l.length≤1048576:=by rw[hl];simpa using hs
 clear hl hs;subst aq;obtain⟨q,hq⟩:∃ q,q=Zw l key.data.toList:=⟨_,rfl⟩
 show Calls prog 137 #[.string (sOf l),.string key] w (Qjc (Zw l key.data.toList) w);rw[←hq];have b0:=Qa w (.cells (trC 0 zero8) 145);have T0:TrAt (w.alloc (.cells (trC 0 zero8) 145)) w.heap.size 0 zero8:=heap_alloc_new w _;have HQ:=zh hq;have al:=zh (hE.below b0);have ap:=zh b0;have ai:=zh T0;clear hq b0 T0
 go_enter func137,ntmps137
 go_wp2_with fail
 refine (Qy3 (sOf l) _ (by rw[Qb0];exact a8) al.o).mono ?_;rintro e w1 ⟨v,Ls,rfl,hL,ac,M⟩;rw[show (sOf l).data.toList=l from rfl] at ac;have Z:=HQ.o;unfold Zw at Z;rw[←ac] at Z;obtain⟨a1,n1,k1,rfl,an⟩:∃ a n c,v=.slice a n c∧n=Ls.length:=by obtain⟨a,c,h1,_⟩:=hL;exact⟨a,_,c,h1,rfl⟩
 obtain⟨z0,z1,z2,z3,z4,z5,z6,z7,z8⟩:=(ai.o.below M).cells;have B:=zh (ai.o.below M);have ax:=zh (al.o.below M);have O:=zh (ap.o.trans (M.mono ap.o.size));have HL:=zh hL;have be:=zh ac;have bh:=zh hE;have H:=zh Z;clear HQ Z ac M hL ap al ai hE;by_cases h5:n1=5
 ·obtain⟨L0,L1,L2,L3,L4,rfl⟩:∃ a b c d e,Ls = [a,b,c,d,e]:=by
   match Ls,an.symm.trans h5 with
   | [a,b,c,d,e],_=>exact⟨a,b,c,d,e,rfl⟩
  subst h5;clear an;obtain⟨bl,ol,rfl,ak⟩:∃ b o,a1=some ⟨b,o,none⟩∧∀ j x,([L0,L1,L2,L3,L4].map Value.string)[j]?=some x→w1.cell? ⟨b,o+j,none⟩=some x:=by obtain⟨a',c',hv,_,hc⟩:=HL.o;cases hv;obtain⟨b,o,hb,_⟩:=hc 0 (.string L0) rfl;refine⟨b,o,hb,fun j x hx=>?_⟩;obtain⟨b',o',aw,ar⟩:=hc j x hx;rw[hb] at aw;cases aw;exact ar
  have m1:=ak 1 (.string L1) rfl;have m2:=ak 2 (.string L2) rfl;clear ak HL z0 z1 z2 z3 z4 z5 z6 z7 z8;have b1:=O.o.size;by_cases h16:L2.size=16
  ·have bd:((L2.size:Int) != 16)=false:=by rw[h16];rfl
   have A:q=match Qgc L1.data.toList with
     | none=>J9
     | some n=>if n<0 then J9 else match Qah Jg L2.data.toList with
      | none=>J9
      | some b=>Qbi l key.data.toList n (Yo b):=by
    rw[H.o];show Qgw l key.data.toList [L0.data.toList,L1.data.toList,L2.data.toList,L3.data.toList,L4.data.toList]=_;show (if L2.data.toList.length≠16 then J9 else _)=_;rw[if_neg (by simpa using h16)];rfl
   have J:=zh A;have bf:L1.size≤1048576:=by
    have:=Qzh l L1.data.toList (by rw[←be.o];simp[lists])
    simp at this;omega
   clear A H
   go_wp2_with fail
   refine (Q5i L1 _ bf ax.o).mono ?_;rintro e w2 ⟨v,ev,rfl,hv,Q⟩;have g:=J.o;have z:=zh (B.o.below Q);have W:=zh (O.o.trans (Q.mono O.o.size));have bt:=zh (ax.o.below Q);have ad:=(Q.cell (Qk m2)).trans m2;clear Q m1 m2 J;rcases hv with ⟨hv,rfl⟩|⟨hv,T,p,rfl⟩
   ·rw[hv] at g
    simp only at g;have e0:=Y3 w2;have bw:=Qw2 hv;by_cases h0:v<0
    ·have hd:decide (v<0)=true:=decide_eq_true h0
     rw[if_pos h0] at g;have C:=zh g;clear g hv h0
     go_wp2_with (first|(refine Yz rfl _ rfl _ rfl _ _ z.o ?_)|(refine Z8 rfl _ _ rfl _ 0 zero8 rfl rfl _ _ z.o ?_))
     refine retT w.heap.size 0 zero8 (.bool false) rfl rfl rfl (z.o.set _ _) rfl ⟨?_,below_setRow W.o (Nat.le_refl _) _⟩;rw[C.o];rfl
    ·have hd:decide (v<0)=false:=decide_eq_false h0
     rw[if_neg h0] at g;have C:=zh g;clear g hv;have bz:w.heap.size<w2.heap.size:=Qc z.o;have bo:bl<w2.heap.size:=Qk ad;have bA:=Qa w2 (.cells (trC v zero8) 145);have TA:TrAt (w2.alloc (.cells (trC v zero8) 145)) w2.heap.size v zero8:=heap_alloc_new w2 _;obtain⟨Wb,aa⟩:∃ x,x=w2.alloc (.cells (trC v zero8) 145):=⟨_,rfl⟩
     have m3:=(bA.cell (Qk ad)).trans ad;have T4:=z.o.below bA;have B4:=W.o.trans (bA.mono W.o.size);have br:w2.heap.size<Wb.heap.size:=by rw[aa];simp
     rw[←aa] at TA m3 T4 B4;have bg:=zh TA;have bj:=zh T4;have a2:=zh B4;have bc:=zh m3;have bi:=zh aa;have bn:L2.data.toList.length=16:=by simpa using h16
     have HU:=zh (show Qah Jg L2.data.toList=(Qah Jg (L2.data.toList.drop 0)).map ([] ++ ·) by simp);clear bA TA m3 T4 B4 aa ad
     go_wp2_with fail
     rw[show w2.alloc (.cells #[.int .i64 v,.int .u8 0,.int .u8 0,.int .u8 0,.int .u8 0,.int .u8 0,.int .u8 0,.int .u8 0,.int .u8 0] 145)=Wb from bi.o.symm]
     go_loopw [42] (fun vi wr=>∃ (k:Nat) (r:List UInt8),k≤8∧vi=.int .i64 k∧r.length=k∧Hid (Qah Jg L2.data.toList=(Qah Jg (L2.data.toList.drop (2*k))).map (r ++ ·))∧Hid (Wb.grownBy wr (some w2.heap.size))∧Hid (TrAt wr w2.heap.size v (Yo r))) (fun vi _=>8-(intOf vi).toNat)
     case atStart=>exact⟨0,[],by omega,rfl,rfl,HU,zh (Qfp (Below.refl _ _) _),bg⟩
     case round=>
      obtain⟨k,r,bq,rfl,X,L,N,E⟩:=hrel;have hB:Below w.heap.size w wr:=a2.o.grown N.o a2.o.size (fun j hj=>by have:=Option.some.inj hj;omega);have K:=zh hB;have a0:=zh (bh.o.below hB);have m4:wr.cell? ⟨bl,ol+2,none⟩=some (.string L2):=(World.cell?_of_block (a:=⟨bl,ol+2,none⟩) (N.o.block bl (by omega) (fun e=>by have:=Option.some.inj e;omega))).trans bc.o;have S:=zh (show TrAt wr w.heap.size 0 zero8 from (N.o.block w.heap.size (by omega) (fun e=>by have:=Option.some.inj e;omega)).trans bj.o);clear hB;by_cases hlt:k<8
      ·obtain⟨a,b,ao⟩:∃ a b,L2.data.toList.drop (2*k)=a :: b :: L2.data.toList.drop (2*(k+1)):=by refine⟨L2.data.toList[2*k]'(by omega),L2.data.toList[2*k+1]'(by omega),?_⟩;rw[List.drop_eq_getElem_cons (by omega),List.drop_eq_getElem_cons (i:=2*k+1) (by omega)];rfl
       have U:L2.extract (2*k) (2*k+2)=sOf [a,b]:=by
        rw[←Qag (L2.extract (2*k) (2*k+2))]
        congr 1
        have:(L2.extract (2*k) (2*k+2)).data.toList=(L2.data.toList.drop (2*k)).take 2:=by simp
        rw[this,ao];rfl
       have f:=L.o;rw[ao,Qns] at f;have P:=Q4d a b wr a0.o;obtain⟨aj,af⟩:=E.o.at (by omega);have Y:=zh f;have bu:=zh X;clear L f ao
       go_wp2_with fail
       have f:=Y.o;cases hua:Jg a with
       | none=>
        rw[hua] at P f;simp only[Option.bind_none,Option.map_none] at P f;refine P.mono ?_;rintro e w3 ⟨m,T,p,rfl⟩;have u:=C.o;rw[f] at u;have ag:=zh u;have D:=zh (S.o.below m);have I:=zh (K.o.trans (m.mono K.o.size));have e1:=Qax w3 T p;clear m f u P hua Y aj af m4 U
        go_wp2_with (first|(refine Yz rfl _ rfl _ rfl _ _ D.o ?_)|(refine Z8 rfl _ _ rfl _ 0 zero8 rfl rfl _ _ D.o ?_))
        refine retT w.heap.size 0 zero8 (.bool false) rfl rfl rfl (D.o.set _ _) rfl ⟨?_,below_setRow I.o (Nat.le_refl _) _⟩;rw[ag.o];rfl
       | some x=>
        cases hub:Jg b with
        | none=>
         rw[hua,hub] at P f;simp only[Option.bind_some,Option.map_none,Option.bind_none] at P f;refine P.mono ?_;rintro e w3 ⟨m,T,p,rfl⟩;have u:=C.o;rw[f] at u;have ag:=zh u;have D:=zh (S.o.below m);have I:=zh (K.o.trans (m.mono K.o.size));have e1:=Qax w3 T p;clear m f u P hua hub Y aj af m4 U
         go_wp2_with (first|(refine Yz rfl _ rfl _ rfl _ _ D.o ?_)|(refine Z8 rfl _ _ rfl _ 0 zero8 rfl rfl _ _ D.o ?_))
         refine retT w.heap.size 0 zero8 (.bool false) rfl rfl rfl (D.o.set _ _) rfl ⟨?_,below_setRow I.o (Nat.le_refl _) _⟩;rw[ag.o];rfl
        | some y=>
         rw[hua,hub] at P f;simp only[Option.bind_some,Option.map_some] at P f;obtain⟨zb,av,au⟩:∃ zb:UInt8,16*x+y=zb.toNat∧UInt8.ofNat (16*x+y)=zb:=by refine⟨UInt8.ofNat (16*x+y),?_,rfl⟩;have h1:=Qrp hua;have h2:=Qrp hub;rw[UInt8.toNat_ofNat'];omega
         rw[av] at P;rw[au] at f;have ah:Qah Jg L2.data.toList=(Qah Jg (L2.data.toList.drop (2*(k+1)))).map ((r ++ [zb]) ++ ·):=by rw[f];cases Qah Jg (L2.data.toList.drop (2*(k+1))) <;> simp
         have a9:=zh ah;have bx:=zb.toNat_lt;refine P.mono ?_;rintro e w3 ⟨m,rfl⟩;have bk:=zh (E.o.below m);obtain⟨⟨y0,a6⟩,ba⟩:=(E.o.below m).at (by omega);rw[X] at a6 ba;have bb:=zh (Qa5 N.o (Qfp m _));have e1:=Y3 w3;clear m f P hua hub Y aj af m4 U av au ah E N;go_wp2;refine⟨⟨k+1,r ++ [zb],by omega,rfl,by simp;exact X,a9,zh (Qa5 bb.o (Qng w3 ⟨w2.heap.size,1+k,none⟩ _)),zh ?_⟩,by simp[intOf];omega⟩
         have:=bk.o.step zb (by omega)
         rw[X] at this;exact this
      ·have bp:k=8:=by omega
       have R:=L.o;rw[List.drop_of_length_le (by omega)] at R;have u:=C.o;rw[R] at u;obtain⟨vn,bm⟩:∃ n:Nat,v=n:=⟨v.toNat,by omega⟩
       subst bm;obtain⟨hh,am⟩:∃ h,h=Yo r:=⟨_,rfl⟩
       have a4:q=Qbi l key.data.toList vn hh:=by rw[u,am];simp[Qah]
       rw[←am] at E;have ay:=zh E.o;have V:=a4;unfold Qbi at V;rw[Int.toNat_natCast] at V;have az:=zh V;have a7:vn<9223372036854775808:=by omega
       clear R u am a4 V L E
       go_wp2_with (refine Yz rfl _ rfl _ rfl _ _ ay.o ?_)
       refine (Qq7 vn hh key _ a7 hk a0.o).mono ?_;rintro e w5 ⟨rfl,ab⟩;have a5:=zh (ay.o.below ab);have G:=zh (S.o.below ab);have I:=zh (K.o.trans (ab.mono K.o.size));have F:=az.o;obtain⟨tx,a3⟩:∃ t,t=Qao vn hh key.data.toList:=⟨_,rfl⟩
       rw[←a3] at F ⊢;clear a3 ab az m4;by_cases he:tx=l
       ·rw[if_pos he] at F
        have ae:=zh F;subst he;clear F
        go_wp2_with (first|(refine Yz rfl _ rfl _ rfl _ _ a5.o ?_)|(refine Z8 rfl _ _ rfl _ vn hh rfl rfl _ _ G.o ?_))
        refine retT w.heap.size vn hh (.bool true) rfl rfl rfl (G.o.set _ _) rfl ⟨?_,below_setRow I.o (Nat.le_refl _) _⟩;rw[ae.o]
       ·rw[if_neg he] at F
        have ae:=zh F;have c6:(tx == l)=false:=beq_eq_false_iff_ne.2 he;clear F
        go_wp2_with (first|(refine Yz rfl _ rfl _ rfl _ _ G.o ?_)|(refine Z8 rfl _ _ rfl _ 0 zero8 rfl rfl _ _ G.o ?_))
        refine retT w.heap.size 0 zero8 (.bool false) rfl rfl rfl (G.o.set _ _) rfl ⟨?_,below_setRow I.o (Nat.le_refl _) _⟩;rw[ae.o];rfl
   ·rw[hv] at g
    simp only at g;have e0:=Qax w2 T p;have C:=zh g;clear g hv
    go_wp2_with (first|(refine Yz rfl _ rfl _ rfl _ _ z.o ?_)|(refine Z8 rfl _ _ rfl _ 0 zero8 rfl rfl _ _ z.o ?_))
    refine retT w.heap.size 0 zero8 (.bool false) rfl rfl rfl (z.o.set _ _) rfl ⟨?_,below_setRow W.o (Nat.le_refl _) _⟩;rw[C.o];rfl
  ·have bd:((L2.size:Int) != 16)=true:=by simp;omega
   have A:q=J9:=by rw[H.o];show (if L2.data.toList.length≠16 then J9 else _)=_;rw[if_pos (by simpa using h16)]
   have J:=zh A;clear A H
   go_wp2_with (first|(refine Yz rfl _ rfl _ rfl _ _ B.o ?_)|(refine Z8 rfl _ _ rfl _ 0 zero8 rfl rfl _ _ B.o ?_))
   refine retT w.heap.size 0 zero8 (.bool false) rfl rfl rfl (B.o.set _ _) rfl ⟨?_,below_setRow O.o (Nat.le_refl _) _⟩;rw[J.o];rfl
 ·have d5:((n1:Int) != 5)=true:=by simp;omega
  have A:q=J9:=by
   rw[H.o]
   match Ls,an with
   | [],_=>rfl
   | [_],_=>rfl
   | [_,_],_=>rfl
   | [_,_,_],_=>rfl
   | [_,_,_,_],_=>rfl
   | [_,_,_,_,_],h=>exact absurd h h5
   | _ :: _ :: _ :: _ :: _ :: _ :: _,_=>rfl
  have J:=zh A;clear A H z0 z1 z2 z3 z4 z5 z6 z7 z8
  go_wp2_with (first|(refine Yz rfl _ rfl _ rfl _ _ B.o ?_)|(refine Z8 rfl _ _ rfl _ 0 zero8 rfl rfl _ _ B.o ?_))
  refine retT w.heap.size 0 zero8 (.bool false) rfl rfl rfl (B.o.set _ _) rfl ⟨?_,below_setRow O.o (Nat.le_refl _) _⟩;rw[J.o];rfl
end
section
theorem Qmu (m n:Nat) (whole:Option Hsh):roots m n whole []=if m=n then whole.map fun a=>(a,a) else none:=by simp[roots,Ql5]
theorem Qg0 (m n:Nat) (whole:Option Hsh) (q:List Hsh) (r:Hsh):roots m n whole (q ++ [r])=if m=n then (match whole with|some _=>none|none=>if q = [] then some (r,r) else none)
   else if m≤below n then (roots m (below n) whole q).map fun x=>(x.1,Z1 x.2 r) else (roots (m-below n) (n-below n) none q).map fun x=>(Z1 r x.1,Z1 r x.2):=by
 unfold roots below;rw[List.reverse_append];simp only[List.reverse_cons,List.reverse_nil,List.nil_append,List.singleton_append,Ql5];cases whole <;> simp
def Qm3 (w:World) (v:Value) (whole:Option Hsh):Prop:=(v=.pointer none∧whole=none)∨∃ g h,v=.pointer (some ⟨g,0,none⟩)∧whole=some h∧Qw w g h
def Qe1 (m n:Nat) (whole:Option Hsh) (p:List Hsh) (w:World) (e:Ending) (w':World):Prop:=
 ∃ x y:Hsh,e=.returned (.tuple #[.agg (h8 x),.agg (h8 y),.bool (roots m n whole p).isSome])∧(∀ z,roots m n whole p=some z→(x,y)=z)∧Below w.heap.size w w'
variable {w:World} {g:Nat}
theorem Qu {h:Hsh} (hh:Qw w g h) (j:Nat) (hj:j<8):w.cell? ⟨g,j,none⟩=some (u8 h[j]):=by unfold Qw at hh;simp[World.cell?,hh,h8,hj]
theorem Qci {cs:Array Value} {b o:Nat} (h:b≠g):(w.setRow g cs).cell? ⟨b,o,none⟩=w.cell? ⟨b,o,none⟩:=cell_setRow_other w g cs ⟨b,o,none⟩ h
section
attribute [local go_sem] h8_0 h8_1 h8_2 h8_3 h8_4 h8_5 h8_6 h8_7 Qbm h8_size Qci Qa7
theorem Qlz (m:Nat) (a:Hsh) (p:List Hsh):roots m m (some a) p=if p.length=0 then some (a,a) else none:=by
 rcases List.eq_nil_or_concat p with rfl|⟨q,r,rfl⟩
 ·simp[Qmu]
 ·rw[List.concat_eq_append] at *
  rw[Qg0,if_pos rfl];simp
theorem Qs4 (m:Nat) (r:Hsh):roots m m none [r]=some (r,r):=by
 have:=Qg0 m m none [] r
 simpa using this
theorem Qt4 (m:Nat) (p:List Hsh) (h:p.length≠1):roots m m none p=none:=by
 rcases List.eq_nil_or_concat p with rfl|⟨q,r,rfl⟩
 ·simp[Qmu]
 ·rw[List.concat_eq_append] at *
  rw[Qg0,if_pos rfl]
  have:q≠[]:=by intro e;subst e;simp at h
  simp[this]
theorem Qvk (w:World):Below w.heap.size w (((w.alloc (.cells zc 143)).alloc (.cells zc 143)).drew):=((Qa w _).alloc (by simp) _).drew
theorem Qqu {v:Value} {p:List Hsh} (h:Qb1 w v p):∃ a c,v=.slice a p.length c:=by obtain⟨a,c,h1,_⟩:=h;exact⟨a,c,h1⟩
theorem Qkc (m:Int) (g:Nat) (h:Hsh) (v:Value) (p:List Hsh) (w:World) (hp:Qb1 w v p) (hh:Qw w g h) :
  Calls prog 183 #[.int .i64 m,.int .i64 m,v,.pointer (some ⟨g,0,none⟩)] w (Qe1 m.toNat m.toNat (some h) p w):=by
 obtain⟨a,c,rfl⟩:=Qqu hp;clear hp;have c0:=Qu hh 0 (by decide);have c1:=Qu hh 1 (by decide);have c2:=Qu hh 2 (by decide);have c3:=Qu hh 3 (by decide);have c4:=Qu hh 4 (by decide);have c5:=Qu hh 5 (by decide);have c6:=Qu hh 6 (by decide);have c7:=Qu hh 7 (by decide);have hg:g<w.heap.size:=Qk c0;have e:g<w.heap.size+1:=by omega
 have b:g≠w.heap.size:=by omega
 have d:g≠w.heap.size+1:=by omega
 have i1:Is8 (((w.alloc (.cells zc 143)).alloc (.cells zc 143)).drew) w.heap.size:=⟨zero8,Qo (Qp (Qh rfl) _)⟩
 have i2:Is8 (((w.alloc (.cells zc 143)).alloc (.cells zc 143)).drew) (w.heap.size+1):=⟨zero8,Qo (Qh (by simp))⟩
 have i3:Is8 ((((w.alloc (.cells zc 143)).alloc (.cells zc 143)).drew).setRow w.heap.size (h8 h)) (w.heap.size+1):=⟨zero8,Qi (Qo (Qh (by simp))) _ (by omega)⟩
 have i4:Is8 ((((w.alloc (.cells zc 143)).alloc (.cells zc 143)).drew).setRow (w.heap.size+1) (h8 h)) w.heap.size:=⟨zero8,Qi (Qo (Qp (Qh rfl) _)) _ (by omega)⟩
 have hl:((p.length:Int) == 0)=decide (p.length=0):=by rw[Bool.eq_iff_iff];simp
 have HL:=zh hl;clear hl
 go_enter func183,ntmps183
 go_wp2_with fail
 go_region;go_wp2;refine ret88t w.heap.size (w.heap.size+1) h h (.bool ((p.length:Int) == 0)) rfl rfl rfl rfl _ underlying143 info8 (Qi (Qj i1 _) _ (by omega)) (Qj i3 _) rfl ⟨h,h,?_,?_,below_setRow (below_setRow (Qvk w) (Nat.le_refl _) _) (by omega) _⟩
 ·rw[Qlz,HL.o]
  by_cases h0:p.length=0 <;> simp[h0]
 ·intro z hz
  rw[Qlz] at hz
  split at hz
  ·cases hz;rfl
  ·cases hz
theorem Qyo (m:Int) (r:Hsh) (v:Value) (w:World) (hp:Qb1 w v [r]) :
  Calls prog 183 #[.int .i64 m,.int .i64 m,v,.pointer none] w (Qe1 m.toNat m.toNat none [r] w):=by
 obtain⟨a,c,rfl⟩:=Qqu hp;obtain⟨g,off,rfl,d,b,_⟩:=Qh4 (q:=[]) (m:=0) hp rfl;simp only[Nat.zero_mul,Nat.add_zero] at b;have c0:w.cell? ⟨g,off,none⟩=some (u8 r[0]):=b 0 (by decide);have c1:=b 1 (by decide);have c2:=b 2 (by decide);have c3:=b 3 (by decide);have c4:=b 4 (by decide);have c5:=b 5 (by decide);have c6:=b 6 (by decide);have c7:=b 7 (by decide);have hg:g<w.heap.size:=Qk c0;have f:g<w.heap.size+1:=by omega
 have h:g≠w.heap.size:=by omega
 have e:g≠w.heap.size+1:=by omega
 have i1:Is8 (((w.alloc (.cells zc 143)).alloc (.cells zc 143)).drew) w.heap.size:=⟨zero8,Qo (Qp (Qh rfl) _)⟩
 have i2:Is8 (((w.alloc (.cells zc 143)).alloc (.cells zc 143)).drew) (w.heap.size+1):=⟨zero8,Qo (Qh (by simp))⟩
 have i3:Is8 ((((w.alloc (.cells zc 143)).alloc (.cells zc 143)).drew).setRow w.heap.size (h8 r)) (w.heap.size+1):=⟨zero8,Qi (Qo (Qh (by simp))) _ (by omega)⟩
 have i4:Is8 ((((w.alloc (.cells zc 143)).alloc (.cells zc 143)).drew).setRow (w.heap.size+1) (h8 r)) w.heap.size:=⟨zero8,Qi (Qo (Qp (Qh rfl) _)) _ (by omega)⟩
 clear b hp
 go_enter func183,ntmps183
 go_wp2_with fail
 go_region;go_wp2;refine ret88t w.heap.size (w.heap.size+1) r r (.bool true) rfl rfl rfl rfl _ underlying143 info8 (Qi (Qj i1 _) _ (by omega)) (Qj i3 _) rfl ⟨r,r,by rw[Qs4];rfl,?_,below_setRow (below_setRow (Qvk w) (Nat.le_refl _) _) (by omega) _⟩;intro z hz;rw[Qs4] at hz;cases hz;rfl
theorem Qnj (m n:Int) (pv:Value) (whole:Option Hsh) (v:Value) (p:List Hsh) (w:World) (hp:Qb1 w v p) (hw:Qm3 w pv whole) (hmn:m≤n) (d:(m=n∧whole=none∧p.length≠1)∨(m≠n∧p = [])) (hm1:1≤m) :
  Calls prog 183 #[.int .i64 m,.int .i64 n,v,pv] w (Qe1 m.toNat n.toNat whole p w):=by
 obtain⟨a,c,rfl⟩:=Qqu hp;have b:roots m.toNat n.toNat whole p=none:=by
  rcases d with ⟨rfl,rfl,h⟩|⟨h,rfl⟩
  ·exact Qt4 _ _ h
  ·rw[Qmu,if_neg (by omega)]
 have HR:=zh b;clear b hp;have fin:∀ (a:Act) ,a.tmps.getD 8 undef=.pointer (some ⟨w.heap.size,0,none⟩)→a.tmps.getD 9 undef=.pointer (some ⟨w.heap.size+1,0,none⟩)→a.tmps.getD 10 undef=.bool false→a.defers = []→
   bodyPost prog f183 (Qe1 m.toNat n.toNat whole p w) .ret a (((w.alloc (.cells zc 143)).alloc (.cells zc 143)).drew):=fun a h1 h2 h3 h4=>
  ret88t w.heap.size (w.heap.size+1) zero8 zero8 (.bool false) rfl h1 h2 h3 _ underlying143 info8 (Qo (Qp (Qh rfl) _)) (Qo (Qh (by simp))) h4
   ⟨zero8,zero8,by rw[HR.o];rfl,fun z hz=>(by rw[HR.o] at hz;cases hz),Qvk w⟩
 have FIN:=zh fin;clear fin;rcases d with ⟨rfl,rfl,h⟩|⟨h,rfl⟩
 ·obtain rfl:pv=.pointer none:=by rcases hw with ⟨rfl,_⟩|⟨_,_,_,h,_⟩ <;> first|rfl|cases h
  have d1:((p.length:Int) == 1)=false:=by rw[beq_eq_false_iff_ne];omega
  go_enter func183,ntmps183
  go_wp2_with fail
  go_region;go_wp2;exact FIN.o _ rfl rfl rfl rfl
 ·have d1:(m == n)=false:=by rw[beq_eq_false_iff_ne];exact h
  clear hw
  go_enter func183,ntmps183
  go_wp2_with fail
  go_region;go_wp2;exact FIN.o _ rfl rfl rfl rfl
end
end
end Go.Proofs.YtefccfakhgdfbaaGreatDoor
