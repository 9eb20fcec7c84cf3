/- The walk of internal/strconv.ParseUint and strconv.ParseUint at two digits of 16, eight bits. -/
import Derived.Test.YtefccfakhgdfbabGreatDoorRd14
set_option linter.unusedVariables false
set_option linter.unusedSimpArgs false
open Go.RowKit Go.Proofs.Tryz
set_option maxRecDepth 100000
set_option maxHeartbeats 4000000
namespace Go.Proofs.YtefccfakhgdfbabGreatDoor
section
def Took (w:World) (g gd:Nat) (ve vl vp:Value) (vs:List Value) (L:Lg) (b:List UInt8) (w':World):Prop:=
 ∃ ve' vl' vs' vs0 u,Zn w' g gd ve' vl' vp vs' { L with entries:=L.entries ++ [b],levels:=levels (L.entries ++ [b]) }∧Fr (LogS g ve vl vp vs) w w'∧Sub w (LogS g ve vl vp vs) (LogS g ve' vl' vp vs')∧
  w.ownsRow 0 94 1 ve L.entries.length vs0∧w'.ownsRow 0 94 1 ve' (L.entries.length+1) (vs0 ++ [u])∧Qz w' w.heap.size u b
variable {w:World}
theorem Qnn {base:Nat} {v:Value} {l:List UInt8} (h:Qz w base v l):∃ a n c,v=.slice a n c:=by
 rcases h with ⟨rfl,_⟩|⟨b,off,c,C,fz,rfl,_⟩
 ·exact⟨_,_,_,rfl⟩
 ·exact⟨_,_,_,rfl⟩
theorem Qsr {es:List (List UInt8)} (h:es.length≤1048576):(levels es).length<1048576∧∀ r∈levels es,r.length<1099511627776:=by
 have h1:=Qay h;refine⟨by simp[levels];omega,fun r hr=>?_⟩;obtain⟨k,hk,rfl⟩:=List.mem_map.1 hr;rw[Jz]
 have:=Nat.div_le_self es.length (4 ^ k)
 omega
theorem Q1k {g gd k:Nat} {ve vl vp:Value} {vs:List Value} {L:Lg} (h:Zn w g gd ve vl vp vs L) {C:Array Value} {f:Nat×Nat} (hk:w.heap[k]?=some (.cells C 94 f)) (hs:LvS g ve vl vp vs k):False:=by
 rcases hs with rfl|hs|⟨v,hv,hs⟩
 ·exact Zp hk h.cells (by decide) rfl
 ·obtain⟨C',h1⟩:=Qh h.rows hs
  exact Zp hk h1 (by decide) rfl
 ·obtain⟨j,hj⟩:=List.mem_iff_getElem?.1 hv
  have hl:vs.length=L.levels.length:=by simpa using h.rows.1
  have hjl:j<L.levels.length:=by have:=(List.getElem?_eq_some_iff.1 hj).1;omega
  obtain⟨C',h1⟩:=Qh (h.each j v _ hj (List.getElem?_eq_getElem hjl)) hs;exact Zp hk h1 (by decide) rfl
def Qem (f:Nat→Addr) (g gd:Nat) (ve vl vp:Value) (vs:List Value) (L:Lg) (b:List UInt8) (w:World) (e:Ending) (w':World):Prop:=
 if 20<b.length then e=.returned (.tuple #[.int .i64 0,.iface 338 (.pointer (some (f 0)))])∧Below w.heap.size w w'
 else if L.failed=true then e=.returned (.tuple #[.int .i64 0,.iface 338 (.pointer (some (f 6)))])∧Below w.heap.size w w'
 else e=.returned (.tuple #[.int .i64 L.entries.length,.nilIface])∧Took w g gd ve vl vp vs L b w'
theorem Qw9 (f:Nat→Addr) (w:World) (g gd:Nat) (ve vl vp:Value) (vs:List Value) (L:Lg) (h:Zn w g gd ve vl vp vs L) (va:Value) (b:List UInt8) (hb:Qz w 0 va b) (hn:L.entries.length<1048576) (hlv:L.levels=levels L.entries)
  (hS:Qav w f):Calls prog 39 #[.pointer (some ⟨g,0,none⟩),va] w (Qem f g gd ve vl vp vs L b w):=by
 obtain⟨s0,_,_,_,_,_,s6⟩:=hS.cells;obtain⟨a,c,rfl⟩:∃ a c,va=.slice a b.length c:=by obtain⟨a,c,h1,_,_⟩:=hb.at;exact⟨a,c,h1⟩
 have HB:=zh hb;have HH:=zh h;have hd:=h.heads;obtain⟨⟨_,_,c2,_,_,c5⟩,f0⟩:=hd;have hg:=Qc h.cells;clear h hb hS;by_cases hlong:20<b.length
 ·have hz:(20:Int)<(b.length:Int):=by omega
  go_enter func39,ntmps39
  go_wp2;go_region
  all_goals (
   go_wp2
   go_ret2
   unfold Qem
   rw[if_pos hlong]
   exact⟨rfl,Ql w⟩)
 ·have hz:¬ (20:Int)<(b.length:Int):=by omega
  have hbl:b.length≤1048576:=by omega
  cases hfl:L.failed with
  | true=>
   rw[hfl] at c5
   go_enter func39,ntmps39
   go_wp2;go_region
   all_goals (
    go_wp2
    go_ret2
    unfold Qem
    rw[if_neg hlong,if_pos hfl]
    exact⟨rfl,Ql w⟩)
  | false=>
   rw[hfl] at c5;have HFL:=zh hfl;have HLV:=zh hlv;obtain⟨vs0,hrow,hrb⟩:=HH.o.ents;obtain⟨a1,cp1,rfl⟩:=Zs hrow;obtain⟨ln,hln⟩:∃ ln,ln=L.entries.length:=⟨_,rfl⟩
   rw[←hln] at c2 hn;have hrow':w.ownsRow 0 94 1 (.slice a1 ln cp1) ln vs0:=by rw[hln];exact hrow
   have hne:¬ (Value.slice a1 ln cp1).ownBlock=some g:=fun e=>by obtain⟨C,hC⟩:=Qh hrow' e;exact Zp HH.o.cells hC (by decide) rfl
   obtain⟨i0,hi0,hz0,hs0,hby0⟩:=Qp5;have HI:=zh (⟨hi0,hz0,hs0,hby0⟩:_∧_∧_∧_);have HLN:=zh hln;have HROW:=zh hrow';have HRB:=zh hrb;have HNE:=zh hne;clear hfl hlv hrow hrb hln hrow' hne hi0 hz0 hs0 hby0
   go_enter func39,ntmps39
   go_upto_region 5 with fail
   go_cut [] from 17 to 27 (fun wx=>∃ ve',Aside (Zn wx g gd ve' vl vp vs { L with entries:=L.entries ++ [b] })∧Aside (Fr (LogS g (.slice a1 L.entries.length cp1) vl vp vs) w wx)∧Aside (Sub w (LogS g (.slice a1 L.entries.length cp1) vl vp vs) (LogS g ve' vl vp vs))∧Aside (Qz wx 0 (.slice a b.length c) b)∧∃ u,Aside (wx.ownsRow 0 94 1 ve' (ln+1) (vs0 ++ [u]))∧Aside (Qz wx w.heap.size u b))
   case first=>
    go_region_law (first|(go_simp;go_at_call 75;refine (Qfi _ b _ (HB.o.at.below (Ql w)) (by omega)).mono ?_;rintro e w2 ⟨v2,rfl,ho2,hb2⟩;obtain⟨q2,n2,k2,rfl⟩:=Qnn ho2;have HO2:=zh ho2;have HB2:=zh hb2;have c2':=(hb2.cell (p:=⟨g,2,none⟩) hg).trans c2;have f2':=(hb2.frozen (p:=⟨g,2,none⟩) hg).trans (f0 2);have hg2:g<w2.heap.size:=Nat.lt_of_lt_of_le hg hb2.size;clear ho2 hb2)|(refine Qeg rfl _ _ _ rfl 0 94 i0 _ 1 24 underlying135 HI.o.1 HI.o.2.1 HI.o.2.2.1 HI.o.2.2.2 rfl (by decide) (by decide) (.slice a1 ln cp1) ln vs0 rfl (Qn HROW.o (((Ql w).trans HB2.o).alloc (Nat.le_trans (Nat.le_refl _) HB2.o.size) _)) ⟨w2.heap.size,0,none⟩ 1 1 [.slice q2 n2 k2] rfl rfl (cell_one_new _ _ _) (by simp[HO2.o.one]) (by decide) (by omega) (Nat.zero_le _) ?_;intro v' w' h2 h3 h4 h5;obtain⟨gb,cpb,rfl,hgb⟩:=Qa3 h2 h5;have H2:=zh h2;have H3:=zh ((Fr.ofBelow (S:=fun k=>(Value.slice a1 ln cp1).ownBlock=some k) (((Ql w).trans HB2.o).alloc (Nat.le_trans (Nat.le_refl _) HB2.o.size) (.cells #[.slice q2 n2 k2] 94))).trans (Fr.ofGrown h3 fun k _ e=>e));have H3b:=zh (Fr.ofGrown (S:=fun k=>(Value.slice a1 ln cp1).ownBlock=some k) h3 fun k _ e=>e);have H4:=zh ((J7.refl w (.slice a1 ln cp1)).trans h4 (((Ql w).trans HB2.o).alloc (Nat.le_trans (Nat.le_refl _) HB2.o.size) (.cells #[.slice q2 n2 k2] 94)).size);have k3:=H3.o.cell c2 HNE.o;have k4:=(H3.o.frozen (p:=⟨g,2,none⟩) hg HNE.o).trans (f0 2);clear h2 h3 h4 h5))
    all_goals (
     go_wp2_with fail
     go_meet
     have B2:Below w.heap.size w (w2.alloc (.cells #[.slice q2 n2 k2] 94)):=((Ql w).trans HB2.o).alloc (Nat.le_trans (Nat.le_refl _) HB2.o.size) _
     have hown:Y8 w' 0 (.slice (some ⟨gb,0,none⟩) (ln+1) cpb) (L.entries ++ [b]):=
      Y8.push (ls':=[b]) (Qn HROW.o B2) (fun j u l hu hl=>(HRB.o j u l hu hl).below B2) HLN.o H3b.o H2.o (by rw[HLN.o];rfl) (fun j u l hu hl=>by
       cases j with
       | zero=>cases hu;cases hl;exact (HO2.o.mono (Nat.zero_le _)).below (Qa _ _)
       | succ j=>simp at hu)
     have hmv:J7 w (.slice a1 L.entries.length cp1) (.slice (some ⟨gb,0,none⟩) (ln+1) cpb):=by rw[←HLN.o];exact H4.o
     have hfr:Fr (fun k=>(Value.slice a1 L.entries.length cp1).ownBlock=some k) w w':=by rw[←HLN.o];exact H3.o
     have hp:=HH.o.setEnts hfr hown hmv
     have hgw:w'.heap[g]?=some (.cells (Qjw gd (.slice a1 L.entries.length cp1) vl vp L) 138 (0,0)):=H3.o.heap HH.o.cells HNE.o
     refine⟨_,hp.1,hp.2.1,hp.2.2,?_,_,Zb H2.o (Fr.set1 w' g 2 _) (fun k hk e=>?_),?_⟩
     ·exact HB.o.same fun k C fz hk=>hp.2.1.block k (Qc hk) fun hS=>HH.o.noBytes k C fz hk hS
     ·obtain⟨C,hC⟩:=Qh H2.o hk
      exact Zp hC hgw (by decide) e
     ·have o1:Qz (w2.alloc (.cells #[.slice q2 n2 k2] 94)) w.heap.size (.slice q2 n2 k2) b:=(HO2.o.mono (Ql w).size).below (Qa _ _)
      have o2:Qz w' w.heap.size (.slice q2 n2 k2) b:=o1.same fun k C fz hk=>H3b.o.block k (Qc hk) fun e=>by
       obtain⟨C',hC'⟩:=Qh (Qn HROW.o B2) e
       exact Zp hk hC' (by decide) rfl
      exact o2.same fun k C fz hk=>(Fr.set1 w' g 2 _).block k (Qc hk) fun e=>Zp hk hgw (by decide) e)
   case rest=>
    obtain⟨ve',HL,HFr,HSb,HBc,u,HRU,HOU⟩:=hcut;obtain⟨vse,hrowe,_⟩:=HL.o.ents;obtain⟨ae,ce,rfl⟩:=Zs hrowe;clear hrowe;have hgl:=HL.o.heads;have hn0:L.entries.length≤1048576:=by have:=HLN.o;omega
    have HBD:=zh (Qsr hn0);clear hn0
    go_wp2_with (first
     | (go_at_call 72;refine (Qlh _ b _ HBc.o.at (by omega)).mono ?_;rintro e w3 ⟨rfl,hb3⟩;have HL3:=zh (HL.o.below hb3);have HB3:=zh hb3;clear hb3)
     | (go_at_call 71;refine (Qvw w3 g gd _ _ _ _ _ HL3.o (Qaf b) (by show L.levels.length<_;rw[HLV.o];exact HBD.o.1) (by show ∀ r∈L.levels,_;rw[HLV.o];exact HBD.o.2)).mono ?_;rintro e w4 ⟨rfl,vl4,vs4,hl4,hf4,hs4⟩;have HL4:=zh hl4;have HF4:=zh hf4;have HS4:=zh hs4;have hd4:=hl4.heads;clear hl4 hf4 hs4))
    obtain⟨⟨_,_,e2,_,_,_⟩,_⟩:=hd4
    go_wp2_with fail
    go_ret2;unfold Qem;rw[if_neg hlong,if_neg (by rw[HFL.o];decide)];refine⟨?_,.slice ae (L.entries ++ [b]).length ce,vl4,vs4,vs0,u,?_,?_,?_,?_,?_,?_⟩
    ·simp
     have:=HLN.o
     unfold wrap64;omega
    ·have:=HL4.o
     rw[show Qdp ({ L with entries:=L.entries ++ [b] }:Lg).levels (Qaf b)=levels (L.entries ++ [b]) by show Qdp L.levels _=_;rw[HLV.o,Qr2]] at this;exact this
    ·exact (Fr.sub (HFr.o.trans (Fr.ofBelow HB3.o)) (HF4.o.weak fun _ _ h=>h.log) HSb.o)
    ·exact HSb.o.trans (Q48 HS4.o) (by have:=HFr.o.size;have:=HB3.o.size;omega)
    ·rw[←HLN.o];exact HROW.o
    ·rw[←HLN.o]
     exact Zb (Qn HRU.o HB3.o) HF4.o fun k hk e=>by obtain⟨C,hC⟩:=Qh (Qn HRU.o HB3.o) hk;exact Q1k HL3.o hC e
    ·exact (HOU.o.below HB3.o).same fun k C fz hk=>HF4.o.block k (Qc hk) fun e=>HL3.o.noBytes k C fz hk e.log
end
section
theorem Qtj (s p:List UInt8):(Jq s p).1.length≤s.length:=by
 unfold Jq
 split <;> simp
theorem Qvv:∀ (l:List UInt8) (a n:Nat) (r:List UInt8),Qcx a l=some (n,r)→r.length≤l.length
 | [],a,n,r,h=>by simp only[Qcx,Option.some.injEq,Prod.mk.injEq] at h;rw[←h.2];exact Nat.le_refl _
 | c :: l,a,n,r,h=>by
  simp only[Qcx] at h
  split at h
  ·split at h
   ·cases h
   ·have:=Qvv l _ n r h
    simp only[List.length_cons]
    omega
  ·simp only[Option.some.injEq,Prod.mk.injEq] at h;rw[←h.2];exact Nat.le_refl _
theorem Qut (l:List UInt8):(Y0 l).2.1.length≤l.length:=by
 unfold Y0;cases h:Qcx 0 l with
 | none=>exact Nat.le_refl _
 | some x=>exact Qvv l 0 x.1 x.2 h
end
section
theorem Qrs {c:UInt8} {m:Nat} (h:Qcl c=some m):m<16:=by
 unfold Qcl at h
 split at h
 ·cases h;omega
 ·split at h
  ·cases h;omega
  ·cases h
variable {r:List UInt8}
theorem Qsv (h:r.length=8):(Yw r).toList=r:=by
 match r,h with
 | [a,b,c,d,e,f,g,i],_=>rfl
theorem Q3f (h:r.length=8):sOf r=HS (Yw r):=by
 conv=>lhs;rw[←Qsv h]
 rfl
def Qg3 (q:Qn1) (w:World) (e:Ending) (w':World):Prop:=
 e=.returned (.tuple #[.int .i64 q.1,.string (if q.2.2=true then HS q.2.1 else ⟨#[]⟩),.bool q.2.2])∧Below w.heap.size w w'
theorem Qec {w w':World} (h:Below w.heap.size w w'):Qg3 Jw w (.returned (.tuple #[.int .i64 0,.string ⟨#[]⟩,.bool false])) w':=⟨rfl,h⟩
theorem Qme (d:UInt8→Option Nat) (a b:UInt8) (l:List UInt8):J6 d (a :: b :: l)=(d a).bind fun x=>(d b).bind fun y=>(J6 d l).map (UInt8.ofNat (16*x+y) :: ·):=by
 conv=>lhs;unfold J6
 cases d a <;> cases d b <;> rfl
theorem Qy2 (s key:ByteArray) (w:World) (hs:s.size≤1048576) (hk:key.size≤1048600) :
  Calls prog 111 #[.string s,.string key] w (Qg3 (Qcg s.data.toList key.data.toList) w):=by
 obtain⟨l,hl⟩:∃ l,l=s.data.toList:=⟨_,rfl⟩
 have hself:s=sOf l:=by rw[hl,Qat]
 have hlen:l.length≤1048576:=by rw[hl];simpa using hs
 clear hl hs;subst hself;obtain⟨q,hq⟩:∃ q,q=Qcg l key.data.toList:=⟨_,rfl⟩
 show Calls prog 111 #[.string (sOf l),.string key] w (Qg3 (Qcg l key.data.toList) w);rw[←hq];have HQ:=zh hq;clear hq
 go_enter func111,ntmps111
 go_wp2_with fail
 refine (Qyj (sOf l) (sOf Qaz) _).mono ?_;rintro e w0 ⟨rfl,rfl⟩;rw[show Jq (sOf l).data.toList (sOf Qaz).data.toList=Jq l Qaz from rfl];have hb1:=Qtj l Qaz;have hq1:=HQ.o;unfold Qcg at hq1;obtain⟨x1,hx1⟩:∃ x,x=Jq l Qaz:=⟨_,rfl⟩
 rw[←hx1] at hb1 hq1 ⊢;clear hx1 HQ;obtain⟨s1,b1⟩:=x1;simp only at hb1 hq1 ⊢;cases b1 with
 | false=>
  rw[if_neg (by simp)] at hq1;have HQ1:=zh hq1;clear hq1;go_wp2
  go_ret3
  rw[HQ1.o];exact Qec (Below.refl _ _)
 | true=>
  rw[if_pos rfl] at hq1;have HQ1:=zh hq1;clear hq1
  go_wp2_with fail
  refine (Qy0 (sOf s1) _ (by rw[Qbo];omega)).mono ?_;rintro e w2 ⟨rfl,hbw2⟩;rw[show Y0 (sOf s1).data.toList=Y0 s1 from rfl];have hb3:=Qut s1;have hbd:=Qm3 s1;have hq2:=HQ1.o;obtain⟨x3,hx3⟩:∃ x,x=Y0 s1:=⟨_,rfl⟩
  rw[←hx3] at hb3 hbd hq2 ⊢;have HB2:=zh hbw2;clear hx3 HQ1 hbw2;obtain⟨n,s3,b3⟩:=x3;simp only at hb3 hbd hq2 ⊢;by_cases hgood:b3=true∧17≤s3.length
  ·rw[if_pos hgood] at hq2
   obtain⟨rfl,h17⟩:=hgood;have d1:decide ((s3.length:Int)<17)=false:=decide_eq_false (by omega);obtain⟨S,hS⟩:∃ S,S=sOf s3:=⟨_,rfl⟩
   have hsz:S.size=s3.length:=by rw[hS,Qbo]
   obtain⟨D,hD⟩:∃ D,D=(s3.drop 1).take 16:=⟨_,rfl⟩
   rw[←hD] at hq2;have hDl:D.length=16:=by rw[hD];simp;omega
   have hDg:∀ j,j<16→∃ (h:j+1<S.size) (h2:j<D.length),S[j+1]=D[j]:=by intro j hj;refine⟨by omega,by omega,?_⟩;subst hS;subst hD;simp[ByteArray.getElem_eq_getElem_data,Nat.add_comm 1 j]
   have HQ2:=zh hq2;have HDG:=zh hDg;have HDL:=zh hDl;have HU:=zh (show J6 Qcl D=(J6 Qcl (D.drop 0)).map ([] ++ ·) by simp);rw[←hS];clear hq2 hDg hDl hD hS;rw[←hsz] at d1 h17;clear hsz
   go_wp2_with fail
   go_loopw [10,11] (fun vr vi wr=>∃ (k j:Nat) (r:List UInt8),Hid (k=2*j+1)∧k≤17∧vi=.int .i64 k∧vr=.string (sOf r)∧r.length=j∧Hid (J6 Qcl D=(J6 Qcl (D.drop (2*j))).map (r ++ ·))∧Below w.heap.size w wr) (fun _ vi _=>18-(intOf vi).toNat)
   case atStart=>exact⟨1,0,[],zh rfl,by omega,rfl,rfl,rfl,HU,HB2.o⟩
   case round=>
    obtain⟨k,j,r,hkj,hk17,rfl,rfl,hr,hinv,hbel⟩:=hrel;have HB:=zh hbel;have hrl:r.length≤8:=by have:=hkj.o;omega
    have HR:=zh hr;clear hbel HB2 HU hr;by_cases hlt:k<17
    ·obtain⟨ha1,ha2,ha⟩:=HDG.o (2*j) (by have:=hkj.o;omega)
     obtain⟨hb1',hb2,hb⟩:=HDG.o (2*j+1) (by have:=hkj.o;omega);have hcut:D.drop (2*j)=D[2*j] :: D[2*j+1] :: D.drop (2*(j+1)):=by rw[List.drop_eq_getElem_cons ha2,List.drop_eq_getElem_cons hb2];rfl
     have hst:=hinv.o;rw[hcut,Qme] at hst;obtain⟨ca,hca⟩:∃ c,c=D[2*j]:=⟨_,rfl⟩
     obtain⟨cb,hcb⟩:∃ c,c=D[2*j+1]:=⟨_,rfl⟩
     rw[←hca] at ha hst;rw[←hcb] at hb hst;have k1:k<S.size:=by omega
     have k2:k+1<S.size:=by have:=hkj.o;omega
     have hax:S[k]=ca:=by rw[←ha];congr 1 <;> exact hkj.o
     have hbx:S[k+1]=cb:=by rw[←hb];congr 1 <;> (have:=hkj.o;omega)
     have HST:=zh hst;clear hcut hst ha hb hca hcb ha1 hb1' ha2 hb2 hinv;have hk15:k≤15:=by have:=hkj.o;omega
     go_wp2_with fail
     refine (Qrt ca _).mono ?_;rintro e w3 ⟨rfl,rfl⟩
     go_wp2_with fail
     refine (Qrt cb _).mono ?_;rintro e w3 ⟨rfl,rfl⟩;have hst:=HST.o;cases hua:Qcl ca with
     | none=>
      have hia:Qf3 ca = -1:=by unfold Qf3;rw[hua]
      rw[hua] at hst;have hq3:=HQ2.o;rw[hst] at hq3;have HQ3:=zh hq3;rw[hia];clear hst hq3 hua hia hax hbx;go_wp2
      go_ret3
      rw[HQ3.o];exact Qec HB.o
     | some x=>
      have hx16:=Qrs hua;have hia:Qf3 ca=(x:Int):=by unfold Qf3;rw[hua]
      rw[hua] at hst;rw[hia];have dx:decide ((x:Int)<0)=false:=decide_eq_false (by omega);cases hub:Qcl cb with
      | none=>
       have hib:Qf3 cb = -1:=by unfold Qf3;rw[hub]
       rw[hub] at hst;have hq3:=HQ2.o;rw[hst] at hq3;have HQ3:=zh hq3;rw[hib];clear hst hq3 hua hia hub hib hax hbx;go_wp2
       go_ret3
       rw[HQ3.o];exact Qec HB.o
      | some y=>
       have hy16:=Qrs hub;have hib:Qf3 cb=(y:Int):=by unfold Qf3;rw[hub]
       rw[hub] at hst;rw[hib];have dy:decide ((y:Int)<0)=false:=decide_eq_false (by omega);obtain⟨z,hz⟩:∃ z,z=UInt8.ofNat (16*x+y):=⟨_,rfl⟩
       have hby:Q6 (wr.alloc (.cells #[.int .u8 (16*(x:Int)+(y:Int))] 5)) (.slice (some ⟨wr.heap.size,0,none⟩) 1 1) [z]:=by rw[show (16*(x:Int)+(y:Int))=((16*x+y:Nat):Int) by omega,Qh0 _ (by omega),←hz];exact bytes1 (fz:=(0,0)) (Zu _ _ _ rfl)
       have hcv:=Qep hby;have hnew:J6 Qcl D=(J6 Qcl (D.drop (2*(j+1)))).map ((r ++ [z]) ++ ·):=by rw[hst,hz];cases J6 Qcl (D.drop (2*(j+1))) <;> simp
       have HNEW:=zh hnew;clear hst hua hia hub hib hax hbx hby hz hnew;go_wp2;exact⟨⟨k+2,j+1,r ++ [z],zh (by have:=hkj.o;omega),by omega,by go_num,by rw[Qef r [z]],by simp;exact HR.o,HNEW,HB.o.alloc HB.o.size _⟩,by simp[intOf];omega⟩
    ·have hj8:j=8:=by have:=hkj.o;omega
     have hall:=hinv.o;rw[List.drop_of_length_le (by rw[HDL.o];omega)] at hall;have hq3:=HQ2.o;rw[hall] at hq3;have hr8:r.length=8:=by rw[HR.o];exact hj8
     obtain⟨hh,hhh⟩:∃ h,h=Yw r:=⟨_,rfl⟩
     have hq4:q=Qa9 l key.data.toList n hh:=by rw[hq3,hhh];simp[J6]
     have hrs:sOf r=HS hh:=by rw[hhh];exact Q3f hr8
     rw[hrs];have HQ4:=zh hq4;clear hall hq3 hinv hj8 hkj hhh hrs hq4
     go_wp2_with fail
     refine (Qsm n hh key _ hbd hk).mono ?_;rintro e w4 ⟨rfl,hb4⟩;have HB4:=zh (HB.o.trans (hb4.mono HB.o.size));have hq5:=HQ4.o;unfold Qa9 at hq5;rw[Int.toNat_natCast] at hq5;obtain⟨t,ht⟩:∃ t,t=J5 n hh key.data.toList:=⟨_,rfl⟩
     rw[←ht] at hq5 ⊢;clear ht hb4 HQ4;by_cases he:t=l
     ·rw[if_pos he] at hq5
      have HQ5:=zh hq5;subst he;clear hq5;go_wp2
      go_ret3
      rw[HQ5.o];exact⟨rfl,HB4.o⟩
     ·rw[if_neg he] at hq5
      have HQ5:=zh hq5;have c6:(t == l)=false:=beq_eq_false_iff_ne.2 he;clear hq5;go_wp2
      go_ret3
      rw[HQ5.o];exact Qec HB4.o
  ·rw[if_neg hgood] at hq2
   have HQ2:=zh hq2;clear hq2;by_cases hb:b3=true
   ·have d1:decide ((s3.length:Int)<17)=true:=decide_eq_true (by
     have:¬ 17≤s3.length:=fun h=>hgood ⟨hb,h⟩
     omega)
    subst hb;clear hgood;go_wp2
    go_ret3
    rw[HQ2.o];exact Qec HB2.o
   ·have hb':b3=false:=by simpa using hb
    subst hb';clear hgood hb;go_wp2
    go_ret3
    rw[HQ2.o];exact Qec HB2.o
end
section
def p16 (acc:Nat):List UInt8→Option Nat
 | []=>some acc
 | c :: r=>match Y9 c with
  | none=>none
  | some d=>p16 (acc*16+d) r
def lowV (c:UInt8):Int:=bits BinOp.or IntKind.u8 (c.toNat:Int) 32
theorem Qzm (c:UInt8):(48≤c.toNat∧c.toNat≤57∧Y9 c=some (c.toNat-48))∨
  (¬ (48≤c.toNat∧c.toNat≤57)∧c.toNat≠95∧97≤lowV c∧lowV c≤102∧Y9 c=some (lowV c-87).toNat)∨
  (¬ (48≤c.toNat∧c.toNat≤57)∧¬ (97≤lowV c∧lowV c≤102)∧0≤lowV c∧lowV c≤255∧Y9 c=none):=by
 have h:∀ n:Fin 256,(48≤(UInt8.ofNat n.1).toNat∧(UInt8.ofNat n.1).toNat≤57∧Y9 (UInt8.ofNat n.1)=some ((UInt8.ofNat n.1).toNat-48))∨
  (¬ (48≤(UInt8.ofNat n.1).toNat∧(UInt8.ofNat n.1).toNat≤57)∧(UInt8.ofNat n.1).toNat≠95∧97≤lowV (UInt8.ofNat n.1)∧lowV (UInt8.ofNat n.1)≤102∧Y9 (UInt8.ofNat n.1)=some (lowV (UInt8.ofNat n.1)-87).toNat)∨
  (¬ (48≤(UInt8.ofNat n.1).toNat∧(UInt8.ofNat n.1).toNat≤57)∧¬ (97≤lowV (UInt8.ofNat n.1)∧lowV (UInt8.ofNat n.1)≤102)∧0≤lowV (UInt8.ofNat n.1)∧lowV (UInt8.ofNat n.1)≤255∧Y9 (UInt8.ofNat n.1)=none):=by decide +kernel
 have:=h ⟨c.toNat,c.toNat_lt⟩
 simpa using this
def Q79 (T:TypeId):Option Nat→Value
 | some n=>.tuple #[.int .u64 n,.nilIface]
 | none=>.tuple #[.int .u64 0,.iface T (.int .i64 2)]
set_option maxHeartbeats 8000000 in
theorem Q5q (t:ByteArray) (ht:t.size=2) (w:World) :
  Calls prog 170 #[.string t,.int .i64 16,.int .i64 8] w fun e w'=>e=.returned (Q79 311 (p16 0 t.data.toList))∧w'=Lib.bytesWorld w 5 t:=by
 have hemp:t.toList.isEmpty=false:=by rw[←decide_eq_emptyBytes];exact decide_eq_false (fun h=>by rw[h] at ht;exact absurd ht (by decide))
 have hcv:=Lib.run_convert_string_bytes (P:=prog) w 9 94 5 t (u:=.string) underlying9 underlying94 underlying5;have hB:∀ j,j<t.size→(Lib.bytesWorld w 5 t).cell? ⟨w.heap.size,j,none⟩=some (.int .u8 (t.data.toList.getD j 0).toNat):=fun j hj=>Lib.bytesWorld_cell w 5 t j hj
 obtain⟨W1,hW1⟩:∃ W1,W1=Lib.bytesWorld w 5 t:=⟨_,rfl⟩
 rw[←hW1] at hcv hB ⊢;clear hW1;obtain⟨bs,hL⟩:∃ bs,bs=t.data.toList:=⟨_,rfl⟩
 have hLn:bs.length=2:=by rw[hL];simpa using ht
 rw[←hL] at hB ⊢;clear hL;have hmv:IntKind.u64.wrap (IntKind.u64.wrap 256-1)=255:=by rw[IntKind.wrap_u64,IntKind.wrap_u64];decide
 obtain⟨res,hres⟩:∃ r,r=p16 0 bs:=⟨_,rfl⟩
 rw[←hres];have HRES:=zh hres;clear hres
 go_enter func170,ntmps170
 go_wp2
 go_loop [12,13,101] (fun vu vn vi=>∃ (k acc:Nat) (a:Int),vu=.bool false∧vn=.int .u64 a∧vi=.int .i64 k∧k≤2∧Hid (a=(acc:Int)∧acc<16 ^ k∧res=p16 acc (bs.drop k)))
  (fun _ _ vi=>2-(intOf vi).toNat)
 case atStart=>exact⟨0,0,0,rfl,rfl,rfl,by omega,zh ⟨rfl,by decide,HRES.o⟩⟩
 case round=>
  obtain⟨k,acc,a,rfl,rfl,rfl,hk,hh⟩:=hrel;obtain⟨ha,hacc,hdec⟩:=hh.o;clear hh;have hpow:16 ^ k≤256:=by
   have:k=0∨k=1∨k=2:=by omega
   rcases this with rfl|rfl|rfl <;> decide
  have a0:0≤a:=by omega
  have a1:a≤255:=by omega
  by_cases hkn:k<2
  ·have hc:=hB k (by omega)
   have hdrop:bs.drop k=bs[k]'(by omega) :: bs.drop (k+1):=List.drop_eq_getElem_cons (by omega);have hget:bs.getD k 0=bs[k]'(by omega):=by simp[List.getD,List.getElem?_eq_getElem (show k<bs.length by omega)]
   have hacc1:acc≤15:=by
    have:k=0∨k=1:=by omega
    rcases this with rfl|rfl <;> omega
   have hpow1:16 ^ (k+1)=16 ^ k*16:=Nat.pow_succ 16 k;rw[hdrop] at hdec;rw[hget] at hc;generalize bs[k]'(by omega)=c at hc hdec;have hc256:c.toNat<256:=c.toNat_lt;unfold p16 at hdec;have ia:a≤15:=by omega
   clear hB hdrop hget hpow;have hfacts:=Qzm c;obtain⟨lo,hlo⟩:∃ x,x=lowV c:=⟨_,rfl⟩
   rw[←hlo] at hfacts;have hlo':bits BinOp.or IntKind.u8 (c.toNat:Int) 32=lo:=hlo.symm;clear hlo;rcases hfacts with ⟨hd0,hd1,hg⟩|⟨hnd,h95,hl0,hl1,hg⟩|⟨hnd,hnl,hl0,hl1,hg⟩
   ·rw[hg] at hdec
    simp only at hdec;have HN:Hid (a*16+((c.toNat:Int)-48)=((acc*16+(c.toNat-48):Nat):Int)∧acc*16+(c.toNat-48)<16 ^ (k+1)∧res=p16 (acc*16+(c.toNat-48)) (bs.drop (k+1))):=zh ⟨by omega,by omega,hdec⟩;have j0:(48:Int)≤c.toNat:=by omega
    have j1:(c.toNat:Int)≤57:=by omega
    clear hdec hg ha hacc hpow1 hacc1 hlo';go_wp2;refine⟨⟨k+1,acc*16+(c.toNat-48),a*16+((c.toNat:Int)-48),rfl,(by first|rfl|(congr 1;omega)),(by first|rfl|(congr 1;omega)),by omega,HN⟩,by simp[intOf];omega⟩
   ·rw[hg] at hdec
    simp only at hdec;have HN:Hid (a*16+(lo-97+10)=((acc*16+(lo-87).toNat:Nat):Int)∧acc*16+(lo-87).toNat<16 ^ (k+1)∧res=p16 (acc*16+(lo-87).toNat) (bs.drop (k+1))):=zh ⟨by omega,by omega,hdec⟩;have e95:((c.toNat:Int) == 95)=false:=by rw[beq_eq_false_iff_ne];omega
    clear hdec hg ha hacc hpow1 hacc1
    go_wp2_with (go_at_call 198;refine (internal_strconv_lower _ _).mono ?_;rintro e w' ⟨rfl,rfl⟩)
    all_goals exact⟨⟨k+1,acc*16+(lo-87).toNat,a*16+(lo-97+10),rfl,rfl,rfl,by omega,HN⟩,by simp[intOf];omega⟩
   ·rw[hg] at hdec
    simp only at hdec;clear hg ha hacc hpow1 hacc1
    go_wp2_with (go_at_call 198;refine (internal_strconv_lower _ _).mono ?_;rintro e w' ⟨rfl,rfl⟩)
    all_goals go_ret2
    all_goals first|exact⟨rfl,rfl⟩|exact⟨by rw[hdec];rfl,rfl⟩
  ·have hkk:k=2:=by omega
   subst hkk;rw[List.drop_eq_nil_of_le (by omega)] at hdec;unfold p16 at hdec;subst ha;clear hacc a0 a1 hpow;go_wp2;go_ret2
   first|exact⟨rfl,rfl⟩|exact⟨by rw[hdec];rfl,rfl⟩|exact⟨by subst hdec;rfl,rfl⟩
theorem Q6g (a b:UInt8):p16 0 [a,b]=(Y9 a).bind fun x=>(Y9 b).map fun y=>16*x+y:=by
 unfold p16;cases Y9 a with
 | none=>rfl
 | some x=>
  simp only[Option.bind_some];unfold p16;cases Y9 b with
  | none=>rfl
  | some y=>
   simp only[Option.map_some];unfold p16
   congr 1
   omega
theorem Q3s (a b:UInt8) (w:World) (hE:Jr w) :
  Calls prog 122 #[.string (sOf [a,b]),.int .i64 16,.int .i64 8] w fun e w'=>Below w.heap.size w w'∧match (Y9 a).bind fun x=>(Y9 b).map fun y=>16*x+y with
   | some n=>e=.returned (.tuple #[.int .u64 n,.nilIface])
   | none=>∃ T p,e=.returned (.tuple #[.int .u64 0,.iface T p]):=by
 obtain⟨_,_,⟨ev,he1,he2⟩,_⟩:=hE
 have hI:=Q5q (sOf [a,b]) (by rw[Qbo];rfl) w
 rw[show (sOf [a,b]).data.toList = [a,b] from rfl,Q6g] at hI
 obtain⟨r,hr⟩:∃ r,r=(Y9 a).bind fun x=>(Y9 b).map fun y=>16*x+y:=⟨_,rfl⟩
 rw[←hr] at hI ⊢
 clear hr
 cases r with
 | some n=>
  have hI':Calls prog 170 #[.string (sOf [a,b]),.int .i64 16,.int .i64 8] w fun e w'=>e=.returned (.tuple #[.int .u64 n,.nilIface])∧w'=Lib.bytesWorld w 5 (sOf [a,b]):=hI
  clear hI
  go_enter func122,ntmps122
  go_wp2_with (go_at_call 170;refine hI'.mono ?_;rintro e w1 ⟨rfl,rfl⟩)
  go_ret2
  exact⟨Lib.bytesWorld_below _ _ _,rfl⟩
 | none=>
  have hI':Calls prog 170 #[.string (sOf [a,b]),.int .i64 16,.int .i64 8] w fun e w'=>e=.returned (.tuple #[.int .u64 0,.iface 311 (.int .i64 2)])∧w'=Lib.bytesWorld w 5 (sOf [a,b]):=hI
  have hb:=Lib.bytesWorld_below w 5 (sOf [a,b])
  have he3:=(hb.cell (Qk he1)).trans he1
  have HB:=zh hb
  have HE3:=zh he3
  clear hI hb he3 he1
  go_enter func122,ntmps122
  go_wp2_with (go_at_call 170;refine hI'.mono ?_;rintro e w1 ⟨rfl,rfl⟩)
  refine (strconv_toError_syntax ⟨#[80,97,114,115,101,85,105,110,116]⟩ (sOf [a,b]) 16 8 ev _ (by rw[Qbo];simp) HE3.o he2).mono ?_
  rintro e w2 ⟨N,rfl,_,_,hb2⟩
  go_wp2
  go_ret2
  exact⟨HB.o.trans (hb2.mono HB.o.size),_,_,rfl⟩
end
end Go.Proofs.YtefccfakhgdfbabGreatDoor
