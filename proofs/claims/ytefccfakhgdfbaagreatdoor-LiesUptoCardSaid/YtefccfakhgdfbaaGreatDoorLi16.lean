/- (*Log).grow: a leaf more; hashes of higher levels that are whole then. Conditions: fewer than 2^40 hashes on each level, fewer than 2^20 levels. -/
import Derived.Test.YtefccfakhgdfbaaGreatDoorLi15
set_option linter.unusedVariables false
set_option linter.unusedSimpArgs false
open Go.RowKit Go.Proofs.Tryz
set_option maxRecDepth 100000
set_option maxHeartbeats 4000000
namespace Go.Proofs.YtefccfakhgdfbaaGreatDoor
section
def Jz (g gd:Nat) (v ve vl vp:Value) (vs:List Value) (k:Nat):Prop:=dkS gd v k∨LogS g ve vl vp vs k
structure Wk (w:World) (g gd:Nat) (v ve vl vp:Value) (vs:List Value) (L:Lg) (v' vp':Value) (d':Dk) (ps:List Nat) (w':World):Prop where
 disk:Q1 w' gd v' d'
 log:Zq w' g gd ve vl vp' vs { L with put:=ps }
 fr:Fr (Jz g gd v ve vl vp vs) w w'
 sub:Sub w (Jz g gd v ve vl vp vs) (Jz g gd v' ve vl vp' vs)
section
variable {w w1 w2:World} {g gd:Nat} {v v1 v2 ve vl vp vp1 vp2:Value} {vs:List Value} {L:Lg} {d1 d2:Dk} {ps ps2:List Nat}
theorem Wk.put (h:Wk w g gd v ve vl vp vs L v1 vp1 d1 ps w1) (hd:Q1 w2 gd v2 d2) (hf:Fr (dkS gd v1) w1 w2) (hm:J2 w1 v1 v2) (hsz:w.heap.size≤w1.heap.size):Wk w g gd v ve vl vp vs L v2 vp1 d2 ps w2:=by
 refine⟨hd,h.log.fr hf (fun k hk=>h.log.apartDisk h.disk k hk) h.disk.noBytes,Fr.sub h.fr (hf.weak fun k _ hk=>(.inl hk:Jz g gd v1 ve vl vp1 vs k)) h.sub,h.sub.trans (fun k hk=>?_) hsz⟩;rcases hk with (hk|hk)|hk
 ·exact .inl (.inl (.inl hk))
 ·exact (hm k hk).imp (fun h=>.inl (.inr h)) id
 ·exact .inl (.inr hk)
theorem Wk.below (h:Wk w g gd v ve vl vp vs L v1 vp1 d1 ps w1) (hb:Below w1.heap.size w1 w2):Wk w g gd v ve vl vp vs L v1 vp1 d1 ps w2:=
 ⟨h.disk.below hb,h.log.below hb,h.fr.trans (Fr.ofBelow hb),h.sub⟩
theorem Wk.marks (h:Wk w g gd v ve vl vp vs L v1 vp1 d1 ps w1) (hl:Zq w2 g gd ve vl vp2 vs { L with put:=ps2 }) (hf:Fr (LogS g ve vl vp1 vs) w1 w2) (hs:Sub w1 (LogS g ve vl vp1 vs) (LogS g ve vl vp2 vs)) (hsz:w.heap.size≤w1.heap.size):Wk w g gd v ve vl vp vs L v1 vp2 d1 ps2 w2:=by
 refine⟨h.disk.fr hf fun k hk hS=>h.log.apartDisk h.disk k hS hk,hl,Fr.sub h.fr (hf.weak fun k _ hk=>(.inr hk:Jz g gd v1 ve vl vp1 vs k)) h.sub,h.sub.trans (fun k hk=>?_) hsz⟩;rcases hk with hk|hk
 ·exact .inl (.inl hk)
 ·exact (hs k hk).imp (fun h=>.inr h) id
end
def Qm7 (w:World) (g gd:Nat) (v ve vl vp:Value) (vs:List Value) (d:Dk) (L:Lg) (t:Int) (n:Nat) (row:List (List UInt8)) (e:Ending) (w':World):Prop:=
 ∃ p1 q,p1=L.put++List.replicate (n+1-L.put.length) 0∧q=Qae t row (p1.getD n 0 / 4) d∧∃ v' vp',Wk w g gd v ve vl vp vs L v' vp' q.1 (p1.set n q.2.1) w'∧
  ((q.2.2=none∧e=.returned .nilIface)∨∃ p r u m,q.2.2=some p∧e=.returned (.iface 219 (.pointer (some ⟨r,0,none⟩)))∧w.heap.size≤r∧w.heap.size≤u∧w'.heap[u]?=some (.cells #[.int .i64 m] 398 (0,0))∧
   w'.heap[r]?=some (.cells #[.string p,.iface 218 (.pointer (some ⟨u,0,none⟩))] 221 (0,0)))
theorem Zaj (j len k:Nat) (hk:k=min 4 (len-4*j)) (h:4*j<len):4*min (j+1) (len / 4)=if k=4 then 4*j+4 else 4*min j (len / 4):=by split <;> omega
theorem Q7q (k:Nat):((k:Int) == 4)=decide (k=4):=by rw[Bool.eq_iff_iff];simp;omega
theorem Q93 (j len k:Nat) (hl:len≤1048576) (hk:k=min 4 (len-4*j)) (h:4*j<len):wrap64 (4*(j:Int)+(k:Int))=4*(j:Int)+(k:Int):=by unfold wrap64;omega
variable {a b j j0 len:Nat}
theorem Q9k (h:a≤b+(j-j0)) (hb:b<1000000000000) (hj:4*j<len) (hl:len≤1048576):a<1099511627776:=by omega
theorem Q9b (j len k:Nat) (hl:len≤1048576) (hk:k=min 4 (len-4*j)) (h:4*j<len):IntKind.i64.wrap (4*(j:Int)+(k:Int))=4*(j:Int)+(k:Int):=by rw[IntKind.wrap_i64];omega
theorem Q2u (d:Dk) (p b:ByteArray):(putD d p b).calls=d.calls+1∧(putD d p b).files.length≤d.files.length+1:=by
 unfold putD
 split
 ·exact⟨Qks d,by show (Zj d).files.length≤_;rw[Yy];omega⟩
 ·refine⟨(Qmp d p b).2.2.2,?_⟩
  rw[Qfj]
  split
  ·exact (Qk9 _ _ _).2
  ·omega
theorem Qpk {a':Nat} (h:a≤b+(j-j0)) (h':a'≤a+1) (hj:j0≤j):a'≤b+(j+1-j0):=by omega
theorem Q1u {gk:Nat} (hj:4*j<len):len+4-4*(j+1)<len+4-4*j:=by omega
theorem Q38 (ps:List Nat) (x:Nat):(ps ++ [x]).map (fun (n:Nat)=>Value.int .i64 (n:Int))=ps.map (fun (n:Nat)=>Value.int .i64 (n:Int)) ++ [.int .i64 (x:Int)]:=by simp
theorem Qsz (f:Nat→Addr) (w:World) (g gd:Nat) (v ve vl vp:Value) (vs:List Value) (d:Dk) (L:Lg) (h:Zq w g gd ve vl vp vs L) (hD:Q1 w gd v d) (hE:EnvS f (Jz g gd v ve vl vp vs) w) (t:Int) (n:Nat) (ht:t+1=n) (hn:n≤1048576) (hpl:L.put.length≤1048576)
  (row:List (List UInt8)) (hrow:row.length≤1048576) (hmark:∀ a,L.put[n]?=some a→a%4=0∧a≤row.length) (hshort:∀ x∈row,x.length≤64) (hc:d.calls<1000000000000) (hfl:d.files.length<1000000000000)
  (F:FuncId) (gc:Nat) (hen:∀ args w,(callFunc F args).run prog w=.ok (.enter F args) w)
  (hF:∀ (w1:World) (Q:Value) (ps:List Nat),Zq w1 g gd ve vl Q vs { L with put:=ps }→Fr (Jz g gd v ve vl vp vs) w w1→∀ j,4*j<row.length→
   Calls prog F #[.int .i64 (4*(j:Int)),.int .i64 (4*(j:Int)+((min 4 (row.length-4*j):Nat):Int)),.pointer (some ⟨gc,0,none⟩)] w1 fun e w2=>∃ vb,e=.returned vb∧Q8 w2 vb ((row.drop (4*j)).take 4).flatten∧Below w1.heap.size w1 w2) :
  Calls prog 167 #[.pointer (some ⟨g,0,none⟩),.int .i64 t,.int .i64 row.length,.func (.func F) #[] #[.pointer (some ⟨gc,0,none⟩)]] w (Qm7 w g gd v ve vl vp vs d L t n row):=by
 have HE:=zh hE;have HF:=zh hF;have HM:=zh hmark;have cm:=zh hshort;have hg:=Qc h.cells;have b9:=zh (⟨hD,h,Fr.refl _ _,Sub.refl _ _⟩:Wk w g gd v ve vl vp vs L v vp d L.put w);have ci:wrap64 (t+1)=(n:Int):=by rw[ht];unfold wrap64;omega
 have HT:=zh ht;clear h hD hE hF hmark hshort ht;obtain⟨i0,a5,a4,be,af⟩:=Qsc;have HI:=zh (⟨a5,a4,be,af⟩:_∧_∧_∧_);clear a5 a4 be af
 go_enter func167,ntmps167
 go_wp2_with fail
 go_loopg [] (n+2) (fun gg wr=>∃ (k:Nat) (Q:Value),k≤n+1-L.put.length∧n+2-k≤gg∧Aside (Wk w g gd v ve vl vp vs L v Q d (L.put++List.replicate k 0) wr)∧w.heap.size≤wr.heap.size)
 case atStart=>
  refine⟨0,vp,Nat.zero_le _,by omega,?_,Nat.le_refl _⟩;show Wk _ _ _ _ _ _ _ _ _ _ _ _ _ _;rw[List.replicate_zero,List.append_nil];exact b9.o
 case round=>
  obtain⟨k,Q,hk,cb,m,a0⟩:=hrel;have am:=m.o.log.heads;have c4:=am.1.2.2.2.2.1;have f4:=am.2 4;have bu:=Qc m.o.log.cells;obtain⟨a1,c,rfl⟩:=Zi m.o.log.puts;obtain⟨np,z⟩:∃ np,np=({ L with put:=L.put++List.replicate k 0 }:Lg).put.length:=⟨_,rfl⟩
  have J:np=L.put.length+k:=by rw[z];simp
  have s:=m.o.log.puts;rw[←z] at c4 s;have ax:¬ (Value.slice a1 np c).ownBlock=some g:=fun e=>by obtain⟨C,hC⟩:=Qe s e;exact Zp m.o.log.cells hC (by decide) rfl
  have P:=zh z;have E:=zh s;have au:=zh ax;have U:=zh J;clear am z s ax;by_cases hlt:np≤n
  ·have bm:(np:Int)≤(n:Int):=by omega
   have b0:np+1≤1099511627776:=by omega
   clear J
   go_wp2_with (at_builtin;refine Yr rfl _ _ _ rfl 0 3 i0 _ 1 8 underlying124 HI.o.1 HI.o.2.1 HI.o.2.2.1 HI.o.2.2.2 rfl (by decide) (by decide) (.slice a1 np c) np _ (by rfl) (Ql E.o (Qa wr (.cells #[.int .i64 0] 3))) ⟨wr.heap.size,0,none⟩ 1 1 [.int .i64 0] rfl rfl (cell_one_new _ _ _) (by simp[Value.oneCell']) (by decide) b0 (Nat.zero_le _) ?_;intro v' w' h2 h3 h4 h5;obtain⟨gb,cpb,rfl,cg⟩:=Jm h2 h5;have H2:=zh h2;have H3:=zh ((Fr.ofBelow (S:=fun k=>(Value.slice a1 np c).ownBlock=some k) (Qa wr (.cells #[.int .i64 0] 3))).trans (Fr.ofGrown h3 fun k _ e=>e));have H4:=zh ((J2.refl wr (.slice a1 np c)).trans h4 (by simp));go_must (have k3:=H3.o.cell c4 au.o;have k4:=(H3.o.frozen (p:=⟨g,4,none⟩) bu au.o).trans f4;clear h2 h3 h4 h5))
   go_roundg (n+2-(k+1))
   case measure=>omega
   case rel=>
    have hp:=m.o.log.setPuts (ps:=L.put++List.replicate (k+1) 0) (vp':=.slice (some ⟨gb,0,none⟩) (np+1) cpb) (by rw[←P.o];exact H3.o) (by
     have e:L.put++List.replicate (k+1) 0=L.put++List.replicate k 0 ++ [0]:=by rw[List.append_assoc,List.replicate_succ']
     rw[e,Q38]
     have e2:(L.put++List.replicate k 0 ++ [0]).length=np+1:=by have:=U.o;simp only[List.length_append,List.length_replicate,List.length_cons,List.length_nil];omega
     rw[e2]
     exact H2.o) (by rw[←P.o];exact H4.o)
    exact⟨k+1,.slice (some ⟨gb,0,none⟩) (np+1) cpb,by have:=U.o;omega,by omega,m.o.marks hp.1 hp.2.1 hp.2.2 a0,by have:=hp.2.1.size;omega⟩
  ·have bm:¬ (np:Int)≤(n:Int):=by omega
   have bb:k=n+1-L.put.length:=by omega
   obtain⟨p1,H⟩:∃ p1,p1=L.put++List.replicate k 0:=⟨_,rfl⟩
   have Z:p1.length=np:=by rw[H,P.o]
   obtain⟨a,ha⟩:∃ a,p1[n]?=some a:=⟨_,List.getElem?_eq_getElem (by omega)⟩
   have b7:a%4=0∧a≤row.length:=by
    rw[H] at ha;by_cases hl:n<L.put.length
    ·rw[List.getElem?_append_left hl] at ha
     exact HM.o a ha
    ·rw[List.getElem?_append_right (by omega),List.getElem?_replicate] at ha
     split at ha
     ·cases ha;exact⟨rfl,by omega⟩
     ·cases ha
   obtain⟨bp,rfl⟩:∃ bp,a1=some ⟨bp,0,none⟩:=by
    rcases E.o.2 with ⟨e,h0⟩|⟨b,cap,cur,e,_⟩
    ·omega
    ·simp at e;exact⟨b,e.1⟩
   have cbp:wr.cell? ⟨bp,n,none⟩=some (.int .i64 (a:Int)):=by have h1:=E.o.cells (g:=bp) rfl n (.int .i64 (a:Int)) (by show ((L.put++List.replicate k 0).map _)[n]?=_;rw[←H,List.getElem?_map,ha];rfl);rw[Addr.add_lit] at h1;simpa using h1
   obtain⟨j0,l⟩:∃ j0,j0=a / 4:=⟨_,rfl⟩
   have a7:a=4*j0:=by omega
   have ap:p1.set n (4*min j0 (row.length / 4))=p1:=by
    have e:4*min j0 (row.length / 4)=a:=by omega
    rw[e];obtain⟨bl,he⟩:=List.getElem?_eq_some_iff.1 ha;rw[←he];exact List.set_getElem_self bl
   have T:p1.getD n 0 / 4=j0:=by rw[List.getD_eq_getElem?_getD,ha];exact l.symm
   have cf:(n:Int)<(np:Int):=by omega
   have ce:(0:Int)≤(n:Int):=by omega
   have cbp':wr.cell? ⟨bp,n,none⟩=some (.int .i64 (4*(j0:Int))):=by rw[cbp,a7];congr 2
   have bn:=zh ap;have ae:=zh T;have ar:=zh bb;have ab:=zh H;have ad:=zh Z;have cl:4*j0≤row.length:=by omega
   clear ap T bb H Z ha cbp a7 l b7 J
   go_wp2_with fail
   go_loopg [10] (row.length+4) (fun gg s10 wx=>∃ j:Nat,j0≤j∧4*j<row.length+4∧row.length+4-4*j≤gg∧s10=.int .i64 (4*(j:Int))∧∃ v1 d1,Aside (Wk w g gd v ve vl vp vs L v1 (.slice (some ⟨bp,0,none⟩) p1.length c) d1 (p1.set n (4*min j (row.length / 4))) wx)∧
    Aside (Qae t row j0 d=Qae t row j d1)∧d1.calls≤d.calls+(j-j0)∧d1.files.length≤d.files.length+(j-j0)∧w.heap.size≤wx.heap.size)
   case atStart=>
    refine⟨j0,Nat.le_refl _,by omega,by omega,rfl,v,d,?_,rfl,by omega,by omega,a0⟩;show Wk _ _ _ _ _ _ _ _ _ _ _ _ _ _;rw[bn.o,ad.o,ab.o,P.o];exact m.o
   case round=>
    obtain⟨j,l,cs,a9,rfl,v1,d1,N,HJ,Y,an,ch⟩:=hrel;by_cases hlt2:4*j<row.length
    ·have aq:4*(j:Int)<(row.length:Int):=by omega
     have co:4*(j:Int) / 4=(j:Int):=by omega
     obtain⟨k',A⟩:∃ k',k'=min 4 (row.length-4*j):=⟨_,rfl⟩
     obtain⟨p,hp⟩:∃ p,p=(Ye t row j).1:=⟨_,rfl⟩
     have X:=Qtu t j row.length wr hlt2 (by omega) (HE.o.step N.o.fr N.o.sub).num;rw[show sOf (Y4 t (j:Int) ((min 4 (row.length-4*j):Nat):Int))=p from hp.symm,←A] at X;have cj:=Q93 j row.length k' hrow A hlt2;have ca:IntKind.i64.wrap (4*(j:Int)+(k':Int))=4*(j:Int)+(k':Int):=Q9b j row.length k' hrow A hlt2;have a3:=Zaj j row.length k' A hlt2;have cr:k'≤4:=A ▸ Nat.min_le_left _ _;obtain⟨ck,cc,aj⟩:∃ ck,((k':Int) == 4)=ck∧ck=decide (k'=4):=⟨_,rfl,Q7q k'⟩
     have HK:=zh A;have HP:=zh hp;have bd:=zh a3;have aw:=zh aj;have b3:d1.calls<1099511627776:=Q9k Y hc hlt2 hrow;have b8:d1.files.length<1099511627776:=Q9k an hfl hlt2 hrow;clear A hp a3 aj
     go_wp2_with (go_at_call 191;refine X.mono ?_;rintro e w3 ⟨rfl,ak⟩;have B:=zh (N.o.below ak);have cn:=zh ak;have az:=B.o.log.heads;clear ak)
     have b2:=az.1.1;have a6:=Qc B.o.log.cells;clear az
     go_cut [13] from 54 to 67 (fun s13 wy=>∃ v2,Aside (Wk w g gd v ve vl vp vs L v2 (.slice (some ⟨bp,0,none⟩) p1.length c) (putD d1 p (Ye t row j).2) (p1.set n (4*min j (row.length / 4))) wy)∧Aside (∃ bs,w.heap.size≤bs∧Qcr wy bs (Qfn d1 (Ye t row j)) s13)∧w.heap.size≤wy.heap.size)
     case first=>
      go_region_law (first|(go_simp;have ay:=HF.o _ _ _ (B.o.below (Qn w3)).log (B.o.below (Qn w3)).fr j hlt2;rw[←HK.o] at ay;refine ay.mono ?_;rintro e w4 ⟨vb,rfl,ba,I⟩;have bq:=zh ba;have ag:=zh ((B.o.below (Qn w3)).below I);have b5:=zh I;have cd:=(I.cell (p:=⟨g,0,none⟩) a6).trans b2;have cq:g<w4.heap.size:=Nat.lt_of_lt_of_le a6 I.size;clear I ba)|(go_simp;go_invoke;go_simp;go_at_call 300;refine (Q8a w4 gd v1 d1 ag.o.disk p vb _ bq.o b3 b8).mono ?_;rintro e w5 ⟨u,rfl,bc,v2,a8,ac,bf⟩;have bx:=zh bc;have b6:=zh (ag.o.put a8 ac bf (by have:=B.o.fr.size;have:=b5.o.size;exact Nat.le_trans ‹w.heap.size≤w3.heap.size› this));have b4:=zh ac;clear bc a8 ac bf))
      all_goals (
       go_wp2_with fail
       go_meet
       have ah:w.heap.size≤w4.heap.size:=by have:=ag.o.fr.size;exact this
       refine⟨v2,b6.o,⟨w4.heap.size,ah,?_⟩,Nat.le_trans ah b4.o.size⟩
       unfold Qfn
       rw[←HP.o]
       exact bx.o)
     case rest=>
      obtain⟨v2,G,ai,K⟩:=hcut;have i:=ai.o;clear ai;obtain⟨bs,b1,i⟩:=i;cases hbad:Qfn d1 (Ye t row j) with
      | true=>
       rw[hbad] at i;have bi:=zh hbad;obtain⟨q,nn,rfl,hq,hh⟩:Ql2 wc bs u13:=i;have HH:=zh hh;have bo:=Qax wc 218 (.pointer (some ⟨q,0,none⟩));clear hbad hh
       go_wp2_with (go_at_call 160;refine (Qot _ _ _ _).mono ?_;rintro e w7 ⟨u,rfl,⟨r,rfl,hr,a2⟩,bh⟩;have HR:=zh a2;have av:=zh bh;clear a2 bh)
       go_ret;have hw:=Qx5 t row j d1 hlt2 bi.o;refine⟨p1,Qae t row j0 d,?_,?_,v2,.slice (some ⟨bp,0,none⟩) p1.length c,?_,.inr ⟨p,r,q,nn,?_,rfl,Nat.le_trans K hr,Nat.le_trans b1 hq,(av.o.block _ (Qc HH.o)).trans HH.o,HR.o⟩⟩
       ·rw[ab.o,ar.o]
       ·rw[ae.o]
       ·rw[HJ.o,hw,←HP.o]
        exact G.o.below av.o
       ·rw[HJ.o,hw,←HP.o]
      | false=>
       rw[hbad] at i;have bj:u13=.nilIface:=i;subst bj;have bo:=Y3 wc;have hstep:=Qur t row j d1 hlt2 hbad;rw[←HP.o] at hstep;have R:=zh hstep;have bg:=Q2u d1 p (Ye t row j).2;have O:=zh bg;have W:wc.ownsRow 0 3 1 (.slice (some ⟨bp,0,none⟩) p1.length c) p1.length ((p1.set n (4*min j (row.length / 4))).map fun (n:Nat)=>.int .i64 (n:Int)):=by have h1:=G.o.log.puts;have e:({ L with put:=p1.set n (4*min j (row.length / 4)) }:Lg).put.length=p1.length:=List.length_set;rw[e] at h1;exact h1
       have z:n<p1.length:=by rw[ad.o];omega
       have ao:wc.cell? ⟨bp,n,none⟩=some (.int .i64 ((4*min j (row.length / 4):Nat):Int)):=by have h1:=W.cells (g:=bp) rfl n (.int .i64 ((4*min j (row.length / 4):Nat):Int)) (by rw[List.getElem?_map,List.getElem?_set_self z];rfl);rw[Addr.add_lit] at h1;simpa using h1
       obtain⟨C,hC⟩:=Qe W (k:=bp) rfl;have bw:=Qs hC n;have br:=Qc hC;clear hbad hstep bg i W hC z;cases ck with
       | true=>
        have y:k'=4:=by have:=aw.o;simpa using this
        have D:=zh y;clear y;obtain⟨old,aa⟩:∃ old,old=((4*min j (row.length / 4):Nat):Int):=⟨_,rfl⟩
        rw[←aa] at ao;clear aa
        go_wp2_with fail
        go_roundg (row.length+4-4*(j+1))
        case measure=>exact Nat.lt_of_lt_of_le (Q1u (gk:=0) hlt2) a9
        case rel=>
         have M:=G.o.log.setPut (bp:=bp) (cp:=c) (by show _=Value.slice _ (p1.set n _).length _;rw[List.length_set]) n (4*j+k');have bz:((4*j+k':Nat):Int)=4*(j:Int)+(k':Int):=by omega
         rw[bz] at M;have bt:(p1.set n (4*min j (row.length / 4))).set n (4*j+k')=p1.set n (4*min (j+1) (row.length / 4)):=by rw[List.set_set,bd.o,if_pos D.o,D.o]
         refine⟨j+1,Nat.le_succ_of_le l,by omega,Nat.le_refl _,by go_num,v2,putD d1 p (Ye t row j).2,?_,?_,Qpk Y (Nat.le_of_eq O.o.1) l,Qpk an O.o.2 l,?_⟩
         ·show Wk _ _ _ _ _ _ _ _ _ _ _ _ _ _
          rw[←bt];exact G.o.marks M.1 M.2 (Sub.refl _ _) K
         ·show Qae _ _ _ _=_
          rw[HJ.o,R.o]
         ·have:=M.2.size;exact Nat.le_trans K this
       | false=>
        have y:k'≠4:=by have:=aw.o;simpa using this
        have D:=zh y;clear y ao bw br
        go_wp2_with fail
        go_roundg (row.length+4-4*(j+1))
        case measure=>exact Nat.lt_of_lt_of_le (Q1u (gk:=0) hlt2) a9
        case rel=>
         refine⟨j+1,Nat.le_succ_of_le l,by omega,Nat.le_refl _,by go_num,v2,putD d1 p (Ye t row j).2,?_,?_,Qpk Y (Nat.le_of_eq O.o.1) l,Qpk an O.o.2 l,K⟩
         ·show Wk _ _ _ _ _ _ _ _ _ _ _ _ _ _
          rw[bd.o,if_neg D.o];exact G.o
         ·show Qae _ _ _ _=_
          rw[HJ.o,R.o]
    ·have aq:¬ 4*(j:Int)<(row.length:Int):=by omega
     have al:row.length≤4*j:=by omega
     have V:=zh al;clear al
     go_wp2_with fail
     go_ret;have hw:=Qyk t row j d1 V.o;have bk:4*min j (row.length / 4)=4*(row.length / 4):=by have:=V.o;omega
     refine⟨p1,Qae t row j0 d,?_,?_,v1,.slice (some ⟨bp,0,none⟩) p1.length c,?_,.inl ⟨?_,rfl⟩⟩
     ·rw[ab.o,ar.o]
     ·rw[ae.o]
     ·rw[HJ.o,hw,←bk]
      exact N.o
     ·rw[HJ.o,hw]
end
section
theorem Qsu:∀ (hs:List Hsh) (i:Nat) (x:Hsh),hs[i]?=some x→∀ c,(hc:c<8)→(hs.flatMap fun h=>(h8 h).toList)[i*8+c]?=some (u8 x[c])
 | [],i,x,h,c,hc=>by simp at h
 | a :: hs,0,x,h,c,hc=>by
   simp at h
   subst h
   rw[List.flatMap_cons,List.getElem?_append_left (by simp;omega)]
   simp[h8,hc]
 | a :: hs,i+1,x,h,c,hc=>by
   rw[List.flatMap_cons,List.getElem?_append_right (by simp;omega)]
   have:=Qsu hs i x (by simpa using h) c hc
   rw[show (i+1)*8+c-(h8 a).toList.length=i*8+c by simp;omega]
   exact this
theorem Za {w:World} {g n c':Nat} {hs:List Hsh} (h:w.ownsRow 0 143 8 (.slice (some ⟨g,0,none⟩) n c') hs.length (hs.flatMap fun h=>(h8 h).toList)) {i:Nat} {x:Hsh} (hx:hs[i]?=some x) (c:Nat) (hc:c<8):w.cell? ⟨g,i*8+c,none⟩=some (u8 x[c]):=by have h1:=h.cells (g:=g) rfl (i*8+c) _ (Qsu hs i x hx c hc);rw[Addr.add_lit] at h1;simpa using h1
end
section
theorem Q5p {es:List (List UInt8)} (i k:Nat) (hk:k≤4) (hk0:0<k) (hi:i<es.length) (hke:k=min 4 (es.length-i)) (hs:∀ e∈es,e.length≤20):Yn ((es.drop i).take k)=some (((es.map encE).drop i).take 4).flatten:=by
 have hl:((es.drop i).take k).length=k:=by rw[List.length_take,List.length_drop];omega
 rw[Qd0 (by omega) (by omega) fun l hl=>hs l (List.mem_of_mem_drop (List.mem_of_mem_take hl)),List.map_take,List.map_drop]
 congr 2
 rcases Nat.lt_or_ge (es.length-i) 4 with h|h
 ·rw[List.take_of_length_le (i:=k) (by rw[List.length_drop,List.length_map];omega),List.take_of_length_le (i:=4) (by rw[List.length_drop,List.length_map];omega)]
 ·rw[show k=4 by omega]
theorem Q6i (w:World) (g gd:Nat) (ve vl vp:Value) (vs:List Value) (L:Lg) (h:Zq w g gd ve vl vp vs L) (pl:Nat) (hpl:w.cell? ⟨pl,0,none⟩=some (.pointer (some ⟨g,0,none⟩))) (j:Nat) (hj:4*j<L.entries.length) (hn:L.entries.length≤1048576) (hs:∀ e∈L.entries,e.length≤20) :
  Calls prog 168 #[.int .i64 (4*(j:Int)),.int .i64 (4*(j:Int)+((min 4 (L.entries.length-4*j):Nat):Int)),.pointer (some ⟨pl,0,none⟩)] w fun e w2=>∃ vb,e=.returned vb∧Q8 w2 vb (((L.entries.map encE).drop (4*j)).take 4).flatten∧Below w.heap.size w w2:=by
 obtain⟨⟨_,_,c2,_,_,_⟩,_⟩:=h.heads;obtain⟨vsr,a,p⟩:=h.ents;obtain⟨b,cp,rfl,s⟩:∃ b cp,ve=.slice (some ⟨b,0,none⟩) L.entries.length cp∧L.entries.length≤cp:=by
  rcases a.2 with ⟨_,h0⟩|⟨b,cap,cur,e,_,_,t,_⟩
  ·omega
  ·exact⟨b,cap,e,t⟩
 obtain⟨k,hk⟩:∃ k,k=min 4 (L.entries.length-4*j):=⟨_,rfl⟩
 rw[←hk];have v:vsr.length=L.entries.length:=by simpa using a.1
 have hl:((L.entries.drop (4*j)).take k).length=k:=by rw[List.length_take,List.length_drop];omega
 have hb:Qem w (.slice (some ⟨b,4*j,none⟩) k (cp-4*j)) ((L.entries.drop (4*j)).take k):=by
  refine⟨(vsr.drop (4*j)).take k,by rw[hl,List.length_take,List.length_drop];omega,⟨some ⟨b,4*j,none⟩,cp-4*j,by rw[hl],by rw[hl];omega,fun i x hx=>⟨b,4*j,rfl,?_⟩⟩,fun i u l hu hx=>?_⟩
  ·have f:i<k:=by have:=(List.getElem?_eq_some_iff.1 hx).1;rw[List.length_take] at this;omega
   rw[List.getElem?_take_of_lt f,List.getElem?_drop] at hx;have h1:=a.cells (g:=b) rfl (4*j+i) x hx;rw[Addr.add_lit] at h1;simpa using h1
  ·have f:i<k:=by have:=(List.getElem?_eq_some_iff.1 hx).1;rw[hl] at this;exact this
   rw[List.getElem?_take_of_lt f,List.getElem?_drop] at hu hx;exact (p (4*j+i) u l hu hx).at
 have d:=Qmb _ _ w hb (by rw[hl];omega);have c:=Q5p (es:=L.entries) (4*j) k (by omega) (by omega) hj hk hs;obtain⟨ln,m⟩:∃ ln,ln=L.entries.length:=⟨_,rfl⟩
 rw[←m] at c2 s hk hj;have q:=zh c;have A:(0:Int)≤4*(j:Int):=by omega
 have E:4*(j:Int)≤4*(j:Int)+(k:Int):=by omega
 have D:4*(j:Int)+(k:Int)≤(cp:Int):=by omega
 have B:(4*(j:Int)).toNat=4*j:=by omega
 have C:(4*(j:Int)+(k:Int)).toNat=4*j+k:=by omega
 have z:4*j+k-4*j=k:=by omega
 have F:¬ cp=4*j:=by omega
 have r:=zh d;clear h a p v hl hb d c hk m hj
 go_enter func168,ntmps168
 go_wp2_with fail
 refine r.o.mono ?_;rintro e w2 ⟨v',rfl,n,h2⟩;have y:=zh n;have H2:=zh h2;clear n h2
 go_wp2_with fail
 go_ret;rcases H2.o with ⟨h3,_⟩|⟨l,h3,ho,_⟩
 ·rw[q.o] at h3;cases h3
 ·rw[q.o] at h3
  cases h3;exact⟨_,rfl,ho.at,y.o⟩
theorem Qxm {w:World} {g:Nat} {x:Hsh} (h:Qw w g x):Q8 w (.slice (some ⟨g,0,none⟩) 8 8) x.toList:=by
 unfold Q8;refine⟨_,8,by simp,by simp,fun j y hy=>⟨g,0,rfl,?_⟩⟩;have hj:j<8:=by have:=(List.getElem?_eq_some_iff.1 hy).1;simpa using this
 rw[show (x.toList.map u8)[j]?=some (u8 x[j]) by simp[hj]] at hy;cases hy;rw[Nat.zero_add];exact Qu h j hj
theorem Q7r (y:Hsh):Array.foldl (fun (cs:Array Value) (x:Value×Nat)=>cs.setIfInBounds x.snd x.fst) zc (h8 y).zipIdx 0 8=h8 y:=by rw[←Qbm y];simp
section
attribute [local go_sem] h8_0 h8_1 h8_2 h8_3 h8_4 h8_5 h8_6 h8_7 Qbm h8_size Qa7 Q7r
theorem Q54 (w:World) (ph:Nat) (vh:Value) (hs:List Hsh) (hcell:w.cell? ⟨ph,0,none⟩=some vh) (hh:Qcs w 0 vh hs) (j:Nat) (hj:4*j<hs.length) (hn:hs.length≤1048576) :
  Calls prog 169 #[.int .i64 (4*(j:Int)),.int .i64 (4*(j:Int)+((min 4 (hs.length-4*j):Nat):Int)),.pointer (some ⟨ph,0,none⟩)] w fun e w2=>∃ vb,e=.returned vb∧Q8 w2 vb (((hs.map fun (h:Hsh)=>h.toList).drop (4*j)).take 4).flatten∧Below w.heap.size w w2:=by
 obtain⟨b,cp,rfl,l⟩:∃ b cp,vh=.slice (some ⟨b,0,none⟩) hs.length cp∧hs.length≤cp:=by
  rcases hh.2 with ⟨_,h0⟩|⟨b,cap,cur,e,_,_,A,_⟩
  ·omega
  ·exact⟨b,cap,e,A⟩
 obtain⟨k,hk⟩:∃ k,k=min 4 (hs.length-4*j):=⟨_,rfl⟩
 rw[←hk];obtain⟨ln,d⟩:∃ ln,ln=hs.length:=⟨_,rfl⟩
 have HH:=zh hh;rw[←d] at hcell l hk hj;have K:(0:Int)≤4*(j:Int):=by omega
 have P:4*(j:Int)≤4*(j:Int)+(k:Int):=by omega
 have N:4*(j:Int)+(k:Int)≤(cp:Int):=by omega
 have L:(4*(j:Int)).toNat=4*j:=by omega
 have M:(4*(j:Int)+(k:Int)).toNat=4*j+k:=by omega
 have J:4*j+k-4*j=k:=by omega
 have Q:¬ cp=4*j:=by omega
 have O:k≤4:=by omega
 have HK:=zh hk;have r:=zh d;have HJ:=zh hj;obtain⟨i0,hi,g,n,q⟩:=info_parts Qjs;have HI:=zh (⟨hi,g,n,q⟩:_∧_∧_∧_);clear hh hk d hj hi g n q l
 go_enter func169,ntmps169
 go_wp2_with fail
 go_loopg [5,13] k (fun gg s5 s13 wr=>∃ i:Nat,i≤k∧k-i≤gg∧s13=.int .i64 i∧∃ bs:List UInt8,Aside (bs=((hs.drop (4*j)).take i).flatMap fun (h:Hsh)=>h.toList)∧Aside (wr.ownsRow w.heap.size 5 1 s5 bs.length (bs.map u8))∧Aside (Below w.heap.size w wr))
 case atStart=>exact⟨0,by omega,by omega,rfl,[],rfl,World.ownsRow_nil _ _ _ _,Below.refl _ _⟩
 case round=>
  obtain⟨i,hi,H,rfl,bs,f,HR,HB⟩:=hrel;by_cases hlt:i<k
  ·have v:(i:Int)<(k:Int):=by omega
   have I:(0:Int)≤(i:Int):=by omega
   obtain⟨x,hx⟩:∃ x,hs[4*j+i]?=some x:=⟨_,List.getElem?_eq_getElem (by have:=HK.o;have:=r.o;have:=HJ.o;omega)⟩
   have kc:∀ c (hc:c<8),wr.cell? ⟨b,4*j*8+i*8+c,none⟩=some (Go.Proofs.YtefccfakhgdfbaaGreatDoor.u8 x[c]):=fun c hc=>by have h1:=Za HH.o hx c hc;rw[show (4*j+i)*8+c=4*j*8+i*8+c by omega] at h1;exact (HB.o.cell (p:=⟨b,4*j*8+i*8+c,none⟩) (Qk h1)).trans h1
   have k0:wr.cell? ⟨b,4*j*8+i*8,none⟩=some (Go.Proofs.YtefccfakhgdfbaaGreatDoor.u8 x[0]):=kc 0 (by decide);have k1:wr.cell? ⟨b,4*j*8+i*8+1,none⟩=some (Go.Proofs.YtefccfakhgdfbaaGreatDoor.u8 x[1]):=kc 1 (by decide);have k2:wr.cell? ⟨b,4*j*8+i*8+2,none⟩=some (Go.Proofs.YtefccfakhgdfbaaGreatDoor.u8 x[2]):=kc 2 (by decide);have k3:wr.cell? ⟨b,4*j*8+i*8+3,none⟩=some (Go.Proofs.YtefccfakhgdfbaaGreatDoor.u8 x[3]):=kc 3 (by decide);have k4:wr.cell? ⟨b,4*j*8+i*8+4,none⟩=some (Go.Proofs.YtefccfakhgdfbaaGreatDoor.u8 x[4]):=kc 4 (by decide);have k5:wr.cell? ⟨b,4*j*8+i*8+5,none⟩=some (Go.Proofs.YtefccfakhgdfbaaGreatDoor.u8 x[5]):=kc 5 (by decide);have k6:wr.cell? ⟨b,4*j*8+i*8+6,none⟩=some (Go.Proofs.YtefccfakhgdfbaaGreatDoor.u8 x[6]):=kc 6 (by decide);have k7:wr.cell? ⟨b,4*j*8+i*8+7,none⟩=some (Go.Proofs.YtefccfakhgdfbaaGreatDoor.u8 x[7]):=kc 7 (by decide);have HX:=zh hx;have D:Is8 (wr.alloc (.cells zc 143)) wr.heap.size:=Zb rfl;have u:Qw ((wr.alloc (.cells zc 143)).setRow wr.heap.size (h8 x)) wr.heap.size x:=Qj D x;have G:bs.length≤1099511627776:=by rw[f.o];have h1:=Qg4 (((hs.drop (4*j)).take i).map fun (h:Hsh)=>h.toList) 8 (fun y hy=>by obtain⟨z,_,rfl⟩:=List.mem_map.1 hy;simp);rw[←List.flatMap_def,List.length_map,List.length_take] at h1;omega
   have a:Below wr.heap.size wr ((wr.alloc (.cells zc 143)).setRow wr.heap.size (h8 x)):=below_setRow (Qa wr _) (Nat.le_refl _) _;have E:=zh u;have F:=zh a;have t:w.heap.size≤((wr.alloc (.cells zc 143)).setRow wr.heap.size (h8 x)).heap.size:=Nat.le_trans HB.o.size a.size;have m:=zh t;have C:=zh (Ql HR.o a);clear hx kc u a t
   go_wp2_with (at_builtin;refine Qh3 rfl _ _ 147 rfl w.heap.size i0 underlying147 HI.o.1 HI.o.2.1 HI.o.2.2.1 HI.o.2.2.2 _ bs.length (bs.map Go.Proofs.YtefccfakhgdfbaaGreatDoor.u8) rfl C.o _ x.toList rfl (Qxm E.o) G (by simp) m.o ?_;intro v' w' h2 h3 h4;have H2:=zh h2;have H3:=zh h3;clear h2 h3 h4)
   go_roundg (k-(i+1))
   case measure=>omega
   case rel=>
    refine⟨i+1,by omega,by omega,by go_num,bs++x.toList,?_,?_,?_⟩
    ·show bs++x.toList=_
     rw[List.take_add_one,List.getElem?_drop,HX.o,f.o,List.flatMap_append];simp
    ·have h1:=H2.o
     rw[List.length_append,List.map_append];rw[show x.toList.length=8 by simp] at h1 ⊢;exact h1
    ·exact (HB.o.trans (F.o.mono HB.o.size)).grown H3.o m.o (fun k hk=>(HR.o.lt k hk).1)
  ·have v:¬ (i:Int)<(k:Int):=by omega
   have s:i=k:=by omega
   have B:=zh s;clear s
   go_wp2_with fail
   go_ret;refine⟨_,rfl,?_,HB.o⟩;have h1:=(Qfc HR.o).at;have e:bs=(((hs.map fun (h:Hsh)=>h.toList).drop (4*j)).take 4).flatten:=by
    have hl:(hs.drop (4*j)).length=ln-4*j:=by rw[List.length_drop,r.o]
    rw[f.o,B.o,←List.map_drop,←List.map_take,List.flatMap_def]
    congr 2
    rcases Nat.lt_or_ge (ln-4*j) 4 with h|h
    ·rw[List.take_of_length_le (i:=k) (by have:=HK.o;omega),List.take_of_length_le (i:=4) (by omega)]
    ·rw[show k=4 by have:=HK.o;omega]
   rw[←e];exact h1
end
end
section
theorem Qla {w:World} {g gd:Nat} {v ve vl vp:Value} {vs:List Value} {L:Lg} {d:Dk} (h:Zq w g gd ve vl vp vs L) (hD:Q1 w gd v d) {k:Nat} (hk:Jz g gd v ve vl vp vs k):k<w.heap.size:=by
 rcases hk with (hk|hk)|hk
 ·rw[hk];exact hD.lt
 ·obtain⟨C,hC⟩:=Qe hD.2 hk
  exact Qc hC
 ·obtain⟨C,t,hC,_⟩:=h.kinds hk
  exact Qc hC
structure Pk (w:World) (B g gd:Nat) (v ve vl vp:Value) (vs:List Value) (L:Lg) (v' vp':Value) (d':Dk) (ps:List Nat) (w':World):Prop where
 disk:Q1 w' gd v' d'
 log:Zq w' g gd ve vl vp' vs { L with put:=ps }
 fr:Fr (Jz g gd v ve vl vp vs) w w'
 sub:∀ k,Jz g gd v' ve vl vp' vs k→Jz g gd v ve vl vp vs k∨B≤k
 lo:∀ k,Jz g gd v ve vl vp vs k→k<w.heap.size
 size:B≤w'.heap.size
 base:w.heap.size≤B
section
variable {w w1 w2:World} {B g gd:Nat} {v v1 v2 ve vl vp vp1 vp2:Value} {vs:List Value} {L:Lg} {d1 d2:Dk} {ps ps2:List Nat}
variable {b:Nat}
theorem Pk.o (h:Pk w B g gd v ve vl vp vs L v1 vp1 d1 ps w1) (h1:w.heap.size≤b) (h2:b<B):¬ Jz g gd v1 ve vl vp1 vs b:=fun hk=>by
 rcases h.sub b hk with h3|h3
 ·have:=h.lo b h3;omega
 ·omega
theorem Pk.subw (h:Pk w B g gd v ve vl vp vs L v1 vp1 d1 ps w1):Sub w (Jz g gd v ve vl vp vs) (Jz g gd v1 ve vl vp1 vs):=fun k hk=>(h.sub k hk).imp id (Nat.le_trans h.base)
theorem Pk.write (h:Pk w B g gd v ve vl vp vs L v1 vp1 d1 ps w1) (k:Wk w1 g gd v1 ve vl vp1 vs { L with put:=ps } v2 vp2 d2 ps2 w2):Pk w B g gd v ve vl vp vs L v2 vp2 d2 ps2 w2 where
 disk:=k.disk
 log:=k.log
 fr:=Fr.sub h.fr k.fr h.subw
 sub i hi:=by
  rcases k.sub i hi with h1|h1
  ·exact h.sub i h1
  ·exact .inr (Nat.le_trans h.size h1)
 lo:=h.lo
 size:=Nat.le_trans h.size k.fr.size
 base:=h.base
theorem Pk.below (h:Pk w B g gd v ve vl vp vs L v1 vp1 d1 ps w1) (hb:Below w1.heap.size w1 w2):Pk w B g gd v ve vl vp vs L v1 vp1 d1 ps w2 where
 disk:=h.disk.below hb
 log:=h.log.below hb
 fr:=h.fr.trans (Fr.ofBelow hb)
 sub:=h.sub
 lo:=h.lo
 size:=Nat.le_trans h.size hb.size
 base:=h.base
variable {t:TypeId}
theorem Pk.var (h:Pk w B g gd v ve vl vp vs L v1 vp1 d1 ps w1) (h1:w.heap.size≤b) (h2:b<B) {C:Array Value} {fz:Nat×Nat} (hC:w1.heap[b]?=some (.cells C t fz)) (ht:t≠5) (hf:Fr (·=b) w1 w2):Pk w B g gd v ve vl vp vs L v1 vp1 d1 ps w2 where
 disk:=h.disk.fr hf fun k hk e=>h.o h1 h2 (e ▸ .inl hk)
 log:=h.log.fr hf (fun k hk e=>h.o h1 h2 (e ▸ .inr hk)) fun k C' fz' hk e=>by
  subst e
  rw[hC] at hk
  cases hk
  exact ht rfl
 fr:=h.fr.step hf fun k hk e=>by omega
 sub:=h.sub
 lo:=h.lo
 size:=Nat.le_trans h.size hf.size
 base:=h.base
theorem Pk.keeps (h:Pk w B g gd v ve vl vp vs L v1 vp1 d1 ps w1) (hf:Fr (Jz g gd v1 ve vl vp1 vs) w1 w2) (h1:w.heap.size≤b) (h2:b<B) {o:Obj} (ho:w1.heap[b]?=some o):w2.heap[b]?=some o:=hf.heap ho (h.o h1 h2)
theorem Pk.wk (h:Pk w B g gd v ve vl vp vs L v1 vp1 d1 ps w1):Wk w1 g gd v1 ve vl vp1 vs { L with put:=ps } v1 vp1 d1 ps w1:=⟨h.disk,h.log,Fr.refl _ _,Sub.refl _ _⟩
end
section
variable (pe pn pl g:Nat) (u:FrameMode) (w:World)
theorem Q47 (he:w.cell? ⟨pe,0,none⟩=some .nilIface) :
  CallsD prog 166 #[.pointer (some ⟨pe,0,none⟩),.pointer (some ⟨pn,0,none⟩),.pointer (some ⟨pl,0,none⟩)] u w fun e u' w'=>u'=u∧(e=.returned (.tuple #[])∧w'=w):=by
 have hn:=Y3 w
 go_enter_d func166,ntmps166
 go_wp2;go_end0
 first|exact⟨rfl,rfl,rfl⟩|exact⟨rfl,rfl⟩|simp
variable {t:TypeId}
theorem Q36 {x y:Value} (he:w.cell? ⟨pe,0,none⟩=some (.iface t x)) (hl:w.cell? ⟨pl,0,none⟩=some (.pointer (some ⟨g,0,none⟩))) (hn:w.cell? ⟨pn,0,none⟩=some y) (hy:∃ n,y=.int .i64 n) (hnf:w.frozen? ⟨pn,0,none⟩=false) {b:Bool} (hg:w.cell? ⟨g,5,none⟩=some (.bool b)) (hgf:w.frozen? ⟨g,5,none⟩=false) (hgn:¬ g=pn) :
  CallsD prog 166 #[.pointer (some ⟨pe,0,none⟩),.pointer (some ⟨pn,0,none⟩),.pointer (some ⟨pl,0,none⟩)] u w fun e u' w'=>u'=u∧(e=.returned (.tuple #[])∧w'=(w.setCell ⟨pn,0,none⟩ (.int .i64 0)).setCell ⟨g,5,none⟩ (.bool true)):=by
 have a:=Qax w t x;obtain⟨n,rfl⟩:=hy
 go_enter_d func166,ntmps166
 go_wp2;go_end0
 first|exact⟨rfl,rfl,rfl⟩|exact⟨rfl,rfl⟩|simp
end
end
section
theorem Qpu:∃ i,prog.info? 147=some i∧i.zero=some (.slice none 0 0)∧i.size=1∧i.bytes=24:=by
 have h:(prog.info? 147).map (fun i=>(i.zero,i.size,i.bytes))=some (some (.slice none 0 0),1,24):=by kernel_rfl
 cases hi:prog.info? 147 with
 | none=>rw[hi] at h;simp at h
 | some i=>rw[hi] at h;simp at h;exact⟨i,rfl,h.1,h.2.1,h.2.2⟩
theorem Qgi (w:World) (a:Option Addr) (n c:Nat):(binOp .eql 157 (.slice a n c) (.slice none 0 0)).run prog w=.ok (.bool a.isNone) w:=Lib.run_eql_slice_nil w _ _ a n c 0 0 underlying157
variable {w:World}
theorem Qwm {base:Nat} {us:List Value} {ls:List (List UInt8)} (hl:us.length=ls.length) (hb:∀ (j:Nat) (u:Value) (l:List UInt8),us[j]?=some u→ls[j]?=some l→Qy w base u l):∀ u∈us,u.oneCell'=true:=by
 intro u hu;obtain⟨j,hj⟩:=List.mem_iff_getElem?.1 hu;have a:j<ls.length:=by have:=(List.getElem?_eq_some_iff.1 hj).1;omega
 exact (hb j u _ hj (List.getElem?_eq_getElem a)).one
variable {l:List Fil} {i:Nat}
theorem Qfd {w:Nat} {s:ByteArray} (h:getF l (Yp i w)=some s):Z9 l i w=unbW s w:=by unfold Z9 unbW;rw[h];rfl
structure Lkd (w:World) (g gd:Nat) (v ve vl vp:Value) (vs:List Value) (L:Lg) (ve':Value) (d':Dk) (es:List (List UInt8)) (w':World):Prop where
 disk:Q1 w' gd v d'
 log:Zq w' g gd ve' vl vp vs { L with entries:=es }
 fr:Fr (fun k=>k=gd∨LogS g ve vl vp vs k) w w'
 sub:Sub w (LogS g ve vl vp vs) (LogS g ve' vl vp vs)
variable {g gd:Nat} {ve vl vp:Value} {vs:List Value}
theorem lks {ve':Value} (h:Sub w (LogS g ve vl vp vs) (LogS g ve' vl vp vs)):Sub w (fun k=>k=gd∨LogS g ve vl vp vs k) (fun k=>k=gd∨LogS g ve' vl vp vs k):=fun k hk=>by
 rcases hk with hk|hk
 ·exact .inl (.inl hk)
 ·exact (h k hk).imp (fun h=>.inr h) id
variable {w1 w2:World} {v ve1:Value} {L:Lg} {d1:Dk} {es:List (List UInt8)}
theorem Lkd.look {d2:Dk} (h:Lkd w g gd v ve vl vp vs L ve1 d1 es w1) (hd:Q1 w2 gd v d2) (hf:Fr (·=gd) w1 w2):Lkd w g gd v ve vl vp vs L ve1 d2 es w2:=
 ⟨hd,h.log.fr hf (fun k hk e=>h.log.apartDisk h.disk k hk (.inl e)) (fun k C fz hk e=>by subst e;have:=h.disk.1;rw[hk] at this;simp at this),Fr.sub h.fr (hf.weak fun k _ hk=>(.inl hk:k=gd∨LogS g ve1 vl vp vs k)) (lks h.sub),h.sub⟩
theorem Lkd.below (h:Lkd w g gd v ve vl vp vs L ve1 d1 es w1) (hb:Below w1.heap.size w1 w2):Lkd w g gd v ve vl vp vs L ve1 d1 es w2:=
 h.look (h.disk.below hb) (Fr.ofBelow hb)
theorem Lkd.ents {ve2:Value} {es2:List (List UInt8)} (h:Lkd w g gd v ve vl vp vs L ve1 d1 es w1) (hl:Zq w2 g gd ve2 vl vp vs { L with entries:=es2 }) (hf:Fr (LogS g ve1 vl vp vs) w1 w2) (hs:Sub w1 (LogS g ve1 vl vp vs) (LogS g ve2 vl vp vs)) (hsz:w.heap.size≤w1.heap.size):Lkd w g gd v ve vl vp vs L ve2 d1 es2 w2:=
 ⟨h.disk.fr hf fun k hk hS=>h.log.apartDisk h.disk k hS hk,hl,Fr.sub h.fr (hf.weak fun k _ hk=>(.inr hk:k=gd∨LogS g ve1 vl vp vs k)) (lks h.sub),h.sub.trans hs hsz⟩
def Q4l (w:World) (g gd:Nat) (v ve vl vp:Value) (vs:List Value) (d:Dk) (L:Lg) (f:Nat→Addr) (n B:Nat) (e:Ending) (w':World):Prop:=
 (∃ ve' d' es' i q m r,Lkd w g gd v ve vl vp vs L ve' d' es' w'∧Hurt B d d'∧e=.returned (.iface 219 (.pointer (some ⟨r,0,none⟩)))∧w.heap.size≤q∧w.heap.size≤r∧w'.heap[q]?=some (.cells #[.int .i64 m] 398 (0,0))∧
   w'.heap[r]?=some (.cells #[.string (Yp i (min 4 (n-4*i))),.iface 218 (.pointer (some ⟨q,0,none⟩))] 221 (0,0)))∨
 (∃ ve' d' es' i r,Lkd w g gd v ve vl vp vs L ve' d' es' w'∧Calm B d d'∧Qbx d.files n ((n+3) / 4) 0 []=(es',some i)∧e=.returned (.iface 219 (.pointer (some ⟨r,0,none⟩)))∧w.heap.size≤r∧
   w'.heap[r]?=some (.cells #[.string (Yp i (min 4 (n-4*i))),.iface 370 (.pointer (some (f 5)))] 221 (0,0)))∨
 (∃ ve' d' es',Lkd w g gd v ve vl vp vs L ve' d' es' w'∧Calm B d d'∧Qbx d.files n ((n+3) / 4) 0 []=(es',none)∧e=.returned .nilIface)
variable {n:Nat} {d:List (List UInt8)}
theorem Qex (h:4*i<n):Qbx l n ((n+3) / 4-i) i d=match Z9 l i (min 4 (n-4*i)) with
  | none=>(d,some i)
  | some e=>Qbx l n ((n+3) / 4-(i+1)) (i+1) (d++e):=by
 obtain⟨m,hm⟩:∃ m,(n+3) / 4-i=m+1:=⟨(n+3) / 4-i-1,by omega⟩
 rw[hm,Qbx,show (n+3) / 4-(i+1)=m by omega]
 cases Z9 l i (min 4 (n-4*i)) <;> rfl
theorem Qq1 (h:n≤4*i):Qbx l n ((n+3) / 4-i) i d=(d,none):=by rw[show (n+3) / 4-i=0 by omega,Qbx]
theorem Q51 (f:Nat→Addr) (w:World) (g gd:Nat) (v ve vl vp:Value) (vs:List Value) (d:Dk) (L:Lg) (h:Zq w g gd ve vl vp vs L) (hD:Q1 w gd v d) (n N:Nat) (hE:EnvS f (fun k=>k=gd∨LogS g ve vl vp vs k) w)
  (hL:L.entries = []) (hn:n<9223372036854775808) (hN:FewB d.files N) (hN2:N≤1048576) (hc:d.calls<1000000000000) (hsz:∀ b∈d.files,b.2.size≤1048576) :
  Calls prog 161 #[.pointer (some ⟨g,0,none⟩),.int .i64 n] w (Q4l w g gd v ve vl vp vs d L f n (N+1)):=by
 have HE:=zh hE;have HN:=zh hN;have HZ:=zh hsz;have hg:=Qc h.cells;have ap:Lkd w g gd v ve vl vp vs L ve d [] w:=⟨hD,by rw[←hL];exact h,Fr.refl _ _,Sub.refl _ _⟩
 have HL:=zh ap;clear h hD hE hL hN hsz ap
 go_enter func161,ntmps161
 go_wp2
 go_loopg [5] (N+1) (fun gg s5 wr=>∃ i:Nat,i≤N∧N+1-i≤gg∧s5=.int .i64 i∧∃ a0 d1 c,Aside (Lkd w g gd v ve vl vp vs L a0 d1 c wr)∧Aside (Calm i d d1)∧Aside (Qbx d.files n ((n+3) / 4) 0 []=Qbx d.files n ((n+3) / 4-i) i c)∧Aside (c.length=min n (4*i))∧Aside (Qa9 d.files c)∧w.heap.size≤wr.heap.size)
 case atStart=>exact⟨0,Nat.zero_le _,by omega,rfl,ve,d,[],HL.o,Calm.refl d,rfl,by show [].length=_;simp,Qa9.nil _,Nat.le_refl _⟩
 case round=>
  obtain⟨i,hi,bo,rfl,a0,d1,c,A,P,X,J,bg,bq⟩:=hrel;obtain⟨⟨_,_,c2,_,_,_⟩,f0⟩:=A.o.log.heads;have ao:=A.o.log.ents;obtain⟨vsr,ad,_⟩:=ao;obtain⟨a1,F,rfl⟩:=Zi ad;clear ad;obtain⟨ln,V⟩:∃ ln,ln=c.length:=⟨_,rfl⟩
  have bu:wr.cell? ⟨g,2,none⟩=some (.slice a1 ln F):=by rw[V];exact c2
  have ae:ln=min n (4*i):=by rw[V];exact J.o
  have G:=zh V;clear c2 V;by_cases hlt:ln<n
  ·have a9:(ln:Int)<(n:Int):=by omega
   have ag:4*i<n:=by omega
   have B:=Qtu (-1) i n wr ag hn (HE.o.step A.o.fr (lks A.o.sub)).num;have bp:=zh ae;have H:=zh ag;clear ae ag;obtain⟨k,hk⟩:∃ k,k=min 4 (n-4*i):=⟨_,rfl⟩
   rw[←hk] at B;obtain⟨p,hp⟩:∃ p,p=Yp i k:=⟨_,rfl⟩
   rw[show sOf (Y4 (-1) (i:Int) (k:Int))=p from hp.symm] at B;have Y:d1.calls<1099511627776:=by have:=P.o.calls;omega
   have I:=P.o.files;have HK:=zh hk;have HP:=zh hp;have af:=zh I;clear hk hp;rcases Nat.eq_zero_or_pos (Zv d1) with h0|h0
   ·have ac:=zh (P.o.trans (Qjp h0))
    cases hget:getF d1.files p with
    | none=>
     have HG:=zh hget;clear hget I
     go_wp2_with (first
      | (go_at_call 191;refine B.mono ?_;rintro e w2 ⟨rfl,x⟩;have t:=zh (A.o.below x);have D:=zh x;clear x)
      | (go_at_call 202;refine (Qxa w2 g gd v _ _ _ _ d1 _ t.o.log t.o.disk p k Y h0 HG.o).mono ?_;rintro e w3 ⟨rfl,z,y⟩;have a:=zh (t.o.look z y);have O:=zh y;have am:=Y3 w3;have av:=Qgi w3 none 0 0;have s5:=(HE.o.step a.o.fr (lks a.o.sub)).sents.cells.2.2.2.2.2.1;clear z y)
      | (go_at_call 160;refine (Qot _ _ _ _).mono ?_;rintro e w4 ⟨u,rfl,⟨r,rfl,hr,E⟩,Q⟩;have HR:=zh E;have R:=zh (a.o.below Q);clear E Q))
     go_ret;refine .inr (.inl ⟨_,_,c,i,r,R.o,ac.o.more (by omega),?_,rfl,?_,?_⟩)
     ·rw[X.o,Qex H.o,←HK.o,Qfv (by rw[←HP.o,←af.o];exact HG.o)]
     ·have:=D.o.size;have:=O.o.size;omega
     ·rw[←HK.o,←HP.o];exact HR.o
    | some s=>
     have Z:s.size≤1048576:=by have:=HZ.o _ (Qai (by rw[←I];exact hget));exact this
     cases hu:unbW s k with
     | none=>
      have HG:=zh hget;have HU:=zh hu;clear hget I hu
      go_wp2_with (first
       | (go_at_call 191;refine B.mono ?_;rintro e w2 ⟨rfl,x⟩;have t:=zh (A.o.below x);have D:=zh x;clear x)
       | (go_at_call 202;refine (Q3c w2 g gd v _ _ _ _ d1 _ t.o.log t.o.disk p k Y h0 HG.o Z HU.o).mono ?_;rintro e w3 ⟨rfl,z,y⟩;have a:=zh (t.o.look z y);have O:=zh y;have am:=Y3 w3;have av:=Qgi w3 none 0 0;have s5:=(HE.o.step a.o.fr (lks a.o.sub)).sents.cells.2.2.2.2.2.1;clear z y)
       | (go_at_call 160;refine (Qot _ _ _ _).mono ?_;rintro e w4 ⟨u,rfl,⟨r,rfl,hr,E⟩,Q⟩;have HR:=zh E;have R:=zh (a.o.below Q);clear E Q))
      go_ret;refine .inr (.inl ⟨_,_,c,i,r,R.o,ac.o.more (by omega),?_,rfl,?_,?_⟩)
      ·rw[X.o,Qex H.o,←HK.o,Qfd (s:=s) (by rw[←HP.o,←af.o];exact HG.o),HU.o]
      ·have:=D.o.size;have:=O.o.size;omega
      ·rw[←HK.o,←HP.o];exact HR.o
     | some ls=>
      have K:Z9 d.files i k=some ls:=by rw[Qfd (s:=s) (by rw[←HP.o,←af.o];exact hget)];exact hu
      have W:=Qaw K;have aj:=bg.o.step (w:=k) (e:=ls) (i:=i) (by rw[J.o];have:=H.o;omega) K;have U:=aj.few HN.o;have an:c.length+ls.length≤1099511627776:=by rw[List.length_append] at U;omega
      have bc:0<ls.length:=by omega
      have aq:=zh aj;have a7:=zh K;have a8:=zh U;have aw:=zh W.1;have HG:=zh hget;have HU:=zh hu;obtain⟨i0,ay,ax,a4,ah⟩:=Qpu;have HI:=zh (⟨ay,ax,a4,ah⟩:_∧_∧_∧_);clear hget I hu K W aj U ay ax a4 ah
      go_wp2_with (first
       | (go_at_call 191;refine B.mono ?_;rintro e w2 ⟨rfl,x⟩;have t:=zh (A.o.below x);have D:=zh x;clear x)
       | (go_at_call 202;refine (Qwv w2 g gd v _ _ _ _ d1 _ t.o.log t.o.disk p k Y h0 HG.o Z HU.o).mono ?_;rintro e w3 ⟨b3,c3,rfl,az,z,y⟩;have a:=zh (t.o.look z y);have O:=zh y;have am:=Y3 w3;have av:=Qgi w3 (some ⟨b3,0,none⟩) ls.length c3;have T:=a.o.log.heads;have a3:=T.1.2.2.1;have bi:=T.2 2;have bf:=zh az;have a5:w3.cell? ⟨g,2,none⟩=some (.slice a1 ln F):=(by rw[G.o];exact a3);have bj:=Qc a.o.log.cells;clear z y az T a3)
       | (at_builtin;obtain⟨vsx,a2,au⟩:=a.o.log.ents;obtain⟨us,ab,al⟩:=bf.o;have M:w3.ownsRow 0 147 1 (.slice a1 ln F) ln vsx:=(by rw[G.o];exact a2);have ai:us.length=ls.length:=(by simpa using ab.1);refine Yr rfl _ _ _ rfl 0 147 i0 _ 1 24 underlying157 HI.o.1 HI.o.2.1 HI.o.2.2.1 HI.o.2.2.2 rfl (by decide) (by decide) (.slice a1 ln F) ln vsx (by rfl) M ⟨b3,0,none⟩ ls.length c3 us rfl (by omega) (ab.cells (g:=b3) rfl) (Qwm ai al) bc (by rw[G.o];exact an) (Nat.zero_le _) ?_;intro v' w' h2 h3 h4 h5;obtain⟨gb,cpb,rfl,br⟩:=Jm h2 h5;have H2:=zh h2;have H3:=zh (Fr.ofGrown (S:=fun k=>(Value.slice a1 ln F).ownBlock=some k) h3 fun k _ e=>e);have H4:=zh h4;have aa:¬ (Value.slice a1 ln F).ownBlock=some g:=(fun e=>by obtain⟨C,hC⟩:=Qe M e;exact Zp a.o.log.cells hC (by decide) rfl);have bt:=zh ai;have bd:=zh al;have be:=zh M;have bl:=zh au;go_must (have k3:=H3.o.cell a5 aa;have k4:=(H3.o.frozen (p:=⟨g,2,none⟩) bj aa).trans bi;clear h2 h3 h4 h5 ai al M au a2 ab aa)))
      go_roundg (N+1-(i+1))
      case measure=>omega
      case rel=>
       have ba:Ja w' 0 (.slice (some ⟨gb,0,none⟩) (ln+ls.length) cpb) (c++ls):=by exact Ja.push be.o bl.o G.o H3.o H2.o (by rw[G.o]) (fun j u l hu hl=>(bd.o j u l hu hl).mono (Nat.zero_le _))
       have bk:J2 w3 (.slice a1 c.length F) (.slice (some ⟨gb,0,none⟩) (ln+ls.length) cpb):=by rw[←G.o];exact H4.o
       have bm:Fr (fun k=>(Value.slice a1 c.length F).ownBlock=some k) w3 w':=by rw[←G.o];exact H3.o
       have hp:=a.o.log.setEnts bm ba bk;have a6:w.heap.size≤w3.heap.size:=by have:=D.o.size;have:=O.o.size;omega
       have bn:w3.heap.size≤(w'.setCell ⟨g,2,none⟩ (.slice (some ⟨gb,0,none⟩) (ln+ls.length) cpb)).heap.size:=hp.2.1.size;refine⟨i+1,?_,by omega,by go_num,_,_,_,a.o.ents hp.1 hp.2.1 hp.2.2 a6,ac.o,?_,?_,aq.o,by omega⟩
       ·have:=a8.o;have:=HN.o (i+1) fun j hj=>aq.o.has j (by rw[List.length_append,J.o,aw.o,HK.o];have:=H.o;omega);exact this
       ·show Qbx _ _ _ _ _=_
        rw[X.o,Qex H.o,←HK.o,a7.o]
       ·show (c++ls).length=_
        rw[List.length_append,J.o,aw.o,HK.o]
        have:=H.o
        omega
   ·have bb:=zh (P.o.hurt (Qju h0))
    clear I
    go_wp2_with (first
     | (go_at_call 191;refine B.mono ?_;rintro e w2 ⟨rfl,x⟩;have t:=zh (A.o.below x);have D:=zh x;clear x)
     | (go_at_call 202;refine (Q3i w2 g gd v _ _ _ _ d1 _ t.o.log t.o.disk p k Y h0).mono ?_;rintro e w3 ⟨q,m,r,rfl,hq,hr,ar,E,z,y⟩;have a:=zh (t.o.look z y);have HQ:=zh ar;have HR:=zh E;have am:=Qax w3 219 (.pointer (some ⟨r,0,none⟩));clear z y ar E))
    go_ret;refine .inl ⟨_,_,c,i,q,m,r,a.o,bb.o.more (by omega),rfl,?_,?_,HQ.o,?_⟩
    ·have:=D.o.size;omega
    ·have:=D.o.size;omega
    ·rw[←HK.o,←HP.o];exact HR.o
  ·have a9:¬ (ln:Int)<(n:Int):=by omega
   have ak:n≤4*i:=by omega
   have bh:=zh ak;clear ae ak;go_wp2;go_ret;refine .inr (.inr ⟨_,d1,c,A.o,P.o.more (by omega),?_,rfl⟩);rw[X.o,Qq1 bh.o]
end
section
theorem Qyf {w:World} {v1 v2:Value} {l1 l2:List UInt8} (h1:Q8 w v1 l1) (h2:Q8 w v2 l2):Calls prog 203 #[v1,v2] w fun e w'=>e=.returned (.bool (l1 == l2))∧w'=w:=by
 have e:∀ l:List UInt8,Lib.bytesOf (l.map fun c=>(c.toNat:Int))=l:=by
  intro l;unfold Lib.bytesOf;rw[List.map_map]
  conv=>rhs;rw[←List.map_id l]
  exact List.map_congr_left fun c _=>by simp
 have e2:∀ l:List UInt8,strOfNums (l.map fun c=>(c.toNat:Int))=⟨l.toArray⟩:=by
  intro l
  have:=e l
  unfold Lib.bytesOf at this;unfold strOfNums;rw[this]
 have h:=bytes_Equal v1 v2 (l1.map fun c=>(c.toNat:Int)) (l2.map fun c=>(c.toNat:Int)) w (by rw[e2];exact Qeu h1) (by rw[e2];exact Qeu h2);rw[e,e] at h;exact h
def Q1g (w:World) (g gd:Nat) (v ve vl vp:Value) (vs:List Value) (d:Dk) (L:Lg) (B:Nat) (e:Ending) (w':World):Prop:=
 (∃ d' q m r p,Lkd w g gd v ve vl vp vs L ve d' L.entries w'∧Hurt B d d'∧e=.returned (.tuple #[.bool false,.iface 219 (.pointer (some ⟨r,0,none⟩))])∧w.heap.size≤q∧w.heap.size≤r∧w'.heap[q]?=some (.cells #[.int .i64 m] 398 (0,0))∧
   w'.heap[r]?=some (.cells #[.string p,.iface 218 (.pointer (some ⟨q,0,none⟩))] 221 (0,0)))∨
 (∃ ve' d',Lkd w g gd v ve vl vp vs L ve' d' (L.entries++(Zo d.files L.entries).1) w'∧Calm B d d'∧e=.returned (.tuple #[.bool (Zo d.files L.entries).2,.nilIface]))
variable {l:List Fil} {d:List (List UInt8)} {k:Nat}
theorem Qh7 (h:k≤d.length%4):Z0 l d k=([],false):=by
 cases k with
 | zero=>rfl
 | succ k=>rw[Z0,if_pos h]
theorem Qi5 (h:d.length%4<k) (hg:getF l (Yp (d.length / 4) k)=none):Z0 l d k=Z0 l d (k-1):=by
 cases k with
 | zero=>omega
 | succ k=>rw[Z0,if_neg (by omega),hg];rfl
variable {s:ByteArray}
theorem Qkq (h:d.length%4<k) (hg:getF l (Yp (d.length / 4) k)=some s) (hb:Z9 l (d.length / 4) k=none):Z0 l d k=([],false):=by
 cases k with
 | zero=>omega
 | succ k=>rw[Z0,if_neg (by omega),hg,hb];rfl
theorem Qi8 {e:List (List UInt8)} (h:d.length%4<k) (hg:getF l (Yp (d.length / 4) k)=some s) (hb:Z9 l (d.length / 4) k=some e) :
  Z0 l d k=if e.take (d.length%4)=d.drop (4*(d.length / 4)) then (e.drop (d.length%4),decide (k=4)) else ([],false):=by
 cases k with
 | zero=>omega
 | succ k=>rw[Z0,if_neg (by omega),hg,hb];rfl
theorem Qtk (f:Nat→Addr) (w:World) (g gd:Nat) (v ve vl vp:Value) (vs:List Value) (d:Dk) (L:Lg) (h:Zq w g gd ve vl vp vs L) (hD:Q1 w gd v d) (hE:EnvS f (fun k=>k=gd∨LogS g ve vl vp vs k) w)
  (hT:Qa9 d.files L.entries) (hlen:L.entries.length<1000000000000) (hc:d.calls<1000000000000) (hsz:∀ b∈d.files,b.2.size≤1048576) :
  Calls prog 162 #[.pointer (some ⟨g,0,none⟩)] w (Q1g w g gd v ve vl vp vs d L 4):=by
 have HE:=zh hE;have HZ:=zh hsz;have HT:=zh hT;have hg:=Qc h.cells;have HL:=zh (⟨hD,h,Fr.refl _ _,Sub.refl _ _⟩:Lkd w g gd v ve vl vp vs L ve d L.entries w);obtain⟨⟨_,_,c2,_,_,_⟩,f0⟩:=h.heads;obtain⟨vsr,O,bg⟩:=h.ents;obtain⟨a1,c,rfl⟩:=Zi O;obtain⟨ln,al⟩:∃ ln,ln=L.entries.length:=⟨_,rfl⟩
 rw[←al] at c2 hlen;have Z:ln≤c∧(0<ln→∃ b1,a1=some ⟨b1,0,none⟩):=by
  rcases O.2 with ⟨e,h0⟩|⟨b,cap,cur,e,_,_,b7,_⟩
  ·exact⟨by omega,fun h=>by omega⟩
  ·simp at e
   exact⟨by omega,fun _=>⟨b,e.1⟩⟩
 obtain⟨Z,an⟩:=Z;have bq:=zh an;clear an;have z:=zh al;have cm:=zh O;have c0:=zh bg;clear h hD hE hT hsz al O bg
 go_enter func162,ntmps162
 obtain⟨q,hq⟩:∃ q,q=ln / 4:=⟨_,rfl⟩
 obtain⟨hn,bd⟩:∃ hn,hn=ln%4:=⟨_,rfl⟩
 have cb:(ln:Int) / 4=(q:Int):=by omega
 have cl:(q:Int)*4≤(ln:Int):=by omega
 have ao:(0:Int)≤(q:Int)*4:=by omega
 have X:ln-q*4=hn:=by omega
 have HQ:=zh hq;have Q:=zh bd;have aj:hn<4:=by omega
 have cy:q<9223372036854775808:=by omega
 clear hq bd
 go_upto_region 2 with fail
 go_cut [5] from 18 to 24 (fun s5 wx=>w=wx∧∃ av cv,s5=.slice av hn cv∧Aside (0<hn→∃ b1,a1=some ⟨b1,0,none⟩∧av=some ⟨b1,q*4,none⟩))
 case first=>
  by_cases J:c=q*4
  ·subst J
   go_wp2_with fail
   go_meet;exact⟨rfl,_,_,by rw[X],fun h=>by omega⟩
  ·go_wp2_with fail
   go_meet;refine⟨rfl,_,_,by rw[X],fun h=>?_⟩;obtain⟨b1,rfl⟩:=bq.o (by omega);exact⟨b1,rfl,by simp[Addr.add_lit]⟩
 case rest=>
  obtain⟨rfl,av,cv,rfl,cg⟩:=hcut;clear Z cb cl ao X
  go_wp2_with fail
  go_loopg [6] 4 (fun gg s6 wr=>∃ k:Nat,k≤4∧k≤gg∧s6=.int .i64 k∧hn≤k∧∃ d1,Aside (Lkd w g gd v (.slice a1 L.entries.length c) vl vp vs L (.slice a1 L.entries.length c) d1 L.entries wr)∧Aside (Calm (4-k) d d1)∧Aside (Zo d.files L.entries=Z0 d.files L.entries k)∧w.heap.size≤wr.heap.size)
  case atStart=>exact⟨4,by omega,by omega,rfl,by omega,d,HL.o,Calm.refl d,rfl,Nat.le_refl _⟩
  case round=>
   obtain⟨k,ct,cn,rfl,c5,d1,H,U,af,cq⟩:=hrel;by_cases hlt:hn<k
   ·have bx:(hn:Int)<(k:Int):=by omega
    have cj:=HE.o.step H.o.fr (lks H.o.sub);have F:=Qny (-1) (q:Int) (k:Int) wr (by omega) cj.num;obtain⟨p,hp⟩:∃ p,p=Yp q k:=⟨_,rfl⟩
    rw[show sOf (Y4 (-1) (q:Int) (k:Int))=p from hp.symm] at F;have ah:d1.calls<1099511627776:=by have:=U.o.calls;omega
    have N:=U.o.files;have aw:L.entries.length%4<k:=by have:=z.o;have:=Q.o;omega
    have be:p=Yp (L.entries.length / 4) k:=by rw[hp,HQ.o,z.o]
    have Y:=zh aw;have bo:=zh be;have bi:=zh N;clear hp aw be;rcases Nat.eq_zero_or_pos (Zv d1) with h0|h0
    ·have ad:=zh ((U.o.trans (Qjp h0)).more (show 4-k+1≤4-(k-1) by omega))
     cases hget:getF d1.files p with
     | none=>
      have HG:=zh hget;clear hget N
      go_wp2_with (first
       | (go_at_call 156;refine F.mono ?_;rintro e w2 ⟨rfl,n⟩;have i:=zh (H.o.below n);have G:=zh n;clear n)
       | (go_at_call 202;refine (Qxa w2 g gd v _ _ _ _ d1 _ i.o.log i.o.disk p k ah h0 HG.o).mono ?_;rintro e w3 ⟨rfl,a,t⟩;have y:=zh (i.o.look a t);have ac:=zh t;have aj:=Y3 w3;clear a t))
      go_roundg (k-1)
      case measure=>omega
      case rel=>
       refine⟨k-1,by omega,by omega,by go_num,by omega,_,y.o,ad.o,?_,by have:=G.o.size;have:=ac.o.size;omega⟩;show Zo _ _=_;rw[af.o,Qi5 Y.o (by rw[←bo.o,←bi.o];exact HG.o)]
     | some s=>
      have ak:s.size≤1048576:=HZ.o _ (Qai (by rw[←N];exact hget));have B:getF d.files (Yp (L.entries.length / 4) k)=some s:=by rw[←bo.o,←bi.o];exact hget
      cases hu:unbW s k with
      | none=>
       have K:Z9 d.files (L.entries.length / 4) k=none:=by rw[Qfd B];exact hu
       have HG:=zh hget;have HU:=zh hu;have A:Zo d.files L.entries=([],false):=by rw[af.o,Qkq Y.o B K]
       have T:=zh A;clear hget N hu B K A
       go_wp2_with (first
        | (go_at_call 156;refine F.mono ?_;rintro e w2 ⟨rfl,n⟩;have i:=zh (H.o.below n);have G:=zh n;clear n)
        | (go_at_call 202;refine (Q3c w2 g gd v _ _ _ _ d1 _ i.o.log i.o.disk p k ah h0 HG.o ak HU.o).mono ?_;rintro e w3 ⟨rfl,a,t⟩;have y:=zh (i.o.look a t);have ac:=zh t;have aj:=Y3 w3;have ao:=Qgi w3 none 0 0;clear a t))
       go_ret2;refine .inr ⟨.slice a1 L.entries.length c,Zj d1,?_,ad.o.more (by omega),by rw[T.o];rfl⟩;rw[T.o,List.append_nil];exact y.o
      | some ls=>
       have K:Z9 d.files (L.entries.length / 4) k=some ls:=by rw[Qfd B];exact hu
       have aa:=(Qaw K).1;have HG:=zh hget;have HU:=zh hu;have A:Zo d.files L.entries=if ls.take (L.entries.length%4)=L.entries.drop (4*(L.entries.length / 4)) then (ls.drop (L.entries.length%4),decide (k=4)) else ([],false):=by rw[af.o,Qi8 Y.o B K]
       have T:=zh A;have ag:=zh aa;clear hget N hu B K A aa
       go_wp2_with (first
        | (go_at_call 156;refine F.mono ?_;rintro e w2 ⟨rfl,n⟩;have i:=zh (H.o.below n);have G:=zh n;clear n)
        | (go_at_call 202;refine (Qwv w2 g gd v _ _ _ _ d1 _ i.o.log i.o.disk p k ah h0 HG.o ak HU.o).mono ?_;rintro e w3 ⟨b3,c3,rfl,bl,a,t⟩;have y:=zh (i.o.look a t);have ac:=zh t;have bp:=zh bl;have aj:=Y3 w3;have ao:=Qgi w3 (some ⟨b3,0,none⟩) ls.length c3;clear a t bl))
       go_loopg [50,10,11] hn (fun gg s50 _ _ wx=>∃ jj:Nat,jj≤hn∧hn-jj≤gg∧s50=.int .i64 jj∧w3=wx∧Aside (∀ j,j<jj→ls[j]?=L.entries[4*q+j]?))
       case atStart=>
        refine⟨0,by omega,by omega,rfl,rfl,?_⟩;show ∀ j,j<0→_;intro j hj;omega
       case round=>
        obtain⟨jj,cr,cx,rfl,rfl,HJ⟩:=hrel;by_cases hlt2:jj<hn
        ·have a3:(jj:Int)<(hn:Int):=by omega
         obtain⟨b1,b5,rfl⟩:=cg.o (by omega);subst b5;obtain⟨V,D,W⟩:=y.o.log.ents;obtain⟨us,E,M⟩:=bp.o;have bb:4*q+jj<L.entries.length:=by have:=HQ.o;have:=Q.o;have:=z.o;omega
         have ce:V.length=L.entries.length:=by simpa using D.1
         have R:us.length=ls.length:=by simpa using E.1
         obtain⟨u1,ar⟩:∃ u,V[4*q+jj]?=some u:=⟨_,List.getElem?_eq_getElem (by omega)⟩
         obtain⟨u2,am⟩:∃ u,us[jj]?=some u:=⟨_,List.getElem?_eq_getElem (by have:=ag.o;omega)⟩
         obtain⟨x1,ax⟩:∃ x,L.entries[4*q+jj]?=some x:=⟨_,List.getElem?_eq_getElem bb⟩
         obtain⟨x2,az⟩:∃ x,ls[jj]?=some x:=⟨_,List.getElem?_eq_getElem (by have:=ag.o;omega)⟩
         have k1:w3.cell? ⟨b1,q*4+jj,none⟩=some u1:=by have h1:=D.cells (g:=b1) rfl (4*q+jj) u1 ar;rw[Addr.add_lit] at h1;simpa [Nat.mul_comm] using h1
         have k2:w3.cell? ⟨b3,jj,none⟩=some u2:=by have h1:=E.cells (g:=b3) rfl jj u2 am;rw[Addr.add_lit] at h1;simpa using h1
         have cu:(0:Int)≤(jj:Int):=by omega
         have cz:(jj:Int)<(ls.length:Int):=by have:=ag.o;omega
         have J:=Qyf (W _ _ _ ar ax).at (M _ _ _ am az).at;have a6:=zh ax;have bc:=zh az;clear D W E M bb ce R ar am ax az;cases hbb:(x1 == x2) with
         | true=>
          rw[hbb] at J;have P:x1=x2:=by simpa using hbb
          have ap:=zh P;clear hbb P
          go_wp2_with (go_at_call 203;refine J.mono ?_;rintro e w4 ⟨rfl,rfl⟩)
          go_roundg (hn-(jj+1))
          case measure=>omega
          case rel=>
           refine⟨jj+1,by omega,by omega,by go_num,rfl,?_⟩;show ∀ j,j<jj+1→_;intro j hj;by_cases hjk:j=jj
           ·subst hjk
            rw[a6.o,bc.o,ap.o]
           ·exact HJ.o j (by omega)
         | false=>
          rw[hbb] at J;have P:x1≠x2:=by simpa using hbb
          have ap:=zh P;clear hbb P
          go_wp2_with (go_at_call 203;refine J.mono ?_;rintro e w4 ⟨rfl,rfl⟩)
          go_ret2;have A:Zo d.files L.entries=([],false):=by
           rw[T.o,if_neg];intro e;have h1:(ls.take (L.entries.length%4))[jj]?=(L.entries.drop (4*(L.entries.length / 4)))[jj]?:=by rw[e]
           rw[List.getElem?_take_of_lt (by have:=Q.o;have:=z.o;omega),List.getElem?_drop,bc.o,show 4*(L.entries.length / 4)+jj=4*q+jj by have:=HQ.o;have:=z.o;omega,a6.o] at h1;exact ap.o (Option.some.inj h1).symm
          refine .inr ⟨.slice (some ⟨b1,0,none⟩) L.entries.length c,Zj d1,?_,ad.o.more (by omega),by rw[A];rfl⟩;rw[A,List.append_nil];exact y.o
        ·have a3:¬ (jj:Int)<(hn:Int):=by omega
         have a9:jj=hn:=by omega
         have ci:=zh a9;clear a9;obtain⟨i0,bk,bj,a0,aq⟩:=Qpu;have HI:=zh (⟨bk,bj,a0,aq⟩:_∧_∧_∧_);clear bk bj a0 aq;have a:=y.o.log.heads;have bm:=a.1.2.2.1;have b8:=a.2 2;have cc:=Qc y.o.log.cells;have br:w3.cell? ⟨g,2,none⟩=some (.slice a1 ln c):=by rw[z.o];exact bm
         obtain⟨V,D,W⟩:=y.o.log.ents;obtain⟨us,E,M⟩:=bp.o;have I:w3.ownsRow 0 147 1 (.slice a1 ln c) ln V:=by rw[z.o];exact D
         have R:us.length=ls.length:=by simpa using E.1
         have ba:¬ (Value.slice a1 ln c).ownBlock=some g:=fun e=>by obtain⟨C,hC⟩:=Qe I e;exact Zp y.o.log.cells hC (by decide) rfl
         have aa:=ag.o;have c4:ls.length≤c3:=by
          rcases E.2 with ⟨e,_⟩|⟨b,cap,cur,e,_,_,b7,_⟩
          ·cases e
          ·simp at e;omega
         have c1:(hn:Int)≤(ls.length:Int):=by omega
         have a0:(0:Int)≤(hn:Int):=by omega
         have cp:¬ c3=hn:=by omega
         have ab:∀ (j:Nat) (u:Value),(us.drop hn)[j]?=some u→w3.drew.cell? ((⟨b3,hn,none⟩:Addr).add j)=some u:=by intro j u hj;rw[List.getElem?_drop] at hj;have h1:=E.cells (g:=b3) rfl (hn+j) u hj;rw[Addr.add_lit] at h1 ⊢;simpa using h1
         have ae:∀ u∈us.drop hn,u.oneCell'=true:=fun u hu=>Qwm R M u (List.mem_of_mem_drop hu)
         have bn:(us.drop hn).length=(ls.length-hn)*1:=by rw[List.length_drop];omega
         have a2:0<ls.length-hn:=by omega
         have au:ln+(ls.length-hn)≤1099511627776:=by omega
         obtain⟨ck,co,ay⟩:∃ ck,((k:Int) == 4)=ck∧ck=decide (k=4):=⟨_,rfl,by rw[Bool.eq_iff_iff];simp;omega⟩
         have b4:=zh ay;have ai:=zh I;have cf:=zh W;have cw:=zh R;have b2:=zh M;have a4:=zh ab;have a5:=zh ae;have b6:=zh bn;have bu:=zh a2;have bt:=zh au;have a7:=zh ba;clear ay D I W R M E ab ae bn a2 au ba a bm aa
         go_upto_region 18 with fail
         go_region_law (refine Qcp rfl _ _ _ rfl 0 147 i0 _ 1 24 underlying157 HI.o.1 HI.o.2.1 HI.o.2.2.1 HI.o.2.2.2 rfl (by decide) (by decide) (.slice a1 ln c) ln V rfl (Ql ai.o (Qn w3)) ⟨b3,hn,none⟩ (ls.length-hn) (c3-hn) (us.drop hn) rfl b6.o a4.o a5.o bu.o bt.o (Nat.zero_le _) ?_;intro v' w' h2 h3 h4 h5;obtain⟨gb,cpb,rfl,cs⟩:=Jm h2 h5;have H2:=zh h2;have H3:=zh ((Fr.ofBelow (S:=fun k=>(Value.slice a1 ln c).ownBlock=some k) (Qn w3)).trans (Fr.ofGrown h3 fun k _ e=>e));have H4:=zh ((J2.refl w3 (.slice a1 ln c)).trans h4 (by simp));have k3:=H3.o.cell br a7.o;have k4:=(H3.o.frozen (p:=⟨g,2,none⟩) cc a7.o).trans b8;clear h2 h3 h4 h5)
         all_goals (
          go_wp2_with fail
          go_ret2
          have A:Zo d.files L.entries=(ls.drop hn,decide (k=4)):=by
           have hm:L.entries.length%4=hn:=by have:=Q.o;have:=z.o;omega
           have X:4*(L.entries.length / 4)=4*q:=by have:=HQ.o;have:=z.o;omega
           rw[T.o,hm,X,if_pos]
           apply List.ext_getElem?
           intro j
           by_cases hj:j<hn
           ·rw[List.getElem?_take_of_lt hj,List.getElem?_drop]
            exact HJ.o j (by have:=ci.o;omega)
           ·rw[List.getElem?_eq_none (by rw[List.length_take];omega),List.getElem?_eq_none (by rw[List.length_drop];omega)]
          have bz:Ja w' 0 (.slice (some ⟨gb,0,none⟩) (ln+(ls.length-hn)) cpb) (L.entries++ls.drop hn):=
           Ja.push (ls':=ls.drop hn) ai.o cf.o z.o H3.o H2.o (by rw[z.o,List.length_drop]) (fun j u l hu hl=>by
            rw[List.getElem?_drop] at hu hl
            exact (b2.o (hn+j) u l hu hl).mono (Nat.zero_le _))
          have cd:J2 w3 (.slice a1 L.entries.length c) (.slice (some ⟨gb,0,none⟩) (ln+(ls.length-hn)) cpb):=by rw[←z.o];exact H4.o
          have ch:Fr (fun k=>(Value.slice a1 L.entries.length c).ownBlock=some k) w3 w':=by rw[←z.o];exact H3.o
          have hp:=y.o.log.setEnts ch bz cd
          have bw:w.heap.size≤w3.heap.size:=by have:=G.o.size;have:=ac.o.size;omega
          refine .inr ⟨.slice (some ⟨gb,0,none⟩) (ln+(ls.length-hn)) cpb,Zj d1,?_,ad.o.more (by omega),by rw[A,←b4.o];rfl⟩
          rw[A]
          exact y.o.ents hp.1 hp.2.1 hp.2.2 bw)
    ·have b0:=zh ((U.o.hurt (Qju h0)).more (show 4-k+1≤4 by omega))
     clear N
     go_wp2_with (first
      | (go_at_call 156;refine F.mono ?_;rintro e w2 ⟨rfl,n⟩;have i:=zh (H.o.below n);have G:=zh n;clear n)
      | (go_at_call 202;refine (Q3i w2 g gd v _ _ _ _ d1 _ i.o.log i.o.disk p k ah h0).mono ?_;rintro e w3 ⟨q3,m,r,rfl,hq,hr,a8,bf,a,t⟩;have y:=zh (i.o.look a t);have b9:=zh a8;have HR:=zh bf;have aj:=Qax w3 219 (.pointer (some ⟨r,0,none⟩));clear a t a8 bf))
     go_ret2;refine .inl ⟨_,q3,m,r,p,y.o,b0.o,rfl,?_,?_,b9.o,HR.o⟩
     ·have:=G.o.size;omega
     ·have:=G.o.size;omega
   ·have bx:¬ (hn:Int)<(k:Int):=by omega
    have bh:k≤L.entries.length%4:=by have:=z.o;have:=Q.o;omega
    have ca:=zh bh;clear bh
    go_wp2_with fail
    go_ret2;have A:Zo d.files L.entries=([],false):=by rw[af.o];exact Qh7 ca.o
    refine .inr ⟨.slice a1 L.entries.length c,d1,?_,U.o.more (by omega),by rw[A];rfl⟩;rw[A,List.append_nil];exact H.o
end
section
theorem Q7s:∃ i,prog.info? 133=some i∧i.zero=some (.slice none 0 0)∧i.size=1∧i.bytes=24:=by
 have h:(prog.info? 133).map (fun i=>(i.zero,i.size,i.bytes))=some (some (.slice none 0 0),1,24):=by kernel_rfl
 cases hi:prog.info? 133 with
 | none=>rw[hi] at h;simp at h
 | some i=>rw[hi] at h;simp at h;exact⟨i,rfl,h.1,h.2.1,h.2.2⟩
theorem Q1p {w w':World} {q:Nat} {y:Hsh} {S:Nat→Prop} (hy:Qw w q y) (hf:Fr S w w') (hS:¬ S q):Qw w' q y:=hf.heap hy hS
theorem Fr.setRow (w:World) (g:Nat) (cs:Array Value):Fr (·=g) w (w.setRow g cs):=⟨rfl,rfl,rfl,by simp,fun b hb hn=>setRow_other w g b cs hn⟩
theorem Q30 (h:Hsh):Qd7 [] h=Qd7 [[]] h:=by simp[Qd7]
theorem Zaa:∃ i,prog.info? 143=some i∧i.zero=some (.agg (h8 zero8))∧i.size=8∧i.bytes=8:=by
 have h:(prog.info? 143).map (fun i=>(i.zero,i.size,i.bytes))=some (some (.agg zc),8,8):=by kernel_rfl
 cases hi:prog.info? 143 with
 | none=>rw[hi] at h;simp at h
 | some i=>rw[hi] at h;simp at h;exact⟨i,rfl,by rw[Qmw];exact h.1,h.2.1,h.2.2⟩
theorem Q9s (y:Hsh):Array.foldl (fun (cs:Array Value) (x:Value×Nat)=>cs.setIfInBounds x.snd x.fst) zc (h8 y).zipIdx 0 8=h8 y:=by rw[←Qbm y];simp
theorem Qzl (w:World) (y:Hsh) (t:TypeId) (n:Nat) (hn:n=w.heap.size):∀ (j:Nat) (u:Value),(h8 y).toList[j]?=some u→(w.alloc (.cells (h8 y) t)).cell? ((⟨n,0,none⟩:Addr).add j)=some u:=by intro j u hu;rw[Addr.add_lit,World.cell?_alloc_at _ _ _ _ hn];simpa using hu
theorem Q7u (y:Hsh):∀ u∈(h8 y).toList,u.oneCell'=true:=by intro u hu;have h:=Qpb y;rw[Array.all_eq_true'] at h;exact h u (by simpa using hu)
section
attribute [local go_sem] h8_0 h8_1 h8_2 h8_3 h8_4 h8_5 h8_6 h8_7 Qbm h8_size Qci Qa7 Q9s
theorem Qxd (w:World) (g gd:Nat) (ve vl vp:Value) (vs:List Value) (L:Lg) (h:Zq w g gd ve vl vp vs L) (x:Hsh) (hn:L.levels.length<1048576) (hr:∀ r∈L.levels,r.length<1099511627776) :
  Calls prog 163 #[.pointer (some ⟨g,0,none⟩),.agg (h8 x)] w fun e w'=>e=.returned (.tuple #[])∧∃ vl' vs',Zq w' g gd ve vl' vp vs' { L with levels:=Qd7 L.levels x }∧Fr (LvS g ve vl vp vs) w w'∧
   Sub w (LvS g ve vl vp vs) (LvS g ve vl' vp vs'):=by
 have HH:=zh h;have hg:=Qc h.cells;have HN:=zh hn;have HR:=zh hr;obtain⟨i,hi,hz,hs,b5⟩:=Q7s;have HI:=zh (⟨hi,hz,hs,b5⟩:_∧_∧_∧_);clear hi hz hs b5 h hr
 go_enter func163,ntmps163
 go_wp2
 go_loopg [4,5,6] (L.levels.length+1) (fun gg s4 _ _ wr=>∃ j:Nat,j≤L.levels.length∧L.levels.length+1-j≤gg∧s4=.int .i64 j∧∃ ap v Lv y,Aside (Zq wr g gd ve ap vp v { L with levels:=Lv })∧Qw wr w.heap.size y∧
  Lv.length=L.levels.length∧Aside (Qd7 L.levels x=Lv.take j++Qd7 (Lv.drop j) y)∧Aside (∀ (i:Nat) (r:List Hsh),j≤i→Lv[i]?=some r→r.length<1099511627776)∧Aside (Fr (LvS g ve vl vp vs) w wr)∧Aside (Sub (w.alloc (.cells (h8 x) 143)) (LvS g ve vl vp vs) (LvS g ve ap vp v)))
 case atStart=>
  refine⟨0,Nat.zero_le _,by omega,rfl,vl,vs,L.levels,x,HH.o.below (Qa _ _),Qe3 _ _,rfl,?_,?_,Fr.ofBelow (Qa _ _),Sub.refl _ _⟩
  ·show Qd7 L.levels x=_
   simp
  ·show ∀ (i:Nat) (r:List Hsh),_→_→_
   exact fun i r _ hr=>HR.o r (List.mem_of_getElem? hr)
 case round=>
  obtain⟨j,hj,c0,rfl,ap,v,Lv,y,HL,hy,bd,HG,HB,HF,HS⟩:=hrel;have hd:=HL.o.heads;obtain⟨⟨_,_,_,c3,_,_⟩,f0⟩:=hd;obtain⟨a,c,rfl⟩:=Zi HL.o.rows;have HY:=zh hy;have a7:=zh bd;clear hy;obtain⟨nl,av⟩:∃ nl,nl=Lv.length:=⟨_,rfl⟩
  obtain⟨cj,aq,bw⟩:∃ cj,((j:Int) == (nl:Int))=cj∧cj=decide (j=nl):=⟨_,rfl,by rw[Bool.eq_iff_iff];simp;omega⟩
  have bt:=zh bw;clear bw;have A:wr.cell? ⟨g,3,none⟩=some (.slice a nl c):=by rw[av];exact c3
  have b0:=zh (show ¬ (Value.slice a nl c).ownBlock=some g by rw[av];exact HL.o.rowsNe);have aw:=zh av;clear bd av c3
  go_upto_if 15 with fail
  go_cut [] from 7 to 76 (fun wx=>∃ ay n Lv2,Aside (Zq wx g gd ve ay vp n { L with levels:=Lv2 })∧Qw wx w.heap.size y∧j<Lv2.length∧(Lv2.length=L.levels.length∨Lv2[j]?=some [])∧Lv2.length≤L.levels.length+1∧
   Aside (Qd7 L.levels x=Lv2.take j++Qd7 (Lv2.drop j) y)∧Aside (∀ (i:Nat) (r:List Hsh),j≤i→Lv2[i]?=some r→r.length<1099511627776)∧Aside (Fr (LvS g ve vl vp vs) w wx)∧Aside (Sub (w.alloc (.cells (h8 x) 143)) (LvS g ve vl vp vs) (LvS g ve ay vp n)))
  case first=>
   cases cj with
   | true=>
    have cy:=zh (show j=nl from of_decide_eq_true bt.o.symm);clear aq
    go_wp2_with (at_builtin;refine Yr rfl _ _ _ rfl 0 133 i _ 1 24 underlying235 HI.o.1 HI.o.2.1 HI.o.2.2.1 HI.o.2.2.2 rfl (by decide) (by decide) (.slice a nl c) nl v (by rfl) (by have h1:=Ql HL.o.rows (Qa wr (.cells #[.slice none 0 0] 133));rw[aw.o];exact h1) ⟨wr.heap.size,0,none⟩ 1 1 [.slice none 0 0] rfl rfl (cell_one_new _ _ _) (by simp[Value.oneCell']) (by decide) (by have:=a7.o;have:=aw.o;omega) (Nat.zero_le _) ?_;intro v' w' h2 h3 h4 h5;obtain⟨gb,cp,rfl,co⟩:=Jm h2 h5;have H2:=zh h2;have H3:=zh ((Fr.ofBelow (S:=fun k=>(Value.slice a nl c).ownBlock=some k) (Qa wr (.cells #[.slice none 0 0] 133))).trans (Fr.ofGrown h3 fun k _ e=>e));have H4:=zh ((J2.refl wr (.slice a nl c)).trans h4 (by simp));go_must (have k3:=H3.o.cell A b0.o;have k4:=(H3.o.frozen (p:=⟨g,3,none⟩) (Qk A) b0.o).trans (f0 3);clear h2 h3 h4 h5))
    go_meet;have e1:=aw.o;subst e1;have e2:=a7.o;have hp:=HL.o.pushLevel H3.o H2.o H4.o;have ck:=Q1p HY.o hp.2.1;have b1:j=Lv.length:=cy.o;have a9:(w.alloc (.cells (h8 x) 143)).heap.size≤wr.heap.size:=by have:=Qc HY.o;simp;omega
    have bc:¬ LvS g ve (.slice a Lv.length c) vp v w.heap.size:=fun hq=>by
     rcases HS.o _ hq with h1|h1
     ·obtain⟨_,_,hC,_⟩:=HH.o.kinds h1.log
      exact absurd (Qc hC) (by omega)
     ·simp at h1
      omega
    refine⟨_,_,_,hp.1,ck bc,by simp;omega,.inr (by rw[b1];simp),by simp;omega,?_,?_,Fr.sub HF.o hp.2.1 (HS.o.mono (by simp)),HS.o.trans hp.2.2 a9⟩
    ·show Qd7 L.levels x=_
     rw[HG.o,b1];simp[Q30]
    ·show ∀ (i:Nat) (r:List Hsh),_→(Lv ++ [[]])[i]?=some r→_
     intro i r hi hr;rcases List.mem_append.1 (List.mem_of_getElem? hr) with h1|h1
     ·by_cases hlt:i<Lv.length
      ·omega
      ·rw[List.getElem?_append_right (by omega)] at hr
       have:=List.mem_of_getElem? hr
       simp at this;subst this;simp
     ·simp at h1
      subst h1;simp
   | false=>
    have bi:=zh (of_decide_eq_false bt.o.symm);clear aq
    go_wp2_with fail
    go_meet;have h1:=a7.o;have h2:=aw.o;have h3:=bi.o;exact⟨_,v,Lv,HL,HY.o,by omega,.inl h1,by omega,HG,HB,HF,HS⟩
  case rest=>
   obtain⟨ay,n,Lv2,aa,l,W,bu,a1,bx,bo,cq,a5⟩:=hcut;have cv:=zh l;have cr:=zh bu;have cz:=zh a1;have cx:=aa.o.heads;obtain⟨⟨_,_,_,d3,_,_⟩,f2⟩:=cx;have cm:n.length=Lv2.length:=by simpa using aa.o.rows.1
   obtain⟨r,hr⟩:∃ r,Lv2[j]?=some r:=⟨_,List.getElem?_eq_getElem W⟩
   obtain⟨vj,ar⟩:∃ vj,n[j]?=some vj:=⟨_,List.getElem?_eq_getElem (by omega)⟩
   have F:=aa.o.each j vj r ar hr;obtain⟨aj,cj',rfl⟩:=Zi F;have c6:=bo.o j r (Nat.le_refl _) hr;obtain⟨bl,cp,rfl,e3,cu⟩:∃ bl cp,ay=.slice (some ⟨bl,0,none⟩) Lv2.length cp∧wc.cell? ⟨bl,j,none⟩=some (.slice aj r.length cj')∧bl<wc.heap.size∧wc.frozen? ⟨bl,j,none⟩=false:=by
    rcases aa.o.rows.2 with ⟨_,h0⟩|⟨b,cap,cur,h0,_,hb,_,_,_,ht⟩
    ·have c9:Lv2.length=0:=h0
     omega
    ·refine⟨b,cap,h0,?_,Qc hb,Qs hb j⟩
     rw[cell_of_row wc b j cur _ _ hb];rw[←ht,List.getElem?_take_of_lt (show j<Lv2.length*1 by omega)] at ar;simpa using ar
   have c2:(0:Int)≤(j:Int):=by omega
   have bi:(j:Int)<(Lv2.length:Int):=by omega
   have y0:=Qu l 0 (by decide);have y1:=Qu l 1 (by decide);have y2:=Qu l 2 (by decide);have y3:=Qu l 3 (by decide);have y4:=Qu l 4 (by decide);have y5:=Qu l 5 (by decide);have y6:=Qu l 6 (by decide);have y7:=Qu l 7 (by decide);have da:g<wc.heap.size:=Qk d3;have c7:w.heap.size<wc.heap.size:=Qc l;obtain⟨cd,ca⟩:=cu;have b7:=zh (show ¬ (Value.slice aj r.length cj').ownBlock=some bl from fun e=>by
    obtain⟨C,hC⟩:=Qe F e
    obtain⟨C',ch⟩:=Qe aa.o.rows (k:=bl) rfl
    exact Zp hC ch (by decide) rfl)
   have cl:=zh (show ¬ (Value.slice aj r.length cj').ownBlock=some g from fun e=>by
    obtain⟨C,hC⟩:=Qe F e
    exact Zp aa.o.cells hC (by decide) rfl)
   have ax:=zh ar;have a8:=zh hr;have b9:=zh F;clear l bu a1 cm hr ar F;obtain⟨i8,b6,bj,bz,ba⟩:=Zaa;have az:=zh (⟨b6,bj,bz,ba⟩:_∧_∧_∧_);clear b6 bj bz ba
   go_upto_region 5 with fail
   go_cut [] from 25 to 76 (fun wx=>∃ v',Aside (Zq wx g gd ve (.slice (some ⟨bl,0,none⟩) Lv2.length cp) vp (n.set j v') { L with levels:=Lv2.set j (r ++ [y]) })∧Qw wx w.heap.size y∧Aside (Fr (LvS g ve vl vp vs) w wx)∧Aside (Sub (w.alloc (.cells (h8 x) 143)) (LvS g ve vl vp vs) (LvS g ve (.slice (some ⟨bl,0,none⟩) Lv2.length cp) vp (n.set j v'))))
   case first=>
    go_region_law (refine Qcp rfl _ _ _ rfl 0 143 i8 _ 8 8 underlying133 az.o.1 az.o.2.1 az.o.2.2.1 az.o.2.2.2 (by simp[Value.cells]) (by decide) (by decide) (.slice aj r.length cj') r.length (r.flatMap fun h=>(h8 h).toList) rfl (Ql b9.o ((Qn wc).alloc (Nat.le_refl _) _)) ⟨wc.heap.size,0,none⟩ 1 1 (h8 y).toList rfl (by simp) (Qzl _ _ _ _ rfl) (Q7u y) (by decide) (by omega) (Nat.zero_le _) ?_;intro v' w' h2 h3 h4 h5;obtain⟨gb,cp',rfl,co⟩:=Jm h2 h5;have H2:=zh h2;have H3:=zh ((Fr.ofBelow (S:=fun k=>(Value.slice aj r.length cj').ownBlock=some k) ((Qn wc).alloc (Nat.le_refl _) _)).trans (Fr.ofGrown h3 fun k _ e=>e));have H4:=zh ((J2.refl wc (.slice aj r.length cj')).trans h4 (by simp));have k3:=H3.o.cell e3 b7.o;have k5:=H3.o.cell d3 cl.o;have k4:=(H3.o.frozen (p:=⟨bl,j,none⟩) cd b7.o).trans ca;clear h2 h3 h4 h5)
    all_goals (
     go_wp2_with fail
     go_meet
     have h2:Qcs w' 0 (.slice (some ⟨gb,0,none⟩) (r.length+1) cp') (r ++ [y]):=by
      have:=H2.o
      unfold Qcs
      rw[List.length_append,List.flatMap_append]
      simpa using this
     have hp:=aa.o.pushHash y ax.o a8.o H3.o h2 H4.o rfl
     have a9:(w.alloc (.cells (h8 x) 143)).heap.size≤wc.heap.size:=by simp;omega
     have bc:¬ LvS g ve (.slice (some ⟨bl,0,none⟩) Lv2.length cp) vp n w.heap.size:=fun hq=>by
      rcases a5.o _ hq with h1|h1
      ·obtain⟨_,_,hC,_⟩:=HH.o.kinds h1.log
       exact absurd (Qc hC) (by omega)
      ·simp at h1
       omega
     exact⟨_,hp.1,Q1p cv.o hp.2.1 bc,Fr.sub cq.o hp.2.1 (a5.o.mono (by simp)),a5.o.trans hp.2.2 a9⟩)
   case rest=>
    obtain⟨v3,ao,br,bk,bf⟩:=hcut;have be:=zh br;have d:=ao.o.each j v3 (r ++ [y]) (by rw[List.getElem?_set_self];have:=(List.getElem?_eq_some_iff.1 ax.o).1;exact this) (by show (Lv2.set j (r ++ [y]))[j]?=_;rw[List.getElem?_set_self W]);obtain⟨a3,A,rfl⟩:=Zi d;obtain⟨⟨_,_,_,d4,_,_⟩,_⟩:=ao.o.heads;have e4:wc.cell? ⟨bl,j,none⟩=some (.slice a3 (r ++ [y]).length A):=by
     have cf:=(List.getElem?_eq_some_iff.1 ax.o).1;rcases ao.o.rows.2 with ⟨e,_⟩|⟨b,cap,cur,e,_,hb,_,_,_,ht⟩
     ·cases e
     ·simp at e
      obtain⟨rfl,rfl⟩:=e;have h1:(n.set j (.slice a3 (r ++ [y]).length A))[j]?=some (.slice a3 (r ++ [y]).length A):=List.getElem?_set_self cf;rw[←ht,List.getElem?_take_of_lt (show j<(Lv2.set j (r ++ [y])).length*1 by simp;omega)] at h1;rw[cell_of_row wc bl j cur _ _ hb];simpa using h1
    clear br;obtain⟨cb,c5,b2⟩:∃ cb,(((r.length:Int)+1)%4 != 0)=cb∧cb = !decide ((r.length+1)%4=0):=⟨_,rfl,by rw[Bool.eq_iff_iff];simp;omega⟩
    have bn:=zh b2;have bg:Lv2.set j (r ++ [y])=Lv2.take j++(r ++ [y]) :: Lv2.drop (j+1):=by rw[List.set_eq_take_append_cons_drop];rw[if_pos W]
    have a2:Lv2.drop j=r :: Lv2.drop (j+1):=by
     rw[List.drop_eq_getElem_cons W]
     have:=a8.o
     rw[List.getElem?_eq_getElem W] at this;rw[Option.some.inj this]
    have bh:=zh bg;have a0:=zh a2;clear b2 bg a2;cases cb with
    | true=>
     have b3:¬ (r.length+1)%4=0:=by have:=bn.o;simpa using this
     have bb:Qd7 L.levels x=Lv2.set j (r ++ [y]):=by rw[bx.o,a0.o,bh.o,Qd7,if_neg b3]
     have ce:=zh bb;clear b3 bb
     go_wp2_with fail
     refine bodyPost_ret (results_none rfl _ _ _) rfl ?_;refine⟨rfl,_,_,?_,bk.o,bf.o.mono (by simp)⟩;rw[ce.o];exact ao.o
    | false=>
     have bm:(r.length+1)%4=0:=by have:=bn.o;simpa using this
     obtain⟨q,hq⟩:∃ q,r.length=q+3:=⟨r.length-3,by omega⟩
     have cs:(r ++ [y]).length=q+4:=by simp;omega
     obtain⟨g3,rfl⟩:∃ g3,a3=some ⟨g3,0,none⟩:=by
      rcases d.2 with ⟨e,h0⟩|⟨b,cap,cur,e,_⟩
      ·omega
      ·simp at e
       exact⟨b,e.1⟩
     have au:∀ i,i<4→∃ z,(r ++ [y])[q+i]?=some z:=fun i hi=>⟨_,List.getElem?_eq_getElem (by omega)⟩
     obtain⟨z0,s⟩:=au 0 (by decide);obtain⟨z1,t⟩:=au 1 (by decide);obtain⟨z2,u⟩:=au 2 (by decide);obtain⟨z3,m⟩:=au 3 (by decide);have b4:node4 (r ++ [y])=Z1 (Z1 z0 z1) (Z1 z2 z3):=by
      unfold node4;have e:(r ++ [y]).length-4=q:=by omega
      rw[e];simp only[List.getD_eq_getElem?_getD];rw[t,u,m];have h0:(r ++ [y])[q]?=some z0:=s;rw[h0];rfl
     have ct:=zh b4;have dc:(0:Int)≤(r.length:Int)+1-4:=by omega
     have db:(r.length:Int)+1-4≤(r.length:Int)+1:=by omega
     have c8:((r.length:Int)+1-4).toNat=q:=by omega
     have c4:r.length+1-q=4:=by omega
     have c1:¬ A=q:=by
      rcases d.2 with ⟨e,h0⟩|⟨b,cap,cur,e,_,_,ci,_⟩
      ·omega
      ·simp at e ci
       omega
     have cw:=zh bm;have K:wc.cell? ⟨g3,q*8,none⟩=some (Go.Proofs.YtefccfakhgdfbaaGreatDoor.u8 z0[0]):=by have h1:=Za d s 0 (by decide);rw[show (q+0)*8+0=q*8+0 by omega] at h1;exact h1
     have Q:wc.cell? ⟨g3,q*8+1,none⟩=some (Go.Proofs.YtefccfakhgdfbaaGreatDoor.u8 z0[1]):=by have h1:=Za d s 1 (by decide);rw[show (q+0)*8+1=q*8+1 by omega] at h1;exact h1
     have E:wc.cell? ⟨g3,q*8+2,none⟩=some (Go.Proofs.YtefccfakhgdfbaaGreatDoor.u8 z0[2]):=by have h1:=Za d s 2 (by decide);rw[show (q+0)*8+2=q*8+2 by omega] at h1;exact h1
     have am:wc.cell? ⟨g3,q*8+3,none⟩=some (Go.Proofs.YtefccfakhgdfbaaGreatDoor.u8 z0[3]):=by have h1:=Za d s 3 (by decide);rw[show (q+0)*8+3=q*8+3 by omega] at h1;exact h1
     have J:wc.cell? ⟨g3,q*8+4,none⟩=some (Go.Proofs.YtefccfakhgdfbaaGreatDoor.u8 z0[4]):=by have h1:=Za d s 4 (by decide);rw[show (q+0)*8+4=q*8+4 by omega] at h1;exact h1
     have ai:wc.cell? ⟨g3,q*8+5,none⟩=some (Go.Proofs.YtefccfakhgdfbaaGreatDoor.u8 z0[5]):=by have h1:=Za d s 5 (by decide);rw[show (q+0)*8+5=q*8+5 by omega] at h1;exact h1
     have H:wc.cell? ⟨g3,q*8+6,none⟩=some (Go.Proofs.YtefccfakhgdfbaaGreatDoor.u8 z0[6]):=by have h1:=Za d s 6 (by decide);rw[show (q+0)*8+6=q*8+6 by omega] at h1;exact h1
     have ah:wc.cell? ⟨g3,q*8+7,none⟩=some (Go.Proofs.YtefccfakhgdfbaaGreatDoor.u8 z0[7]):=by have h1:=Za d s 7 (by decide);rw[show (q+0)*8+7=q*8+7 by omega] at h1;exact h1
     have V:wc.cell? ⟨g3,q*8+8,none⟩=some (Go.Proofs.YtefccfakhgdfbaaGreatDoor.u8 z1[0]):=by have h1:=Za d t 0 (by decide);rw[show (q+1)*8+0=q*8+8 by omega] at h1;exact h1
     have M:wc.cell? ⟨g3,q*8+9,none⟩=some (Go.Proofs.YtefccfakhgdfbaaGreatDoor.u8 z1[1]):=by have h1:=Za d t 1 (by decide);rw[show (q+1)*8+1=q*8+9 by omega] at h1;exact h1
     have U:wc.cell? ⟨g3,q*8+10,none⟩=some (Go.Proofs.YtefccfakhgdfbaaGreatDoor.u8 z1[2]):=by have h1:=Za d t 2 (by decide);rw[show (q+1)*8+2=q*8+10 by omega] at h1;exact h1
     have G:wc.cell? ⟨g3,q*8+11,none⟩=some (Go.Proofs.YtefccfakhgdfbaaGreatDoor.u8 z1[3]):=by have h1:=Za d t 3 (by decide);rw[show (q+1)*8+3=q*8+11 by omega] at h1;exact h1
     have af:wc.cell? ⟨g3,q*8+12,none⟩=some (Go.Proofs.YtefccfakhgdfbaaGreatDoor.u8 z1[4]):=by have h1:=Za d t 4 (by decide);rw[show (q+1)*8+4=q*8+12 by omega] at h1;exact h1
     have ae:wc.cell? ⟨g3,q*8+13,none⟩=some (Go.Proofs.YtefccfakhgdfbaaGreatDoor.u8 z1[5]):=by have h1:=Za d t 5 (by decide);rw[show (q+1)*8+5=q*8+13 by omega] at h1;exact h1
     have ak:wc.cell? ⟨g3,q*8+14,none⟩=some (Go.Proofs.YtefccfakhgdfbaaGreatDoor.u8 z1[6]):=by have h1:=Za d t 6 (by decide);rw[show (q+1)*8+6=q*8+14 by omega] at h1;exact h1
     have Z:wc.cell? ⟨g3,q*8+15,none⟩=some (Go.Proofs.YtefccfakhgdfbaaGreatDoor.u8 z1[7]):=by have h1:=Za d t 7 (by decide);rw[show (q+1)*8+7=q*8+15 by omega] at h1;exact h1
     have X:wc.cell? ⟨g3,q*8+16,none⟩=some (Go.Proofs.YtefccfakhgdfbaaGreatDoor.u8 z2[0]):=by have h1:=Za d u 0 (by decide);rw[show (q+2)*8+0=q*8+16 by omega] at h1;exact h1
     have ac:wc.cell? ⟨g3,q*8+17,none⟩=some (Go.Proofs.YtefccfakhgdfbaaGreatDoor.u8 z2[1]):=by have h1:=Za d u 1 (by decide);rw[show (q+2)*8+1=q*8+17 by omega] at h1;exact h1
     have P:wc.cell? ⟨g3,q*8+18,none⟩=some (Go.Proofs.YtefccfakhgdfbaaGreatDoor.u8 z2[2]):=by have h1:=Za d u 2 (by decide);rw[show (q+2)*8+2=q*8+18 by omega] at h1;exact h1
     have Y:wc.cell? ⟨g3,q*8+19,none⟩=some (Go.Proofs.YtefccfakhgdfbaaGreatDoor.u8 z2[3]):=by have h1:=Za d u 3 (by decide);rw[show (q+2)*8+3=q*8+19 by omega] at h1;exact h1
     have ag:wc.cell? ⟨g3,q*8+20,none⟩=some (Go.Proofs.YtefccfakhgdfbaaGreatDoor.u8 z2[4]):=by have h1:=Za d u 4 (by decide);rw[show (q+2)*8+4=q*8+20 by omega] at h1;exact h1
     have I:wc.cell? ⟨g3,q*8+21,none⟩=some (Go.Proofs.YtefccfakhgdfbaaGreatDoor.u8 z2[5]):=by have h1:=Za d u 5 (by decide);rw[show (q+2)*8+5=q*8+21 by omega] at h1;exact h1
     have D:wc.cell? ⟨g3,q*8+22,none⟩=some (Go.Proofs.YtefccfakhgdfbaaGreatDoor.u8 z2[6]):=by have h1:=Za d u 6 (by decide);rw[show (q+2)*8+6=q*8+22 by omega] at h1;exact h1
     have B:wc.cell? ⟨g3,q*8+23,none⟩=some (Go.Proofs.YtefccfakhgdfbaaGreatDoor.u8 z2[7]):=by have h1:=Za d u 7 (by decide);rw[show (q+2)*8+7=q*8+23 by omega] at h1;exact h1
     have N:wc.cell? ⟨g3,q*8+24,none⟩=some (Go.Proofs.YtefccfakhgdfbaaGreatDoor.u8 z3[0]):=by have h1:=Za d m 0 (by decide);rw[show (q+3)*8+0=q*8+24 by omega] at h1;exact h1
     have an:wc.cell? ⟨g3,q*8+25,none⟩=some (Go.Proofs.YtefccfakhgdfbaaGreatDoor.u8 z3[1]):=by have h1:=Za d m 1 (by decide);rw[show (q+3)*8+1=q*8+25 by omega] at h1;exact h1
     have T:wc.cell? ⟨g3,q*8+26,none⟩=some (Go.Proofs.YtefccfakhgdfbaaGreatDoor.u8 z3[2]):=by have h1:=Za d m 2 (by decide);rw[show (q+3)*8+2=q*8+26 by omega] at h1;exact h1
     have R:wc.cell? ⟨g3,q*8+27,none⟩=some (Go.Proofs.YtefccfakhgdfbaaGreatDoor.u8 z3[3]):=by have h1:=Za d m 3 (by decide);rw[show (q+3)*8+3=q*8+27 by omega] at h1;exact h1
     have O:wc.cell? ⟨g3,q*8+28,none⟩=some (Go.Proofs.YtefccfakhgdfbaaGreatDoor.u8 z3[4]):=by have h1:=Za d m 4 (by decide);rw[show (q+3)*8+4=q*8+28 by omega] at h1;exact h1
     have ab:wc.cell? ⟨g3,q*8+29,none⟩=some (Go.Proofs.YtefccfakhgdfbaaGreatDoor.u8 z3[5]):=by have h1:=Za d m 5 (by decide);rw[show (q+3)*8+5=q*8+29 by omega] at h1;exact h1
     have ad:wc.cell? ⟨g3,q*8+30,none⟩=some (Go.Proofs.YtefccfakhgdfbaaGreatDoor.u8 z3[6]):=by have h1:=Za d m 6 (by decide);rw[show (q+3)*8+6=q*8+30 by omega] at h1;exact h1
     have al:wc.cell? ⟨g3,q*8+31,none⟩=some (Go.Proofs.YtefccfakhgdfbaaGreatDoor.u8 z3[7]):=by have h1:=Za d m 7 (by decide);rw[show (q+3)*8+7=q*8+31 by omega] at h1;exact h1
     have HQ:=zh hq;have a6:¬ LvS g ve (.slice (some ⟨bl,0,none⟩) Lv2.length cp) vp (n.set j (.slice (some ⟨g3,0,none⟩) (r ++ [y]).length A)) w.heap.size:=fun hk=>by
      rcases bf.o _ hk with h1|h1
      ·obtain⟨_,_,hC,_⟩:=HH.o.kinds h1.log
       exact absurd (Qc hC) (by omega)
      ·simp at h1
       omega
     have b8:¬ g3=w.heap.size:=fun e=>a6 (e ▸ .inr (.inr ⟨_,List.mem_of_getElem? (i:=j) (List.getElem?_set_self (by have:=(List.getElem?_eq_some_iff.1 ax.o).1;exact this)),rfl⟩))
     have q8:Is8 wc.drew w.heap.size:=⟨y,be.o⟩
     have a4:=zh (Qn wc);clear bm au s t u m b4 hq cs
     go_upto_region 9 with fail
     go_region_held3 (fun w'=>w'.cell? ⟨g3,q*8,none⟩=some (Go.Proofs.YtefccfakhgdfbaaGreatDoor.u8 z0[0])∧w'.cell? ⟨g3,q*8+1,none⟩=some (Go.Proofs.YtefccfakhgdfbaaGreatDoor.u8 z0[1])∧w'.cell? ⟨g3,q*8+2,none⟩=some (Go.Proofs.YtefccfakhgdfbaaGreatDoor.u8 z0[2])∧w'.cell? ⟨g3,q*8+3,none⟩=some (Go.Proofs.YtefccfakhgdfbaaGreatDoor.u8 z0[3])∧w'.cell? ⟨g3,q*8+4,none⟩=some (Go.Proofs.YtefccfakhgdfbaaGreatDoor.u8 z0[4])∧w'.cell? ⟨g3,q*8+5,none⟩=some (Go.Proofs.YtefccfakhgdfbaaGreatDoor.u8 z0[5])∧w'.cell? ⟨g3,q*8+6,none⟩=some (Go.Proofs.YtefccfakhgdfbaaGreatDoor.u8 z0[6])∧w'.cell? ⟨g3,q*8+7,none⟩=some (Go.Proofs.YtefccfakhgdfbaaGreatDoor.u8 z0[7])∧w'.cell? ⟨g3,q*8+8,none⟩=some (Go.Proofs.YtefccfakhgdfbaaGreatDoor.u8 z1[0])∧w'.cell? ⟨g3,q*8+9,none⟩=some (Go.Proofs.YtefccfakhgdfbaaGreatDoor.u8 z1[1])∧w'.cell? ⟨g3,q*8+10,none⟩=some (Go.Proofs.YtefccfakhgdfbaaGreatDoor.u8 z1[2])∧w'.cell? ⟨g3,q*8+11,none⟩=some (Go.Proofs.YtefccfakhgdfbaaGreatDoor.u8 z1[3])∧w'.cell? ⟨g3,q*8+12,none⟩=some (Go.Proofs.YtefccfakhgdfbaaGreatDoor.u8 z1[4])∧w'.cell? ⟨g3,q*8+13,none⟩=some (Go.Proofs.YtefccfakhgdfbaaGreatDoor.u8 z1[5])∧w'.cell? ⟨g3,q*8+14,none⟩=some (Go.Proofs.YtefccfakhgdfbaaGreatDoor.u8 z1[6])∧w'.cell? ⟨g3,q*8+15,none⟩=some (Go.Proofs.YtefccfakhgdfbaaGreatDoor.u8 z1[7])∧w'.cell? ⟨g3,q*8+16,none⟩=some (Go.Proofs.YtefccfakhgdfbaaGreatDoor.u8 z2[0])∧w'.cell? ⟨g3,q*8+17,none⟩=some (Go.Proofs.YtefccfakhgdfbaaGreatDoor.u8 z2[1])∧w'.cell? ⟨g3,q*8+18,none⟩=some (Go.Proofs.YtefccfakhgdfbaaGreatDoor.u8 z2[2])∧w'.cell? ⟨g3,q*8+19,none⟩=some (Go.Proofs.YtefccfakhgdfbaaGreatDoor.u8 z2[3])∧w'.cell? ⟨g3,q*8+20,none⟩=some (Go.Proofs.YtefccfakhgdfbaaGreatDoor.u8 z2[4])∧w'.cell? ⟨g3,q*8+21,none⟩=some (Go.Proofs.YtefccfakhgdfbaaGreatDoor.u8 z2[5])∧w'.cell? ⟨g3,q*8+22,none⟩=some (Go.Proofs.YtefccfakhgdfbaaGreatDoor.u8 z2[6])∧w'.cell? ⟨g3,q*8+23,none⟩=some (Go.Proofs.YtefccfakhgdfbaaGreatDoor.u8 z2[7])∧w'.cell? ⟨g3,q*8+24,none⟩=some (Go.Proofs.YtefccfakhgdfbaaGreatDoor.u8 z3[0])∧w'.cell? ⟨g3,q*8+25,none⟩=some (Go.Proofs.YtefccfakhgdfbaaGreatDoor.u8 z3[1])∧w'.cell? ⟨g3,q*8+26,none⟩=some (Go.Proofs.YtefccfakhgdfbaaGreatDoor.u8 z3[2])∧w'.cell? ⟨g3,q*8+27,none⟩=some (Go.Proofs.YtefccfakhgdfbaaGreatDoor.u8 z3[3])∧w'.cell? ⟨g3,q*8+28,none⟩=some (Go.Proofs.YtefccfakhgdfbaaGreatDoor.u8 z3[4])∧w'.cell? ⟨g3,q*8+29,none⟩=some (Go.Proofs.YtefccfakhgdfbaaGreatDoor.u8 z3[5])∧w'.cell? ⟨g3,q*8+30,none⟩=some (Go.Proofs.YtefccfakhgdfbaaGreatDoor.u8 z3[6])∧w'.cell? ⟨g3,q*8+31,none⟩=some (Go.Proofs.YtefccfakhgdfbaaGreatDoor.u8 z3[7])) (first|exact⟨K,Q,E,am,J,ai,H,ah,V,M,U,G,af,ae,ak,Z,X,ac,P,Y,ag,I,D,B,N,an,T,R,O,ab,ad,al⟩|(simp only[Qci b8];exact⟨K,Q,E,am,J,ai,H,ah,V,M,U,G,af,ae,ak,Z,X,ac,P,Y,ag,I,D,B,N,an,T,R,O,ab,ad,al⟩)) (first|(go_at_call 181;refine (Qbz _ _ _).mono ?_;rintro e w5 ⟨rfl,f⟩;replace K:=(f.cell (p:=⟨g3,q*8,none⟩) (Qk K)).trans K;replace Q:=(f.cell (p:=⟨g3,q*8+1,none⟩) (Qk Q)).trans Q;replace E:=(f.cell (p:=⟨g3,q*8+2,none⟩) (Qk E)).trans E;replace am:=(f.cell (p:=⟨g3,q*8+3,none⟩) (Qk am)).trans am;replace J:=(f.cell (p:=⟨g3,q*8+4,none⟩) (Qk J)).trans J;replace ai:=(f.cell (p:=⟨g3,q*8+5,none⟩) (Qk ai)).trans ai;replace H:=(f.cell (p:=⟨g3,q*8+6,none⟩) (Qk H)).trans H;replace ah:=(f.cell (p:=⟨g3,q*8+7,none⟩) (Qk ah)).trans ah;replace V:=(f.cell (p:=⟨g3,q*8+8,none⟩) (Qk V)).trans V;replace M:=(f.cell (p:=⟨g3,q*8+9,none⟩) (Qk M)).trans M;replace U:=(f.cell (p:=⟨g3,q*8+10,none⟩) (Qk U)).trans U;replace G:=(f.cell (p:=⟨g3,q*8+11,none⟩) (Qk G)).trans G;replace af:=(f.cell (p:=⟨g3,q*8+12,none⟩) (Qk af)).trans af;replace ae:=(f.cell (p:=⟨g3,q*8+13,none⟩) (Qk ae)).trans ae;replace ak:=(f.cell (p:=⟨g3,q*8+14,none⟩) (Qk ak)).trans ak;replace Z:=(f.cell (p:=⟨g3,q*8+15,none⟩) (Qk Z)).trans Z;replace X:=(f.cell (p:=⟨g3,q*8+16,none⟩) (Qk X)).trans X;replace ac:=(f.cell (p:=⟨g3,q*8+17,none⟩) (Qk ac)).trans ac;replace P:=(f.cell (p:=⟨g3,q*8+18,none⟩) (Qk P)).trans P;replace Y:=(f.cell (p:=⟨g3,q*8+19,none⟩) (Qk Y)).trans Y;replace ag:=(f.cell (p:=⟨g3,q*8+20,none⟩) (Qk ag)).trans ag;replace I:=(f.cell (p:=⟨g3,q*8+21,none⟩) (Qk I)).trans I;replace D:=(f.cell (p:=⟨g3,q*8+22,none⟩) (Qk D)).trans D;replace B:=(f.cell (p:=⟨g3,q*8+23,none⟩) (Qk B)).trans B;replace N:=(f.cell (p:=⟨g3,q*8+24,none⟩) (Qk N)).trans N;replace an:=(f.cell (p:=⟨g3,q*8+25,none⟩) (Qk an)).trans an;replace T:=(f.cell (p:=⟨g3,q*8+26,none⟩) (Qk T)).trans T;replace R:=(f.cell (p:=⟨g3,q*8+27,none⟩) (Qk R)).trans R;replace O:=(f.cell (p:=⟨g3,q*8+28,none⟩) (Qk O)).trans O;replace ab:=(f.cell (p:=⟨g3,q*8+29,none⟩) (Qk ab)).trans ab;replace ad:=(f.cell (p:=⟨g3,q*8+30,none⟩) (Qk ad)).trans ad;replace al:=(f.cell (p:=⟨g3,q*8+31,none⟩) (Qk al)).trans al;replace q8:Is8 w5 w.heap.size:=q8.elim fun k hk=>⟨k,Qg hk f⟩;replace a4:=zh (a4.o.trans (f.mono a4.o.size));clear f))
     have hrel:∃ j':Nat,j'≤L.levels.length∧L.levels.length+1-j'≤L.levels.length-j∧Value.int .i64 (((j:Int)+1))=.int .i64 j'∧∃ ap v Lv y',Aside (Zq (w5.setRow w.heap.size (h8 (Z1 (Z1 z0 z1) (Z1 z2 z3)))) g gd ve ap vp v { L with levels:=Lv })∧Qw (w5.setRow w.heap.size (h8 (Z1 (Z1 z0 z1) (Z1 z2 z3)))) w.heap.size y'∧
       Lv.length=L.levels.length∧Aside (Qd7 L.levels x=Lv.take j'++Qd7 (Lv.drop j') y')∧Aside (∀ (i:Nat) (r:List Hsh),j'≤i→Lv[i]?=some r→r.length<1099511627776)∧Aside (Fr (LvS g ve vl vp vs) w (w5.setRow w.heap.size (h8 (Z1 (Z1 z0 z1) (Z1 z2 z3)))))∧Aside (Sub (w.alloc (.cells (h8 x) 143)) (LvS g ve vl vp vs) (LvS g ve ap vp v)):=by
      obtain⟨k5,cn⟩:=q8;have bq:Fr (·=w.heap.size) wc (w5.setRow w.heap.size (h8 (Z1 (Z1 z0 z1) (Z1 z2 z3)))):=(Fr.ofBelow a4.o).trans (Fr.setRow _ _ _);have cg:Lv2.length=L.levels.length:=by
       rcases cr.o with h1|h1
       ·exact h1
       ·have h2:=a8.o
        rw[h1] at h2;have h3:r = []:=(Option.some.inj h2).symm;have h4:=HQ.o;rw[h3] at h4;simp at h4
      have aq:(Lv2.take j).length=j:=by rw[List.length_take];omega
      have e1:(Lv2.take j++(r ++ [y]) :: Lv2.drop (j+1)).take (j+1)=Lv2.take j ++ [r ++ [y]]:=by rw[List.take_append,aq,List.take_of_length_le (by omega),show j+1-j=1 by omega];rfl
      have e2:(Lv2.take j++(r ++ [y]) :: Lv2.drop (j+1)).drop (j+1)=Lv2.drop (j+1):=by rw[List.drop_append,aq,List.drop_of_length_le (by omega),show j+1-j=1 by omega];rfl
      refine⟨j+1,by omega,by omega,by rfl,_,_,Lv2.set j (r ++ [y]),node4 (r ++ [y]),ao.o.fr bq (fun k hk e=>a6 (by subst e;exact ao.o.lvOf be.o hk)) (fun k C fz hk e=>?_),?_,by simpa using cg,?_,?_,bk.o.step bq (fun i hi e=>by omega),bf.o⟩
      ·subst e
       have:=be.o
       unfold Qw at this;rw[hk] at this;simp at this
      ·rw[ct.o]
       exact Qx cn _
      ·show Qd7 L.levels x=_
       rw[bh.o,e1,e2,bx.o,a0.o,Qd7,if_pos cw.o,List.append_assoc];rfl
      ·show ∀ (i:Nat) (r':List Hsh),j+1≤i→(Lv2.set j (r ++ [y]))[i]?=some r'→_
       intro i r' hi bp;rw[List.getElem?_set_ne (by omega)] at bp;exact bo.o i r' (by omega) bp
     have cc:=zh hrel;clear hrel
     go_wp2_with fail
     go_roundg (L.levels.length-j)
     case measure=>omega
     case rel=>exact cc.o
end
end
end Go.Proofs.YtefccfakhgdfbaaGreatDoor
