/- The walks of merkle.include, merkle.Included, tiles.Included, plain.Included. -/
import Derived.Test.YtefccfakhgdfbabGreatDoorSv04
import Derived.Handy
set_option linter.unusedVariables false
set_option linter.unusedSimpArgs false
open Go.RowKit Go.Proofs.Tryz
set_option maxRecDepth 100000
set_option maxHeartbeats 4000000
namespace Go.Proofs.YtefccfakhgdfbabGreatDoor
section
section
variable {w:World} {g:Nat} {v:Value} {d:Dk} (h:DiskAt w g v d) {p:ByteArray} (hc:d.calls<1099511627776)
include h hc
theorem get_err (hk:0<enterK d):Calls prog 249 #[.pointer (some ⟨g,0,none⟩),.string p] w fun e w'=>∃ q n,e=.returned (.tuple #[.slice none 0 0,.iface 152 (.pointer (some ⟨q,0,none⟩))])∧w.heap.size≤q∧w'.heap[q]?=some (.cells #[.int .i64 n] 366 (0,0))∧DiskAt w' g v (enterD d)∧Fr (·=g) w w':=
 (get_any w g v d h p hc).mono fun e w' hp=>by
  obtain⟨h1,h2,⟨_,u,h4,q,n,h5,h6,h7⟩|⟨h3,_⟩|⟨h3,_⟩⟩:=hp
  ·exact⟨q,n,by rw[h4,h5],h6,h7,h1,h2⟩
  ·omega
  ·omega
theorem get_hit {s:ByteArray} (hk:enterK d=0) (hg:getF d.files p=some s):Calls prog 249 #[.pointer (some ⟨g,0,none⟩),.string p] w fun e w'=>∃ b c,e=.returned (.tuple #[.slice (some ⟨b,0,none⟩) s.size c,.nilIface])∧OwnBytes w' w.heap.size (.slice (some ⟨b,0,none⟩) s.size c) s.data.toList∧DiskAt w' g v (enterD d)∧Fr (·=g) w w':=
 (get_any w g v d h p hc).mono fun e w' hp=>by
  obtain⟨h1,h2,⟨h3,_⟩|⟨_,s',v',h4,h5,h6,b,c,h7⟩|⟨_,h4,_⟩⟩:=hp
  ·omega
  ·rw[hg] at h4
   cases h4
   subst h7
   exact⟨b,c,h5,h6,h1,h2⟩
  ·rw[hg] at h4;cases h4
theorem get_miss (hk:enterK d=0) (hg:getF d.files p=none):Calls prog 249 #[.pointer (some ⟨g,0,none⟩),.string p] w fun e w'=>e=.returned (.tuple #[.slice none 0 0,.nilIface])∧DiskAt w' g v (enterD d)∧Fr (·=g) w w':=
 (get_any w g v d h p hc).mono fun e w' hp=>by
  obtain⟨h1,h2,⟨h3,_⟩|⟨_,s',v',h4,_⟩|⟨_,_,h5⟩⟩:=hp
  ·omega
  ·rw[hg] at h4;cases h4
  ·exact⟨h5,h1,h2⟩
end
theorem unb_none {v:Value} {data:List UInt8} {w:World} (h:BytesAt w v data) (hn:data.length≤1099511627776) (hu:unbundleOf data=none) :
  Calls prog 94 #[v] w fun e w'=>e=.returned (.tuple #[.slice none 0 0,.bool false])∧Below w.heap.size w w':=
 (funbundle_any v data w h hn).mono fun e w' hp=>by
  obtain⟨v',h1,h2,⟨_,h4⟩|⟨ls,h3,_⟩⟩:=hp
  ·rw[hu] at h1
   subst h4
   exact⟨h1,h2⟩
  ·rw[hu] at h3;cases h3
theorem unb_some {v:Value} {data:List UInt8} {ls:List (List UInt8)} {w:World} (h:BytesAt w v data) (hn:data.length≤1099511627776) (hu:unbundleOf data=some ls) :
  Calls prog 94 #[v] w fun e w'=>∃ b c,e=.returned (.tuple #[.slice (some ⟨b,0,none⟩) ls.length c,.bool true])∧OwnBss w' w.heap.size (.slice (some ⟨b,0,none⟩) ls.length c) ls∧Below w.heap.size w w':=
 (funbundle_any v data w h hn).mono fun e w' hp=>by
  obtain⟨v',h1,h2,⟨h3,_⟩|⟨ls',h3,h4⟩⟩:=hp
  ·rw[hu] at h3;cases h3
  ·rw[hu] at h1 h3
   cases h3
   have hl:=(unbundleOf_lens hu).1
   have h5:=h4
   obtain⟨vs,h6,_⟩:=h4
   rcases h6.2 with ⟨_,h0⟩|⟨b,cap,cur,rfl,_⟩
   ·omega
   ·exact⟨b,cap,h1,h5,h2⟩
theorem fat_any (t:Int) (i n:Nat) (w:World) (hi:4*i<n) (hn:n<9223372036854775808) (hE:NumEnv w) :
  Calls prog 123 #[.int .i64 t,.int .i64 i,.int .i64 n] w fun e w'=>e=.returned (.tuple #[.string (sOf (nameOf t i ((min 4 (n-4*i):Nat):Int))),.int .i64 ((min 4 (n-4*i):Nat):Int)])∧Below w.heap.size w w':=by
 have hw1:wrap64 ((i:Int)*4)=(i:Int)*4:=by unfold wrap64;omega
 have hw2:wrap64 ((n:Int)-(i:Int)*4)=(n:Int)-(i:Int)*4:=by unfold wrap64;omega
 obtain⟨k,hk⟩:∃ k,k=min 4 (n-4*i):=⟨_,rfl⟩
 have hm:min (4:Int) ((n:Int)-(i:Int)*4)=(k:Int):=by omega
 rw[←hk]
 have hcon:=fname_any t i k w (by omega) hE
 clear hE hk hi
 go_enter func123,ntmps123
 go_wp2_with (go_at_call 127;refine hcon.mono ?_;rintro e w2 ⟨rfl,hb2⟩)
 go_ret2
 exact⟨rfl,hb2⟩
end
section
theorem neq_bnil (w:World) (a:Option Addr) (n c:Nat):(binOp .neq 94 (.slice a n c) (.slice none 0 0)).run prog w=.ok (.bool (!a.isNone)) w:=run_neq_slice_nil_any w _ _ a n c 0 0 underlying94
def unbW (s:ByteArray) (k:Nat):Option (List (List UInt8)):=(unbundleOf s.data.toList).bind fun e=>if e.length=k then some e else none
section
variable (w:World) (g gd:Nat) (v ve vl vp:Value) (vs:List Value) (d:Dk) (L:Lg) (h:LogIs w g gd ve vl vp vs L) (hD:DiskAt w gd v d) (p:ByteArray) (k:Nat) (hc:d.calls<1099511627776)
include h hD hc
theorem bun_err (hk:0<enterK d):Calls prog 124 #[.pointer (some ⟨g,0,none⟩),.string p,.int .i64 k] w fun e w'=>
  ∃ q n r,e=.returned (.tuple #[.slice none 0 0,.bool false,.iface 153 (.pointer (some ⟨r,0,none⟩))])∧w.heap.size≤q∧w.heap.size≤r∧w'.heap[q]?=some (.cells #[.int .i64 n] 366 (0,0))∧
   w'.heap[r]?=some (.cells #[.string p,.iface 152 (.pointer (some ⟨q,0,none⟩))] 155 (0,0))∧DiskAt w' gd v (enterD d)∧Fr (·=gd) w w':=by
 obtain⟨⟨c0,_⟩,f0⟩:=h.heads
 have hcon:=get_err (p:=p) hD hc hk
 clear h hD
 go_enter func124,ntmps124
 go_wp2_with (first
  | (go_at_call 249;refine hcon.mono ?_;rintro e w2 ⟨q,n,rfl,hq,hh,hd2,hf2⟩;have hn:=neq_nil w2 152 (.pointer (some ⟨q,0,none⟩));have HD:=zh hd2;have HF:=zh hf2;have HH:=zh hh;clear hd2 hf2 hh)
  | (go_at_call 65;refine (at_any _ _ _ _).mono ?_;rintro e w3 ⟨u,rfl,⟨r,rfl,hr,hhr⟩,hb3⟩;have HR:=zh hhr;have HB:=zh hb3;clear hhr hb3))
 go_returns
 exact⟨_,_,_,rfl,hq,Nat.le_trans HF.o.size hr,(HB.o.block _ (lt_of_heap HH.o)).trans HH.o,HR.o,HD.o.below HB.o,HF.o.trans (Fr.ofBelow HB.o)⟩
theorem bun_miss (hk:enterK d=0) (hg:getF d.files p=none):Calls prog 124 #[.pointer (some ⟨g,0,none⟩),.string p,.int .i64 k] w fun e w'=>
  e=.returned (.tuple #[.slice none 0 0,.bool false,.nilIface])∧DiskAt w' gd v (enterD d)∧Fr (·=gd) w w':=by
 obtain⟨⟨c0,_⟩,f0⟩:=h.heads
 have hcon:=get_miss (p:=p) hD hc hk hg
 clear h hD hg
 go_enter func124,ntmps124
 go_wp2_with (first
  | (go_at_call 249;refine hcon.mono ?_;rintro e w2 ⟨rfl,hd2,hf2⟩;have hn:=neq_nils w2;have HD:=zh hd2;have HF:=zh hf2;clear hd2 hf2)
  | (go_at_call 94;refine (unb_none (data:=[]) ⟨none,0,rfl,Nat.le_refl _,fun j x hx=>by simp at hx⟩ (by simp) unbundle_empty).mono ?_;rintro e w3 ⟨rfl,hb3⟩;have hq:=neq_bnil w3 none 0 0;have HB:=zh hb3;clear hb3))
 go_returns
 exact⟨rfl,HD.o.below HB.o,HF.o.trans (Fr.ofBelow HB.o)⟩
theorem bun_bad {s:ByteArray} (hk:enterK d=0) (hg:getF d.files p=some s) (hs:s.size≤1048576) (hu:unbW s k=none):Calls prog 124 #[.pointer (some ⟨g,0,none⟩),.string p,.int .i64 k] w fun e w'=>
  e=.returned (.tuple #[.slice none 0 0,.bool true,.nilIface])∧DiskAt w' gd v (enterD d)∧Fr (·=gd) w w':=by
 obtain⟨⟨c0,_⟩,f0⟩:=h.heads
 have hcon:=get_hit (p:=p) hD hc hk hg
 clear h hD hg
 cases hb:unbundleOf s.data.toList with
 | none=>
  have HU:=zh hb
  clear hb hu
  go_enter func124,ntmps124
  go_wp2_with (first
   | (go_at_call 249;refine hcon.mono ?_;rintro e w2 ⟨b,c,rfl,ho,hd2,hf2⟩;have hn:=neq_nils w2;have HO:=zh ho.at;have HD:=zh hd2;have HF:=zh hf2;clear hd2 hf2 ho)
   | (go_at_call 94;refine (unb_none HO.o (by simpa using Nat.le_trans hs (by decide)) HU.o).mono ?_;rintro e w3 ⟨rfl,hb3⟩;have hq:=neq_bnil w3 (some ⟨b,0,none⟩) s.size c;have HB:=zh hb3;clear hb3))
  go_returns
  exact⟨rfl,HD.o.below HB.o,HF.o.trans (Fr.ofBelow HB.o)⟩
 | some ls=>
  have hne:ls.length≠k:=by
   intro e
   unfold unbW at hu
   rw[hb,Option.bind_some,if_pos e] at hu
   cases hu
  have hnz:((ls.length:Int) != (k:Int))=true:=by simp;omega
  have HU:=zh hb
  clear hb hu hne
  go_enter func124,ntmps124
  go_wp2_with (first
   | (go_at_call 249;refine hcon.mono ?_;rintro e w2 ⟨b,c,rfl,ho,hd2,hf2⟩;have hn:=neq_nils w2;have HO:=zh ho.at;have HD:=zh hd2;have HF:=zh hf2;clear hd2 hf2 ho)
   | (go_at_call 94;refine (unb_some HO.o (by simpa using Nat.le_trans hs (by decide)) HU.o).mono ?_;rintro e w3 ⟨b3,c3,rfl,_,hb3⟩;have hq:=neq_bnil w3 (some ⟨b,0,none⟩) s.size c;have HB:=zh hb3;clear hb3))
  go_returns
  exact⟨rfl,HD.o.below HB.o,HF.o.trans (Fr.ofBelow HB.o)⟩
theorem bun_good {s:ByteArray} {ls:List (List UInt8)} (hk:enterK d=0) (hg:getF d.files p=some s) (hs:s.size≤1048576) (hu:unbW s k=some ls):Calls prog 124 #[.pointer (some ⟨g,0,none⟩),.string p,.int .i64 k] w fun e w'=>
  ∃ b c,e=.returned (.tuple #[.slice (some ⟨b,0,none⟩) ls.length c,.bool true,.nilIface])∧OwnBss w' w.heap.size (.slice (some ⟨b,0,none⟩) ls.length c) ls∧DiskAt w' gd v (enterD d)∧Fr (·=gd) w w':=by
 obtain⟨⟨c0,_⟩,f0⟩:=h.heads
 have hcon:=get_hit (p:=p) hD hc hk hg
 clear h hD hg
 obtain⟨hb,hl⟩:unbundleOf s.data.toList=some ls∧ls.length=k:=by
  unfold unbW at hu
  cases hb:unbundleOf s.data.toList with
  | none=>rw[hb] at hu;cases hu
  | some ls'=>
   rw[hb,Option.bind_some] at hu
   split at hu
   ·rename_i e;cases hu;exact⟨rfl,e⟩
   ·cases hu
 have hnz:((ls.length:Int) != (k:Int))=false:=by simp;omega
 have HU:=zh hb
 clear hb hu hl
 go_enter func124,ntmps124
 go_wp2_with (first
  | (go_at_call 249;refine hcon.mono ?_;rintro e w2 ⟨b,c,rfl,ho,hd2,hf2⟩;have hn:=neq_nils w2;have HO:=zh ho.at;have HD:=zh hd2;have HF:=zh hf2;clear hd2 hf2 ho)
  | (go_at_call 94;refine (unb_some HO.o (by simpa using Nat.le_trans hs (by decide)) HU.o).mono ?_;rintro e w3 ⟨b3,c3,rfl,ho3,hb3⟩;have hq:=neq_bnil w3 (some ⟨b,0,none⟩) s.size c;have HO3:=zh ho3;have HB:=zh hb3;clear hb3 ho3))
 go_returns
 refine⟨_,_,rfl,?_,HD.o.below HB.o,HF.o.trans (Fr.ofBelow HB.o)⟩
 exact HO3.o.mono HF.o.size
end
end
section
theorem LogIs.rest {w w1:World} {g gd:Nat} {ve vl vp:Value} {vs:List Value} {L:Lg} (h:LogIs w g gd ve vl vp vs L) {T:Nat→Prop} (hf:Fr T w w1) (t:TypeId) (hT:∀ k C s f,T k→w.heap[k]?=some (.cells C s f)→s=t) :
  (t≠138→w1.heap[g]?=w.heap[g]?)∧(t≠94→t≠5→OwnBss w1 0 ve L.entries)∧(t≠104→w1.ownsRow 0 104 1 vl L.levels.length vs)∧
   (t≠109→∀ (j:Nat) (v:Value) (r:List Hsh),vs[j]?=some v→L.levels[j]?=some r→OwnHs w1 0 v r)∧(t≠3→w1.ownsRow 0 3 1 vp L.put.length (L.put.map fun (n:Nat)=>.int .i64 (n:Int))):=by
 have key:∀ {k:Nat} {C:Array Value} {s:TypeId} {f:Nat×Nat},w.heap[k]?=some (.cells C s f)→t≠s→¬ T k:=fun hk hs hd=>hs (hT _ _ _ _ hd hk).symm
 refine⟨fun ht=>hf.block g (lt_of_heap h.cells) (key h.cells ht),fun ht ht2=>?_,fun ht=>?_,fun ht j v r hv hr=>?_,fun ht=>?_⟩
 ·refine h.ents.fr hf (fun k hk=>?_) (fun k C fz hk=>key hk ht2)
  obtain⟨vs',h1,_⟩:=h.ents
  obtain⟨C,hC⟩:=ownBlock_type h1 hk
  exact key hC ht
 ·refine ownsRow_fr h.rows hf fun k hk=>?_
  obtain⟨C,hC⟩:=ownBlock_type h.rows hk
  exact key hC ht
 ·refine ownsRow_fr (h.each j v r hv hr) hf fun k hk=>?_
  obtain⟨C,hC⟩:=ownBlock_type (h.each j v r hv hr) hk
  exact key hC ht
 ·refine ownsRow_fr h.puts hf fun k hk=>?_
  obtain⟨C,hC⟩:=ownBlock_type h.puts hk
  exact key hC ht
theorem OwnBss.setLog {w:World} {g i:Nat} {C:Array Value} {f:Nat×Nat} (hg:w.heap[g]?=some (.cells C 138 f)) {u v:Value} {ls:List (List UInt8)} (h:OwnBss w 0 v ls):OwnBss (w.setCell ⟨g,i,none⟩ u) 0 v ls:=by
 refine h.fr (Fr.set1 w g i u) (fun k hk e=>?_) (fun k C fz hk e=>heap_ne hk hg (by decide) e)
 obtain⟨vs',h1,_⟩:=h
 obtain⟨C,hC⟩:=ownBlock_type h1 hk
 exact heap_ne hC hg (by decide) e
theorem ownsRow_setLog {w:World} {g i:Nat} {C:Array Value} {f:Nat×Nat} (hg:w.heap[g]?=some (.cells C 138 f)) {u v:Value} {base:Nat} {e:TypeId} {size n:Nat} {xs:List Value} (h:w.ownsRow base e size v n xs) (he:e≠138):(w.setCell ⟨g,i,none⟩ u).ownsRow base e size v n xs:=
 ownsRow_fr h (Fr.set1 w g i u) fun k hk ee=>by
  obtain⟨C,hC⟩:=ownBlock_type h hk
  exact heap_ne hC hg he ee
theorem LogIs.setEnts {w w1:World} {g gd:Nat} {ve vl vp ve':Value} {vs:List Value} {L:Lg} {es:List (List UInt8)} (h:LogIs w g gd ve vl vp vs L) (hf:Fr (fun k=>ve.ownBlock=some k) w w1) (h2:OwnBss w1 0 ve' es) (hm:Moved w ve ve') :
  LogIs (w1.setCell ⟨g,2,none⟩ ve') g gd ve' vl vp vs { L with entries:=es }∧Fr (LogS g ve vl vp vs) w (w1.setCell ⟨g,2,none⟩ ve')∧Sub w (LogS g ve vl vp vs) (LogS g ve' vl vp vs):=by
 have hT:∀ k C s f,ve.ownBlock=some k→w.heap[k]?=some (.cells C s f)→s=94:=fun k C s f hk hC=>by
  obtain⟨vs',h1,_⟩:=h.ents
  obtain⟨C',hC'⟩:=ownBlock_type h1 hk
  rw[hC] at hC'
  cases hC'
  rfl
 obtain⟨a1,_,a3,a4,a5⟩:=h.rest hf 94 hT
 have hg1:=(a1 (by decide)).trans h.cells
 refine⟨⟨(heap_setCell hg1 _).trans (by simp[lgCells]),h2.setLog hg1,ownsRow_setLog hg1 (a3 (by decide)) (by decide),fun j v r hv hr=>ownsRow_setLog hg1 (a4 (by decide) j v r hv hr) (by decide),h.apart,ownsRow_setLog hg1 (a5 (by decide)) (by decide)⟩,
  (hf.weak fun k _ hk=>.inr (.inl hk)).trans ((Fr.set1 w1 g 2 ve').weak fun k _ hk=>.inl hk),fun k hk=>?_⟩
 rcases hk with hk|hk|hk
 ·exact .inl (.inl hk)
 ·exact (hm k hk).imp (fun h=>.inr (.inl h)) id
 ·exact .inl (.inr (.inr hk))
theorem LogIs.setPuts {w w1:World} {g gd:Nat} {ve vl vp vp':Value} {vs:List Value} {L:Lg} {ps:List Nat} (h:LogIs w g gd ve vl vp vs L) (hf:Fr (fun k=>vp.ownBlock=some k) w w1) (h2:w1.ownsRow 0 3 1 vp' ps.length (ps.map fun (n:Nat)=>.int .i64 (n:Int))) (hm:Moved w vp vp') :
  LogIs (w1.setCell ⟨g,4,none⟩ vp') g gd ve vl vp' vs { L with put:=ps }∧Fr (LogS g ve vl vp vs) w (w1.setCell ⟨g,4,none⟩ vp')∧Sub w (LogS g ve vl vp vs) (LogS g ve vl vp' vs):=by
 have hT:∀ k C s f,vp.ownBlock=some k→w.heap[k]?=some (.cells C s f)→s=3:=fun k C s f hk hC=>by
  obtain⟨C',hC'⟩:=ownBlock_type h.puts hk
  rw[hC] at hC'
  cases hC'
  rfl
 obtain⟨a1,a2,a3,a4,_⟩:=h.rest hf 3 hT
 have hg1:=(a1 (by decide)).trans h.cells
 refine⟨⟨(heap_setCell hg1 _).trans (by simp[lgCells]),(a2 (by decide) (by decide)).setLog hg1,ownsRow_setLog hg1 (a3 (by decide)) (by decide),fun j v r hv hr=>ownsRow_setLog hg1 (a4 (by decide) j v r hv hr) (by decide),h.apart,ownsRow_setLog hg1 h2 (by decide)⟩,
  (hf.weak fun k _ hk=>.inr (.inr (.inr (.inl hk)))).trans ((Fr.set1 w1 g 4 vp').weak fun k _ hk=>.inl hk),fun k hk=>?_⟩
 rcases hk with hk|hk|hk|hk|hk
 ·exact .inl (.inl hk)
 ·exact .inl (.inr (.inl hk))
 ·exact .inl (.inr (.inr (.inl hk)))
 ·exact (hm k hk).imp (fun h=>.inr (.inr (.inr (.inl h)))) id
 ·exact .inl (.inr (.inr (.inr (.inr hk))))
theorem LogIs.fail {w:World} {g gd:Nat} {ve vl vp:Value} {vs:List Value} {L:Lg} (h:LogIs w g gd ve vl vp vs L) (b:Bool) :
  LogIs (w.setCell ⟨g,5,none⟩ (.bool b)) g gd ve vl vp vs { L with failed:=b }∧Fr (LogS g ve vl vp vs) w (w.setCell ⟨g,5,none⟩ (.bool b)):=by
 have hg1:=h.cells
 exact⟨⟨(heap_setCell hg1 _).trans (by simp[lgCells]),h.ents.setLog hg1,ownsRow_setLog hg1 h.rows (by decide),fun j v r hv hr=>ownsRow_setLog hg1 (h.each j v r hv hr) (by decide),h.apart,ownsRow_setLog hg1 h.puts (by decide)⟩,(Fr.set1 w g 5 (.bool b)).weak fun k _ hk=>.inl hk⟩
theorem LogIs.setPut {w:World} {g gd:Nat} {ve vl vp:Value} {vs:List Value} {L:Lg} (h:LogIs w g gd ve vl vp vs L) {bp cp:Nat} (hvp:vp=.slice (some ⟨bp,0,none⟩) L.put.length cp) (n x:Nat) :
  LogIs (w.setCell ⟨bp,n,none⟩ (.int .i64 x)) g gd ve vl vp vs { L with put:=L.put.set n x }∧Fr (LogS g ve vl vp vs) w (w.setCell ⟨bp,n,none⟩ (.int .i64 x)):=by
 have hk:vp.ownBlock=some bp:=by rw[hvp];rfl
 obtain⟨C,hC⟩:=ownBlock_type h.puts hk
 have hf:=Fr.set1 w bp n (.int .i64 (x:Int))
 obtain⟨a1,a2,a3,a4,_⟩:=h.rest hf 3 fun k C' s f hk' hC'=>by
  subst hk'
  rw[hC] at hC'
  cases hC'
  rfl
 refine⟨⟨(a1 (by decide)).trans h.cells,a2 (by decide) (by decide),a3 (by decide),a4 (by decide),h.apart,?_⟩,hf.weak fun k _ hk=>.inr (.inr (.inr (.inl (by rw[hvp,hk];rfl))))⟩
 rcases h.puts.2 with ⟨e,_⟩|⟨b,cap,cur,e,hb0,hb,r1,r2,r3,r4⟩
 ·rw[hvp] at e;cases e
 ·rw[hvp] at e
  cases e
  refine⟨by simp,.inr ⟨bp,cp,_,by simpa using hvp,Nat.zero_le _,heap_setCell hb _,by simpa using r1,r2,by simpa using r3,?_⟩⟩
  rw[Array.toList_setIfInBounds,List.take_set]
  simp only[List.length_set]
  rw[r4,List.map_set]
theorem OwnBss.push {w w1:World} {v v':Value} {n m:Nat} {ls ls':List (List UInt8)} {vs us:List Value} (hrow:w.ownsRow 0 94 1 v n vs) (h2:∀ (j:Nat) (u:Value) (l:List UInt8),vs[j]?=some u→ls[j]?=some l→OwnBytes w 0 u l) (hn:n=ls.length)
  (hf:Fr (fun k=>v.ownBlock=some k) w w1) (hr:w1.ownsRow 0 94 1 v' m (vs++us)) (hm:m=ls.length+ls'.length) (hb:∀ (j:Nat) (u:Value) (l:List UInt8),us[j]?=some u→ls'[j]?=some l→OwnBytes w 0 u l):OwnBss w1 0 v' (ls++ls'):=by
 have hl:vs.length=n:=by simpa using hrow.1
 have hno:∀ (k:Nat) (C:Array Value) (fz:Nat×Nat),w.heap[k]?=some (Obj.cells C 5 fz)→w1.heap[k]?=w.heap[k]?:=fun k C fz hk=>hf.block k (lt_of_heap hk) fun e=>by
  obtain⟨C',hC'⟩:=ownBlock_type hrow e
  exact heap_ne hk hC' (by decide) rfl
 refine⟨vs++us,by rw[List.length_append,←hm];exact hr,fun j u l hu' hl'=>?_⟩
 by_cases hj:j<vs.length
 ·rw[List.getElem?_append_left hj] at hu'
  rw[List.getElem?_append_left (by omega)] at hl'
  exact (h2 j u l hu' hl').same hno
 ·rw[List.getElem?_append_right (by omega)] at hu' hl'
  rw[hl,hn] at hu'
  exact (hb _ u l hu' hl').same hno
end
section
theorem info_intE:∃ i,prog.info? 3=some i∧i.zero=some (.int .i64 0)∧i.size=1∧i.bytes=8:=by
 have h:(prog.info? 3).map (fun i=>(i.zero,i.size,i.bytes))=some (some (.int .i64 0),1,8):=by kernel_rfl
 cases hi:prog.info? 3 with
 | none=>rw[hi] at h;simp at h
 | some i=>rw[hi] at h;simp at h;exact⟨i,rfl,h.1,h.2.1,h.2.2⟩
def bothS (g gd:Nat) (v ve vl vp:Value) (vs:List Value) (k:Nat):Prop:=dkS gd v k∨LogS g ve vl vp vs k
structure Wk (w:World) (g gd:Nat) (v ve vl vp:Value) (vs:List Value) (L:Lg) (v' vp':Value) (d':Dk) (ps:List Nat) (w':World):Prop where
 disk:DiskAt w' gd v' d'
 log:LogIs w' g gd ve vl vp' vs { L with put:=ps }
 fr:Fr (bothS g gd v ve vl vp vs) w w'
 sub:Sub w (bothS g gd v ve vl vp vs) (bothS g gd v' ve vl vp' vs)
section
variable {w w1 w2:World} {g gd:Nat} {v v1 v2 ve vl vp vp1 vp2:Value} {vs:List Value} {L:Lg} {d1 d2:Dk} {ps ps2:List Nat}
theorem Wk.put (h:Wk w g gd v ve vl vp vs L v1 vp1 d1 ps w1) (hd:DiskAt w2 gd v2 d2) (hf:Fr (dkS gd v1) w1 w2) (hm:Moved w1 v1 v2) (hsz:w.heap.size≤w1.heap.size):Wk w g gd v ve vl vp vs L v2 vp1 d2 ps w2:=by
 refine⟨hd,h.log.fr hf (fun k hk=>h.log.apartDisk h.disk k hk) h.disk.noBytes,Fr.sub h.fr (hf.weak fun k _ hk=>(.inl hk:bothS g gd v1 ve vl vp1 vs k)) h.sub,h.sub.trans (fun k hk=>?_) hsz⟩
 rcases hk with (hk|hk)|hk
 ·exact .inl (.inl (.inl hk))
 ·exact (hm k hk).imp (fun h=>.inl (.inr h)) id
 ·exact .inl (.inr hk)
theorem Wk.below (h:Wk w g gd v ve vl vp vs L v1 vp1 d1 ps w1) (hb:Below w1.heap.size w1 w2):Wk w g gd v ve vl vp vs L v1 vp1 d1 ps w2:=
 ⟨h.disk.below hb,h.log.below hb,h.fr.trans (Fr.ofBelow hb),h.sub⟩
theorem Wk.marks (h:Wk w g gd v ve vl vp vs L v1 vp1 d1 ps w1) (hl:LogIs w2 g gd ve vl vp2 vs { L with put:=ps2 }) (hf:Fr (LogS g ve vl vp1 vs) w1 w2) (hs:Sub w1 (LogS g ve vl vp1 vs) (LogS g ve vl vp2 vs)) (hsz:w.heap.size≤w1.heap.size):Wk w g gd v ve vl vp vs L v1 vp2 d1 ps2 w2:=by
 refine⟨h.disk.fr hf fun k hk hS=>h.log.apartDisk h.disk k hS hk,hl,Fr.sub h.fr (hf.weak fun k _ hk=>(.inr hk:bothS g gd v1 ve vl vp1 vs k)) h.sub,h.sub.trans (fun k hk=>?_) hsz⟩
 rcases hk with hk|hk
 ·exact .inl (.inl hk)
 ·exact (hs k hk).imp (fun h=>.inr h) id
end
def writePost (w:World) (g gd:Nat) (v ve vl vp:Value) (vs:List Value) (d:Dk) (L:Lg) (t:Int) (n:Nat) (row:List (List UInt8)) (e:Ending) (w':World):Prop:=
 ∃ p1 q,p1=L.put++List.replicate (n+1-L.put.length) 0∧q=writeJ t row (p1.getD n 0 / 4) d∧∃ v' vp',Wk w g gd v ve vl vp vs L v' vp' q.1 (p1.set n q.2.1) w'∧
  ((q.2.2=none∧e=.returned .nilIface)∨∃ p r u m,q.2.2=some p∧e=.returned (.iface 153 (.pointer (some ⟨r,0,none⟩)))∧w.heap.size≤r∧w.heap.size≤u∧w'.heap[u]?=some (.cells #[.int .i64 m] 366 (0,0))∧
   w'.heap[r]?=some (.cells #[.string p,.iface 152 (.pointer (some ⟨u,0,none⟩))] 155 (0,0)))
theorem wr_k4 (j len k:Nat) (hk:k=min 4 (len-4*j)) (h:4*j<len):4*min (j+1) (len / 4)=if k=4 then 4*j+4 else 4*min j (len / 4):=by split <;> omega
theorem int_eq4 (k:Nat):((k:Int) == 4)=decide (k=4):=by rw[Bool.eq_iff_iff];simp;omega
theorem wr_sum (j len k:Nat) (hl:len≤1048576) (hk:k=min 4 (len-4*j)) (h:4*j<len):wrap64 (4*(j:Int)+(k:Int))=4*(j:Int)+(k:Int):=by unfold wrap64;omega
theorem wr_lt {a b j j0 len:Nat} (h:a≤b+(j-j0)) (hb:b<1000000000000) (hj:4*j<len) (hl:len≤1048576):a<1099511627776:=by omega
theorem wr_sum2 (j len k:Nat) (hl:len≤1048576) (hk:k=min 4 (len-4*j)) (h:4*j<len):IntKind.i64.wrap (4*(j:Int)+(k:Int))=4*(j:Int)+(k:Int):=by rw[IntKind.wrap_i64];omega
theorem putD_bd (d:Dk) (p b:ByteArray):(putD d p b).calls=d.calls+1∧(putD d p b).files.length≤d.files.length+1:=by
 unfold putD
 split
 ·exact⟨enterD_calls d,by show (enterD d).files.length≤_;rw[enterD_files];omega⟩
 ·refine⟨(swapD_hit d p b).2.2.2,?_⟩
  rw[swapD_files]
  split
  ·exact (putF_len _ _ _).2
  ·omega
theorem wr_more {a a' b j j0:Nat} (h:a≤b+(j-j0)) (h':a'≤a+1) (hj:j0≤j):a'≤b+(j+1-j0):=by omega
theorem wr_meas {len j gk:Nat} (hj:4*j<len):len+4-4*(j+1)<len+4-4*j:=by omega
theorem puts_map (ps:List Nat) (x:Nat):(ps ++ [x]).map (fun (n:Nat)=>Value.int .i64 (n:Int))=ps.map (fun (n:Nat)=>Value.int .i64 (n:Int)) ++ [.int .i64 (x:Int)]:=by simp
theorem write_any (f:Nat→Addr) (w:World) (g gd:Nat) (v ve vl vp:Value) (vs:List Value) (d:Dk) (L:Lg) (h:LogIs w g gd ve vl vp vs L) (hD:DiskAt w gd v d) (hE:EnvS f (bothS g gd v ve vl vp vs) w) (t:Int) (n:Nat) (ht:t+1=n) (hn:n≤1048576) (hpl:L.put.length≤1048576)
  (row:List (List UInt8)) (hrow:row.length≤1048576) (hmark:∀ a,L.put[n]?=some a→a%4=0∧a≤row.length) (hshort:∀ x∈row,x.length≤64) (hc:d.calls<1000000000000) (hfl:d.files.length<1000000000000)
  (F:FuncId) (gc:Nat) (hen:∀ args w,(callFunc F args).run prog w=.ok (.enter F args) w)
  (hF:∀ (w1:World) (vp1:Value) (ps:List Nat),LogIs w1 g gd ve vl vp1 vs { L with put:=ps }→Fr (bothS g gd v ve vl vp vs) w w1→∀ j,4*j<row.length→
   Calls prog F #[.int .i64 (4*(j:Int)),.int .i64 (4*(j:Int)+((min 4 (row.length-4*j):Nat):Int)),.pointer (some ⟨gc,0,none⟩)] w1 fun e w2=>∃ vb,e=.returned vb∧BytesAt w2 vb ((row.drop (4*j)).take 4).flatten∧Below w1.heap.size w1 w2) :
  Calls prog 77 #[.pointer (some ⟨g,0,none⟩),.int .i64 t,.int .i64 row.length,.func (.func F) #[] #[.pointer (some ⟨gc,0,none⟩)]] w (writePost w g gd v ve vl vp vs d L t n row):=by
 have HE:=zh hE
 have HF:=zh hF
 have HM:=zh hmark
 have HSH:=zh hshort
 have hg:=lt_of_heap h.cells
 have HW0:=zh (⟨hD,h,Fr.refl _ _,Sub.refl _ _⟩:Wk w g gd v ve vl vp vs L v vp d L.put w)
 have htw:wrap64 (t+1)=(n:Int):=by rw[ht];unfold wrap64;omega
 have HT:=zh ht
 clear h hD hE hF hmark hshort ht
 obtain⟨i0,hi0,hz0,hs0,hby0⟩:=info_intE
 have HI:=zh (⟨hi0,hz0,hs0,hby0⟩:_∧_∧_∧_)
 clear hi0 hz0 hs0 hby0
 go_enter func77,ntmps77
 go_wp2_with fail
 go_loopg [] (n+2) (fun gg wr=>∃ (k:Nat) (vp1:Value),k≤n+1-L.put.length∧n+2-k≤gg∧Aside (Wk w g gd v ve vl vp vs L v vp1 d (L.put++List.replicate k 0) wr)∧w.heap.size≤wr.heap.size)
 case atStart=>
  refine⟨0,vp,Nat.zero_le _,by omega,?_,Nat.le_refl _⟩
  show Wk _ _ _ _ _ _ _ _ _ _ _ _ _ _
  rw[List.replicate_zero,List.append_nil]
  exact HW0.o
 case round=>
  obtain⟨k,vp1,hk,hgg,HW1,hsw⟩:=hrel
  have hd1:=HW1.o.log.heads
  have c4:=hd1.1.2.2.2.2.1
  have f4:=hd1.2 4
  have hg1:=lt_of_heap HW1.o.log.cells
  obtain⟨a1,cp1,rfl⟩:=own_any HW1.o.log.puts
  obtain⟨np,hnp⟩:∃ np,np=({ L with put:=L.put++List.replicate k 0 }:Lg).put.length:=⟨_,rfl⟩
  have hnp2:np=L.put.length+k:=by rw[hnp];simp
  have hrow1:=HW1.o.log.puts
  rw[←hnp] at c4 hrow1
  have hne:¬ (Value.slice a1 np cp1).ownBlock=some g:=fun e=>by
   obtain⟨C,hC⟩:=ownBlock_type hrow1 e
   exact heap_ne HW1.o.log.cells hC (by decide) rfl
  have HNP:=zh hnp
  have HROW1:=zh hrow1
  have HNE:=zh hne
  have HNP2:=zh hnp2
  clear hd1 hnp hrow1 hne
  by_cases hlt:np≤n
  ·have hltz:(np:Int)≤(n:Int):=by omega
   have hnb:np+1≤1099511627776:=by omega
   clear hnp2
   go_wp2_with (at_builtin;refine wpList_appM rfl _ _ _ rfl 0 3 i0 _ 1 8 underlying23 HI.o.1 HI.o.2.1 HI.o.2.2.1 HI.o.2.2.2 rfl (by decide) (by decide) (.slice a1 np cp1) np _ (by rfl) (ownsRow_below HROW1.o (below_alloc wr (.cells #[.int .i64 0] 3))) ⟨wr.heap.size,0,none⟩ 1 1 [.int .i64 0] rfl rfl (cell_one_new _ _ _) (by simp[Value.oneCell']) (by decide) hnb (Nat.zero_le _) ?_;intro v' w' h2 h3 h4 h5;obtain⟨gb,cpb,rfl,hgb⟩:=own_slice h2 h5;have H2:=zh h2;have H3:=zh ((Fr.ofBelow (S:=fun k=>(Value.slice a1 np cp1).ownBlock=some k) (below_alloc wr (.cells #[.int .i64 0] 3))).trans (Fr.ofGrown h3 fun k _ e=>e));have H4:=zh ((Moved.refl wr (.slice a1 np cp1)).trans h4 (by simp));go_must (have k3:=H3.o.cell c4 HNE.o;have k4:=(H3.o.frozen (p:=⟨g,4,none⟩) hg1 HNE.o).trans f4;clear h2 h3 h4 h5))
   go_roundg (n+2-(k+1))
   case measure=>omega
   case rel=>
    have hp:=HW1.o.log.setPuts (ps:=L.put++List.replicate (k+1) 0) (vp':=.slice (some ⟨gb,0,none⟩) (np+1) cpb) (by rw[←HNP.o];exact H3.o) (by
     have e:L.put++List.replicate (k+1) 0=L.put++List.replicate k 0 ++ [0]:=by rw[List.append_assoc,List.replicate_succ']
     rw[e,puts_map]
     have e2:(L.put++List.replicate k 0 ++ [0]).length=np+1:=by have:=HNP2.o;simp only[List.length_append,List.length_replicate,List.length_cons,List.length_nil];omega
     rw[e2]
     exact H2.o) (by rw[←HNP.o];exact H4.o)
    exact⟨k+1,.slice (some ⟨gb,0,none⟩) (np+1) cpb,by have:=HNP2.o;omega,by omega,HW1.o.marks hp.1 hp.2.1 hp.2.2 hsw,by have:=hp.2.1.size;omega⟩
  ·have hltz:¬ (np:Int)≤(n:Int):=by omega
   have hkk:k=n+1-L.put.length:=by omega
   obtain⟨p1,hp1⟩:∃ p1,p1=L.put++List.replicate k 0:=⟨_,rfl⟩
   have hpl1:p1.length=np:=by rw[hp1,HNP.o]
   obtain⟨a,ha⟩:∃ a,p1[n]?=some a:=⟨_,List.getElem?_eq_getElem (by omega)⟩
   have ham:a%4=0∧a≤row.length:=by
    rw[hp1] at ha
    by_cases hl:n<L.put.length
    ·rw[List.getElem?_append_left hl] at ha
     exact HM.o a ha
    ·rw[List.getElem?_append_right (by omega),List.getElem?_replicate] at ha
     split at ha
     ·cases ha;exact⟨rfl,by omega⟩
     ·cases ha
   obtain⟨bp,rfl⟩:∃ bp,a1=some ⟨bp,0,none⟩:=by
    rcases HROW1.o.2 with ⟨e,h0⟩|⟨b,cap,cur,e,_⟩
    ·omega
    ·simp at e;exact⟨b,e.1⟩
   have cbp:wr.cell? ⟨bp,n,none⟩=some (.int .i64 (a:Int)):=by
    have h1:=HROW1.o.cells (g:=bp) rfl n (.int .i64 (a:Int)) (by show ((L.put++List.replicate k 0).map _)[n]?=_;rw[←hp1,List.getElem?_map,ha];rfl)
    rw[Addr.add_lit] at h1
    simpa using h1
   obtain⟨j0,hj0⟩:∃ j0,j0=a / 4:=⟨_,rfl⟩
   have haj:a=4*j0:=by omega
   have hset:p1.set n (4*min j0 (row.length / 4))=p1:=by
    have e:4*min j0 (row.length / 4)=a:=by omega
    rw[e]
    obtain⟨hlt',he⟩:=List.getElem?_eq_some_iff.1 ha
    rw[←he]
    exact List.set_getElem_self hlt'
   have hgetD:p1.getD n 0 / 4=j0:=by rw[List.getD_eq_getElem?_getD,ha];exact hj0.symm
   have hnz:(n:Int)<(np:Int):=by omega
   have hn0:(0:Int)≤(n:Int):=by omega
   have cbp':wr.cell? ⟨bp,n,none⟩=some (.int .i64 (4*(j0:Int))):=by rw[cbp,haj];congr 2
   have HSET:=zh hset
   have HGET:=zh hgetD
   have HKK:=zh hkk
   have HP1:=zh hp1
   have HPL1:=zh hpl1
   have hjr:4*j0≤row.length:=by omega
   clear hset hgetD hkk hp1 hpl1 ha cbp haj hj0 ham hnp2
   go_wp2_with fail
   go_loopg [10] (row.length+4) (fun gg s10 wx=>∃ j:Nat,j0≤j∧4*j<row.length+4∧row.length+4-4*j≤gg∧s10=.int .i64 (4*(j:Int))∧∃ v1 d1,Aside (Wk w g gd v ve vl vp vs L v1 (.slice (some ⟨bp,0,none⟩) p1.length cp1) d1 (p1.set n (4*min j (row.length / 4))) wx)∧
    Aside (writeJ t row j0 d=writeJ t row j d1)∧d1.calls≤d.calls+(j-j0)∧d1.files.length≤d.files.length+(j-j0)∧w.heap.size≤wx.heap.size)
   case atStart=>
    refine⟨j0,Nat.le_refl _,by omega,by omega,rfl,v,d,?_,rfl,by omega,by omega,hsw⟩
    show Wk _ _ _ _ _ _ _ _ _ _ _ _ _ _
    rw[HSET.o,HPL1.o,HP1.o,HNP.o]
    exact HW1.o
   case round=>
    obtain⟨j,hj0,hj4,hg2,rfl,v1,d1,HW2,HJ,hdc,hdf,hsx⟩:=hrel
    by_cases hlt2:4*j<row.length
    ·have hltz2:4*(j:Int)<(row.length:Int):=by omega
     have hq4:4*(j:Int) / 4=(j:Int):=by omega
     obtain⟨k',hk'⟩:∃ k',k'=min 4 (row.length-4*j):=⟨_,rfl⟩
     obtain⟨p,hp⟩:∃ p,p=(fileOf t row j).1:=⟨_,rfl⟩
     have hcon:=fat_any t j row.length wr hlt2 (by omega) (HE.o.step HW2.o.fr HW2.o.sub).num
     rw[show sOf (nameOf t (j:Int) ((min 4 (row.length-4*j):Nat):Int))=p from hp.symm,←hk'] at hcon
     have hwr:=wr_sum j row.length k' hrow hk' hlt2
     have hwr2:IntKind.i64.wrap (4*(j:Int)+(k':Int))=4*(j:Int)+(k':Int):=wr_sum2 j row.length k' hrow hk' hlt2
     have hk4:=wr_k4 j row.length k' hk' hlt2
     have hkb:k'≤4:=hk' ▸ Nat.min_le_left _ _
     obtain⟨ck,hck,hck2⟩:∃ ck,((k':Int) == 4)=ck∧ck=decide (k'=4):=⟨_,rfl,int_eq4 k'⟩
     have HK:=zh hk'
     have HP:=zh hp
     have HK4:=zh hk4
     have HCK:=zh hck2
     have hc1:d1.calls<1099511627776:=wr_lt hdc hc hlt2 hrow
     have hf1:d1.files.length<1099511627776:=wr_lt hdf hfl hlt2 hrow
     clear hk' hp hk4 hck2
     go_wp2_with (go_at_call 123;refine hcon.mono ?_;rintro e w3 ⟨rfl,hb3⟩;have HW3:=zh (HW2.o.below hb3);have HB3:=zh hb3;have hd3:=HW3.o.log.heads;clear hb3)
     have c30:=hd3.1.1
     have hg3:=lt_of_heap HW3.o.log.cells
     clear hd3
     go_cut [13] from 54 to 67 (fun s13 wy=>∃ v2,Aside (Wk w g gd v ve vl vp vs L v2 (.slice (some ⟨bp,0,none⟩) p1.length cp1) (putD d1 p (fileOf t row j).2) (p1.set n (4*min j (row.length / 4))) wy)∧Aside (∃ bs,w.heap.size≤bs∧MayErr wy bs (badPut d1 (fileOf t row j)) s13)∧w.heap.size≤wy.heap.size)
     case first=>
      go_region_law (first|(go_simp;have hcF:=HF.o _ _ _ (HW3.o.below (below_drew w3)).log (HW3.o.below (below_drew w3)).fr j hlt2;rw[←HK.o] at hcF;refine hcF.mono ?_;rintro e w4 ⟨vb,rfl,hvb,hb4⟩;have HVB:=zh hvb;have HW4:=zh ((HW3.o.below (below_drew w3)).below hb4);have HB4:=zh hb4;have c40:=(hb4.cell (p:=⟨g,0,none⟩) hg3).trans c30;have hg4:g<w4.heap.size:=Nat.lt_of_lt_of_le hg3 hb4.size;clear hb4 hvb)|(go_simp;go_invoke;go_simp;go_at_call 250;refine (put_any w4 gd v1 d1 HW4.o.disk p vb _ HVB.o hc1 hf1).mono ?_;rintro e w5 ⟨u,rfl,hme,v2,hd5,hf5,hm5⟩;have HME:=zh hme;have HW5:=zh (HW4.o.put hd5 hf5 hm5 (by have:=HW3.o.fr.size;have:=HB4.o.size;exact Nat.le_trans ‹w.heap.size≤w3.heap.size› this));have HF5:=zh hf5;clear hme hd5 hf5 hm5))
      all_goals (
       go_wp2_with fail
       go_meet
       have hw34:w.heap.size≤w4.heap.size:=by have:=HW4.o.fr.size;exact this
       refine⟨v2,HW5.o,⟨w4.heap.size,hw34,?_⟩,Nat.le_trans hw34 HF5.o.size⟩
       unfold badPut
       rw[←HP.o]
       exact HME.o)
     case rest=>
      obtain⟨v2,HW6,HME6,hwc⟩:=hcut
      have HME7:=HME6.o
      clear HME6
      obtain⟨bs,hbs,HME7⟩:=HME7
      cases hbad:badPut d1 (fileOf t row j) with
      | true=>
       rw[hbad] at HME7
       have HBAD:=zh hbad
       obtain⟨q,nn,rfl,hq,hh⟩:OwnErr wc bs u13:=HME7
       have HH:=zh hh
       have hnn:=neq_nil wc 152 (.pointer (some ⟨q,0,none⟩))
       clear hbad hh
       go_wp2_with (go_at_call 65;refine (at_any _ _ _ _).mono ?_;rintro e w7 ⟨u,rfl,⟨r,rfl,hr,hhr⟩,hb7⟩;have HR:=zh hhr;have HB7:=zh hb7;clear hhr hb7)
       go_ret
       have hw:=writeJ_bad t row j d1 hlt2 HBAD.o
       refine⟨p1,writeJ t row j0 d,?_,?_,v2,.slice (some ⟨bp,0,none⟩) p1.length cp1,?_,.inr ⟨p,r,q,nn,?_,rfl,Nat.le_trans hwc hr,Nat.le_trans hbs hq,(HB7.o.block _ (lt_of_heap HH.o)).trans HH.o,HR.o⟩⟩
       ·rw[HP1.o,HKK.o]
       ·rw[HGET.o]
       ·rw[HJ.o,hw,←HP.o]
        exact HW6.o.below HB7.o
       ·rw[HJ.o,hw,←HP.o]
      | false=>
       rw[hbad] at HME7
       have hu13:u13=.nilIface:=HME7
       subst hu13
       have hnn:=neq_nils wc
       have hstep:=writeJ_step t row j d1 hlt2 hbad
       rw[←HP.o] at hstep
       have HSTEP:=zh hstep
       have hpd:=putD_bd d1 p (fileOf t row j).2
       have HPD:=zh hpd
       have hlp:wc.ownsRow 0 3 1 (.slice (some ⟨bp,0,none⟩) p1.length cp1) p1.length ((p1.set n (4*min j (row.length / 4))).map fun (n:Nat)=>.int .i64 (n:Int)):=by
        have h1:=HW6.o.log.puts
        have e:({ L with put:=p1.set n (4*min j (row.length / 4)) }:Lg).put.length=p1.length:=List.length_set
        rw[e] at h1
        exact h1
       have hnp:n<p1.length:=by rw[HPL1.o];omega
       have hcel:wc.cell? ⟨bp,n,none⟩=some (.int .i64 ((4*min j (row.length / 4):Nat):Int)):=by
        have h1:=hlp.cells (g:=bp) rfl n (.int .i64 ((4*min j (row.length / 4):Nat):Int)) (by rw[List.getElem?_map,List.getElem?_set_self hnp];rfl)
        rw[Addr.add_lit] at h1
        simpa using h1
       obtain⟨C,hC⟩:=ownBlock_type hlp (k:=bp) rfl
       have hfz:=frozen_heap hC n
       have hbp:=lt_of_heap hC
       clear hbad hstep hpd HME7 hlp hC hnp
       cases ck with
       | true=>
        have hk44:k'=4:=by have:=HCK.o;simpa using this
        have HK44:=zh hk44
        clear hk44
        obtain⟨old,hold⟩:∃ old,old=((4*min j (row.length / 4):Nat):Int):=⟨_,rfl⟩
        rw[←hold] at hcel
        clear hold
        go_wp2_with fail
        go_roundg (row.length+4-4*(j+1))
        case measure=>exact Nat.lt_of_lt_of_le (wr_meas (gk:=0) hlt2) hg2
        case rel=>
         have hsp:=HW6.o.log.setPut (bp:=bp) (cp:=cp1) (by show _=Value.slice _ (p1.set n _).length _;rw[List.length_set]) n (4*j+k')
         have hxx:((4*j+k':Nat):Int)=4*(j:Int)+(k':Int):=by omega
         rw[hxx] at hsp
         have hmk:(p1.set n (4*min j (row.length / 4))).set n (4*j+k')=p1.set n (4*min (j+1) (row.length / 4)):=by
          rw[List.set_set,HK4.o,if_pos HK44.o,HK44.o]
         refine⟨j+1,Nat.le_succ_of_le hj0,by omega,Nat.le_refl _,by go_num,v2,putD d1 p (fileOf t row j).2,?_,?_,wr_more hdc (Nat.le_of_eq HPD.o.1) hj0,wr_more hdf HPD.o.2 hj0,?_⟩
         ·show Wk _ _ _ _ _ _ _ _ _ _ _ _ _ _
          rw[←hmk]
          exact HW6.o.marks hsp.1 hsp.2 (Sub.refl _ _) hwc
         ·show writeJ _ _ _ _=_
          rw[HJ.o,HSTEP.o]
         ·have:=hsp.2.size;exact Nat.le_trans hwc this
       | false=>
        have hk44:k'≠4:=by have:=HCK.o;simpa using this
        have HK44:=zh hk44
        clear hk44 hcel hfz hbp
        go_wp2_with fail
        go_roundg (row.length+4-4*(j+1))
        case measure=>exact Nat.lt_of_lt_of_le (wr_meas (gk:=0) hlt2) hg2
        case rel=>
         refine⟨j+1,Nat.le_succ_of_le hj0,by omega,Nat.le_refl _,by go_num,v2,putD d1 p (fileOf t row j).2,?_,?_,wr_more hdc (Nat.le_of_eq HPD.o.1) hj0,wr_more hdf HPD.o.2 hj0,hwc⟩
         ·show Wk _ _ _ _ _ _ _ _ _ _ _ _ _ _
          rw[HK4.o,if_neg HK44.o]
          exact HW6.o
         ·show writeJ _ _ _ _=_
          rw[HJ.o,HSTEP.o]
    ·have hltz2:¬ 4*(j:Int)<(row.length:Int):=by omega
     have hend:row.length≤4*j:=by omega
     have HEND:=zh hend
     clear hend
     go_wp2_with fail
     go_ret
     have hw:=writeJ_end t row j d1 HEND.o
     have hmin:4*min j (row.length / 4)=4*(row.length / 4):=by have:=HEND.o;omega
     refine⟨p1,writeJ t row j0 d,?_,?_,v1,.slice (some ⟨bp,0,none⟩) p1.length cp1,?_,.inl ⟨?_,rfl⟩⟩
     ·rw[HP1.o,HKK.o]
     ·rw[HGET.o]
     ·rw[HJ.o,hw,←hmin]
      exact HW2.o
     ·rw[HJ.o,hw]
end
section
section
variable {l l':List Fil} (h:getF l'=getF l)
include h
end
theorem bundle_flat {ls:List (List UInt8)} (h0:ls.length≠0) (h4:ls.length≤4) (h:∀ l∈ls,l.length≤20):bundleOf ls=some (ls.map encE).flatten:=by
 rw[bundle_some h0 h4 fun j l hl=>h l (List.mem_of_getElem? hl),List.flatMap_def]
end
section
theorem flat8_get:∀ (hs:List Hsh) (i:Nat) (x:Hsh),hs[i]?=some x→∀ c,(hc:c<8)→(hs.flatMap fun h=>(h8 h).toList)[i*8+c]?=some (u8 x[c])
 | [],i,x,h,c,hc=>by simp at h
 | a :: hs,0,x,h,c,hc=>by
   simp at h
   subst h
   rw[List.flatMap_cons,List.getElem?_append_left (by simp;omega)]
   simp[h8,hc]
 | a :: hs,i+1,x,h,c,hc=>by
   rw[List.flatMap_cons,List.getElem?_append_right (by simp;omega)]
   have:=flat8_get hs i x (by simpa using h) c hc
   rw[show (i+1)*8+c-(h8 a).toList.length=i*8+c by simp;omega]
   exact this
theorem hashes_cell {w:World} {g n c':Nat} {hs:List Hsh} (h:w.ownsRow 0 109 8 (.slice (some ⟨g,0,none⟩) n c') hs.length (hs.flatMap fun h=>(h8 h).toList)) {i:Nat} {x:Hsh} (hx:hs[i]?=some x) (c:Nat) (hc:c<8):w.cell? ⟨g,i*8+c,none⟩=some (u8 x[c]):=by
 have h1:=h.cells (g:=g) rfl (i*8+c) _ (flat8_get hs i x hx c hc)
 rw[Addr.add_lit] at h1
 simpa using h1
end
section
theorem rebuild_nil (leaf:Hsh) (i n:Nat):rebuild leaf i n []=if n=1 then some leaf else none:=by simp[rebuild,rebuildR]
theorem rebuild_snoc (leaf last:Hsh) (i n:Nat) (q:List Hsh):rebuild leaf i n (q ++ [last])=if n=1 then none else if i<below n then (rebuild leaf i (below n) q).map (nodeH · last) else (rebuild leaf (i-below n) (n-below n) q).map (nodeH last ·):=by
 unfold rebuild below
 rw[List.reverse_append]
 rfl
end
section
theorem split_any (n:Int) (w:World) (h2:2≤n) (h3:n≤9223372036854775807) :
  Calls prog 140 #[.int .i64 n] w fun e w'=>e=.returned (.int .i64 (below n.toNat))∧w=w':=by
 obtain⟨e,he,he2,h4,h5⟩:=bl_bd (n:=n.toNat) (by omega) (by omega)
 have hb:below n.toNat=2 ^ e:=by unfold below;rw[he,Nat.add_sub_cancel]
 have HB:=zh hb
 have HE:Hid (Lib.bitLen (n-1).toNat=e+1):=by
  have:(n-1).toNat=n.toNat-1:=by omega
  rw[this];exact he
 have hp:((2:Int) ^ e)=((2 ^ e:Nat):Int):=by simp
 have hle:2 ^ e<9223372036854775808:=by omega
 have HP:=zh hp
 have HL:=zh hle
 clear hb he hp hle h4 h5
 go_enter func140,ntmps140
 go_wp2_with fail
 refine (bits_Len _ _ (by omega) (by omega)).mono ?_
 rintro e w1 ⟨rfl,rfl⟩
 rw[HE.o]
 go_wp2
 go_ret
 refine⟨ret_val ?_,rfl⟩
 rw[HB.o]
 simp only[HP.o]
 have:=HL.o
 show Value.int IntKind.i64 (wrap64 ((2 ^ e:Nat):Int))=_
 generalize 2 ^ e=m at this ⊢
 congr 1
 unfold wrap64
 omega
end
section
def IncludePost (leaf:Hsh) (i n:Nat) (p:List Hsh) (w:World) (e:Ending) (w':World):Prop:=
 ∃ s:Hsh,e=.returned (.tuple #[.agg (h8 s),.bool (rebuild leaf i n p).isSome])∧(∀ h,rebuild leaf i n p=some h→s=h)∧Below w.heap.size w w'
theorem flat_len (q:List Hsh):(q.flatMap fun h=>(h8 h).toList).length=q.length*8:=by
 induction q with
 | nil=>rfl
 | cons y q ih=>rw[List.flatMap_cons,List.length_append,ih,List.length_cons];simp;omega
theorem hashes_init {w:World} {a:Option Addr} {c m:Nat} {q:List Hsh} {x:Hsh} (h:HashesAt w (.slice a (m+1) c) (q ++ [x])) (hm:q.length=m) :
  ∃ b off,a=some ⟨b,off,none⟩∧m+1≤c∧(∀ j (hj:j<8),w.cell? ⟨b,off+m*8+j,none⟩=some (u8 x[j]))∧HashesAt w (.slice (some ⟨b,off,none⟩) m c) q:=by
 obtain⟨a',c',hv,hcap,hc⟩:=h
 have hl:(q.flatMap fun h=>(h8 h).toList).length=m*8:=by rw[flat_len,hm]
 simp only[Value.slice.injEq] at hv
 obtain⟨rfl,_,rfl⟩:=hv
 have hg:∀ j (hj:j<8),((q ++ [x]).flatMap fun h=>(h8 h).toList)[m*8+j]?=some (u8 x[j]):=fun j hj=>by
  rw[List.flatMap_append,List.getElem?_append_right (by omega),hl]
  have:m*8+j-m*8=j:=by omega
  rw[this]
  simp[h8,hj]
 obtain⟨b,off,rfl,_⟩:=hc _ _ (hg 0 (by omega))
 refine⟨b,off,rfl,by simpa [hm] using hcap,fun j hj=>?_,⟨_,c,by rw[hm],by simp at hcap;omega,fun j y hy=>?_⟩⟩
 ·obtain⟨b',off',heq,hcell⟩:=hc _ _ (hg j hj)
  cases heq
  rw[Nat.add_assoc]
  exact hcell
 ·refine hc j y ?_
  rw[List.flatMap_append,List.getElem?_append_left (List.getElem?_eq_some_iff.1 hy).1]
  exact hy
section
attribute [local go_sem] h8_0 h8_1 h8_2 h8_3 h8_4 h8_5 h8_6 h8_7 h8_fold h8_size
theorem include_any (m:Nat):∀ (p:List Hsh) (leaf:Hsh) (i n:Int) (v:Value) (w:World),p.length=m→HashesAt w v p→0≤i→i<n→n≤9223372036854775807→m≤1048576→
  Calls prog 148 #[.agg (h8 leaf),.int .i64 i,.int .i64 n,v] w (IncludePost leaf i.toNat n.toNat p w):=by
 induction m with
 | zero=>
  intro p leaf i n v w hp h h0 hi hn hm
  obtain rfl:p = []:=List.eq_nil_of_length_eq_zero hp
  obtain⟨a,c,rfl,hcap,_⟩:=h
  clear hp
  by_cases h1:n=1
  ·subst h1
   go_enter func148,ntmps148
   go_wp2_with (first|((first|refine wpList_load8 rfl 109 _ rfl _ rfl _ underlying109 info8 ?_ ?_ ?_|refine wpList_store8 rfl 109 _ _ rfl _ _ rfl rfl info8 ?_ ?_ ?_);rotate_left;focus((repeat(first|(with_reducible first|assumption|exact hashOf_set' ⟨_,by assumption⟩ _)|((with_reducible first|refine hashOf_zero' ?_|refine hashOf_at ?_|refine hashOf_set' (Is8_zero ?_) _);(first|rfl|(simp;done)|(simp;omega)))|with_reducible refine hashOf_old ?_ _|((with_reducible refine hashOf_other ?_ _ ?_);rotate_left;(focus(first|(simp;done)|(simp;omega)|omega)))|with_reducible first|refine hashOf_drew ?_|refine hashOf_below ?_ (by assumption)));done)))
   refine ret8t (w.heap.size+1) leaf (.bool true) rfl rfl rfl _ underlying109 info8 (hashOf_set' (Is8_zero (by simp)) _) rfl ⟨leaf,by simp[rebuild_nil],?_,below_setRow ((below_alloc w _).alloc (by simp) _) (by omega) _⟩
   intro h hh
   simp[rebuild_nil] at hh
   exact hh
  ·have hd:(n == 1)=false:=by simpa using h1
   go_enter func148,ntmps148
   go_wp2_with (first|(refine wpList_load8 rfl 109 _ rfl _ rfl _ underlying109 info8 ?_ ?_ ?_;rotate_left;focus ((repeat(first|(with_reducible first|assumption|exact hashOf_set' ⟨_,by assumption⟩ _)|((with_reducible first|refine hashOf_zero' ?_|refine hashOf_at ?_|refine hashOf_set' (Is8_zero ?_) _);(first|rfl|(simp;done)|(simp;omega)))|with_reducible refine hashOf_old ?_ _|((with_reducible refine hashOf_other ?_ _ ?_);rotate_left;(focus(first|(simp;done)|(simp;omega)|omega)))|with_reducible first|refine hashOf_drew ?_|refine hashOf_below ?_ (by assumption)));done))|(refine wpList_store8 rfl 109 _ _ rfl _ zero8 rfl (by rw[h8_zero];rfl) info8 ?_ ?_ ?_;rotate_left;focus ((repeat(first|(with_reducible first|assumption|exact hashOf_set' ⟨_,by assumption⟩ _)|((with_reducible first|refine hashOf_zero' ?_|refine hashOf_at ?_|refine hashOf_set' (Is8_zero ?_) _);(first|rfl|(simp;done)|(simp;omega)))|with_reducible refine hashOf_old ?_ _|((with_reducible refine hashOf_other ?_ _ ?_);rotate_left;(focus(first|(simp;done)|(simp;omega)|omega)))|with_reducible first|refine hashOf_drew ?_|refine hashOf_below ?_ (by assumption)));done)))
   have hr:rebuild leaf i.toNat n.toNat []=none:=by rw[rebuild_nil,if_neg (by omega)]
   refine ret8t (w.heap.size+1) zero8 (.bool false) rfl rfl rfl _ underlying109 info8 (hashOf_set' (Is8_zero (by simp)) _) rfl ⟨zero8,by rw[hr];rfl,(fun h hh=>by rw[hr] at hh;cases hh),below_setRow ((below_alloc w _).alloc (by simp) _) (by omega) _⟩
 | succ m ih=>
  intro p leaf i n v w hp h h0 hi hn hm
  obtain⟨q,last,rfl⟩:∃ q last,p=q ++ [last]:=⟨p.dropLast,p.getLast (by intro e;simp[e] at hp),(List.dropLast_concat_getLast _).symm⟩
  have hq:q.length=m:=by simpa using hp
  obtain⟨a,c,hv,_⟩:=id h
  rw[hp] at hv
  subst hv
  obtain⟨b,off,rfl,hcap,hcell,hinit⟩:=hashes_init h hq
  have HQ:=zh hinit
  have IH:=zh ih
  have HL:=zh hq
  have HP:=zh hp
  clear ih h hinit hq hp
  by_cases h1:n=1
  ·subst h1
   have hz0:((m:Int)+1 == 0)=false:=by rw[beq_eq_false_iff_ne];omega
   go_enter func148,ntmps148
   go_wp2_with (first|((first|refine wpList_load8 rfl 109 _ rfl _ rfl _ underlying109 info8 ?_ ?_ ?_|refine wpList_store8 rfl 109 _ _ rfl _ _ rfl rfl info8 ?_ ?_ ?_);rotate_left;focus((repeat(first|(with_reducible first|assumption|exact hashOf_set' ⟨_,by assumption⟩ _)|((with_reducible first|refine hashOf_zero' ?_|refine hashOf_at ?_|refine hashOf_set' (Is8_zero ?_) _);(first|rfl|(simp;done)|(simp;omega)))|with_reducible refine hashOf_old ?_ _|((with_reducible refine hashOf_other ?_ _ ?_);rotate_left;(focus(first|(simp;done)|(simp;omega)|omega)))|with_reducible first|refine hashOf_drew ?_|refine hashOf_below ?_ (by assumption)));done)))
   have hr:rebuild leaf i.toNat (1:Int).toNat (q ++ [last])=none:=by rw[rebuild_snoc,if_pos (by decide)]
   refine ret8t (w.heap.size+1) leaf (.bool false) rfl rfl rfl _ underlying109 info8 (hashOf_set' (Is8_zero (by simp)) _) rfl ⟨leaf,by rw[hr];rfl,(fun h hh=>by rw[hr] at hh;cases hh),below_setRow ((below_alloc w _).alloc (by simp) _) (by omega) _⟩
  ·have hd:(n == 1)=false:=by simpa using h1
   have hbd:=below_bd (n:=n.toNat) (by omega) (by omega)
   have hr:=rebuild_snoc leaf last i.toNat n.toNat q
   rw[if_neg (by omega)] at hr
   obtain⟨k,hk⟩:∃ k,k=below n.toNat:=⟨_,rfl⟩
   rw[←hk] at hbd hr
   obtain⟨hb1,hb2,hb3⟩:=hbd
   have HR:=zh hr
   have HK:=zh hk
   clear hr hk
   have c0:w.cell? ⟨b,off+m*8,none⟩=some (u8 last[0]):=hcell 0 (by decide)
   have c1:=hcell 1 (by decide)
   have c2:=hcell 2 (by decide)
   have c3:=hcell 3 (by decide)
   have c4:=hcell 4 (by decide)
   have c5:=hcell 5 (by decide)
   have c6:=hcell 6 (by decide)
   have c7:=hcell 7 (by decide)
   have HCell:=zh hcell
   have hst:=run_store8 (P:=prog) (w:=(((w.alloc (.cells (h8 leaf) 109)).alloc (.cells zc 109)).alloc (.cells zc 109)).drew) (g:=w.heap.size+1+1) last ⟨zero8,hashOf_drew (hashOf_zero' (by simp))⟩
   have hbw:b<w.heap.size:=cell_lt c0
   have hbw1:b<w.heap.size+1:=by omega
   have hbw2:b<w.heap.size+1+1:=by omega
   have hz0:((m:Int)+1 == 0)=false:=by rw[beq_eq_false_iff_ne];omega
   clear hcell
   by_cases hik:i<(k:Int)
   ·go_enter func148,ntmps148
    go_wp2_with fail
    go_region
    have f1:hashOf (((((w.alloc (.cells (h8 leaf) 109)).alloc (.cells zc 109)).alloc (.cells zc 109)).drew).setRow (w.heap.size+1+1) (h8 last)) w.heap.size leaf:=hashOf_other (hashOf_drew (hashOf_old (hashOf_old (hashOf_new w leaf) _) _)) _ (by omega)
    have f2:hashOf (((((w.alloc (.cells (h8 leaf) 109)).alloc (.cells zc 109)).alloc (.cells zc 109)).drew).setRow (w.heap.size+1+1) (h8 last)) (w.heap.size+1) zero8:=hashOf_other (hashOf_drew (hashOf_old (hashOf_zero' (by simp)) _)) _ (by omega)
    have f3:hashOf (((((w.alloc (.cells (h8 leaf) 109)).alloc (.cells zc 109)).alloc (.cells zc 109)).drew).setRow (w.heap.size+1+1) (h8 last)) (w.heap.size+1+1) last:=hashOf_set (hashOf_drew (hashOf_zero' (by simp))) _
    have f4:Below w.heap.size w (((((w.alloc (.cells (h8 leaf) 109)).alloc (.cells zc 109)).alloc (.cells zc 109)).drew).setRow (w.heap.size+1+1) (h8 last)):=below_setRow (((((below_alloc w _).alloc (by simp) _).alloc (by simp;omega) _).drew)) (by omega) _
    have f5:(((((w.alloc (.cells (h8 leaf) 109)).alloc (.cells zc 109)).alloc (.cells zc 109)).drew).setRow (w.heap.size+1+1) (h8 last)).heap.size=w.heap.size+1+1+1:=by simp
    have F4:=zh f4
    have F5:=zh f5
    clear f4 f5 hst
    generalize (((((w.alloc (.cells (h8 leaf) 109)).alloc (.cells zc 109)).alloc (.cells zc 109)).drew).setRow (w.heap.size+1+1) (h8 last))=W2 at *
    go_wp2_with fail
    refine (split_any _ _ (by omega) (by omega)).mono ?_
    rintro e w0 ⟨rfl,rfl⟩
    rw[←HK.o]
    go_wp2_with (refine wpList_load8 rfl 109 _ rfl _ rfl _ underlying109 info8 ?_ ?_ ?_;rotate_left;focus ((repeat(first|(with_reducible first|assumption|exact hashOf_set' ⟨_,by assumption⟩ _)|((with_reducible first|refine hashOf_zero' ?_|refine hashOf_at ?_|refine hashOf_set' (Is8_zero ?_) _);(first|rfl|(simp;done)|(simp;omega)))|with_reducible refine hashOf_old ?_ _|((with_reducible refine hashOf_other ?_ _ ?_);rotate_left;(focus(first|(simp;done)|(simp;omega)|omega)))|with_reducible first|refine hashOf_drew ?_|refine hashOf_below ?_ (by assumption)));done))
    refine (IH.o q leaf i k _ _ HL.o (Cells.below HQ.o F4.o) h0 hik (by omega) (by omega)).mono ?_
    rintro e w1 ⟨s,rfl,hsh,hb⟩
    have hz:w.heap.size+3≤w1.heap.size:=by have:=hb.size;rw[F5.o] at this;omega
    have g2:=hashOf_below f2 hb
    have g3:=hashOf_below f3 hb
    have HSH:=zh hsh
    have F6:=zh (F4.o.trans (hb.mono F4.o.size))
    clear hsh f1 f2 f3 hb
    obtain⟨r,hrr⟩:∃ r,r=rebuild leaf i.toNat (k:Int).toNat q:=⟨_,rfl⟩
    rw[←hrr]
    have HRR:=zh hrr
    clear hrr
    go_wp2_with (first|((first|refine wpList_load8 rfl 109 _ rfl _ rfl _ underlying109 info8 ?_ ?_ ?_|refine wpList_store8 rfl 109 _ _ rfl _ _ rfl rfl info8 ?_ ?_ ?_);rotate_left;focus((repeat(first|(with_reducible first|assumption|exact hashOf_set' ⟨_,by assumption⟩ _)|((with_reducible first|refine hashOf_zero' ?_|refine hashOf_at ?_|refine hashOf_set' (Is8_zero ?_) _);(first|rfl|(simp;done)|(simp;omega)))|with_reducible refine hashOf_old ?_ _|((with_reducible refine hashOf_other ?_ _ ?_);rotate_left;(focus(first|(simp;done)|(simp;omega)|omega)))|with_reducible first|refine hashOf_drew ?_|refine hashOf_below ?_ (by assumption)));done)))
    refine (node_any s last _).mono ?_
    rintro e w2 ⟨rfl,hb2⟩
    have k2:hashOf w2 (w.heap.size+1) zero8:=by
     (repeat(first|(with_reducible first|assumption|exact hashOf_set' ⟨_,by assumption⟩ _)|((with_reducible first|refine hashOf_zero' ?_|refine hashOf_at ?_|refine hashOf_set' (Is8_zero ?_) _);(first|rfl|(simp;done)|(simp;omega)))|with_reducible refine hashOf_old ?_ _|((with_reducible refine hashOf_other ?_ _ ?_);rotate_left;(focus(first|(simp;done)|(simp;omega)|omega)))|with_reducible first|refine hashOf_drew ?_|refine hashOf_below ?_ (by assumption)))
    have F7:Below w.heap.size w w2:=(below_setRow (F6.o.alloc F6.o.size _) F6.o.size _).trans (hb2.mono (by simp;omega))
    go_wp2_with (first|(refine wpList_store8 rfl 109 _ _ rfl _ _ rfl rfl info8 ?_ ?_ ?_;rotate_left;focus ((repeat(first|(with_reducible first|assumption|exact hashOf_set' ⟨_,by assumption⟩ _)|((with_reducible first|refine hashOf_zero' ?_|refine hashOf_at ?_|refine hashOf_set' (Is8_zero ?_) _);(first|rfl|(simp;done)|(simp;omega)))|with_reducible refine hashOf_old ?_ _|((with_reducible refine hashOf_other ?_ _ ?_);rotate_left;(focus(first|(simp;done)|(simp;omega)|omega)))|with_reducible first|refine hashOf_drew ?_|refine hashOf_below ?_ (by assumption)));done)))
    have hre:rebuild leaf i.toNat n.toNat (q ++ [last])=r.map (nodeH · last):=by
     rw[HR.o,if_pos (by omega),HRR.o];rfl
    refine ret8t (w.heap.size+1) (nodeH s last) (.bool r.isSome) rfl rfl rfl _ underlying109 info8 (hashOf_set k2 _) rfl ⟨_,by rw[hre,Option.isSome_map],fun h hh=>?_,below_setRow F7 (by omega) _⟩
    rw[hre] at hh
    obtain⟨h',hh',rfl⟩:=Option.map_eq_some_iff.1 hh
    rw[HSH.o h' (by rw[←HRR.o];exact hh')]
   ·go_enter func148,ntmps148
    go_wp2_with fail
    go_region
    have f1:hashOf (((((w.alloc (.cells (h8 leaf) 109)).alloc (.cells zc 109)).alloc (.cells zc 109)).drew).setRow (w.heap.size+1+1) (h8 last)) w.heap.size leaf:=hashOf_other (hashOf_drew (hashOf_old (hashOf_old (hashOf_new w leaf) _) _)) _ (by omega)
    have f2:hashOf (((((w.alloc (.cells (h8 leaf) 109)).alloc (.cells zc 109)).alloc (.cells zc 109)).drew).setRow (w.heap.size+1+1) (h8 last)) (w.heap.size+1) zero8:=hashOf_other (hashOf_drew (hashOf_old (hashOf_zero' (by simp)) _)) _ (by omega)
    have f3:hashOf (((((w.alloc (.cells (h8 leaf) 109)).alloc (.cells zc 109)).alloc (.cells zc 109)).drew).setRow (w.heap.size+1+1) (h8 last)) (w.heap.size+1+1) last:=hashOf_set (hashOf_drew (hashOf_zero' (by simp))) _
    have f4:Below w.heap.size w (((((w.alloc (.cells (h8 leaf) 109)).alloc (.cells zc 109)).alloc (.cells zc 109)).drew).setRow (w.heap.size+1+1) (h8 last)):=below_setRow (((((below_alloc w _).alloc (by simp) _).alloc (by simp;omega) _).drew)) (by omega) _
    have f5:(((((w.alloc (.cells (h8 leaf) 109)).alloc (.cells zc 109)).alloc (.cells zc 109)).drew).setRow (w.heap.size+1+1) (h8 last)).heap.size=w.heap.size+1+1+1:=by simp
    have F4:=zh f4
    have F5:=zh f5
    clear f4 f5 hst
    generalize (((((w.alloc (.cells (h8 leaf) 109)).alloc (.cells zc 109)).alloc (.cells zc 109)).drew).setRow (w.heap.size+1+1) (h8 last))=W2 at *
    go_wp2_with fail
    refine (split_any _ _ (by omega) (by omega)).mono ?_
    rintro e w0 ⟨rfl,rfl⟩
    rw[←HK.o]
    go_wp2_with (refine wpList_load8 rfl 109 _ rfl _ rfl _ underlying109 info8 ?_ ?_ ?_;rotate_left;focus ((repeat(first|(with_reducible first|assumption|exact hashOf_set' ⟨_,by assumption⟩ _)|((with_reducible first|refine hashOf_zero' ?_|refine hashOf_at ?_|refine hashOf_set' (Is8_zero ?_) _);(first|rfl|(simp;done)|(simp;omega)))|with_reducible refine hashOf_old ?_ _|((with_reducible refine hashOf_other ?_ _ ?_);rotate_left;(focus(first|(simp;done)|(simp;omega)|omega)))|with_reducible first|refine hashOf_drew ?_|refine hashOf_below ?_ (by assumption)));done))
    refine (IH.o q leaf (i-k) (n-k) _ _ HL.o (Cells.below HQ.o F4.o) (by omega) (by omega) (by omega) (by omega)).mono ?_
    rintro e w1 ⟨s,rfl,hsh,hb⟩
    have hz:w.heap.size+3≤w1.heap.size:=by have:=hb.size;rw[F5.o] at this;omega
    have g2:=hashOf_below f2 hb
    have g3:=hashOf_below f3 hb
    have HSH:=zh hsh
    have F6:=zh (F4.o.trans (hb.mono F4.o.size))
    clear hsh f1 f2 f3 hb
    obtain⟨r,hrr⟩:∃ r,r=rebuild leaf (i-k).toNat (n-k).toNat q:=⟨_,rfl⟩
    rw[←hrr]
    have HRR:=zh hrr
    clear hrr
    go_wp2_with (first|((first|refine wpList_load8 rfl 109 _ rfl _ rfl _ underlying109 info8 ?_ ?_ ?_|refine wpList_store8 rfl 109 _ _ rfl _ _ rfl rfl info8 ?_ ?_ ?_);rotate_left;focus((repeat(first|(with_reducible first|assumption|exact hashOf_set' ⟨_,by assumption⟩ _)|((with_reducible first|refine hashOf_zero' ?_|refine hashOf_at ?_|refine hashOf_set' (Is8_zero ?_) _);(first|rfl|(simp;done)|(simp;omega)))|with_reducible refine hashOf_old ?_ _|((with_reducible refine hashOf_other ?_ _ ?_);rotate_left;(focus(first|(simp;done)|(simp;omega)|omega)))|with_reducible first|refine hashOf_drew ?_|refine hashOf_below ?_ (by assumption)));done)))
    refine (node_any last s _).mono ?_
    rintro e w2 ⟨rfl,hb2⟩
    have k2:hashOf w2 (w.heap.size+1) zero8:=by
     (repeat(first|(with_reducible first|assumption|exact hashOf_set' ⟨_,by assumption⟩ _)|((with_reducible first|refine hashOf_zero' ?_|refine hashOf_at ?_|refine hashOf_set' (Is8_zero ?_) _);(first|rfl|(simp;done)|(simp;omega)))|with_reducible refine hashOf_old ?_ _|((with_reducible refine hashOf_other ?_ _ ?_);rotate_left;(focus(first|(simp;done)|(simp;omega)|omega)))|with_reducible first|refine hashOf_drew ?_|refine hashOf_below ?_ (by assumption)))
    have F7:Below w.heap.size w w2:=(below_setRow (F6.o.alloc F6.o.size _) F6.o.size _).trans (hb2.mono (by simp;omega))
    go_wp2_with (first|(refine wpList_store8 rfl 109 _ _ rfl _ _ rfl rfl info8 ?_ ?_ ?_;rotate_left;focus ((repeat(first|(with_reducible first|assumption|exact hashOf_set' ⟨_,by assumption⟩ _)|((with_reducible first|refine hashOf_zero' ?_|refine hashOf_at ?_|refine hashOf_set' (Is8_zero ?_) _);(first|rfl|(simp;done)|(simp;omega)))|with_reducible refine hashOf_old ?_ _|((with_reducible refine hashOf_other ?_ _ ?_);rotate_left;(focus(first|(simp;done)|(simp;omega)|omega)))|with_reducible first|refine hashOf_drew ?_|refine hashOf_below ?_ (by assumption)));done)))
    have hre:rebuild leaf i.toNat n.toNat (q ++ [last])=r.map (nodeH last ·):=by
     rw[HR.o,if_neg (by omega),HRR.o]
     congr 2 <;> omega
    refine ret8t (w.heap.size+1) (nodeH last s) (.bool r.isSome) rfl rfl rfl _ underlying109 info8 (hashOf_set k2 _) rfl ⟨_,by rw[hre,Option.isSome_map],fun h hh=>?_,below_setRow F7 (by omega) _⟩
    rw[hre] at hh
    obtain⟨h',hh',rfl⟩:=Option.map_eq_some_iff.1 hh
    rw[HSH.o h' (by rw[←HRR.o];exact hh')]
end
theorem info8':∃ i,prog.info? 5=some i∧i.size=1:=by
 obtain⟨i0,hi,hz0,hz1,hz2⟩:=info_parts (show (prog.info? 5).map (fun i=>(i.zero,i.size,i.bytes))=some (some (.int .u8 0),1,1) by kernel_rfl)
 exact⟨i0,hi,hz1⟩
theorem part_u8 (w:World) (xs:Array Value) (i:Nat) (v:Value) (h:xs[i]?=some v):Sem.run prog (Go.part 5 xs i) w=.ok v w:=by
 obtain⟨i0,hi,hs⟩:=info8'
 simp[Go.part,run_underlying underlying5,isAgg,sizeOf,typeInfo,hi,hs,h]
theorem vec8_eq (a b:Hsh) (e0:a[0]=b[0]) (e1:a[1]=b[1]) (e2:a[2]=b[2]) (e3:a[3]=b[3]) (e4:a[4]=b[4]) (e5:a[5]=b[5]) (e6:a[6]=b[6]) (e7:a[7]=b[7]):a=b:=by
 apply Vector.ext
 intro i hi
 have:i=0∨i=1∨i=2∨i=3∨i=4∨i=5∨i=6∨i=7:=by omega
 rcases this with rfl|rfl|rfl|rfl|rfl|rfl|rfl|rfl <;> assumption
theorem eqn (w:World) (a b:Hsh):Sem.run prog (Op.equalIn 10000 109 (.agg (h8 a)) (.agg (h8 b))) w=.ok (some a == some b) w:=by
 rw[show (10000:Nat)=9998+1+1 from rfl,Op.equalIn]
 obtain⟨i0,hi,hs⟩:=info8'
 have hp:=fun w=>part_u8 w (h8 a) 0 _ (h8_0 a)
 have hp1:=fun w=>part_u8 w (h8 a) 1 _ (h8_1 a)
 have hp2:=fun w=>part_u8 w (h8 a) 2 _ (h8_2 a)
 have hp3:=fun w=>part_u8 w (h8 a) 3 _ (h8_3 a)
 have hp4:=fun w=>part_u8 w (h8 a) 4 _ (h8_4 a)
 have hp5:=fun w=>part_u8 w (h8 a) 5 _ (h8_5 a)
 have hp6:=fun w=>part_u8 w (h8 a) 6 _ (h8_6 a)
 have hp7:=fun w=>part_u8 w (h8 a) 7 _ (h8_7 a)
 have hq:=fun w=>part_u8 w (h8 b) 0 _ (h8_0 b)
 have hq1:=fun w=>part_u8 w (h8 b) 1 _ (h8_1 b)
 have hq2:=fun w=>part_u8 w (h8 b) 2 _ (h8_2 b)
 have hq3:=fun w=>part_u8 w (h8 b) 3 _ (h8_3 b)
 have hq4:=fun w=>part_u8 w (h8 b) 4 _ (h8_4 b)
 have hq5:=fun w=>part_u8 w (h8 b) 5 _ (h8_5 b)
 have hq6:=fun w=>part_u8 w (h8 b) 6 _ (h8_6 b)
 have hq7:=fun w=>part_u8 w (h8 b) 7 _ (h8_7 b)
 have he:=fun (w:World) (x y:UInt8)=>run_equalIn_int (P:=prog) (w:=w) 9998 5 .u8 .u8 x.toNat y.toNat underlying5
 simp only[Sem.run_bind,run_underlying underlying109,Result.andThen_ok,sizeOf,typeInfo]
 simp[hi,hs,Std.Legacy.Range.forIn_eq_forIn_range',List.range',Std.Legacy.Range.size,hp,hp1,hp2,hp3,hp4,hp5,hp6,hp7,hq,hq1,hq2,hq3,hq4,hq5,hq6,hq7,he]
 by_cases e:a=b
 ·subst e;simp
 ·have hI:∀ x y:UInt8,((x.toNat:Int)=(y.toNat:Int))=(x=y):=fun x y=>by
   apply propext
   exact⟨fun h=>UInt8.toNat_inj.1 (by omega),fun h=>by rw[h]⟩
  have hf:(a == b)=false:=by rw[beq_eq_false_iff_ne];exact e
  simp only[hI,hf]
  repeat' split
  all_goals first|rfl|(exfalso;apply e;apply vec8_eq <;> assumption)
theorem eql_hash (w:World) (a b:Hsh):Sem.run prog (binOp .eql 109 (.agg (h8 a)) (.agg (h8 b))) w=.ok (Value.bool (some a == some b)) w:=by
 rw[run_eql_struct,eqn]
 rfl
theorem mincluded_any (p:List Hsh) (leaf root:Hsh) (i n:Int) (v:Value) (w:World) (h:HashesAt w v p) (hi : -9223372036854775808≤i) (hn:n≤9223372036854775807) (hm:p.length≤1048576) :
  Calls prog 96 #[.agg (h8 leaf),.int .i64 i,.int .i64 n,v,.agg (h8 root)] w fun e w'=>e=.returned (.bool (included leaf i n p root))∧Below w.heap.size w w':=by
 obtain⟨a,c,hv,_⟩:=id h
 by_cases h0:0≤i
 ·have hd:decide (i<0)=false:=by simp;omega
  by_cases hin:i<n
  ·have hd2:decide (n≤i)=false:=by simp;omega
   have hinc:included leaf i n p root=(rebuild leaf i.toNat n.toNat p == some root):=by simp[included,h0,hin]
   have HI:=zh hinc
   have HH:=zh h
   have HV:=zh hv
   clear hinc h hv
   go_enter func96,ntmps96
   go_wp2_with (refine wpList_load8 rfl 109 _ rfl _ rfl _ underlying109 info8 ?_ ?_ ?_;rotate_left;focus ((repeat(first|(with_reducible first|assumption|exact hashOf_set' ⟨_,by assumption⟩ _)|((with_reducible first|refine hashOf_zero' ?_|refine hashOf_at ?_|refine hashOf_set' (Is8_zero ?_) _);(first|rfl|(simp;done)|(simp;omega)))|with_reducible refine hashOf_old ?_ _|((with_reducible refine hashOf_other ?_ _ ?_);rotate_left;(focus(first|(simp;done)|(simp;omega)|omega)))|with_reducible first|refine hashOf_drew ?_|refine hashOf_below ?_ (by assumption)));done))
   refine (include_any p.length p leaf i n v _ rfl (Cells.below HH.o ((below_alloc w _).alloc (by simp) _)) h0 hin hn hm).mono ?_
   rintro e w1 ⟨s,rfl,hsh,hb⟩
   have hbb:Below w.heap.size w w1:=((below_alloc w _).alloc (by simp) _).trans (hb.mono (by simp;omega))
   have HBB:=zh hbb
   have hz:w.heap.size+2≤w1.heap.size:=by have:=hb.size;simp at this;omega
   have g1:hashOf w1 (w.heap.size+1) root:=hashOf_below (hashOf_at (by simp)) hb
   have HSH:=zh hsh
   clear hsh hbb hb
   obtain⟨r,hrr⟩:∃ r,r=rebuild leaf i.toNat n.toNat p:=⟨_,rfl⟩
   rw[←hrr]
   have HRR:=zh hrr
   clear hrr
   have hq:=fun w=>eql_hash w s root
   cases r with
   | none=>
    go_wp2_with (first|((first|refine wpList_load8 rfl 109 _ rfl _ rfl _ underlying109 info8 ?_ ?_ ?_|refine wpList_store8 rfl 109 _ _ rfl _ _ rfl rfl info8 ?_ ?_ ?_);rotate_left;focus((repeat(first|(with_reducible first|assumption|exact hashOf_set' ⟨_,by assumption⟩ _)|((with_reducible first|refine hashOf_zero' ?_|refine hashOf_at ?_|refine hashOf_set' (Is8_zero ?_) _);(first|rfl|(simp;done)|(simp;omega)))|with_reducible refine hashOf_old ?_ _|((with_reducible refine hashOf_other ?_ _ ?_);rotate_left;(focus(first|(simp;done)|(simp;omega)|omega)))|with_reducible first|refine hashOf_drew ?_|refine hashOf_below ?_ (by assumption)));done)))
    go_ret
    exact⟨ret_bool (by rw[HI.o,←HRR.o];rfl),below_setRow (HBB.o.alloc HBB.o.size _) HBB.o.size _⟩
   | some h=>
    obtain rfl:s=h:=HSH.o h HRR.o.symm
    go_wp2_with (first|((first|refine wpList_load8 rfl 109 _ rfl _ rfl _ underlying109 info8 ?_ ?_ ?_|refine wpList_store8 rfl 109 _ _ rfl _ _ rfl rfl info8 ?_ ?_ ?_);rotate_left;focus((repeat(first|(with_reducible first|assumption|exact hashOf_set' ⟨_,by assumption⟩ _)|((with_reducible first|refine hashOf_zero' ?_|refine hashOf_at ?_|refine hashOf_set' (Is8_zero ?_) _);(first|rfl|(simp;done)|(simp;omega)))|with_reducible refine hashOf_old ?_ _|((with_reducible refine hashOf_other ?_ _ ?_);rotate_left;(focus(first|(simp;done)|(simp;omega)|omega)))|with_reducible first|refine hashOf_drew ?_|refine hashOf_below ?_ (by assumption)));done)))
    go_ret
    refine⟨ret_bool ?_,below_setRow (HBB.o.alloc HBB.o.size _) HBB.o.size _⟩
    rw[HI.o,←HRR.o]
    rfl
  ·have hd2:decide (n≤i)=true:=by simp;omega
   clear h
   subst hv
   go_enter func96,ntmps96
   go_wp2
   go_ret
   exact⟨ret_bool (by simp[included];omega),(below_alloc w _).alloc (by simp) _⟩
 ·have hd:decide (i<0)=true:=by simp;omega
  clear h
  subst hv
  go_enter func96,ntmps96
  go_wp2
  go_ret
  exact⟨ret_bool (by simp[included];omega),(below_alloc w _).alloc (by simp) _⟩
end
end Go.Proofs.YtefccfakhgdfbabGreatDoor
