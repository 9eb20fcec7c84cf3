/-
  tileslaw's World.publish: P14, P15: a publisher that has not failed. Conditions: the World is sound.
  tileslaw's World.step: one step of a publisher. Conditions: the World is sound, or nothing is claimed of it.
-/
import Derived.Test.YtefccfakhgdfbabGreatDoorPb41
import Derived.StillTailTactics
import Derived.IntWalk
set_option linter.unusedVariables false
set_option linter.unusedSimpArgs false
section
namespace Go.Proofs.YtefccfakhgdfbabGreatDoor
open Go.RowKit
theorem ppub_val {w : World} {g gd : Nat} {v ve vl vp : Value} {vs : List Value} {d : Dk} {L : Lg} {e : Ending} {w' : World} (hf : L.failed = false) (h : ppubPost w g gd v ve vl vp vs d L e w') :
    ∃ (v' vp' : Value) (n k : Int) (pth : ByteArray), e = .returned (.tuple #[.int .i64 n, toldV k pth]) ∧ DiskAt w' gd v' (pubD L.entries L.key L.put d).1 ∧
      LogIs w' g gd ve vl vp' vs { L with put := (pubD L.entries L.key L.put d).2.1, failed := (pubD L.entries L.key L.put d).2.2.isSome } ∧ Fr (bothS g gd v ve vl vp vs) w w' ∧ Sub w (bothS g gd v ve vl vp vs) (bothS g gd v' ve vl vp' vs) ∧
      (((pubD L.entries L.key L.put d).2.2 = none ∧ n = L.entries.length ∧ k = 0) ∨ ((pubD L.entries L.key L.put d).2.2 = some pth ∧ n = 0 ∧ k = 8)) := by
  unfold ppubPost at h
  rw [if_neg (by rw [hf]; decide)] at h
  obtain ⟨v', vp', Q, rfl, h1, h2, h3, h4, h5⟩ := h
  rcases h5 with ⟨h6, rfl⟩ | ⟨p, h6, rfl⟩
  · exact ⟨v', vp', _, _, _, rfl, h1, h2, h3, h4, .inl ⟨h6, rfl, rfl⟩⟩
  · exact ⟨v', vp', _, _, _, rfl, h1, h2, h3, h4, .inr ⟨h6, rfl, rfl⟩⟩
theorem find_yes {l : List Fil} {p b : ByteArray} (h : (p, b) ∈ l) : ∃ k : Nat, findF l p = (k : Int) := by
  rcases find_cases l p with ⟨_, h1⟩ | ⟨k, b', _, h1, _⟩
  · exact absurd rfl (getF_none.1 h1 _ h)
  · exact ⟨k, h1⟩
theorem filesR_le' (es : List (List UInt8)) (h : es.length ≤ 1048576) : (filesP es).length ≤ 1099511627776 := by
  have h1 := filesR_le (k := es.length) (rowsOf es) (-1) fun r hr => rowsOf_short hr
  have h2 := (rowsOf_small h).2.1
  have h3 : (rowsOf es).length * es.length ≤ 22 * es.length := Nat.mul_le_mul_right _ (by omega)
  unfold filesP
  omega
theorem pubJ_bd : ∀ (rs : List (List (List UInt8))) (n : Nat) (put : List Nat) (d : Dk), (∀ r ∈ rs, r.length ≤ 1048576) → (pubJ n rs put d).1.files.length ≤ d.files.length + rs.length * 1048576
  | [], n, put, d, _ => by simp [pubJ]
  | r :: rs, n, put, d, h => by
      have h1 := (writeJ_bd ((n : Int) - 1) r ((put ++ List.replicate (n + 1 - put.length) 0).getD n 0 / 4) d).2
      have h2 := h r List.mem_cons_self
      rw [pubJ, List.length_cons, Nat.add_mul, Nat.one_mul]
      split
      · dsimp only
        omega
      · have h3 := pubJ_bd rs (n + 1) ((put ++ List.replicate (n + 1 - put.length) 0).set n (writeJ ((n : Int) - 1) r ((put ++ List.replicate (n + 1 - put.length) 0).getD n 0 / 4) d).2.1) (writeJ ((n : Int) - 1) r ((put ++ List.replicate (n + 1 - put.length) 0).getD n 0 / 4) d).1 fun r hr => h r (List.mem_cons_of_mem _ hr)
        omega
theorem pubD_bd {es : List (List UInt8)} (h : es.length ≤ 1048576) (key : ByteArray) (put : List Nat) (d : Dk) : (pubD es key put d).1.files.length ≤ d.files.length + 23068673 := by
  have h1 := pubJ_bd (rowsOf es) 0 put d fun r hr => Nat.le_trans (rowsOf_short hr) h
  have h2 := (rowsOf_small h).2.1
  have h3 : (rowsOf es).length * 1048576 ≤ 22 * 1048576 := Nat.mul_le_mul_right _ (by omega)
  unfold pubD
  split
  · show (pubJ 0 (rowsOf es) put d).1.files.length ≤ _
    omega
  · show (swapD (pubJ 0 (rowsOf es) put d).1 _ _).files.length ≤ _
    rw [swapD_files]
    split
    · have := (putF_len (pubJ 0 (rowsOf es) put d).1.files (sOf kCp) (cpOf es key)).2
      omega
    · omega
/-- The mark that other bytes stand. -/
theorem WdIs.forStep {w : World} {p : Pl} {m : Wm} (h : WdIs w p m) (b : Bool) : WdIs (w.setCell ⟨p.gw, 6, none⟩ (.bool b)) p { m with foreign := b } :=
  h.ownStep (Fr.set1 w p.gw 6 _) ((heap_setCell h.cells _).trans (by simp [wdCells, plV])) ⟨rfl, rfl, rfl, rfl⟩ h.ents h.log
theorem WdIs.failStep {w : World} {p : Pl} {m : Wm} (h : WdIs w p m) (b : Bool) : WdIs (w.setCell ⟨p.gw, 5, none⟩ (.bool b)) p { m with failed := b } :=
  h.ownStep (Fr.set1 w p.gw 5 _) ((heap_setCell h.cells _).trans (by simp [wdCells, plV])) ⟨rfl, rfl, rfl, rfl⟩ h.ents h.log
theorem WdIs.pubStep {w : World} {p : Pl} {m : Wm} (h : WdIs w p m) (n : Int) : WdIs (w.setCell ⟨p.gw, 4, none⟩ (.int .i64 n)) p { m with pub := n } :=
  h.ownStep (Fr.set1 w p.gw 4 _) ((heap_setCell h.cells _).trans (by simp [wdCells, plV])) ⟨rfl, rfl, rfl, rfl⟩ h.ents h.log
set_option maxRecDepth 100000 in
set_option maxHeartbeats 8000000 in
theorem wpublish_live (f : Nat → Addr) (w : World) (p : Pl) (m : Wm) (L : Lg) (U : List Nat) (K : Nat) (h : WdIs w p m) (hG : Good m U K) (hL : m.l = some L) (hfo : m.foreign = false) (hfl : L.failed = false) (hE : EnvS f (WdS p m) w) (hU : U.length ≤ 16384) (hK : K ≤ 800000000000) (hkey : m.key.size ≤ 1048600) :
    Calls Tryz.prog 49 #[.pointer (some ⟨p.gw, 0, none⟩)] w (StepOk w p m U (K + 1048576)) := by
  have hsome : m.l.isSome = true := by rw [hL]; rfl
  obtain ⟨hr, hmk, hen, hlv, hfd, hky⟩ := hG.run L hL
  have hel : L.entries.length ≤ 1048576 := by have := hr.len; omega
  have hfn : m.d.files.length ≤ 1000000000000 := by have := hG.sane.len; omega
  have hfn2 : (pubD L.entries L.key L.put m.d).1.files.length ≤ 1000000000000 := by
    have h1 := pubD_bd hel L.key L.put m.d
    have := hG.sane.len
    omega
  have HW1 := Lib.hid (wfiles_any w p m h hfn)
  have HP := Lib.hid fun (w1 : World) (hb : Below w.heap.size w w1) => ppublish_any f w1 p.gl p.g p.gd p.v p.ve p.vl p.vp p.vs m.d L ((hb.block _ (lt_of_heap (h.log L hL).1)).trans (h.log L hL).1) ((h.log L hL).2.below hb) (h.disk.below hb) ((hE.below hb).less fun k hk => both_wd hsome hk) hlv hel hr.short hmk (by have := hG.sane.calls; omega) (by have := hG.sane.len; omega) (by rw [hky]; exact hkey)
  have hmf : m.failed = false := by rw [← hfd]; exact hfl
  have hell : L.entries.length = m.es.length := by rw [hen]; simp [lists]
  have hsz20 : ∀ s ∈ m.es, s.size ≤ 20 := by
    have := lists_sizes (k := 20) (ds := m.es) (by rw [← hen]; exact hr.short)
    exact this
  have HH := Lib.hid h
  have HG := Lib.hid hG
  have HFO := Lib.hid hfo
  have HFL := Lib.hid hfl
  have HLL := Lib.hid hL
  have HMF := Lib.hid hmf
  have HEN := Lib.hid hen
  have HKY := Lib.hid hky
  have HSZ := Lib.hid hsz20
  have HELL := Lib.hid hell
  have HR := Lib.hid hr
  clear h hG hL hfo hfl hE hr hmk hen hlv hfd hky hmf hell hsz20
  go_enter Tryz.func49, Tryz.ntmps49
  go_upto_region 2 with (first | (go_at_call 57; refine HW1.out.mono ?_; rintro e w1 ⟨v1, l1, rfl, ho1, hp1, hb1⟩; have HO1 := Lib.hid ho1; have HP1 := Lib.hid hp1; have HB1 := Lib.hid hb1; obtain ⟨a1, cp1, rfl⟩ := own_any ho1; clear ho1 hp1 hb1) | fail)
  have h1 := HH.out.below HB1.out
  have q2 := h1.heads.1.2.2.1
  rw [HLL.out] at q2
  have q2' : w1.cell? ⟨p.gw, 2, none⟩ = some (.pointer (some ⟨p.gl, 0, none⟩)) := q2
  clear q2
  have hgw1 := cell_lt q2'
  have H1 := Lib.hid h1
  clear h1
  obtain ⟨Q, hQ⟩ : ∃ Q, Q = pubD L.entries L.key L.put m.d := ⟨_, rfl⟩
  have HQ := Lib.hid hQ
  clear hQ
  go_upto_region 3 with (first | (go_at_call 15; refine (HP.out w1 HB1.out).mono ?_; intro e w2 h2; obtain ⟨v', vp', n2, code, pth, rfl, hd2, hl2, hf2, hs2, hr2⟩ := ppub_val HFL.out h2; rw [← HQ.out] at hd2 hl2 hr2; have HD2 := Lib.hid hd2; have HL2 := Lib.hid hl2; have HF2 := Lib.hid hf2; have HS2 := Lib.hid hs2; have HR2 := Lib.hid hr2; clear h2 hd2 hl2 hf2 hs2 hr2) | fail)
  have h2 := H1.out.bothStep HLL.out HD2.out HL2.out HF2.out
  have hb3 : Below w2.heap.size w2 (w2.alloc (.cells #[.int .i64 code, .string pth] 29)) := below_alloc w2 _
  have h3 := h2.below hb3
  have HT := Lib.hid (show ToldAt' (w2.alloc (.cells #[.int .i64 code, .string pth] 29)) w2.heap.size code pth from heap_alloc_new w2 _)
  have HB3 := Lib.hid hb3
  rw [← HQ.out] at hfn2
  have HW3 := Lib.hid (wfiles_any _ _ _ h3 hfn2)
  have HHI := Lib.hid (hit_any _ p.gd v' Q.1 h3.disk)
  have r0 := h3.heads.1.1
  dsimp only at r0
  have H3 := Lib.hid h3
  obtain ⟨w3, hw3⟩ : ∃ w3, w3 = w2.alloc (.cells #[.int .i64 code, .string pth] 29) := ⟨_, rfl⟩
  rw [← hw3] at HT HB3 HW3 HHI r0 H3
  rw [← hw3]
  have hsz1 : w.heap.size ≤ w1.heap.size := HB1.out.size
  have hfr3 : Fr (WdS p m) w w3 := (Fr.ofBelow HB1.out).trans ((HF2.out.weak fun k _ hk => both_wd hsome hk).trans (Fr.ofBelow HB3.out))
  have HFR3 := Lib.hid hfr3
  have HSUB := Lib.hid (fun (m' : Wm) => sub_both (m := m) (m' := m') (HS2.out.mono hsz1) hsome)
  clear hb3 h3 hw3 h2 hfr3
  dsimp only at HW3
  go_upto_region 8 with (first | (go_at_call 16; refine HHI.out.mono ?_; rintro e w4 ⟨rfl, rfl⟩) | (go_at_call 57; refine HW3.out.mono ?_; rintro e w4 ⟨v4, l4, rfl, ho4, hp4, hb4⟩; have HB4 := Lib.hid hb4; have HO4 := Lib.hid ho4; have HP4 := Lib.hid hp4; obtain ⟨a4, cp4, rfl⟩ := own_any ho4; have H4 := Lib.hid (H3.out.below hb4); have s5 := H4.out.heads.1.2.2.2.2.2.1; have s3 := H4.out.heads.1.2.2.2.1; dsimp only at s5 s3; rw [HMF.out] at s5; clear ho4 hp4 hb4) | (go_at_call 98; refine (rfiles_any w4 p.en m.es H4.out.ents.at (by have := HELL.out; omega) HSZ.out).mono ?_; rintro e w5 ⟨v5, rfl, ho5, hb5, _⟩; have HO5 := Lib.hid ho5; have HB5 := Lib.hid hb5; clear ho5 hb5) | fail)
  have hrow2 : w2.ownsRow w.heap.size 194 2 (.slice a1 l1.length cp1) l1.length (fileRow l1) := row_kept HO1.out HF2.out ((kinds_disk H1.out.disk).or (kinds_log (H1.out.log L HLL.out).2)) (by decide)
  have hrow5 := ownsRow_below (ownsRow_below (ownsRow_below hrow2 HB3.out) HB4.out) HB5.out
  have hrowa5 := ownsRow_below HO4.out HB5.out
  have hWn : (filesP (lists m.es)).length ≤ 1099511627776 := filesR_le' _ (by simp [lists]; have := HELL.out; omega)
  have hl1n : l1.length ≤ 1099511627776 := by rw [HP1.out.length_eq]; exact Nat.le_trans hfn (by decide)
  have hl4n : l4.length ≤ 1099511627776 := by rw [HP4.out.length_eq]; exact Nat.le_trans hfn2 (by decide)
  have HR5 := Lib.hid hrow5
  have HRA := Lib.hid hrowa5
  obtain ⟨bb, hbb⟩ : ∃ bb, bb = clashB l1 (filesP (lists m.es)) := ⟨_, rfl⟩
  have hcl := clash_any w5 (.slice a1 l1.length cp1) v5 l1 (filesP (lists m.es)) (own_filesAt hrow5) (own_filesAt HO5.out) hl1n hWn
  rw [← hbb] at hcl
  have HCL := Lib.hid hcl
  have hbb2 : bb = clashB m.d.files (filesP (lists m.es)) := by rw [hbb]; exact clashB_ext (getF_perm HG.out.sane.once HP1.out) _
  have HBB := Lib.hid hbb2
  clear hrow2 hrow5 hrowa5 hbb hcl hbb2 s3 s5
  go_upto_region 9 with (first | (go_at_call 99; refine HCL.out.mono ?_; rintro e w6 ⟨rfl, hb6⟩; have HB6 := Lib.hid hb6; have H6 := Lib.hid ((H4.out.below HB5.out).below hb6); have hh6 := H6.out.heads; have s6 := hh6.1.2.2.2.2.2.2; have sf := hh6.2 6; dsimp only at s6 sf; clear hb6 hh6) | fail)
  have h7 := H6.out.forStep bb
  have H7 := Lib.hid h7
  obtain ⟨w7, hw7⟩ : ∃ w7, w7 = w6.setCell ⟨p.gw, 6, none⟩ (.bool bb) := ⟨_, rfl⟩
  have hf7 : Fr (· = p.gw) w6 w7 := by rw [hw7]; exact Fr.set1 w6 p.gw 6 _
  have HF7 := Lib.hid hf7
  rw [← hw7] at H7
  rw [← hw7]
  have hh7 := H7.out.heads.1
  obtain ⟨z0, z1, z2, z3, z4, z5, z6⟩ := hh7
  dsimp only at z0 z1 z2 z3 z4 z5 z6
  have hfr7 : Fr (WdS p m) w w7 := HFR3.out.trans ((Fr.ofBelow (HB4.out.trans ((HB5.out.trans (HB6.out.mono HB5.out.size)).mono HB4.out.size))).trans (HF7.out.weak fun _ _ e => .inl e))
  have HFR7 := Lib.hid hfr7
  clear h7 hw7 hf7 s6 sf hfr7 z2 z4
  cases bb with
  | true =>
    go_wp2
    go_ret
    exact ⟨rfl, { p with v := v', vp := vp' }, ⟨m.key, Q.1, some { L with put := Q.2.1, failed := Q.2.2.isSome }, m.es, m.pub, m.failed, true⟩, rfl, rfl, H7.out, .inl rfl, HFR7.out, HSUB.out _⟩
  | false =>
    have hnc : NoClash (filesP L.entries) m.d.files := by rw [HEN.out]; exact noClash_of HBB.out.symm
    have hrun : Runs m.d L.entries L.put false U := by have := HR.out; rw [HMF.out] at this; exact this
    have hel2 : L.entries.length ≤ 1048576 := by have := hrun.len; omega
    have hes2 : m.es.length ≤ 1048576 := by have := HELL.out; omega
    have HLAW := Lib.hid (publish_law L.key hel2 (hrun.live rfl).1 hnc (hrun.live rfl).2)
    rw [← HQ.out] at HLAW
    have HGOOD := Lib.hid fun (pub : Int) => good_publish HG.out hU HLL.out HMF.out hnc pub false
    rw [← HQ.out] at HGOOD
    obtain ⟨cc, hcc⟩ : ∃ cc, cc = sOf (signOf m.es.length (rootOf (lists m.es)) m.key.data.toList) := ⟨_, rfl⟩
    have hcc2 : cpOf L.entries L.key = cc := by
      rw [show cpOf L.entries L.key = sOf (signOf L.entries.length (rootOf L.entries) L.key.data.toList) from rfl, HELL.out, HEN.out, HKY.out, hcc]
    have hsg := fun (W : World) => rsign_any m.es.length (rootOf (lists m.es)) m.key W (by omega) hkey
    rw [← hcc] at hsg
    have HSG := Lib.hid hsg
    have hkp : KeptP l1 l4 (filesP (lists m.es)) cc := by
      have := HLAW.out.1
      rw [hcc2, HEN.out] at this
      exact kept_ext this (getF_perm HG.out.sane.once HP1.out) (getF_perm HLAW.out.2.1 HP4.out)
    have HKP := Lib.hid hkp
    have hol1 := once_perm HG.out.sane.once HP1.out
    have hol4 := once_perm HLAW.out.2.1 HP4.out
    have hoW : OneOf (filesP (lists m.es)) := filesP_one (by simp [lists]; exact hes2)
    have HO1' := Lib.hid hol1
    have HO4' := Lib.hid hol4
    have HOW := Lib.hid hoW
    have HCC := Lib.hid hcc2
    obtain ⟨ea, ec, hens⟩ := own_any HH.out.ents
    rw [hens] at z3
    have hst := H7.out.ents.at
    dsimp only at hst
    rw [hens] at hst
    have hroot := rroot_any m.es.length m.es (.slice ea m.es.length ec) w7 (Nat.le_refl _) hst hes2 fun s hs => Nat.le_trans (HSZ.out s hs) (by decide)
    have HROOT := Lib.hid hroot
    have HENS := Lib.hid hens
    clear hnc hrun hel2 hcc hcc2 hsg hkp hol1 hol4 hoW hst hroot hens
    go_upto_region 12 with (first | (go_at_call 63; refine HROOT.out.mono ?_; rintro e w8 ⟨rfl, hb8⟩; have HB8 := Lib.hid hb8; clear hb8) | fail)
    have n3 := (HB8.out.cell (p := ⟨p.gw, 3, none⟩) (cell_lt z3)).trans z3
    have n1 := (HB8.out.cell (p := ⟨p.gw, 1, none⟩) (cell_lt z1)).trans z1
    have nd3 : w8.drew.cell? ⟨p.gw, 3, none⟩ = some (.slice ea m.es.length ec) := n3
    have nd1 : w8.drew.cell? ⟨p.gw, 1, none⟩ = some (.string m.key) := n1
    have nb := cell_lt n3
    go_region_held3 (fun w' => w'.cell? ⟨p.gw, 3, none⟩ = some (.slice ea m.es.length ec) ∧ w'.cell? ⟨p.gw, 1, none⟩ = some (.string m.key)) (first | with_reducible exact ⟨n3, n1⟩ | with_reducible exact ⟨nd3, nd1⟩ | with_reducible exact ⟨m3, m1⟩ | fail) (first | (go_at_call 100; refine (HSG.out _).mono ?_; rintro e w9 ⟨rfl, hb9⟩; have HB9 := Lib.hid (show Below w8.heap.size w8 w9 from (below_drew w8).trans hb9); have m3 := (HB9.out.cell (p := ⟨p.gw, 3, none⟩) nb).trans n3; have m1 := (HB9.out.cell (p := ⟨p.gw, 1, none⟩) nb).trans n1; clear hb9) | fail)
    have H9 := Lib.hid ((H7.out.below HB8.out).below HB9.out)
    have carry : ∀ (b : Nat) (v : Value) (n : Nat) (xs : List Value), w5.ownsRow b 194 2 v n xs → w9.ownsRow b 194 2 v n xs := fun b v n xs hx =>
      ownsRow_below (ownsRow_below (row_kept (ownsRow_below hx HB6.out) HF7.out (kinds_one H6.out.cells) (by decide)) HB8.out) HB9.out
    have HA1 := Lib.hid (carry _ _ _ _ HR5.out)
    have HA4 := Lib.hid (carry _ _ _ _ HRA.out)
    have HAW := Lib.hid (carry _ _ _ _ HO5.out)
    have ht7 : ToldAt' w7 w2.heap.size code pth := (((HT.out.below HB4.out).below HB5.out).below HB6.out).kept HF7.out (kinds_one H6.out.cells) (by decide)
    have HT9 := Lib.hid ((ht7.below HB8.out).below HB9.out)
    have hfr9 : Fr (WdS p m) w w9 := HFR7.out.trans (Fr.ofBelow (HB8.out.trans (HB9.out.mono HB8.out.size)))
    have HFR9 := Lib.hid hfr9
    obtain ⟨hh, hhh⟩ : ∃ hh, hh = Q.1.hit := ⟨_, rfl⟩
    have HHH := Lib.hid hhh
    rw [← hhh]
    clear z0 z1 z3 z5 z6 carry ht7 hfr9 n3 n1 nd3 nd1 nb m3 m1 hhh r0
    obtain ⟨_, _, kturn, _, _, _, kend⟩ := HLAW.out
    have KEND := Lib.hid kend
    have HTURN := Lib.hid kturn
    have hg9 := H9.out.heads
    have hgb9 : p.gw < w9.heap.size := cell_lt hg9.1.1
    have hgw2 : p.gw < w2.heap.size := Nat.lt_of_lt_of_le hgw1 HF2.out.size
    have hgt : ¬ p.gw = w2.heap.size := by omega
    have hgt' : ¬ w2.heap.size = p.gw := fun e => hgt e.symm
    have hgg : ¬ p.gw = p.gd := HH.out.gg
    have hgg' : ¬ p.gd = p.gw := fun e => hgg e.symm
    clear kend kturn
    rcases HR2.out with ⟨hq, hn2, hcode⟩ | ⟨hq, hn2, hcode⟩
    · have hhf : hh = false := by
        rcases KEND.out with ⟨_, h1, _⟩ | ⟨q, h1, _⟩
        · rw [HHH.out]; exact h1.hit
        · rw [hq] at h1; cases h1
      have hall : (∀ x ∈ filesP (lists m.es), getF l4 x.1 = some x.2) ∧ getF l4 (sOf kCp) = some cc := by
        rcases KEND.out with ⟨_, _, _, h1, h2⟩ | ⟨q, h1, _⟩
        · rw [getF_perm HLAW.out.2.1 HP4.out]
          rw [HEN.out] at h1
          rw [HCC.out] at h2
          exact ⟨h1, h2⟩
        · rw [hq] at h1; cases h1
      obtain ⟨kk, b, hkk, hfind, hlk, hgk⟩ : ∃ (kk : Nat) (b : ByteArray), kk < l4.length ∧ findF l4 (sOf kCp) = (kk : Int) ∧ l4[kk]? = some (sOf kCp, b) ∧ getF l4 (sOf kCp) = some b := by
        rcases find_cases l4 (sOf kCp) with ⟨_, h1⟩ | h1
        · rw [hall.2] at h1; cases h1
        · exact h1
      obtain rfl : b = cc := by rw [hall.2] at hgk; exact (Option.some.inj hgk).symm
      have hn3 : n2 = (m.es.length : Int) := by rw [hn2, HELL.out]
      have hgood : Good ⟨m.key, Q.1, some { L with put := Q.2.1, failed := Q.2.2.isSome }, m.es, m.es.length, m.failed, false⟩ U (K + 1048576) := by
        have := HGOOD.out m.es.length
        rw [show m.failed = Q.2.2.isSome by rw [HMF.out, hq]; rfl]
        exact this
      have HGD := Lib.hid hgood
      have HALL := Lib.hid hall
      subst hhf
      subst hcode
      subst hn3
      have hf10 := Fr.set1 w9 p.gw 4 (.int .i64 (m.es.length : Int))
      have h10 := H9.out.pubStep (m.es.length : Int)
      have hk9 := kinds_one H9.out.cells
      have HB1' := Lib.hid (row_kept HA1.out hf10 hk9 (by decide))
      have HB4' := Lib.hid (row_kept HA4.out hf10 hk9 (by decide))
      have HBW := Lib.hid (row_kept HAW.out hf10 hk9 (by decide))
      have HT10 := Lib.hid (HT9.out.kept hf10 hk9 (by decide))
      have HF10 := Lib.hid hf10
      have H10 := Lib.hid h10
      have g4 := hg9.1.2.2.2.2.1
      have g3 := hg9.1.2.2.2.1
      have gf := hg9.2
      dsimp only at g3 g4
      rw [HENS.out] at g3
      have HHK := Lib.hid (⟨hkk, hlk⟩ : _ ∧ _)
      clear hq hn2 hgood hall hgk h10 hf10 hk9 hg9 hlk
      go_upto_region 19 with fail
      obtain ⟨w10, hw10⟩ : ∃ w10, w10 = w9.setCell ⟨p.gw, 4, none⟩ (.int .i64 (m.es.length : Int)) := ⟨_, rfl⟩
      rw [← hw10] at HB1' HB4' HBW HT10 HF10 H10
      rw [← hw10]
      have hkept := kept_any w10 (.slice a1 l1.length cp1) (.slice a4 l4.length cp4) v5 l1 l4 (filesP (lists m.es)) b (own_filesAt HB1'.out) (own_filesAt HB4'.out) (own_filesAt HBW.out) hl1n hl4n hWn HKP.out HO1'.out HO4'.out HOW.out
      have HKEPT := Lib.hid hkept
      have hfnd := rfind_any w10 (.slice a4 l4.length cp4) l4 (sOf kCp) (own_filesAt HB4'.out) hl4n
      rw [hfind] at hfnd
      have HFND := Lib.hid hfnd
      have hthere := fun (w11 : World) (hb : Below w10.heap.size w10 w11) => there_any w11 (.slice a4 l4.length cp4) v5 l4 (filesP (lists m.es)) ((own_filesAt HB4'.out).below hb) ((own_filesAt HBW.out).below hb) hl4n hWn HALL.out.1
      have HTHERE := Lib.hid hthere
      have hk0 : (0 : Int) ≤ (kk : Int) := by omega
      have hk1 : (kk : Int) < (l4.length : Int) := by omega
      clear hw10 hkept hfnd hthere hfind g3 g4 gf hkk
      go_wp2_with (first | (go_at_call 59; refine HFND.out.mono ?_; rintro e w11 ⟨rfl, rfl⟩) | (go_at_call 101; refine HKEPT.out.mono ?_; rintro e w11 ⟨rfl, hb11⟩; have HB11 := Lib.hid hb11; clear hb11) | (go_at_call 102; refine (HTHERE.out w11 HB11.out).mono ?_; rintro e w12 ⟨rfl, hb12⟩; have HB12 := Lib.hid (HB11.out.trans (hb12.mono HB11.out.size)); clear hb12; have H12 := Lib.hid (H10.out.below HB12.out); have ha := H12.out.heads.1; have g0 := ha.1; have g3 := ha.2.2.2.1; have gt := H12.out.disk.cells.1.2.2.2.2.2.2.2; dsimp only at g0 g3 gt; rw [HENS.out] at g3; rw [HTURN.out] at gt; obtain ⟨t0, t1, _, _, _⟩ := (HT10.out.below HB12.out).facts; obtain ⟨aa, ca, hsl, _, hxx⟩ := (own_filesAt HB4'.out).below HB12.out; obtain ⟨b4, o4, hb4e, _, kx⟩ := hxx kk _ HHK.out.2; cases hsl; subst hb4e; clear ha hxx) | fail)
      go_ret
      exact ⟨rfl, { p with v := v', vp := vp' }, ⟨m.key, Q.1, some { L with put := Q.2.1, failed := Q.2.2.isSome }, m.es, m.es.length, m.failed, false⟩, rfl, rfl, H12.out, .inr ⟨rfl, HGD.out⟩,
        HFR9.out.trans ((HF10.out.weak fun _ _ e => .inl e).trans (Fr.ofBelow HB12.out)), HSUB.out _⟩
    · have hhf : hh = true ∧ ((∃ b, (pth, b) ∈ filesP (lists m.es)) ∨ pth = sOf kCp) := by
        rcases KEND.out with ⟨h1, _⟩ | ⟨q, h1, h2, h3⟩
        · rw [hq] at h1; cases h1
        · rw [hq] at h1
          cases h1
          rw [HHH.out]
          rw [HEN.out] at h3
          exact ⟨h2, h3⟩
      obtain ⟨rfl, hpth⟩ := hhf
      have hgood : Good ⟨m.key, Q.1, some { L with put := Q.2.1, failed := Q.2.2.isSome }, m.es, m.pub, true, false⟩ U (K + 1048576) := by
        have := HGOOD.out m.pub
        rw [show (true : Bool) = Q.2.2.isSome by rw [hq]; rfl]
        exact this
      have HGD := Lib.hid hgood
      subst hn2
      subst hcode
      have hf10 := Fr.set1 w9 p.gw 5 (.bool true)
      have h10 := H9.out.failStep true
      have hk9 := kinds_one H9.out.cells
      have HB1' := Lib.hid (row_kept HA1.out hf10 hk9 (by decide))
      have HB4' := Lib.hid (row_kept HA4.out hf10 hk9 (by decide))
      have HBW := Lib.hid (row_kept HAW.out hf10 hk9 (by decide))
      have HT10 := Lib.hid (HT9.out.kept hf10 hk9 (by decide))
      have HF10 := Lib.hid hf10
      have H10 := Lib.hid h10
      have g5 := hg9.1.2.2.2.2.2.1
      have gf := hg9.2
      dsimp only at g5
      obtain ⟨av, cv, hav⟩ := own_any HAW.out
      have hfnd := rfind_any w9 v5 (filesP (lists m.es)) pth (own_filesAt HAW.out) hWn
      have HPTH := Lib.hid hpth
      obtain ⟨fk, hfk⟩ : ∃ fk, fk = findF (filesP (lists m.es)) pth := ⟨_, rfl⟩
      rw [← hfk] at hfnd
      have HFK := Lib.hid hfk
      have HFND := Lib.hid hfnd
      obtain ⟨u0, u1, _, _, _⟩ := HT9.out.facts
      clear hq hgood h10 hf10 hk9 hg9 hpth hfnd hfk hav
      go_upto_region 16 with (first | (go_at_call 59; refine HFND.out.mono ?_; rintro e w11 ⟨rfl, rfl⟩) | fail)
      obtain ⟨w10, hw10⟩ : ∃ w10, w10 = w9.setCell ⟨p.gw, 5, none⟩ (.bool true) := ⟨_, rfl⟩
      rw [← hw10] at HB1' HB4' HBW HT10 HF10 H10
      rw [← hw10]
      have hkept := kept_any w10 (.slice a1 l1.length cp1) (.slice a4 l4.length cp4) v5 l1 l4 (filesP (lists m.es)) cc (own_filesAt HB1'.out) (own_filesAt HB4'.out) (own_filesAt HBW.out) hl1n hl4n hWn HKP.out HO1'.out HO4'.out HOW.out
      have HKEPT := Lib.hid hkept
      clear hw10 hkept g5 gf u0 u1
      have fin : ∀ w11, Below w10.heap.size w10 w11 → StepOk w p m U (K + 1048576) (.returned (.bool true)) w11 := fun w11 hb =>
        ⟨rfl, { p with v := v', vp := vp' }, ⟨m.key, Q.1, some { L with put := Q.2.1, failed := Q.2.2.isSome }, m.es, m.pub, true, false⟩, rfl, rfl, H10.out.below hb, .inr ⟨rfl, HGD.out⟩,
          HFR9.out.trans ((HF10.out.weak fun _ _ e => .inl e).trans (Fr.ofBelow hb)), HSUB.out _⟩
      have FIN := Lib.hid fin
      clear fin
      by_cases hk0 : (0 : Int) ≤ fk
      · go_wp2_with (first | (go_at_call 101; refine HKEPT.out.mono ?_; rintro e w11 ⟨rfl, hb11⟩; have HB11 := Lib.hid hb11; have H11 := Lib.hid (H10.out.below hb11); have ha := H11.out.heads.1; have g0 := ha.1; have gt := H11.out.disk.cells.1.2.2.2.2.2.2.2; dsimp only at g0 gt; rw [HTURN.out] at gt; obtain ⟨t0, t1, _, _, _⟩ := (HT10.out.below hb11).facts; clear hb11 ha) | fail)
        go_ret
        exact FIN.out _ HB11.out
      · have hpc : pth = sOf kCp := by
          rcases HPTH.out with ⟨b, hb⟩ | hb
          · obtain ⟨k, hk⟩ := find_yes hb
            exact absurd (by rw [HFK.out, hk]; exact Int.natCast_nonneg k) hk0
          · exact hb
        have hcpe : (pth.toList == [99, 104, 101, 99, 107, 112, 111, 105, 110, 116]) = true := by
          have h0 := cp_neq' hpc
          cases hq : (pth.toList == [99, 104, 101, 99, 107, 112, 111, 105, 110, 116]) with
          | true => rfl
          | false => rw [hq] at h0; cases h0
        clear hpc
        go_wp2_with (first | (go_at_call 101; refine HKEPT.out.mono ?_; rintro e w11 ⟨rfl, hb11⟩; have HB11 := Lib.hid hb11; have H11 := Lib.hid (H10.out.below hb11); have ha := H11.out.heads.1; have g0 := ha.1; have gt := H11.out.disk.cells.1.2.2.2.2.2.2.2; dsimp only at g0 gt; rw [HTURN.out] at gt; obtain ⟨t0, t1, _, _, _⟩ := (HT10.out.below hb11).facts; clear hb11 ha) | fail)
        go_ret
        exact FIN.out _ HB11.out
end Go.Proofs.YtefccfakhgdfbabGreatDoor
end

section
namespace Go.Proofs.YtefccfakhgdfbabGreatDoor
open Go.RowKit
theorem StepOk.below {w w1 : World} {p : Pl} {m : Wm} {U : List Nat} {K : Nat} {e : Ending} {w' : World} (h : StepOk w1 p m U K e w') (hb : Below w.heap.size w w1) : StepOk w p m U K e w' := by
  obtain ⟨he, p', m', a, b, c, d, hf, hs⟩ := h
  exact ⟨he, p', m', a, b, c, d, (Fr.ofBelow hb).trans hf, hs.mono hb.size⟩
/-- A step: at most one index more. -/
def Stepped (w : World) (p : Pl) (m : Wm) (U : List Nat) (K : Nat) (e : Ending) (w' : World) : Prop := ∃ U', U'.length ≤ U.length + 1 ∧ StepOk w p m U' K e w'
def pickN (c : Int) (n : Nat) : Nat := (if c < 0 then -(c + 1) else c).toNat % n
theorem pick_any (c : Int) (n : Nat) (w : World) (hc1 : -9223372036854775808 ≤ c) (hc2 : c ≤ 9223372036854775807) (hn : 0 < n) (hn2 : n ≤ 1073741824) : Calls Tryz.prog 46 #[.int .i64 c, .int .i64 n] w fun e w' => e = .returned (.int .i64 (pickN c n)) ∧ w = w' := by
  by_cases h0 : c < 0
  · have hv : (-(c + 1)) % (n : Int) = ((pickN c n : Nat) : Int) := by
      unfold pickN
      rw [if_pos h0]
      obtain ⟨k, hk⟩ : ∃ k : Nat, -(c + 1) = (k : Int) := ⟨(-(c + 1)).toNat, by omega⟩
      rw [hk, Int.toNat_natCast]
      rfl
    have hb1 : 0 ≤ -(c + 1) := by omega
    have hnz : ((n : Int) == 0) = false := by rw [beq_eq_false_iff_ne]; omega
    have hnz2 : ¬ (n : Int) = 0 := by omega
    have HV := Lib.hid hv
    clear hv
    go_enter Tryz.func46, Tryz.ntmps46
    go_wp2
    go_ret
    refine ⟨?_, rfl⟩
    rw [← HV.out]
    show Ending.returned (.int .i64 (-((c + 1).tmod (n : Int)))) = _
    rw [← Int.neg_tmod, Int.tmod_eq_emod_of_nonneg hb1]
  · have hv : c % (n : Int) = ((pickN c n : Nat) : Int) := by
      unfold pickN
      rw [if_neg h0]
      obtain ⟨k, hk⟩ : ∃ k : Nat, c = (k : Int) := ⟨c.toNat, by omega⟩
      rw [hk, Int.toNat_natCast]
      rfl
    have hnz : ((n : Int) == 0) = false := by rw [beq_eq_false_iff_ne]; omega
    have hnz2 : ¬ (n : Int) = 0 := by omega
    have hc0 : 0 ≤ c := by omega
    have HV := Lib.hid hv
    clear hv
    go_enter Tryz.func46, Tryz.ntmps46
    go_wp2
    go_ret
    refine ⟨?_, rfl⟩
    rw [← HV.out]
    first | rfl | (congr 2; omega) | (simp; omega)
theorem pickN_lt (c : Int) {n : Nat} (hn : 0 < n) : pickN c n < n := Nat.mod_lt _ hn
theorem fault_int (w : World) (g : Nat) (v : Value) (d : Dk) (h : DiskAt w g v d) (a : Nat) (ai : Int) (ha : ai = (a : Int)) (half once : Bool) (hc : d.calls < 1099511627776) (hb : a < 1099511627776) :
    Calls Tryz.prog 13 #[.pointer (some ⟨g, 0, none⟩), .int .i64 ai, .bool half, .bool once] w fun e w' => e = .returned (.tuple #[]) ∧ DiskAt w' g v (faultD d a half once) ∧ Fr (· = g) w w' := by
  subst ha
  exact fault_any w g v d h a half once hc hb
set_option maxRecDepth 100000 in
set_option maxHeartbeats 4000000 in
theorem wstep_any (f : Nat → Addr) (w : World) (p : Pl) (m : Wm) (U : List Nat) (K : Nat) (kind a : Int) (two : Bool) (s : ByteArray) (h : WdIs w p m) (hG : GoodOr m U K) (hE : EnvS f (WdS p m) w) (hU : U.length ≤ 16000) (hK : K ≤ 700000000000) (hkey : m.key.size ≤ 1048600)
    (ha1 : -9223372036854775808 ≤ a) (ha2 : a ≤ 9223372036854775807) :
    Calls Tryz.prog 26 #[.pointer (some ⟨p.gw, 0, none⟩), .agg #[.int .i64 kind, .int .i64 a, .bool two, .string s]] w (Stepped w p m U (K + 2097152)) := by
  have hb := below_alloc w (.cells #[.int .i64 kind, .int .i64 a, .bool two, .string s] 60)
  have h0 := h.below hb
  obtain ⟨⟨c0, _, c2, c3, _, _, c6⟩, _⟩ := h.heads
  have hgw : p.gw < w.heap.size := cell_lt c0
  have HB := Lib.hid hb
  have H0 := Lib.hid h0
  have HE0 := Lib.hid (hE.below hb)
  rcases hG with hfo | ⟨hfo, hG⟩
  · rw [hfo] at c6
    have HFO := Lib.hid hfo
    clear h hb h0 hE hfo c0 c2 c3
    go_enter Tryz.func26, Tryz.ntmps26
    go_wp2
    go_ret
    exact ⟨U, Nat.le_succ _, rfl, p, m, rfl, rfl, H0.out, .inl HFO.out, Fr.ofBelow HB.out, Sub.refl _ _⟩
  · rw [hfo] at c6
    have HFO := Lib.hid hfo
    have HG := Lib.hid hG
    have nothing : Stepped w p m U (K + 2097152) (.returned (.bool true)) (w.alloc (.cells #[.int .i64 kind, .int .i64 a, .bool two, .string s] 60)) :=
      ⟨U, Nat.le_succ _, rfl, p, m, rfl, rfl, H0.out, .inr ⟨HFO.out, HG.out.bound (by omega)⟩, Fr.ofBelow HB.out, Sub.refl _ _⟩
    have NOTHING := Lib.hid nothing
    clear h hb h0 hE hfo hG nothing
    by_cases k1 : kind = 1
    · subst k1
      have HO := Lib.hid (wopen_any f _ p m U K H0.out HG.out HFO.out HE0.out (by omega) (by omega) hkey)
      clear c0 c2 c3
      go_enter Tryz.func26, Tryz.ntmps26
      go_wp2_with (first | (go_at_call 31; refine HO.out.mono ?_; intro e w1 h1; obtain ⟨he, h1⟩ := h1; subst he; have H1 := Lib.hid h1; clear h1) | fail)
      go_ret
      have hs : StepOk w p m U (K + 1048576) (.returned (.bool true)) w1 := StepOk.below ⟨rfl, H1.out⟩ HB.out
      obtain ⟨_, p', m', x1, x2, x3, x4, x5, x6⟩ := hs
      refine ⟨U, Nat.le_succ _, rfl, p', m', x1, x2, x3, x4.imp id fun x => ⟨x.1, x.2.bound (by omega)⟩, x5, x6⟩
    · have t1 : (kind == 1) = false := by rw [beq_eq_false_iff_ne]; exact k1
      by_cases k5 : kind = 5
      · subst k5
        have hpk := pickN_lt a (n := 30) (by decide)
        obtain ⟨pk, hpke⟩ : ∃ pk, pk = pickN a 30 := ⟨_, rfl⟩
        have hpick := fun (W : World) => pick_any a 30 W ha1 ha2 (by decide) (by decide)
        rw [← hpke] at hpk hpick
        have HPICK := Lib.hid hpick
        have hwr : IntKind.i64.wrap (1 + (pk : Int)) = 1 + (pk : Int) := IntWalk.i64_in _ (by omega)
        obtain ⟨wb, hwb⟩ : ∃ wb, wb = w.alloc (.cells #[.int .i64 5, .int .i64 a, .bool two, .string s] 60) := ⟨_, rfl⟩
        have hob : wb.heap[w.heap.size]? = some (.cells #[.int .i64 5, .int .i64 a, .bool two, .string s] 60 (0, 0)) := by rw [hwb]; exact heap_alloc_new w _
        have o0 := cell_heap hob 0 rfl
        have o1 := cell_heap hob 1 rfl
        have o3 := cell_heap hob 3 rfl
        rw [← hwb] at H0 HE0 HB
        have HOB := Lib.hid hob
        have HWB := Lib.hid hwb
        have b0 := H0.out.heads.1.1
        have b6 := H0.out.heads.1.2.2.2.2.2.2
        rw [HFO.out] at b6
        clear hpick hpke hob hwb c0 c2 c3 c6 NOTHING
        go_enter Tryz.func26, Tryz.ntmps26
        go_upto_region 1 with fail
        rw [← HWB.out]
        clear HWB
        go_upto_region 7 with fail
        go_cut [] from 18 to 33 (fun wx => ∃ hf on, Aside (DiskAt wx p.gd p.v (faultD m.d (1 + pk) hf on)) ∧ Aside (Fr (· = p.gd) wb wx))
        case first =>
          go_region_held3 (fun w' => w'.cell? ⟨p.gw, 0, none⟩ = some (.pointer (some ⟨p.gd, 0, none⟩)) ∧ w'.cell? ⟨w.heap.size, 1, none⟩ = some (.int .i64 a) ∧ w'.cell? ⟨w.heap.size, 3, none⟩ = some (.string s)) (first | with_reducible exact ⟨b0, o1, o3⟩ | with_reducible exact ⟨bd0, od1, od3⟩ | with_reducible exact ⟨m0, m1, m3⟩ | exact ⟨m0, m1, m3⟩ | exact ⟨b0, o1, o3⟩ | fail) (first | (go_at_call 46; refine (HPICK.out _).mono ?_; rintro e w1 ⟨rfl, rfl⟩) | (go_at_call 13; refine (fault_int _ p.gd p.v m.d (H0.out.disk.below (below_drew _)) (1 + pk) _ (by simp) _ _ (by have := HG.out.sane.calls; omega) (by omega)).mono ?_; rintro e w1 ⟨rfl, hd1, hf1⟩; have HD1 := Lib.hid hd1; have HF1 := Lib.hid (show Fr (· = p.gd) wb w1 from (Fr.ofBelow (below_drew wb)).trans hf1); have m0 := HF1.out.cell b0 (show ¬ p.gw = p.gd from H0.out.gg); have m1 := HF1.out.cell o1 (show ¬ w.heap.size = p.gd from fun e => heap_ne HOB.out H0.out.disk.1 (by decide) e); have m3 := HF1.out.cell o3 (show ¬ w.heap.size = p.gd from fun e => heap_ne HOB.out H0.out.disk.1 (by decide) e); clear hd1 hf1) | fail)
          all_goals (
            go_wp2_with fail
            go_meet
            exact ⟨_, _, HD1.out, HF1.out⟩)
        case rest =>
          obtain ⟨hf, on, HD, HF⟩ := hcut
          have h1 : WdIs wc p { m with d := faultD m.d (1 + pk) hf on } := H0.out.diskStep HD.out (fr_gd HF.out)
          have hg1 : Good { m with d := faultD m.d (1 + pk) hf on } U K := good_fault HG.out (1 + pk) hf on
          have he1 : EnvS f (WdS p { m with d := faultD m.d (1 + pk) hf on }) wc := HE0.out.fr (HF.out.weak fun _ _ e => gd_wd e)
          have hfr1 : Fr (WdS p m) w wc := (Fr.ofBelow HB.out).trans (HF.out.weak fun _ _ e => gd_wd e)
          have H1 := Lib.hid h1
          have HG1 := Lib.hid hg1
          have HFR1 := Lib.hid hfr1
          have d2 := h1.heads.1.2.2.1
          dsimp only at d2
          have hbs := HB.out.size
          have hfs := HF.out.size
          clear o0 o1 o3 b0 b6
          cases hl : m.l with
          | none =>
            rw [hl] at d2
            have d2' : wc.cell? ⟨p.gw, 2, none⟩ = some (.pointer none) := d2
            have HOP := Lib.hid (wopens_any f wc p { m with d := faultD m.d (1 + pk) hf on } U K h1 hg1 hl HFO.out rfl he1 (by omega) (by omega) hkey)
            have HL := Lib.hid hl
            clear h1 hg1 he1 hfr1 d2 hl
            go_wp2_with (first | (go_at_call 47; refine HOP.out.mono ?_; intro e w3 h3; obtain ⟨he, h3⟩ := h3; subst he; have H3 := Lib.hid h3; clear h3) | fail)
            go_ret
            obtain ⟨p', m', x1, x2, x3, x4, x5, x6⟩ := H3.out
            refine ⟨U, Nat.le_succ _, rfl, p', m', x1, x2, x3, x4.imp id fun x => ⟨x.1, x.2.bound (by omega)⟩, HFR1.out.trans x5, x6.mono (Nat.le_trans hbs hfs)⟩
          | some L =>
            rw [hl] at d2
            have d2' : wc.cell? ⟨p.gw, 2, none⟩ = some (.pointer (some ⟨p.gl, 0, none⟩)) := d2
            clear h1 hg1 he1 hfr1 d2 hl
            go_wp2
            go_ret
            exact ⟨U, Nat.le_succ _, rfl, p, { m with d := faultD m.d (1 + pk) hf on }, rfl, rfl, H1.out, .inr ⟨HFO.out, HG1.out.bound (by omega)⟩, HFR1.out, Sub.refl _ _⟩
      · have t5 : (kind == 5) = false := by rw [beq_eq_false_iff_ne]; exact k5
        cases hl : m.l with
        | none =>
          rw [hl] at c2
          have c2' : w.cell? ⟨p.gw, 2, none⟩ = some (.pointer none) := c2
          clear c2 hl
          go_enter Tryz.func26, Tryz.ntmps26
          go_wp2
          go_ret
          exact NOTHING.out
        | some L =>
          rw [hl] at c2
          have c2' : w.cell? ⟨p.gw, 2, none⟩ = some (.pointer (some ⟨p.gl, 0, none⟩)) := c2
          have HL := Lib.hid hl
          have hrun := HG.out.run L hl
          have hlen : L.entries.length = m.es.length := by rw [hrun.2.2.1]; simp [lists]
          have hes : m.es.length < 1048576 := by have := hrun.1.len; omega
          clear c2 hl
          by_cases k2 : kind = 2
          · subst k2
            have HA := Lib.hid (wappend_any f _ p m L s U K H0.out HG.out HL.out HFO.out HE0.out (by omega) hes)
            clear hrun hlen hes c0 c3
            go_enter Tryz.func26, Tryz.ntmps26
            go_wp2_with (first | (go_at_call 48; refine HA.out.mono ?_; intro e w1 h1; obtain ⟨he, h1⟩ := h1; subst he; have H1 := Lib.hid h1; clear h1) | fail)
            go_ret
            have hs : StepOk w p m (L.entries.length / 4 :: U) K (.returned (.bool true)) w1 := StepOk.below ⟨rfl, H1.out⟩ HB.out
            obtain ⟨_, p', m', x1, x2, x3, x4, x5, x6⟩ := hs
            exact ⟨L.entries.length / 4 :: U, by simp, rfl, p', m', x1, x2, x3, x4.imp id fun x => ⟨x.1, x.2.bound (by omega)⟩, x5, x6⟩
          · have t2 : (kind == 2) = false := by rw [beq_eq_false_iff_ne]; exact k2
            by_cases k3 : kind = 3
            · subst k3
              have hpub : Calls Tryz.prog 49 #[.pointer (some ⟨p.gw, 0, none⟩)] (w.alloc (.cells #[.int .i64 3, .int .i64 a, .bool two, .string s] 60)) (StepOk (w.alloc (.cells #[.int .i64 3, .int .i64 a, .bool two, .string s] 60)) p m U (K + 1048576)) := by
                cases hf : L.failed with
                | true => exact wpublish_dead f _ p m L U K H0.out HG.out HL.out HFO.out hf HE0.out (by omega) (by omega) hkey
                | false => exact wpublish_live f _ p m L U K H0.out HG.out HL.out HFO.out hf HE0.out (by omega) (by omega) hkey
              have HA := Lib.hid hpub
              clear hrun hlen hes c0 c3 hpub
              go_enter Tryz.func26, Tryz.ntmps26
              go_wp2_with (first | (go_at_call 49; refine HA.out.mono ?_; intro e w1 h1; obtain ⟨he, h1⟩ := h1; subst he; have H1 := Lib.hid h1; clear h1) | fail)
              go_ret
              have hs : StepOk w p m U (K + 1048576) (.returned (.bool true)) w1 := StepOk.below ⟨rfl, H1.out⟩ HB.out
              obtain ⟨_, p', m', x1, x2, x3, x4, x5, x6⟩ := hs
              exact ⟨U, Nat.le_succ _, rfl, p', m', x1, x2, x3, x4.imp id fun x => ⟨x.1, x.2.bound (by omega)⟩, x5, x6⟩
            · have t3 : (kind == 3) = false := by rw [beq_eq_false_iff_ne]; exact k3
              by_cases k4 : kind = 4
              · subst k4
                have hps := psize_any _ p.gl p.g p.gd p.ve p.vl p.vp p.vs L (H0.out.log L HL.out).1 (H0.out.log L HL.out).2
                rw [hlen] at hps
                have HPS := Lib.hid hps
                obtain ⟨ea, ec, hen⟩ := own_any H0.out.ents
                rw [hen] at c3
                clear hrun hlen hes c0 hps hen
                go_enter Tryz.func26, Tryz.ntmps26
                go_wp2_with (first | (go_at_call 11; refine HPS.out.mono ?_; rintro e w9 ⟨rfl, rfl⟩) | fail)
                go_ret
                exact NOTHING.out
              · have t4 : (kind == 4) = false := by rw [beq_eq_false_iff_ne]; exact k4
                clear hrun hlen hes c0 c3
                go_enter Tryz.func26, Tryz.ntmps26
                go_wp2
                go_ret
                exact NOTHING.out
end Go.Proofs.YtefccfakhgdfbabGreatDoor
end
