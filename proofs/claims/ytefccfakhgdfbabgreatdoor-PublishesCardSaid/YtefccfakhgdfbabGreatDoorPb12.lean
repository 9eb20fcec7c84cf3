/-
  (*Log).write: the files of one level, but for whole ones that are put. Conditions: the marks are of whole files; bounds on calls, files, the row; the closure answers with each file's bytes.
  The order in which files stand does not matter: plain. No conditions.
  The cells of a row of hashes.
  P5 in plain terms: what is rebuilt, case by case.
  The walks of merkle.Split and tilesref.below: the greatest power of 2 below n, for n from 2 on.
-/
import Derived.Test.YtefccfakhgdfbabGreatDoorPb11
import Derived.Test.YtefccfakhgdfbabGreatDoorPb10
import Derived.Deep.Cut
import Derived.Deep.DeepMust
import Derived.Handy
import Derived.Test.YtefccfakhgdfbabGreatDoorPb07
import Derived.Test.YtefccfakhgdfbabGreatDoorPb04
import Derived.Test.YtefccfakhgdfbabGreatDoorShelf
set_option linter.unusedVariables false
set_option linter.unusedSimpArgs false
section
namespace Go.Proofs.YtefccfakhgdfbabGreatDoor
open Go.RowKit
theorem info_intE : ∃ i, Tryz.prog.info? 3 = some i ∧ i.zero = some (.int .i64 0) ∧ i.size = 1 ∧ i.bytes = 8 := by
  have h : (Tryz.prog.info? 3).map (fun i => (i.zero, i.size, i.bytes)) = some (some (.int .i64 0), 1, 8) := by kernel_rfl
  cases hi : Tryz.prog.info? 3 with
  | none => rw [hi] at h; simp at h
  | some i => rw [hi] at h; simp at h; exact ⟨i, rfl, h.1, h.2.1, h.2.2⟩
/-- The blocks of a publisher and its store. -/
def bothS (g gd : Nat) (v ve vl vp : Value) (vs : List Value) (k : Nat) : Prop := dkS gd v k ∨ LogS g ve vl vp vs k
/-- What writing leaves. -/
structure Wk (w : World) (g gd : Nat) (v ve vl vp : Value) (vs : List Value) (L : Lg) (v' vp' : Value) (d' : Dk) (ps : List Nat) (w' : World) : Prop where
  disk : DiskAt w' gd v' d'
  log : LogIs w' g gd ve vl vp' vs { L with put := ps }
  fr : Fr (bothS g gd v ve vl vp vs) w w'
  sub : Sub w (bothS g gd v ve vl vp vs) (bothS g gd v' ve vl vp' vs)
section
variable {w w1 w2 : World} {g gd : Nat} {v v1 v2 ve vl vp vp1 vp2 : Value} {vs : List Value} {L : Lg} {d1 d2 : Dk} {ps ps2 : List Nat}
theorem Wk.put (h : Wk w g gd v ve vl vp vs L v1 vp1 d1 ps w1) (hd : DiskAt w2 gd v2 d2) (hf : Fr (dkS gd v1) w1 w2) (hm : Moved w1 v1 v2) (hsz : w.heap.size ≤ w1.heap.size) : Wk w g gd v ve vl vp vs L v2 vp1 d2 ps w2 := by
  refine ⟨hd, h.log.fr hf (fun k hk => h.log.apartDisk h.disk k hk) h.disk.noBytes, Fr.sub h.fr (hf.weak fun k _ hk => (.inl hk : bothS g gd v1 ve vl vp1 vs k)) h.sub, h.sub.trans (fun k hk => ?_) hsz⟩
  rcases hk with (hk | hk) | hk
  · exact .inl (.inl (.inl hk))
  · exact (hm k hk).imp (fun h => .inl (.inr h)) id
  · exact .inl (.inr hk)
theorem Wk.below (h : Wk w g gd v ve vl vp vs L v1 vp1 d1 ps w1) (hb : Below w1.heap.size w1 w2) : Wk w g gd v ve vl vp vs L v1 vp1 d1 ps w2 :=
  ⟨h.disk.below hb, h.log.below hb, h.fr.trans (Fr.ofBelow hb), h.sub⟩
theorem Wk.marks (h : Wk w g gd v ve vl vp vs L v1 vp1 d1 ps w1) (hl : LogIs w2 g gd ve vl vp2 vs { L with put := ps2 }) (hf : Fr (LogS g ve vl vp1 vs) w1 w2) (hs : Sub w1 (LogS g ve vl vp1 vs) (LogS g ve vl vp2 vs)) (hsz : w.heap.size ≤ w1.heap.size) : Wk w g gd v ve vl vp vs L v1 vp2 d1 ps2 w2 := by
  refine ⟨h.disk.fr hf fun k hk hS => h.log.apartDisk h.disk k hS hk, hl, Fr.sub h.fr (hf.weak fun k _ hk => (.inr hk : bothS g gd v1 ve vl vp1 vs k)) h.sub, h.sub.trans (fun k hk => ?_) hsz⟩
  rcases hk with hk | hk
  · exact .inl (.inl hk)
  · exact (hs k hk).imp (fun h => .inr h) id
end
/-- What write comes to. -/
def writePost (w : World) (g gd : Nat) (v ve vl vp : Value) (vs : List Value) (d : Dk) (L : Lg) (t : Int) (n : Nat) (row : List (List UInt8)) (e : Ending) (w' : World) : Prop :=
  ∃ p1 q, p1 = L.put ++ List.replicate (n + 1 - L.put.length) 0 ∧ q = writeJ t row (p1.getD n 0 / 4) d ∧ ∃ v' vp', Wk w g gd v ve vl vp vs L v' vp' q.1 (p1.set n q.2.1) w' ∧
    ((q.2.2 = none ∧ e = .returned .nilIface) ∨ ∃ p r u m, q.2.2 = some p ∧ e = .returned (.iface 153 (.pointer (some ⟨r, 0, none⟩))) ∧ w.heap.size ≤ r ∧ w.heap.size ≤ u ∧ w'.heap[u]? = some (.cells #[.int .i64 m] 366 (0, 0)) ∧
      w'.heap[r]? = some (.cells #[.string p, .iface 152 (.pointer (some ⟨u, 0, none⟩))] 155 (0, 0)))
theorem wr_k4 (j len k : Nat) (hk : k = min 4 (len - 4 * j)) (h : 4 * j < len) : 4 * min (j + 1) (len / 4) = if k = 4 then 4 * j + 4 else 4 * min j (len / 4) := by split <;> omega
theorem int_eq4 (k : Nat) : ((k : Int) == 4) = decide (k = 4) := by rw [Bool.eq_iff_iff]; simp; omega
theorem wr_sum (j len k : Nat) (hl : len ≤ 1048576) (hk : k = min 4 (len - 4 * j)) (h : 4 * j < len) : wrap64 (4 * (j : Int) + (k : Int)) = 4 * (j : Int) + (k : Int) := by unfold wrap64; omega
theorem wr_lt {a b j j0 len : Nat} (h : a ≤ b + (j - j0)) (hb : b < 1000000000000) (hj : 4 * j < len) (hl : len ≤ 1048576) : a < 1099511627776 := by omega
theorem wr_sum2 (j len k : Nat) (hl : len ≤ 1048576) (hk : k = min 4 (len - 4 * j)) (h : 4 * j < len) : IntKind.i64.wrap (4 * (j : Int) + (k : Int)) = 4 * (j : Int) + (k : Int) := by rw [IntKind.wrap_i64]; omega
theorem putD_bd (d : Dk) (p b : ByteArray) : (putD d p b).calls = d.calls + 1 ∧ (putD d p b).files.length ≤ d.files.length + 1 := by
  unfold putD
  split
  · exact ⟨enterD_calls d, by show (enterD d).files.length ≤ _; rw [enterD_files]; omega⟩
  · refine ⟨(swapD_hit d p b).2.2.2, ?_⟩
    rw [swapD_files]
    split
    · exact (putF_len _ _ _).2
    · omega
theorem wr_more {a a' b j j0 : Nat} (h : a ≤ b + (j - j0)) (h' : a' ≤ a + 1) (hj : j0 ≤ j) : a' ≤ b + (j + 1 - j0) := by omega
theorem wr_meas {len j gk : Nat} (hj : 4 * j < len) : len + 4 - 4 * (j + 1) < len + 4 - 4 * j := by omega
theorem puts_map (ps : List Nat) (x : Nat) : (ps ++ [x]).map (fun (n : Nat) => Value.int .i64 (n : Int)) = ps.map (fun (n : Nat) => Value.int .i64 (n : Int)) ++ [.int .i64 (x : Int)] := by simp
set_option maxRecDepth 100000 in
set_option maxHeartbeats 4000000 in
theorem write_any (f : Nat → Addr) (w : World) (g gd : Nat) (v ve vl vp : Value) (vs : List Value) (d : Dk) (L : Lg) (h : LogIs w g gd ve vl vp vs L) (hD : DiskAt w gd v d) (hE : EnvS f (bothS g gd v ve vl vp vs) w) (t : Int) (n : Nat) (ht : t + 1 = n) (hn : n ≤ 1048576) (hpl : L.put.length ≤ 1048576)
    (row : List (List UInt8)) (hrow : row.length ≤ 1048576) (hmark : ∀ a, L.put[n]? = some a → a % 4 = 0 ∧ a ≤ row.length) (hshort : ∀ x ∈ row, x.length ≤ 64) (hc : d.calls < 1000000000000) (hfl : d.files.length < 1000000000000)
    (F : FuncId) (gc : Nat) (hen : ∀ args w, (callFunc F args).run Tryz.prog w = .ok (.enter F args) w)
    (hF : ∀ (w1 : World) (vp1 : Value) (ps : List Nat), LogIs w1 g gd ve vl vp1 vs { L with put := ps } → Fr (bothS g gd v ve vl vp vs) w w1 → ∀ j, 4 * j < row.length →
      Calls Tryz.prog F #[.int .i64 (4 * (j : Int)), .int .i64 (4 * (j : Int) + ((min 4 (row.length - 4 * j) : Nat) : Int)), .pointer (some ⟨gc, 0, none⟩)] w1 fun e w2 => ∃ vb, e = .returned vb ∧ BytesAt w2 vb ((row.drop (4 * j)).take 4).flatten ∧ Below w1.heap.size w1 w2) :
    Calls Tryz.prog 77 #[.pointer (some ⟨g, 0, none⟩), .int .i64 t, .int .i64 row.length, .func (.func F) #[] #[.pointer (some ⟨gc, 0, none⟩)]] w (writePost w g gd v ve vl vp vs d L t n row) := by
  have HE := Lib.hid hE
  have HF := Lib.hid hF
  have HM := Lib.hid hmark
  have HSH := Lib.hid hshort
  have hg := lt_of_heap h.cells
  have HW0 := Lib.hid (⟨hD, h, Fr.refl _ _, Sub.refl _ _⟩ : Wk w g gd v ve vl vp vs L v vp d L.put w)
  have htw : wrap64 (t + 1) = (n : Int) := by rw [ht]; unfold wrap64; omega
  have HT := Lib.hid ht
  clear h hD hE hF hmark hshort ht
  obtain ⟨i0, hi0, hz0, hs0, hby0⟩ := info_intE
  have HI := Lib.hid (⟨hi0, hz0, hs0, hby0⟩ : _ ∧ _ ∧ _ ∧ _)
  clear hi0 hz0 hs0 hby0
  go_enter Tryz.func77, Tryz.ntmps77
  go_wp2_with fail
  go_loopg [] (n + 2) (fun gg wr => ∃ (k : Nat) (vp1 : Value), k ≤ n + 1 - L.put.length ∧ n + 2 - k ≤ gg ∧ Aside (Wk w g gd v ve vl vp vs L v vp1 d (L.put ++ List.replicate k 0) wr) ∧ w.heap.size ≤ wr.heap.size)
  case atStart =>
    refine ⟨0, vp, Nat.zero_le _, by omega, ?_, Nat.le_refl _⟩
    show Wk _ _ _ _ _ _ _ _ _ _ _ _ _ _
    rw [List.replicate_zero, List.append_nil]
    exact HW0.out
  case round =>
    obtain ⟨k, vp1, hk, hgg, HW1, hsw⟩ := hrel
    have hd1 := HW1.out.log.heads
    have c4 := hd1.1.2.2.2.2.1
    have f4 := hd1.2 4
    have hg1 := lt_of_heap HW1.out.log.cells
    obtain ⟨a1, cp1, rfl⟩ := own_any HW1.out.log.puts
    obtain ⟨np, hnp⟩ : ∃ np, np = ({ L with put := L.put ++ List.replicate k 0 } : Lg).put.length := ⟨_, rfl⟩
    have hnp2 : np = L.put.length + k := by rw [hnp]; simp
    have hrow1 := HW1.out.log.puts
    rw [← hnp] at c4 hrow1
    have hne : ¬ (Value.slice a1 np cp1).ownBlock = some g := fun e => by
      obtain ⟨C, hC⟩ := ownBlock_type hrow1 e
      exact heap_ne HW1.out.log.cells hC (by decide) rfl
    have HNP := Lib.hid hnp
    have HROW1 := Lib.hid hrow1
    have HNE := Lib.hid hne
    have HNP2 := Lib.hid hnp2
    clear hd1 hnp hrow1 hne
    by_cases hlt : np ≤ n
    · have hltz : (np : Int) ≤ (n : Int) := by omega
      have hnb : np + 1 ≤ 1099511627776 := by omega
      clear hnp2
      go_wp2_with (at_builtin; refine wpList_appM rfl _ _ _ rfl 0 3 i0 _ 1 8 Tryz.underlying23 HI.out.1 HI.out.2.1 HI.out.2.2.1 HI.out.2.2.2 rfl (by decide) (by decide) (.slice a1 np cp1) np _ (by rfl) (ownsRow_below HROW1.out (below_alloc wr (.cells #[.int .i64 0] 3))) ⟨wr.heap.size, 0, none⟩ 1 1 [.int .i64 0] rfl rfl (cell_one_new _ _ _) (by simp [Value.oneCell']) (by decide) hnb (Nat.zero_le _) ?_; intro v' w' h2 h3 h4 h5; obtain ⟨gb, cpb, rfl, hgb⟩ := own_slice h2 h5; have H2 := Lib.hid h2; have H3 := Lib.hid ((Fr.ofBelow (S := fun k => (Value.slice a1 np cp1).ownBlock = some k) (below_alloc wr (.cells #[.int .i64 0] 3))).trans (Fr.ofGrown h3 fun k _ e => e)); have H4 := Lib.hid ((Moved.refl wr (.slice a1 np cp1)).trans h4 (by simp)); go_must (have k3 := H3.out.cell c4 HNE.out; have k4 := (H3.out.frozen (p := ⟨g, 4, none⟩) hg1 HNE.out).trans f4; clear h2 h3 h4 h5))
      go_roundg (n + 2 - (k + 1))
      case measure => omega
      case rel =>
        have hp := HW1.out.log.setPuts (ps := L.put ++ List.replicate (k + 1) 0) (vp' := .slice (some ⟨gb, 0, none⟩) (np + 1) cpb) (by rw [← HNP.out]; exact H3.out) (by
          have e : L.put ++ List.replicate (k + 1) 0 = L.put ++ List.replicate k 0 ++ [0] := by rw [List.append_assoc, List.replicate_succ']
          rw [e, puts_map]
          have e2 : (L.put ++ List.replicate k 0 ++ [0]).length = np + 1 := by have := HNP2.out; simp only [List.length_append, List.length_replicate, List.length_cons, List.length_nil]; omega
          rw [e2]
          exact H2.out) (by rw [← HNP.out]; exact H4.out)
        exact ⟨k + 1, .slice (some ⟨gb, 0, none⟩) (np + 1) cpb, by have := HNP2.out; omega, by omega, HW1.out.marks hp.1 hp.2.1 hp.2.2 hsw, by have := hp.2.1.size; omega⟩
    · have hltz : ¬ (np : Int) ≤ (n : Int) := by omega
      have hkk : k = n + 1 - L.put.length := by omega
      obtain ⟨p1, hp1⟩ : ∃ p1, p1 = L.put ++ List.replicate k 0 := ⟨_, rfl⟩
      have hpl1 : p1.length = np := by rw [hp1, HNP.out]
      obtain ⟨a, ha⟩ : ∃ a, p1[n]? = some a := ⟨_, List.getElem?_eq_getElem (by omega)⟩
      have ham : a % 4 = 0 ∧ a ≤ row.length := by
        rw [hp1] at ha
        by_cases hl : n < L.put.length
        · rw [List.getElem?_append_left hl] at ha
          exact HM.out a ha
        · rw [List.getElem?_append_right (by omega), List.getElem?_replicate] at ha
          split at ha
          · cases ha; exact ⟨rfl, by omega⟩
          · cases ha
      obtain ⟨bp, rfl⟩ : ∃ bp, a1 = some ⟨bp, 0, none⟩ := by
        rcases HROW1.out.2 with ⟨e, h0⟩ | ⟨b, cap, cur, e, _⟩
        · omega
        · simp at e; exact ⟨b, e.1⟩
      have cbp : wr.cell? ⟨bp, n, none⟩ = some (.int .i64 (a : Int)) := by
        have h1 := HROW1.out.cells (g := bp) rfl n (.int .i64 (a : Int)) (by show ((L.put ++ List.replicate k 0).map _)[n]? = _; rw [← hp1, List.getElem?_map, ha]; rfl)
        rw [Addr.add_lit] at h1
        simpa using h1
      obtain ⟨j0, hj0⟩ : ∃ j0, j0 = a / 4 := ⟨_, rfl⟩
      have haj : a = 4 * j0 := by omega
      have hset : p1.set n (4 * min j0 (row.length / 4)) = p1 := by
        have e : 4 * min j0 (row.length / 4) = a := by omega
        rw [e]
        obtain ⟨hlt', he⟩ := List.getElem?_eq_some_iff.1 ha
        rw [← he]
        exact List.set_getElem_self hlt'
      have hgetD : p1.getD n 0 / 4 = j0 := by rw [List.getD_eq_getElem?_getD, ha]; exact hj0.symm
      have hnz : (n : Int) < (np : Int) := by omega
      have hn0 : (0 : Int) ≤ (n : Int) := by omega
      have cbp' : wr.cell? ⟨bp, n, none⟩ = some (.int .i64 (4 * (j0 : Int))) := by rw [cbp, haj]; congr 2
      have HSET := Lib.hid hset
      have HGET := Lib.hid hgetD
      have HKK := Lib.hid hkk
      have HP1 := Lib.hid hp1
      have HPL1 := Lib.hid hpl1
      have hjr : 4 * j0 ≤ row.length := by omega
      clear hset hgetD hkk hp1 hpl1 ha cbp haj hj0 ham hnp2
      go_wp2_with fail
      go_loopg [10] (row.length + 4) (fun gg s10 wx => ∃ j : Nat, j0 ≤ j ∧ 4 * j < row.length + 4 ∧ row.length + 4 - 4 * j ≤ gg ∧ s10 = .int .i64 (4 * (j : Int)) ∧ ∃ v1 d1, Aside (Wk w g gd v ve vl vp vs L v1 (.slice (some ⟨bp, 0, none⟩) p1.length cp1) d1 (p1.set n (4 * min j (row.length / 4))) wx) ∧
        Aside (writeJ t row j0 d = writeJ t row j d1) ∧ d1.calls ≤ d.calls + (j - j0) ∧ d1.files.length ≤ d.files.length + (j - j0) ∧ w.heap.size ≤ wx.heap.size)
      case atStart =>
        refine ⟨j0, Nat.le_refl _, by omega, by omega, rfl, v, d, ?_, rfl, by omega, by omega, hsw⟩
        show Wk _ _ _ _ _ _ _ _ _ _ _ _ _ _
        rw [HSET.out, HPL1.out, HP1.out, HNP.out]
        exact HW1.out
      case round =>
        obtain ⟨j, hj0, hj4, hg2, rfl, v1, d1, HW2, HJ, hdc, hdf, hsx⟩ := hrel
        by_cases hlt2 : 4 * j < row.length
        · have hltz2 : 4 * (j : Int) < (row.length : Int) := by omega
          have hq4 : 4 * (j : Int) / 4 = (j : Int) := by omega
          obtain ⟨k', hk'⟩ : ∃ k', k' = min 4 (row.length - 4 * j) := ⟨_, rfl⟩
          obtain ⟨p, hp⟩ : ∃ p, p = (fileOf t row j).1 := ⟨_, rfl⟩
          have hcon := fat_any t j row.length wr hlt2 (by omega) (HE.out.step HW2.out.fr HW2.out.sub).num
          rw [show sOf (nameOf t (j : Int) ((min 4 (row.length - 4 * j) : Nat) : Int)) = p from hp.symm, ← hk'] at hcon
          have hwr := wr_sum j row.length k' hrow hk' hlt2
          have hwr2 : IntKind.i64.wrap (4 * (j : Int) + (k' : Int)) = 4 * (j : Int) + (k' : Int) := wr_sum2 j row.length k' hrow hk' hlt2
          have hk4 := wr_k4 j row.length k' hk' hlt2
          have hkb : k' ≤ 4 := hk' ▸ Nat.min_le_left _ _
          obtain ⟨ck, hck, hck2⟩ : ∃ ck, ((k' : Int) == 4) = ck ∧ ck = decide (k' = 4) := ⟨_, rfl, int_eq4 k'⟩
          have HK := Lib.hid hk'
          have HP := Lib.hid hp
          have HK4 := Lib.hid hk4
          have HCK := Lib.hid hck2
          have hc1 : d1.calls < 1099511627776 := wr_lt hdc hc hlt2 hrow
          have hf1 : d1.files.length < 1099511627776 := wr_lt hdf hfl hlt2 hrow
          clear hk' hp hk4 hck2
          go_wp2_with (go_at_call 123; refine hcon.mono ?_; rintro e w3 ⟨rfl, hb3⟩; have HW3 := Lib.hid (HW2.out.below hb3); have HB3 := Lib.hid hb3; have hd3 := HW3.out.log.heads; clear hb3)
          have c30 := hd3.1.1
          have hg3 := lt_of_heap HW3.out.log.cells
          clear hd3
          go_cut [13] from 54 to 67 (fun s13 wy => ∃ v2, Aside (Wk w g gd v ve vl vp vs L v2 (.slice (some ⟨bp, 0, none⟩) p1.length cp1) (putD d1 p (fileOf t row j).2) (p1.set n (4 * min j (row.length / 4))) wy) ∧ Aside (∃ bs, w.heap.size ≤ bs ∧ MayErr wy bs (badPut d1 (fileOf t row j)) s13) ∧ w.heap.size ≤ wy.heap.size)
          case first =>
            go_region_law (first | (go_simp; have hcF := HF.out _ _ _ (HW3.out.below (below_drew w3)).log (HW3.out.below (below_drew w3)).fr j hlt2; rw [← HK.out] at hcF; refine hcF.mono ?_; rintro e w4 ⟨vb, rfl, hvb, hb4⟩; have HVB := Lib.hid hvb; have HW4 := Lib.hid ((HW3.out.below (below_drew w3)).below hb4); have HB4 := Lib.hid hb4; have c40 := (hb4.cell (p := ⟨g, 0, none⟩) hg3).trans c30; have hg4 : g < w4.heap.size := Nat.lt_of_lt_of_le hg3 hb4.size; clear hb4 hvb) | (go_simp; go_invoke; go_simp; go_at_call 250; refine (put_any w4 gd v1 d1 HW4.out.disk p vb _ HVB.out hc1 hf1).mono ?_; rintro e w5 ⟨u, rfl, hme, v2, hd5, hf5, hm5⟩; have HME := Lib.hid hme; have HW5 := Lib.hid (HW4.out.put hd5 hf5 hm5 (by have := HW3.out.fr.size; have := HB4.out.size; exact Nat.le_trans ‹w.heap.size ≤ w3.heap.size› this)); have HF5 := Lib.hid hf5; clear hme hd5 hf5 hm5))
            all_goals (
              go_wp2_with fail
              go_meet
              have hw34 : w.heap.size ≤ w4.heap.size := by have := HW4.out.fr.size; exact this
              refine ⟨v2, HW5.out, ⟨w4.heap.size, hw34, ?_⟩, Nat.le_trans hw34 HF5.out.size⟩
              unfold badPut
              rw [← HP.out]
              exact HME.out)
          case rest =>
            obtain ⟨v2, HW6, HME6, hwc⟩ := hcut
            have HME7 := HME6.out
            clear HME6
            obtain ⟨bs, hbs, HME7⟩ := HME7
            cases hbad : badPut d1 (fileOf t row j) with
            | true =>
              rw [hbad] at HME7
              have HBAD := Lib.hid hbad
              obtain ⟨q, nn, rfl, hq, hh⟩ : OwnErr wc bs u13 := HME7
              have HH := Lib.hid hh
              have hnn := neq_nil wc 152 (.pointer (some ⟨q, 0, none⟩))
              clear hbad hh
              go_wp2_with (go_at_call 65; refine (at_any _ _ _ _).mono ?_; rintro e w7 ⟨u, rfl, ⟨r, rfl, hr, hhr⟩, hb7⟩; have HR := Lib.hid hhr; have HB7 := Lib.hid hb7; clear hhr hb7)
              go_ret
              have hw := writeJ_bad t row j d1 hlt2 HBAD.out
              refine ⟨p1, writeJ t row j0 d, ?_, ?_, v2, .slice (some ⟨bp, 0, none⟩) p1.length cp1, ?_, .inr ⟨p, r, q, nn, ?_, rfl, Nat.le_trans hwc hr, Nat.le_trans hbs hq, (HB7.out.block _ (lt_of_heap HH.out)).trans HH.out, HR.out⟩⟩
              · rw [HP1.out, HKK.out]
              · rw [HGET.out]
              · rw [HJ.out, hw, ← HP.out]
                exact HW6.out.below HB7.out
              · rw [HJ.out, hw, ← HP.out]
            | false =>
              rw [hbad] at HME7
              have hu13 : u13 = .nilIface := HME7
              subst hu13
              have hnn := neq_nils wc
              have hstep := writeJ_step t row j d1 hlt2 hbad
              rw [← HP.out] at hstep
              have HSTEP := Lib.hid hstep
              have hpd := putD_bd d1 p (fileOf t row j).2
              have HPD := Lib.hid hpd
              have hlp : wc.ownsRow 0 3 1 (.slice (some ⟨bp, 0, none⟩) p1.length cp1) p1.length ((p1.set n (4 * min j (row.length / 4))).map fun (n : Nat) => .int .i64 (n : Int)) := by
                have h1 := HW6.out.log.puts
                have e : ({ L with put := p1.set n (4 * min j (row.length / 4)) } : Lg).put.length = p1.length := List.length_set
                rw [e] at h1
                exact h1
              have hnp : n < p1.length := by rw [HPL1.out]; omega
              have hcel : wc.cell? ⟨bp, n, none⟩ = some (.int .i64 ((4 * min j (row.length / 4) : Nat) : Int)) := by
                have h1 := hlp.cells (g := bp) rfl n (.int .i64 ((4 * min j (row.length / 4) : Nat) : Int)) (by rw [List.getElem?_map, List.getElem?_set_self hnp]; rfl)
                rw [Addr.add_lit] at h1
                simpa using h1
              obtain ⟨C, hC⟩ := ownBlock_type hlp (k := bp) rfl
              have hfz := frozen_heap hC n
              have hbp := lt_of_heap hC
              clear hbad hstep hpd HME7 hlp hC hnp
              cases ck with
              | true =>
                have hk44 : k' = 4 := by have := HCK.out; simpa using this
                have HK44 := Lib.hid hk44
                clear hk44
                obtain ⟨old, hold⟩ : ∃ old, old = ((4 * min j (row.length / 4) : Nat) : Int) := ⟨_, rfl⟩
                rw [← hold] at hcel
                clear hold
                go_wp2_with fail
                go_roundg (row.length + 4 - 4 * (j + 1))
                case measure => exact Nat.lt_of_lt_of_le (wr_meas (gk := 0) hlt2) hg2
                case rel =>
                  have hsp := HW6.out.log.setPut (bp := bp) (cp := cp1) (by show _ = Value.slice _ (p1.set n _).length _; rw [List.length_set]) n (4 * j + k')
                  have hxx : ((4 * j + k' : Nat) : Int) = 4 * (j : Int) + (k' : Int) := by omega
                  rw [hxx] at hsp
                  have hmk : (p1.set n (4 * min j (row.length / 4))).set n (4 * j + k') = p1.set n (4 * min (j + 1) (row.length / 4)) := by
                    rw [List.set_set, HK4.out, if_pos HK44.out, HK44.out]
                  refine ⟨j + 1, Nat.le_succ_of_le hj0, by omega, Nat.le_refl _, by go_num, v2, putD d1 p (fileOf t row j).2, ?_, ?_, wr_more hdc (Nat.le_of_eq HPD.out.1) hj0, wr_more hdf HPD.out.2 hj0, ?_⟩
                  · show Wk _ _ _ _ _ _ _ _ _ _ _ _ _ _
                    rw [← hmk]
                    exact HW6.out.marks hsp.1 hsp.2 (Sub.refl _ _) hwc
                  · show writeJ _ _ _ _ = _
                    rw [HJ.out, HSTEP.out]
                  · have := hsp.2.size; exact Nat.le_trans hwc this
              | false =>
                have hk44 : k' ≠ 4 := by have := HCK.out; simpa using this
                have HK44 := Lib.hid hk44
                clear hk44 hcel hfz hbp
                go_wp2_with fail
                go_roundg (row.length + 4 - 4 * (j + 1))
                case measure => exact Nat.lt_of_lt_of_le (wr_meas (gk := 0) hlt2) hg2
                case rel =>
                  refine ⟨j + 1, Nat.le_succ_of_le hj0, by omega, Nat.le_refl _, by go_num, v2, putD d1 p (fileOf t row j).2, ?_, ?_, wr_more hdc (Nat.le_of_eq HPD.out.1) hj0, wr_more hdf HPD.out.2 hj0, hwc⟩
                  · show Wk _ _ _ _ _ _ _ _ _ _ _ _ _ _
                    rw [HK4.out, if_neg HK44.out]
                    exact HW6.out
                  · show writeJ _ _ _ _ = _
                    rw [HJ.out, HSTEP.out]
        · have hltz2 : ¬ 4 * (j : Int) < (row.length : Int) := by omega
          have hend : row.length ≤ 4 * j := by omega
          have HEND := Lib.hid hend
          clear hend
          go_wp2_with fail
          go_ret
          have hw := writeJ_end t row j d1 HEND.out
          have hmin : 4 * min j (row.length / 4) = 4 * (row.length / 4) := by have := HEND.out; omega
          refine ⟨p1, writeJ t row j0 d, ?_, ?_, v1, .slice (some ⟨bp, 0, none⟩) p1.length cp1, ?_, .inl ⟨?_, rfl⟩⟩
          · rw [HP1.out, HKK.out]
          · rw [HGET.out]
          · rw [HJ.out, hw, ← hmin]
            exact HW2.out
          · rw [HJ.out, hw]
end Go.Proofs.YtefccfakhgdfbabGreatDoor
end

section
namespace Go.Proofs.YtefccfakhgdfbabGreatDoor
theorem once_perm {l l' : List Fil} (h : Once l) (hp : l'.Perm l) : Once l' := (List.Perm.nodup_iff (hp.map (Prod.fst))).2 h
theorem getF_perm {l l' : List Fil} (h : Once l) (hp : l'.Perm l) : getF l' = getF l := by
  funext p
  cases hg : getF l p with
  | none => exact getF_none.2 fun f hf => getF_none.1 hg f (hp.mem_iff.1 hf)
  | some b => exact once_get (once_perm h hp) (hp.mem_iff.2 (getF_some hg))
section
variable {l l' : List Fil} (h : getF l' = getF l)
include h
theorem bundleF_ext (i w : Nat) : bundleF l' i w = bundleF l i w := by unfold bundleF; rw [h]
theorem loadP_ext (n : Nat) : ∀ (m i : Nat) (d : List (List UInt8)), loadP l' n m i d = loadP l n m i d
  | 0, _, _ => rfl
  | m + 1, i, d => by
      rw [loadP, loadP, bundleF_ext h]
      cases bundleF l i (min 4 (n - 4 * i)) with
      | none => rfl
      | some e => exact loadP_ext n m (i + 1) (d ++ e)
theorem furtherW_ext (d : List (List UInt8)) : ∀ w, furtherW l' d w = furtherW l d w
  | 0 => rfl
  | w + 1 => by rw [furtherW, furtherW, furtherW_ext d w, bundleF_ext h, h]
theorem furtherP_ext (d : List (List UInt8)) : furtherP l' d = furtherP l d := furtherW_ext h d 4
theorem goes_ext {d r : List (List UInt8)} (g : Goes l' d r) : Goes l d r := by
  induction g with
  | stop h1 => rw [furtherP_ext h] at h1 ⊢; exact .stop h1
  | more h1 _ ih => rw [furtherP_ext h] at h1 ih; exact .more h1 ih
theorem openHead_ext (key : ByteArray) : openHead l' key = openHead l key := by unfold openHead; rw [h]
theorem opensTo_ext {key : ByteArray} {o : Opn} (g : OpensTo l' key o) : OpensTo l key o := by
  cases g with
  | checkpoint h1 => rw [openHead_ext h] at h1; exact .checkpoint h1
  | tile h1 h2 => rw [openHead_ext h] at h1; rw [loadP_ext h] at h2; exact .tile h1 h2
  | proof h1 h2 h3 => rw [openHead_ext h] at h1; rw [loadP_ext h] at h2; exact .proof h1 h2 h3
  | fine h1 h2 h3 h4 => rw [openHead_ext h] at h1; rw [loadP_ext h] at h2; exact .fine h1 h2 h3 (goes_ext h h4)
theorem few_ext {N : Nat} (g : FewB l N) : FewB l' N := fun m hm => g m fun i hi => by
  obtain ⟨w, h1, h2, b, h3⟩ := hm i hi
  exact ⟨w, h1, h2, b, by rw [← h]; exact h3⟩
end
/-- Do other bytes stand where files are to be put? -/
def clashB (l W : List Fil) : Bool := W.any fun f => clashF l f.1 f.2
theorem noClash_of {l W : List Fil} (h : clashB l W = false) : NoClash W l := fun f hf => by
  unfold clashB at h
  have := List.any_eq_false.1 h f hf
  simpa using this
theorem clashB_ext {l l' : List Fil} (h : getF l' = getF l) (W : List Fil) : clashB l' W = clashB l W := by unfold clashB clashF; rw [h]
/-- What the reference's data of a level is: the hashes of all whole parts of one size. -/
theorem rootOf_part (es : List (List UInt8)) (k j : Nat) (hk : k ≤ 30) (h : (j + 1) * 4 ^ k ≤ es.length) : rootOf ((es.drop (j * 4 ^ k)).take (4 ^ k)) = fullRoot es (2 * k) j := by
  have e := pow24 k
  have := fullRoot_eq es (2 * k) j (by omega) (by rw [e]; exact h)
  rw [e] at this
  exact this.symm
/-- Bundles one behind the other. -/
theorem bundle_flat {ls : List (List UInt8)} (h0 : ls.length ≠ 0) (h4 : ls.length ≤ 4) (h : ∀ l ∈ ls, l.length ≤ 20) : bundleOf ls = some (ls.map encE).flatten := by
  rw [bundle_some h0 h4 fun j l hl => h l (List.mem_of_getElem? hl), List.flatMap_def]
theorem bundle_one {l : List UInt8} (h : l.length ≤ 20) : bundleOf [l] = some (encE l) := by
  rw [bundle_flat (by simp) (by simp) (by simpa using h)]
  simp
end Go.Proofs.YtefccfakhgdfbabGreatDoor
end

section
namespace Go.Proofs.YtefccfakhgdfbabGreatDoor
open Go.RowKit
theorem flat8_get : ∀ (hs : List Hsh) (i : Nat) (x : Hsh), hs[i]? = some x → ∀ c, (hc : c < 8) → (hs.flatMap fun h => (h8 h).toList)[i * 8 + c]? = some (u8 x[c])
  | [], i, x, h, c, hc => by simp at h
  | a :: hs, 0, x, h, c, hc => by
      simp at h
      subst h
      rw [List.flatMap_cons, List.getElem?_append_left (by simp; omega)]
      simp [h8, hc]
  | a :: hs, i + 1, x, h, c, hc => by
      rw [List.flatMap_cons, List.getElem?_append_right (by simp; omega)]
      have := flat8_get hs i x (by simpa using h) c hc
      rw [show (i + 1) * 8 + c - (h8 a).toList.length = i * 8 + c by simp; omega]
      exact this
theorem hashes_cell {w : World} {g n c' : Nat} {hs : List Hsh} (h : w.ownsRow 0 109 8 (.slice (some ⟨g, 0, none⟩) n c') hs.length (hs.flatMap fun h => (h8 h).toList)) {i : Nat} {x : Hsh} (hx : hs[i]? = some x) (c : Nat) (hc : c < 8) : w.cell? ⟨g, i * 8 + c, none⟩ = some (u8 x[c]) := by
  have h1 := h.cells (g := g) rfl (i * 8 + c) _ (flat8_get hs i x hx c hc)
  rw [Addr.add_lit] at h1
  simpa using h1
end Go.Proofs.YtefccfakhgdfbabGreatDoor
end

section
namespace Go.Proofs.YtefccfakhgdfbabGreatDoor
theorem rebuild_nil (leaf : Hsh) (i n : Nat) : rebuild leaf i n [] = if n = 1 then some leaf else none := by simp [rebuild, rebuildR]
theorem rebuild_snoc (leaf last : Hsh) (i n : Nat) (q : List Hsh) : rebuild leaf i n (q ++ [last]) = if n = 1 then none else if i < below n then (rebuild leaf i (below n) q).map (nodeH · last) else (rebuild leaf (i - below n) (n - below n) q).map (nodeH last ·) := by
  unfold rebuild below
  rw [List.reverse_append]
  rfl
end Go.Proofs.YtefccfakhgdfbabGreatDoor
end

section
namespace Go.Proofs.YtefccfakhgdfbabGreatDoor
open Go.RowKit
set_option maxHeartbeats 400000 in
theorem split_any (n : Int) (w : World) (h2 : 2 ≤ n) (h3 : n ≤ 9223372036854775807) :
    Calls Tryz.prog 140 #[.int .i64 n] w fun e w' => e = .returned (.int .i64 (below n.toNat)) ∧ w = w' := by
  obtain ⟨e, he, he2, h4, h5⟩ := bl_bd (n := n.toNat) (by omega) (by omega)
  have hb : below n.toNat = 2 ^ e := by unfold below; rw [he, Nat.add_sub_cancel]
  have HB := Lib.hid hb
  have HE : Hid (Lib.bitLen (n - 1).toNat = e + 1) := by
    have : (n - 1).toNat = n.toNat - 1 := by omega
    rw [this]; exact he
  have hp : ((2 : Int) ^ e) = ((2 ^ e : Nat) : Int) := by simp
  have hle : 2 ^ e < 9223372036854775808 := by omega
  have HP := Lib.hid hp
  have HL := Lib.hid hle
  clear hb he hp hle h4 h5
  go_enter Tryz.func140, Tryz.ntmps140
  go_wp2_with fail
  refine (Tryz.bits_Len _ _ (by omega) (by omega)).mono ?_
  rintro e w1 ⟨rfl, rfl⟩
  rw [HE.out]
  go_wp2
  go_ret
  refine ⟨ret_val ?_, rfl⟩
  rw [HB.out]
  simp only [HP.out]
  have := HL.out
  show Value.int IntKind.i64 (wrap64 ((2 ^ e : Nat) : Int)) = _
  generalize 2 ^ e = m at this ⊢
  congr 1
  unfold wrap64
  omega
set_option maxHeartbeats 400000 in
theorem rbelow_any (n : Int) (w : World) (h2 : 2 ≤ n) (h3 : n ≤ 9223372036854775807) :
    Calls Tryz.prog 115 #[.int .i64 n] w fun e w' => e = .returned (.int .i64 (below n.toNat)) ∧ w = w' := by
  go_enter Tryz.func115, Tryz.ntmps115
  go_wp2
  go_loop [3] (fun k => ∃ (e : Nat) (k' : Int), k = .int .i64 k' ∧ k' = 2 ^ e ∧ k' < n ∧ 0 < k') (fun k => (n - intOf k).toNat)
  case atStart => exact ⟨0, 1, rfl, rfl, by omega, by omega⟩
  case round =>
    obtain ⟨e, k, rfl, hke, hkn, hk0⟩ := hrel
    have HK := Lib.hid hke
    clear hke
    by_cases hlt : k < n - k
    · go_wp2
      go_round
      case rel => exact ⟨e + 1, _, rfl, by rw [HK.out, Int.pow_succ]; omega, by omega, by omega⟩
      case measure => simp [intOf]; omega
    · go_wp2
      go_ret
      refine ⟨ret_val ?_, rfl⟩
      have h := HK.out
      have hp : ((2 : Int) ^ e) = ((2 ^ e : Nat) : Int) := by simp
      rw [below_uniq (n := n.toNat) (e := e) (by omega) (by omega) (by omega) (by omega)]
      show Value.int IntKind.i64 k = _
      rw [h, hp]
end Go.Proofs.YtefccfakhgdfbabGreatDoor
end
