/-
  plain.Disk.Files: a copy of the files, sorted by their paths: a permutation of them. Conditions: at most 2^40 files.
  tilesref.Find: where a path stands. Conditions: fewer than 2^40 files.
  tilesref.level: the files of one level behind some files. Conditions: fewer than 2^30 files; short texts.
-/
import Derived.Test.YtefccfakhgdfbabGreatDoorPb36
import Derived.WalkLawsBesides
import Derived.Test.YtefccfakhgdfbabGreatDoorPb12
import Derived.Test.YtefccfakhgdfbabGreatDoorSort
import Derived.Test.YtefccfakhgdfbabGreatDoorPb03
import Derived.Test.YtefccfakhgdfbabGreatDoorPb06
import Derived.Test.YtefccfakhgdfbabGreatDoorPb17
import Derived.Test.YtefccfakhgdfbabGreatDoorPb11
import Derived.Test.YtefccfakhgdfbabGreatDoorPb05
import Derived.Deep.DeepMust
set_option linter.unusedVariables false
set_option linter.unusedSimpArgs false
section
namespace Go.Proofs.YtefccfakhgdfbabGreatDoor
open Go.RowKit Go.Sort
theorem own_filesAt {w : World} {base : Nat} {t : TypeId} {v : Value} {l : List (ByteArray × ByteArray)} (h : w.ownsRow base t 2 v l.length (fileRow l)) : FilesAt w v l := by
  rcases h.2 with ⟨rfl, h0⟩ | ⟨b, cap, cur, rfl, _, hb, r1, _, _, r4⟩
  · exact ⟨none, 0, by rw [h0], by omega, fun j x hj => by have := (List.getElem?_eq_some_iff.1 hj).1; omega⟩
  · refine ⟨_, _, rfl, r1, fun j x hj => ⟨b, 0, rfl, ?_, ?_⟩⟩
    · have h1 := (fileRow_at l j x hj).1
      rw [← r4] at h1
      rw [cell_of_row w b _ cur _ _ hb]
      have h2 := List.getElem?_take_of_lt (l := cur.toList) (i := j * 2) (j := l.length * 2) (by have := (List.getElem?_eq_some_iff.1 hj).1; omega)
      rw [h2] at h1
      simpa using h1
    · have h1 := (fileRow_at l j x hj).2
      rw [← r4] at h1
      rw [cell_of_row w b _ cur _ _ hb]
      have h2 := List.getElem?_take_of_lt (l := cur.toList) (i := j * 2 + 1) (j := l.length * 2) (by have := (List.getElem?_eq_some_iff.1 hj).1; omega)
      rw [h2] at h1
      simpa using h1
theorem fileRow_one {l : List (ByteArray × ByteArray)} : ∀ u ∈ fileRow l, u.oneCell' = true := by
  intro u hu
  unfold fileRow at hu
  obtain ⟨f, _, hf⟩ := List.mem_flatMap.1 hu
  simp [fileCells] at hf
  rcases hf with rfl | rfl <;> rfl
theorem own_cells {w : World} {base : Nat} {t : TypeId} {b n c : Nat} {xs : List Value} (h : w.ownsRow base t 2 (.slice (some ⟨b, 0, none⟩) n c) n xs) : ∀ j u, xs[j]? = some u → w.cell? ((⟨b, 0, none⟩ : Addr).add j) = some u := h.cells (g := b) rfl
theorem eql_flnil (w : World) (a : Option Addr) (n c : Nat) : (binOp .eql 39 (.slice a n c) (.slice none 0 0)).run Tryz.prog w = .ok (.bool a.isNone) w := Lib.run_eql_slice_nil w _ _ a n c 0 0 Tryz.underlying39
theorem own_empty (w : World) (t : TypeId) (size : Nat) : (w.alloc (.cells #[] t)).ownsRow w.heap.size t size (.slice (some ⟨w.heap.size, 0, none⟩) 0 0) 0 [] :=
  ⟨by simp, .inr ⟨w.heap.size, 0, #[], rfl, Nat.le_refl _, heap_alloc_new w _, Nat.le_refl _, by decide, by simp, by simp⟩⟩
set_option maxRecDepth 100000 in
set_option maxHeartbeats 1000000 in
theorem fclone_any (w : World) (v : Value) (l : List (ByteArray × ByteArray)) (hv : w.ownsRow 0 73 2 v l.length (fileRow l)) (hn : l.length ≤ 1099511627776) :
    Calls Tryz.prog 54 #[v] w fun e w' => ∃ v', e = .returned v' ∧ w'.ownsRow w.heap.size 73 2 v' l.length (fileRow l) ∧ Below w.heap.size w w' := by
  obtain ⟨i, hi, hz, hs, hby⟩ := info_fileE
  rcases hv.2 with ⟨rfl, h0⟩ | ⟨b, cap, cur, rfl, _, hb, _⟩
  · have hq := eql_flnil w none 0 0
    have hl : l = [] := List.eq_nil_of_length_eq_zero h0
    subst hl
    clear hv h0
    go_enter Tryz.func54, Tryz.ntmps54
    go_wp2
    go_ret
    exact ⟨_, rfl, World.ownsRow_nil _ _ _ _, Below.refl _ _⟩
  · have hq := eql_flnil w (some ⟨b, 0, none⟩) l.length cap
    have HV := Lib.hid hv
    have hbl := lt_of_heap hb
    have HI := Lib.hid (⟨hi, hz, hs, hby⟩ : _ ∧ _ ∧ _ ∧ _)
    have HN := Lib.hid hn
    clear hv hb hi hz hs hby hn
    go_enter Tryz.func54, Tryz.ntmps54
    go_wp2_with (at_builtin; refine wpList_append_own _ rfl _ _ 39 rfl w.heap.size 73 i _ 2 32 Tryz.underlying39 HI.out.1 HI.out.2.1 HI.out.2.2.1 HI.out.2.2.2 rfl (by decide) (.slice (some ⟨w.heap.size, 0, none⟩) 0 0) 0 [] rfl (own_empty w 73 2) ⟨b, 0, none⟩ l.length cap (fileRow l) rfl (fileRow_length l) (own_cells (ownsRow_below HV.out (below_alloc w _))) fileRow_one (by have := HN.out; unfold maxLen; omega) (by have := HN.out; omega) (by simp) ?_; intro v' w' h2 h3 _)
    go_ret
    refine ⟨v', rfl, by simpa using h2, ((below_alloc w _).grown h3 (by simp) fun k hk => ?_)⟩
    simp [Value.ownBlock] at hk
    omega
theorem less_other {a b : List UInt8} (h : Op.bytesLess a b = false) (hne : a ≠ b) : Op.bytesLess b a = true := by
  rw [bytesLess_eq] at h ⊢
  have h1 : ¬ a < b := by simpa using h
  have h2 : b ≤ a := List.not_lt.1 h1
  have h3 : b < a := by
    rcases List.le_iff_lt_or_eq.1 h2 with h4 | h4
    · exact h4
    · exact absurd h4.symm hne
  simpa using h3
set_option maxHeartbeats 1000000 in
theorem less_any (x y : ByteArray × ByteArray) (W : World) : Calls Tryz.prog 56 #[.agg #[.string x.1, .string x.2], .agg #[.string y.1, .string y.2]] W fun e w' => e = .returned (.int .i64 (cfF x y)) ∧ ∃ q os', w' = grow (W.drewN q) os' := by
  obtain ⟨r, hr⟩ : ∃ r, r = cfF x y := ⟨_, rfl⟩
  have HR := Lib.hid hr
  rw [← hr]
  cases h1 : Op.bytesLess x.1.toList y.1.toList with
  | true =>
    have hc : r = -1 := by rw [hr]; unfold cfF; rw [h1]; rfl
    clear hr
    subst hc
    go_enter Tryz.func56, Tryz.ntmps56
    go_wp2
    go_ret
    exact ⟨rfl, 0, _, by rw [alloc_eq_grow, alloc_eq_grow, grow_grow]; rfl⟩
  | false =>
    by_cases he : x.1.toList = y.1.toList
    · have hc : r = 0 := by rw [hr]; unfold cfF; rw [← he, if_neg (by rw [he] at h1 ⊢; simp [h1]), if_neg (by rw [he] at h1 ⊢; simp [h1])]
      have hb : (x.1.toList == y.1.toList) = true := by simp [he]
      clear hr he
      subst hc
      go_enter Tryz.func56, Tryz.ntmps56
      go_wp2
      go_ret
      exact ⟨rfl, 0, _, by rw [alloc_eq_grow, alloc_eq_grow, grow_grow]; rfl⟩
    · have h2 : Op.bytesLess y.1.toList x.1.toList = true := less_other h1 he
      have hc : r = 1 := by rw [hr]; unfold cfF; rw [h1, h2]; rfl
      have hb : (x.1.toList == y.1.toList) = false := by rw [beq_eq_false_iff_ne]; exact he
      clear hr he h2
      subst hc
      go_enter Tryz.func56, Tryz.ntmps56
      go_wp2
      go_ret
      exact ⟨rfl, 0, _, by rw [alloc_eq_grow, alloc_eq_grow, grow_grow]; rfl⟩
theorem cmp_lays (blk off size : Nat) (w : World) : Go.Proofs.CmpLays Tryz.prog 56 #[] fileCells 2 cfF blk off size w := fun _ _ _ _ x y => less_any x y _
/-- slices.SortFunc of no files. -/
theorem insert_none (a : Option Addr) (c : Nat) (u : Value) (w : World) : Calls Tryz.prog 153 #[.slice a 0 c, .int .i64 0, .int .i64 0, u] w fun e w' => e = .returned (.tuple #[]) ∧ w = w' := by
  go_enter Tryz.func153, Tryz.ntmps153
  go_wp2
  go_loop [8] (fun i => i = .int .i64 1) (fun _ => 0)
  case atStart => rfl
  case round =>
    subst hrel
    go_wp2
    go_end0
    exact ⟨rfl, rfl⟩
theorem pdq_none (a : Option Addr) (c : Nat) (k : Int) (u : Value) (w : World) : Calls Tryz.prog 108 #[.slice a 0 c, .int .i64 0, .int .i64 0, .int .i64 k, u] w fun e w' => e = .returned (.tuple #[]) ∧ w = w' := by
  go_enter Tryz.func108, Tryz.ntmps108
  go_wp2
  refine wp_loop_rounds 1 ?_
  rw [rounds_succ]
  go_wp2_with (go_at_call 153; refine (insert_none a c u _).mono ?_; rintro e w' ⟨rfl, rfl⟩)
  (try simp only [Exit.inBlock, Exit.then, Exit.inLoop])
  refine bodyPost_ret (results_none rfl _ _ _) rfl ?_
  exact ⟨rfl, rfl⟩
theorem sort_none (a : Option Addr) (c : Nat) (u : Value) (w : World) : Calls Tryz.prog 55 #[.slice a 0 c, u] w fun e w' => e = .returned (.tuple #[]) ∧ w = w' := by
  have hbl := fun (w : World) => Tryz.bits_Len 0 w (by omega) (by omega)
  go_enter Tryz.func55, Tryz.ntmps55
  go_wp2_with (first | (go_at_call 109; refine (hbl _).mono ?_; rintro e w' ⟨rfl, rfl⟩) | (go_at_call 108; refine (pdq_none a c _ u _).mono ?_; rintro e w' ⟨rfl, rfl⟩))
  go_end0
  exact ⟨rfl, rfl⟩
set_option maxHeartbeats 1000000 in
theorem sort_any (w : World) (base blk n cap : Nat) (l : List (ByteArray × ByteArray)) (h : w.ownsRow base 73 2 (.slice (some ⟨blk, 0, none⟩) n cap) n (fileRow l)) (hn : n = l.length) (hlt : n < 4611686018427387904) :
    Calls Tryz.prog 55 #[.slice (some ⟨blk, 0, none⟩) n cap, .func (.func 56) #[] #[]] w fun e w' => e = .returned (.tuple #[]) ∧
      ∃ l' : List (ByteArray × ByteArray), l'.Perm l ∧ w'.ownsRow base 73 2 (.slice (some ⟨blk, 0, none⟩) n cap) n (fileRow l') ∧ Fr (· = blk) w w' := by
  rcases h.2 with ⟨e, _⟩ | ⟨b, cp, cur, e, hbase, hb, r1, r2, r3, r4⟩
  · cases e
  · cases e
    have eg : ∀ args w, (callFunc 56 args).run Tryz.prog w = .ok (.enter 56 args) w := enters_of Tryz.func56 (by kernel_rfl) rfl
    have hcon := Go.Proofs.AnyQ.slices_SortFunc Tryz.sortFile 2 Tryz.isAgg73 Tryz.sizeOf73 fileCells (fun _ => rfl) (fun x v hv => by simp [fileCells] at hv; rcases hv with rfl | rfl <;> rfl) cfF swo_cfF 56 #[] blk 0 cap l.toArray w eg (cmp_lays blk 0 _ w) (holds_files hb (by rw [← hn]; exact r4)) (lt_of_heap hb) (by simpa [← hn] using hlt)
    have hsz : l.toArray.size = n := by simp [hn]
    rw [hsz] at hcon
    refine Calls.mono hcon ?_
    rintro e w' ⟨rfl, d', m, os, hp, _, rfl⟩
    have hp' : d'.toList.Perm l := by
      have := perm_sorted (d := l.toArray) (d' := d') (by rw [hsz]; exact hp)
      simpa using this
    refine ⟨rfl, d'.toList, hp', ?_, fr_sorted _⟩
    have := ownsRow_sortedF (m := m) (os := os) (l' := d'.toList) h hn hp'.length_eq
    simpa using this
set_option maxHeartbeats 1000000 in
theorem dfiles_any (w : World) (g : Nat) (v : Value) (d : Dk) (h : DiskAt w g v d) (hn : d.files.length ≤ 1099511627776) :
    Calls Tryz.prog 30 #[.pointer (some ⟨g, 0, none⟩)] w fun e w' => ∃ v' l', e = .returned v' ∧ w'.ownsRow w.heap.size 73 2 v' l'.length (fileRow l') ∧ l'.Perm d.files ∧ Below w.heap.size w w' := by
  obtain ⟨⟨c0, _⟩, _⟩ := h.cells
  have HC := Lib.hid (fclone_any w v d.files h.2 hn)
  clear h
  go_enter Tryz.func30, Tryz.ntmps30
  go_wp2_with fail
  go_at_call 54
  refine HC.out.mono ?_
  rintro e w1 ⟨v1, rfl, ho, hb⟩
  have HB := Lib.hid hb
  rcases ho.2 with ⟨rfl, h0⟩ | ⟨blk, cap, cur, rfl, hbase, hbk, _⟩
  · have hl : d.files = [] := List.eq_nil_of_length_eq_zero h0
    have HL := Lib.hid hl
    clear ho hb hl h0
    go_wp2_with (go_at_call 55; refine (sort_none _ _ _ _).mono ?_; rintro e w2 ⟨rfl, rfl⟩)
    go_ret
    exact ⟨_, [], rfl, World.ownsRow_nil _ _ _ _, by rw [HL.out], HB.out⟩
  · have HS := Lib.hid (sort_any w1 _ blk _ cap d.files ho rfl (by omega))
    have hlt := lt_of_heap hbk
    clear ho hb hbk
    go_wp2_with (go_at_call 55; refine HS.out.mono ?_; rintro e w2 ⟨rfl, l', hp, ho2, hf2⟩; have HP := Lib.hid hp; have HO := Lib.hid ho2; have HF := Lib.hid hf2; clear hp ho2 hf2)
    go_ret
    exact ⟨.slice (some ⟨blk, 0, none⟩) d.files.length cap, l', rfl, by have := HO.out; rw [← HP.out.length_eq] at this ⊢; exact this, HP.out, HB.out.trans (HF.out.below HB.out.size fun k hk e => by omega)⟩
end Go.Proofs.YtefccfakhgdfbabGreatDoor
end

section
namespace Go.Proofs.YtefccfakhgdfbabGreatDoor
open Go.RowKit
set_option maxRecDepth 100000 in
theorem rfind_any (w : World) (va : Value) (l : List (ByteArray × ByteArray)) (p : ByteArray) (h : FilesAt w va l) (hn : l.length ≤ 1099511627776) :
    Calls Tryz.prog 59 #[va, .string p] w fun e w' => e = .returned (.int .i64 (findF l p)) ∧ w = w' := by
  obtain ⟨a, c, rfl, hc, hx⟩ := h
  have HX := Lib.hid hx
  clear hx
  go_enter Tryz.func59, Tryz.ntmps59
  go_wp2
  go_loopg [5] l.length (fun gg s5 wr => ∃ kk : Nat, kk ≤ l.length ∧ l.length - kk ≤ gg ∧ s5 = .int .i64 kk ∧ w = wr ∧ Aside (∀ j, j < kk → ∀ y, l[j]? = some y → ¬ y.1 = p))
  case atStart =>
    refine ⟨0, Nat.zero_le _, by omega, rfl, rfl, ?_⟩
    show ∀ j, j < 0 → _
    intro j hj
    omega
  case round =>
    obtain ⟨kk, hkk, hg, rfl, rfl, HM⟩ := hrel
    by_cases hlt : kk < l.length
    · obtain ⟨x, hx⟩ : ∃ x, x = l[kk] := ⟨_, rfl⟩
      have hlx : l[kk]? = some x := by rw [hx, List.getElem?_eq_getElem hlt]
      obtain ⟨b, off, rfl, c1, _⟩ := HX.out kk x hlx
      have hb : b < w.heap.size := cell_lt c1
      have hltz : (kk : Int) < (l.length : Int) := by omega
      have hk0 : (0 : Int) ≤ (kk : Int) := by omega
      have HLX := Lib.hid hlx
      clear hx hlx
      by_cases he : x.1 = p
      · have e : (x.1.toList == p.toList) = true := beq_str_true he
        have HE := Lib.hid he
        clear he
        go_wp2
        go_ret
        exact ⟨ret_val (by rw [findN_hit HLX.out HE.out HM.out]; rfl), rfl⟩
      · have e : (x.1.toList == p.toList) = false := beq_str_false he
        have HE := Lib.hid he
        clear he
        go_wp2
        go_roundg (l.length - (kk + 1))
        case measure => omega
        case rel =>
          refine ⟨kk + 1, by omega, by omega, by go_num, rfl, ?_⟩
          show ∀ j, j < kk + 1 → _
          intro j hj y hy
          by_cases hjk : j = kk
          · subst hjk
            rw [HLX.out] at hy
            cases hy
            exact HE.out
          · exact HM.out j (by omega) y hy
    · have hltz : ¬ (kk : Int) < (l.length : Int) := by omega
      have hkl : kk = l.length := by omega
      have HK := Lib.hid hkl
      clear hkl
      go_wp2
      go_ret
      exact ⟨ret_val (by rw [findN_miss fun j hj y hy => HM.out j (by have := HK.out; omega) y hy]; rfl), rfl⟩
end Go.Proofs.YtefccfakhgdfbabGreatDoor
end

section
namespace Go.Proofs.YtefccfakhgdfbabGreatDoor
open Go.RowKit
/-- A row of the reference's files of its own. -/
def OwnFiles (w : World) (v : Value) (l : List Fil) : Prop := w.ownsRow 0 194 2 v l.length (fileRow l)
theorem infoR : (Tryz.prog.info? 194).map (fun i => (i.zero, i.size, i.bytes)) = some (some (.agg #[.string ⟨#[]⟩, .string ⟨#[]⟩]), 2, 32) := by kernel_rfl
theorem info_fileR : ∃ i, Tryz.prog.info? 194 = some i ∧ i.zero = some (.agg #[.string ⟨#[]⟩, .string ⟨#[]⟩]) ∧ i.size = 2 ∧ i.bytes = 32 := by
  have h := infoR
  cases hi : Tryz.prog.info? 194 with
  | none => rw [hi] at h; simp at h
  | some i => rw [hi] at h; simp at h; exact ⟨i, rfl, h.1, h.2.1, h.2.2⟩
theorem lists_len (ds : List ByteArray) : (lists ds).length = ds.length := by simp [lists]
theorem lists_get? (ds : List ByteArray) (k : Nat) : (lists ds)[k]? = (ds[k]?).map (·.data.toList) := by simp [lists]
theorem flat_snoc {α : Type} (ls : List (List α)) (i k : Nat) (x : List α) (hi : i ≤ k) (h : ls[k]? = some x) : ((ls.drop i).take (k + 1 - i)).flatten = ((ls.drop i).take (k - i)).flatten ++ x := by
  have e : k + 1 - i = k - i + 1 := by omega
  rw [e, List.take_add_one, List.getElem?_drop, show i + (k - i) = k by omega, h]
  simp
theorem sOf_join (a : List UInt8) (s : ByteArray) : sOf a ++ s = sOf (a ++ s.data.toList) := by
  conv => lhs; rw [← sOf_self s]
  exact sOf_append a _
theorem lev_size {ds : List ByteArray} (h : ∀ s ∈ ds, s.size ≤ 1048576) (a i : Nat) (hi : i ≤ 4) : (sOf (((lists ds).drop a).take i).flatten).size ≤ 4194304 := by
  rw [sOf_size]
  have h1 := flatten_le (((lists ds).drop a).take i) 1048576 fun x hx => by
    obtain ⟨s, hs, rfl⟩ := List.mem_map.1 (List.mem_of_mem_drop (List.mem_of_mem_take hx))
    exact h s hs
  have h2 : (((lists ds).drop a).take i).length ≤ 4 := by rw [List.length_take]; omega
  have := Nat.mul_le_mul_right 1048576 h2
  omega
theorem lev_four {len j m wd : Nat} (hwd : wd = min 4 (len - 4 * j)) (hm : m = len - 4 * j) (h : 4 < m) : (4 : Int) < (m : Int) ∧ wd = 4 := by omega
theorem lev_less {len j m wd : Nat} (hwd : wd = min 4 (len - 4 * j)) (hm : m = len - 4 * j) (h : ¬ 4 < m) : ¬ (4 : Int) < (m : Int) ∧ m = wd := by omega
theorem wrap_small (n : Nat) (h : n ≤ 1073741824) : wrap64 (n : Int) = (n : Int) := by unfold wrap64; omega
set_option maxRecDepth 100000 in
set_option maxHeartbeats 4000000 in
theorem rlevel_any (w : World) (v : Value) (l : List Fil) (h : OwnFiles w v l) (t : Int) (vd : Value) (ds : List ByteArray) (hd : OwnStrs w 0 vd ds) (hn : l.length + ds.length ≤ 1073741824) (hsz : ∀ s ∈ ds, s.size ≤ 1048576) :
    Calls Tryz.prog 150 #[v, .int .i64 t, vd] w fun e w' => ∃ v', e = .returned v' ∧ OwnFiles w' v' (l ++ levelF t (lists ds)) ∧ Fr (fun k => v.ownBlock = some k) w w' ∧ Moved w v v' := by
  obtain ⟨ad, cd, rfl⟩ := own_any hd
  obtain ⟨a0, c0, hv⟩ := own_any h
  have HH := Lib.hid h
  have HD := Lib.hid hd
  have HZ := Lib.hid hsz
  have HN := Lib.hid hn
  have HV := Lib.hid hv
  clear h hd hsz hn hv
  obtain ⟨i0, hi, hz, hs, hby⟩ := info_fileR
  have HI := Lib.hid (⟨hi, hz, hs, hby⟩ : _ ∧ _ ∧ _ ∧ _)
  clear hi hz hs hby
  go_enter Tryz.func150, Tryz.ntmps150
  go_wp2
  go_loopg [0, 7] (ds.length + 4) (fun gg s0 s7 wr => ∃ j : Nat, 4 * j < ds.length + 4 ∧ ds.length + 4 - 4 * j ≤ gg ∧ s7 = .int .i64 (4 * (j : Int)) ∧ ∃ v1, s0 = v1 ∧ Aside (OwnFiles wr v1 (l ++ (levelF t (lists ds)).take j)) ∧ Aside (Fr (fun k => v.ownBlock = some k) w wr) ∧ Aside (Moved w v v1))
  case atStart =>
    refine ⟨0, by omega, by omega, rfl, v, rfl, ?_, Fr.refl _ _, Moved.refl _ _⟩
    show OwnFiles _ _ _
    rw [List.take_zero, List.append_nil]
    exact HH.out
  case round =>
    obtain ⟨j, hj, hgg, rfl, v1, rfl, HF1, HFr, HM⟩ := hrel
    by_cases hlt : 4 * j < ds.length
    · have hltz : 4 * (j : Int) < (ds.length : Int) := by omega
      obtain ⟨wd, hwd⟩ : ∃ wd, wd = min 4 (ds.length - 4 * j) := ⟨_, rfl⟩
      have hwd4 : wd ≤ 4 := by omega
      have hwd1 : 0 < wd := by omega
      have hjw : 4 * j + wd ≤ ds.length := by omega
      have hq : 4 * (j : Int) / 4 = (j : Int) := by omega
      have hcon := rname_any t (j : Int) (wd : Int) wr (by have := HN.out; omega)
      obtain ⟨p, hp⟩ : ∃ p, p = (fileOf t (lists ds) j).1 := ⟨_, rfl⟩
      have hpe : sOf (nameOf t (j : Int) (wd : Int)) = p := by rw [hp, hwd, ← lists_len ds]; rfl
      rw [hpe] at hcon
      have htk : ((lists ds).drop (4 * j)).take wd = ((lists ds).drop (4 * j)).take 4 := by
        have hl : ((lists ds).drop (4 * j)).length = ds.length - 4 * j := by rw [List.length_drop, lists_len]
        rcases Nat.lt_or_ge (ds.length - 4 * j) 4 with h | h
        · rw [List.take_of_length_le (i := wd) (by omega), List.take_of_length_le (i := 4) (by omega)]
        · rw [show wd = 4 by omega]
      have HP := Lib.hid hp
      have HCON := Lib.hid hcon
      have HTK := Lib.hid htk
      obtain ⟨m, hm⟩ : ∃ m, m = ds.length - 4 * j := ⟨_, rfl⟩
      have hw0 : (ds.length : Int) - 4 * (j : Int) = (m : Int) := by omega
      have hdl : ds.length ≤ 1073741824 := Nat.le_trans (Nat.le_add_left _ _) HN.out
      have hwj := wrap_small j (by clear hq hcon hw0; omega)
      have hwm := wrap_small m (by clear hq hcon hw0; omega)
      by_cases h4 : 4 < m
      · obtain ⟨h4z, hw4⟩ := lev_four hwd hm h4
        have hcon4 : Calls Tryz.prog 113 #[.int .i64 t, .int .i64 j, .int .i64 4] wr fun e w' => e = .returned (.string p) ∧ Below wr.heap.size wr w' := by
          have h := HCON.out
          rw [hw4, show ((4 : Nat) : Int) = 4 from rfl] at h
          exact h
        have HCON := Lib.hid hcon4
        have HW4 := Lib.hid hw4
        clear hp hpe hcon hm hwd htk hw4 hcon4
        go_wp2_with (go_at_call 113; refine HCON.out.mono ?_; rintro e w2 ⟨rfl, hb2⟩; have HB2 := Lib.hid hb2; clear hb2)
        have HWD4 := Lib.hid hwd4
        clear hq hwj hwm hw0 h4z hwd4
        go_loopg [10, 11] wd (fun gg s10 s11 wx => ∃ i : Nat, i ≤ wd ∧ wd - i ≤ gg ∧ s11 = .int .i64 (4 * (j : Int) + (i : Int)) ∧ s10 = .string (sOf (((lists ds).drop (4 * j)).take i).flatten) ∧ w2 = wx)
        case atStart => exact ⟨0, by omega, by omega, by simp, by simp, rfl⟩
        case round =>
          obtain ⟨i, hi, hgi, rfl, rfl, rfl⟩ := hrel
          by_cases hil : i < wd
          · have hilz : 4 * (j : Int) + (i : Int) < 4 * (j : Int) + 4 := by have := HW4.out; omega
            have hd2 : OwnStrs w2 0 (.slice ad ds.length cd) ds := ownsRow_below (ownsRow_fr HD.out HFr.out fun k hk e => by
              obtain ⟨C, hC⟩ := ownBlock_type HD.out hk
              obtain ⟨C', hC'⟩ := ownBlock_type HH.out e
              rw [hC] at hC'
              simp at hC') HB2.out
            obtain ⟨s, hs⟩ : ∃ s, ds[4 * j + i]? = some s := ⟨_, List.getElem?_eq_getElem (by omega)⟩
            obtain ⟨bd, rfl⟩ : ∃ bd, ad = some ⟨bd, 0, none⟩ := by
              rcases hd2.2 with ⟨_, h0⟩ | ⟨b, cap, cur, e, _⟩
              · omega
              · simp at e; exact ⟨b, e.1⟩
            have kc : w2.cell? ⟨bd, 4 * j + i, none⟩ = some (.string s) := by
              have h1 := hd2.cells (g := bd) rfl (4 * j + i) (.string s) (by rw [List.getElem?_map, hs]; rfl)
              rw [Addr.add_lit] at h1
              simpa using h1
            have hi0 : (0 : Int) ≤ 4 * (j : Int) + (i : Int) := by omega
            have hi1 : 4 * (j : Int) + (i : Int) < (ds.length : Int) := by omega
            have hi2 : (4 * (j : Int) + (i : Int)).toNat = 4 * j + i := by omega
            have hfs := flat_snoc (lists ds) (4 * j) (4 * j + i) s.data.toList (by omega) (by rw [lists_get?, hs]; rfl)
            rw [show 4 * j + i + 1 - 4 * j = i + 1 by omega, show 4 * j + i - 4 * j = i by omega] at hfs
            have HFS := Lib.hid hfs
            have hzs : s.size ≤ 1048576 := HZ.out s (List.mem_of_getElem? hs)
            have hzf := lev_size HZ.out (4 * j) i (Nat.le_trans hi HWD4.out)
            clear hd2 hs hfs
            go_wp2_with fail
            go_roundg (wd - (i + 1))
            case measure => omega
            case rel => exact ⟨i + 1, by omega, by omega, by go_num, by rw [HFS.out, sOf_join], rfl⟩
          · have hilz : ¬ 4 * (j : Int) + (i : Int) < 4 * (j : Int) + 4 := by have := HW4.out; omega
            have hiw : i = wd := by omega
            subst hiw
            have hdat : sOf (((lists ds).drop (4 * j)).take i).flatten = (fileOf t (lists ds) j).2 := by
              have e : (((lists ds).drop (4 * j)).take i) = (((lists ds).drop (4 * j)).take 4) := HTK.out
              rw [e]
              rfl
            have hrow1 := ownsRow_below HF1.out HB2.out
            obtain ⟨n1, hn1⟩ : ∃ n1, n1 = (l ++ (levelF t (lists ds)).take j).length := ⟨_, rfl⟩
            have hrow1' : w2.ownsRow 0 194 2 u0 n1 (fileRow (l ++ (levelF t (lists ds)).take j)) := by rw [hn1]; exact hrow1
            have hn1b : n1 + 1 ≤ 1099511627776 := by rw [hn1, List.length_append, List.length_take]; have := HN.out; omega
            have HDAT := Lib.hid hdat
            have HROW := Lib.hid hrow1'
            have HN1 := Lib.hid hn1
            clear hdat hrow1 hrow1' hn1
            go_wp2_with (at_builtin; refine wpList_appM rfl _ _ _ rfl 0 194 i0 _ 2 32 Tryz.underlying123 HI.out.1 HI.out.2.1 HI.out.2.2.1 HI.out.2.2.2 rfl (by decide) (by decide) u0 n1 _ (by rfl) (ownsRow_below HROW.out (below_alloc _ _)) ⟨w2.heap.size, 0, none⟩ 1 1 [.string p, .string (sOf (((lists ds).drop (4 * j)).take i).flatten)] rfl rfl (cells2_new _ _ _ _ _ rfl) (by simp [Value.oneCell']) (by decide) hn1b (Nat.zero_le _) ?_; intro v' w' h2 h3 h4 h5; have H2 := Lib.hid h2; have H3 := Lib.hid ((Fr.ofBelow (S := fun k => u0.ownBlock = some k) (below_alloc w2 _)).trans (Fr.ofGrown h3 fun k _ e => e)); have H4 := Lib.hid ((Moved.refl w2 u0).trans h4 (by simp)); clear h2 h3 h4)
            go_roundg (ds.length + 4 - 4 * (j + 1))
            case measure => omega
            case rel =>
              refine ⟨j + 1, by omega, Nat.le_refl _, by go_num, v', rfl, ?_, ?_, ?_⟩
              · have h1 := H2.out
                have e : (levelF t (lists ds)).take (j + 1) = (levelF t (lists ds)).take j ++ [fileOf t (lists ds) j] := by
                  rw [List.take_add_one, levelF_get t (lists ds) j (by rw [lists_len]; omega)]
                  rfl
                show w'.ownsRow _ _ _ _ _ _
                rw [e, ← List.append_assoc, fileRow_snoc, List.length_append, ← HN1.out, ← HP.out, ← HDAT.out]
                exact h1
              · show Fr _ _ _
                exact (HFr.out.trans (Fr.ofBelow HB2.out)).step H3.out fun k hk hS => by
                  rcases HM.out k hS with h1 | h1
                  · exact h1
                  · omega
              · show Moved _ _ _
                intro k hk
                rcases H4.out k hk with h1 | h1
                · exact HM.out k h1
                · exact .inr (by have := HFr.out.size; have := HB2.out.size; omega)
      · obtain ⟨h4z, hw4⟩ := lev_less hwd hm h4
        rw [hw4] at hw0 hwm h4z
        have HW4 := Lib.hid (rfl : wd = wd)
        clear hp hpe hcon hm hwd htk hw4 h4
        go_wp2_with (go_at_call 113; refine HCON.out.mono ?_; rintro e w2 ⟨rfl, hb2⟩; have HB2 := Lib.hid hb2; clear hb2)
        have HWD4 := Lib.hid hwd4
        clear hq hwj hwm hw0 h4z hwd4
        go_loopg [10, 11] wd (fun gg s10 s11 wx => ∃ i : Nat, i ≤ wd ∧ wd - i ≤ gg ∧ s11 = .int .i64 (4 * (j : Int) + (i : Int)) ∧ s10 = .string (sOf (((lists ds).drop (4 * j)).take i).flatten) ∧ w2 = wx)
        case atStart => exact ⟨0, by omega, by omega, by simp, by simp, rfl⟩
        case round =>
          obtain ⟨i, hi, hgi, rfl, rfl, rfl⟩ := hrel
          by_cases hil : i < wd
          · have hilz : 4 * (j : Int) + (i : Int) < 4 * (j : Int) + (wd : Int) := by have := HW4.out; omega
            have hd2 : OwnStrs w2 0 (.slice ad ds.length cd) ds := ownsRow_below (ownsRow_fr HD.out HFr.out fun k hk e => by
              obtain ⟨C, hC⟩ := ownBlock_type HD.out hk
              obtain ⟨C', hC'⟩ := ownBlock_type HH.out e
              rw [hC] at hC'
              simp at hC') HB2.out
            obtain ⟨s, hs⟩ : ∃ s, ds[4 * j + i]? = some s := ⟨_, List.getElem?_eq_getElem (by omega)⟩
            obtain ⟨bd, rfl⟩ : ∃ bd, ad = some ⟨bd, 0, none⟩ := by
              rcases hd2.2 with ⟨_, h0⟩ | ⟨b, cap, cur, e, _⟩
              · omega
              · simp at e; exact ⟨b, e.1⟩
            have kc : w2.cell? ⟨bd, 4 * j + i, none⟩ = some (.string s) := by
              have h1 := hd2.cells (g := bd) rfl (4 * j + i) (.string s) (by rw [List.getElem?_map, hs]; rfl)
              rw [Addr.add_lit] at h1
              simpa using h1
            have hi0 : (0 : Int) ≤ 4 * (j : Int) + (i : Int) := by omega
            have hi1 : 4 * (j : Int) + (i : Int) < (ds.length : Int) := by omega
            have hi2 : (4 * (j : Int) + (i : Int)).toNat = 4 * j + i := by omega
            have hfs := flat_snoc (lists ds) (4 * j) (4 * j + i) s.data.toList (by omega) (by rw [lists_get?, hs]; rfl)
            rw [show 4 * j + i + 1 - 4 * j = i + 1 by omega, show 4 * j + i - 4 * j = i by omega] at hfs
            have HFS := Lib.hid hfs
            have hzs : s.size ≤ 1048576 := HZ.out s (List.mem_of_getElem? hs)
            have hzf := lev_size HZ.out (4 * j) i (Nat.le_trans hi HWD4.out)
            clear hd2 hs hfs
            go_wp2_with fail
            go_roundg (wd - (i + 1))
            case measure => omega
            case rel => exact ⟨i + 1, by omega, by omega, by go_num, by rw [HFS.out, sOf_join], rfl⟩
          · have hilz : ¬ 4 * (j : Int) + (i : Int) < 4 * (j : Int) + (wd : Int) := by have := HW4.out; omega
            have hiw : i = wd := by omega
            subst hiw
            have hdat : sOf (((lists ds).drop (4 * j)).take i).flatten = (fileOf t (lists ds) j).2 := by
              have e : (((lists ds).drop (4 * j)).take i) = (((lists ds).drop (4 * j)).take 4) := HTK.out
              rw [e]
              rfl
            have hrow1 := ownsRow_below HF1.out HB2.out
            obtain ⟨n1, hn1⟩ : ∃ n1, n1 = (l ++ (levelF t (lists ds)).take j).length := ⟨_, rfl⟩
            have hrow1' : w2.ownsRow 0 194 2 u0 n1 (fileRow (l ++ (levelF t (lists ds)).take j)) := by rw [hn1]; exact hrow1
            have hn1b : n1 + 1 ≤ 1099511627776 := by rw [hn1, List.length_append, List.length_take]; have := HN.out; omega
            have HDAT := Lib.hid hdat
            have HROW := Lib.hid hrow1'
            have HN1 := Lib.hid hn1
            clear hdat hrow1 hrow1' hn1
            go_wp2_with (at_builtin; refine wpList_appM rfl _ _ _ rfl 0 194 i0 _ 2 32 Tryz.underlying123 HI.out.1 HI.out.2.1 HI.out.2.2.1 HI.out.2.2.2 rfl (by decide) (by decide) u0 n1 _ (by rfl) (ownsRow_below HROW.out (below_alloc _ _)) ⟨w2.heap.size, 0, none⟩ 1 1 [.string p, .string (sOf (((lists ds).drop (4 * j)).take i).flatten)] rfl rfl (cells2_new _ _ _ _ _ rfl) (by simp [Value.oneCell']) (by decide) hn1b (Nat.zero_le _) ?_; intro v' w' h2 h3 h4 h5; have H2 := Lib.hid h2; have H3 := Lib.hid ((Fr.ofBelow (S := fun k => u0.ownBlock = some k) (below_alloc w2 _)).trans (Fr.ofGrown h3 fun k _ e => e)); have H4 := Lib.hid ((Moved.refl w2 u0).trans h4 (by simp)); clear h2 h3 h4)
            go_roundg (ds.length + 4 - 4 * (j + 1))
            case measure => omega
            case rel =>
              refine ⟨j + 1, by omega, Nat.le_refl _, by go_num, v', rfl, ?_, ?_, ?_⟩
              · have h1 := H2.out
                have e : (levelF t (lists ds)).take (j + 1) = (levelF t (lists ds)).take j ++ [fileOf t (lists ds) j] := by
                  rw [List.take_add_one, levelF_get t (lists ds) j (by rw [lists_len]; omega)]
                  rfl
                show w'.ownsRow _ _ _ _ _ _
                rw [e, ← List.append_assoc, fileRow_snoc, List.length_append, ← HN1.out, ← HP.out, ← HDAT.out]
                exact h1
              · show Fr _ _ _
                exact (HFr.out.trans (Fr.ofBelow HB2.out)).step H3.out fun k hk hS => by
                  rcases HM.out k hS with h1 | h1
                  · exact h1
                  · omega
              · show Moved _ _ _
                intro k hk
                rcases H4.out k hk with h1 | h1
                · exact HM.out k h1
                · exact .inr (by have := HFr.out.size; have := HB2.out.size; omega)
    · have hltz : ¬ 4 * (j : Int) < (ds.length : Int) := by omega
      go_wp2
      go_ret
      refine ⟨_, rfl, ?_, HFr.out, HM.out⟩
      have := HF1.out
      rw [List.take_of_length_le (by rw [levelF_len, lists_len]; omega)] at this
      exact this
end Go.Proofs.YtefccfakhgdfbabGreatDoor
end
