/-
  What walks read of the world's variables, kept while only some blocks are written. No walk.
  The walk of tilesref.Bundle.
  P9 in plain terms: what Unbundle reads. No program is used.
  The walks of files.Bundle, bytes.Clone, tiles.Bundle, plain.Bundle.
-/
import Derived.Test.YtefccfakhgdfbabGreatDoorPb06
import Derived.Test.YtefccfakhgdfbabGreatDoorPb07
import Derived.Test.YtefccfakhgdfbabGreatDoorPb02
import Derived.Test.YtefccfakhgdfbabGreatDoorPb04
import Derived.RegionTactic
import Derived.BigRegion
import Derived.Deep.QuietTactic
import Derived.BigQuiet
import Derived.WalkSmall
import Derived.WideShapes
set_option linter.unusedVariables false
set_option linter.unusedSimpArgs false
section
namespace Go.Proofs.YtefccfakhgdfbabGreatDoor
open Go.RowKit
/-- Whatever is written into S only: the numerals' tables and the sentinels stand. -/
def EnvS (f : Nat → Addr) (S : Nat → Prop) (w : World) : Prop := ∀ w', Fr S w w' → NumEnv w' ∧ Sents w' f ∧ ErrT w'
theorem EnvS.num {f : Nat → Addr} {S : Nat → Prop} {w : World} (h : EnvS f S w) : NumEnv w := (h w (Fr.refl S w)).1
theorem EnvS.sents {f : Nat → Addr} {S : Nat → Prop} {w : World} (h : EnvS f S w) : Sents w f := (h w (Fr.refl S w)).2.1
theorem EnvS.errT {f : Nat → Addr} {S : Nat → Prop} {w : World} (h : EnvS f S w) : ErrT w := (h w (Fr.refl S w)).2.2
theorem EnvS.step {f : Nat → Addr} {S S' : Nat → Prop} {w w1 : World} (h : EnvS f S w) (hf : Fr S w w1) (hs : Sub w S S') : EnvS f S' w1 := fun w2 h2 => h w2 (Fr.sub hf h2 hs)
theorem EnvS.fr {f : Nat → Addr} {S : Nat → Prop} {w w1 : World} (h : EnvS f S w) (hf : Fr S w w1) : EnvS f S w1 := h.step hf (Sub.refl w S)
theorem EnvS.below {f : Nat → Addr} {S : Nat → Prop} {w w1 : World} (h : EnvS f S w) (hb : Below w.heap.size w w1) : EnvS f S w1 := h.fr (Fr.ofBelow hb)
theorem EnvS.less {f : Nat → Addr} {S S' : Nat → Prop} {w : World} (h : EnvS f S w) (hs : ∀ k, S' k → S k) : EnvS f S' w := fun w' h' => h w' (h'.weak fun k _ hk => hs k hk)
/-- From the world of the row's beginning. -/
theorem envS_of {f : Nat → Addr} {S : Nat → Prop} {w0 w : World} (hb : Below w0.heap.size w0 w) (hn : NumEnv w0) (hs : Sents w0 f) (he : ErrT w0) (hS : ∀ k, S k → w0.heap.size ≤ k) : EnvS f S w := fun w' h' => by
  have h1 : Below w0.heap.size w0 w' := hb.trans (h'.below hb.size fun k hk hd => by have := hS k hd; omega)
  exact ⟨hn.below h1, hs.below h1, he.below h1⟩
end Go.Proofs.YtefccfakhgdfbabGreatDoor
end

section
namespace Go.Proofs.YtefccfakhgdfbabGreatDoor
open Go.RowKit
def encE (l : List UInt8) : List UInt8 := UInt8.ofNat l.length :: l
/-- P9: the bytes of a bundle; none: there is none. -/
def bundleOf (ls : List (List UInt8)) : Option (List UInt8) := if ls.length = 0 ∨ 4 < ls.length then none else if ls.all (fun l => decide (l.length ≤ 20)) then some (ls.flatMap encE) else none
def bss (ss : List ByteArray) : List (List UInt8) := ss.map (·.data.toList)
theorem bundle_none {ls : List (List UInt8)} (h : ls.length = 0 ∨ 4 < ls.length) : bundleOf ls = none := if_pos h
theorem bundle_long {ls : List (List UInt8)} {k : Nat} {l : List UInt8} (h : ls[k]? = some l) (hl : 20 < l.length) : bundleOf ls = none := by
  unfold bundleOf
  split
  · rfl
  · rw [if_neg]
    intro ha
    rw [List.all_eq_true] at ha
    have := ha l (List.mem_of_getElem? h)
    simp at this
    omega
theorem bundle_some {ls : List (List UInt8)} (h0 : ls.length ≠ 0) (h4 : ls.length ≤ 4) (h : ∀ (j : Nat) (l : List UInt8), ls[j]? = some l → l.length ≤ 20) : bundleOf ls = some (ls.flatMap encE) := by
  unfold bundleOf
  rw [if_neg (by omega), if_pos]
  rw [List.all_eq_true]
  intro l hl
  obtain ⟨j, hj, rfl⟩ := List.getElem_of_mem hl
  simpa using h j _ (List.getElem?_eq_getElem hj)
/-- A Go string and its flag, as Bundle answers. -/
def rbPost (ls : List (List UInt8)) (w : World) (e : Ending) (w' : World) : Prop :=
  e = .returned (.tuple #[.string ⟨((bundleOf ls).getD []).toArray⟩, .bool (bundleOf ls).isSome]) ∧ Below w.heap.size w w'
set_option maxRecDepth 100000 in
set_option maxHeartbeats 1000000 in
theorem rbundle_any (v : Value) (ss : List ByteArray) (w : World) (h : StrsAt w v ss) (hn : ss.length ≤ 1099511627776) :
    Calls Tryz.prog 149 #[v] w (rbPost (bss ss) w) := by
  obtain ⟨a, c, rfl, hcap, hc⟩ := h
  have hbl : (bss ss).length = ss.length := by simp [bss]
  by_cases h0 : ss.length = 0
  · have hd : ((ss.length : Int) == 0) = true := by simp [h0]
    clear hc
    go_enter Tryz.func149, Tryz.ntmps149
    go_wp2
    go_ret2
    rw [rbPost, bundle_none (.inl (by omega))]
    exact ⟨rfl, Below.refl _ _⟩
  · have hd : ((ss.length : Int) == 0) = false := by rw [beq_eq_false_iff_ne]; omega
    by_cases h4 : 4 < ss.length
    · have hd2 : decide (4 < (ss.length : Int)) = true := by simp; omega
      clear hc
      go_enter Tryz.func149, Tryz.ntmps149
      go_wp2
      go_ret2
      rw [rbPost, bundle_none (.inr (by omega))]
      exact ⟨rfl, Below.refl _ _⟩
    · have hd2 : decide (4 < (ss.length : Int)) = false := by simp; omega
      have HC := Lib.hid hc
      have HB := Lib.hid hbl
      clear hc hbl
      go_enter Tryz.func149, Tryz.ntmps149
      go_wp2
      go_loopw [4, 5] (fun s i wr => ∃ (k : Nat) (t : ByteArray), k ≤ ss.length ∧ i = .int .i64 k ∧ s = .string t ∧ t.size ≤ 21 * k ∧ t.data.toList = ((bss ss).take k).flatMap encE ∧ (∀ (j : Nat) (l : List UInt8), j < k → (bss ss)[j]? = some l → l.length ≤ 20) ∧ Below w.heap.size w wr) (fun _ i _ => ss.length - (intOf i).toNat)
      case atStart => exact ⟨0, ⟨#[]⟩, by omega, rfl, rfl, by decide, rfl, by omega, Below.refl _ _⟩
      case round =>
        obtain ⟨k, t, hk, rfl, rfl, htz, ht, hsm, hbel⟩ := hrel
        have HT := Lib.hid ht
        have HS := Lib.hid hsm
        have HBe := Lib.hid hbel
        clear ht hsm
        by_cases hlt : k < ss.length
        · obtain ⟨s, hs⟩ : ∃ s, ss[k]? = some s := ⟨_, List.getElem?_eq_getElem hlt⟩
          obtain ⟨b, off, rfl, hcell0⟩ := HC.out k (.string s) (by simp [hs])
          have hbw : b < w.heap.size := cell_lt hcell0
          have hcell : wr.cell? ⟨b, off + k, none⟩ = some (.string s) := (hbel.cell (p := ⟨b, off + k, none⟩) hbw).trans hcell0
          have hbw2 : b < wr.heap.size := cell_lt hcell
          have hbs : (bss ss)[k]? = some s.data.toList := by simp [bss, hs]
          have HK := Lib.hid hbs
          have hk0 : (0 : Int) ≤ (k : Int) := by omega
          have hk1 : (k : Int) < (ss.length : Int) := by omega
          clear hs hcell0 hbel hbs
          by_cases hlong : 20 < s.size
          · go_wp2
            go_ret2
            rw [rbPost, bundle_long HK.out hlong]
            exact ⟨rfl, HBe.out⟩
          · have hcv : Sem.run Tryz.prog (convert 94 9 (.slice (some ⟨wr.heap.size, 0, none⟩) 1 1)) ((wr.alloc (.cells #[.int .u8 (s.size : Int)] 5)).drew) = .ok (.string ⟨[UInt8.ofNat s.size].toArray⟩) ((wr.alloc (.cells #[.int .u8 (s.size : Int)] 5)).drew) := by
              rw [u8_small _ (by omega)]
              exact run_bs ((bytes1 (fz := (0, 0)) (heap_alloc_new' _ _ _ rfl)).below (below_drew _))
            go_wp2
            go_region
            go_wp2
            go_roundw
            case rel =>
              refine ⟨k + 1, _, by omega, by go_num, rfl, ?_, ?_, fun j l hj hl => ?_, (HBe.out.alloc HBe.out.size _).drew⟩
              · simp only [ByteArray.size_append]
                have : (ByteArray.mk #[UInt8.ofNat s.size]).size = 1 := rfl
                omega
              · rw [List.take_add_one, HK.out, List.flatMap_append, ← HT.out]
                simp [encE]
              · by_cases hjk : j = k
                · subst hjk
                  rw [HK.out] at hl
                  cases hl
                  exact Nat.le_of_not_lt hlong
                · exact HS.out j l (by omega) hl
            case measure => simp [intOf]; omega
        · go_wp2
          go_ret2
          have e1 : (bss ss).take k = bss ss := List.take_of_length_le (by rw [HB.out]; omega)
          have hb := bundle_some (ls := bss ss) (by rw [HB.out]; omega) (by rw [HB.out]; omega) (fun j l hj => HS.out j l (by have := (List.getElem?_eq_some_iff.1 hj).1; rw [HB.out] at this; omega) hj)
          rw [rbPost, hb]
          refine ⟨?_, HBe.out⟩
          have ht := HT.out
          rw [e1] at ht
          simp only [Option.getD_some, Option.isSome_some, ← ht]
          rfl
end Go.Proofs.YtefccfakhgdfbabGreatDoor
end

section
namespace Go.Proofs.YtefccfakhgdfbabGreatDoor
open Go.RowKit
/-- The pieces of some bytes: a length, so many bytes, and so on. -/
def rawF : Nat → List UInt8 → Option (List (List UInt8))
  | _, [] => some []
  | 0, _ :: _ => none
  | f + 1, x :: r => if x.toNat ≤ r.length then (rawF f (r.drop x.toNat)).map (r.take x.toNat :: ·) else none
def rawU (l : List UInt8) : Option (List (List UInt8)) := rawF l.length l
theorem rawF_more : ∀ (f g : Nat) (l : List UInt8), l.length ≤ f → l.length ≤ g → rawF f l = rawF g l
  | _, _, [], _, _ => by simp [rawF]
  | 0, _, _ :: _, h, _ => by simp at h
  | _, 0, _ :: _, _, h => by simp at h
  | f + 1, g + 1, x :: r, h1, h2 => by
    simp only [rawF]
    simp only [List.length_cons] at h1 h2
    rw [rawF_more f g (r.drop x.toNat) (by simp; omega) (by simp; omega)]
theorem rawU_nil : rawU [] = some [] := rfl
theorem rawU_cons (x : UInt8) (r : List UInt8) : rawU (x :: r) = if x.toNat ≤ r.length then (rawU (r.drop x.toNat)).map (r.take x.toNat :: ·) else none := by
  show rawF (r.length + 1) (x :: r) = _
  simp only [rawF]
  rw [show rawU (r.drop x.toNat) = rawF r.length (r.drop x.toNat) from rawF_more _ _ _ (by simp) (by simp)]
def unbundleOf (l : List UInt8) : Option (List (List UInt8)) := (rawU l).bind fun ls => if (bundleOf ls).isSome then some ls else none
theorem rawF_flat : ∀ (f : Nat) (l : List UInt8) (ls : List (List UInt8)), rawF f l = some ls → ls.flatMap encE = l
  | _, [], ls, h => by simp [rawF] at h; subst h; rfl
  | 0, _ :: _, ls, h => by simp [rawF] at h
  | f + 1, x :: r, ls, h => by
    simp only [rawF] at h
    split at h
    · rename_i hx
      obtain ⟨ls', h', rfl⟩ := Option.map_eq_some_iff.1 h
      have := rawF_flat f _ _ h'
      rw [List.flatMap_cons, this, encE, List.length_take, Nat.min_eq_left hx]
      simp
    · cases h
theorem unbundle_flat {l : List UInt8} {ls : List (List UInt8)} (h : rawU l = some ls) : ls.flatMap encE = l := rawF_flat _ _ _ h
/-- What the loop has read so far, and what is left. -/
def Read (data : List UInt8) (ls : List (List UInt8)) (rest : List UInt8) : Prop := rawU data = (rawU rest).map (ls ++ ·)
theorem Read.start (data : List UInt8) : Read data [] data := by unfold Read; simp
theorem Read.step {data r : List UInt8} {ls : List (List UInt8)} {x : UInt8} (h : Read data ls (x :: r)) (hx : x.toNat ≤ r.length) : Read data (ls ++ [r.take x.toNat]) (r.drop x.toNat) := by
  unfold Read at *
  rw [h, rawU_cons, if_pos hx, Option.map_map]
  congr 1
  funext q
  simp
theorem Read.bad {data r : List UInt8} {ls : List (List UInt8)} {x : UInt8} (h : Read data ls (x :: r)) (hx : r.length < x.toNat) : rawU data = none := by
  unfold Read at h
  rw [h, rawU_cons, if_neg (by omega)]
  rfl
theorem Read.done {data : List UInt8} {ls : List (List UInt8)} (h : Read data ls []) : rawU data = some ls := by
  unfold Read at h
  rw [h, rawU_nil]
  simp
theorem bundle_mem_long {ls : List (List UInt8)} {l : List UInt8} (h : l ∈ ls) (hl : 20 < l.length) : bundleOf ls = none := by
  obtain ⟨k, hk, rfl⟩ := List.getElem_of_mem h
  exact bundle_long (List.getElem?_eq_getElem hk) hl
theorem Read.long {data r : List UInt8} {ls : List (List UInt8)} {x : UInt8} (h : Read data ls (x :: r)) (hx : 20 < x.toNat) : unbundleOf data = none := by
  unfold unbundleOf
  by_cases hr : x.toNat ≤ r.length
  · have h2 := h.step hr
    unfold Read at h2
    rw [h2]
    cases rawU (r.drop x.toNat) with
    | none => rfl
    | some q =>
      simp only [Option.map_some, Option.bind_some]
      rw [bundle_mem_long (l := r.take x.toNat) (by simp) (by simp; omega)]
      rfl
  · rw [h.bad (by omega)]
    rfl
theorem Read.many {data r : List UInt8} {ls : List (List UInt8)} {x : UInt8} (h : Read data ls (x :: r)) (h4 : 4 ≤ ls.length) : unbundleOf data = none := by
  unfold unbundleOf
  by_cases hr : x.toNat ≤ r.length
  · have h2 := h.step hr
    unfold Read at h2
    rw [h2]
    cases rawU (r.drop x.toNat) with
    | none => rfl
    | some q =>
      simp only [Option.map_some, Option.bind_some]
      rw [bundle_none (.inr (by simp; omega))]
      rfl
  · rw [h.bad (by omega)]
    rfl
theorem unbundle_bad {data : List UInt8} (h : rawU data = none) : unbundleOf data = none := by unfold unbundleOf; rw [h]; rfl
theorem unbundle_ok {data : List UInt8} {ls : List (List UInt8)} (h : rawU data = some ls) (h0 : ls.length ≠ 0) (h4 : ls.length ≤ 4) (hs : ∀ l ∈ ls, l.length ≤ 20) : unbundleOf data = some ls := by
  unfold unbundleOf
  rw [h, Option.bind_some, bundle_some h0 h4 (fun j l hj => hs l (List.mem_of_getElem? hj))]
  rfl
theorem unbundle_empty : unbundleOf [] = none := by unfold unbundleOf; rw [rawU_nil]; rfl
end Go.Proofs.YtefccfakhgdfbabGreatDoor
end

section
namespace Go.Proofs.YtefccfakhgdfbabGreatDoor
open Go.RowKit
/-- 's = append(s, b...)': bytes onto a row of bytes of the call's own. -/
theorem wpList_appB {P : Program} {ops : Array Oper} {rest : List Oper} {o : Oper} {a : Act} {Q : Exit → Act → World → Prop} {w : World} (hgd : o.guard = none) (s x : Operand) (t : TypeId)
    (ho : o.op = .call { callee := .builtin .append, args := #[s, x], argTypes := #[t, t] })
    (base : Nat) (i : TypeInfo) (ht : P.underlying t = some (.slice 5)) (hi : P.info? 5 = some i) (hz : i.zero = some (.int .u8 0)) (hsize : i.size = 1) (hby : i.bytes = 1)
    (v : Value) (n : Nat) (xs : List Value) (hs : a.eval s = v) (hown : w.ownsRow base 5 1 v n xs) (u : Value) (l : List UInt8) (hx : a.eval x = u) (hb : BytesAt w u l)
    (hn : n ≤ 1099511627776) (hl : l.length ≤ 1099511627776) (hbase : base ≤ w.heap.size)
    (h : ∀ v' w', w'.ownsRow base 5 1 v' (n + l.length) (xs ++ l.map u8) → w.grownBy w' v.ownBlock → (v' = .slice none 0 0 ↔ v = .slice none 0 0 ∧ l.length = 0) → wpList P ops Q rest (a.put o.dst v') w') :
    wpList P ops Q (o :: rest) a w := by
  obtain ⟨ad, c, rfl, hcap, hc⟩ := hb
  cases l with
  | nil =>
    refine wpList_plain hgd fun K hK => ?_
    have hr : (Builtin.append_ #[t, t] o.type #[v, .slice ad 0 c]).run P w = .ok v w := by
      rcases hown.2 with ⟨rfl, rfl⟩ | ⟨g, cap, cur, rfl, hbg, hg, hnc, hcm, hcs, htake⟩
      · cases ad <;> simp [Builtin.append_, run_underlying ht, sizeOf, typeInfo, hi, Builtin.lenOf, Builtin.firstCells, loadCells, loadCellsFrom]
      · cases ad <;> simp [Builtin.append_, run_underlying ht, sizeOf, typeInfo, hi, Builtin.lenOf, Builtin.firstCells, loadCells, loadCellsFrom, storeCells, hnc]
    unfold Oper.wp execOp
    simp only [List.length_nil] at hx
    simp only [ho, resolve, invoke, builtin, Sem.run_bind, Sem.run_pure, Result.andThen_ok, List.map_toArray, List.map_cons, List.map_nil, hs, hx, hr]
    exact hK _ _ (h v w (by simpa using hown) ⟨rfl, rfl, rfl, Nat.le_refl _, fun _ _ _ => rfl⟩ (by simp))
  | cons y l =>
    obtain ⟨b, off, rfl, _⟩ := hc 0 (u8 y) (by simp)
    refine wpList_append_own _ hgd s x t ho base 5 i _ 1 1 ht hi hz hsize hby (by simp [Value.cells]) (by decide) v n xs hs hown ⟨b, off, none⟩ (y :: l).length c ((y :: l).map u8) hx (by simp) (fun j q hq => ?_) (fun q hq => ?_) (by unfold maxLen; omega) (by omega) hbase fun v' w' h2 h3 h4 => h v' w' h2 h3 h4
    · obtain ⟨b', off', heq, hcell⟩ := hc j q hq
      cases heq
      rw [Addr.add_lit]
      exact hcell
    · obtain ⟨z, _, rfl⟩ := List.mem_map.1 hq
      rfl
theorem ownsRow_bytes {w : World} {base : Nat} {v : Value} {n : Nat} {l : List UInt8} (h : w.ownsRow base 5 1 v n (l.map u8)) : OwnBytes w base v l := by
  have hn : l.length = n := by simpa using h.1
  subst hn
  rcases h.2 with ⟨rfl, h0⟩ | ⟨g, cap, cur, rfl, hb, hg, hnc, hcm, hcs, ht⟩
  · exact .inl ⟨rfl, List.eq_nil_of_length_eq_zero h0⟩
  · refine .inr ⟨g, 0, cap, cur, (0, 0), rfl, hnc, hb, hg, fun j x hx => ?_, by omega, .inl rfl⟩
    have : (l.map u8)[j]? = some (u8 x) := by rw [List.getElem?_map, hx]; rfl
    rw [← ht, List.getElem?_take] at this
    split at this
    · rw [Nat.zero_add]; simpa using this
    · cases this
set_option maxRecDepth 100000 in
set_option maxHeartbeats 800000 in
theorem clone_any (v : Value) (l : List UInt8) (w : World) (h : BytesAt w v l) (hl : l.length ≤ 1099511627776) :
    Calls Tryz.prog 75 #[v] w fun e w' => ∃ v', e = .returned v' ∧ OwnBytes w' w.heap.size v' l ∧ Below w.heap.size w w' := by
  obtain ⟨i0, hi, hz0, hz1, hz2⟩ := info_parts info_u8
  obtain ⟨a, c, rfl⟩ : ∃ a c, v = .slice a l.length c := by obtain ⟨a, c, h1, _, _⟩ := h; exact ⟨a, c, h1⟩
  have HH := Lib.hid h
  clear h
  cases a with
  | none =>
    have h0 : l = [] := by
      obtain ⟨a, c, h1, _, h2⟩ := HH.out
      cases l with
      | nil => rfl
      | cons x l =>
        obtain ⟨b, off, h3, _⟩ := h2 0 (u8 x) (by simp)
        simp only [Value.slice.injEq] at h1
        rw [h3] at h1
        exact absurd h1.1 (by simp)
    subst h0
    have hq := fun w => Lib.run_eql_slice_nil (P := Tryz.prog) w 94 5 none 0 c 0 0 Tryz.underlying94
    go_enter Tryz.func75, Tryz.ntmps75
    go_wp2
    go_ret
    exact ⟨_, rfl, .inl ⟨rfl, rfl⟩, Below.refl _ _⟩
  | some ad =>
    have hq := fun w => Lib.run_eql_slice_nil (P := Tryz.prog) w 94 5 (some ad) l.length c 0 0 Tryz.underlying94
    go_enter Tryz.func75, Tryz.ntmps75
    go_wp2_with (first | (at_builtin; refine wpList_appB rfl _ _ 94 rfl w.heap.size i0 Tryz.underlying94 hi hz0 hz1 hz2 _ 0 [] rfl ⟨rfl, .inr ⟨w.heap.size, 0, #[], rfl, Nat.le_refl _, heap_alloc_new' _ _ _ rfl, Nat.le_refl _, by unfold maxLen; omega, rfl, rfl⟩⟩ _ l rfl (HH.out.below (below_alloc w _)) (by omega) hl (by simp) ?_; intro v2 w2 hr2 hg2 hne2; have HR2 := Lib.hid hr2; have HG2 := Lib.hid hg2; clear hr2 hg2 hne2))
    go_ret
    refine ⟨_, rfl, ownsRow_bytes (by simpa using HR2.out), (below_alloc w _).grown HG2.out (by simp) (fun k hk => Nat.le_of_eq (Option.some.inj hk))⟩
/-- What files.Bundle answers: nil, or the bytes in a new row that is not nil. -/
def fbPost (ls : List (List UInt8)) (w : World) (e : Ending) (w' : World) : Prop :=
  ∃ v', e = .returned v' ∧ Below w.heap.size w w' ∧ ((bundleOf ls = none ∧ v' = .slice none 0 0) ∨ ∃ l, bundleOf ls = some l ∧ OwnBytes w' w.heap.size v' l ∧ ∃ a n c, v' = .slice (some a) n c)
theorem enc_len {ls : List (List UInt8)} {k : Nat} (h : ∀ (j : Nat) (l : List UInt8), j < k → ls[j]? = some l → l.length ≤ 20) : ((ls.take k).flatMap encE).length ≤ 21 * k := by
  induction k with
  | zero => simp
  | succ k ih =>
    have h1 := ih (fun j l hj hl => h j l (by omega) hl)
    rw [List.take_add_one, List.flatMap_append, List.length_append]
    cases hk : ls[k]? with
    | none =>
      have e : (List.flatMap encE (none : Option (List UInt8)).toList).length = 0 := rfl
      omega
    | some l =>
      have := h k l (by omega) hk
      have e : (List.flatMap encE (some l).toList).length = l.length + 1 := by simp [encE]
      omega
theorem ne_nil_slice {v : Value} {w : World} {base : Nat} {e : TypeId} {size n : Nat} {xs : List Value} (h : w.ownsRow base e size v n xs) (hv : v ≠ .slice none 0 0) : ∃ a n c, v = .slice (some a) n c := by
  rcases h.2 with ⟨rfl, _⟩ | ⟨g, cap, cur, rfl, _⟩
  · exact absurd rfl hv
  · exact ⟨_, _, _, rfl⟩
set_option maxRecDepth 100000 in
set_option maxHeartbeats 1000000 in
theorem fbundle_any (v : Value) (ls : List (List UInt8)) (w : World) (h : BssAt w v ls) (hn : ls.length ≤ 1099511627776) :
    Calls Tryz.prog 79 #[v] w (fbPost ls w) := by
  obtain ⟨vs, hlen, ⟨a, c, rfl, hcap, hc⟩, hall⟩ := h
  obtain ⟨i0, hi, hz0, hz1, hz2⟩ := info_parts info_u8
  by_cases h0 : ls.length = 0
  · have hd : ((ls.length : Int) == 0) = true := by simp [h0]
    clear hc hall
    go_enter Tryz.func79, Tryz.ntmps79
    go_wp2
    go_ret
    exact ⟨_, rfl, Below.refl _ _, .inl ⟨bundle_none (.inl h0), rfl⟩⟩
  · have hd : ((ls.length : Int) == 0) = false := by rw [beq_eq_false_iff_ne]; omega
    by_cases h4 : 4 < ls.length
    · have hd2 : decide (4 < (ls.length : Int)) = true := by simp; omega
      clear hc hall
      go_enter Tryz.func79, Tryz.ntmps79
      go_wp2
      go_ret
      exact ⟨_, rfl, Below.refl _ _, .inl ⟨bundle_none (.inr h4), rfl⟩⟩
    · have hd2 : decide (4 < (ls.length : Int)) = false := by simp; omega
      have HC := Lib.hid hc
      have HA := Lib.hid hall
      have HL := Lib.hid hlen
      clear hc hall hlen
      go_enter Tryz.func79, Tryz.ntmps79
      go_wp2
      go_loopw [3, 16] (fun v i wr => ∃ k : Nat, k ≤ ls.length ∧ i = .int .i64 k ∧ wr.ownsRow w.heap.size 5 1 v ((ls.take k).flatMap encE).length (((ls.take k).flatMap encE).map u8) ∧ (k = 0 ∨ v ≠ .slice none 0 0) ∧ (∀ (j : Nat) (l : List UInt8), j < k → ls[j]? = some l → l.length ≤ 20) ∧ Below w.heap.size w wr) (fun _ i _ => ls.length - (intOf i).toNat)
      case atStart => exact ⟨0, by omega, rfl, World.ownsRow_nil _ _ _ _, .inl rfl, by omega, Below.refl _ _⟩
      case round =>
        obtain ⟨k, hk, rfl, hown, hnn, hsm, hbel⟩ := hrel
        have hlen2 := enc_len hsm
        have HR := Lib.hid hown
        have HN := Lib.hid hnn
        have HS := Lib.hid hsm
        have HB := Lib.hid hbel
        clear hnn hsm hown
        by_cases hlt : k < ls.length
        · obtain ⟨l, hl⟩ : ∃ s, ls[k]? = some s := ⟨_, List.getElem?_eq_getElem hlt⟩
          obtain ⟨u, hu⟩ : ∃ s, vs[k]? = some s := ⟨_, List.getElem?_eq_getElem (by rw [HL.out]; exact hlt)⟩
          obtain ⟨b, off, rfl, hcell0⟩ := HC.out k u hu
          have hba0 := HA.out k u l hu hl
          have hle : Below w.heap.size w wr := hbel
          have hcell : wr.cell? ⟨b, off + k, none⟩ = some u := (hbel.cell (p := ⟨b, off + k, none⟩) (cell_lt hcell0)).trans hcell0
          have hba : BytesAt wr u l := hba0.below hbel
          obtain ⟨a2, c2, rfl⟩ : ∃ a c, u = .slice a l.length c := by obtain ⟨a, c, h1, _, _⟩ := hba; exact ⟨a, c, h1⟩
          have HBA := Lib.hid hba0
          have HK := Lib.hid hl
          clear hu hcell0 hba0 hle hbel hba hl
          by_cases hlong : 20 < l.length
          · go_wp2
            go_ret
            exact ⟨_, rfl, HB.out, .inl ⟨bundle_long HK.out hlong, rfl⟩⟩
          · go_wp2_with (first | (at_builtin; refine wpList_app1 rfl _ _ 94 rfl w.heap.size 5 i0 (.int .u8 0) 1 Tryz.underlying94 hi hz0 hz1 hz2 rfl (by decide) _ _ _ rfl HR.out _ rfl rfl (by omega) HB.out.size ?_; intro v2 w2 hr2 hg2 hne2; have HR2 := Lib.hid hr2; have HG2 := Lib.hid hg2; have HN2 := Lib.hid hne2; clear hr2 hg2 hne2) | (at_builtin; go_loud (refine wpList_appB rfl _ _ 94 rfl w.heap.size i0 Tryz.underlying94 hi hz0 hz1 hz2 _ _ _ rfl HR2.out _ l rfl (HBA.out.below (HB.out.grown HG2.out HB.out.size (fun j hj => (HR.out.lt j hj).1))) (by omega) (by omega) (Nat.le_trans HB.out.size HG2.out.size) ?_); intro v3 w3 hr3 hg3 hne3; have HR3 := Lib.hid hr3; have HG3 := Lib.hid hg3; have HN3 := Lib.hid hne3; clear hr3 hg3 hne3))
            have hb2 : Below w.heap.size w w2 := HB.out.grown HG2.out HB.out.size (fun j hj => (HR.out.lt j hj).1)
            go_roundw
            case rel =>
              refine ⟨k + 1, by omega, by go_num, ?_, .inr ?_, fun j l' hj hl' => ?_, hb2.grown HG3.out hb2.size (fun j hj => (HR2.out.lt j hj).1)⟩
              · have e : (ls.take (k + 1)).flatMap encE = (ls.take k).flatMap encE ++ encE l := by rw [List.take_add_one, HK.out, List.flatMap_append]; simp
                have e2 : ((ls.take k).flatMap encE ++ encE l).map u8 = ((ls.take k).flatMap encE).map u8 ++ [Value.int .u8 (l.length : Int)] ++ l.map u8 := by
                  rw [u8_small _ (by omega)]
                  simp [encE]
                rw [e, e2, show ((ls.take k).flatMap encE ++ encE l).length = ((ls.take k).flatMap encE).length + 1 + l.length from by simp [encE]; omega]
                exact HR3.out
              · intro h
                exact HN2.out (HN3.out.1 h).1
              · by_cases hjk : j = k
                · subst hjk
                  rw [HK.out] at hl'
                  cases hl'
                  omega
                · exact HS.out j l' (by omega) hl'
            case measure => simp [intOf]; omega
        · have ht : ls.take k = ls := List.take_of_length_le (by omega)
          have hb := bundle_some (ls := ls) h0 (by omega) (fun j l hj => HS.out j l (by have := (List.getElem?_eq_some_iff.1 hj).1; omega) hj)
          have HH := HR.out
          rw [ht] at HH
          go_wp2
          go_ret
          exact ⟨_, rfl, HB.out, .inr ⟨_, hb, ownsRow_bytes HH, ne_nil_slice HH (HN.out.resolve_left (by omega))⟩⟩
end Go.Proofs.YtefccfakhgdfbabGreatDoor
end
