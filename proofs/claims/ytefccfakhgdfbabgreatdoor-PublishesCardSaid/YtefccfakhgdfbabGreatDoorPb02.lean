/-
  The walks of plain.entries, plain.spoil.
  The walk of tileslaw.same.
  plain.Disk's find: the first file of a path (slices.IndexFunc with its literal).
  append onto a row that lives on: in which block the row lies behind it. No program is used.
  plain.Disk's set: a file is put, or its bytes are turned. Conditions: fewer than 2^40 files.
-/
import Derived.Test.YtefccfakhgdfbabGreatDoorPb01
import Derived.RegionTactic
import Derived.BigRegion
import Derived.Deep.QuietTactic
import Derived.BigQuiet
import Derived.WalkSmall
import Derived.WideShapes
import Derived.Deep.LoopGhost
import Derived.Shelf.Abstract
import Derived.Deep.RegionLaw
set_option linter.unusedVariables false
set_option linter.unusedSimpArgs false
section
namespace Go.Proofs.YtefccfakhgdfbabGreatDoor
open Go.RowKit

theorem info_bs : (Tryz.prog.info? 94).map (fun i => (i.zero, i.size, i.bytes)) = some (some (.slice none 0 0), 1, 24) := by kernel_rfl

end Go.Proofs.YtefccfakhgdfbabGreatDoor
end

section
namespace Go.Proofs.YtefccfakhgdfbabGreatDoor
open Go.RowKit
set_option maxHeartbeats 1000000 in
theorem same_any (v1 v2 : Value) (s1 s2 : List ByteArray) (w : World) (h1 : StrsAt w v1 s1) (h2 : StrsAt w v2 s2) (hn : s1.length ≤ 1048576) :
    Calls Tryz.prog 61 #[v1, v2] w fun e w' => e = .returned (.bool (decide (s1 = s2))) ∧ Below w.heap.size w w' := by
  obtain ⟨a1, c1, rfl, hcap1, hc1⟩ := h1
  obtain ⟨a2, c2, rfl, hcap2, hc2⟩ := h2
  by_cases hl : s1.length = s2.length
  · have hd : ((s1.length : Int) != (s2.length : Int)) = false := by rw [hl]; simp
    have H1 := Lib.hid hc1
    have H2 := Lib.hid hc2
    have HL := Lib.hid hl
    have hn2 : s2.length ≤ 1048576 := by omega
    clear hc1 hc2 hl
    go_enter Tryz.func61, Tryz.ntmps61
    go_wp2
    go_loopw [5] (fun i wr => ∃ (k n : Nat), k ≤ s1.length ∧ i = .int .i64 k ∧ wr = w.drewN n ∧ s1.take k = s2.take k) (fun i _ => s1.length - (intOf i).toNat)
    case atStart => exact ⟨0, 0, by omega, rfl, rfl, rfl⟩
    case round =>
      obtain ⟨k, nd, hk, rfl, rfl, heq⟩ := hrel
      have HEQ := Lib.hid heq
      clear heq
      by_cases hlt : k < s1.length
      · obtain ⟨x, hx⟩ : ∃ s, s1[k]? = some s := ⟨_, List.getElem?_eq_getElem hlt⟩
        obtain ⟨y, hy⟩ : ∃ s, s2[k]? = some s := ⟨_, List.getElem?_eq_getElem (by rw [← HL.out]; exact hlt)⟩
        obtain ⟨b1, off1, rfl, cell1⟩ := H1.out k (.string x) (by simp [hx])
        obtain ⟨b2, off2, rfl, cell2⟩ := H2.out k (.string y) (by simp [hy])
        have hlt2 : k < s2.length := by rw [← HL.out]; exact hlt
        have HX := Lib.hid hx
        have HY := Lib.hid hy
        have hk0 : (0 : Int) ≤ (k : Int) := by omega
        have hk1 : (k : Int) < (s1.length : Int) := by omega
        have hk2 : (k : Int) < (s2.length : Int) := by omega
        clear hx hy
        go_wp2
        go_quiet (fail)
        go_wp2
        · have hne : (!x.toList == y.toList) = true := by assumption
          go_ret
          refine ⟨ret_bool ?_, below_drewN (below_drewN (Below.refl _ _) _) _⟩
          rw [eq_comm, decide_eq_false_iff_not]
          rintro rfl
          have := HX.out
          rw [HY.out] at this
          cases this
          simp at hne
        · have hne : (!x.toList == y.toList) = false := by assumption
          have hxy : x = y := by
            rw [ByteArray.toList_eq, ByteArray.toList_eq] at hne
            exact Go.WideShapes.bytes_inj (by simpa using hne)
          subst hxy
          go_roundw
          case rel => exact ⟨k + 1, _, by omega, by go_num, rfl, by rw [List.take_add_one, List.take_add_one, HEQ.out, HX.out, HY.out]⟩
          case measure => simp [intOf]; omega
      · go_wp2
        go_ret
        have e1 : s1.take k = s1 := List.take_of_length_le (by omega)
        have e2 : s2.take k = s2 := List.take_of_length_le (by rw [← HL.out]; omega)
        exact ⟨ret_bool (by rw [eq_comm, decide_eq_true_eq, ← e1, ← e2]; exact HEQ.out), below_drewN (Below.refl _ _) _⟩
  · have hd : ((s1.length : Int) != (s2.length : Int)) = true := by rw [bne_iff_ne]; omega
    clear hc1 hc2
    go_enter Tryz.func61, Tryz.ntmps61
    go_wp2
    go_ret
    exact ⟨ret_bool (by rw [eq_comm, decide_eq_false_iff_not]; intro h; exact hl (by rw [h])), Below.refl _ _⟩
theorem run_bs {w : World} {v : Value} {l : List UInt8} (hb : BytesAt w v l) : Sem.run Tryz.prog (convert 94 9 v) w = .ok (.string ⟨l.toArray⟩) w := by
  obtain ⟨ad, c, rfl, _, hc⟩ := hb
  cases l with
  | nil =>
    have h := run_convert_bytes_string (P := Tryz.prog) w 94 9 5 ad 0 c Tryz.underlying94 Tryz.underlying5 Tryz.underlying9
    rw [show ([] : List UInt8).length = 0 from rfl, h]
    cases ad <;> simp [Conv.bytesToString, loadCells, loadCellsFrom] <;> rfl
  | cons x l =>
    obtain ⟨b, off, rfl, _⟩ := hc 0 (u8 x) (by simp)
    refine run_convert_bytes_back w 94 9 5 ⟨b, off, none⟩ c (x :: l) Tryz.underlying94 Tryz.underlying5 Tryz.underlying9 fun j hj => ?_
    obtain ⟨b', off', heq, hcell⟩ := hc j (u8 (x :: l)[j]) (by rw [List.getElem?_map, List.getElem?_eq_getElem hj]; rfl)
    cases heq
    rw [Addr.add_lit]
    exact hcell
theorem u8_small (n : Nat) (h : n ≤ 255) : (Value.int .u8 (n : Int)) = u8 (UInt8.ofNat n) := by
  show _ = Value.int .u8 _
  rw [UInt8.toNat_ofNat']
  congr 1
  omega
/-- A list of bytes as a Go string. -/
abbrev sOf (l : List UInt8) : ByteArray := ⟨l.toArray⟩
theorem sOf_append (a b : List UInt8) : sOf a ++ sOf b = sOf (a ++ b) := by
  apply ByteArray.ext
  simp
theorem sOf_cons (x : UInt8) (r : List UInt8) : (ByteArray.mk #[x]) ++ sOf r = sOf (x :: r) := sOf_append [x] r
theorem beq_str_true {a b : ByteArray} (h : a = b) : (a.toList == b.toList) = true := by subst h; simp
theorem beq_str_false {a b : ByteArray} (h : a ≠ b) : (a.toList == b.toList) = false := by
  rw [beq_eq_false_iff_ne, ByteArray.toList_eq, ByteArray.toList_eq]
  intro e
  exact h (Go.WideShapes.bytes_inj e)
theorem sOf_self (s : ByteArray) : sOf s.data.toList = s := by
  apply ByteArray.ext
  simp
theorem sOf_size (l : List UInt8) : (sOf l).size = l.length := by simp [ByteArray.size]
theorem sOf_inj {a b : List UInt8} (h : sOf a = sOf b) : a = b := by
  have := congrArg (fun x => x.data.toList) h
  simpa using this
end Go.Proofs.YtefccfakhgdfbabGreatDoor
end

section
namespace Go.Proofs.YtefccfakhgdfbabGreatDoor
open Go.RowKit
/-- Where the first file of a path stands; how many there are: there is none. -/
def findN (l : List (ByteArray × ByteArray)) (p : ByteArray) : Nat := l.findIdx fun f => decide (f.1 = p)
def findF (l : List (ByteArray × ByteArray)) (p : ByteArray) : Int := if findN l p < l.length then findN l p else -1
theorem findN_hit {l : List (ByteArray × ByteArray)} {p : ByteArray} {k : Nat} {f : ByteArray × ByteArray} (hk : l[k]? = some f) (hf : f.1 = p)
    (h : ∀ j, j < k → ∀ y, l[j]? = some y → ¬ y.1 = p) : findF l p = k := by
  obtain ⟨hlt, rfl⟩ := List.getElem?_eq_some_iff.1 hk
  have e : findN l p = k := by
    unfold findN
    rw [List.findIdx_eq hlt]
    exact ⟨by simpa using hf, fun j hj => by
      have := h j hj _ (List.getElem?_eq_getElem (by omega))
      simpa using this⟩
  simp [findF, e, hlt]
theorem findN_miss {l : List (ByteArray × ByteArray)} {p : ByteArray} (h : ∀ j, j < l.length → ∀ y, l[j]? = some y → ¬ y.1 = p) : findF l p = -1 := by
  have e : findN l p = l.length := by
    unfold findN
    rw [List.findIdx_eq_length]
    intro x hx
    obtain ⟨j, hj, rfl⟩ := List.mem_iff_getElem.1 hx
    simpa using h j hj _ (List.getElem?_eq_getElem hj)
  simp [findF, e]
theorem beq_str (a b : ByteArray) : (a.toList == b.toList) = decide (a = b) := by
  by_cases h : a = b
  · rw [beq_str_true h]; simp [h]
  · rw [beq_str_false h]; simp [h]
set_option maxRecDepth 100000 in
theorem findLit_any (w : World) (pb : Nat) (p : ByteArray) (hp : w.cell? ⟨pb, 0, none⟩ = some (.string p)) (f : ByteArray × ByteArray) :
    Calls Tryz.prog 119 #[.agg #[.string f.1, .string f.2], .pointer (some ⟨pb, 0, none⟩)] w fun e w' => e = .returned (.bool (decide (f.1 = p))) ∧ Below w.heap.size w w' := by
  have hb : pb < w.heap.size := cell_lt hp
  obtain ⟨f1, f2⟩ := f
  have e := beq_str f1 p
  go_enter Tryz.func119, Tryz.ntmps119
  go_wp2
  go_ret
  exact ⟨rfl, below_alloc w _⟩
set_option maxRecDepth 100000 in
set_option maxHeartbeats 1000000 in
theorem indexFind_any (w : World) (v : Value) (l : List (ByteArray × ByteArray)) (pb : Nat) (p : ByteArray) (hv : w.ownsRow 0 73 2 v l.length (fileRow l)) (hp : w.cell? ⟨pb, 0, none⟩ = some (.string p)) :
    Calls Tryz.prog 118 #[v, .func (.func 119) #[] #[.pointer (some ⟨pb, 0, none⟩)]] w fun e w' => e = .returned (.int .i64 (findF l p)) ∧ Below w.heap.size w w' := by
  have eg : ∀ args w, (callFunc 119 args).run Tryz.prog w = .ok (.enter 119 args) w := enters_of Tryz.func119 (by kernel_rfl) rfl
  obtain ⟨a, c, rfl, hc⟩ : ∃ a c, v = .slice a l.length c ∧ ∀ j x, l[j]? = some x → ∃ b, a = some ⟨b, 0, none⟩ ∧ w.cell? ⟨b, j * 2, none⟩ = some (.string x.1) ∧ w.cell? ⟨b, j * 2 + 1, none⟩ = some (.string x.2) ∧ b < w.heap.size := by
    rcases hv.2 with ⟨rfl, h0⟩ | ⟨b, cap, cur, rfl, _, hb, _, _, _, ht⟩
    · exact ⟨none, 0, by rw [h0], fun j x hj => by have := (List.getElem?_eq_some_iff.1 hj).1; omega⟩
    · refine ⟨some ⟨b, 0, none⟩, cap, rfl, fun j x hj => ⟨b, rfl, ?_, ?_, lt_of_heap hb⟩⟩
      · have h1 := (fileRow_at l j x hj).1
        rw [← ht] at h1
        rw [cell_of_row w b _ cur _ _ hb]
        have h2 := List.getElem?_take_of_lt (l := cur.toList) (i := j * 2) (j := l.length * 2) (by have := (List.getElem?_eq_some_iff.1 hj).1; omega)
        rw [h2] at h1
        simpa using h1
      · have h1 := (fileRow_at l j x hj).2
        rw [← ht] at h1
        rw [cell_of_row w b _ cur _ _ hb]
        have h2 := List.getElem?_take_of_lt (l := cur.toList) (i := j * 2 + 1) (j := l.length * 2) (by have := (List.getElem?_eq_some_iff.1 hj).1; omega)
        rw [h2] at h1
        simpa using h1
  have hmax : l.length ≤ 9223372036854775807 := by
    rcases hv.2 with ⟨_, h0⟩ | ⟨_, _, _, _, _, _, h1, h2, _⟩
    · omega
    · unfold maxLen at h2; omega
  have HC := Lib.hid hc
  have HP := Lib.hid hp
  clear hc hv hp
  go_enter Tryz.func118, Tryz.ntmps118
  go_wp2
  go_loopg [5, 8] l.length (fun gg _ s8 wr => ∃ kk : Nat, kk ≤ l.length ∧ l.length - kk ≤ gg ∧ s8 = .int .i64 kk ∧ Aside (Below w.heap.size w wr) ∧ Aside (∀ j, j < kk → ∀ y, l[j]? = some y → ¬ y.1 = p))
  case atStart => exact ⟨0, Nat.zero_le _, by omega, rfl, Below.refl _ w, fun j hj => absurd hj (Nat.not_lt_zero _)⟩
  case round =>
    obtain ⟨kk, hkk, hg, rfl, BW, A⟩ := hrel
    by_cases hlt : kk < l.length
    · obtain ⟨b, rfl, c1, c2, hb⟩ := HC.out kk _ (List.getElem?_eq_getElem hlt)
      obtain ⟨x, hx⟩ : ∃ x, x = l[kk] := ⟨_, rfl⟩
      rw [← hx] at c1 c2
      have hlx : l[kk]? = some x := by rw [hx, List.getElem?_eq_getElem hlt]
      have d1 : wr.cell? ⟨b, kk * 2, none⟩ = some (.string x.1) := (BW.out.cell (p := ⟨b, kk * 2, none⟩) hb).trans c1
      have d2 : wr.cell? ⟨b, kk * 2 + 1, none⟩ = some (.string x.2) := (BW.out.cell (p := ⟨b, kk * 2 + 1, none⟩) hb).trans c2
      have hltz : (kk : Int) < (l.length : Int) := by omega
      have hcon := findLit_any wr pb p ((BW.out.cell (p := ⟨pb, 0, none⟩) (cell_lt HP.out)).trans HP.out) x
      have HX := Lib.hid hlx
      clear hx hlx c1 c2
      cases hq : decide (x.1 = p) with
      | true =>
        rw [hq] at hcon
        have HQ := Lib.hid hq
        clear hq
        go_wp2_with (go_at_fn 119; refine hcon.mono ?_; rintro e w' ⟨rfl, hb'⟩)
        go_ret
        exact ⟨ret_val (by rw [findN_hit HX.out (of_decide_eq_true HQ.out) A.out]; rfl), BW.out.trans (hb'.mono BW.out.size)⟩
      | false =>
        rw [hq] at hcon
        have HQ := Lib.hid hq
        clear hq
        go_wp2_with (go_at_fn 119; refine hcon.mono ?_; rintro e w' ⟨rfl, hb'⟩)
        go_roundg (l.length - (kk + 1))
        case measure => omega
        case rel =>
          refine ⟨kk + 1, by omega, by omega, by go_num, BW.out.trans (hb'.mono BW.out.size), (show Aside _ from fun j hj y hy => ?_)⟩
          by_cases e : j = kk
          · subst e
            rw [HX.out] at hy
            cases hy
            exact of_decide_eq_false HQ.out
          · exact A.out j (by omega) y hy
    · have hltz : ¬ (kk : Int) < (l.length : Int) := by omega
      have : kk = l.length := by omega
      go_wp2
      go_ret
      exact ⟨ret_val (by rw [findN_miss (fun j hj => A.out j (by omega))]; rfl), BW.out⟩
set_option maxRecDepth 100000 in
theorem find_any (w : World) (g : Nat) (v : Value) (d : Dk) (h : DiskAt w g v d) (p : ByteArray) :
    Calls Tryz.prog 64 #[.pointer (some ⟨g, 0, none⟩), .string p] w fun e w' => e = .returned (.int .i64 (findF d.files p)) ∧ Below w.heap.size w w' := by
  obtain ⟨⟨c0, _⟩, _⟩ := h.cells
  have hg := h.lt
  have hcon := indexFind_any (w.alloc (.cells #[.string p] 9)) v d.files w.heap.size p ((h.below (below_alloc w _)).2) (by simp)
  clear h
  go_enter Tryz.func64, Tryz.ntmps64
  go_wp2_with (go_at_call 118; refine hcon.mono ?_; rintro e w' ⟨rfl, hb'⟩)
  go_ret
  exact ⟨rfl, (below_alloc w _).trans (hb'.mono (by simp))⟩
end Go.Proofs.YtefccfakhgdfbabGreatDoor
end

section
namespace Go.Proofs.YtefccfakhgdfbabGreatDoor
open Go.RowKit
/-- Where a row lies now: where it lay, or in a block that was not there. -/
def Moved (w : World) (v v' : Value) : Prop := ∀ k, v'.ownBlock = some k → v.ownBlock = some k ∨ w.heap.size ≤ k
theorem Moved.refl (w : World) (v : Value) : Moved w v v := fun _ h => .inl h
theorem Moved.trans {w w' : World} {a b c : Value} (h : Moved w a b) (k : Moved w' b c) (hs : w.heap.size ≤ w'.heap.size) : Moved w a c := fun i hi => by
  rcases k i hi with h1 | h1
  · exact h i h1
  · exact .inr (Nat.le_trans hs h1)
theorem own_slice {w : World} {base : Nat} {e : TypeId} {size : Nat} {v : Value} {n : Nat} {xs : List Value} (h : w.ownsRow base e size v n xs) (hne : v ≠ .slice none 0 0) : ∃ g cap, v = .slice (some ⟨g, 0, none⟩) n cap ∧ g < w.heap.size := by
  rcases h.2 with ⟨rfl, _⟩ | ⟨g, cap, cur, rfl, _, hg, _⟩
  · exact absurd rfl hne
  · exact ⟨g, cap, rfl, lt_of_heap hg⟩
theorem own_any {w : World} {base : Nat} {e : TypeId} {size : Nat} {v : Value} {n : Nat} {xs : List Value} (h : w.ownsRow base e size v n xs) : ∃ a cap, v = .slice a n cap := by
  rcases h.2 with ⟨rfl, rfl⟩ | ⟨g, cap, cur, rfl, _, hg, _⟩
  · exact ⟨_, _, rfl⟩
  · exact ⟨_, _, rfl⟩
theorem append_where {P : Program} (w : World) (base : Nat) (t ty e : TypeId) (i : TypeInfo) (z : Value) (size bytes : Nat) (ht : P.underlying t = some (.slice e)) (hi : P.info? e = some i) (hz : i.zero = some z)
    (hsize : i.size = size) (hby : i.bytes = bytes) (v : Value) (n : Nat) (xs : List Value) (hown : w.ownsRow base e size v n xs)
    (a : Addr) (m c : Nat) (news : List Value) (hl : news.length = m * size) (hnews : ∀ j u, news[j]? = some u → w.cell? (a.add j) = some u) (h1 : ∀ u ∈ news, u.oneCell' = true) (hm : 0 < m)
    (h63 : n + m ≤ maxLen) (hbytes : (n + m) * bytes ≤ 140737488355328) (v' : Value) (w' : World)
    (hr : (Builtin.append_ #[t, t] ty #[v, .slice (some a) m c]).run P w = .ok v' w') : Moved w v v' := by
  subst hsize
  subst hby
  have hsmall : n + m ≤ 9223372036854775807 := by simp only [maxLen] at h63; omega
  rcases hown.2 with ⟨rfl, rfl⟩ | ⟨g, cap, cur, rfl, hbg, hg, hnc, hcm, hcs, htake⟩
  · have hr' := run_append_nil (P := P) w t ty e i z ht hi hz a m c news hl hnews (by omega) (by omega) (by have hb := hbytes; simp only [Nat.zero_add] at hb; omega)
    rw [hr] at hr'
    cases hr'
    intro k hk
    simp [Value.ownBlock] at hk
    exact .inr (by omega)
  · by_cases hroom : n + m ≤ cap
    · have hfit : n * i.size + news.length ≤ cur.size := by rw [hl, hcs, ← Nat.add_mul]; exact Nat.mul_le_mul_right _ hroom
      have hr' := run_append_room (P := P) w t ty e i ht hi g n cap cur hg a m c news hl hnews h1 hroom hfit
      rw [hr] at hr'
      cases hr'
      intro k hk
      exact .inl hk
    · have holds : ∀ j u, xs[j]? = some u → w.cell? ((⟨g, 0, none⟩ : Addr).add j) = some u := hown.cells (g := g) rfl
      have hr' := run_append_grow (P := P) w t ty e i z ht hi hz ⟨g, 0, none⟩ n cap xs hown.1 holds a m c news hl hnews (by omega) (by omega) (growslice_fits (by omega) hbytes)
      rw [hr] at hr'
      cases hr'
      intro k hk
      simp [Value.ownBlock] at hk
      exact .inr (by omega)
/-- append(s, x...), x's elements some cells that are there: what the row reads as, what may have turned, where it lies. -/
theorem wpList_appM {P : Program} {ops : Array Oper} {rest : List Oper} {o : Oper} {a : Act} {Q : Exit → Act → World → Prop} {w : World} (hgd : o.guard = none) (s x : Operand) (t : TypeId)
    (ho : o.op = .call { callee := .builtin .append, args := #[s, x], argTypes := #[t, t] })
    (base : Nat) (e : TypeId) (i : TypeInfo) (z : Value) (size bytes : Nat) (ht : P.underlying t = some (.slice e)) (hi : P.info? e = some i) (hz : i.zero = some z)
    (hsize : i.size = size) (hby : i.bytes = bytes) (hzs : z.cells.size = size) (hsz : 0 < size) (hbb : bytes ≤ 64)
    (v : Value) (n : Nat) (xs : List Value) (hs : a.eval s = v) (hown : w.ownsRow base e size v n xs)
    (ad : Addr) (m c : Nat) (news : List Value) (hx : a.eval x = .slice (some ad) m c) (hl : news.length = m * size) (hnews : ∀ j u, news[j]? = some u → w.cell? (ad.add j) = some u) (h1 : ∀ u ∈ news, u.oneCell' = true) (hm : 0 < m)
    (hn : n + m ≤ 1099511627776) (hbase : base ≤ w.heap.size)
    (h : ∀ v' w', w'.ownsRow base e size v' (n + m) (xs ++ news) → w.grownBy w' v.ownBlock → Moved w v v' → v' ≠ .slice none 0 0 → wpList P ops Q rest (a.put o.dst v') w') :
    wpList P ops Q (o :: rest) a w := by
  have hbyt : (n + m) * bytes ≤ 140737488355328 := by
    refine Nat.le_trans (Nat.mul_le_mul_left _ hbb) ?_
    omega
  have h63 : n + m ≤ maxLen := by unfold maxLen; omega
  obtain ⟨v', w', hr, h2, h3, h4⟩ := run_append_own (P := P) w base t o.type e i z size bytes ht hi hz hsize hby hzs hsz v n xs hown ad m c news hl hnews h1 h63 hbyt hbase
  have hk := append_where (P := P) w base t o.type e i z size bytes ht hi hz hsize hby v n xs hown ad m c news hl hnews h1 hm h63 hbyt v' w' hr
  refine wpList_plain hgd fun K hK => ?_
  unfold Oper.wp execOp
  simp only [ho, resolve, invoke, builtin, Sem.run_bind, Sem.run_pure, Result.andThen_ok, List.map_toArray, List.map_cons, List.map_nil, hs, hx, hr]
  exact hK _ _ (h v' w' h2 h3 hk (fun e => by have := (h4.1 e).2; omega))
/-- The same as one step of a region that draws. -/
theorem step_appM {P : Program} {ops : Array Oper} {o : Oper} {a : Act} {w : World} {K : Act → World → Prop} {Q : Exit → Act → World → Prop} {E : Prop} (hg : o.guard = none) (s x : Operand) (t : TypeId)
    (ho : o.op = .call { callee := .builtin .append, args := #[s, x], argTypes := #[t, t] })
    (base : Nat) (e : TypeId) (i : TypeInfo) (z : Value) (size bytes : Nat) (ht : P.underlying t = some (.slice e)) (hi : P.info? e = some i) (hz : i.zero = some z)
    (hsize : i.size = size) (hby : i.bytes = bytes) (hzs : z.cells.size = size) (hsz : 0 < size) (hbb : bytes ≤ 64)
    (v : Value) (n : Nat) (xs : List Value) (hs : a.eval s = v) (hown : w.ownsRow base e size v n xs)
    (ad : Addr) (m c : Nat) (news : List Value) (hx : a.eval x = .slice (some ad) m c) (hl : news.length = m * size) (hnews : ∀ j u, news[j]? = some u → w.cell? (ad.add j) = some u) (h1 : ∀ u ∈ news, u.oneCell' = true) (hm : 0 < m)
    (hn : n + m ≤ 1099511627776) (hbase : base ≤ w.heap.size)
    (h : ∀ v' w', w'.ownsRow base e size v' (n + m) (xs ++ news) → w.grownBy w' v.ownBlock → Moved w v v' → v' ≠ .slice none 0 0 → K (a.put o.dst v') w') :
    if Region.wanted o (yielded ops a.tmps) = true then Oper.wp P o a w K Q else E := by
  have hw : Region.wanted o (yielded ops a.tmps) = true := by simp [Region.wanted, hg]
  rw [if_pos hw]
  have hbyt : (n + m) * bytes ≤ 140737488355328 := by
    refine Nat.le_trans (Nat.mul_le_mul_left _ hbb) ?_
    omega
  have h63 : n + m ≤ maxLen := by unfold maxLen; omega
  obtain ⟨v', w', hr, h2, h3, h4⟩ := run_append_own (P := P) w base t o.type e i z size bytes ht hi hz hsize hby hzs hsz v n xs hown ad m c news hl hnews h1 h63 hbyt hbase
  have hk := append_where (P := P) w base t o.type e i z size bytes ht hi hz hsize hby v n xs hown ad m c news hl hnews h1 hm h63 hbyt v' w' hr
  unfold Oper.wp execOp
  simp only [ho, resolve, invoke, builtin, Sem.run_bind, Sem.run_pure, Result.andThen_ok, List.map_toArray, List.map_cons, List.map_nil, hs, hx, hr]
  exact h v' w' h2 h3 hk (fun e => by have := (h4.1 e).2; omega)
end Go.Proofs.YtefccfakhgdfbabGreatDoor
end

section
namespace Go.Proofs.YtefccfakhgdfbabGreatDoor
open Go.RowKit
def putF (l : List (ByteArray × ByteArray)) (p b : ByteArray) : List (ByteArray × ByteArray) := if findN l p < l.length then l.set (findN l p) (p, b) else l ++ [(p, b)]
theorem infoF : (Tryz.prog.info? 73).map (fun i => (i.zero, i.size, i.bytes)) = some (some (.agg #[.string ⟨#[]⟩, .string ⟨#[]⟩]), 2, 32) := by kernel_rfl
theorem info_fileE : ∃ i, Tryz.prog.info? 73 = some i ∧ i.zero = some (.agg #[.string ⟨#[]⟩, .string ⟨#[]⟩]) ∧ i.size = 2 ∧ i.bytes = 32 := by
  have h := infoF
  cases hi : Tryz.prog.info? 73 with
  | none => rw [hi] at h; simp at h
  | some i => rw [hi] at h; simp at h; exact ⟨i, rfl, h.1, h.2.1, h.2.2⟩
theorem fileRow_snoc (l : List (ByteArray × ByteArray)) (f : ByteArray × ByteArray) : fileRow (l ++ [f]) = fileRow l ++ [.string f.1, .string f.2] := by simp [fileRow, fileCells]
theorem fileRow_set : ∀ (l : List (ByteArray × ByteArray)) (j : Nat) (f : ByteArray × ByteArray) (b : ByteArray), l[j]? = some f → (fileRow l).set (j * 2 + 1) (.string b) = fileRow (l.set j (f.1, b))
  | [], j, f, b, h => by simp at h
  | a :: l, 0, f, b, h => by simp at h; subst h; rfl
  | a :: l, j + 1, f, b, h => by
      have ih := fileRow_set l j f b (by simpa using h)
      have e : ∀ a l, (fileRow (a :: l)) = .string a.1 :: .string a.2 :: fileRow l := fun _ _ => rfl
      rw [List.set_cons_succ, e, e, ← ih, show (j + 1) * 2 + 1 = j * 2 + 1 + 1 + 1 by omega]
      rfl
theorem findF_lt {l : List (ByteArray × ByteArray)} {p : ByteArray} (h : 0 ≤ findF l p) : findN l p < l.length ∧ findF l p = findN l p := by
  unfold findF at h ⊢
  split at h
  · rename_i hh
    exact ⟨hh, by rw [if_pos hh]⟩
  · omega
theorem findN_path {l : List (ByteArray × ByteArray)} {p : ByteArray} (h : findN l p < l.length) : (l[findN l p]'h).1 = p := by
  have := List.findIdx_getElem (xs := l) (p := fun (f : ByteArray × ByteArray) => decide (f.1 = p)) (w := h)
  exact of_decide_eq_true this
theorem cells2_new (w : World) (x y : Value) (t : TypeId) (n : Nat) (hn : n = w.heap.size) : ∀ (j : Nat) (u : Value), [x, y][j]? = some u → (w.alloc (.cells #[x, y] t)).cell? ((⟨n, 0, none⟩ : Addr).add j) = some u := by
  intro j u hu
  rw [Addr.add_lit, World.cell?_alloc_at _ _ _ _ hn]
  simpa using hu
set_option maxRecDepth 100000 in
set_option maxHeartbeats 2000000 in
theorem set_any (w : World) (g : Nat) (v : Value) (d : Dk) (h : DiskAt w g v d) (p : ByteArray) (dv : Value) (b : List UInt8) (hdv : BytesAt w dv b) (hn : d.files.length < 1099511627776) :
    Calls Tryz.prog 253 #[.pointer (some ⟨g, 0, none⟩), .string p, dv] w fun e w' => e = .returned (.tuple #[]) ∧
      ∃ v', DiskAt w' g v' { d with files := putF d.files p ⟨b.toArray⟩ } ∧ Fr (dkS g v) w w' ∧ Moved w v v' := by
  have hcon := find_any w g v d h p
  have HH := Lib.hid h
  have HD := Lib.hid hdv
  have hg := h.lt
  obtain ⟨⟨c0, _⟩, f0⟩ := h.cells
  clear h hdv
  by_cases hf : findN d.files p < d.files.length
  · have hF : findF d.files p = findN d.files p := by unfold findF; rw [if_pos hf]
    rw [hF] at hcon
    obtain ⟨j, hj⟩ : ∃ j, j = findN d.files p := ⟨_, rfl⟩
    rw [← hj] at hcon hf
    obtain ⟨bk, cap, cur, rfl, hbk, hcs, htk⟩ : ∃ bk cap cur, v = .slice (some ⟨bk, 0, none⟩) d.files.length cap ∧ w.heap[bk]? = some (.cells cur 73 (0, 0)) ∧ d.files.length * 2 ≤ cur.size ∧ cur.toList.take (d.files.length * 2) = fileRow d.files := by
      rcases HH.out.2.2 with ⟨_, h0⟩ | ⟨bk, cap, cur, rfl, _, hb, hnc, _, hcs, ht⟩
      · omega
      · exact ⟨bk, cap, cur, rfl, hb, by rw [hcs]; exact Nat.mul_le_mul_right _ hnc, ht⟩
    have hjz : (0 : Int) ≤ (j : Int) := by omega
    have hjl : (j : Int) < (d.files.length : Int) := by omega
    have hbg : bk ≠ g := fun e => HH.out.parts (by simp [Value.ownBlock, e])
    have hbl : bk < w.heap.size := lt_of_heap hbk
    have HBK := Lib.hid hbk
    have HJ := Lib.hid hj
    obtain ⟨x, hx⟩ : ∃ x, x = d.files[j]'hf := ⟨_, rfl⟩
    have hxj : d.files[j]? = some x := by rw [hx, List.getElem?_eq_getElem hf]
    have hce : w.cell? ⟨bk, j * 2 + 1, none⟩ = some (.string x.2) := by
      have h1 := (fileRow_at _ j x hxj).2
      rw [← htk] at h1
      rw [cell_of_row w bk _ cur _ _ hbk]
      rw [List.getElem?_take_of_lt (by omega)] at h1
      simpa using h1
    have HCE := Lib.hid hce
    have HFE := Lib.hid (frozen_heap hbk (j * 2 + 1))
    have HXJ := Lib.hid hxj
    have HTK := Lib.hid htk
    clear hj hF hbk htk hce hx hxj
    go_enter Tryz.func253, Tryz.ntmps253
    go_wp2_with (go_at_call 64; refine hcon.mono ?_; rintro e w1 ⟨rfl, hb1⟩; have HB1 := Lib.hid hb1; have k0 := (hb1.cell (p := ⟨g, 0, none⟩) hg).trans c0; have k1 := (hb1.cell (p := ⟨bk, j * 2 + 1, none⟩) hbl).trans HCE.out; have k2 := (hb1.frozen (p := ⟨bk, j * 2 + 1, none⟩) hbl).trans HFE.out; have hcv := run_bs (w := w1.drew) (HD.out.below (hb1.trans ((below_drew w1).mono hb1.size))); clear hb1)
    go_region
    go_wp2
    go_end0
    have B1 := HB1.out
    refine ⟨rfl, _, ⟨heap_setCell' (p := ⟨bk, j * 2 + 1, none⟩) ((B1.block g hg).trans HH.out.1) (fun e => hbg e.symm) _, ?_⟩, (Fr.ofBelow B1).trans ((Fr.setCell1 w1 ⟨bk, j * 2 + 1, none⟩ _).weak fun k _ hk => .inr (by rw [hk]; rfl)) |>.drew, Moved.refl _ _⟩
    have hput : putF d.files p ⟨b.toArray⟩ = d.files.set j (p, ⟨b.toArray⟩) := by unfold putF; rw [if_pos (by rw [← HJ.out]; exact hf), ← HJ.out]
    have hxp : x.1 = p := by
      have h1 := findN_path (l := d.files) (p := p) (by rw [← HJ.out]; exact hf)
      have h2 := HXJ.out
      rw [HJ.out, List.getElem?_eq_getElem (by rw [← HJ.out]; exact hf)] at h2
      rw [← Option.some.inj h2]; exact h1
    show World.ownsRow _ 0 73 2 _ (putF d.files p ⟨b.toArray⟩).length (fileRow (putF d.files p ⟨b.toArray⟩))
    rw [hput, List.length_set]
    refine ⟨by rw [fileRow_length, List.length_set], .inr ⟨bk, cap, _, rfl, Nat.zero_le _, heap_setCell ((B1.block bk hbl).trans HBK.out) _, ?_⟩⟩
    rcases HH.out.2.2 with ⟨e, _⟩ | ⟨bk', cap', cur', e, _, hb, hnc, hcm, hcz, ht⟩
    · cases e
    · cases e
      rw [HBK.out] at hb
      cases hb
      refine ⟨hnc, hcm, by simpa using hcz, ?_⟩
      rw [Array.toList_setIfInBounds, List.take_set, HTK.out, ← hxp]
      exact fileRow_set _ j x _ HXJ.out
  · have hF : findF d.files p = -1 := by unfold findF; rw [if_neg hf]
    rw [hF] at hcon
    have hjz : ¬ (0 : Int) ≤ (-1 : Int) := by omega
    obtain ⟨i, hi, hz, hs, hby⟩ := info_fileE
    have HI := Lib.hid (⟨hi, hz, hs, hby⟩ : _ ∧ _ ∧ _ ∧ _)
    clear hi hz hs hby hF
    go_enter Tryz.func253, Tryz.ntmps253
    go_wp2_with (go_at_call 64; refine hcon.mono ?_; rintro e w1 ⟨rfl, hb1⟩; have HB1 := Lib.hid hb1; have k0 := (hb1.cell (p := ⟨g, 0, none⟩) hg).trans c0; have hg1 : g < w1.heap.size := Nat.lt_of_lt_of_le hg hb1.size; have hcv := run_bs (w := w1.drew) (HD.out.below (hb1.trans ((below_drew w1).mono hb1.size))); clear hb1)
    go_region_law (refine step_appM rfl _ _ _ rfl 0 73 i _ 2 32 Tryz.underlying39 HI.out.1 HI.out.2.1 HI.out.2.2.1 HI.out.2.2.2 rfl (by decide) (by decide) v d.files.length (fileRow d.files) rfl (ownsRow_below HH.out.2 (HB1.out.trans (((below_drew w1).alloc (Nat.le_refl _) _).mono HB1.out.size))) ⟨w1.heap.size, 0, none⟩ 1 1 [.string p, .string ⟨b.toArray⟩] rfl rfl (cells2_new _ _ _ _ _ rfl) (by simp [Value.oneCell']) (by decide) (by omega) (Nat.zero_le _) ?_; intro v' w' h2 h3 h4 h5; obtain ⟨gb, cp, rfl, hgb⟩ := own_slice h2 h5; have H2 := Lib.hid h2; have H3 := Lib.hid ((Fr.ofBelow (S := fun k => v.ownBlock = some k) (HB1.out.trans (((below_drew w1).alloc (Nat.le_refl _) _).mono HB1.out.size))).trans (Fr.ofGrown h3 fun k _ e => e)); have H4 := Lib.hid ((Moved.refl w v).trans h4 (Nat.le_trans HB1.out.size (by simp))); have k3 := H3.out.cell c0 HH.out.parts; have k4 := (H3.out.frozen (p := ⟨g, 0, none⟩) hg HH.out.parts).trans (f0 0); clear h2 h3 h4 h5)
    all_goals (
      go_wp2
      go_end0
      have hput : putF d.files p ⟨b.toArray⟩ = d.files ++ [(p, ⟨b.toArray⟩)] := by unfold putF; rw [if_neg hf]
      have hgw := H3.out.heap HH.out.1 HH.out.parts
      have hne : gb ≠ g := by
        rintro rfl
        rcases H2.out.2 with ⟨e, _⟩ | ⟨bk, cap', cur', e, _, hb, _⟩
        · cases e
        · cases e
          rw [hgw] at hb
          simp at hb
      refine ⟨rfl, _, ⟨(heap_setCell hgw _).trans (by simp [dkCells]), ?_⟩, (H3.out.weak fun k _ hk => .inr hk).trans ((Fr.setCell1 w' ⟨g, 0, none⟩ _).weak fun k _ hk => .inl hk), H4.out⟩
      show World.ownsRow _ 0 73 2 _ (putF d.files p ⟨b.toArray⟩).length (fileRow (putF d.files p ⟨b.toArray⟩))
      rw [hput, List.length_append, fileRow_snoc]
      exact ownsRow_fr H2.out (Fr.setCell1 w' ⟨g, 0, none⟩ _) fun k hk e => by
        simp [Value.ownBlock] at hk
        exact hne (hk.trans e))
end Go.Proofs.YtefccfakhgdfbabGreatDoor
end
