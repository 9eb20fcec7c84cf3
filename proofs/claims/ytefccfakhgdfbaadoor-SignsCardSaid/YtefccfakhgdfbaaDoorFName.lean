/- The walk of files.Name, tiles.Name, plain.Name. -/
import Derived.Test.YtefccfakhgdfbaaDoorRName
import Derived.Test.YtefccfakhgdfbaaDoorShelf
namespace Go.Proofs.YtefccfakhgdfbaaDoor
open Go.RowKit
/-- What the numerals' functions read of the world. -/
structure NumEnv (w : World) : Prop where
  tab : Lib.TabIs Tryd.prog w "internal/strconv.uint64pow10" .u64 Lib.pow10Tab
  most : ∃ m, w.cell? ⟨10, 0, none⟩ = some (.int .i64 m)
  esyn : ∃ ev, w.cell? ⟨8, 0, none⟩ = some ev ∧ (ev = .nilIface ∨ ∃ te pe, ev = .iface te pe)
  erng : ∃ ev, w.cell? ⟨9, 0, none⟩ = some ev ∧ (ev = .nilIface ∨ ∃ te pe, ev = .iface te pe)
theorem tab_below {w w' : World} {name : String} {k : IntKind} {zs : List Int} (h : Lib.TabIs Tryd.prog w name k zs) (hb : Below w.heap.size w w') : Lib.TabIs Tryd.prog w' name k zs := by
  unfold Lib.TabIs World.var? at *
  cases hg : Tryd.prog.globalNamed name with
  | none => simp [hg] at h
  | some g =>
    simp only [hg, Option.bind_some] at h ⊢
    have hlt : g < w.heap.size := by
      rcases Nat.lt_or_ge g w.heap.size with h' | h'
      · exact h'
      · rw [Array.getElem?_eq_none h'] at h; simp at h
    rw [hb.block g hlt]
    exact h
theorem NumEnv.below {w w' : World} (h : NumEnv w) (hb : Below w.heap.size w w') : NumEnv w' := by
  obtain ⟨t, ⟨m, hm⟩, ⟨e1, h1, h1'⟩, ⟨e2, h2, h2'⟩⟩ := h
  exact ⟨tab_below t hb, ⟨m, (hb.cell (cell_lt hm)).trans hm⟩, ⟨e1, (hb.cell (cell_lt h1)).trans h1, h1'⟩, ⟨e2, (hb.cell (cell_lt h2)).trans h2, h2'⟩⟩
theorem below_grow {w : World} (os : Array Obj) (k : Nat) : Below w.heap.size w (Go.Sort.grow (w.drewN k) os) := by
  have h := below_drewN (Below.refl w.heap.size w) k
  exact ⟨h.os, h.tape, h.output, by simp [Go.Sort.grow], fun j hj => by rw [← h.block j hj]; simp [Go.Sort.grow, Array.getElem?_append, hj]⟩
theorem itoa_any (n : Nat) (w : World) (hn : n < 9223372036854775808) (h : NumEnv w) :
    Calls Tryd.prog 84 #[.int .i64 n] w fun e w' => e = .returned (.string (sOf (dec n))) ∧ Below w.heap.size w w' := by
  refine (Tryd.strconv_Itoa n (by omega) (by omega) w h.tab).mono ?_
  rintro e w' ⟨rfl, k, os, rfl⟩
  refine ⟨?_, below_grow os k⟩
  have : Lib.itoa (n : Int) = dec n := by unfold Lib.itoa; rw [if_neg (by omega), Int.toNat_natCast]
  rw [this]
set_option maxHeartbeats 4000000 in
set_option maxRecDepth 100000 in
theorem fname_any (l i wd : Int) (w : World) (hi : i < 9223372036854775808) (hE : NumEnv w) :
    Calls Tryd.prog 66 #[.int .i64 l, .int .i64 i, .int .i64 wd] w fun e w' => e = .returned (.string (sOf (nameOf l i wd))) ∧ Below w.heap.size w w' := by
  by_cases hok : nameOk l i wd
  · have hbody := nameOf_body hok
    obtain ⟨h1, h2, h3, h4, h5⟩ := hok
    have d1 : decide (l < -1) = false := decide_eq_false (by omega)
    have d2 : decide (20 < l) = false := decide_eq_false (by omega)
    have d3 : decide (i < 0) = false := decide_eq_false (by omega)
    have d4 : decide (wd < 1) = false := decide_eq_false (by omega)
    have d5 : decide (4 < wd) = false := decide_eq_false (by omega)
    obtain ⟨k, rfl⟩ : ∃ k : Nat, i = k := ⟨i.toNat, by omega⟩
    obtain ⟨x, rfl⟩ : ∃ x : Nat, wd = x := ⟨wd.toNat, by omega⟩
    have hk : (dec k).length ≤ 19 := dec_len19 (by omega)
    have hx : (dec x).length ≤ 19 := dec_len19 (by omega)
    have hkb : k < 9223372036854775808 := by omega
    have hxb : x < 9223372036854775808 := by omega
    unfold nameBody at hbody
    rw [Int.toNat_natCast, Int.toNat_natCast] at hbody
    by_cases hl : 0 ≤ l
    · obtain ⟨j, rfl⟩ : ∃ j : Nat, l = j := ⟨l.toNat, by omega⟩
      have hj : (dec j).length ≤ 19 := dec_len19 (by omega)
      have hjb : j < 9223372036854775808 := by omega
      rw [if_pos hl, Int.toNat_natCast] at hbody
      by_cases h4' : (x : Int) < 4
      · have d6 : decide ((x : Int) < 4) = true := decide_eq_true h4'
        have d7 : decide ((0 : Int) ≤ (j : Int)) = true := decide_eq_true hl
        rw [if_pos h4'] at hbody
        have HBody := Lib.hid hbody
        clear hbody
        have HE := Lib.hid hE
        clear hE
        go_enter Tryd.func66, Tryd.ntmps66
        go_wp2_with fail
        refine (itoa_any j _ hjb HE.out).mono ?_
        rintro e w1 ⟨rfl, hb1⟩
        have HE1 := HE.out.below hb1
        go_wp2_with fail
        refine (itoa_any k _ hkb HE1).mono ?_
        rintro e w2 ⟨rfl, hb2⟩
        have HE2 := HE1.below hb2
        go_wp2_with fail
        refine (itoa_any x _ hxb HE2).mono ?_
        rintro e w3 ⟨rfl, hb3⟩
        go_wp2
        go_ret
        refine ⟨?_, (hb1.trans (hb2.mono hb1.size)).trans (hb3.mono (Nat.le_trans hb1.size hb2.size))⟩
        rw [HBody.out]
        refine ret_str ?_
        apply ByteArray.ext
        simp [kT, kP]
      · have d6 : decide ((x : Int) < 4) = false := decide_eq_false h4'
        have d7 : decide ((0 : Int) ≤ (j : Int)) = true := decide_eq_true hl
        rw [if_neg h4'] at hbody
        have HBody := Lib.hid hbody
        clear hbody
        have HE := Lib.hid hE
        clear hE
        go_enter Tryd.func66, Tryd.ntmps66
        go_wp2_with fail
        refine (itoa_any j _ hjb HE.out).mono ?_
        rintro e w1 ⟨rfl, hb1⟩
        have HE1 := HE.out.below hb1
        go_wp2_with fail
        refine (itoa_any k _ hkb HE1).mono ?_
        rintro e w2 ⟨rfl, hb2⟩
        have HE2 := HE1.below hb2
        go_wp2
        go_ret
        refine ⟨?_, hb1.trans (hb2.mono hb1.size)⟩
        rw [HBody.out]
        refine ret_str ?_
        apply ByteArray.ext
        simp [kT]
    · rw [if_neg hl] at hbody
      have d7 : decide ((0 : Int) ≤ l) = false := decide_eq_false hl
      by_cases h4' : (x : Int) < 4
      · have d6 : decide ((x : Int) < 4) = true := decide_eq_true h4'
        rw [if_pos h4'] at hbody
        have HBody := Lib.hid hbody
        clear hbody
        have HE := Lib.hid hE
        clear hE
        go_enter Tryd.func66, Tryd.ntmps66
        go_wp2_with fail
        refine (itoa_any k _ hkb HE.out).mono ?_
        rintro e w2 ⟨rfl, hb2⟩
        have HE2 := HE.out.below hb2
        go_wp2_with fail
        refine (itoa_any x _ hxb HE2).mono ?_
        rintro e w3 ⟨rfl, hb3⟩
        go_wp2
        go_ret
        refine ⟨?_, hb2.trans (hb3.mono hb2.size)⟩
        rw [HBody.out]
        refine ret_str ?_
        apply ByteArray.ext
        simp [kE, kP]
      · have d6 : decide ((x : Int) < 4) = false := decide_eq_false h4'
        rw [if_neg h4'] at hbody
        have HBody := Lib.hid hbody
        clear hbody
        have HE := Lib.hid hE
        clear hE
        go_enter Tryd.func66, Tryd.ntmps66
        go_wp2_with fail
        refine (itoa_any k _ hkb HE.out).mono ?_
        rintro e w2 ⟨rfl, hb2⟩
        have HE2 := HE.out.below hb2
        go_wp2
        go_ret
        refine ⟨?_, hb2⟩
        rw [HBody.out]
        refine ret_str ?_
        apply ByteArray.ext
        simp [kE]
  · have hno : nameOf l i wd = [] := by unfold nameOf; rw [if_neg hok]
    rw [hno]
    have hway : (decide (l < -1) = true) ∨ (decide (l < -1) = false ∧ decide (20 < l) = true) ∨ (decide (l < -1) = false ∧ decide (20 < l) = false ∧ decide (i < 0) = true) ∨
        (decide (l < -1) = false ∧ decide (20 < l) = false ∧ decide (i < 0) = false ∧ decide (wd < 1) = true) ∨
        (decide (l < -1) = false ∧ decide (20 < l) = false ∧ decide (i < 0) = false ∧ decide (wd < 1) = false ∧ decide (4 < wd) = true) := by
      unfold nameOk at hok
      simp only [decide_eq_true_eq, decide_eq_false_iff_not]
      omega
    clear hok hno hE
    rcases hway with h | ⟨h, h'⟩ | ⟨h, h', h''⟩ | ⟨h, h', h'', h3⟩ | ⟨h, h', h'', h3, h4⟩
    all_goals
      go_enter Tryd.func66, Tryd.ntmps66
      go_wp2
      go_ret
      exact ⟨rfl, Below.refl _ _⟩
theorem tname_any (l i wd : Int) (w : World) (hi : i < 9223372036854775808) (hE : NumEnv w) :
    Calls Tryd.prog 44 #[.int .i64 l, .int .i64 i, .int .i64 wd] w fun e w' => e = .returned (.string (sOf (nameOf l i wd))) ∧ Below w.heap.size w w' := by
  have HE := Lib.hid hE
  clear hE
  go_enter Tryd.func44, Tryd.ntmps44
  go_wp2_with fail
  refine (fname_any l i wd _ hi HE.out).mono ?_
  rintro e w1 ⟨rfl, hb⟩
  go_wp2
  go_ret
  exact ⟨rfl, hb⟩
theorem pname_any (l i wd : Int) (w : World) (hi : i < 9223372036854775808) (hE : NumEnv w) :
    Calls Tryd.prog 20 #[.int .i64 l, .int .i64 i, .int .i64 wd] w fun e w' => e = .returned (.string (sOf (nameOf l i wd))) ∧ Below w.heap.size w w' := by
  have HE := Lib.hid hE
  clear hE
  go_enter Tryd.func20, Tryd.ntmps20
  go_wp2_with fail
  refine (tname_any l i wd _ hi HE.out).mono ?_
  rintro e w1 ⟨rfl, hb⟩
  go_wp2
  go_ret
  exact ⟨rfl, hb⟩
end Go.Proofs.YtefccfakhgdfbaaDoor
