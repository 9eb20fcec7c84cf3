/- The walk of merkle.Whole's closure: the root of the entries from lo to hi. -/
import Derived.Test.YtefccfakhgdfbaaDoorEnt
import Derived.Test.YtefccfakhgdfbaaDoorSplit
import Derived.Test.YtefccfakhgdfbaaDoorWholePlain
import Derived.Deep.RegionWith
namespace Go.Proofs.YtefccfakhgdfbaaDoor
open Go.RowKit
section
attribute [local go_sem] h8_0 h8_1 h8_2 h8_3 h8_4 h8_5 h8_6 h8_7 h8_fold h8_size run_store8
set_option maxHeartbeats 2000000 in
theorem whole1_any (f : Nat) : ∀ (i n : Nat) (lo hi : Int) (e1 e3 g1 g3 : Nat) (v : Value) (ls : List (List UInt8)) (w : World), lo = i → hi = i + n → n ≤ f → 1 ≤ n → i + n ≤ ls.length → ls.length ≤ 1048576 → (∀ l ∈ ls, l.length ≤ 9223372036854775807) →
    w.cell? ⟨e1, 0, none⟩ = some v → w.cell? ⟨e3, 0, none⟩ = some (.func (.func 72) #[] #[.pointer (some ⟨e1, 0, none⟩), .pointer (some ⟨e3, 0, none⟩)]) → BssAt w v ls →
    w.cell? ⟨g1, 0, none⟩ = some (.func (.func 72) #[] #[.pointer (some ⟨e1, 0, none⟩), .pointer (some ⟨e3, 0, none⟩)]) →
    w.cell? ⟨g3, 0, none⟩ = some (.func (.func 93) #[] #[.pointer (some ⟨g1, 0, none⟩), .pointer (some ⟨g3, 0, none⟩)]) →
    Calls Tryd.prog 93 #[.int .i64 lo, .int .i64 hi, .pointer (some ⟨g1, 0, none⟩), .pointer (some ⟨g3, 0, none⟩)] w fun e w' => e = .returned (.tuple #[.agg (h8 (rootOf ((ls.drop i).take n))), .nilIface]) ∧ Below w.heap.size w w' := by
  induction f with
  | zero => intros; omega
  | succ f ih =>
    intro i n lo hi e1 e3 g1 g3 v ls w hlo hhi hf h1 hin hl hs c1 c3 h d1 d3
    have hA := and_i64 n (n - 1) (by omega) (by omega)
    have hs1 : ((n - 1 : Nat) : Int) = hi - lo - 1 := by omega
    have hs0 : (n : Int) = hi - lo := by omega
    rw [hs1, hs0] at hA
    have hm : lo % (hi - lo) = ((i % n : Nat) : Int) := by
      rw [← hs0, hlo]; rfl
    have l0 : 0 ≤ lo := by omega
    have l1 : lo < hi := by omega
    have l2 : hi ≤ 1048576 := by omega
    by_cases hpr : n &&& (n - 1) = 0 ∧ i % n = 0
    · obtain ⟨hp, hr⟩ := hpr
      rw [hp] at hA
      · have tm : (lo % (hi - lo) == 0) = true := by rw [hm, hr]; rfl
        have ta : (bits .and .i64 (hi - lo) (hi - lo - 1) == 0) = true := by rw [hA]; rfl
        have hpw := pow_of_and h1 (by omega) hp
        obtain ⟨e, he⟩ : ∃ e, Lib.bitLen n = e + 1 := by
          refine ⟨Lib.bitLen n - 1, ?_⟩
          have := (Lib.bitLenAux_bounds 64 n (by omega) (by omega)).1
          have hb : Lib.bitLen n = Lib.bitLenAux 64 n := rfl
          omega
        rw [he, Nat.add_sub_cancel] at hpw
        have he40 : e ≤ 20 := by
          rcases Nat.lt_or_ge 20 e with hlt | hge
          · have := Nat.pow_le_pow_right (n := 2) (by decide) hlt
            omega
          · exact hge
        have HE := Lib.hid he
        have hr0 : decide (hi - lo = 0) = false := decide_eq_false (by omega)
        have hz : ((hi - lo) == 0) = false := by rw [beq_eq_false_iff_ne]; omega
        have hdiv : i / n * n = i := by have := Nat.div_add_mod i n; rw [hr] at this; rw [Nat.mul_comm]; omega
        have hq : (i / n + 1) * 2 ^ e ≤ ls.length := by rw [← hpw, Nat.add_mul, hdiv]; omega
        have hfull : fullRoot ls e (i / n) = rootOf ((ls.drop i).take n) := by
          rw [fullRoot_eq ls e (i / n) (by omega) hq, ← hpw, hdiv]
        have HF := Lib.hid hfull
        have HQ := Lib.hid hq
        have HH := Lib.hid h
        have HS' := Lib.hid hs
        have C1 := Lib.hid c1
        have C3 := Lib.hid c3
        have D3 := Lib.hid d3
        have IH := Lib.hid ih
        have HPW := Lib.hid hpw
        have gl := cell_lt d1
        have hdv := Lib.hid hdiv
        have HLO := Lib.hid hlo
        have HHI := Lib.hid hhi
        have HS0 := Lib.hid hs0
        clear hfull hq h hs c1 c3 d3 ih hpw hp hr hdiv he hs0 hs1 hA hm hlo hhi hz
        go_enter Tryd.func93, Tryd.ntmps93
        go_wp2_with fail
        refine (Tryd.bits_Len _ _ (by omega) (by omega)).mono ?_
        rintro e' w1 ⟨rfl, rfl⟩
        have ht : Lib.bitLen (hi - lo).toNat = e + 1 := by rw [← HE.out, ← HS0.out]; rfl
        rw [ht]
        clear ht
        go_wp2_with fail
        have b0 : Below w.heap.size w (w.alloc (.cells #[.int .u8 0, .int .u8 0, .int .u8 0, .int .u8 0, .int .u8 0, .int .u8 0, .int .u8 0, .int .u8 0] 62)).drew := (below_alloc w _).drew
        have k1 := (b0.cell (p := ⟨e1, 0, none⟩) (cell_lt C1.out)).trans C1.out
        have k3 := (b0.cell (p := ⟨e3, 0, none⟩) (cell_lt C3.out)).trans C3.out
        have K1 := Lib.hid k1
        have K3 := Lib.hid k3
        have HB := Lib.hid (HH.out.below b0)
        have B0 := Lib.hid b0
        have hsh : lo / 2 ^ e = ((i / n : Nat) : Int) := by rw [HLO.out, HPW.out]; simp
        have HSH := Lib.hid hsh
        clear hsh k1 k3 b0
        go_region_with (go_at_call 72; refine (ent1_any e (i / n) _ _ e1 e3 v ls _ rfl HSH.out (by omega) HQ.out hl HS'.out K1.out K3.out HB.out).mono ?_; rintro e' w1 ⟨rfl, hb1⟩; have hz : w.heap.size < w1.heap.size := (by have := hb1.size; simp at this; omega); have hI8 : Is8 w1 w.heap.size := ⟨zero8, hashOf_below (hashOf_drew (hashOf_zero' rfl)) hb1⟩; have B1 := Lib.hid (B0.out.trans (hb1.mono B0.out.size)); clear hb1)
        go_wp2
        obtain ⟨z, hz8⟩ := hI8
        refine ret8t w.heap.size (fullRoot ls e (i / n)) .nilIface rfl rfl rfl _ Tryd.underlying62 info8 (hashOf_set hz8 _) rfl ⟨by rw [HF.out], below_setRow B1.out (Nat.le_refl _) _⟩
    · have hcase : ((bits .and .i64 (hi - lo) (hi - lo - 1) == 0) = true ∧ (lo % (hi - lo) == 0) = false) ∨ (bits .and .i64 (hi - lo) (hi - lo - 1) == 0) = false := by
        by_cases hp : n &&& (n - 1) = 0
        · refine .inl ⟨by rw [hA, hp]; rfl, ?_⟩
          have hr : ¬ i % n = 0 := fun e => hpr ⟨hp, e⟩
          rw [hm, beq_eq_false_iff_ne]
          omega
        · refine .inr ?_
          rw [hA, beq_eq_false_iff_ne]
          omega
      have hn2 : 2 ≤ n := by
        rcases Nat.lt_or_ge n 2 with hlt | hge
        · obtain rfl : n = 1 := by omega
          exact absurd ⟨rfl, Nat.mod_one i⟩ hpr
        · exact hge
      have hr0 : decide (hi - lo = 0) = false := decide_eq_false (by omega)
      have hbd := below_lt hn2
      obtain ⟨k, hk⟩ : ∃ k, k = below n := ⟨_, rfl⟩
      have hpl : ((ls.drop i).take n).length = n := by rw [List.length_take, List.length_drop]; omega
      have hrt : rootOf ((ls.drop i).take n) = nodeH (rootOf ((ls.drop i).take k)) (rootOf ((ls.drop (i + k)).take (n - k))) := by
        rw [rootOf_more (by omega), hpl, ← hk, List.take_take, List.drop_take, List.drop_drop, Nat.min_eq_left (by omega)]
      rw [← hk] at hbd
      obtain ⟨x, hx⟩ : ∃ x, x = rootOf ((ls.drop i).take k) := ⟨_, rfl⟩
      obtain ⟨y, hy⟩ : ∃ y, y = rootOf ((ls.drop (i + k)).take (n - k)) := ⟨_, rfl⟩
      rw [← hx, ← hy] at hrt
      have I1 := Lib.hid (fun lo hi w e1' e2' => ih i k lo hi e1 e3 g1 g3 v ls w e1' e2' (by omega) (by omega) (by omega) hl hs)
      have I2 := Lib.hid (fun lo hi w e1' e2' => ih (i + k) (n - k) lo hi e1 e3 g1 g3 v ls w e1' e2' (by omega) (by omega) (by omega) hl hs)
      rw [← hx] at I1
      rw [← hy] at I2
      have hki : (k : Int) < hi - lo := by omega
      have hk1 : (1 : Int) ≤ k := by omega
      have HK := Lib.hid (show (below (hi - lo).toNat : Int) = k by rw [← hs0, Int.toNat_natCast, hk])
      have HLO := Lib.hid hlo
      have HHI := Lib.hid (show hi = ((i + k : Nat) : Int) + ((n - k : Nat) : Int) by omega)
      have HLK := Lib.hid (show lo + k = ((i + k : Nat) : Int) by omega)
      have HF := Lib.hid hrt
      have HH := Lib.hid h
      have C1 := Lib.hid c1
      have C3 := Lib.hid c3
      have D1 := Lib.hid d1
      have hb3 := cell_lt d3
      have hl2 : 2 ≤ hi - lo := by omega
      clear ih hs h hrt hx hy hpr hA hm hs0 hs1 hlo hhi hf h1 hin hl c1 c3 d1 hpl hk hbd hn2
      rcases hcase with ⟨ta, tm⟩ | ta
      all_goals
        go_enter Tryd.func93, Tryd.ntmps93
        go_wp2_with fail
        refine (split_any _ _ (by omega) (by omega)).mono ?_
        rintro e w0 ⟨rfl, rfl⟩
        rw [HK.out]
        go_wp2_with fail
        have b0 := below_alloc w (.cells #[.int .u8 0, .int .u8 0, .int .u8 0, .int .u8 0, .int .u8 0, .int .u8 0, .int .u8 0, .int .u8 0] 62)
        refine (I1.out lo (lo + k) _ HLO.out (by rw [HLO.out]) ((b0.cell (p := ⟨e1, 0, none⟩) (cell_lt C1.out)).trans C1.out) ((b0.cell (p := ⟨e3, 0, none⟩) (cell_lt C3.out)).trans C3.out) (HH.out.below b0) ((b0.cell (p := ⟨g1, 0, none⟩) (cell_lt D1.out)).trans D1.out) ((b0.cell (p := ⟨g3, 0, none⟩) hb3).trans d3)).mono ?_
        rintro e w1 ⟨rfl, hw1⟩
        have B1 := b0.trans (hw1.mono b0.size)
        have z1 : hashOf w1 w.heap.size zero8 := hashOf_below (hashOf_zero' rfl) hw1
        have s1 : w.heap.size + 1 ≤ w1.heap.size := by have := hw1.size; simpa using this
        have d3' := (B1.cell (p := ⟨g3, 0, none⟩) hb3).trans d3
        have hb3' := cell_lt d3'
        have BB1 := Lib.hid B1
        have D3 := Lib.hid d3
        clear b0 hw1 B1 d3
        have k1 : hashOf ((w1.alloc (.cells #[.int .u8 0, .int .u8 0, .int .u8 0, .int .u8 0, .int .u8 0, .int .u8 0, .int .u8 0, .int .u8 0] 62)).setRow w1.heap.size (h8 x)) w1.heap.size x := hashOf_set (hashOf_zero' rfl) _
        have k2 : Below w.heap.size w ((w1.alloc (.cells #[.int .u8 0, .int .u8 0, .int .u8 0, .int .u8 0, .int .u8 0, .int .u8 0, .int .u8 0, .int .u8 0] 62)).setRow w1.heap.size (h8 x)) := below_setRow (BB1.out.alloc BB1.out.size _) BB1.out.size _
        have k3 : hashOf ((w1.alloc (.cells #[.int .u8 0, .int .u8 0, .int .u8 0, .int .u8 0, .int .u8 0, .int .u8 0, .int .u8 0, .int .u8 0] 62)).setRow w1.heap.size (h8 x)) w.heap.size zero8 := hashOf_other (hashOf_old z1 _) _ (by omega)
        have k5 : ((w1.alloc (.cells #[.int .u8 0, .int .u8 0, .int .u8 0, .int .u8 0, .int .u8 0, .int .u8 0, .int .u8 0, .int .u8 0] 62)).setRow w1.heap.size (h8 x)).heap.size = w1.heap.size + 1 := by simp
        have k4 : ((w1.alloc (.cells #[.int .u8 0, .int .u8 0, .int .u8 0, .int .u8 0, .int .u8 0, .int .u8 0, .int .u8 0, .int .u8 0] 62)).setRow w1.heap.size (h8 x)).cell? ⟨g3, 0, none⟩ = some (.func (.func 93) #[] #[.pointer (some ⟨g1, 0, none⟩), .pointer (some ⟨g3, 0, none⟩)]) := ((below_setRow (below_alloc w1 _) (Nat.le_refl _) _).cell (p := ⟨g3, 0, none⟩) hb3').trans d3'
        have KK1 := Lib.hid k1
        have KK2 := Lib.hid k2
        have KK3 := Lib.hid k3
        have KK5 := Lib.hid k5
        clear k1 k2 k3 k5 d3' z1
        go_wp2_with (first | (refine wpList_load8 rfl 62 _ rfl _ rfl _ Tryd.underlying62 info8 ?_ ?_ ?_; rotate_left; focus ((repeat (first | (with_reducible assumption) | ((with_reducible refine hashOf_zero' ?_); (first | rfl | (simp; done) | (simp; omega))) | ((with_reducible refine hashOf_at ?_); (first | rfl | (simp; done) | (simp; omega))) | (with_reducible exact hashOf_set' ⟨_, by assumption⟩ _) | ((with_reducible refine hashOf_set' (Is8_zero ?_) _); (first | rfl | (simp; done) | (simp; omega))) | (with_reducible refine hashOf_old ?_ _) | ((with_reducible refine hashOf_other ?_ _ ?_); rotate_left; (focus (first | (simp; done) | (simp; omega) | omega))) | (with_reducible refine hashOf_drew ?_) | (with_reducible refine hashOf_below ?_ (by assumption)))); done)) | (refine wpList_store8 rfl 62 _ _ rfl _ _ rfl rfl info8 ?_ ?_ ?_; rotate_left; focus ((repeat (first | (with_reducible assumption) | ((with_reducible refine hashOf_zero' ?_); (first | rfl | (simp; done) | (simp; omega))) | ((with_reducible refine hashOf_at ?_); (first | rfl | (simp; done) | (simp; omega))) | (with_reducible exact hashOf_set' ⟨_, by assumption⟩ _) | ((with_reducible refine hashOf_set' (Is8_zero ?_) _); (first | rfl | (simp; done) | (simp; omega))) | (with_reducible refine hashOf_old ?_ _) | ((with_reducible refine hashOf_other ?_ _ ?_); rotate_left; (focus (first | (simp; done) | (simp; omega) | omega))) | (with_reducible refine hashOf_drew ?_) | (with_reducible refine hashOf_below ?_ (by assumption)))); done)))
        generalize ((w1.alloc (.cells #[.int .u8 0, .int .u8 0, .int .u8 0, .int .u8 0, .int .u8 0, .int .u8 0, .int .u8 0, .int .u8 0] 62)).setRow w1.heap.size (h8 x)) = W2 at *
        refine (I2.out (lo + k) hi W2 HLK.out HHI.out ((KK2.out.cell (p := ⟨e1, 0, none⟩) (cell_lt C1.out)).trans C1.out) ((KK2.out.cell (p := ⟨e3, 0, none⟩) (cell_lt C3.out)).trans C3.out) (HH.out.below KK2.out) ((KK2.out.cell (p := ⟨g1, 0, none⟩) (cell_lt D1.out)).trans D1.out) k4).mono ?_
        rintro e w2 ⟨rfl, hw2⟩
        have s2 : w1.heap.size + 1 ≤ w2.heap.size := by have := hw2.size; rw [KK5.out] at this; exact this
        have B2 := Lib.hid (KK2.out.trans (hw2.mono KK2.out.size))
        have q1 : hashOf ((w2.alloc (.cells #[.int .u8 0, .int .u8 0, .int .u8 0, .int .u8 0, .int .u8 0, .int .u8 0, .int .u8 0, .int .u8 0] 62)).setRow w2.heap.size (h8 y)) w1.heap.size x := hashOf_other (hashOf_old (hashOf_below KK1.out hw2) _) _ (by omega)
        have q2 : hashOf ((w2.alloc (.cells #[.int .u8 0, .int .u8 0, .int .u8 0, .int .u8 0, .int .u8 0, .int .u8 0, .int .u8 0, .int .u8 0] 62)).setRow w2.heap.size (h8 y)) w2.heap.size y := hashOf_set (hashOf_zero' rfl) _
        have q3 : hashOf ((w2.alloc (.cells #[.int .u8 0, .int .u8 0, .int .u8 0, .int .u8 0, .int .u8 0, .int .u8 0, .int .u8 0, .int .u8 0] 62)).setRow w2.heap.size (h8 y)) w.heap.size zero8 := hashOf_other (hashOf_old (hashOf_below KK3.out hw2) _) _ (by omega)
        have q4 : Below w.heap.size w ((w2.alloc (.cells #[.int .u8 0, .int .u8 0, .int .u8 0, .int .u8 0, .int .u8 0, .int .u8 0, .int .u8 0, .int .u8 0] 62)).setRow w2.heap.size (h8 y)) := below_setRow (B2.out.alloc B2.out.size _) B2.out.size _
        have Q4 := Lib.hid q4
        clear hw2 q4 k4
        go_wp2_with (first | (refine wpList_load8 rfl 62 _ rfl _ rfl _ Tryd.underlying62 info8 ?_ ?_ ?_; rotate_left; focus ((repeat (first | (with_reducible assumption) | ((with_reducible refine hashOf_zero' ?_); (first | rfl | (simp; done) | (simp; omega))) | ((with_reducible refine hashOf_at ?_); (first | rfl | (simp; done) | (simp; omega))) | (with_reducible exact hashOf_set' ⟨_, by assumption⟩ _) | ((with_reducible refine hashOf_set' (Is8_zero ?_) _); (first | rfl | (simp; done) | (simp; omega))) | (with_reducible refine hashOf_old ?_ _) | ((with_reducible refine hashOf_other ?_ _ ?_); rotate_left; (focus (first | (simp; done) | (simp; omega) | omega))) | (with_reducible refine hashOf_drew ?_) | (with_reducible refine hashOf_below ?_ (by assumption)))); done)) | (refine wpList_store8 rfl 62 _ _ rfl _ _ rfl rfl info8 ?_ ?_ ?_; rotate_left; focus ((repeat (first | (with_reducible assumption) | ((with_reducible refine hashOf_zero' ?_); (first | rfl | (simp; done) | (simp; omega))) | ((with_reducible refine hashOf_at ?_); (first | rfl | (simp; done) | (simp; omega))) | (with_reducible exact hashOf_set' ⟨_, by assumption⟩ _) | ((with_reducible refine hashOf_set' (Is8_zero ?_) _); (first | rfl | (simp; done) | (simp; omega))) | (with_reducible refine hashOf_old ?_ _) | ((with_reducible refine hashOf_other ?_ _ ?_); rotate_left; (focus (first | (simp; done) | (simp; omega) | omega))) | (with_reducible refine hashOf_drew ?_) | (with_reducible refine hashOf_below ?_ (by assumption)))); done)))
        refine (node_any x y _).mono ?_
        rintro e w3 ⟨rfl, hw3⟩
        have r1 := hashOf_below q3 hw3
        clear q1 q2 q3
        have R1 := Lib.hid (Q4.out.trans (hw3.mono Q4.out.size))
        clear hw3
        go_wp2_with (first | (refine wpList_load8 rfl 62 _ rfl _ rfl _ Tryd.underlying62 info8 ?_ ?_ ?_; rotate_left; focus ((repeat (first | (with_reducible assumption) | ((with_reducible refine hashOf_zero' ?_); (first | rfl | (simp; done) | (simp; omega))) | ((with_reducible refine hashOf_at ?_); (first | rfl | (simp; done) | (simp; omega))) | (with_reducible exact hashOf_set' ⟨_, by assumption⟩ _) | ((with_reducible refine hashOf_set' (Is8_zero ?_) _); (first | rfl | (simp; done) | (simp; omega))) | (with_reducible refine hashOf_old ?_ _) | ((with_reducible refine hashOf_other ?_ _ ?_); rotate_left; (focus (first | (simp; done) | (simp; omega) | omega))) | (with_reducible refine hashOf_drew ?_) | (with_reducible refine hashOf_below ?_ (by assumption)))); done)) | (refine wpList_store8 rfl 62 _ _ rfl _ _ rfl rfl info8 ?_ ?_ ?_; rotate_left; focus ((repeat (first | (with_reducible assumption) | ((with_reducible refine hashOf_zero' ?_); (first | rfl | (simp; done) | (simp; omega))) | ((with_reducible refine hashOf_at ?_); (first | rfl | (simp; done) | (simp; omega))) | (with_reducible exact hashOf_set' ⟨_, by assumption⟩ _) | ((with_reducible refine hashOf_set' (Is8_zero ?_) _); (first | rfl | (simp; done) | (simp; omega))) | (with_reducible refine hashOf_old ?_ _) | ((with_reducible refine hashOf_other ?_ _ ?_); rotate_left; (focus (first | (simp; done) | (simp; omega) | omega))) | (with_reducible refine hashOf_drew ?_) | (with_reducible refine hashOf_below ?_ (by assumption)))); done)))
        refine ret8t w.heap.size (nodeH x y) .nilIface rfl rfl rfl _ Tryd.underlying62 info8 (hashOf_set r1 _) rfl ⟨by rw [HF.out], below_setRow R1.out (Nat.le_refl _) _⟩
end
end Go.Proofs.YtefccfakhgdfbaaDoor
