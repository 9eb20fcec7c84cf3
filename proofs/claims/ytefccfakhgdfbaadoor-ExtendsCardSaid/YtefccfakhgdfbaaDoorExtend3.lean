/- The walk of merkle.extend: one hash more. -/
import Derived.Test.YtefccfakhgdfbaaDoorInv
import Derived.Deep.RegionWith
namespace Go.Proofs.YtefccfakhgdfbaaDoor
open Go.RowKit
section
attribute [local go_sem] h8_0 h8_1 h8_2 h8_3 h8_4 h8_5 h8_6 h8_7 h8_fold h8_size cell_setRow_ne run_store8
theorem WholeAt.below {w w' : World} {v : Value} {o : Option Hsh} (h : WholeAt w v o) (hb : Below w.heap.size w w') : WholeAt w' v o := by
  rcases h with h | ⟨g, x, h1, h2, h3⟩
  · exact .inl h
  · exact .inr ⟨g, x, h1, h2, hashOf_below h3 hb⟩
set_option maxHeartbeats 16000000 in
set_option maxRecDepth 100000 in
theorem extend_any (l : Nat) : ∀ (p : List Hsh) (m n : Int) (whole : Option Hsh) (v pv : Value) (w : World), p.length = l → HashesAt w v p → WholeAt w pv whole → 1 ≤ m → m ≤ n → n ≤ 9223372036854775807 → l ≤ 1048576 →
    Calls Tryd.prog 83 #[.int .i64 m, .int .i64 n, v, pv] w (ExtendPost m.toNat n.toNat whole p w) := by
  induction l with
  | zero =>
    intro p m n whole v pv w hp h hw h1 hmn hn hl
    obtain rfl : p = [] := List.eq_nil_of_length_eq_zero hp
    by_cases he : m = n
    · subst he
      rcases id hw with ⟨rfl, rfl⟩ | ⟨g, x, rfl, rfl, hh⟩
      · exact extend_no m m _ none v [] w h hw hmn (.inl ⟨rfl, rfl, by simp⟩) h1
      · exact extend_whole m g x v [] w h hh
    · exact extend_no m n pv whole v [] w h hw hmn (.inr ⟨he, rfl⟩) h1
  | succ l ih =>
    intro p m n whole v pv w hp h hw h1 hmn hn hl
    by_cases he : m = n
    · subst he
      rcases id hw with ⟨rfl, rfl⟩ | ⟨g, x, rfl, rfl, hh⟩
      · by_cases hp1 : p.length = 1
        · match p, hp1 with
          | [r], _ => exact extend_one m r v w h
        · exact extend_no m m _ none v p w h hw hmn (.inl ⟨rfl, rfl, hp1⟩) h1
      · exact extend_whole m g x v p w h hh
    · obtain ⟨q, last, rfl⟩ : ∃ q last, p = q ++ [last] := ⟨p.dropLast, p.getLast (by intro e; simp [e] at hp), (List.dropLast_concat_getLast _).symm⟩
      have hq : q.length = l := by simpa using hp
      obtain ⟨a, c, hv, _⟩ := id h
      rw [hp] at hv
      subst hv
      obtain ⟨b, off, rfl, hcap, hcell, hinit⟩ := hashes_init h hq
      have hr := roots_snoc m.toNat n.toNat whole q last
      rw [if_neg (by omega)] at hr
      have hbd := below_bd (n := n.toNat) (by omega) (by omega)
      obtain ⟨k, hk⟩ : ∃ k, k = below n.toNat := ⟨_, rfl⟩
      rw [← hk] at hbd hr
      obtain ⟨hb1, hb2, hb3⟩ := hbd
      have HR := Lib.hid hr
      have HK := Lib.hid hk
      have HW := Lib.hid hw
      have HQ := Lib.hid hinit
      have IH := Lib.hid ih
      have HL := Lib.hid hq
      clear hr hk hw hinit ih h hq hp
      have c0 : w.cell? ⟨b, off + l * 8, none⟩ = some (u8 last[0]) := hcell 0 (by decide)
      have c1 := hcell 1 (by decide)
      have c2 := hcell 2 (by decide)
      have c3 := hcell 3 (by decide)
      have c4 := hcell 4 (by decide)
      have c5 := hcell 5 (by decide)
      have c6 := hcell 6 (by decide)
      have c7 := hcell 7 (by decide)
      have hbw : b < w.heap.size := cell_lt c0
      have hbw1 : b < w.heap.size + 1 := by omega
      have hbw2 : b < w.heap.size + 1 + 1 := by omega
      have hz0 : ((l : Int) + 1 == 0) = false := by rw [beq_eq_false_iff_ne]; omega
      have hd : (m == n) = false := by rw [beq_eq_false_iff_ne]; exact he
      have hI : Is8 (((w.alloc (.cells #[.int .u8 0, .int .u8 0, .int .u8 0, .int .u8 0, .int .u8 0, .int .u8 0, .int .u8 0, .int .u8 0] 62)).alloc (.cells #[.int .u8 0, .int .u8 0, .int .u8 0, .int .u8 0, .int .u8 0, .int .u8 0, .int .u8 0, .int .u8 0] 62)).alloc (.cells #[.int .u8 0, .int .u8 0, .int .u8 0, .int .u8 0, .int .u8 0, .int .u8 0, .int .u8 0, .int .u8 0] 62)).drew (w.heap.size + 1 + 1) := ⟨zero8, hashOf_drew (hashOf_zero' (by simp))⟩
      clear hcell
      go_enter Tryd.func83, Tryd.ntmps83
      go_wp2_with fail
      go_region
      have f1 : hashOf ((((w.alloc (.cells #[.int .u8 0, .int .u8 0, .int .u8 0, .int .u8 0, .int .u8 0, .int .u8 0, .int .u8 0, .int .u8 0] 62)).alloc (.cells #[.int .u8 0, .int .u8 0, .int .u8 0, .int .u8 0, .int .u8 0, .int .u8 0, .int .u8 0, .int .u8 0] 62)).alloc (.cells #[.int .u8 0, .int .u8 0, .int .u8 0, .int .u8 0, .int .u8 0, .int .u8 0, .int .u8 0, .int .u8 0] 62)).drew.setRow (w.heap.size + 1 + 1) (h8 last)) w.heap.size zero8 := hashOf_other (hashOf_drew (hashOf_old (hashOf_old (hashOf_zero' rfl) _) _)) _ (by omega)
      have f2 : hashOf ((((w.alloc (.cells #[.int .u8 0, .int .u8 0, .int .u8 0, .int .u8 0, .int .u8 0, .int .u8 0, .int .u8 0, .int .u8 0] 62)).alloc (.cells #[.int .u8 0, .int .u8 0, .int .u8 0, .int .u8 0, .int .u8 0, .int .u8 0, .int .u8 0, .int .u8 0] 62)).alloc (.cells #[.int .u8 0, .int .u8 0, .int .u8 0, .int .u8 0, .int .u8 0, .int .u8 0, .int .u8 0, .int .u8 0] 62)).drew.setRow (w.heap.size + 1 + 1) (h8 last)) (w.heap.size + 1) zero8 := hashOf_other (hashOf_drew (hashOf_old (hashOf_zero' (by simp)) _)) _ (by omega)
      have f3 : hashOf ((((w.alloc (.cells #[.int .u8 0, .int .u8 0, .int .u8 0, .int .u8 0, .int .u8 0, .int .u8 0, .int .u8 0, .int .u8 0] 62)).alloc (.cells #[.int .u8 0, .int .u8 0, .int .u8 0, .int .u8 0, .int .u8 0, .int .u8 0, .int .u8 0, .int .u8 0] 62)).alloc (.cells #[.int .u8 0, .int .u8 0, .int .u8 0, .int .u8 0, .int .u8 0, .int .u8 0, .int .u8 0, .int .u8 0] 62)).drew.setRow (w.heap.size + 1 + 1) (h8 last)) (w.heap.size + 1 + 1) last := hashOf_set (hashOf_drew (hashOf_zero' (by simp))) _
      have f4 : Below w.heap.size w ((((w.alloc (.cells #[.int .u8 0, .int .u8 0, .int .u8 0, .int .u8 0, .int .u8 0, .int .u8 0, .int .u8 0, .int .u8 0] 62)).alloc (.cells #[.int .u8 0, .int .u8 0, .int .u8 0, .int .u8 0, .int .u8 0, .int .u8 0, .int .u8 0, .int .u8 0] 62)).alloc (.cells #[.int .u8 0, .int .u8 0, .int .u8 0, .int .u8 0, .int .u8 0, .int .u8 0, .int .u8 0, .int .u8 0] 62)).drew.setRow (w.heap.size + 1 + 1) (h8 last)) := below_setRow (((((below_alloc w _).alloc (by simp) _).alloc (by simp; omega) _).drew)) (by omega) _
      have f5 : ((((w.alloc (.cells #[.int .u8 0, .int .u8 0, .int .u8 0, .int .u8 0, .int .u8 0, .int .u8 0, .int .u8 0, .int .u8 0] 62)).alloc (.cells #[.int .u8 0, .int .u8 0, .int .u8 0, .int .u8 0, .int .u8 0, .int .u8 0, .int .u8 0, .int .u8 0] 62)).alloc (.cells #[.int .u8 0, .int .u8 0, .int .u8 0, .int .u8 0, .int .u8 0, .int .u8 0, .int .u8 0, .int .u8 0] 62)).drew.setRow (w.heap.size + 1 + 1) (h8 last)).heap.size = w.heap.size + 1 + 1 + 1 := by simp
      have F1 := Lib.hid f1
      have F2 := Lib.hid f2
      have F3 := Lib.hid f3
      have F4 := Lib.hid f4
      have F5 := Lib.hid f5
      clear f1 f2 f3 f4 f5 hI c0 c1 c2 c3 c4 c5 c6 c7
      generalize ((((w.alloc (.cells #[.int .u8 0, .int .u8 0, .int .u8 0, .int .u8 0, .int .u8 0, .int .u8 0, .int .u8 0, .int .u8 0] 62)).alloc (.cells #[.int .u8 0, .int .u8 0, .int .u8 0, .int .u8 0, .int .u8 0, .int .u8 0, .int .u8 0, .int .u8 0] 62)).alloc (.cells #[.int .u8 0, .int .u8 0, .int .u8 0, .int .u8 0, .int .u8 0, .int .u8 0, .int .u8 0, .int .u8 0] 62)).drew.setRow (w.heap.size + 1 + 1) (h8 last)) = W2 at *
      go_wp2_with fail
      refine (split_any _ _ (by omega) (by omega)).mono ?_
      rintro e w0 ⟨rfl, rfl⟩
      rw [← HK.out]
      have HW2 := Lib.hid (HW.out.below F4.out)
      by_cases hmk : m ≤ (k : Int)
      · go_wp2_with fail
        refine (IH.out q m k whole _ _ _ HL.out (Cells.below HQ.out F4.out) HW2.out h1 hmk (by omega) (by omega)).mono ?_
        rintro e w1 ⟨x, y, rfl, hxy, hb⟩
        have hz : w.heap.size + 3 ≤ w1.heap.size := by have := hb.size; rw [F5.out] at this; omega
        have g1 := hashOf_below F1.out hb
        have g2 := hashOf_below F2.out hb
        have g3 := hashOf_below F3.out hb
        have j2 : hashOf (w1.setRow w.heap.size (h8 x)) (w.heap.size + 1) zero8 := hashOf_other g2 _ (by omega)
        have HXY := Lib.hid hxy
        have G3 := Lib.hid g3
        have G1 := Lib.hid g1
        have F6 := Lib.hid (F4.out.trans (hb.mono F4.out.size))
        clear hxy hb g3
        obtain ⟨rt, hrr⟩ : ∃ r, r = roots m.toNat (k : Int).toNat whole q := ⟨_, rfl⟩
        rw [← hrr]
        have HRR := Lib.hid hrr
        clear hrr
        go_wp2_with (refine wpList_store8 rfl 62 _ _ rfl _ _ rfl rfl info8 ?_ ?_ ?_; rotate_left; focus ((repeat (first | (with_reducible assumption) | ((with_reducible refine hashOf_zero' ?_); (first | rfl | (simp; done) | (simp; omega))) | ((with_reducible refine hashOf_at ?_); (first | rfl | (simp; done) | (simp; omega))) | (with_reducible exact hashOf_set' ⟨_, by assumption⟩ _) | ((with_reducible refine hashOf_set' (Is8_zero ?_) _); (first | rfl | (simp; done) | (simp; omega))) | (with_reducible refine hashOf_old ?_ _) | ((with_reducible refine hashOf_other ?_ _ ?_); rotate_left; (focus (first | (simp; done) | (simp; omega) | omega))) | (with_reducible refine hashOf_drew ?_) | (with_reducible refine hashOf_below ?_ (by assumption)))); done))
        have a1 : hashOf ((w1.setRow w.heap.size (h8 x)).setRow (w.heap.size + 1) (h8 y)) w.heap.size x := hashOf_other (hashOf_set G1.out _) _ (by omega)
        have a2 : hashOf ((w1.setRow w.heap.size (h8 x)).setRow (w.heap.size + 1) (h8 y)) (w.heap.size + 1) y := hashOf_set j2 _
        have a3 : hashOf ((w1.setRow w.heap.size (h8 x)).setRow (w.heap.size + 1) (h8 y)) (w.heap.size + 1 + 1) last := hashOf_other (hashOf_other G3.out _ (by omega)) _ (by omega)
        have a4 : Below w.heap.size w ((w1.setRow w.heap.size (h8 x)).setRow (w.heap.size + 1) (h8 y)) := below_setRow (below_setRow F6.out (Nat.le_refl _) _) (by omega) _
        have a5 : ((w1.setRow w.heap.size (h8 x)).setRow (w.heap.size + 1) (h8 y)).heap.size = w1.heap.size := by simp
        have A1 := Lib.hid a1
        have A2 := Lib.hid a2
        have A3 := Lib.hid a3
        have A4 := Lib.hid a4
        have A5 := Lib.hid a5
        clear a1 a2 a3 a4 a5 j2 g1 g2
        generalize ((w1.setRow w.heap.size (h8 x)).setRow (w.heap.size + 1) (h8 y)) = W3 at *
        have hz3 : w.heap.size + 3 ≤ W3.heap.size := by rw [A5.out]; exact hz
        have hz31 : w.heap.size < W3.heap.size := by omega
        have hz32 : w.heap.size + 1 < W3.heap.size := by omega
        have hz33 : w.heap.size + 1 + 1 < W3.heap.size := by omega
        have x0 := hashOf_cell A1.out 0 (by decide)
        have x1 := hashOf_cell A1.out 1 (by decide)
        have x2 := hashOf_cell A1.out 2 (by decide)
        have x3 := hashOf_cell A1.out 3 (by decide)
        have x4 := hashOf_cell A1.out 4 (by decide)
        have x5 := hashOf_cell A1.out 5 (by decide)
        have x6 := hashOf_cell A1.out 6 (by decide)
        have x7 := hashOf_cell A1.out 7 (by decide)
        have y0 := hashOf_cell A2.out 0 (by decide)
        have y1 := hashOf_cell A2.out 1 (by decide)
        have y2 := hashOf_cell A2.out 2 (by decide)
        have y3 := hashOf_cell A2.out 3 (by decide)
        have y4 := hashOf_cell A2.out 4 (by decide)
        have y5 := hashOf_cell A2.out 5 (by decide)
        have y6 := hashOf_cell A2.out 6 (by decide)
        have y7 := hashOf_cell A2.out 7 (by decide)
        have z0 := hashOf_cell A3.out 0 (by decide)
        have z1 := hashOf_cell A3.out 1 (by decide)
        have z2 := hashOf_cell A3.out 2 (by decide)
        have z3 := hashOf_cell A3.out 3 (by decide)
        have z4 := hashOf_cell A3.out 4 (by decide)
        have z5 := hashOf_cell A3.out 5 (by decide)
        have z6 := hashOf_cell A3.out 6 (by decide)
        have z7 := hashOf_cell A3.out 7 (by decide)
        go_region_with (go_at_call 73; refine (node_any y last _).mono ?_; rintro e w4 ⟨rfl, hb4⟩; have k1 := hashOf_below (hashOf_drew A1.out) hb4; have k2 := hashOf_below (hashOf_drew A2.out) hb4; have hz4 : w.heap.size + 3 ≤ w4.heap.size := Nat.le_trans hz3 hb4.size; have i1 : Is8 w4 w.heap.size := ⟨_, k1⟩; have i2 : Is8 w4 (w.heap.size + 1) := ⟨_, k2⟩; have i3 : Is8 (w4.setRow w.heap.size (h8 x)) (w.heap.size + 1) := ⟨_, hashOf_other k2 _ (by omega)⟩; have i4 : Is8 (w4.setRow (w.heap.size + 1) (h8 (nodeH y last))) w.heap.size := ⟨_, hashOf_other k1 _ (by omega)⟩; have HB4 := Lib.hid hb4; have d0 := hashOf_cell k1 0 (by decide); have d1 := hashOf_cell k1 1 (by decide); have d2 := hashOf_cell k1 2 (by decide); have d3 := hashOf_cell k1 3 (by decide); have d4 := hashOf_cell k1 4 (by decide); have d5 := hashOf_cell k1 5 (by decide); have d6 := hashOf_cell k1 6 (by decide); have d7 := hashOf_cell k1 7 (by decide); clear hb4 k1 k2)
        all_goals
          go_wp2
          have hre : roots m.toNat n.toNat whole (q ++ [last]) = rt.map (fun z => (z.1, nodeH z.2 last)) := by rw [HR.out, if_pos (by omega), HRR.out]; rfl
          refine ret88t w.heap.size (w.heap.size + 1) x (nodeH y last) (.bool rt.isSome) rfl rfl rfl rfl _ Tryd.underlying62 info8 (hashOf_other (hashOf_set' i1 _) _ (by omega)) (hashOf_set' i3 _) rfl ⟨x, nodeH y last, by rw [hre, Option.isSome_map], ?_, below_setRow (below_setRow ((A4.out.drew).trans (HB4.out.mono A4.out.drew.size)) (Nat.le_refl _) _) (by omega) _⟩
          intro z hzz
          rw [hre] at hzz
          obtain ⟨z', hz', rfl⟩ := Option.map_eq_some_iff.1 hzz
          have := HXY.out z' (by rw [← HRR.out]; exact hz')
          subst this
          rfl
      · go_wp2_with fail
        refine (IH.out q (m - k) (n - k) none _ _ _ HL.out (Cells.below HQ.out F4.out) (.inl ⟨rfl, rfl⟩) (by omega) (by omega) (by omega) (by omega)).mono ?_
        rintro e w1 ⟨x, y, rfl, hxy, hb⟩
        have hz : w.heap.size + 3 ≤ w1.heap.size := by have := hb.size; rw [F5.out] at this; omega
        have g1 := hashOf_below F1.out hb
        have g2 := hashOf_below F2.out hb
        have g3 := hashOf_below F3.out hb
        have j2 : hashOf (w1.setRow w.heap.size (h8 x)) (w.heap.size + 1) zero8 := hashOf_other g2 _ (by omega)
        have HXY := Lib.hid hxy
        have G3 := Lib.hid g3
        have G1 := Lib.hid g1
        have F6 := Lib.hid (F4.out.trans (hb.mono F4.out.size))
        clear hxy hb g3
        obtain ⟨rt, hrr⟩ : ∃ r, r = roots (m - k).toNat (n - k).toNat none q := ⟨_, rfl⟩
        rw [← hrr]
        have HRR := Lib.hid hrr
        clear hrr
        go_wp2_with (refine wpList_store8 rfl 62 _ _ rfl _ _ rfl rfl info8 ?_ ?_ ?_; rotate_left; focus ((repeat (first | (with_reducible assumption) | ((with_reducible refine hashOf_zero' ?_); (first | rfl | (simp; done) | (simp; omega))) | ((with_reducible refine hashOf_at ?_); (first | rfl | (simp; done) | (simp; omega))) | (with_reducible exact hashOf_set' ⟨_, by assumption⟩ _) | ((with_reducible refine hashOf_set' (Is8_zero ?_) _); (first | rfl | (simp; done) | (simp; omega))) | (with_reducible refine hashOf_old ?_ _) | ((with_reducible refine hashOf_other ?_ _ ?_); rotate_left; (focus (first | (simp; done) | (simp; omega) | omega))) | (with_reducible refine hashOf_drew ?_) | (with_reducible refine hashOf_below ?_ (by assumption)))); done))
        have a1 : hashOf ((w1.setRow w.heap.size (h8 x)).setRow (w.heap.size + 1) (h8 y)) w.heap.size x := hashOf_other (hashOf_set G1.out _) _ (by omega)
        have a2 : hashOf ((w1.setRow w.heap.size (h8 x)).setRow (w.heap.size + 1) (h8 y)) (w.heap.size + 1) y := hashOf_set j2 _
        have a3 : hashOf ((w1.setRow w.heap.size (h8 x)).setRow (w.heap.size + 1) (h8 y)) (w.heap.size + 1 + 1) last := hashOf_other (hashOf_other G3.out _ (by omega)) _ (by omega)
        have a4 : Below w.heap.size w ((w1.setRow w.heap.size (h8 x)).setRow (w.heap.size + 1) (h8 y)) := below_setRow (below_setRow F6.out (Nat.le_refl _) _) (by omega) _
        have a5 : ((w1.setRow w.heap.size (h8 x)).setRow (w.heap.size + 1) (h8 y)).heap.size = w1.heap.size := by simp
        have A1 := Lib.hid a1
        have A2 := Lib.hid a2
        have A3 := Lib.hid a3
        have A4 := Lib.hid a4
        have A5 := Lib.hid a5
        clear a1 a2 a3 a4 a5 j2 g1 g2
        generalize ((w1.setRow w.heap.size (h8 x)).setRow (w.heap.size + 1) (h8 y)) = W3 at *
        have hz3 : w.heap.size + 3 ≤ W3.heap.size := by rw [A5.out]; exact hz
        have hz31 : w.heap.size < W3.heap.size := by omega
        have hz32 : w.heap.size + 1 < W3.heap.size := by omega
        have hz33 : w.heap.size + 1 + 1 < W3.heap.size := by omega
        refine wp_region_any (by kernel_rfl) ?_
        refine draw14 last x y (nodeH last x) (nodeH last y) w.heap.size (.bool rt.isSome) w ?_ ?_ ?_ ⟨_, rfl, rfl, rfl, rfl⟩ ⟨_, rfl, rfl, rfl, rfl⟩ ⟨_, _, rfl, rfl, rfl, rfl⟩ ⟨_, rfl, rfl, rfl, rfl⟩ ⟨_, rfl, rfl, rfl, rfl⟩ ⟨_, _, rfl, rfl, rfl, rfl⟩ ⟨_, rfl, rfl, rfl, rfl⟩ ⟨_, rfl, rfl, rfl, rfl⟩ ⟨_, rfl, rfl, rfl, rfl⟩ ⟨_, rfl, rfl, rfl, rfl⟩ (Nat.le_refl _) (fun _ _ => by rfl) (node_any last x) (node_any last y) ?_ _ _ ?_
        · intro b i hi
          rw [Region.ready, List.mem_filter] at hi
          obtain ⟨hi1, hi2⟩ := hi
          have hi10 : i < 10 := List.mem_range.1 hi1
          have : i = 0 ∨ i = 1 ∨ i = 2 ∨ i = 3 ∨ i = 4 ∨ i = 5 ∨ i = 6 ∨ i = 7 ∨ i = 8 ∨ i = 9 := by omega
          clear hi1
          rcases this with rfl | rfl | rfl | rfl | rfl | rfl | rfl | rfl | rfl | rfl <;> simp [bs, Region.binds] at hi2 ⊢ <;> simp [hi2]
        · intro b hb
          have hh : ∀ c : Bool, (!c).toNat = 0 → c = true := by intro c; cases c <;> simp
          unfold left at hb
          have k0 := hh (b 0) (by omega)
          have k1 := hh (b 1) (by omega)
          have k2 := hh (b 2) (by omega)
          have k3 := hh (b 3) (by omega)
          have k4 := hh (b 4) (by omega)
          have k5 := hh (b 5) (by omega)
          have k6 := hh (b 6) (by omega)
          have k7 := hh (b 7) (by omega)
          have k8 := hh (b 8) (by omega)
          have k9 := hh (b 9) (by omega)
          rw [show bs b = #[true, true, true, true, true, true, true, true, true, true] by simp only [bs, k0, k1, k2, k3, k4, k5, k6, k7, k8, k9]]
          rfl
        · intro b f hf
          rcases k0 : b 0 with _ | _
          · exact List.ne_nil_of_mem (a := 0) (by rw [Region.ready, List.mem_filter]; exact ⟨List.mem_range.2 (by show 0 < 10; decide), by simp [bs, Region.binds, k0]⟩)
          rcases k1 : b 1 with _ | _
          · exact List.ne_nil_of_mem (a := 1) (by rw [Region.ready, List.mem_filter]; exact ⟨List.mem_range.2 (by show 1 < 10; decide), by simp [bs, Region.binds, k0, k1]⟩)
          rcases k2 : b 2 with _ | _
          · exact List.ne_nil_of_mem (a := 2) (by rw [Region.ready, List.mem_filter]; exact ⟨List.mem_range.2 (by show 2 < 10; decide), by simp [bs, Region.binds, k0, k1, k2]⟩)
          rcases k3 : b 3 with _ | _
          · exact List.ne_nil_of_mem (a := 3) (by rw [Region.ready, List.mem_filter]; exact ⟨List.mem_range.2 (by show 3 < 10; decide), by simp [bs, Region.binds, k0, k1, k2, k3]⟩)
          rcases k4 : b 4 with _ | _
          · exact List.ne_nil_of_mem (a := 4) (by rw [Region.ready, List.mem_filter]; exact ⟨List.mem_range.2 (by show 4 < 10; decide), by simp [bs, Region.binds, k0, k1, k2, k3, k4]⟩)
          rcases k5 : b 5 with _ | _
          · exact List.ne_nil_of_mem (a := 5) (by rw [Region.ready, List.mem_filter]; exact ⟨List.mem_range.2 (by show 5 < 10; decide), by simp [bs, Region.binds, k0, k1, k2, k3, k4, k5]⟩)
          rcases k6 : b 6 with _ | _
          · exact List.ne_nil_of_mem (a := 6) (by rw [Region.ready, List.mem_filter]; exact ⟨List.mem_range.2 (by show 6 < 10; decide), by simp [bs, Region.binds, k0, k1, k2, k3, k4, k5, k6]⟩)
          rcases k7 : b 7 with _ | _
          · exact List.ne_nil_of_mem (a := 7) (by rw [Region.ready, List.mem_filter]; exact ⟨List.mem_range.2 (by show 7 < 10; decide), by simp [bs, Region.binds, k0, k1, k2, k3, k4, k5, k6, k7]⟩)
          rcases k8 : b 8 with _ | _
          · exact List.ne_nil_of_mem (a := 8) (by rw [Region.ready, List.mem_filter]; exact ⟨List.mem_range.2 (by show 8 < 10; decide), by simp [bs, Region.binds, k0, k1, k2, k3, k4, k5, k6, k7, k8]⟩)
          rcases k9 : b 9 with _ | _
          · exact List.ne_nil_of_mem (a := 9) (by rw [Region.ready, List.mem_filter]; exact ⟨List.mem_range.2 (by show 9 < 10; decide), by simp [bs, Region.binds, k0, k1, k2, k3, k4, k5, k6, k7, k8, k9]⟩)
          exfalso
          simp only [left, k0, k1, k2, k3, k4, k5, k6, k7, k8, k9, Bool.not_true, Bool.toNat_false] at hf
          omega
        · rintro c a5 w5 hin e7 e8
          go_wp2
          have hre : roots m.toNat n.toNat whole (q ++ [last]) = rt.map (fun z => (nodeH last z.1, nodeH last z.2)) := by
            rw [HR.out, if_neg (by omega), HRR.out]
            congr 2 <;> omega
          refine ret88t w.heap.size (w.heap.size + 1) (nodeH last x) (nodeH last y) (.bool rt.isSome) rfl hin.t8 hin.t9 hin.t10 _ Tryd.underlying62 info8 (hin.f8 e7) (hin.f9 e8) hin.d ⟨nodeH last x, nodeH last y, by rw [hre, Option.isSome_map], ?_, hin.bel⟩
          intro z hzz
          rw [hre] at hzz
          obtain ⟨z', hz', rfl⟩ := Option.map_eq_some_iff.1 hzz
          have := HXY.out z' (by rw [← HRR.out]; exact hz')
          subst this
          rfl
        · have hdr : Below w.heap.size w W3.drew := A4.out.drew
          exact { d := rfl, s := Nat.le_refl 103, t8 := rfl, t9 := rfl, t11 := rfl, t10 := rfl, r0 := fun k => absurd k (by decide), r1 := fun k => absurd k (by decide), r2 := fun k => absurd k (by decide), r3 := fun k => absurd k (by decide), r4 := fun k => absurd k (by decide), r5 := fun k => absurd k (by decide), r6 := fun k => absurd k (by decide), h11 := hashOf_drew A3.out, e8 := fun _ => hashOf_drew A1.out, f8 := fun k => absurd k (by decide), e9 := fun _ => hashOf_drew A2.out, f9 := fun k => absurd k (by decide), bel := hdr, c7 := fun k => absurd k (by decide), c8 := fun k => absurd k (by decide) }
end
end Go.Proofs.YtefccfakhgdfbaaDoor
