/- The walk of merkle.Entries' closure: the hash of 2^level entries. -/
import Derived.Test.YtefccfakhgdfbaaDoorNode
import Derived.Test.YtefccfakhgdfbaaDoorTreePlain
namespace Go.Proofs.YtefccfakhgdfbaaDoor
open Go.RowKit
set_option maxHeartbeats 2000000 in
theorem ent1_any (L : Nat) : ∀ (i : Nat) (lv ix : Int) (g1 g3 : Nat) (v : Value) (ls : List (List UInt8)) (w : World), lv = L → ix = i → L ≤ 40 → (i + 1) * 2 ^ L ≤ ls.length → ls.length ≤ 1048576 → (∀ l ∈ ls, l.length ≤ 9223372036854775807) →
    w.cell? ⟨g1, 0, none⟩ = some v → w.cell? ⟨g3, 0, none⟩ = some (.func (.func 72) #[] #[.pointer (some ⟨g1, 0, none⟩), .pointer (some ⟨g3, 0, none⟩)]) → BssAt w v ls →
    Calls Tryd.prog 72 #[.int .i64 lv, .int .i64 ix, .pointer (some ⟨g1, 0, none⟩), .pointer (some ⟨g3, 0, none⟩)] w fun e w' => e = .returned (.tuple #[.agg (h8 (fullRoot ls L i)), .nilIface]) ∧ Below w.heap.size w w' := by
  induction L with
  | zero =>
    rintro i lv ix g1 g3 v ls w rfl rfl hL hi hl hs c1 c3 h
    simp only [Nat.pow_zero, Nat.mul_one] at hi
    have hb1 := cell_lt c1
    obtain ⟨vs, hvl, ⟨a, c, rfl, hcap, hc⟩, hall⟩ := h
    have hi' : i < vs.length := by omega
    obtain ⟨b, off, rfl, hcell⟩ := hc i vs[i] (by simp [hi'])
    have hu := hall i vs[i] ls[i] (by simp [hi']) (by simp)
    have hlen := hs ls[i] (List.getElem_mem _)
    have hfr : fullRoot ls 0 i = leafH ls[i] := by simp [fullRoot, List.getD, (by omega : i < ls.length)]
    have hbb := cell_lt hcell
    have HU := Lib.hid hu
    have HF := Lib.hid hfr
    have HL := Lib.hid hlen
    clear hc hall c3 hs hu hfr hlen
    generalize vs[i] = u at *
    generalize ls[i] = l at *
    have hin : i < ls.length := by omega
    obtain ⟨n, hn⟩ : ∃ n, n = ls.length := ⟨_, rfl⟩
    rw [← hn] at c1 hin hcap hl
    simp only [Int.ofNat_zero] at *
    go_enter Tryd.func72, Tryd.ntmps72
    go_wp2_with fail
    refine (leaf_any u l _ (HU.out.below (below_alloc w _)) HL.out).mono ?_
    rintro e w1 ⟨rfl, hb⟩
    have g1 : hashOf w1 w.heap.size zero8 := hashOf_below (hashOf_zero' rfl) hb
    go_wp2_with (first | (refine wpList_load8 rfl 62 _ rfl _ rfl _ Tryd.underlying62 info8 ?_ ?_ ?_; rotate_left; focus ((repeat (first | (with_reducible assumption) | ((with_reducible refine hashOf_zero' ?_); (first | rfl | (simp; done) | (simp; omega))) | ((with_reducible refine hashOf_at ?_); (first | rfl | (simp; done) | (simp; omega))) | (with_reducible exact hashOf_set' ⟨_, by assumption⟩ _) | ((with_reducible refine hashOf_set' (Is8_zero ?_) _); (first | rfl | (simp; done) | (simp; omega))) | (with_reducible refine hashOf_old ?_ _) | ((with_reducible refine hashOf_other ?_ _ ?_); rotate_left; (focus (first | (simp; done) | (simp; omega) | omega))) | (with_reducible refine hashOf_drew ?_) | (with_reducible refine hashOf_below ?_ (by assumption)))); done)) | (refine wpList_store8 rfl 62 _ _ rfl _ _ rfl rfl info8 ?_ ?_ ?_; rotate_left; focus ((repeat (first | (with_reducible assumption) | ((with_reducible refine hashOf_zero' ?_); (first | rfl | (simp; done) | (simp; omega))) | ((with_reducible refine hashOf_at ?_); (first | rfl | (simp; done) | (simp; omega))) | (with_reducible exact hashOf_set' ⟨_, by assumption⟩ _) | ((with_reducible refine hashOf_set' (Is8_zero ?_) _); (first | rfl | (simp; done) | (simp; omega))) | (with_reducible refine hashOf_old ?_ _) | ((with_reducible refine hashOf_other ?_ _ ?_); rotate_left; (focus (first | (simp; done) | (simp; omega) | omega))) | (with_reducible refine hashOf_drew ?_) | (with_reducible refine hashOf_below ?_ (by assumption)))); done)))
    refine ret8t w.heap.size (leafH l) .nilIface rfl rfl rfl _ Tryd.underlying62 info8 (hashOf_set g1 _) rfl ⟨by rw [HF.out], below_setRow ((below_alloc w _).trans (hb.mono (by simp))) (Nat.le_refl _) _⟩
  | succ L ih =>
    rintro i lv ix g1 g3 v ls w rfl rfl hL hi hl hs c1 c3 h
    have hp : 2 ^ L ≥ 1 := Nat.two_pow_pos L
    have e4 : (i + 1) * 2 ^ (L + 1) = (2 * i) * 2 ^ L + 2 ^ L + 2 ^ L := by
      have e1 : i * 2 ^ (L + 1) = (2 * i) * 2 ^ L := by rw [Nat.pow_succ, Nat.mul_comm 2 i, Nat.mul_assoc, Nat.mul_comm (2 ^ L) 2]
      rw [Nat.add_mul, Nat.one_mul, e1, Nat.pow_succ]; omega
    have e3 : (2 * i + 1) * 2 ^ L = (2 * i) * 2 ^ L + 2 ^ L := by rw [Nat.add_mul, Nat.one_mul]
    have hi1 : (2 * i + 1) * 2 ^ L ≤ ls.length := by omega
    have hi2 : (2 * i + 1 + 1) * 2 ^ L ≤ ls.length := by rw [Nat.add_mul (2 * i + 1), Nat.one_mul]; omega
    have hii : 2 * i ≤ (2 * i) * 2 ^ L := Nat.le_mul_of_pos_right _ hp
    have hib : i ≤ 1048576 := by omega
    have hfr : fullRoot ls (L + 1) i = nodeH (fullRoot ls L (2 * i)) (fullRoot ls L (2 * i + 1)) := rfl
    obtain ⟨x, hx⟩ : ∃ x, x = fullRoot ls L (2 * i) := ⟨_, rfl⟩
    obtain ⟨y, hy⟩ : ∃ y, y = fullRoot ls L (2 * i + 1) := ⟨_, rfl⟩
    rw [← hx, ← hy] at hfr
    have I1 := Lib.hid (fun lv ix w e1 e2 => ih (2 * i) lv ix g1 g3 v ls w e1 e2 (by omega) hi1 hl hs)
    have I2 := Lib.hid (fun lv ix w e1 e2 => ih (2 * i + 1) lv ix g1 g3 v ls w e1 e2 (by omega) hi2 hl hs)
    rw [← hx] at I1
    rw [← hy] at I2
    have HF := Lib.hid hfr
    have HH := Lib.hid h
    have C1 := Lib.hid c1
    have hb1 := cell_lt c1
    have hb3 := cell_lt c3
    clear ih hs h hfr hx hy e3 e4 hi hi1 hi2 hii hp c1 hl
    have hz0 : (((L + 1 : Nat) : Int) == 0) = false := by rw [beq_eq_false_iff_ne]; omega
    go_enter Tryd.func72, Tryd.ntmps72
    go_wp2_with fail
    have b0 := below_alloc w (.cells #[.int .u8 0, .int .u8 0, .int .u8 0, .int .u8 0, .int .u8 0, .int .u8 0, .int .u8 0, .int .u8 0] 62)
    refine (I1.out _ _ _ (by omega) (by omega) ((b0.cell (p := ⟨g1, 0, none⟩) hb1).trans C1.out) ((b0.cell (p := ⟨g3, 0, none⟩) hb3).trans c3) (HH.out.below b0)).mono ?_
    rintro e w1 ⟨rfl, hw1⟩
    have B1 := b0.trans (hw1.mono b0.size)
    have z1 : hashOf w1 w.heap.size zero8 := hashOf_below (hashOf_zero' rfl) hw1
    have s1 : w.heap.size + 1 ≤ w1.heap.size := by have := hw1.size; simpa using this
    have c3' := (B1.cell (p := ⟨g3, 0, none⟩) hb3).trans c3
    have hb3' := cell_lt c3'
    have BB1 := Lib.hid B1
    clear b0 hw1 B1 c3 hb3
    have k1 : hashOf ((w1.alloc (.cells #[.int .u8 0, .int .u8 0, .int .u8 0, .int .u8 0, .int .u8 0, .int .u8 0, .int .u8 0, .int .u8 0] 62)).setRow w1.heap.size (h8 x)) w1.heap.size x := hashOf_set (hashOf_zero' rfl) _
    have k2 : Below w.heap.size w ((w1.alloc (.cells #[.int .u8 0, .int .u8 0, .int .u8 0, .int .u8 0, .int .u8 0, .int .u8 0, .int .u8 0, .int .u8 0] 62)).setRow w1.heap.size (h8 x)) := below_setRow (BB1.out.alloc BB1.out.size _) BB1.out.size _
    have k3 : hashOf ((w1.alloc (.cells #[.int .u8 0, .int .u8 0, .int .u8 0, .int .u8 0, .int .u8 0, .int .u8 0, .int .u8 0, .int .u8 0] 62)).setRow w1.heap.size (h8 x)) w.heap.size zero8 := hashOf_other (hashOf_old z1 _) _ (by omega)
    have k5 : ((w1.alloc (.cells #[.int .u8 0, .int .u8 0, .int .u8 0, .int .u8 0, .int .u8 0, .int .u8 0, .int .u8 0, .int .u8 0] 62)).setRow w1.heap.size (h8 x)).heap.size = w1.heap.size + 1 := by simp
    have k4 : ((w1.alloc (.cells #[.int .u8 0, .int .u8 0, .int .u8 0, .int .u8 0, .int .u8 0, .int .u8 0, .int .u8 0, .int .u8 0] 62)).setRow w1.heap.size (h8 x)).cell? ⟨g3, 0, none⟩ = some (.func (.func 72) #[] #[.pointer (some ⟨g1, 0, none⟩), .pointer (some ⟨g3, 0, none⟩)]) := ((below_setRow (below_alloc w1 _) (Nat.le_refl _) _).cell (p := ⟨g3, 0, none⟩) hb3').trans c3'
    have K1 := Lib.hid k1
    have K2 := Lib.hid k2
    have K3 := Lib.hid k3
    have K5 := Lib.hid k5
    clear k1 k2 k3 k5 c3' z1
    go_wp2_with (first | (refine wpList_load8 rfl 62 _ rfl _ rfl _ Tryd.underlying62 info8 ?_ ?_ ?_; rotate_left; focus ((repeat (first | (with_reducible assumption) | ((with_reducible refine hashOf_zero' ?_); (first | rfl | (simp; done) | (simp; omega))) | ((with_reducible refine hashOf_at ?_); (first | rfl | (simp; done) | (simp; omega))) | (with_reducible exact hashOf_set' ⟨_, by assumption⟩ _) | ((with_reducible refine hashOf_set' (Is8_zero ?_) _); (first | rfl | (simp; done) | (simp; omega))) | (with_reducible refine hashOf_old ?_ _) | ((with_reducible refine hashOf_other ?_ _ ?_); rotate_left; (focus (first | (simp; done) | (simp; omega) | omega))) | (with_reducible refine hashOf_drew ?_) | (with_reducible refine hashOf_below ?_ (by assumption)))); done)) | (refine wpList_store8 rfl 62 _ _ rfl _ _ rfl rfl info8 ?_ ?_ ?_; rotate_left; focus ((repeat (first | (with_reducible assumption) | ((with_reducible refine hashOf_zero' ?_); (first | rfl | (simp; done) | (simp; omega))) | ((with_reducible refine hashOf_at ?_); (first | rfl | (simp; done) | (simp; omega))) | (with_reducible exact hashOf_set' ⟨_, by assumption⟩ _) | ((with_reducible refine hashOf_set' (Is8_zero ?_) _); (first | rfl | (simp; done) | (simp; omega))) | (with_reducible refine hashOf_old ?_ _) | ((with_reducible refine hashOf_other ?_ _ ?_); rotate_left; (focus (first | (simp; done) | (simp; omega) | omega))) | (with_reducible refine hashOf_drew ?_) | (with_reducible refine hashOf_below ?_ (by assumption)))); done)))
    generalize ((w1.alloc (.cells #[.int .u8 0, .int .u8 0, .int .u8 0, .int .u8 0, .int .u8 0, .int .u8 0, .int .u8 0, .int .u8 0] 62)).setRow w1.heap.size (h8 x)) = W2 at *
    refine (I2.out _ _ W2 (by omega) (by omega) ((K2.out.cell (p := ⟨g1, 0, none⟩) hb1).trans C1.out) k4 (HH.out.below K2.out)).mono ?_
    rintro e w2 ⟨rfl, hw2⟩
    have s2 : w1.heap.size + 1 ≤ w2.heap.size := by have := hw2.size; rw [K5.out] at this; exact this
    have B2 := Lib.hid (K2.out.trans (hw2.mono K2.out.size))
    have q1 : hashOf ((w2.alloc (.cells #[.int .u8 0, .int .u8 0, .int .u8 0, .int .u8 0, .int .u8 0, .int .u8 0, .int .u8 0, .int .u8 0] 62)).setRow w2.heap.size (h8 y)) w1.heap.size x := hashOf_other (hashOf_old (hashOf_below K1.out hw2) _) _ (by omega)
    have q2 : hashOf ((w2.alloc (.cells #[.int .u8 0, .int .u8 0, .int .u8 0, .int .u8 0, .int .u8 0, .int .u8 0, .int .u8 0, .int .u8 0] 62)).setRow w2.heap.size (h8 y)) w2.heap.size y := hashOf_set (hashOf_zero' rfl) _
    have q3 : hashOf ((w2.alloc (.cells #[.int .u8 0, .int .u8 0, .int .u8 0, .int .u8 0, .int .u8 0, .int .u8 0, .int .u8 0, .int .u8 0] 62)).setRow w2.heap.size (h8 y)) w.heap.size zero8 := hashOf_other (hashOf_old (hashOf_below K3.out hw2) _) _ (by omega)
    have q4 : Below w.heap.size w ((w2.alloc (.cells #[.int .u8 0, .int .u8 0, .int .u8 0, .int .u8 0, .int .u8 0, .int .u8 0, .int .u8 0, .int .u8 0] 62)).setRow w2.heap.size (h8 y)) := below_setRow (B2.out.alloc B2.out.size _) B2.out.size _
    have Q4 := Lib.hid q4
    clear hw2 q4 k4
    go_wp2_with (first | (refine wpList_load8 rfl 62 _ rfl _ rfl _ Tryd.underlying62 info8 ?_ ?_ ?_; rotate_left; focus ((repeat (first | (with_reducible assumption) | ((with_reducible refine hashOf_zero' ?_); (first | rfl | (simp; done) | (simp; omega))) | ((with_reducible refine hashOf_at ?_); (first | rfl | (simp; done) | (simp; omega))) | (with_reducible exact hashOf_set' ⟨_, by assumption⟩ _) | ((with_reducible refine hashOf_set' (Is8_zero ?_) _); (first | rfl | (simp; done) | (simp; omega))) | (with_reducible refine hashOf_old ?_ _) | ((with_reducible refine hashOf_other ?_ _ ?_); rotate_left; (focus (first | (simp; done) | (simp; omega) | omega))) | (with_reducible refine hashOf_drew ?_) | (with_reducible refine hashOf_below ?_ (by assumption)))); done)) | (refine wpList_store8 rfl 62 _ _ rfl _ _ rfl rfl info8 ?_ ?_ ?_; rotate_left; focus ((repeat (first | (with_reducible assumption) | ((with_reducible refine hashOf_zero' ?_); (first | rfl | (simp; done) | (simp; omega))) | ((with_reducible refine hashOf_at ?_); (first | rfl | (simp; done) | (simp; omega))) | (with_reducible exact hashOf_set' ⟨_, by assumption⟩ _) | ((with_reducible refine hashOf_set' (Is8_zero ?_) _); (first | rfl | (simp; done) | (simp; omega))) | (with_reducible refine hashOf_old ?_ _) | ((with_reducible refine hashOf_other ?_ _ ?_); rotate_left; (focus (first | (simp; done) | (simp; omega) | omega))) | (with_reducible refine hashOf_drew ?_) | (with_reducible refine hashOf_below ?_ (by assumption)))); done)))
    refine (node_any x y _).mono ?_
    rintro e w3 ⟨rfl, hw3⟩
    have r1 := hashOf_below q3 hw3
    clear q1 q2 q3
    have R1 := Lib.hid (Q4.out.trans (hw3.mono Q4.out.size))
    clear hw3
    go_wp2_with (first | (refine wpList_load8 rfl 62 _ rfl _ rfl _ Tryd.underlying62 info8 ?_ ?_ ?_; rotate_left; focus ((repeat (first | (with_reducible assumption) | ((with_reducible refine hashOf_zero' ?_); (first | rfl | (simp; done) | (simp; omega))) | ((with_reducible refine hashOf_at ?_); (first | rfl | (simp; done) | (simp; omega))) | (with_reducible exact hashOf_set' ⟨_, by assumption⟩ _) | ((with_reducible refine hashOf_set' (Is8_zero ?_) _); (first | rfl | (simp; done) | (simp; omega))) | (with_reducible refine hashOf_old ?_ _) | ((with_reducible refine hashOf_other ?_ _ ?_); rotate_left; (focus (first | (simp; done) | (simp; omega) | omega))) | (with_reducible refine hashOf_drew ?_) | (with_reducible refine hashOf_below ?_ (by assumption)))); done)) | (refine wpList_store8 rfl 62 _ _ rfl _ _ rfl rfl info8 ?_ ?_ ?_; rotate_left; focus ((repeat (first | (with_reducible assumption) | ((with_reducible refine hashOf_zero' ?_); (first | rfl | (simp; done) | (simp; omega))) | ((with_reducible refine hashOf_at ?_); (first | rfl | (simp; done) | (simp; omega))) | (with_reducible exact hashOf_set' ⟨_, by assumption⟩ _) | ((with_reducible refine hashOf_set' (Is8_zero ?_) _); (first | rfl | (simp; done) | (simp; omega))) | (with_reducible refine hashOf_old ?_ _) | ((with_reducible refine hashOf_other ?_ _ ?_); rotate_left; (focus (first | (simp; done) | (simp; omega) | omega))) | (with_reducible refine hashOf_drew ?_) | (with_reducible refine hashOf_below ?_ (by assumption)))); done)))
    refine ret8t w.heap.size (nodeH x y) .nilIface rfl rfl rfl _ Tryd.underlying62 info8 (hashOf_set r1 _) rfl ⟨by rw [HF.out], below_setRow R1.out (Nat.le_refl _) _⟩
end Go.Proofs.YtefccfakhgdfbaaDoor
