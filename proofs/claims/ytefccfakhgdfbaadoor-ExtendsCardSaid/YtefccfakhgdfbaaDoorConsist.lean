/- The walks of merkle.Consistent, tiles.Consistent, plain.Consistent; tileslaw.Consists answers true. -/
import Derived.Test.YtefccfakhgdfbaaDoorExtend3
namespace Go.Proofs.YtefccfakhgdfbaaDoor
open Go.RowKit
set_option maxHeartbeats 1000000 in
theorem mconsistent_any (p : List Hsh) (a b : Hsh) (m n : Int) (v : Value) (w : World) (h : HashesAt w v p) (hm : -9223372036854775808 ≤ m) (hn : n ≤ 9223372036854775807) (hl : p.length ≤ 1048576) :
    Calls Tryd.prog 65 #[.int .i64 m, .int .i64 n, .agg (h8 a), .agg (h8 b), v] w fun e w' => e = .returned (.bool (consistent m n a b p)) ∧ Below w.heap.size w w' := by
  obtain ⟨ad, c, hv, _⟩ := id h
  by_cases h1 : 1 ≤ m
  · have hd : decide (m < 1) = false := decide_eq_false (by omega)
    by_cases hmn : m ≤ n
    · have hd2 : decide (n < m) = false := decide_eq_false (by omega)
      have hinc : consistent m n a b p = (roots m.toNat n.toNat (some a) p == some (a, b)) := by simp [consistent, h1, hmn]
      have HI := Lib.hid hinc
      have HH := Lib.hid h
      have HV := Lib.hid hv
      clear hinc h hv
      go_enter Tryd.func65, Tryd.ntmps65
      go_wp2_with fail
      have b0 : Below w.heap.size w ((w.alloc (.cells (h8 a) 62)).alloc (.cells (h8 b) 62)) := (below_alloc w _).alloc (by simp) _
      refine (extend_any p.length p m n (some a) v _ _ rfl (Cells.below HH.out b0) (.inr ⟨w.heap.size, a, rfl, rfl, hashOf_old (hashOf_at rfl) _⟩) h1 hmn hn hl).mono ?_
      rintro e w1 ⟨x, y, rfl, hz, hb⟩
      have hbb : Below w.heap.size w w1 := b0.trans (hb.mono b0.size)
      have hsz : w.heap.size + 2 ≤ w1.heap.size := by have := hb.size; simp at this; omega
      have g1 : hashOf w1 w.heap.size a := hashOf_below (hashOf_old (hashOf_at rfl) _) hb
      have g2 : hashOf w1 (w.heap.size + 1) b := hashOf_below (hashOf_at (by simp)) hb
      have HBB := Lib.hid hbb
      have HZ := Lib.hid hz
      clear hz hb hbb b0
      obtain ⟨r, hrr⟩ : ∃ r, r = roots m.toNat n.toNat (some a) p := ⟨_, rfl⟩
      rw [← hrr]
      have HRR := Lib.hid hrr
      clear hrr
      have fin : ∀ (cs ds : Array Value), Below w.heap.size w ((((w1.alloc (.cells #[.int .u8 0, .int .u8 0, .int .u8 0, .int .u8 0, .int .u8 0, .int .u8 0, .int .u8 0, .int .u8 0] 62)).alloc (.cells #[.int .u8 0, .int .u8 0, .int .u8 0, .int .u8 0, .int .u8 0, .int .u8 0, .int .u8 0, .int .u8 0] 62)).setRow w1.heap.size cs).setRow (w1.heap.size + 1) ds) := fun cs ds =>
        below_setRow (below_setRow ((HBB.out.alloc HBB.out.size _).alloc (by simp; have := HBB.out.size; omega) _) HBB.out.size _) (by have := HBB.out.size; omega) _
      have FIN := Lib.hid fin
      clear fin
      have i1 : hashOf ((w1.alloc (.cells #[.int .u8 0, .int .u8 0, .int .u8 0, .int .u8 0, .int .u8 0, .int .u8 0, .int .u8 0, .int .u8 0] 62)).alloc (.cells #[.int .u8 0, .int .u8 0, .int .u8 0, .int .u8 0, .int .u8 0, .int .u8 0, .int .u8 0, .int .u8 0] 62)) w1.heap.size zero8 := hashOf_old (hashOf_zero' rfl) _
      have i2 : hashOf (((w1.alloc (.cells #[.int .u8 0, .int .u8 0, .int .u8 0, .int .u8 0, .int .u8 0, .int .u8 0, .int .u8 0, .int .u8 0] 62)).alloc (.cells #[.int .u8 0, .int .u8 0, .int .u8 0, .int .u8 0, .int .u8 0, .int .u8 0, .int .u8 0, .int .u8 0] 62)).setRow w1.heap.size (h8 x)) (w1.heap.size + 1) zero8 := hashOf_other (hashOf_zero' (by simp)) _ (by omega)
      have j1 : hashOf ((((w1.alloc (.cells #[.int .u8 0, .int .u8 0, .int .u8 0, .int .u8 0, .int .u8 0, .int .u8 0, .int .u8 0, .int .u8 0] 62)).alloc (.cells #[.int .u8 0, .int .u8 0, .int .u8 0, .int .u8 0, .int .u8 0, .int .u8 0, .int .u8 0, .int .u8 0] 62)).setRow w1.heap.size (h8 x)).setRow (w1.heap.size + 1) (h8 y)) w1.heap.size x := hashOf_other (hashOf_set i1 x) _ (by omega)
      have j2 : hashOf ((((w1.alloc (.cells #[.int .u8 0, .int .u8 0, .int .u8 0, .int .u8 0, .int .u8 0, .int .u8 0, .int .u8 0, .int .u8 0] 62)).alloc (.cells #[.int .u8 0, .int .u8 0, .int .u8 0, .int .u8 0, .int .u8 0, .int .u8 0, .int .u8 0, .int .u8 0] 62)).setRow w1.heap.size (h8 x)).setRow (w1.heap.size + 1) (h8 y)) (w1.heap.size + 1) y := hashOf_set i2 y
      have j3 : hashOf ((((w1.alloc (.cells #[.int .u8 0, .int .u8 0, .int .u8 0, .int .u8 0, .int .u8 0, .int .u8 0, .int .u8 0, .int .u8 0] 62)).alloc (.cells #[.int .u8 0, .int .u8 0, .int .u8 0, .int .u8 0, .int .u8 0, .int .u8 0, .int .u8 0, .int .u8 0] 62)).setRow w1.heap.size (h8 x)).setRow (w1.heap.size + 1) (h8 y)) w.heap.size a := hashOf_other (hashOf_other (hashOf_old (hashOf_old g1 _) _) _ (by omega)) _ (by omega)
      have j4 : hashOf ((((w1.alloc (.cells #[.int .u8 0, .int .u8 0, .int .u8 0, .int .u8 0, .int .u8 0, .int .u8 0, .int .u8 0, .int .u8 0] 62)).alloc (.cells #[.int .u8 0, .int .u8 0, .int .u8 0, .int .u8 0, .int .u8 0, .int .u8 0, .int .u8 0, .int .u8 0] 62)).setRow w1.heap.size (h8 x)).setRow (w1.heap.size + 1) (h8 y)) (w.heap.size + 1) b := hashOf_other (hashOf_other (hashOf_old (hashOf_old g2 _) _) _ (by omega)) _ (by omega)
      cases r with
      | none =>
        go_wp2_with (first | (refine wpList_load8 rfl 62 _ rfl _ rfl _ Tryd.underlying62 info8 ?_ ?_ ?_; rotate_left; focus ((repeat (first | (with_reducible assumption) | ((with_reducible refine hashOf_zero' ?_); (first | rfl | (simp; done) | (simp; omega))) | ((with_reducible refine hashOf_at ?_); (first | rfl | (simp; done) | (simp; omega))) | (with_reducible exact hashOf_set' ⟨_, by assumption⟩ _) | ((with_reducible refine hashOf_set' (Is8_zero ?_) _); (first | rfl | (simp; done) | (simp; omega))) | (with_reducible refine hashOf_old ?_ _) | ((with_reducible refine hashOf_other ?_ _ ?_); rotate_left; (focus (first | (simp; done) | (simp; omega) | omega))) | (with_reducible refine hashOf_drew ?_) | (with_reducible refine hashOf_below ?_ (by assumption)))); done)) | (refine wpList_store8 rfl 62 _ _ rfl _ _ rfl rfl info8 ?_ ?_ ?_; rotate_left; focus ((repeat (first | (with_reducible assumption) | ((with_reducible refine hashOf_zero' ?_); (first | rfl | (simp; done) | (simp; omega))) | ((with_reducible refine hashOf_at ?_); (first | rfl | (simp; done) | (simp; omega))) | (with_reducible exact hashOf_set' ⟨_, by assumption⟩ _) | ((with_reducible refine hashOf_set' (Is8_zero ?_) _); (first | rfl | (simp; done) | (simp; omega))) | (with_reducible refine hashOf_old ?_ _) | ((with_reducible refine hashOf_other ?_ _ ?_); rotate_left; (focus (first | (simp; done) | (simp; omega) | omega))) | (with_reducible refine hashOf_drew ?_) | (with_reducible refine hashOf_below ?_ (by assumption)))); done)))
        go_ret
        exact ⟨ret_bool (by rw [HI.out, ← HRR.out]; rfl), FIN.out _ _⟩
      | some z =>
        obtain rfl : (x, y) = z := HZ.out z HRR.out.symm
        by_cases hx : x = a
        · subst hx
          have hq : ∀ w, Sem.run Tryd.prog (binOp .eql 62 (.agg (h8 x)) (.agg (h8 x))) w = .ok (Value.bool true) w := fun w => by
            rw [eql_hash, show (some x == some x) = true from by simp]
          have hq2 := fun w => eql_hash w y b
          go_wp2_with (first | (refine wpList_load8 rfl 62 _ rfl _ rfl _ Tryd.underlying62 info8 ?_ ?_ ?_; rotate_left; focus ((repeat (first | (with_reducible assumption) | ((with_reducible refine hashOf_zero' ?_); (first | rfl | (simp; done) | (simp; omega))) | ((with_reducible refine hashOf_at ?_); (first | rfl | (simp; done) | (simp; omega))) | (with_reducible exact hashOf_set' ⟨_, by assumption⟩ _) | ((with_reducible refine hashOf_set' (Is8_zero ?_) _); (first | rfl | (simp; done) | (simp; omega))) | (with_reducible refine hashOf_old ?_ _) | ((with_reducible refine hashOf_other ?_ _ ?_); rotate_left; (focus (first | (simp; done) | (simp; omega) | omega))) | (with_reducible refine hashOf_drew ?_) | (with_reducible refine hashOf_below ?_ (by assumption)))); done)) | (refine wpList_store8 rfl 62 _ _ rfl _ _ rfl rfl info8 ?_ ?_ ?_; rotate_left; focus ((repeat (first | (with_reducible assumption) | ((with_reducible refine hashOf_zero' ?_); (first | rfl | (simp; done) | (simp; omega))) | ((with_reducible refine hashOf_at ?_); (first | rfl | (simp; done) | (simp; omega))) | (with_reducible exact hashOf_set' ⟨_, by assumption⟩ _) | ((with_reducible refine hashOf_set' (Is8_zero ?_) _); (first | rfl | (simp; done) | (simp; omega))) | (with_reducible refine hashOf_old ?_ _) | ((with_reducible refine hashOf_other ?_ _ ?_); rotate_left; (focus (first | (simp; done) | (simp; omega) | omega))) | (with_reducible refine hashOf_drew ?_) | (with_reducible refine hashOf_below ?_ (by assumption)))); done)))
          go_ret
          refine ⟨ret_bool ?_, FIN.out _ _⟩
          rw [HI.out, ← HRR.out]
          show (some y == some b) = (x == x && y == b)
          simp
        · have hq : ∀ w, Sem.run Tryd.prog (binOp .eql 62 (.agg (h8 x)) (.agg (h8 a))) w = .ok (Value.bool false) w := fun w => by
            rw [eql_hash, show (some x == some a) = false from by simpa using hx]
          go_wp2_with (first | (refine wpList_load8 rfl 62 _ rfl _ rfl _ Tryd.underlying62 info8 ?_ ?_ ?_; rotate_left; focus ((repeat (first | (with_reducible assumption) | ((with_reducible refine hashOf_zero' ?_); (first | rfl | (simp; done) | (simp; omega))) | ((with_reducible refine hashOf_at ?_); (first | rfl | (simp; done) | (simp; omega))) | (with_reducible exact hashOf_set' ⟨_, by assumption⟩ _) | ((with_reducible refine hashOf_set' (Is8_zero ?_) _); (first | rfl | (simp; done) | (simp; omega))) | (with_reducible refine hashOf_old ?_ _) | ((with_reducible refine hashOf_other ?_ _ ?_); rotate_left; (focus (first | (simp; done) | (simp; omega) | omega))) | (with_reducible refine hashOf_drew ?_) | (with_reducible refine hashOf_below ?_ (by assumption)))); done)) | (refine wpList_store8 rfl 62 _ _ rfl _ _ rfl rfl info8 ?_ ?_ ?_; rotate_left; focus ((repeat (first | (with_reducible assumption) | ((with_reducible refine hashOf_zero' ?_); (first | rfl | (simp; done) | (simp; omega))) | ((with_reducible refine hashOf_at ?_); (first | rfl | (simp; done) | (simp; omega))) | (with_reducible exact hashOf_set' ⟨_, by assumption⟩ _) | ((with_reducible refine hashOf_set' (Is8_zero ?_) _); (first | rfl | (simp; done) | (simp; omega))) | (with_reducible refine hashOf_old ?_ _) | ((with_reducible refine hashOf_other ?_ _ ?_); rotate_left; (focus (first | (simp; done) | (simp; omega) | omega))) | (with_reducible refine hashOf_drew ?_) | (with_reducible refine hashOf_below ?_ (by assumption)))); done)))
          go_ret
          refine ⟨ret_bool ?_, FIN.out _ _⟩
          rw [HI.out, ← HRR.out]
          simp [hx]
    · have hd2 : decide (n < m) = true := decide_eq_true (by omega)
      clear h
      subst hv
      go_enter Tryd.func65, Tryd.ntmps65
      go_wp2
      go_ret
      exact ⟨ret_bool (by simp [consistent]; omega), (below_alloc w _).alloc (by simp) _⟩
  · have hd : decide (m < 1) = true := decide_eq_true (by omega)
    clear h
    subst hv
    go_enter Tryd.func65, Tryd.ntmps65
    go_wp2
    go_ret
    exact ⟨ret_bool (by simp [consistent]; omega), (below_alloc w _).alloc (by simp) _⟩
set_option maxHeartbeats 400000 in
theorem tconsistent_any (p : List Hsh) (a b : Hsh) (m n : Int) (v : Value) (w : World) (h : HashesAt w v p) (hm : -9223372036854775808 ≤ m) (hn : n ≤ 9223372036854775807) (hl : p.length ≤ 1048576) :
    Calls Tryd.prog 43 #[.int .i64 m, .int .i64 n, .agg (h8 a), .agg (h8 b), v] w fun e w' => e = .returned (.bool (consistent m n a b p)) ∧ Below w.heap.size w w' := by
  have HH := Lib.hid h
  clear h
  go_enter Tryd.func43, Tryd.ntmps43
  go_wp2_with (refine wpList_load8 rfl 62 _ rfl _ rfl _ Tryd.underlying62 info8 ?_ ?_ ?_; rotate_left; focus ((repeat (first | (with_reducible assumption) | ((with_reducible refine hashOf_zero' ?_); (first | rfl | (simp; done) | (simp; omega))) | ((with_reducible refine hashOf_at ?_); (first | rfl | (simp; done) | (simp; omega))) | (with_reducible exact hashOf_set' ⟨_, by assumption⟩ _) | ((with_reducible refine hashOf_set' (Is8_zero ?_) _); (first | rfl | (simp; done) | (simp; omega))) | (with_reducible refine hashOf_old ?_ _) | ((with_reducible refine hashOf_other ?_ _ ?_); rotate_left; (focus (first | (simp; done) | (simp; omega) | omega))) | (with_reducible refine hashOf_drew ?_) | (with_reducible refine hashOf_below ?_ (by assumption)))); done))
  refine (mconsistent_any p a b m n v _ (Cells.below HH.out ((below_alloc w _).alloc (by simp) _)) hm hn hl).mono ?_
  rintro e w1 ⟨rfl, hb⟩
  go_wp2
  go_ret
  exact ⟨rfl, ((below_alloc w _).alloc (by simp) _).trans (hb.mono (by simp; omega))⟩
set_option maxHeartbeats 400000 in
theorem pconsistent_any (ss : List ByteArray) (a b : ByteArray) (m n : Int) (v : Value) (w : World) (h : StrsAt w v ss) (hm : -9223372036854775808 ≤ m) (hn : n ≤ 9223372036854775807) (hl : ss.length ≤ 1048576)
    (hs : ∀ s ∈ ss, s.size ≤ 9223372036854775807) (h1 : a.size ≤ 9223372036854775807) (h2 : b.size ≤ 9223372036854775807) :
    Calls Tryd.prog 19 #[.int .i64 m, .int .i64 n, .string a, .string b, v] w fun e w' => e = .returned (.bool (consistent m n (eightOf a.data.toList) (eightOf b.data.toList) (eightsOf ss))) ∧ Below w.heap.size w w' := by
  have HH := Lib.hid h
  have HS' := Lib.hid hs
  clear h hs
  go_enter Tryd.func19, Tryd.ntmps19
  go_wp2_with fail
  refine (hash_any a _ h1).mono ?_
  rintro e w1 ⟨rfl, hb1⟩
  go_wp2_with fail
  refine (hash_any b _ h2).mono ?_
  rintro e w2 ⟨rfl, hb2⟩
  have HB2 := Lib.hid (hb1.trans (hb2.mono hb1.size))
  clear hb1 hb2
  go_wp2_with fail
  refine (hashes_any v ss _ (HH.out.below HB2.out) hl HS'.out).mono ?_
  rintro e w3 ⟨v3, rfl, ho3, hb3⟩
  have HB3 := Lib.hid (HB2.out.trans (hb3.mono HB2.out.size))
  clear hb3
  go_wp2_with fail
  refine (tconsistent_any (eightsOf ss) (eightOf a.data.toList) (eightOf b.data.toList) m n v3 _ (ownsRow_cells ho3) hm hn (by simpa [eightsOf] using hl)).mono ?_
  rintro e w4 ⟨rfl, hb4⟩
  go_wp2
  go_ret
  exact ⟨rfl, HB3.out.trans (hb4.mono HB3.out.size)⟩
end Go.Proofs.YtefccfakhgdfbaaDoor
