/-
  The walks of merkle.include, merkle.Included, tiles.Included, plain.Included.
-/
import Derived.Test.YtefccfakhgdfbabGreatDoorPb12
import Derived.Test.YtefccfakhgdfbabGreatDoorPb05
import Derived.Test.YtefccfakhgdfbabGreatDoorPb02
import Derived.RegionTactic
import Derived.BigRegion
set_option linter.unusedVariables false
set_option linter.unusedSimpArgs false
section
namespace Go.Proofs.YtefccfakhgdfbabGreatDoor
open Go.RowKit
def IncludePost (leaf : Hsh) (i n : Nat) (p : List Hsh) (w : World) (e : Ending) (w' : World) : Prop :=
  ∃ s : Hsh, e = .returned (.tuple #[.agg (h8 s), .bool (rebuild leaf i n p).isSome]) ∧ (∀ h, rebuild leaf i n p = some h → s = h) ∧ Below w.heap.size w w'
theorem flat_len (q : List Hsh) : (q.flatMap fun h => (h8 h).toList).length = q.length * 8 := by
  induction q with
  | nil => rfl
  | cons y q ih => rw [List.flatMap_cons, List.length_append, ih, List.length_cons]; simp; omega
theorem hashes_init {w : World} {a : Option Addr} {c m : Nat} {q : List Hsh} {x : Hsh} (h : HashesAt w (.slice a (m + 1) c) (q ++ [x])) (hm : q.length = m) :
    ∃ b off, a = some ⟨b, off, none⟩ ∧ m + 1 ≤ c ∧ (∀ j (hj : j < 8), w.cell? ⟨b, off + m * 8 + j, none⟩ = some (u8 x[j])) ∧ HashesAt w (.slice (some ⟨b, off, none⟩) m c) q := by
  obtain ⟨a', c', hv, hcap, hc⟩ := h
  have hl : (q.flatMap fun h => (h8 h).toList).length = m * 8 := by rw [flat_len, hm]
  simp only [Value.slice.injEq] at hv
  obtain ⟨rfl, _, rfl⟩ := hv
  have hg : ∀ j (hj : j < 8), ((q ++ [x]).flatMap fun h => (h8 h).toList)[m * 8 + j]? = some (u8 x[j]) := fun j hj => by
    rw [List.flatMap_append, List.getElem?_append_right (by omega), hl]
    have : m * 8 + j - m * 8 = j := by omega
    rw [this]
    simp [h8, hj]
  obtain ⟨b, off, rfl, _⟩ := hc _ _ (hg 0 (by omega))
  refine ⟨b, off, rfl, by simpa [hm] using hcap, fun j hj => ?_, ⟨_, c, by rw [hm], by simp at hcap; omega, fun j y hy => ?_⟩⟩
  · obtain ⟨b', off', heq, hcell⟩ := hc _ _ (hg j hj)
    cases heq
    rw [Nat.add_assoc]
    exact hcell
  · refine hc j y ?_
    rw [List.flatMap_append, List.getElem?_append_left (List.getElem?_eq_some_iff.1 hy).1]
    exact hy
section
attribute [local go_sem] h8_0 h8_1 h8_2 h8_3 h8_4 h8_5 h8_6 h8_7 h8_fold h8_size
set_option maxHeartbeats 1000000 in
theorem include_any (m : Nat) : ∀ (p : List Hsh) (leaf : Hsh) (i n : Int) (v : Value) (w : World), p.length = m → HashesAt w v p → 0 ≤ i → i < n → n ≤ 9223372036854775807 → m ≤ 1048576 →
    Calls Tryz.prog 148 #[.agg (h8 leaf), .int .i64 i, .int .i64 n, v] w (IncludePost leaf i.toNat n.toNat p w) := by
  induction m with
  | zero =>
    intro p leaf i n v w hp h h0 hi hn hm
    obtain rfl : p = [] := List.eq_nil_of_length_eq_zero hp
    obtain ⟨a, c, rfl, hcap, _⟩ := h
    clear hp
    by_cases h1 : n = 1
    · subst h1
      go_enter Tryz.func148, Tryz.ntmps148
      go_wp2_with (first | (refine wpList_load8 rfl 109 _ rfl _ rfl _ Tryz.underlying109 info8 ?_ ?_ ?_; rotate_left; focus ((repeat (first | (with_reducible assumption) | ((with_reducible refine hashOf_zero' ?_); (first | rfl | (simp; done) | (simp; omega))) | ((with_reducible refine hashOf_at ?_); (first | rfl | (simp; done) | (simp; omega))) | (with_reducible exact hashOf_set' ⟨_, by assumption⟩ _) | ((with_reducible refine hashOf_set' (Is8_zero ?_) _); (first | rfl | (simp; done) | (simp; omega))) | (with_reducible refine hashOf_old ?_ _) | ((with_reducible refine hashOf_other ?_ _ ?_); rotate_left; (focus (first | (simp; done) | (simp; omega) | omega))) | (with_reducible refine hashOf_drew ?_) | (with_reducible refine hashOf_below ?_ (by assumption)))); done)) | (refine wpList_store8 rfl 109 _ _ rfl _ _ rfl rfl info8 ?_ ?_ ?_; rotate_left; focus ((repeat (first | (with_reducible assumption) | ((with_reducible refine hashOf_zero' ?_); (first | rfl | (simp; done) | (simp; omega))) | ((with_reducible refine hashOf_at ?_); (first | rfl | (simp; done) | (simp; omega))) | (with_reducible exact hashOf_set' ⟨_, by assumption⟩ _) | ((with_reducible refine hashOf_set' (Is8_zero ?_) _); (first | rfl | (simp; done) | (simp; omega))) | (with_reducible refine hashOf_old ?_ _) | ((with_reducible refine hashOf_other ?_ _ ?_); rotate_left; (focus (first | (simp; done) | (simp; omega) | omega))) | (with_reducible refine hashOf_drew ?_) | (with_reducible refine hashOf_below ?_ (by assumption)))); done)))
      refine ret8t (w.heap.size + 1) leaf (.bool true) rfl rfl rfl _ Tryz.underlying109 info8 (hashOf_set' (Is8_zero (by simp)) _) rfl ⟨leaf, by simp [rebuild_nil], ?_, below_setRow ((below_alloc w _).alloc (by simp) _) (by omega) _⟩
      intro h hh
      simp [rebuild_nil] at hh
      exact hh
    · have hd : (n == 1) = false := by simpa using h1
      go_enter Tryz.func148, Tryz.ntmps148
      go_wp2_with (first | (refine wpList_load8 rfl 109 _ rfl _ rfl _ Tryz.underlying109 info8 ?_ ?_ ?_; rotate_left; focus ((repeat (first | (with_reducible assumption) | ((with_reducible refine hashOf_zero' ?_); (first | rfl | (simp; done) | (simp; omega))) | ((with_reducible refine hashOf_at ?_); (first | rfl | (simp; done) | (simp; omega))) | (with_reducible exact hashOf_set' ⟨_, by assumption⟩ _) | ((with_reducible refine hashOf_set' (Is8_zero ?_) _); (first | rfl | (simp; done) | (simp; omega))) | (with_reducible refine hashOf_old ?_ _) | ((with_reducible refine hashOf_other ?_ _ ?_); rotate_left; (focus (first | (simp; done) | (simp; omega) | omega))) | (with_reducible refine hashOf_drew ?_) | (with_reducible refine hashOf_below ?_ (by assumption)))); done)) | (refine wpList_store8 rfl 109 _ _ rfl _ zero8 rfl (by rw [h8_zero]; rfl) info8 ?_ ?_ ?_; rotate_left; focus ((repeat (first | (with_reducible assumption) | ((with_reducible refine hashOf_zero' ?_); (first | rfl | (simp; done) | (simp; omega))) | ((with_reducible refine hashOf_at ?_); (first | rfl | (simp; done) | (simp; omega))) | (with_reducible exact hashOf_set' ⟨_, by assumption⟩ _) | ((with_reducible refine hashOf_set' (Is8_zero ?_) _); (first | rfl | (simp; done) | (simp; omega))) | (with_reducible refine hashOf_old ?_ _) | ((with_reducible refine hashOf_other ?_ _ ?_); rotate_left; (focus (first | (simp; done) | (simp; omega) | omega))) | (with_reducible refine hashOf_drew ?_) | (with_reducible refine hashOf_below ?_ (by assumption)))); done)))
      have hr : rebuild leaf i.toNat n.toNat [] = none := by rw [rebuild_nil, if_neg (by omega)]
      refine ret8t (w.heap.size + 1) zero8 (.bool false) rfl rfl rfl _ Tryz.underlying109 info8 (hashOf_set' (Is8_zero (by simp)) _) rfl ⟨zero8, by rw [hr]; rfl, (fun h hh => by rw [hr] at hh; cases hh), below_setRow ((below_alloc w _).alloc (by simp) _) (by omega) _⟩
  | succ m ih =>
    intro p leaf i n v w hp h h0 hi hn hm
    obtain ⟨q, last, rfl⟩ : ∃ q last, p = q ++ [last] := ⟨p.dropLast, p.getLast (by intro e; simp [e] at hp), (List.dropLast_concat_getLast _).symm⟩
    have hq : q.length = m := by simpa using hp
    obtain ⟨a, c, hv, _⟩ := id h
    rw [hp] at hv
    subst hv
    obtain ⟨b, off, rfl, hcap, hcell, hinit⟩ := hashes_init h hq
    have HQ := Lib.hid hinit
    have IH := Lib.hid ih
    have HL := Lib.hid hq
    have HP := Lib.hid hp
    clear ih h hinit hq hp
    by_cases h1 : n = 1
    · subst h1
      have hz0 : ((m : Int) + 1 == 0) = false := by rw [beq_eq_false_iff_ne]; omega
      go_enter Tryz.func148, Tryz.ntmps148
      go_wp2_with (first | (refine wpList_load8 rfl 109 _ rfl _ rfl _ Tryz.underlying109 info8 ?_ ?_ ?_; rotate_left; focus ((repeat (first | (with_reducible assumption) | ((with_reducible refine hashOf_zero' ?_); (first | rfl | (simp; done) | (simp; omega))) | ((with_reducible refine hashOf_at ?_); (first | rfl | (simp; done) | (simp; omega))) | (with_reducible exact hashOf_set' ⟨_, by assumption⟩ _) | ((with_reducible refine hashOf_set' (Is8_zero ?_) _); (first | rfl | (simp; done) | (simp; omega))) | (with_reducible refine hashOf_old ?_ _) | ((with_reducible refine hashOf_other ?_ _ ?_); rotate_left; (focus (first | (simp; done) | (simp; omega) | omega))) | (with_reducible refine hashOf_drew ?_) | (with_reducible refine hashOf_below ?_ (by assumption)))); done)) | (refine wpList_store8 rfl 109 _ _ rfl _ _ rfl rfl info8 ?_ ?_ ?_; rotate_left; focus ((repeat (first | (with_reducible assumption) | ((with_reducible refine hashOf_zero' ?_); (first | rfl | (simp; done) | (simp; omega))) | ((with_reducible refine hashOf_at ?_); (first | rfl | (simp; done) | (simp; omega))) | (with_reducible exact hashOf_set' ⟨_, by assumption⟩ _) | ((with_reducible refine hashOf_set' (Is8_zero ?_) _); (first | rfl | (simp; done) | (simp; omega))) | (with_reducible refine hashOf_old ?_ _) | ((with_reducible refine hashOf_other ?_ _ ?_); rotate_left; (focus (first | (simp; done) | (simp; omega) | omega))) | (with_reducible refine hashOf_drew ?_) | (with_reducible refine hashOf_below ?_ (by assumption)))); done)))
      have hr : rebuild leaf i.toNat (1 : Int).toNat (q ++ [last]) = none := by rw [rebuild_snoc, if_pos (by decide)]
      refine ret8t (w.heap.size + 1) leaf (.bool false) rfl rfl rfl _ Tryz.underlying109 info8 (hashOf_set' (Is8_zero (by simp)) _) rfl ⟨leaf, by rw [hr]; rfl, (fun h hh => by rw [hr] at hh; cases hh), below_setRow ((below_alloc w _).alloc (by simp) _) (by omega) _⟩
    · have hd : (n == 1) = false := by simpa using h1
      have hbd := below_bd (n := n.toNat) (by omega) (by omega)
      have hr := rebuild_snoc leaf last i.toNat n.toNat q
      rw [if_neg (by omega)] at hr
      obtain ⟨k, hk⟩ : ∃ k, k = below n.toNat := ⟨_, rfl⟩
      rw [← hk] at hbd hr
      obtain ⟨hb1, hb2, hb3⟩ := hbd
      have HR := Lib.hid hr
      have HK := Lib.hid hk
      clear hr hk
      have c0 : w.cell? ⟨b, off + m * 8, none⟩ = some (u8 last[0]) := hcell 0 (by decide)
      have c1 := hcell 1 (by decide)
      have c2 := hcell 2 (by decide)
      have c3 := hcell 3 (by decide)
      have c4 := hcell 4 (by decide)
      have c5 := hcell 5 (by decide)
      have c6 := hcell 6 (by decide)
      have c7 := hcell 7 (by decide)
      have HCell := Lib.hid hcell
      have hst := run_store8 (P := Tryz.prog) (w := (((w.alloc (.cells (h8 leaf) 109)).alloc (.cells #[.int .u8 0, .int .u8 0, .int .u8 0, .int .u8 0, .int .u8 0, .int .u8 0, .int .u8 0, .int .u8 0] 109)).alloc (.cells #[.int .u8 0, .int .u8 0, .int .u8 0, .int .u8 0, .int .u8 0, .int .u8 0, .int .u8 0, .int .u8 0] 109)).drew) (g := w.heap.size + 1 + 1) last ⟨zero8, hashOf_drew (hashOf_zero' (by simp))⟩
      have hbw : b < w.heap.size := cell_lt c0
      have hbw1 : b < w.heap.size + 1 := by omega
      have hbw2 : b < w.heap.size + 1 + 1 := by omega
      have hz0 : ((m : Int) + 1 == 0) = false := by rw [beq_eq_false_iff_ne]; omega
      clear hcell
      by_cases hik : i < (k : Int)
      · go_enter Tryz.func148, Tryz.ntmps148
        go_wp2_with fail
        go_region
        have f1 : hashOf (((((w.alloc (.cells (h8 leaf) 109)).alloc (.cells #[.int .u8 0, .int .u8 0, .int .u8 0, .int .u8 0, .int .u8 0, .int .u8 0, .int .u8 0, .int .u8 0] 109)).alloc (.cells #[.int .u8 0, .int .u8 0, .int .u8 0, .int .u8 0, .int .u8 0, .int .u8 0, .int .u8 0, .int .u8 0] 109)).drew).setRow (w.heap.size + 1 + 1) (h8 last)) w.heap.size leaf := hashOf_other (hashOf_drew (hashOf_old (hashOf_old (hashOf_new w leaf) _) _)) _ (by omega)
        have f2 : hashOf (((((w.alloc (.cells (h8 leaf) 109)).alloc (.cells #[.int .u8 0, .int .u8 0, .int .u8 0, .int .u8 0, .int .u8 0, .int .u8 0, .int .u8 0, .int .u8 0] 109)).alloc (.cells #[.int .u8 0, .int .u8 0, .int .u8 0, .int .u8 0, .int .u8 0, .int .u8 0, .int .u8 0, .int .u8 0] 109)).drew).setRow (w.heap.size + 1 + 1) (h8 last)) (w.heap.size + 1) zero8 := hashOf_other (hashOf_drew (hashOf_old (hashOf_zero' (by simp)) _)) _ (by omega)
        have f3 : hashOf (((((w.alloc (.cells (h8 leaf) 109)).alloc (.cells #[.int .u8 0, .int .u8 0, .int .u8 0, .int .u8 0, .int .u8 0, .int .u8 0, .int .u8 0, .int .u8 0] 109)).alloc (.cells #[.int .u8 0, .int .u8 0, .int .u8 0, .int .u8 0, .int .u8 0, .int .u8 0, .int .u8 0, .int .u8 0] 109)).drew).setRow (w.heap.size + 1 + 1) (h8 last)) (w.heap.size + 1 + 1) last := hashOf_set (hashOf_drew (hashOf_zero' (by simp))) _
        have f4 : Below w.heap.size w (((((w.alloc (.cells (h8 leaf) 109)).alloc (.cells #[.int .u8 0, .int .u8 0, .int .u8 0, .int .u8 0, .int .u8 0, .int .u8 0, .int .u8 0, .int .u8 0] 109)).alloc (.cells #[.int .u8 0, .int .u8 0, .int .u8 0, .int .u8 0, .int .u8 0, .int .u8 0, .int .u8 0, .int .u8 0] 109)).drew).setRow (w.heap.size + 1 + 1) (h8 last)) := below_setRow (((((below_alloc w _).alloc (by simp) _).alloc (by simp; omega) _).drew)) (by omega) _
        have f5 : (((((w.alloc (.cells (h8 leaf) 109)).alloc (.cells #[.int .u8 0, .int .u8 0, .int .u8 0, .int .u8 0, .int .u8 0, .int .u8 0, .int .u8 0, .int .u8 0] 109)).alloc (.cells #[.int .u8 0, .int .u8 0, .int .u8 0, .int .u8 0, .int .u8 0, .int .u8 0, .int .u8 0, .int .u8 0] 109)).drew).setRow (w.heap.size + 1 + 1) (h8 last)).heap.size = w.heap.size + 1 + 1 + 1 := by simp
        have F4 := Lib.hid f4
        have F5 := Lib.hid f5
        clear f4 f5 hst
        generalize (((((w.alloc (.cells (h8 leaf) 109)).alloc (.cells #[.int .u8 0, .int .u8 0, .int .u8 0, .int .u8 0, .int .u8 0, .int .u8 0, .int .u8 0, .int .u8 0] 109)).alloc (.cells #[.int .u8 0, .int .u8 0, .int .u8 0, .int .u8 0, .int .u8 0, .int .u8 0, .int .u8 0, .int .u8 0] 109)).drew).setRow (w.heap.size + 1 + 1) (h8 last)) = W2 at *
        go_wp2_with fail
        refine (split_any _ _ (by omega) (by omega)).mono ?_
        rintro e w0 ⟨rfl, rfl⟩
        rw [← HK.out]
        go_wp2_with (refine wpList_load8 rfl 109 _ rfl _ rfl _ Tryz.underlying109 info8 ?_ ?_ ?_; rotate_left; focus ((repeat (first | (with_reducible assumption) | ((with_reducible refine hashOf_zero' ?_); (first | rfl | (simp; done) | (simp; omega))) | ((with_reducible refine hashOf_at ?_); (first | rfl | (simp; done) | (simp; omega))) | (with_reducible exact hashOf_set' ⟨_, by assumption⟩ _) | ((with_reducible refine hashOf_set' (Is8_zero ?_) _); (first | rfl | (simp; done) | (simp; omega))) | (with_reducible refine hashOf_old ?_ _) | ((with_reducible refine hashOf_other ?_ _ ?_); rotate_left; (focus (first | (simp; done) | (simp; omega) | omega))) | (with_reducible refine hashOf_drew ?_) | (with_reducible refine hashOf_below ?_ (by assumption)))); done))
        refine (IH.out q leaf i k _ _ HL.out (Cells.below HQ.out F4.out) h0 hik (by omega) (by omega)).mono ?_
        rintro e w1 ⟨s, rfl, hsh, hb⟩
        have hz : w.heap.size + 3 ≤ w1.heap.size := by have := hb.size; rw [F5.out] at this; omega
        have g2 := hashOf_below f2 hb
        have g3 := hashOf_below f3 hb
        have HSH := Lib.hid hsh
        have F6 := Lib.hid (F4.out.trans (hb.mono F4.out.size))
        clear hsh f1 f2 f3 hb
        obtain ⟨r, hrr⟩ : ∃ r, r = rebuild leaf i.toNat (k : Int).toNat q := ⟨_, rfl⟩
        rw [← hrr]
        have HRR := Lib.hid hrr
        clear hrr
        go_wp2_with (first | (refine wpList_load8 rfl 109 _ rfl _ rfl _ Tryz.underlying109 info8 ?_ ?_ ?_; rotate_left; focus ((repeat (first | (with_reducible assumption) | ((with_reducible refine hashOf_zero' ?_); (first | rfl | (simp; done) | (simp; omega))) | ((with_reducible refine hashOf_at ?_); (first | rfl | (simp; done) | (simp; omega))) | (with_reducible exact hashOf_set' ⟨_, by assumption⟩ _) | ((with_reducible refine hashOf_set' (Is8_zero ?_) _); (first | rfl | (simp; done) | (simp; omega))) | (with_reducible refine hashOf_old ?_ _) | ((with_reducible refine hashOf_other ?_ _ ?_); rotate_left; (focus (first | (simp; done) | (simp; omega) | omega))) | (with_reducible refine hashOf_drew ?_) | (with_reducible refine hashOf_below ?_ (by assumption)))); done)) | (refine wpList_store8 rfl 109 _ _ rfl _ _ rfl rfl info8 ?_ ?_ ?_; rotate_left; focus ((repeat (first | (with_reducible assumption) | ((with_reducible refine hashOf_zero' ?_); (first | rfl | (simp; done) | (simp; omega))) | ((with_reducible refine hashOf_at ?_); (first | rfl | (simp; done) | (simp; omega))) | (with_reducible exact hashOf_set' ⟨_, by assumption⟩ _) | ((with_reducible refine hashOf_set' (Is8_zero ?_) _); (first | rfl | (simp; done) | (simp; omega))) | (with_reducible refine hashOf_old ?_ _) | ((with_reducible refine hashOf_other ?_ _ ?_); rotate_left; (focus (first | (simp; done) | (simp; omega) | omega))) | (with_reducible refine hashOf_drew ?_) | (with_reducible refine hashOf_below ?_ (by assumption)))); done)))
        refine (node_any s last _).mono ?_
        rintro e w2 ⟨rfl, hb2⟩
        have k2 : hashOf w2 (w.heap.size + 1) zero8 := by
          (repeat (first | (with_reducible assumption) | ((with_reducible refine hashOf_zero' ?_); (first | rfl | (simp; done) | (simp; omega))) | ((with_reducible refine hashOf_at ?_); (first | rfl | (simp; done) | (simp; omega))) | (with_reducible exact hashOf_set' ⟨_, by assumption⟩ _) | ((with_reducible refine hashOf_set' (Is8_zero ?_) _); (first | rfl | (simp; done) | (simp; omega))) | (with_reducible refine hashOf_old ?_ _) | ((with_reducible refine hashOf_other ?_ _ ?_); rotate_left; (focus (first | (simp; done) | (simp; omega) | omega))) | (with_reducible refine hashOf_drew ?_) | (with_reducible refine hashOf_below ?_ (by assumption))))
        have F7 : Below w.heap.size w w2 := (below_setRow (F6.out.alloc F6.out.size _) F6.out.size _).trans (hb2.mono (by simp; omega))
        go_wp2_with (first | (refine wpList_store8 rfl 109 _ _ rfl _ _ rfl rfl info8 ?_ ?_ ?_; rotate_left; focus ((repeat (first | (with_reducible assumption) | ((with_reducible refine hashOf_zero' ?_); (first | rfl | (simp; done) | (simp; omega))) | ((with_reducible refine hashOf_at ?_); (first | rfl | (simp; done) | (simp; omega))) | (with_reducible exact hashOf_set' ⟨_, by assumption⟩ _) | ((with_reducible refine hashOf_set' (Is8_zero ?_) _); (first | rfl | (simp; done) | (simp; omega))) | (with_reducible refine hashOf_old ?_ _) | ((with_reducible refine hashOf_other ?_ _ ?_); rotate_left; (focus (first | (simp; done) | (simp; omega) | omega))) | (with_reducible refine hashOf_drew ?_) | (with_reducible refine hashOf_below ?_ (by assumption)))); done)))
        have hre : rebuild leaf i.toNat n.toNat (q ++ [last]) = r.map (nodeH · last) := by
          rw [HR.out, if_pos (by omega), HRR.out]; rfl
        refine ret8t (w.heap.size + 1) (nodeH s last) (.bool r.isSome) rfl rfl rfl _ Tryz.underlying109 info8 (hashOf_set k2 _) rfl ⟨_, by rw [hre, Option.isSome_map], fun h hh => ?_, below_setRow F7 (by omega) _⟩
        rw [hre] at hh
        obtain ⟨h', hh', rfl⟩ := Option.map_eq_some_iff.1 hh
        rw [HSH.out h' (by rw [← HRR.out]; exact hh')]
      · go_enter Tryz.func148, Tryz.ntmps148
        go_wp2_with fail
        go_region
        have f1 : hashOf (((((w.alloc (.cells (h8 leaf) 109)).alloc (.cells #[.int .u8 0, .int .u8 0, .int .u8 0, .int .u8 0, .int .u8 0, .int .u8 0, .int .u8 0, .int .u8 0] 109)).alloc (.cells #[.int .u8 0, .int .u8 0, .int .u8 0, .int .u8 0, .int .u8 0, .int .u8 0, .int .u8 0, .int .u8 0] 109)).drew).setRow (w.heap.size + 1 + 1) (h8 last)) w.heap.size leaf := hashOf_other (hashOf_drew (hashOf_old (hashOf_old (hashOf_new w leaf) _) _)) _ (by omega)
        have f2 : hashOf (((((w.alloc (.cells (h8 leaf) 109)).alloc (.cells #[.int .u8 0, .int .u8 0, .int .u8 0, .int .u8 0, .int .u8 0, .int .u8 0, .int .u8 0, .int .u8 0] 109)).alloc (.cells #[.int .u8 0, .int .u8 0, .int .u8 0, .int .u8 0, .int .u8 0, .int .u8 0, .int .u8 0, .int .u8 0] 109)).drew).setRow (w.heap.size + 1 + 1) (h8 last)) (w.heap.size + 1) zero8 := hashOf_other (hashOf_drew (hashOf_old (hashOf_zero' (by simp)) _)) _ (by omega)
        have f3 : hashOf (((((w.alloc (.cells (h8 leaf) 109)).alloc (.cells #[.int .u8 0, .int .u8 0, .int .u8 0, .int .u8 0, .int .u8 0, .int .u8 0, .int .u8 0, .int .u8 0] 109)).alloc (.cells #[.int .u8 0, .int .u8 0, .int .u8 0, .int .u8 0, .int .u8 0, .int .u8 0, .int .u8 0, .int .u8 0] 109)).drew).setRow (w.heap.size + 1 + 1) (h8 last)) (w.heap.size + 1 + 1) last := hashOf_set (hashOf_drew (hashOf_zero' (by simp))) _
        have f4 : Below w.heap.size w (((((w.alloc (.cells (h8 leaf) 109)).alloc (.cells #[.int .u8 0, .int .u8 0, .int .u8 0, .int .u8 0, .int .u8 0, .int .u8 0, .int .u8 0, .int .u8 0] 109)).alloc (.cells #[.int .u8 0, .int .u8 0, .int .u8 0, .int .u8 0, .int .u8 0, .int .u8 0, .int .u8 0, .int .u8 0] 109)).drew).setRow (w.heap.size + 1 + 1) (h8 last)) := below_setRow (((((below_alloc w _).alloc (by simp) _).alloc (by simp; omega) _).drew)) (by omega) _
        have f5 : (((((w.alloc (.cells (h8 leaf) 109)).alloc (.cells #[.int .u8 0, .int .u8 0, .int .u8 0, .int .u8 0, .int .u8 0, .int .u8 0, .int .u8 0, .int .u8 0] 109)).alloc (.cells #[.int .u8 0, .int .u8 0, .int .u8 0, .int .u8 0, .int .u8 0, .int .u8 0, .int .u8 0, .int .u8 0] 109)).drew).setRow (w.heap.size + 1 + 1) (h8 last)).heap.size = w.heap.size + 1 + 1 + 1 := by simp
        have F4 := Lib.hid f4
        have F5 := Lib.hid f5
        clear f4 f5 hst
        generalize (((((w.alloc (.cells (h8 leaf) 109)).alloc (.cells #[.int .u8 0, .int .u8 0, .int .u8 0, .int .u8 0, .int .u8 0, .int .u8 0, .int .u8 0, .int .u8 0] 109)).alloc (.cells #[.int .u8 0, .int .u8 0, .int .u8 0, .int .u8 0, .int .u8 0, .int .u8 0, .int .u8 0, .int .u8 0] 109)).drew).setRow (w.heap.size + 1 + 1) (h8 last)) = W2 at *
        go_wp2_with fail
        refine (split_any _ _ (by omega) (by omega)).mono ?_
        rintro e w0 ⟨rfl, rfl⟩
        rw [← HK.out]
        go_wp2_with (refine wpList_load8 rfl 109 _ rfl _ rfl _ Tryz.underlying109 info8 ?_ ?_ ?_; rotate_left; focus ((repeat (first | (with_reducible assumption) | ((with_reducible refine hashOf_zero' ?_); (first | rfl | (simp; done) | (simp; omega))) | ((with_reducible refine hashOf_at ?_); (first | rfl | (simp; done) | (simp; omega))) | (with_reducible exact hashOf_set' ⟨_, by assumption⟩ _) | ((with_reducible refine hashOf_set' (Is8_zero ?_) _); (first | rfl | (simp; done) | (simp; omega))) | (with_reducible refine hashOf_old ?_ _) | ((with_reducible refine hashOf_other ?_ _ ?_); rotate_left; (focus (first | (simp; done) | (simp; omega) | omega))) | (with_reducible refine hashOf_drew ?_) | (with_reducible refine hashOf_below ?_ (by assumption)))); done))
        refine (IH.out q leaf (i - k) (n - k) _ _ HL.out (Cells.below HQ.out F4.out) (by omega) (by omega) (by omega) (by omega)).mono ?_
        rintro e w1 ⟨s, rfl, hsh, hb⟩
        have hz : w.heap.size + 3 ≤ w1.heap.size := by have := hb.size; rw [F5.out] at this; omega
        have g2 := hashOf_below f2 hb
        have g3 := hashOf_below f3 hb
        have HSH := Lib.hid hsh
        have F6 := Lib.hid (F4.out.trans (hb.mono F4.out.size))
        clear hsh f1 f2 f3 hb
        obtain ⟨r, hrr⟩ : ∃ r, r = rebuild leaf (i - k).toNat (n - k).toNat q := ⟨_, rfl⟩
        rw [← hrr]
        have HRR := Lib.hid hrr
        clear hrr
        go_wp2_with (first | (refine wpList_load8 rfl 109 _ rfl _ rfl _ Tryz.underlying109 info8 ?_ ?_ ?_; rotate_left; focus ((repeat (first | (with_reducible assumption) | ((with_reducible refine hashOf_zero' ?_); (first | rfl | (simp; done) | (simp; omega))) | ((with_reducible refine hashOf_at ?_); (first | rfl | (simp; done) | (simp; omega))) | (with_reducible exact hashOf_set' ⟨_, by assumption⟩ _) | ((with_reducible refine hashOf_set' (Is8_zero ?_) _); (first | rfl | (simp; done) | (simp; omega))) | (with_reducible refine hashOf_old ?_ _) | ((with_reducible refine hashOf_other ?_ _ ?_); rotate_left; (focus (first | (simp; done) | (simp; omega) | omega))) | (with_reducible refine hashOf_drew ?_) | (with_reducible refine hashOf_below ?_ (by assumption)))); done)) | (refine wpList_store8 rfl 109 _ _ rfl _ _ rfl rfl info8 ?_ ?_ ?_; rotate_left; focus ((repeat (first | (with_reducible assumption) | ((with_reducible refine hashOf_zero' ?_); (first | rfl | (simp; done) | (simp; omega))) | ((with_reducible refine hashOf_at ?_); (first | rfl | (simp; done) | (simp; omega))) | (with_reducible exact hashOf_set' ⟨_, by assumption⟩ _) | ((with_reducible refine hashOf_set' (Is8_zero ?_) _); (first | rfl | (simp; done) | (simp; omega))) | (with_reducible refine hashOf_old ?_ _) | ((with_reducible refine hashOf_other ?_ _ ?_); rotate_left; (focus (first | (simp; done) | (simp; omega) | omega))) | (with_reducible refine hashOf_drew ?_) | (with_reducible refine hashOf_below ?_ (by assumption)))); done)))
        refine (node_any last s _).mono ?_
        rintro e w2 ⟨rfl, hb2⟩
        have k2 : hashOf w2 (w.heap.size + 1) zero8 := by
          (repeat (first | (with_reducible assumption) | ((with_reducible refine hashOf_zero' ?_); (first | rfl | (simp; done) | (simp; omega))) | ((with_reducible refine hashOf_at ?_); (first | rfl | (simp; done) | (simp; omega))) | (with_reducible exact hashOf_set' ⟨_, by assumption⟩ _) | ((with_reducible refine hashOf_set' (Is8_zero ?_) _); (first | rfl | (simp; done) | (simp; omega))) | (with_reducible refine hashOf_old ?_ _) | ((with_reducible refine hashOf_other ?_ _ ?_); rotate_left; (focus (first | (simp; done) | (simp; omega) | omega))) | (with_reducible refine hashOf_drew ?_) | (with_reducible refine hashOf_below ?_ (by assumption))))
        have F7 : Below w.heap.size w w2 := (below_setRow (F6.out.alloc F6.out.size _) F6.out.size _).trans (hb2.mono (by simp; omega))
        go_wp2_with (first | (refine wpList_store8 rfl 109 _ _ rfl _ _ rfl rfl info8 ?_ ?_ ?_; rotate_left; focus ((repeat (first | (with_reducible assumption) | ((with_reducible refine hashOf_zero' ?_); (first | rfl | (simp; done) | (simp; omega))) | ((with_reducible refine hashOf_at ?_); (first | rfl | (simp; done) | (simp; omega))) | (with_reducible exact hashOf_set' ⟨_, by assumption⟩ _) | ((with_reducible refine hashOf_set' (Is8_zero ?_) _); (first | rfl | (simp; done) | (simp; omega))) | (with_reducible refine hashOf_old ?_ _) | ((with_reducible refine hashOf_other ?_ _ ?_); rotate_left; (focus (first | (simp; done) | (simp; omega) | omega))) | (with_reducible refine hashOf_drew ?_) | (with_reducible refine hashOf_below ?_ (by assumption)))); done)))
        have hre : rebuild leaf i.toNat n.toNat (q ++ [last]) = r.map (nodeH last ·) := by
          rw [HR.out, if_neg (by omega), HRR.out]
          congr 2 <;> omega
        refine ret8t (w.heap.size + 1) (nodeH last s) (.bool r.isSome) rfl rfl rfl _ Tryz.underlying109 info8 (hashOf_set k2 _) rfl ⟨_, by rw [hre, Option.isSome_map], fun h hh => ?_, below_setRow F7 (by omega) _⟩
        rw [hre] at hh
        obtain ⟨h', hh', rfl⟩ := Option.map_eq_some_iff.1 hh
        rw [HSH.out h' (by rw [← HRR.out]; exact hh')]
end
theorem info8' : ∃ i, Tryz.prog.info? 5 = some i ∧ i.size = 1 := by
  obtain ⟨i0, hi, hz0, hz1, hz2⟩ := info_parts (show (Tryz.prog.info? 5).map (fun i => (i.zero, i.size, i.bytes)) = some (some (.int .u8 0), 1, 1) by kernel_rfl)
  exact ⟨i0, hi, hz1⟩
theorem part_u8 (w : World) (xs : Array Value) (i : Nat) (v : Value) (h : xs[i]? = some v) : Sem.run Tryz.prog (part 5 xs i) w = .ok v w := by
  obtain ⟨i0, hi, hs⟩ := info8'
  simp [part, run_underlying Tryz.underlying5, isAgg, sizeOf, typeInfo, hi, hs, h]
theorem vec8_eq (a b : Hsh) (e0 : a[0] = b[0]) (e1 : a[1] = b[1]) (e2 : a[2] = b[2]) (e3 : a[3] = b[3]) (e4 : a[4] = b[4]) (e5 : a[5] = b[5]) (e6 : a[6] = b[6]) (e7 : a[7] = b[7]) : a = b := by
  apply Vector.ext
  intro i hi
  have : i = 0 ∨ i = 1 ∨ i = 2 ∨ i = 3 ∨ i = 4 ∨ i = 5 ∨ i = 6 ∨ i = 7 := by omega
  rcases this with rfl | rfl | rfl | rfl | rfl | rfl | rfl | rfl <;> assumption
set_option maxHeartbeats 800000 in
theorem eqn (w : World) (a b : Hsh) : Sem.run Tryz.prog (Op.equalIn 10000 109 (.agg (h8 a)) (.agg (h8 b))) w = .ok (some a == some b) w := by
  rw [show (10000 : Nat) = 9998 + 1 + 1 from rfl, Op.equalIn]
  obtain ⟨i0, hi, hs⟩ := info8'
  have hp := fun w => part_u8 w (h8 a) 0 _ (h8_0 a)
  have hp1 := fun w => part_u8 w (h8 a) 1 _ (h8_1 a)
  have hp2 := fun w => part_u8 w (h8 a) 2 _ (h8_2 a)
  have hp3 := fun w => part_u8 w (h8 a) 3 _ (h8_3 a)
  have hp4 := fun w => part_u8 w (h8 a) 4 _ (h8_4 a)
  have hp5 := fun w => part_u8 w (h8 a) 5 _ (h8_5 a)
  have hp6 := fun w => part_u8 w (h8 a) 6 _ (h8_6 a)
  have hp7 := fun w => part_u8 w (h8 a) 7 _ (h8_7 a)
  have hq := fun w => part_u8 w (h8 b) 0 _ (h8_0 b)
  have hq1 := fun w => part_u8 w (h8 b) 1 _ (h8_1 b)
  have hq2 := fun w => part_u8 w (h8 b) 2 _ (h8_2 b)
  have hq3 := fun w => part_u8 w (h8 b) 3 _ (h8_3 b)
  have hq4 := fun w => part_u8 w (h8 b) 4 _ (h8_4 b)
  have hq5 := fun w => part_u8 w (h8 b) 5 _ (h8_5 b)
  have hq6 := fun w => part_u8 w (h8 b) 6 _ (h8_6 b)
  have hq7 := fun w => part_u8 w (h8 b) 7 _ (h8_7 b)
  have he := fun (w : World) (x y : UInt8) => run_equalIn_int (P := Tryz.prog) (w := w) 9998 5 .u8 .u8 x.toNat y.toNat Tryz.underlying5
  simp only [Sem.run_bind, run_underlying Tryz.underlying109, Result.andThen_ok, sizeOf, typeInfo]
  simp [hi, hs, Std.Legacy.Range.forIn_eq_forIn_range', List.range', Std.Legacy.Range.size, hp, hp1, hp2, hp3, hp4, hp5, hp6, hp7, hq, hq1, hq2, hq3, hq4, hq5, hq6, hq7, he]
  by_cases e : a = b
  · subst e; simp
  · have hI : ∀ x y : UInt8, ((x.toNat : Int) = (y.toNat : Int)) = (x = y) := fun x y => by
      apply propext
      exact ⟨fun h => UInt8.toNat_inj.1 (by omega), fun h => by rw [h]⟩
    have hf : (a == b) = false := by rw [beq_eq_false_iff_ne]; exact e
    simp only [hI, hf]
    repeat' split
    all_goals first | rfl | (exfalso; apply e; apply vec8_eq <;> assumption)
theorem eql_hash (w : World) (a b : Hsh) : Sem.run Tryz.prog (binOp .eql 109 (.agg (h8 a)) (.agg (h8 b))) w = .ok (Value.bool (some a == some b)) w := by
  rw [run_eql_struct, eqn]
  rfl
set_option maxHeartbeats 1000000 in
/-- merkle.Included. -/
theorem mincluded_any (p : List Hsh) (leaf root : Hsh) (i n : Int) (v : Value) (w : World) (h : HashesAt w v p) (hi : -9223372036854775808 ≤ i) (hn : n ≤ 9223372036854775807) (hm : p.length ≤ 1048576) :
    Calls Tryz.prog 96 #[.agg (h8 leaf), .int .i64 i, .int .i64 n, v, .agg (h8 root)] w fun e w' => e = .returned (.bool (included leaf i n p root)) ∧ Below w.heap.size w w' := by
  obtain ⟨a, c, hv, _⟩ := id h
  by_cases h0 : 0 ≤ i
  · have hd : decide (i < 0) = false := by simp; omega
    by_cases hin : i < n
    · have hd2 : decide (n ≤ i) = false := by simp; omega
      have hinc : included leaf i n p root = (rebuild leaf i.toNat n.toNat p == some root) := by simp [included, h0, hin]
      have HI := Lib.hid hinc
      have HH := Lib.hid h
      have HV := Lib.hid hv
      clear hinc h hv
      go_enter Tryz.func96, Tryz.ntmps96
      go_wp2_with (refine wpList_load8 rfl 109 _ rfl _ rfl _ Tryz.underlying109 info8 ?_ ?_ ?_; rotate_left; focus ((repeat (first | (with_reducible assumption) | ((with_reducible refine hashOf_zero' ?_); (first | rfl | (simp; done) | (simp; omega))) | ((with_reducible refine hashOf_at ?_); (first | rfl | (simp; done) | (simp; omega))) | (with_reducible exact hashOf_set' ⟨_, by assumption⟩ _) | ((with_reducible refine hashOf_set' (Is8_zero ?_) _); (first | rfl | (simp; done) | (simp; omega))) | (with_reducible refine hashOf_old ?_ _) | ((with_reducible refine hashOf_other ?_ _ ?_); rotate_left; (focus (first | (simp; done) | (simp; omega) | omega))) | (with_reducible refine hashOf_drew ?_) | (with_reducible refine hashOf_below ?_ (by assumption)))); done))
      refine (include_any p.length p leaf i n v _ rfl (Cells.below HH.out ((below_alloc w _).alloc (by simp) _)) h0 hin hn hm).mono ?_
      rintro e w1 ⟨s, rfl, hsh, hb⟩
      have hbb : Below w.heap.size w w1 := ((below_alloc w _).alloc (by simp) _).trans (hb.mono (by simp; omega))
      have HBB := Lib.hid hbb
      have hz : w.heap.size + 2 ≤ w1.heap.size := by have := hb.size; simp at this; omega
      have g1 : hashOf w1 (w.heap.size + 1) root := hashOf_below (hashOf_at (by simp)) hb
      have HSH := Lib.hid hsh
      clear hsh hbb hb
      obtain ⟨r, hrr⟩ : ∃ r, r = rebuild leaf i.toNat n.toNat p := ⟨_, rfl⟩
      rw [← hrr]
      have HRR := Lib.hid hrr
      clear hrr
      have hq := fun w => eql_hash w s root
      cases r with
      | none =>
        go_wp2_with (first | (refine wpList_load8 rfl 109 _ rfl _ rfl _ Tryz.underlying109 info8 ?_ ?_ ?_; rotate_left; focus ((repeat (first | (with_reducible assumption) | ((with_reducible refine hashOf_zero' ?_); (first | rfl | (simp; done) | (simp; omega))) | ((with_reducible refine hashOf_at ?_); (first | rfl | (simp; done) | (simp; omega))) | (with_reducible exact hashOf_set' ⟨_, by assumption⟩ _) | ((with_reducible refine hashOf_set' (Is8_zero ?_) _); (first | rfl | (simp; done) | (simp; omega))) | (with_reducible refine hashOf_old ?_ _) | ((with_reducible refine hashOf_other ?_ _ ?_); rotate_left; (focus (first | (simp; done) | (simp; omega) | omega))) | (with_reducible refine hashOf_drew ?_) | (with_reducible refine hashOf_below ?_ (by assumption)))); done)) | (refine wpList_store8 rfl 109 _ _ rfl _ _ rfl rfl info8 ?_ ?_ ?_; rotate_left; focus ((repeat (first | (with_reducible assumption) | ((with_reducible refine hashOf_zero' ?_); (first | rfl | (simp; done) | (simp; omega))) | ((with_reducible refine hashOf_at ?_); (first | rfl | (simp; done) | (simp; omega))) | (with_reducible exact hashOf_set' ⟨_, by assumption⟩ _) | ((with_reducible refine hashOf_set' (Is8_zero ?_) _); (first | rfl | (simp; done) | (simp; omega))) | (with_reducible refine hashOf_old ?_ _) | ((with_reducible refine hashOf_other ?_ _ ?_); rotate_left; (focus (first | (simp; done) | (simp; omega) | omega))) | (with_reducible refine hashOf_drew ?_) | (with_reducible refine hashOf_below ?_ (by assumption)))); done)))
        go_ret
        exact ⟨ret_bool (by rw [HI.out, ← HRR.out]; rfl), below_setRow (HBB.out.alloc HBB.out.size _) HBB.out.size _⟩
      | some h =>
        obtain rfl : s = h := HSH.out h HRR.out.symm
        go_wp2_with (first | (refine wpList_load8 rfl 109 _ rfl _ rfl _ Tryz.underlying109 info8 ?_ ?_ ?_; rotate_left; focus ((repeat (first | (with_reducible assumption) | ((with_reducible refine hashOf_zero' ?_); (first | rfl | (simp; done) | (simp; omega))) | ((with_reducible refine hashOf_at ?_); (first | rfl | (simp; done) | (simp; omega))) | (with_reducible exact hashOf_set' ⟨_, by assumption⟩ _) | ((with_reducible refine hashOf_set' (Is8_zero ?_) _); (first | rfl | (simp; done) | (simp; omega))) | (with_reducible refine hashOf_old ?_ _) | ((with_reducible refine hashOf_other ?_ _ ?_); rotate_left; (focus (first | (simp; done) | (simp; omega) | omega))) | (with_reducible refine hashOf_drew ?_) | (with_reducible refine hashOf_below ?_ (by assumption)))); done)) | (refine wpList_store8 rfl 109 _ _ rfl _ _ rfl rfl info8 ?_ ?_ ?_; rotate_left; focus ((repeat (first | (with_reducible assumption) | ((with_reducible refine hashOf_zero' ?_); (first | rfl | (simp; done) | (simp; omega))) | ((with_reducible refine hashOf_at ?_); (first | rfl | (simp; done) | (simp; omega))) | (with_reducible exact hashOf_set' ⟨_, by assumption⟩ _) | ((with_reducible refine hashOf_set' (Is8_zero ?_) _); (first | rfl | (simp; done) | (simp; omega))) | (with_reducible refine hashOf_old ?_ _) | ((with_reducible refine hashOf_other ?_ _ ?_); rotate_left; (focus (first | (simp; done) | (simp; omega) | omega))) | (with_reducible refine hashOf_drew ?_) | (with_reducible refine hashOf_below ?_ (by assumption)))); done)))
        go_ret
        refine ⟨ret_bool ?_, below_setRow (HBB.out.alloc HBB.out.size _) HBB.out.size _⟩
        rw [HI.out, ← HRR.out]
        rfl
    · have hd2 : decide (n ≤ i) = true := by simp; omega
      clear h
      subst hv
      go_enter Tryz.func96, Tryz.ntmps96
      go_wp2
      go_ret
      exact ⟨ret_bool (by simp [included]; omega), (below_alloc w _).alloc (by simp) _⟩
  · have hd : decide (i < 0) = true := by simp; omega
    clear h
    subst hv
    go_enter Tryz.func96, Tryz.ntmps96
    go_wp2
    go_ret
    exact ⟨ret_bool (by simp [included]; omega), (below_alloc w _).alloc (by simp) _⟩
set_option maxHeartbeats 400000 in
theorem tincluded_any (p : List Hsh) (leaf root : Hsh) (i n : Int) (v : Value) (w : World) (h : HashesAt w v p) (hi : -9223372036854775808 ≤ i) (hn : n ≤ 9223372036854775807) (hm : p.length ≤ 1048576) :
    Calls Tryz.prog 107 #[.agg (h8 leaf), .int .i64 i, .int .i64 n, v, .agg (h8 root)] w fun e w' => e = .returned (.bool (included leaf i n p root)) ∧ Below w.heap.size w w' := by
  have HH := Lib.hid h
  clear h
  go_enter Tryz.func107, Tryz.ntmps107
  go_wp2_with (refine wpList_load8 rfl 109 _ rfl _ rfl _ Tryz.underlying109 info8 ?_ ?_ ?_; rotate_left; focus ((repeat (first | (with_reducible assumption) | ((with_reducible refine hashOf_zero' ?_); (first | rfl | (simp; done) | (simp; omega))) | ((with_reducible refine hashOf_at ?_); (first | rfl | (simp; done) | (simp; omega))) | (with_reducible exact hashOf_set' ⟨_, by assumption⟩ _) | ((with_reducible refine hashOf_set' (Is8_zero ?_) _); (first | rfl | (simp; done) | (simp; omega))) | (with_reducible refine hashOf_old ?_ _) | ((with_reducible refine hashOf_other ?_ _ ?_); rotate_left; (focus (first | (simp; done) | (simp; omega) | omega))) | (with_reducible refine hashOf_drew ?_) | (with_reducible refine hashOf_below ?_ (by assumption)))); done))
  refine (mincluded_any p leaf root i n v _ (Cells.below HH.out ((below_alloc w _).alloc (by simp) _)) hi hn hm).mono ?_
  rintro e w1 ⟨rfl, hb⟩
  go_wp2
  go_ret
  exact ⟨rfl, ((below_alloc w _).alloc (by simp) _).trans (hb.mono (by simp; omega))⟩
set_option maxHeartbeats 400000 in
theorem pincluded_any (ss : List ByteArray) (leaf root : ByteArray) (i n : Int) (v : Value) (w : World) (h : StrsAt w v ss) (hi : -9223372036854775808 ≤ i) (hn : n ≤ 9223372036854775807) (hm : ss.length ≤ 1048576)
    (hs : ∀ s ∈ ss, s.size ≤ 9223372036854775807) (h1 : leaf.size ≤ 9223372036854775807) (h2 : root.size ≤ 9223372036854775807) :
    Calls Tryz.prog 53 #[.string leaf, .int .i64 i, .int .i64 n, v, .string root] w fun e w' => e = .returned (.bool (included (eightOf leaf.data.toList) i n (eightsOf ss) (eightOf root.data.toList))) ∧ Below w.heap.size w w' := by
  have HH := Lib.hid h
  have HS' := Lib.hid hs
  clear h hs
  go_enter Tryz.func53, Tryz.ntmps53
  go_wp2_with fail
  refine (hash_any leaf _ h1).mono ?_
  rintro e w1 ⟨rfl, hb1⟩
  go_wp2_with fail
  refine (hashes_any v ss _ (HH.out.below hb1) hm HS'.out).mono ?_
  rintro e w2 ⟨v2, rfl, ho2, hb2⟩
  go_wp2_with fail
  refine (hash_any root _ h2).mono ?_
  rintro e w3 ⟨rfl, hb3⟩
  go_wp2_with fail
  refine (tincluded_any (eightsOf ss) (eightOf leaf.data.toList) (eightOf root.data.toList) i n v2 _ (Cells.below (ownsRow_cells ho2) hb3) hi hn (by simpa [eightsOf] using hm)).mono ?_
  rintro e w4 ⟨rfl, hb4⟩
  go_wp2
  go_ret
  exact ⟨rfl, ((hb1.trans (hb2.mono hb1.size)).trans (hb3.mono (Nat.le_trans hb1.size hb2.size))).trans (hb4.mono (Nat.le_trans hb1.size (Nat.le_trans hb2.size hb3.size)))⟩
end Go.Proofs.YtefccfakhgdfbabGreatDoor
end
