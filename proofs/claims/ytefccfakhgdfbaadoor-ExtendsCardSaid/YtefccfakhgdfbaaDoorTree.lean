/- The walks of merkle.Whole, Entries, Root; tiles.Root, Leaf; plain.Root, Leaf. -/
import Derived.Test.YtefccfakhgdfbaaDoorWhole
import Derived.Test.YtefccfakhgdfbaaDoorSpoil
import Derived.Test.YtefccfakhgdfbaaDoorRTree
import Derived.Laws.EntriesVeiled
namespace Go.Proofs.YtefccfakhgdfbaaDoor
open Go.RowKit
/-- A value that tells the roots of ranges of the entries ls: merkle.Entries' answer. -/
def RangeOf (w : World) (rv : Value) (ls : List (List UInt8)) : Prop :=
  ∃ (e1 e3 g1 g3 : Nat) (v : Value), rv = .func (.func 93) #[] #[.pointer (some ⟨g1, 0, none⟩), .pointer (some ⟨g3, 0, none⟩)] ∧
    w.cell? ⟨e1, 0, none⟩ = some v ∧ w.cell? ⟨e3, 0, none⟩ = some (.func (.func 72) #[] #[.pointer (some ⟨e1, 0, none⟩), .pointer (some ⟨e3, 0, none⟩)]) ∧ BssAt w v ls ∧
    w.cell? ⟨g1, 0, none⟩ = some (.func (.func 72) #[] #[.pointer (some ⟨e1, 0, none⟩), .pointer (some ⟨e3, 0, none⟩)]) ∧
    w.cell? ⟨g3, 0, none⟩ = some (.func (.func 93) #[] #[.pointer (some ⟨g1, 0, none⟩), .pointer (some ⟨g3, 0, none⟩)])
theorem RangeOf.below {w w' : World} {rv : Value} {ls : List (List UInt8)} (h : RangeOf w rv ls) (hb : Below w.heap.size w w') : RangeOf w' rv ls := by
  obtain ⟨e1, e3, g1, g3, v, h0, h1, h2, h3, h4, h5⟩ := h
  exact ⟨e1, e3, g1, g3, v, h0, (hb.cell (p := ⟨e1, 0, none⟩) (cell_lt h1)).trans h1, (hb.cell (p := ⟨e3, 0, none⟩) (cell_lt h2)).trans h2, h3.below hb, (hb.cell (p := ⟨g1, 0, none⟩) (cell_lt h4)).trans h4, (hb.cell (p := ⟨g3, 0, none⟩) (cell_lt h5)).trans h5⟩
set_option maxHeartbeats 1000000 in
theorem mwhole_any (F : FuncId) (caps : Array Value) (w : World) :
    Calls Tryd.prog 74 #[.func (.func F) #[] caps] w fun e w' => e = .returned (.func (.func 93) #[] #[.pointer (some ⟨w.heap.size, 0, none⟩), .pointer (some ⟨w.heap.size + 1, 0, none⟩)]) ∧
      w'.cell? ⟨w.heap.size, 0, none⟩ = some (.func (.func F) #[] caps) ∧ w'.cell? ⟨w.heap.size + 1, 0, none⟩ = some (.func (.func 93) #[] #[.pointer (some ⟨w.heap.size, 0, none⟩), .pointer (some ⟨w.heap.size + 1, 0, none⟩)]) ∧ Below w.heap.size w w' := by
  go_enter Tryd.func74, Tryd.ntmps74
  go_wp2_with fail
  go_ret
  refine ⟨rfl, ?_, ?_, (below_alloc w _).alloc (by simp) _⟩
  · rw [World.cell?_alloc_old]
    · exact World.cell?_alloc_at _ _ _ _ rfl
    · simp
  · exact World.cell?_alloc_at _ _ _ _ (by simp)
set_option maxHeartbeats 1000000 in
theorem mentries_any (v : Value) (ls : List (List UInt8)) (w : World) (h : BssAt w v ls) :
    Calls Tryd.prog 56 #[v] w fun e w' => ∃ rv, e = .returned rv ∧ RangeOf w' rv ls ∧ Below w.heap.size w w' := by
  obtain ⟨a, c, rfl⟩ : ∃ a c, v = .slice a ls.length c := by obtain ⟨_, _, ⟨a, c, h1, _⟩, _⟩ := h; exact ⟨a, c, h1⟩
  have HH := Lib.hid h
  clear h
  go_enter Tryd.func56, Tryd.ntmps56
  go_wp2_with fail
  have b0 : Below w.heap.size w ((w.alloc (.cells #[.slice a ls.length c] 56)).alloc (.cells #[.func (.func 72) #[] #[.pointer (some ⟨w.heap.size, 0, none⟩), .pointer (some ⟨w.heap.size + 1, 0, none⟩)]] 83)) := (below_alloc w _).alloc (by simp) _
  refine (mwhole_any _ _ _).mono ?_
  rintro e w1 ⟨rfl, h1, h2, hb⟩
  have hsz : ((w.alloc (.cells #[.slice a ls.length c] 56)).alloc (.cells #[.func (.func 72) #[] #[.pointer (some ⟨w.heap.size, 0, none⟩), .pointer (some ⟨w.heap.size + 1, 0, none⟩)]] 83)).heap.size = w.heap.size + 1 + 1 := by simp
  rw [hsz] at h1 h2
  clear hsz
  have B := Lib.hid (b0.trans (hb.mono b0.size))
  have q1 : w1.cell? ⟨w.heap.size, 0, none⟩ = some (.slice a ls.length c) := (hb.cell (p := ⟨w.heap.size, 0, none⟩) (by simp; omega)).trans ((World.cell?_alloc_past _ _ _ (by simp)).trans (World.cell?_alloc_at _ _ _ _ rfl))
  have q2 : w1.cell? ⟨w.heap.size + 1, 0, none⟩ = some (.func (.func 72) #[] #[.pointer (some ⟨w.heap.size, 0, none⟩), .pointer (some ⟨w.heap.size + 1, 0, none⟩)]) := (hb.cell (p := ⟨w.heap.size + 1, 0, none⟩) (by simp)).trans (World.cell?_alloc_at _ _ _ _ (by simp))
  have Q := Lib.hid (show RangeOf w1 _ ls from ⟨_, _, _, _, _, rfl, q1, q2, HH.out.below B.out, h1, h2⟩)
  clear b0 hb q1 q2 h1 h2
  go_wp2
  go_ret
  exact ⟨_, rfl, Q.out, B.out⟩
set_option maxHeartbeats 1000000 in
theorem mroot_any (n : Nat) (rv : Value) (ls : List (List UInt8)) (w : World) (h : RangeOf w rv ls) (hn : n ≤ ls.length) (hl : ls.length ≤ 1048576) (hs : ∀ l ∈ ls, l.length ≤ 9223372036854775807) :
    Calls Tryd.prog 62 #[rv, .int .i64 n] w fun e w' => e = .returned (.tuple #[.agg (h8 (rootOf (ls.take n))), .nilIface]) ∧ Below w.heap.size w w' := by
  by_cases h0 : n = 0
  · subst h0
    obtain ⟨e1, e3, g1, g3, v, rfl, _⟩ := h
    go_enter Tryd.func62, Tryd.ntmps62
    go_wp2_with fail
    refine (sum_any _ [] _ ⟨[], rfl, ⟨none, 0, rfl, Nat.le_refl _, fun j x hx => by simp at hx⟩, fun j u l hu _ => by simp at hu⟩ (by simp) (by simp)).mono ?_
    rintro e w1 ⟨rfl, hb⟩
    have z1 : hashOf w1 w.heap.size zero8 := hashOf_below (hashOf_zero' rfl) hb
    have B := Lib.hid ((below_alloc w _).trans (hb.mono (by simp)))
    clear hb
    go_wp2_with (first | (refine wpList_load8 rfl 62 _ rfl _ rfl _ Tryd.underlying62 info8 ?_ ?_ ?_; rotate_left; focus ((repeat (first | (with_reducible assumption) | ((with_reducible refine hashOf_zero' ?_); (first | rfl | (simp; done) | (simp; omega))) | ((with_reducible refine hashOf_at ?_); (first | rfl | (simp; done) | (simp; omega))) | (with_reducible exact hashOf_set' ⟨_, by assumption⟩ _) | ((with_reducible refine hashOf_set' (Is8_zero ?_) _); (first | rfl | (simp; done) | (simp; omega))) | (with_reducible refine hashOf_old ?_ _) | ((with_reducible refine hashOf_other ?_ _ ?_); rotate_left; (focus (first | (simp; done) | (simp; omega) | omega))) | (with_reducible refine hashOf_drew ?_) | (with_reducible refine hashOf_below ?_ (by assumption)))); done)) | (refine wpList_store8 rfl 62 _ _ rfl _ _ rfl rfl info8 ?_ ?_ ?_; rotate_left; focus ((repeat (first | (with_reducible assumption) | ((with_reducible refine hashOf_zero' ?_); (first | rfl | (simp; done) | (simp; omega))) | ((with_reducible refine hashOf_at ?_); (first | rfl | (simp; done) | (simp; omega))) | (with_reducible exact hashOf_set' ⟨_, by assumption⟩ _) | ((with_reducible refine hashOf_set' (Is8_zero ?_) _); (first | rfl | (simp; done) | (simp; omega))) | (with_reducible refine hashOf_old ?_ _) | ((with_reducible refine hashOf_other ?_ _ ?_); rotate_left; (focus (first | (simp; done) | (simp; omega) | omega))) | (with_reducible refine hashOf_drew ?_) | (with_reducible refine hashOf_below ?_ (by assumption)))); done)))
    refine ret8t w.heap.size (hash []) .nilIface rfl rfl rfl _ Tryd.underlying62 info8 (hashOf_set z1 _) rfl ⟨by rw [List.take_zero]; rfl, below_setRow B.out (Nat.le_refl _) _⟩
  · have hz : ((n : Int) == 0) = false := by rw [beq_eq_false_iff_ne]; omega
    obtain ⟨e1, e3, g1, g3, v, rfl, h1, h2, h3, h4, h5⟩ := h
    have b0 := below_alloc w (.cells #[.int .u8 0, .int .u8 0, .int .u8 0, .int .u8 0, .int .u8 0, .int .u8 0, .int .u8 0, .int .u8 0] 62)
    have W := Lib.hid (whole1_any n 0 n 0 n e1 e3 g1 g3 v ls (w.alloc (.cells #[.int .u8 0, .int .u8 0, .int .u8 0, .int .u8 0, .int .u8 0, .int .u8 0, .int .u8 0, .int .u8 0] 62)) rfl (by simp) (Nat.le_refl _) (by omega) (by omega) hl hs ((b0.cell (p := ⟨e1, 0, none⟩) (cell_lt h1)).trans h1) ((b0.cell (p := ⟨e3, 0, none⟩) (cell_lt h2)).trans h2) (h3.below b0) ((b0.cell (p := ⟨g1, 0, none⟩) (cell_lt h4)).trans h4) ((b0.cell (p := ⟨g3, 0, none⟩) (cell_lt h5)).trans h5))
    have hd : (ls.drop 0).take n = ls.take n := by rw [List.drop_zero]
    rw [hd] at W
    clear h1 h2 h3 h4 h5 hd hs hl hn
    go_enter Tryd.func62, Tryd.ntmps62
    go_wp2_with fail
    refine W.out.mono ?_
    rintro e w1 ⟨rfl, hb⟩
    have z1 : hashOf w1 w.heap.size zero8 := hashOf_below (hashOf_zero' rfl) hb
    have B := Lib.hid (b0.trans (hb.mono b0.size))
    clear hb b0 W
    go_wp2_with (first | (refine wpList_load8 rfl 62 _ rfl _ rfl _ Tryd.underlying62 info8 ?_ ?_ ?_; rotate_left; focus ((repeat (first | (with_reducible assumption) | ((with_reducible refine hashOf_zero' ?_); (first | rfl | (simp; done) | (simp; omega))) | ((with_reducible refine hashOf_at ?_); (first | rfl | (simp; done) | (simp; omega))) | (with_reducible exact hashOf_set' ⟨_, by assumption⟩ _) | ((with_reducible refine hashOf_set' (Is8_zero ?_) _); (first | rfl | (simp; done) | (simp; omega))) | (with_reducible refine hashOf_old ?_ _) | ((with_reducible refine hashOf_other ?_ _ ?_); rotate_left; (focus (first | (simp; done) | (simp; omega) | omega))) | (with_reducible refine hashOf_drew ?_) | (with_reducible refine hashOf_below ?_ (by assumption)))); done)) | (refine wpList_store8 rfl 62 _ _ rfl _ _ rfl rfl info8 ?_ ?_ ?_; rotate_left; focus ((repeat (first | (with_reducible assumption) | ((with_reducible refine hashOf_zero' ?_); (first | rfl | (simp; done) | (simp; omega))) | ((with_reducible refine hashOf_at ?_); (first | rfl | (simp; done) | (simp; omega))) | (with_reducible exact hashOf_set' ⟨_, by assumption⟩ _) | ((with_reducible refine hashOf_set' (Is8_zero ?_) _); (first | rfl | (simp; done) | (simp; omega))) | (with_reducible refine hashOf_old ?_ _) | ((with_reducible refine hashOf_other ?_ _ ?_); rotate_left; (focus (first | (simp; done) | (simp; omega) | omega))) | (with_reducible refine hashOf_drew ?_) | (with_reducible refine hashOf_below ?_ (by assumption)))); done)))
    refine ret8t w.heap.size _ .nilIface rfl rfl rfl _ Tryd.underlying62 info8 (hashOf_set z1 _) rfl ⟨rfl, below_setRow B.out (Nat.le_refl _) _⟩
set_option maxHeartbeats 1000000 in
theorem troot_any (v : Value) (ls : List (List UInt8)) (w : World) (h : BssAt w v ls) (hl : ls.length ≤ 1048576) (hs : ∀ l ∈ ls, l.length ≤ 9223372036854775807) :
    Calls Tryd.prog 37 #[v] w fun e w' => e = .returned (.agg (h8 (rootOf ls))) ∧ Below w.heap.size w w' := by
  obtain ⟨a, c, rfl⟩ : ∃ a c, v = .slice a ls.length c := by obtain ⟨_, _, ⟨a, c, h1, _⟩, _⟩ := h; exact ⟨a, c, h1⟩
  have HH := Lib.hid (h.below (below_alloc w (.cells #[.int .u8 0, .int .u8 0, .int .u8 0, .int .u8 0, .int .u8 0, .int .u8 0, .int .u8 0, .int .u8 0] 62)))
  have HS' := Lib.hid hs
  have ht : ls.take ls.length = ls := List.take_of_length_le (Nat.le_refl _)
  have HT := Lib.hid ht
  clear h hs ht
  go_enter Tryd.func37, Tryd.ntmps37
  go_wp2_with fail
  refine (mentries_any _ ls _ HH.out).mono ?_
  rintro e w1 ⟨rv, rfl, hr, hb1⟩
  have b1 := (below_alloc w (.cells #[.int .u8 0, .int .u8 0, .int .u8 0, .int .u8 0, .int .u8 0, .int .u8 0, .int .u8 0, .int .u8 0] 62)).trans (hb1.mono (by simp))
  have z1 : hashOf w1 w.heap.size zero8 := hashOf_below (hashOf_zero' rfl) hb1
  have HR := Lib.hid hr
  clear hr hb1
  go_wp2_with fail
  refine (mroot_any ls.length rv ls _ HR.out (Nat.le_refl _) hl HS'.out).mono ?_
  rintro e w2 ⟨rfl, hb2⟩
  rw [HT.out]
  have z2 := hashOf_below z1 hb2
  have hsz : w.heap.size + 1 ≤ w2.heap.size := by have := b1.size; have := hb2.size; have := (Array.getElem?_eq_some_iff.1 z1).1; omega
  have B2 := Lib.hid (b1.trans (hb2.mono b1.size))
  clear z1 hb2 b1
  have k1 : hashOf ((w2.alloc (.cells #[.int .u8 0, .int .u8 0, .int .u8 0, .int .u8 0, .int .u8 0, .int .u8 0, .int .u8 0, .int .u8 0] 62)).setRow w2.heap.size (h8 (rootOf ls))) w2.heap.size (rootOf ls) := hashOf_set (hashOf_zero' rfl) _
  have k2 : hashOf ((w2.alloc (.cells #[.int .u8 0, .int .u8 0, .int .u8 0, .int .u8 0, .int .u8 0, .int .u8 0, .int .u8 0, .int .u8 0] 62)).setRow w2.heap.size (h8 (rootOf ls))) w.heap.size zero8 := hashOf_other (hashOf_old z2 _) _ (by omega)
  have k3 : Below w.heap.size w ((w2.alloc (.cells #[.int .u8 0, .int .u8 0, .int .u8 0, .int .u8 0, .int .u8 0, .int .u8 0, .int .u8 0, .int .u8 0] 62)).setRow w2.heap.size (h8 (rootOf ls))) := below_setRow (B2.out.alloc B2.out.size _) B2.out.size _
  have K3 := Lib.hid k3
  clear k3 z2
  go_wp2_with (first | (refine wpList_load8 rfl 62 _ rfl _ rfl _ Tryd.underlying62 info8 ?_ ?_ ?_; rotate_left; focus ((repeat (first | (with_reducible assumption) | ((with_reducible refine hashOf_zero' ?_); (first | rfl | (simp; done) | (simp; omega))) | ((with_reducible refine hashOf_at ?_); (first | rfl | (simp; done) | (simp; omega))) | (with_reducible exact hashOf_set' ⟨_, by assumption⟩ _) | ((with_reducible refine hashOf_set' (Is8_zero ?_) _); (first | rfl | (simp; done) | (simp; omega))) | (with_reducible refine hashOf_old ?_ _) | ((with_reducible refine hashOf_other ?_ _ ?_); rotate_left; (focus (first | (simp; done) | (simp; omega) | omega))) | (with_reducible refine hashOf_drew ?_) | (with_reducible refine hashOf_below ?_ (by assumption)))); done)) | (refine wpList_store8 rfl 62 _ _ rfl _ _ rfl rfl info8 ?_ ?_ ?_; rotate_left; focus ((repeat (first | (with_reducible assumption) | ((with_reducible refine hashOf_zero' ?_); (first | rfl | (simp; done) | (simp; omega))) | ((with_reducible refine hashOf_at ?_); (first | rfl | (simp; done) | (simp; omega))) | (with_reducible exact hashOf_set' ⟨_, by assumption⟩ _) | ((with_reducible refine hashOf_set' (Is8_zero ?_) _); (first | rfl | (simp; done) | (simp; omega))) | (with_reducible refine hashOf_old ?_ _) | ((with_reducible refine hashOf_other ?_ _ ?_); rotate_left; (focus (first | (simp; done) | (simp; omega) | omega))) | (with_reducible refine hashOf_drew ?_) | (with_reducible refine hashOf_below ?_ (by assumption)))); done)))
  refine ret8 w.heap.size (rootOf ls) rfl rfl _ Tryd.underlying62 info8 (hashOf_set k2 _) rfl ⟨rfl, below_setRow K3.out (Nat.le_refl _) _⟩
set_option maxHeartbeats 1000000 in
theorem tleaf_any (v : Value) (l : List UInt8) (w : World) (h : BytesAt w v l) (hn : l.length ≤ 9223372036854775807) :
    Calls Tryd.prog 39 #[v] w fun e w' => e = .returned (.agg (h8 (leafH l))) ∧ Below w.heap.size w w' := by
  obtain ⟨a, c, rfl⟩ : ∃ a c, v = .slice a l.length c := by obtain ⟨a, c, h1, _⟩ := h; exact ⟨a, c, h1⟩
  have HH := Lib.hid (h.below (below_alloc w (.cells #[.int .u8 0, .int .u8 0, .int .u8 0, .int .u8 0, .int .u8 0, .int .u8 0, .int .u8 0, .int .u8 0] 62)))
  clear h
  go_enter Tryd.func39, Tryd.ntmps39
  go_wp2_with fail
  refine (leaf_any _ l _ HH.out hn).mono ?_
  rintro e w1 ⟨rfl, hb⟩
  have z1 : hashOf w1 w.heap.size zero8 := hashOf_below (hashOf_zero' rfl) hb
  have B := Lib.hid ((below_alloc w (.cells #[.int .u8 0, .int .u8 0, .int .u8 0, .int .u8 0, .int .u8 0, .int .u8 0, .int .u8 0, .int .u8 0] 62)).trans (hb.mono (by simp)))
  clear hb
  go_wp2_with (first | (refine wpList_load8 rfl 62 _ rfl _ rfl _ Tryd.underlying62 info8 ?_ ?_ ?_; rotate_left; focus ((repeat (first | (with_reducible assumption) | ((with_reducible refine hashOf_zero' ?_); (first | rfl | (simp; done) | (simp; omega))) | ((with_reducible refine hashOf_at ?_); (first | rfl | (simp; done) | (simp; omega))) | (with_reducible exact hashOf_set' ⟨_, by assumption⟩ _) | ((with_reducible refine hashOf_set' (Is8_zero ?_) _); (first | rfl | (simp; done) | (simp; omega))) | (with_reducible refine hashOf_old ?_ _) | ((with_reducible refine hashOf_other ?_ _ ?_); rotate_left; (focus (first | (simp; done) | (simp; omega) | omega))) | (with_reducible refine hashOf_drew ?_) | (with_reducible refine hashOf_below ?_ (by assumption)))); done)) | (refine wpList_store8 rfl 62 _ _ rfl _ _ rfl rfl info8 ?_ ?_ ?_; rotate_left; focus ((repeat (first | (with_reducible assumption) | ((with_reducible refine hashOf_zero' ?_); (first | rfl | (simp; done) | (simp; omega))) | ((with_reducible refine hashOf_at ?_); (first | rfl | (simp; done) | (simp; omega))) | (with_reducible exact hashOf_set' ⟨_, by assumption⟩ _) | ((with_reducible refine hashOf_set' (Is8_zero ?_) _); (first | rfl | (simp; done) | (simp; omega))) | (with_reducible refine hashOf_old ?_ _) | ((with_reducible refine hashOf_other ?_ _ ?_); rotate_left; (focus (first | (simp; done) | (simp; omega) | omega))) | (with_reducible refine hashOf_drew ?_) | (with_reducible refine hashOf_below ?_ (by assumption)))); done)))
  refine ret8 w.heap.size (leafH l) rfl rfl _ Tryd.underlying62 info8 (hashOf_set z1 _) rfl ⟨rfl, below_setRow B.out (Nat.le_refl _) _⟩
set_option maxHeartbeats 1000000 in
theorem pleaf_any (s : ByteArray) (w : World) (hs : s.size ≤ 9223372036854775807) :
    Calls Tryd.prog 17 #[.string s] w fun e w' => e = .returned (.string (HS (leafH s.data.toList))) ∧ Below w.heap.size w w' := by
  go_enter Tryd.func17, Tryd.ntmps17
  go_wp2_with (first | (refine wpList_sb rfl 9 65 5 _ rfl Tryd.underlying9 Tryd.underlying65 Tryd.underlying5 rfl s rfl ?_; intro u w1 hu hb1 hw1 hv1; obtain ⟨b1, c1, rfl⟩ := hv1; have HU := Lib.hid hu; have HB1 := Lib.hid hb1; clear hu hb1 hw1))
  have hlen : s.data.toList.length = s.size := rfl
  refine (tleaf_any _ s.data.toList _ HU.out.at (by omega)).mono ?_
  rintro e w2 ⟨rfl, hb2⟩
  have b2 := HB1.out.trans (hb2.mono HB1.out.size)
  have k3 : Below w.heap.size w ((w2.alloc (.cells #[.int .u8 0, .int .u8 0, .int .u8 0, .int .u8 0, .int .u8 0, .int .u8 0, .int .u8 0, .int .u8 0] 62)).setRow w2.heap.size (h8 (leafH s.data.toList))) := below_setRow (b2.alloc b2.size _) b2.size _
  have k1 : hashOf ((w2.alloc (.cells #[.int .u8 0, .int .u8 0, .int .u8 0, .int .u8 0, .int .u8 0, .int .u8 0, .int .u8 0, .int .u8 0] 62)).setRow w2.heap.size (h8 (leafH s.data.toList))) w2.heap.size (leafH s.data.toList) := hashOf_set (hashOf_zero' rfl) _
  have K3 := Lib.hid k3
  clear k3 b2 hb2
  go_wp2_with (first | (refine wpList_load8 rfl 62 _ rfl _ rfl _ Tryd.underlying62 info8 ?_ ?_ ?_; rotate_left; focus ((repeat (first | (with_reducible assumption) | ((with_reducible refine hashOf_zero' ?_); (first | rfl | (simp; done) | (simp; omega))) | ((with_reducible refine hashOf_at ?_); (first | rfl | (simp; done) | (simp; omega))) | (with_reducible exact hashOf_set' ⟨_, by assumption⟩ _) | ((with_reducible refine hashOf_set' (Is8_zero ?_) _); (first | rfl | (simp; done) | (simp; omega))) | (with_reducible refine hashOf_old ?_ _) | ((with_reducible refine hashOf_other ?_ _ ?_); rotate_left; (focus (first | (simp; done) | (simp; omega) | omega))) | (with_reducible refine hashOf_drew ?_) | (with_reducible refine hashOf_below ?_ (by assumption)))); done)) | (refine wpList_store8 rfl 62 _ _ rfl _ _ rfl rfl info8 ?_ ?_ ?_; rotate_left; focus ((repeat (first | (with_reducible assumption) | ((with_reducible refine hashOf_zero' ?_); (first | rfl | (simp; done) | (simp; omega))) | ((with_reducible refine hashOf_at ?_); (first | rfl | (simp; done) | (simp; omega))) | (with_reducible exact hashOf_set' ⟨_, by assumption⟩ _) | ((with_reducible refine hashOf_set' (Is8_zero ?_) _); (first | rfl | (simp; done) | (simp; omega))) | (with_reducible refine hashOf_old ?_ _) | ((with_reducible refine hashOf_other ?_ _ ?_); rotate_left; (focus (first | (simp; done) | (simp; omega) | omega))) | (with_reducible refine hashOf_drew ?_) | (with_reducible refine hashOf_below ?_ (by assumption)))); done)) | (refine wpList_bs rfl 65 9 _ rfl _ Tryd.underlying65 Tryd.underlying5 Tryd.underlying9 _ ?_ rfl ?_ ?_; rotate_left; focus exact hashOf_bytes k1 8))
  go_ret
  exact ⟨rfl, K3.out⟩
set_option maxHeartbeats 1000000 in
theorem proot_any (v : Value) (ss : List ByteArray) (w : World) (h : StrsAt w v ss) (hl : ss.length ≤ 1048576) (hs : ∀ s ∈ ss, s.size ≤ 9223372036854775807) :
    Calls Tryd.prog 16 #[v] w fun e w' => e = .returned (.string (HS (rootOf (lists ss)))) ∧ Below w.heap.size w w' := by
  obtain ⟨a, c, rfl⟩ : ∃ a c, v = .slice a ss.length c := by obtain ⟨a, c, h1, _⟩ := h; exact ⟨a, c, h1⟩
  have HH := Lib.hid h
  have hll : (lists ss).length ≤ 1048576 := by simpa [lists] using hl
  have hsl : ∀ l ∈ lists ss, l.length ≤ 9223372036854775807 := by
    intro l hl
    obtain ⟨s, hs1, rfl⟩ := List.mem_map.1 hl
    have := hs s hs1
    show s.size ≤ _
    omega
  have HSL := Lib.hid hsl
  have HLL := Lib.hid hll
  clear h hs hsl hll
  go_enter Tryd.func16, Tryd.ntmps16
  go_wp2_with fail
  refine (entries_any _ ss _ HH.out hl).mono ?_
  rintro e w1 ⟨v1, rfl, ho1, hb1⟩
  have HO := Lib.hid ho1
  have HB1 := Lib.hid hb1
  clear ho1 hb1
  go_wp2_with fail
  refine (troot_any v1 (lists ss) _ HO.out.at HLL.out HSL.out).mono ?_
  rintro e w2 ⟨rfl, hb2⟩
  have B2 := Lib.hid (HB1.out.trans (hb2.mono HB1.out.size))
  have k3 : Below w.heap.size w ((w2.alloc (.cells #[.int .u8 0, .int .u8 0, .int .u8 0, .int .u8 0, .int .u8 0, .int .u8 0, .int .u8 0, .int .u8 0] 62)).setRow w2.heap.size (h8 (rootOf (lists ss)))) := below_setRow (B2.out.alloc B2.out.size _) B2.out.size _
  have k1 : hashOf ((w2.alloc (.cells #[.int .u8 0, .int .u8 0, .int .u8 0, .int .u8 0, .int .u8 0, .int .u8 0, .int .u8 0, .int .u8 0] 62)).setRow w2.heap.size (h8 (rootOf (lists ss)))) w2.heap.size (rootOf (lists ss)) := hashOf_set (hashOf_zero' rfl) _
  have k4 : OwnBss ((w2.alloc (.cells #[.int .u8 0, .int .u8 0, .int .u8 0, .int .u8 0, .int .u8 0, .int .u8 0, .int .u8 0, .int .u8 0] 62)).setRow w2.heap.size (h8 (rootOf (lists ss)))) w.heap.size v1 (lists ss) := HO.out.below (hb2.trans (below_setRow ((below_alloc w2 _).mono hb2.size) hb2.size _))
  have K1 := Lib.hid k1
  have K3 := Lib.hid k3
  have K4 := Lib.hid k4
  clear k1 k3 k4 hb2
  go_wp2_with (first | (refine wpList_load8 rfl 62 _ rfl _ rfl _ Tryd.underlying62 info8 ?_ ?_ ?_; rotate_left; focus ((repeat (first | (with_reducible assumption) | ((with_reducible refine hashOf_zero' ?_); (first | rfl | (simp; done) | (simp; omega))) | ((with_reducible refine hashOf_at ?_); (first | rfl | (simp; done) | (simp; omega))) | (with_reducible exact hashOf_set' ⟨_, by assumption⟩ _) | ((with_reducible refine hashOf_set' (Is8_zero ?_) _); (first | rfl | (simp; done) | (simp; omega))) | (with_reducible refine hashOf_old ?_ _) | ((with_reducible refine hashOf_other ?_ _ ?_); rotate_left; (focus (first | (simp; done) | (simp; omega) | omega))) | (with_reducible refine hashOf_drew ?_) | (with_reducible refine hashOf_below ?_ (by assumption)))); done)) | (refine wpList_store8 rfl 62 _ _ rfl _ _ rfl rfl info8 ?_ ?_ ?_; rotate_left; focus ((repeat (first | (with_reducible assumption) | ((with_reducible refine hashOf_zero' ?_); (first | rfl | (simp; done) | (simp; omega))) | ((with_reducible refine hashOf_at ?_); (first | rfl | (simp; done) | (simp; omega))) | (with_reducible exact hashOf_set' ⟨_, by assumption⟩ _) | ((with_reducible refine hashOf_set' (Is8_zero ?_) _); (first | rfl | (simp; done) | (simp; omega))) | (with_reducible refine hashOf_old ?_ _) | ((with_reducible refine hashOf_other ?_ _ ?_); rotate_left; (focus (first | (simp; done) | (simp; omega) | omega))) | (with_reducible refine hashOf_drew ?_) | (with_reducible refine hashOf_below ?_ (by assumption)))); done)))
  refine (spoil_any v1 (lists ss) w.heap.size _ K4.out K3.out.size HLL.out).mono ?_
  rintro e w3 ⟨rfl, hb3, hsz, hkeep⟩
  have k5 : hashOf w3 w2.heap.size (rootOf (lists ss)) := (hkeep _ _ _ _ K1.out (by decide) (by decide)).trans K1.out
  have K6 := Lib.hid (K3.out.trans hb3)
  clear hb3 hsz hkeep
  go_wp2_with (refine wpList_bs rfl 65 9 _ rfl _ Tryd.underlying65 Tryd.underlying5 Tryd.underlying9 _ ?_ rfl ?_ ?_; rotate_left; focus exact hashOf_bytes k5 8)
  go_ret
  exact ⟨rfl, K6.out⟩
end Go.Proofs.YtefccfakhgdfbaaDoor
