/- The walk of merkle.extend. -/
import Derived.Test.YtefccfakhgdfbaaDoorInclude
import Derived.Deep.RegionHeld3
namespace Go.Proofs.YtefccfakhgdfbaaDoor
open Go.RowKit
theorem roots_nil (m n : Nat) (whole : Option Hsh) : roots m n whole [] = if m = n then whole.map fun a => (a, a) else none := by simp [roots, rootsR]
theorem roots_snoc (m n : Nat) (whole : Option Hsh) (q : List Hsh) (r : Hsh) : roots m n whole (q ++ [r]) = if m = n then (match whole with | some _ => none | none => if q = [] then some (r, r) else none)
      else if m ≤ below n then (roots m (below n) whole q).map fun x => (x.1, nodeH x.2 r) else (roots (m - below n) (n - below n) none q).map fun x => (nodeH r x.1, nodeH r x.2) := by
  unfold roots below
  rw [List.reverse_append]
  simp only [List.reverse_cons, List.reverse_nil, List.nil_append, List.singleton_append, rootsR]
  cases whole <;> simp
/-- The pointer 'whole': nil, or to a hash. -/
def WholeAt (w : World) (v : Value) (whole : Option Hsh) : Prop := (v = .pointer none ∧ whole = none) ∨ ∃ g h, v = .pointer (some ⟨g, 0, none⟩) ∧ whole = some h ∧ hashOf w g h
def ExtendPost (m n : Nat) (whole : Option Hsh) (p : List Hsh) (w : World) (e : Ending) (w' : World) : Prop :=
  ∃ x y : Hsh, e = .returned (.tuple #[.agg (h8 x), .agg (h8 y), .bool (roots m n whole p).isSome]) ∧ (∀ z, roots m n whole p = some z → (x, y) = z) ∧ Below w.heap.size w w'
theorem hashOf_cell {w : World} {g : Nat} {h : Hsh} (hh : hashOf w g h) (j : Nat) (hj : j < 8) : w.cell? ⟨g, j, none⟩ = some (u8 h[j]) := by
  unfold hashOf at hh
  simp [World.cell?, hh, h8, hj]
theorem cell_setRow_ne {w : World} {g : Nat} {cs : Array Value} {b o : Nat} (h : b ≠ g) : (w.setRow g cs).cell? ⟨b, o, none⟩ = w.cell? ⟨b, o, none⟩ := cell_setRow_other w g cs ⟨b, o, none⟩ h
section
attribute [local go_sem] h8_0 h8_1 h8_2 h8_3 h8_4 h8_5 h8_6 h8_7 h8_fold h8_size cell_setRow_ne run_store8
theorem roots_whole (m : Nat) (a : Hsh) (p : List Hsh) : roots m m (some a) p = if p.length = 0 then some (a, a) else none := by
  rcases List.eq_nil_or_concat p with rfl | ⟨q, r, rfl⟩
  · simp [roots_nil]
  · rw [List.concat_eq_append] at *
    rw [roots_snoc, if_pos rfl]; simp
theorem roots_one (m : Nat) (r : Hsh) : roots m m none [r] = some (r, r) := by
  have := roots_snoc m m none [] r
  simpa using this
theorem roots_other (m : Nat) (p : List Hsh) (h : p.length ≠ 1) : roots m m none p = none := by
  rcases List.eq_nil_or_concat p with rfl | ⟨q, r, rfl⟩
  · simp [roots_nil]
  · rw [List.concat_eq_append] at *
    rw [roots_snoc, if_pos rfl]
    have : q ≠ [] := by intro e; subst e; simp at h
    simp [this]
theorem below2_ (w : World) : Below w.heap.size w (((w.alloc (.cells #[.int .u8 0, .int .u8 0, .int .u8 0, .int .u8 0, .int .u8 0, .int .u8 0, .int .u8 0, .int .u8 0] 62)).alloc (.cells #[.int .u8 0, .int .u8 0, .int .u8 0, .int .u8 0, .int .u8 0, .int .u8 0, .int .u8 0, .int .u8 0] 62)).drew) := ((below_alloc w _).alloc (by simp) _).drew
theorem slice_of {w : World} {v : Value} {p : List Hsh} (h : HashesAt w v p) : ∃ a c, v = .slice a p.length c := by obtain ⟨a, c, h1, _⟩ := h; exact ⟨a, c, h1⟩
set_option maxHeartbeats 1000000 in
theorem extend_whole (m : Int) (g : Nat) (h : Hsh) (v : Value) (p : List Hsh) (w : World) (hp : HashesAt w v p) (hh : hashOf w g h) :
    Calls Tryd.prog 83 #[.int .i64 m, .int .i64 m, v, .pointer (some ⟨g, 0, none⟩)] w (ExtendPost m.toNat m.toNat (some h) p w) := by
  obtain ⟨a, c, rfl⟩ := slice_of hp
  clear hp
  have c0 := hashOf_cell hh 0 (by decide)
  have c1 := hashOf_cell hh 1 (by decide)
  have c2 := hashOf_cell hh 2 (by decide)
  have c3 := hashOf_cell hh 3 (by decide)
  have c4 := hashOf_cell hh 4 (by decide)
  have c5 := hashOf_cell hh 5 (by decide)
  have c6 := hashOf_cell hh 6 (by decide)
  have c7 := hashOf_cell hh 7 (by decide)
  have hg : g < w.heap.size := cell_lt c0
  have hg1 : g < w.heap.size + 1 := by omega
  have hn1 : g ≠ w.heap.size := by omega
  have hn2 : g ≠ w.heap.size + 1 := by omega
  have i1 : Is8 (((w.alloc (.cells #[.int .u8 0, .int .u8 0, .int .u8 0, .int .u8 0, .int .u8 0, .int .u8 0, .int .u8 0, .int .u8 0] 62)).alloc (.cells #[.int .u8 0, .int .u8 0, .int .u8 0, .int .u8 0, .int .u8 0, .int .u8 0, .int .u8 0, .int .u8 0] 62)).drew) w.heap.size := ⟨zero8, hashOf_drew (hashOf_old (hashOf_zero' rfl) _)⟩
  have i2 : Is8 (((w.alloc (.cells #[.int .u8 0, .int .u8 0, .int .u8 0, .int .u8 0, .int .u8 0, .int .u8 0, .int .u8 0, .int .u8 0] 62)).alloc (.cells #[.int .u8 0, .int .u8 0, .int .u8 0, .int .u8 0, .int .u8 0, .int .u8 0, .int .u8 0, .int .u8 0] 62)).drew) (w.heap.size + 1) := ⟨zero8, hashOf_drew (hashOf_zero' (by simp))⟩
  have i3 : Is8 ((((w.alloc (.cells #[.int .u8 0, .int .u8 0, .int .u8 0, .int .u8 0, .int .u8 0, .int .u8 0, .int .u8 0, .int .u8 0] 62)).alloc (.cells #[.int .u8 0, .int .u8 0, .int .u8 0, .int .u8 0, .int .u8 0, .int .u8 0, .int .u8 0, .int .u8 0] 62)).drew).setRow w.heap.size (h8 h)) (w.heap.size + 1) := ⟨zero8, hashOf_other (hashOf_drew (hashOf_zero' (by simp))) _ (by omega)⟩
  have i4 : Is8 ((((w.alloc (.cells #[.int .u8 0, .int .u8 0, .int .u8 0, .int .u8 0, .int .u8 0, .int .u8 0, .int .u8 0, .int .u8 0] 62)).alloc (.cells #[.int .u8 0, .int .u8 0, .int .u8 0, .int .u8 0, .int .u8 0, .int .u8 0, .int .u8 0, .int .u8 0] 62)).drew).setRow (w.heap.size + 1) (h8 h)) w.heap.size := ⟨zero8, hashOf_other (hashOf_drew (hashOf_old (hashOf_zero' rfl) _)) _ (by omega)⟩
  have hl : ((p.length : Int) == 0) = decide (p.length = 0) := by
    rw [Bool.eq_iff_iff]; simp
  have HL := Lib.hid hl
  clear hl
  go_enter Tryd.func83, Tryd.ntmps83
  go_wp2_with fail
  go_region
  go_wp2
  refine ret88t w.heap.size (w.heap.size + 1) h h (.bool ((p.length : Int) == 0)) rfl rfl rfl rfl _ Tryd.underlying62 info8 (hashOf_other (hashOf_set' i1 _) _ (by omega)) (hashOf_set' i3 _) rfl ⟨h, h, ?_, ?_, below_setRow (below_setRow (below2_ w) (Nat.le_refl _) _) (by omega) _⟩
  · rw [roots_whole, HL.out]
    by_cases h0 : p.length = 0 <;> simp [h0]
  · intro z hz
    rw [roots_whole] at hz
    split at hz
    · cases hz; rfl
    · cases hz
set_option maxHeartbeats 1000000 in
theorem extend_one (m : Int) (r : Hsh) (v : Value) (w : World) (hp : HashesAt w v [r]) :
    Calls Tryd.prog 83 #[.int .i64 m, .int .i64 m, v, .pointer none] w (ExtendPost m.toNat m.toNat none [r] w) := by
  obtain ⟨a, c, rfl⟩ := slice_of hp
  obtain ⟨g, off, rfl, hcap, hcell, _⟩ := hashes_init (q := []) (m := 0) hp rfl
  simp only [Nat.zero_mul, Nat.add_zero] at hcell
  have c0 : w.cell? ⟨g, off, none⟩ = some (u8 r[0]) := hcell 0 (by decide)
  have c1 := hcell 1 (by decide)
  have c2 := hcell 2 (by decide)
  have c3 := hcell 3 (by decide)
  have c4 := hcell 4 (by decide)
  have c5 := hcell 5 (by decide)
  have c6 := hcell 6 (by decide)
  have c7 := hcell 7 (by decide)
  have hg : g < w.heap.size := cell_lt c0
  have hg1 : g < w.heap.size + 1 := by omega
  have hn1 : g ≠ w.heap.size := by omega
  have hn2 : g ≠ w.heap.size + 1 := by omega
  have i1 : Is8 (((w.alloc (.cells #[.int .u8 0, .int .u8 0, .int .u8 0, .int .u8 0, .int .u8 0, .int .u8 0, .int .u8 0, .int .u8 0] 62)).alloc (.cells #[.int .u8 0, .int .u8 0, .int .u8 0, .int .u8 0, .int .u8 0, .int .u8 0, .int .u8 0, .int .u8 0] 62)).drew) w.heap.size := ⟨zero8, hashOf_drew (hashOf_old (hashOf_zero' rfl) _)⟩
  have i2 : Is8 (((w.alloc (.cells #[.int .u8 0, .int .u8 0, .int .u8 0, .int .u8 0, .int .u8 0, .int .u8 0, .int .u8 0, .int .u8 0] 62)).alloc (.cells #[.int .u8 0, .int .u8 0, .int .u8 0, .int .u8 0, .int .u8 0, .int .u8 0, .int .u8 0, .int .u8 0] 62)).drew) (w.heap.size + 1) := ⟨zero8, hashOf_drew (hashOf_zero' (by simp))⟩
  have i3 : Is8 ((((w.alloc (.cells #[.int .u8 0, .int .u8 0, .int .u8 0, .int .u8 0, .int .u8 0, .int .u8 0, .int .u8 0, .int .u8 0] 62)).alloc (.cells #[.int .u8 0, .int .u8 0, .int .u8 0, .int .u8 0, .int .u8 0, .int .u8 0, .int .u8 0, .int .u8 0] 62)).drew).setRow w.heap.size (h8 r)) (w.heap.size + 1) := ⟨zero8, hashOf_other (hashOf_drew (hashOf_zero' (by simp))) _ (by omega)⟩
  have i4 : Is8 ((((w.alloc (.cells #[.int .u8 0, .int .u8 0, .int .u8 0, .int .u8 0, .int .u8 0, .int .u8 0, .int .u8 0, .int .u8 0] 62)).alloc (.cells #[.int .u8 0, .int .u8 0, .int .u8 0, .int .u8 0, .int .u8 0, .int .u8 0, .int .u8 0, .int .u8 0] 62)).drew).setRow (w.heap.size + 1) (h8 r)) w.heap.size := ⟨zero8, hashOf_other (hashOf_drew (hashOf_old (hashOf_zero' rfl) _)) _ (by omega)⟩
  clear hcell hp
  go_enter Tryd.func83, Tryd.ntmps83
  go_wp2_with fail
  go_region
  go_wp2
  refine ret88t w.heap.size (w.heap.size + 1) r r (.bool true) rfl rfl rfl rfl _ Tryd.underlying62 info8 (hashOf_other (hashOf_set' i1 _) _ (by omega)) (hashOf_set' i3 _) rfl ⟨r, r, by rw [roots_one]; rfl, ?_, below_setRow (below_setRow (below2_ w) (Nat.le_refl _) _) (by omega) _⟩
  intro z hz
  rw [roots_one] at hz
  cases hz
  rfl
set_option maxHeartbeats 1000000 in
theorem extend_no (m n : Int) (pv : Value) (whole : Option Hsh) (v : Value) (p : List Hsh) (w : World) (hp : HashesAt w v p) (hw : WholeAt w pv whole) (hmn : m ≤ n) (hno : (m = n ∧ whole = none ∧ p.length ≠ 1) ∨ (m ≠ n ∧ p = [])) (hm1 : 1 ≤ m) :
    Calls Tryd.prog 83 #[.int .i64 m, .int .i64 n, v, pv] w (ExtendPost m.toNat n.toNat whole p w) := by
  obtain ⟨a, c, rfl⟩ := slice_of hp
  have hroots : roots m.toNat n.toNat whole p = none := by
    rcases hno with ⟨rfl, rfl, h⟩ | ⟨h, rfl⟩
    · exact roots_other _ _ h
    · rw [roots_nil, if_neg (by omega)]
  have HR := Lib.hid hroots
  clear hroots hp
  have fin : ∀ (a : Act) , a.tmps.getD 8 undef = .pointer (some ⟨w.heap.size, 0, none⟩) → a.tmps.getD 9 undef = .pointer (some ⟨w.heap.size + 1, 0, none⟩) → a.tmps.getD 10 undef = .bool false → a.defers = [] →
      bodyPost Tryd.prog Tryd.f83 (ExtendPost m.toNat n.toNat whole p w) .ret a (((w.alloc (.cells #[.int .u8 0, .int .u8 0, .int .u8 0, .int .u8 0, .int .u8 0, .int .u8 0, .int .u8 0, .int .u8 0] 62)).alloc (.cells #[.int .u8 0, .int .u8 0, .int .u8 0, .int .u8 0, .int .u8 0, .int .u8 0, .int .u8 0, .int .u8 0] 62)).drew) := fun a h1 h2 h3 h4 =>
    ret88t w.heap.size (w.heap.size + 1) zero8 zero8 (.bool false) rfl h1 h2 h3 _ Tryd.underlying62 info8 (hashOf_drew (hashOf_old (hashOf_zero' rfl) _)) (hashOf_drew (hashOf_zero' (by simp))) h4
      ⟨zero8, zero8, by rw [HR.out]; rfl, fun z hz => (by rw [HR.out] at hz; cases hz), below2_ w⟩
  have FIN := Lib.hid fin
  clear fin
  rcases hno with ⟨rfl, rfl, h⟩ | ⟨h, rfl⟩
  · obtain rfl : pv = .pointer none := by rcases hw with ⟨rfl, _⟩ | ⟨_, _, _, h, _⟩ <;> first | rfl | cases h
    have d1 : ((p.length : Int) == 1) = false := by rw [beq_eq_false_iff_ne]; omega
    go_enter Tryd.func83, Tryd.ntmps83
    go_wp2_with fail
    go_region
    go_wp2
    exact FIN.out _ rfl rfl rfl rfl
  · have d1 : (m == n) = false := by rw [beq_eq_false_iff_ne]; exact h
    clear hw
    go_enter Tryd.func83, Tryd.ntmps83
    go_wp2_with fail
    go_region
    go_wp2
    exact FIN.out _ rfl rfl rfl rfl
end
end Go.Proofs.YtefccfakhgdfbaaDoor
