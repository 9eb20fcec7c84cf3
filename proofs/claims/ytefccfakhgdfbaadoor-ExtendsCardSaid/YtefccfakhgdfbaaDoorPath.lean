/- The walks of merkle.Path, Proof over the entries' ranges. -/
import Derived.Test.YtefccfakhgdfbaaDoorGather
namespace Go.Proofs.YtefccfakhgdfbaaDoor
open Go.RowKit
theorem two_one (a b : Int) : ∀ u ∈ (#[.int .i64 a, .int .i64 b] : Array Value).toList, u.oneCell' = true := by
  intro u hu
  simp at hu
  rcases hu with rfl | rfl <;> rfl
theorem rsCells_snoc (rs : List (Nat × Nat)) (x : Nat × Nat) : rsCells (rs ++ [x]) = rsCells rs ++ [.int .i64 x.1, .int .i64 x.2] := by simp [rsCells]
theorem OwnRs.snoc {w : World} {base : Nat} {v : Value} {rs : List (Nat × Nat)} {x : Nat × Nat} {a b : Int} (h : w.ownsRow base 99 2 v (rs.length + 1) (rsCells rs ++ (#[.int .i64 a, .int .i64 b] : Array Value).toList)) (ha : a = x.1) (hb : b = x.2) : OwnRs w base v (rs ++ [x]) := by
  subst ha hb
  unfold OwnRs
  rw [rsCells_snoc, List.length_append]
  exact h
set_option maxHeartbeats 1000000 in
set_option maxRecDepth 100000 in
theorem mpath_any (i : Nat) (rv : Value) (ls : List (List UInt8)) (w : World) (h : RangeOf w rv ls) (hin : i < ls.length) (hl : ls.length ≤ 1048576) (hs : ∀ l ∈ ls, l.length ≤ 9223372036854775807) :
    Calls Tryd.prog 55 #[rv, .int .i64 i, .int .i64 ls.length] w fun e w' => ∃ v', e = .returned (.tuple #[v', .nilIface]) ∧ OwnHs w' w.heap.size v' (pathOf ls i) ∧ Below w.heap.size w w' := by
  obtain ⟨g1, g3, rfl⟩ : ∃ g1 g3, rv = .func (.func 93) #[] #[.pointer (some ⟨g1, 0, none⟩), .pointer (some ⟨g3, 0, none⟩)] := by obtain ⟨_, _, g1, g3, _, h0, _⟩ := h; exact ⟨g1, g3, h0⟩
  have HR := Lib.hid h
  have HS' := Lib.hid hs
  obtain ⟨i0, hi, hz0, hz1, hz2⟩ := info_parts info_two
  obtain ⟨n, hn⟩ : ∃ n, n = ls.length := ⟨_, rfl⟩
  rw [← hn] at hin hl ⊢
  have HN := Lib.hid hn
  clear h hs hn
  go_enter Tryd.func55, Tryd.ntmps55
  go_wp2
  go_loopw [8, 9, 10] (fun v a b wr => ∃ (x y f : Nat) (done : List (Nat × Nat)), a = .int .i64 x ∧ b = .int .i64 y ∧ x ≤ i ∧ i < y ∧ y ≤ n ∧ y - x ≤ f ∧ Hid (done ++ pathR f x y i = pathR n 0 n i) ∧ done.length + (y - x) ≤ n ∧ OwnRs wr w.heap.size v done ∧ Below w.heap.size w wr) (fun _ a b _ => (intOf b - intOf a).toNat)
  case atStart => exact ⟨0, n, n, [], rfl, rfl, by omega, hin, Nat.le_refl _, by omega, Lib.hid rfl, by simp, World.ownsRow_nil _ _ _ _, Below.refl _ _⟩
  case round =>
    obtain ⟨x, y, f, done, rfl, rfl, hx, hy, hyn, hf, HD, hlen, hown, hbel⟩ := hrel
    by_cases hlt : 1 < y - x
    · obtain ⟨f, rfl⟩ : ∃ g, f = g + 1 := ⟨f - 1, by omega⟩
      have hbd := below_lt (n := y - x) (by omega)
      have hp : pathR (f + 1) x y i = if i < x + below (y - x) then (x + below (y - x), y) :: pathR f x (x + below (y - x)) i else (x, x + below (y - x)) :: pathR f (x + below (y - x)) y i := by
        simp only [pathR]; rw [if_neg (by omega)]
      obtain ⟨k, hk⟩ : ∃ k, k = below (y - x) := ⟨_, rfl⟩
      rw [← hk] at hbd hp
      have HK := Lib.hid (show ((below ((y : Int) - x).toNat : Nat) : Int) = k by rw [show ((y : Int) - x).toNat = y - x by omega, hk])
      have HP := Lib.hid hp
      unfold OwnRs at hown
      have HO := Lib.hid hown
      have HB := Lib.hid hbel
      have hxy : (x : Int) + 2 ≤ y := by omega
      have hyi : (y : Int) ≤ 1048576 := by omega
      have hbase := hbel.size
      have hdl : done.length ≤ 1048576 := by omega
      have hlt' : (1 : Int) < y - x := by omega
      have HL := Lib.hid (And.intro hlen (And.intro hf (And.intro hbd hlt)))
      have hk1 : (1 : Int) ≤ k := by omega
      have hk2 : (x : Int) + k ≤ y := by omega
      clear hk hp hown hbel hlen hf hbd hlt
      by_cases hik : i < x + k
      · have hik' : (i : Int) < x + k := by omega
        go_wp2_with fail
        refine (split_any _ _ (by omega) (by omega)).mono ?_
        rintro e w0 ⟨rfl, rfl⟩
        rw [HK.out]
        go_wp2_with (at_builtin; refine wpList_appC rfl _ _ 98 rfl w.heap.size 99 i0 (.agg #[.int .i64 0, .int .i64 0]) 2 16 Tryd.underlying98 hi hz0 hz1 hz2 rfl (by decide) (by decide) _ _ _ rfl HO.out #[.int .i64 _, .int .i64 _] rfl (two_one _ _) rfl (Nat.le_trans hdl (by decide)) hbase ?_; intro v2 w2 hr2 hg2 hne2; have HR2 := Lib.hid hr2; have HG2 := Lib.hid hg2; clear hr2 hg2 hne2)
        go_roundw
        case rel =>
          obtain ⟨hlen, hf, hbd, hlt⟩ := HL.out
          exact ⟨x, x + k, f, done ++ [(x + k, y)], rfl, by go_num, hx, hik, by omega, by omega, Lib.hid (by rw [← HD.out, HP.out, if_pos hik, List.append_assoc]; rfl), by simp; omega, OwnRs.snoc HR2.out (by simp) (by simp), HB.out.grown HG2.out HB.out.size (fun j hj => (HO.out.lt j hj).1)⟩
        case measure => (obtain ⟨hlen, hf, hbd, hlt⟩ := HL.out; simp [intOf] <;> omega)
      · have hik' : (x : Int) + k ≤ i := by omega
        go_wp2_with fail
        refine (split_any _ _ (by omega) (by omega)).mono ?_
        rintro e w0 ⟨rfl, rfl⟩
        rw [HK.out]
        go_wp2_with (at_builtin; refine wpList_appC rfl _ _ 98 rfl w.heap.size 99 i0 (.agg #[.int .i64 0, .int .i64 0]) 2 16 Tryd.underlying98 hi hz0 hz1 hz2 rfl (by decide) (by decide) _ _ _ rfl HO.out #[.int .i64 _, .int .i64 _] rfl (two_one _ _) rfl (Nat.le_trans hdl (by decide)) hbase ?_; intro v2 w2 hr2 hg2 hne2; have HR2 := Lib.hid hr2; have HG2 := Lib.hid hg2; clear hr2 hg2 hne2)
        go_roundw
        case rel =>
          obtain ⟨hlen, hf, hbd, hlt⟩ := HL.out
          exact ⟨x + k, y, f, done ++ [(x, x + k)], by go_num, rfl, by omega, hy, hyn, by omega, Lib.hid (by rw [← HD.out, HP.out, if_neg hik, List.append_assoc]; rfl), by simp; omega, OwnRs.snoc HR2.out (by simp) (by simp), HB.out.grown HG2.out HB.out.size (fun j hj => (HO.out.lt j hj).1)⟩
        case measure => (simp [intOf] <;> omega)
    · have hdn : done = pathR n 0 n i := by
        rw [← HD.out]
        cases f with
        | zero => omega
        | succ f => simp only [pathR]; rw [if_pos (by omega), List.append_nil]
      have hmem : ∀ z ∈ done, z.1 < z.2 ∧ z.2 ≤ ls.length := by
        intro z hz
        rw [hdn] at hz
        have := pathR_mem n 0 n i (by omega) (by omega) hin z hz
        exact ⟨this.1, by rw [← HN.out]; exact this.2⟩
      have hres : done.reverse.map (fun z => rootOf (part ls z.1 z.2)) = pathOf ls i := by
        rw [hdn, pathR_eq ls n 0 n i (by omega) (by omega) hin (by rw [HN.out]; exact Nat.le_refl _)]
        rw [Nat.sub_zero, show part ls 0 n = ls from by unfold part; rw [HN.out, List.drop_zero, Nat.sub_zero]; exact List.take_of_length_le (Nat.le_refl _)]
      have HM := Lib.hid hmem
      have HRES := Lib.hid hres
      unfold OwnRs at hown
      have HO := Lib.hid hown
      have HB := Lib.hid hbel
      have hnx : ¬ ((1 : Int) < y - x) := by omega
      clear hdn hmem hres hown hbel HD
      go_wp2_with fail
      refine (gather_any _ _ done ls _ (HR.out.below HB.out) (ownsRow_cells HO.out) HM.out (by omega) (by rw [← HN.out]; exact hl) HS'.out).mono ?_
      rintro e w2 ⟨v2, rfl, ho2, hb2⟩
      rw [HRES.out] at ho2
      have HO2 := Lib.hid (ownsRow_mono ho2 HB.out.size)
      have HB2 := Lib.hid (HB.out.trans (hb2.mono HB.out.size))
      clear ho2 hb2
      go_wp2
      go_ret2
      exact ⟨_, rfl, HO2.out, HB2.out⟩

set_option maxHeartbeats 1000000 in
set_option maxRecDepth 100000 in
theorem mproof_any (m : Nat) (rv : Value) (ls : List (List UInt8)) (w : World) (h : RangeOf w rv ls) (hm1 : 1 ≤ m) (hin : m ≤ ls.length) (hl : ls.length ≤ 1048576) (hs : ∀ l ∈ ls, l.length ≤ 9223372036854775807) :
    Calls Tryd.prog 59 #[rv, .int .i64 m, .int .i64 ls.length] w fun e w' => ∃ v', e = .returned (.tuple #[v', .nilIface]) ∧ OwnHs w' w.heap.size v' (partOf m ls true) ∧ Below w.heap.size w w' := by
  obtain ⟨g1, g3, rfl⟩ : ∃ g1 g3, rv = .func (.func 93) #[] #[.pointer (some ⟨g1, 0, none⟩), .pointer (some ⟨g3, 0, none⟩)] := by obtain ⟨_, _, g1, g3, _, h0, _⟩ := h; exact ⟨g1, g3, h0⟩
  have HR := Lib.hid h
  have HS' := Lib.hid hs
  obtain ⟨i0, hi, hz0, hz1, hz2⟩ := info_parts info_two
  obtain ⟨n, hn⟩ : ∃ n, n = ls.length := ⟨_, rfl⟩
  rw [← hn] at hin hl ⊢
  have HN := Lib.hid hn
  clear h hs hn
  go_enter Tryd.func59, Tryd.ntmps59
  go_wp2
  go_loopw [8, 9, 10] (fun v a b wr => ∃ (x y f : Nat) (done : List (Nat × Nat)), a = .int .i64 x ∧ b = .int .i64 y ∧ x < m ∧ m ≤ y ∧ y ≤ n ∧ y - x ≤ f ∧ Hid (done ++ partR f x y m = partR n 0 n m) ∧ done.length + (y - x) ≤ n ∧ OwnRs wr w.heap.size v done ∧ Below w.heap.size w wr) (fun _ a b _ => (intOf b - intOf a).toNat)
  case atStart => exact ⟨0, n, n, [], rfl, rfl, by omega, hin, Nat.le_refl _, by omega, Lib.hid rfl, by simp, World.ownsRow_nil _ _ _ _, Below.refl _ _⟩
  case round =>
    obtain ⟨x, y, f, done, rfl, rfl, hx, hy, hyn, hf, HD, hlen, hown, hbel⟩ := hrel
    by_cases hlt : m < y
    · obtain ⟨f, rfl⟩ : ∃ g, f = g + 1 := ⟨f - 1, by omega⟩
      have hbd := below_lt (n := y - x) (by omega)
      have hp : partR (f + 1) x y m = if m ≤ x + below (y - x) then (x + below (y - x), y) :: partR f x (x + below (y - x)) m else (x, x + below (y - x)) :: partR f (x + below (y - x)) y m := by
        simp only [partR]; rw [if_neg (by omega)]
      obtain ⟨k, hk⟩ : ∃ k, k = below (y - x) := ⟨_, rfl⟩
      rw [← hk] at hbd hp
      have HK := Lib.hid (show ((below ((y : Int) - x).toNat : Nat) : Int) = k by rw [show ((y : Int) - x).toNat = y - x by omega, hk])
      have HP := Lib.hid hp
      unfold OwnRs at hown
      have HO := Lib.hid hown
      have HB := Lib.hid hbel
      have hxy : (x : Int) + 2 ≤ y := by omega
      have hyi : (y : Int) ≤ 1048576 := by omega
      have hbase := hbel.size
      have hdl : done.length ≤ 1048576 := by omega
      have hlt' : (m : Int) < y := by omega
      have HL := Lib.hid (And.intro hlen (And.intro hf (And.intro hbd hlt)))
      have hk1 : (1 : Int) ≤ k := by omega
      have hk2 : (x : Int) + k ≤ y := by omega
      clear hk hp hown hbel hlen hf hbd hlt
      by_cases hik : m ≤ x + k
      · have hik' : (m : Int) ≤ x + k := by omega
        go_wp2_with fail
        refine (split_any _ _ (by omega) (by omega)).mono ?_
        rintro e w0 ⟨rfl, rfl⟩
        rw [HK.out]
        go_wp2_with (at_builtin; refine wpList_appC rfl _ _ 98 rfl w.heap.size 99 i0 (.agg #[.int .i64 0, .int .i64 0]) 2 16 Tryd.underlying98 hi hz0 hz1 hz2 rfl (by decide) (by decide) _ _ _ rfl HO.out #[.int .i64 _, .int .i64 _] rfl (two_one _ _) rfl (Nat.le_trans hdl (by decide)) hbase ?_; intro v2 w2 hr2 hg2 hne2; have HR2 := Lib.hid hr2; have HG2 := Lib.hid hg2; clear hr2 hg2 hne2)
        go_roundw
        case rel =>
          obtain ⟨hlen, hf, hbd, hlt⟩ := HL.out
          exact ⟨x, x + k, f, done ++ [(x + k, y)], rfl, by go_num, hx, hik, by omega, by omega, Lib.hid (by rw [← HD.out, HP.out, if_pos hik, List.append_assoc]; rfl), by simp; omega, OwnRs.snoc HR2.out (by simp) (by simp), HB.out.grown HG2.out HB.out.size (fun j hj => (HO.out.lt j hj).1)⟩
        case measure => (obtain ⟨hlen, hf, hbd, hlt⟩ := HL.out; simp [intOf] <;> omega)
      · have hik' : ¬ (m : Int) ≤ x + k := by omega
        go_wp2_with fail
        refine (split_any _ _ (by omega) (by omega)).mono ?_
        rintro e w0 ⟨rfl, rfl⟩
        rw [HK.out]
        go_wp2_with (at_builtin; refine wpList_appC rfl _ _ 98 rfl w.heap.size 99 i0 (.agg #[.int .i64 0, .int .i64 0]) 2 16 Tryd.underlying98 hi hz0 hz1 hz2 rfl (by decide) (by decide) _ _ _ rfl HO.out #[.int .i64 _, .int .i64 _] rfl (two_one _ _) rfl (Nat.le_trans hdl (by decide)) hbase ?_; intro v2 w2 hr2 hg2 hne2; have HR2 := Lib.hid hr2; have HG2 := Lib.hid hg2; clear hr2 hg2 hne2)
        go_roundw
        case rel =>
          obtain ⟨hlen, hf, hbd, hlt⟩ := HL.out
          exact ⟨x + k, y, f, done ++ [(x, x + k)], by go_num, rfl, by omega, hy, hyn, by omega, Lib.hid (by rw [← HD.out, HP.out, if_neg hik, List.append_assoc]; rfl), by simp; omega, OwnRs.snoc HR2.out (by simp) (by simp), HB.out.grown HG2.out HB.out.size (fun j hj => (HO.out.lt j hj).1)⟩
        case measure => (simp [intOf] <;> omega)
    · obtain ⟨f, rfl⟩ : ∃ g, f = g + 1 := ⟨f - 1, by omega⟩
      obtain ⟨fin, hfin⟩ : ∃ fin, fin = partR n 0 n m := ⟨_, rfl⟩
      have hdn : done ++ (if 0 < x then [(x, y)] else []) = fin := by
        have hle : y ≤ m := by omega
        rw [hfin, ← HD.out]
        simp only [partR, if_pos hle]
      have hmem : ∀ z ∈ fin, z.1 < z.2 ∧ z.2 ≤ ls.length := by
        intro z hz
        rw [hfin] at hz
        have := partR_mem n 0 n m (by omega) (by omega) hin z hz
        exact ⟨this.1, by rw [← HN.out]; exact this.2⟩
      have hres : fin.reverse.map (fun z => rootOf (part ls z.1 z.2)) = partOf m ls true := by
        rw [hfin, partR_eq ls n 0 n m (by omega) (by omega) hin (by rw [HN.out]; exact Nat.le_refl _)]
        rw [Nat.sub_zero, show part ls 0 n = ls from by unfold part; rw [HN.out, List.drop_zero, Nat.sub_zero]; exact List.take_of_length_le (Nat.le_refl _)]
        rfl
      have HM := Lib.hid hmem
      have HRES := Lib.hid hres
      unfold OwnRs at hown
      have HO := Lib.hid hown
      have HB := Lib.hid hbel
      have hbase := hbel.size
      have hdl : done.length ≤ 1048576 := by omega
      have hnx : ¬ ((m : Int) < y) := by omega
      have hyi : (y : Int) ≤ 1048576 := by omega
      have HL := Lib.hid (And.intro hlen (And.intro hx (And.intro hy hlt)))
      by_cases hx0 : 0 < x
      · rw [if_pos hx0] at hdn
        have hx0' : (0 : Int) < x := by omega
        have HDN := Lib.hid hdn
        clear hdn hmem hres hown hbel HD hfin hlen hf hlt hx hy
        go_wp2_with (at_builtin; refine wpList_appC rfl _ _ 98 rfl w.heap.size 99 i0 (.agg #[.int .i64 0, .int .i64 0]) 2 16 Tryd.underlying98 hi hz0 hz1 hz2 rfl (by decide) (by decide) _ _ _ rfl HO.out #[.int .i64 _, .int .i64 _] rfl (two_one _ _) rfl (Nat.le_trans hdl (by decide)) hbase ?_; intro v2 w2 hr2 hg2 hne2; have HR2 := Lib.hid (OwnRs.snoc (x := (x, y)) hr2 rfl rfl); have HB1 := Lib.hid (HB.out.grown hg2 HB.out.size (fun j hj => (HO.out.lt j hj).1)); clear hr2 hg2 hne2)
        have ho := HR2.out
        rw [HDN.out] at ho
        refine (gather_any _ _ fin ls _ (HR.out.below HB1.out) (ownsRow_cells ho) HM.out (by have h1 := HL.out.1; have h2 := HL.out.2.1; have h3 := HL.out.2.2.1; rw [← HDN.out]; simp; omega) (by rw [← HN.out]; exact hl) HS'.out).mono ?_
        rintro e w3 ⟨v3, rfl, ho2, hb2⟩
        rw [HRES.out] at ho2
        have HO2 := Lib.hid (ownsRow_mono ho2 HB1.out.size)
        have HB2 := Lib.hid (HB1.out.trans (hb2.mono HB1.out.size))
        clear ho2 hb2
        go_wp2
        go_ret2
        exact ⟨_, rfl, HO2.out, HB2.out⟩
      · rw [if_neg hx0, List.append_nil] at hdn
        obtain rfl : x = 0 := by omega
        subst hdn
        clear hmem hres hown hbel HD hfin hlen hf hlt hx hy hx0
        go_wp2_with fail
        refine (gather_any _ _ done ls _ (HR.out.below HB.out) (ownsRow_cells HO.out) HM.out (by omega) (by rw [← HN.out]; exact hl) HS'.out).mono ?_
        rintro e w2 ⟨v2, rfl, ho2, hb2⟩
        rw [HRES.out] at ho2
        have HO2 := Lib.hid (ownsRow_mono ho2 HB.out.size)
        have HB2 := Lib.hid (HB.out.trans (hb2.mono HB.out.size))
        clear ho2 hb2
        go_wp2
        go_ret2
        exact ⟨_, rfl, HO2.out, HB2.out⟩
end Go.Proofs.YtefccfakhgdfbaaDoor
