/- tileskeep.Extends answers true. -/
import Derived.Test.YtefccfakhgdfbaaDoorProves
import Derived.Test.YtefccfakhgdfbaaDoorConsist
namespace Go.Proofs.YtefccfakhgdfbaaDoor
open Go.RowKit
theorem pcon_hs (m n : Int) (a b : Hsh) (p : List Hsh) (v : Value) (w : World) (h : StrsAt w v (p.map HS)) (hm : -9223372036854775808 ≤ m) (hn : n ≤ 9223372036854775807) (hl : p.length ≤ 1048576) :
    Calls Tryd.prog 19 #[.int .i64 m, .int .i64 n, .string (HS a), .string (HS b), v] w fun e w' => e = .returned (.bool (consistent m n a b p)) ∧ Below w.heap.size w w' := by
  have := pconsistent_any (p.map HS) (HS a) (HS b) m n v w h hm hn (by simpa using hl) (HS_bd p) (by rw [HS_size]; decide) (by rw [HS_size]; decide)
  rw [eight_HS, eight_HS, eights_HS] at this
  exact this
set_option maxHeartbeats 4000000 in
set_option maxRecDepth 100000 in
theorem extends_walk (f : Nat → Addr) (v : Value) (ss : List ByteArray) (w : World) (h : StrsAt w v ss) (hS : Sents w f) (hs : ∀ s ∈ ss, s.size ≤ 9223372036854775807) :
    Calls Tryd.prog 6 #[v] w fun e w' => e = .returned (.bool true) ∧ Below w.heap.size w w' := by
  obtain ⟨a0, c0, rfl⟩ : ∃ a c, v = .slice a ss.length c := by obtain ⟨a, c, h1, _⟩ := h; exact ⟨a, c, h1⟩
  obtain ⟨i0, hi0, hz0, hz1, hz2⟩ := info_parts info_str
  by_cases hbig : 100 < ss.length
  · have hd : decide ((100 : Int) < (ss.length : Int)) = true := decide_eq_true (by omega)
    clear h hS hs
    go_enter Tryd.func6, Tryd.ntmps6
    go_wp2
    go_ret
    exact ⟨rfl, Below.refl _ _⟩
  · have hd : decide ((100 : Int) < (ss.length : Int)) = false := decide_eq_false (by omega)
    obtain ⟨L, hL⟩ : ∃ L, L = firstS :: ss := ⟨_, rfl⟩
    have hsL : ∀ s ∈ L, s.size ≤ 9223372036854775807 := by
      intro s hm
      rw [hL] at hm
      rcases List.mem_cons.1 hm with rfl | hm
      · decide
      · exact hs s hm
    have hlen : L.length = ss.length + 1 := by rw [hL]; rfl
    obtain ⟨n, hn⟩ : ∃ n, n = L.length := ⟨_, rfl⟩
    have hn1 : n ≤ 101 := by omega
    have hn0 : 1 ≤ n := by omega
    have HC := Lib.hid (show Cells w (.slice a0 ss.length c0) ss.length (ss.map Value.string) from h)
    have HSen := Lib.hid hS
    have HSL := Lib.hid hsL
    have HLen := Lib.hid hlen
    have HL := Lib.hid hL
    have HN := Lib.hid hn
    have HX := Lib.hid (show ∀ y ∈ ss.map Value.string, y.oneCell' = true from fun y hy => by obtain ⟨s, _, rfl⟩ := List.mem_map.1 hy; rfl)
    have hsn : ss.length ≤ 1099511627776 := by omega
    clear h hS hs hsL hlen hL hn
    go_enter Tryd.func6, Tryd.ntmps6
    go_wp2_with (at_builtin; go_must (refine wpList_appF rfl _ _ 23 rfl 9 i0 (.string ⟨#[]⟩) 16 Tryd.underlying23 hi0 hz0 hz1 hz2 rfl (by decide) (.string ⟨#[102, 105, 114, 115, 116]⟩) (.slice a0 ss.length c0) ss.length (ss.map Value.string) rfl rfl HC.out (by simp) HX.out hsn ?_; intro v2 w1 hr2 hb2; obtain ⟨g2, k2, rfl, hg2, hg3⟩ := hr2.form (by omega); have HR2 := Lib.hid hr2; have HB2 := Lib.hid hb2; clear hr2 hb2))
    have HA := Lib.hid (show OwnStrs w1 w.heap.size (.slice (some ⟨g2, 0, none⟩) (ss.length + 1) k2) L from by
      have := HR2.out
      rw [HL.out]
      exact this).at
    have hnn : ss.length + 1 = n := by rw [HN.out, HLen.out]
    rw [hnn] at HA ⊢
    have hcap : n ≤ k2 := by
      obtain ⟨_, _, h1, h2, _⟩ := HA.out
      cases h1
      rw [HN.out]
      exact h2
    clear HR2 hnn HC HX
    have HS1 := Lib.hid (HSen.out.below HB2.out)
    have hL1 : L.length ≤ 1048576 := by have := HN.out; omega
    clear HSen
    refine (proot_any _ L _ HA.out hL1 HSL.out).mono ?_
    rintro e w3 ⟨rfl, hb3⟩
    have HB3 := Lib.hid (HB2.out.trans (hb3.mono HB2.out.size))
    have HB31 := Lib.hid hb3
    clear hb3
    obtain ⟨r, hr⟩ : ∃ r, r = rootOf (lists L) := ⟨_, rfl⟩
    rw [← hr]
    have HR := Lib.hid hr
    clear hr
    go_wp2_with fail
    go_loopw [4] (fun i wr => ∃ k : Nat, 1 ≤ k ∧ k ≤ n + 1 ∧ i = .int .i64 k ∧ Below w1.heap.size w1 wr) (fun i _ => n + 1 - (intOf i).toNat)
    case atStart => exact ⟨1, by omega, by omega, rfl, HB31.out⟩
    case round =>
      obtain ⟨k, hk1, hk, rfl, hbel⟩ := hrel
      have HB := Lib.hid hbel
      by_cases hlt : k ≤ n
      · have hd1 : decide ((k : Int) ≤ (n : Int)) = true := decide_eq_true (by omega)
        have hwb : w1.heap.size ≤ wr.heap.size := hbel.size
        have HAr := Lib.hid (HA.out.below hbel)
        have HSr := Lib.hid (HS1.out.below hbel)
        clear hbel
        go_wp2_with fail
        refine (pprove_any f _ L k _ HAr.out HSr.out hL1 HSL.out hk1 (by rw [← HN.out]; exact hlt)).mono ?_
        rintro e w4 ⟨v4, rfl, ho4, hb4⟩
        obtain ⟨p, hp⟩ : ∃ p, p = partOf k (lists L) true := ⟨_, rfl⟩
        rw [← hp] at ho4
        have hpl : p.length ≤ 1048576 := by rw [hp]; exact Nat.le_trans (partOf_len _ _ _) (by simp [lists]; exact hL1)
        have hb4' := hb4.alloc hb4.size (.cells #[.int .i64 0, .string ⟨#[]⟩] 26)
        have hT : ToldAt (w4.alloc (.cells #[.int .i64 0, .string ⟨#[]⟩] 26)) w4.heap.size 0 ⟨#[]⟩ := heap_alloc_new w4 _
        have t0 := hT.facts.1
        have HP := Lib.hid hp
        have HO4 := Lib.hid (ho4.alloc (.cells #[.int .i64 0, .string ⟨#[]⟩] 26))
        have HB4 := Lib.hid hb4'
        have HTk := Lib.hid (strs_take (HAr.out.below hb4') (show k ≤ L.length by rw [← HN.out]; exact hlt))
        have HOW4 := Lib.hid (show ∀ j, v4.ownBlock = some j → j < w4.heap.size from fun j hj => (ho4.lt j hj).2)
        clear hp ho4 hb4 hb4' hT
        go_wp2_with fail
        refine (proot_any _ (L.take k) _ HTk.out (by simp; omega) (fun s hs => HSL.out s (List.mem_of_mem_take hs))).mono ?_
        rintro e w5 ⟨rfl, hb5⟩
        have t1 := (hb5.cell (cell_lt t0)).trans t0
        obtain ⟨x, hx⟩ : ∃ x, x = rootOf (lists (L.take k)) := ⟨_, rfl⟩
        rw [← hx]
        have HX := Lib.hid hx
        have HB5 := Lib.hid (HB4.out.trans (hb5.mono HB4.out.size))
        have HO5 := Lib.hid (HO4.out.below hb5)
        clear t0 hx hb5
        go_wp2_with fail
        refine (pcon_hs k n x r p _ _ HO5.out.at (by omega) (by omega) hpl).mono ?_
        rintro e w7 ⟨rfl, hb7⟩
        have t3 := (hb7.cell (cell_lt t1)).trans t1
        have hll : (lists L).length = n := by simp [lists]; exact HN.out.symm
        have hinc : consistent k n x r p = true := by
          have := consistent_part (lists L) k hk1 (by rw [hll]; exact hlt) (by rw [hll]; omega)
          rw [← HP.out, ← HR.out, hll, show (lists L).take k = lists (L.take k) by simp [lists], ← HX.out] at this
          exact this
        rw [hinc]
        have HLL := Lib.hid hll
        have HB7 := Lib.hid (HB5.out.trans (hb7.mono HB5.out.size))
        have HO7 := Lib.hid (HO5.out.below hb7)
        have hwz : wr.heap.size ≤ w7.heap.size := HB7.out.size
        have HR7 := Lib.hid (show w7.ownsRow wr.heap.size 9 1 v4 (p.map HS).length ((p.map HS).map Value.string) from HO7.out)
        have hpl2 : (p.map HS).length ≤ 1099511627776 := by rw [List.length_map]; omega
        have hown : ∀ j, v4.ownBlock = some j → wr.heap.size ≤ j := fun j hj => (HO7.out.lt j hj).1
        have HOW := Lib.hid hown
        clear t1 hb7 hinc hll hown
        go_wp2_with (at_builtin; go_must (refine wpList_app1k rfl _ _ 23 rfl wr.heap.size 9 i0 (.string ⟨#[]⟩) 16 Tryd.underlying23 hi0 hz0 hz1 hz2 rfl (by decide) v4 (p.map HS).length ((p.map HS).map Value.string) rfl HR7.out (.string (HS r)) rfl rfl hpl2 hwz ?_; intro v8 w8 hr8' hg8 hk8; have HR8 := Lib.hid hr8'; have HG8 := Lib.hid hg8; have HB8 := Lib.hid (HB7.out.grown hg8 hwz HOW.out); clear hr8' hg8 hk8))
        have hfar : w8.heap[w4.heap.size]? = w7.heap[w4.heap.size]? := HG8.out.block _ (cell_lt t3) (fun e => by have := HOW4.out _ e.symm; omega)
        have t8 : w8.cell? ⟨w4.heap.size, 0, none⟩ = some (.int .i64 0) := by
          have h := t3
          simp only [World.cell?] at h ⊢
          rw [hfar]
          exact h
        have ho8 : OwnStrs w8 wr.heap.size v8 ((p ++ [r]).map HS) := by
          have := HR8.out
          rw [List.map_append]
          unfold OwnStrs
          simpa using this
        clear t3 hfar HG8
        refine (pcon_hs k n x r (p ++ [r]) _ _ ho8.at (by omega) (by omega) (by simp; have hq := partOf_len k (lists L) true; rw [← HP.out, HLL.out] at hq; omega)).mono ?_
        rintro e w9 ⟨rfl, hb9⟩
        have t9 := (hb9.cell (cell_lt t8)).trans t8
        have hmore : consistent k n x r (p ++ [r]) = false := by
          have := consistent_more (lists L) k hk1 (by rw [HLL.out]; exact hlt) (by rw [HLL.out]; omega) x r r
          rw [← HP.out, HLL.out] at this
          exact this
        rw [hmore]
        have HB9 := Lib.hid (HB8.out.trans (hb9.mono HB8.out.size))
        clear hb9 ho8 hmore HR8 t8
        go_wp2
        go_roundw
        case rel => exact ⟨k + 1, by omega, by omega, by go_num, HB.out.trans (HB9.out.mono hwb)⟩
        case measure => (simp [intOf] <;> omega)
      · have hd1 : decide ((k : Int) ≤ (n : Int)) = false := decide_eq_false (by omega)
        clear hbel
        go_wp2_with fail
        refine (pcon_hs 0 n r r [] _ _ ⟨none, 0, rfl, Nat.le_refl _, fun j x hx => by simp at hx⟩ (by omega) (by omega) (by simp)).mono ?_
        rintro e w9 ⟨rfl, hb9⟩
        rw [consistent_none]
        go_wp2
        go_ret
        exact ⟨rfl, HB2.out.trans ((HB.out.trans (hb9.mono HB.out.size)).mono HB2.out.size)⟩
end Go.Proofs.YtefccfakhgdfbaaDoor
