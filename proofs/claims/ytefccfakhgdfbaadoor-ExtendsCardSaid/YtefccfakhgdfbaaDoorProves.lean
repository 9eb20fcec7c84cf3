/- tileskeep.Proves answers true. -/
import Derived.Test.YtefccfakhgdfbaaDoorPaths
import Derived.Test.YtefccfakhgdfbaaDoorTree
import Derived.Test.YtefccfakhgdfbaaDoorInclude
import Derived.Test.YtefccfakhgdfbaaDoorProvesPlain
import Derived.Test.YtefccfakhgdfbaaDoorKeep
import Derived.Deep.AppendLies
import Derived.Deep.DeepMust
namespace Go.Proofs.YtefccfakhgdfbaaDoor
open Go.RowKit
theorem eight_HS (h : Hsh) : eightOf (HS h).data.toList = h := by
  apply Vector.ext
  intro i hi
  have : i = 0 ∨ i = 1 ∨ i = 2 ∨ i = 3 ∨ i = 4 ∨ i = 5 ∨ i = 6 ∨ i = 7 := by omega
  rcases this with rfl | rfl | rfl | rfl | rfl | rfl | rfl | rfl <;> simp [eightOf, HS, List.getD]
theorem eights_HS (p : List Hsh) : eightsOf (p.map HS) = p := by
  unfold eightsOf
  rw [List.map_map]
  conv => rhs; rw [← List.map_id p]
  exact List.map_congr_left fun h _ => eight_HS h
theorem HS_bd (p : List Hsh) : ∀ s ∈ p.map HS, s.size ≤ 9223372036854775807 := by
  intro s hs
  obtain ⟨h, _, rfl⟩ := List.mem_map.1 hs
  rw [HS_size]
  decide
theorem pinc_hs (x r : Hsh) (p : List Hsh) (i n : Int) (v : Value) (w : World) (h : StrsAt w v (p.map HS)) (hi : -9223372036854775808 ≤ i) (hn : n ≤ 9223372036854775807) (hm : p.length ≤ 1048576) :
    Calls Tryd.prog 18 #[.string (HS x), .int .i64 i, .int .i64 n, v, .string (HS r)] w fun e w' => e = .returned (.bool (included x i n p r)) ∧ Below w.heap.size w w' := by
  have := pincluded_any (p.map HS) (HS x) (HS r) i n v w h hi hn (by simpa using hm) (HS_bd p) (by rw [HS_size]; decide) (by rw [HS_size]; decide)
  rw [eight_HS, eight_HS, eights_HS] at this
  exact this
theorem keep_strs {w w' : World} {base : Nat} {v : Value} {ss : List ByteArray} (h : OwnStrs w base v ss) (hk : ∀ (j : Nat) y, (ss.map Value.string)[j]? = some y → ∀ g, v.ownBlock = some g → w'.cell? ⟨g, j, none⟩ = some y) : StrsAt w' v ss := by
  have h1 := h.1
  rcases h.2 with ⟨rfl, h0⟩ | ⟨g, cap, cur, rfl, _, _, hnc, _⟩
  · have h0' : ss = [] := List.eq_nil_of_length_eq_zero h0
    subst h0'
    exact ⟨none, 0, rfl, Nat.le_refl _, fun j x hx => by simp at hx⟩
  · exact ⟨some ⟨g, 0, none⟩, cap, rfl, hnc, fun j x hx => ⟨g, 0, rfl, by rw [Nat.zero_add]; exact hk j x hx g (by simp [Value.ownBlock])⟩⟩
/-- The entry that is put ahead of all. -/
def firstS : ByteArray := ⟨#[102, 105, 114, 115, 116]⟩
theorem lists_get {ss : List ByteArray} {k : Nat} {s : ByteArray} (h : ss[k]? = some s) : (lists ss).getD k [] = s.data.toList := by
  simp [lists, List.getD, h]
set_option maxHeartbeats 4000000 in
set_option maxRecDepth 100000 in
theorem proves_walk (f : Nat → Addr) (v : Value) (ss : List ByteArray) (other : ByteArray) (w : World) (h : StrsAt w v ss) (hS : Sents w f) (hs : ∀ s ∈ ss, s.size ≤ 9223372036854775807) (ho : other.size ≤ 9223372036854775807) :
    Calls Tryd.prog 5 #[v, .string other] w fun e w' => e = .returned (.bool true) ∧ Below w.heap.size w w' := by
  obtain ⟨a0, c0, rfl⟩ : ∃ a c, v = .slice a ss.length c := by obtain ⟨a, c, h1, _⟩ := h; exact ⟨a, c, h1⟩
  obtain ⟨i0, hi0, hz0, hz1, hz2⟩ := info_parts info_str
  by_cases hbig : 200 < ss.length
  · have hd : decide ((200 : Int) < (ss.length : Int)) = true := decide_eq_true (by omega)
    clear h hS hs
    go_enter Tryd.func5, Tryd.ntmps5
    go_wp2
    go_ret
    exact ⟨rfl, Below.refl _ _⟩
  · have hd : decide ((200 : Int) < (ss.length : Int)) = false := decide_eq_false (by omega)
    obtain ⟨L, hL⟩ : ∃ L, L = firstS :: ss := ⟨_, rfl⟩
    have hsL : ∀ s ∈ L, s.size ≤ 9223372036854775807 := by
      intro s hm
      rw [hL] at hm
      rcases List.mem_cons.1 hm with rfl | hm
      · decide
      · exact hs s hm
    have hlen : L.length = ss.length + 1 := by rw [hL]; rfl
    obtain ⟨n, hn⟩ : ∃ n, n = L.length := ⟨_, rfl⟩
    have hn1 : n ≤ 201 := by omega
    have hn0 : 1 ≤ n := by omega
    have HC := Lib.hid (show Cells w (.slice a0 ss.length c0) ss.length (ss.map Value.string) from h)
    have HSen := Lib.hid hS
    have HSL := Lib.hid hsL
    have HLen := Lib.hid hlen
    have HL := Lib.hid hL
    have HN := Lib.hid hn
    have HX := Lib.hid (show ∀ y ∈ ss.map Value.string, y.oneCell' = true from fun y hy => by obtain ⟨s, _, rfl⟩ := List.mem_map.1 hy; rfl)
    have hsn : ss.length ≤ 1099511627776 := by omega
    clear h hS hs hsL hlen hL hn
    go_enter Tryd.func5, Tryd.ntmps5
    go_wp2_with (at_builtin; go_must (refine wpList_appF rfl _ _ 23 rfl 9 i0 (.string ⟨#[]⟩) 16 Tryd.underlying23 hi0 hz0 hz1 hz2 rfl (by decide) (.string ⟨#[102, 105, 114, 115, 116]⟩) (.slice a0 ss.length c0) ss.length (ss.map Value.string) rfl rfl HC.out (by simp) HX.out hsn ?_; intro v2 w1 hr2 hb2; obtain ⟨g2, k2, rfl, hg2, hg3⟩ := hr2.form (by omega); have HR2 := Lib.hid hr2; have HB2 := Lib.hid hb2; clear hr2 hb2))
    have HA := Lib.hid (show OwnStrs w1 w.heap.size (.slice (some ⟨g2, 0, none⟩) (ss.length + 1) k2) L from by
      have := HR2.out
      rw [HL.out]
      exact this).at
    have hnn : ss.length + 1 = n := by rw [HN.out, HLen.out]
    rw [hnn] at HA ⊢
    clear HR2 hnn HC HX
    have hcol : ∀ (k : Nat) (s : ByteArray), L[k]? = some s → w1.cell? ⟨g2, k, none⟩ = some (.string s) := by
      intro k s hk
      obtain ⟨a', c', hv, _, hc⟩ := HA.out
      obtain ⟨b, off, hb, hcell⟩ := hc k (.string s) (by simp [hk])
      cases hv
      cases hb
      simpa using hcell
    have HCOL := Lib.hid hcol
    have HS1 := Lib.hid (HSen.out.below HB2.out)
    have hL1 : L.length ≤ 1048576 := by have := HN.out; omega
    clear hcol HSen
    refine (proot_any _ L _ HA.out hL1 HSL.out).mono ?_
    rintro e w3 ⟨rfl, hb3⟩
    have HB3 := Lib.hid (HB2.out.trans (hb3.mono HB2.out.size))
    have HB31 := Lib.hid hb3
    have hg3' : g2 < w3.heap.size := Nat.lt_of_lt_of_le hg3 hb3.size
    clear hb3
    obtain ⟨r, hr⟩ : ∃ r, r = rootOf (lists L) := ⟨_, rfl⟩
    rw [← hr]
    have HR := Lib.hid hr
    have hr8 : (HS r).size = 8 := HS_size r
    clear hr
    go_wp2_with fail
    go_loopw [6] (fun i wr => ∃ k : Nat, k ≤ n ∧ i = .int .i64 k ∧ Below w1.heap.size w1 wr) (fun i _ => n - (intOf i).toNat)
    case atStart => exact ⟨0, by omega, rfl, HB31.out⟩
    case round =>
      obtain ⟨k, hk, rfl, hbel⟩ := hrel
      have HB := Lib.hid hbel
      by_cases hlt : k < n
      · obtain ⟨s, hs⟩ : ∃ s, L[k]? = some s := ⟨_, List.getElem?_eq_getElem (by rw [← HN.out]; exact hlt)⟩
        have hcell0 : wr.cell? ⟨g2, k, none⟩ = some (.string s) := (hbel.cell (p := ⟨g2, k, none⟩) hg3).trans (HCOL.out k s hs)
        have hsz := HSL.out s (List.mem_of_getElem? hs)
        have hwb : w1.heap.size ≤ wr.heap.size := hbel.size
        have HK := Lib.hid hs
        have HAr := Lib.hid (HA.out.below hbel)
        have HSr := Lib.hid (HS1.out.below hbel)
        clear hs hbel
        go_wp2_with fail
        refine (ppath_any f _ L k _ HAr.out HSr.out hL1 HSL.out (by rw [← HN.out]; exact hlt)).mono ?_
        rintro e w4 ⟨v4, rfl, ho4, hb4⟩
        obtain ⟨p, hp⟩ : ∃ p, p = pathOf (lists L) k := ⟨_, rfl⟩
        rw [← hp] at ho4
        have hpl : p.length ≤ 1048576 := by rw [hp]; exact Nat.le_trans (pathOf_len _ _) (by simp [lists]; exact hL1)
        have hb4' := hb4.alloc hb4.size (.cells #[.int .i64 0, .string ⟨#[]⟩] 26)
        have hT : ToldAt (w4.alloc (.cells #[.int .i64 0, .string ⟨#[]⟩] 26)) w4.heap.size 0 ⟨#[]⟩ := heap_alloc_new w4 _
        have t0 := hT.facts.1
        have hcell : (w4.alloc (.cells #[.int .i64 0, .string ⟨#[]⟩] 26)).cell? ⟨g2, k, none⟩ = some (.string s) := (hb4'.cell (p := ⟨g2, k, none⟩) (cell_lt hcell0)).trans hcell0
        have HP := Lib.hid hp
        have HO4 := Lib.hid (ho4.alloc (.cells #[.int .i64 0, .string ⟨#[]⟩] 26))
        have HB4 := Lib.hid hb4'
        clear hp ho4 hb4 hb4' hT hcell0
        go_wp2_with fail
        refine (pleaf_any s _ hsz).mono ?_
        rintro e w5 ⟨rfl, hb5⟩
        have t1 := (hb5.cell (cell_lt t0)).trans t0
        obtain ⟨x, hx⟩ : ∃ x, x = leafH s.data.toList := ⟨_, rfl⟩
        rw [← hx]
        have HX := Lib.hid hx
        have hx8 : (HS x).size = 8 := HS_size x
        have HB5 := Lib.hid (HB4.out.trans (hb5.mono HB4.out.size))
        have HO5 := Lib.hid (HO4.out.below hb5)
        clear t0 hx hb5 hcell
        go_wp2_with fail
        refine (pleaf_any other _ ho).mono ?_
        rintro e w6 ⟨rfl, hb6⟩
        have t2 := (hb6.cell (cell_lt t1)).trans t1
        obtain ⟨y, hy⟩ : ∃ y, y = leafH other.data.toList := ⟨_, rfl⟩
        rw [← hy]
        have hy8 : (HS y).size = 8 := HS_size y
        have HB6 := Lib.hid (HB5.out.trans (hb6.mono HB5.out.size))
        have HO6 := Lib.hid (HO5.out.below hb6)
        clear t1 hy hb6
        go_wp2_with fail
        refine (pinc_hs x r p k n _ _ HO6.out.at (by omega) (by omega) hpl).mono ?_
        rintro e w7 ⟨rfl, hb7⟩
        have t3 := (hb7.cell (cell_lt t2)).trans t2
        have hinc : included x k n p r = true := by
          have := included_path (lists L) k (by simp [lists]; rw [← HN.out]; exact hlt)
          rw [lists_get HK.out, ← HX.out, ← HP.out, ← HR.out, show (lists L).length = n by simp [lists]; exact HN.out.symm] at this
          exact this
        rw [hinc]
        have HB7 := Lib.hid (HB6.out.trans (hb7.mono HB6.out.size))
        have HO7 := Lib.hid (HO6.out.below hb7)
        have hwz : wr.heap.size ≤ w7.heap.size := HB7.out.size
        have HR7 := Lib.hid (show w7.ownsRow wr.heap.size 9 1 v4 (p.map HS).length ((p.map HS).map Value.string) from HO7.out)
        have hpl2 : (p.map HS).length ≤ 1099511627776 := by rw [List.length_map]; omega
        clear t2 hb7 hinc
        go_wp2_with (at_builtin; go_must (refine wpList_app1k rfl _ _ 23 rfl wr.heap.size 9 i0 (.string ⟨#[]⟩) 16 Tryd.underlying23 hi0 hz0 hz1 hz2 rfl (by decide) v4 (p.map HS).length ((p.map HS).map Value.string) rfl HR7.out (.string (HS r)) rfl rfl hpl2 hwz ?_; intro v8 w8 hr8' hg8 hk8; have HR8 := Lib.hid hr8'; have HP8 := Lib.hid (keep_strs HO7.out hk8); have HB8 := Lib.hid (HB7.out.grown hg8 hwz (fun j hj => (HO7.out.lt j hj).1)); clear hr8' hg8 hk8))
        have ho8 : OwnStrs w8 wr.heap.size v8 ((p ++ [r]).map HS) := by
          have := HR8.out
          rw [List.map_append]
          unfold OwnStrs
          simpa using this
        refine (pinc_hs x r (p ++ [r]) k n _ _ ho8.at (by omega) (by omega) (by simp; have := HLen.out; have hq := pathOf_len (lists L) k; rw [← HP.out] at hq; simp [lists] at hq; have := HN.out; omega)).mono ?_
        rintro e w9 ⟨rfl, hb9⟩
        have hmore : included x k n (p ++ [r]) r = false := by
          have := included_more (lists L) k (by simp [lists]; rw [← HN.out]; exact hlt) x r r
          rw [← HP.out, show (lists L).length = n by simp [lists]; exact HN.out.symm] at this
          exact this
        rw [hmore]
        have HB9 := Lib.hid (HB8.out.trans (hb9.mono HB8.out.size))
        have HP9 := Lib.hid (HP8.out.below hb9)
        clear hb9 ho8 hmore HR8
        go_wp2_with fail
        refine (pinc_hs x r p n n _ _ HP9.out (by omega) (by omega) hpl).mono ?_
        rintro e w10 ⟨rfl, hb10⟩
        rw [included_out]
        have HB10 := Lib.hid (HB9.out.trans (hb10.mono HB9.out.size))
        clear hb10
        go_wp2
        go_roundw
        case rel => exact ⟨k + 1, by omega, by go_num, HB.out.trans (HB10.out.mono hwb)⟩
        case measure => (simp [intOf] <;> omega)
      · go_wp2
        go_ret
        exact ⟨rfl, HB2.out.trans (hbel.mono HB2.out.size)⟩
end Go.Proofs.YtefccfakhgdfbaaDoor
