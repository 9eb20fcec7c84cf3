/- The walk of plain.Unbundle; tileslaw.Bundles answers true. -/
import Derived.Test.YtefccfakhgdfbaaClear
namespace Go.Proofs.Ytefccfakhgdfbaa
open Go.RowKit
def punbPost (data : List UInt8) (w : World) (e : Ending) (w' : World) : Prop :=
  ∃ v ss, e = .returned (.tuple #[v, .bool (unbundleOf data).isSome]) ∧ OwnStrs w' w.heap.size v ss ∧ bss ss = (unbundleOf data).getD [] ∧ Below w.heap.size w w'
def strOfL (l : List UInt8) : ByteArray := ⟨l.toArray⟩
theorem bss_strs (ls : List (List UInt8)) : bss (ls.map strOfL) = ls := by
  simp [bss, strOfL, Function.comp_def]
theorem bss_inj {a b : List ByteArray} (h : bss a = bss b) : a = b := by
  have hi : ∀ x y : ByteArray, x.data.toList = y.data.toList → x = y := fun x y h => Go.WideShapes.bytes_inj h
  induction a generalizing b with
  | nil => cases b with
    | nil => rfl
    | cons y b => simp [bss] at h
  | cons x a ih => cases b with
    | nil => simp [bss] at h
    | cons y b =>
      simp only [bss, List.map_cons, List.cons.injEq] at h
      rw [hi x y h.1, ih h.2]
set_option maxHeartbeats 1000000 in
theorem punbundle_any (s : ByteArray) (w : World) (hn : s.size ≤ 1048576) :
    Calls Try.prog 10 #[.string s] w (punbPost s.data.toList w) := by
  obtain ⟨i0, hi, hz0, hz1, hz2⟩ := info_parts info_u8
  obtain ⟨j0, hj, hy0, hy1, hy2⟩ := info_parts info_str
  go_enter Try.func10, Try.ntmps10
  go_wp2_with (first | (refine wpList_sb rfl 9 35 5 _ rfl Try.underlying9 Try.underlying35 Try.underlying5 rfl s rfl ?_; intro u w1 hu hb1 hw1 hv1; obtain ⟨b1, c1, rfl⟩ := hv1; have HU := Lib.hid hu; have HB1 := Lib.hid hb1; clear hu hb1 hw1))
  have hlen : s.data.toList.length = s.size := rfl
  refine (tunbundle_any _ s.data.toList _ HU.out.at (by omega)).mono ?_
  rintro e w2 ⟨v2, rfl, hb2, hr⟩
  have HB2 := Lib.hid hb2
  have HR := Lib.hid hr
  clear hb2 hr
  have hblk : b1 < w1.heap.size := by
    rcases HU.out with ⟨h1, _⟩ | ⟨b, off, c, C, fz, h1, _, _, h2, _⟩
    · cases h1
    · simp only [Value.slice.injEq, Option.some.injEq, Addr.mk.injEq] at h1
      obtain ⟨⟨rfl, _⟩, _⟩ := h1
      exact lt_of_heap h2
  have hblk0 : w.heap.size ≤ b1 := by
    rcases HU.out with ⟨h1, _⟩ | ⟨b, off, c, C, fz, h1, _, h3, h2, _⟩
    · cases h1
    · simp only [Value.slice.injEq, Option.some.injEq, Addr.mk.injEq] at h1
      obtain ⟨⟨rfl, _⟩, _⟩ := h1
      exact h3
  obtain ⟨ls, hown2, hls⟩ : ∃ ls, OwnBss w2 w1.heap.size v2 ls ∧ (unbundleOf s.data.toList).getD [] = ls := by
    rcases HR.out with ⟨h1, rfl⟩ | ⟨ls, h1, ho⟩
    · exact ⟨[], ⟨[], World.ownsRow_nil _ _ _ _, by simp⟩, by rw [h1]; rfl⟩
    · exact ⟨ls, ho, by rw [h1]; rfl⟩
  obtain ⟨a2, c2, rfl⟩ : ∃ a c, v2 = .slice a ls.length c := by
    obtain ⟨vs, hrow, _⟩ := hown2
    obtain ⟨a, c, h1, _⟩ := ownsRow_cells hrow; exact ⟨a, c, h1⟩
  have hll : ls.length ≤ 4 := by
    rcases HR.out with ⟨h1, _⟩ | ⟨ls', h1, _⟩
    · rw [h1] at hls; subst hls; simp
    · rw [h1] at hls
      obtain rfl : ls' = ls := hls
      unfold unbundleOf at h1
      cases hq : rawU s.data.toList with
      | none => rw [hq] at h1; cases h1
      | some q =>
        rw [hq, Option.bind_some] at h1
        split at h1
        · rename_i hb
          cases h1
          unfold bundleOf at hb
          split at hb
          · cases hb
          · omega
        · cases h1
  have HLS := Lib.hid hls
  have HO2 := Lib.hid hown2
  clear hls hown2
  go_wp2_with (first | (refine wpList_clearB rfl _ 35 rfl i0 Try.underlying35 hi hz0 w.heap.size _ s.data.toList rfl (HU.out.below HB2.out) ?_; intro w3 n hg3 hsh3 hz3; have HG3 := Lib.hid hg3; clear hg3 hsh3))
  have hown : OwnBss w3 w.heap.size (.slice a2 ls.length c2) ls := HO2.out.grownAway HG3.out (fun k hk => by cases hk; exact hblk) HB1.out.size
  have hb3 : Below w.heap.size w w3 := (HB1.out.trans (HB2.out.mono HB1.out.size)).grown HG3.out (Nat.le_trans HB1.out.size HB2.out.size) (fun k hk => by cases hk; exact hblk0)
  obtain ⟨vs, hvl, ⟨a', c', hv', _, hc⟩, hall⟩ := hown.at
  simp only [Value.slice.injEq] at hv'
  obtain ⟨rfl, _, rfl⟩ := hv'
  have HB3 := Lib.hid hb3
  have HC := Lib.hid hc
  have HA := Lib.hid hall
  have HVL := Lib.hid hvl
  clear hown hb3 hc hall hvl
  go_loopw [7, 20] (fun v i wr => ∃ k : Nat, k ≤ ls.length ∧ i = .int .i64 k ∧ OwnStrs wr w3.heap.size v ((ls.take k).map strOfL) ∧ Below w3.heap.size w3 wr) (fun _ i _ => ls.length - (intOf i).toNat)
  case atStart => exact ⟨0, by omega, rfl, World.ownsRow_nil _ _ _ _, Below.refl _ _⟩
  case round =>
    obtain ⟨k, hk, rfl, hown, hbel⟩ := hrel
    by_cases hlt : k < ls.length
    · obtain ⟨l, hl⟩ : ∃ s, ls[k]? = some s := ⟨_, List.getElem?_eq_getElem hlt⟩
      obtain ⟨u, hu⟩ : ∃ s, vs[k]? = some s := ⟨_, List.getElem?_eq_getElem (by rw [HVL.out]; exact hlt)⟩
      obtain ⟨b, off, rfl, hcell0⟩ := HC.out k u hu
      have hbs := run_bs ((HA.out k u l hu hl).below hbel)
      have hba := HA.out k u l hu hl
      have hcell : wr.cell? ⟨b, off + k, none⟩ = some u := (hbel.cell (p := ⟨b, off + k, none⟩) (cell_lt hcell0)).trans hcell0
      obtain ⟨au, cu, rfl⟩ : ∃ a c, u = .slice a l.length c := by obtain ⟨a, c, h1, _, _⟩ := hba; exact ⟨a, c, h1⟩
      unfold OwnStrs at hown
      have HO := Lib.hid hown
      have HBE := Lib.hid hbel
      have HK := Lib.hid hl
      clear hu hcell0 hba hbel hown hl
      go_wp2_with (first | (at_builtin; refine wpList_app1 rfl _ _ 22 rfl w3.heap.size 9 j0 (.string ⟨#[]⟩) 16 Try.underlying22 hj hy0 hy1 hy2 rfl (by decide) _ _ _ rfl HO.out _ rfl rfl (by simp; omega) HBE.out.size ?_; intro v5 w5 hr5 hg5 hne5; have HR5 := Lib.hid hr5; have HG5 := Lib.hid hg5; clear hr5 hg5 hne5))
      go_roundw
      case rel =>
        refine ⟨k + 1, by omega, by go_num, ?_, HBE.out.grown HG5.out HBE.out.size (fun j hj => (HO.out.lt j hj).1)⟩
        have e : (ls.take (k + 1)).map strOfL = (ls.take k).map strOfL ++ [strOfL l] := by rw [List.take_add_one, HK.out]; simp
        rw [e]
        unfold OwnStrs
        rw [List.length_append, List.map_append]
        simpa [strOfL, Nat.min_eq_left hk] using HR5.out
      case measure => simp [intOf]; omega
    · have ht : ls.take k = ls := List.take_of_length_le (by omega)
      rw [ht] at hown
      go_wp2
      go_ret2
      exact ⟨_, _, rfl, ownsRow_mono hown (by have := HB3.out.size; exact this), by rw [bss_strs, HLS.out], HB3.out.trans (hbel.mono HB3.out.size)⟩
end Go.Proofs.Ytefccfakhgdfbaa
