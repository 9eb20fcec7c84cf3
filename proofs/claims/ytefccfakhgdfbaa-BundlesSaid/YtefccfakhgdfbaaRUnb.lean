/- The walk of tilesref.Unbundle. -/
import Derived.Test.YtefccfakhgdfbaaUnb
import Derived.Test.YtefccfakhgdfbaaHashes
namespace Go.Proofs.Ytefccfakhgdfbaa
open Go.RowKit
def runbPost (data : List UInt8) (w : World) (e : Ending) (w' : World) : Prop :=
  ∃ v', e = .returned (.tuple #[v', .bool (unbundleOf data).isSome]) ∧ Below w.heap.size w w' ∧ ((unbundleOf data = none ∧ v' = .slice none 0 0) ∨ ∃ ss, unbundleOf data = some (bss ss) ∧ OwnStrs w' w.heap.size v' ss)
theorem bundle_eq {ls : List (List UInt8)} {l : List UInt8} (h : bundleOf ls = some l) : l = ls.flatMap encE := by
  unfold bundleOf at h
  split at h
  · cases h
  · split at h
    · cases h; rfl
    · cases h
theorem toList_extract (s : ByteArray) (i j : Nat) : (s.extract i j).data.toList = (s.data.toList.drop i).take (j - i) := by
  simp [List.extract]
theorem runb_cut {s : ByteArray} {x : UInt8} {r : List UInt8} {n : Nat} (h : s.data.toList = x :: r) (hn : n ≤ r.length) : (s.extract 1 (1 + n)).data.toList = r.take n ∧ (s.extract (1 + n) s.size).data.toList = r.drop n ∧ (s.extract (1 + n) s.size).size = s.size - (1 + n) := by
  have hl : s.data.toList.length = s.size := rfl
  have hl2 : r.length + 1 = s.size := by rw [← hl, h]; rfl
  refine ⟨?_, ?_, ?_⟩
  · rw [toList_extract, h, show 1 + n - 1 = n from by omega]; rfl
  · rw [toList_extract, h, show 1 + n = n + 1 from by omega, List.drop_succ_cons]
    exact List.take_of_length_le (by simp; omega)
  · simp
set_option maxHeartbeats 1000000 in
theorem runbundle_any (s0 : ByteArray) (w : World) (hn : s0.size ≤ 1099511627776) :
    Calls Try.prog 11 #[.string s0] w (runbPost s0.data.toList w) := by
  obtain ⟨i0, hi, hz0, hz1, hz2⟩ := info_parts info_str
  go_enter Try.func11, Try.ntmps11
  go_wp2
  go_loopw [0, 4] (fun sv lv wr => ∃ (s : ByteArray) (ss : List ByteArray), sv = .string s ∧ OwnStrs wr w.heap.size lv ss ∧ Read s0.data.toList (bss ss) s.data.toList ∧ ss.length + s.size ≤ s0.size ∧ Below w.heap.size w wr) (fun sv _ _ => match sv with | .string s => s.size | _ => 0)
  case atStart => exact ⟨s0, [], rfl, World.ownsRow_nil _ _ _ _, Read.start _, by simp, Below.refl _ _⟩
  case round =>
    obtain ⟨s, ss, rfl, hown, hread, hsz, hbel⟩ := hrel
    have HR := Lib.hid hread
    have HB := Lib.hid hbel
    unfold OwnStrs at hown
    have HO := Lib.hid hown
    clear hread hbel hown
    by_cases h0 : 0 < s.size
    · have hd : decide (0 < (s.size : Int)) = true := by simp; omega
      obtain ⟨x, r, hxr⟩ : ∃ x r, s.data.toList = x :: r := by
        cases h : s.data.toList with
        | nil =>
          have hl : s.data.toList.length = s.size := rfl
          rw [h] at hl
          simp at hl
          omega
        | cons x r => exact ⟨x, r, rfl⟩
      have hx8 : x.toNat < 256 := x.toNat_lt
      have hx : s[0]'h0 = x := by
        have : s.data.toList[0]'(by rw [hxr]; simp) = x := by simp [hxr]
        exact this
      have hrl : r.length + 1 = s.size := by
        have hl : s.data.toList.length = s.size := rfl
        rw [← hl, hxr]; rfl
      have HXR := Lib.hid hxr
      have hrl1 : r.length + 1 ≤ s.size := by omega
      have hrl2 : s.size ≤ r.length + 1 := by omega
      have HRL := Lib.hid hrl
      obtain ⟨n, hxn⟩ : ∃ n, n = x.toNat := ⟨_, rfl⟩
      rw [← hxn] at hx8
      have hx' : (s[0]'h0).toNat = n := by rw [hx, ← hxn]
      have HX := Lib.hid hxn
      clear hxr hrl hx hxn
      have hread := HR.out
      rw [HXR.out] at hread
      have HR1 := Lib.hid hread
      clear hread
      by_cases hA : r.length < n
      · have d1 : decide ((s.size : Int) < 1 + (n : Int)) = true := by simp; omega
        go_wp2
        go_ret2
        have hu := unbundle_bad (HR1.out.bad (by rw [← HX.out]; exact hA))
        exact ⟨_, by rw [hu]; rfl, HB.out, .inl ⟨hu, rfl⟩⟩
      · have d1 : decide ((s.size : Int) < 1 + (n : Int)) = false := by simp; omega
        have hcut := runb_cut HXR.out (show n ≤ r.length by omega)
        have HCUT := Lib.hid hcut
        have hread2 := HR1.out.step (by rw [← HX.out]; omega)
        rw [← HX.out] at hread2
        have HR2 := Lib.hid hread2
        clear hcut hread2
        go_wp2_with (first | (at_builtin; refine wpList_app1 rfl _ _ 22 rfl w.heap.size 9 i0 (.string ⟨#[]⟩) 16 Try.underlying22 hi hz0 hz1 hz2 rfl (by decide) _ _ _ rfl HO.out _ rfl rfl (by omega) HB.out.size ?_; intro v2 w2 hr2 hg2 hne2; have HRR2 := Lib.hid hr2; have HG2 := Lib.hid hg2; clear hr2 hg2 hne2))
        obtain ⟨hc1, hc2, hc3⟩ := HCUT.out
        go_roundw
        case rel =>
          refine ⟨_, ss ++ [s.extract 1 (1 + n)], rfl, ?_, ?_, ?_, HB.out.grown HG2.out HB.out.size (fun j hj => (HO.out.lt j hj).1)⟩
          · unfold OwnStrs
            simpa using HRR2.out
          · rw [hc2]
            have e : bss (ss ++ [s.extract 1 (1 + n)]) = bss ss ++ [r.take n] := by simp only [bss, List.map_append, List.map_cons, List.map_nil, hc1]
            rw [e]
            exact HR2.out
          · rw [hc3, List.length_append]
            simp
            omega
        case measure =>
          show (s.extract (1 + n) s.size).size < s.size
          rw [hc3]
          omega
    · have hd : decide (0 < (s.size : Int)) = false := decide_eq_false (by omega)
      have hsz0 : s.data.toList.length = 0 := by
        have hl : s.data.toList.length = s.size := rfl
        rw [hl]; omega
      have hnil : s.data.toList = [] := List.eq_nil_of_length_eq_zero hsz0
      clear hsz0
      have HN := Lib.hid hnil
      clear hnil
      have hraw : rawU s0.data.toList = some (bss ss) := by have := HR.out; rw [HN.out] at this; exact this.done
      have HRAW := Lib.hid hraw
      clear hraw
      have hstr : StrsAt wr u4 ss := ownsRow_cells HO.out
      have HST := Lib.hid hstr
      clear hstr
      go_wp2_with fail
      refine (rbundle_any u4 ss _ HST.out (by omega)).mono ?_
      rintro e w1 ⟨rfl, hb1⟩
      have HB1 := Lib.hid hb1
      clear hb1
      cases hbo : bundleOf (bss ss) with
      | none =>
        go_wp2
        go_ret2
        have hu : unbundleOf s0.data.toList = none := by unfold unbundleOf; rw [HRAW.out, Option.bind_some, hbo]; rfl
        exact ⟨_, by rw [hu]; rfl, HB.out.trans (HB1.out.mono HB.out.size), .inl ⟨hu, rfl⟩⟩
      | some l =>
        have hl : l = s0.data.toList := by rw [← unbundle_flat HRAW.out]; exact bundle_eq hbo
        have ht : (⟨((some l).getD []).toArray⟩ : ByteArray) = s0 := by rw [Option.getD_some, hl]
        have hu : unbundleOf s0.data.toList = some (bss ss) := by unfold unbundleOf; rw [HRAW.out, Option.bind_some, hbo]; rfl
        have HU := Lib.hid hu
        rw [ht]
        clear hl ht hu hbo
        go_wp2
        go_ret2
        exact ⟨_, by rw [HU.out]; rfl, HB.out.trans (HB1.out.mono HB.out.size), .inr ⟨ss, HU.out, ownsRow_below HO.out HB1.out⟩⟩
end Go.Proofs.Ytefccfakhgdfbaa
