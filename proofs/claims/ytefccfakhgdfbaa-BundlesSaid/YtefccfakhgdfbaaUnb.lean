/- The walks of files.Unbundle, tilesref.Unbundle. -/
import Derived.Test.YtefccfakhgdfbaaUnbPlain
import Derived.Great.BuildSlice
namespace Go.Proofs.Ytefccfakhgdfbaa
open Go.RowKit
theorem fill1 (u : Value) (hc : u.cells = #[u]) (sz : Nat) (hs : sz = 1) (Z : Array Value) (hZ : Z.size = 1) : Instr.fill (fun i => some (i * sz, sz)) Z [(0, u)] = some #[u] := by
  subst hs
  obtain ⟨l⟩ := Z
  match l, hZ with
  | [a0], _ => simp [Instr.fill, hc]
theorem wpList_bs1 {P : Program} {ops : Array Oper} {rest : List Oper} {o : Oper} {a : Act} {Q : Exit → Act → World → Prop} {w : World} (hg : o.guard = none) (t e : TypeId) (x : Operand) (ho : o.op = .buildSlice t 1 #[(0, x)])
    (i : TypeInfo) (z : Value) (hu : P.underlying t = some (.slice e)) (hi : P.info? e = some i) (hz : i.zero = some z) (hsize : i.size = 1) (u : Value) (hx : a.eval x = u) (hc : u.cells = #[u])
    (hk : wpList P ops Q rest (a.put o.dst (.slice (some ⟨w.heap.size, 0, none⟩) 1 1)) (w.alloc (.cells #[u] e))) : wpList P ops Q (o :: rest) a w :=
  wpList_plain hg fun _ hK => wp_buildSlice t e 1 _ ho #[u] i _ hu hi hz (by omega) (by omega) (by
    simp only [List.map_toArray, List.map_cons, List.map_nil, hx]
    exact fill1 u hc _ hsize _ (by simp [hsize])) (hK _ _ hk)
theorem OwnBytes.cells {w : World} {base : Nat} {v : Value} {l : List UInt8} (h : OwnBytes w base v l) : v.cells = #[v] := by
  rcases h with ⟨rfl, _⟩ | ⟨b, off, c, C, fz, rfl, _⟩ <;> rfl
theorem BytesAt.below2 {w w' : World} {v : Value} {l : List UInt8} (h : BytesAt w v l) (hb : Below w.heap.size w w') : BytesAt w' v l := h.below hb
theorem bytes_mid {w : World} {b off c : Nat} {x : UInt8} {r : List UInt8} {n : Nat} (h : BytesAt w (.slice (some ⟨b, off, none⟩) (r.length + 1) c) (x :: r)) (hn : n ≤ r.length) : BytesAt w (.slice (some ⟨b, off + 1, none⟩) n (c - 1)) (r.take n) := by
  obtain ⟨a, c', h1, h2, h3⟩ := h
  simp only [Value.slice.injEq] at h1
  obtain ⟨rfl, _, rfl⟩ := h1
  simp only [List.length_cons] at h2
  have hl : (r.take n).length = n := by simp; omega
  refine ⟨_, c - 1, by rw [hl], by rw [hl]; omega, fun j y hy => ⟨b, off + 1, rfl, ?_⟩⟩
  have hj : j < n := by have := (List.getElem?_eq_some_iff.1 hy).1; simp at this; omega
  obtain ⟨b', off', heq, hcell⟩ := h3 (j + 1) y (by rw [List.map_cons, List.getElem?_cons_succ]; rw [List.map_take, List.getElem?_take_of_lt hj] at hy; exact hy)
  cases heq
  rw [show off + 1 + j = off + (j + 1) from by omega]
  exact hcell
theorem bytes_tail {w : World} {b off c : Nat} {x : UInt8} {r : List UInt8} {n : Nat} (h : BytesAt w (.slice (some ⟨b, off, none⟩) (r.length + 1) c) (x :: r)) (hn : n ≤ r.length) : BytesAt w (.slice (some ⟨b, off + (1 + n), none⟩) (r.length + 1 - (1 + n)) (c - (1 + n))) (r.drop n) := by
  obtain ⟨a, c', h1, h2, h3⟩ := h
  simp only [Value.slice.injEq] at h1
  obtain ⟨rfl, _, rfl⟩ := h1
  simp only [List.length_cons] at h2
  have hl : (r.drop n).length = r.length + 1 - (1 + n) := by simp; omega
  refine ⟨_, c - (1 + n), by rw [hl], by rw [hl]; omega, fun j y hy => ⟨b, off + (1 + n), rfl, ?_⟩⟩
  obtain ⟨b', off', heq, hcell⟩ := h3 (1 + n + j) y (by
    rw [show 1 + n + j = (n + j) + 1 from by omega, List.map_cons, List.getElem?_cons_succ]
    rw [List.map_drop, List.getElem?_drop] at hy
    exact hy)
  cases heq
  rw [show off + (1 + n) + j = off + (1 + n + j) from by omega]
  exact hcell
theorem bytes_gone {w : World} {a : Option Addr} {r : List UInt8} {n k c : Nat} (hk : k = 0) (h : r.length ≤ n) : BytesAt w (.slice a k c) (r.drop n) := by
  have e : r.drop n = [] := List.drop_of_length_le h
  rw [e]
  subst hk
  exact ⟨a, c, rfl, Nat.zero_le _, fun j x hx => by simp at hx⟩
theorem bytes_gone2 {w : World} {a : Option Addr} {r : List UInt8} {n : Nat} (hk : n = 0) : BytesAt w (.slice a n 0) (r.take n) := by
  subst hk
  exact ⟨a, 0, rfl, Nat.le_refl _, fun j x hx => by simp at hx⟩
def unbPost (data : List UInt8) (w : World) (e : Ending) (w' : World) : Prop :=
  ∃ v', e = .returned (.tuple #[v', .bool (unbundleOf data).isSome]) ∧ Below w.heap.size w w' ∧ ((unbundleOf data = none ∧ v' = .slice none 0 0) ∨ ∃ ls, unbundleOf data = some ls ∧ OwnBss w' w.heap.size v' ls)
set_option maxHeartbeats 1000000 in
theorem funbundle_any (v : Value) (data : List UInt8) (w : World) (h : BytesAt w v data) (hn : data.length ≤ 1099511627776) :
    Calls Try.prog 39 #[v] w (unbPost data w) := by
  obtain ⟨i0, hi, hz0, hz1, hz2⟩ := info_parts info_bs
  obtain ⟨a, c, rfl⟩ : ∃ a c, v = .slice a data.length c := by obtain ⟨a, c, h1, _, _⟩ := h; exact ⟨a, c, h1⟩
  have HH := Lib.hid h
  clear h
  go_enter Try.func39, Try.ntmps39
  go_wp2
  go_loopw [0, 4] (fun dv lv wr => ∃ (rest : List UInt8) (ls : List (List UInt8)), BytesAt wr dv rest ∧ OwnBss wr w.heap.size lv ls ∧ Read data ls rest ∧ rest.length ≤ data.length ∧ ls.length ≤ 4 ∧ (∀ l ∈ ls, l.length ≤ 20) ∧ Below w.heap.size w wr ∧ (BytesAt w dv rest) ∧ (ls = [] → lv = .slice none 0 0)) (fun dv _ _ => match dv with | .slice _ n _ => n | _ => 0)
  case atStart => exact ⟨data, [], HH.out, ⟨[], World.ownsRow_nil _ _ _ _, by simp⟩, Read.start _, Nat.le_refl _, by decide, by simp, Below.refl _ _, HH.out, fun _ => rfl⟩
  case round =>
    obtain ⟨rest, ls, hb, hown, hread, hrl, h4, hs20, hbel, hb0, hnil⟩ := hrel
    obtain ⟨al, cl, rfl⟩ : ∃ a c, u4 = .slice a ls.length c := by
      obtain ⟨vs, hrow, _⟩ := hown
      obtain ⟨a, c, h1, _⟩ := ownsRow_cells hrow; exact ⟨a, c, h1⟩
    have HB := Lib.hid hbel
    have HO := Lib.hid hown
    have HR := Lib.hid hread
    have HS := Lib.hid hs20
    have HN := Lib.hid hnil
    have HB0 := Lib.hid hb0
    clear hbel hown hread hs20 hb0 hnil
    cases rest with
    | nil =>
      obtain ⟨a2, c2, rfl, _, _⟩ := hb
      simp only [List.length_nil]
      by_cases h0 : ls.length = 0
      · obtain rfl : ls = [] := List.eq_nil_of_length_eq_zero h0
        have hnl := HN.out rfl
        simp only [List.length_nil] at hnl ⊢
        simp only [Value.slice.injEq] at hnl
        obtain ⟨rfl, _, rfl⟩ := hnl
        go_wp2
        go_ret2
        have hu : unbundleOf data = none := by unfold unbundleOf; rw [HR.out.done]; rfl
        exact ⟨_, by rw [hu]; rfl, HB.out, .inl ⟨hu, rfl⟩⟩
      · have hd : decide (0 < ls.length) = true := by simp; omega
        go_wp2
        go_ret2
        have hu := unbundle_ok HR.out.done h0 h4 HS.out
        exact ⟨_, by rw [hu]; rfl, HB.out, .inr ⟨ls, hu, HO.out⟩⟩
    | cons x r =>
      obtain ⟨a2, c2, rfl, hcap2, hc2⟩ := hb
      have hx8 : x.toNat < 256 := x.toNat_lt
      obtain ⟨b, off, rfl, hcell⟩ := hc2 0 (.int .u8 x.toNat) (by simp)
      simp only [Nat.add_zero] at hcell
      have HC2 := Lib.hid hc2
      clear hc2
      simp only [List.length_cons] at hcap2 hrl ⊢
      obtain ⟨n, hxn⟩ : ∃ n, n = x.toNat := ⟨_, rfl⟩
      rw [← hxn] at hx8 hcell
      have HX := Lib.hid hxn
      clear hxn
      by_cases hA : r.length < n
      · have d1 : decide ((r.length : Int) + 1 < 1 + (n : Int)) = true := by simp; omega
        go_wp2
        go_ret2
        have hu := unbundle_bad (HR.out.bad (by rw [← HX.out]; exact hA))
        exact ⟨_, by rw [hu]; rfl, HB.out, .inl ⟨hu, rfl⟩⟩
      · have d1 : decide ((r.length : Int) + 1 < 1 + (n : Int)) = false := by simp; omega
        by_cases hB : 20 < n
        · have d2 : decide ((21 : Int) < 1 + (n : Int)) = true := by simp; omega
          go_wp2
          go_ret2
          have hu := HR.out.long (by rw [← HX.out]; exact hB)
          exact ⟨_, by rw [hu]; rfl, HB.out, .inl ⟨hu, rfl⟩⟩
        · have d2 : decide ((21 : Int) < 1 + (n : Int)) = false := by simp; omega
          by_cases hC : ls.length = 4
          · have d3 : ((ls.length : Int) == 4) = true := by simp; omega
            go_wp2
            go_ret2
            have hu := HR.out.many (by omega)
            exact ⟨_, by rw [hu]; rfl, HB.out, .inl ⟨hu, rfl⟩⟩
          · have d3 : ((ls.length : Int) == 4) = false := by rw [beq_eq_false_iff_ne]; omega
            have hread2 := HR.out.step (by rw [← HX.out]; omega)
            rw [← HX.out] at hread2
            have HR2 := Lib.hid hread2
            clear hread2
            have htl : (r.take n).length = n := by simp; omega
            have HTL := Lib.hid htl
            clear htl
            obtain ⟨vs, hrow, hall⟩ := HO.out
            have HROW := Lib.hid hrow
            have HALL := Lib.hid hall
            clear hrow hall
            by_cases hc1 : c2 = 1
            · subst hc1
              have hlow : ((1 : Int) == ((1 : Nat) : Int)) = true := by decide
              obtain rfl : n = 0 := by omega
              obtain rfl : r = [] := List.eq_nil_of_length_eq_zero (by omega)
              go_wp2_with fail
              refine (clone_any _ (([] : List UInt8).take 0) _ ?_ (by rw [HTL.out]; omega)).mono ?_
              · exact bytes_gone2 rfl
              rintro e w1 ⟨v1, rfl, hob, hb1⟩
              have HOB := Lib.hid hob
              have HB1 := Lib.hid hb1
              clear hob hb1
              go_wp2_with (first | (refine wpList_bs1 rfl 37 35 _ rfl i0 _ Try.underlying37 hi hz0 hz1 _ rfl (OwnBytes.cells HOB.out) ?_) | (at_builtin; refine wpList_app1 rfl _ _ 37 rfl w.heap.size 35 i0 (.slice none 0 0) 24 Try.underlying37 hi hz0 hz1 hz2 rfl (by decide) _ _ vs rfl (ownsRow_below HROW.out HB1.out) _ rfl (OwnBytes.one HOB.out) (by omega) (Nat.le_trans HB.out.size HB1.out.size) ?_; intro v2 w2 hr2 hg2 hne2; have HRR2 := Lib.hid hr2; have HG2 := Lib.hid hg2; clear hr2 hg2 hne2))
              have hbw : Below w.heap.size w w1 := HB.out.trans (HB1.out.mono HB.out.size)
              have hbw2 : Below w.heap.size w w2 := hbw.grown HG2.out hbw.size (fun j hj => (HROW.out.lt j hj).1)
              go_roundw
              case rel =>
                have hb0 : BytesAt w (.slice (some ⟨b, off, none⟩) 0 0) (([] : List UInt8).drop 0) := by
                  exact bytes_gone rfl (by simp)
                refine ⟨([] : List UInt8).drop 0, ls ++ [([] : List UInt8).take 0], hb0.below2 hbw2, OwnBss.grow (ownsRow_below HROW.out HB1.out) (fun j u l h1 h2 => (HALL.out j u l h1 h2).below HB1.out) (HOB.out.mono HB.out.size) HRR2.out HG2.out, HR2.out, by simp, by simp; omega, ?_, hbw2, hb0, fun h => by simp at h⟩
                intro l hl
                rcases List.mem_append.1 hl with h | h
                · exact HS.out l h
                · simp at h; subst h; simp
              case measure => simp
            · have hlow : ((1 : Int) == (c2 : Int)) = false := by rw [beq_eq_false_iff_ne]; omega
              by_cases hcn : c2 = 1 + n
              · subst hcn
                go_wp2_with fail
                refine (clone_any _ (r.take n) _ ?_ (by rw [HTL.out]; omega)).mono ?_
                · have hbm := (bytes_mid HB0.out (show n ≤ r.length by omega)).below2 HB.out
                  simpa using hbm
                rintro e w1 ⟨v1, rfl, hob, hb1⟩
                have HOB := Lib.hid hob
                have HB1 := Lib.hid hb1
                clear hob hb1
                go_wp2_with (first | (refine wpList_bs1 rfl 37 35 _ rfl i0 _ Try.underlying37 hi hz0 hz1 _ rfl (OwnBytes.cells HOB.out) ?_) | (at_builtin; refine wpList_app1 rfl _ _ 37 rfl w.heap.size 35 i0 (.slice none 0 0) 24 Try.underlying37 hi hz0 hz1 hz2 rfl (by decide) _ _ vs rfl (ownsRow_below HROW.out HB1.out) _ rfl (OwnBytes.one HOB.out) (by omega) (Nat.le_trans HB.out.size HB1.out.size) ?_; intro v2 w2 hr2 hg2 hne2; have HRR2 := Lib.hid hr2; have HG2 := Lib.hid hg2; clear hr2 hg2 hne2))
                have hbw : Below w.heap.size w w1 := HB.out.trans (HB1.out.mono HB.out.size)
                have hbw2 : Below w.heap.size w w2 := hbw.grown HG2.out hbw.size (fun j hj => (HROW.out.lt j hj).1)
                go_roundw
                case rel =>
                  have hb0 : BytesAt w (.slice (some ⟨b, off, none⟩) (r.length + 1 - (1 + n)) (1 + n - (1 + n))) (r.drop n) := by
                    exact bytes_gone (by omega) (by omega)
                  refine ⟨r.drop n, ls ++ [r.take n], hb0.below2 hbw2, OwnBss.grow (ownsRow_below HROW.out HB1.out) (fun j u l h1 h2 => (HALL.out j u l h1 h2).below HB1.out) (HOB.out.mono HB.out.size) HRR2.out HG2.out, HR2.out, by simp; omega, by simp; omega, ?_, hbw2, hb0, fun h => by simp at h⟩
                  intro l hl
                  rcases List.mem_append.1 hl with h | h
                  · exact HS.out l h
                  · simp at h; subst h; rw [HTL.out]; omega
                case measure => simp; omega
              · go_wp2_with fail
                refine (clone_any _ (r.take n) _ ?_ (by rw [HTL.out]; omega)).mono ?_
                · exact (bytes_mid HB0.out (by omega)).below2 HB.out
                rintro e w1 ⟨v1, rfl, hob, hb1⟩
                have HOB := Lib.hid hob
                have HB1 := Lib.hid hb1
                clear hob hb1
                go_wp2_with (first | (refine wpList_bs1 rfl 37 35 _ rfl i0 _ Try.underlying37 hi hz0 hz1 _ rfl (OwnBytes.cells HOB.out) ?_) | (at_builtin; refine wpList_app1 rfl _ _ 37 rfl w.heap.size 35 i0 (.slice none 0 0) 24 Try.underlying37 hi hz0 hz1 hz2 rfl (by decide) _ _ vs rfl (ownsRow_below HROW.out HB1.out) _ rfl (OwnBytes.one HOB.out) (by omega) (Nat.le_trans HB.out.size HB1.out.size) ?_; intro v2 w2 hr2 hg2 hne2; have HRR2 := Lib.hid hr2; have HG2 := Lib.hid hg2; clear hr2 hg2 hne2))
                have hbw : Below w.heap.size w w1 := HB.out.trans (HB1.out.mono HB.out.size)
                have hbw2 : Below w.heap.size w w2 := hbw.grown HG2.out hbw.size (fun j hj => (HROW.out.lt j hj).1)
                go_roundw
                case rel =>
                  have hb0 : BytesAt w (.slice (some ⟨b, off + (1 + n), none⟩) (r.length + 1 - (1 + n)) (c2 - (1 + n))) (r.drop n) := by
                    exact bytes_tail HB0.out (by omega)
                  refine ⟨r.drop n, ls ++ [r.take n], hb0.below2 hbw2, OwnBss.grow (ownsRow_below HROW.out HB1.out) (fun j u l h1 h2 => (HALL.out j u l h1 h2).below HB1.out) (HOB.out.mono HB.out.size) HRR2.out HG2.out, HR2.out, by simp; omega, by simp; omega, ?_, hbw2, hb0, fun h => by simp at h⟩
                  intro l hl
                  rcases List.mem_append.1 hl with h | h
                  · exact HS.out l h
                  · simp at h; subst h; rw [HTL.out]; omega
                case measure => simp; omega
end Go.Proofs.Ytefccfakhgdfbaa
