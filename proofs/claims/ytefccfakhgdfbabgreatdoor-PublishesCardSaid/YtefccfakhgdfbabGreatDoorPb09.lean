/-
  The walks of files.Unbundle, tilesref.Unbundle.
  Checkpoints in plain terms: P10; what is signed is read, and read alike. No program is used.
  The files of a publisher's entries, and what publishing does to a store: plain. No conditions.
  What publishing puts into a store, one file after the other: plain. No conditions.
-/
import Derived.Test.YtefccfakhgdfbabGreatDoorPb08
import Derived.Great.BuildSlice
import Derived.Test.YtefccfakhgdfbabGreatDoorPb05
import Derived.Lib.Split
import Derived.Test.YtefccfakhgdfbabGreatDoorPb03
import Derived.Test.YtefccfakhgdfbabGreatDoorPb07
set_option linter.unusedVariables false
set_option linter.unusedSimpArgs false
section
namespace Go.Proofs.YtefccfakhgdfbabGreatDoor
open Go.RowKit
theorem fill1 (u : Value) (hc : u.cells = #[u]) (sz : Nat) (hs : sz = 1) (Z : Array Value) (hZ : Z.size = 1) : Instr.fill (fun i => some (i * sz, sz)) Z [(0, u)] = some #[u] := by
  subst hs
  obtain ⟨l⟩ := Z
  match l, hZ with
  | [a0], _ => simp [Instr.fill, hc]
theorem wpList_bs1 {P : Program} {ops : Array Oper} {rest : List Oper} {o : Oper} {a : Act} {Q : Exit → Act → World → Prop} {w : World} (hg : o.guard = none) (t e : TypeId) (x : Operand) (ho : o.op = .buildSlice t 1 #[(0, x)])
    (i : TypeInfo) (z : Value) (hu : P.underlying t = some (.slice e)) (hi : P.info? e = some i) (hz : i.zero = some z) (hsize : i.size = 1) (u : Value) (hx : a.eval x = u) (hc : u.cells = #[u])
    (hk : wpList P ops Q rest (a.put o.dst (.slice (some ⟨w.heap.size, 0, none⟩) 1 1)) (w.alloc (.cells #[u] e))) : wpList P ops Q (o :: rest) a w :=
  wpList_plain hg fun _ hK => wp_buildSlice t e 1 _ ho #[u] i _ hu hi hz (by omega) (by omega) (by
    simp only [List.map_toArray, List.map_cons, List.map_nil, hx]
    exact fill1 u hc _ hsize _ (by simp [hsize])) (hK _ _ hk)
theorem OwnBytes.cells {w : World} {base : Nat} {v : Value} {l : List UInt8} (h : OwnBytes w base v l) : v.cells = #[v] := by
  rcases h with ⟨rfl, _⟩ | ⟨b, off, c, C, fz, rfl, _⟩ <;> rfl
theorem BytesAt.below2 {w w' : World} {v : Value} {l : List UInt8} (h : BytesAt w v l) (hb : Below w.heap.size w w') : BytesAt w' v l := h.below hb
theorem bytes_mid {w : World} {b off c : Nat} {x : UInt8} {r : List UInt8} {n : Nat} (h : BytesAt w (.slice (some ⟨b, off, none⟩) (r.length + 1) c) (x :: r)) (hn : n ≤ r.length) : BytesAt w (.slice (some ⟨b, off + 1, none⟩) n (c - 1)) (r.take n) := by
  obtain ⟨a, c', h1, h2, h3⟩ := h
  simp only [Value.slice.injEq] at h1
  obtain ⟨rfl, _, rfl⟩ := h1
  simp only [List.length_cons] at h2
  have hl : (r.take n).length = n := by simp; omega
  refine ⟨_, c - 1, by rw [hl], by rw [hl]; omega, fun j y hy => ⟨b, off + 1, rfl, ?_⟩⟩
  have hj : j < n := by have := (List.getElem?_eq_some_iff.1 hy).1; simp at this; omega
  obtain ⟨b', off', heq, hcell⟩ := h3 (j + 1) y (by rw [List.map_cons, List.getElem?_cons_succ]; rw [List.map_take, List.getElem?_take_of_lt hj] at hy; exact hy)
  cases heq
  rw [show off + 1 + j = off + (j + 1) from by omega]
  exact hcell
theorem bytes_tail {w : World} {b off c : Nat} {x : UInt8} {r : List UInt8} {n : Nat} (h : BytesAt w (.slice (some ⟨b, off, none⟩) (r.length + 1) c) (x :: r)) (hn : n ≤ r.length) : BytesAt w (.slice (some ⟨b, off + (1 + n), none⟩) (r.length + 1 - (1 + n)) (c - (1 + n))) (r.drop n) := by
  obtain ⟨a, c', h1, h2, h3⟩ := h
  simp only [Value.slice.injEq] at h1
  obtain ⟨rfl, _, rfl⟩ := h1
  simp only [List.length_cons] at h2
  have hl : (r.drop n).length = r.length + 1 - (1 + n) := by simp; omega
  refine ⟨_, c - (1 + n), by rw [hl], by rw [hl]; omega, fun j y hy => ⟨b, off + (1 + n), rfl, ?_⟩⟩
  obtain ⟨b', off', heq, hcell⟩ := h3 (1 + n + j) y (by
    rw [show 1 + n + j = (n + j) + 1 from by omega, List.map_cons, List.getElem?_cons_succ]
    rw [List.map_drop, List.getElem?_drop] at hy
    exact hy)
  cases heq
  rw [show off + (1 + n) + j = off + (1 + n + j) from by omega]
  exact hcell
theorem bytes_gone {w : World} {a : Option Addr} {r : List UInt8} {n k c : Nat} (hk : k = 0) (h : r.length ≤ n) : BytesAt w (.slice a k c) (r.drop n) := by
  have e : r.drop n = [] := List.drop_of_length_le h
  rw [e]
  subst hk
  exact ⟨a, c, rfl, Nat.zero_le _, fun j x hx => by simp at hx⟩
theorem bytes_gone2 {w : World} {a : Option Addr} {r : List UInt8} {n : Nat} (hk : n = 0) : BytesAt w (.slice a n 0) (r.take n) := by
  subst hk
  exact ⟨a, 0, rfl, Nat.le_refl _, fun j x hx => by simp at hx⟩
def unbPost (data : List UInt8) (w : World) (e : Ending) (w' : World) : Prop :=
  ∃ v', e = .returned (.tuple #[v', .bool (unbundleOf data).isSome]) ∧ Below w.heap.size w w' ∧ ((unbundleOf data = none ∧ v' = .slice none 0 0) ∨ ∃ ls, unbundleOf data = some ls ∧ OwnBss w' w.heap.size v' ls)
set_option maxHeartbeats 1000000 in
theorem funbundle_any (v : Value) (data : List UInt8) (w : World) (h : BytesAt w v data) (hn : data.length ≤ 1099511627776) :
    Calls Tryz.prog 94 #[v] w (unbPost data w) := by
  obtain ⟨i0, hi, hz0, hz1, hz2⟩ := info_parts info_bs
  obtain ⟨a, c, rfl⟩ : ∃ a c, v = .slice a data.length c := by obtain ⟨a, c, h1, _, _⟩ := h; exact ⟨a, c, h1⟩
  have HH := Lib.hid h
  clear h
  go_enter Tryz.func94, Tryz.ntmps94
  go_wp2
  go_loopw [0, 4] (fun dv lv wr => ∃ (rest : List UInt8) (ls : List (List UInt8)), BytesAt wr dv rest ∧ OwnBss wr w.heap.size lv ls ∧ Read data ls rest ∧ rest.length ≤ data.length ∧ ls.length ≤ 4 ∧ (∀ l ∈ ls, l.length ≤ 20) ∧ Below w.heap.size w wr ∧ (BytesAt w dv rest) ∧ (ls = [] → lv = .slice none 0 0)) (fun dv _ _ => match dv with | .slice _ n _ => n | _ => 0)
  case atStart => exact ⟨data, [], HH.out, ⟨[], World.ownsRow_nil _ _ _ _, by simp⟩, Read.start _, Nat.le_refl _, by decide, by simp, Below.refl _ _, HH.out, fun _ => rfl⟩
  case round =>
    obtain ⟨rest, ls, hb, hown, hread, hrl, h4, hs20, hbel, hb0, hnil⟩ := hrel
    obtain ⟨al, cl, rfl⟩ : ∃ a c, u4 = .slice a ls.length c := by
      obtain ⟨vs, hrow, _⟩ := hown
      obtain ⟨a, c, h1, _⟩ := ownsRow_cells hrow; exact ⟨a, c, h1⟩
    have HB := Lib.hid hbel
    have HO := Lib.hid hown
    have HR := Lib.hid hread
    have HS := Lib.hid hs20
    have HN := Lib.hid hnil
    have HB0 := Lib.hid hb0
    clear hbel hown hread hs20 hb0 hnil
    cases rest with
    | nil =>
      obtain ⟨a2, c2, rfl, _, _⟩ := hb
      simp only [List.length_nil]
      by_cases h0 : ls.length = 0
      · obtain rfl : ls = [] := List.eq_nil_of_length_eq_zero h0
        have hnl := HN.out rfl
        simp only [List.length_nil] at hnl ⊢
        simp only [Value.slice.injEq] at hnl
        obtain ⟨rfl, _, rfl⟩ := hnl
        go_wp2
        go_ret2
        have hu : unbundleOf data = none := by unfold unbundleOf; rw [HR.out.done]; rfl
        exact ⟨_, by rw [hu]; rfl, HB.out, .inl ⟨hu, rfl⟩⟩
      · have hd : decide (0 < ls.length) = true := by simp; omega
        go_wp2
        go_ret2
        have hu := unbundle_ok HR.out.done h0 h4 HS.out
        exact ⟨_, by rw [hu]; rfl, HB.out, .inr ⟨ls, hu, HO.out⟩⟩
    | cons x r =>
      obtain ⟨a2, c2, rfl, hcap2, hc2⟩ := hb
      have hx8 : x.toNat < 256 := x.toNat_lt
      obtain ⟨b, off, rfl, hcell⟩ := hc2 0 (.int .u8 x.toNat) (by simp)
      simp only [Nat.add_zero] at hcell
      have HC2 := Lib.hid hc2
      clear hc2
      simp only [List.length_cons] at hcap2 hrl ⊢
      obtain ⟨n, hxn⟩ : ∃ n, n = x.toNat := ⟨_, rfl⟩
      rw [← hxn] at hx8 hcell
      have HX := Lib.hid hxn
      clear hxn
      by_cases hA : r.length < n
      · have d1 : decide ((r.length : Int) + 1 < 1 + (n : Int)) = true := by simp; omega
        go_wp2
        go_ret2
        have hu := unbundle_bad (HR.out.bad (by rw [← HX.out]; exact hA))
        exact ⟨_, by rw [hu]; rfl, HB.out, .inl ⟨hu, rfl⟩⟩
      · have d1 : decide ((r.length : Int) + 1 < 1 + (n : Int)) = false := by simp; omega
        by_cases hB : 20 < n
        · have d2 : decide ((21 : Int) < 1 + (n : Int)) = true := by simp; omega
          go_wp2
          go_ret2
          have hu := HR.out.long (by rw [← HX.out]; exact hB)
          exact ⟨_, by rw [hu]; rfl, HB.out, .inl ⟨hu, rfl⟩⟩
        · have d2 : decide ((21 : Int) < 1 + (n : Int)) = false := by simp; omega
          by_cases hC : ls.length = 4
          · have d3 : ((ls.length : Int) == 4) = true := by simp; omega
            go_wp2
            go_ret2
            have hu := HR.out.many (by omega)
            exact ⟨_, by rw [hu]; rfl, HB.out, .inl ⟨hu, rfl⟩⟩
          · have d3 : ((ls.length : Int) == 4) = false := by rw [beq_eq_false_iff_ne]; omega
            have hread2 := HR.out.step (by rw [← HX.out]; omega)
            rw [← HX.out] at hread2
            have HR2 := Lib.hid hread2
            clear hread2
            have htl : (r.take n).length = n := by simp; omega
            have HTL := Lib.hid htl
            clear htl
            obtain ⟨vs, hrow, hall⟩ := HO.out
            have HROW := Lib.hid hrow
            have HALL := Lib.hid hall
            clear hrow hall
            by_cases hc1 : c2 = 1
            · subst hc1
              have hlow : ((1 : Int) == ((1 : Nat) : Int)) = true := by decide
              obtain rfl : n = 0 := by omega
              obtain rfl : r = [] := List.eq_nil_of_length_eq_zero (by omega)
              go_wp2_with fail
              refine (clone_any _ (([] : List UInt8).take 0) _ ?_ (by rw [HTL.out]; omega)).mono ?_
              · exact bytes_gone2 rfl
              rintro e w1 ⟨v1, rfl, hob, hb1⟩
              have HOB := Lib.hid hob
              have HB1 := Lib.hid hb1
              clear hob hb1
              go_wp2_with (first | (refine wpList_bs1 rfl 135 94 _ rfl i0 _ Tryz.underlying135 hi hz0 hz1 _ rfl (OwnBytes.cells HOB.out) ?_) | (at_builtin; refine wpList_app1 rfl _ _ 135 rfl w.heap.size 94 i0 (.slice none 0 0) 24 Tryz.underlying135 hi hz0 hz1 hz2 rfl (by decide) _ _ vs rfl (ownsRow_below HROW.out HB1.out) _ rfl (OwnBytes.one HOB.out) (by omega) (Nat.le_trans HB.out.size HB1.out.size) ?_; intro v2 w2 hr2 hg2 hne2; have HRR2 := Lib.hid hr2; have HG2 := Lib.hid hg2; clear hr2 hg2 hne2))
              have hbw : Below w.heap.size w w1 := HB.out.trans (HB1.out.mono HB.out.size)
              have hbw2 : Below w.heap.size w w2 := hbw.grown HG2.out hbw.size (fun j hj => (HROW.out.lt j hj).1)
              go_roundw
              case rel =>
                have hb0 : BytesAt w (.slice (some ⟨b, off, none⟩) 0 0) (([] : List UInt8).drop 0) := by
                  exact bytes_gone rfl (by simp)
                refine ⟨([] : List UInt8).drop 0, ls ++ [([] : List UInt8).take 0], hb0.below2 hbw2, OwnBss.grow (ownsRow_below HROW.out HB1.out) (fun j u l h1 h2 => (HALL.out j u l h1 h2).below HB1.out) (HOB.out.mono HB.out.size) HRR2.out HG2.out, HR2.out, by simp, by simp; omega, ?_, hbw2, hb0, fun h => by simp at h⟩
                intro l hl
                rcases List.mem_append.1 hl with h | h
                · exact HS.out l h
                · simp at h; subst h; simp
              case measure => simp
            · have hlow : ((1 : Int) == (c2 : Int)) = false := by rw [beq_eq_false_iff_ne]; omega
              by_cases hcn : c2 = 1 + n
              · subst hcn
                go_wp2_with fail
                refine (clone_any _ (r.take n) _ ?_ (by rw [HTL.out]; omega)).mono ?_
                · have hbm := (bytes_mid HB0.out (show n ≤ r.length by omega)).below2 HB.out
                  simpa using hbm
                rintro e w1 ⟨v1, rfl, hob, hb1⟩
                have HOB := Lib.hid hob
                have HB1 := Lib.hid hb1
                clear hob hb1
                go_wp2_with (first | (refine wpList_bs1 rfl 135 94 _ rfl i0 _ Tryz.underlying135 hi hz0 hz1 _ rfl (OwnBytes.cells HOB.out) ?_) | (at_builtin; refine wpList_app1 rfl _ _ 135 rfl w.heap.size 94 i0 (.slice none 0 0) 24 Tryz.underlying135 hi hz0 hz1 hz2 rfl (by decide) _ _ vs rfl (ownsRow_below HROW.out HB1.out) _ rfl (OwnBytes.one HOB.out) (by omega) (Nat.le_trans HB.out.size HB1.out.size) ?_; intro v2 w2 hr2 hg2 hne2; have HRR2 := Lib.hid hr2; have HG2 := Lib.hid hg2; clear hr2 hg2 hne2))
                have hbw : Below w.heap.size w w1 := HB.out.trans (HB1.out.mono HB.out.size)
                have hbw2 : Below w.heap.size w w2 := hbw.grown HG2.out hbw.size (fun j hj => (HROW.out.lt j hj).1)
                go_roundw
                case rel =>
                  have hb0 : BytesAt w (.slice (some ⟨b, off, none⟩) (r.length + 1 - (1 + n)) (1 + n - (1 + n))) (r.drop n) := by
                    exact bytes_gone (by omega) (by omega)
                  refine ⟨r.drop n, ls ++ [r.take n], hb0.below2 hbw2, OwnBss.grow (ownsRow_below HROW.out HB1.out) (fun j u l h1 h2 => (HALL.out j u l h1 h2).below HB1.out) (HOB.out.mono HB.out.size) HRR2.out HG2.out, HR2.out, by simp; omega, by simp; omega, ?_, hbw2, hb0, fun h => by simp at h⟩
                  intro l hl
                  rcases List.mem_append.1 hl with h | h
                  · exact HS.out l h
                  · simp at h; subst h; rw [HTL.out]; omega
                case measure => simp; omega
              · go_wp2_with fail
                refine (clone_any _ (r.take n) _ ?_ (by rw [HTL.out]; omega)).mono ?_
                · exact (bytes_mid HB0.out (by omega)).below2 HB.out
                rintro e w1 ⟨v1, rfl, hob, hb1⟩
                have HOB := Lib.hid hob
                have HB1 := Lib.hid hb1
                clear hob hb1
                go_wp2_with (first | (refine wpList_bs1 rfl 135 94 _ rfl i0 _ Tryz.underlying135 hi hz0 hz1 _ rfl (OwnBytes.cells HOB.out) ?_) | (at_builtin; refine wpList_app1 rfl _ _ 135 rfl w.heap.size 94 i0 (.slice none 0 0) 24 Tryz.underlying135 hi hz0 hz1 hz2 rfl (by decide) _ _ vs rfl (ownsRow_below HROW.out HB1.out) _ rfl (OwnBytes.one HOB.out) (by omega) (Nat.le_trans HB.out.size HB1.out.size) ?_; intro v2 w2 hr2 hg2 hne2; have HRR2 := Lib.hid hr2; have HG2 := Lib.hid hg2; clear hr2 hg2 hne2))
                have hbw : Below w.heap.size w w1 := HB.out.trans (HB1.out.mono HB.out.size)
                have hbw2 : Below w.heap.size w w2 := hbw.grown HG2.out hbw.size (fun j hj => (HROW.out.lt j hj).1)
                go_roundw
                case rel =>
                  have hb0 : BytesAt w (.slice (some ⟨b, off + (1 + n), none⟩) (r.length + 1 - (1 + n)) (c2 - (1 + n))) (r.drop n) := by
                    exact bytes_tail HB0.out (by omega)
                  refine ⟨r.drop n, ls ++ [r.take n], hb0.below2 hbw2, OwnBss.grow (ownsRow_below HROW.out HB1.out) (fun j u l h1 h2 => (HALL.out j u l h1 h2).below HB1.out) (HOB.out.mono HB.out.size) HRR2.out HG2.out, HR2.out, by simp; omega, by simp; omega, ?_, hbw2, hb0, fun h => by simp at h⟩
                  intro l hl
                  rcases List.mem_append.1 hl with h | h
                  · exact HS.out l h
                  · simp at h; subst h; rw [HTL.out]; omega
                case measure => simp; omega
end Go.Proofs.YtefccfakhgdfbabGreatDoor
end

section
namespace Go.Proofs.YtefccfakhgdfbabGreatDoor
open Go.RowKit
/-- A hexadecimal digit, small. -/
def hexD (n : Nat) : UInt8 := if n < 10 then UInt8.ofNat (48 + n) else UInt8.ofNat (87 + n)
def hexOf (l : List UInt8) : List UInt8 := l.flatMap fun c => [hexD (c.toNat / 16), hexD (c.toNat % 16)]
theorem hexOf_cons (c : UInt8) (l : List UInt8) : hexOf (c :: l) = hexD (c.toNat / 16) :: hexD (c.toNat % 16) :: hexOf l := rfl
theorem hexOf_len (l : List UInt8) : (hexOf l).length = 2 * l.length := by
  induction l with
  | nil => rfl
  | cons c l ih => rw [hexOf_cons]; simp only [List.length_cons, ih]; omega
/-- "tiles\n". -/
def kTiles : List UInt8 := [116, 105, 108, 101, 115, 10]
def headOf (n : Nat) (h : Hsh) : List UInt8 := kTiles ++ dec n ++ [10] ++ hexOf h.toList ++ [10]
/-- P10: a checkpoint. -/
def signOf (n : Nat) (h : Hsh) (key : List UInt8) : List UInt8 := headOf n h ++ hexOf (hash (key ++ 0 :: headOf n h)).toList ++ [10]
/-- A small digit of 16, as unhex reads it. -/
def unhexR (c : UInt8) : Option Nat := if 48 ≤ c.toNat ∧ c.toNat ≤ 57 then some (c.toNat - 48) else if 97 ≤ c.toNat ∧ c.toNat ≤ 102 then some (c.toNat - 87) else none
/-- A digit of 16 of either kind, as ParseUint reads it. -/
def unhexG (c : UInt8) : Option Nat := if 48 ≤ c.toNat ∧ c.toNat ≤ 57 then some (c.toNat - 48) else if 97 ≤ c.toNat ∧ c.toNat ≤ 102 then some (c.toNat - 87) else if 65 ≤ c.toNat ∧ c.toNat ≤ 70 then some (c.toNat - 55) else none
def unhexL (d : UInt8 → Option Nat) : List UInt8 → Option (List UInt8)
  | a :: b :: r => match d a, d b with
    | some x, some y => (unhexL d r).map (UInt8.ofNat (16 * x + y) :: ·)
    | _, _ => none
  | _ => some []
theorem hexD_r (n : Nat) (h : n < 16) : unhexR (hexD n) = some n := by
  have : ∀ m : Fin 16, unhexR (hexD m.1) = some m.1 := by decide
  exact this ⟨n, h⟩
theorem hexD_g (n : Nat) (h : n < 16) : unhexG (hexD n) = some n := by
  have : ∀ m : Fin 16, unhexG (hexD m.1) = some m.1 := by decide
  exact this ⟨n, h⟩
theorem hexD_ne (n : Nat) (h : n < 16) : hexD n ≠ 10 := by
  have : ∀ m : Fin 16, hexD m.1 ≠ 10 := by decide
  exact this ⟨n, h⟩
theorem unhexL_hexOf (d : UInt8 → Option Nat) (hd : ∀ n, n < 16 → d (hexD n) = some n) : ∀ l : List UInt8, unhexL d (hexOf l) = some l
  | [] => rfl
  | c :: l => by
    have hc := c.toNat_lt
    rw [hexOf_cons]
    unfold unhexL
    rw [hd _ (by omega), hd _ (by omega), unhexL_hexOf d hd l]
    have : UInt8.ofNat (16 * (c.toNat / 16) + c.toNat % 16) = c := by
      rw [Nat.div_add_mod]; simp
    simp [this]
theorem hexOf_ne (l : List UInt8) : ∀ c ∈ hexOf l, c ≠ 10 := by
  intro c hc
  unfold hexOf at hc
  rw [List.mem_flatMap] at hc
  obtain ⟨x, _, hx⟩ := hc
  have hb := x.toNat_lt
  simp only [List.mem_cons, List.not_mem_nil, or_false] at hx
  rcases hx with rfl | rfl
  · exact hexD_ne _ (by omega)
  · exact hexD_ne _ (by omega)
theorem dec_ne10 (n : Nat) : ∀ c ∈ dec n, c ≠ 10 := by
  intro c hc e
  have := dec_dig n c hc
  subst e
  unfold isDig at this
  revert this
  decide
/-- Where a line ends. -/
theorem index_line : ∀ (a t : List UInt8), (∀ c ∈ a, c ≠ 10) → Lib.index (a ++ 10 :: t) [10] = a.length
  | [], t, _ => by simp [Lib.index, List.isPrefixOf]
  | c :: a, t, h => by
    have ih := index_line a t (fun c hc => h c (by simp [hc]))
    have hne : (10 : UInt8) ≠ c := fun e => h c (by simp) e.symm
    simp only [List.cons_append, Lib.index]
    rw [isPrefix_cons_ne hne, ih]
    have : ((a.length : Int) == -1) = false := by rw [beq_eq_false_iff_ne]; omega
    simp [this]
/-- A text cut at its line ends. -/
def linesOf (s : List UInt8) : List (List UInt8) := Lib.splitK [10] 0 (Lib.count s [10]) s
theorem linesOf_line (a t : List UInt8) (h : ∀ c ∈ a, c ≠ 10) : linesOf (a ++ 10 :: t) = a :: linesOf t := by
  have hi := index_line a t h
  unfold linesOf
  have hd : (a ++ 10 :: t).drop (a.length + [(10 : UInt8)].length) = t := by
    rw [show a ++ 10 :: t = (a ++ [10]) ++ t by simp, show a.length + [(10 : UInt8)].length = (a ++ [10]).length by simp, List.drop_left]
  rw [Lib.count_hit (by simp) hi, hd, Nat.add_comm, Lib.splitK, hi]
  rw [if_neg (by simp)]
  simp only [Int.toNat_natCast, Nat.add_zero]
  rw [hd]
  simp
theorem linesOf_nil : linesOf [] = [[]] := rfl
/-- A size, a root, and whether it is a checkpoint. -/
abbrev Three := Int × Hsh × Bool
def noThree : Three := (0, zero8, false)
def checkEnd (text key : List UInt8) (n : Int) (h : Hsh) : Three := if signOf n.toNat h key = text then (n, h, true) else noThree
/-- files.Check. -/
def checkLines (text key : List UInt8) : List (List UInt8) → Three
  | [_, l1, l2, _, _] => if l2.length ≠ 16 then noThree else match atoiO l1 with
    | none => noThree
    | some n => if n < 0 then noThree else match unhexL unhexG l2 with
      | none => noThree
      | some b => checkEnd text key n (eightOf b)
  | _ => noThree
def checkGo (text key : List UInt8) : Three := checkLines text key (linesOf text)
/-- The reference's Check. -/
def checkRef (text key : List UInt8) : Three :=
  if (beginsOf text kTiles).2 = true then
    (if (numberOf (beginsOf text kTiles).1).2.2 = true ∧ 17 ≤ (numberOf (beginsOf text kTiles).1).2.1.length then
      match unhexL unhexR (((numberOf (beginsOf text kTiles).1).2.1.drop 1).take 16) with
      | none => noThree
      | some b => checkEnd text key (numberOf (beginsOf text kTiles).1).1 (eightOf b)
     else noThree)
  else noThree
def CSound (text key : List UInt8) (q : Three) : Prop := (q.2.2 = true → 0 ≤ q.1 ∧ q.1 < 9223372036854775808 ∧ signOf q.1.toNat q.2.1 key = text) ∧ (q.2.2 = false → q = noThree)
theorem csound_no (text key : List UInt8) : CSound text key noThree := ⟨fun h => by simp [noThree] at h, fun _ => rfl⟩
theorem checkEnd_sound (text key : List UInt8) (n : Int) (h : Hsh) (h0 : 0 ≤ n) (h1 : n < 9223372036854775808) : CSound text key (checkEnd text key n h) := by
  unfold checkEnd
  split
  · rename_i e; exact ⟨fun _ => ⟨h0, h1, e⟩, fun h => by simp at h⟩
  · exact csound_no _ _
theorem checkGo_sound (text key : List UInt8) : CSound text key (checkGo text key) := by
  unfold checkGo
  generalize linesOf text = L
  unfold checkLines
  split
  · split
    · exact csound_no _ _
    · split
      · exact csound_no _ _
      · rename_i n hn
        split
        · exact csound_no _ _
        · split
          · exact csound_no _ _
          · exact checkEnd_sound _ _ _ _ (by omega) (atoiO_bd hn)
  · exact csound_no _ _
theorem checkRef_sound (text key : List UInt8) : CSound text key (checkRef text key) := by
  unfold checkRef
  split
  · split
    · split
      · exact csound_no _ _
      · have := numberOf_bd (beginsOf text kTiles).1
        exact checkEnd_sound _ _ _ _ (by omega) (by omega)
    · exact csound_no _ _
  · exact csound_no _ _
theorem eightOf_toList (h : Hsh) : eightOf h.toList = h := by
  apply Vector.ext
  intro i hi
  have : i = 0 ∨ i = 1 ∨ i = 2 ∨ i = 3 ∨ i = 4 ∨ i = 5 ∨ i = 6 ∨ i = 7 := by omega
  rcases this with rfl | rfl | rfl | rfl | rfl | rfl | rfl | rfl <;> simp [eightOf, List.getD]
theorem toList_len (h : Hsh) : h.toList.length = 8 := by simp
theorem signOf_lines (n : Nat) (h : Hsh) (key : List UInt8) : linesOf (signOf n h key) = [[116, 105, 108, 101, 115], dec n, hexOf h.toList, hexOf (hash (key ++ 0 :: headOf n h)).toList, []] := by
  unfold signOf
  generalize (hash (key ++ 0 :: headOf n h)) = m
  have e : headOf n h ++ hexOf m.toList ++ [10] = [116, 105, 108, 101, 115] ++ 10 :: (dec n ++ 10 :: (hexOf h.toList ++ 10 :: (hexOf m.toList ++ 10 :: []))) := by
    simp [headOf, kTiles]
  rw [e, linesOf_line _ _ (by decide), linesOf_line _ _ (dec_ne10 n), linesOf_line _ _ (hexOf_ne _), linesOf_line _ _ (hexOf_ne _), linesOf_nil]
theorem checkGo_sign (n : Nat) (h : Hsh) (key : List UInt8) (hn : n < 9223372036854775808) : checkGo (signOf n h key) key = ((n : Int), h, true) := by
  unfold checkGo
  rw [signOf_lines]
  have h16 : (hexOf h.toList).length = 16 := by rw [hexOf_len, toList_len]
  unfold checkLines
  simp only [h16, atoiO_dec n hn, unhexL_hexOf unhexG hexD_g, eightOf_toList]
  rw [if_neg (by simp), if_neg (by omega)]
  unfold checkEnd
  rw [if_pos (by simp)]
theorem checkRef_sign (n : Nat) (h : Hsh) (key : List UInt8) (hn : n < 9223372036854775808) : checkRef (signOf n h key) key = ((n : Int), h, true) := by
  obtain ⟨t, ht⟩ : ∃ t, signOf n h key = kTiles ++ (dec n ++ 10 :: (hexOf h.toList ++ t)) := ⟨10 :: (hexOf (hash (key ++ 0 :: headOf n h)).toList ++ [10]), by simp [signOf, headOf]⟩
  have hb := beginsOf_append kTiles (dec n ++ 10 :: (hexOf h.toList ++ t))
  have hnum := numberOf_dec n (10 :: (hexOf h.toList ++ t)) hn (by intro c hc; simp at hc; subst hc; unfold isDig; decide)
  have h16 : (hexOf h.toList).length = 16 := by rw [hexOf_len, toList_len]
  have htk : ((10 :: (hexOf h.toList ++ t)).drop 1).take 16 = hexOf h.toList := by
    rw [List.drop_succ_cons, List.drop_zero, ← h16, List.take_left]
  have hc : checkRef (kTiles ++ (dec n ++ 10 :: (hexOf h.toList ++ t))) key = checkEnd (kTiles ++ (dec n ++ 10 :: (hexOf h.toList ++ t))) key n h := by
    unfold checkRef
    rw [hb]
    simp only [if_true, hnum, htk, unhexL_hexOf unhexR hexD_r, eightOf_toList]
    rw [if_pos ⟨trivial, by simp [h16]⟩]
  rw [ht, hc, ← ht]
  unfold checkEnd
  rw [if_pos (by simp)]
theorem csound_uniq {text key : List UInt8} {q q' : Three} (h : CSound text key q) (h' : CSound text key q')
    (c : ∀ (n : Nat) (r : Hsh), n < 9223372036854775808 → signOf n r key = text → q = ((n : Int), r, true)) (c' : ∀ (n : Nat) (r : Hsh), n < 9223372036854775808 → signOf n r key = text → q' = ((n : Int), r, true)) : q = q' := by
  obtain ⟨n, r, b⟩ := q
  obtain ⟨n', r', b'⟩ := q'
  cases b
  · cases b'
    · exact (h.2 rfl).trans (h'.2 rfl).symm
    · obtain ⟨x, y, z⟩ := h'.1 rfl
      have := c n'.toNat r' (by simp only at y; omega) z
      simp at this
  · obtain ⟨x, y, z⟩ := h.1 rfl
    exact (c n.toNat r (by simp only at y; omega) z).trans (c' n.toNat r (by simp only at y; omega) z).symm
/-- P10: the two read alike. -/
theorem check_same (text key : List UInt8) : checkGo text key = checkRef text key :=
  csound_uniq (checkGo_sound text key) (checkRef_sound text key) (fun n r hn e => by rw [← e]; exact checkGo_sign n r key hn) (fun n r hn e => by rw [← e]; exact checkRef_sign n r key hn)
end Go.Proofs.YtefccfakhgdfbabGreatDoor
end

section
namespace Go.Proofs.YtefccfakhgdfbabGreatDoor
abbrev Fil := ByteArray × ByteArray
/-- Behind a put: what is found. -/
theorem findN_lt {l : List Fil} {p : ByteArray} : findN l p < l.length ↔ ∃ f ∈ l, f.1 = p := by
  unfold findN
  rw [List.findIdx_lt_length]
  simp
theorem getF_some {l : List Fil} {p b : ByteArray} (h : getF l p = some b) : (p, b) ∈ l := by
  unfold getF at h
  cases hx : l[findN l p]? with
  | none => rw [hx] at h; simp at h
  | some x =>
    rw [hx] at h
    simp at h
    obtain ⟨hlt, hx'⟩ := List.getElem?_eq_some_iff.1 hx
    have hp := findN_path hlt
    rw [hx'] at hp
    subst h
    rw [← hp]
    exact List.mem_of_getElem? hx
theorem getF_none {l : List Fil} {p : ByteArray} : getF l p = none ↔ ∀ f ∈ l, f.1 ≠ p := by
  unfold getF
  rw [Option.map_eq_none_iff, List.getElem?_eq_none_iff]
  constructor
  · intro h f hf e
    have := findN_lt.2 ⟨f, hf, e⟩
    omega
  · intro h
    rcases Nat.lt_or_ge (findN l p) l.length with h1 | h1
    · obtain ⟨f, hf, e⟩ := findN_lt.1 h1
      exact absurd e (h f hf)
    · exact h1
theorem findN_app_left {l k : List Fil} {p : ByteArray} (h : findN l p < l.length) : findN (l ++ k) p = findN l p := by
  unfold findN at *
  rw [List.findIdx_append, if_pos h]
theorem findN_app_right {l k : List Fil} {p : ByteArray} (h : ¬ findN l p < l.length) : findN (l ++ k) p = findN k p + l.length := by
  unfold findN at *
  rw [List.findIdx_append, if_neg h]
theorem getF_app (l k : List Fil) (p : ByteArray) : getF (l ++ k) p = (getF l p).or (getF k p) := by
  by_cases h : findN l p < l.length
  · have e := findN_app_left (k := k) h
    unfold getF
    rw [e, List.getElem?_append_left h, List.getElem?_eq_getElem h]
    rfl
  · have e := findN_app_right (k := k) h
    have hn : getF l p = none := getF_miss h
    rw [hn]
    unfold getF
    rw [e, List.getElem?_append_right (by omega), Nat.add_sub_cancel]
    simp
/-- Each path once. -/
def Once (l : List Fil) : Prop := (l.map (·.1)).Nodup
theorem once_get {l : List Fil} (h : Once l) {p b : ByteArray} (hm : (p, b) ∈ l) : getF l p = some b := by
  induction l with
  | nil => simp at hm
  | cons a l ih =>
    unfold Once at h
    rw [List.map_cons, List.nodup_cons] at h
    have e : getF (a :: l) p = (getF [a] p).or (getF l p) := getF_app [a] l p
    rw [e]
    by_cases hp : a.1 = p
    · have hab : a = (p, b) := by
        rcases List.mem_cons.1 hm with h1 | h1
        · exact h1.symm
        · exact absurd (List.mem_map.2 ⟨_, h1, hp.symm⟩) h.1
      subst hab
      have : getF [(p, b)] p = some b := by simp [getF, findN]
      rw [this]
      rfl
    · have hn : getF [a] p = none := getF_none.2 (by simpa using hp)
      rw [hn]
      rcases List.mem_cons.1 hm with h1 | h1
      · exact absurd (by rw [← h1]) hp
      · simpa using ih h.2 h1
theorem set_keys (l : List Fil) (p b : ByteArray) (h : findN l p < l.length) : (l.set (findN l p) (p, b)).map (·.1) = l.map (·.1) := by
  rw [List.map_set]
  have hp := findN_path h
  have : (l.map (·.1))[findN l p]? = some p := by rw [List.getElem?_map, List.getElem?_eq_getElem h]; simp [hp]
  exact List.set_getElem_self' this
where
  List.set_getElem_self' {α : Type} {l : List α} {i : Nat} {a : α} (h : l[i]? = some a) : l.set i a = l := by
    obtain ⟨hlt, rfl⟩ := List.getElem?_eq_some_iff.1 h
    exact List.set_getElem_self hlt
theorem putF_keys (l : List Fil) (p b : ByteArray) : (putF l p b).map (·.1) = if findN l p < l.length then l.map (·.1) else l.map (·.1) ++ [p] := by
  unfold putF
  split
  · exact set_keys l p b (by assumption)
  · simp
theorem once_put {l : List Fil} (h : Once l) (p b : ByteArray) : Once (putF l p b) := by
  unfold Once
  rw [putF_keys]
  split
  · exact h
  · rename_i hn
    rw [List.nodup_append]
    refine ⟨h, by simp, ?_⟩
    intro x hx y hy e
    simp at hy
    subst hy
    subst e
    obtain ⟨f, hf, hfx⟩ := List.mem_map.1 hx
    exact hn (findN_lt.2 ⟨f, hf, hfx⟩)
theorem findN_keys {l k : List Fil} (h : l.map (·.1) = k.map (·.1)) (p : ByteArray) : findN l p = findN k p := by
  have e : ∀ l : List Fil, findN l p = (l.map (·.1)).findIdx fun x => decide (x = p) := by
    intro l
    unfold findN
    rw [List.findIdx_map]
    rfl
  rw [e, e, h]
theorem getF_put (l : List Fil) (p b q : ByteArray) : getF (putF l p b) q = if q = p then some b else getF l q := by
  unfold putF
  split
  · rename_i h
    have hk := findN_keys (set_keys l p b h) q
    by_cases hq : q = p
    · subst hq
      rw [if_pos rfl]
      unfold getF
      rw [hk, List.getElem?_set_self h]
      rfl
    · rw [if_neg hq]
      unfold getF
      rw [hk, List.getElem?_set]
      split
      · rename_i he
        have h2 : findN l q < l.length := by rw [← he]; exact h
        have a := findN_path h
        have c := findN_path h2
        simp only [he] at a
        exact absurd (c.symm.trans a) hq
      · rfl
  · rename_i h
    rw [getF_app]
    by_cases hq : q = p
    · subst hq
      rw [if_pos rfl, getF_miss h]
      simp [getF, findN]
    · rw [if_neg hq]
      have : getF [(p, b)] q = none := getF_none.2 (by simpa using fun e => hq e.symm)
      rw [this, Option.or_none]
theorem putF_len (l : List Fil) (p b : ByteArray) : l.length ≤ (putF l p b).length ∧ (putF l p b).length ≤ l.length + 1 := by
  unfold putF
  split <;> simp
theorem once_firsts (l : List Fil) : Once (firsts l) := by
  unfold firsts
  have : ∀ acc, Once acc → Once (l.foldl addF acc) := by
    induction l with
    | nil => intro acc h; exact h
    | cons a l ih =>
      intro acc h
      rw [List.foldl_cons]
      apply ih
      unfold addF
      split
      · exact h
      · rename_i hn
        have : putF acc a.1 a.2 = acc ++ [a] := by unfold putF; rw [if_neg hn]
        rw [← this]
        exact once_put h _ _
  exact this [] (by simp [Once])
end Go.Proofs.YtefccfakhgdfbabGreatDoor
end

section
namespace Go.Proofs.YtefccfakhgdfbabGreatDoor
/-- "checkpoint". -/
def kCp : List UInt8 := [99, 104, 101, 99, 107, 112, 111, 105, 110, 116]
theorem nameOf_inj {l i w l' i' w' : Int} (h : nameOk l i w) (h' : nameOk l' i' w') (hi : i < 9223372036854775808) (hi' : i' < 9223372036854775808) (e : nameOf l i w = nameOf l' i' w') : l = l' ∧ i = i' ∧ w = w' := by
  rw [nameOf_body h, nameOf_body h'] at e
  have a := parseGo_name h hi
  have b := parseGo_name h' hi'
  rw [e, b] at a
  simp only [Prod.mk.injEq] at a
  exact ⟨a.1.symm, a.2.1.symm, a.2.2.1.symm⟩
theorem nameOf_cp (l i w : Int) : nameOf l i w ≠ kCp := by
  unfold nameOf
  split
  · unfold nameBody
    split
    · intro e; simp [kT, kCp] at e
    · intro e; simp [kE, kCp] at e
  · simp [kCp]
/-- The j-th file of a level. -/
def fileOf (t : Int) (data : List (List UInt8)) (j : Nat) : Fil := (sOf (nameOf t j ((min 4 (data.length - 4 * j) : Nat) : Int)), sOf ((data.drop (4 * j)).take 4).flatten)
def levelF (t : Int) (data : List (List UInt8)) : List Fil := (List.range ((data.length + 3) / 4)).map (fileOf t data)
theorem levelF_len (t : Int) (data : List (List UInt8)) : (levelF t data).length = (data.length + 3) / 4 := by simp [levelF]
theorem levelF_get (t : Int) (data : List (List UInt8)) (j : Nat) (h : 4 * j < data.length) : (levelF t data)[j]? = some (fileOf t data j) := by
  unfold levelF
  rw [List.getElem?_map, List.getElem?_range (by omega)]
  rfl
theorem levelF_drop (t : Int) (data : List (List UInt8)) (j : Nat) (h : 4 * j < data.length) : (levelF t data).drop j = fileOf t data j :: (levelF t data).drop (j + 1) := by
  have hl : j < (levelF t data).length := by rw [levelF_len]; omega
  rw [List.drop_eq_getElem_cons hl]
  congr 1
  have := levelF_get t data j h
  rw [List.getElem?_eq_getElem hl] at this
  exact Option.some.inj this
theorem levelF_out (t : Int) (data : List (List UInt8)) (j : Nat) (h : data.length ≤ 4 * j) : (levelF t data).drop j = [] := by
  apply List.drop_eq_nil_of_le
  rw [levelF_len]
  omega
/-- All levels' files from one on. -/
def filesR : Int → List (List (List UInt8)) → List Fil
  | _, [] => []
  | t, r :: rs => levelF t r ++ filesR (t + 1) rs
/-- The rows: what each entry is in a bundle, the hashes of each level. -/
def rowsOf (es : List (List UInt8)) : List (List (List UInt8)) := es.map encE :: (levels es).map fun r => r.map fun (h : Hsh) => h.toList
def filesP (es : List (List UInt8)) : List Fil := filesR (-1) (rowsOf es)
theorem filesR_mem {f : Fil} : ∀ (rs : List (List (List UInt8))) (t : Int), f ∈ filesR t rs ↔ ∃ (n : Nat) (r : List (List UInt8)) (j : Nat), rs[n]? = some r ∧ 4 * j < r.length ∧ f = fileOf (t + (n : Int)) r j
  | [], t => by simp [filesR]
  | r :: rs, t => by
      rw [filesR, List.mem_append, filesR_mem rs (t + 1)]
      constructor
      · rintro (h | ⟨n, r', j, h1, h2, h3⟩)
        · unfold levelF at h
          obtain ⟨j, hj, rfl⟩ := List.mem_map.1 h
          rw [List.mem_range] at hj
          exact ⟨0, r, j, rfl, by omega, by simp⟩
        · exact ⟨n + 1, r', j, by simpa using h1, h2, by rw [h3]; congr 1; omega⟩
      · rintro ⟨n, r', j, h1, h2, h3⟩
        cases n with
        | zero =>
          simp at h1
          subst h1
          left
          rw [h3]
          unfold levelF
          exact List.mem_map.2 ⟨j, by rw [List.mem_range]; omega, by simp⟩
        | succ n => exact .inr ⟨n, r', j, by simpa using h1, h2, by rw [h3]; congr 1; omega⟩
/-- Few enough rows of few enough hashes: every name is a path. -/
def Small (t : Int) (rs : List (List (List UInt8))) : Prop := -1 ≤ t ∧ t + rs.length ≤ 21 ∧ ∀ r ∈ rs, r.length < 1099511627776
theorem fileOf_ok {t : Int} {rs : List (List (List UInt8))} (h : Small t rs) {n : Nat} {r : List (List UInt8)} {j : Nat} (hr : rs[n]? = some r) (hj : 4 * j < r.length) :
    nameOk (t + n) j ((min 4 (r.length - 4 * j) : Nat) : Int) ∧ (j : Int) < 9223372036854775808 := by
  obtain ⟨h1, h2, h3⟩ := h
  have hn := (List.getElem?_eq_some_iff.1 hr).1
  have hl := h3 r (List.mem_of_getElem? hr)
  unfold nameOk
  omega
theorem fileOf_inj {t : Int} {rs : List (List (List UInt8))} (h : Small t rs) {n n' : Nat} {r r' : List (List UInt8)} {j j' : Nat} (hr : rs[n]? = some r) (hj : 4 * j < r.length) (hr' : rs[n']? = some r') (hj' : 4 * j' < r'.length)
    (e : (fileOf (t + n) r j).1 = (fileOf (t + n') r' j').1) : n = n' ∧ j = j' := by
  have a := fileOf_ok h hr hj
  have b := fileOf_ok h hr' hj'
  have := nameOf_inj a.1 b.1 a.2 b.2 (sOf_inj e)
  omega
/-- A path has one answer among the files. -/
theorem filesR_one {t : Int} {rs : List (List (List UInt8))} (h : Small t rs) {p a b : ByteArray} (ha : (p, a) ∈ filesR t rs) (hb : (p, b) ∈ filesR t rs) : a = b := by
  obtain ⟨n, r, j, h1, h2, h3⟩ := (filesR_mem rs t).1 ha
  obtain ⟨n', r', j', k1, k2, k3⟩ := (filesR_mem rs t).1 hb
  have e : (fileOf (t + n) r j).1 = (fileOf (t + n') r' j').1 := by rw [← h3, ← k3]
  obtain ⟨rfl, rfl⟩ := fileOf_inj h h1 h2 k1 k2 e
  rw [h1] at k1
  cases k1
  rw [← h3] at k3
  have := congrArg Prod.snd k3
  exact this.symm
theorem filesR_get {t : Int} {rs : List (List (List UInt8))} (h : Small t rs) {p b : ByteArray} (hm : (p, b) ∈ filesR t rs) : getF (filesR t rs) p = some b := by
  cases hg : getF (filesR t rs) p with
  | none => exact absurd rfl (getF_none.1 hg _ hm)
  | some c => rw [filesR_one h hm (getF_some hg)]
theorem filesR_cp {t : Int} {rs : List (List (List UInt8))} {f : Fil} (hm : f ∈ filesR t rs) : f.1 ≠ sOf kCp := by
  obtain ⟨n, r, j, h1, h2, rfl⟩ := (filesR_mem rs t).1 hm
  exact fun e => nameOf_cp _ _ _ (sOf_inj e)
/-- Does a put fail? -/
def badPut (d : Dk) (f : Fil) : Bool := clashF d.files f.1 f.2 || decide (0 < enterK d)
/-- Puts, one after the other, up to the first that fails: the store; how many have not failed. -/
def putsD : Dk → List Fil → Dk × Nat
  | d, [] => (d, 0)
  | d, f :: fs => if badPut d f = true then (putD d f.1 f.2, 0) else ((putsD (putD d f.1 f.2) fs).1, (putsD (putD d f.1 f.2) fs).2 + 1)
/-- One level, from its j-th file on: the store, how many entries or hashes are then in whole files that are put, the path that failed. -/
def writeJ (t : Int) (row : List (List UInt8)) (j : Nat) (d : Dk) : Dk × Nat × Option ByteArray :=
  ((putsD d ((levelF t row).drop j)).1, 4 * min (j + (putsD d ((levelF t row).drop j)).2) (row.length / 4), ((levelF t row)[j + (putsD d ((levelF t row).drop j)).2]?).map (·.1))
theorem writeJ_end (t : Int) (row : List (List UInt8)) (j : Nat) (d : Dk) (h : row.length ≤ 4 * j) : writeJ t row j d = (d, 4 * (row.length / 4), none) := by
  unfold writeJ
  rw [levelF_out t row j h]
  simp only [putsD, Nat.add_zero]
  rw [List.getElem?_eq_none (by rw [levelF_len]; omega), Nat.min_eq_right (by omega)]
  rfl
theorem writeJ_bad (t : Int) (row : List (List UInt8)) (j : Nat) (d : Dk) (h : 4 * j < row.length) (hb : badPut d (fileOf t row j) = true) :
    writeJ t row j d = (putD d (fileOf t row j).1 (fileOf t row j).2, 4 * min j (row.length / 4), some (fileOf t row j).1) := by
  unfold writeJ
  rw [levelF_drop t row j h]
  simp only [putsD, if_pos hb, Nat.add_zero]
  rw [levelF_get t row j h]
  rfl
theorem writeJ_step (t : Int) (row : List (List UInt8)) (j : Nat) (d : Dk) (h : 4 * j < row.length) (hb : badPut d (fileOf t row j) = false) :
    writeJ t row j d = writeJ t row (j + 1) (putD d (fileOf t row j).1 (fileOf t row j).2) := by
  have hb' : ¬ badPut d (fileOf t row j) = true := by simp [hb]
  unfold writeJ
  rw [levelF_drop t row j h]
  simp only [putsD, if_neg hb']
  generalize putsD (putD d (fileOf t row j).1 (fileOf t row j).2) ((levelF t row).drop (j + 1)) = q
  rw [show j + (q.2 + 1) = j + 1 + q.2 by omega]
/-- The levels from the n-th row on: the store, what is put, the path that failed. -/
def pubJ : Nat → List (List (List UInt8)) → List Nat → Dk → Dk × List Nat × Option ByteArray
  | _, [], put, d => (d, put, none)
  | n, r :: rs, put, d =>
      let p1 := put ++ List.replicate (n + 1 - put.length) 0
      let q := writeJ ((n : Int) - 1) r (p1.getD n 0 / 4) d
      match q.2.2 with
      | some p => (q.1, p1.set n q.2.1, some p)
      | none => pubJ (n + 1) rs (p1.set n q.2.1) q.1
end Go.Proofs.YtefccfakhgdfbabGreatDoor
end
