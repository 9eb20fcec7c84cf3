/-
  tileslaw.Publishes: the walk of its script. Conditions: the numerals' tables, the sentinels and errors.errorType stand.
-/
import Derived.Test.YtefccfakhgdfbabGreatDoorPb43
set_option linter.unusedVariables false
set_option linter.unusedSimpArgs false
section
namespace Go.Proofs.YtefccfakhgdfbabGreatDoor
open Go.RowKit
theorem WdIs.lt {w : World} {p : Pl} {m : Wm} (h : WdIs w p m) {k : Nat} (hk : WdS p m k) : k < w.heap.size := by
  rcases hk with hk | (hk | hk) | hk | ⟨hl, hk | hk⟩
  · exact hk ▸ lt_of_heap h.cells
  · exact hk ▸ h.disk.lt
  · obtain ⟨C, hC⟩ := ownBlock_type h.disk.2 hk
    exact lt_of_heap hC
  · obtain ⟨C, hC⟩ := ownBlock_type h.ents hk
    exact lt_of_heap hC
  · obtain ⟨L, hL⟩ := Option.isSome_iff_exists.1 hl
    exact hk ▸ lt_of_heap (h.log L hL).1
  · obtain ⟨L, hL⟩ := Option.isSome_iff_exists.1 hl
    obtain ⟨C, t, hC, _⟩ := (h.log L hL).2.kinds hk
    exact lt_of_heap hC
/-- Two Worlds that stand side by side. -/
structure Pair (w0 : World) (g1 g2 : Nat) (key1 key2 : ByteArray) (k : Nat) (w : World) (p1 : Pl) (m1 : Wm) (p2 : Pl) (m2 : Wm) : Prop where
  one : WdIs w p1 m1
  two : WdIs w p2 m2
  g1 : p1.gw = g1
  g2 : p2.gw = g2
  k1 : m1.key = key1
  k2 : m2.key = key2
  good1 : ∃ U, U.length ≤ 4096 + k ∧ GoodOr m1 U (4096 + k * 2097152)
  good2 : ∃ U, U.length ≤ 4096 + k ∧ GoodOr m2 U (4096 + k * 2097152)
  new1 : ∀ i, WdS p1 m1 i → w0.heap.size ≤ i
  new2 : ∀ i, WdS p2 m2 i → w0.heap.size ≤ i
  apart : ∀ i, WdS p1 m1 i → ¬ WdS p2 m2 i
  below : Below w0.heap.size w0 w
theorem Pair.swap {w0 : World} {g1 g2 : Nat} {key1 key2 : ByteArray} {k : Nat} {w : World} {p1 : Pl} {m1 : Wm} {p2 : Pl} {m2 : Wm} (h : Pair w0 g1 g2 key1 key2 k w p1 m1 p2 m2) : Pair w0 g2 g1 key2 key1 k w p2 m2 p1 m1 :=
  ⟨h.two, h.one, h.g2, h.g1, h.k2, h.k1, h.good2, h.good1, h.new2, h.new1, fun i hi hj => h.apart i hj hi, h.below⟩
theorem GoodOr.bound {m : Wm} {U : List Nat} {K K' : Nat} (h : GoodOr m U K) (hK : K ≤ K') : GoodOr m U K' := h.imp id fun h => ⟨h.1, h.2.bound hK⟩
/-- A step of the first one. -/
theorem Pair.step {w0 : World} {g1 g2 : Nat} {key1 key2 : ByteArray} {k : Nat} {w : World} {p1 : Pl} {m1 : Wm} {p2 : Pl} {m2 : Wm} (h : Pair w0 g1 g2 key1 key2 k w p1 m1 p2 m2) {U : List Nat} (hU : U.length ≤ 4096 + k) {e : Ending} {w' : World} (hs : Stepped w p1 m1 U (4096 + k * 2097152 + 2097152) e w') :
    e = .returned (.bool true) ∧ ∃ p' m', Pair w0 g1 g2 key1 key2 (k + 1) w' p' m' p2 m2 := by
  obtain ⟨U', hU', he, p', m', x1, x2, x3, x4, x5, x6⟩ := hs
  have hz := h.below.size
  refine ⟨he, p', m', x3, h.two.fr x5 (fun i hi hj => h.apart i hj hi) h.one.noBytes, x1.trans h.g1, h.g2, x2.trans h.k1, h.k2, ⟨U', by omega, x4.bound (by omega)⟩, ?_, ?_, h.new2, ?_, ?_⟩
  · obtain ⟨V, hV, hG⟩ := h.good2
    exact ⟨V, by omega, hG.bound (by omega)⟩
  · intro i hi
    rcases x6 i hi with h1 | h1
    · exact h.new1 i h1
    · omega
  · intro i hi hj
    rcases x6 i hi with h1 | h1
    · exact h.apart i h1 hj
    · have := h.two.lt hj
      omega
  · exact h.below.trans (x5.below hz fun i hi hj => by have := h.new1 i hj; omega)
theorem Pair.grow {w0 : World} {g1 g2 : Nat} {key1 key2 : ByteArray} {k : Nat} {w w' : World} {p1 : Pl} {m1 : Wm} {p2 : Pl} {m2 : Wm} (h : Pair w0 g1 g2 key1 key2 k w p1 m1 p2 m2) (hb : Below w.heap.size w w') : Pair w0 g1 g2 key1 key2 k w' p1 m1 p2 m2 :=
  ⟨h.one.below hb, h.two.below hb, h.g1, h.g2, h.k1, h.k2, h.good1, h.good2, h.new1, h.new2, h.apart, h.below.trans (hb.mono h.below.size)⟩
/-- What a step of the first one comes to. -/
theorem Pair.call {f : Nat → Addr} {w0 : World} {g1 g2 : Nat} {key1 key2 : ByteArray} {k : Nat} {w : World} {p1 : Pl} {m1 : Wm} {p2 : Pl} {m2 : Wm} (h : Pair w0 g1 g2 key1 key2 k w p1 m1 p2 m2) (hk : k ≤ 5000) (hn : NumEnv w0) (hS : Sents w0 f) (hT : ErrT w0) (hkey : key1.size ≤ 1048600) (o : Op1)
    (ha1 : -9223372036854775808 ≤ o.a) (ha2 : o.a ≤ 9223372036854775807) :
    Calls Tryz.prog 26 #[.pointer (some ⟨g1, 0, none⟩), .agg #[.int .i64 o.kind, .int .i64 o.a, .bool o.two, .string o.s]] w fun e w' => e = .returned (.bool true) ∧ ∃ p' m', Pair w0 g1 g2 key1 key2 (k + 1) w' p' m' p2 m2 := by
  obtain ⟨U, hU, hG⟩ := h.good1
  have hst := wstep_any f w p1 m1 U (4096 + k * 2097152) o.kind o.a o.two o.s h.one hG (envS_of h.below hn hS hT h.new1) (by omega) (by omega) (by rw [h.k1]; exact hkey) ha1 ha2
  rw [h.g1] at hst
  exact hst.mono fun e w' hs => h.step hU hs
def PubTrue (w : World) (e : Ending) (w' : World) : Prop := e = .returned (.bool true) ∧ Below w.heap.size w w'
set_option maxRecDepth 100000 in
set_option maxHeartbeats 4000000 in
theorem publishes_walk (f : Nat → Addr) (w : World) (va vo : Value) (l : List Fil) (key : ByteArray) (ops : List Op1) (h : FilesAt w va l) (ho : OpsAt w vo ops) (hl : l.length ≤ 9223372036854775807) (hm : ops.length ≤ 9223372036854775807) (hn : NumEnv w) (hS : Sents w f) (hT : ErrT w)
    (hab : ∀ o ∈ ops, -9223372036854775808 ≤ o.a ∧ o.a ≤ 9223372036854775807) :
    Calls Tryz.prog 4 #[va, .string key, vo] w (PubTrue w) := by
  have HF := Lib.hid h
  have HO := Lib.hid ho
  have HCL := Lib.hid (claimed_any w va vo l ops h ho hl hm)
  obtain ⟨ao, co, rfl, _, _⟩ := ho
  have HNE := Lib.hid (openNone_any f w hS)
  have HN := Lib.hid hn
  have HS := Lib.hid hS
  have HT := Lib.hid hT
  have HAB := Lib.hid hab
  clear h hn hS hT hab
  go_enter Tryz.func4, Tryz.ntmps4
  go_upto_region 2 with (first | (go_at_call 23; refine HCL.out.mono ?_; rintro e w1 ⟨b, rfl, rfl, hb⟩; have HBB := Lib.hid hb; clear hb) | fail)
  cases b with
  | false =>
    go_wp2
    go_ret
    exact ⟨rfl, Below.refl _ _⟩
  | true =>
    by_cases hky : 1048576 < key.size
    · have hkz : (1048576 : Int) < (key.size : Int) := by omega
      go_wp2
      go_ret
      exact ⟨rfl, Below.refl _ _⟩
    · have hkz : ¬ (1048576 : Int) < (key.size : Int) := by omega
      obtain ⟨hl4, ho4, hsz⟩ := HBB.out rfl
      have HSZ := Lib.hid hsz
      clear hsz
      go_upto_region 7 with (first | (go_at_call 24; refine HNE.out.mono ?_; rintro e w1 ⟨rfl, hb1⟩; have HB1 := Lib.hid hb1; clear hb1) | fail)
      have hb2 : Below w.heap.size w (w1.alloc (.cells #[.int .i64 7, .string ⟨#[]⟩] 29)) := HB1.out.alloc HB1.out.size _
      have HB2 := Lib.hid hb2
      have HW1 := Lib.hid (world_any _ va l key (HF.out.below hb2) (by omega))
      have hk2 : (key ++ (⟨#[50]⟩ : ByteArray)).size ≤ 1048600 := by
        rw [ByteArray.size_append]
        have : (⟨#[50]⟩ : ByteArray).size = 1 := rfl
        omega
      obtain ⟨k2, hk2e⟩ : ∃ k2, k2 = key ++ (⟨#[50]⟩ : ByteArray) := ⟨_, rfl⟩
      rw [← hk2e] at hk2
      have HK2E := Lib.hid hk2e
      have HW2 := Lib.hid fun (W : World) => world_any W (.slice none 0 0) [] k2 ⟨none, 0, rfl, Nat.le_refl _, fun j x hx => by simp at hx⟩ (by decide)
      obtain ⟨w2, hw2⟩ : ∃ w2, w2 = w1.alloc (.cells #[.int .i64 7, .string ⟨#[]⟩] 29) := ⟨_, rfl⟩
      rw [← hw2] at HB2 HW1
      rw [← hw2]
      clear hb2 hw2 hk2e
      go_upto_region 8 with (first | (go_at_call 25; refine HW1.out.mono ?_; rintro e w3 ⟨p1, rfl, hf1⟩; have HF1 := Lib.hid hf1; clear hf1) | fail)
      go_wp2_with fail
      rw [← HK2E.out]
      go_at_call 25
      refine (HW2.out _).mono ?_
      rintro e w4 ⟨p2, rfl, hf2⟩
      have HF2 := Lib.hid hf2
      have hb3 := HF1.out.2.1
      have hb4 := hf2.2.1
      have hb24 : Below w.heap.size w w4 := HB2.out.trans ((hb3.trans (hb4.mono hb3.size)).mono HB2.out.size)
      have hz2 := HB2.out.size
      have hz3 := hb3.size
      have hpair : Pair w p1.gw p2.gw key k2 0 w4 p1 ⟨key, dk0 (firsts l), none, [], 0, false, false⟩ p2 ⟨k2, dk0 (firsts []), none, [], 0, false, false⟩ := by
        refine ⟨HF1.out.1.below hb4, hf2.1, rfl, rfl, rfl, rfl, ⟨idxOf l, by simp [idxOf]; omega, .inr ⟨rfl, sane_new (by omega) fun f hf => (HSZ.out f hf).2, fun L hL => by cases hL⟩⟩, ⟨idxOf [], by simp [idxOf], .inr ⟨rfl, sane_new (by simp) fun f hf => by simp at hf, fun L hL => by cases hL⟩⟩, ?_, ?_, ?_, hb24⟩
        · intro i hi
          have := HF1.out.2.2 i hi
          omega
        · intro i hi
          have := hf2.2.2 i hi
          omega
        · intro i hi hj
          have h1 := HF1.out.1.lt hi
          have h2 := hf2.2.2 i hj
          omega
      have HP0 := Lib.hid hpair
      clear hf2 hb3 hb4 hb24 hpair
      go_wp2_with fail
      go_loopw [7, 12] (fun s7 s12 wr => ∃ k : Nat, k ≤ ops.length ∧ s12 = .int .i64 k ∧ ∃ q1 n1 q2 n2, Aside (Pair w p1.gw p2.gw key k2 k wr q1 n1 q2 n2)) (fun _ s12 _ => ops.length - (intOf s12).toNat)
      case atStart => exact ⟨0, Nat.zero_le _, rfl, _, _, _, _, HP0.out⟩
      case round =>
        obtain ⟨k, hk, rfl, q1, n1, q2, n2, HP⟩ := hrel
        by_cases hlt : k < ops.length
        · obtain ⟨o, hox⟩ : ∃ o, ops[k]? = some o := ⟨_, List.getElem?_eq_getElem hlt⟩
          obtain ⟨ao', co', hae, _, hxx⟩ := HO.out.below HP.out.below
          obtain ⟨b, off, hbe, d0, d1, d2, d3⟩ := hxx k o hox
          cases hae
          subst hbe
          have hkz : (k : Int) < (ops.length : Int) := by omega
          have hk0 : (0 : Int) ≤ (k : Int) := by omega
          have hoa := HAB.out o (List.mem_of_getElem? hox)
          have HC1 := Lib.hid (HP.out.call (f := f) (by omega) HN.out HS.out HT.out (by omega) o hoa.1 hoa.2)
          have HC2 := Lib.hid (HP.out.swap.call (f := f) (by omega) HN.out HS.out HT.out hk2 o hoa.1 hoa.2)
          clear hxx hox hoa
          cases htw : o.two with
          | true =>
            rw [htw] at d2 HC2
            clear HC1 htw
            go_wp2_with (first | (go_at_call 26; refine HC2.out.mono ?_; rintro e w5 ⟨rfl, p', m', hp'⟩; have HP' := Lib.hid hp'.swap; clear hp') | fail)
            go_roundw
            case rel => exact ⟨k + 1, by omega, by go_num, _, _, _, _, HP'.out⟩
            case measure => simp [intOf]; omega
          | false =>
            rw [htw] at d2 HC1
            clear HC2 htw
            go_wp2_with (first | (go_at_call 26; refine HC1.out.mono ?_; rintro e w5 ⟨rfl, p', m', hp'⟩; have HP' := Lib.hid hp'; clear hp') | fail)
            go_roundw
            case rel => exact ⟨k + 1, by omega, by go_num, _, _, _, _, HP'.out⟩
            case measure => simp [intOf]; omega
        · have hkz : ¬ (k : Int) < (ops.length : Int) := by omega
          have hkl : k ≤ 4096 := by omega
          have HC2 := Lib.hid (HP.out.swap.call (f := f) (by omega) HN.out HS.out HT.out hk2 ⟨1, 0, false, ⟨#[]⟩⟩ (by decide) (by decide))
          have HC1 := Lib.hid fun (w5 : World) (p' : Pl) (m' : Wm) (hp : Pair w p1.gw p2.gw key k2 (k + 1) w5 q1 n1 p' m') => hp.call (f := f) (by omega) HN.out HS.out HT.out (by omega) ⟨1, 0, false, ⟨#[]⟩⟩ (by decide) (by decide)
          dsimp only at HC1 HC2
          go_upto_region 18 with (first | (go_at_call 26; refine HC2.out.mono ?_; rintro e w5 ⟨rfl, p', m', hp'⟩; have HP5 := Lib.hid hp'.swap; clear hp') | fail)
          go_wp2_with (first | (go_at_call 26; refine (HC1.out w5 p' m' HP5.out).mono ?_; rintro e w6 ⟨rfl, p6, m6, hp6⟩; have HP6 := Lib.hid hp6; clear hp6) | fail)
          go_ret
          exact ⟨rfl, HP6.out.below⟩
end Go.Proofs.YtefccfakhgdfbabGreatDoor
end
