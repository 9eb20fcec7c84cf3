/-
  A World's steps, plain: what it says stays sound. Conditions: bounds as the statement claims them.
-/
import Derived.Test.YtefccfakhgdfbabGreatDoorPb33
set_option linter.unusedVariables false
set_option linter.unusedSimpArgs false
section
namespace Go.Proofs.YtefccfakhgdfbabGreatDoor
/-- What a World says. -/
structure Wm where
  key : ByteArray
  d : Dk
  l : Option Lg
  es : List ByteArray
  pub : Int
  failed : Bool
  foreign : Bool
/-- A World that is sound: the indices U are those of which there may be bundles; K bounds its calls and files. -/
structure Good (m : Wm) (U : List Nat) (K : Nat) : Prop where
  sane : Sane m.d U K
  run : ∀ L, m.l = some L → Runs m.d L.entries L.put m.failed U ∧ MarkOk (rowsOf L.entries) L.put ∧ L.entries = lists m.es ∧ L.levels = levels L.entries ∧ L.failed = m.failed ∧ L.key = m.key
theorem Good.more {m : Wm} {U : List Nat} {K : Nat} (h : Good m U K) (x : Nat) {K' : Nat} (hK : K ≤ K') : Good m (x :: U) K' :=
  ⟨h.sane.grow x hK, fun L hL => ⟨(h.run L hL).1.more x, (h.run L hL).2⟩⟩
theorem Good.bound {m : Wm} {U : List Nat} {K K' : Nat} (h : Good m U K) (hK : K ≤ K') : Good m U K' := ⟨h.sane.more hK, h.run⟩
theorem not_hurt_mend {d d' : Dk} {k : Nat} (h : Hurt k (mendD d) d') : False := by
  have := h.why
  simp [mendD] at this
theorem good_open {m : Wm} {U : List Nat} {K k n : Nat} {d' : Dk} {ss : List ByteArray} (h : Good m U K) (hU : U.length < 1048576) (c : Calm k (mendD m.d) d') (ho : OpensTo m.d.files m.key (.good (lists ss) n)) (fo : Bool) :
    Good ⟨m.key, d', some ⟨m.key, lists ss, levels (lists ss), [], false⟩, ss, n, false, fo⟩ U (K + k) := by
  have hs : Sane d' U (K + k) := h.sane.mend.calm c
  refine ⟨hs, fun L hL => ?_⟩
  cases hL
  have hf : d'.files = m.d.files := c.files
  exact ⟨runs_open hs c.dead c.hit hU (by rw [hf]; exact ho), ⟨Nat.zero_le _, fun a b r ha => by simp at ha⟩, rfl, rfl, rfl, rfl⟩
theorem good_shut {m : Wm} {U : List Nat} {K k : Nat} {d' : Dk} (h : Good m U K) (c : Calm k (mendD m.d) d') (fo : Bool) : Good ⟨m.key, d', none, m.es, m.pub, false, fo⟩ U (K + k) :=
  ⟨h.sane.mend.calm c, fun L hL => by cases hL⟩
theorem good_fault {m : Wm} {U : List Nat} {K : Nat} (h : Good m U K) (a : Nat) (x y : Bool) : Good { m with d := faultD m.d a x y } U K :=
  ⟨h.sane.fault a x y, fun L hL => ⟨(h.run L hL).1.fault a x y, (h.run L hL).2⟩⟩
/-- Behind a look by an opening that comes to nothing. -/
theorem good_calm {m : Wm} {U : List Nat} {K k : Nat} {d' : Dk} (h : Good m U K) (hl : m.l = none) (c : Calm k m.d d') : Good { m with d := d' } U (K + k) :=
  ⟨h.sane.calm c, fun L hL => by rw [show m.l = some L from hL] at hl; cases hl⟩
theorem good_hurt {m : Wm} {U : List Nat} {K k : Nat} {d' : Dk} (h : Good m U K) (hl : m.l = none) (c : Hurt k m.d d') : Good { m with d := d' } U (K + k) :=
  ⟨h.sane.hurt c, fun L hL => by rw [show m.l = some L from hL] at hl; cases hl⟩
theorem good_append {m : Wm} {U : List Nat} {K : Nat} {L : Lg} {s : ByteArray} (h : Good m U K) (hL : m.l = some L) (hf : m.failed = false) (hs : s.size ≤ 20) :
    Good { m with l := some { L with entries := L.entries ++ [s.data.toList], levels := levels (L.entries ++ [s.data.toList]) }, es := m.es ++ [s] } (L.entries.length / 4 :: U) K := by
  obtain ⟨h1, h2, h3, h4, h5, h6⟩ := h.run L hL
  refine ⟨h.sane.grow _ (Nat.le_refl _), fun L2 hL2 => ?_⟩
  cases hL2
  rw [hf] at h1
  have hr := runs_append s.data.toList h1 (by simpa using hs)
  refine ⟨by show Runs m.d _ _ m.failed _; rw [hf]; exact hr, (hr.live rfl).2.mark, ?_, rfl, h5, h6⟩
  show L.entries ++ [s.data.toList] = lists (m.es ++ [s])
  rw [h3]
  simp [lists]
theorem pubJ_mark (R : List (List (List UInt8))) : ∀ (k n : Nat) (put : List Nat) (d : Dk), k + n = R.length → MarkOk R put → MarkOk R (pubJ n (R.drop n) put d).2.1
  | 0, n, put, d, hn, h => by
      rw [List.drop_of_length_le (by omega)]
      exact h
  | k + 1, n, put, d, hn, h => by
      have hlt : n < R.length := by omega
      rw [List.drop_eq_getElem_cons hlt, pubJ]
      have hr : R[n]? = some R[n] := List.getElem?_eq_getElem hlt
      have hx := h.next hr (writeJ_mark ((n : Int) - 1) R[n] ((put ++ List.replicate (n + 1 - put.length) 0).getD n 0 / 4) d)
      split
      · exact hx
      · exact pubJ_mark R k (n + 1) _ _ (by omega) hx
theorem pubD_mark {es : List (List UInt8)} {put : List Nat} (key : ByteArray) (d : Dk) (h : MarkOk (rowsOf es) put) : MarkOk (rowsOf es) (pubD es key put d).2.1 := by
  have := pubJ_mark (rowsOf es) (rowsOf es).length 0 put d (by omega) h
  rw [List.drop_zero] at this
  unfold pubD
  split <;> exact this
theorem good_publish {m : Wm} {U : List Nat} {K : Nat} {L : Lg} (h : Good m U K) (hU : U.length ≤ 16384) (hL : m.l = some L) (hf : m.failed = false) (hn : NoClash (filesP L.entries) m.d.files) (pub : Int) (fo : Bool) :
    Good ⟨m.key, (pubD L.entries L.key L.put m.d).1, some { L with put := (pubD L.entries L.key L.put m.d).2.1, failed := (pubD L.entries L.key L.put m.d).2.2.isSome }, m.es, pub, (pubD L.entries L.key L.put m.d).2.2.isSome, fo⟩ U (K + 1048576) := by
  obtain ⟨h1, h2, h3, h4, h5, h6⟩ := h.run L hL
  rw [hf] at h1
  obtain ⟨r1, r2⟩ := runs_publish L.key h.sane h1 hU hn
  refine ⟨r1, fun L2 hL2 => ?_⟩
  cases hL2
  exact ⟨r2, pubD_mark _ _ h2, h3, h4, rfl, h6⟩
/-- A World that is sound, or of which nothing is claimed. -/
def GoodOr (m : Wm) (U : List Nat) (K : Nat) : Prop := m.foreign = true ∨ (m.foreign = false ∧ Good m U K)
theorem GoodOr.more {m : Wm} {U : List Nat} {K : Nat} (h : GoodOr m U K) (x : Nat) {K' : Nat} (hK : K ≤ K') : GoodOr m (x :: U) K' := h.imp id fun h => ⟨h.1, h.2.more x hK⟩
end Go.Proofs.YtefccfakhgdfbabGreatDoor
end
