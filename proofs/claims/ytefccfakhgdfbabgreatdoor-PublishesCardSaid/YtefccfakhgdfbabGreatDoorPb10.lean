/-
  What publishing leaves in a store that does not clash: plain. No conditions.
  Publishing, the whole: what is kept, what is there; an entry more. Plain. Conditions: at most 2^20 entries.
  What opening a publisher over some files comes to: plain. No conditions.
-/
import Derived.Test.YtefccfakhgdfbabGreatDoorPb09
set_option linter.unusedVariables false
set_option linter.unusedSimpArgs false
section
namespace Go.Proofs.YtefccfakhgdfbabGreatDoor
/-- Of each path what it was, or what is wanted where nothing was. -/
def Ext (W l l' : List Fil) : Prop := ∀ p, getF l' p = getF l p ∨ (getF l p = none ∧ ∃ b, (p, b) ∈ W ∧ getF l' p = some b)
def NoClash (W l : List Fil) : Prop := ∀ f ∈ W, clashF l f.1 f.2 = false
/-- One answer for each path. -/
def OneOf (W : List Fil) : Prop := ∀ p a b, (p, a) ∈ W → (p, b) ∈ W → a = b
theorem Ext.refl (W l : List Fil) : Ext W l l := fun _ => .inl rfl
theorem Ext.trans {W a b c : List Fil} (h : Ext W a b) (k : Ext W b c) : Ext W a c := fun p => by
  rcases k p with h1 | ⟨h1, x, h2, h3⟩
  · rcases h p with h4 | ⟨h4, x, h5, h6⟩
    · exact .inl (h1.trans h4)
    · exact .inr ⟨h4, x, h5, h1.trans h6⟩
  · rcases h p with h4 | ⟨h4, x, h5, h6⟩
    · exact .inr ⟨h4.symm.trans h1, x, h2, h3⟩
    · rw [h6] at h1; cases h1
theorem Ext.keeps {W a b : List Fil} (h : Ext W a b) {p x : ByteArray} (hp : getF a p = some x) : getF b p = some x := by
  rcases h p with h1 | ⟨h1, _⟩
  · exact h1.trans hp
  · rw [hp] at h1; cases h1
theorem clashF_false {l : List Fil} {p b : ByteArray} : clashF l p b = false ↔ getF l p = none ∨ getF l p = some b := by
  unfold clashF
  cases getF l p with
  | none => simp
  | some x => simp
theorem NoClash.ext {W l l' : List Fil} (h : NoClash W l) (ho : OneOf W) (he : Ext W l l') : NoClash W l' := by
  intro f hf
  rw [clashF_false]
  rcases he f.1 with h1 | ⟨h1, b, h2, h3⟩
  · rw [h1]; exact clashF_false.1 (h f hf)
  · right; rw [h3, ho f.1 b f.2 h2 hf]
theorem ext_put {W l : List Fil} {f : Fil} (hf : f ∈ W) (hn : NoClash W l) : Ext W l (putF l f.1 f.2) := by
  intro p
  rw [getF_put]
  split
  · rename_i h
    subst h
    rcases clashF_false.1 (hn f hf) with h1 | h1
    · exact .inr ⟨h1, f.2, hf, rfl⟩
    · exact .inl h1.symm
  · exact .inl rfl
theorem mem_put {l : List Fil} {p b : ByteArray} {f : Fil} (h : f ∈ putF l p b) : f ∈ l ∨ f = (p, b) := by
  unfold putF at h
  split at h
  · rcases List.mem_or_eq_of_mem_set h with h1 | h1
    · exact .inl h1
    · exact .inr h1
  · rcases List.mem_append.1 h with h1 | h1
    · exact .inl h1
    · exact .inr (by simpa using h1)
/-- A store that has not been hit. -/
structure Fresh (d : Dk) : Prop where
  dead : d.dead = false
  hit : d.hit = false
  turned : d.turned = false
  once : Once d.files
/-- What a stretch of puts of wanted files has kept. -/
structure Stretch (W : List Fil) (k : Nat) (d d' : Dk) : Prop where
  ext : Ext W d.files d'.files
  once : Once d'.files
  turned : d'.turned = false
  mem : ∀ f ∈ d'.files, f ∈ d.files ∨ f ∈ W
  len : d'.files.length ≤ d.files.length + k
  calls : d'.calls ≤ d.calls + k
theorem Stretch.refl (W : List Fil) {d : Dk} (h : Fresh d) : Stretch W 0 d d := ⟨Ext.refl W _, h.once, h.turned, fun f hf => .inl hf, Nat.le_refl _, Nat.le_refl _⟩
theorem Stretch.trans {W : List Fil} {j k : Nat} {a b c : Dk} (h : Stretch W j a b) (i : Stretch W k b c) : Stretch W (j + k) a c where
  ext := h.ext.trans i.ext
  once := i.once
  turned := i.turned
  mem f hf := by
    rcases i.mem f hf with h1 | h1
    · exact h.mem f h1
    · exact .inr h1
  len := by have := h.len; have := i.len; omega
  calls := by have := h.calls; have := i.calls; omega
theorem Stretch.more {W : List Fil} {j k : Nat} {a b : Dk} (h : Stretch W j a b) (hk : j ≤ k) : Stretch W k a b where
  ext := h.ext
  once := h.once
  turned := h.turned
  mem := h.mem
  len := Nat.le_trans h.len (by omega)
  calls := Nat.le_trans h.calls (by omega)
theorem fresh_calm {d : Dk} (h : Fresh d) (hk : enterK d = 0) : (enterD d).hit = false ∧ (enterD d).dead = false ∧ (enterD d).turned = false := by
  unfold enterK at hk
  rw [if_neg (by simp [h.dead])] at hk
  have hh : ¬ enterHit d = true := by
    intro hh
    rw [if_pos hh] at hk
    split at hk <;> omega
  unfold enterD
  rw [if_neg hh]
  exact ⟨h.hit, h.dead, h.turned⟩
theorem fresh_hit {d : Dk} (h : Fresh d) (hk : 0 < enterK d) : (enterD d).hit = true ∧ (enterD d).turned = false := by
  unfold enterK at hk
  rw [if_neg (by simp [h.dead])] at hk
  have hh : enterHit d = true := by
    cases hh : enterHit d with
    | true => rfl
    | false => rw [hh] at hk; simp at hk
  unfold enterD
  rw [if_pos hh]
  exact ⟨rfl, h.turned⟩
theorem swapD_hit (d : Dk) (p b : ByteArray) : (swapD d p b).hit = (enterD d).hit ∧ (swapD d p b).dead = (enterD d).dead ∧ (swapD d p b).turned = (enterD d).turned ∧ (swapD d p b).calls = d.calls + 1 := by
  unfold swapD
  split <;> exact ⟨rfl, rfl, rfl, enterD_calls d⟩
theorem swapD_files (d : Dk) (p b : ByteArray) : (swapD d p b).files = if enterK d < 2 then putF d.files p b else d.files := by
  unfold swapD
  split
  · rfl
  · exact enterD_files d
theorem put_stretch {W : List Fil} {d : Dk} {f : Fil} (hd : Fresh d) (hn : NoClash W d.files) (hf : f ∈ W) : Stretch W 1 d (putD d f.1 f.2) ∧ (badPut d f = false → Fresh (putD d f.1 f.2) ∧ getF (putD d f.1 f.2).files f.1 = some f.2) ∧ (badPut d f = true → (putD d f.1 f.2).hit = true) := by
  have hc := hn f hf
  have hp : putD d f.1 f.2 = swapD d f.1 f.2 := by unfold putD; rw [if_neg (by simp [hc])]
  obtain ⟨s1, s2, s3, s4⟩ := swapD_hit d f.1 f.2
  have s5 := swapD_files d f.1 f.2
  have hb : badPut d f = decide (0 < enterK d) := by unfold badPut; rw [hc]; simp
  have ht : (enterD d).turned = false := by
    rcases Nat.eq_zero_or_pos (enterK d) with h | h
    · exact (fresh_calm hd h).2.2
    · exact (fresh_hit hd h).2
  rw [hp]
  refine ⟨⟨?_, ?_, by rw [s3, ht], ?_, ?_, by omega⟩, ?_, ?_⟩
  · rw [s5]
    split
    · exact ext_put hf hn
    · exact Ext.refl W _
  · rw [s5]
    split
    · exact once_put hd.once _ _
    · exact hd.once
  · rw [s5]
    intro g hg
    split at hg
    · rcases mem_put hg with h1 | h1
      · exact .inl h1
      · exact .inr (by rw [h1]; exact hf)
    · exact .inl hg
  · rw [s5]
    split
    · exact (putF_len _ _ _).2
    · omega
  · intro h
    rw [hb] at h
    have h0 : enterK d = 0 := by simpa using h
    obtain ⟨t1, t2, t3⟩ := fresh_calm hd h0
    have hfl : (swapD d f.1 f.2).files = putF d.files f.1 f.2 := by rw [s5, if_pos (by omega)]
    exact ⟨⟨by rw [s2, t2], by rw [s1, t1], by rw [s3, t3], by rw [hfl]; exact once_put hd.once _ _⟩, by rw [hfl, getF_put, if_pos rfl]⟩
  · intro h
    rw [hb] at h
    rw [s1]
    exact (fresh_hit hd (by simpa using h)).1
theorem puts_law {W : List Fil} (ho : OneOf W) : ∀ (fs : List Fil) (d : Dk), (∀ f ∈ fs, f ∈ W) → Fresh d → NoClash W d.files →
    Stretch W fs.length d (putsD d fs).1 ∧ (((putsD d fs).2 = fs.length ∧ Fresh (putsD d fs).1 ∧ ∀ f ∈ fs, getF (putsD d fs).1.files f.1 = some f.2) ∨ ((putsD d fs).2 < fs.length ∧ (putsD d fs).1.hit = true))
  | [], d, _, hd, _ => ⟨Stretch.refl W hd, .inl ⟨rfl, hd, fun f hf => by simp at hf⟩⟩
  | f :: fs, d, hs, hd, hn => by
      have hf := hs f List.mem_cons_self
      obtain ⟨h1, h2, h3⟩ := put_stretch hd hn hf
      cases hb : badPut d f with
      | true =>
        simp only [putsD, hb, if_true]
        exact ⟨h1.more (by simp), .inr ⟨by simp, h3 hb⟩⟩
      | false =>
        obtain ⟨h4, h5⟩ := h2 hb
        obtain ⟨h6, h7⟩ := puts_law ho fs (putD d f.1 f.2) (fun g hg => hs g (List.mem_cons_of_mem _ hg)) h4 (hn.ext ho h1.ext)
        simp only [putsD, hb, Bool.false_eq_true, if_false]
        refine ⟨(h1.trans h6).more (by simp; omega), ?_⟩
        rcases h7 with ⟨a1, a2, a3⟩ | ⟨a1, a2⟩
        · refine .inl ⟨by simp [a1], a2, fun g hg => ?_⟩
          rcases List.mem_cons.1 hg with rfl | hg
          · exact h6.ext.keeps h5
          · exact a3 g hg
        · exact .inr ⟨by simp; omega, a2⟩
/-- What is marked as put is there. -/
def PutOk (l : List Fil) (R : List (List (List UInt8))) (put : List Nat) : Prop :=
  put.length ≤ R.length ∧ ∀ (m a : Nat) (r : List (List UInt8)), put[m]? = some a → R[m]? = some r → a % 4 = 0 ∧ a ≤ r.length ∧ ∀ j, 4 * j + 4 ≤ a → getF l (fileOf ((m : Int) - 1) r j).1 = some (fileOf ((m : Int) - 1) r j).2
theorem PutOk.ext {W l l' : List Fil} {R : List (List (List UInt8))} {put : List Nat} (h : PutOk l R put) (he : Ext W l l') : PutOk l' R put :=
  ⟨h.1, fun m a r ha hr => ⟨(h.2 m a r ha hr).1, (h.2 m a r ha hr).2.1, fun j hj => he.keeps ((h.2 m a r ha hr).2.2 j hj)⟩⟩
theorem PutOk.pad {l : List Fil} {R : List (List (List UInt8))} {put : List Nat} (h : PutOk l R put) {n : Nat} (hn : n < R.length) : PutOk l R (put ++ List.replicate (n + 1 - put.length) 0) := by
  refine ⟨by simp; have := h.1; omega, fun m a r ha hr => ?_⟩
  rcases Nat.lt_or_ge m put.length with hm | hm
  · rw [List.getElem?_append_left hm] at ha
    exact h.2 m a r ha hr
  · rw [List.getElem?_append_right hm, List.getElem?_replicate] at ha
    split at ha
    · cases ha
      exact ⟨rfl, by omega, fun j hj => by omega⟩
    · cases ha
/-- How many files at most some rows have. -/
def roomR (R : List (List (List UInt8))) : Nat := (R.map fun r => (r.length + 3) / 4).sum
theorem pub_law {W : List Fil} (ho : OneOf W) (R : List (List (List UInt8))) : ∀ (m n : Nat) (put : List Nat) (d : Dk), m + n = R.length → (∀ f ∈ filesR ((n : Int) - 1) (R.drop n), f ∈ W) → Fresh d → NoClash W d.files → PutOk d.files R put →
    Stretch W (roomR (R.drop n)) d (pubJ n (R.drop n) put d).1 ∧
    (((pubJ n (R.drop n) put d).2.2 = none ∧ Fresh (pubJ n (R.drop n) put d).1 ∧ PutOk (pubJ n (R.drop n) put d).1.files R (pubJ n (R.drop n) put d).2.1 ∧ ∀ f ∈ filesR ((n : Int) - 1) (R.drop n), getF (pubJ n (R.drop n) put d).1.files f.1 = some f.2) ∨
     (∃ p b, (pubJ n (R.drop n) put d).2.2 = some p ∧ (p, b) ∈ W ∧ (pubJ n (R.drop n) put d).1.hit = true)) := by
  intro m
  induction m with
  | zero =>
    intro n put d hmn hW hd hn hp
    rw [List.drop_eq_nil_of_le (by omega)]
    simp only [pubJ, filesR, roomR]
    exact ⟨Stretch.refl W hd, .inl ⟨trivial, hd, hp, fun f hf => by simp at hf⟩⟩
  | succ m ih =>
    intro n put d hmn hW hd hn hp
    have hnl : n < R.length := by omega
    rw [List.drop_eq_getElem_cons hnl] at hW ⊢
    obtain ⟨r, hr⟩ : ∃ r, r = R[n] := ⟨_, rfl⟩
    have hrn : R[n]? = some r := by rw [List.getElem?_eq_getElem hnl, hr]
    rw [← hr] at hW ⊢
    simp only [pubJ]
    obtain ⟨p1, hp1⟩ : ∃ p1, p1 = put ++ List.replicate (n + 1 - put.length) 0 := ⟨_, rfl⟩
    have hP := hp.pad hnl
    rw [← hp1] at hP ⊢
    have hnp : n < p1.length := by rw [hp1]; simp; omega
    obtain ⟨a, ha⟩ : ∃ a, p1[n]? = some a := ⟨_, List.getElem?_eq_getElem hnp⟩
    have hga : p1.getD n 0 = a := by rw [List.getD_eq_getElem?_getD, ha]; rfl
    rw [hga]
    obtain ⟨b1, b2, b3⟩ := hP.2 n a r ha hrn
    simp only [filesR] at hW
    have hW1 : ∀ f ∈ levelF ((n : Int) - 1) r, f ∈ W := fun f hf => hW f (List.mem_append_left _ hf)
    obtain ⟨c1, c2⟩ := puts_law ho ((levelF ((n : Int) - 1) r).drop (a / 4)) d (fun f hf => hW1 f (List.mem_of_mem_drop hf)) hd hn
    obtain ⟨q, hq⟩ : ∃ q, q = putsD d ((levelF ((n : Int) - 1) r).drop (a / 4)) := ⟨_, rfl⟩
    have hlen : ((levelF ((n : Int) - 1) r).drop (a / 4)).length = (r.length + 3) / 4 - a / 4 := by rw [List.length_drop, levelF_len]
    rw [← hq, hlen] at c1 c2
    have hroom : roomR (r :: R.drop (n + 1)) = (r.length + 3) / 4 + roomR (R.drop (n + 1)) := rfl
    have hw : writeJ ((n : Int) - 1) r (a / 4) d = (q.1, 4 * min (a / 4 + q.2) (r.length / 4), ((levelF ((n : Int) - 1) r)[a / 4 + q.2]?).map (·.1)) := by unfold writeJ; rw [← hq]
    rw [hw]
    have hold : ∀ j, j < a / 4 → getF q.1.files (fileOf ((n : Int) - 1) r j).1 = some (fileOf ((n : Int) - 1) r j).2 := fun j hj => c1.ext.keeps (b3 j (by omega))
    rcases c2 with ⟨d1, d2, d3⟩ | ⟨d1, d2⟩
    · have hall : ∀ j, 4 * j < r.length → getF q.1.files (fileOf ((n : Int) - 1) r j).1 = some (fileOf ((n : Int) - 1) r j).2 := by
        intro j hj
        rcases Nat.lt_or_ge j (a / 4) with h | h
        · exact hold j h
        · apply d3
          apply List.mem_of_getElem? (i := j - a / 4)
          rw [List.getElem?_drop, show a / 4 + (j - a / 4) = j by omega, levelF_get _ _ _ hj]
      have hnone : (levelF ((n : Int) - 1) r)[a / 4 + q.2]? = none := List.getElem?_eq_none (by rw [levelF_len]; omega)
      rw [hnone]
      simp only [Option.map_none]
      have hP2 : PutOk q.1.files R (p1.set n (4 * min (a / 4 + q.2) (r.length / 4))) := by
        refine ⟨by rw [List.length_set]; exact hP.1, fun i x y hx hy => ?_⟩
        rw [List.getElem?_set] at hx
        split at hx
        · rename_i hi
          subst hi
          rw [hrn] at hy
          cases hx
          cases hy
          exact ⟨by omega, by omega, fun j hj => hall j (by omega)⟩
        · exact ⟨(hP.2 i x y hx hy).1, (hP.2 i x y hx hy).2.1, fun j hj => c1.ext.keeps ((hP.2 i x y hx hy).2.2 j hj)⟩
      have hI := ih (n + 1) (p1.set n (4 * min (a / 4 + q.2) (r.length / 4))) q.1 (by omega) (fun f hf => hW f (List.mem_append_right _ (by rw [show ((n : Int) - 1 + 1) = ((n + 1 : Nat) : Int) - 1 by omega]; exact hf))) d2 (hn.ext ho c1.ext) hP2
      obtain ⟨i1, i2⟩ := hI
      refine ⟨?_, ?_⟩
      · rw [hroom]
        exact (c1.trans i1).more (by omega)
      · rcases i2 with ⟨e1, e2, e3, e4⟩ | h
        · refine .inl ⟨e1, e2, e3, fun f hf => ?_⟩
          simp only [filesR] at hf
          rcases List.mem_append.1 hf with hf | hf
          · unfold levelF at hf
            obtain ⟨j, hj, rfl⟩ := List.mem_map.1 hf
            rw [List.mem_range] at hj
            exact i1.ext.keeps (hall j (by omega))
          · exact e4 f (by rw [show (((n + 1 : Nat) : Int) - 1) = (n : Int) - 1 + 1 by omega]; exact hf)
        · exact .inr h
    · have hlt : a / 4 + q.2 < (r.length + 3) / 4 := by omega
      have hg := levelF_get ((n : Int) - 1) r (a / 4 + q.2) (by omega)
      rw [hg]
      simp only [Option.map_some]
      exact ⟨by rw [hroom]; exact c1.more (by omega), .inr ⟨_, (fileOf ((n : Int) - 1) r (a / 4 + q.2)).2, rfl, hW1 _ (List.mem_of_getElem? hg), d2⟩⟩
end Go.Proofs.YtefccfakhgdfbabGreatDoor
end

section
namespace Go.Proofs.YtefccfakhgdfbabGreatDoor
theorem nLev_small {n : Nat} (h : n ≤ 1048576) : nLev n ≤ 11 := by
  rcases Nat.lt_or_ge 11 (nLev n) with h1 | h1
  · have := (nLev_iff n 11).1 h1
    have e : 4 ^ 11 = 4194304 := rfl
    omega
  · exact h1
theorem rowsOf_len (es : List (List UInt8)) : (rowsOf es).length = nLev es.length + 1 := by simp [rowsOf, levels]
theorem rowsOf_zero (es : List (List UInt8)) : (rowsOf es)[0]? = some (es.map encE) := rfl
theorem rowsOf_succ (es : List (List UInt8)) (k : Nat) (h : k < nLev es.length) : (rowsOf es)[k + 1]? = some ((levelRow es k).map fun (x : Hsh) => x.toList) := by
  unfold rowsOf levels
  rw [List.getElem?_cons_succ, List.getElem?_map, List.getElem?_map, List.getElem?_range h]
  rfl
theorem rowsOf_row {es : List (List UInt8)} {m : Nat} {r : List (List UInt8)} (h : (rowsOf es)[m]? = some r) : (m = 0 ∧ r = es.map encE) ∨ ∃ k, m = k + 1 ∧ k < nLev es.length ∧ r = (levelRow es k).map fun (x : Hsh) => x.toList := by
  cases m with
  | zero => rw [rowsOf_zero] at h; cases h; exact .inl ⟨rfl, rfl⟩
  | succ k =>
    have hk : k < nLev es.length := by
      have := (List.getElem?_eq_some_iff.1 h).1
      rw [rowsOf_len] at this
      omega
    rw [rowsOf_succ es k hk] at h
    cases h
    exact .inr ⟨k, rfl, hk, rfl⟩
theorem rowsOf_short {es : List (List UInt8)} {r : List (List UInt8)} (h : r ∈ rowsOf es) : r.length ≤ es.length := by
  obtain ⟨m, hm⟩ := List.mem_iff_getElem?.1 h
  rcases rowsOf_row hm with ⟨_, rfl⟩ | ⟨k, _, _, rfl⟩
  · simp
  · rw [List.length_map, levelRow_len]
    exact Nat.div_le_self _ _
theorem rowsOf_small {es : List (List UInt8)} (h : es.length ≤ 1048576) : Small (-1) (rowsOf es) := by
  have := nLev_small h
  refine ⟨by omega, by rw [rowsOf_len]; omega, fun r hr => by have := rowsOf_short hr; omega⟩
theorem filesP_one {es : List (List UInt8)} (h : es.length ≤ 1048576) : OneOf (filesP es) := fun _ _ _ ha hb => filesR_one (rowsOf_small h) ha hb
theorem filesP_get {es : List (List UInt8)} (h : es.length ≤ 1048576) {p b : ByteArray} (hm : (p, b) ∈ filesP es) : getF (filesP es) p = some b := filesR_get (rowsOf_small h) hm
/-- The checkpoint of some entries. -/
def cpOf (es : List (List UInt8)) (key : ByteArray) : ByteArray := sOf (signOf es.length (rootOf es) key.data.toList)
/-- Publishing: the store, the marks, the path that failed. -/
def pubD (es : List (List UInt8)) (key : ByteArray) (put : List Nat) (d : Dk) : Dk × List Nat × Option ByteArray :=
  match (pubJ 0 (rowsOf es) put d).2.2 with
  | some p => ((pubJ 0 (rowsOf es) put d).1, (pubJ 0 (rowsOf es) put d).2.1, some p)
  | none => (swapD (pubJ 0 (rowsOf es) put d).1 (sOf kCp) (cpOf es key), (pubJ 0 (rowsOf es) put d).2.1, if 0 < enterK (pubJ 0 (rowsOf es) put d).1 then some (sOf kCp) else none)
/-- No file is turned or gone, but for the checkpoint; what is new is wanted. -/
def KeptP (l l' W : List Fil) (c : ByteArray) : Prop := ∀ p, getF l' p = getF l p ∨ (getF l p = none ∧ ∃ b, (p, b) ∈ W ∧ getF l' p = some b) ∨ (p = sOf kCp ∧ getF l' p = some c)
theorem roomR_le (R : List (List (List UInt8))) (k : Nat) (h : ∀ r ∈ R, r.length ≤ k) : roomR R ≤ R.length * (k + 3) := by
  induction R with
  | nil => simp [roomR]
  | cons a R ih =>
    have h1 := ih fun r hr => h r (List.mem_cons_of_mem _ hr)
    have h2 := h a List.mem_cons_self
    have e : roomR (a :: R) = (a.length + 3) / 4 + roomR R := rfl
    rw [e, List.length_cons, Nat.add_mul]
    omega
theorem room_rows {es : List (List UInt8)} (h : es.length ≤ 1048576) : roomR (rowsOf es) ≤ 12 * (es.length + 3) := by
  refine Nat.le_trans (roomR_le _ es.length fun r hr => rowsOf_short hr) (Nat.mul_le_mul_right _ ?_)
  rw [rowsOf_len]
  have := nLev_small h
  omega
/-- What publishing comes to where no other bytes stand. -/
theorem publish_law {es : List (List UInt8)} (key : ByteArray) {put : List Nat} {d : Dk} (hl : es.length ≤ 1048576) (hd : Fresh d) (hn : NoClash (filesP es) d.files) (hp : PutOk d.files (rowsOf es) put) :
    KeptP d.files (pubD es key put d).1.files (filesP es) (cpOf es key) ∧ Once (pubD es key put d).1.files ∧ (pubD es key put d).1.turned = false ∧
    (∀ f ∈ (pubD es key put d).1.files, f ∈ d.files ∨ f ∈ filesP es ∨ f = (sOf kCp, cpOf es key)) ∧ (pubD es key put d).1.files.length ≤ d.files.length + 12 * (es.length + 3) + 1 ∧ (pubD es key put d).1.calls ≤ d.calls + 12 * (es.length + 3) + 1 ∧
    (((pubD es key put d).2.2 = none ∧ Fresh (pubD es key put d).1 ∧ PutOk (pubD es key put d).1.files (rowsOf es) (pubD es key put d).2.1 ∧ (∀ f ∈ filesP es, getF (pubD es key put d).1.files f.1 = some f.2) ∧ getF (pubD es key put d).1.files (sOf kCp) = some (cpOf es key)) ∨
     (∃ p, (pubD es key put d).2.2 = some p ∧ (pubD es key put d).1.hit = true ∧ ((∃ b, (p, b) ∈ filesP es) ∨ p = sOf kCp))) := by
  have ho := filesP_one hl
  have hr := room_rows hl
  have h := pub_law ho (rowsOf es) (rowsOf es).length 0 put d (by omega) (fun f hf => hf) hd hn hp
  rw [List.drop_zero] at h
  unfold pubD
  generalize pubJ 0 (rowsOf es) put d = q at h ⊢
  obtain ⟨h1, h2⟩ := h
  have hkeep : ∀ p, getF q.1.files p = getF d.files p ∨ (getF d.files p = none ∧ ∃ b, (p, b) ∈ filesP es ∧ getF q.1.files p = some b) := h1.ext
  rcases h2 with ⟨e1, e2, e3, e4⟩ | ⟨p, b, e1, e2, e3⟩
  · rw [e1]
    simp only []
    obtain ⟨s1, s2, s3, s4⟩ := swapD_hit q.1 (sOf kCp) (cpOf es key)
    have s5 := swapD_files q.1 (sOf kCp) (cpOf es key)
    have hget : ∀ p, getF (swapD q.1 (sOf kCp) (cpOf es key)).files p = getF q.1.files p ∨ (p = sOf kCp ∧ getF (swapD q.1 (sOf kCp) (cpOf es key)).files p = some (cpOf es key)) := by
      intro p
      rw [s5]
      split
      · rw [getF_put]
        split
        · rename_i h; exact .inr ⟨h, rfl⟩
        · exact .inl rfl
      · exact .inl rfl
    refine ⟨fun p => ?_, ?_, ?_, ?_, ?_, ?_, ?_⟩
    · rcases hget p with h3 | h3
      · rw [h3]
        rcases hkeep p with h4 | h4
        · exact .inl h4
        · exact .inr (.inl h4)
      · exact .inr (.inr h3)
    · rw [s5]
      split
      · exact once_put h1.once _ _
      · exact h1.once
    · rw [s3]
      rcases Nat.eq_zero_or_pos (enterK q.1) with h | h
      · exact (fresh_calm e2 h).2.2
      · exact (fresh_hit e2 h).2
    · intro f hf
      rw [s5] at hf
      split at hf
      · rcases mem_put hf with h3 | h3
        · rcases h1.mem f h3 with h4 | h4
          · exact .inl h4
          · exact .inr (.inl h4)
        · exact .inr (.inr h3)
      · rcases h1.mem f hf with h4 | h4
        · exact .inl h4
        · exact .inr (.inl h4)
    · have := h1.len
      rw [s5]
      split
      · have := (putF_len q.1.files (sOf kCp) (cpOf es key)).2; omega
      · omega
    · have := h1.calls; omega
    · rcases Nat.eq_zero_or_pos (enterK q.1) with h | h
      · left
        obtain ⟨t1, t2, t3⟩ := fresh_calm e2 h
        have hfl : (swapD q.1 (sOf kCp) (cpOf es key)).files = putF q.1.files (sOf kCp) (cpOf es key) := by rw [s5, if_pos (by omega)]
        have hcp : ∀ f ∈ filesP es, f.1 ≠ sOf kCp := fun f hf => filesR_cp hf
        refine ⟨if_neg (by omega), ⟨by rw [s2, t2], by rw [s1, t1], by rw [s3, t3], by rw [hfl]; exact once_put h1.once _ _⟩, ⟨e3.1, fun m a r ha hr => ?_⟩, fun f hf => ?_, by rw [hfl, getF_put, if_pos rfl]⟩
        · obtain ⟨k1, k2, k3⟩ := e3.2 m a r ha hr
          refine ⟨k1, k2, fun j hj => ?_⟩
          rw [hfl, getF_put, if_neg]
          · exact k3 j hj
          · exact fun e => nameOf_cp _ _ _ (sOf_inj e)
        · rw [hfl, getF_put, if_neg (hcp f hf)]
          exact e4 f hf
      · right
        exact ⟨sOf kCp, if_pos h, by rw [s1]; exact (fresh_hit e2 h).1, .inr rfl⟩
  · rw [e1]
    simp only []
    refine ⟨fun p => ?_, h1.once, h1.turned, fun f hf => ?_, by have := h1.len; omega, by have := h1.calls; omega, .inr ⟨p, rfl, e3, .inl ⟨b, e2⟩⟩⟩
    · rcases hkeep p with h4 | h4
      · exact .inl h4
      · exact .inr (.inl h4)
    · rcases h1.mem f hf with h4 | h4
      · exact .inl h4
      · exact .inr (.inl h4)
/-- A file that was whole stays what it was. -/
theorem fileOf_more (t : Int) (r s : List (List UInt8)) (j : Nat) (h : 4 * j + 4 ≤ r.length) : fileOf t (r ++ s) j = fileOf t r j := by
  unfold fileOf
  have e : min 4 ((r ++ s).length - 4 * j) = min 4 (r.length - 4 * j) := by rw [List.length_append]; omega
  rw [e, List.drop_append_of_le_length (by omega), List.take_append_of_le_length (by rw [List.length_drop]; omega)]
theorem levelRow_prefix (es : List (List UInt8)) (e : List UInt8) (k : Nat) : ∃ s, levelRow (es ++ [e]) k = levelRow es k ++ s := by
  have hp : 0 < 4 ^ k := Nat.pow_pos (by decide)
  by_cases h : (es.length + 1) / 4 ^ k = es.length / 4 ^ k
  · exact ⟨[], by rw [levelRow_same es e k h, List.append_nil]⟩
  · refine ⟨_, levelRow_more es e k (es.length / 4 ^ k) rfl ?_⟩
    rw [Nat.succ_div] at h ⊢
    split
    · rfl
    · rename_i hd
      rw [if_neg hd] at h
      exact absurd rfl h
theorem nLev_mono (n : Nat) : nLev n ≤ nLev (n + 1) := by
  rcases Nat.lt_or_ge (nLev (n + 1)) (nLev n) with h | h
  · have a := (nLev_iff n _).1 h
    have b := (nLev_iff (n + 1) (nLev (n + 1))).2 (by omega)
    omega
  · exact h
theorem rows_prefix {es : List (List UInt8)} (e : List UInt8) {m : Nat} {r : List (List UInt8)} (h : (rowsOf (es ++ [e]))[m]? = some r) (hm : m < (rowsOf es).length) : ∃ r0 s, (rowsOf es)[m]? = some r0 ∧ r = r0 ++ s := by
  rw [rowsOf_len] at hm
  rcases rowsOf_row h with ⟨rfl, rfl⟩ | ⟨k, rfl, hk, rfl⟩
  · exact ⟨_, [encE e], rowsOf_zero es, by simp⟩
  · obtain ⟨s, hs⟩ := levelRow_prefix es e k
    exact ⟨_, s.map fun (x : Hsh) => x.toList, rowsOf_succ es k (by omega), by rw [hs, List.map_append]⟩
theorem putOk_more {l : List Fil} {es : List (List UInt8)} {put : List Nat} (e : List UInt8) (h : PutOk l (rowsOf es) put) : PutOk l (rowsOf (es ++ [e])) put := by
  refine ⟨?_, fun m a r ha hr => ?_⟩
  · have := h.1
    rw [rowsOf_len] at this ⊢
    have := nLev_mono es.length
    simp only [List.length_append, List.length_cons, List.length_nil, Nat.zero_add] at *
    omega
  · have hm := (List.getElem?_eq_some_iff.1 ha).1
    obtain ⟨r0, s, h0, rfl⟩ := rows_prefix e hr (by have := h.1; omega)
    obtain ⟨k1, k2, k3⟩ := h.2 m a r0 ha h0
    refine ⟨k1, by rw [List.length_append]; omega, fun j hj => ?_⟩
    rw [fileOf_more _ _ _ _ (by omega)]
    exact k3 j hj
theorem putOk_nil (l : List Fil) (es : List (List UInt8)) : PutOk l (rowsOf es) [] := ⟨by simp, fun m a r ha => by simp at ha⟩
/-- The marks are of whole files. -/
def MarkOk (R : List (List (List UInt8))) (put : List Nat) : Prop := put.length ≤ R.length ∧ ∀ (m a : Nat) (r : List (List UInt8)), put[m]? = some a → R[m]? = some r → a % 4 = 0 ∧ a ≤ r.length
theorem PutOk.mark {l : List Fil} {R : List (List (List UInt8))} {put : List Nat} (h : PutOk l R put) : MarkOk R put := ⟨h.1, fun m a r h1 h2 => ⟨(h.2 m a r h1 h2).1, (h.2 m a r h1 h2).2.1⟩⟩
theorem MarkOk.next {R : List (List (List UInt8))} {put : List Nat} (h : MarkOk R put) {n x : Nat} {r : List (List UInt8)} (hr : R[n]? = some r) (hx : x % 4 = 0 ∧ x ≤ r.length) : MarkOk R ((put ++ List.replicate (n + 1 - put.length) 0).set n x) := by
  have hn := (List.getElem?_eq_some_iff.1 hr).1
  refine ⟨by simp; have := h.1; omega, fun m a q ha hq => ?_⟩
  rw [List.getElem?_set] at ha
  split at ha
  · rename_i hnm
    subst hnm
    split at ha
    · cases ha; rw [hr] at hq; cases hq; exact hx
    · cases ha
  · rcases Nat.lt_or_ge m put.length with hm | hm
    · rw [List.getElem?_append_left hm] at ha
      exact h.2 m a q ha hq
    · rw [List.getElem?_append_right hm, List.getElem?_replicate] at ha
      split at ha
      · cases ha; exact ⟨rfl, by omega⟩
      · cases ha
theorem writeJ_mark (t : Int) (row : List (List UInt8)) (j : Nat) (d : Dk) : (writeJ t row j d).2.1 % 4 = 0 ∧ (writeJ t row j d).2.1 ≤ row.length := by
  unfold writeJ
  simp only []
  omega
theorem pubJ_step {R : List (List (List UInt8))} {n : Nat} {r : List (List UInt8)} (hr : R[n]? = some r) (put : List Nat) (d : Dk) {p1 : List Nat} {q : Dk × Nat × Option ByteArray} (hp : p1 = put ++ List.replicate (n + 1 - put.length) 0) (hq : q = writeJ ((n : Int) - 1) r (p1.getD n 0 / 4) d) :
    pubJ n (R.drop n) put d = match q.2.2 with | some p => (q.1, p1.set n q.2.1, some p) | none => pubJ (n + 1) (R.drop (n + 1)) (p1.set n q.2.1) q.1 := by
  obtain ⟨hlt, he⟩ := List.getElem?_eq_some_iff.1 hr
  rw [List.drop_eq_getElem_cons hlt, he]
  simp only [pubJ]
  rw [← hp, ← hq]
  cases q.2.2 <;> rfl
theorem pubJ_out {R : List (List (List UInt8))} {n : Nat} (h : R.length ≤ n) (put : List Nat) (d : Dk) : pubJ n (R.drop n) put d = (d, put, none) := by rw [List.drop_eq_nil_of_le h]; rfl
end Go.Proofs.YtefccfakhgdfbabGreatDoor
end

section
namespace Go.Proofs.YtefccfakhgdfbabGreatDoor
/-- The path of a bundle. -/
def bunName (i w : Nat) : ByteArray := sOf (nameOf (-1) i w)
/-- The bundle of an index and width in some files: its entries; none: it is missing, or none of that width. -/
def bundleF (l : List Fil) (i w : Nat) : Option (List (List UInt8)) := (getF l (bunName i w)).bind fun b => (unbundleOf b.data.toList).bind fun e => if e.length = w then some e else none
theorem bundleF_none {l : List Fil} {i w : Nat} (h : getF l (bunName i w) = none) : bundleF l i w = none := by unfold bundleF; rw [h]; rfl
theorem bundleF_bad {l : List Fil} {i w : Nat} {b : ByteArray} (h : getF l (bunName i w) = some b) (hb : unbundleOf b.data.toList = none) : bundleF l i w = none := by unfold bundleF; rw [h, Option.bind_some, hb]; rfl
theorem bundleF_ok {l : List Fil} {i w : Nat} {b : ByteArray} {e : List (List UInt8)} (h : getF l (bunName i w) = some b) (hb : unbundleOf b.data.toList = some e) : bundleF l i w = if e.length = w then some e else none := by unfold bundleF; rw [h, Option.bind_some, hb]; rfl
theorem unbundleOf_lens {b : List UInt8} {e : List (List UInt8)} (h : unbundleOf b = some e) : 0 < e.length ∧ e.length ≤ 4 ∧ ∀ x ∈ e, x.length ≤ 20 := by
  unfold unbundleOf at h
  cases hr : rawU b with
  | none => rw [hr] at h; simp at h
  | some ls =>
    rw [hr, Option.bind_some] at h
    split at h
    · rename_i hs
      cases h
      unfold bundleOf at hs
      split at hs
      · simp at hs
      · rename_i h0
        split at hs
        · rename_i ha
          refine ⟨by omega, by omega, fun x hx => ?_⟩
          exact of_decide_eq_true (List.all_eq_true.1 ha x hx)
        · simp at hs
    · cases h
theorem bundleF_some {l : List Fil} {i w : Nat} {e : List (List UInt8)} (h : bundleF l i w = some e) : e.length = w ∧ 0 < w ∧ w ≤ 4 ∧ (∀ x ∈ e, x.length ≤ 20) ∧ ∃ b, getF l (bunName i w) = some b := by
  cases hg : getF l (bunName i w) with
  | none => rw [bundleF_none hg] at h; cases h
  | some b =>
    cases hb : unbundleOf b.data.toList with
    | none => rw [bundleF_bad hg hb] at h; cases h
    | some e' =>
      rw [bundleF_ok hg hb] at h
      split at h
      · rename_i hw
        cases h
        obtain ⟨h1, h2, h3⟩ := unbundleOf_lens hb
        exact ⟨hw, by omega, by omega, h3, b, rfl⟩
      · cases h
/-- The entries of a checkpoint's n, m bundles from the i-th on behind d: the entries; the bundle that is missing or broken. -/
def loadP (l : List Fil) (n : Nat) : Nat → Nat → List (List UInt8) → List (List UInt8) × Option Nat
  | 0, _, d => (d, none)
  | m + 1, i, d => match bundleF l i (min 4 (n - 4 * i)) with
    | none => (d, some i)
    | some e => loadP l n m (i + 1) (d ++ e)
/-- The widths from w down, more than have: the first whose bundle is there. -/
def furtherW (l : List Fil) (d : List (List UInt8)) : Nat → List (List UInt8) × Bool
  | 0 => ([], false)
  | w + 1 => if w + 1 ≤ d.length % 4 then ([], false) else
      if (getF l (bunName (d.length / 4) (w + 1))).isNone then furtherW l d w else
      match bundleF l (d.length / 4) (w + 1) with
      | none => ([], false)
      | some e => if e.take (d.length % 4) = d.drop (4 * (d.length / 4)) then (e.drop (d.length % 4), decide (w + 1 = 4)) else ([], false)
/-- The entries behind these that are there; is the bundle one of the full width? -/
def furtherP (l : List Fil) (d : List (List UInt8)) : List (List UInt8) × Bool := furtherW l d 4
inductive Goes (l : List Fil) : List (List UInt8) → List (List UInt8) → Prop where
  | stop {d : List (List UInt8)} : (furtherP l d).2 = false → Goes l d (d ++ (furtherP l d).1)
  | more {d r : List (List UInt8)} : (furtherP l d).2 = true → Goes l (d ++ (furtherP l d).1) r → Goes l d r
theorem Goes.one {l : List Fil} {d a b : List (List UInt8)} (h : Goes l d a) (k : Goes l d b) : a = b := by
  induction h with
  | stop h1 =>
    cases k with
    | stop => rfl
    | more k1 _ => rw [h1] at k1; cases k1
  | more h1 _ ih =>
    cases k with
    | stop k1 => rw [h1] at k1; cases k1
    | more _ k2 => exact ih k2
/-- What the checkpoint says; none: it is none of the key. -/
def openHead (l : List Fil) (key : ByteArray) : Option (Nat × Hsh) := match getF l (sOf kCp) with
  | none => some (0, hash [])
  | some b => if (checkGo b.data.toList key.data.toList).2.2 = true then some ((checkGo b.data.toList key.data.toList).1.toNat, (checkGo b.data.toList key.data.toList).2.1) else none
/-- What Open comes to: the error's number and path, or the entries and the checkpoint's size. -/
inductive Opn where
  | bad (k : Nat) (p : ByteArray)
  | good (es : List (List UInt8)) (n : Nat)
inductive OpensTo (l : List Fil) (key : ByteArray) : Opn → Prop where
  | checkpoint : openHead l key = none → OpensTo l key (.bad 3 ⟨#[]⟩)
  | tile {n : Nat} {root : Hsh} {d : List (List UInt8)} {i : Nat} : openHead l key = some (n, root) → loadP l n ((n + 3) / 4) 0 [] = (d, some i) → OpensTo l key (.bad 6 (bunName i (min 4 (n - 4 * i))))
  | proof {n : Nat} {root : Hsh} {d : List (List UInt8)} : openHead l key = some (n, root) → loadP l n ((n + 3) / 4) 0 [] = (d, none) → rootOf d ≠ root → OpensTo l key (.bad 5 ⟨#[]⟩)
  | fine {n : Nat} {root : Hsh} {d r : List (List UInt8)} : openHead l key = some (n, root) → loadP l n ((n + 3) / 4) 0 [] = (d, none) → rootOf d = root → Goes l d r → OpensTo l key (.good r n)
theorem OpensTo.one {l : List Fil} {key : ByteArray} {a b : Opn} (h : OpensTo l key a) (k : OpensTo l key b) : a = b := by
  cases h with
  | checkpoint h1 =>
    cases k with
    | checkpoint => rfl
    | tile k1 => rw [h1] at k1; cases k1
    | proof k1 => rw [h1] at k1; cases k1
    | fine k1 => rw [h1] at k1; cases k1
  | tile h1 h2 =>
    cases k with
    | checkpoint k1 => rw [h1] at k1; cases k1
    | tile k1 k2 => rw [h1] at k1; cases k1; rw [h2] at k2; cases k2; rfl
    | proof k1 k2 => rw [h1] at k1; cases k1; rw [h2] at k2; cases k2
    | fine k1 k2 => rw [h1] at k1; cases k1; rw [h2] at k2; cases k2
  | proof h1 h2 h3 =>
    cases k with
    | checkpoint k1 => rw [h1] at k1; cases k1
    | tile k1 k2 => rw [h1] at k1; cases k1; rw [h2] at k2; cases k2
    | proof k1 k2 => rfl
    | fine k1 k2 k3 => rw [h1] at k1; cases k1; rw [h2] at k2; cases k2; exact absurd k3 h3
  | fine h1 h2 h3 h4 =>
    cases k with
    | checkpoint k1 => rw [h1] at k1; cases k1
    | tile k1 k2 => rw [h1] at k1; cases k1; rw [h2] at k2; cases k2
    | proof k1 k2 k3 => rw [h1] at k1; cases k1; rw [h2] at k2; cases k2; exact absurd h3 k3
    | fine k1 k2 k3 k4 => rw [h1] at k1; cases k1; rw [h2] at k2; cases k2; rw [h4.one k4]
/-- Of an index there is a bundle, of some width. -/
def Has (l : List Fil) (i : Nat) : Prop := ∃ w, 1 ≤ w ∧ w ≤ 4 ∧ ∃ b, getF l (bunName i w) = some b
/-- At most N indices from 0 on have one without a gap. -/
def FewB (l : List Fil) (N : Nat) : Prop := ∀ m, (∀ i, i < m → Has l i) → m ≤ N
theorem pigeon : ∀ (U : List Nat) (m : Nat), (∀ i, i < m → i ∈ U) → m ≤ U.length := by
  intro U m
  induction m generalizing U with
  | zero => intro _; omega
  | succ m ih =>
    intro h
    have hm := h m (by omega)
    have := ih (U.erase m) fun i hi => by
      rw [List.mem_erase_of_ne (by omega)]
      exact h i (by omega)
    rw [List.length_erase_of_mem hm] at this
    have := List.length_pos_of_mem hm
    omega
theorem fewB_of {l : List Fil} {U : List Nat} (h : ∀ i, i < 9223372036854775808 → Has l i → i ∈ U) (hU : U.length < 9223372036854775808) : FewB l U.length := by
  intro m hm
  rcases Nat.lt_or_ge m 9223372036854775808 with h1 | h1
  · exact pigeon U m fun i hi => h i (by omega) (hm i hi)
  · have := pigeon U 9223372036854775808 fun i hi => h i hi (hm i (by omega))
    omega
/-- Entries as opening takes them in: short ones, of bundles that are there. -/
structure Taken (l : List Fil) (d : List (List UInt8)) : Prop where
  short : ∀ e ∈ d, e.length ≤ 20
  has : ∀ i, 4 * i < d.length → Has l i
theorem Taken.few {l : List Fil} {d : List (List UInt8)} {N : Nat} (h : Taken l d) (hN : FewB l N) : d.length ≤ 4 * N := by
  have := hN ((d.length + 3) / 4) fun i hi => h.has i (by omega)
  omega
theorem Taken.nil (l : List Fil) : Taken l [] := ⟨fun _ h => by simp at h, fun i h => by simp at h⟩
theorem Taken.step {l : List Fil} {d e : List (List UInt8)} {i w : Nat} (h : Taken l d) (hd : d.length = 4 * i) (hb : bundleF l i w = some e) : Taken l (d ++ e) := by
  obtain ⟨h1, h2, h3, h4, b, h5⟩ := bundleF_some hb
  refine ⟨fun x hx => ?_, fun j hj => ?_⟩
  · rcases List.mem_append.1 hx with hx | hx
    · exact h.short x hx
    · exact h4 x hx
  · rw [List.length_append] at hj
    rcases Nat.lt_or_ge j i with hji | hji
    · exact h.has j (by omega)
    · exact ⟨w, h2, h3, b, by rw [show j = i by omega]; exact h5⟩
theorem Taken.further {l : List Fil} {d : List (List UInt8)} (h : Taken l d) : ∀ w, w ≤ 4 → Taken l (d ++ (furtherW l d w).1) ∧ ((furtherW l d w).2 = true → (d ++ (furtherW l d w).1).length = 4 * (d.length / 4 + 1))
  | 0, _ => by simp only [furtherW, List.append_nil]; exact ⟨h, fun h => by cases h⟩
  | w + 1, hw => by
      rw [furtherW]
      split
      · rw [List.append_nil]; exact ⟨h, fun h => by cases h⟩
      · rename_i h0
        split
        · exact h.further w (by omega)
        · cases hb : bundleF l (d.length / 4) (w + 1) with
          | none => simp only [List.append_nil]; exact ⟨h, fun h => by cases h⟩
          | some e =>
            simp only []
            split
            · rename_i he
              obtain ⟨h1, h2, h3, h4, b, h5⟩ := bundleF_some hb
              refine ⟨⟨fun x hx => ?_, fun j hj => ?_⟩, fun ht => ?_⟩
              · rcases List.mem_append.1 hx with hx | hx
                · exact h.short x hx
                · exact h4 x (List.mem_of_mem_drop hx)
              · rw [List.length_append, List.length_drop] at hj
                rcases Nat.lt_or_ge j (d.length / 4) with hji | hji
                · exact h.has j (by omega)
                · exact ⟨w + 1, h2, h3, b, by rw [show j = d.length / 4 by omega]; exact h5⟩
              · have := of_decide_eq_true ht
                rw [List.length_append, List.length_drop]
                omega
            · rw [List.append_nil]; exact ⟨h, fun h => by cases h⟩
theorem Taken.goes {l : List Fil} {d r : List (List UInt8)} (h : Taken l d) (hg : Goes l d r) : Taken l r := by
  induction hg with
  | stop _ => exact (h.further 4 (by omega)).1
  | more _ _ ih => exact ih (h.further 4 (by omega)).1
theorem Taken.load {l : List Fil} {n : Nat} : ∀ (m i : Nat) (d : List (List UInt8)), Taken l d → d.length = min n (4 * i) → 4 * (m + i) < n + 4 → Taken l (loadP l n m i d).1
  | 0, _, d, h, _, _ => h
  | m + 1, i, d, h, hd, hm => by
      rw [loadP]
      cases hb : bundleF l i (min 4 (n - 4 * i)) with
      | none => exact h
      | some e =>
        obtain ⟨h1, h2, h3, h4, b, h5⟩ := bundleF_some hb
        exact Taken.load m (i + 1) (d ++ e) (h.step (by omega) hb) (by rw [List.length_append]; omega) (by omega)
theorem OpensTo.taken {l : List Fil} {key : ByteArray} {es : List (List UInt8)} {n : Nat} (h : OpensTo l key (.good es n)) : Taken l es := by
  cases h with
  | fine h1 h2 h3 h4 =>
    have := Taken.load (l := l) (n := n) ((n + 3) / 4) 0 [] (Taken.nil l) (by simp) (by omega)
    rw [h2] at this
    exact this.goes h4
end Go.Proofs.YtefccfakhgdfbabGreatDoor
end
