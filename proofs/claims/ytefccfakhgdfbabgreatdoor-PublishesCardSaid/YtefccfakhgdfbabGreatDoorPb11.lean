/-
  What holds of a store and its publisher from step to step: plain. Conditions: bounds as the statement claims them.
  plain.Disk's Get, case by case; files.At; a bundle's bytes, case by case.
  (*Log).bundle: one look for a bundle. Conditions: fewer than 2^40 calls; files of at most 2^20 bytes.
  tiles.Log: entries more; marks of what is put; the mark that it has failed. No walk. Conditions: the block is a Log's.
-/
import Derived.Test.YtefccfakhgdfbabGreatDoorPb10
import Derived.Test.YtefccfakhgdfbabGreatDoorPb06
import Derived.Test.YtefccfakhgdfbabGreatDoorPb05
import Derived.Test.YtefccfakhgdfbabGreatDoorPb08
import Derived.Test.YtefccfakhgdfbabGreatDoorPb09
import Derived.Handy
import Derived.Test.YtefccfakhgdfbabGreatDoorPb07
set_option linter.unusedVariables false
set_option linter.unusedSimpArgs false
section
namespace Go.Proofs.YtefccfakhgdfbabGreatDoor
/-- Behind a look that has not failed. -/
structure Calm (k : Nat) (d d' : Dk) : Prop where
  files : d'.files = d.files
  turned : d'.turned = d.turned
  dead : d'.dead = d.dead
  hit : d'.hit = d.hit
  failAt : d'.failAt = d.failAt
  calls : d'.calls ≤ d.calls + k
/-- Behind a look that has failed. -/
structure Hurt (k : Nat) (d d' : Dk) : Prop where
  files : d'.files = d.files
  turned : d'.turned = d.turned
  why : d.dead = true ∨ 0 < d.failAt
  hit : (d.dead = true → d.hit = true) → (d'.dead = true → d'.hit = true)
  calls : d'.calls ≤ d.calls + k
theorem Calm.refl (d : Dk) : Calm 0 d d := ⟨rfl, rfl, rfl, rfl, rfl, Nat.le_refl _⟩
theorem Calm.trans {j k : Nat} {a b c : Dk} (h : Calm j a b) (i : Calm k b c) : Calm (j + k) a c :=
  ⟨i.files.trans h.files, i.turned.trans h.turned, i.dead.trans h.dead, i.hit.trans h.hit, i.failAt.trans h.failAt, by have := h.calls; have := i.calls; omega⟩
theorem Calm.more {j k : Nat} {a b : Dk} (h : Calm j a b) (hk : j ≤ k) : Calm k a b := ⟨h.files, h.turned, h.dead, h.hit, h.failAt, by have := h.calls; omega⟩
theorem Calm.hurt {j k : Nat} {a b c : Dk} (h : Calm j a b) (i : Hurt k b c) : Hurt (j + k) a c :=
  ⟨i.files.trans h.files, i.turned.trans h.turned, by have := i.why; rw [h.dead, h.failAt] at this; exact this, fun ha => i.hit (by rw [h.dead, h.hit]; exact ha), by have := h.calls; have := i.calls; omega⟩
theorem Hurt.more {j k : Nat} {a b : Dk} (h : Hurt j a b) (hk : j ≤ k) : Hurt k a b := ⟨h.files, h.turned, h.why, h.hit, by have := h.calls; omega⟩
theorem calm_enter {d : Dk} (h : enterK d = 0) : Calm 1 d (enterD d) := by
  have hh : ¬ enterHit d = true := by
    intro hh
    unfold enterK at h
    rw [hh] at h
    simp only [if_true] at h
    split at h
    · omega
    · split at h <;> omega
  unfold enterD
  rw [if_neg hh]
  exact ⟨rfl, rfl, rfl, rfl, rfl, Nat.le_refl _⟩
theorem hurt_enter {d : Dk} (h : 0 < enterK d) : Hurt 1 d (enterD d) := by
  unfold enterK at h
  unfold enterD
  cases hd : d.dead with
  | true =>
    have hh : ¬ enterHit d = true := by unfold enterHit; simp [hd]
    rw [if_neg hh]
    exact ⟨rfl, rfl, .inl hd, fun a => by simpa [hd] using a, Nat.le_refl _⟩
  | false =>
    rw [hd] at h
    cases hh : enterHit d with
    | false => rw [hh] at h; simp at h
    | true =>
      rw [if_pos rfl]
      refine ⟨rfl, rfl, .inr ?_, fun _ _ => rfl, Nat.le_refl _⟩
      unfold enterHit at hh
      simp at hh
      exact hh.2.1
/-- A store that is sound; U: the indices of which it may hold a bundle. -/
structure Sane (d : Dk) (U : List Nat) (K : Nat) : Prop where
  once : Once d.files
  turned : d.turned = false
  hit : d.dead = true → d.hit = true
  calls : d.calls ≤ K
  len : d.files.length ≤ K
  size : ∀ f ∈ d.files, f.2.size ≤ 1048576
  has : ∀ i, i < 9223372036854775808 → Has d.files i → i ∈ U
theorem Sane.grow {d : Dk} {U : List Nat} {K K' : Nat} (h : Sane d U K) (x : Nat) (hK : K ≤ K') : Sane d (x :: U) K' :=
  ⟨h.once, h.turned, h.hit, Nat.le_trans h.calls hK, Nat.le_trans h.len hK, h.size, fun i hi hh => List.mem_cons_of_mem _ (h.has i hi hh)⟩
theorem Sane.more {d : Dk} {U : List Nat} {K K' : Nat} (h : Sane d U K) (hK : K ≤ K') : Sane d U K' :=
  ⟨h.once, h.turned, h.hit, Nat.le_trans h.calls hK, Nat.le_trans h.len hK, h.size, h.has⟩
theorem Sane.calm {d d' : Dk} {U : List Nat} {K k : Nat} (h : Sane d U K) (c : Calm k d d') : Sane d' U (K + k) :=
  ⟨by rw [c.files]; exact h.once, by rw [c.turned]; exact h.turned, by rw [c.dead, c.hit]; exact h.hit, by have := c.calls; have := h.calls; omega, by rw [c.files]; have := h.len; omega, by rw [c.files]; exact h.size, by rw [c.files]; exact h.has⟩
theorem Sane.hurt {d d' : Dk} {U : List Nat} {K k : Nat} (h : Sane d U K) (c : Hurt k d d') : Sane d' U (K + k) :=
  ⟨by rw [c.files]; exact h.once, by rw [c.turned]; exact h.turned, c.hit h.hit, by have := c.calls; have := h.calls; omega, by rw [c.files]; have := h.len; omega, by rw [c.files]; exact h.size, by rw [c.files]; exact h.has⟩
theorem Sane.mend {d : Dk} {U : List Nat} {K : Nat} (h : Sane d U K) : Sane (mendD d) U K := ⟨h.once, h.turned, fun h => (by cases h), h.calls, h.len, h.size, h.has⟩
theorem Sane.fault {d : Dk} {U : List Nat} {K : Nat} (h : Sane d U K) (a : Nat) (x y : Bool) : Sane (faultD d a x y) U K := ⟨h.once, h.turned, fun h => (by cases h), h.calls, h.len, h.size, h.has⟩
theorem Sane.few {d : Dk} {U : List Nat} {K : Nat} (h : Sane d U K) (hU : U.length < 9223372036854775808) : FewB d.files U.length := fewB_of h.has hU
/-- A publisher over a store: what it keeps. -/
structure Runs (d : Dk) (es : List (List UInt8)) (put : List Nat) (failed : Bool) (U : List Nat) : Prop where
  short : ∀ e ∈ es, e.length ≤ 20
  idx : ∀ i, 4 * i < es.length → i ∈ U
  live : failed = false → Fresh d ∧ PutOk d.files (rowsOf es) put
theorem Runs.len {d : Dk} {es : List (List UInt8)} {put : List Nat} {f : Bool} {U : List Nat} (h : Runs d es put f U) : es.length ≤ 4 * U.length := by
  have := pigeon U ((es.length + 3) / 4) fun i hi => h.idx i (by omega)
  omega
/-- Behind an opening. -/
theorem runs_open {d : Dk} {U : List Nat} {K n : Nat} {key : ByteArray} {es : List (List UInt8)} (hs : Sane d U K) (hd : d.dead = false) (hh : d.hit = false) (hU : U.length < 1048576) (ho : OpensTo d.files key (.good es n)) : Runs d es [] false U := by
  have ht := ho.taken
  have hl := ht.few (hs.few (by omega))
  exact ⟨ht.short, fun i hi => hs.has i (by omega) (ht.has i hi), fun _ => ⟨⟨hd, hh, hs.turned, hs.once⟩, putOk_nil _ _⟩⟩
/-- Behind an entry more. -/
theorem runs_append {d : Dk} {es : List (List UInt8)} {put : List Nat} {U : List Nat} (e : List UInt8) (h : Runs d es put false U) (he : e.length ≤ 20) : Runs d (es ++ [e]) put false (es.length / 4 :: U) := by
  refine ⟨fun x hx => ?_, fun i hi => ?_, fun hf => ⟨(h.live hf).1, putOk_more e (h.live hf).2⟩⟩
  · rcases List.mem_append.1 hx with hx | hx
    · exact h.short x hx
    · rw [List.mem_singleton.1 hx]; exact he
  · rw [List.length_append, List.length_cons, List.length_nil] at hi
    rcases Nat.lt_or_ge (4 * i) es.length with h1 | h1
    · exact List.mem_cons_of_mem _ (h.idx i h1)
    · rw [show i = es.length / 4 by omega]; exact List.mem_cons_self
theorem Runs.more {d : Dk} {es : List (List UInt8)} {put : List Nat} {f : Bool} {U : List Nat} (h : Runs d es put f U) (x : Nat) : Runs d es put f (x :: U) := ⟨h.short, fun i hi => List.mem_cons_of_mem _ (h.idx i hi), h.live⟩
/-- A fault ahead. -/
theorem Runs.fault {d : Dk} {es : List (List UInt8)} {put : List Nat} {f : Bool} {U : List Nat} (h : Runs d es put f U) (a : Nat) (x y : Bool) : Runs (faultD d a x y) es put f U :=
  ⟨h.short, h.idx, fun hf => ⟨⟨rfl, rfl, (h.live hf).1.turned, (h.live hf).1.once⟩, (h.live hf).2⟩⟩
theorem flatten_le : ∀ (l : List (List UInt8)) (k : Nat), (∀ x ∈ l, x.length ≤ k) → l.flatten.length ≤ l.length * k
  | [], k, _ => by simp
  | a :: l, k, h => by
      have h1 := flatten_le l k fun x hx => h x (List.mem_cons_of_mem _ hx)
      have h2 := h a List.mem_cons_self
      rw [List.flatten_cons, List.length_append, List.length_cons, Nat.add_mul]
      omega
/-- Wanted files are short. -/
theorem filesP_size {es : List (List UInt8)} (h : ∀ e ∈ es, e.length ≤ 20) {f : Fil} (hf : f ∈ filesP es) : f.2.size ≤ 84 := by
  obtain ⟨n, r, j, h1, h2, rfl⟩ := (filesR_mem (rowsOf es) (-1)).1 hf
  have hr : ∀ x ∈ r, x.length ≤ 21 := by
    rcases rowsOf_row h1 with ⟨_, rfl⟩ | ⟨k, _, _, rfl⟩
    · intro x hx
      obtain ⟨e, he, rfl⟩ := List.mem_map.1 hx
      have := h e he
      simp only [encE, List.length_cons]
      omega
    · intro x hx
      obtain ⟨e, he, rfl⟩ := List.mem_map.1 hx
      simp
  have := flatten_le ((r.drop (4 * j)).take 4) 21 fun x hx => hr x (List.mem_of_mem_drop (List.mem_of_mem_take hx))
  have hl : ((r.drop (4 * j)).take 4).length ≤ 4 := by rw [List.length_take]; omega
  have he : (fileOf (-1 + (n : Int)) r j).2.size = ((r.drop (4 * j)).take 4).flatten.length := sOf_size _
  rw [he]
  have := Nat.mul_le_mul_right 21 hl
  omega
theorem cpOf_size (es : List (List UInt8)) (key : ByteArray) (h : es.length ≤ 1048576) : (cpOf es key).size ≤ 1048576 := by
  unfold cpOf
  rw [sOf_size]
  unfold signOf headOf
  have h1 := dec_len19 (n := es.length) (by omega)
  simp only [List.length_append, hexOf_len, kTiles, List.length_cons, List.length_nil, toList_len]
  omega
/-- A bundle that is wanted has an index of the entries. -/
theorem has_wanted {es : List (List UInt8)} (hl : es.length ≤ 1048576) {i w : Nat} {b : ByteArray} (hi : i < 9223372036854775808) (hw : 1 ≤ w) (hw4 : w ≤ 4) (hm : (bunName i w, b) ∈ filesP es) : 4 * i < es.length := by
  obtain ⟨n, r, j, h1, h2, h3⟩ := (filesR_mem (rowsOf es) (-1)).1 hm
  have hk := fileOf_ok (rowsOf_small hl) h1 h2
  have he : nameOf (-1) i w = nameOf (-1 + (n : Int)) j ((min 4 (r.length - 4 * j) : Nat) : Int) := sOf_inj (congrArg Prod.fst h3)
  have hn := nameOf_inj (l := -1) (i := (i : Int)) (w := (w : Int)) (by unfold nameOk; omega) hk.1 (by omega) hk.2 he
  rcases rowsOf_row h1 with ⟨_, rfl⟩ | ⟨k, hk1, _, _⟩
  · rw [List.length_map] at h2
    omega
  · omega
/-- Behind a publishing that does not clash. -/
theorem runs_publish {d : Dk} {es : List (List UInt8)} {put : List Nat} {U : List Nat} {K : Nat} (key : ByteArray) (hs : Sane d U K) (h : Runs d es put false U) (hU : U.length ≤ 16384) (hn : NoClash (filesP es) d.files) :
    Sane (pubD es key put d).1 U (K + 1048576) ∧ Runs (pubD es key put d).1 es (pubD es key put d).2.1 (pubD es key put d).2.2.isSome U := by
  have hl := h.len
  obtain ⟨h1, h2, h3, h4, h5, h6, h7⟩ := publish_law key (es := es) (by omega) (h.live rfl).1 hn (h.live rfl).2
  refine ⟨⟨h2, h3, ?_, by have := hs.calls; omega, by have := hs.len; omega, ?_, ?_⟩, ⟨h.short, h.idx, ?_⟩⟩
  · intro hd
    rcases h7 with ⟨_, k, _⟩ | ⟨_, _, k, _⟩
    · rw [k.dead] at hd; cases hd
    · exact k
  · intro f hf
    rcases h4 f hf with k | k | k
    · exact hs.size f k
    · have := filesP_size h.short k; omega
    · rw [k]; exact cpOf_size es key (by omega)
  · intro i hi ⟨w, hw, hw4, b, hb⟩
    rcases h4 _ (getF_some hb) with k | k | k
    · refine hs.has i hi ⟨w, hw, hw4, b, once_get hs.once k⟩
    · exact h.idx i (has_wanted (by omega) hi hw hw4 k)
    · exact absurd (sOf_inj (congrArg Prod.fst k)) (nameOf_cp _ _ _)
  · intro hf
    rcases h7 with ⟨_, k1, k2, _⟩ | ⟨p, k, _⟩
    · exact ⟨k1, k2⟩
    · rw [k] at hf; cases hf
/-- The indices of which some files may hold bundles. -/
def idxOf (l : List Fil) : List Nat := l.map fun f => (parseGo f.1.data.toList).2.1.toNat
theorem sane_new {l : List Fil} {K : Nat} (hK : l.length ≤ K) (hs : ∀ f ∈ l, f.2.size ≤ 1048576) : Sane (dk0 (firsts l)) (idxOf l) K := by
  have hsub : ∀ f ∈ firsts l, f ∈ l := by
    unfold firsts
    have : ∀ (k acc : List Fil) (f : Fil), f ∈ k.foldl addF acc → f ∈ acc ∨ f ∈ k := by
      intro k
      induction k with
      | nil => intro acc f hf; exact .inl hf
      | cons a k ih =>
        intro acc f hf
        rw [List.foldl_cons] at hf
        rcases ih _ f hf with h1 | h1
        · unfold addF at h1
          split at h1
          · exact .inl h1
          · rcases List.mem_append.1 h1 with h2 | h2
            · exact .inl h2
            · exact .inr (by rw [List.mem_singleton.1 h2]; exact List.mem_cons_self)
        · exact .inr (List.mem_cons_of_mem _ h1)
    intro f hf
    rcases this l [] f hf with h1 | h1
    · simp at h1
    · exact h1
  refine ⟨once_firsts l, rfl, fun h => (by cases h), Nat.zero_le _, Nat.le_trans (firsts_len l) hK, fun f hf => hs f (hsub f hf), fun i hi ⟨w, hw, hw4, b, hb⟩ => ?_⟩
  refine List.mem_map.2 ⟨_, hsub _ (getF_some hb), ?_⟩
  have hok : nameOk (-1) i w := by unfold nameOk; omega
  show (parseGo (nameOf (-1) i w)).2.1.toNat = i
  rw [nameOf_body hok, parseGo_name hok (by omega)]
  simp
end Go.Proofs.YtefccfakhgdfbabGreatDoor
end

section
namespace Go.Proofs.YtefccfakhgdfbabGreatDoor
open Go.RowKit
section
variable {w : World} {g : Nat} {v : Value} {d : Dk} (h : DiskAt w g v d) {p : ByteArray} (hc : d.calls < 1099511627776)
include h hc
theorem get_err (hk : 0 < enterK d) : Calls Tryz.prog 249 #[.pointer (some ⟨g, 0, none⟩), .string p] w fun e w' => ∃ q n, e = .returned (.tuple #[.slice none 0 0, .iface 152 (.pointer (some ⟨q, 0, none⟩))]) ∧ w.heap.size ≤ q ∧ w'.heap[q]? = some (.cells #[.int .i64 n] 366 (0, 0)) ∧ DiskAt w' g v (enterD d) ∧ Fr (· = g) w w' :=
  (get_any w g v d h p hc).mono fun e w' hp => by
    obtain ⟨h1, h2, ⟨_, u, h4, q, n, h5, h6, h7⟩ | ⟨h3, _⟩ | ⟨h3, _⟩⟩ := hp
    · exact ⟨q, n, by rw [h4, h5], h6, h7, h1, h2⟩
    · omega
    · omega
theorem get_hit {s : ByteArray} (hk : enterK d = 0) (hg : getF d.files p = some s) : Calls Tryz.prog 249 #[.pointer (some ⟨g, 0, none⟩), .string p] w fun e w' => ∃ b c, e = .returned (.tuple #[.slice (some ⟨b, 0, none⟩) s.size c, .nilIface]) ∧ OwnBytes w' w.heap.size (.slice (some ⟨b, 0, none⟩) s.size c) s.data.toList ∧ DiskAt w' g v (enterD d) ∧ Fr (· = g) w w' :=
  (get_any w g v d h p hc).mono fun e w' hp => by
    obtain ⟨h1, h2, ⟨h3, _⟩ | ⟨_, s', v', h4, h5, h6, b, c, h7⟩ | ⟨_, h4, _⟩⟩ := hp
    · omega
    · rw [hg] at h4
      cases h4
      subst h7
      exact ⟨b, c, h5, h6, h1, h2⟩
    · rw [hg] at h4; cases h4
theorem get_miss (hk : enterK d = 0) (hg : getF d.files p = none) : Calls Tryz.prog 249 #[.pointer (some ⟨g, 0, none⟩), .string p] w fun e w' => e = .returned (.tuple #[.slice none 0 0, .nilIface]) ∧ DiskAt w' g v (enterD d) ∧ Fr (· = g) w w' :=
  (get_any w g v d h p hc).mono fun e w' hp => by
    obtain ⟨h1, h2, ⟨h3, _⟩ | ⟨_, s', v', h4, _⟩ | ⟨_, _, h5⟩⟩ := hp
    · omega
    · rw [hg] at h4; cases h4
    · exact ⟨h5, h1, h2⟩
end
theorem unb_none {v : Value} {data : List UInt8} {w : World} (h : BytesAt w v data) (hn : data.length ≤ 1099511627776) (hu : unbundleOf data = none) :
    Calls Tryz.prog 94 #[v] w fun e w' => e = .returned (.tuple #[.slice none 0 0, .bool false]) ∧ Below w.heap.size w w' :=
  (funbundle_any v data w h hn).mono fun e w' hp => by
    obtain ⟨v', h1, h2, ⟨_, h4⟩ | ⟨ls, h3, _⟩⟩ := hp
    · rw [hu] at h1
      subst h4
      exact ⟨h1, h2⟩
    · rw [hu] at h3; cases h3
theorem unb_some {v : Value} {data : List UInt8} {ls : List (List UInt8)} {w : World} (h : BytesAt w v data) (hn : data.length ≤ 1099511627776) (hu : unbundleOf data = some ls) :
    Calls Tryz.prog 94 #[v] w fun e w' => ∃ b c, e = .returned (.tuple #[.slice (some ⟨b, 0, none⟩) ls.length c, .bool true]) ∧ OwnBss w' w.heap.size (.slice (some ⟨b, 0, none⟩) ls.length c) ls ∧ Below w.heap.size w w' :=
  (funbundle_any v data w h hn).mono fun e w' hp => by
    obtain ⟨v', h1, h2, ⟨h3, _⟩ | ⟨ls', h3, h4⟩⟩ := hp
    · rw [hu] at h3; cases h3
    · rw [hu] at h1 h3
      cases h3
      have hl := (unbundleOf_lens hu).1
      have h5 := h4
      obtain ⟨vs, h6, _⟩ := h4
      rcases h6.2 with ⟨_, h0⟩ | ⟨b, cap, cur, rfl, _⟩
      · omega
      · exact ⟨b, cap, h1, h5, h2⟩
set_option maxRecDepth 100000 in
theorem fat_any (t : Int) (i n : Nat) (w : World) (hi : 4 * i < n) (hn : n < 9223372036854775808) (hE : NumEnv w) :
    Calls Tryz.prog 123 #[.int .i64 t, .int .i64 i, .int .i64 n] w fun e w' => e = .returned (.tuple #[.string (sOf (nameOf t i ((min 4 (n - 4 * i) : Nat) : Int))), .int .i64 ((min 4 (n - 4 * i) : Nat) : Int)]) ∧ Below w.heap.size w w' := by
  have hw1 : wrap64 ((i : Int) * 4) = (i : Int) * 4 := by unfold wrap64; omega
  have hw2 : wrap64 ((n : Int) - (i : Int) * 4) = (n : Int) - (i : Int) * 4 := by unfold wrap64; omega
  obtain ⟨k, hk⟩ : ∃ k, k = min 4 (n - 4 * i) := ⟨_, rfl⟩
  have hm : min (4 : Int) ((n : Int) - (i : Int) * 4) = (k : Int) := by omega
  rw [← hk]
  have hcon := fname_any t i k w (by omega) hE
  clear hE hk hi
  go_enter Tryz.func123, Tryz.ntmps123
  go_wp2_with (go_at_call 127; refine hcon.mono ?_; rintro e w2 ⟨rfl, hb2⟩)
  go_ret2
  exact ⟨rfl, hb2⟩
end Go.Proofs.YtefccfakhgdfbabGreatDoor
end

section
namespace Go.Proofs.YtefccfakhgdfbabGreatDoor
open Go.RowKit
theorem neq_bnil (w : World) (a : Option Addr) (n c : Nat) : (binOp .neq 94 (.slice a n c) (.slice none 0 0)).run Tryz.prog w = .ok (.bool (!a.isNone)) w := run_neq_slice_nil_any w _ _ a n c 0 0 Tryz.underlying94
/-- A bundle's bytes with as many entries as there are to be. -/
def unbW (s : ByteArray) (k : Nat) : Option (List (List UInt8)) := (unbundleOf s.data.toList).bind fun e => if e.length = k then some e else none
theorem fr_below {g gd : Nat} {w w1 w2 : World} (hf : Fr (· = gd) w w1) (hb : Below w1.heap.size w1 w2) : Fr (· = gd) w w2 := hf.trans (Fr.ofBelow hb)
section
variable (w : World) (g gd : Nat) (v ve vl vp : Value) (vs : List Value) (d : Dk) (L : Lg) (h : LogIs w g gd ve vl vp vs L) (hD : DiskAt w gd v d) (p : ByteArray) (k : Nat) (hc : d.calls < 1099511627776)
include h hD hc
set_option maxRecDepth 100000 in
set_option maxHeartbeats 2000000 in
theorem bun_err (hk : 0 < enterK d) : Calls Tryz.prog 124 #[.pointer (some ⟨g, 0, none⟩), .string p, .int .i64 k] w fun e w' =>
    ∃ q n r, e = .returned (.tuple #[.slice none 0 0, .bool false, .iface 153 (.pointer (some ⟨r, 0, none⟩))]) ∧ w.heap.size ≤ q ∧ w.heap.size ≤ r ∧ w'.heap[q]? = some (.cells #[.int .i64 n] 366 (0, 0)) ∧
      w'.heap[r]? = some (.cells #[.string p, .iface 152 (.pointer (some ⟨q, 0, none⟩))] 155 (0, 0)) ∧ DiskAt w' gd v (enterD d) ∧ Fr (· = gd) w w' := by
  obtain ⟨⟨c0, _⟩, f0⟩ := h.heads
  have hcon := get_err (p := p) hD hc hk
  clear h hD
  go_enter Tryz.func124, Tryz.ntmps124
  go_wp2_with (first
    | (go_at_call 249; refine hcon.mono ?_; rintro e w2 ⟨q, n, rfl, hq, hh, hd2, hf2⟩; have hn := neq_nil w2 152 (.pointer (some ⟨q, 0, none⟩)); have HD := Lib.hid hd2; have HF := Lib.hid hf2; have HH := Lib.hid hh; clear hd2 hf2 hh)
    | (go_at_call 65; refine (at_any _ _ _ _).mono ?_; rintro e w3 ⟨u, rfl, ⟨r, rfl, hr, hhr⟩, hb3⟩; have HR := Lib.hid hhr; have HB := Lib.hid hb3; clear hhr hb3))
  go_returns
  exact ⟨_, _, _, rfl, hq, Nat.le_trans HF.out.size hr, (HB.out.block _ (lt_of_heap HH.out)).trans HH.out, HR.out, HD.out.below HB.out, HF.out.trans (Fr.ofBelow HB.out)⟩
set_option maxRecDepth 100000 in
set_option maxHeartbeats 2000000 in
theorem bun_miss (hk : enterK d = 0) (hg : getF d.files p = none) : Calls Tryz.prog 124 #[.pointer (some ⟨g, 0, none⟩), .string p, .int .i64 k] w fun e w' =>
    e = .returned (.tuple #[.slice none 0 0, .bool false, .nilIface]) ∧ DiskAt w' gd v (enterD d) ∧ Fr (· = gd) w w' := by
  obtain ⟨⟨c0, _⟩, f0⟩ := h.heads
  have hcon := get_miss (p := p) hD hc hk hg
  clear h hD hg
  go_enter Tryz.func124, Tryz.ntmps124
  go_wp2_with (first
    | (go_at_call 249; refine hcon.mono ?_; rintro e w2 ⟨rfl, hd2, hf2⟩; have hn := neq_nils w2; have HD := Lib.hid hd2; have HF := Lib.hid hf2; clear hd2 hf2)
    | (go_at_call 94; refine (unb_none (data := []) ⟨none, 0, rfl, Nat.le_refl _, fun j x hx => by simp at hx⟩ (by simp) unbundle_empty).mono ?_; rintro e w3 ⟨rfl, hb3⟩; have hq := neq_bnil w3 none 0 0; have HB := Lib.hid hb3; clear hb3))
  go_returns
  exact ⟨rfl, HD.out.below HB.out, HF.out.trans (Fr.ofBelow HB.out)⟩
set_option maxRecDepth 100000 in
set_option maxHeartbeats 2000000 in
theorem bun_bad {s : ByteArray} (hk : enterK d = 0) (hg : getF d.files p = some s) (hs : s.size ≤ 1048576) (hu : unbW s k = none) : Calls Tryz.prog 124 #[.pointer (some ⟨g, 0, none⟩), .string p, .int .i64 k] w fun e w' =>
    e = .returned (.tuple #[.slice none 0 0, .bool true, .nilIface]) ∧ DiskAt w' gd v (enterD d) ∧ Fr (· = gd) w w' := by
  obtain ⟨⟨c0, _⟩, f0⟩ := h.heads
  have hcon := get_hit (p := p) hD hc hk hg
  clear h hD hg
  cases hb : unbundleOf s.data.toList with
  | none =>
    have HU := Lib.hid hb
    clear hb hu
    go_enter Tryz.func124, Tryz.ntmps124
    go_wp2_with (first
      | (go_at_call 249; refine hcon.mono ?_; rintro e w2 ⟨b, c, rfl, ho, hd2, hf2⟩; have hn := neq_nils w2; have HO := Lib.hid ho.at; have HD := Lib.hid hd2; have HF := Lib.hid hf2; clear hd2 hf2 ho)
      | (go_at_call 94; refine (unb_none HO.out (by simpa using Nat.le_trans hs (by decide)) HU.out).mono ?_; rintro e w3 ⟨rfl, hb3⟩; have hq := neq_bnil w3 (some ⟨b, 0, none⟩) s.size c; have HB := Lib.hid hb3; clear hb3))
    go_returns
    exact ⟨rfl, HD.out.below HB.out, HF.out.trans (Fr.ofBelow HB.out)⟩
  | some ls =>
    have hne : ls.length ≠ k := by
      intro e
      unfold unbW at hu
      rw [hb, Option.bind_some, if_pos e] at hu
      cases hu
    have hnz : ((ls.length : Int) != (k : Int)) = true := by simp; omega
    have HU := Lib.hid hb
    clear hb hu hne
    go_enter Tryz.func124, Tryz.ntmps124
    go_wp2_with (first
      | (go_at_call 249; refine hcon.mono ?_; rintro e w2 ⟨b, c, rfl, ho, hd2, hf2⟩; have hn := neq_nils w2; have HO := Lib.hid ho.at; have HD := Lib.hid hd2; have HF := Lib.hid hf2; clear hd2 hf2 ho)
      | (go_at_call 94; refine (unb_some HO.out (by simpa using Nat.le_trans hs (by decide)) HU.out).mono ?_; rintro e w3 ⟨b3, c3, rfl, _, hb3⟩; have hq := neq_bnil w3 (some ⟨b, 0, none⟩) s.size c; have HB := Lib.hid hb3; clear hb3))
    go_returns
    exact ⟨rfl, HD.out.below HB.out, HF.out.trans (Fr.ofBelow HB.out)⟩
set_option maxRecDepth 100000 in
set_option maxHeartbeats 2000000 in
theorem bun_good {s : ByteArray} {ls : List (List UInt8)} (hk : enterK d = 0) (hg : getF d.files p = some s) (hs : s.size ≤ 1048576) (hu : unbW s k = some ls) : Calls Tryz.prog 124 #[.pointer (some ⟨g, 0, none⟩), .string p, .int .i64 k] w fun e w' =>
    ∃ b c, e = .returned (.tuple #[.slice (some ⟨b, 0, none⟩) ls.length c, .bool true, .nilIface]) ∧ OwnBss w' w.heap.size (.slice (some ⟨b, 0, none⟩) ls.length c) ls ∧ DiskAt w' gd v (enterD d) ∧ Fr (· = gd) w w' := by
  obtain ⟨⟨c0, _⟩, f0⟩ := h.heads
  have hcon := get_hit (p := p) hD hc hk hg
  clear h hD hg
  obtain ⟨hb, hl⟩ : unbundleOf s.data.toList = some ls ∧ ls.length = k := by
    unfold unbW at hu
    cases hb : unbundleOf s.data.toList with
    | none => rw [hb] at hu; cases hu
    | some ls' =>
      rw [hb, Option.bind_some] at hu
      split at hu
      · rename_i e; cases hu; exact ⟨rfl, e⟩
      · cases hu
  have hnz : ((ls.length : Int) != (k : Int)) = false := by simp; omega
  have HU := Lib.hid hb
  clear hb hu hl
  go_enter Tryz.func124, Tryz.ntmps124
  go_wp2_with (first
    | (go_at_call 249; refine hcon.mono ?_; rintro e w2 ⟨b, c, rfl, ho, hd2, hf2⟩; have hn := neq_nils w2; have HO := Lib.hid ho.at; have HD := Lib.hid hd2; have HF := Lib.hid hf2; clear hd2 hf2 ho)
    | (go_at_call 94; refine (unb_some HO.out (by simpa using Nat.le_trans hs (by decide)) HU.out).mono ?_; rintro e w3 ⟨b3, c3, rfl, ho3, hb3⟩; have hq := neq_bnil w3 (some ⟨b, 0, none⟩) s.size c; have HO3 := Lib.hid ho3; have HB := Lib.hid hb3; clear hb3 ho3))
  go_returns
  refine ⟨_, _, rfl, ?_, HD.out.below HB.out, HF.out.trans (Fr.ofBelow HB.out)⟩
  exact HO3.out.mono HF.out.size
end
end Go.Proofs.YtefccfakhgdfbabGreatDoor
end

section
namespace Go.Proofs.YtefccfakhgdfbabGreatDoor
open Go.RowKit
/-- A stretch that writes into no block of a Log but one row's. -/
theorem LogIs.rest {w w1 : World} {g gd : Nat} {ve vl vp : Value} {vs : List Value} {L : Lg} (h : LogIs w g gd ve vl vp vs L) {T : Nat → Prop} (hf : Fr T w w1) (t : TypeId) (hT : ∀ k C s f, T k → w.heap[k]? = some (.cells C s f) → s = t) :
    (t ≠ 138 → w1.heap[g]? = w.heap[g]?) ∧ (t ≠ 94 → t ≠ 5 → OwnBss w1 0 ve L.entries) ∧ (t ≠ 104 → w1.ownsRow 0 104 1 vl L.levels.length vs) ∧
      (t ≠ 109 → ∀ (j : Nat) (v : Value) (r : List Hsh), vs[j]? = some v → L.levels[j]? = some r → OwnHs w1 0 v r) ∧ (t ≠ 3 → w1.ownsRow 0 3 1 vp L.put.length (L.put.map fun (n : Nat) => .int .i64 (n : Int))) := by
  have key : ∀ {k : Nat} {C : Array Value} {s : TypeId} {f : Nat × Nat}, w.heap[k]? = some (.cells C s f) → t ≠ s → ¬ T k := fun hk hs hd => hs (hT _ _ _ _ hd hk).symm
  refine ⟨fun ht => hf.block g (lt_of_heap h.cells) (key h.cells ht), fun ht ht2 => ?_, fun ht => ?_, fun ht j v r hv hr => ?_, fun ht => ?_⟩
  · refine h.ents.fr hf (fun k hk => ?_) (fun k C fz hk => key hk ht2)
    obtain ⟨vs', h1, _⟩ := h.ents
    obtain ⟨C, hC⟩ := ownBlock_type h1 hk
    exact key hC ht
  · refine ownsRow_fr h.rows hf fun k hk => ?_
    obtain ⟨C, hC⟩ := ownBlock_type h.rows hk
    exact key hC ht
  · refine ownsRow_fr (h.each j v r hv hr) hf fun k hk => ?_
    obtain ⟨C, hC⟩ := ownBlock_type (h.each j v r hv hr) hk
    exact key hC ht
  · refine ownsRow_fr h.puts hf fun k hk => ?_
    obtain ⟨C, hC⟩ := ownBlock_type h.puts hk
    exact key hC ht
/-- A store into the Log's own block: what rests as it is. -/
theorem OwnBss.setLog {w : World} {g i : Nat} {C : Array Value} {f : Nat × Nat} (hg : w.heap[g]? = some (.cells C 138 f)) {u v : Value} {ls : List (List UInt8)} (h : OwnBss w 0 v ls) : OwnBss (w.setCell ⟨g, i, none⟩ u) 0 v ls := by
  refine h.fr (Fr.set1 w g i u) (fun k hk e => ?_) (fun k C fz hk e => heap_ne hk hg (by decide) e)
  obtain ⟨vs', h1, _⟩ := h
  obtain ⟨C, hC⟩ := ownBlock_type h1 hk
  exact heap_ne hC hg (by decide) e
theorem ownsRow_setLog {w : World} {g i : Nat} {C : Array Value} {f : Nat × Nat} (hg : w.heap[g]? = some (.cells C 138 f)) {u v : Value} {base : Nat} {e : TypeId} {size n : Nat} {xs : List Value} (h : w.ownsRow base e size v n xs) (he : e ≠ 138) : (w.setCell ⟨g, i, none⟩ u).ownsRow base e size v n xs :=
  ownsRow_fr h (Fr.set1 w g i u) fun k hk ee => by
    obtain ⟨C, hC⟩ := ownBlock_type h hk
    exact heap_ne hC hg he ee
/-- Other entries. -/
theorem LogIs.setEnts {w w1 : World} {g gd : Nat} {ve vl vp ve' : Value} {vs : List Value} {L : Lg} {es : List (List UInt8)} (h : LogIs w g gd ve vl vp vs L) (hf : Fr (fun k => ve.ownBlock = some k) w w1) (h2 : OwnBss w1 0 ve' es) (hm : Moved w ve ve') :
    LogIs (w1.setCell ⟨g, 2, none⟩ ve') g gd ve' vl vp vs { L with entries := es } ∧ Fr (LogS g ve vl vp vs) w (w1.setCell ⟨g, 2, none⟩ ve') ∧ Sub w (LogS g ve vl vp vs) (LogS g ve' vl vp vs) := by
  have hT : ∀ k C s f, ve.ownBlock = some k → w.heap[k]? = some (.cells C s f) → s = 94 := fun k C s f hk hC => by
    obtain ⟨vs', h1, _⟩ := h.ents
    obtain ⟨C', hC'⟩ := ownBlock_type h1 hk
    rw [hC] at hC'
    cases hC'
    rfl
  obtain ⟨a1, _, a3, a4, a5⟩ := h.rest hf 94 hT
  have hg1 := (a1 (by decide)).trans h.cells
  refine ⟨⟨(heap_setCell hg1 _).trans (by simp [lgCells]), h2.setLog hg1, ownsRow_setLog hg1 (a3 (by decide)) (by decide), fun j v r hv hr => ownsRow_setLog hg1 (a4 (by decide) j v r hv hr) (by decide), h.apart, ownsRow_setLog hg1 (a5 (by decide)) (by decide)⟩,
    (hf.weak fun k _ hk => .inr (.inl hk)).trans ((Fr.set1 w1 g 2 ve').weak fun k _ hk => .inl hk), fun k hk => ?_⟩
  rcases hk with hk | hk | hk
  · exact .inl (.inl hk)
  · exact (hm k hk).imp (fun h => .inr (.inl h)) id
  · exact .inl (.inr (.inr hk))
/-- Other marks of what is put. -/
theorem LogIs.setPuts {w w1 : World} {g gd : Nat} {ve vl vp vp' : Value} {vs : List Value} {L : Lg} {ps : List Nat} (h : LogIs w g gd ve vl vp vs L) (hf : Fr (fun k => vp.ownBlock = some k) w w1) (h2 : w1.ownsRow 0 3 1 vp' ps.length (ps.map fun (n : Nat) => .int .i64 (n : Int))) (hm : Moved w vp vp') :
    LogIs (w1.setCell ⟨g, 4, none⟩ vp') g gd ve vl vp' vs { L with put := ps } ∧ Fr (LogS g ve vl vp vs) w (w1.setCell ⟨g, 4, none⟩ vp') ∧ Sub w (LogS g ve vl vp vs) (LogS g ve vl vp' vs) := by
  have hT : ∀ k C s f, vp.ownBlock = some k → w.heap[k]? = some (.cells C s f) → s = 3 := fun k C s f hk hC => by
    obtain ⟨C', hC'⟩ := ownBlock_type h.puts hk
    rw [hC] at hC'
    cases hC'
    rfl
  obtain ⟨a1, a2, a3, a4, _⟩ := h.rest hf 3 hT
  have hg1 := (a1 (by decide)).trans h.cells
  refine ⟨⟨(heap_setCell hg1 _).trans (by simp [lgCells]), (a2 (by decide) (by decide)).setLog hg1, ownsRow_setLog hg1 (a3 (by decide)) (by decide), fun j v r hv hr => ownsRow_setLog hg1 (a4 (by decide) j v r hv hr) (by decide), h.apart, ownsRow_setLog hg1 h2 (by decide)⟩,
    (hf.weak fun k _ hk => .inr (.inr (.inr (.inl hk)))).trans ((Fr.set1 w1 g 4 vp').weak fun k _ hk => .inl hk), fun k hk => ?_⟩
  rcases hk with hk | hk | hk | hk | hk
  · exact .inl (.inl hk)
  · exact .inl (.inr (.inl hk))
  · exact .inl (.inr (.inr (.inl hk)))
  · exact (hm k hk).imp (fun h => .inr (.inr (.inr (.inl h)))) id
  · exact .inl (.inr (.inr (.inr (.inr hk))))
/-- The mark that it has failed. -/
theorem LogIs.fail {w : World} {g gd : Nat} {ve vl vp : Value} {vs : List Value} {L : Lg} (h : LogIs w g gd ve vl vp vs L) (b : Bool) :
    LogIs (w.setCell ⟨g, 5, none⟩ (.bool b)) g gd ve vl vp vs { L with failed := b } ∧ Fr (LogS g ve vl vp vs) w (w.setCell ⟨g, 5, none⟩ (.bool b)) := by
  have hg1 := h.cells
  exact ⟨⟨(heap_setCell hg1 _).trans (by simp [lgCells]), h.ents.setLog hg1, ownsRow_setLog hg1 h.rows (by decide), fun j v r hv hr => ownsRow_setLog hg1 (h.each j v r hv hr) (by decide), h.apart, ownsRow_setLog hg1 h.puts (by decide)⟩, (Fr.set1 w g 5 (.bool b)).weak fun k _ hk => .inl hk⟩
/-- A mark of what is put, in its place. -/
theorem LogIs.setPut {w : World} {g gd : Nat} {ve vl vp : Value} {vs : List Value} {L : Lg} (h : LogIs w g gd ve vl vp vs L) {bp cp : Nat} (hvp : vp = .slice (some ⟨bp, 0, none⟩) L.put.length cp) (n x : Nat) :
    LogIs (w.setCell ⟨bp, n, none⟩ (.int .i64 x)) g gd ve vl vp vs { L with put := L.put.set n x } ∧ Fr (LogS g ve vl vp vs) w (w.setCell ⟨bp, n, none⟩ (.int .i64 x)) := by
  have hk : vp.ownBlock = some bp := by rw [hvp]; rfl
  obtain ⟨C, hC⟩ := ownBlock_type h.puts hk
  have hf := Fr.set1 w bp n (.int .i64 (x : Int))
  obtain ⟨a1, a2, a3, a4, _⟩ := h.rest hf 3 fun k C' s f hk' hC' => by
    subst hk'
    rw [hC] at hC'
    cases hC'
    rfl
  refine ⟨⟨(a1 (by decide)).trans h.cells, a2 (by decide) (by decide), a3 (by decide), a4 (by decide), h.apart, ?_⟩, hf.weak fun k _ hk => .inr (.inr (.inr (.inl (by rw [hvp, hk]; rfl))))⟩
  rcases h.puts.2 with ⟨e, _⟩ | ⟨b, cap, cur, e, hb0, hb, r1, r2, r3, r4⟩
  · rw [hvp] at e; cases e
  · rw [hvp] at e
    cases e
    refine ⟨by simp, .inr ⟨bp, cp, _, by simpa using hvp, Nat.zero_le _, heap_setCell hb _, by simpa using r1, r2, by simpa using r3, ?_⟩⟩
    rw [Array.toList_setIfInBounds, List.take_set]
    simp only [List.length_set]
    rw [r4, List.map_set]
/-- Entries behind those that there are: the row. -/
theorem OwnBss.push {w w1 : World} {v v' : Value} {n m : Nat} {ls ls' : List (List UInt8)} {vs us : List Value} (hrow : w.ownsRow 0 94 1 v n vs) (h2 : ∀ (j : Nat) (u : Value) (l : List UInt8), vs[j]? = some u → ls[j]? = some l → OwnBytes w 0 u l) (hn : n = ls.length)
    (hf : Fr (fun k => v.ownBlock = some k) w w1) (hr : w1.ownsRow 0 94 1 v' m (vs ++ us)) (hm : m = ls.length + ls'.length) (hb : ∀ (j : Nat) (u : Value) (l : List UInt8), us[j]? = some u → ls'[j]? = some l → OwnBytes w 0 u l) : OwnBss w1 0 v' (ls ++ ls') := by
  have hl : vs.length = n := by simpa using hrow.1
  have hno : ∀ (k : Nat) (C : Array Value) (fz : Nat × Nat), w.heap[k]? = some (Obj.cells C 5 fz) → w1.heap[k]? = w.heap[k]? := fun k C fz hk => hf.block k (lt_of_heap hk) fun e => by
    obtain ⟨C', hC'⟩ := ownBlock_type hrow e
    exact heap_ne hk hC' (by decide) rfl
  refine ⟨vs ++ us, by rw [List.length_append, ← hm]; exact hr, fun j u l hu' hl' => ?_⟩
  by_cases hj : j < vs.length
  · rw [List.getElem?_append_left hj] at hu'
    rw [List.getElem?_append_left (by omega)] at hl'
    exact (h2 j u l hu' hl').same hno
  · rw [List.getElem?_append_right (by omega)] at hu' hl'
    rw [hl, hn] at hu'
    exact (hb _ u l hu' hl').same hno
end Go.Proofs.YtefccfakhgdfbabGreatDoor
end
