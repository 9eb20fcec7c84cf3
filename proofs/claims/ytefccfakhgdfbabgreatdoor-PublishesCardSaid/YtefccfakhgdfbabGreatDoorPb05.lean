/-
  The walks of tileslaw.eights, plain.hashes.
  tiles.Log: what a publisher's block holds; Size, at. Conditions: the block is a Log's, its rows of their own.
  Names of files in plain terms: P8; numerals, and where texts are cut. No program is used.
-/
import Derived.Test.YtefccfakhgdfbabGreatDoorPb04
import Derived.Great.BuildSlice
import Derived.Test.YtefccfakhgdfbabGreatDoorPb03
import Derived.Lib.IndexMore
import Derived.Lib.AtoiAll
import Derived.Lib.Strings
set_option linter.unusedVariables false
set_option linter.unusedSimpArgs false
section
namespace Go.Proofs.YtefccfakhgdfbabGreatDoor
open Go.RowKit
/-- A slice of hashes. -/
def HashesAt (w : World) (v : Value) (hs : List Hsh) : Prop := Cells w v hs.length (hs.flatMap fun h => (h8 h).toList)
/-- A row of hashes of the call's own. -/
def OwnHs (w : World) (base : Nat) (v : Value) (hs : List Hsh) : Prop := w.ownsRow base 109 8 v hs.length (hs.flatMap fun h => (h8 h).toList)
theorem OwnHs.at {w : World} {base : Nat} {v : Value} {hs : List Hsh} (h : OwnHs w base v hs) : HashesAt w v hs := ownsRow_cells h
theorem info_str : (Tryz.prog.info? 9).map (fun i => (i.zero, i.size, i.bytes)) = some (some (.string ⟨#[]⟩), 1, 16) := by kernel_rfl
theorem info_hash : (Tryz.prog.info? 109).map (fun i => (i.zero, i.size, i.bytes)) = some (some (.agg #[.int .u8 0, .int .u8 0, .int .u8 0, .int .u8 0, .int .u8 0, .int .u8 0, .int .u8 0, .int .u8 0]), 8, 8) := by kernel_rfl
def eightsOf (ss : List ByteArray) : List Hsh := ss.map fun s => eightOf s.data.toList
theorem eightsOf_succ {ss : List ByteArray} {k : Nat} {s : ByteArray} (h : ss[k]? = some s) : eightsOf (ss.take (k + 1)) = eightsOf (ss.take k) ++ [eightOf s.data.toList] := by
  unfold eightsOf
  rw [List.take_add_one, h]; simp
theorem eightsOf_len (ss : List ByteArray) (k : Nat) : (eightsOf (ss.take k)).length ≤ k := by simp [eightsOf]; omega
theorem fill8 (h : Hsh) (sz : Nat) (hs : sz = 8) (Z : Array Value) (hZ : Z.size = 8) : Instr.fill (fun i => some (i * sz, sz)) Z [(0, .agg (h8 h))] = some (h8 h) := by
  subst hs
  obtain ⟨l⟩ := Z
  match l, hZ with
  | [a0, a1, a2, a3, a4, a5, a6, a7], _ =>
    rw [← h8_fold h]
    simp [Instr.fill, Value.cells]
theorem wpList_bs8 {P : Program} {ops : Array Oper} {rest : List Oper} {o : Oper} {a : Act} {Q : Exit → Act → World → Prop} {w : World} (hg : o.guard = none) (t : TypeId) (x : Operand) (ho : o.op = .buildSlice t 1 #[(0, x)])
    (i : TypeInfo) (hu : P.underlying t = some (.slice 109)) (hi : P.info? 109 = some i) (hz : i.zero = some (.agg (h8 zero8))) (hsize : i.size = 8) (h : Hsh) (hx : a.eval x = .agg (h8 h))
    (hk : wpList P ops Q rest (a.put o.dst (.slice (some ⟨w.heap.size, 0, none⟩) 1 1)) (w.alloc (.cells (h8 h) 109))) : wpList P ops Q (o :: rest) a w :=
  wpList_plain hg fun _ hK => wp_buildSlice t 109 1 _ ho (h8 h) i _ hu hi hz (by omega) (by omega) (by
    simp only [List.map_toArray, List.map_cons, List.map_nil, hx]
    exact fill8 h _ hsize _ (by simp [hsize])) (hK _ _ hk)
set_option maxHeartbeats 400000 in
theorem hashes_any (v : Value) (ss : List ByteArray) (w : World) (h : StrsAt w v ss) (hn : ss.length ≤ 1048576) (hm : ∀ s ∈ ss, s.size ≤ 9223372036854775807) :
    Calls Tryz.prog 105 #[v] w fun e w' => ∃ v', e = .returned v' ∧ OwnHs w' w.heap.size v' (eightsOf ss) ∧ Below w.heap.size w w' := by
  obtain ⟨a, c, rfl, hcap, hc⟩ := h
  have HC := Lib.hid hc
  have HM := Lib.hid hm
  clear hc hm
  obtain ⟨i0, hi, hz0, hz1, hz2⟩ := info_parts info_hash
  rw [← h8_zero] at hz0
  have HZ := Lib.hid hz0
  clear hz0
  go_enter Tryz.func105, Tryz.ntmps105
  go_wp2
  go_loopw [3, 8] (fun v i wr => ∃ k : Nat, k ≤ ss.length ∧ i = .int .i64 k ∧ OwnHs wr w.heap.size v (eightsOf (ss.take k)) ∧ Below w.heap.size w wr) (fun _ i _ => ss.length - (intOf i).toNat)
  case atStart => exact ⟨0, by omega, rfl, World.ownsRow_nil _ _ _ _, Below.refl _ _⟩
  case round =>
    obtain ⟨k, hk, rfl, hown, hbel⟩ := hrel
    by_cases hlt : k < ss.length
    · obtain ⟨s, hs⟩ : ∃ s, ss[k]? = some s := ⟨_, List.getElem?_eq_getElem hlt⟩
      obtain ⟨b, off, rfl, hcell0⟩ := HC.out k (.string s) (by simp [hs])
      have hcell : wr.cell? ⟨b, off + k, none⟩ = some (.string s) := (hbel.cell (p := ⟨b, off + k, none⟩) (cell_lt hcell0)).trans hcell0
      have hsm := HM.out s (List.mem_of_getElem? hs)
      have hlen := eightsOf_len ss k
      have HK := Lib.hid hs
      unfold OwnHs at hown
      have HR := Lib.hid hown
      have HB := Lib.hid hbel
      clear hs hcell0 hown hbel
      go_wp2_with (first | (go_at_call 104; refine (hash_any s _ hsm).mono ?_; rintro e w1 ⟨rfl, hb1⟩; have HB1 := Lib.hid hb1; clear hb1) | (refine wpList_bs8 rfl 104 _ rfl i0 Tryz.underlying104 hi HZ.out hz1 _ rfl ?_) | (at_builtin; (refine wpList_app8 rfl _ _ 104 rfl w.heap.size i0 Tryz.underlying104 hi HZ.out hz1 hz2 _ _ rfl (ownsRow_below HR.out HB1.out) _ rfl (by omega) (Nat.le_trans HB.out.size HB1.out.size) ?_); intro v2 w2 hr2 hg2 hne2; have HR2 := Lib.hid hr2; have HG2 := Lib.hid hg2; clear hr2 hg2 hne2))
      go_roundw
      case rel =>
        refine ⟨k + 1, by omega, by go_num, ?_, ?_⟩
        · rw [eightsOf_succ HK.out]
          exact HR2.out
        · exact ((HB.out.trans (HB1.out.mono HB.out.size)).grown HG2.out (Nat.le_trans HB.out.size HB1.out.size) (fun j hj => (HR.out.lt j hj).1))
      case measure => simp [intOf]; omega
    · have ht : ss.take k = ss := List.take_of_length_le (by omega)
      rw [ht] at hown
      go_wp2
      go_ret
      exact ⟨_, rfl, hown, hbel⟩
end Go.Proofs.YtefccfakhgdfbabGreatDoor
end

section
namespace Go.Proofs.YtefccfakhgdfbabGreatDoor
open Go.RowKit
def lgCells (gd : Nat) (ve vl vp : Value) (L : Lg) : Array Value := #[.iface 25 (.pointer (some ⟨gd, 0, none⟩)), .string L.key, ve, vl, vp, .bool L.failed]
/-- A publisher's own blocks. -/
def LogS (g : Nat) (ve vl vp : Value) (vs : List Value) (k : Nat) : Prop := k = g ∨ ve.ownBlock = some k ∨ vl.ownBlock = some k ∨ vp.ownBlock = some k ∨ ∃ v ∈ vs, v.ownBlock = some k
structure LogIs (w : World) (g gd : Nat) (ve vl vp : Value) (vs : List Value) (L : Lg) : Prop where
  cells : w.heap[g]? = some (.cells (lgCells gd ve vl vp L) 138 (0, 0))
  ents : OwnBss w 0 ve L.entries
  rows : w.ownsRow 0 104 1 vl L.levels.length vs
  each : ∀ (j : Nat) (v : Value) (r : List Hsh), vs[j]? = some v → L.levels[j]? = some r → OwnHs w 0 v r
  apart : ∀ (i j : Nat) (a b : Value) (k : Nat), vs[i]? = some a → vs[j]? = some b → a.ownBlock = some k → b.ownBlock = some k → i = j
  puts : w.ownsRow 0 3 1 vp L.put.length (L.put.map fun (n : Nat) => .int .i64 (n : Int))
/-- No block of bytes is among T. -/
def NoBytes (w : World) (T : Nat → Prop) : Prop := ∀ k C fz, w.heap[k]? = some (.cells C 5 fz) → ¬ T k
theorem ownBlock_type {w : World} {base : Nat} {e : TypeId} {size : Nat} {v : Value} {n : Nat} {xs : List Value} (h : w.ownsRow base e size v n xs) {k : Nat} (hk : v.ownBlock = some k) : ∃ C, w.heap[k]? = some (.cells C e (0, 0)) := by
  rcases h.2 with ⟨rfl, _⟩ | ⟨b, cap, cur, rfl, _, hb, _⟩
  · simp [Value.ownBlock] at hk
  · simp [Value.ownBlock] at hk
    subst hk
    exact ⟨cur, hb⟩
theorem OwnBss.fr {T : Nat → Prop} {w w' : World} {base : Nat} {v : Value} {ls : List (List UInt8)} (h : OwnBss w base v ls) (hf : Fr T w w') (hT : ∀ k, v.ownBlock = some k → ¬ T k) (hn : NoBytes w T) : OwnBss w' base v ls := by
  obtain ⟨vs, h1, h2⟩ := h
  exact ⟨vs, ownsRow_fr h1 hf hT, fun j u l hu hl => (h2 j u l hu hl).same fun k C fz hk => hf.block k (lt_of_heap hk) (hn k C fz hk)⟩
theorem LogIs.fr {T : Nat → Prop} {w w' : World} {g gd : Nat} {ve vl vp : Value} {vs : List Value} {L : Lg} (h : LogIs w g gd ve vl vp vs L) (hf : Fr T w w') (hT : ∀ k, LogS g ve vl vp vs k → ¬ T k) (hn : NoBytes w T) : LogIs w' g gd ve vl vp vs L where
  cells := hf.heap h.cells (hT g (.inl rfl))
  ents := h.ents.fr hf (fun k hk => hT k (.inr (.inl hk))) hn
  rows := ownsRow_fr h.rows hf fun k hk => hT k (.inr (.inr (.inl hk)))
  each j v r hv hr := ownsRow_fr (h.each j v r hv hr) hf fun k hk => hT k (.inr (.inr (.inr (.inr ⟨v, List.mem_of_getElem? hv, hk⟩))))
  apart := h.apart
  puts := ownsRow_fr h.puts hf fun k hk => hT k (.inr (.inr (.inr (.inl hk))))
theorem LogIs.below {w w' : World} {g gd : Nat} {ve vl vp : Value} {vs : List Value} {L : Lg} (h : LogIs w g gd ve vl vp vs L) (hb : Below w.heap.size w w') : LogIs w' g gd ve vl vp vs L :=
  h.fr (T := fun _ => False) (Fr.ofBelow hb) (fun _ _ h => h) (fun _ _ _ _ h => h)
/-- Of what kinds a publisher's blocks are. -/
theorem LogIs.kinds {w : World} {g gd : Nat} {ve vl vp : Value} {vs : List Value} {L : Lg} (h : LogIs w g gd ve vl vp vs L) {k : Nat} (hk : LogS g ve vl vp vs k) :
    ∃ C t, w.heap[k]? = some (.cells C t (0, 0)) ∧ (t = 138 ∨ t = 94 ∨ t = 104 ∨ t = 3 ∨ t = 109) := by
  rcases hk with rfl | hk | hk | hk | ⟨v, hv, hk⟩
  · exact ⟨_, _, h.cells, .inl rfl⟩
  · obtain ⟨vs', h1, _⟩ := h.ents
    obtain ⟨C, hC⟩ := ownBlock_type h1 hk
    exact ⟨C, _, hC, .inr (.inl rfl)⟩
  · obtain ⟨C, hC⟩ := ownBlock_type h.rows hk
    exact ⟨C, _, hC, .inr (.inr (.inl rfl))⟩
  · obtain ⟨C, hC⟩ := ownBlock_type h.puts hk
    exact ⟨C, _, hC, .inr (.inr (.inr (.inl rfl)))⟩
  · obtain ⟨j, hj⟩ := List.mem_iff_getElem?.1 hv
    have hl : vs.length = L.levels.length := by simpa using h.rows.1
    have hjl : j < L.levels.length := by have := (List.getElem?_eq_some_iff.1 hj).1; omega
    obtain ⟨C, hC⟩ := ownBlock_type (h.each j v _ hj (List.getElem?_eq_getElem hjl)) hk
    exact ⟨C, _, hC, .inr (.inr (.inr (.inr rfl)))⟩
theorem LogIs.noBytes {w : World} {g gd : Nat} {ve vl vp : Value} {vs : List Value} {L : Lg} (h : LogIs w g gd ve vl vp vs L) : NoBytes w (LogS g ve vl vp vs) := by
  intro k C fz hk hs
  obtain ⟨C', t, h1, h2⟩ := h.kinds hs
  rw [hk] at h1
  cases h1
  revert h2
  decide
theorem DiskAt.noBytes {w : World} {g : Nat} {v : Value} {d : Dk} (h : DiskAt w g v d) : NoBytes w (dkS g v) := by
  intro k C fz hk hs
  rcases hs with rfl | hs
  · have := h.1
    rw [hk] at this
    simp at this
  · obtain ⟨C', h1⟩ := ownBlock_type h.2 hs
    rw [hk] at h1
    simp at h1
theorem LogIs.apartDisk {w : World} {g gd g' : Nat} {ve vl vp v : Value} {vs : List Value} {L : Lg} {d : Dk} (h : LogIs w g gd ve vl vp vs L) (hd : DiskAt w g' v d) : ∀ k, LogS g ve vl vp vs k → ¬ dkS g' v k := by
  intro k hk hs
  obtain ⟨C', t, h1, h2⟩ := h.kinds hk
  rcases hs with rfl | hs
  · rw [hd.1] at h1
    cases h1
    revert h2
    decide
  · obtain ⟨C, h3⟩ := ownBlock_type hd.2 hs
    rw [h3] at h1
    cases h1
    revert h2
    decide
theorem LogIs.heads {w : World} {g gd : Nat} {ve vl vp : Value} {vs : List Value} {L : Lg} (h : LogIs w g gd ve vl vp vs L) :
    (w.cell? ⟨g, 0, none⟩ = some (.iface 25 (.pointer (some ⟨gd, 0, none⟩))) ∧ w.cell? ⟨g, 1, none⟩ = some (.string L.key) ∧ w.cell? ⟨g, 2, none⟩ = some ve ∧ w.cell? ⟨g, 3, none⟩ = some vl ∧ w.cell? ⟨g, 4, none⟩ = some vp ∧ w.cell? ⟨g, 5, none⟩ = some (.bool L.failed)) ∧ ∀ i, w.frozen? ⟨g, i, none⟩ = false :=
  ⟨⟨cell_heap h.cells 0 rfl, cell_heap h.cells 1 rfl, cell_heap h.cells 2 rfl, cell_heap h.cells 3 rfl, cell_heap h.cells 4 rfl, cell_heap h.cells 5 rfl⟩, fun i => frozen_heap h.cells i⟩
theorem lgSize_any (w : World) (g gd : Nat) (ve vl vp : Value) (vs : List Value) (L : Lg) (h : LogIs w g gd ve vl vp vs L) :
    Calls Tryz.prog 38 #[.pointer (some ⟨g, 0, none⟩)] w fun e w' => e = .returned (.int .i64 L.entries.length) ∧ w = w' := by
  obtain ⟨⟨_, _, c2, _⟩, _⟩ := h.heads
  obtain ⟨vs', h1, _⟩ := h.ents
  obtain ⟨a, c, rfl⟩ := own_any h1
  clear h
  go_enter Tryz.func38, Tryz.ntmps38
  go_wp2
  go_ret
  exact ⟨rfl, rfl⟩
/-- An error with a path. -/
def PathErr (w : World) (base : Nat) (p : ByteArray) (e u : Value) : Prop := ∃ q, u = .iface 153 (.pointer (some ⟨q, 0, none⟩)) ∧ base ≤ q ∧ w.heap[q]? = some (.cells #[.string p, e] 155 (0, 0))
theorem at_any (w : World) (p : ByteArray) (t : TypeId) (x : Value) :
    Calls Tryz.prog 65 #[.string p, .iface t x] w fun e w' => ∃ u, e = .returned u ∧ PathErr w' w.heap.size p (.iface t x) u ∧ Below w.heap.size w w' := by
  go_enter Tryz.func65, Tryz.ntmps65
  go_wp2
  go_ret
  exact ⟨_, rfl, ⟨w.heap.size, rfl, Nat.le_refl _, heap_alloc_new w _⟩, below_alloc w _⟩
end Go.Proofs.YtefccfakhgdfbabGreatDoor
end

section
namespace Go.Proofs.YtefccfakhgdfbabGreatDoor
open Go.RowKit
abbrev dec (n : Nat) : List UInt8 := Lib.decDigits n
/-- "entries/", "tile/", "/", ".p/". -/
def kE : List UInt8 := [101, 110, 116, 114, 105, 101, 115, 47]
def kT : List UInt8 := [116, 105, 108, 101, 47]
def kP : List UInt8 := [46, 112, 47]
/-- May there be such a file? -/
def nameOk (level index width : Int) : Prop := -1 ≤ level ∧ level ≤ 20 ∧ 0 ≤ index ∧ 1 ≤ width ∧ width ≤ 4
instance (level index width : Int) : Decidable (nameOk level index width) := by unfold nameOk; infer_instance
def nameBody (level index width : Int) : List UInt8 :=
  (if 0 ≤ level then kT ++ dec level.toNat ++ [47] else kE) ++ dec index.toNat ++ (if width < 4 then kP ++ dec width.toNat else [])
/-- P8: the path; none: no bytes. -/
def nameOf (level index width : Int) : List UInt8 := if nameOk level index width then nameBody level index width else []
def isDig (c : UInt8) : Prop := 48 ≤ c.toNat ∧ c.toNat ≤ 57
theorem dec_dig (n : Nat) : ∀ c ∈ dec n, isDig c := by
  induction n using Nat.strongRecOn with
  | _ n ih =>
    intro c hc
    unfold dec at hc
    rw [Lib.decDigits] at hc
    split at hc
    · simp only [List.mem_singleton] at hc
      subst hc
      unfold isDig
      rw [UInt8.toNat_ofNat']
      omega
    · rw [List.mem_append] at hc
      rcases hc with hc | hc
      · exact ih (n / 10) (by omega) c hc
      · simp only [List.mem_singleton] at hc
        subst hc
        unfold isDig
        rw [UInt8.toNat_ofNat']
        omega
theorem dec_ne (n : Nat) : dec n ≠ [] := by
  unfold dec
  rw [Lib.decDigits]
  split <;> simp
def valD (acc : Nat) (l : List UInt8) : Nat := l.foldl (fun a c => a * 10 + (c.toNat - 48)) acc
theorem valD_append (acc : Nat) (a b : List UInt8) : valD acc (a ++ b) = valD (valD acc a) b := by simp [valD]
theorem valD_le (l : List UInt8) : ∀ acc, acc ≤ valD acc l := by
  induction l with
  | nil => intro acc; exact Nat.le_refl _
  | cons c l ih =>
    intro acc
    have := ih (acc * 10 + (c.toNat - 48))
    show acc ≤ valD (acc * 10 + (c.toNat - 48)) l
    omega
theorem valD_dec (n : Nat) : valD 0 (dec n) = n := by
  induction n using Nat.strongRecOn with
  | _ n ih =>
    unfold dec
    rw [Lib.decDigits]
    split
    · simp only [valD, List.foldl]
      rw [UInt8.toNat_ofNat']
      omega
    · rw [valD_append]
      have := ih (n / 10) (by omega)
      unfold dec at this
      rw [this]
      simp only [valD, List.foldl]
      rw [UInt8.toNat_ofNat']
      omega
theorem parseUint10_val : ∀ (l : List UInt8) (acc : Nat), (∀ c ∈ l, isDig c) → valD acc l < 18446744073709551616 → Lib.parseUint10 acc l = .ok (valD acc l)
  | [], acc, _, _ => rfl
  | c :: l, acc, hd, hv => by
    have h1 : isDig c := hd c (by simp)
    have h2 := valD_le l (acc * 10 + (c.toNat - 48))
    have h3 : valD acc (c :: l) = valD (acc * 10 + (c.toNat - 48)) l := rfl
    rw [h3] at hv ⊢
    unfold isDig at h1
    simp only [Lib.parseUint10]
    rw [if_pos h1, if_neg (by omega), if_neg (by omega)]
    exact parseUint10_val l _ (fun c hc => hd c (by simp [hc])) hv
theorem atoi_dec (n : Nat) (h : n < 9223372036854775808) : Lib.atoiAll (dec n) = .ok (n : Int) := by
  have hp : Lib.parseMag (dec n) = .ok n := by
    unfold Lib.parseMag
    rw [if_neg (dec_ne n), parseUint10_val _ _ (dec_dig n) (by rw [valD_dec]; omega), valD_dec]
  obtain ⟨c, r, hcr⟩ : ∃ c r, dec n = c :: r := by
    cases hd : dec n with
    | nil => exact absurd hd (dec_ne n)
    | cons c r => exact ⟨c, r, rfl⟩
  have hc : isDig c := dec_dig n c (by rw [hcr]; simp)
  unfold isDig at hc
  rw [hcr] at hp ⊢
  unfold Lib.atoiAll
  simp only
  rw [if_neg (by omega), hp]
  simp only
  rw [if_neg (by omega), if_neg (by omega), if_neg (by omega)]
/-- The digits at the beginning of a text: the number, and what follows; none: too great. -/
def numGo (n : Nat) : List UInt8 → Option (Nat × List UInt8)
  | [] => some (n, [])
  | c :: r => if 48 ≤ c.toNat ∧ c.toNat ≤ 57 then (if (9223372036854775807 - (c.toNat - 48)) / 10 < n then none else numGo (10 * n + (c.toNat - 48)) r) else some (n, c :: r)
def numberOf (l : List UInt8) : Nat × List UInt8 × Bool := match numGo 0 l with | none => (0, l, false) | some (n, r) => (n, r, decide (r.length < l.length))
theorem numGo_val : ∀ (l : List UInt8) (acc : Nat) (t : List UInt8), (∀ c ∈ l, isDig c) → (∀ c, t.head? = some c → ¬ isDig c) → valD acc l < 9223372036854775808 → numGo acc (l ++ t) = some (valD acc l, t)
  | [], acc, t, _, ht, _ => by
    cases t with
    | nil => rfl
    | cons c t =>
      have := ht c rfl
      unfold isDig at this
      simp only [List.nil_append, numGo]
      rw [if_neg this]; rfl
  | c :: l, acc, t, hd, ht, hv => by
    have h1 : isDig c := hd c (by simp)
    have h2 := valD_le l (acc * 10 + (c.toNat - 48))
    have h3 : valD acc (c :: l) = valD (acc * 10 + (c.toNat - 48)) l := rfl
    rw [h3] at hv ⊢
    unfold isDig at h1
    simp only [List.cons_append, numGo]
    rw [if_pos h1, if_neg (by omega), Nat.mul_comm 10 acc]
    exact numGo_val l _ t (fun c hc => hd c (by simp [hc])) ht hv
theorem numberOf_dec (n : Nat) (t : List UInt8) (h : n < 9223372036854775808) (ht : ∀ c, t.head? = some c → ¬ isDig c) : numberOf (dec n ++ t) = (n, t, true) := by
  unfold numberOf
  rw [numGo_val (dec n) 0 t (dec_dig n) ht (by rw [valD_dec]; exact h), valD_dec]
  have : 0 < (dec n).length := List.length_pos_iff.2 (dec_ne n)
  simp [this]
theorem numGo_bd : ∀ (l : List UInt8) (acc n : Nat) (r : List UInt8), acc < 9223372036854775808 → numGo acc l = some (n, r) → n < 9223372036854775808
  | [], acc, n, r, ha, h => by simp only [numGo, Option.some.injEq, Prod.mk.injEq] at h; omega
  | c :: l, acc, n, r, ha, h => by
    simp only [numGo] at h
    split at h
    · split at h
      · cases h
      · exact numGo_bd l _ n r (by omega) h
    · simp only [Option.some.injEq, Prod.mk.injEq] at h; omega
theorem numberOf_bd (l : List UInt8) : (numberOf l).1 < 9223372036854775808 := by
  unfold numberOf
  cases h : numGo 0 l with
  | none => simp
  | some x => exact numGo_bd l 0 x.1 x.2 (by omega) h
/-- P8: what Parse comes to, said by what it must fit: just a name is read, and as what it is the name of. -/
def ParseFits (path : List UInt8) (l i w : Int) (ok : Bool) : Prop :=
  (ok = true → nameOk l i w ∧ i < 9223372036854775808 ∧ nameBody l i w = path) ∧ (ok = false → l = 0 ∧ i = 0 ∧ w = 0) ∧
  ∀ l' i' w', nameOk l' i' w' → i' < 9223372036854775808 → nameBody l' i' w' = path → l = l' ∧ i = i' ∧ w = w' ∧ ok = true
theorem parse_uniq {path : List UInt8} {l i w l' i' w' : Int} {ok ok' : Bool} (h : ParseFits path l i w ok) (h' : ParseFits path l' i' w' ok') : l = l' ∧ i = i' ∧ w = w' ∧ ok = ok' := by
  cases ok
  · cases ok'
    · obtain ⟨rfl, rfl, rfl⟩ := h.2.1 rfl
      obtain ⟨rfl, rfl, rfl⟩ := h'.2.1 rfl
      exact ⟨rfl, rfl, rfl, rfl⟩
    · obtain ⟨a, b, c⟩ := h'.1 rfl
      have := (h.2.2 _ _ _ a b c).2.2.2
      cases this
  · obtain ⟨a, b, c⟩ := h.1 rfl
    obtain ⟨rfl, rfl, rfl, rfl⟩ := h'.2.2 _ _ _ a b c
    exact ⟨rfl, rfl, rfl, rfl⟩
theorem nameBody_ne (l i w : Int) : nameBody l i w ≠ [] := by
  unfold nameBody
  split <;> simp [kT, kE]
/-- No digit is the first of ".p/" or "/". -/
theorem isPrefix_cons_ne {a b : UInt8} {s t : List UInt8} (h : a ≠ b) : (a :: s).isPrefixOf (b :: t) = false := by
  simp [List.isPrefixOf, h]
/-- A text of digits, and what follows: where a mark that begins with no digit stands first. -/
theorem index_digits (m : UInt8) (ms : List UInt8) (hm : ¬ isDig m) : ∀ (d t : List UInt8), (∀ c ∈ d, isDig c) → Lib.index (d ++ (m :: ms ++ t)) (m :: ms) = d.length
  | [], t, _ => by
    simp [Lib.index, List.isPrefixOf]
  | c :: d, t, hd => by
    have ih := index_digits m ms hm d t (fun c hc => hd c (by simp [hc]))
    have hne : m ≠ c := fun e => hm (e ▸ hd c (by simp))
    simp only [List.cons_append, Lib.index]
    rw [isPrefix_cons_ne hne]
    simp only [List.cons_append] at ih
    rw [ih]
    have : ((d.length : Int) == -1) = false := by rw [beq_eq_false_iff_ne]; omega
    simp [this]
theorem index_digits_none (m : UInt8) (ms : List UInt8) (hm : ¬ isDig m) : ∀ (d : List UInt8), (∀ c ∈ d, isDig c) → Lib.index d (m :: ms) = -1
  | [], _ => by simp [Lib.index]
  | c :: d, hd => by
    have ih := index_digits_none m ms hm d (fun c hc => hd c (by simp [hc]))
    have hne : m ≠ c := fun e => hm (e ▸ hd c (by simp))
    simp only [Lib.index]
    rw [isPrefix_cons_ne hne, ih]
    rfl
theorem cut_digits (m : UInt8) (ms : List UInt8) (hm : ¬ isDig m) (d t : List UInt8) (hd : ∀ c ∈ d, isDig c) : Lib.cut (d ++ (m :: ms ++ t)) (m :: ms) = (d, t, true) := by
  unfold Lib.cut
  rw [index_digits m ms hm d t hd, if_pos (by omega), Int.toNat_natCast]
  simp only [Prod.mk.injEq, and_true]
  refine ⟨List.take_left, ?_⟩
  rw [← List.append_assoc]
  have : d.length + (m :: ms).length = (d ++ (m :: ms)).length := by simp
  rw [this, List.drop_left]
theorem cut_digits_none (m : UInt8) (ms : List UInt8) (hm : ¬ isDig m) (d : List UInt8) (hd : ∀ c ∈ d, isDig c) : Lib.cut d (m :: ms) = (d, [], false) := by
  unfold Lib.cut
  rw [index_digits_none m ms hm d hd]
  rfl
/-- A numeral's number; none: no int is read. -/
def atoiO (l : List UInt8) : Option Int := match Lib.atoiAll l with | .ok v => some v | _ => none
theorem atoiO_dec (n : Nat) (h : n < 9223372036854775808) : atoiO (dec n) = some (n : Int) := by unfold atoiO; rw [atoi_dec n h]
/-- Level, index, width, and whether it is a path. -/
abbrev Four := Int × Int × Int × Bool
def noFour : Four := (0, 0, 0, false)
def Fits (path : List UInt8) (q : Four) : Prop := ParseFits path q.1 q.2.1 q.2.2.1 q.2.2.2
/-- files.Parse, behind the level. -/
def parseTail (path : List UInt8) (level : Int) (rest : List UInt8) : Four :=
  match (if (Lib.cut rest kP).2.2 = true then atoiO (Lib.cut rest kP).2.1 else some 4) with
  | none => noFour
  | some width => match atoiO (Lib.cut rest kP).1 with
    | none => noFour
    | some index => if nameOf level index width = path then (level, index, width, true) else noFour
/-- files.Parse. -/
def parseGo (path : List UInt8) : Four :=
  if Lib.hasPrefix path kE = true then parseTail path (-1) (Lib.trimPrefix path kE)
  else if Lib.hasPrefix path kT = true ∧ (Lib.cut (Lib.trimPrefix path kT) [47]).2.2 = true then
    match atoiO (Lib.cut (Lib.trimPrefix path kT) [47]).1 with
    | none => noFour
    | some v => if v < 0 then noFour else parseTail path v (Lib.cut (Lib.trimPrefix path kT) [47]).2.1
  else noFour
def beginsOf (s w : List UInt8) : List UInt8 × Bool := if Lib.hasPrefix s w = true then (s.drop w.length, true) else (s, false)
/-- The reference's Parse, behind the width. -/
def refEnd (path : List UInt8) (level : Int) (i : Nat) (q : Int × List UInt8 × Bool) : Four :=
  if q.2.2 = true ∧ q.2.1 = [] ∧ nameOf level i q.1 = path ∧ nameOf level i q.1 ≠ [] then (level, i, q.1, true) else noFour
/-- The width, and what follows. -/
def refWidth (n : Nat × List UInt8 × Bool) : Int × List UInt8 × Bool :=
  if n.2.2 = true ∧ (beginsOf n.2.1 kP).2 = true then ((numberOf (beginsOf n.2.1 kP).1).1, (numberOf (beginsOf n.2.1 kP).1).2) else (4, n.2.1, n.2.2)
/-- The reference's Parse, behind the level. -/
def refTail (path : List UInt8) (level : Int) (s : List UInt8) : Four := refEnd path level (numberOf s).1 (refWidth (numberOf s))
/-- The reference's Parse. -/
def parseRef (path : List UInt8) : Four :=
  if (beginsOf path kE).2 = true then refTail path (-1) (beginsOf path kE).1
  else if (beginsOf path kT).2 = true then
    (if (numberOf (beginsOf path kT).1).2.2 = true then
      (if (beginsOf (numberOf (beginsOf path kT).1).2.1 [47]).2 = true then refTail path (numberOf (beginsOf path kT).1).1 (beginsOf (numberOf (beginsOf path kT).1).2.1 [47]).1 else noFour)
     else noFour)
  else noFour
/-- An answer that holds just what its own name says. -/
def Sound (path : List UInt8) (q : Four) : Prop := (q.2.2.2 = true → nameOk q.1 q.2.1 q.2.2.1 ∧ q.2.1 < 9223372036854775808 ∧ nameBody q.1 q.2.1 q.2.2.1 = path) ∧ (q.2.2.2 = false → q.1 = 0 ∧ q.2.1 = 0 ∧ q.2.2.1 = 0)
theorem sound_no (path : List UInt8) : Sound path noFour := ⟨fun h => by simp [noFour] at h, fun _ => ⟨rfl, rfl, rfl⟩⟩
theorem atoiO_bd {l : List UInt8} {v : Int} (h : atoiO l = some v) : v < 9223372036854775808 := by
  unfold atoiO at h
  split at h
  · rename_i u hu
    simp only [Option.some.injEq] at h
    subst h
    unfold Lib.atoiAll at hu
    split at hu
    · cases hu
    · simp only at hu
      split at hu
      · cases hu
      · cases hu
      · split at hu
        · cases hu
        · split at hu
          · cases hu
          · simp only [Lib.NumEnd.ok.injEq] at hu
            subst hu
            split <;> omega
  · cases h
theorem sound_name {path : List UInt8} {l i w : Int} (hb : i < 9223372036854775808) (hne : path ≠ []) (h : nameOf l i w = path) : Sound path (l, i, w, true) := by
  refine ⟨fun _ => ?_, fun h => by simp at h⟩
  unfold nameOf at h
  split at h
  · rename_i h0; exact ⟨h0, hb, h⟩
  · exact absurd h.symm hne
theorem parseTail_sound (path : List UInt8) (hne : path ≠ []) (l : Int) (rest : List UInt8) : Sound path (parseTail path l rest) := by
  unfold parseTail
  split
  · exact sound_no _
  · split
    · exact sound_no _
    · rename_i i hi
      split
      · rename_i h; exact sound_name (atoiO_bd hi) hne h
      · exact sound_no _
theorem hasPrefix_ne {path p : List UInt8} (hp : p ≠ []) (h : Lib.hasPrefix path p = true) : path ≠ [] := by
  rintro rfl
  cases p with
  | nil => exact hp rfl
  | cons a b => simp [Lib.hasPrefix, List.isPrefixOf] at h
theorem parseGo_sound (path : List UInt8) : Sound path (parseGo path) := by
  unfold parseGo
  split
  · rename_i h; exact parseTail_sound _ (hasPrefix_ne (by simp [kE]) h) _ _
  · split
    · rename_i h
      split
      · exact sound_no _
      · split
        · exact sound_no _
        · exact parseTail_sound _ (hasPrefix_ne (by simp [kT]) h.1) _ _
    · exact sound_no _
theorem hasPrefix_append (p s : List UInt8) : Lib.hasPrefix (p ++ s) p = true := by
  unfold Lib.hasPrefix
  rw [List.isPrefixOf_iff_prefix]
  exact List.prefix_append p s
theorem trimPrefix_append (p s : List UInt8) : Lib.trimPrefix (p ++ s) p = s := by
  unfold Lib.trimPrefix
  rw [if_pos (hasPrefix_append p s), List.drop_left]
theorem beginsOf_append (p s : List UInt8) : beginsOf (p ++ s) p = (s, true) := by
  unfold beginsOf
  rw [if_pos (hasPrefix_append p s), List.drop_left]
theorem noE (s : List UInt8) : Lib.hasPrefix (kT ++ s) kE = false := by
  simp [Lib.hasPrefix, kT, kE, List.isPrefixOf]
/-- What stands behind the index. -/
def tailOf (w : Int) : List UInt8 := if w < 4 then kP ++ dec w.toNat else []
theorem not_dig_46 : ¬ isDig 46 := by unfold isDig; decide
theorem not_dig_47 : ¬ isDig 47 := by unfold isDig; decide
theorem nameBody_low {l i w : Int} (h : nameOk l i w) (hl : l < 0) : nameBody l i w = kE ++ (dec i.toNat ++ tailOf w) := by
  unfold nameBody tailOf
  rw [if_neg (by omega), List.append_assoc]
theorem nameBody_high {l i w : Int} (hl : 0 ≤ l) : nameBody l i w = kT ++ (dec l.toNat ++ (47 :: [] ++ (dec i.toNat ++ tailOf w))) := by
  unfold nameBody tailOf
  rw [if_pos hl]
  simp
theorem nameOf_body {l i w : Int} (h : nameOk l i w) : nameOf l i w = nameBody l i w := by unfold nameOf; rw [if_pos h]
theorem cut_tail (i : Nat) {w : Int} (h1 : 1 ≤ w) (h4 : w ≤ 4) : Lib.cut (dec i ++ tailOf w) kP = (dec i, (if w < 4 then dec w.toNat else []), decide (w < 4)) := by
  unfold tailOf
  by_cases hw : w < 4
  · rw [if_pos hw, if_pos hw, decide_eq_true hw]
    exact cut_digits 46 [112, 47] not_dig_46 (dec i) (dec w.toNat) (dec_dig i)
  · rw [if_neg hw, if_neg hw, decide_eq_false hw, List.append_nil]
    exact cut_digits_none 46 [112, 47] not_dig_46 (dec i) (dec_dig i)
theorem parseTail_name {l i w : Int} (h : nameOk l i w) (hi : i < 9223372036854775808) : parseTail (nameBody l i w) l (dec i.toNat ++ tailOf w) = (l, i, w, true) := by
  have hn := nameOf_body h
  obtain ⟨a, b, c, d, e⟩ := h
  unfold parseTail
  rw [cut_tail _ d e]
  have ha : atoiO (dec i.toNat) = some i := by rw [atoiO_dec _ (by omega)]; congr 1; omega
  have hw : (if decide (w < 4) = true then atoiO (if w < 4 then dec w.toNat else []) else some 4) = some w := by
    by_cases hw : w < 4
    · rw [if_pos (by simpa using hw), if_pos hw, atoiO_dec _ (by omega)]; congr 1; omega
    · rw [if_neg (by simpa using hw)]; congr 1; omega
  simp only [hw, ha, hn, if_true]
theorem parseGo_name {l i w : Int} (h : nameOk l i w) (hi : i < 9223372036854775808) : parseGo (nameBody l i w) = (l, i, w, true) := by
  have ht := parseTail_name h hi
  by_cases hl : l < 0
  · obtain rfl : l = -1 := by have := h.1; omega
    rw [nameBody_low h (by omega)] at ht ⊢
    unfold parseGo
    rw [if_pos (hasPrefix_append _ _), trimPrefix_append]
    exact ht
  · have hl0 : 0 ≤ l := by omega
    have hle := h.2.1
    rw [nameBody_high hl0] at ht ⊢
    have hc := cut_digits 47 [] not_dig_47 (dec l.toNat) (dec i.toNat ++ tailOf w) (dec_dig _)
    unfold parseGo
    rw [if_neg (by rw [noE]; simp), trimPrefix_append, hc, if_pos ⟨hasPrefix_append _ _, rfl⟩]
    have ha : atoiO (dec l.toNat) = some l := by rw [atoiO_dec _ (by omega)]; congr 1; omega
    simp only [ha]
    rw [if_neg hl]
    exact ht
theorem fits_of {path : List UInt8} {q : Four} (hs : Sound path q) (h : ∀ l i w, nameOk l i w → i < 9223372036854775808 → nameBody l i w = path → q = (l, i, w, true)) : Fits path q :=
  ⟨hs.1, hs.2, fun l i w h1 h2 h3 => by rw [h l i w h1 h2 h3]; exact ⟨rfl, rfl, rfl, rfl⟩⟩
theorem parseGo_fits (path : List UInt8) : Fits path (parseGo path) := fits_of (parseGo_sound path) fun _ _ _ h1 h2 h3 => by rw [← h3]; exact parseGo_name h1 h2
theorem refTail_sound (path : List UInt8) (l : Int) (s : List UInt8) : Sound path (refTail path l s) := by
  unfold refTail refEnd
  split
  · rename_i h
    obtain ⟨_, _, h3, h4⟩ := h
    have hb := numberOf_bd s
    exact sound_name (by omega) (by rw [← h3]; exact h4) h3
  · exact sound_no _
theorem parseRef_sound (path : List UInt8) : Sound path (parseRef path) := by
  unfold parseRef
  split
  · exact refTail_sound _ _ _
  · split
    · split
      · split
        · exact refTail_sound _ _ _
        · exact sound_no _
      · exact sound_no _
    · exact sound_no _
theorem head_tail (w : Int) : ∀ c, (tailOf w).head? = some c → ¬ isDig c := by
  intro c hc
  unfold tailOf at hc
  split at hc
  · simp only [kP, List.cons_append, List.head?_cons, Option.some.injEq] at hc
    subst hc; exact not_dig_46
  · simp at hc
theorem refTail_name {l i w : Int} (h : nameOk l i w) (hi : i < 9223372036854775808) : refTail (nameBody l i w) l (dec i.toNat ++ tailOf w) = (l, i, w, true) := by
  have hn := nameOf_body h
  obtain ⟨a, b, c, d, e⟩ := h
  unfold refTail
  rw [numberOf_dec _ _ (by omega) (head_tail w)]
  have hib : ((i.toNat : Nat) : Int) = i := by omega
  have hq : refWidth (i.toNat, tailOf w, true) = (w, [], true) := by
    unfold refWidth
    by_cases hw : w < 4
    · have ht : tailOf w = kP ++ dec w.toNat := by unfold tailOf; rw [if_pos hw]
      have hnum := numberOf_dec w.toNat [] (by omega) (by simp)
      rw [List.append_nil] at hnum
      have hwb : ((w.toNat : Nat) : Int) = w := by omega
      simp only [ht, beginsOf_append, hnum, hwb]
      simp
    · have ht : tailOf w = [] := by unfold tailOf; rw [if_neg hw]
      have hb : beginsOf [] kP = ([], false) := rfl
      have hwb : w = 4 := by omega
      subst hwb
      simp only [ht, hb]
      simp
  unfold refEnd
  simp only [hq, hib]
  rw [if_pos (by simp [hn, nameBody_ne])]
theorem parseRef_name {l i w : Int} (h : nameOk l i w) (hi : i < 9223372036854775808) : parseRef (nameBody l i w) = (l, i, w, true) := by
  have ht := refTail_name h hi
  by_cases hl : l < 0
  · obtain rfl : l = -1 := by have := h.1; omega
    rw [nameBody_low h (by omega)] at ht ⊢
    unfold parseRef
    rw [beginsOf_append]
    exact ht
  · have hl0 : 0 ≤ l := by omega
    have hle := h.2.1
    rw [nameBody_high hl0] at ht ⊢
    have hb : (beginsOf (kT ++ (dec l.toNat ++ (47 :: [] ++ (dec i.toNat ++ tailOf w)))) kE).2 = false := by unfold beginsOf; rw [if_neg (by rw [noE]; simp)]
    have hnum := numberOf_dec l.toNat (47 :: [] ++ (dec i.toNat ++ tailOf w)) (by omega) (by intro c hc; simp at hc; subst hc; exact not_dig_47)
    have hlb : ((l.toNat : Nat) : Int) = l := by omega
    have hb2 : beginsOf (47 :: [] ++ (dec i.toNat ++ tailOf w)) [47] = (dec i.toNat ++ tailOf w, true) := beginsOf_append [47] _
    unfold parseRef
    rw [hb, beginsOf_append, hnum, hb2]
    simp only [hlb]
    exact ht
theorem parseRef_fits (path : List UInt8) : Fits path (parseRef path) := fits_of (parseRef_sound path) fun _ _ _ h1 h2 h3 => by rw [← h3]; exact parseRef_name h1 h2
/-- P8: the two read alike. -/
theorem parse_same (path : List UInt8) : parseGo path = parseRef path := by
  obtain ⟨a, b, c, d⟩ := parse_uniq (parseGo_fits path) (parseRef_fits path)
  exact Prod.ext a (Prod.ext b (Prod.ext c d))
/-- A name is read as what it is the name of; no bytes are not. -/
theorem parse_name (l i w : Int) (hi : i < 9223372036854775808) : if nameOk l i w then nameOf l i w ≠ [] ∧ parseGo (nameOf l i w) = (l, i, w, true) else nameOf l i w = [] := by
  split
  · rename_i h
    rw [nameOf_body h]
    exact ⟨nameBody_ne _ _ _, parseGo_name h hi⟩
  · rename_i h
    unfold nameOf; rw [if_neg h]
theorem parse_none : parseGo [] = noFour := by rfl
end Go.Proofs.YtefccfakhgdfbabGreatDoor
end
