/- The walks of tileslaw.eights, plain.hashes. -/
import Derived.Test.YtefccfakhgdfbaaDoorEight
import Derived.Great.BuildSlice
namespace Go.Proofs.YtefccfakhgdfbaaDoor
open Go.RowKit
/-- A slice of hashes. -/
def HashesAt (w : World) (v : Value) (hs : List Hsh) : Prop := Cells w v hs.length (hs.flatMap fun h => (h8 h).toList)
/-- A row of hashes of the call's own. -/
def OwnHs (w : World) (base : Nat) (v : Value) (hs : List Hsh) : Prop := w.ownsRow base 62 8 v hs.length (hs.flatMap fun h => (h8 h).toList)
theorem OwnHs.at {w : World} {base : Nat} {v : Value} {hs : List Hsh} (h : OwnHs w base v hs) : HashesAt w v hs := ownsRow_cells h
theorem info_str : (Tryd.prog.info? 9).map (fun i => (i.zero, i.size, i.bytes)) = some (some (.string ⟨#[]⟩), 1, 16) := by kernel_rfl
theorem info_hash : (Tryd.prog.info? 62).map (fun i => (i.zero, i.size, i.bytes)) = some (some (.agg #[.int .u8 0, .int .u8 0, .int .u8 0, .int .u8 0, .int .u8 0, .int .u8 0, .int .u8 0, .int .u8 0]), 8, 8) := by kernel_rfl
def eightsOf (ss : List ByteArray) : List Hsh := ss.map fun s => eightOf s.data.toList
theorem eightsOf_succ {ss : List ByteArray} {k : Nat} {s : ByteArray} (h : ss[k]? = some s) : eightsOf (ss.take (k + 1)) = eightsOf (ss.take k) ++ [eightOf s.data.toList] := by
  unfold eightsOf
  rw [List.take_add_one, h]; simp
theorem eightsOf_len (ss : List ByteArray) (k : Nat) : (eightsOf (ss.take k)).length ≤ k := by simp [eightsOf]; omega
theorem fill8 (h : Hsh) (sz : Nat) (hs : sz = 8) (Z : Array Value) (hZ : Z.size = 8) : Instr.fill (fun i => some (i * sz, sz)) Z [(0, .agg (h8 h))] = some (h8 h) := by
  subst hs
  obtain ⟨l⟩ := Z
  match l, hZ with
  | [a0, a1, a2, a3, a4, a5, a6, a7], _ =>
    rw [← h8_fold h]
    simp [Instr.fill, Value.cells]
theorem wpList_bs8 {P : Program} {ops : Array Oper} {rest : List Oper} {o : Oper} {a : Act} {Q : Exit → Act → World → Prop} {w : World} (hg : o.guard = none) (t : TypeId) (x : Operand) (ho : o.op = .buildSlice t 1 #[(0, x)])
    (i : TypeInfo) (hu : P.underlying t = some (.slice 62)) (hi : P.info? 62 = some i) (hz : i.zero = some (.agg (h8 zero8))) (hsize : i.size = 8) (h : Hsh) (hx : a.eval x = .agg (h8 h))
    (hk : wpList P ops Q rest (a.put o.dst (.slice (some ⟨w.heap.size, 0, none⟩) 1 1)) (w.alloc (.cells (h8 h) 62))) : wpList P ops Q (o :: rest) a w :=
  wpList_plain hg fun _ hK => wp_buildSlice t 62 1 _ ho (h8 h) i _ hu hi hz (by omega) (by omega) (by
    simp only [List.map_toArray, List.map_cons, List.map_nil, hx]
    exact fill8 h _ hsize _ (by simp [hsize])) (hK _ _ hk)
set_option maxHeartbeats 400000 in
theorem hashes_any (v : Value) (ss : List ByteArray) (w : World) (h : StrsAt w v ss) (hn : ss.length ≤ 1048576) (hm : ∀ s ∈ ss, s.size ≤ 9223372036854775807) :
    Calls Tryd.prog 42 #[v] w fun e w' => ∃ v', e = .returned v' ∧ OwnHs w' w.heap.size v' (eightsOf ss) ∧ Below w.heap.size w w' := by
  obtain ⟨a, c, rfl, hcap, hc⟩ := h
  have HC := Lib.hid hc
  have HM := Lib.hid hm
  clear hc hm
  obtain ⟨i0, hi, hz0, hz1, hz2⟩ := info_parts info_hash
  rw [← h8_zero] at hz0
  have HZ := Lib.hid hz0
  clear hz0
  go_enter Tryd.func42, Tryd.ntmps42
  go_wp2
  go_loopw [3, 8] (fun v i wr => ∃ k : Nat, k ≤ ss.length ∧ i = .int .i64 k ∧ OwnHs wr w.heap.size v (eightsOf (ss.take k)) ∧ Below w.heap.size w wr) (fun _ i _ => ss.length - (intOf i).toNat)
  case atStart => exact ⟨0, by omega, rfl, World.ownsRow_nil _ _ _ _, Below.refl _ _⟩
  case round =>
    obtain ⟨k, hk, rfl, hown, hbel⟩ := hrel
    by_cases hlt : k < ss.length
    · obtain ⟨s, hs⟩ : ∃ s, ss[k]? = some s := ⟨_, List.getElem?_eq_getElem hlt⟩
      obtain ⟨b, off, rfl, hcell0⟩ := HC.out k (.string s) (by simp [hs])
      have hcell : wr.cell? ⟨b, off + k, none⟩ = some (.string s) := (hbel.cell (p := ⟨b, off + k, none⟩) (cell_lt hcell0)).trans hcell0
      have hsm := HM.out s (List.mem_of_getElem? hs)
      have hlen := eightsOf_len ss k
      have HK := Lib.hid hs
      unfold OwnHs at hown
      have HR := Lib.hid hown
      have HB := Lib.hid hbel
      clear hs hcell0 hown hbel
      go_wp2_with (first | (go_at_call 41; refine (hash_any s _ hsm).mono ?_; rintro e w1 ⟨rfl, hb1⟩; have HB1 := Lib.hid hb1; clear hb1) | (refine wpList_bs8 rfl 53 _ rfl i0 Tryd.underlying53 hi HZ.out hz1 _ rfl ?_) | (at_builtin; (refine wpList_app8 rfl _ _ 53 rfl w.heap.size i0 Tryd.underlying53 hi HZ.out hz1 hz2 _ _ rfl (ownsRow_below HR.out HB1.out) _ rfl (by omega) (Nat.le_trans HB.out.size HB1.out.size) ?_); intro v2 w2 hr2 hg2 hne2; have HR2 := Lib.hid hr2; have HG2 := Lib.hid hg2; clear hr2 hg2 hne2))
      go_roundw
      case rel =>
        refine ⟨k + 1, by omega, by go_num, ?_, ?_⟩
        · rw [eightsOf_succ HK.out]
          exact HR2.out
        · exact ((HB.out.trans (HB1.out.mono HB.out.size)).grown HG2.out (Nat.le_trans HB.out.size HB1.out.size) (fun j hj => (HR.out.lt j hj).1))
      case measure => simp [intOf]; omega
    · have ht : ss.take k = ss := List.take_of_length_le (by omega)
      rw [ht] at hown
      go_wp2
      go_ret
      exact ⟨_, rfl, hown, hbel⟩
end Go.Proofs.YtefccfakhgdfbaaDoor
