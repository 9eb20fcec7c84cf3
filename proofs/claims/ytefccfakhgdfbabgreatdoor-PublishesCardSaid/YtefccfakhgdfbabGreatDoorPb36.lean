/-
  The sort of files: between the sort's contract and a row of one's own. No walk. Conditions: none.
-/
import Derived.Test.YtefccfakhgdfbabGreatDoorPb03
import Derived.Shelf.SlSortCmp.WholeK
set_option linter.unusedVariables false
set_option linter.unusedSimpArgs false
section
namespace Go.Proofs.YtefccfakhgdfbabGreatDoor
open Go.RowKit Go.Sort
/-- The order of files by their paths. -/
def cfF (x y : ByteArray × ByteArray) : Int := if Op.bytesLess x.1.toList y.1.toList = true then -1 else if Op.bytesLess y.1.toList x.1.toList = true then 1 else 0
theorem lt_cfF (x y : ByteArray × ByteArray) : ltOf cfF x y = ltStr x.1.toList y.1.toList := by
  unfold ltOf cfF ltStr
  rw [bytesLess_eq, bytesLess_eq]
  by_cases h : x.1.toList < y.1.toList
  · simp [h]
  · by_cases h2 : y.1.toList < x.1.toList
    · simp [h, h2]
    · simp [h, h2]
theorem swo_cfF : SWO (ltOf cfF) where
  irrefl x := by rw [lt_cfF]; exact swo_ltStr.irrefl _
  trans x y z h1 h2 := by rw [lt_cfF] at *; exact swo_ltStr.trans _ _ _ h1 h2
  ntrans x y z h1 h2 := by rw [lt_cfF] at *; exact swo_ltStr.ntrans _ _ _ h1 h2
theorem get!_of {a : Array Value} {t : Nat} {v : Value} (h : a[t]? = some v) : a[t]! = v := by
  obtain ⟨h1, h2⟩ := Array.getElem?_eq_some_iff.1 h
  rw [getElem!_pos a t h1, h2]
theorem flat_files (l : List (ByteArray × ByteArray)) : flatK fileCells 2 l.toArray = (fileRow l).toArray := by
  refine ext_get! (by simp [fileRow_length]) fun t ht => ?_
  have ht' : t < l.length * 2 := by simpa using ht
  have hj : t / 2 < l.length := by omega
  obtain ⟨f, hf⟩ : ∃ f, l[t / 2]? = some f := ⟨_, List.getElem?_eq_getElem hj⟩
  obtain ⟨h1, h2⟩ := fileRow_at l (t / 2) f hf
  rw [get_flatK _ _ _ _ (by simpa using ht')]
  have e : l.toArray[t / 2]! = f := by
    rw [getElem!_pos l.toArray (t / 2) (by simpa using hj)]
    have := (List.getElem?_eq_some_iff.1 hf).2
    simpa using this
  rw [e]
  rcases Nat.mod_two_eq_zero_or_one t with hm | hm
  · rw [hm]
    have ht2 : t / 2 * 2 = t := by omega
    rw [ht2] at h1
    rw [get!_of (v := .string f.1) (by simpa using h1)]
    rfl
  · rw [hm]
    have ht2 : t / 2 * 2 + 1 = t := by omega
    rw [ht2] at h2
    rw [get!_of (v := .string f.2) (by simpa using h2)]
    rfl
theorem holds_files {w : World} {blk : Nat} {cur : Array Value} {e : TypeId} {l : List (ByteArray × ByteArray)} (hb : w.heap[blk]? = some (.cells cur e (0, 0))) (ht : cur.toList.take (l.length * 2) = fileRow l) : HoldsK fileCells 2 w blk 0 l.toArray := by
  unfold HoldsK
  rw [flat_files]
  intro j hj
  have hj' : j < l.length * 2 := by simpa [fileRow_length] using hj
  refine ⟨?_, by simp [World.frozen?, hb]⟩
  have h1 : (cur.toList.take (l.length * 2))[j]? = (fileRow l)[j]? := by rw [ht]
  rw [List.getElem?_take_of_lt hj'] at h1
  rw [Nat.zero_add, cell_of_row w blk j cur e (0, 0) hb, ← Array.getElem?_toList, h1]
  have h2 : (fileRow l)[j]? = some ((fileRow l)[j]'(by rw [fileRow_length]; exact hj')) := List.getElem?_eq_getElem _
  rw [h2]
  have h3 : (fileRow l).toArray[j]? = some ((fileRow l)[j]'(by rw [fileRow_length]; exact hj')) := by rw [List.getElem?_toArray]; exact h2
  rw [get!_of h3]
  rfl
theorem heap_sortedF {w : World} {blk m : Nat} {os : Array Obj} {cur : Array Value} {e : TypeId} {fr : Nat × Nat} (d : Array (ByteArray × ByteArray)) (hb : w.heap[blk]? = some (.cells cur e fr)) :
    (sortWorldK fileCells 2 w blk 0 m d os).heap[blk]? = some (.cells (putCells id 0 (flatK fileCells 2 d) cur) e fr) := by
  have hg : blk < w.heap.size := (Array.getElem?_eq_some_iff.1 hb).1
  unfold sortWorldK putRowK
  rw [Go.Sort.heap_grow_old _ _ (by simpa [putRow, mapBlock, Sort.ahead] using hg)]
  simp [putRow, mapBlock, Sort.ahead, Array.getElem?_modify, hb, onCells]
theorem fr_sorted {w : World} {blk m : Nat} {os : Array Obj} (d : Array (ByteArray × ByteArray)) : Fr (· = blk) w (sortWorldK fileCells 2 w blk 0 m d os) := by
  refine ⟨rfl, rfl, rfl, by simp [sortWorldK, putRowK, putRow, mapBlock, Sort.ahead, grow], fun k hk hne => ?_⟩
  unfold sortWorldK putRowK
  rw [Go.Sort.heap_grow_old _ _ (by simpa [putRow, mapBlock, Sort.ahead] using hk)]
  have : blk ≠ k := fun e => hne e.symm
  simp [putRow, mapBlock, Sort.ahead, Array.getElem?_modify, this]
theorem take_putF (cur : Array Value) (xs : List Value) (h : xs.length ≤ cur.size) : (putCells id 0 xs.toArray cur).toList.take xs.length = xs := by
  apply List.ext_getElem?
  intro j
  by_cases hj : j < xs.length
  · rw [List.getElem?_take_of_lt hj, Array.getElem?_toList]
    simp [putCells, hj, show j < cur.size by omega]
  · rw [List.getElem?_take_eq_none (by omega), List.getElem?_eq_none (by omega)]
theorem ownsRow_sortedF {w : World} {base blk cap n m : Nat} {os : Array Obj} {l l' : List (ByteArray × ByteArray)} {t : TypeId} (h : w.ownsRow base t 2 (.slice (some ⟨blk, 0, none⟩) n cap) n (fileRow l)) (hn : n = l.length) (hl : l'.length = l.length) :
    (sortWorldK fileCells 2 w blk 0 m l'.toArray os).ownsRow base t 2 (.slice (some ⟨blk, 0, none⟩) n cap) n (fileRow l') := by
  rcases h.2 with ⟨e, _⟩ | ⟨b, cp, cur, e, hbase, hb, r1, r2, r3, r4⟩
  · cases e
  · cases e
    refine ⟨by rw [fileRow_length, hl, hn], .inr ⟨_, _, _, rfl, hbase, heap_sortedF _ hb, r1, r2, by simp [putCells, r3], ?_⟩⟩
    rw [flat_files]
    have h1 : n * 2 = (fileRow l').length := by rw [fileRow_length, hl, hn]
    rw [h1]
    refine take_putF cur (fileRow l') ?_
    rw [← h1, r3]
    exact Nat.mul_le_mul_right _ r1
theorem perm_sorted {d d' : Array (ByteArray × ByteArray)} (h : PermIn 0 d.size d d') : d'.toList.Perm d.toList := by
  obtain ⟨h1, _, h2⟩ := h
  rw [show d'.extract 0 d.size = d' by rw [← h1]; simp] at h2
  simpa using h2
end Go.Proofs.YtefccfakhgdfbabGreatDoor
end
