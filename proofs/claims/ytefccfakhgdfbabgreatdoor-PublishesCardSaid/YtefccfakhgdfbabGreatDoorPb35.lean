/-
  tileslaw.World: its shape in memory, and what stands while parts of it turn. No walk. Conditions: the block is a World's.
-/
import Derived.Test.YtefccfakhgdfbabGreatDoorPb33
import Derived.Test.YtefccfakhgdfbabGreatDoorPb34
set_option linter.unusedVariables false
set_option linter.unusedSimpArgs false
section
namespace Go.Proofs.YtefccfakhgdfbabGreatDoor
open Go.RowKit
/-- Where a World's parts lie. -/
structure Pl where
  gw : Nat
  gd : Nat
  v : Value
  en : Value
  gl : Nat
  g : Nat
  ve : Value
  vl : Value
  vp : Value
  vs : List Value
def plV (p : Pl) : Option Lg → Value
  | none => .pointer none
  | some _ => .pointer (some ⟨p.gl, 0, none⟩)
def wdCells (p : Pl) (m : Wm) : Array Value := #[.pointer (some ⟨p.gd, 0, none⟩), .string m.key, plV p m.l, p.en, .int .i64 m.pub, .bool m.failed, .bool m.foreign]
structure WdIs (w : World) (p : Pl) (m : Wm) : Prop where
  cells : w.heap[p.gw]? = some (.cells (wdCells p m) 78 (0, 0))
  disk : DiskAt w p.gd p.v m.d
  ents : OwnStrs w 0 p.en m.es
  log : ∀ L, m.l = some L → PlIs w p.gl p.g ∧ LogIs w p.g p.gd p.ve p.vl p.vp p.vs L
/-- A World's blocks. -/
def WdS (p : Pl) (m : Wm) (k : Nat) : Prop := k = p.gw ∨ dkS p.gd p.v k ∨ p.en.ownBlock = some k ∨ (m.l.isSome = true ∧ (k = p.gl ∨ LogS p.g p.ve p.vl p.vp p.vs k))
theorem WdIs.below {w w' : World} {p : Pl} {m : Wm} (h : WdIs w p m) (hb : Below w.heap.size w w') : WdIs w' p m where
  cells := (hb.block _ (lt_of_heap h.cells)).trans h.cells
  disk := h.disk.below hb
  ents := ownsRow_below h.ents hb
  log L hL := ⟨(hb.block _ (lt_of_heap (h.log L hL).1)).trans (h.log L hL).1, (h.log L hL).2.below hb⟩
/-- While blocks turn that are none of its own. -/
theorem WdIs.fr {w w' : World} {S : Nat → Prop} {p : Pl} {m : Wm} (h : WdIs w p m) (hf : Fr S w w') (hS : ∀ k, WdS p m k → ¬ S k) (hn : NoBytes w S) : WdIs w' p m where
  cells := hf.heap h.cells (hS _ (.inl rfl))
  disk := h.disk.fr hf fun k hk => hS k (.inr (.inl hk))
  ents := ownsRow_fr h.ents hf fun k hk => hS k (.inr (.inr (.inl hk)))
  log L hL := ⟨hf.heap (h.log L hL).1 (hS _ (.inr (.inr (.inr ⟨by rw [hL]; rfl, .inl rfl⟩)))),
    (h.log L hL).2.fr hf (fun k hk => hS k (.inr (.inr (.inr ⟨by rw [hL]; rfl, .inr hk⟩)))) hn⟩
theorem WdIs.noBytes {w : World} {p : Pl} {m : Wm} (h : WdIs w p m) : NoBytes w (WdS p m) := by
  intro k C fz hk hs
  rcases hs with rfl | hs | hs | ⟨hl, rfl | hs⟩
  · exact heap_ne hk h.cells (by decide) rfl
  · exact h.disk.noBytes k C fz hk hs
  · obtain ⟨C', hC⟩ := ownBlock_type h.ents hs
    exact heap_ne hk hC (by decide) rfl
  · obtain ⟨L, hL⟩ := Option.isSome_iff_exists.1 hl
    exact heap_ne hk (h.log L hL).1 (by decide) rfl
  · obtain ⟨L, hL⟩ := Option.isSome_iff_exists.1 hl
    exact (h.log L hL).2.noBytes k C fz hk hs
/-- The reads of a World's own cells. -/
theorem WdIs.heads {w : World} {p : Pl} {m : Wm} (h : WdIs w p m) :
    (w.cell? ⟨p.gw, 0, none⟩ = some (.pointer (some ⟨p.gd, 0, none⟩)) ∧ w.cell? ⟨p.gw, 1, none⟩ = some (.string m.key) ∧ w.cell? ⟨p.gw, 2, none⟩ = some (plV p m.l) ∧ w.cell? ⟨p.gw, 3, none⟩ = some p.en ∧ w.cell? ⟨p.gw, 4, none⟩ = some (.int .i64 m.pub) ∧
      w.cell? ⟨p.gw, 5, none⟩ = some (.bool m.failed) ∧ w.cell? ⟨p.gw, 6, none⟩ = some (.bool m.foreign)) ∧ ∀ i, w.frozen? ⟨p.gw, i, none⟩ = false :=
  ⟨⟨cell_heap h.cells 0 rfl, cell_heap h.cells 1 rfl, cell_heap h.cells 2 rfl, cell_heap h.cells 3 rfl, cell_heap h.cells 4 rfl, cell_heap h.cells 5 rfl, cell_heap h.cells 6 rfl⟩, fun i => frozen_heap h.cells i⟩
/-- The store turns: all else stands. -/
theorem WdIs.diskStep {w w' : World} {p : Pl} {m : Wm} (h : WdIs w p m) {v' : Value} {d' : Dk} (hd : DiskAt w' p.gd v' d') (hf : Fr (dkS p.gd p.v) w w') : WdIs w' { p with v := v' } { m with d := d' } where
  cells := heap_kept h.cells hf (kinds_disk h.disk) (by decide)
  disk := hd
  ents := row_kept h.ents hf (kinds_disk h.disk) (by decide)
  log L hL := ⟨heap_kept (h.log L hL).1 hf (kinds_disk h.disk) (by decide), (h.log L hL).2.kept hf (kinds_disk h.disk) (by decide) (by decide)⟩
theorem fr_gd {w w' : World} {g : Nat} {v : Value} (h : Fr (· = g) w w') : Fr (dkS g v) w w' := h.weak fun _ _ e => .inl e
/-- Its own cells turn. -/
theorem WdIs.ownStep {w w' : World} {p p' : Pl} {m m' : Wm} (h : WdIs w p m) (hf : Fr (· = p.gw) w w') (hc : w'.heap[p.gw]? = some (.cells (wdCells p' m') 78 (0, 0)))
    (hp : p'.gw = p.gw ∧ p'.gd = p.gd ∧ p'.v = p.v ∧ m'.d = m.d) (he : OwnStrs w 0 p'.en m'.es) (hl : ∀ L, m'.l = some L → PlIs w p'.gl p'.g ∧ LogIs w p'.g p'.gd p'.ve p'.vl p'.vp p'.vs L) : WdIs w' p' m' where
  cells := by rw [hp.1]; exact hc
  disk := by rw [hp.2.1, hp.2.2.1, hp.2.2.2]; exact h.disk.kept hf (kinds_one h.cells) (by decide) (by decide)
  ents := row_kept he hf (kinds_one h.cells) (by decide)
  log L hL := ⟨heap_kept (hl L hL).1 hf (kinds_one h.cells) (by decide), (hl L hL).2.kept hf (kinds_one h.cells) (by decide) (by decide)⟩
/-- The store and its publisher turn. -/
theorem WdIs.bothStep {w w' : World} {p : Pl} {m : Wm} {L L' : Lg} (h : WdIs w p m) (hL : m.l = some L) {v' ve' vl' vp' : Value} {vs' : List Value} {d' : Dk} (hd : DiskAt w' p.gd v' d') (hl : LogIs w' p.g p.gd ve' vl' vp' vs' L') (hf : Fr (bothS p.g p.gd p.v p.ve p.vl p.vp p.vs) w w') :
    WdIs w' { p with v := v', ve := ve', vl := vl', vp := vp', vs := vs' } { m with d := d', l := some L' } := by
  have hk : Kinds w (bothS p.g p.gd p.v p.ve p.vl p.vp p.vs) _ := (kinds_disk h.disk).or (kinds_log (h.log L hL).2)
  refine ⟨?_, hd, row_kept h.ents hf hk (by decide), fun L2 hL2 => ?_⟩
  · have h1 := heap_kept h.cells hf hk (by decide)
    rw [h1]
    unfold wdCells
    rw [hL]
    rfl
  · cases hL2
    exact ⟨heap_kept (h.log L hL).1 hf hk (by decide), hl⟩
theorem sub_both {w : World} {p : Pl} {m m' : Wm} {v' ve' vl' vp' : Value} {vs' : List Value} (h : Sub w (bothS p.g p.gd p.v p.ve p.vl p.vp p.vs) (bothS p.g p.gd v' ve' vl' vp' vs')) (hm : m.l.isSome = true) : Sub w (WdS p m) (WdS { p with v := v', ve := ve', vl := vl', vp := vp', vs := vs' } m') := fun k hk => by
  rcases hk with hk | hk | hk | ⟨_, hk | hk⟩
  · exact .inl (.inl hk)
  · rcases h k (.inl hk) with (h1 | h1) | h1
    · exact .inl (.inr (.inl h1))
    · exact .inl (.inr (.inr (.inr ⟨hm, .inr h1⟩)))
    · exact .inr h1
  · exact .inl (.inr (.inr (.inl hk)))
  · exact .inl (.inr (.inr (.inr ⟨hm, .inl hk⟩)))
  · rcases h k (.inr hk) with (h1 | h1) | h1
    · exact .inl (.inr (.inl h1))
    · exact .inl (.inr (.inr (.inr ⟨hm, .inr h1⟩)))
    · exact .inr h1
theorem both_wd {p : Pl} {m : Wm} (hm : m.l.isSome = true) {k : Nat} (hk : bothS p.g p.gd p.v p.ve p.vl p.vp p.vs k) : WdS p m k := by
  rcases hk with hk | hk
  · exact .inr (.inl hk)
  · exact .inr (.inr (.inr ⟨hm, .inr hk⟩))
end Go.Proofs.YtefccfakhgdfbabGreatDoor
end
