/-
  The walk of tilesref.Unbundle.
  clear on slices of the call's own; the walks of plain.spoil, plain.Unbundle, plain.Bundle.
  What stands while blocks of other kinds turn. No walk.
  plain's publisher: Open, OpenNone, and a Log's Size, Append, Publish. Conditions: those of the publisher's own functions.
  What a publishing keeps, as tileslaw's kept and there look at it: plain. Conditions: each path stands once.
-/
import Derived.Test.YtefccfakhgdfbabGreatDoorPb09
import Derived.Test.YtefccfakhgdfbabGreatDoorPb05
import Derived.Test.YtefccfakhgdfbabGreatDoorPb19
import Derived.Test.YtefccfakhgdfbabGreatDoorPb11
import Derived.Test.YtefccfakhgdfbabGreatDoorPb29
import Derived.Test.YtefccfakhgdfbabGreatDoorPb32
import Derived.Test.YtefccfakhgdfbabGreatDoorPb12
set_option linter.unusedVariables false
set_option linter.unusedSimpArgs false
section
namespace Go.Proofs.YtefccfakhgdfbabGreatDoor
open Go.RowKit
def runbPost (data : List UInt8) (w : World) (e : Ending) (w' : World) : Prop :=
  ∃ v', e = .returned (.tuple #[v', .bool (unbundleOf data).isSome]) ∧ Below w.heap.size w w' ∧ ((unbundleOf data = none ∧ v' = .slice none 0 0) ∨ ∃ ss, unbundleOf data = some (bss ss) ∧ OwnStrs w' w.heap.size v' ss)
theorem bundle_eq {ls : List (List UInt8)} {l : List UInt8} (h : bundleOf ls = some l) : l = ls.flatMap encE := by
  unfold bundleOf at h
  split at h
  · cases h
  · split at h
    · cases h; rfl
    · cases h
theorem toList_extract (s : ByteArray) (i j : Nat) : (s.extract i j).data.toList = (s.data.toList.drop i).take (j - i) := by
  simp [List.extract]
theorem runb_cut {s : ByteArray} {x : UInt8} {r : List UInt8} {n : Nat} (h : s.data.toList = x :: r) (hn : n ≤ r.length) : (s.extract 1 (1 + n)).data.toList = r.take n ∧ (s.extract (1 + n) s.size).data.toList = r.drop n ∧ (s.extract (1 + n) s.size).size = s.size - (1 + n) := by
  have hl : s.data.toList.length = s.size := rfl
  have hl2 : r.length + 1 = s.size := by rw [← hl, h]; rfl
  refine ⟨?_, ?_, ?_⟩
  · rw [toList_extract, h, show 1 + n - 1 = n from by omega]; rfl
  · rw [toList_extract, h, show 1 + n = n + 1 from by omega, List.drop_succ_cons]
    exact List.take_of_length_le (by simp; omega)
  · simp
set_option maxHeartbeats 1000000 in
theorem runbundle_any (s0 : ByteArray) (w : World) (hn : s0.size ≤ 1099511627776) :
    Calls Tryz.prog 166 #[.string s0] w (runbPost s0.data.toList w) := by
  obtain ⟨i0, hi, hz0, hz1, hz2⟩ := info_parts info_str
  go_enter Tryz.func166, Tryz.ntmps166
  go_wp2
  go_loopw [0, 4] (fun sv lv wr => ∃ (s : ByteArray) (ss : List ByteArray), sv = .string s ∧ OwnStrs wr w.heap.size lv ss ∧ Read s0.data.toList (bss ss) s.data.toList ∧ ss.length + s.size ≤ s0.size ∧ Below w.heap.size w wr) (fun sv _ _ => match sv with | .string s => s.size | _ => 0)
  case atStart => exact ⟨s0, [], rfl, World.ownsRow_nil _ _ _ _, Read.start _, by simp, Below.refl _ _⟩
  case round =>
    obtain ⟨s, ss, rfl, hown, hread, hsz, hbel⟩ := hrel
    have HR := Lib.hid hread
    have HB := Lib.hid hbel
    unfold OwnStrs at hown
    have HO := Lib.hid hown
    clear hread hbel hown
    by_cases h0 : 0 < s.size
    · have hd : decide (0 < (s.size : Int)) = true := by simp; omega
      obtain ⟨x, r, hxr⟩ : ∃ x r, s.data.toList = x :: r := by
        cases h : s.data.toList with
        | nil =>
          have hl : s.data.toList.length = s.size := rfl
          rw [h] at hl
          simp at hl
          omega
        | cons x r => exact ⟨x, r, rfl⟩
      have hx8 : x.toNat < 256 := x.toNat_lt
      have hx : s[0]'h0 = x := by
        have : s.data.toList[0]'(by rw [hxr]; simp) = x := by simp [hxr]
        exact this
      have hrl : r.length + 1 = s.size := by
        have hl : s.data.toList.length = s.size := rfl
        rw [← hl, hxr]; rfl
      have HXR := Lib.hid hxr
      have hrl1 : r.length + 1 ≤ s.size := by omega
      have hrl2 : s.size ≤ r.length + 1 := by omega
      have HRL := Lib.hid hrl
      obtain ⟨n, hxn⟩ : ∃ n, n = x.toNat := ⟨_, rfl⟩
      rw [← hxn] at hx8
      have hx' : (s[0]'h0).toNat = n := by rw [hx, ← hxn]
      have HX := Lib.hid hxn
      clear hxr hrl hx hxn
      have hread := HR.out
      rw [HXR.out] at hread
      have HR1 := Lib.hid hread
      clear hread
      by_cases hA : r.length < n
      · have d1 : decide ((s.size : Int) < 1 + (n : Int)) = true := by simp; omega
        go_wp2
        go_ret2
        have hu := unbundle_bad (HR1.out.bad (by rw [← HX.out]; exact hA))
        exact ⟨_, by rw [hu]; rfl, HB.out, .inl ⟨hu, rfl⟩⟩
      · have d1 : decide ((s.size : Int) < 1 + (n : Int)) = false := by simp; omega
        have hcut := runb_cut HXR.out (show n ≤ r.length by omega)
        have HCUT := Lib.hid hcut
        have hread2 := HR1.out.step (by rw [← HX.out]; omega)
        rw [← HX.out] at hread2
        have HR2 := Lib.hid hread2
        clear hcut hread2
        go_wp2_with (first | (at_builtin; refine wpList_app1 rfl _ _ 22 rfl w.heap.size 9 i0 (.string ⟨#[]⟩) 16 Tryz.underlying22 hi hz0 hz1 hz2 rfl (by decide) _ _ _ rfl HO.out _ rfl rfl (by omega) HB.out.size ?_; intro v2 w2 hr2 hg2 hne2; have HRR2 := Lib.hid hr2; have HG2 := Lib.hid hg2; clear hr2 hg2 hne2))
        obtain ⟨hc1, hc2, hc3⟩ := HCUT.out
        go_roundw
        case rel =>
          refine ⟨_, ss ++ [s.extract 1 (1 + n)], rfl, ?_, ?_, ?_, HB.out.grown HG2.out HB.out.size (fun j hj => (HO.out.lt j hj).1)⟩
          · unfold OwnStrs
            simpa using HRR2.out
          · rw [hc2]
            have e : bss (ss ++ [s.extract 1 (1 + n)]) = bss ss ++ [r.take n] := by simp only [bss, List.map_append, List.map_cons, List.map_nil, hc1]
            rw [e]
            exact HR2.out
          · rw [hc3, List.length_append]
            simp
            omega
        case measure =>
          show (s.extract (1 + n) s.size).size < s.size
          rw [hc3]
          omega
    · have hd : decide (0 < (s.size : Int)) = false := decide_eq_false (by omega)
      have hsz0 : s.data.toList.length = 0 := by
        have hl : s.data.toList.length = s.size := rfl
        rw [hl]; omega
      have hnil : s.data.toList = [] := List.eq_nil_of_length_eq_zero hsz0
      clear hsz0
      have HN := Lib.hid hnil
      clear hnil
      have hraw : rawU s0.data.toList = some (bss ss) := by have := HR.out; rw [HN.out] at this; exact this.done
      have HRAW := Lib.hid hraw
      clear hraw
      have hstr : StrsAt wr u4 ss := ownsRow_cells HO.out
      have HST := Lib.hid hstr
      clear hstr
      go_wp2_with fail
      refine (rbundle_any u4 ss _ HST.out (by omega)).mono ?_
      rintro e w1 ⟨rfl, hb1⟩
      have HB1 := Lib.hid hb1
      clear hb1
      cases hbo : bundleOf (bss ss) with
      | none =>
        go_wp2
        go_ret2
        have hu : unbundleOf s0.data.toList = none := by unfold unbundleOf; rw [HRAW.out, Option.bind_some, hbo]; rfl
        exact ⟨_, by rw [hu]; rfl, HB.out.trans (HB1.out.mono HB.out.size), .inl ⟨hu, rfl⟩⟩
      | some l =>
        have hl : l = s0.data.toList := by rw [← unbundle_flat HRAW.out]; exact bundle_eq hbo
        have ht : (⟨((some l).getD []).toArray⟩ : ByteArray) = s0 := by rw [Option.getD_some, hl]
        have hu : unbundleOf s0.data.toList = some (bss ss) := by unfold unbundleOf; rw [HRAW.out, Option.bind_some, hbo]; rfl
        have HU := Lib.hid hu
        rw [ht]
        clear hl ht hu hbo
        go_wp2
        go_ret2
        exact ⟨_, by rw [HU.out]; rfl, HB.out.trans (HB1.out.mono HB.out.size), .inr ⟨ss, HU.out, ownsRow_below HO.out HB1.out⟩⟩
end Go.Proofs.YtefccfakhgdfbabGreatDoor
end

section
namespace Go.Proofs.YtefccfakhgdfbabGreatDoor
open Go.RowKit
/-- 'clear(b)' of bytes of the call's own: only their block turns. -/
theorem wpList_clearB {P : Program} {ops : Array Oper} {rest : List Oper} {o : Oper} {a : Act} {Q : Exit → Act → World → Prop} {w : World} (hgd : o.guard = none) (x : Operand) (t : TypeId)
    (ho : o.op = .call { callee := .builtin .clear, args := #[x], argTypes := #[t] }) (i : TypeInfo) (ht : P.underlying t = some (.slice 5)) (hi : P.info? 5 = some i) (hz : i.zero = some (.int .u8 0))
    (base : Nat) (v : Value) (l : List UInt8) (hx : a.eval x = v) (hown : OwnBytes w base v l)
    (h : ∀ w' n, w.grownBy w' v.ownBlock → (∀ k, k < w.heap.size → (∃ C C' fz, w.heap[k]? = some (.cells C 5 fz) ∧ w'.heap[k]? = some (.cells C' 5 fz) ∧ C'.size = C.size) ∨ w'.heap[k]? = w.heap[k]?) → w'.heap.size = w.heap.size → wpList P ops Q rest (a.put o.dst n) w') : wpList P ops Q (o :: rest) a w := by
  refine wpList_plain hgd fun K hK => ?_
  have noop : (Builtin.clear_ #[t] o.type #[v]).run P w = .ok (.tuple #[]) w → o.wp P a w K Q := fun hr => by
    unfold Oper.wp execOp
    simp only [ho, resolve, invoke, builtin, Sem.run_bind, Sem.run_pure, Result.andThen_ok, List.map_toArray, List.map_cons, List.map_nil, hx, hr]
    exact hK _ _ (h w _ ⟨rfl, rfl, rfl, Nat.le_refl _, fun _ _ _ => rfl⟩ (fun _ _ => .inr rfl) rfl)
  rcases hown with ⟨rfl, rfl⟩ | ⟨b, off, c, C, fz, rfl, hcap, hb, hg, hc, hsz, hf⟩
  · exact noop (by simp [Builtin.clear_, run_underlying ht])
  · by_cases h0 : l.length = 0
    · obtain rfl : l = [] := List.eq_nil_of_length_eq_zero h0
      exact noop (by simp [Builtin.clear_, run_underlying ht])
    · obtain ⟨cur', hrun, hs⟩ := run_storeCells_any (P := P) b off 5 fz ((Builtin.zeroCells #[Value.int .u8 0] l.length).toList) 0 C w hg (by simp [Builtin.zeroCells]; omega) hf (fun u hu => by
        simp [Builtin.zeroCells] at hu
        obtain ⟨k, hk, rfl⟩ := hu
        simp [Nat.mod_one, Value.oneCell'])
      have hr : (Builtin.clear_ #[t] o.type #[.slice (some ⟨b, off, none⟩) l.length c]).run P w = .ok (.tuple #[]) (w.setRow b cur') := by
        cases hl : l.length with
        | zero => exact absurd hl h0
        | succ n =>
          rw [hl] at hrun
          simp [Builtin.clear_, run_underlying ht, zeroValue, typeInfo, hi, hz, Value.cells, hrun]
      unfold Oper.wp execOp
      simp only [ho, resolve, invoke, builtin, Sem.run_bind, Sem.run_pure, Result.andThen_ok, List.map_toArray, List.map_cons, List.map_nil, hx, hr]
      refine hK _ _ (h _ _ (setRow_grown w b cur') (fun k hk => ?_) (by simp))
      by_cases hkb : k = b
      · subst hkb
        exact .inl ⟨C, cur', fz, hg, setRow_heap w k _ _ _ _ hg, hs⟩
      · exact .inr (setRow_other w b k cur' hkb)
theorem OwnBss.grownAway {w w' : World} {base base' : Nat} {v u : Value} {ls : List (List UInt8)} (h : OwnBss w base v ls) (hg : w.grownBy w' u.ownBlock) (hu : ∀ k, u.ownBlock = some k → k < base) (hb : base' ≤ base) : OwnBss w' base' v ls := by
  obtain ⟨vs, hrow, hall⟩ := h
  have hk : ∀ k, base ≤ k → k < w.heap.size → w'.heap[k]? = w.heap[k]? := fun k h1 h2 => hg.block k h2 (fun e => by have := hu k e.symm; omega)
  refine ⟨vs, ?_, fun j x l hx hl => ?_⟩
  · refine ⟨hrow.1, ?_⟩
    rcases hrow.2 with h2 | ⟨g, cap, cur, hv, hbg, hh, r⟩
    · exact .inl h2
    · exact .inr ⟨g, cap, cur, hv, Nat.le_trans hb hbg, (hk g hbg (lt_of_heap hh)).trans hh, r⟩
  · rcases hall j x l hx hl with h1 | ⟨b, off, c, C, fz, h1, h0, h2, h3, h4⟩
    · exact .inl h1
    · exact .inr ⟨b, off, c, C, fz, h1, h0, Nat.le_trans hb h2, (hk b h2 (lt_of_heap h3)).trans h3, h4⟩
def pbPost (ls : List (List UInt8)) (w : World) (e : Ending) (w' : World) : Prop :=
  e = .returned (.tuple #[.string ⟨((bundleOf ls).getD []).toArray⟩, .bool (!(bundleOf ls).isSome)]) ∧ Below w.heap.size w w'
end Go.Proofs.YtefccfakhgdfbabGreatDoor
end

section
namespace Go.Proofs.YtefccfakhgdfbabGreatDoor
open Go.RowKit
/-- The blocks of S that are there are of these kinds. -/
def Kinds (w : World) (S : Nat → Prop) (ts : List TypeId) : Prop := ∀ k C t f, S k → w.heap[k]? = some (.cells C t f) → t ∈ ts
theorem kinds_not {w : World} {S : Nat → Prop} {ts : List TypeId} (h : Kinds w S ts) {k : Nat} {C : Array Value} {t : TypeId} {f : Nat × Nat} (hk : w.heap[k]? = some (.cells C t f)) (ht : t ∉ ts) : ¬ S k := fun hs => ht (h k C t f hs hk)
theorem kinds_one {w : World} {g : Nat} {C : Array Value} {t : TypeId} {f : Nat × Nat} (h : w.heap[g]? = some (.cells C t f)) : Kinds w (· = g) [t] := fun k C' t' f' hk hc => by
  subst hk
  rw [h] at hc
  cases hc
  exact List.mem_singleton.2 rfl
theorem kinds_row {w : World} {base : Nat} {e : TypeId} {size : Nat} {v : Value} {n : Nat} {xs : List Value} (h : w.ownsRow base e size v n xs) : Kinds w (fun k => v.ownBlock = some k) [e] := fun k C' t' f' hk hc => by
  obtain ⟨C, hC⟩ := ownBlock_type h hk
  rw [hC] at hc
  cases hc
  exact List.mem_singleton.2 rfl
theorem kinds_disk {w : World} {g : Nat} {v : Value} {d : Dk} (h : DiskAt w g v d) : Kinds w (dkS g v) [41, 73] := fun k C' t' f' hk hc => by
  rcases hk with hk | hk
  · have := kinds_one h.1 k C' t' f' hk hc
    simp at this ⊢
    exact .inl this
  · have := kinds_row h.2 k C' t' f' hk hc
    simp at this ⊢
    exact .inr this
def logTs : List TypeId := [138, 94, 104, 3, 109]
theorem kinds_log {w : World} {g gd : Nat} {ve vl vp : Value} {vs : List Value} {L : Lg} (h : LogIs w g gd ve vl vp vs L) : Kinds w (LogS g ve vl vp vs) logTs := fun k C' t' f' hk hc => by
  obtain ⟨C, t, h1, h2⟩ := h.kinds hk
  rw [h1] at hc
  cases hc
  unfold logTs
  simpa using h2
theorem Kinds.or {w : World} {S T : Nat → Prop} {a b : List TypeId} (h : Kinds w S a) (i : Kinds w T b) : Kinds w (fun k => S k ∨ T k) (a ++ b) := fun k C t f hk hc => by
  rcases hk with hk | hk
  · exact List.mem_append_left _ (h k C t f hk hc)
  · exact List.mem_append_right _ (i k C t f hk hc)
theorem DiskAt.kept {w w' : World} {S : Nat → Prop} {ts : List TypeId} {g : Nat} {v : Value} {d : Dk} (h : DiskAt w g v d) (hf : Fr S w w') (hS : Kinds w S ts) (h1 : 41 ∉ ts) (h2 : 73 ∉ ts) : DiskAt w' g v d :=
  h.fr hf fun k hk => by
    rcases hk with rfl | hk
    · exact kinds_not hS h.1 h1
    · obtain ⟨C, hC⟩ := ownBlock_type h.2 hk
      exact kinds_not hS hC h2
theorem row_kept {w w' : World} {S : Nat → Prop} {ts : List TypeId} {base : Nat} {e : TypeId} {size : Nat} {v : Value} {n : Nat} {xs : List Value} (h : w.ownsRow base e size v n xs) (hf : Fr S w w') (hS : Kinds w S ts) (h1 : e ∉ ts) : w'.ownsRow base e size v n xs :=
  ownsRow_fr h hf fun k hk => by
    obtain ⟨C, hC⟩ := ownBlock_type h hk
    exact kinds_not hS hC h1
theorem LogIs.kept {w w' : World} {S : Nat → Prop} {ts : List TypeId} {g gd : Nat} {ve vl vp : Value} {vs : List Value} {L : Lg} (h : LogIs w g gd ve vl vp vs L) (hf : Fr S w w') (hS : Kinds w S ts) (h1 : ∀ t ∈ logTs, t ∉ ts) (h2 : 5 ∉ ts) : LogIs w' g gd ve vl vp vs L :=
  h.fr hf (fun k hk => by
    obtain ⟨C, t, hC, ht⟩ := h.kinds hk
    exact kinds_not hS hC (h1 t (by unfold logTs; simpa using ht))) (fun k C fz hk => kinds_not hS hk h2)
theorem heap_kept {w w' : World} {S : Nat → Prop} {ts : List TypeId} {g : Nat} {C : Array Value} {t : TypeId} {f : Nat × Nat} (h : w.heap[g]? = some (.cells C t f)) (hf : Fr S w w') (hS : Kinds w S ts) (h1 : t ∉ ts) : w'.heap[g]? = some (.cells C t f) :=
  hf.heap h (kinds_not hS h h1)
/-- A variable that holds what an error is told as. -/
def ToldAt' (w : World) (g : Nat) (n : Int) (s : ByteArray) : Prop := w.heap[g]? = some (.cells #[.int .i64 n, .string s] 29 (0, 0))
theorem told_new (w : World) : ToldAt' (w.alloc (.cells #[.int .i64 0, .string ⟨#[]⟩] 29)) w.heap.size 0 ⟨#[]⟩ := heap_alloc_new w _
theorem ToldAt'.facts {w : World} {g : Nat} {n : Int} {s : ByteArray} (h : ToldAt' w g n s) : w.cell? ⟨g, 0, none⟩ = some (.int .i64 n) ∧ w.cell? ⟨g, 1, none⟩ = some (.string s) ∧ w.frozen? ⟨g, 0, none⟩ = false ∧ w.frozen? ⟨g, 1, none⟩ = false ∧ g < w.heap.size :=
  ⟨cell_heap h 0 rfl, cell_heap h 1 rfl, frozen_heap h 0, frozen_heap h 1, lt_of_heap h⟩
theorem ToldAt'.below {w w' : World} {g : Nat} {n : Int} {s : ByteArray} (h : ToldAt' w g n s) (hb : Below w.heap.size w w') : ToldAt' w' g n s := (hb.block g (lt_of_heap h)).trans h
theorem ToldAt'.kept {w w' : World} {S : Nat → Prop} {ts : List TypeId} {g : Nat} {n : Int} {s : ByteArray} (h : ToldAt' w g n s) (hf : Fr S w w') (hS : Kinds w S ts) (h1 : 29 ∉ ts) : ToldAt' w' g n s := heap_kept h hf hS h1
/-- What is told is stored. -/
theorem told_set {w : World} {g : Nat} {n m : Int} {s t : ByteArray} (h : ToldAt' w g n s) : ToldAt' ((w.setCell ⟨g, 0, none⟩ (.int .i64 m)).setCell ⟨g, 1, none⟩ (.string t)) g m t ∧ Fr (· = g) w ((w.setCell ⟨g, 0, none⟩ (.int .i64 m)).setCell ⟨g, 1, none⟩ (.string t)) :=
  ⟨(heap_setCell (heap_setCell h _) _).trans (by simp), (Fr.set1 w g 0 _).set 1 _⟩
end Go.Proofs.YtefccfakhgdfbabGreatDoor
end

section
namespace Go.Proofs.YtefccfakhgdfbabGreatDoor
open Go.RowKit
/-- plain's word for a publisher: a block with its address. -/
def PlIs (w : World) (gl g : Nat) : Prop := w.heap[gl]? = some (.cells #[.pointer (some ⟨g, 0, none⟩)] 93 (0, 0))
def popPost (w : World) (gd : Nat) (v : Value) (d : Dk) (key : ByteArray) (B : Nat) (e : Ending) (w' : World) : Prop :=
  ∃ d', DiskAt w' gd v d' ∧ Fr (· = gd) w w' ∧
    ((∃ p, Hurt B d d' ∧ e = .returned (.tuple #[.pointer none, toldV 8 p])) ∨
     (∃ (k : Nat) (p : ByteArray), Calm B d d' ∧ OpensTo d.files key (.bad k p) ∧ e = .returned (.tuple #[.pointer none, toldV k p])) ∨
     (∃ es n gl g, Calm B d d' ∧ OpensTo d.files key (.good es n) ∧ e = .returned (.tuple #[.pointer (some ⟨gl, 0, none⟩), toldV 0 ⟨#[]⟩]) ∧ PlIs w' gl g ∧ w.heap.size ≤ gl ∧ Fresh0 w gd key es g w'))
theorem Fresh0.kept {w w1 w2 : World} {gd g : Nat} {key : ByteArray} {es : List (List UInt8)} {S : Nat → Prop} {ts : List TypeId} (h : Fresh0 w gd key es g w1) (hf : Fr S w1 w2) (hS : Kinds w1 S ts) (h1 : ∀ t ∈ logTs, t ∉ ts) (h2 : 5 ∉ ts) : Fresh0 w gd key es g w2 := by
  obtain ⟨ve, vl, vs, a, b, c⟩ := h
  exact ⟨ve, vl, vs, a.kept hf hS h1 h2, b, c⟩
theorem Fresh0.below {w w1 w2 : World} {gd g : Nat} {key : ByteArray} {es : List (List UInt8)} (h : Fresh0 w gd key es g w1) (hb : Below w1.heap.size w1 w2) : Fresh0 w gd key es g w2 := by
  obtain ⟨ve, vl, vs, a, b, c⟩ := h
  exact ⟨ve, vl, vs, a.below hb, b, c⟩
/-- The end of a call that has told: from the world behind Of to that of the return. -/
theorem told_end {w w0 w1 w2 w3 : World} {gd : Nat} {v : Value} {d' : Dk} (hw0 : w0 = w.alloc (.cells #[.int .i64 0, .string ⟨#[]⟩] 29)) (hD : DiskAt w1 gd v d') (hF : Fr (· = gd) w0 w1) (hg : gd < w.heap.size) (hk : Kinds w0 (· = gd) [41]) (h2 : Below w1.heap.size w1 w2) :
    ToldAt' w2 w.heap.size 0 ⟨#[]⟩ ∧ ∀ n s, w3 = (w2.setCell ⟨w.heap.size, 0, none⟩ (.int .i64 n)).setCell ⟨w.heap.size, 1, none⟩ (.string s) → DiskAt w3 gd v d' ∧ Fr (· = gd) w w3 ∧ Fr (· = w.heap.size) w2 w3 ∧ Kinds w2 (· = w.heap.size) [29] := by
  have t0 : ToldAt' w0 w.heap.size 0 ⟨#[]⟩ := by rw [hw0]; exact told_new w
  have t1 : ToldAt' w1 w.heap.size 0 ⟨#[]⟩ := t0.kept hF hk (by decide)
  have t2 := t1.below h2
  refine ⟨t2, fun n s e => ?_⟩
  have ts := told_set (m := n) (t := s) t2
  rw [← e] at ts
  have hk2 := kinds_one t2
  refine ⟨(hD.below h2).kept ts.2 hk2 (by decide) (by decide), ?_, ts.2, hk2⟩
  have hb0 : Fr (· = gd) w w0 := by rw [hw0]; exact Fr.ofBelow (below_alloc w _)
  exact (hb0.trans (hF.trans (Fr.ofBelow h2))).step ts.2 fun k hk e => by subst e; omega
set_option maxRecDepth 100000 in
set_option maxHeartbeats 2000000 in
theorem popen_any (f : Nat → Addr) (w : World) (gd : Nat) (v : Value) (d : Dk) (key : ByteArray) (hD : DiskAt w gd v d) (N : Nat) (hE : EnvS f (· = gd) w) (hN : FewB d.files N) (hN2 : N ≤ 262144) (hc : d.calls < 900000000000) (hsz : ∀ b ∈ d.files, b.2.size ≤ 1048576) (hkey : key.size ≤ 1048600) :
    Calls Tryz.prog 10 #[.pointer (some ⟨gd, 0, none⟩), .string key] w (popPost w gd v d key (8 * N + 16)) := by
  obtain ⟨w0, hw0⟩ : ∃ w0, w0 = w.alloc (.cells #[.int .i64 0, .string ⟨#[]⟩] 29) := ⟨_, rfl⟩
  have hb0 : Below w.heap.size w w0 := by rw [hw0]; exact below_alloc w _
  have hE0 := hE.below hb0
  have hD0 := hD.below hb0
  have hg := hD.lt
  have hz0 : w.heap.size ≤ w0.heap.size := hb0.size
  have HK := Lib.hid (kinds_one hD0.1)
  have HE := Lib.hid hE0
  have HC := Lib.hid (topen_any f w0 gd v d key hD0 N hE0 hN hN2 hc hsz hkey)
  have HW0 := Lib.hid hw0
  clear hD hE hE0 hD0 hN hsz hb0
  go_enter Tryz.func10, Tryz.ntmps10
  go_wp2_with fail
  rw [← hw0]
  clear hw0
  go_at_call 36
  refine HC.out.mono ?_
  rintro e w1 ⟨d', hD', hF', h⟩
  have HD := Lib.hid hD'
  have HF := Lib.hid hF'
  have hE1 := HE.out.fr hF'
  have HE1 := Lib.hid hE1
  have hz1 := hF'.size
  clear hD' hF' hE1
  rcases h with ⟨q, m, r, p, h1, rfl, _, _, h2, h3⟩ | ⟨h1, h2, rfl⟩ | ⟨h1, h2, rfl⟩ | ⟨p, r, h1, h2, rfl, _, h3⟩ | ⟨es, n, g, h1, h2, rfl, h3⟩
  · have HX := Lib.hid (of_own f w1 HE1.out.sents HE1.out.errT r q p h3)
    have H1 := Lib.hid h1
    clear h1 h2 h3
    go_wp2_with (go_at_call 37; refine HX.out.mono ?_; rintro e w2 ⟨rfl, hb2⟩; have HB2 := Lib.hid hb2; clear hb2; obtain ⟨ht2, hen⟩ := told_end (w3 := (w2.setCell ⟨w.heap.size, 0, none⟩ (.int .i64 8)).setCell ⟨w.heap.size, 1, none⟩ (.string p)) HW0.out HD.out HF.out hg HK.out HB2.out; have HEN := Lib.hid (hen 8 p rfl); obtain ⟨t0, t1, t2, t3, t4⟩ := ht2.facts; clear ht2 hen)
    refine bodyPost_ret (v := .tuple #[.pointer none, toldV 8 p]) (by simp [results, Tryz.results10, go_sem, t0, t1]) rfl ⟨d', HEN.out.1, HEN.out.2.1, .inl ⟨p, H1.out, rfl⟩⟩
  · have hx0 := of_sent f w1 HE1.out.sents 2 (by decide) (by decide)
    rw [show ((ofCode 2 : Nat) : Int) = 3 from rfl] at hx0
    have HX := Lib.hid hx0
    clear hx0
    have H1 := Lib.hid h1
    have H2 := Lib.hid h2
    clear h1 h2
    go_wp2_with (go_at_call 37; refine HX.out.mono ?_; rintro e w2 ⟨rfl, hb2⟩; have HB2 := Lib.hid hb2; clear hb2; obtain ⟨ht2, hen⟩ := told_end (w3 := (w2.setCell ⟨w.heap.size, 0, none⟩ (.int .i64 3)).setCell ⟨w.heap.size, 1, none⟩ (.string ⟨#[]⟩)) HW0.out HD.out HF.out hg HK.out HB2.out; have HEN := Lib.hid (hen 3 _ rfl); obtain ⟨t0, t1, t2, t3, t4⟩ := ht2.facts; clear ht2 hen)
    refine bodyPost_ret (v := .tuple #[.pointer none, toldV 3 ⟨#[]⟩]) (by simp [results, Tryz.results10, go_sem, t0, t1]) rfl ⟨d', HEN.out.1, HEN.out.2.1, .inr (.inl ⟨3, _, H1.out, H2.out, rfl⟩)⟩
  · have hx0 := of_sent f w1 HE1.out.sents 4 (by decide) (by decide)
    rw [show ((ofCode 4 : Nat) : Int) = 5 from rfl] at hx0
    have HX := Lib.hid hx0
    clear hx0
    have H1 := Lib.hid h1
    have H2 := Lib.hid h2
    clear h1 h2
    go_wp2_with (go_at_call 37; refine HX.out.mono ?_; rintro e w2 ⟨rfl, hb2⟩; have HB2 := Lib.hid hb2; clear hb2; obtain ⟨ht2, hen⟩ := told_end (w3 := (w2.setCell ⟨w.heap.size, 0, none⟩ (.int .i64 5)).setCell ⟨w.heap.size, 1, none⟩ (.string ⟨#[]⟩)) HW0.out HD.out HF.out hg HK.out HB2.out; have HEN := Lib.hid (hen 5 _ rfl); obtain ⟨t0, t1, t2, t3, t4⟩ := ht2.facts; clear ht2 hen)
    refine bodyPost_ret (v := .tuple #[.pointer none, toldV 5 ⟨#[]⟩]) (by simp [results, Tryz.results10, go_sem, t0, t1]) rfl ⟨d', HEN.out.1, HEN.out.2.1, .inr (.inl ⟨5, _, H1.out, H2.out, rfl⟩)⟩
  · have HX := Lib.hid (of_tile f w1 HE1.out.sents r p h3)
    have H1 := Lib.hid h1
    have H2 := Lib.hid h2
    clear h1 h2 h3
    go_wp2_with (go_at_call 37; refine HX.out.mono ?_; rintro e w2 ⟨rfl, hb2⟩; have HB2 := Lib.hid hb2; clear hb2; obtain ⟨ht2, hen⟩ := told_end (w3 := (w2.setCell ⟨w.heap.size, 0, none⟩ (.int .i64 6)).setCell ⟨w.heap.size, 1, none⟩ (.string p)) HW0.out HD.out HF.out hg HK.out HB2.out; have HEN := Lib.hid (hen 6 p rfl); obtain ⟨t0, t1, t2, t3, t4⟩ := ht2.facts; clear ht2 hen)
    refine bodyPost_ret (v := .tuple #[.pointer none, toldV 6 p]) (by simp [results, Tryz.results10, go_sem, t0, t1]) rfl ⟨d', HEN.out.1, HEN.out.2.1, .inr (.inl ⟨6, _, H1.out, H2.out, rfl⟩)⟩
  · have HX := fun w2 (hb : Below w1.heap.size w1 w2) => of_nil f w2 (HE1.out.below hb).sents
    have HX := Lib.hid HX
    have H1 := Lib.hid h1
    have H2 := Lib.hid h2
    have H3 := Lib.hid h3
    clear h1 h2 h3
    go_wp2_with (go_at_call 37; refine (HX.out _ (below_alloc w1 _)).mono ?_; rintro e w2 ⟨rfl, hb2⟩; have HB2 := Lib.hid hb2; have HB3 := Lib.hid ((below_alloc w1 (.cells #[.pointer (some ⟨g, 0, none⟩)] 93)).trans (hb2.mono (by simp))); clear hb2; obtain ⟨ht2, hen⟩ := told_end (w3 := (w2.setCell ⟨w.heap.size, 0, none⟩ (.int .i64 0)).setCell ⟨w.heap.size, 1, none⟩ (.string ⟨#[]⟩)) HW0.out HD.out HF.out hg HK.out HB3.out; have HEN := Lib.hid (hen 0 _ rfl); obtain ⟨t0, t1, t2, t3, t4⟩ := ht2.facts; clear ht2 hen)
    refine bodyPost_ret (v := .tuple #[.pointer (some ⟨w1.heap.size, 0, none⟩), toldV 0 ⟨#[]⟩]) (by simp [results, Tryz.results10, go_sem, t0, t1]) rfl ⟨d', HEN.out.1, HEN.out.2.1, .inr (.inr ⟨es, n, w1.heap.size, g, H1.out, H2.out, rfl, ?_, Nat.le_trans hz0 hz1, ?_⟩)⟩
    · have hp : PlIs w2 w1.heap.size g := (HB2.out.block _ (by simp)).trans (heap_alloc_new w1 _)
      exact heap_kept hp HEN.out.2.2.1 HEN.out.2.2.2 (by decide)
    · obtain ⟨ve, vl, vs, a, b, c⟩ := (H3.out.below HB3.out).kept HEN.out.2.2.1 HEN.out.2.2.2 (by decide) (by decide)
      exact ⟨ve, vl, vs, a, Nat.le_trans hz0 b, fun k hk => Nat.le_trans hz0 (c k hk)⟩
theorem psize_any (w : World) (gl g gd : Nat) (ve vl vp : Value) (vs : List Value) (L : Lg) (hp : PlIs w gl g) (h : LogIs w g gd ve vl vp vs L) :
    Calls Tryz.prog 11 #[.pointer (some ⟨gl, 0, none⟩)] w fun e w' => e = .returned (.int .i64 L.entries.length) ∧ w = w' := by
  have c0 := cell_heap hp 0 rfl
  have HC := Lib.hid (lgSize_any w g gd ve vl vp vs L h)
  clear hp h
  go_enter Tryz.func11, Tryz.ntmps11
  go_wp2_with (go_at_call 38; refine HC.out.mono ?_; rintro e w' ⟨rfl, rfl⟩)
  go_ret
  exact ⟨rfl, rfl⟩
end Go.Proofs.YtefccfakhgdfbabGreatDoor
end

section
namespace Go.Proofs.YtefccfakhgdfbabGreatDoor
/-- Find and get are one. -/
theorem find_cases (l : List Fil) (p : ByteArray) : (findF l p = -1 ∧ getF l p = none) ∨ ∃ (k : Nat) (b : ByteArray), k < l.length ∧ findF l p = (k : Int) ∧ l[k]? = some (p, b) ∧ getF l p = some b := by
  by_cases h : findN l p < l.length
  · refine .inr ⟨findN l p, (l[findN l p]'h).2, h, by unfold findF; rw [if_pos h], ?_, getF_hit h⟩
    have h2 : (l[findN l p]'h).1 = p := by
      have := List.findIdx_getElem (w := h)
      exact of_decide_eq_true this
    rw [List.getElem?_eq_getElem h]
    exact congrArg some (Prod.ext h2 rfl)
  · exact .inl ⟨by unfold findF; rw [if_neg h], getF_miss h⟩
/-- A file of before is there still, or is the checkpoint. -/
theorem kept_old {l l' W : List Fil} {c : ByteArray} (h : KeptP l l' W c) (ho : Once l) {f : Fil} (hf : f ∈ l) : ∃ b, getF l' f.1 = some b ∧ (b = f.2 ∨ (f.1 = sOf kCp ∧ b = c)) := by
  have hg := once_get ho hf
  rcases h f.1 with e | ⟨e, _⟩ | ⟨e, e2⟩
  · exact ⟨f.2, e.trans hg, .inl rfl⟩
  · rw [hg] at e; cases e
  · exact ⟨c, e2, .inr ⟨e, rfl⟩⟩
/-- A file of behind was there, is wanted, or is the checkpoint. -/
theorem kept_new {l l' W : List Fil} {c : ByteArray} (h : KeptP l l' W c) (ho : Once l') (hW : OneOf W) {f : Fil} (hf : f ∈ l') : getF l f.1 ≠ none ∨ getF W f.1 = some f.2 ∨ (f.1 = sOf kCp ∧ f.2 = c) := by
  have hg := once_get ho hf
  rcases h f.1 with e | ⟨_, b, e1, e2⟩ | ⟨e, e2⟩
  · exact .inl (by rw [← e, hg]; simp)
  · rw [hg] at e2
    cases e2
    refine .inr (.inl ?_)
    cases hx : getF W f.1 with
    | none => exact absurd rfl (getF_none.1 hx _ e1)
    | some b => rw [hW _ _ _ e1 (getF_some hx)]
  · rw [hg] at e2
    cases e2
    exact .inr (.inr ⟨e, rfl⟩)
theorem kept_ext {l l' k k' W : List Fil} {c : ByteArray} (h : KeptP l l' W c) (e : getF k = getF l) (e' : getF k' = getF l') : KeptP k k' W c := fun p => by
  rw [e, e']
  exact h p
theorem kept_same {l l' W : List Fil} {c : ByteArray} (h : getF l' = getF l) : KeptP l l' W c := fun p => .inl (by rw [h])
end Go.Proofs.YtefccfakhgdfbabGreatDoor
end
