/-
  What slices of files and of steps read as, out of a row's condition. No walk.
  What the numerals' functions read of the world, out of a row's laid variables and the world's shape. No walk.
  What a row's laid variables give a walk: the numerals' tables, the sentinels, errors.errorType; and a world in which they are laid. No walk.
  The bridge for rows that list variables, with the world's shape handed on; with a specification's own condition, and without. No walk.
-/
import Derived.Test.YtefccfakhgdfbabGreatDoorPb43
import Derived.Test.YtefccfakhgdfbabGreatDoorPb45
import Derived.Deep.Slices
import Derived.Deep.Fields
import Derived.Test.YtefccfakhgdfbabGreatDoorPb06
import Derived.LaidSub
import Derived.Shelf.Vars
import Derived.Lib.LaidTab
import Derived.Test.YtefccfakhgdfbabGreatDoorPb07
import Derived.LaidHandle
import Derived.Lay
import Derived.LaidMore
import Derived.JoinedCond
set_option linter.unusedVariables false
set_option linter.unusedSimpArgs false
section
namespace Go.Proofs.YtefccfakhgdfbabGreatDoor
open Go.ChangeShapes Go.WideShapes Go.Deep Go.RowKit
theorem list_of {α : Type} (Q : Nat → α → Prop) : ∀ (n : Nat), (∀ i, i < n → ∃ x, Q i x) → ∃ l : List α, l.length = n ∧ ∀ i x, l[i]? = some x → Q i x
  | 0, _ => ⟨[], rfl, fun i x hx => by simp at hx⟩
  | n + 1, h => by
      obtain ⟨l, hl, hq⟩ := list_of Q n fun i hi => h i (by omega)
      obtain ⟨x, hx⟩ := h n (by omega)
      refine ⟨l ++ [x], by simp [hl], fun i y hy => ?_⟩
      rcases Nat.lt_or_ge i n with hi | hi
      · rw [List.getElem?_append_left (by omega)] at hy
        exact hq i y hy
      · rw [List.getElem?_append_right (by omega), hl] at hy
        have : i = n := by
          rcases Nat.eq_or_lt_of_le hi with e | e
          · exact e.symm
          · rw [List.getElem?_eq_none (by simp; omega)] at hy; cases hy
        subst this
        simp at hy
        subst hy
        exact hx
theorem take_one {cs : List Value} {k : Nat} {v : Value} (h : (cs.drop k).take 1 = [v]) : cs[k]? = some v := by
  have := congrArg (fun l : List Value => l[0]?) h
  simpa using this
variable {H : Type} {enc : TypeId × Value → H} {W : World} {v : Value} {d : DataW H} {p : List MemPlace}
theorem files_open (hv : ∃ a l c, v = .slice a l c) (h : DataW.Trod enc Tryz.prog W 0 (fun _ => true) true 39 v d p) : ∃ l : List Fil, FilesAt W v l ∧ l.length ≤ maxLen := by
  obtain ⟨a, l, c, rfl⟩ := hv
  obtain ⟨fuel, hf⟩ := h
  have hC : Tryz.prog.cellsOf 73 = 2 := by kernel_rfl
  have hS : Tryz.prog.cellsOf 9 = 1 := by kernel_rfl
  rcases open_slice Tryz.underlying39 hf with ⟨hcs, _⟩ | ⟨x, len, cap, m, n, D, Pl, hcs, _, hl, hm, hmm, _, hi⟩
  · simp [Value.cells] at hcs
    obtain ⟨rfl, rfl, rfl⟩ := hcs
    exact ⟨[], ⟨none, 0, rfl, Nat.le_refl _, fun j x hx => by simp at hx⟩, Nat.zero_le _⟩
  · simp [Value.cells] at hcs
    obtain ⟨rfl, rfl, rfl⟩ := hcs
    have key : ∀ i, i < l → ∃ f : Fil, W.cell? ((x.add (i * 2)).add 0) = some (.string f.1) ∧ W.cell? ((x.add (i * 2)).add 1) = some (.string f.2) := fun i hil => by
      obtain ⟨cs', hc, ht'⟩ := hi i (by rw [hmm]; simp; omega)
      obtain ⟨xs, n', _, _, _, hlen, hg⟩ := DataW.trod_struct Tryz.underlying73 ht'
      rw [hC] at hc
      obtain ⟨_, hcl, hat⟩ := World.cells?_some hc
      have g0 := (show DataW.trod enc Tryz.prog W 0 (fun _ => true) true n' 9 ((cs'.drop 0).take (Tryz.prog.cellsOf 9)) = xs[0]? from hg 0 _ rfl)
      have g1 := (show DataW.trod enc Tryz.prog W 0 (fun _ => true) true n' 9 ((cs'.drop 1).take (Tryz.prog.cellsOf 9)) = xs[1]? from hg 1 _ rfl)
      have hx0 : ∃ y, xs[0]? = some y := ⟨_, List.getElem?_eq_getElem (by rw [hlen]; decide)⟩
      have hx1 : ∃ y, xs[1]? = some y := ⟨_, List.getElem?_eq_getElem (by rw [hlen]; decide)⟩
      obtain ⟨y0, hy0⟩ := hx0
      obtain ⟨y1, hy1⟩ := hx1
      rw [hy0] at g0
      rw [hy1] at g1
      rw [hS] at g0 g1
      obtain ⟨s0, e0, _, _⟩ := DataW.trod_string Tryz.underlying9 g0
      obtain ⟨s1, e1, _, _⟩ := DataW.trod_string Tryz.underlying9 g1
      have c0 := (hat 0 (by decide)).trans (take_one e0)
      have c1 := (hat 1 (by decide)).trans (take_one e1)
      exact ⟨(s0, s1), c0, c1⟩
    obtain ⟨ls, hls, hq⟩ := list_of _ l key
    subst hls
    refine ⟨ls, ⟨some x, c, rfl, hl, fun j f hj => ?_⟩, Nat.le_trans hl hm⟩
    obtain ⟨k1, k2⟩ := hq j f hj
    obtain ⟨f0, z0, _⟩ := key 0 (by have := (List.getElem?_eq_some_iff.1 hj).1; omega)
    obtain ⟨b, off, spot⟩ := x
    have hspot : spot = none := by simpa [Addr.add] using World.cell?_spot z0
    subst hspot
    rw [Addr.add_lit, Addr.add_lit] at k1 k2
    exact ⟨b, off, rfl, by simpa using k1, k2⟩
theorem ops_open (hv : ∃ a l c, v = .slice a l c) (h : DataW.Trod enc Tryz.prog W 0 (fun _ => true) true 53 v d p) :
    ∃ l : List Op1, OpsAt W v l ∧ l.length ≤ maxLen ∧ ∀ o ∈ l, -9223372036854775808 ≤ o.a ∧ o.a ≤ 9223372036854775807 := by
  obtain ⟨a, l, c, rfl⟩ := hv
  obtain ⟨fuel, hf⟩ := h
  have hC : Tryz.prog.cellsOf 60 = 4 := by kernel_rfl
  have hS : Tryz.prog.cellsOf 9 = 1 := by kernel_rfl
  have hI : Tryz.prog.cellsOf 3 = 1 := by kernel_rfl
  have hB : Tryz.prog.cellsOf 4 = 1 := by kernel_rfl
  rcases open_slice Tryz.underlying53 hf with ⟨hcs, _⟩ | ⟨x, len, cap, m, n, D, Pl, hcs, _, hl, hm, hmm, _, hi⟩
  · simp [Value.cells] at hcs
    obtain ⟨rfl, rfl, rfl⟩ := hcs
    exact ⟨[], ⟨none, 0, rfl, Nat.le_refl _, fun j x hx => by simp at hx⟩, Nat.zero_le _, fun o ho => by cases ho⟩
  · simp [Value.cells] at hcs
    obtain ⟨rfl, rfl, rfl⟩ := hcs
    have key : ∀ i, i < l → ∃ o : Op1, (-9223372036854775808 ≤ o.a ∧ o.a ≤ 9223372036854775807) ∧ W.cell? ((x.add (i * 4)).add 0) = some (.int .i64 o.kind) ∧ W.cell? ((x.add (i * 4)).add 1) = some (.int .i64 o.a) ∧ W.cell? ((x.add (i * 4)).add 2) = some (.bool o.two) ∧ W.cell? ((x.add (i * 4)).add 3) = some (.string o.s) := fun i hil => by
      obtain ⟨cs', hc, ht'⟩ := hi i (by rw [hmm]; simp; omega)
      obtain ⟨xs, n', _, _, _, hlen, hg⟩ := DataW.trod_struct Tryz.underlying60 ht'
      rw [hC] at hc
      obtain ⟨_, hcl, hat⟩ := World.cells?_some hc
      have g0 := (show DataW.trod enc Tryz.prog W 0 (fun _ => true) true n' 3 ((cs'.drop 0).take (Tryz.prog.cellsOf 3)) = xs[0]? from hg 0 _ rfl)
      have g1 := (show DataW.trod enc Tryz.prog W 0 (fun _ => true) true n' 3 ((cs'.drop 1).take (Tryz.prog.cellsOf 3)) = xs[1]? from hg 1 _ rfl)
      have g2 := (show DataW.trod enc Tryz.prog W 0 (fun _ => true) true n' 4 ((cs'.drop 2).take (Tryz.prog.cellsOf 4)) = xs[2]? from hg 2 _ rfl)
      have g3 := (show DataW.trod enc Tryz.prog W 0 (fun _ => true) true n' 9 ((cs'.drop 3).take (Tryz.prog.cellsOf 9)) = xs[3]? from hg 3 _ rfl)
      have hx0 : ∃ y, xs[0]? = some y := ⟨_, List.getElem?_eq_getElem (by rw [hlen]; decide)⟩
      have hx1 : ∃ y, xs[1]? = some y := ⟨_, List.getElem?_eq_getElem (by rw [hlen]; decide)⟩
      have hx2 : ∃ y, xs[2]? = some y := ⟨_, List.getElem?_eq_getElem (by rw [hlen]; decide)⟩
      have hx3 : ∃ y, xs[3]? = some y := ⟨_, List.getElem?_eq_getElem (by rw [hlen]; decide)⟩
      obtain ⟨y0, hy0⟩ := hx0
      obtain ⟨y1, hy1⟩ := hx1
      obtain ⟨y2, hy2⟩ := hx2
      obtain ⟨y3, hy3⟩ := hx3
      rw [hy0] at g0
      rw [hy1] at g1
      rw [hy2] at g2
      rw [hy3] at g3
      rw [hI] at g0 g1
      rw [hB] at g2
      rw [hS] at g3
      obtain ⟨s0, e0, _, _⟩ := DataW.trod_int Tryz.underlying3 g0
      obtain ⟨s1, e1, _, w1⟩ := DataW.trod_int Tryz.underlying3 g1
      obtain ⟨s2, e2, _⟩ := DataW.trod_bool Tryz.underlying4 g2
      obtain ⟨s3, e3, _, _⟩ := DataW.trod_string Tryz.underlying9 g3
      have c0 := (hat 0 (by decide)).trans (take_one e0)
      have c1 := (hat 1 (by decide)).trans (take_one e1)
      have c2 := (hat 2 (by decide)).trans (take_one e2)
      have c3 := (hat 3 (by decide)).trans (take_one e3)
      exact ⟨⟨s0, s1, s2, s3⟩, int_bd w1, c0, c1, c2, c3⟩
    obtain ⟨ls, hls, hq⟩ := list_of _ l key
    subst hls
    refine ⟨ls, ⟨some x, c, rfl, hl, fun j f hj => ?_⟩, Nat.le_trans hl hm, fun o ho => ?_⟩
    · obtain ⟨_, k1, k2, k3, k4⟩ := hq j f hj
      obtain ⟨f0, _, z0, _⟩ := key 0 (by have := (List.getElem?_eq_some_iff.1 hj).1; omega)
      obtain ⟨b, off, spot⟩ := x
      have hspot : spot = none := by simpa [Addr.add] using World.cell?_spot z0
      subst hspot
      rw [Addr.add_lit, Addr.add_lit] at k1 k2 k3 k4
      exact ⟨b, off, rfl, by simpa using k1, k2, k3, k4⟩
    · obtain ⟨j, hj⟩ := List.mem_iff_getElem?.1 ho
      exact (hq j o hj).1
end Go.Proofs.YtefccfakhgdfbabGreatDoor
end

section
namespace Go.Proofs.YtefccfakhgdfbabGreatDoor
open Go.RowKit
theorem env_of {W : World} {r r' : List (String × DataW Unit)} (h1 : laidMet Tryz.prog (("internal/strconv.uint64pow10", Rows.laid_internal_strconv_uint64pow10) :: r) W)
    (h2 : laidMet Tryz.prog (("strconv.ErrRange", Rows.laid_strconv_ErrRange) :: ("strconv.ErrSyntax", Rows.laid_strconv_ErrSyntax) :: r') W) (hsh : W.ShapedOpen Tryz.prog) : NumEnv W := by
  have htab : Lib.TabIs Tryz.prog W "internal/strconv.uint64pow10" .u64 Lib.pow10Tab := Lib.tabIs_of_head (g := 12) (t := 342) (by kernel_rfl) (by kernel_rfl) Tryz.underlying342 Tryz.underlying210 (by kernel_rfl) (by kernel_rfl) h1
  obtain ⟨a2, s2⟩ := sent_head (g := 10) h2 (by kernel_rfl) (by kernel_rfl)
  obtain ⟨a1, s1⟩ := sent_head (g := 9) h2.tail (by kernel_rfl) (by kernel_rfl)
  have hm := cell_of_shapedOpen_int (P := Tryz.prog) (g := 11) (t := 3) (zero := #[.int .i64 0]) hsh (of_decide_eq_true (by kernel_rfl)) (by kernel_rfl) rfl (by kernel_rfl) (by kernel_rfl) Tryz.underlying3
  exact ⟨htab, hm, ⟨_, s1.1, .inr ⟨_, _, rfl⟩⟩, ⟨_, s2.1, .inr ⟨_, _, rfl⟩⟩⟩
end Go.Proofs.YtefccfakhgdfbabGreatDoor
end

section
namespace Go.Proofs.YtefccfakhgdfbabGreatDoor
open Go.RowKit
theorem sents_of {W : World} {r : List (String × DataW Unit)} (h : laidMet Tryz.prog (("tiles/api.ErrEntry", Rows.laid_tiles_api_ErrEntry) :: ("tiles/api.ErrRange", Rows.laid_tiles_api_ErrRange) :: ("tiles/api.ErrCheckpoint", Rows.laid_tiles_api_ErrCheckpoint) :: ("tiles/api.ErrOld", Rows.laid_tiles_api_ErrOld) ::
    ("tiles/api.ErrProof", Rows.laid_tiles_api_ErrProof) :: ("tiles/api.ErrTile", Rows.laid_tiles_api_ErrTile) :: ("tiles/api.ErrFailed", Rows.laid_tiles_api_ErrFailed) :: r) W) : ∃ f, Sents W f := by
  obtain ⟨a0, h0⟩ := sent_head (text := sTexts.getD 0 []) (g := 3) h (by kernel_rfl) (by kernel_rfl)
  have h := h.tail
  obtain ⟨a1, h1⟩ := sent_head (text := sTexts.getD 1 []) (g := 4) h (by kernel_rfl) (by kernel_rfl)
  have h := h.tail
  obtain ⟨a2, h2⟩ := sent_head (text := sTexts.getD 2 []) (g := 1) h (by kernel_rfl) (by kernel_rfl)
  have h := h.tail
  obtain ⟨a3, h3⟩ := sent_head (text := sTexts.getD 3 []) (g := 5) h (by kernel_rfl) (by kernel_rfl)
  have h := h.tail
  obtain ⟨a4, h4⟩ := sent_head (text := sTexts.getD 4 []) (g := 2) h (by kernel_rfl) (by kernel_rfl)
  have h := h.tail
  obtain ⟨a5, h5⟩ := sent_head (text := sTexts.getD 5 []) (g := 6) h (by kernel_rfl) (by kernel_rfl)
  have h := h.tail
  obtain ⟨a6, h6⟩ := sent_head (text := sTexts.getD 6 []) (g := 0) h (by kernel_rfl) (by kernel_rfl)
  refine ⟨fun i => [a0, a1, a2, a3, a4, a5, a6].getD i a0, fun i hi => ?_⟩
  have : i = 0 ∨ i = 1 ∨ i = 2 ∨ i = 3 ∨ i = 4 ∨ i = 5 ∨ i = 6 := by omega
  rcases this with rfl | rfl | rfl | rfl | rfl | rfl | rfl <;> assumption
theorem errTypeAt : Tryz.prog.globalNamed "errors.errorType" = some 7 := by kernel_rfl
theorem rtypeAt : (Tryz.prog.cutTypes.find? (·.1 == "internal/reflectlite.rtype")).map (·.2) = some 282 := by kernel_rfl
theorem errorRow : ((List.range Tryz.prog.types.size).filter fun t => Tryz.prog.rowNamed t [101, 114, 114, 111, 114]) = [88] := by kernel_rfl
theorem errorHandle : typeHandle Tryz.prog 88 = .pointer (some ⟨17, 88, none⟩) := by kernel_rfl
theorem errT_of {W : World} (h : handlesMet Tryz.prog [("errors.errorType", Rows.laid_errors_errorType)] W) : ErrT W := by
  obtain ⟨name, u, ty, e1, e2, e3, e4, e5⟩ := h _ (List.mem_singleton.2 rfl)
  have en : name = [101, 114, 114, 111, 114] := (Option.some.inj e1).symm
  subst en
  obtain rfl := Option.some.inj (rtypeAt.symm.trans e2)
  have hm : ty ∈ (List.range Tryz.prog.types.size).filter fun t => Tryz.prog.rowNamed t [101, 114, 114, 111, 114] := List.mem_filter.2 ⟨List.mem_range.2 e3, e4⟩
  rw [errorRow] at hm
  obtain rfl := List.mem_singleton.1 hm
  rw [errorHandle] at e5
  have := World.var?_cell errTypeAt e5 0
  simpa [ErrT] using this
/-- A world in which errors.errorType holds its handle. -/
noncomputable def handleWorld (os : Os) : World :=
  let w0 := World.holding Tryz.prog os ⟨#[], #[], []⟩
  { w0 with heap := w0.heap.modify 7 fun
      | .cells _ t frozen => .cells #[.iface 282 (.agg #[.pointer (some ⟨17, 88, none⟩)])] t frozen
      | o => o }
/-- .. and the listed variables what they hold. -/
noncomputable def laidH (os : Os) (laid : List (String × DataW Unit)) : World := (handleWorld os).layVars Tryz.prog (laid.filter fun x => x.2.handleName?.isNone)
theorem laidH_os (os : Os) (laid : List (String × DataW Unit)) : (laidH os laid).os = os := World.layVars_os _ _ _
theorem laidMetH_laidH {os : Os} {laid : List (String × DataW Unit)} (args : Array Value)
    (hf : (handleWorld os).layFits Tryz.prog (laid.filter fun x => x.2.handleName?.isNone) [] = true)
    (hi : (handleWorld os).layIfaces Tryz.prog (laid.filter fun x => x.2.handleName?.isNone) (laidH os laid) = true)
    (hh : (laid.filter fun x => x.2.handleName?.isSome).all (handleAtB Tryz.prog ((laidH os laid).forCall (fun _ _ => 0) ⟨#[], args, []⟩).memory) = true) :
    laidMetH Tryz.prog laid ((laidH os laid).forCall (fun _ _ => 0) ⟨#[], args, []⟩).memory := by
  refine laidMetH_of_parts ?_ hh
  generalize hl : (laid.filter fun x => x.2.handleName?.isNone) = l at hf hi
  have e1 : (l.filter fun x => (l.map (·.1)).contains x.1) = l := List.filter_eq_self.2 fun x hx => List.contains_iff_mem.2 (List.mem_map.2 ⟨x, hx, rfl⟩)
  have e2 : (l.filter fun x => !(l.map (·.1)).contains x.1) = [] := List.filter_eq_nil_iff.2 fun x hx => by rw [List.contains_iff_mem.2 (List.mem_map.2 ⟨x, hx, rfl⟩)]; simp
  have h : laidMet Tryz.prog l (laidH os laid) := laidMet_layVars (w0 := handleWorld os) (l.map (·.1)) [] (by rw [e1]; unfold laidH; rw [hl]) (by rw [e1]; exact hf) (by rw [e1]; exact hi) (by rw [e2]; exact LaidIn.none)
  exact h.of_heap (by simp [World.memory, World.forCall, Input.heap])
end Go.Proofs.YtefccfakhgdfbabGreatDoor
end

section
namespace Go.Proofs.YtefccfakhgdfbabGreatDoor
open Go.ChangeShapes Go.RowKit
variable {H : Type} {enc : TypeId × Value → H}
theorem handed_cond_and {a : Assume} {C : Checked} {os : Os} {f : FuncId} {fn : Func} {s : OpenSpec} {k : (H : Type) → List (DataW H) → Bool} (hk : s.cond = some k) {F : Stop.Interp} {conds : List PathCond} {apart fresh handsOn again : Bool} {X : World → Array Value → Prop}
    (hX : ∀ (w w' : World) (args : Array Value), w.heap = w'.heap → X w args → X w' args)
    (own : ownKnob C.prog.godebug = none) (started : os.Started) (noInit : C.prog.inits.idxOf? f = none) (hfn : C.prog.funcs[f]? = some fn)
    (witness : ∃ (w : World) (tape : Tape) (i : Input), w.os = os ∧ (w.forCall tape i).Shaped C.prog ∧ i.vars = [] ∧ Input.okWide C.prog (w.forCall tape i) .any w.heap.size f i ∧
      ((s.pre enc C.prog fn conds apart (w.forCall tape i).memory i.args ∧ X (w.forCall tape i).memory i.args) ∧ sizedMet enc C.prog fn s apart (w.forCall tape i).memory i.args) ∧ a.holds C.prog (lone (Frame.enter C.prog f i.args .normal) [] (w.forCall tape i)))
    (contract : ∀ (W : World) (base : Nat) (args : Array Value) (ds gs : List (DataW H)) (before : List MemPlace),
      (∀ (j : Nat) t v, fn.params[j]? = some t → args[j]? = some v → Value.okWide C.prog W .any base t v) →
      DataW.Whole enc C.prog fn.params.toList s.vars apart W args.toList ds gs before →
      k H (ds ++ gs) = true → W.ShapedOpen C.prog → X W args →
      Calls C.prog f args W fun e W' => ∃ v, e = .returned v ∧ (s.at F).post enc C.prog fn apart fresh handsOn again W args v W') :
    ReturnsInHanded a C os f .any (fun w args => (s.pre enc C.prog fn conds apart w args ∧ X w args) ∧ sizedMet enc C.prog fn s apart w args) ((s.at F).post enc C.prog fn apart fresh handsOn again) := by
  refine returnsInHanded_of_calls own started noInit witness ?_
  intro w tape i _ hsh _ hok hpre _
  obtain ⟨_, _, _, fn', hfn', _, _, _, _, hval⟩ := hok
  have e : fn' = fn := Option.some.inj (hfn'.symm.trans hfn)
  subst e
  obtain ⟨⟨hp, hx⟩, _⟩ := hpre
  obtain ⟨ds, gs, before, hw, _, hkk⟩ := (OpenSpec.pre_some hk conds apart _ _).1 hp
  have hw' := DataW.Whole.of_heap (w' := w.forCall tape i) (by rfl) hw
  refine (contract (w.forCall tape i) w.heap.size i.args ds gs before hval hw' hkk hsh (hX _ _ _ (by rfl) hx)).mono fun e W' ⟨v, he, hp⟩ => ?_
  subst he
  exact ChangeSpec.post_blind hp
theorem handed_shaped_and {a : Assume} {C : Checked} {os : Os} {f : FuncId} {fn : Func} {s : ChangeSpec} {conds : List PathCond} {apart fresh handsOn again : Bool} {X : World → Array Value → Prop}
    (hX : ∀ (w w' : World) (args : Array Value), w.heap = w'.heap → X w args → X w' args)
    (own : ownKnob C.prog.godebug = none) (started : os.Started) (noInit : C.prog.inits.idxOf? f = none) (hfn : C.prog.funcs[f]? = some fn)
    (witness : ∃ (w : World) (tape : Tape) (i : Input), w.os = os ∧ (w.forCall tape i).Shaped C.prog ∧ i.vars = [] ∧ Input.okWide C.prog (w.forCall tape i) .any w.heap.size f i ∧
      ((s.pre enc C.prog fn conds apart (w.forCall tape i).memory i.args ∧ X (w.forCall tape i).memory i.args) ∧ sizedMet enc C.prog fn (OpenSpec.ofChange s) apart (w.forCall tape i).memory i.args) ∧ a.holds C.prog (lone (Frame.enter C.prog f i.args .normal) [] (w.forCall tape i)))
    (contract : ∀ (W : World) (base : Nat) (args : Array Value) (ds gs : List (DataW H)) (before : List MemPlace),
      (∀ (j : Nat) t v, fn.params[j]? = some t → args[j]? = some v → Value.okWide C.prog W .any base t v) →
      DataW.Whole enc C.prog fn.params.toList s.vars apart W args.toList ds gs before → W.ShapedOpen C.prog → X W args →
      Calls C.prog f args W fun e W' => ∃ v, e = .returned v ∧ s.post enc C.prog fn apart fresh handsOn again W args v W') :
    ReturnsInHanded a C os f .any (fun w args => (s.pre enc C.prog fn conds apart w args ∧ X w args) ∧ sizedMet enc C.prog fn (OpenSpec.ofChange s) apart w args) (s.post enc C.prog fn apart fresh handsOn again) := by
  refine returnsInHanded_of_calls own started noInit witness ?_
  intro w tape i _ hsh _ hok hpre _
  obtain ⟨_, _, _, fn', hfn', _, _, _, _, hval⟩ := hok
  have e : fn' = fn := Option.some.inj (hfn'.symm.trans hfn)
  subst e
  obtain ⟨⟨⟨ds, gs, before, hw, _⟩, hx⟩, _⟩ := hpre
  have hw' := DataW.Whole.of_heap (w' := w.forCall tape i) (by rfl) hw
  refine (contract (w.forCall tape i) w.heap.size i.args ds gs before hval hw' hsh (hX _ _ _ (by rfl) hx)).mono fun e W' ⟨v, he, hp⟩ => ?_
  subst he
  exact ChangeSpec.post_blind hp
theorem witness_cond {C : Checked} {os : Os} {f : FuncId} {fn : Func} {s : OpenSpec} {k : (H : Type) → List (DataW H) → Bool} (hk : s.cond = some k) {conds : List PathCond} {apart : Bool} {X : World → Array Value → Prop} (modest : Bool) (w0 : World) (args : Array Value) (fuel : Nat) (hos : w0.os = os)
    (hsh : (w0.forCall (fun _ _ => 0) ⟨#[], args, []⟩).Shaped C.prog)
    (hok : Input.okWideB C.prog (w0.forCall (fun _ _ => 0) ⟨#[], args, []⟩) f ⟨#[], args, []⟩ = true)
    {x : List (DataW H) × List (DataW H) × List MemPlace} (hx : DataW.whole enc C.prog (w0.forCall (fun _ _ => 0) ⟨#[], args, []⟩).memory fn.params.toList s.vars apart args.toList fuel = some x)
    (hconds : conds.all (PathCond.test C.prog ⟨fn.params.toList, x.1, s.bare.plain.varTypes C.prog, x.2.1⟩) = true) (hkk : k H (x.1 ++ x.2.1) = true)
    (hsz : s.bare.sizedB enc C.prog fn apart (w0.forCall (fun _ _ => 0) ⟨#[], args, []⟩).memory args fuel = true)
    (hX : X (w0.forCall (fun _ _ => 0) ⟨#[], args, []⟩).memory args) :
    ∃ (w : World) (tape : Tape) (i : Input), w.os = os ∧ (w.forCall tape i).Shaped C.prog ∧ i.vars = [] ∧ Input.okWide C.prog (w.forCall tape i) .any w.heap.size f i ∧
      ((s.pre enc C.prog fn conds apart (w.forCall tape i).memory i.args ∧ X (w.forCall tape i).memory i.args) ∧ sizedMet enc C.prog fn s apart (w.forCall tape i).memory i.args) ∧ ({ modest := modest } : Assume).holds C.prog (lone (Frame.enter C.prog f i.args .normal) [] (w.forCall tape i)) :=
  ⟨w0, fun _ _ => 0, ⟨#[], args, []⟩, hos, hsh, (Input.okWide_of_okWideB (base := 0) hok).1, (Input.okWide_of_okWideB hok).2,
    ⟨⟨(OpenSpec.pre_some hk conds apart _ _).2 ⟨x.1, x.2.1, x.2.2, DataW.Whole_of_whole hx, hconds, hkk⟩, hX⟩, sizedMet_of_sizedB hsz⟩, by
    simp only [Assume.holds]
    exact ⟨by simp, by simp, fun _ => Modest.zero, by simp, by simp⟩⟩
end Go.Proofs.YtefccfakhgdfbabGreatDoor
end
