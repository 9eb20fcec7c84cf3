/- The sentinel errors of package api: what the listed variables give a walk; == of two of them. Conditions: the variables hold pointers to their texts, as the rows list them. -/
import Derived.Test.YtefccfakhgdfbaaDoorLib
import Derived.Stop.LaidErr
import Derived.LaidEql
namespace Go.Proofs.YtefccfakhgdfbaaDoor
open Go.RowKit Go.ChangeShapes
/-- Variable g holds a pointer to an errorString of that text. -/
def SentAt (w : World) (g : Nat) (a : Addr) (text : List UInt8) : Prop :=
  w.cell? ⟨g, 0, none⟩ = some (.iface 181 (.pointer (some a))) ∧ (∃ s : ByteArray, w.cell? a = some (.string s) ∧ s.data.toList = text) ∧ ∃ (c : Array Value) (t : TypeId), w.heap[a.block]? = some (.cells c t (0, 0))
theorem SentAt.below {w w' : World} {g : Nat} {a : Addr} {text : List UInt8} (h : SentAt w g a text) (hb : Below w.heap.size w w') : SentAt w' g a text := by
  obtain ⟨h1, ⟨s, h2, h3⟩, c, t, h4⟩ := h
  exact ⟨(hb.cell (cell_lt h1)).trans h1, ⟨s, (hb.cell (cell_lt h2)).trans h2, h3⟩, c, t, (hb.block _ (lt_of_heap h4)).trans h4⟩
theorem SentAt.ne {w : World} {g g' : Nat} {a a' : Addr} {x y : List UInt8} (h : SentAt w g a x) (h' : SentAt w g' a' y) (hne : x ≠ y) : a ≠ a' := by
  rintro rfl
  obtain ⟨_, ⟨s, h2, h3⟩, _⟩ := h
  obtain ⟨_, ⟨s', h2', h3'⟩, _⟩ := h'
  rw [h2] at h2'
  cases h2'
  exact hne (h3.symm.trans h3')
theorem sName : "*" ++ "errors.errorString" = "*errors.errorString" := by decide
theorem sRow (u : TypeId) (h : Tryd.prog.typeName? 3 u = some "*errors.errorString") : u = 181 :=
  typeName_ptr_named (nm := "errors.errorString") (by rw [sName]; kernel_rfl) (by kernel_rfl) (by decide) u (by rw [sName]; exact h)
theorem sCells : Tryd.prog.cellsOf 183 = 1 := by kernel_rfl
theorem sCells2 : Tryd.prog.cellsOf 9 = 1 := by kernel_rfl
set_option maxRecDepth 100000 in
/-- The head of the list, as a sentinel. -/
theorem sent_head {n : String} {text : List UInt8} {r : List (String × DataW Unit)} {W : World} {g : Nat}
    (h : laidMet Tryd.prog ((n, .iface "*errors.errorString" (.ptr (.agg [.lit (.string text)]))) :: r) W)
    (hg : Tryd.prog.globalNamed n = some g) (ht : (Tryd.prog.globals[g]?).map (·.type) = some 50) : ∃ a, SentAt W g a text := by
  obtain ⟨ps, ⟨g0, t0, cs0, f0, p0, q0, hg0, ht0, hv0, hd0, _, e0⟩, _, hrows⟩ := h
  obtain rfl := Option.some.inj (hg.symm.trans hg0)
  obtain rfl := Option.some.inj (ht.symm.trans ht0)
  subst e0
  obtain ⟨l0⟩ := cs0
  have ok0 : ∀ u v, l0 = [.iface u v] → Value.okWide Tryd.prog W .any 0 u v := fun u v e => by
    subst e
    exact (hrows g 0 (by simp [MemPlace.row])).2 u v (by simpa using World.var?_cell hg0 hv0 0)
  obtain ⟨a0, s0, rfl, hc0, hs0, hz0, rfl⟩ := errorString_of_trod Tryd.underlying50 sRow Tryd.underlying181 Tryd.underlying183 rfl rfl Tryd.underlying9 sCells sCells2 hd0 ok0
  obtain ⟨c0, t0, hb0⟩ := (hrows a0.block a0.off (by simp [MemPlace.row])).1
  exact ⟨a0, by simpa using World.var?_cell hg0 hv0 0, ⟨s0, hc0, hs0⟩, c0, t0, hb0⟩
/-- A pointer that is the address of such a block. -/
def Held0 (w : World) (a : Addr) : Prop := ∃ (c : Array Value) (t : TypeId), w.heap[a.block]? = some (.cells c t (0, 0))
theorem SentAt.held {w : World} {g : Nat} {a : Addr} {text : List UInt8} (h : SentAt w g a text) : Held0 w a := h.2.2
theorem Held0.below {w w' : World} {a : Addr} (h : Held0 w a) (hb : Below w.heap.size w w') : Held0 w' a := by
  obtain ⟨c, t, h4⟩ := h
  exact ⟨c, t, (hb.block _ (lt_of_heap h4)).trans h4⟩
theorem comp_err : (Tryd.prog.info? 181).map (·.comparable) = some true := by kernel_rfl
theorem size_err : (Tryd.prog.info? 183).map (·.size) = some 1 := by kernel_rfl
theorem eql_same (w : World) (a : Addr) : (binOp .eql 50 (.iface 181 (.pointer (some a))) (.iface 181 (.pointer (some a)))).run Tryd.prog w = .ok (.bool true) w := by
  obtain ⟨i, hi, hcmp⟩ := Option.map_eq_some_iff.1 comp_err
  obtain ⟨j, hj, _⟩ := Option.map_eq_some_iff.1 size_err
  exact run_eql_iface_ptr_same w a Tryd.underlying50 Tryd.underlying181 hi hcmp hj
theorem eql_other (w : World) {a b : Addr} (ha : Held0 w a) (hb : Held0 w b) (hne : a ≠ b) : (binOp .eql 50 (.iface 181 (.pointer (some a))) (.iface 181 (.pointer (some b)))).run Tryd.prog w = .ok (.bool false) w := by
  obtain ⟨i, hi, hcmp⟩ := Option.map_eq_some_iff.1 comp_err
  obtain ⟨j, hj, hsz⟩ := Option.map_eq_some_iff.1 size_err
  obtain ⟨ca, ta, h1⟩ := ha
  obtain ⟨cb, tb, h2⟩ := hb
  exact run_eql_iface_ptr_other w Tryd.underlying50 Tryd.underlying181 hi hcmp hj (by rw [hsz]; decide) hne h1 h2
theorem eql_nil (w : World) (T : TypeId) (v : Value) : (binOp .eql 50 (.iface T v) .nilIface).run Tryd.prog w = .ok (.bool false) w := by
  have h : ∀ d : Nat, (Op.equalIn (d + 1) 50 (.iface T v) .nilIface).run Tryd.prog w = .ok false w := fun d => by simp [Op.equalIn, run_underlying Tryd.underlying50]
  simp only [binOp]
  simp [Op.equal, Op.maxDepth, h 9999]
/-- The sentinels' variables, and their texts. -/
def sVars : List Nat := [0, 1, 2, 3, 4, 5, 6]
def sTexts : List (List UInt8) := [[116, 104, 101, 32, 101, 110, 116, 114, 121, 32, 105, 115, 32, 116, 111, 111, 32, 108, 111, 110, 103],
  [116, 104, 101, 114, 101, 32, 105, 115, 32, 110, 111, 32, 115, 117, 99, 104, 32, 101, 110, 116, 114, 121, 44, 32, 111, 114, 32, 110, 111, 32, 115, 117, 99, 104, 32, 115, 105, 122, 101],
  [116, 104, 105, 115, 32, 105, 115, 32, 110, 111, 32, 99, 104, 101, 99, 107, 112, 111, 105, 110, 116, 32, 111, 102, 32, 116, 104, 97, 116, 32, 107, 101, 121],
  [116, 104, 101, 32, 99, 104, 101, 99, 107, 112, 111, 105, 110, 116, 32, 105, 115, 32, 111, 108, 100, 101, 114, 32, 116, 104, 97, 110, 32, 119, 104, 97, 116, 32, 105, 115, 32, 116, 114, 117, 115, 116, 101, 100],
  [119, 104, 97, 116, 32, 104, 97, 115, 32, 99, 111, 109, 101, 32, 100, 111, 101, 115, 32, 110, 111, 116, 32, 102, 105, 116],
  [97, 32, 116, 105, 108, 101, 32, 111, 114, 32, 98, 117, 110, 100, 108, 101, 32, 105, 115, 32, 109, 105, 115, 115, 105, 110, 103, 32, 111, 114, 32, 98, 114, 111, 107, 101, 110],
  [116, 104, 101, 32, 112, 117, 98, 108, 105, 115, 104, 101, 114, 32, 104, 97, 115, 32, 102, 97, 105, 108, 101, 100]]
/-- All seven are there: f tells their addresses. -/
def Sents (w : World) (f : Nat → Addr) : Prop := ∀ i, i < 7 → SentAt w (sVars.getD i 0) (f i) (sTexts.getD i [])
theorem Sents.below {w w' : World} {f : Nat → Addr} (h : Sents w f) (hb : Below w.heap.size w w') : Sents w' f := fun i hi => (h i hi).below hb
theorem Sents.ne {w : World} {f : Nat → Addr} (h : Sents w f) {i j : Nat} (hi : i < 7) (hj : j < 7) (hne : i ≠ j) : f i ≠ f j := by
  refine (h i hi).ne (h j hj) ?_
  have key : ∀ i j : Fin 7, i ≠ j → sTexts.getD i.val [] ≠ sTexts.getD j.val [] := by decide
  exact key ⟨i, hi⟩ ⟨j, hj⟩ (fun e => hne (congrArg Fin.val e))
theorem Sents.held {w : World} {f : Nat → Addr} (h : Sents w f) {i : Nat} (hi : i < 7) : Held0 w (f i) := (h i hi).held
end Go.Proofs.YtefccfakhgdfbaaDoor
