/- Words for files.Check: lines, and a variable of what is trusted that is written byte by byte. No walk but strings.Split's contract. -/
import Derived.Test.YtefccfakhgdfbaaDoorFSign
import Derived.Test.YtefccfakhgdfbaaDoorSignPlain
import Derived.Test.YtefccfakhgdfbaaDoorRTree
import Derived.Lib.SplitLaws
namespace Go.Proofs.YtefccfakhgdfbaaDoor
open Go.RowKit
theorem ssplit_any (s : ByteArray) (w : World) (hs : s.size ≤ 1048576) (h : NumEnv w) :
    Calls Tryd.prog 90 #[.string s, .string (sOf [10])] w fun e w' => ∃ (v : Value) (Ls : List ByteArray), e = .returned v ∧ StrsAt w' v Ls ∧ lists Ls = linesOf s.data.toList ∧ Below w.heap.size w w' := by
  obtain ⟨m, hm⟩ := h.most
  refine (Tryd.strings_Split s (sOf [10]) m w (by omega) hm (by decide)).mono ?_
  rintro e w' ⟨rfl, rfl⟩
  have hlen := Lib.splitB_all (sOf [10]) (by decide) 0 (Lib.countB s (sOf [10])) s rfl
  obtain ⟨Ls, hLs⟩ : ∃ Ls, Ls = Lib.splitB (sOf [10]) 0 (Lib.countB s (sOf [10])) s := ⟨_, rfl⟩
  rw [← hLs] at hlen ⊢
  refine ⟨_, Ls, rfl, ?_, ?_, below_alloc _ _⟩
  · rw [← hlen]
    unfold StrsAt
    refine ⟨_, _, rfl, Nat.le_refl _, fun j x hx => ⟨w.heap.size, 0, rfl, ?_⟩⟩
    rw [Nat.zero_add, World.cell?_alloc_at _ _ _ _ rfl]
    simpa using hx
  · rw [hLs]
    exact Lib.splitB_data (sOf [10]) 0 _ s
theorem grownBy_setCell (w : World) (a : Addr) (v : Value) : w.grownBy (w.setCell a v) (some a.block) := by
  refine ⟨rfl, rfl, rfl, by simp [World.setCell], fun k _ hk => ?_⟩
  exact Below.heap_setCell w a v k (fun e => hk (by rw [e]))
theorem eightOf_get (r : List UInt8) (i : Nat) (hi : i < 8) : (eightOf r)[i] = r.getD i 0 := by
  have : i = 0 ∨ i = 1 ∨ i = 2 ∨ i = 3 ∨ i = 4 ∨ i = 5 ∨ i = 6 ∨ i = 7 := by omega
  rcases this with rfl | rfl | rfl | rfl | rfl | rfl | rfl | rfl <;> rfl
theorem trC_get (n : Int) (h : Hsh) (i : Nat) (hi : i < 8) : (trC n h)[1 + i]? = some (bv h[i]) := by
  have : i = 0 ∨ i = 1 ∨ i = 2 ∨ i = 3 ∨ i = 4 ∨ i = 5 ∨ i = 6 ∨ i = 7 := by omega
  rcases this with rfl | rfl | rfl | rfl | rfl | rfl | rfl | rfl <;> rfl
theorem trC_step (n : Int) (r : List UInt8) (z : UInt8) (hr : r.length < 8) : (trC n (eightOf r)).setIfInBounds (1 + r.length) (bv z) = trC n (eightOf (r ++ [z])) := by
  match r, hr with
  | [], _ => rfl
  | [a], _ => rfl
  | [a, b], _ => rfl
  | [a, b, c], _ => rfl
  | [a, b, c, d], _ => rfl
  | [a, b, c, d, e], _ => rfl
  | [a, b, c, d, e, f], _ => rfl
  | [a, b, c, d, e, f, g], _ => rfl
theorem TrAt.step {w : World} {g : Nat} {n : Int} {r : List UInt8} (h : TrAt w g n (eightOf r)) (z : UInt8) (hr : r.length < 8) : TrAt (w.setCell ⟨g, 1 + r.length, none⟩ (bv z)) g n (eightOf (r ++ [z])) := by
  have hlt := lt_of_heap h
  unfold TrAt at *
  rw [← trC_step n r z hr]
  simp [World.setCell, Array.getElem?_modify, h]
theorem TrAt.at {w : World} {g : Nat} {n : Int} {r : List UInt8} (h : TrAt w g n (eightOf r)) (hr : r.length < 8) : (∃ y, w.cell? ⟨g, 1 + r.length, none⟩ = some (bv y)) ∧ w.frozen? ⟨g, 1 + r.length, none⟩ = false := by
  have := trC_get n (eightOf r) r.length hr
  unfold TrAt at h
  exact ⟨⟨_, by simp only [World.cell?, h]; exact this⟩, by simp [World.frozen?, h]⟩
theorem infoT : (Tryd.prog.info? 77).map (·.size) = some 9 := by kernel_rfl
section
variable {ops : Array Oper} {rest : List Oper} {o : Oper} {a : Act} {Q : Exit → Act → World → Prop} {w : World}
theorem wpList_loadT (hw : Region.wanted o (yielded ops a.tmps) = true) (x : Operand) (ho : o.op = .load 77 x) (g : Nat) (hx : a.eval x = .pointer (some ⟨g, 0, none⟩))
    (n : Int) (h : Hsh) (hh : TrAt w g n h) (hk : wpList Tryd.prog ops Q rest (a.put o.dst (trV n h)) w) : wpList Tryd.prog ops Q (o :: rest) a w :=
  BigFrame.wpList_want hw fun _ hK => wp_load_row 77 x ho g hx _ (trC n h) _ _ hh Tryd.underlying77 rfl (by rw [infoT]; rfl) (hK _ _ hk)
theorem wpList_storeT (hw : Region.wanted o (yielded ops a.tmps) = true) (x y : Operand) (ho : o.op = .store 77 x y) (g : Nat) (n : Int) (k : Hsh) (hx : a.eval x = .pointer (some ⟨g, 0, none⟩)) (hy : a.eval y = trV n k)
    (n0 : Int) (h : Hsh) (hh : TrAt w g n0 h) (hk : wpList Tryd.prog ops Q rest (a.put o.dst undef) (w.setRow g (trC n k))) : wpList Tryd.prog ops Q (o :: rest) a w :=
  BigFrame.wpList_want hw fun _ hK => wp_store_row 77 x y ho g (trC n k) hx hy _ _ hh (by rw [infoT]; rfl) rfl (by simp [Value.oneCell']) (hK _ _ hk)
theorem retT {fn : Func} {R : Ending → World → Prop} {p q : Tmp} (g : Nat) (n : Int) (k : Hsh) (x : Value) (h : fn.results = #[.cell p 77, .tmp q]) (hx : a.tmps.getD p undef = .pointer (some ⟨g, 0, none⟩)) (hq : a.tmps.getD q undef = x)
    (hh : TrAt w g n k) (hd : a.defers = []) (hR : R (.returned (.tuple #[trV n k, x])) w) : bodyPost Tryd.prog fn R .ret a w := by
  refine bodyPost_ret (v := .tuple #[trV n k, x]) ?_ hd hR
  rw [results_cell_tmp h]
  have hl := run_loadVar_row (P := Tryd.prog) w g _ 77 (trC n k) _ _ hh Tryd.underlying77 rfl (by rw [infoT]; rfl)
  simp [hx, hq, asAddr, hl] at *
end
theorem TrAt.set {w : World} {g : Nat} {n0 : Int} {h0 : Hsh} (h : TrAt w g n0 h0) (n : Int) (k : Hsh) : TrAt (w.setRow g (trC n k)) g n k := setRow_heap w g _ _ _ _ h
theorem TrAt.other {w : World} {g g' : Nat} {n : Int} {h : Hsh} (ht : TrAt w g n h) (hne : g ≠ g') (cs : Array Value) : TrAt (w.setRow g' cs) g n h := (setRow_other w g' g cs hne).trans ht
theorem splitK_le (sep : List UInt8) : ∀ (k : Nat) (s : List UInt8), ∀ x ∈ Lib.splitK sep 0 k s, x.length ≤ s.length
  | 0, s, x, hx => by simp only [Lib.splitK, List.mem_singleton] at hx; rw [hx]; exact Nat.le_refl _
  | k + 1, s, x, hx => by
    unfold Lib.splitK at hx
    split at hx
    · simp only [List.mem_singleton] at hx; rw [hx]; exact Nat.le_refl _
    · rcases List.mem_cons.1 hx with rfl | hx
      · simp; omega
      · have := splitK_le sep k _ x hx
        simp at this
        omega
theorem linesOf_le (l : List UInt8) : ∀ x ∈ linesOf l, x.length ≤ l.length := splitK_le [10] _ l
end Go.Proofs.YtefccfakhgdfbaaDoor
