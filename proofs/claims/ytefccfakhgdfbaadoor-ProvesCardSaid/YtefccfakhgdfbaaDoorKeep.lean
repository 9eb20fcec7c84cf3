/- append onto a slice that is still read behind it. No program is used. -/
import Derived.Test.YtefccfakhgdfbaaDoorLib
namespace Go.Proofs.YtefccfakhgdfbaaDoor
open Go.RowKit
/-- Behind an append onto a slice that the call owns, that slice reads as before. -/
theorem append_keep {P : Program} (w : World) (base : Nat) (t ty e : TypeId) (i : TypeInfo) (z : Value) (size bytes : Nat) (ht : P.underlying t = some (.slice e)) (hi : P.info? e = some i) (hz : i.zero = some z)
    (hsize : i.size = size) (hby : i.bytes = bytes) (hzs : z.cells.size = size)
    (v : Value) (n : Nat) (xs : List Value) (hown : w.ownsRow base e size v n xs)
    (a : Addr) (m c : Nat) (news : List Value) (hl : news.length = m * size) (hnews : ∀ j u, news[j]? = some u → w.cell? (a.add j) = some u) (h1 : ∀ u ∈ news, u.oneCell' = true)
    (h63 : n + m ≤ maxLen) (hbytes : (n + m) * bytes ≤ 140737488355328) (v' : Value) (w' : World)
    (hr : (Builtin.append_ #[t, t] ty #[v, .slice (some a) m c]).run P w = .ok v' w') :
    ∀ j y, xs[j]? = some y → ∀ g, v.ownBlock = some g → w'.cell? ⟨g, j, none⟩ = some y := by
  subst hsize
  subst hby
  have hsmall : n + m ≤ 9223372036854775807 := by simp only [maxLen] at h63; omega
  intro j y hy g' hg'
  rcases hown.2 with ⟨rfl, rfl⟩ | ⟨g, cap, cur, rfl, hbg, hg, hnc, hcm, hcs, htake⟩
  · simp [Value.ownBlock] at hg'
  · have hgg : g = g' := by simpa [Value.ownBlock] using hg'
    subst hgg
    have hxl := hown.1
    have hj : j < n * i.size := by have := (List.getElem?_eq_some_iff.1 hy).1; omega
    by_cases hroom : n + m ≤ cap
    · have hfit : n * i.size + news.length ≤ cur.size := by rw [hl, hcs, ← Nat.add_mul]; exact Nat.mul_le_mul_right _ hroom
      have hr' := run_append_room (P := P) w t ty e i ht hi g n cap cur hg a m c news hl hnews h1 hroom hfit
      rw [hr] at hr'
      cases hr'
      have hh := setRow_heap w g cur (cur.toList.take (n * i.size) ++ news ++ cur.toList.drop (n * i.size + news.length)).toArray e (0, 0) hg
      rw [cell_of_row _ g j _ e (0, 0) hh]
      rw [htake]
      rw [List.getElem?_toArray, List.append_assoc, List.getElem?_append_left (by omega), hy]
    · have holds : ∀ j u, xs[j]? = some u → w.cell? ((⟨g, 0, none⟩ : Addr).add j) = some u := hown.cells (g := g) rfl
      have hr' := run_append_grow (P := P) w t ty e i z ht hi hz ⟨g, 0, none⟩ n cap xs hown.1 holds a m c news hl hnews (by omega) (by omega) (growslice_fits (by omega) hbytes)
      rw [hr] at hr'
      cases hr'
      have hlt : g < w.heap.size := lt_of_heap hg
      have hc : w.cell? ⟨g, j, none⟩ = some y := by
        rw [cell_of_row w g j cur e (0, 0) hg]
        rw [← htake, List.getElem?_take_of_lt hj] at hy
        simpa using hy
      exact ((below_drew w).alloc (Nat.le_refl _) _ |>.cell (p := ⟨g, j, none⟩) hlt).trans hc
/-- append(out, x), x one cell that has just been laid, onto a slice that the call owns; what that slice reads as is kept. -/
theorem wpList_app1k {P : Program} {ops : Array Oper} {rest : List Oper} {o : Oper} {a : Act} {Q : Exit → Act → World → Prop} {w : World} (hgd : o.guard = none) (s x : Operand) (t : TypeId)
    (ho : o.op = .call { callee := .builtin .append, args := #[s, x], argTypes := #[t, t] })
    (base : Nat) (e : TypeId) (i : TypeInfo) (z : Value) (bytes : Nat) (ht : P.underlying t = some (.slice e)) (hi : P.info? e = some i) (hz : i.zero = some z)
    (hsize : i.size = 1) (hby : i.bytes = bytes) (hzs : z.cells.size = 1) (hbb : bytes ≤ 64)
    (v : Value) (n : Nat) (xs : List Value) (hs : a.eval s = v) (hown : w.ownsRow base e 1 v n xs) (u : Value)
    (hx : a.eval x = .slice (some ⟨w.heap.size, 0, none⟩) 1 1) (h1 : u.oneCell' = true)
    (hn : n ≤ 1099511627776) (hbase : base ≤ w.heap.size)
    (h : ∀ v' w', w'.ownsRow base e 1 v' (n + 1) (xs ++ [u]) → w.grownBy w' v.ownBlock → (∀ j y, xs[j]? = some y → ∀ g, v.ownBlock = some g → w'.cell? ⟨g, j, none⟩ = some y) → wpList P ops Q rest (a.put o.dst v') w') :
    wpList P ops Q (o :: rest) a (w.alloc (.cells #[u] e)) := by
  have hbyt : (n + 1) * bytes ≤ 140737488355328 := by
    refine Nat.le_trans (Nat.mul_le_mul_left _ hbb) ?_
    omega
  have h63 : n + 1 ≤ maxLen := by unfold maxLen; omega
  have hl1 : ([u] : List Value).length = 1 * 1 := rfl
  have hone : ∀ y ∈ [u], y.oneCell' = true := by simpa using h1
  obtain ⟨v', w', hr, h2, h3, _⟩ := run_append_own (P := P) (w.alloc (.cells #[u] e)) base t o.type e i z 1 bytes ht hi hz hsize hby hzs (by decide) v n xs (hown.alloc _) ⟨w.heap.size, 0, none⟩ 1 1 [u] hl1 (cell_one_new _ _ _) hone h63 hbyt (by simp; omega)
  have hk := append_keep (P := P) (w.alloc (.cells #[u] e)) base t o.type e i z 1 bytes ht hi hz hsize hby hzs v n xs (hown.alloc _) ⟨w.heap.size, 0, none⟩ 1 1 [u] hl1 (cell_one_new _ _ _) hone h63 hbyt v' w' hr
  refine wpList_plain hgd fun K hK => ?_
  unfold Oper.wp execOp
  simp only [ho, resolve, invoke, builtin, Sem.run_bind, Sem.run_pure, Result.andThen_ok, List.map_toArray, List.map_cons, List.map_nil, hs, hx, hr]
  exact hK _ _ (h v' w' h2 (grownBy_trans (World.grownBy_alloc w _ _) h3) hk)
/-- append([]T{u}, l...): a new row, u ahead of what l reads as. -/
theorem append_first {P : Program} (w : World) (t ty e : TypeId) (i : TypeInfo) (z : Value) (bytes : Nat) (ht : P.underlying t = some (.slice e)) (hi : P.info? e = some i) (hz : i.zero = some z)
    (hsize : i.size = 1) (hby : i.bytes = bytes) (hzs : z.cells.size = 1) (hbb : bytes ≤ 64)
    (u : Value) (v : Value) (n : Nat) (xs : List Value) (hc : Cells w v n xs) (hl : xs.length = n) (h1 : ∀ y ∈ xs, y.oneCell' = true) (hn : n ≤ 1099511627776) :
    ∃ v' w', (Builtin.append_ #[t, t] ty #[.slice (some ⟨w.heap.size, 0, none⟩) 1 1, v]).run P (w.alloc (.cells #[u] e)) = .ok v' w' ∧ w'.ownsRow w.heap.size e 1 v' (n + 1) (u :: xs) ∧ Below w.heap.size w w' := by
  have own0 : (w.alloc (.cells #[u] e)).ownsRow w.heap.size e 1 (.slice (some ⟨w.heap.size, 0, none⟩) 1 1) 1 [u] := World.ownsRow_lit w #[u] 1 (Nat.le_refl _) (by unfold maxLen; omega) rfl
  obtain ⟨a, c, rfl, hcap, hcell⟩ := hc
  have hsome : ∀ ad : Addr, a = some ad → ∃ v' w', (Builtin.append_ #[t, t] ty #[.slice (some ⟨w.heap.size, 0, none⟩) 1 1, .slice a n c]).run P (w.alloc (.cells #[u] e)) = .ok v' w' ∧ w'.ownsRow w.heap.size e 1 v' (n + 1) (u :: xs) ∧ Below w.heap.size w w' := by
    rintro ad rfl
    have hnews : ∀ j y, xs[j]? = some y → (w.alloc (.cells #[u] e)).cell? (ad.add j) = some y := by
      intro j y hy
      obtain ⟨b, off, hb, hc1⟩ := hcell j y hy
      cases hb
      rw [Addr.add_lit]
      exact ((below_alloc w (.cells #[u] e)).cell (p := ⟨b, off + j, none⟩) (cell_lt hc1)).trans hc1
    obtain ⟨v', w', hr, h2, h3, _⟩ := run_append_own (P := P) (w.alloc (.cells #[u] e)) w.heap.size t ty e i z 1 bytes ht hi hz hsize hby hzs (by decide) _ 1 [u] own0 ad n c xs (by omega) hnews h1 (by unfold maxLen; omega)
      (by refine Nat.le_trans (Nat.mul_le_mul_left _ hbb) ?_; omega) (by simp)
    refine ⟨v', w', hr, by rw [Nat.add_comm]; exact h2, (below_alloc w (.cells #[u] e)).grown h3 (by simp) (fun j hj => (own0.lt j hj).1)⟩
  cases a with
  | some ad => exact hsome ad rfl
  | none =>
    have hx : xs = [] := by
      cases xs with
      | nil => rfl
      | cons y ys => obtain ⟨b, off, hb, _⟩ := hcell 0 y rfl; cases hb
    subst hx
    have hn0 : n = 0 := by simpa using hl.symm
    subst hn0
    refine ⟨.slice (some ⟨w.heap.size, 0, none⟩) 1 1, w.alloc (.cells #[u] e), ?_, own0, below_alloc _ _⟩
    simp [Builtin.append_, run_underlying ht, sizeOf, typeInfo, hi, Builtin.lenOf, Builtin.firstCells, storeCells]
theorem wpList_appF {P : Program} {ops : Array Oper} {rest : List Oper} {o : Oper} {a : Act} {Q : Exit → Act → World → Prop} {w : World} (hgd : o.guard = none) (s x : Operand) (t : TypeId)
    (ho : o.op = .call { callee := .builtin .append, args := #[s, x], argTypes := #[t, t] })
    (e : TypeId) (i : TypeInfo) (z : Value) (bytes : Nat) (ht : P.underlying t = some (.slice e)) (hi : P.info? e = some i) (hz : i.zero = some z)
    (hsize : i.size = 1) (hby : i.bytes = bytes) (hzs : z.cells.size = 1) (hbb : bytes ≤ 64)
    (u : Value) (v : Value) (n : Nat) (xs : List Value) (hs : a.eval s = .slice (some ⟨w.heap.size, 0, none⟩) 1 1) (hx : a.eval x = v) (hc : Cells w v n xs) (hl : xs.length = n) (h1 : ∀ y ∈ xs, y.oneCell' = true) (hn : n ≤ 1099511627776)
    (h : ∀ v' w', w'.ownsRow w.heap.size e 1 v' (n + 1) (u :: xs) → Below w.heap.size w w' → wpList P ops Q rest (a.put o.dst v') w') :
    wpList P ops Q (o :: rest) a (w.alloc (.cells #[u] e)) := by
  obtain ⟨v', w', hr, h2, h3⟩ := append_first (P := P) w t o.type e i z bytes ht hi hz hsize hby hzs hbb u v n xs hc hl h1 hn
  refine wpList_plain hgd fun K hK => ?_
  unfold Oper.wp execOp
  simp only [ho, resolve, invoke, builtin, Sem.run_bind, Sem.run_pure, Result.andThen_ok, List.map_toArray, List.map_cons, List.map_nil, hs, hx, hr]
  exact hK _ _ (h v' w' h2 h3)
end Go.Proofs.YtefccfakhgdfbaaDoor
