/- The walks of tileslaw.eight, tileslaw.eights, plain.hash, plain.hashes. -/
import Derived.Test.YtefccfakhgdfbaaDoorRefHash
import Derived.Test.YtefccfakhgdfbaaDoorNode
namespace Go.Proofs.YtefccfakhgdfbaaDoor
open Go.RowKit
theorem eight_list (l : List UInt8) : (l.take 8).map u8 ++ (List.replicate 8 (Value.int .u8 0)).drop (min l.length 8) = (h8 (eightOf l)).toList := by
  rw [h8_list]
  match l with
  | [] => rfl
  | [_] => rfl
  | [_, _] => rfl
  | [_, _, _] => rfl
  | [_, _, _, _] => rfl
  | [_, _, _, _, _] => rfl
  | [_, _, _, _, _, _] => rfl
  | [_, _, _, _, _, _, _] => rfl
  | a0 :: a1 :: a2 :: a3 :: a4 :: a5 :: a6 :: a7 :: r =>
    have : min (a0 :: a1 :: a2 :: a3 :: a4 :: a5 :: a6 :: a7 :: r).length 8 = 8 := by simp
    rw [this]
    rfl
theorem wpList_copy8 {P : Program} {ops : Array Oper} {rest : List Oper} {o : Oper} {a : Act} {Q : Exit → Act → World → Prop} {w : World} (hw : Region.wanted o (yielded ops a.tmps) = true) (x y : Operand) (t ts : TypeId)
    (ho : o.op = .call { callee := .builtin .copy, args := #[x, y], argTypes := #[t, ts] }) (e : TypeId) (i : TypeInfo) (ht : P.underlying t = some (.slice e)) (hi : P.info? e = some i) (hsz : i.size = 1)
    (g : Nat) (hx : a.eval x = .slice (some ⟨g, 0, none⟩) 8 8) (s : ByteArray) (hy : a.eval y = .string s) (e' : TypeId)
    (hg : w.heap[g]? = some (.cells #[.int .u8 0, .int .u8 0, .int .u8 0, .int .u8 0, .int .u8 0, .int .u8 0, .int .u8 0, .int .u8 0] e' (0, 0)))
    (h : ∀ n, wpList P ops Q rest (a.put o.dst (.int .i64 n)) (w.setRow g (h8 (eightOf s.data.toList)))) : wpList P ops Q (o :: rest) a w := by
  refine BigFrame.wpList_want hw fun K' hK' => ?_
  have hl : List.take (s.size.min 8) (List.map (fun b : UInt8 => Value.int IntKind.u8 b.toNat) s.data.toList) = (s.data.toList.take 8).map u8 := by
    rw [List.map_take]
    have hlen : (List.map (fun b : UInt8 => Value.int IntKind.u8 b.toNat) s.data.toList).length = s.size := by rw [List.length_map]; rfl
    by_cases h : s.size ≤ 8
    · have hm : s.size.min 8 = s.size := Nat.min_eq_left h
      rw [hm, List.take_of_length_le (by omega)]
      exact (List.take_of_length_le (by rw [List.length_map]; exact h)).symm
    · have hm : s.size.min 8 = 8 := Nat.min_eq_right (by omega)
      rw [hm]
  have hst := run_storeCells_at P g 0 e' ((s.data.toList.take 8).map u8) 0 _ w hg (by simp; omega) (fun u hu => by
    obtain ⟨b, _, rfl⟩ := List.mem_map.1 hu
    rfl)
  have hrow : ((#[.int .u8 0, .int .u8 0, .int .u8 0, .int .u8 0, .int .u8 0, .int .u8 0, .int .u8 0, .int .u8 0] : Array Value).toList.take (0 + 0) ++ (s.data.toList.take 8).map u8 ++ (#[.int .u8 0, .int .u8 0, .int .u8 0, .int .u8 0, .int .u8 0, .int .u8 0, .int .u8 0, .int .u8 0] : Array Value).toList.drop (0 + 0 + ((s.data.toList.take 8).map u8).length)).toArray = h8 (eightOf s.data.toList) := by
    apply Array.ext'
    rw [← eight_list]
    simp [List.replicate, Nat.min_comm]
  rw [hrow] at hst
  clear hrow
  have hr : (Builtin.copy_ #[t, ts] o.type #[.slice (some ⟨g, 0, none⟩) 8 8, .string s]).run P w = .ok (.int .i64 (Nat.min s.size 8 : Nat)) (w.setRow g (h8 (eightOf s.data.toList))) := by
    simp [Builtin.copy_, run_underlying ht, sizeOf, typeInfo, hi, Builtin.lenOf, Builtin.firstCells, hl, goInt]
    rw [← List.map_take, hst]
    rfl
  unfold Oper.wp execOp
  simp only [ho, resolve, invoke, builtin, Sem.run_bind, Sem.run_pure, Result.andThen_ok, List.map_toArray, List.map_cons, List.map_nil, hx, hy, hr]
  exact hK' _ _ (h _)
theorem info_u8 : (Tryd.prog.info? 5).map (fun i => (i.zero, i.size, i.bytes)) = some (some (.int .u8 0), 1, 1) := by kernel_rfl
set_option maxHeartbeats 400000 in
theorem eight_any (s : ByteArray) (w : World) (hs : s.size ≤ 9223372036854775807) :
    Calls Tryd.prog 24 #[.string s] w fun e w' => e = .returned (.string (HS (eightOf s.data.toList))) ∧ Below w.heap.size w w' := by
  have hmk : ∀ w, (Instr.makeSlice 65 (.int .i64 8) (.int .i64 8)).run Tryd.prog w = .ok (.slice (some ⟨w.heap.size, 0, none⟩) 8 8) (w.alloc (.cells #[.int .u8 0, .int .u8 0, .int .u8 0, .int .u8 0, .int .u8 0, .int .u8 0, .int .u8 0, .int .u8 0] 5)) := fun _ => by kernel_rfl
  go_enter Tryd.func24, Tryd.ntmps24
  obtain ⟨i0, hi, hz0, hz1, hz2⟩ := info_parts info_u8
  go_wp2_with (first | (refine wpList_copy8 rfl _ _ 65 9 rfl 5 i0 Tryd.underlying65 hi hz1 w.heap.size rfl s rfl _ (heap_alloc_new' _ _ _ rfl) ?_; intro n; have hb1 : BytesAt ((w.alloc (.cells #[.int .u8 0, .int .u8 0, .int .u8 0, .int .u8 0, .int .u8 0, .int .u8 0, .int .u8 0, .int .u8 0] 5)).setRow w.heap.size (h8 (eightOf s.data.toList))) (.slice (some ⟨w.heap.size, 0, none⟩) 8 8) (eightOf s.data.toList).toList := hashCells_bytes (by unfold hashCells; rw [setRow_heap _ _ _ _ _ _ (heap_alloc_new' _ _ _ rfl)]; rfl) 8) | (refine wpList_bs rfl 65 9 _ rfl _ Tryd.underlying65 Tryd.underlying5 Tryd.underlying9 _ ?_ rfl ?_ ?_; rotate_left; focus exact hb1))
  go_ret
  exact ⟨rfl, below_setRow (below_alloc w _) (Nat.le_refl _) _⟩
set_option maxHeartbeats 400000 in
theorem hash_any (s : ByteArray) (w : World) (hs : s.size ≤ 9223372036854775807) :
    Calls Tryd.prog 41 #[.string s] w fun e w' => e = .returned (.agg (h8 (eightOf s.data.toList))) ∧ Below w.heap.size w w' := by
  go_enter Tryd.func41, Tryd.ntmps41
  obtain ⟨i0, hi, hz0, hz1, hz2⟩ := info_parts info_u8
  go_wp2_with (first | (refine wpList_copy8 rfl _ _ 65 9 rfl 5 i0 Tryd.underlying65 hi hz1 (w.heap.size + 1) rfl s rfl _ (heap_alloc_new' _ _ _ (by simp)) ?_; intro n; have hh1 : hashOf (((w.alloc (.cells #[.int .u8 0, .int .u8 0, .int .u8 0, .int .u8 0, .int .u8 0, .int .u8 0, .int .u8 0, .int .u8 0] 62)).alloc (.cells #[.int .u8 0, .int .u8 0, .int .u8 0, .int .u8 0, .int .u8 0, .int .u8 0, .int .u8 0, .int .u8 0] 62)).setRow (w.heap.size + 1) (h8 (eightOf s.data.toList))) (w.heap.size + 1) (eightOf s.data.toList) := hashOf_set (hashOf_zero' (by simp)) _; have hh2 : hashOf (((w.alloc (.cells #[.int .u8 0, .int .u8 0, .int .u8 0, .int .u8 0, .int .u8 0, .int .u8 0, .int .u8 0, .int .u8 0] 62)).alloc (.cells #[.int .u8 0, .int .u8 0, .int .u8 0, .int .u8 0, .int .u8 0, .int .u8 0, .int .u8 0, .int .u8 0] 62)).setRow (w.heap.size + 1) (h8 (eightOf s.data.toList))) w.heap.size zero8 := hashOf_other (hashOf_old (hashOf_zero' rfl) _) _ (by omega)) | (refine wpList_load8 rfl 62 _ rfl _ rfl _ Tryd.underlying62 info8 ?_ ?_ ?_; rotate_left; focus ((repeat (first | (with_reducible assumption) | ((with_reducible refine hashOf_zero' ?_); (first | rfl | (simp; done) | (simp; omega))) | ((with_reducible refine hashOf_at ?_); (first | rfl | (simp; done) | (simp; omega))) | (with_reducible exact hashOf_set' ⟨_, by assumption⟩ _) | ((with_reducible refine hashOf_set' (Is8_zero ?_) _); (first | rfl | (simp; done) | (simp; omega))) | (with_reducible refine hashOf_old ?_ _) | ((with_reducible refine hashOf_other ?_ _ ?_); rotate_left; (focus (first | (simp; done) | (simp; omega) | omega))) | (with_reducible refine hashOf_drew ?_) | (with_reducible refine hashOf_below ?_ (by assumption)))); done)) | (refine wpList_store8 rfl 62 _ _ rfl _ _ rfl rfl info8 ?_ ?_ ?_; rotate_left; focus ((repeat (first | (with_reducible assumption) | ((with_reducible refine hashOf_zero' ?_); (first | rfl | (simp; done) | (simp; omega))) | ((with_reducible refine hashOf_at ?_); (first | rfl | (simp; done) | (simp; omega))) | (with_reducible exact hashOf_set' ⟨_, by assumption⟩ _) | ((with_reducible refine hashOf_set' (Is8_zero ?_) _); (first | rfl | (simp; done) | (simp; omega))) | (with_reducible refine hashOf_old ?_ _) | ((with_reducible refine hashOf_other ?_ _ ?_); rotate_left; (focus (first | (simp; done) | (simp; omega) | omega))) | (with_reducible refine hashOf_drew ?_) | (with_reducible refine hashOf_below ?_ (by assumption)))); done)))
  refine ret8 w.heap.size (eightOf s.data.toList) rfl rfl _ Tryd.underlying62 info8 (hashOf_set (by assumption) _) rfl ⟨rfl, ?_⟩
  exact below_setRow (below_setRow ((below_alloc w _).alloc (by simp) _) (by omega) _) (Nat.le_refl _) _
end Go.Proofs.YtefccfakhgdfbaaDoor
