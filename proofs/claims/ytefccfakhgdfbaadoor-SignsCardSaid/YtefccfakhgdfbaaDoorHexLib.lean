/- Words for digits of 16. No walk. -/
import Derived.Test.YtefccfakhgdfbaaDoorHashes
import Derived.Test.YtefccfakhgdfbaaDoorDigits
import Derived.Test.YtefccfakhgdfbaaDoorSignPlain
import Derived.Deep.AppendLies
import Derived.Deep.DeepMust
import Derived.StillTailTactics
namespace Go.Proofs.YtefccfakhgdfbaaDoor
open Go.RowKit
/-- A byte as a value (a name that no slot shadows). -/
abbrev bv (x : UInt8) : Value := .int .u8 x.toNat
/-- Bytes in a row of the call's own. -/
def OwnRow (w : World) (base : Nat) (v : Value) (l : List UInt8) : Prop := w.ownsRow base 5 1 v l.length (l.map bv)
theorem OwnRow.bytes {w : World} {base : Nat} {v : Value} {l : List UInt8} (h : OwnRow w base v l) : BytesAt w v l := ownsRow_cells h
theorem wpList_app2 {P : Program} {ops : Array Oper} {rest : List Oper} {o : Oper} {a : Act} {Q : Exit → Act → World → Prop} {w : World} (hgd : o.guard = none) (s x : Operand) (t : TypeId)
    (ho : o.op = .call { callee := .builtin .append, args := #[s, x], argTypes := #[t, t] })
    (base : Nat) (i : TypeInfo) (ht : P.underlying t = some (.slice 5)) (hi : P.info? 5 = some i) (hz : i.zero = some (.int .u8 0)) (hsize : i.size = 1) (hby : i.bytes = 1)
    (v : Value) (l : List UInt8) (hs : a.eval s = v) (hown : OwnRow w base v l) (p q : UInt8) (hx : a.eval x = .slice (some ⟨w.heap.size, 0, none⟩) 2 2)
    (hn : l.length ≤ 1099511627776) (hbase : base ≤ w.heap.size)
    (h : ∀ v' w', OwnRow w' base v' (l ++ [p, q]) → w.grownBy w' v.ownBlock → wpList P ops Q rest (a.put o.dst v') w') :
    wpList P ops Q (o :: rest) a (w.alloc (.cells #[bv p, bv q] 5)) := by
  refine wpList_append_own _ hgd s x t ho base _ i _ 1 1 ht hi hz hsize hby rfl (by decide) v _ _ hs (World.ownsRow.alloc hown _) ⟨w.heap.size, 0, none⟩ 2 2 [bv p, bv q] hx rfl ?_ (by simp [Value.oneCell']) (by unfold maxLen; omega) (by omega) (by simp; omega) fun v' w' h2 h3 _ => ?_
  · intro j u hj
    rw [Addr.add_lit, Nat.zero_add, World.cell?_alloc_at _ _ _ _ rfl]
    simpa using hj
  · refine h v' w' ?_ (grownBy_trans (World.grownBy_alloc w _ _) h3)
    unfold OwnRow
    simpa using h2
theorem index_h8 (h : Hsh) (k : Nat) (hk : k < 8) (w : World) : (Instr.index 62 (.agg (h8 h)) (.int .i64 k)).run Tryd.prog w = .ok (bv (h.toList.getD k 0)) w := by
  have hu := Tryd.underlying62
  have hs : (sizeOf 5).run Tryd.prog w = .ok 1 w := by kernel_rfl
  have hg : (isAgg 5).run Tryd.prog w = .ok false w := by kernel_rfl
  have hx : (h8 h)[k]? = some (bv (h.toList.getD k 0)) := by simp [h8, hk, List.getD]
  simp [Instr.index, asIntOf, run_underlying hu, part, hs, hg, hk, hx]
  simp [h8]
/-- "0123456789abcdef". -/
def kHex : ByteArray := ⟨#[48, 49, 50, 51, 52, 53, 54, 55, 56, 57, 97, 98, 99, 100, 101, 102]⟩
theorem kHex_get (n : Nat) (h : n < 16) : kHex[n]? = some (hexD n) := by
  have : ∀ m : Fin 16, kHex[m.1]? = some (hexD m.1) := by decide
  exact this ⟨n, h⟩
theorem index_hex (n : Nat) (h : n < 16) (w : World) : (Instr.index 9 (.string kHex) (.int .u8 n)).run Tryd.prog w = .ok (bv (hexD n)) w := by
  have hu := Tryd.underlying9
  have hx := kHex_get n h
  simp [Instr.index, asIntOf, run_underlying hu, hx]
theorem shr_val (x : UInt8) (w : World) : (binOp .shr 5 (bv x) (.int .u64 4)).run Tryd.prog w = .ok (.int .u8 ((x.toNat / 16 : Nat) : Int)) w := by
  go_simp
theorem and_val (x : UInt8) (w : World) : (binOp .and 5 (bv x) (.int .u8 15)).run Tryd.prog w = .ok (.int .u8 ((x.toNat % 16 : Nat) : Int)) w := by
  go_simp
  have h : ∀ n : Fin 256, bits BinOp.and IntKind.u8 ((n.1 : Nat) : Int) 15 = (n.1 : Int) % 16 := by decide +kernel
  exact h ⟨x.toNat, x.toNat_lt⟩
theorem build2 (p q : UInt8) (w : World) : (Instr.buildSlice 65 2 #[(0, bv p), (1, bv q)]).run Tryd.prog w = .ok (.slice (some ⟨w.heap.size, 0, none⟩) 2 2) (w.alloc (.cells #[bv p, bv q] 5)) := by
  kernel_rfl
end Go.Proofs.YtefccfakhgdfbaaDoor
