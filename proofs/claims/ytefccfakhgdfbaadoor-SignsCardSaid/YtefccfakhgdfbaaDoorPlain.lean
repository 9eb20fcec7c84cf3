/- Plain functions of lists of bytes: the hash, trees, proofs. No program is used. -/
import Derived.Test.YtefccfakhgdfbaaDoorLib
import Derived.Lib.ItoaNum
namespace Go.Proofs.YtefccfakhgdfbaaDoor
open Go.RowKit

/-- One step of the hash, in the walk's own form. -/
def hstep (z : Int) (x : UInt8) : Int := IntKind.u64.wrap (bits BinOp.xor IntKind.u64 z (IntKind.u64.wrap x.toNat) * 1099511628211)
def hstart : Int := 14695981039346656037
def hfold (l : List UInt8) : Int := l.foldl hstep hstart
theorem wrap_u64_bd (x : Int) : 0 ≤ IntKind.u64.wrap x ∧ IntKind.u64.wrap x < 2 ^ 64 := by
  simp only [IntKind.wrap, IntKind.bits, IntKind.signed]
  simp
  omega
theorem hfold_bd (l : List UInt8) : 0 ≤ hfold l ∧ hfold l < 2 ^ 64 := by
  have : ∀ (l : List UInt8) (z : Int), 0 ≤ z ∧ z < 2 ^ 64 → 0 ≤ l.foldl hstep z ∧ l.foldl hstep z < 2 ^ 64 := by
    intro l
    induction l with
    | nil => intro z hz; exact hz
    | cons x l ih => intro z _; exact ih _ (wrap_u64_bd _)
  exact this l _ (by unfold hstart; omega)
def hbytes (y : Int) : Hsh := #v[UInt8.ofNat (y / 72057594037927936 % 256).toNat, UInt8.ofNat (y / 281474976710656 % 256).toNat, UInt8.ofNat (y / 1099511627776 % 256).toNat, UInt8.ofNat (y / 4294967296 % 256).toNat,
  UInt8.ofNat (y / 16777216 % 256).toNat, UInt8.ofNat (y / 65536 % 256).toNat, UInt8.ofNat (y / 256 % 256).toNat, UInt8.ofNat (y % 256).toNat]
/-- THE HASH of some bytes. -/
def hash (l : List UInt8) : Hsh := hbytes (hfold l)
theorem u8_of (y : Int) : u8 (UInt8.ofNat (y % 256).toNat) = .int .u8 (y % 256) := by
  have h : 0 ≤ y % 256 ∧ y % 256 < 256 := by omega
  show Value.int .u8 _ = _
  congr 1
  rw [UInt8.toNat_ofNat']
  omega
theorem h8_hbytes (y : Int) : h8 (hbytes y) = #[.int .u8 (y / 72057594037927936 % 256), .int .u8 (y / 281474976710656 % 256), .int .u8 (y / 1099511627776 % 256), .int .u8 (y / 4294967296 % 256), .int .u8 (y / 16777216 % 256), .int .u8 (y / 65536 % 256), .int .u8 (y / 256 % 256), .int .u8 (y % 256)] := by
  simp only [h8, hbytes, ← u8_of]
  simp
def leafH (l : List UInt8) : Hsh := hash (0 :: l)
def nodeH (a b : Hsh) : Hsh := hash (1 :: (a.toList ++ b.toList))
theorem flatten_take_succ {α : Type} {ls : List (List α)} {k : Nat} {l : List α} (h : ls[k]? = some l) : (ls.take (k + 1)).flatten = (ls.take k).flatten ++ l := by
  rw [List.take_add_one, h]; simp
theorem hfold_snoc (l : List UInt8) (x : UInt8) : hfold (l ++ [x]) = hstep (hfold l) x := by simp [hfold]
theorem take_snoc' {l : List UInt8} {j : Nat} {x : UInt8} (h : l[j]? = some x) : l.take (j + 1) = l.take j ++ [x] := by
  rw [List.take_add_one, h]; simp

/-- P5: what is rebuilt, of the hashes from the last one on. -/
def rebuildR (leaf : Hsh) : (i n : Nat) → List Hsh → Option Hsh
  | _, n, [] => if n = 1 then some leaf else none
  | i, n, last :: rest => if n = 1 then none else if i < 2 ^ (Lib.bitLen (n - 1) - 1) then (rebuildR leaf i (2 ^ (Lib.bitLen (n - 1) - 1)) rest).map (nodeH · last)
      else (rebuildR leaf (i - 2 ^ (Lib.bitLen (n - 1) - 1)) (n - 2 ^ (Lib.bitLen (n - 1) - 1)) rest).map (nodeH last ·)
def rebuild (leaf : Hsh) (i n : Nat) (p : List Hsh) : Option Hsh := rebuildR leaf i n p.reverse
def included (leaf : Hsh) (i n : Int) (p : List Hsh) (root : Hsh) : Bool := decide (0 ≤ i) && decide (i < n) && (rebuild leaf i.toNat n.toNat p == some root)
/-- P7: the two roots that are rebuilt, of the hashes from the last one on. -/
def rootsR : (m n : Nat) → Option Hsh → List Hsh → Option (Hsh × Hsh)
  | m, n, whole, [] => if m = n then whole.map fun a => (a, a) else none
  | m, n, whole, r :: rest => if m = n then (match whole with | some _ => none | none => if rest = [] then some (r, r) else none)
      else if m ≤ 2 ^ (Lib.bitLen (n - 1) - 1) then (rootsR m (2 ^ (Lib.bitLen (n - 1) - 1)) whole rest).map fun x => (x.1, nodeH x.2 r)
      else (rootsR (m - 2 ^ (Lib.bitLen (n - 1) - 1)) (n - 2 ^ (Lib.bitLen (n - 1) - 1)) none rest).map fun x => (nodeH r x.1, nodeH r x.2)
def roots (m n : Nat) (whole : Option Hsh) (p : List Hsh) : Option (Hsh × Hsh) := rootsR m n whole p.reverse
def consistent (m n : Int) (a b : Hsh) (p : List Hsh) : Bool := decide (1 ≤ m) && decide (m ≤ n) && (roots m.toNat n.toNat (some a) p == some (a, b))
/-- The first eight bytes, noughts behind. -/
def eightOf (l : List UInt8) : Hsh := #v[l.getD 0 0, l.getD 1 0, l.getD 2 0, l.getD 3 0, l.getD 4 0, l.getD 5 0, l.getD 6 0, l.getD 7 0]

/-- The greatest power of 2 below n. -/
def below (n : Nat) : Nat := 2 ^ (Lib.bitLen (n - 1) - 1)
theorem bl_bd {n : Nat} (h2 : 2 ≤ n) (h3 : n < 9223372036854775808) : ∃ e, Lib.bitLen (n - 1) = e + 1 ∧ e ≤ 62 ∧ 2 ^ e < n ∧ n ≤ 2 * 2 ^ e := by
  have h := Lib.bitLenAux_bounds 64 (n - 1) (by omega) (by omega)
  obtain ⟨e, he⟩ : ∃ e, Lib.bitLen (n - 1) = e + 1 := ⟨Lib.bitLen (n - 1) - 1, by unfold Lib.bitLen; omega⟩
  have he' : Lib.bitLenAux 64 (n - 1) = e + 1 := he
  rw [he'] at h
  simp only [Nat.add_sub_cancel] at h
  refine ⟨e, he, ?_, by omega, by have := h.2.2; rw [Nat.pow_succ] at this; omega⟩
  rcases Nat.lt_or_ge e 63 with h' | h'
  · omega
  · have := Nat.pow_le_pow_right (n := 2) (by decide) h'
    omega
theorem below_bd {n : Nat} (h2 : 2 ≤ n) (h3 : n < 9223372036854775808) : 0 < below n ∧ below n < n ∧ n ≤ 2 * below n := by
  obtain ⟨e, he, _, h4, h5⟩ := bl_bd h2 h3
  unfold below
  rw [he, Nat.add_sub_cancel]
  exact ⟨Nat.two_pow_pos e, h4, h5⟩
theorem below_uniq {n e : Nat} (h2 : 2 ≤ n) (h3 : n < 9223372036854775808) (h4 : 2 ^ e < n) (h5 : n ≤ 2 * 2 ^ e) : below n = 2 ^ e := by
  obtain ⟨e', he, _, h6, h7⟩ := bl_bd h2 h3
  unfold below
  rw [he, Nat.add_sub_cancel]
  rcases Nat.lt_trichotomy e e' with h | h | h
  · have := Nat.pow_le_pow_right (n := 2) (by decide) (show e + 1 ≤ e' from h)
    rw [Nat.pow_succ] at this
    omega
  · rw [h]
  · have := Nat.pow_le_pow_right (n := 2) (by decide) (show e' + 1 ≤ e from h)
    rw [Nat.pow_succ] at this
    omega
end Go.Proofs.YtefccfakhgdfbaaDoor
