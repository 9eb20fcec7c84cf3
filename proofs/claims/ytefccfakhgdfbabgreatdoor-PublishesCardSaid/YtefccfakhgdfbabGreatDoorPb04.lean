/-
  Plain functions of lists of bytes: the hash, trees, proofs. No program is used.
  The walk of merkle.Sum.
  The walks of tilesref.Hash, Leaf, Node.
  The walks of merkle.Leaf, merkle.Node; small laws for arrays of eight bytes in regions that draw their order.
  The walks of tileslaw.eight, tileslaw.eights, plain.hash, plain.hashes.
-/
import Derived.Test.YtefccfakhgdfbabGreatDoorPb01
import Derived.Lib.ItoaNum
import Derived.Deep.RegionWith
import Derived.Laws.CopyOwn
set_option linter.unusedVariables false
set_option linter.unusedSimpArgs false
section
namespace Go.Proofs.YtefccfakhgdfbabGreatDoor
open Go.RowKit

/-- One step of the hash, in the walk's own form. -/
def hstep (z : Int) (x : UInt8) : Int := IntKind.u64.wrap (bits BinOp.xor IntKind.u64 z (IntKind.u64.wrap x.toNat) * 1099511628211)
def hstart : Int := 14695981039346656037
def hfold (l : List UInt8) : Int := l.foldl hstep hstart
theorem wrap_u64_bd (x : Int) : 0 ≤ IntKind.u64.wrap x ∧ IntKind.u64.wrap x < 2 ^ 64 := by
  simp only [IntKind.wrap, IntKind.bits, IntKind.signed]
  simp
  omega
theorem hfold_bd (l : List UInt8) : 0 ≤ hfold l ∧ hfold l < 2 ^ 64 := by
  have : ∀ (l : List UInt8) (z : Int), 0 ≤ z ∧ z < 2 ^ 64 → 0 ≤ l.foldl hstep z ∧ l.foldl hstep z < 2 ^ 64 := by
    intro l
    induction l with
    | nil => intro z hz; exact hz
    | cons x l ih => intro z _; exact ih _ (wrap_u64_bd _)
  exact this l _ (by unfold hstart; omega)
def hbytes (y : Int) : Hsh := #v[UInt8.ofNat (y / 72057594037927936 % 256).toNat, UInt8.ofNat (y / 281474976710656 % 256).toNat, UInt8.ofNat (y / 1099511627776 % 256).toNat, UInt8.ofNat (y / 4294967296 % 256).toNat,
  UInt8.ofNat (y / 16777216 % 256).toNat, UInt8.ofNat (y / 65536 % 256).toNat, UInt8.ofNat (y / 256 % 256).toNat, UInt8.ofNat (y % 256).toNat]
/-- THE HASH of some bytes. -/
def hash (l : List UInt8) : Hsh := hbytes (hfold l)
theorem u8_of (y : Int) : u8 (UInt8.ofNat (y % 256).toNat) = .int .u8 (y % 256) := by
  have h : 0 ≤ y % 256 ∧ y % 256 < 256 := by omega
  show Value.int .u8 _ = _
  congr 1
  rw [UInt8.toNat_ofNat']
  omega
theorem h8_hbytes (y : Int) : h8 (hbytes y) = #[.int .u8 (y / 72057594037927936 % 256), .int .u8 (y / 281474976710656 % 256), .int .u8 (y / 1099511627776 % 256), .int .u8 (y / 4294967296 % 256), .int .u8 (y / 16777216 % 256), .int .u8 (y / 65536 % 256), .int .u8 (y / 256 % 256), .int .u8 (y % 256)] := by
  simp only [h8, hbytes, ← u8_of]
  simp
def leafH (l : List UInt8) : Hsh := hash (0 :: l)
def nodeH (a b : Hsh) : Hsh := hash (1 :: (a.toList ++ b.toList))
theorem flatten_take_succ {α : Type} {ls : List (List α)} {k : Nat} {l : List α} (h : ls[k]? = some l) : (ls.take (k + 1)).flatten = (ls.take k).flatten ++ l := by
  rw [List.take_add_one, h]; simp
theorem hfold_snoc (l : List UInt8) (x : UInt8) : hfold (l ++ [x]) = hstep (hfold l) x := by simp [hfold]
theorem take_snoc' {l : List UInt8} {j : Nat} {x : UInt8} (h : l[j]? = some x) : l.take (j + 1) = l.take j ++ [x] := by
  rw [List.take_add_one, h]; simp

/-- P5: what is rebuilt, of the hashes from the last one on. -/
def rebuildR (leaf : Hsh) : (i n : Nat) → List Hsh → Option Hsh
  | _, n, [] => if n = 1 then some leaf else none
  | i, n, last :: rest => if n = 1 then none else if i < 2 ^ (Lib.bitLen (n - 1) - 1) then (rebuildR leaf i (2 ^ (Lib.bitLen (n - 1) - 1)) rest).map (nodeH · last)
      else (rebuildR leaf (i - 2 ^ (Lib.bitLen (n - 1) - 1)) (n - 2 ^ (Lib.bitLen (n - 1) - 1)) rest).map (nodeH last ·)
def rebuild (leaf : Hsh) (i n : Nat) (p : List Hsh) : Option Hsh := rebuildR leaf i n p.reverse
def included (leaf : Hsh) (i n : Int) (p : List Hsh) (root : Hsh) : Bool := decide (0 ≤ i) && decide (i < n) && (rebuild leaf i.toNat n.toNat p == some root)
/-- P7: the two roots that are rebuilt, of the hashes from the last one on. -/
def rootsR : (m n : Nat) → Option Hsh → List Hsh → Option (Hsh × Hsh)
  | m, n, whole, [] => if m = n then whole.map fun a => (a, a) else none
  | m, n, whole, r :: rest => if m = n then (match whole with | some _ => none | none => if rest = [] then some (r, r) else none)
      else if m ≤ 2 ^ (Lib.bitLen (n - 1) - 1) then (rootsR m (2 ^ (Lib.bitLen (n - 1) - 1)) whole rest).map fun x => (x.1, nodeH x.2 r)
      else (rootsR (m - 2 ^ (Lib.bitLen (n - 1) - 1)) (n - 2 ^ (Lib.bitLen (n - 1) - 1)) none rest).map fun x => (nodeH r x.1, nodeH r x.2)
def roots (m n : Nat) (whole : Option Hsh) (p : List Hsh) : Option (Hsh × Hsh) := rootsR m n whole p.reverse
def consistent (m n : Int) (a b : Hsh) (p : List Hsh) : Bool := decide (1 ≤ m) && decide (m ≤ n) && (roots m.toNat n.toNat (some a) p == some (a, b))
/-- The first eight bytes, noughts behind. -/
def eightOf (l : List UInt8) : Hsh := #v[l.getD 0 0, l.getD 1 0, l.getD 2 0, l.getD 3 0, l.getD 4 0, l.getD 5 0, l.getD 6 0, l.getD 7 0]

/-- The greatest power of 2 below n. -/
def below (n : Nat) : Nat := 2 ^ (Lib.bitLen (n - 1) - 1)
theorem bl_bd {n : Nat} (h2 : 2 ≤ n) (h3 : n < 9223372036854775808) : ∃ e, Lib.bitLen (n - 1) = e + 1 ∧ e ≤ 62 ∧ 2 ^ e < n ∧ n ≤ 2 * 2 ^ e := by
  have h := Lib.bitLenAux_bounds 64 (n - 1) (by omega) (by omega)
  obtain ⟨e, he⟩ : ∃ e, Lib.bitLen (n - 1) = e + 1 := ⟨Lib.bitLen (n - 1) - 1, by unfold Lib.bitLen; omega⟩
  have he' : Lib.bitLenAux 64 (n - 1) = e + 1 := he
  rw [he'] at h
  simp only [Nat.add_sub_cancel] at h
  refine ⟨e, he, ?_, by omega, by have := h.2.2; rw [Nat.pow_succ] at this; omega⟩
  rcases Nat.lt_or_ge e 63 with h' | h'
  · omega
  · have := Nat.pow_le_pow_right (n := 2) (by decide) h'
    omega
theorem below_bd {n : Nat} (h2 : 2 ≤ n) (h3 : n < 9223372036854775808) : 0 < below n ∧ below n < n ∧ n ≤ 2 * below n := by
  obtain ⟨e, he, _, h4, h5⟩ := bl_bd h2 h3
  unfold below
  rw [he, Nat.add_sub_cancel]
  exact ⟨Nat.two_pow_pos e, h4, h5⟩
theorem below_uniq {n e : Nat} (h2 : 2 ≤ n) (h3 : n < 9223372036854775808) (h4 : 2 ^ e < n) (h5 : n ≤ 2 * 2 ^ e) : below n = 2 ^ e := by
  obtain ⟨e', he, _, h6, h7⟩ := bl_bd h2 h3
  unfold below
  rw [he, Nat.add_sub_cancel]
  rcases Nat.lt_trichotomy e e' with h | h | h
  · have := Nat.pow_le_pow_right (n := 2) (by decide) (show e + 1 ≤ e' from h)
    rw [Nat.pow_succ] at this
    omega
  · rw [h]
  · have := Nat.pow_le_pow_right (n := 2) (by decide) (show e' + 1 ≤ e from h)
    rw [Nat.pow_succ] at this
    omega
end Go.Proofs.YtefccfakhgdfbabGreatDoor
end

section
namespace Go.Proofs.YtefccfakhgdfbabGreatDoor
open Go.RowKit
theorem ret_agg {a b : Array Value} (h : a = b) : Ending.returned (.agg a) = .returned (.agg b) := by rw [h]
set_option maxHeartbeats 800000 in
theorem sum_any (v : Value) (ls : List (List UInt8)) (w : World) (h : BssAt w v ls) (hn : ls.length ≤ 1048576) (hm : ∀ l ∈ ls, l.length ≤ 9223372036854775807) :
    Calls Tryz.prog 66 #[v] w fun e w' => e = .returned (.agg (h8 (hash ls.flatten))) ∧ Below w.heap.size w w' := by
  have hW1 : Below w.heap.size w (w.alloc (.cells #[.int .u8 0, .int .u8 0, .int .u8 0, .int .u8 0, .int .u8 0, .int .u8 0, .int .u8 0, .int .u8 0] 109)) := (Below.refl _ _).alloc (Nat.le_refl _) _
  obtain ⟨vs, hlen, ⟨a, c, rfl, hcap, hc⟩, hall⟩ := h.below hW1
  have HL := Lib.hid hlen
  have HC := Lib.hid hc
  have HA := Lib.hid hall
  have HM := Lib.hid hm
  clear hc hall hlen hm h hW1
  go_enter Tryz.func66, Tryz.ntmps66
  go_wp2
  go_loop [3, 11] (fun x i => ∃ k : Nat, k ≤ ls.length ∧ i = .int .i64 k ∧ x = .int .u64 (hfold (ls.take k).flatten)) (fun _ i => ls.length - (intOf i).toNat)
  case atStart => exact ⟨0, by omega, rfl, rfl⟩
  case round =>
    obtain ⟨k, hk, rfl, rfl⟩ := hrel
    by_cases hlt : k < ls.length
    · obtain ⟨l, hl⟩ : ∃ s, ls[k]? = some s := ⟨_, List.getElem?_eq_getElem hlt⟩
      obtain ⟨u, hu⟩ : ∃ s, vs[k]? = some s := ⟨_, List.getElem?_eq_getElem (by rw [HL.out]; exact hlt)⟩
      obtain ⟨b, off, rfl, hcell⟩ := HC.out k u hu
      obtain ⟨a2, c2, rfl, hcap2, hc2⟩ := HA.out k u l hu hl
      have hb := HM.out l (List.mem_of_getElem? hl)
      obtain ⟨pre, hpre⟩ : ∃ p, p = (ls.take k).flatten := ⟨_, rfl⟩
      rw [← hpre]
      have HP := Lib.hid hpre
      have HL2 := Lib.hid hl
      have HU2 := Lib.hid hu
      have HC2 := Lib.hid hc2
      clear hl hu hc2 hpre
      go_wp2
      go_loop [3, 17] (fun x i => ∃ j : Nat, j ≤ l.length ∧ i = .int .i64 j ∧ x = .int .u64 (hfold (pre ++ l.take j))) (fun _ i => l.length - (intOf i).toNat)
      case atStart => exact ⟨0, by omega, rfl, by simp⟩
      case round =>
        obtain ⟨j, hj, rfl, rfl⟩ := hrel
        by_cases hjl : j < l.length
        · obtain ⟨x, hx⟩ : ∃ s, l[j]? = some s := ⟨_, List.getElem?_eq_getElem hjl⟩
          obtain ⟨b2, off2, rfl, hcell2⟩ := HC2.out j (u8 x) (by simp [hx])
          have hst : hfold (pre ++ l.take (j + 1)) = hstep (hfold (pre ++ l.take j)) x := by rw [take_snoc' hx, ← List.append_assoc, hfold_snoc]
          have HST := Lib.hid hst
          clear hst hx
          go_wp2
          go_round
          case rel => exact ⟨j + 1, by omega, by go_num, by rw [HST.out]; rfl⟩
          case measure => simp [intOf]; omega
        · have ht : l.take j = l := List.take_of_length_le (by omega)
          rw [ht]
          go_wp2
          go_round
          case rel => exact ⟨k + 1, by omega, by go_num, by rw [flatten_take_succ HL2.out, ← HP.out]⟩
          case measure => simp [intOf]; omega
    · have ht : ls.take k = ls := List.take_of_length_le (by omega)
      rw [ht]
      have hbd := hfold_bd ls.flatten
      obtain ⟨y, hy⟩ : ∃ y, y = hfold ls.flatten := ⟨_, rfl⟩
      rw [← hy] at hbd ⊢
      have HY := Lib.hid hy
      clear hy ht
      obtain ⟨hb0, hb1⟩ := hbd
      go_wp2
      refine wp_loop_rounds 9 ?_
      iterate 9
        rw [rounds_succ]
        go_wp2
      refine bodyPost_ret (v := .agg (h8 (hash ls.flatten))) ?_ rfl ⟨rfl, (Below.refl _ _).alloc (Nat.le_refl _) _⟩
      unfold hash
      rw [← HY.out, h8_hbytes]
      simp [results, Tryz.results66, go_sem]
      omega

theorem cells_block {w : World} {k n c : Nat} {vs : Array Value} {e : TypeId} {fz : Nat × Nat} (hcap : n ≤ c) (hk : w.heap[k]? = some (.cells vs e fz)) : Cells w (.slice (some ⟨k, 0, none⟩) n c) n vs.toList :=
  ⟨_, c, rfl, hcap, fun j x hx => ⟨k, 0, rfl, by simpa [World.cell?, hk] using hx⟩⟩
theorem h8_toList (h : Hsh) : (h8 h).toList = h.toList.map u8 := by simp only [h8, Array.toList_map]; rfl
theorem hashOf_bytes {w : World} {g : Nat} {h : Hsh} (hh : hashOf w g h) (c : Nat) (hcap : 8 ≤ c := by decide) : BytesAt w (.slice (some ⟨g, 0, none⟩) 8 c) h.toList := by
  have := cells_block (n := 8) (c := c) hcap hh
  rw [h8_toList] at this
  unfold BytesAt
  simpa using this
theorem hashOf_at {w : World} {g : Nat} {h : Hsh} (e : g = w.heap.size) : hashOf (w.alloc (.cells (h8 h) 109)) g h := by subst e; exact hashOf_new w h
theorem bss2 {w : World} {k c : Nat} {u1 u2 : Value} {e : TypeId} {fz : Nat × Nat} {l1 l2 : List UInt8} (hk : w.heap[k]? = some (.cells #[u1, u2] e fz)) (h1 : BytesAt w u1 l1) (h2 : BytesAt w u2 l2) (hcap : 2 ≤ c := by decide) :
    BssAt w (.slice (some ⟨k, 0, none⟩) 2 c) [l1, l2] := by
  refine ⟨(#[u1, u2] : Array Value).toList, rfl, cells_block hcap hk, ?_⟩
  intro j u l g1 g2
  match j, g1, g2 with
  | 0, g1, g2 => simp at g1 g2; subst g1 g2; exact h1
  | 1, g1, g2 => simp at g1 g2; subst g1 g2; exact h2
theorem bss3 {w : World} {k c : Nat} {u1 u2 u3 : Value} {e : TypeId} {fz : Nat × Nat} {l1 l2 l3 : List UInt8} (hk : w.heap[k]? = some (.cells #[u1, u2, u3] e fz)) (h1 : BytesAt w u1 l1) (h2 : BytesAt w u2 l2) (h3 : BytesAt w u3 l3) (hcap : 3 ≤ c := by decide) :
    BssAt w (.slice (some ⟨k, 0, none⟩) 3 c) [l1, l2, l3] := by
  refine ⟨(#[u1, u2, u3] : Array Value).toList, rfl, cells_block hcap hk, ?_⟩
  intro j u l g1 g2
  match j, g1, g2 with
  | 0, g1, g2 => simp at g1 g2; subst g1 g2; exact h1
  | 1, g1, g2 => simp at g1 g2; subst g1 g2; exact h2
  | 2, g1, g2 => simp at g1 g2; subst g1 g2; exact h3
theorem bytes1 {w : World} {k c : Nat} {x : UInt8} {e : TypeId} {fz : Nat × Nat} (hk : w.heap[k]? = some (.cells #[u8 x] e fz)) (hcap : 1 ≤ c := by decide) : BytesAt w (.slice (some ⟨k, 0, none⟩) 1 c) [x] := cells_block hcap hk
theorem node_bss (w : World) (a b : Hsh) (o : Obj) :
    BssAt (((((w.alloc (.cells (h8 a) 109)).alloc (.cells (h8 b) 109)).alloc o).alloc (.cells #[.int .u8 1] 5)).alloc
      (.cells #[.slice (some ⟨w.heap.size + 1 + 1 + 1, 0, none⟩) 1 1, .slice (some ⟨w.heap.size, 0, none⟩) 8 8, .slice (some ⟨w.heap.size + 1, 0, none⟩) 8 8] 94)).drew
      (.slice (some ⟨w.heap.size + 1 + 1 + 1 + 1, 0, none⟩) 3 3) [[1], a.toList, b.toList] := by
  have ha : hashOf ((((w.alloc (.cells (h8 a) 109)).alloc (.cells (h8 b) 109)).alloc o).alloc (.cells #[.int .u8 1] 5)) w.heap.size a := hashOf_old (hashOf_old (hashOf_old (hashOf_at rfl) _) _) _
  have hb : hashOf ((((w.alloc (.cells (h8 a) 109)).alloc (.cells (h8 b) 109)).alloc o).alloc (.cells #[.int .u8 1] 5)) (w.heap.size + 1) b := hashOf_old (hashOf_old (hashOf_at (by simp)) _) _
  refine BssAt.below (bss3 (fz := (0, 0)) (heap_alloc_new' _ _ _ (by simp)) ?_ ?_ ?_) (below_drew _)
  · exact (bytes1 (x := 1) (fz := (0, 0)) (heap_alloc_new' _ _ _ (by simp))).below (below_alloc _ _)
  · exact (hashOf_bytes ha _).below (below_alloc _ _)
  · exact (hashOf_bytes hb _).below (below_alloc _ _)
end Go.Proofs.YtefccfakhgdfbabGreatDoor
end

section
namespace Go.Proofs.YtefccfakhgdfbabGreatDoor
open Go.RowKit
/-- A hash as a text of eight bytes. -/
def HS (h : Hsh) : ByteArray := ⟨h.toArray⟩
/-- The block holds the cells of a hash (of whatever type). -/
def hashCells (w : World) (g : Nat) (h : Hsh) : Prop := (w.heap[g]?).map (fun | .cells c _ _ => c | _ => #[]) = some (h8 h)
theorem hashCells_bytes {w : World} {g : Nat} {h : Hsh} (hh : hashCells w g h) (c : Nat) (hcap : 8 ≤ c := by decide) : BytesAt w (.slice (some ⟨g, 0, none⟩) 8 c) h.toList := by
  unfold hashCells at hh
  rw [Option.map_eq_some_iff] at hh
  obtain ⟨o, ho, hc⟩ := hh
  cases o <;> simp at hc
  case cells cs e fz =>
    subst hc
    have := cells_block (n := 8) (c := c) hcap ho
    rw [h8_toList] at this
    unfold BytesAt
    simpa using this
  all_goals (have := congrArg Array.size hc; simp at this)
set_option maxHeartbeats 1000000 in
theorem rhash_any (s : ByteArray) (w : World) (hs : s.size ≤ 1099511627776) :
    Calls Tryz.prog 110 #[.string s] w fun e w' => e = .returned (.string (HS (hash s.data.toList))) ∧ Below w.heap.size w w' := by
  have hmk : ∀ w, (Instr.makeSlice 94 (.int .i64 8) (.int .i64 8)).run Tryz.prog w = .ok (.slice (some ⟨w.heap.size, 0, none⟩) 8 8) (w.alloc (.cells #[.int .u8 0, .int .u8 0, .int .u8 0, .int .u8 0, .int .u8 0, .int .u8 0, .int .u8 0, .int .u8 0] 5)) := fun _ => by kernel_rfl
  go_enter Tryz.func110, Tryz.ntmps110
  go_wp2
  go_loop [3, 4] (fun x i => ∃ k : Nat, k ≤ s.size ∧ i = .int .i64 k ∧ x = .int .u64 (hfold (s.data.toList.take k))) (fun _ i => s.size - (intOf i).toNat)
  case atStart => exact ⟨0, by omega, rfl, rfl⟩
  case round =>
    obtain ⟨k, hk, rfl, rfl⟩ := hrel
    by_cases hlt : k < s.size
    · have hst : hfold (s.data.toList.take (k + 1)) = hstep (hfold (s.data.toList.take k)) s[k] := by rw [take_snoc' (x := s[k]) (by simp [hlt]; rfl), hfold_snoc]
      have HST := Lib.hid hst
      clear hst
      go_wp2
      go_round
      case rel => exact ⟨k + 1, by omega, by go_num, by rw [HST.out]; rfl⟩
      case measure => simp [intOf]; omega
    · have ht : s.data.toList.take k = s.data.toList := List.take_of_length_le (by simp; omega)
      rw [ht]
      have hbd := hfold_bd s.data.toList
      obtain ⟨y, hy⟩ : ∃ y, y = hfold s.data.toList := ⟨_, rfl⟩
      rw [← hy] at hbd ⊢
      have HY := Lib.hid hy
      clear hy ht
      obtain ⟨hb0, hb1⟩ := hbd
      go_wp2
      refine wp_loop_rounds 9 ?_
      iterate 8
        rw [rounds_succ]
        go_wp2
      rw [rounds_succ]
      have d2 : y / 256 / 256 = y / 65536 := by omega
      have d3 : y / 65536 / 256 = y / 16777216 := by omega
      have d4 : y / 16777216 / 256 = y / 4294967296 := by omega
      have d5 : y / 4294967296 / 256 = y / 1099511627776 := by omega
      have d6 : y / 1099511627776 / 256 = y / 281474976710656 := by omega
      have d7 : y / 281474976710656 / 256 = y / 72057594037927936 := by omega
      have d8 : y / 72057594037927936 % 256 = y / 72057594037927936 := by omega
      have key : hashCells (w.alloc (.cells #[.int .u8 (y / 256 / 256 / 256 / 256 / 256 / 256 / 256), .int .u8 (y / 256 / 256 / 256 / 256 / 256 / 256 % 256), .int .u8 (y / 256 / 256 / 256 / 256 / 256 % 256), .int .u8 (y / 256 / 256 / 256 / 256 % 256), .int .u8 (y / 256 / 256 / 256 % 256), .int .u8 (y / 256 / 256 % 256), .int .u8 (y / 256 % 256), .int .u8 (y % 256)] 5)) w.heap.size (hash s.data.toList) := by
        unfold hashCells
        rw [heap_alloc_new' _ _ _ rfl]
        simp only [d2, d3, d4, d5, d6, d7]
        unfold hash
        rw [← HY.out, h8_hbytes, d8]
        rfl
      have KEY := Lib.hid key
      clear d2 d3 d4 d5 d6 d7 d8 key
      go_wp2_with (refine wpList_bs rfl 94 9 _ rfl _ Tryz.underlying94 Tryz.underlying5 Tryz.underlying9 _ ?_ rfl ?_ ?_; rotate_left; focus exact hashCells_bytes KEY.out 8)
      go_ret
      exact ⟨rfl, (Below.refl _ _).alloc (Nat.le_refl _) _⟩

theorem HS_size (h : Hsh) : (HS h).size = 8 := by simp [HS, ByteArray.size]
theorem HS_list (h : Hsh) : (HS h).data.toList = h.toList := rfl
theorem HS_inj {a b : Hsh} (h : HS a = HS b) : a = b := by
  have := congrArg ByteArray.data h
  exact Vector.toArray_inj.1 this
set_option maxHeartbeats 400000 in
theorem rleaf_any (s : ByteArray) (w : World) (hs : s.size ≤ 1099511627000) :
    Calls Tryz.prog 116 #[.string s] w fun e w' => e = .returned (.string (HS (leafH s.data.toList))) ∧ Below w.heap.size w w' := by
  have he : (({ data := #[0] } : ByteArray) ++ s).data.toList = 0 :: s.data.toList := by simp
  have HE := Lib.hid he
  clear he
  go_enter Tryz.func116, Tryz.ntmps116
  go_wp2_with fail
  refine (rhash_any _ _ (by simp only [ByteArray.size_append]; have : (ByteArray.mk #[0]).size = 1 := rfl; omega)).mono ?_
  rintro e w1 ⟨rfl, hb⟩
  rw [HE.out]
  go_wp2
  go_ret
  exact ⟨rfl, hb⟩
set_option maxHeartbeats 400000 in
theorem rnode_any (a b : ByteArray) (w : World) (ha : a.size ≤ 8) (hb : b.size ≤ 8) :
    Calls Tryz.prog 117 #[.string a, .string b] w fun e w' => e = .returned (.string (HS (hash (1 :: (a.data.toList ++ b.data.toList))))) ∧ Below w.heap.size w w' := by
  have he : (({ data := #[1] } : ByteArray) ++ a ++ b).data.toList = 1 :: (a.data.toList ++ b.data.toList) := by simp
  have HE := Lib.hid he
  clear he
  go_enter Tryz.func117, Tryz.ntmps117
  go_wp2_with fail
  refine (rhash_any _ _ (by simp only [ByteArray.size_append]; have : (ByteArray.mk #[1]).size = 1 := rfl; omega)).mono ?_
  rintro e w1 ⟨rfl, hb⟩
  rw [HE.out]
  go_wp2
  go_ret
  exact ⟨rfl, hb⟩
end Go.Proofs.YtefccfakhgdfbabGreatDoor
end

section
namespace Go.Proofs.YtefccfakhgdfbabGreatDoor
open Go.RowKit
theorem info8 : (Tryz.prog.info? 109).map (·.size) = some 8 := by kernel_rfl
theorem h8_0 (a : Hsh) : (h8 a)[0]? = some (u8 a[0]) := by simp [h8]
theorem h8_1 (a : Hsh) : (h8 a)[1]? = some (u8 a[1]) := by simp [h8]
theorem h8_2 (a : Hsh) : (h8 a)[2]? = some (u8 a[2]) := by simp [h8]
theorem h8_3 (a : Hsh) : (h8 a)[3]? = some (u8 a[3]) := by simp [h8]
theorem h8_4 (a : Hsh) : (h8 a)[4]? = some (u8 a[4]) := by simp [h8]
theorem h8_5 (a : Hsh) : (h8 a)[5]? = some (u8 a[5]) := by simp [h8]
theorem h8_6 (a : Hsh) : (h8 a)[6]? = some (u8 a[6]) := by simp [h8]
theorem h8_7 (a : Hsh) : (h8 a)[7]? = some (u8 a[7]) := by simp [h8]
theorem h8_fold (a : Hsh) : (#[u8 a[0], u8 a[1], u8 a[2], u8 a[3], u8 a[4], u8 a[5], u8 a[6], u8 a[7]] : Array Value) = h8 a := by
  apply Array.ext
  · simp
  · intro i h1 h2
    have : i = 0 ∨ i = 1 ∨ i = 2 ∨ i = 3 ∨ i = 4 ∨ i = 5 ∨ i = 6 ∨ i = 7 := by simp at h1; omega
    rcases this with rfl | rfl | rfl | rfl | rfl | rfl | rfl | rfl <;> simp [h8]
theorem h8_list (a : Hsh) : (h8 a).toList = [u8 a[0], u8 a[1], u8 a[2], u8 a[3], u8 a[4], u8 a[5], u8 a[6], u8 a[7]] := by
  rw [← h8_fold]
theorem run_store8 {P : Program} {w : World} {g : Nat} (k : Hsh) (h : Is8 w g) : Sem.run P (storeCells ⟨g, 0, none⟩ (h8 k).toList) w = .ok () (w.setRow g (h8 k)) := by
  obtain ⟨h0, hh⟩ := h
  have hst := run_storeCells_at P g 0 109 (h8 k).toList 0 (h8 h0) w hh (by simp) (fun u hu => by
    have := h8_one k
    rw [Array.all_eq_true'] at this
    exact this u (by simpa using hu))
  simp only [Nat.zero_add, Nat.add_zero] at hst
  rw [hst]
  congr 2
  apply Array.ext'
  simp
theorem bcell {W w1 : World} (hb : Below W.heap.size W w1) : (∀ b o, b < W.heap.size → w1.cell? ⟨b, o, none⟩ = W.cell? ⟨b, o, none⟩) ∧ (∀ b o, b < W.heap.size → w1.frozen? ⟨b, o, none⟩ = W.frozen? ⟨b, o, none⟩) :=
  ⟨fun b o h => hb.cell (p := ⟨b, o, none⟩) h, fun b o h => hb.frozen (p := ⟨b, o, none⟩) h⟩
theorem below_nest5 (w : World) (a b c d e : Obj) : Below w.heap.size w (((((w.alloc a).alloc b).alloc c).alloc d).alloc e).drew :=
  ((((((Below.refl _ _).alloc (Nat.le_refl _) _).alloc (by simp) _).alloc (by simp; omega) _).alloc (by simp; omega) _).alloc (by simp; omega) _).drew
section
attribute [local go_sem] h8_0 h8_1 h8_2 h8_3 h8_4 h8_5 h8_6 h8_7 h8_fold h8_size run_store8
set_option maxHeartbeats 400000 in
theorem leaf_any (v : Value) (l : List UInt8) (w : World) (h : BytesAt w v l) (hn : l.length ≤ 9223372036854775807) :
    Calls Tryz.prog 72 #[v] w fun e w' => e = .returned (.agg (h8 (leafH l))) ∧ Below w.heap.size w w' := by
  obtain ⟨a, c, rfl⟩ : ∃ a c, v = .slice a l.length c := by obtain ⟨a, c, h1, _, _⟩ := h; exact ⟨a, c, h1⟩
  have HH := Lib.hid h
  clear h
  go_enter Tryz.func72, Tryz.ntmps72
  go_wp2_with fail
  refine (sum_any _ [[0], l] _ (bss2 (fz := (0, 0)) (heap_alloc_new' _ _ _ (by simp)) ?_ ?_) (by simp) (by simp; omega)).mono ?_
  · exact (bytes1 (x := 0) (fz := (0, 0)) (heap_alloc_new' _ _ _ (by simp))).below (below_alloc _ _)
  · exact ((HH.out.below (below_alloc _ _)).below (below_alloc _ _)).below (below_alloc _ _)
  rintro e w1 ⟨rfl, hb⟩
  go_wp2_with (first | (refine wpList_store8 rfl 109 _ _ rfl _ _ rfl rfl info8 ?_ ?_ ?_; rotate_left; focus ((repeat (first | (with_reducible assumption) | ((with_reducible refine hashOf_zero' ?_); (first | rfl | (simp; done) | (simp; omega))) | ((with_reducible refine hashOf_at ?_); (first | rfl | (simp; done) | (simp; omega))) | (with_reducible exact hashOf_set' ⟨_, by assumption⟩ _) | ((with_reducible refine hashOf_set' (Is8_zero ?_) _); (first | rfl | (simp; done) | (simp; omega))) | (with_reducible refine hashOf_old ?_ _) | ((with_reducible refine hashOf_other ?_ _ ?_); rotate_left; (focus (first | (simp; done) | (simp; omega) | omega))) | (with_reducible refine hashOf_drew ?_) | (with_reducible refine hashOf_below ?_ (by assumption)))); done)))

  have hz : hashOf w1 w.heap.size zero8 := by
    (repeat (first | (with_reducible assumption) | ((with_reducible refine hashOf_zero' ?_); (first | rfl | (simp; done) | (simp; omega))) | ((with_reducible refine hashOf_at ?_); (first | rfl | (simp; done) | (simp; omega))) | (with_reducible exact hashOf_set' ⟨_, by assumption⟩ _) | ((with_reducible refine hashOf_set' (Is8_zero ?_) _); (first | rfl | (simp; done) | (simp; omega))) | (with_reducible refine hashOf_old ?_ _) | ((with_reducible refine hashOf_other ?_ _ ?_); rotate_left; (focus (first | (simp; done) | (simp; omega) | omega))) | (with_reducible refine hashOf_drew ?_) | (with_reducible refine hashOf_below ?_ (by assumption))))
  refine ret8 w.heap.size (leafH l) rfl rfl _ Tryz.underlying109 info8 (by simpa [leafH] using hashOf_set hz _) rfl ⟨rfl, ?_⟩
  exact below_setRow ((((below_alloc w _).alloc (by simp) _).alloc (by simp; omega) _).trans (hb.mono (by simp; omega))) (by omega) _
set_option maxHeartbeats 400000 in
theorem node_any (a b : Hsh) (w : World) :
    Calls Tryz.prog 129 #[.agg (h8 a), .agg (h8 b)] w fun e w' => e = .returned (.agg (h8 (nodeH a b))) ∧ Below w.heap.size w w' := by
  go_enter Tryz.func129, Tryz.ntmps129
  go_wp2_with fail
  go_region_with (go_at_call 66; refine (sum_any _ _ _ (node_bss w a b _) (by simp) (by simp)).mono ?_; rintro e w1 ⟨rfl, hb⟩; have HB := Lib.hid hb; have hz : w.heap.size + 4 < w1.heap.size := (by have := hb.size; simp at this; omega); have hI8 : Is8 w1 (w.heap.size + 1 + 1) := ⟨zero8, hashOf_below (hashOf_drew (hashOf_old (hashOf_old (hashOf_zero' (by simp)) _) _)) hb⟩; clear hb)
  go_wp2
  obtain ⟨z, hz8⟩ := hI8
  refine ret8 (w.heap.size + 1 + 1) (nodeH a b) rfl rfl _ Tryz.underlying109 info8 (hashOf_set hz8 _) rfl ⟨rfl, ?_⟩
  exact below_setRow ((below_nest5 w _ _ _ _ _).trans (HB.out.mono (by simp; omega))) (by omega) _
end
end Go.Proofs.YtefccfakhgdfbabGreatDoor
end

section
namespace Go.Proofs.YtefccfakhgdfbabGreatDoor
open Go.RowKit
theorem eight_list (l : List UInt8) : (l.take 8).map u8 ++ (List.replicate 8 (Value.int .u8 0)).drop (min l.length 8) = (h8 (eightOf l)).toList := by
  rw [h8_list]
  match l with
  | [] => rfl
  | [_] => rfl
  | [_, _] => rfl
  | [_, _, _] => rfl
  | [_, _, _, _] => rfl
  | [_, _, _, _, _] => rfl
  | [_, _, _, _, _, _] => rfl
  | [_, _, _, _, _, _, _] => rfl
  | a0 :: a1 :: a2 :: a3 :: a4 :: a5 :: a6 :: a7 :: r =>
    have : min (a0 :: a1 :: a2 :: a3 :: a4 :: a5 :: a6 :: a7 :: r).length 8 = 8 := by simp
    rw [this]
    rfl
theorem wpList_copy8 {P : Program} {ops : Array Oper} {rest : List Oper} {o : Oper} {a : Act} {Q : Exit → Act → World → Prop} {w : World} (hw : Region.wanted o (yielded ops a.tmps) = true) (x y : Operand) (t ts : TypeId)
    (ho : o.op = .call { callee := .builtin .copy, args := #[x, y], argTypes := #[t, ts] }) (e : TypeId) (i : TypeInfo) (ht : P.underlying t = some (.slice e)) (hi : P.info? e = some i) (hsz : i.size = 1)
    (g : Nat) (hx : a.eval x = .slice (some ⟨g, 0, none⟩) 8 8) (s : ByteArray) (hy : a.eval y = .string s) (e' : TypeId)
    (hg : w.heap[g]? = some (.cells #[.int .u8 0, .int .u8 0, .int .u8 0, .int .u8 0, .int .u8 0, .int .u8 0, .int .u8 0, .int .u8 0] e' (0, 0)))
    (h : ∀ n, wpList P ops Q rest (a.put o.dst (.int .i64 n)) (w.setRow g (h8 (eightOf s.data.toList)))) : wpList P ops Q (o :: rest) a w := by
  refine BigFrame.wpList_want hw fun K' hK' => ?_
  have hl : List.take (s.size.min 8) (List.map (fun b : UInt8 => Value.int IntKind.u8 b.toNat) s.data.toList) = (s.data.toList.take 8).map u8 := by
    rw [List.map_take]
    have hlen : (List.map (fun b : UInt8 => Value.int IntKind.u8 b.toNat) s.data.toList).length = s.size := by rw [List.length_map]; rfl
    by_cases h : s.size ≤ 8
    · have hm : s.size.min 8 = s.size := Nat.min_eq_left h
      rw [hm, List.take_of_length_le (by omega)]
      exact (List.take_of_length_le (by rw [List.length_map]; exact h)).symm
    · have hm : s.size.min 8 = 8 := Nat.min_eq_right (by omega)
      rw [hm]
  have hst := run_storeCells_at P g 0 e' ((s.data.toList.take 8).map u8) 0 _ w hg (by simp; omega) (fun u hu => by
    obtain ⟨b, _, rfl⟩ := List.mem_map.1 hu
    rfl)
  have hrow : ((#[.int .u8 0, .int .u8 0, .int .u8 0, .int .u8 0, .int .u8 0, .int .u8 0, .int .u8 0, .int .u8 0] : Array Value).toList.take (0 + 0) ++ (s.data.toList.take 8).map u8 ++ (#[.int .u8 0, .int .u8 0, .int .u8 0, .int .u8 0, .int .u8 0, .int .u8 0, .int .u8 0, .int .u8 0] : Array Value).toList.drop (0 + 0 + ((s.data.toList.take 8).map u8).length)).toArray = h8 (eightOf s.data.toList) := by
    apply Array.ext'
    rw [← eight_list]
    simp [List.replicate, Nat.min_comm]
  rw [hrow] at hst
  clear hrow
  have hr : (Builtin.copy_ #[t, ts] o.type #[.slice (some ⟨g, 0, none⟩) 8 8, .string s]).run P w = .ok (.int .i64 (Nat.min s.size 8 : Nat)) (w.setRow g (h8 (eightOf s.data.toList))) := by
    simp [Builtin.copy_, run_underlying ht, sizeOf, typeInfo, hi, Builtin.lenOf, Builtin.firstCells, hl, goInt]
    rw [← List.map_take, hst]
    rfl
  unfold Oper.wp execOp
  simp only [ho, resolve, invoke, builtin, Sem.run_bind, Sem.run_pure, Result.andThen_ok, List.map_toArray, List.map_cons, List.map_nil, hx, hy, hr]
  exact hK' _ _ (h _)
theorem info_u8 : (Tryz.prog.info? 5).map (fun i => (i.zero, i.size, i.bytes)) = some (some (.int .u8 0), 1, 1) := by kernel_rfl
set_option maxHeartbeats 400000 in
theorem hash_any (s : ByteArray) (w : World) (hs : s.size ≤ 9223372036854775807) :
    Calls Tryz.prog 104 #[.string s] w fun e w' => e = .returned (.agg (h8 (eightOf s.data.toList))) ∧ Below w.heap.size w w' := by
  go_enter Tryz.func104, Tryz.ntmps104
  obtain ⟨i0, hi, hz0, hz1, hz2⟩ := info_parts info_u8
  go_wp2_with (first | (refine wpList_copy8 rfl _ _ 94 9 rfl 5 i0 Tryz.underlying94 hi hz1 (w.heap.size + 1) rfl s rfl _ (heap_alloc_new' _ _ _ (by simp)) ?_; intro n; have hh1 : hashOf (((w.alloc (.cells #[.int .u8 0, .int .u8 0, .int .u8 0, .int .u8 0, .int .u8 0, .int .u8 0, .int .u8 0, .int .u8 0] 109)).alloc (.cells #[.int .u8 0, .int .u8 0, .int .u8 0, .int .u8 0, .int .u8 0, .int .u8 0, .int .u8 0, .int .u8 0] 109)).setRow (w.heap.size + 1) (h8 (eightOf s.data.toList))) (w.heap.size + 1) (eightOf s.data.toList) := hashOf_set (hashOf_zero' (by simp)) _; have hh2 : hashOf (((w.alloc (.cells #[.int .u8 0, .int .u8 0, .int .u8 0, .int .u8 0, .int .u8 0, .int .u8 0, .int .u8 0, .int .u8 0] 109)).alloc (.cells #[.int .u8 0, .int .u8 0, .int .u8 0, .int .u8 0, .int .u8 0, .int .u8 0, .int .u8 0, .int .u8 0] 109)).setRow (w.heap.size + 1) (h8 (eightOf s.data.toList))) w.heap.size zero8 := hashOf_other (hashOf_old (hashOf_zero' rfl) _) _ (by omega)) | (refine wpList_load8 rfl 109 _ rfl _ rfl _ Tryz.underlying109 info8 ?_ ?_ ?_; rotate_left; focus ((repeat (first | (with_reducible assumption) | ((with_reducible refine hashOf_zero' ?_); (first | rfl | (simp; done) | (simp; omega))) | ((with_reducible refine hashOf_at ?_); (first | rfl | (simp; done) | (simp; omega))) | (with_reducible exact hashOf_set' ⟨_, by assumption⟩ _) | ((with_reducible refine hashOf_set' (Is8_zero ?_) _); (first | rfl | (simp; done) | (simp; omega))) | (with_reducible refine hashOf_old ?_ _) | ((with_reducible refine hashOf_other ?_ _ ?_); rotate_left; (focus (first | (simp; done) | (simp; omega) | omega))) | (with_reducible refine hashOf_drew ?_) | (with_reducible refine hashOf_below ?_ (by assumption)))); done)) | (refine wpList_store8 rfl 109 _ _ rfl _ _ rfl rfl info8 ?_ ?_ ?_; rotate_left; focus ((repeat (first | (with_reducible assumption) | ((with_reducible refine hashOf_zero' ?_); (first | rfl | (simp; done) | (simp; omega))) | ((with_reducible refine hashOf_at ?_); (first | rfl | (simp; done) | (simp; omega))) | (with_reducible exact hashOf_set' ⟨_, by assumption⟩ _) | ((with_reducible refine hashOf_set' (Is8_zero ?_) _); (first | rfl | (simp; done) | (simp; omega))) | (with_reducible refine hashOf_old ?_ _) | ((with_reducible refine hashOf_other ?_ _ ?_); rotate_left; (focus (first | (simp; done) | (simp; omega) | omega))) | (with_reducible refine hashOf_drew ?_) | (with_reducible refine hashOf_below ?_ (by assumption)))); done)))
  refine ret8 w.heap.size (eightOf s.data.toList) rfl rfl _ Tryz.underlying109 info8 (hashOf_set (by assumption) _) rfl ⟨rfl, ?_⟩
  exact below_setRow (below_setRow ((below_alloc w _).alloc (by simp) _) (by omega) _) (Nat.le_refl _) _
end Go.Proofs.YtefccfakhgdfbabGreatDoor
end
