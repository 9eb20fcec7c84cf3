/-
  Words for files.Check: lines, and a variable of what is trusted that is written byte by byte. No walk but strings.Split's contract.
  The walk of merkle.Entries' closure: the hash of 2^level entries.
  The tests of merkle.Whole in plain terms. No program is used.
  The walk of merkle.Whole's closure: the root of the entries from lo to hi.
-/
import Derived.Test.YtefccfakhgdfbabGreatDoorPb17
import Derived.Test.YtefccfakhgdfbabGreatDoorPb09
import Derived.Lib.SplitLaws
import Derived.Test.YtefccfakhgdfbabGreatDoorPb04
import Derived.Test.YtefccfakhgdfbabGreatDoorPb07
import Derived.Test.YtefccfakhgdfbabGreatDoorPb12
import Derived.Deep.RegionWith
set_option linter.unusedVariables false
set_option linter.unusedSimpArgs false
section
namespace Go.Proofs.YtefccfakhgdfbabGreatDoor
open Go.RowKit
theorem ssplit_any (s : ByteArray) (w : World) (hs : s.size ≤ 1048576) (h : NumEnv w) :
    Calls Tryz.prog 120 #[.string s, .string (sOf [10])] w fun e w' => ∃ (v : Value) (Ls : List ByteArray), e = .returned v ∧ StrsAt w' v Ls ∧ lists Ls = linesOf s.data.toList ∧ Below w.heap.size w w' := by
  obtain ⟨m, hm⟩ := h.most
  refine (Tryz.strings_Split s (sOf [10]) m w (by omega) hm (by decide)).mono ?_
  rintro e w' ⟨rfl, rfl⟩
  have hlen := Lib.splitB_all (sOf [10]) (by decide) 0 (Lib.countB s (sOf [10])) s rfl
  obtain ⟨Ls, hLs⟩ : ∃ Ls, Ls = Lib.splitB (sOf [10]) 0 (Lib.countB s (sOf [10])) s := ⟨_, rfl⟩
  rw [← hLs] at hlen ⊢
  refine ⟨_, Ls, rfl, ?_, ?_, below_alloc _ _⟩
  · rw [← hlen]
    unfold StrsAt
    refine ⟨_, _, rfl, Nat.le_refl _, fun j x hx => ⟨w.heap.size, 0, rfl, ?_⟩⟩
    rw [Nat.zero_add, World.cell?_alloc_at _ _ _ _ rfl]
    simpa using hx
  · rw [hLs]
    exact Lib.splitB_data (sOf [10]) 0 _ s
theorem grownBy_setCell (w : World) (a : Addr) (v : Value) : w.grownBy (w.setCell a v) (some a.block) := by
  refine ⟨rfl, rfl, rfl, by simp [World.setCell], fun k _ hk => ?_⟩
  exact Below.heap_setCell w a v k (fun e => hk (by rw [e]))
theorem eightOf_get (r : List UInt8) (i : Nat) (hi : i < 8) : (eightOf r)[i] = r.getD i 0 := by
  have : i = 0 ∨ i = 1 ∨ i = 2 ∨ i = 3 ∨ i = 4 ∨ i = 5 ∨ i = 6 ∨ i = 7 := by omega
  rcases this with rfl | rfl | rfl | rfl | rfl | rfl | rfl | rfl <;> rfl
theorem trC_get (n : Int) (h : Hsh) (i : Nat) (hi : i < 8) : (trC n h)[1 + i]? = some (bv h[i]) := by
  have : i = 0 ∨ i = 1 ∨ i = 2 ∨ i = 3 ∨ i = 4 ∨ i = 5 ∨ i = 6 ∨ i = 7 := by omega
  rcases this with rfl | rfl | rfl | rfl | rfl | rfl | rfl | rfl <;> rfl
theorem trC_step (n : Int) (r : List UInt8) (z : UInt8) (hr : r.length < 8) : (trC n (eightOf r)).setIfInBounds (1 + r.length) (bv z) = trC n (eightOf (r ++ [z])) := by
  match r, hr with
  | [], _ => rfl
  | [a], _ => rfl
  | [a, b], _ => rfl
  | [a, b, c], _ => rfl
  | [a, b, c, d], _ => rfl
  | [a, b, c, d, e], _ => rfl
  | [a, b, c, d, e, f], _ => rfl
  | [a, b, c, d, e, f, g], _ => rfl
theorem TrAt.step {w : World} {g : Nat} {n : Int} {r : List UInt8} (h : TrAt w g n (eightOf r)) (z : UInt8) (hr : r.length < 8) : TrAt (w.setCell ⟨g, 1 + r.length, none⟩ (bv z)) g n (eightOf (r ++ [z])) := by
  have hlt := lt_of_heap h
  unfold TrAt at *
  rw [← trC_step n r z hr]
  simp [World.setCell, Array.getElem?_modify, h]
theorem TrAt.at {w : World} {g : Nat} {n : Int} {r : List UInt8} (h : TrAt w g n (eightOf r)) (hr : r.length < 8) : (∃ y, w.cell? ⟨g, 1 + r.length, none⟩ = some (bv y)) ∧ w.frozen? ⟨g, 1 + r.length, none⟩ = false := by
  have := trC_get n (eightOf r) r.length hr
  unfold TrAt at h
  exact ⟨⟨_, by simp only [World.cell?, h]; exact this⟩, by simp [World.frozen?, h]⟩
theorem infoT : (Tryz.prog.info? 111).map (·.size) = some 9 := by kernel_rfl
section
variable {ops : Array Oper} {rest : List Oper} {o : Oper} {a : Act} {Q : Exit → Act → World → Prop} {w : World}
theorem wpList_loadT (hw : Region.wanted o (yielded ops a.tmps) = true) (x : Operand) (ho : o.op = .load 111 x) (g : Nat) (hx : a.eval x = .pointer (some ⟨g, 0, none⟩))
    (n : Int) (h : Hsh) (hh : TrAt w g n h) (hk : wpList Tryz.prog ops Q rest (a.put o.dst (trV n h)) w) : wpList Tryz.prog ops Q (o :: rest) a w :=
  BigFrame.wpList_want hw fun _ hK => wp_load_row 111 x ho g hx _ (trC n h) _ _ hh Tryz.underlying111 rfl (by rw [infoT]; rfl) (hK _ _ hk)
theorem wpList_storeT (hw : Region.wanted o (yielded ops a.tmps) = true) (x y : Operand) (ho : o.op = .store 111 x y) (g : Nat) (n : Int) (k : Hsh) (hx : a.eval x = .pointer (some ⟨g, 0, none⟩)) (hy : a.eval y = trV n k)
    (n0 : Int) (h : Hsh) (hh : TrAt w g n0 h) (hk : wpList Tryz.prog ops Q rest (a.put o.dst undef) (w.setRow g (trC n k))) : wpList Tryz.prog ops Q (o :: rest) a w :=
  BigFrame.wpList_want hw fun _ hK => wp_store_row 111 x y ho g (trC n k) hx hy _ _ hh (by rw [infoT]; rfl) rfl (by simp [Value.oneCell']) (hK _ _ hk)
theorem retT {fn : Func} {R : Ending → World → Prop} {p q : Tmp} (g : Nat) (n : Int) (k : Hsh) (x : Value) (h : fn.results = #[.cell p 111, .tmp q]) (hx : a.tmps.getD p undef = .pointer (some ⟨g, 0, none⟩)) (hq : a.tmps.getD q undef = x)
    (hh : TrAt w g n k) (hd : a.defers = []) (hR : R (.returned (.tuple #[trV n k, x])) w) : bodyPost Tryz.prog fn R .ret a w := by
  refine bodyPost_ret (v := .tuple #[trV n k, x]) ?_ hd hR
  rw [results_cell_tmp h]
  have hl := run_loadVar_row (P := Tryz.prog) w g _ 111 (trC n k) _ _ hh Tryz.underlying111 rfl (by rw [infoT]; rfl)
  simp [hx, hq, asAddr, hl] at *
end
theorem TrAt.set {w : World} {g : Nat} {n0 : Int} {h0 : Hsh} (h : TrAt w g n0 h0) (n : Int) (k : Hsh) : TrAt (w.setRow g (trC n k)) g n k := setRow_heap w g _ _ _ _ h
theorem TrAt.other {w : World} {g g' : Nat} {n : Int} {h : Hsh} (ht : TrAt w g n h) (hne : g ≠ g') (cs : Array Value) : TrAt (w.setRow g' cs) g n h := (setRow_other w g' g cs hne).trans ht
theorem splitK_le (sep : List UInt8) : ∀ (k : Nat) (s : List UInt8), ∀ x ∈ Lib.splitK sep 0 k s, x.length ≤ s.length
  | 0, s, x, hx => by simp only [Lib.splitK, List.mem_singleton] at hx; rw [hx]; exact Nat.le_refl _
  | k + 1, s, x, hx => by
    unfold Lib.splitK at hx
    split at hx
    · simp only [List.mem_singleton] at hx; rw [hx]; exact Nat.le_refl _
    · rcases List.mem_cons.1 hx with rfl | hx
      · simp; omega
      · have := splitK_le sep k _ x hx
        simp at this
        omega
theorem linesOf_le (l : List UInt8) : ∀ x ∈ linesOf l, x.length ≤ l.length := splitK_le [10] _ l
end Go.Proofs.YtefccfakhgdfbabGreatDoor
end

section
namespace Go.Proofs.YtefccfakhgdfbabGreatDoor
open Go.RowKit
set_option maxHeartbeats 2000000 in
theorem ent1_any (L : Nat) : ∀ (i : Nat) (lv ix : Int) (g1 g3 : Nat) (v : Value) (ls : List (List UInt8)) (w : World), lv = L → ix = i → L ≤ 40 → (i + 1) * 2 ^ L ≤ ls.length → ls.length ≤ 1048576 → (∀ l ∈ ls, l.length ≤ 9223372036854775807) →
    w.cell? ⟨g1, 0, none⟩ = some v → w.cell? ⟨g3, 0, none⟩ = some (.func (.func 171) #[] #[.pointer (some ⟨g1, 0, none⟩), .pointer (some ⟨g3, 0, none⟩)]) → BssAt w v ls →
    Calls Tryz.prog 171 #[.int .i64 lv, .int .i64 ix, .pointer (some ⟨g1, 0, none⟩), .pointer (some ⟨g3, 0, none⟩)] w fun e w' => e = .returned (.tuple #[.agg (h8 (fullRoot ls L i)), .nilIface]) ∧ Below w.heap.size w w' := by
  induction L with
  | zero =>
    rintro i lv ix g1 g3 v ls w rfl rfl hL hi hl hs c1 c3 h
    simp only [Nat.pow_zero, Nat.mul_one] at hi
    have hb1 := cell_lt c1
    obtain ⟨vs, hvl, ⟨a, c, rfl, hcap, hc⟩, hall⟩ := h
    have hi' : i < vs.length := by omega
    obtain ⟨b, off, rfl, hcell⟩ := hc i vs[i] (by simp [hi'])
    have hu := hall i vs[i] ls[i] (by simp [hi']) (by simp)
    have hlen := hs ls[i] (List.getElem_mem _)
    have hfr : fullRoot ls 0 i = leafH ls[i] := by simp [fullRoot, List.getD, (by omega : i < ls.length)]
    have hbb := cell_lt hcell
    have HU := Lib.hid hu
    have HF := Lib.hid hfr
    have HL := Lib.hid hlen
    clear hc hall c3 hs hu hfr hlen
    generalize vs[i] = u at *
    generalize ls[i] = l at *
    have hin : i < ls.length := by omega
    obtain ⟨n, hn⟩ : ∃ n, n = ls.length := ⟨_, rfl⟩
    rw [← hn] at c1 hin hcap hl
    simp only [Int.ofNat_zero] at *
    go_enter Tryz.func171, Tryz.ntmps171
    go_wp2_with fail
    refine (leaf_any u l _ (HU.out.below (below_alloc w _)) HL.out).mono ?_
    rintro e w1 ⟨rfl, hb⟩
    have g1 : hashOf w1 w.heap.size zero8 := hashOf_below (hashOf_zero' rfl) hb
    go_wp2_with (first | (refine wpList_load8 rfl 109 _ rfl _ rfl _ Tryz.underlying109 info8 ?_ ?_ ?_; rotate_left; focus ((repeat (first | (with_reducible assumption) | ((with_reducible refine hashOf_zero' ?_); (first | rfl | (simp; done) | (simp; omega))) | ((with_reducible refine hashOf_at ?_); (first | rfl | (simp; done) | (simp; omega))) | (with_reducible exact hashOf_set' ⟨_, by assumption⟩ _) | ((with_reducible refine hashOf_set' (Is8_zero ?_) _); (first | rfl | (simp; done) | (simp; omega))) | (with_reducible refine hashOf_old ?_ _) | ((with_reducible refine hashOf_other ?_ _ ?_); rotate_left; (focus (first | (simp; done) | (simp; omega) | omega))) | (with_reducible refine hashOf_drew ?_) | (with_reducible refine hashOf_below ?_ (by assumption)))); done)) | (refine wpList_store8 rfl 109 _ _ rfl _ _ rfl rfl info8 ?_ ?_ ?_; rotate_left; focus ((repeat (first | (with_reducible assumption) | ((with_reducible refine hashOf_zero' ?_); (first | rfl | (simp; done) | (simp; omega))) | ((with_reducible refine hashOf_at ?_); (first | rfl | (simp; done) | (simp; omega))) | (with_reducible exact hashOf_set' ⟨_, by assumption⟩ _) | ((with_reducible refine hashOf_set' (Is8_zero ?_) _); (first | rfl | (simp; done) | (simp; omega))) | (with_reducible refine hashOf_old ?_ _) | ((with_reducible refine hashOf_other ?_ _ ?_); rotate_left; (focus (first | (simp; done) | (simp; omega) | omega))) | (with_reducible refine hashOf_drew ?_) | (with_reducible refine hashOf_below ?_ (by assumption)))); done)))
    refine ret8t w.heap.size (leafH l) .nilIface rfl rfl rfl _ Tryz.underlying109 info8 (hashOf_set g1 _) rfl ⟨by rw [HF.out], below_setRow ((below_alloc w _).trans (hb.mono (by simp))) (Nat.le_refl _) _⟩
  | succ L ih =>
    rintro i lv ix g1 g3 v ls w rfl rfl hL hi hl hs c1 c3 h
    have hp : 2 ^ L ≥ 1 := Nat.two_pow_pos L
    have e4 : (i + 1) * 2 ^ (L + 1) = (2 * i) * 2 ^ L + 2 ^ L + 2 ^ L := by
      have e1 : i * 2 ^ (L + 1) = (2 * i) * 2 ^ L := by rw [Nat.pow_succ, Nat.mul_comm 2 i, Nat.mul_assoc, Nat.mul_comm (2 ^ L) 2]
      rw [Nat.add_mul, Nat.one_mul, e1, Nat.pow_succ]; omega
    have e3 : (2 * i + 1) * 2 ^ L = (2 * i) * 2 ^ L + 2 ^ L := by rw [Nat.add_mul, Nat.one_mul]
    have hi1 : (2 * i + 1) * 2 ^ L ≤ ls.length := by omega
    have hi2 : (2 * i + 1 + 1) * 2 ^ L ≤ ls.length := by rw [Nat.add_mul (2 * i + 1), Nat.one_mul]; omega
    have hii : 2 * i ≤ (2 * i) * 2 ^ L := Nat.le_mul_of_pos_right _ hp
    have hib : i ≤ 1048576 := by omega
    have hfr : fullRoot ls (L + 1) i = nodeH (fullRoot ls L (2 * i)) (fullRoot ls L (2 * i + 1)) := rfl
    obtain ⟨x, hx⟩ : ∃ x, x = fullRoot ls L (2 * i) := ⟨_, rfl⟩
    obtain ⟨y, hy⟩ : ∃ y, y = fullRoot ls L (2 * i + 1) := ⟨_, rfl⟩
    rw [← hx, ← hy] at hfr
    have I1 := Lib.hid (fun lv ix w e1 e2 => ih (2 * i) lv ix g1 g3 v ls w e1 e2 (by omega) hi1 hl hs)
    have I2 := Lib.hid (fun lv ix w e1 e2 => ih (2 * i + 1) lv ix g1 g3 v ls w e1 e2 (by omega) hi2 hl hs)
    rw [← hx] at I1
    rw [← hy] at I2
    have HF := Lib.hid hfr
    have HH := Lib.hid h
    have C1 := Lib.hid c1
    have hb1 := cell_lt c1
    have hb3 := cell_lt c3
    clear ih hs h hfr hx hy e3 e4 hi hi1 hi2 hii hp c1 hl
    have hz0 : (((L + 1 : Nat) : Int) == 0) = false := by rw [beq_eq_false_iff_ne]; omega
    go_enter Tryz.func171, Tryz.ntmps171
    go_wp2_with fail
    have b0 := below_alloc w (.cells #[.int .u8 0, .int .u8 0, .int .u8 0, .int .u8 0, .int .u8 0, .int .u8 0, .int .u8 0, .int .u8 0] 109)
    refine (I1.out _ _ _ (by omega) (by omega) ((b0.cell (p := ⟨g1, 0, none⟩) hb1).trans C1.out) ((b0.cell (p := ⟨g3, 0, none⟩) hb3).trans c3) (HH.out.below b0)).mono ?_
    rintro e w1 ⟨rfl, hw1⟩
    have B1 := b0.trans (hw1.mono b0.size)
    have z1 : hashOf w1 w.heap.size zero8 := hashOf_below (hashOf_zero' rfl) hw1
    have s1 : w.heap.size + 1 ≤ w1.heap.size := by have := hw1.size; simpa using this
    have c3' := (B1.cell (p := ⟨g3, 0, none⟩) hb3).trans c3
    have hb3' := cell_lt c3'
    have BB1 := Lib.hid B1
    clear b0 hw1 B1 c3 hb3
    have k1 : hashOf ((w1.alloc (.cells #[.int .u8 0, .int .u8 0, .int .u8 0, .int .u8 0, .int .u8 0, .int .u8 0, .int .u8 0, .int .u8 0] 109)).setRow w1.heap.size (h8 x)) w1.heap.size x := hashOf_set (hashOf_zero' rfl) _
    have k2 : Below w.heap.size w ((w1.alloc (.cells #[.int .u8 0, .int .u8 0, .int .u8 0, .int .u8 0, .int .u8 0, .int .u8 0, .int .u8 0, .int .u8 0] 109)).setRow w1.heap.size (h8 x)) := below_setRow (BB1.out.alloc BB1.out.size _) BB1.out.size _
    have k3 : hashOf ((w1.alloc (.cells #[.int .u8 0, .int .u8 0, .int .u8 0, .int .u8 0, .int .u8 0, .int .u8 0, .int .u8 0, .int .u8 0] 109)).setRow w1.heap.size (h8 x)) w.heap.size zero8 := hashOf_other (hashOf_old z1 _) _ (by omega)
    have k5 : ((w1.alloc (.cells #[.int .u8 0, .int .u8 0, .int .u8 0, .int .u8 0, .int .u8 0, .int .u8 0, .int .u8 0, .int .u8 0] 109)).setRow w1.heap.size (h8 x)).heap.size = w1.heap.size + 1 := by simp
    have k4 : ((w1.alloc (.cells #[.int .u8 0, .int .u8 0, .int .u8 0, .int .u8 0, .int .u8 0, .int .u8 0, .int .u8 0, .int .u8 0] 109)).setRow w1.heap.size (h8 x)).cell? ⟨g3, 0, none⟩ = some (.func (.func 171) #[] #[.pointer (some ⟨g1, 0, none⟩), .pointer (some ⟨g3, 0, none⟩)]) := ((below_setRow (below_alloc w1 _) (Nat.le_refl _) _).cell (p := ⟨g3, 0, none⟩) hb3').trans c3'
    have K1 := Lib.hid k1
    have K2 := Lib.hid k2
    have K3 := Lib.hid k3
    have K5 := Lib.hid k5
    clear k1 k2 k3 k5 c3' z1
    go_wp2_with (first | (refine wpList_load8 rfl 109 _ rfl _ rfl _ Tryz.underlying109 info8 ?_ ?_ ?_; rotate_left; focus ((repeat (first | (with_reducible assumption) | ((with_reducible refine hashOf_zero' ?_); (first | rfl | (simp; done) | (simp; omega))) | ((with_reducible refine hashOf_at ?_); (first | rfl | (simp; done) | (simp; omega))) | (with_reducible exact hashOf_set' ⟨_, by assumption⟩ _) | ((with_reducible refine hashOf_set' (Is8_zero ?_) _); (first | rfl | (simp; done) | (simp; omega))) | (with_reducible refine hashOf_old ?_ _) | ((with_reducible refine hashOf_other ?_ _ ?_); rotate_left; (focus (first | (simp; done) | (simp; omega) | omega))) | (with_reducible refine hashOf_drew ?_) | (with_reducible refine hashOf_below ?_ (by assumption)))); done)) | (refine wpList_store8 rfl 109 _ _ rfl _ _ rfl rfl info8 ?_ ?_ ?_; rotate_left; focus ((repeat (first | (with_reducible assumption) | ((with_reducible refine hashOf_zero' ?_); (first | rfl | (simp; done) | (simp; omega))) | ((with_reducible refine hashOf_at ?_); (first | rfl | (simp; done) | (simp; omega))) | (with_reducible exact hashOf_set' ⟨_, by assumption⟩ _) | ((with_reducible refine hashOf_set' (Is8_zero ?_) _); (first | rfl | (simp; done) | (simp; omega))) | (with_reducible refine hashOf_old ?_ _) | ((with_reducible refine hashOf_other ?_ _ ?_); rotate_left; (focus (first | (simp; done) | (simp; omega) | omega))) | (with_reducible refine hashOf_drew ?_) | (with_reducible refine hashOf_below ?_ (by assumption)))); done)))
    generalize ((w1.alloc (.cells #[.int .u8 0, .int .u8 0, .int .u8 0, .int .u8 0, .int .u8 0, .int .u8 0, .int .u8 0, .int .u8 0] 109)).setRow w1.heap.size (h8 x)) = W2 at *
    refine (I2.out _ _ W2 (by omega) (by omega) ((K2.out.cell (p := ⟨g1, 0, none⟩) hb1).trans C1.out) k4 (HH.out.below K2.out)).mono ?_
    rintro e w2 ⟨rfl, hw2⟩
    have s2 : w1.heap.size + 1 ≤ w2.heap.size := by have := hw2.size; rw [K5.out] at this; exact this
    have B2 := Lib.hid (K2.out.trans (hw2.mono K2.out.size))
    have q1 : hashOf ((w2.alloc (.cells #[.int .u8 0, .int .u8 0, .int .u8 0, .int .u8 0, .int .u8 0, .int .u8 0, .int .u8 0, .int .u8 0] 109)).setRow w2.heap.size (h8 y)) w1.heap.size x := hashOf_other (hashOf_old (hashOf_below K1.out hw2) _) _ (by omega)
    have q2 : hashOf ((w2.alloc (.cells #[.int .u8 0, .int .u8 0, .int .u8 0, .int .u8 0, .int .u8 0, .int .u8 0, .int .u8 0, .int .u8 0] 109)).setRow w2.heap.size (h8 y)) w2.heap.size y := hashOf_set (hashOf_zero' rfl) _
    have q3 : hashOf ((w2.alloc (.cells #[.int .u8 0, .int .u8 0, .int .u8 0, .int .u8 0, .int .u8 0, .int .u8 0, .int .u8 0, .int .u8 0] 109)).setRow w2.heap.size (h8 y)) w.heap.size zero8 := hashOf_other (hashOf_old (hashOf_below K3.out hw2) _) _ (by omega)
    have q4 : Below w.heap.size w ((w2.alloc (.cells #[.int .u8 0, .int .u8 0, .int .u8 0, .int .u8 0, .int .u8 0, .int .u8 0, .int .u8 0, .int .u8 0] 109)).setRow w2.heap.size (h8 y)) := below_setRow (B2.out.alloc B2.out.size _) B2.out.size _
    have Q4 := Lib.hid q4
    clear hw2 q4 k4
    go_wp2_with (first | (refine wpList_load8 rfl 109 _ rfl _ rfl _ Tryz.underlying109 info8 ?_ ?_ ?_; rotate_left; focus ((repeat (first | (with_reducible assumption) | ((with_reducible refine hashOf_zero' ?_); (first | rfl | (simp; done) | (simp; omega))) | ((with_reducible refine hashOf_at ?_); (first | rfl | (simp; done) | (simp; omega))) | (with_reducible exact hashOf_set' ⟨_, by assumption⟩ _) | ((with_reducible refine hashOf_set' (Is8_zero ?_) _); (first | rfl | (simp; done) | (simp; omega))) | (with_reducible refine hashOf_old ?_ _) | ((with_reducible refine hashOf_other ?_ _ ?_); rotate_left; (focus (first | (simp; done) | (simp; omega) | omega))) | (with_reducible refine hashOf_drew ?_) | (with_reducible refine hashOf_below ?_ (by assumption)))); done)) | (refine wpList_store8 rfl 109 _ _ rfl _ _ rfl rfl info8 ?_ ?_ ?_; rotate_left; focus ((repeat (first | (with_reducible assumption) | ((with_reducible refine hashOf_zero' ?_); (first | rfl | (simp; done) | (simp; omega))) | ((with_reducible refine hashOf_at ?_); (first | rfl | (simp; done) | (simp; omega))) | (with_reducible exact hashOf_set' ⟨_, by assumption⟩ _) | ((with_reducible refine hashOf_set' (Is8_zero ?_) _); (first | rfl | (simp; done) | (simp; omega))) | (with_reducible refine hashOf_old ?_ _) | ((with_reducible refine hashOf_other ?_ _ ?_); rotate_left; (focus (first | (simp; done) | (simp; omega) | omega))) | (with_reducible refine hashOf_drew ?_) | (with_reducible refine hashOf_below ?_ (by assumption)))); done)))
    refine (node_any x y _).mono ?_
    rintro e w3 ⟨rfl, hw3⟩
    have r1 := hashOf_below q3 hw3
    clear q1 q2 q3
    have R1 := Lib.hid (Q4.out.trans (hw3.mono Q4.out.size))
    clear hw3
    go_wp2_with (first | (refine wpList_load8 rfl 109 _ rfl _ rfl _ Tryz.underlying109 info8 ?_ ?_ ?_; rotate_left; focus ((repeat (first | (with_reducible assumption) | ((with_reducible refine hashOf_zero' ?_); (first | rfl | (simp; done) | (simp; omega))) | ((with_reducible refine hashOf_at ?_); (first | rfl | (simp; done) | (simp; omega))) | (with_reducible exact hashOf_set' ⟨_, by assumption⟩ _) | ((with_reducible refine hashOf_set' (Is8_zero ?_) _); (first | rfl | (simp; done) | (simp; omega))) | (with_reducible refine hashOf_old ?_ _) | ((with_reducible refine hashOf_other ?_ _ ?_); rotate_left; (focus (first | (simp; done) | (simp; omega) | omega))) | (with_reducible refine hashOf_drew ?_) | (with_reducible refine hashOf_below ?_ (by assumption)))); done)) | (refine wpList_store8 rfl 109 _ _ rfl _ _ rfl rfl info8 ?_ ?_ ?_; rotate_left; focus ((repeat (first | (with_reducible assumption) | ((with_reducible refine hashOf_zero' ?_); (first | rfl | (simp; done) | (simp; omega))) | ((with_reducible refine hashOf_at ?_); (first | rfl | (simp; done) | (simp; omega))) | (with_reducible exact hashOf_set' ⟨_, by assumption⟩ _) | ((with_reducible refine hashOf_set' (Is8_zero ?_) _); (first | rfl | (simp; done) | (simp; omega))) | (with_reducible refine hashOf_old ?_ _) | ((with_reducible refine hashOf_other ?_ _ ?_); rotate_left; (focus (first | (simp; done) | (simp; omega) | omega))) | (with_reducible refine hashOf_drew ?_) | (with_reducible refine hashOf_below ?_ (by assumption)))); done)))
    refine ret8t w.heap.size (nodeH x y) .nilIface rfl rfl rfl _ Tryz.underlying109 info8 (hashOf_set r1 _) rfl ⟨by rw [HF.out], below_setRow R1.out (Nat.le_refl _) _⟩
end Go.Proofs.YtefccfakhgdfbabGreatDoor
end

section
namespace Go.Proofs.YtefccfakhgdfbabGreatDoor
open Go.RowKit
theorem and_i64 (a b : Nat) (ha : a < 9223372036854775808) (hb : b < 9223372036854775808) : bits .and .i64 (a : Int) (b : Int) = ((a &&& b : Nat) : Int) := by
  have h1 : (BitVec.ofInt 64 (a : Int)).toNat = a := by
    rw [BitVec.ofInt_natCast, BitVec.toNat_ofNat]; exact Nat.mod_eq_of_lt (by omega)
  have h2 : (BitVec.ofInt 64 (b : Int)).toNat = b := by
    rw [BitVec.ofInt_natCast, BitVec.toNat_ofNat]; exact Nat.mod_eq_of_lt (by omega)
  have h3 : a &&& b ≤ a := Nat.and_le_left
  show IntKind.i64.wrap ((BitVec.ofInt 64 (a : Int) &&& BitVec.ofInt 64 (b : Int)).toNat : Int) = _
  rw [BitVec.toNat_and, h1, h2]
  generalize a &&& b = c at *
  simp [IntKind.wrap, IntKind.bits, IntKind.signed]
  omega
theorem pow_of_and {n : Nat} (h1 : 1 ≤ n) (hn : n < 2 ^ 64) (h : n &&& (n - 1) = 0) : n = 2 ^ (Lib.bitLen n - 1) := by
  obtain ⟨e, he⟩ : ∃ e, e = Lib.bitLen n - 1 := ⟨_, rfl⟩
  have hb := Lib.bitLenAux_bounds 64 n hn (by omega)
  have hb' : 2 ^ e ≤ n ∧ n < 2 ^ e * 2 := by
    rw [he]
    have hs : Lib.bitLen n = Lib.bitLenAux 64 n := rfl
    rw [hs]
    obtain ⟨a1, a2, a3⟩ := hb
    refine ⟨a2, ?_⟩
    rw [← Nat.pow_succ]
    have : (Lib.bitLenAux 64 n - 1).succ = Lib.bitLenAux 64 n := by omega
    rw [this]
    exact a3
  rw [← he]
  rcases Nat.lt_or_ge (2 ^ e) n with hlt | hge
  · exfalso
    have t1 : n.testBit e = true := by
      rw [Nat.testBit_eq_decide_div_mod_eq, (Nat.div_eq_of_lt_le (k := 1) (by omega) (by omega) : n / 2 ^ e = 1)]; rfl
    have t2 : (n - 1).testBit e = true := by
      rw [Nat.testBit_eq_decide_div_mod_eq, (Nat.div_eq_of_lt_le (k := 1) (by omega) (by omega) : (n - 1) / 2 ^ e = 1)]; rfl
    have t3 : (n &&& (n - 1)).testBit e = true := by rw [Nat.testBit_and, t1, t2]; rfl
    rw [h] at t3
    simp at t3
  · omega
end Go.Proofs.YtefccfakhgdfbabGreatDoor
end

section
namespace Go.Proofs.YtefccfakhgdfbabGreatDoor
open Go.RowKit
section
attribute [local go_sem] h8_0 h8_1 h8_2 h8_3 h8_4 h8_5 h8_6 h8_7 h8_fold h8_size run_store8
set_option maxHeartbeats 2000000 in
theorem whole1_any (f : Nat) : ∀ (i n : Nat) (lo hi : Int) (e1 e3 g1 g3 : Nat) (v : Value) (ls : List (List UInt8)) (w : World), lo = i → hi = i + n → n ≤ f → 1 ≤ n → i + n ≤ ls.length → ls.length ≤ 1048576 → (∀ l ∈ ls, l.length ≤ 9223372036854775807) →
    w.cell? ⟨e1, 0, none⟩ = some v → w.cell? ⟨e3, 0, none⟩ = some (.func (.func 171) #[] #[.pointer (some ⟨e1, 0, none⟩), .pointer (some ⟨e3, 0, none⟩)]) → BssAt w v ls →
    w.cell? ⟨g1, 0, none⟩ = some (.func (.func 171) #[] #[.pointer (some ⟨e1, 0, none⟩), .pointer (some ⟨e3, 0, none⟩)]) →
    w.cell? ⟨g3, 0, none⟩ = some (.func (.func 142) #[] #[.pointer (some ⟨g1, 0, none⟩), .pointer (some ⟨g3, 0, none⟩)]) →
    Calls Tryz.prog 142 #[.int .i64 lo, .int .i64 hi, .pointer (some ⟨g1, 0, none⟩), .pointer (some ⟨g3, 0, none⟩)] w fun e w' => e = .returned (.tuple #[.agg (h8 (rootOf ((ls.drop i).take n))), .nilIface]) ∧ Below w.heap.size w w' := by
  induction f with
  | zero => intros; omega
  | succ f ih =>
    intro i n lo hi e1 e3 g1 g3 v ls w hlo hhi hf h1 hin hl hs c1 c3 h d1 d3
    have hA := and_i64 n (n - 1) (by omega) (by omega)
    have hs1 : ((n - 1 : Nat) : Int) = hi - lo - 1 := by omega
    have hs0 : (n : Int) = hi - lo := by omega
    rw [hs1, hs0] at hA
    have hm : lo % (hi - lo) = ((i % n : Nat) : Int) := by
      rw [← hs0, hlo]; rfl
    have l0 : 0 ≤ lo := by omega
    have l1 : lo < hi := by omega
    have l2 : hi ≤ 1048576 := by omega
    by_cases hpr : n &&& (n - 1) = 0 ∧ i % n = 0
    · obtain ⟨hp, hr⟩ := hpr
      rw [hp] at hA
      · have tm : (lo % (hi - lo) == 0) = true := by rw [hm, hr]; rfl
        have ta : (bits .and .i64 (hi - lo) (hi - lo - 1) == 0) = true := by rw [hA]; rfl
        have hpw := pow_of_and h1 (by omega) hp
        obtain ⟨e, he⟩ : ∃ e, Lib.bitLen n = e + 1 := by
          refine ⟨Lib.bitLen n - 1, ?_⟩
          have := (Lib.bitLenAux_bounds 64 n (by omega) (by omega)).1
          have hb : Lib.bitLen n = Lib.bitLenAux 64 n := rfl
          omega
        rw [he, Nat.add_sub_cancel] at hpw
        have he40 : e ≤ 20 := by
          rcases Nat.lt_or_ge 20 e with hlt | hge
          · have := Nat.pow_le_pow_right (n := 2) (by decide) hlt
            omega
          · exact hge
        have HE := Lib.hid he
        have hr0 : decide (hi - lo = 0) = false := decide_eq_false (by omega)
        have hz : ((hi - lo) == 0) = false := by rw [beq_eq_false_iff_ne]; omega
        have hdiv : i / n * n = i := by have := Nat.div_add_mod i n; rw [hr] at this; rw [Nat.mul_comm]; omega
        have hq : (i / n + 1) * 2 ^ e ≤ ls.length := by rw [← hpw, Nat.add_mul, hdiv]; omega
        have hfull : fullRoot ls e (i / n) = rootOf ((ls.drop i).take n) := by
          rw [fullRoot_eq ls e (i / n) (by omega) hq, ← hpw, hdiv]
        have HF := Lib.hid hfull
        have HQ := Lib.hid hq
        have HH := Lib.hid h
        have HS' := Lib.hid hs
        have C1 := Lib.hid c1
        have C3 := Lib.hid c3
        have D3 := Lib.hid d3
        have IH := Lib.hid ih
        have HPW := Lib.hid hpw
        have gl := cell_lt d1
        have hdv := Lib.hid hdiv
        have HLO := Lib.hid hlo
        have HHI := Lib.hid hhi
        have HS0 := Lib.hid hs0
        clear hfull hq h hs c1 c3 d3 ih hpw hp hr hdiv he hs0 hs1 hA hm hlo hhi hz
        go_enter Tryz.func142, Tryz.ntmps142
        go_wp2_with fail
        refine (Tryz.bits_Len _ _ (by omega) (by omega)).mono ?_
        rintro e' w1 ⟨rfl, rfl⟩
        have ht : Lib.bitLen (hi - lo).toNat = e + 1 := by rw [← HE.out, ← HS0.out]; rfl
        rw [ht]
        clear ht
        go_wp2_with fail
        have b0 : Below w.heap.size w (w.alloc (.cells #[.int .u8 0, .int .u8 0, .int .u8 0, .int .u8 0, .int .u8 0, .int .u8 0, .int .u8 0, .int .u8 0] 109)).drew := (below_alloc w _).drew
        have k1 := (b0.cell (p := ⟨e1, 0, none⟩) (cell_lt C1.out)).trans C1.out
        have k3 := (b0.cell (p := ⟨e3, 0, none⟩) (cell_lt C3.out)).trans C3.out
        have K1 := Lib.hid k1
        have K3 := Lib.hid k3
        have HB := Lib.hid (HH.out.below b0)
        have B0 := Lib.hid b0
        have hsh : lo / 2 ^ e = ((i / n : Nat) : Int) := by rw [HLO.out, HPW.out]; simp
        have HSH := Lib.hid hsh
        clear hsh k1 k3 b0
        go_region_with (go_at_call 171; refine (ent1_any e (i / n) _ _ e1 e3 v ls _ rfl HSH.out (by omega) HQ.out hl HS'.out K1.out K3.out HB.out).mono ?_; rintro e' w1 ⟨rfl, hb1⟩; have hz : w.heap.size < w1.heap.size := (by have := hb1.size; simp at this; omega); have hI8 : Is8 w1 w.heap.size := ⟨zero8, hashOf_below (hashOf_drew (hashOf_zero' rfl)) hb1⟩; have B1 := Lib.hid (B0.out.trans (hb1.mono B0.out.size)); clear hb1)
        go_wp2
        obtain ⟨z, hz8⟩ := hI8
        refine ret8t w.heap.size (fullRoot ls e (i / n)) .nilIface rfl rfl rfl _ Tryz.underlying109 info8 (hashOf_set hz8 _) rfl ⟨by rw [HF.out], below_setRow B1.out (Nat.le_refl _) _⟩
    · have hcase : ((bits .and .i64 (hi - lo) (hi - lo - 1) == 0) = true ∧ (lo % (hi - lo) == 0) = false) ∨ (bits .and .i64 (hi - lo) (hi - lo - 1) == 0) = false := by
        by_cases hp : n &&& (n - 1) = 0
        · refine .inl ⟨by rw [hA, hp]; rfl, ?_⟩
          have hr : ¬ i % n = 0 := fun e => hpr ⟨hp, e⟩
          rw [hm, beq_eq_false_iff_ne]
          omega
        · refine .inr ?_
          rw [hA, beq_eq_false_iff_ne]
          omega
      have hn2 : 2 ≤ n := by
        rcases Nat.lt_or_ge n 2 with hlt | hge
        · obtain rfl : n = 1 := by omega
          exact absurd ⟨rfl, Nat.mod_one i⟩ hpr
        · exact hge
      have hr0 : decide (hi - lo = 0) = false := decide_eq_false (by omega)
      have hbd := below_lt hn2
      obtain ⟨k, hk⟩ : ∃ k, k = below n := ⟨_, rfl⟩
      have hpl : ((ls.drop i).take n).length = n := by rw [List.length_take, List.length_drop]; omega
      have hrt : rootOf ((ls.drop i).take n) = nodeH (rootOf ((ls.drop i).take k)) (rootOf ((ls.drop (i + k)).take (n - k))) := by
        rw [rootOf_more (by omega), hpl, ← hk, List.take_take, List.drop_take, List.drop_drop, Nat.min_eq_left (by omega)]
      rw [← hk] at hbd
      obtain ⟨x, hx⟩ : ∃ x, x = rootOf ((ls.drop i).take k) := ⟨_, rfl⟩
      obtain ⟨y, hy⟩ : ∃ y, y = rootOf ((ls.drop (i + k)).take (n - k)) := ⟨_, rfl⟩
      rw [← hx, ← hy] at hrt
      have I1 := Lib.hid (fun lo hi w e1' e2' => ih i k lo hi e1 e3 g1 g3 v ls w e1' e2' (by omega) (by omega) (by omega) hl hs)
      have I2 := Lib.hid (fun lo hi w e1' e2' => ih (i + k) (n - k) lo hi e1 e3 g1 g3 v ls w e1' e2' (by omega) (by omega) (by omega) hl hs)
      rw [← hx] at I1
      rw [← hy] at I2
      have hki : (k : Int) < hi - lo := by omega
      have hk1 : (1 : Int) ≤ k := by omega
      have HK := Lib.hid (show (below (hi - lo).toNat : Int) = k by rw [← hs0, Int.toNat_natCast, hk])
      have HLO := Lib.hid hlo
      have HHI := Lib.hid (show hi = ((i + k : Nat) : Int) + ((n - k : Nat) : Int) by omega)
      have HLK := Lib.hid (show lo + k = ((i + k : Nat) : Int) by omega)
      have HF := Lib.hid hrt
      have HH := Lib.hid h
      have C1 := Lib.hid c1
      have C3 := Lib.hid c3
      have D1 := Lib.hid d1
      have hb3 := cell_lt d3
      have hl2 : 2 ≤ hi - lo := by omega
      clear ih hs h hrt hx hy hpr hA hm hs0 hs1 hlo hhi hf h1 hin hl c1 c3 d1 hpl hk hbd hn2
      rcases hcase with ⟨ta, tm⟩ | ta
      all_goals
        go_enter Tryz.func142, Tryz.ntmps142
        go_wp2_with fail
        refine (split_any _ _ (by omega) (by omega)).mono ?_
        rintro e w0 ⟨rfl, rfl⟩
        rw [HK.out]
        go_wp2_with fail
        have b0 := below_alloc w (.cells #[.int .u8 0, .int .u8 0, .int .u8 0, .int .u8 0, .int .u8 0, .int .u8 0, .int .u8 0, .int .u8 0] 109)
        refine (I1.out lo (lo + k) _ HLO.out (by rw [HLO.out]) ((b0.cell (p := ⟨e1, 0, none⟩) (cell_lt C1.out)).trans C1.out) ((b0.cell (p := ⟨e3, 0, none⟩) (cell_lt C3.out)).trans C3.out) (HH.out.below b0) ((b0.cell (p := ⟨g1, 0, none⟩) (cell_lt D1.out)).trans D1.out) ((b0.cell (p := ⟨g3, 0, none⟩) hb3).trans d3)).mono ?_
        rintro e w1 ⟨rfl, hw1⟩
        have B1 := b0.trans (hw1.mono b0.size)
        have z1 : hashOf w1 w.heap.size zero8 := hashOf_below (hashOf_zero' rfl) hw1
        have s1 : w.heap.size + 1 ≤ w1.heap.size := by have := hw1.size; simpa using this
        have d3' := (B1.cell (p := ⟨g3, 0, none⟩) hb3).trans d3
        have hb3' := cell_lt d3'
        have BB1 := Lib.hid B1
        have D3 := Lib.hid d3
        clear b0 hw1 B1 d3
        have k1 : hashOf ((w1.alloc (.cells #[.int .u8 0, .int .u8 0, .int .u8 0, .int .u8 0, .int .u8 0, .int .u8 0, .int .u8 0, .int .u8 0] 109)).setRow w1.heap.size (h8 x)) w1.heap.size x := hashOf_set (hashOf_zero' rfl) _
        have k2 : Below w.heap.size w ((w1.alloc (.cells #[.int .u8 0, .int .u8 0, .int .u8 0, .int .u8 0, .int .u8 0, .int .u8 0, .int .u8 0, .int .u8 0] 109)).setRow w1.heap.size (h8 x)) := below_setRow (BB1.out.alloc BB1.out.size _) BB1.out.size _
        have k3 : hashOf ((w1.alloc (.cells #[.int .u8 0, .int .u8 0, .int .u8 0, .int .u8 0, .int .u8 0, .int .u8 0, .int .u8 0, .int .u8 0] 109)).setRow w1.heap.size (h8 x)) w.heap.size zero8 := hashOf_other (hashOf_old z1 _) _ (by omega)
        have k5 : ((w1.alloc (.cells #[.int .u8 0, .int .u8 0, .int .u8 0, .int .u8 0, .int .u8 0, .int .u8 0, .int .u8 0, .int .u8 0] 109)).setRow w1.heap.size (h8 x)).heap.size = w1.heap.size + 1 := by simp
        have k4 : ((w1.alloc (.cells #[.int .u8 0, .int .u8 0, .int .u8 0, .int .u8 0, .int .u8 0, .int .u8 0, .int .u8 0, .int .u8 0] 109)).setRow w1.heap.size (h8 x)).cell? ⟨g3, 0, none⟩ = some (.func (.func 142) #[] #[.pointer (some ⟨g1, 0, none⟩), .pointer (some ⟨g3, 0, none⟩)]) := ((below_setRow (below_alloc w1 _) (Nat.le_refl _) _).cell (p := ⟨g3, 0, none⟩) hb3').trans d3'
        have KK1 := Lib.hid k1
        have KK2 := Lib.hid k2
        have KK3 := Lib.hid k3
        have KK5 := Lib.hid k5
        clear k1 k2 k3 k5 d3' z1
        go_wp2_with (first | (refine wpList_load8 rfl 109 _ rfl _ rfl _ Tryz.underlying109 info8 ?_ ?_ ?_; rotate_left; focus ((repeat (first | (with_reducible assumption) | ((with_reducible refine hashOf_zero' ?_); (first | rfl | (simp; done) | (simp; omega))) | ((with_reducible refine hashOf_at ?_); (first | rfl | (simp; done) | (simp; omega))) | (with_reducible exact hashOf_set' ⟨_, by assumption⟩ _) | ((with_reducible refine hashOf_set' (Is8_zero ?_) _); (first | rfl | (simp; done) | (simp; omega))) | (with_reducible refine hashOf_old ?_ _) | ((with_reducible refine hashOf_other ?_ _ ?_); rotate_left; (focus (first | (simp; done) | (simp; omega) | omega))) | (with_reducible refine hashOf_drew ?_) | (with_reducible refine hashOf_below ?_ (by assumption)))); done)) | (refine wpList_store8 rfl 109 _ _ rfl _ _ rfl rfl info8 ?_ ?_ ?_; rotate_left; focus ((repeat (first | (with_reducible assumption) | ((with_reducible refine hashOf_zero' ?_); (first | rfl | (simp; done) | (simp; omega))) | ((with_reducible refine hashOf_at ?_); (first | rfl | (simp; done) | (simp; omega))) | (with_reducible exact hashOf_set' ⟨_, by assumption⟩ _) | ((with_reducible refine hashOf_set' (Is8_zero ?_) _); (first | rfl | (simp; done) | (simp; omega))) | (with_reducible refine hashOf_old ?_ _) | ((with_reducible refine hashOf_other ?_ _ ?_); rotate_left; (focus (first | (simp; done) | (simp; omega) | omega))) | (with_reducible refine hashOf_drew ?_) | (with_reducible refine hashOf_below ?_ (by assumption)))); done)))
        generalize ((w1.alloc (.cells #[.int .u8 0, .int .u8 0, .int .u8 0, .int .u8 0, .int .u8 0, .int .u8 0, .int .u8 0, .int .u8 0] 109)).setRow w1.heap.size (h8 x)) = W2 at *
        refine (I2.out (lo + k) hi W2 HLK.out HHI.out ((KK2.out.cell (p := ⟨e1, 0, none⟩) (cell_lt C1.out)).trans C1.out) ((KK2.out.cell (p := ⟨e3, 0, none⟩) (cell_lt C3.out)).trans C3.out) (HH.out.below KK2.out) ((KK2.out.cell (p := ⟨g1, 0, none⟩) (cell_lt D1.out)).trans D1.out) k4).mono ?_
        rintro e w2 ⟨rfl, hw2⟩
        have s2 : w1.heap.size + 1 ≤ w2.heap.size := by have := hw2.size; rw [KK5.out] at this; exact this
        have B2 := Lib.hid (KK2.out.trans (hw2.mono KK2.out.size))
        have q1 : hashOf ((w2.alloc (.cells #[.int .u8 0, .int .u8 0, .int .u8 0, .int .u8 0, .int .u8 0, .int .u8 0, .int .u8 0, .int .u8 0] 109)).setRow w2.heap.size (h8 y)) w1.heap.size x := hashOf_other (hashOf_old (hashOf_below KK1.out hw2) _) _ (by omega)
        have q2 : hashOf ((w2.alloc (.cells #[.int .u8 0, .int .u8 0, .int .u8 0, .int .u8 0, .int .u8 0, .int .u8 0, .int .u8 0, .int .u8 0] 109)).setRow w2.heap.size (h8 y)) w2.heap.size y := hashOf_set (hashOf_zero' rfl) _
        have q3 : hashOf ((w2.alloc (.cells #[.int .u8 0, .int .u8 0, .int .u8 0, .int .u8 0, .int .u8 0, .int .u8 0, .int .u8 0, .int .u8 0] 109)).setRow w2.heap.size (h8 y)) w.heap.size zero8 := hashOf_other (hashOf_old (hashOf_below KK3.out hw2) _) _ (by omega)
        have q4 : Below w.heap.size w ((w2.alloc (.cells #[.int .u8 0, .int .u8 0, .int .u8 0, .int .u8 0, .int .u8 0, .int .u8 0, .int .u8 0, .int .u8 0] 109)).setRow w2.heap.size (h8 y)) := below_setRow (B2.out.alloc B2.out.size _) B2.out.size _
        have Q4 := Lib.hid q4
        clear hw2 q4 k4
        go_wp2_with (first | (refine wpList_load8 rfl 109 _ rfl _ rfl _ Tryz.underlying109 info8 ?_ ?_ ?_; rotate_left; focus ((repeat (first | (with_reducible assumption) | ((with_reducible refine hashOf_zero' ?_); (first | rfl | (simp; done) | (simp; omega))) | ((with_reducible refine hashOf_at ?_); (first | rfl | (simp; done) | (simp; omega))) | (with_reducible exact hashOf_set' ⟨_, by assumption⟩ _) | ((with_reducible refine hashOf_set' (Is8_zero ?_) _); (first | rfl | (simp; done) | (simp; omega))) | (with_reducible refine hashOf_old ?_ _) | ((with_reducible refine hashOf_other ?_ _ ?_); rotate_left; (focus (first | (simp; done) | (simp; omega) | omega))) | (with_reducible refine hashOf_drew ?_) | (with_reducible refine hashOf_below ?_ (by assumption)))); done)) | (refine wpList_store8 rfl 109 _ _ rfl _ _ rfl rfl info8 ?_ ?_ ?_; rotate_left; focus ((repeat (first | (with_reducible assumption) | ((with_reducible refine hashOf_zero' ?_); (first | rfl | (simp; done) | (simp; omega))) | ((with_reducible refine hashOf_at ?_); (first | rfl | (simp; done) | (simp; omega))) | (with_reducible exact hashOf_set' ⟨_, by assumption⟩ _) | ((with_reducible refine hashOf_set' (Is8_zero ?_) _); (first | rfl | (simp; done) | (simp; omega))) | (with_reducible refine hashOf_old ?_ _) | ((with_reducible refine hashOf_other ?_ _ ?_); rotate_left; (focus (first | (simp; done) | (simp; omega) | omega))) | (with_reducible refine hashOf_drew ?_) | (with_reducible refine hashOf_below ?_ (by assumption)))); done)))
        refine (node_any x y _).mono ?_
        rintro e w3 ⟨rfl, hw3⟩
        have r1 := hashOf_below q3 hw3
        clear q1 q2 q3
        have R1 := Lib.hid (Q4.out.trans (hw3.mono Q4.out.size))
        clear hw3
        go_wp2_with (first | (refine wpList_load8 rfl 109 _ rfl _ rfl _ Tryz.underlying109 info8 ?_ ?_ ?_; rotate_left; focus ((repeat (first | (with_reducible assumption) | ((with_reducible refine hashOf_zero' ?_); (first | rfl | (simp; done) | (simp; omega))) | ((with_reducible refine hashOf_at ?_); (first | rfl | (simp; done) | (simp; omega))) | (with_reducible exact hashOf_set' ⟨_, by assumption⟩ _) | ((with_reducible refine hashOf_set' (Is8_zero ?_) _); (first | rfl | (simp; done) | (simp; omega))) | (with_reducible refine hashOf_old ?_ _) | ((with_reducible refine hashOf_other ?_ _ ?_); rotate_left; (focus (first | (simp; done) | (simp; omega) | omega))) | (with_reducible refine hashOf_drew ?_) | (with_reducible refine hashOf_below ?_ (by assumption)))); done)) | (refine wpList_store8 rfl 109 _ _ rfl _ _ rfl rfl info8 ?_ ?_ ?_; rotate_left; focus ((repeat (first | (with_reducible assumption) | ((with_reducible refine hashOf_zero' ?_); (first | rfl | (simp; done) | (simp; omega))) | ((with_reducible refine hashOf_at ?_); (first | rfl | (simp; done) | (simp; omega))) | (with_reducible exact hashOf_set' ⟨_, by assumption⟩ _) | ((with_reducible refine hashOf_set' (Is8_zero ?_) _); (first | rfl | (simp; done) | (simp; omega))) | (with_reducible refine hashOf_old ?_ _) | ((with_reducible refine hashOf_other ?_ _ ?_); rotate_left; (focus (first | (simp; done) | (simp; omega) | omega))) | (with_reducible refine hashOf_drew ?_) | (with_reducible refine hashOf_below ?_ (by assumption)))); done)))
        refine ret8t w.heap.size (nodeH x y) .nilIface rfl rfl rfl _ Tryz.underlying109 info8 (hashOf_set r1 _) rfl ⟨by rw [HF.out], below_setRow R1.out (Nat.le_refl _) _⟩
end
end Go.Proofs.YtefccfakhgdfbabGreatDoor
end
