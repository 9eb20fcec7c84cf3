/- The walks of tiles.Path, tiles.Proof, plain.Path, plain.Prove. -/
import Derived.Test.YtefccfakhgdfbaaDoorPath
import Derived.Test.YtefccfakhgdfbaaDoorTexts
import Derived.Test.YtefccfakhgdfbaaDoorOf
import Derived.Test.YtefccfakhgdfbaaDoorSame
namespace Go.Proofs.YtefccfakhgdfbaaDoor
open Go.RowKit
theorem Sents.range {f : Nat → Addr} {w : World} (h : Sents w f) : w.cell? ⟨1, 0, none⟩ = some (.iface 181 (.pointer (some (f 1)))) := (h 1 (by decide)).1
set_option maxHeartbeats 1000000 in
theorem tpath_bad (f : Nat → Addr) (v : Value) (ls : List (List UInt8)) (i : Int) (w : World) (h : BssAt w v ls) (hS : Sents w f) (hl : ls.length ≤ 1048576) (hbad : i < 0 ∨ ls.length ≤ i) :
    Calls Tryd.prog 30 #[v, .int .i64 i] w fun e w' => e = .returned (.tuple #[.slice none 0 0, .iface 181 (.pointer (some (f 1)))]) ∧ Below w.heap.size w w' := by
  obtain ⟨a, c, rfl⟩ : ∃ a c, v = .slice a ls.length c := by obtain ⟨_, _, ⟨a, c, h1, _⟩, _⟩ := h; exact ⟨a, c, h1⟩
  have c1 := hS.range
  clear h hS
  by_cases h0 : i < 0
  · have hd : decide (i < 0) = true := decide_eq_true h0
    go_enter Tryd.func30, Tryd.ntmps30
    go_wp2_with fail
    go_quiet (fail)
    go_wp2
    go_ret2
    exact ⟨rfl, below_drewN (Below.refl _ _) _⟩
  · have hd : decide (i < 0) = false := decide_eq_false h0
    have hd2 : decide ((ls.length : Int) ≤ i) = true := decide_eq_true (by omega)
    go_enter Tryd.func30, Tryd.ntmps30
    go_wp2_with fail
    go_quiet (fail)
    go_wp2
    go_ret2
    exact ⟨rfl, below_drewN (Below.refl _ _) _⟩
set_option maxHeartbeats 1000000 in
theorem tpath_any (v : Value) (ls : List (List UInt8)) (i : Nat) (w : World) (h : BssAt w v ls) (hl : ls.length ≤ 1048576) (hs : ∀ l ∈ ls, l.length ≤ 9223372036854775807) (hi : i < ls.length) :
    Calls Tryd.prog 30 #[v, .int .i64 i] w fun e w' => ∃ v', e = .returned (.tuple #[v', .nilIface]) ∧ OwnHs w' w.heap.size v' (pathOf ls i) ∧ Below w.heap.size w w' := by
  obtain ⟨a, c, rfl⟩ : ∃ a c, v = .slice a ls.length c := by obtain ⟨_, _, ⟨a, c, h1, _⟩, _⟩ := h; exact ⟨a, c, h1⟩
  have HH := Lib.hid h
  have HS' := Lib.hid hs
  obtain ⟨n, hn⟩ : ∃ n, n = ls.length := ⟨_, rfl⟩
  have hin : i < n := by omega
  have hl' : n ≤ 1048576 := by omega
  rw [← hn] at HH ⊢
  have HN := Lib.hid hn
  have HL := Lib.hid hl
  clear h hs hn hi hl
  have hd2 : decide ((n : Int) ≤ i) = false := decide_eq_false (by omega)
  go_enter Tryd.func30, Tryd.ntmps30
  go_wp2_with fail
  refine (mentries_any _ ls _ HH.out).mono ?_
  rintro e w1 ⟨rv, rfl, hr, hb1⟩
  have HR := Lib.hid hr
  have HB1 := Lib.hid hb1
  clear hr hb1
  go_wp2_with fail
  rw [HN.out]
  refine (mpath_any i rv ls _ HR.out (by rw [← HN.out]; exact hin) HL.out HS'.out).mono ?_
  rintro e w2 ⟨v2, rfl, ho2, hb2⟩
  have HO2 := Lib.hid (ownsRow_mono ho2 HB1.out.size)
  have HB2 := Lib.hid (HB1.out.trans (hb2.mono HB1.out.size))
  clear ho2 hb2
  go_wp2
  go_ret2
  exact ⟨_, rfl, HO2.out, HB2.out⟩
set_option maxHeartbeats 1000000 in
theorem tproof_bad (f : Nat → Addr) (v : Value) (ls : List (List UInt8)) (i : Int) (w : World) (h : BssAt w v ls) (hS : Sents w f) (hl : ls.length ≤ 1048576) (hbad : i < 1 ∨ ls.length < i) :
    Calls Tryd.prog 34 #[v, .int .i64 i] w fun e w' => e = .returned (.tuple #[.slice none 0 0, .iface 181 (.pointer (some (f 1)))]) ∧ Below w.heap.size w w' := by
  obtain ⟨a, c, rfl⟩ : ∃ a c, v = .slice a ls.length c := by obtain ⟨_, _, ⟨a, c, h1, _⟩, _⟩ := h; exact ⟨a, c, h1⟩
  have c1 := hS.range
  clear h hS
  by_cases h0 : i < 1
  · have hd : decide (i < 1) = true := decide_eq_true h0
    go_enter Tryd.func34, Tryd.ntmps34
    go_wp2_with fail
    go_quiet (fail)
    go_wp2
    go_ret2
    exact ⟨rfl, below_drewN (Below.refl _ _) _⟩
  · have hd : decide (i < 1) = false := decide_eq_false h0
    have hd2 : decide ((ls.length : Int) < i) = true := decide_eq_true (by omega)
    go_enter Tryd.func34, Tryd.ntmps34
    go_wp2_with fail
    go_quiet (fail)
    go_wp2
    go_ret2
    exact ⟨rfl, below_drewN (Below.refl _ _) _⟩
set_option maxHeartbeats 1000000 in
theorem tproof_any (v : Value) (ls : List (List UInt8)) (i : Nat) (w : World) (h : BssAt w v ls) (hl : ls.length ≤ 1048576) (hs : ∀ l ∈ ls, l.length ≤ 9223372036854775807) (hi1 : 1 ≤ i) (hi : i ≤ ls.length) :
    Calls Tryd.prog 34 #[v, .int .i64 i] w fun e w' => ∃ v', e = .returned (.tuple #[v', .nilIface]) ∧ OwnHs w' w.heap.size v' (partOf i ls true) ∧ Below w.heap.size w w' := by
  obtain ⟨a, c, rfl⟩ : ∃ a c, v = .slice a ls.length c := by obtain ⟨_, _, ⟨a, c, h1, _⟩, _⟩ := h; exact ⟨a, c, h1⟩
  have HH := Lib.hid h
  have HS' := Lib.hid hs
  obtain ⟨n, hn⟩ : ∃ n, n = ls.length := ⟨_, rfl⟩
  have hin : i ≤ n := by omega
  have hd1 : decide ((i : Int) < 1) = false := decide_eq_false (by omega)
  have hl' : n ≤ 1048576 := by omega
  rw [← hn] at HH ⊢
  have HN := Lib.hid hn
  have HL := Lib.hid hl
  clear h hs hn hi hl
  have hd2 : decide ((n : Int) < i) = false := decide_eq_false (by omega)
  go_enter Tryd.func34, Tryd.ntmps34
  go_wp2_with fail
  refine (mentries_any _ ls _ HH.out).mono ?_
  rintro e w1 ⟨rv, rfl, hr, hb1⟩
  have HR := Lib.hid hr
  have HB1 := Lib.hid hb1
  clear hr hb1
  go_wp2_with fail
  rw [HN.out]
  refine (mproof_any i rv ls _ HR.out hi1 (by rw [← HN.out]; exact hin) HL.out HS'.out).mono ?_
  rintro e w2 ⟨v2, rfl, ho2, hb2⟩
  have HO2 := Lib.hid (ownsRow_mono ho2 HB1.out.size)
  have HB2 := Lib.hid (HB1.out.trans (hb2.mono HB1.out.size))
  clear ho2 hb2
  go_wp2
  go_ret2
  exact ⟨_, rfl, HO2.out, HB2.out⟩
/-- A variable that holds what an error is told as. -/
def ToldAt (w : World) (g : Nat) (n : Int) (s : ByteArray) : Prop := w.heap[g]? = some (.cells #[.int .i64 n, .string s] 26 (0, 0))
theorem ToldAt.facts {w : World} {g : Nat} {n : Int} {s : ByteArray} (h : ToldAt w g n s) : w.cell? ⟨g, 0, none⟩ = some (.int .i64 n) ∧ w.cell? ⟨g, 1, none⟩ = some (.string s) ∧ w.frozen? ⟨g, 0, none⟩ = false ∧ w.frozen? ⟨g, 1, none⟩ = false ∧ g < w.heap.size := by
  unfold ToldAt at h
  exact ⟨by simp [World.cell?, h], by simp [World.cell?, h], by simp [World.frozen?, h], by simp [World.frozen?, h], lt_of_heap h⟩
theorem ToldAt.below {w w' : World} {g : Nat} {n : Int} {s : ByteArray} (h : ToldAt w g n s) (hb : Below w.heap.size w w') : ToldAt w' g n s := (hb.block g (lt_of_heap h)).trans h
theorem ToldAt.same {w w' : World} {g : Nat} {n : Int} {s : ByteArray} {B : Nat} (h : ToldAt w g n s) (hb : Below B w w') (hg : g < B) : ToldAt w' g n s := (hb.block g hg).trans h
theorem of_range (f : Nat → Addr) (w : World) (h : Sents w f) :
    Calls Tryd.prog 33 #[.iface 181 (.pointer (some (f 1)))] w fun e w' => e = .returned (toldV 2 ⟨#[]⟩) ∧ Below w.heap.size w w' := of_sent f w h 1 (by decide) (by decide)
theorem bss_ok {ss : List ByteArray} (h : ∀ s ∈ ss, s.size ≤ 9223372036854775807) : ∀ l ∈ lists ss, l.length ≤ 9223372036854775807 := by
  intro l hl
  obtain ⟨s, hs, rfl⟩ := List.mem_map.1 hl
  exact h s hs
/-- What plain.Path (and plain.Prove) answers: the number, the hashes. -/
def ProofPost (code : Int) (p : List Hsh) (w : World) (e : Ending) (w' : World) : Prop :=
  ∃ v', e = .returned (.tuple #[v', toldV code ⟨#[]⟩]) ∧ OwnStrs w' w.heap.size v' (p.map HS) ∧ Below w.heap.size w w'
set_option maxHeartbeats 1000000 in
theorem ppath_any (f : Nat → Addr) (v : Value) (ss : List ByteArray) (i : Nat) (w : World) (h : StrsAt w v ss) (hS : Sents w f) (hl : ss.length ≤ 1048576) (hs : ∀ s ∈ ss, s.size ≤ 9223372036854775807) (hi : i < ss.length) :
    Calls Tryd.prog 11 #[v, .int .i64 i] w (ProofPost 0 (pathOf (lists ss) i) w) := by
  have HH := Lib.hid (h.below (below_alloc w (.cells #[.int .i64 0, .string ⟨#[]⟩] 26)))
  have HS' := Lib.hid hs
  have HSen := Lib.hid hS
  obtain ⟨a, c, rfl⟩ : ∃ a c, v = .slice a ss.length c := by obtain ⟨a, c, h1, _⟩ := h; exact ⟨a, c, h1⟩
  have hll : (lists ss).length = ss.length := by simp [lists]
  have HLL := Lib.hid hll
  have HL := Lib.hid hl
  have hgood := Lib.hid (show i < (lists ss).length from by rw [hll]; exact hi)
  clear h hS hs hll hl
  go_enter Tryd.func11, Tryd.ntmps11
  go_wp2_with fail
  refine (entries_any _ ss _ HH.out HL.out).mono ?_
  rintro e w1 ⟨v1, rfl, ho1, hb1⟩
  have B1 := (below_alloc w (.cells #[.int .i64 0, .string ⟨#[]⟩] 26)).trans (hb1.mono (by simp))
  have T1 : ToldAt w1 w.heap.size 0 ⟨#[]⟩ := (show ToldAt (w.alloc (.cells #[.int .i64 0, .string ⟨#[]⟩] 26)) w.heap.size 0 ⟨#[]⟩ from heap_alloc_new w _).below hb1
  have HO1 := Lib.hid ho1
  have HB1 := Lib.hid B1
  have HT1 := Lib.hid T1
  have HS1 := Lib.hid (HSen.out.below B1)
  clear ho1 hb1 B1 T1
  go_wp2_with fail
  refine (tpath_any _ (lists ss) i _ HO1.out.at (by rw [HLL.out]; exact HL.out) (bss_ok HS'.out) hgood.out).mono ?_
  rintro e w2 ⟨v2, rfl, ho2, hb2⟩
  have HO2 := Lib.hid ho2
  have HT2 := Lib.hid (HT1.out.below hb2)
  have HB2 := Lib.hid (HB1.out.trans (hb2.mono HB1.out.size))
  have hz2 : w1.heap.size ≤ w2.heap.size := hb2.size
  have hlt1 : w.heap.size < w1.heap.size := lt_of_heap HT1.out
  clear ho2 hb2
  go_wp2_with fail
  refine (texts_any _ (pathOf (lists ss) i) w1.heap.size _ HO2.out hz2 (Nat.le_trans (pathOf_len _ _) (by rw [HLL.out]; exact HL.out))).mono ?_
  rintro e w3 ⟨v3, rfl, ho3, hb3⟩
  have HT3 := Lib.hid (HT2.out.same hb3 hlt1)
  have HB3 := Lib.hid (HB2.out.trans (hb3.mono HB1.out.size))
  have HS3 := Lib.hid (HSen.out.below HB3.out)
  have HO3 := Lib.hid ho3
  clear ho3 hb3
  go_wp2_with fail
  refine (of_nil f _ HS3.out).mono ?_
  rintro e w4 ⟨rfl, hb4⟩
  have HB4 := Lib.hid (HB3.out.trans (hb4.mono HB3.out.size))
  have HO4 := Lib.hid (ownsRow_below HO3.out hb4)
  obtain ⟨t0, t1, t2, t3, t4⟩ := (HT3.out.below hb4).facts
  clear hb4
  go_wp2
  refine bodyPost_ret (v := .tuple #[v3, toldV 0 ⟨#[]⟩]) (by simp [results, Tryd.results11, go_sem, t0, t1]) rfl ⟨v3, rfl, ?_, (HB4.out.setCell (Nat.le_refl _) _).setCell (Nat.le_refl _) _⟩
  go_goals
  have hlt2 : w.heap.size < w2.heap.size := Nat.lt_of_lt_of_le hlt1 hz2
  exact ownsRow_mono (ownsRow_setCell_below (ownsRow_setCell_below HO4.out hlt2 _) hlt2 _) HB2.out.size
set_option maxHeartbeats 1000000 in
theorem ppath_bad (f : Nat → Addr) (v : Value) (ss : List ByteArray) (i : Int) (w : World) (h : StrsAt w v ss) (hS : Sents w f) (hl : ss.length ≤ 1048576) (hs : ∀ s ∈ ss, s.size ≤ 9223372036854775807) (hbad : i < 0 ∨ (ss.length : Int) ≤ i) :
    Calls Tryd.prog 11 #[v, .int .i64 i] w (ProofPost 2 [] w) := by
  have HH := Lib.hid (h.below (below_alloc w (.cells #[.int .i64 0, .string ⟨#[]⟩] 26)))
  have HS' := Lib.hid hs
  have HSen := Lib.hid hS
  obtain ⟨a, c, rfl⟩ : ∃ a c, v = .slice a ss.length c := by obtain ⟨a, c, h1, _⟩ := h; exact ⟨a, c, h1⟩
  have hll : (lists ss).length = ss.length := by simp [lists]
  have HLL := Lib.hid hll
  have HL := Lib.hid hl
  have hgood := Lib.hid (show i < 0 ∨ ((lists ss).length : Int) ≤ i from by rw [hll]; exact hbad)
  clear h hS hs hll hl
  go_enter Tryd.func11, Tryd.ntmps11
  go_wp2_with fail
  refine (entries_any _ ss _ HH.out HL.out).mono ?_
  rintro e w1 ⟨v1, rfl, ho1, hb1⟩
  have B1 := (below_alloc w (.cells #[.int .i64 0, .string ⟨#[]⟩] 26)).trans (hb1.mono (by simp))
  have T1 : ToldAt w1 w.heap.size 0 ⟨#[]⟩ := (show ToldAt (w.alloc (.cells #[.int .i64 0, .string ⟨#[]⟩] 26)) w.heap.size 0 ⟨#[]⟩ from heap_alloc_new w _).below hb1
  have HO1 := Lib.hid ho1
  have HB1 := Lib.hid B1
  have HT1 := Lib.hid T1
  have HS1 := Lib.hid (HSen.out.below B1)
  clear ho1 hb1 B1 T1
  go_wp2_with fail
  refine (tpath_bad f _ (lists ss) i _ HO1.out.at HS1.out (by rw [HLL.out]; exact HL.out) hgood.out).mono ?_
  rintro e w2 ⟨rfl, hb2⟩
  have HO2 := Lib.hid (show OwnHs w2 w1.heap.size (.slice none 0 0) [] from World.ownsRow_nil _ _ _ _)
  have HT2 := Lib.hid (HT1.out.below hb2)
  have HB2 := Lib.hid (HB1.out.trans (hb2.mono HB1.out.size))
  have hz2 : w1.heap.size ≤ w2.heap.size := hb2.size
  have hlt1 : w.heap.size < w1.heap.size := lt_of_heap HT1.out
  clear hb2
  go_wp2_with fail
  refine (texts_any _ [] w1.heap.size _ HO2.out hz2 (by simp)).mono ?_
  rintro e w3 ⟨v3, rfl, ho3, hb3⟩
  have HT3 := Lib.hid (HT2.out.same hb3 hlt1)
  have HB3 := Lib.hid (HB2.out.trans (hb3.mono HB1.out.size))
  have HS3 := Lib.hid (HSen.out.below HB3.out)
  have HO3 := Lib.hid ho3
  clear ho3 hb3
  go_wp2_with fail
  refine (of_range f _ HS3.out).mono ?_
  rintro e w4 ⟨rfl, hb4⟩
  have HB4 := Lib.hid (HB3.out.trans (hb4.mono HB3.out.size))
  have HO4 := Lib.hid (ownsRow_below HO3.out hb4)
  obtain ⟨t0, t1, t2, t3, t4⟩ := (HT3.out.below hb4).facts
  clear hb4
  go_wp2
  refine bodyPost_ret (v := .tuple #[v3, toldV 2 ⟨#[]⟩]) (by simp [results, Tryd.results11, go_sem, t0, t1]) rfl ⟨v3, rfl, ?_, (HB4.out.setCell (Nat.le_refl _) _).setCell (Nat.le_refl _) _⟩
  go_goals
  have hlt2 : w.heap.size < w2.heap.size := Nat.lt_of_lt_of_le hlt1 hz2
  exact ownsRow_mono (ownsRow_setCell_below (ownsRow_setCell_below HO4.out hlt2 _) hlt2 _) HB2.out.size
set_option maxHeartbeats 1000000 in
theorem pprove_any (f : Nat → Addr) (v : Value) (ss : List ByteArray) (i : Nat) (w : World) (h : StrsAt w v ss) (hS : Sents w f) (hl : ss.length ≤ 1048576) (hs : ∀ s ∈ ss, s.size ≤ 9223372036854775807) (hi1 : 1 ≤ i) (hi : i ≤ ss.length) :
    Calls Tryd.prog 12 #[v, .int .i64 i] w (ProofPost 0 (partOf i (lists ss) true) w) := by
  have HH := Lib.hid (h.below (below_alloc w (.cells #[.int .i64 0, .string ⟨#[]⟩] 26)))
  have HS' := Lib.hid hs
  have HSen := Lib.hid hS
  obtain ⟨a, c, rfl⟩ : ∃ a c, v = .slice a ss.length c := by obtain ⟨a, c, h1, _⟩ := h; exact ⟨a, c, h1⟩
  have hll : (lists ss).length = ss.length := by simp [lists]
  have HLL := Lib.hid hll
  have HL := Lib.hid hl
  have hgood := Lib.hid (show i ≤ (lists ss).length from by rw [hll]; exact hi)
  clear h hS hs hll hl
  go_enter Tryd.func12, Tryd.ntmps12
  go_wp2_with fail
  refine (entries_any _ ss _ HH.out HL.out).mono ?_
  rintro e w1 ⟨v1, rfl, ho1, hb1⟩
  have B1 := (below_alloc w (.cells #[.int .i64 0, .string ⟨#[]⟩] 26)).trans (hb1.mono (by simp))
  have T1 : ToldAt w1 w.heap.size 0 ⟨#[]⟩ := (show ToldAt (w.alloc (.cells #[.int .i64 0, .string ⟨#[]⟩] 26)) w.heap.size 0 ⟨#[]⟩ from heap_alloc_new w _).below hb1
  have HO1 := Lib.hid ho1
  have HB1 := Lib.hid B1
  have HT1 := Lib.hid T1
  have HS1 := Lib.hid (HSen.out.below B1)
  clear ho1 hb1 B1 T1
  go_wp2_with fail
  refine (tproof_any _ (lists ss) i _ HO1.out.at (by rw [HLL.out]; exact HL.out) (bss_ok HS'.out) hi1 hgood.out).mono ?_
  rintro e w2 ⟨v2, rfl, ho2, hb2⟩
  have HO2 := Lib.hid ho2
  have HT2 := Lib.hid (HT1.out.below hb2)
  have HB2 := Lib.hid (HB1.out.trans (hb2.mono HB1.out.size))
  have hz2 : w1.heap.size ≤ w2.heap.size := hb2.size
  have hlt1 : w.heap.size < w1.heap.size := lt_of_heap HT1.out
  clear ho2 hb2
  go_wp2_with fail
  refine (texts_any _ (partOf i (lists ss) true) w1.heap.size _ HO2.out hz2 (Nat.le_trans (partOf_len _ _ _) (by rw [HLL.out]; exact HL.out))).mono ?_
  rintro e w3 ⟨v3, rfl, ho3, hb3⟩
  have HT3 := Lib.hid (HT2.out.same hb3 hlt1)
  have HB3 := Lib.hid (HB2.out.trans (hb3.mono HB1.out.size))
  have HS3 := Lib.hid (HSen.out.below HB3.out)
  have HO3 := Lib.hid ho3
  clear ho3 hb3
  go_wp2_with fail
  refine (of_nil f _ HS3.out).mono ?_
  rintro e w4 ⟨rfl, hb4⟩
  have HB4 := Lib.hid (HB3.out.trans (hb4.mono HB3.out.size))
  have HO4 := Lib.hid (ownsRow_below HO3.out hb4)
  obtain ⟨t0, t1, t2, t3, t4⟩ := (HT3.out.below hb4).facts
  clear hb4
  go_wp2
  refine bodyPost_ret (v := .tuple #[v3, toldV 0 ⟨#[]⟩]) (by simp [results, Tryd.results12, go_sem, t0, t1]) rfl ⟨v3, rfl, ?_, (HB4.out.setCell (Nat.le_refl _) _).setCell (Nat.le_refl _) _⟩
  go_goals
  have hlt2 : w.heap.size < w2.heap.size := Nat.lt_of_lt_of_le hlt1 hz2
  exact ownsRow_mono (ownsRow_setCell_below (ownsRow_setCell_below HO4.out hlt2 _) hlt2 _) HB2.out.size
set_option maxHeartbeats 1000000 in
theorem pprove_bad (f : Nat → Addr) (v : Value) (ss : List ByteArray) (i : Int) (w : World) (h : StrsAt w v ss) (hS : Sents w f) (hl : ss.length ≤ 1048576) (hs : ∀ s ∈ ss, s.size ≤ 9223372036854775807) (hbad : i < 1 ∨ (ss.length : Int) < i) :
    Calls Tryd.prog 12 #[v, .int .i64 i] w (ProofPost 2 [] w) := by
  have HH := Lib.hid (h.below (below_alloc w (.cells #[.int .i64 0, .string ⟨#[]⟩] 26)))
  have HS' := Lib.hid hs
  have HSen := Lib.hid hS
  obtain ⟨a, c, rfl⟩ : ∃ a c, v = .slice a ss.length c := by obtain ⟨a, c, h1, _⟩ := h; exact ⟨a, c, h1⟩
  have hll : (lists ss).length = ss.length := by simp [lists]
  have HLL := Lib.hid hll
  have HL := Lib.hid hl
  have hgood := Lib.hid (show i < 1 ∨ ((lists ss).length : Int) < i from by rw [hll]; exact hbad)
  clear h hS hs hll hl
  go_enter Tryd.func12, Tryd.ntmps12
  go_wp2_with fail
  refine (entries_any _ ss _ HH.out HL.out).mono ?_
  rintro e w1 ⟨v1, rfl, ho1, hb1⟩
  have B1 := (below_alloc w (.cells #[.int .i64 0, .string ⟨#[]⟩] 26)).trans (hb1.mono (by simp))
  have T1 : ToldAt w1 w.heap.size 0 ⟨#[]⟩ := (show ToldAt (w.alloc (.cells #[.int .i64 0, .string ⟨#[]⟩] 26)) w.heap.size 0 ⟨#[]⟩ from heap_alloc_new w _).below hb1
  have HO1 := Lib.hid ho1
  have HB1 := Lib.hid B1
  have HT1 := Lib.hid T1
  have HS1 := Lib.hid (HSen.out.below B1)
  clear ho1 hb1 B1 T1
  go_wp2_with fail
  refine (tproof_bad f _ (lists ss) i _ HO1.out.at HS1.out (by rw [HLL.out]; exact HL.out) hgood.out).mono ?_
  rintro e w2 ⟨rfl, hb2⟩
  have HO2 := Lib.hid (show OwnHs w2 w1.heap.size (.slice none 0 0) [] from World.ownsRow_nil _ _ _ _)
  have HT2 := Lib.hid (HT1.out.below hb2)
  have HB2 := Lib.hid (HB1.out.trans (hb2.mono HB1.out.size))
  have hz2 : w1.heap.size ≤ w2.heap.size := hb2.size
  have hlt1 : w.heap.size < w1.heap.size := lt_of_heap HT1.out
  clear hb2
  go_wp2_with fail
  refine (texts_any _ [] w1.heap.size _ HO2.out hz2 (by simp)).mono ?_
  rintro e w3 ⟨v3, rfl, ho3, hb3⟩
  have HT3 := Lib.hid (HT2.out.same hb3 hlt1)
  have HB3 := Lib.hid (HB2.out.trans (hb3.mono HB1.out.size))
  have HS3 := Lib.hid (HSen.out.below HB3.out)
  have HO3 := Lib.hid ho3
  clear ho3 hb3
  go_wp2_with fail
  refine (of_range f _ HS3.out).mono ?_
  rintro e w4 ⟨rfl, hb4⟩
  have HB4 := Lib.hid (HB3.out.trans (hb4.mono HB3.out.size))
  have HO4 := Lib.hid (ownsRow_below HO3.out hb4)
  obtain ⟨t0, t1, t2, t3, t4⟩ := (HT3.out.below hb4).facts
  clear hb4
  go_wp2
  refine bodyPost_ret (v := .tuple #[v3, toldV 2 ⟨#[]⟩]) (by simp [results, Tryd.results12, go_sem, t0, t1]) rfl ⟨v3, rfl, ?_, (HB4.out.setCell (Nat.le_refl _) _).setCell (Nat.le_refl _) _⟩
  go_goals
  have hlt2 : w.heap.size < w2.heap.size := Nat.lt_of_lt_of_le hlt1 hz2
  exact ownsRow_mono (ownsRow_setCell_below (ownsRow_setCell_below HO4.out hlt2 _) hlt2 _) HB2.out.size
end Go.Proofs.YtefccfakhgdfbaaDoor
