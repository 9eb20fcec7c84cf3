/- The walks of tilesref.Roots, tilesref.Consistent. -/
import Derived.Test.YtefccfakhgdfbaaRebuild
import Derived.Test.YtefccfakhgdfbaaRootsPlain
import Derived.Deep.QuietTactic
import Derived.BigQuiet
import Derived.WalkSmall
namespace Go.Proofs.Ytefccfakhgdfbaa
open Go.RowKit
def wholeOf (b : Bool) (a : Hsh) : Option Hsh := if b then some a else none
def RootsPost (m n : Nat) (o : Option Hsh) (p : List Hsh) (w : World) (e : Ending) (w' : World) : Prop :=
  ∃ s1 s2 : ByteArray, e = .returned (.tuple #[.string s1, .string s2, .bool (roots m n o p).isSome]) ∧ s1.size ≤ 8 ∧ s2.size ≤ 8 ∧ (∀ z, roots m n o p = some z → s1 = HS z.1 ∧ s2 = HS z.2) ∧ Below w.heap.size w w'
set_option maxHeartbeats 1000000 in
theorem rroots_eq (m : Int) (p : List Hsh) (a : Hsh) (b : Bool) (v : Value) (w : World) (h : StrsAt w v (p.map HS)) :
    Calls Try.prog 31 #[.int .i64 m, .int .i64 m, v, .bool b, .string (HS a)] w (RootsPost m.toNat m.toNat (wholeOf b a) p w) := by
  obtain ⟨ad, c, hv, hcap, hc⟩ := h
  rw [List.length_map] at hv
  subst hv
  cases b with
  | true =>
    have hl : ((p.length : Int) == 0) = decide (p.length = 0) := by
      rw [Bool.eq_iff_iff]; simp
    have HL := Lib.hid hl
    clear hl hc
    go_enter Try.func31, Try.ntmps31
    go_wp2
    go_ret3
    refine ⟨HS a, HS a, ?_, by rw [HS_size]; decide, by rw [HS_size]; decide, ?_, Below.refl _ _⟩
    · rw [show wholeOf true a = some a from rfl, rootsp_whole]
      have := HL.out
      by_cases h0 : p.length = 0
      · rw [if_pos h0]
        simp [h0]
      · rw [if_neg h0]
        rw [decide_eq_false h0] at this
        simp [this]
    · intro z hz
      rw [show wholeOf true a = some a from rfl, rootsp_whole] at hz
      split at hz
      · cases hz; exact ⟨rfl, rfl⟩
      · cases hz
  | false =>
    by_cases h1 : p.length = 1
    · match p, h1 with
      | [r], _ =>
        obtain ⟨g, off, rfl, hcell⟩ := hc 0 (.string (HS r)) (by simp)
        simp only [Nat.add_zero] at hcell
        simp only [List.length_cons, List.length_nil, Nat.zero_add]
        clear hc
        go_enter Try.func31, Try.ntmps31
        go_wp2
        go_quiet (fail)
        go_wp2
        go_ret3
        refine ⟨HS r, HS r, by rw [show wholeOf false a = none from rfl, rootsp_one]; rfl, by rw [HS_size]; decide, by rw [HS_size]; decide, ?_, below_drewN (Below.refl _ _) _⟩
        intro z hz
        rw [show wholeOf false a = none from rfl, rootsp_one] at hz
        cases hz
        exact ⟨rfl, rfl⟩
    · have d1 : ((p.length : Int) != 1) = true := by rw [bne_iff_ne]; omega
      clear hc
      go_enter Try.func31, Try.ntmps31
      go_wp2
      go_ret3
      have hr : roots m.toNat m.toNat (wholeOf false a) p = none := rootsp_other _ _ h1
      exact ⟨⟨#[]⟩, ⟨#[]⟩, by rw [hr]; rfl, by decide, by decide, (fun z hz => by rw [hr] at hz; cases hz), Below.refl _ _⟩
set_option maxHeartbeats 1000000 in
theorem rroots_any (l : Nat) : ∀ (p : List Hsh) (m n : Int) (a : Hsh) (b : Bool) (v : Value) (w : World), p.length = l → StrsAt w v (p.map HS) → 1 ≤ m → m ≤ n → n ≤ 9223372036854775807 → l ≤ 1048576 →
    Calls Try.prog 31 #[.int .i64 m, .int .i64 n, v, .bool b, .string (HS a)] w (RootsPost m.toNat n.toNat (wholeOf b a) p w) := by
  induction l with
  | zero =>
    intro p m n a b v w hp h h1 hmn hn hl
    by_cases he : m = n
    · subst he; exact rroots_eq m p a b v w h
    · obtain rfl : p = [] := List.eq_nil_of_length_eq_zero hp
      obtain ⟨ad, c, rfl, _, _⟩ := h
      have hd : (m == n) = false := by rw [beq_eq_false_iff_ne]; exact he
      go_enter Try.func31, Try.ntmps31
      go_wp2
      go_ret3
      have hr : roots m.toNat n.toNat (wholeOf b a) [] = none := by rw [rootsp_nil, if_neg (by omega)]
      exact ⟨⟨#[]⟩, ⟨#[]⟩, by rw [hr]; rfl, by decide, by decide, (fun z hz => by rw [hr] at hz; cases hz), Below.refl _ _⟩
  | succ l ih =>
    intro p m n a b v w hp h h1 hmn hn hl
    by_cases he : m = n
    · subst he; exact rroots_eq m p a b v w h
    · have hd : (m == n) = false := by rw [beq_eq_false_iff_ne]; exact he
      obtain ⟨q, last, rfl⟩ : ∃ q last, p = q ++ [last] := ⟨p.dropLast, p.getLast (by intro e; simp [e] at hp), (List.dropLast_concat_getLast _).symm⟩
      have hq : q.length = l := by simpa using hp
      obtain ⟨ad, c, hv, _⟩ := id h
      have hlen : ((q ++ [last]).map HS).length = l + 1 := by simp [hq]
      unfold StrsAt at h
      rw [hlen] at h hv
      subst hv
      obtain ⟨g, off, rfl, hcap, hcell, hinit⟩ := strs_init (xs := (q.map HS).map Value.string) (x := .string (HS last)) (by simpa using h) (by simp [hq])
      have hqs : StrsAt w (.slice (some ⟨g, off, none⟩) l c) (q.map HS) := by unfold StrsAt; simpa [hq] using hinit
      have hr := rootsp_snoc m.toNat n.toNat (wholeOf b a) q last
      rw [if_neg (by omega)] at hr
      have hbd := below_bd (n := n.toNat) (by omega) (by omega)
      obtain ⟨k, hk⟩ : ∃ k, k = below n.toNat := ⟨_, rfl⟩
      rw [← hk] at hbd hr
      obtain ⟨hb1, hb2, hb3⟩ := hbd
      have HR := Lib.hid hr
      have HK := Lib.hid hk
      have HQ := Lib.hid hqs
      have IH := Lib.hid ih
      have HL := Lib.hid hq
      have hz0 : ((l : Int) + 1 == 0) = false := by rw [beq_eq_false_iff_ne]; omega
      clear ih h hinit hqs hlen hq hp hr hk
      by_cases hmk : m ≤ (k : Int)
      · go_enter Try.func31, Try.ntmps31
        go_wp2_with fail
        refine (rbelow_any _ _ (by omega) (by omega)).mono ?_
        rintro e w0 ⟨rfl, rfl⟩
        rw [← HK.out]
        go_wp2_with fail
        refine (IH.out q m k a b _ _ HL.out HQ.out h1 hmk (by omega) (by omega)).mono ?_
        rintro e w1 ⟨s1, s2, rfl, hs1, hs2, hz, hb⟩
        have HZ := Lib.hid hz
        clear hz
        obtain ⟨rt, hrr⟩ : ∃ r, r = roots m.toNat (k : Int).toNat (wholeOf b a) q := ⟨_, rfl⟩
        rw [← hrr]
        have HRR := Lib.hid hrr
        clear hrr
        go_wp2_with fail
        refine (rnode_any s2 (HS last) _ hs2 (by rw [HS_size]; decide)).mono ?_
        rintro e w2 ⟨rfl, hb2⟩
        go_wp2
        go_ret3
        have hre : roots m.toNat n.toNat (wholeOf b a) (q ++ [last]) = rt.map (fun z => (z.1, nodeH z.2 last)) := by rw [HR.out, if_pos (by omega), HRR.out]; rfl
        refine ⟨_, _, by rw [hre, Option.isSome_map]; rfl, hs1, by rw [HS_size]; decide, fun z hz => ?_, hb.trans (hb2.mono hb.size)⟩
        rw [hre] at hz
        obtain ⟨z', hz', rfl⟩ := Option.map_eq_some_iff.1 hz
        obtain ⟨e1, e2⟩ := HZ.out z' (by rw [← HRR.out]; exact hz')
        rw [e1, e2]
        exact ⟨rfl, rfl⟩
      · go_enter Try.func31, Try.ntmps31
        go_wp2_with fail
        refine (rbelow_any _ _ (by omega) (by omega)).mono ?_
        rintro e w0 ⟨rfl, rfl⟩
        rw [← HK.out]
        go_wp2_with fail
        refine (IH.out q (m - k) (n - k) a false _ _ HL.out HQ.out (by omega) (by omega) (by omega) (by omega)).mono ?_
        rintro e w1 ⟨s1, s2, rfl, hs1, hs2, hz, hb⟩
        have HZ := Lib.hid hz
        clear hz
        obtain ⟨rt, hrr⟩ : ∃ r, r = roots (m - k).toNat (n - k).toNat (wholeOf false a) q := ⟨_, rfl⟩
        rw [← hrr]
        have HRR := Lib.hid hrr
        clear hrr
        go_wp2_with fail
        refine (rnode_any (HS last) s1 _ (by rw [HS_size]; decide) hs1).mono ?_
        rintro e w2 ⟨rfl, hb2⟩
        go_wp2_with fail
        refine (rnode_any (HS last) s2 _ (by rw [HS_size]; decide) hs2).mono ?_
        rintro e w3 ⟨rfl, hb3⟩
        go_wp2
        go_ret3
        have hre : roots m.toNat n.toNat (wholeOf b a) (q ++ [last]) = rt.map (fun z => (nodeH last z.1, nodeH last z.2)) := by
          rw [HR.out, if_neg (by omega), HRR.out]
          congr 2 <;> omega
        have b2 := hb.trans (hb2.mono hb.size)
        refine ⟨_, _, by rw [hre, Option.isSome_map]; rfl, by rw [HS_size]; decide, by rw [HS_size]; decide, fun z hz => ?_, b2.trans (hb3.mono b2.size)⟩
        rw [hre] at hz
        obtain ⟨z', hz', rfl⟩ := Option.map_eq_some_iff.1 hz
        obtain ⟨e1, e2⟩ := HZ.out z' (by rw [← HRR.out]; exact hz')
        rw [e1, e2]
        exact ⟨rfl, rfl⟩
set_option maxHeartbeats 1000000 in
theorem rconsistent_any (p : List Hsh) (a b : Hsh) (m n : Int) (v : Value) (w : World) (h : StrsAt w v (p.map HS)) (hm : -9223372036854775808 ≤ m) (hn : n ≤ 9223372036854775807) (hl : p.length ≤ 1048576) :
    Calls Try.prog 18 #[.int .i64 m, .int .i64 n, .string (HS a), .string (HS b), v] w fun e w' => e = .returned (.bool (consistent m n a b p)) ∧ Below w.heap.size w w' := by
  obtain ⟨ad, c, hv, _⟩ := id h
  by_cases h1 : 1 ≤ m
  · have hd : decide (m < 1) = false := decide_eq_false (by omega)
    by_cases hmn : m ≤ n
    · have hd2 : decide (n < m) = false := decide_eq_false (by omega)
      have hinc : consistent m n a b p = (roots m.toNat n.toNat (some a) p == some (a, b)) := by simp [consistent, h1, hmn]
      have HI := Lib.hid hinc
      have HH := Lib.hid h
      have HV := Lib.hid hv
      clear hinc h hv
      go_enter Try.func18, Try.ntmps18
      go_wp2_with fail
      refine (rroots_any p.length p m n a true v w rfl HH.out h1 hmn hn hl).mono ?_
      rintro e w1 ⟨s1, s2, rfl, hs1, hs2, hz, hb⟩
      have HZ := Lib.hid hz
      clear hz
      obtain ⟨r, hrr⟩ : ∃ r, r = roots m.toNat n.toNat (wholeOf true a) p := ⟨_, rfl⟩
      rw [← hrr]
      have HRR := Lib.hid hrr
      clear hrr
      cases r with
      | none =>
        go_wp2
        go_ret
        exact ⟨ret_bool (by rw [HI.out, show (some a) = wholeOf true a from rfl, ← HRR.out]; rfl), hb⟩
      | some z =>
        obtain ⟨rfl, rfl⟩ := HZ.out z HRR.out.symm
        obtain ⟨x, y⟩ := z
        by_cases hx : x = a
        · subst hx
          have t1 : ((HS x).toList == (HS x).toList) = true := by simp
          go_wp2
          go_ret
          refine ⟨ret_bool ?_, hb⟩
          rw [HI.out, show (some x) = wholeOf true x from rfl, ← HRR.out]
          show ((HS y).toList == (HS b).toList) = _
          rw [HS_beq]
          by_cases hy : y = b
          · subst hy; simp
          · have e1 : (some y == some b) = false := by simpa using hy
            rw [e1]
            simp [hy]
        · have t1 : ((HS x).toList == (HS a).toList) = false := by rw [HS_beq]; simpa using hx
          go_wp2
          go_ret
          refine ⟨ret_bool ?_, hb⟩
          rw [HI.out, show (some a) = wholeOf true a from rfl, ← HRR.out]
          simp [hx]
    · have hd2 : decide (n < m) = true := decide_eq_true (by omega)
      clear h
      subst hv
      go_enter Try.func18, Try.ntmps18
      go_wp2
      go_ret
      exact ⟨ret_bool (by simp [consistent]; omega), Below.refl _ _⟩
  · have hd : decide (m < 1) = true := decide_eq_true (by omega)
    clear h
    subst hv
    go_enter Try.func18, Try.ntmps18
    go_wp2
    go_ret
    exact ⟨ret_bool (by simp [consistent]; omega), Below.refl _ _⟩
end Go.Proofs.Ytefccfakhgdfbaa
