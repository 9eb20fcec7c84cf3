/- The walks of tilesref.Rebuild, tilesref.Included. -/
import Derived.Test.YtefccfakhgdfbaaHashes
import Derived.Test.YtefccfakhgdfbaaSplit
namespace Go.Proofs.Ytefccfakhgdfbaa
open Go.RowKit
theorem rebuild_nil (leaf : Hsh) (i n : Nat) : rebuild leaf i n [] = if n = 1 then some leaf else none := by simp [rebuild, rebuildR]
theorem rebuild_snoc (leaf last : Hsh) (i n : Nat) (q : List Hsh) : rebuild leaf i n (q ++ [last]) = if n = 1 then none else if i < below n then (rebuild leaf i (below n) q).map (nodeH · last) else (rebuild leaf (i - below n) (n - below n) q).map (nodeH last ·) := by
  unfold rebuild below
  rw [List.reverse_append]
  rfl
theorem HS_beq (a b : Hsh) : ((HS a).toList == (HS b).toList) = (some a == some b) := by
  rw [ByteArray.toList_eq, ByteArray.toList_eq]
  by_cases e : a = b
  · subst e; simp
  · have e' : ¬ a.toList = b.toList := fun x => e (Vector.toList_inj.1 x)
    have h1 : ((HS a).data.toList == (HS b).data.toList) = false := by rw [beq_eq_false_iff_ne]; exact e'
    rw [h1]
    simp [e]
/-- What Rebuild answers. -/
def RebuildPost (leaf : Hsh) (i n : Nat) (p : List Hsh) (w : World) (e : Ending) (w' : World) : Prop :=
  ∃ s : ByteArray, e = .returned (.tuple #[.string s, .bool (rebuild leaf i n p).isSome]) ∧ s.size ≤ 8 ∧ (∀ h, rebuild leaf i n p = some h → s = HS h) ∧ Below w.heap.size w w'
theorem strs_init {w : World} {a : Option Addr} {c m : Nat} {xs : List Value} {x : Value} (h : Cells w (.slice a (m + 1) c) (m + 1) (xs ++ [x])) (hm : xs.length = m) :
    ∃ b off, a = some ⟨b, off, none⟩ ∧ m + 1 ≤ c ∧ w.cell? ⟨b, off + m, none⟩ = some x ∧ Cells w (.slice (some ⟨b, off, none⟩) m c) m xs := by
  obtain ⟨a', c', hv, hcap, hc⟩ := h
  cases hv
  obtain ⟨b, off, rfl, hcell⟩ := hc m x (by rw [← hm]; simp)
  refine ⟨b, off, rfl, hcap, hcell, ⟨_, c, rfl, by omega, fun j y hy => ?_⟩⟩
  exact hc j y (by rw [List.getElem?_append_left (by have := (List.getElem?_eq_some_iff.1 hy).1; exact this)]; exact hy)
set_option maxHeartbeats 1000000 in
theorem rrebuild_any (m : Nat) : ∀ (p : List Hsh) (leaf : Hsh) (i n : Int) (v : Value) (w : World), p.length = m → StrsAt w v (p.map HS) → 0 ≤ i → i < n → n ≤ 9223372036854775807 → m ≤ 1048576 →
    Calls Try.prog 29 #[.string (HS leaf), .int .i64 i, .int .i64 n, v] w (RebuildPost leaf i.toNat n.toNat p w) := by
  induction m with
  | zero =>
    intro p leaf i n v w hp h h0 hi hn hm
    obtain rfl : p = [] := List.eq_nil_of_length_eq_zero hp
    obtain ⟨a, c, rfl, hcap, _⟩ := h
    by_cases h1 : n = 1
    · subst h1
      go_enter Try.func29, Try.ntmps29
      go_wp2
      go_ret2
      exact ⟨HS leaf, by simp [rebuild_nil], by rw [HS_size]; decide, by intro h hh; simp [rebuild_nil] at hh; rw [hh], Below.refl _ _⟩
    · have hd : (n == 1) = false := by simpa using h1
      go_enter Try.func29, Try.ntmps29
      go_wp2
      go_ret2
      have hr : rebuild leaf i.toNat n.toNat [] = none := by rw [rebuild_nil, if_neg (by omega)]
      exact ⟨⟨#[]⟩, by rw [hr]; rfl, by decide, by intro h; simp [hr], Below.refl _ _⟩
  | succ m ih =>
    intro p leaf i n v w hp h h0 hi hn hm
    obtain ⟨q, last, rfl⟩ : ∃ q last, p = q ++ [last] := ⟨p.dropLast, p.getLast (by intro e; simp [e] at hp), (List.dropLast_concat_getLast _).symm⟩
    have hq : q.length = m := by simpa using hp
    obtain ⟨a, c, hv, _⟩ := id h
    have hlen : ((q ++ [last]).map HS).length = m + 1 := by simp [hq]
    unfold StrsAt at h
    rw [hlen] at h hv
    subst hv
    obtain ⟨b, off, rfl, hcap, hcell, hinit⟩ := strs_init (xs := (q.map HS).map Value.string) (x := .string (HS last)) (by simpa using h) (by simp [hq])
    have hqs : StrsAt w (.slice (some ⟨b, off, none⟩) m c) (q.map HS) := by unfold StrsAt; simpa [hq] using hinit
    have HQ := Lib.hid hqs
    have IH := Lib.hid ih
    have HL := Lib.hid hq
    have HP := Lib.hid hp
    clear ih h hinit hqs hlen hq hp
    by_cases h1 : n = 1
    · subst h1
      go_enter Try.func29, Try.ntmps29
      go_wp2
      go_ret2
      have hr : rebuild leaf i.toNat (1 : Int).toNat (q ++ [last]) = none := by rw [rebuild_snoc, if_pos (by decide)]
      exact ⟨HS leaf, by rw [hr]; rfl, by rw [HS_size]; decide, (fun h hh => by rw [hr] at hh; cases hh), Below.refl _ _⟩
    · have hd : (n == 1) = false := by simpa using h1
      have hbd := below_bd (n := n.toNat) (by omega) (by omega)
      have hr := rebuild_snoc leaf last i.toNat n.toNat q
      rw [if_neg (by omega)] at hr
      obtain ⟨k, hk⟩ : ∃ k, k = below n.toNat := ⟨_, rfl⟩
      rw [← hk] at hbd hr
      obtain ⟨hb1, hb2, hb3⟩ := hbd
      have HR := Lib.hid hr
      have HK := Lib.hid hk
      clear hr hk
      by_cases hik : i < (k : Int)
      · go_enter Try.func29, Try.ntmps29
        go_wp2_with fail
        refine (rbelow_any _ _ (by omega) (by omega)).mono ?_
        rintro e w0 ⟨rfl, rfl⟩
        rw [← HK.out]
        go_wp2_with fail
        refine (IH.out q leaf i k _ _ HL.out HQ.out h0 hik (by omega) (by omega)).mono ?_
        rintro e w1 ⟨s, rfl, hs8, hsh, hb⟩
        have HSH := Lib.hid hsh
        clear hsh
        obtain ⟨r, hrr⟩ : ∃ r, r = rebuild leaf i.toNat (k : Int).toNat q := ⟨_, rfl⟩
        rw [← hrr]
        have HRR := Lib.hid hrr
        clear hrr
        go_wp2_with fail
        refine (rnode_any s (HS last) _ hs8 (by rw [HS_size]; decide)).mono ?_
        rintro e w2 ⟨rfl, hb2⟩
        go_wp2
        go_ret2
        have hre : rebuild leaf i.toNat n.toNat (q ++ [last]) = r.map (nodeH · last) := by rw [HR.out, if_pos (by omega), HRR.out]; rfl
        refine ⟨_, by rw [hre, Option.isSome_map]; rfl, by rw [HS_size]; decide, fun h hh => ?_, hb.trans (hb2.mono hb.size)⟩
        rw [hre] at hh
        obtain ⟨h', hh', rfl⟩ := Option.map_eq_some_iff.1 hh
        rw [HSH.out h' (by rw [← HRR.out]; exact hh')]
        rfl
      · go_enter Try.func29, Try.ntmps29
        go_wp2_with fail
        refine (rbelow_any _ _ (by omega) (by omega)).mono ?_
        rintro e w0 ⟨rfl, rfl⟩
        rw [← HK.out]
        go_wp2_with fail
        refine (IH.out q leaf (i - k) (n - k) _ _ HL.out HQ.out (by omega) (by omega) (by omega) (by omega)).mono ?_
        rintro e w1 ⟨s, rfl, hs8, hsh, hb⟩
        have HSH := Lib.hid hsh
        clear hsh
        obtain ⟨r, hrr⟩ : ∃ r, r = rebuild leaf (i - k).toNat (n - k).toNat q := ⟨_, rfl⟩
        rw [← hrr]
        have HRR := Lib.hid hrr
        clear hrr
        go_wp2_with fail
        refine (rnode_any (HS last) s _ (by rw [HS_size]; decide) hs8).mono ?_
        rintro e w2 ⟨rfl, hb2⟩
        go_wp2
        go_ret2
        have hre : rebuild leaf i.toNat n.toNat (q ++ [last]) = r.map (nodeH last ·) := by
          rw [HR.out, if_neg (by omega), HRR.out]
          congr 2 <;> omega
        refine ⟨_, by rw [hre, Option.isSome_map]; rfl, by rw [HS_size]; decide, fun h hh => ?_, hb.trans (hb2.mono hb.size)⟩
        rw [hre] at hh
        obtain ⟨h', hh', rfl⟩ := Option.map_eq_some_iff.1 hh
        rw [HSH.out h' (by rw [← HRR.out]; exact hh')]
        rfl
set_option maxHeartbeats 1000000 in
/-- tilesref.Included. -/
theorem rincluded_any (p : List Hsh) (leaf root : Hsh) (i n : Int) (v : Value) (w : World) (h : StrsAt w v (p.map HS)) (hi : -9223372036854775808 ≤ i) (hn : n ≤ 9223372036854775807) (hm : p.length ≤ 1048576) :
    Calls Try.prog 16 #[.string (HS leaf), .int .i64 i, .int .i64 n, v, .string (HS root)] w fun e w' => e = .returned (.bool (included leaf i n p root)) ∧ Below w.heap.size w w' := by
  obtain ⟨a, c, hv, _⟩ := id h
  by_cases h0 : 0 ≤ i
  · have hd : decide (i < 0) = false := by simp; omega
    by_cases hin : i < n
    · have hd2 : decide (n ≤ i) = false := by simp; omega
      have hinc : included leaf i n p root = (rebuild leaf i.toNat n.toNat p == some root) := by simp [included, h0, hin]
      have HI := Lib.hid hinc
      have HH := Lib.hid h
      have HV := Lib.hid hv
      clear hinc h hv
      go_enter Try.func16, Try.ntmps16
      go_wp2_with fail
      refine (rrebuild_any p.length p leaf i n v w rfl HH.out h0 hin hn hm).mono ?_
      rintro e w1 ⟨s, rfl, hs8, hsh, hb⟩
      have HSH := Lib.hid hsh
      clear hsh
      obtain ⟨r, hrr⟩ : ∃ r, r = rebuild leaf i.toNat n.toNat p := ⟨_, rfl⟩
      rw [← hrr]
      have HRR := Lib.hid hrr
      clear hrr
      cases r with
      | none =>
        go_wp2
        go_ret
        exact ⟨ret_bool (by rw [HI.out, ← HRR.out]; rfl), hb⟩
      | some h =>
        obtain rfl : s = HS h := HSH.out h HRR.out.symm
        go_wp2
        go_ret
        refine ⟨ret_bool ?_, hb⟩
        rw [HI.out, ← HRR.out]
        exact HS_beq h root
    · have hd2 : decide (n ≤ i) = true := by simp; omega
      clear h
      subst hv
      go_enter Try.func16, Try.ntmps16
      go_wp2
      go_ret
      exact ⟨ret_bool (by simp [included]; omega), Below.refl _ _⟩
  · have hd : decide (i < 0) = true := by simp; omega
    clear h
    subst hv
    go_enter Try.func16, Try.ntmps16
    go_wp2
    go_ret
    exact ⟨ret_bool (by simp [included]; omega), Below.refl _ _⟩
end Go.Proofs.Ytefccfakhgdfbaa
