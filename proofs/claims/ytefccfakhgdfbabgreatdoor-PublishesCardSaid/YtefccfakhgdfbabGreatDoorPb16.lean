/-
  The walks of tilesref.hex, unhex.
  The walk of tilesref.Sign.
-/
import Derived.Test.YtefccfakhgdfbabGreatDoorPb14
import Derived.Test.YtefccfakhgdfbabGreatDoorPb04
set_option linter.unusedVariables false
set_option linter.unusedSimpArgs false
section
namespace Go.Proofs.YtefccfakhgdfbabGreatDoor
open Go.RowKit
theorem kHex_cut (n : Nat) (h : n < 16) : (ByteArray.mk #[48, 49, 50, 51, 52, 53, 54, 55, 56, 57, 97, 98, 99, 100, 101, 102]).extract n (n + 1) = sOf [hexD n] := by
  have : ∀ m : Fin 16, (ByteArray.mk #[48, 49, 50, 51, 52, 53, 54, 55, 56, 57, 97, 98, 99, 100, 101, 102]).extract m.1 (m.1 + 1) = sOf [hexD m.1] := by decide
  exact this ⟨n, h⟩
theorem hexOf_step {l : List UInt8} {k : Nat} (hk : k < l.length) : hexOf (l.take (k + 1)) = hexOf (l.take k) ++ [hexD ((l.getD k 0).toNat / 16)] ++ [hexD ((l.getD k 0).toNat % 16)] := by
  have e : l.take (k + 1) = l.take k ++ [l.getD k 0] := by
    rw [List.take_add_one, List.getElem?_eq_getElem hk]
    simp [List.getD, hk]
  rw [e]
  unfold hexOf
  rw [List.flatMap_append, List.append_assoc]
  rfl
set_option maxHeartbeats 4000000 in
set_option maxRecDepth 100000 in
theorem rhex_any (s : ByteArray) (w : World) (hs : s.size ≤ 1000) :
    Calls Tryz.prog 152 #[.string s] w fun e w' => e = .returned (.string (sOf (hexOf s.data.toList))) ∧ Below w.heap.size w w' := by
  go_enter Tryz.func152, Tryz.ntmps152
  go_wp2
  go_loopw [4, 5] (fun v i wr => ∃ k : Nat, k ≤ s.size ∧ i = .int .i64 k ∧ v = .string (sOf (hexOf (s.data.toList.take k))) ∧ Below w.heap.size w wr) (fun _ i _ => s.size - (intOf i).toNat)
  case atStart => exact ⟨0, by omega, rfl, rfl, Below.refl _ _⟩
  case round =>
    obtain ⟨k, hk, rfl, rfl, hbel⟩ := hrel
    have HB := Lib.hid hbel
    clear hbel
    by_cases hlt : k < s.size
    · have hst := hexOf_step (l := s.data.toList) (k := k) (by simpa using hlt)
      have hg : s.data.toList.getD k 0 = s[k] := by simp [List.getD, hlt]; rfl
      rw [hg] at hst
      obtain ⟨hi, hhi⟩ : ∃ n, n = s[k].toNat / 16 := ⟨_, rfl⟩
      obtain ⟨lo, hlo⟩ : ∃ n, n = s[k].toNat % 16 := ⟨_, rfl⟩
      have hx := s[k].toNat_lt
      have e1 : (s[k].toNat : Int) / 16 = (hi : Int) := by omega
      have e2 : (s[k].toNat : Int) % 16 = (lo : Int) := by omega
      rw [← hhi, ← hlo] at hst
      have b1 : hi < 16 := by omega
      have b2 : lo < 16 := by omega
      have c1 := kHex_cut hi b1
      have c2 := kHex_cut lo b2
      have hlen : (hexOf (s.data.toList.take k)).length ≤ 2000 := by rw [hexOf_len]; simp; omega
      have HST := Lib.hid hst
      clear hst hg hhi hlo hx
      go_wp2_with fail
      go_region
      go_wp2
      refine ⟨⟨k + 1, by omega, rfl, ?_, HB.out.drew⟩, by simp [intOf]; omega⟩
      rw [HST.out, sOf_append, sOf_append]
    · have ht : s.data.toList.take k = s.data.toList := List.take_of_length_le (by simp; omega)
      rw [ht]
      go_wp2
      go_ret
      exact ⟨rfl, HB.out⟩
/-- A digit's number as unhex answers. -/
def unhexI (c : UInt8) : Int := match unhexR c with | some n => n | none => -1
set_option maxHeartbeats 1000000 in
theorem unhex_any (c : UInt8) (w : World) :
    Calls Tryz.prog 165 #[.int .u8 c.toNat] w fun e w' => e = .returned (.int .i64 (unhexI c)) ∧ w = w' := by
  have hc := c.toNat_lt
  obtain ⟨n, hn⟩ : ∃ n, n = c.toNat := ⟨_, rfl⟩
  have hU : unhexI c = if 48 ≤ n ∧ n ≤ 57 then ((n - 48 : Nat) : Int) else if 97 ≤ n ∧ n ≤ 102 then ((n - 87 : Nat) : Int) else -1 := by
    rw [hn]
    unfold unhexI unhexR
    split
    · rename_i m h
      split at h
      · rename_i h1; rw [if_pos h1]; cases h; rfl
      · rename_i h1; rw [if_neg h1]; split at h
        · rename_i h2; rw [if_pos h2]; cases h; rfl
        · cases h
    · rename_i h
      split at h
      · cases h
      · rename_i h1; rw [if_neg h1]; split at h
        · cases h
        · rename_i h2; rw [if_neg h2]
  rw [hU, ← hn]
  rw [← hn] at hc
  clear hn hU
  by_cases h1 : 48 ≤ n
  · have d1 : decide ((48 : Int) ≤ (n : Int)) = true := decide_eq_true (by omega)
    by_cases h2 : n ≤ 57
    · have d2 : decide ((n : Int) ≤ (57 : Int)) = true := decide_eq_true (by omega)
      rw [if_pos ⟨h1, h2⟩, show ((n - 48 : Nat) : Int) = (n : Int) - 48 by omega]
      go_enter Tryz.func165, Tryz.ntmps165
      go_wp2
      go_ret
      exact ⟨rfl, rfl⟩
    · have d2 : decide ((n : Int) ≤ (57 : Int)) = false := decide_eq_false (by omega)
      rw [if_neg (by omega)]
      by_cases h3 : 97 ≤ n
      · have d3 : decide ((97 : Int) ≤ (n : Int)) = true := decide_eq_true (by omega)
        by_cases h4 : n ≤ 102
        · have d4 : decide ((n : Int) ≤ (102 : Int)) = true := decide_eq_true (by omega)
          rw [if_pos ⟨h3, h4⟩, show ((n - 87 : Nat) : Int) = (n : Int) - 97 + 10 by omega]
          go_enter Tryz.func165, Tryz.ntmps165
          go_wp2
          go_ret
          exact ⟨rfl, rfl⟩
        · have d4 : decide ((n : Int) ≤ (102 : Int)) = false := decide_eq_false (by omega)
          rw [if_neg (by omega)]
          go_enter Tryz.func165, Tryz.ntmps165
          go_wp2
          go_ret
          exact ⟨rfl, rfl⟩
      · have d3 : decide ((97 : Int) ≤ (n : Int)) = false := decide_eq_false (by omega)
        rw [if_neg (by omega)]
        go_enter Tryz.func165, Tryz.ntmps165
        go_wp2
        go_ret
        exact ⟨rfl, rfl⟩
  · have d1 : decide ((48 : Int) ≤ (n : Int)) = false := decide_eq_false (by omega)
    have d3 : decide ((97 : Int) ≤ (n : Int)) = false := decide_eq_false (by omega)
    rw [if_neg (by omega), if_neg (by omega)]
    go_enter Tryz.func165, Tryz.ntmps165
    go_wp2
    go_ret
    exact ⟨rfl, rfl⟩
end Go.Proofs.YtefccfakhgdfbabGreatDoor
end

section
namespace Go.Proofs.YtefccfakhgdfbabGreatDoor
open Go.RowKit
theorem signOf_len (n : Nat) (h : Hsh) (key : List UInt8) (hn : n < 9223372036854775808) : (headOf n h).length ≤ 100 ∧ (signOf n h key).length ≤ 200 := by
  have h1 := dec_len19 hn
  have h2 : (headOf n h).length ≤ 100 := by
    unfold headOf
    simp [kTiles, hexOf_len]
    omega
  refine ⟨h2, ?_⟩
  unfold signOf
  simp [hexOf_len]
  omega
set_option maxHeartbeats 1000000 in
set_option maxRecDepth 100000 in
theorem rsign_any (n : Nat) (h : Hsh) (key : ByteArray) (w : World) (hn : n < 9223372036854775808) (hk : key.size ≤ 1048600) :
    Calls Tryz.prog 100 #[.int .i64 n, .string (HS h), .string key] w fun e w' => e = .returned (.string (sOf (signOf n h key.data.toList))) ∧ Below w.heap.size w w' := by
  have hd : (dec n).length ≤ 19 := dec_len19 hn
  have hx : (hexOf h.toList).length = 16 := by rw [hexOf_len, toList_len]
  have hhead : (ByteArray.mk #[116, 105, 108, 101, 115, 10]) ++ sOf (dec n) ++ (ByteArray.mk #[10]) ++ sOf (hexOf h.toList) ++ (ByteArray.mk #[10]) = sOf (headOf n h) := by
    apply ByteArray.ext
    simp [headOf, kTiles]
  have hall : key ++ (ByteArray.mk #[0]) ++ sOf (headOf n h) = sOf (key.data.toList ++ 0 :: headOf n h) := by
    apply ByteArray.ext
    simp
  have hhl := (signOf_len n h key.data.toList hn).1
  have HH := Lib.hid hhead
  have HA := Lib.hid hall
  clear hhead hall
  go_enter Tryz.func100, Tryz.ntmps100
  go_wp2_with fail
  refine (digits_any n _ hn).mono ?_
  rintro e w1 ⟨rfl, hb1⟩
  go_wp2_with fail
  refine (rhex_any (HS h) _ (by rw [HS_size]; decide)).mono ?_
  rintro e w2 ⟨rfl, hb2⟩
  rw [show (HS h).data.toList = h.toList from rfl]
  have HB2 := Lib.hid (hb1.trans (hb2.mono hb1.size))
  clear hb1 hb2
  go_wp2_with fail
  rw [HH.out, HA.out]
  refine (rhash_any _ _ (by rw [sOf_size]; simp; omega)).mono ?_
  rintro e w3 ⟨rfl, hb3⟩
  rw [show (sOf (key.data.toList ++ 0 :: headOf n h)).data.toList = key.data.toList ++ 0 :: headOf n h from rfl]
  obtain ⟨m, hm⟩ : ∃ m, m = hash (key.data.toList ++ 0 :: headOf n h) := ⟨_, rfl⟩
  rw [← hm]
  have HM := Lib.hid hm
  have HB3 := Lib.hid (HB2.out.trans (hb3.mono HB2.out.size))
  clear hm hb3
  have hx2 : (hexOf m.toList).length = 16 := by rw [hexOf_len, toList_len]
  go_wp2_with fail
  refine (rhex_any (HS m) _ (by rw [HS_size]; decide)).mono ?_
  rintro e w4 ⟨rfl, hb4⟩
  rw [show (HS m).data.toList = m.toList from rfl]
  have HB4 := Lib.hid (HB3.out.trans (hb4.mono HB3.out.size))
  clear hb4
  go_wp2
  go_ret
  refine ⟨ret_val (congrArg Value.string ?_), HB4.out⟩
  have := HH.out
  unfold signOf
  rw [← HM.out]
  apply ByteArray.ext
  simp [headOf, kTiles]
end Go.Proofs.YtefccfakhgdfbabGreatDoor
end
