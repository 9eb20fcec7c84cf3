/- The walk of tilesref.Sign. -/
import Derived.Test.YtefccfakhgdfbaaDoorRHex
import Derived.Test.YtefccfakhgdfbaaDoorRefHash
namespace Go.Proofs.YtefccfakhgdfbaaDoor
open Go.RowKit
theorem signOf_len (n : Nat) (h : Hsh) (key : List UInt8) (hn : n < 9223372036854775808) : (headOf n h).length ≤ 100 ∧ (signOf n h key).length ≤ 200 := by
  have h1 := dec_len19 hn
  have h2 : (headOf n h).length ≤ 100 := by
    unfold headOf
    simp [kTiles, hexOf_len]
    omega
  refine ⟨h2, ?_⟩
  unfold signOf
  simp [hexOf_len]
  omega
set_option maxHeartbeats 1000000 in
set_option maxRecDepth 100000 in
theorem rsign_any (n : Nat) (h : Hsh) (key : ByteArray) (w : World) (hn : n < 9223372036854775808) (hk : key.size ≤ 1048576) :
    Calls Tryd.prog 26 #[.int .i64 n, .string (HS h), .string key] w fun e w' => e = .returned (.string (sOf (signOf n h key.data.toList))) ∧ Below w.heap.size w w' := by
  have hd : (dec n).length ≤ 19 := dec_len19 hn
  have hx : (hexOf h.toList).length = 16 := by rw [hexOf_len, toList_len]
  have hhead : (ByteArray.mk #[116, 105, 108, 101, 115, 10]) ++ sOf (dec n) ++ (ByteArray.mk #[10]) ++ sOf (hexOf h.toList) ++ (ByteArray.mk #[10]) = sOf (headOf n h) := by
    apply ByteArray.ext
    simp [headOf, kTiles]
  have hall : key ++ (ByteArray.mk #[0]) ++ sOf (headOf n h) = sOf (key.data.toList ++ 0 :: headOf n h) := by
    apply ByteArray.ext
    simp
  have hhl := (signOf_len n h key.data.toList hn).1
  have HH := Lib.hid hhead
  have HA := Lib.hid hall
  clear hhead hall
  go_enter Tryd.func26, Tryd.ntmps26
  go_wp2_with fail
  refine (digits_any n _ hn).mono ?_
  rintro e w1 ⟨rfl, hb1⟩
  go_wp2_with fail
  refine (rhex_any (HS h) _ (by rw [HS_size]; decide)).mono ?_
  rintro e w2 ⟨rfl, hb2⟩
  rw [show (HS h).data.toList = h.toList from rfl]
  have HB2 := Lib.hid (hb1.trans (hb2.mono hb1.size))
  clear hb1 hb2
  go_wp2_with fail
  rw [HH.out, HA.out]
  refine (rhash_any _ _ (by rw [sOf_size]; simp; omega)).mono ?_
  rintro e w3 ⟨rfl, hb3⟩
  rw [show (sOf (key.data.toList ++ 0 :: headOf n h)).data.toList = key.data.toList ++ 0 :: headOf n h from rfl]
  obtain ⟨m, hm⟩ : ∃ m, m = hash (key.data.toList ++ 0 :: headOf n h) := ⟨_, rfl⟩
  rw [← hm]
  have HM := Lib.hid hm
  have HB3 := Lib.hid (HB2.out.trans (hb3.mono HB2.out.size))
  clear hm hb3
  have hx2 : (hexOf m.toList).length = 16 := by rw [hexOf_len, toList_len]
  go_wp2_with fail
  refine (rhex_any (HS m) _ (by rw [HS_size]; decide)).mono ?_
  rintro e w4 ⟨rfl, hb4⟩
  rw [show (HS m).data.toList = m.toList from rfl]
  have HB4 := Lib.hid (HB3.out.trans (hb4.mono HB3.out.size))
  clear hb4
  go_wp2
  go_ret
  refine ⟨ret_val (congrArg Value.string ?_), HB4.out⟩
  have := HH.out
  unfold signOf
  rw [← HM.out]
  apply ByteArray.ext
  simp [headOf, kTiles]
end Go.Proofs.YtefccfakhgdfbaaDoor
