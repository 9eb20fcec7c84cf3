/- The walks of merkle.Split and tilesref.below: the greatest power of 2 below n, for n from 2 on. -/
import Derived.Test.YtefccfakhgdfbaaDoorPlain
import Derived.Test.YtefccfakhgdfbaaDoorShelf
namespace Go.Proofs.YtefccfakhgdfbaaDoor
open Go.RowKit
set_option maxHeartbeats 400000 in
theorem split_any (n : Int) (w : World) (h2 : 2 ≤ n) (h3 : n ≤ 9223372036854775807) :
    Calls Tryd.prog 70 #[.int .i64 n] w fun e w' => e = .returned (.int .i64 (below n.toNat)) ∧ w = w' := by
  obtain ⟨e, he, he2, h4, h5⟩ := bl_bd (n := n.toNat) (by omega) (by omega)
  have hb : below n.toNat = 2 ^ e := by unfold below; rw [he, Nat.add_sub_cancel]
  have HB := Lib.hid hb
  have HE : Hid (Lib.bitLen (n - 1).toNat = e + 1) := by
    have : (n - 1).toNat = n.toNat - 1 := by omega
    rw [this]; exact he
  have hp : ((2 : Int) ^ e) = ((2 ^ e : Nat) : Int) := by simp
  have hle : 2 ^ e < 9223372036854775808 := by omega
  have HP := Lib.hid hp
  have HL := Lib.hid hle
  clear hb he hp hle h4 h5
  go_enter Tryd.func70, Tryd.ntmps70
  go_wp2_with fail
  refine (Tryd.bits_Len _ _ (by omega) (by omega)).mono ?_
  rintro e w1 ⟨rfl, rfl⟩
  rw [HE.out]
  go_wp2
  go_ret
  refine ⟨ret_val ?_, rfl⟩
  rw [HB.out]
  simp only [HP.out]
  have := HL.out
  show Value.int IntKind.i64 (wrap64 ((2 ^ e : Nat) : Int)) = _
  generalize 2 ^ e = m at this ⊢
  congr 1
  unfold wrap64
  omega
set_option maxHeartbeats 400000 in
theorem rbelow_any (n : Int) (w : World) (h2 : 2 ≤ n) (h3 : n ≤ 9223372036854775807) :
    Calls Tryd.prog 35 #[.int .i64 n] w fun e w' => e = .returned (.int .i64 (below n.toNat)) ∧ w = w' := by
  go_enter Tryd.func35, Tryd.ntmps35
  go_wp2
  go_loop [3] (fun k => ∃ (e : Nat) (k' : Int), k = .int .i64 k' ∧ k' = 2 ^ e ∧ k' < n ∧ 0 < k') (fun k => (n - intOf k).toNat)
  case atStart => exact ⟨0, 1, rfl, rfl, by omega, by omega⟩
  case round =>
    obtain ⟨e, k, rfl, hke, hkn, hk0⟩ := hrel
    have HK := Lib.hid hke
    clear hke
    by_cases hlt : k < n - k
    · go_wp2
      go_round
      case rel => exact ⟨e + 1, _, rfl, by rw [HK.out, Int.pow_succ]; omega, by omega, by omega⟩
      case measure => simp [intOf]; omega
    · go_wp2
      go_ret
      refine ⟨ret_val ?_, rfl⟩
      have h := HK.out
      have hp : ((2 : Int) ^ e) = ((2 ^ e : Nat) : Int) := by simp
      rw [below_uniq (n := n.toNat) (e := e) (by omega) (by omega) (by omega) (by omega)]
      show Value.int IntKind.i64 k = _
      rw [h, hp]
end Go.Proofs.YtefccfakhgdfbaaDoor
