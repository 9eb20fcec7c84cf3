/- The walks of tiles.Sign, plain.Sign. -/
import Derived.Test.YtefccfakhgdfbaaDoorFSign
import Derived.Test.YtefccfakhgdfbaaDoorEight
namespace Go.Proofs.YtefccfakhgdfbaaDoor
open Go.RowKit
set_option maxHeartbeats 1000000 in
set_option maxRecDepth 100000 in
theorem tsign_any (n : Nat) (h : Hsh) (key : ByteArray) (w : World) (hn : n < 9223372036854775808) (hk : key.size ≤ 1048576) (hE : NumEnv w) :
    Calls Tryd.prog 49 #[trV n h, .string key] w fun e w' => e = .returned (.string (sOf (signOf n h key.data.toList))) ∧ Below w.heap.size w w' := by
  have HE := Lib.hid (hE.below (below_alloc w (.cells (trC n h) 77)))
  have T0 : TrAt (w.alloc (.cells (trC n h) 77)) w.heap.size n h := heap_alloc_new w _
  obtain ⟨k0, k1, k2, k3, k4, k5, k6, k7, k8⟩ := T0.cells
  clear hE T0
  go_enter Tryd.func49, Tryd.ntmps49
  go_wp2_with fail
  refine (fsign_any n h key _ hn hk HE.out).mono ?_
  rintro e w1 ⟨rfl, hb⟩
  go_wp2
  go_ret
  exact ⟨rfl, (below_alloc w (.cells (trC n h) 77)).trans (hb.mono (below_alloc w (.cells (trC n h) 77)).size)⟩
set_option maxHeartbeats 1000000 in
set_option maxRecDepth 100000 in
theorem psign_any (n : Nat) (root key : ByteArray) (w : World) (hn : n < 9223372036854775808) (hr : root.size ≤ 9223372036854775807) (hk : key.size ≤ 1048576) (hE : NumEnv w) :
    Calls Tryd.prog 25 #[.int .i64 n, .string root, .string key] w fun e w' => e = .returned (.string (sOf (signOf n (eightOf root.data.toList) key.data.toList))) ∧ Below w.heap.size w w' := by
  obtain ⟨h, hh⟩ : ∃ h, h = eightOf root.data.toList := ⟨_, rfl⟩
  rw [← hh]
  have HH := Lib.hid hh
  have HE := Lib.hid hE
  clear hh hE
  go_enter Tryd.func25, Tryd.ntmps25
  go_wp2_with fail
  refine (hash_any root _ hr).mono ?_
  rintro e w1 ⟨rfl, hb1⟩
  rw [← HH.out, h8_lit]
  have HE1 := Lib.hid (HE.out.below hb1)
  have HB1 := Lib.hid hb1
  clear hb1
  go_wp2_with fail
  refine (tsign_any n h key _ hn hk HE1.out).mono ?_
  rintro e w2 ⟨rfl, hb2⟩
  go_wp2
  go_ret
  exact ⟨rfl, HB1.out.trans (hb2.mono HB1.out.size)⟩
end Go.Proofs.YtefccfakhgdfbaaDoor
