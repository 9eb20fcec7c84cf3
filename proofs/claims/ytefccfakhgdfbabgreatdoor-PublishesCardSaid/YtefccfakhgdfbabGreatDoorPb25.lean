/-
  The walk of internal/strconv.ParseUint and strconv.ParseUint at two digits of 16, eight bits.
-/
import Derived.Test.YtefccfakhgdfbabGreatDoorPb14
import Derived.Test.YtefccfakhgdfbabGreatDoorPb06
import Derived.Lib.Walk
import Derived.Laws.Strings3
import Derived.Laws.Closers25
import Derived.Laws.Closers25b
import Derived.BigCall
import Derived.BigGuard
set_option linter.unusedVariables false
set_option linter.unusedSimpArgs false
section
namespace Go.Proofs.YtefccfakhgdfbabGreatDoor
open Go.RowKit
/-- The number of some digits of 16. -/
def p16 (acc : Nat) : List UInt8 → Option Nat
  | [] => some acc
  | c :: r => match unhexG c with
    | none => none
    | some d => p16 (acc * 16 + d) r
def lowV (c : UInt8) : Int := bits BinOp.or IntKind.u8 (c.toNat : Int) 32
theorem low_facts (c : UInt8) : (48 ≤ c.toNat ∧ c.toNat ≤ 57 ∧ unhexG c = some (c.toNat - 48)) ∨
    (¬ (48 ≤ c.toNat ∧ c.toNat ≤ 57) ∧ c.toNat ≠ 95 ∧ 97 ≤ lowV c ∧ lowV c ≤ 102 ∧ unhexG c = some (lowV c - 87).toNat) ∨
    (¬ (48 ≤ c.toNat ∧ c.toNat ≤ 57) ∧ ¬ (97 ≤ lowV c ∧ lowV c ≤ 102) ∧ 0 ≤ lowV c ∧ lowV c ≤ 255 ∧ unhexG c = none) := by
  have h : ∀ n : Fin 256, (48 ≤ (UInt8.ofNat n.1).toNat ∧ (UInt8.ofNat n.1).toNat ≤ 57 ∧ unhexG (UInt8.ofNat n.1) = some ((UInt8.ofNat n.1).toNat - 48)) ∨
    (¬ (48 ≤ (UInt8.ofNat n.1).toNat ∧ (UInt8.ofNat n.1).toNat ≤ 57) ∧ (UInt8.ofNat n.1).toNat ≠ 95 ∧ 97 ≤ lowV (UInt8.ofNat n.1) ∧ lowV (UInt8.ofNat n.1) ≤ 102 ∧ unhexG (UInt8.ofNat n.1) = some (lowV (UInt8.ofNat n.1) - 87).toNat) ∨
    (¬ (48 ≤ (UInt8.ofNat n.1).toNat ∧ (UInt8.ofNat n.1).toNat ≤ 57) ∧ ¬ (97 ≤ lowV (UInt8.ofNat n.1) ∧ lowV (UInt8.ofNat n.1) ≤ 102) ∧ 0 ≤ lowV (UInt8.ofNat n.1) ∧ lowV (UInt8.ofNat n.1) ≤ 255 ∧ unhexG (UInt8.ofNat n.1) = none) := by decide +kernel
  have := h ⟨c.toNat, c.toNat_lt⟩
  simpa using this
/-- How it ends. -/
def pu16T (T : TypeId) : Option Nat → Value
  | some n => .tuple #[.int .u64 n, .nilIface]
  | none => .tuple #[.int .u64 0, .iface T (.int .i64 2)]
set_option maxHeartbeats 8000000 in
set_option maxRecDepth 100000 in
theorem pu16_in (t : ByteArray) (ht : t.size = 2) (w : World) :
    Calls Tryz.prog 170 #[.string t, .int .i64 16, .int .i64 8] w fun e w' => e = .returned (pu16T 311 (p16 0 t.data.toList)) ∧ w' = Lib.bytesWorld w 5 t := by
  have hemp : t.toList.isEmpty = false := by
    rw [← decide_eq_emptyBytes]
    exact decide_eq_false (fun h => by rw [h] at ht; exact absurd ht (by decide))
  have hcv := Lib.run_convert_string_bytes (P := Tryz.prog) w 9 94 5 t (u := .string) Tryz.underlying9 Tryz.underlying94 Tryz.underlying5
  have hB : ∀ j, j < t.size → (Lib.bytesWorld w 5 t).cell? ⟨w.heap.size, j, none⟩ = some (.int .u8 (t.data.toList.getD j 0).toNat) := fun j hj => Lib.bytesWorld_cell w 5 t j hj
  obtain ⟨W1, hW1⟩ : ∃ W1, W1 = Lib.bytesWorld w 5 t := ⟨_, rfl⟩
  rw [← hW1] at hcv hB ⊢
  clear hW1
  obtain ⟨bs, hL⟩ : ∃ bs, bs = t.data.toList := ⟨_, rfl⟩
  have hLn : bs.length = 2 := by rw [hL]; simpa using ht
  rw [← hL] at hB ⊢
  clear hL
  have hmv : IntKind.u64.wrap (IntKind.u64.wrap 256 - 1) = 255 := by
    rw [IntKind.wrap_u64, IntKind.wrap_u64]
    decide
  obtain ⟨res, hres⟩ : ∃ r, r = p16 0 bs := ⟨_, rfl⟩
  rw [← hres]
  have HRES := Lib.hid hres
  clear hres
  go_enter Tryz.func170, Tryz.ntmps170
  go_wp2
  go_loop [12, 13, 101] (fun vu vn vi => ∃ (k acc : Nat) (a : Int), vu = .bool false ∧ vn = .int .u64 a ∧ vi = .int .i64 k ∧ k ≤ 2 ∧ Hid (a = (acc : Int) ∧ acc < 16 ^ k ∧ res = p16 acc (bs.drop k)))
    (fun _ _ vi => 2 - (intOf vi).toNat)
  case atStart => exact ⟨0, 0, 0, rfl, rfl, rfl, by omega, Lib.hid ⟨rfl, by decide, HRES.out⟩⟩
  case round =>
    obtain ⟨k, acc, a, rfl, rfl, rfl, hk, hh⟩ := hrel
    obtain ⟨ha, hacc, hdec⟩ := hh.out
    clear hh
    have hpow : 16 ^ k ≤ 256 := by
      have : k = 0 ∨ k = 1 ∨ k = 2 := by omega
      rcases this with rfl | rfl | rfl <;> decide
    have a0 : 0 ≤ a := by omega
    have a1 : a ≤ 255 := by omega
    by_cases hkn : k < 2
    · have hc := hB k (by omega)
      have hdrop : bs.drop k = bs[k]'(by omega) :: bs.drop (k + 1) := List.drop_eq_getElem_cons (by omega)
      have hget : bs.getD k 0 = bs[k]'(by omega) := by simp [List.getD, List.getElem?_eq_getElem (show k < bs.length by omega)]
      have hacc1 : acc ≤ 15 := by
        have : k = 0 ∨ k = 1 := by omega
        rcases this with rfl | rfl <;> omega
      have hpow1 : 16 ^ (k + 1) = 16 ^ k * 16 := Nat.pow_succ 16 k
      rw [hdrop] at hdec
      rw [hget] at hc
      generalize bs[k]'(by omega) = c at hc hdec
      have hc256 : c.toNat < 256 := c.toNat_lt
      unfold p16 at hdec
      have ia : a ≤ 15 := by omega
      clear hB hdrop hget hpow
      have hfacts := low_facts c
      obtain ⟨lo, hlo⟩ : ∃ x, x = lowV c := ⟨_, rfl⟩
      rw [← hlo] at hfacts
      have hlo' : bits BinOp.or IntKind.u8 (c.toNat : Int) 32 = lo := hlo.symm
      clear hlo
      rcases hfacts with ⟨hd0, hd1, hg⟩ | ⟨hnd, h95, hl0, hl1, hg⟩ | ⟨hnd, hnl, hl0, hl1, hg⟩
      · rw [hg] at hdec
        simp only at hdec
        have HN : Hid (a * 16 + ((c.toNat : Int) - 48) = ((acc * 16 + (c.toNat - 48) : Nat) : Int) ∧ acc * 16 + (c.toNat - 48) < 16 ^ (k + 1) ∧ res = p16 (acc * 16 + (c.toNat - 48)) (bs.drop (k + 1))) := Lib.hid ⟨by omega, by omega, hdec⟩
        have j0 : (48 : Int) ≤ c.toNat := by omega
        have j1 : (c.toNat : Int) ≤ 57 := by omega
        clear hdec hg ha hacc hpow1 hacc1 hlo'
        go_wp2
        refine ⟨⟨k + 1, acc * 16 + (c.toNat - 48), a * 16 + ((c.toNat : Int) - 48), rfl, (by first | rfl | (congr 1; omega)), (by first | rfl | (congr 1; omega)), by omega, HN⟩, by simp [intOf]; omega⟩
      · rw [hg] at hdec
        simp only at hdec
        have HN : Hid (a * 16 + (lo - 97 + 10) = ((acc * 16 + (lo - 87).toNat : Nat) : Int) ∧ acc * 16 + (lo - 87).toNat < 16 ^ (k + 1) ∧ res = p16 (acc * 16 + (lo - 87).toNat) (bs.drop (k + 1))) := Lib.hid ⟨by omega, by omega, hdec⟩
        have e95 : ((c.toNat : Int) == 95) = false := by rw [beq_eq_false_iff_ne]; omega
        clear hdec hg ha hacc hpow1 hacc1
        go_wp2_with (go_at_call 198; refine (Tryz.internal_strconv_lower _ _).mono ?_; rintro e w' ⟨rfl, rfl⟩)
        all_goals exact ⟨⟨k + 1, acc * 16 + (lo - 87).toNat, a * 16 + (lo - 97 + 10), rfl, rfl, rfl, by omega, HN⟩, by simp [intOf]; omega⟩
      · rw [hg] at hdec
        simp only at hdec
        clear hg ha hacc hpow1 hacc1
        go_wp2_with (go_at_call 198; refine (Tryz.internal_strconv_lower _ _).mono ?_; rintro e w' ⟨rfl, rfl⟩)
        all_goals go_ret2
        all_goals first | exact ⟨rfl, rfl⟩ | exact ⟨by rw [hdec]; rfl, rfl⟩
    · have hkk : k = 2 := by omega
      subst hkk
      rw [List.drop_eq_nil_of_le (by omega)] at hdec
      unfold p16 at hdec
      subst ha
      clear hacc a0 a1 hpow
      go_wp2
      go_ret2
      first | exact ⟨rfl, rfl⟩ | exact ⟨by rw [hdec]; rfl, rfl⟩ | exact ⟨by subst hdec; rfl, rfl⟩
theorem p16_two (a b : UInt8) : p16 0 [a, b] = (unhexG a).bind fun x => (unhexG b).map fun y => 16 * x + y := by
  unfold p16
  cases unhexG a with
  | none => rfl
  | some x =>
    simp only [Option.bind_some]
    unfold p16
    cases unhexG b with
    | none => rfl
    | some y =>
      simp only [Option.map_some]
      unfold p16
      congr 1
      omega
set_option maxHeartbeats 1000000 in
/-- strconv.ParseUint of two digits of 16. -/
theorem pu16_any (a b : UInt8) (w : World) (hE : NumEnv w) :
    Calls Tryz.prog 122 #[.string (sOf [a, b]), .int .i64 16, .int .i64 8] w fun e w' => Below w.heap.size w w' ∧ match (unhexG a).bind fun x => (unhexG b).map fun y => 16 * x + y with
      | some n => e = .returned (.tuple #[.int .u64 n, .nilIface])
      | none => ∃ T p, e = .returned (.tuple #[.int .u64 0, .iface T p]) := by
  obtain ⟨_, _, ⟨ev, he1, he2⟩, _⟩ := hE
  have hI := pu16_in (sOf [a, b]) (by rw [sOf_size]; rfl) w
  rw [show (sOf [a, b]).data.toList = [a, b] from rfl, p16_two] at hI
  obtain ⟨r, hr⟩ : ∃ r, r = (unhexG a).bind fun x => (unhexG b).map fun y => 16 * x + y := ⟨_, rfl⟩
  rw [← hr] at hI ⊢
  clear hr
  cases r with
  | some n =>
    have hI' : Calls Tryz.prog 170 #[.string (sOf [a, b]), .int .i64 16, .int .i64 8] w fun e w' => e = .returned (.tuple #[.int .u64 n, .nilIface]) ∧ w' = Lib.bytesWorld w 5 (sOf [a, b]) := hI
    clear hI
    go_enter Tryz.func122, Tryz.ntmps122
    go_wp2_with (go_at_call 170; refine hI'.mono ?_; rintro e w1 ⟨rfl, rfl⟩)
    go_ret2
    exact ⟨Lib.bytesWorld_below _ _ _, rfl⟩
  | none =>
    have hI' : Calls Tryz.prog 170 #[.string (sOf [a, b]), .int .i64 16, .int .i64 8] w fun e w' => e = .returned (.tuple #[.int .u64 0, .iface 311 (.int .i64 2)]) ∧ w' = Lib.bytesWorld w 5 (sOf [a, b]) := hI
    have hb := Lib.bytesWorld_below w 5 (sOf [a, b])
    have he3 := (hb.cell (cell_lt he1)).trans he1
    have HB := Lib.hid hb
    have HE3 := Lib.hid he3
    clear hI hb he3 he1
    go_enter Tryz.func122, Tryz.ntmps122
    go_wp2_with (go_at_call 170; refine hI'.mono ?_; rintro e w1 ⟨rfl, rfl⟩)
    refine (Tryz.strconv_toError_syntax ⟨#[80, 97, 114, 115, 101, 85, 105, 110, 116]⟩ (sOf [a, b]) 16 8 ev _ (by rw [sOf_size]; simp) HE3.out he2).mono ?_
    rintro e w2 ⟨N, rfl, _, _, hb2⟩
    go_wp2
    go_ret2
    exact ⟨HB.out.trans (hb2.mono HB.out.size), _, _, rfl⟩
end Go.Proofs.YtefccfakhgdfbabGreatDoor
end
